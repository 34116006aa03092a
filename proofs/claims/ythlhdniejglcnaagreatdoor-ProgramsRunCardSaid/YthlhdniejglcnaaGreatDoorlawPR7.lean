/- Texts of the proof, laid together: Ctx, SpStream, MathFrac, SpBase, SpList, SpShp, SpStr, PTap2, SpTapT, SpMap, SpTap1, SpBld, SpTap2, SpPath, PBits, SpWalk, SpLen, SpStrs, SpFind, SpLimD, SpLim, SpLotA, SpRecD, SpGenA, SpSome, SpGenL, SpRec, SpSortRec, SpCompact, SpGenR, PMerge, SpMrgA, SpSort, SpMrgB, SpMrgC, SpMrgD, PFin, SpTxt, SpFlt1, SpFlt2, SpVec1, SpVec2, SpFlt3, SpFlt4, SpFlt5, SpArg, SpFlt6, SpSortO, SpGenF. -/
import Derived.Test.YthlhdniejglcnaaGreatDoorlawPR6
set_option linter.all false
section
/- The functions together. -/
set_option linter.all false
set_option maxRecDepth 100000
namespace Go.Am
def fns:List (Nat × AFun):=[(kU,mY),(tP,rY),(uP,sY),(UF,xY),(FL,z0a),(mQ,YZ),(EL,ZZ),(qP,nY),(wP,BY),(mL,UY),(iJ,XY),(LP,WY),(KP,VY),(uL,rZ),(nJ,qZ),(tL,pZ),(rP,oY),(bF,uY),(AE,yY),(nE,tY),(JC,wY),(sP,qY),(sJ,z0g),(rJ,z0f),(qL,iZ),(SG,z0b),(jL,DY),(rL,lZ),(xP,CY),(OH,NY),(IP,RY),(MP,ZY),(jJ,YY),(DP,JY),(nL,fZ),(VF,cZ),(PH,aZ),(lQ,XZ),(qJ,WZ),(TG,z0e),(tG,yZ),(oJ,xZ),(RG,TY),(qQ,z0n),(hJ,pY),(RP,sZ),(HL,z0c),(IL,z0m),(oQ,z0j),(xF,zY),(NH,vY),(gL,dY),(SH,FZ),(aQ,JZ),(yL,CZ),(lJ,nZ),(JP,SY),(FP,OY),(pL,hZ),(kJ,bZ),(oL,gZ),(yP,EY),(zP,GY),(sG,eZ),(TF,fY),(nQ,z0d),(sQ,z0p),(UP,zZ),(NP,dZ),(iL,eY),(UH,z0i),(vG,z0k),(TH,z0h),(bQ,KZ),(YP,GZ),(SF,cY),(XP,EZ),(MH,lY),(vL,uZ),(GP,PY),(vP,AY),(xL,AZ),(sL,mZ),(HP,QY),(mJ,oZ),(AP,HY),(lL,MY),(bE,FY),(rQ,z0o),(pQ,z0l),(ZP,IZ),(cQ,LZ),(iQ,TZ),(dQ,MZ),(PP,kZ),(OP,jZ),(WP,DZ),(uG,RN),(VP,BZ),(SP,tZ),(TP,vZ),(BP,IY),(kL,KY),(EP,LY),(BL,OZ),(CL,ER),(jQ,UZ),(eQ,NZ),(pJ,RZ),(fQ,PZ),(DL,QZ),(pP,kY),(gQ,SZ),(kQ,VZ),(gU,gY),(iU,iY),(jU,jY)]
def GRL:List (Nat × Sh):=[]
def PRL:FG:=[(RH,uR),(wL,zQ),(PB,jR),(zL,trimS)]
def GLL:List (Nat × PV):=[(3,TW)]
def fnOf:List (Nat × AFun)→Nat→Option AFun
 | [],_=>none
 | (k,F)::r,n=>bif Nat.beq k n then some F else fnOf r n
def X:Ctx:=⟨fnOf fns,glOf GLL,oP gJ z8W,yF GRL PRL⟩
theorem z9j {p:Nat→AFun→Bool}:∀(l:List (Nat×AFun)),(l.all fun y=>p y.1 y.2)=true→∀n F,fnOf l n=some F→p n F=true
 | [],_,n,F,h=>by cases h
 | (k,G)::r,ha,n,F,h=>by
  simp only[List.all_cons,Bool.and_eq_true]at ha;simp only[fnOf]at h;cases hk:Nat.beq k n with
  | true=>
   rw[hk]at h;have:=Nat.eq_of_beq_eq_true hk;simp only[cond_true,Option.some.injEq]at h;subst this;subst h;exact ha.1
  | false=>
   rw[hk]at h;exact z9j r ha.2 n F h
theorem z6Y:X.NoNext:=fun f F h=>z9j (p:=fun _ F=>F.isDet||F.body.noNext) fns (by kernel_rfl) f F h
theorem zqP:X.fn kU=some mY:=by kernel_rfl
theorem zet {u0 v0:AV}{h h1:aA}{P:kA}(hp:oA h [u0]=some ([v0],h1)):bA X kU [u0] h P=(iO (bA X) X.gl [(0,v0)] h1 [] (mA [.t 2] false h.length P)).1:=by rw[tA zqP rfl hp rfl];exact zhg
theorem zqU:X.fn tP=some rY:=by kernel_rfl
theorem zey {u0 v0:AV}{h h1:aA}{P:kA}(hp:oA h [u0]=some ([v0],h1)):bA X tP [u0] h P=(gS (bA X) X.gl [(0,v0)] h1 [] (mA [.t 2] false h.length P)).1:=by rw[tA zqU rfl hp rfl];exact zhs
theorem zqV:X.fn uP=some sY:=by kernel_rfl
theorem zez {u0 u1 v0 v1:AV}{h h1:aA}{P:kA}(hp:oA h [u0,u1]=some ([v0,v1],h1)):bA X uP [u0,u1] h P=(iS (bA X) X.gl [(0,v0),(1,v1)] h1 [] (mA [.t 4] false h.length P)).1:=by rw[tA zqV rfl hp rfl];exact zht
theorem zra:X.fn UF=some xY:=by kernel_rfl
theorem ze3 {u0 u1 u2 v0 v1 v2:AV}{h h1:aA}{P:kA}(hp:oA h [u0,u1,u2]=some ([v0,v1,v2],h1)):bA X UF [u0,u1,u2] h P=(lS (bA X) X.gl [(0,v0),(1,v1),(2,v2)] h1 [] (mA [.t 6] false h.length P)).1:=by rw[tA zra rfl hp rfl];exact zh2
theorem zsr:X.fn FL=some z0a:=by kernel_rfl
theorem zfI {u0 u1 v0 v1:AV}{h h1:aA}{P:kA}(hp:oA h [u0,u1]=some ([v0,v1],h1)):bA X FL [u0,u1] h P=(WO (bA X) X.gl [(0,v0),(1,v1)] h1 [] (mA [.t 4,.t 5] false h.length P)).1:=by rw[tA zsr rfl hp rfl];exact zjK
theorem zsp:X.fn mQ=some YZ:=by kernel_rfl
theorem zfG {u0 u1 v0 v1:AV}{h h1:aA}{P:kA}(hp:oA h [u0,u1]=some ([v0,v1],h1)):bA X mQ [u0,u1] h P=(QO (bA X) X.gl [(0,v0),(1,v1)] h1 [] (mA [.t 4,.t 5,.t 6] false h.length P)).1:=by rw[tA zsp rfl hp rfl];exact zjH
theorem zsq:X.fn EL=some ZZ:=by kernel_rfl
theorem zfH {u0 u1 v0 v1:AV}{h h1:aA}{P:kA}(hp:oA h [u0,u1]=some ([v0,v1],h1)):bA X EL [u0,u1] h P=(SO (bA X) X.gl [(0,v0),(1,v1)] h1 [] (mA [.t 4,.t 5] false h.length P)).1:=by rw[tA zsq rfl hp rfl];exact zjJ
theorem zqQ:X.fn qP=some nY:=by kernel_rfl
theorem zeu {u0 v0:AV}{h h1:aA}{P:kA}(hp:oA h [u0]=some ([v0],h1)):bA X qP [u0] h P=(dS (bA X) X.gl [(0,v0)] h1 [] (mA [.t 2] false h.length P)).1:=by rw[tA zqQ rfl hp rfl];exact zhh
theorem zre:X.fn wP=some BY:=by kernel_rfl
theorem ze7 {u0 v0:AV}{h h1:aA}{P:kA}(hp:oA h [u0]=some ([v0],h1)):bA X wP [u0] h P=(zK (bA X) X.gl [(0,v0)] h1 [] (mA [.t 2] false h.length P)).1:=by rw[tA zre rfl hp rfl];exact zh8
theorem zrx:X.fn mL=some UY:=by kernel_rfl
theorem zeP {u0 v0:AV}{h h1:aA}{P:kA}(hp:oA h [u0]=some ([v0],h1)):bA X mL [u0] h P=(xO (bA X) X.gl [(0,v0)] h1 [] (mA [.t 2] false h.length P)).1:=by rw[tA zrx rfl hp rfl];exact zid
theorem zr0:X.fn iJ=some XY:=by kernel_rfl
theorem zeS {u0 u1 v0 v1:AV}{h h1:aA}{P:kA}(hp:oA h [u0,u1]=some ([v0,v1],h1)):bA X iJ [u0,u1] h P=(IS (bA X) X.gl [(0,v0),(1,v1)] h1 [] (mA [.t 4] false h.length P)).1:=by rw[tA zr0 rfl hp rfl];exact zij
theorem zrz:X.fn LP=some WY:=by kernel_rfl
theorem zeR {u0 u1 v0 v1:AV}{h h1:aA}{P:kA}(hp:oA h [u0,u1]=some ([v0,v1],h1)):bA X LP [u0,u1] h P=(FS (bA X) X.gl [(0,v0),(1,v1)] h1 [] (mA [.t 4] false h.length P)).1:=by rw[tA zrz rfl hp rfl];exact zii
theorem zry:X.fn KP=some VY:=by kernel_rfl
theorem zeQ {u0 u1 v0 v1:AV}{h h1:aA}{P:kA}(hp:oA h [u0,u1]=some ([v0,v1],h1)):bA X KP [u0,u1] h P=(DS (bA X) X.gl [(0,v0),(1,v1)] h1 [] (mA [.t 4,.t 5] false h.length P)).1:=by rw[tA zry rfl hp rfl];exact zig
theorem zrK:X.fn uL=some rZ:=by kernel_rfl
theorem zfl {u0 u1 v0 v1:AV}{h h1:aA}{P:kA}(hp:oA h [u0,u1]=some ([v0,v1],h1)):bA X uL [u0,u1] h P=(YS (bA X) X.gl [(0,v0),(1,v1)] h1 [] (mA [.t 4] false h.length P)).1:=by rw[tA zrK rfl hp rfl];exact ziP
theorem zrJ:X.fn nJ=some qZ:=by kernel_rfl
theorem zfk {u0 u1 v0 v1:AV}{h h1:aA}{P:kA}(hp:oA h [u0,u1]=some ([v0,v1],h1)):bA X nJ [u0,u1] h P=(FO (bA X) X.gl [(0,v0),(1,v1)] h1 [] (mA [.t 4] false h.length P)).1:=by rw[tA zrJ rfl hp rfl];exact ziM
theorem zrI:X.fn tL=some pZ:=by kernel_rfl
theorem zfj {u0 u1 v0 v1:AV}{h h1:aA}{P:kA}(hp:oA h [u0,u1]=some ([v0,v1],h1)):bA X tL [u0,u1] h P=(EO (bA X) X.gl [(0,v0),(1,v1)] h1 [] (mA [.t 4] false h.length P)).1:=by rw[tA zrI rfl hp rfl];exact ziJ
theorem zqR:X.fn rP=some oY:=by kernel_rfl
theorem zev {h h1:aA}{P:kA}(hp:oA h []=some ([],h1)):bA X rP [] h P=(eS (bA X) X.gl [] h1 [] (mA [.t 0] false h.length P)).1:=by rw[tA zqR rfl hp rfl];exact zhk
theorem zqX:X.fn bF=some uY:=by kernel_rfl
theorem ze1 {u0 u1 v0 v1:AV}{h h1:aA}{P:kA}(hp:oA h [u0,u1]=some ([v0,v1],h1)):bA X bF [u0,u1] h P=(jO (bA X) X.gl [(0,v0),(1,v1)] h1 [] (mA [.t 4] false h.length P)).1:=by rw[tA zqX rfl hp rfl];exact zhz
theorem zrb:X.fn AE=some yY:=by kernel_rfl
theorem ze4 {u0 u1 v0 v1:AV}{h h1:aA}{P:kA}(hp:oA h [u0,u1]=some ([v0,v1],h1)):bA X AE [u0,u1] h P=(nS (bA X) X.gl [(0,v0),(1,v1)] h1 [] (mA [.t 4] false h.length P)).1:=by rw[tA zrb rfl hp rfl];exact zh3
theorem zqW:X.fn nE=some tY:=by kernel_rfl
theorem ze0 {u0 u1 v0 v1:AV}{h h1:aA}{P:kA}(hp:oA h [u0,u1]=some ([v0,v1],h1)):bA X nE [u0,u1] h P=(jS (bA X) X.gl [(0,v0),(1,v1)] h1 [] (mA [.t 4] false h.length P)).1:=by rw[tA zqW rfl hp rfl];exact zhy
theorem zqZ:X.fn JC=some wY:=by kernel_rfl
theorem ze2 {u0 u1 v0 v1:AV}{h h1:aA}{P:kA}(hp:oA h [u0,u1]=some ([v0,v1],h1)):bA X JC [u0,u1] h P=(kS (bA X) X.gl [(0,v0),(1,v1)] h1 [] (mA [.t 4] false h.length P)).1:=by rw[tA zqZ rfl hp rfl];exact zh1
theorem zqT:X.fn sP=some qY:=by kernel_rfl
theorem zex {u0 v0:AV}{h h1:aA}{P:kA}(hp:oA h [u0]=some ([v0],h1)):bA X sP [u0] h P=tF (bA X) X.gl WU XU v0 h1 [] (mA [.cell 2 (some 6)] false h.length P):=by rw[tA zqT rfl hp rfl];exact zhn
theorem zsx:X.fn sJ=some z0g:=by kernel_rfl
theorem zfN {u0 u1 v0 v1:AV}{h h1:aA}{P:kA}(hp:oA h [u0,u1]=some ([v0,v1],h1)):bA X sJ [u0,u1] h P=(IT (bA X) X.gl [(0,v0),(1,v1)] h1 [] (mA [.t 4] false h.length P)).1:=by rw[tA zsx rfl hp rfl];exact zjT
theorem zsw:X.fn rJ=some z0f:=by kernel_rfl
theorem zfM {u0 u1 v0 v1:AV}{h h1:aA}{P:kA}(hp:oA h [u0,u1]=some ([v0,v1],h1)):bA X rJ [u0,u1] h P=(GT (bA X) X.gl [(0,v0),(1,v1)] h1 [] (mA [.t 4] false h.length P)).1:=by rw[tA zsw rfl hp rfl];exact zjS
theorem zrB:X.fn qL=some iZ:=by kernel_rfl
theorem zfc {u0 v0:AV}{h h1:aA}{P:kA}(hp:oA h [u0]=some ([v0],h1)):bA X qL [u0] h P = ∃v h' x,P v h' x∧(RS (bA X) X.gl [(0,v0)] h1 [] (mA [.t 2] true h.length fun v1 h1 x1=>v1=v∧h1=h'∧x1=x)).1:=by rw[XN zrB rfl hp rfl];exact fU fun v h' x=>congrArg (And (P v h' x)) ziC
theorem zss:X.fn SG=some z0b:=by kernel_rfl
theorem zfJ {u0 v0:AV}{h h1:aA}{P:kA}(hp:oA h [u0]=some ([v0],h1)):bA X SG [u0] h P=(VK (bA X) X.gl [(0,v0)] h1 [] (mA [.t 2] false h.length P)).1:=by rw[tA zss rfl hp rfl];exact zjL
theorem zrg:X.fn jL=some DY:=by kernel_rfl
theorem ze9 {u0 v0:AV}{h h1:aA}{P:kA}(hp:oA h [u0]=some ([v0],h1)):bA X jL [u0] h P=(XI (bA X) X.gl [(0,v0)] h1 [] (mA [.t 2] false h.length P)).1:=by rw[tA zrg rfl hp rfl];exact zhA
theorem zrE:X.fn rL=some lZ:=by kernel_rfl
theorem zff {u0 u1 h P}:bA X rL [u0,u1] h P=(US (bA X) X.gl [(0,u0),(1,u1)] h [] (mA [.t 4] false h.length P)).1:=by rw[uH zrE rfl rfl];exact ziF
theorem zrf:X.fn xP=some CY:=by kernel_rfl
theorem ze8 {u0 u1 v0 v1:AV}{h h1:aA}{P:kA}(hp:oA h [u0,u1]=some ([v0,v1],h1)):bA X xP [u0,u1] h P=(qS (bA X) X.gl [(0,v0),(1,v1)] h1 [] (mA [.t 3] false h.length P)).1:=by rw[tA zrf rfl hp rfl];exact zh9
theorem zrq:X.fn OH=some NY:=by kernel_rfl
theorem zeI {u0 u1 u2 v0 v1 v2:AV}{h h1:aA}{P:kA}(hp:oA h [u0,u1,u2]=some ([v0,v1,v2],h1)):bA X OH [u0,u1,u2] h P=(xS (bA X) X.gl [(0,v0),(1,v1),(2,v2)] h1 [] (mA [.t 6] false h.length P)).1:=by rw[tA zrq rfl hp rfl];exact zhW
theorem zru:X.fn IP=some RY:=by kernel_rfl
theorem zeM {u0 v0:AV}{h h1:aA}{P:kA}(hp:oA h [u0]=some ([v0],h1)):bA X IP [u0] h P=(MK (bA X) X.gl [(0,v0)] h1 [] (mA [.t 2] false h.length P)).1:=by rw[tA zru rfl hp rfl];exact zia
theorem zr2:X.fn MP=some ZY:=by kernel_rfl
theorem zeU {u0 v0:AV}{h h1:aA}{P:kA}(hp:oA h [u0]=some ([v0],h1)):bA X MP [u0] h P=aE (bA X) X.gl JV KV v0 h1 [] (mA [.t 2] false h.length P):=by rw[tA zr2 rfl hp rfl];exact zio
theorem zr1:X.fn jJ=some YY:=by kernel_rfl
theorem zeT {u0 v0:AV}{h h1:aA}{P:kA}(hp:oA h [u0]=some ([v0],h1)):bA X jJ [u0] h P=(KS (bA X) X.gl [(0,v0)] h1 [] (mA [.t 2,.t 3,.t 4] false h.length P)).1:=by rw[tA zr1 rfl hp rfl];exact zil
theorem zrm:X.fn DP=some JY:=by kernel_rfl
theorem zeE {u0 u1 u2 v0 v1 v2:AV}{h h1:aA}{P:kA}(hp:oA h [u0,u1,u2]=some ([v0,v1,v2],h1)):bA X DP [u0,u1,u2] h P=(tS (bA X) X.gl [(0,v0),(1,v1),(2,v2)] h1 [] (mA [.t 6] false h.length P)).1:=by rw[tA zrm rfl hp rfl];exact zhL
theorem zr8:X.fn nL=some fZ:=by kernel_rfl
theorem zeZ {u0 v0:AV}{h h1:aA}{P:kA}(hp:oA h [u0]=some ([v0],h1)):bA X nL [u0] h P=(PS (bA X) X.gl [(0,v0)] h1 [] (mA [.t 2] false h.length P)).1:=by rw[tA zr8 rfl hp rfl];exact zi7
theorem zr5:X.fn VF=some cZ:=by kernel_rfl
theorem zeX {u0 v0:AV}{h h1:aA}{P:kA}(hp:oA h [u0]=some ([v0],h1)):bA X VF [u0] h P=(NS (bA X) X.gl [(0,v0)] h1 [] (mA [.t 2] false h.length P)).1:=by rw[tA zr5 rfl hp rfl];exact ziz
theorem zr3:X.fn PH=some aZ:=by kernel_rfl
theorem zeV {u0 v0:AV}{h h1:aA}{P:kA}(hp:oA h [u0]=some ([v0],h1)):bA X PH [u0] h P=(LS (bA X) X.gl [(0,v0)] h1 [] (mA [.t 2] false h.length P)).1:=by rw[tA zr3 rfl hp rfl];exact ziu
theorem zso:X.fn lQ=some XZ:=by kernel_rfl
theorem zfF {u0 v0:AV}{h h1:aA}{P:kA}(hp:oA h [u0]=some ([v0],h1)):bA X lQ [u0] h P=(PO (bA X) X.gl [(0,v0)] h1 [] (mA [.t 2,.t 3] false h.length P)).1:=by rw[tA zso rfl hp rfl];exact zjG
theorem zsn:X.fn qJ=some WZ:=by kernel_rfl
theorem zfE {u0 v0:AV}{h h1:aA}{P:kA}(hp:oA h [u0]=some ([v0],h1)):bA X qJ [u0] h P=(OO (bA X) X.gl [(0,v0)] h1 [] (mA [.t 2] false h.length P)).1:=by rw[tA zsn rfl hp rfl];exact zjD
theorem zsv:X.fn TG=some z0e:=by kernel_rfl
theorem z7K {u0 u1 v0 v1:AV}{h h1:aA}{P:kA}(hp:oA h [u0,u1]=some ([v0,v1],h1)):bA X TG [u0,u1] h P=(XO (bA X) X.gl [(0,v0),(1,v1)] h1 [] (mA [.t 4] false h.length P)).1:=by rw[tA zsv rfl hp rfl];exact zjP
theorem zrQ:X.fn tG=some yZ:=by kernel_rfl
theorem zfr {u0 u1 v0 v1:AV}{h h1:aA}{P:kA}(hp:oA h [u0,u1]=some ([v0,v1],h1)):bA X tG [u0,u1] h P=(gT (bA X) X.gl [(0,v0),(1,v1)] h1 [] (mA [.t 4,.t 5] false h.length P)).1:=by rw[tA zrQ rfl hp rfl];exact zjf
theorem zrP:X.fn oJ=some xZ:=by kernel_rfl
theorem zfq {u0 v0:AV}{h h1:aA}{P:kA}(hp:oA h [u0]=some ([v0],h1)):bA X oJ [u0] h P=(GO (bA X) X.gl [(0,v0)] h1 [] (mA [.t 2] false h.length P)).1:=by rw[tA zrP rfl hp rfl];exact zje
theorem zrw:X.fn RG=some TY:=by kernel_rfl
theorem zeO {u0 v0:AV}{h h1:aA}{P:kA}(hp:oA h [u0]=some ([v0],h1)):bA X RG [u0] h P=(CS (bA X) X.gl [(0,v0)] h1 [] (mA [.t 2] false h.length P)).1:=by rw[tA zrw rfl hp rfl];exact zic
theorem zs4:X.fn qQ=some z0n:=by kernel_rfl
theorem zfT {u0 v0:AV}{h h1:aA}{P:kA}(hp:oA h [u0]=some ([v0],h1)):bA X qQ [u0] h P=(LT (bA X) X.gl [(0,v0)] h1 [] (mA [.t 2] false h.length P)).1:=by rw[tA zs4 rfl hp rfl];exact zkl
theorem zqS:X.fn hJ=some pY:=by kernel_rfl
theorem zew {u0 u1 v0 v1:AV}{h h1:aA}{P:kA}(hp:oA h [u0,u1]=some ([v0,v1],h1)):bA X hJ [u0,u1] h P=(fS (bA X) X.gl [(0,v0),(1,v1)] h1 [] (mA [.t 4] false h.length P)).1:=by rw[tA zqS rfl hp rfl];exact zhl
theorem zrL:X.fn RP=some sZ:=by kernel_rfl
theorem zfm {u0 u1 h P}:bA X RP [u0,u1] h P=(ZS (bA X) X.gl [(0,u0),(1,u1)] h [] (mA [.t 4] false h.length P)).1:=by rw[uH zrL rfl rfl];exact ziS
theorem zst:X.fn HL=some z0c:=by kernel_rfl
theorem zfK {u0 v0:AV}{h h1:aA}{P:kA}(hp:oA h [u0]=some ([v0],h1)):bA X HL [u0] h P=(WK (bA X) X.gl [(0,v0)] h1 [] (mA [.t 2] false h.length P)).1:=by rw[tA zst rfl hp rfl];exact zjM
theorem zs3:X.fn IL=some z0m:=by kernel_rfl
theorem zfS {u0 u1 v0 v1:AV}{h h1:aA}{P:kA}(hp:oA h [u0,u1]=some ([v0,v1],h1)):bA X IL [u0,u1] h P=(MG (bA X) X.gl [(0,v0),(1,v1)] h1 [] (mA [.t 4] false h.length P)).1:=by rw[tA zs3 rfl hp rfl];exact zkk
theorem zs0:X.fn oQ=some z0j:=by kernel_rfl
theorem zfP {u0 u1 v0 v1:AV}{h h1:aA}{P:kA}(hp:oA h [u0,u1]=some ([v0,v1],h1)):bA X oQ [u0,u1] h P=XE (bA X) X.gl MJ UQ v0 v1 h1 [] (mA [] false h.length P):=by rw[tA zs0 rfl hp rfl];exact zkd
theorem zrc:X.fn xF=some zY:=by kernel_rfl
theorem ze5 {u0 u1 v0 v1:AV}{h h1:aA}{P:kA}(hp:oA h [u0,u1]=some ([v0,v1],h1)):bA X xF [u0,u1] h P=(oS (bA X) X.gl [(0,v0),(1,v1)] h1 [] (mA [.t 4] false h.length P)).1:=by rw[tA zrc rfl hp rfl];exact zh4
theorem zqY:X.fn NH=some vY:=by kernel_rfl
theorem z7I {u0 u1 u2 v0 v1 v2:AV}{h h1:aA}{P:kA}(hp:oA h [u0,u1,u2]=some ([v0,v1,v2],h1)):bA X NH [u0,u1,u2] h P=(lO (bA X) X.gl [(0,v0),(1,v1),(2,v2)] h1 [] (mA [.t 6] false h.length P)).1:=by rw[tA zqY rfl hp rfl];exact zh0
theorem zqH:X.fn gL=some dY:=by kernel_rfl
theorem zep {u0 v0:AV}{h h1:aA}{P:kA}(hp:oA h [u0]=some ([v0],h1)):bA X gL [u0] h P=(ZR (bA X) X.gl [(0,v0)] h1 [] (mA [.t 2] false h.length P)).1:=by rw[tA zqH rfl hp rfl];exact zgH
theorem zrX:X.fn SH=some FZ:=by kernel_rfl
theorem zfy {u0 v0:AV}{h h1:aA}{P:kA}(hp:oA h [u0]=some ([v0],h1)):bA X SH [u0] h P=(PK (bA X) X.gl [(0,v0)] h1 [] (mA [.t 2] false h.length P)).1:=by rw[tA zrX rfl hp rfl];exact zjn
theorem zsa:X.fn aQ=some JZ:=by kernel_rfl
theorem zf1 {u0 u1 u2 v0 v1 v2:AV}{h h1:aA}{P:kA}(hp:oA h [u0,u1,u2]=some ([v0,v1,v2],h1)):bA X aQ [u0,u1,u2] h P=(qT (bA X) X.gl [(0,v0),(1,v1),(2,v2)] h1 [] (mA [.t 6,.t 7] false h.length P)).1:=by rw[tA zsa rfl hp rfl];exact zjq
theorem zrU:X.fn yL=some CZ:=by kernel_rfl
theorem zfv {u0 u1 v0 v1:AV}{h h1:aA}{P:kA}(hp:oA h [u0,u1]=some ([v0,v1],h1)):bA X yL [u0,u1] h P=(kT (bA X) X.gl [(0,v0),(1,v1)] h1 [] (mA [.t 4] false h.length P)).1:=by rw[tA zrU rfl hp rfl];exact zjj
theorem zrG:X.fn lJ=some nZ:=by kernel_rfl
theorem zfh {u0 u1 h P}:bA X lJ [u0,u1] h P=(WS (bA X) X.gl [(0,u0),(1,u1)] h [] (mA [.t 4] false h.length P)).1:=by rw[uH zrG rfl rfl];exact ziH
theorem zrv:X.fn JP=some SY:=by kernel_rfl
theorem zeN {u0 u1 v0 v1:AV}{h h1:aA}{P:kA}(hp:oA h [u0,u1]=some ([v0,v1],h1)):bA X JP [u0,u1] h P=(BS (bA X) X.gl [(0,v0),(1,v1)] h1 [] (mA [.t 3] false h.length P)).1:=by rw[tA zrv rfl hp rfl];exact zib
theorem zrr:X.fn FP=some OY:=by kernel_rfl
theorem zeJ {u0 u1 v0 v1:AV}{h h1:aA}{P:kA}(hp:oA h [u0,u1]=some ([v0,v1],h1)):bA X FP [u0,u1] h P=(VE (bA X) X.gl [(0,v0),(1,v1)] h1 [] (mA [.t 4] false h.length P)).1:=by rw[tA zrr rfl hp rfl];exact zhX
theorem zrA:X.fn pL=some hZ:=by kernel_rfl
theorem zfb {u0 v0:AV}{h h1:aA}{P:kA}(hp:oA h [u0]=some ([v0],h1)):bA X pL [u0] h P=(QS (bA X) X.gl [(0,v0)] h1 [] (mA [.t 2] false h.length P)).1:=by rw[tA zrA rfl hp rfl];exact ziB
theorem zr4:X.fn kJ=some bZ:=by kernel_rfl
theorem zeW {u0 u1 u2 v0 v1 v2:AV}{h h1:aA}{P:kA}(hp:oA h [u0,u1,u2]=some ([v0,v1,v2],h1)):bA X kJ [u0,u1,u2] h P=(MS (bA X) X.gl [(0,v0),(1,v1),(2,v2)] h1 [] (mA [.t 6] false h.length P)).1:=by rw[tA zr4 rfl hp rfl];exact ziy
theorem zr9:X.fn oL=some gZ:=by kernel_rfl
theorem zfa {u0 v0:AV}{h h1:aA}{P:kA}(hp:oA h [u0]=some ([v0],h1)):bA X oL [u0] h P=(vE (bA X) X.gl [(0,v0)] h1 [] (mA [.t 2] false h.length P)).1:=by rw[tA zr9 rfl hp rfl];exact ziA
theorem zrh:X.fn yP=some EY:=by kernel_rfl
theorem zeA {u0 v0:AV}{h h1:aA}{P:kA}(hp:oA h [u0]=some ([v0],h1)):bA X yP [u0] h P=(rS (bA X) X.gl [(0,v0)] h1 [] (mA [.t 2] false h.length P)).1:=by rw[tA zrh rfl hp rfl];exact zhB
theorem zrj:X.fn zP=some GY:=by kernel_rfl
theorem z7J {u0 u1 u2 v0 v1 v2:AV}{h h1:aA}{P:kA}(hp:oA h [u0,u1,u2]=some ([v0,v1,v2],h1)):bA X zP [u0,u1,u2] h P=(CK (bA X) X.gl [(0,v0),(1,v1),(2,v2)] h1 [] (mA [.t 6] false h.length P)).1:=by rw[tA zrj rfl hp rfl];exact zhI
theorem zr7:X.fn sG=some eZ:=by kernel_rfl
theorem WN {u0 u1 u2 v0 v1 v2:AV}{h h1:aA}{P:kA}(hp:oA h [u0,u1,u2]=some ([v0,v1,v2],h1)):bA X sG [u0,u1,u2] h P=DH (bA X) X.gl QV SV v0 v1 v2 h1 [] (mA [.cell 6 (some 5)] false h.length P):=by rw[tA zr7 rfl hp rfl];exact zi3
theorem zqJ:X.fn TF=some fY:=by kernel_rfl
theorem zer {u0 u1 u2 v0 v1 v2:AV}{h h1:aA}{P:kA}(hp:oA h [u0,u1,u2]=some ([v0,v1,v2],h1)):bA X TF [u0,u1,u2] h P=(aS (bA X) X.gl [(0,v0),(1,v1),(2,v2)] h1 [] (mA [.t 6] false h.length P)).1:=by rw[tA zqJ rfl hp rfl];exact zgN
theorem zsu:X.fn nQ=some z0d:=by kernel_rfl
theorem zfL {u0 v0:AV}{h h1:aA}{P:kA}(hp:oA h [u0]=some ([v0],h1)):bA X nQ [u0] h P=(yE (bA X) X.gl [(0,v0)] h1 [] (mA [.cell 2 (some 6),.t 3] false h.length P)).1:=by rw[tA zsu rfl hp rfl];exact zjN
theorem zs6:X.fn sQ=some z0p:=by kernel_rfl
theorem zfV {h h1:aA}{P:kA}(hp:oA h []=some ([],h1)):bA X sQ [] h P=(MT (bA X) X.gl [] h1 [] (mA [.cell 0 (some 36)] false h.length P)).1:=by rw[tA zs6 rfl hp rfl];exact zkn
theorem zrR:X.fn UP=some zZ:=by kernel_rfl
theorem zfs {u0 v0:AV}{h h1:aA}{P:kA}(hp:oA h [u0]=some ([v0],h1)):bA X UP [u0] h P=(HO (bA X) X.gl [(0,v0)] h1 [] (mA [] false h.length P)).1:=by rw[tA zrR rfl hp rfl];exact zjg
theorem zr6:X.fn NP=some dZ:=by kernel_rfl
theorem zeY {u0 u1 v0 v1:AV}{h h1:aA}{P:kA}(hp:oA h [u0,u1]=some ([v0,v1],h1)):bA X NP [u0,u1] h P=(OS (bA X) X.gl [(0,v0),(1,v1)] h1 [] (mA [.t 4] false h.length P)).1:=by rw[tA zr6 rfl hp rfl];exact zi0
theorem zqI:X.fn iL=some eY:=by kernel_rfl
theorem zeq {u0 v0:AV}{h h1:aA}{P:kA}(hp:oA h [u0]=some ([v0],h1)):bA X iL [u0] h P=(zH (bA X) X.gl [(0,v0)] h1 [] (mA [.t 2] false h.length P)).1:=by rw[tA zqI rfl hp rfl];exact zgK
theorem zsz:X.fn UH=some z0i:=by kernel_rfl
theorem z7L {u0 u1 v0 v1:AV}{h h1:aA}{P:kA}(hp:oA h [u0,u1]=some ([v0,v1],h1)):bA X UH [u0,u1] h P=(bP (bA X) X.gl [(0,v0),(1,v1)] h1 [] (mA [.t 4] false h.length P)).1:=by rw[tA zsz rfl hp rfl];exact zjV
theorem zs1:X.fn vG=some z0k:=by kernel_rfl
theorem zfQ {u0 u1 v0 v1:AV}{h h1:aA}{P:kA}(hp:oA h [u0,u1]=some ([v0,v1],h1)):bA X vG [u0,u1] h P=(JT (bA X) X.gl [(0,v0),(1,v1)] h1 [] (mA [] false h.length P)).1:=by rw[tA zs1 rfl hp rfl];exact zkg
theorem zsy:X.fn TH=some z0h:=by kernel_rfl
theorem zfO {u0 u1 u2 u3 v0 v1 v2 v3:AV}{h h1:aA}{P:kA}(hp:oA h [u0,u1,u2,u3]=some ([v0,v1,v2,v3],h1)):bA X TH [u0,u1,u2,u3] h P=(aP (bA X) X.gl [(0,v0),(1,v1),(2,v2),(3,v3)] h1 [] (mA [] false h.length P)).1:=by rw[tA zsy rfl hp rfl];exact zjU
theorem zsb:X.fn bQ=some KZ:=by kernel_rfl
theorem zf2 {u0 u1 v0 v1:AV}{h h1:aA}{P:kA}(hp:oA h [u0,u1]=some ([v0,v1],h1)):bA X bQ [u0,u1] h P=(xE (bA X) X.gl [(0,v0),(1,v1)] h1 [] (mA [.t 4] false h.length P)).1:=by rw[tA zsb rfl hp rfl];exact zjt
theorem zrY:X.fn YP=some GZ:=by kernel_rfl
theorem zfz {u0 v0:AV}{h h1:aA}{P:kA}(hp:oA h [u0]=some ([v0],h1)):bA X YP [u0] h P=(oT (bA X) X.gl [(0,v0)] h1 [] (mA [.t 2,.t 3] false h.length P)).1:=by rw[tA zrY rfl hp rfl];exact zjo
theorem zqG:X.fn SF=some cY:=by kernel_rfl
theorem zeo {u0 v0:AV}{h h1:aA}{P:kA}(hp:oA h [u0]=some ([v0],h1)):bA X SF [u0] h P=(YR (bA X) X.gl [(0,v0)] h1 [] (mA [.t 2] false h.length P)).1:=by rw[tA zqG rfl hp rfl];exact zgG
theorem zrW:X.fn XP=some EZ:=by kernel_rfl
theorem zfx {u0 u1 u2 v0 v1 v2:AV}{h h1:aA}{P:kA}(hp:oA h [u0,u1,u2]=some ([v0,v1,v2],h1)):bA X XP [u0,u1,u2] h P=(mT (bA X) X.gl [(0,v0),(1,v1),(2,v2)] h1 [] (mA [.t 6] false h.length P)).1:=by rw[tA zrW rfl hp rfl];exact zjl
theorem zqO:X.fn MH=some lY:=by kernel_rfl
theorem z7H {u0 u1 v0 v1:AV}{h h1:aA}{P:kA}(hp:oA h [u0,u1]=some ([v0,v1],h1)):bA X MH [u0,u1] h P=(fO (bA X) X.gl [(0,v0),(1,v1)] h1 [] (mA [.t 4] false h.length P)).1:=by rw[tA zqO rfl hp rfl];exact zhf
theorem zrN:X.fn vL=some uZ:=by kernel_rfl
theorem zfo {u0 u1 h P}:bA X vL [u0,u1] h P=(bT (bA X) X.gl [(0,u0),(1,u1)] h [] (mA [.t 4] false h.length P)).1:=by rw[uH zrN rfl rfl];exact ziY
theorem zrs:X.fn GP=some PY:=by kernel_rfl
theorem zeK {u0 u1 v0 v1:AV}{h h1:aA}{P:kA}(hp:oA h [u0,u1]=some ([v0,v1],h1)):bA X GP [u0,u1] h P=(yS (bA X) X.gl [(0,v0),(1,v1)] h1 [] (mA [.t 3] false h.length P)).1:=by rw[tA zrs rfl hp rfl];exact zhY
theorem zrd:X.fn vP=some AY:=by kernel_rfl
theorem ze6 {u0 v0:AV}{h h1:aA}{P:kA}(hp:oA h [u0]=some ([v0],h1)):bA X vP [u0] h P=(mO (bA X) X.gl [(0,v0)] h1 [] (mA [.t 2] false h.length P)).1:=by rw[tA zrd rfl hp rfl];exact zh7
theorem zrS:X.fn xL=some AZ:=by kernel_rfl
theorem zft {u0 u1 v0 v1:AV}{h h1:aA}{P:kA}(hp:oA h [u0,u1]=some ([v0,v1],h1)):bA X xL [u0,u1] h P=(iT (bA X) X.gl [(0,v0),(1,v1)] h1 [] (mA [.t 4] false h.length P)).1:=by rw[tA zrS rfl hp rfl];exact zjh
theorem zrF:X.fn sL=some mZ:=by kernel_rfl
theorem zfg {u0 u1 h P}:bA X sL [u0,u1] h P=(VS (bA X) X.gl [(0,u0),(1,u1)] h [] (mA [.t 4] false h.length P)).1:=by rw[uH zrF rfl rfl];exact ziG
theorem zrt:X.fn HP=some QY:=by kernel_rfl
theorem zeL {u0 u1 v0 v1:AV}{h h1:aA}{P:kA}(hp:oA h [u0,u1]=some ([v0,v1],h1)):bA X HP [u0,u1] h P=(zS (bA X) X.gl [(0,v0),(1,v1)] h1 [] (mA [.t 3] false h.length P)).1:=by rw[tA zrt rfl hp rfl];exact zhZ
theorem zrH:X.fn mJ=some oZ:=by kernel_rfl
theorem zfi {u0 u1 h P}:bA X mJ [u0,u1] h P=(XS (bA X) X.gl [(0,u0),(1,u1)] h [] (mA [.t 4] false h.length P)).1:=by rw[uH zrH rfl rfl];exact ziI
theorem zrk:X.fn AP=some HY:=by kernel_rfl
theorem zeC {u0 u1 v0 v1:AV}{h h1:aA}{P:kA}(hp:oA h [u0,u1]=some ([v0,v1],h1)):bA X AP [u0,u1] h P=(nG (bA X) X.gl [(0,v0),(1,v1)] h1 [] (mA [] false h.length P)).1:=by rw[tA zrk rfl hp rfl];exact zhJ
theorem zrp:X.fn lL=some MY:=by kernel_rfl
theorem zeH {u0 u1 v0 v1:AV}{h h1:aA}{P:kA}(hp:oA h [u0,u1]=some ([v0,v1],h1)):bA X lL [u0,u1] h P=(vS (bA X) X.gl [(0,v0),(1,v1)] h1 [] (mA [.t 4] false h.length P)).1:=by rw[tA zrp rfl hp rfl];exact zhV
theorem zri:X.fn bE=some FY:=by kernel_rfl
theorem zeB {u0 u1 v0 v1:AV}{h h1:aA}{P:kA}(hp:oA h [u0,u1]=some ([v0,v1],h1)):bA X bE [u0,u1] h P=(sS (bA X) X.gl [(0,v0),(1,v1)] h1 [] (mA [.t 4] false h.length P)).1:=by rw[tA zri rfl hp rfl];exact zhC
theorem zs5:X.fn rQ=some z0o:=by kernel_rfl
theorem zfU {u0 v0:AV}{h h1:aA}{P:kA}(hp:oA h [u0]=some ([v0],h1)):bA X rQ [u0] h P=(GH (bA X) X.gl [(0,v0)] h1 [] (mA [.t 2] false h.length P)).1:=by rw[tA zs5 rfl hp rfl];exact zkm
theorem zs2:X.fn pQ=some z0l:=by kernel_rfl
theorem zfR {u0 v0:AV}{h h1:aA}{P:kA}(hp:oA h [u0]=some ([v0],h1)):bA X pQ [u0] h P=(zE (bA X) X.gl [(0,v0)] h1 [] (mA [.t 2] false h.length P)).1:=by rw[tA zs2 rfl hp rfl];exact zkj
theorem zrZ:X.fn ZP=some IZ:=by kernel_rfl
theorem zf0 {u0 u1 v0 v1:AV}{h h1:aA}{P:kA}(hp:oA h [u0,u1]=some ([v0,v1],h1)):bA X ZP [u0,u1] h P=(pT (bA X) X.gl [(0,v0),(1,v1)] h1 [] (mA [.t 4,.t 5] false h.length P)).1:=by rw[tA zrZ rfl hp rfl];exact zjp
theorem zsc:X.fn cQ=some LZ:=by kernel_rfl
theorem zf3 {u0 u1 v0 v1:AV}{h h1:aA}{P:kA}(hp:oA h [u0,u1]=some ([v0,v1],h1)):bA X cQ [u0,u1] h P=(rT (bA X) X.gl [(0,v0),(1,v1)] h1 [] (mA [.t 3] false h.length P)).1:=by rw[tA zsc rfl hp rfl];exact zju
theorem zsk:X.fn iQ=some TZ:=by kernel_rfl
theorem zfB {u0 v0:AV}{h h1:aA}{P:kA}(hp:oA h [u0]=some ([v0],h1)):bA X iQ [u0] h P=(AT (bA X) X.gl [(0,v0)] h1 [] (mA [.t 2] false h.length P)).1:=by rw[tA zsk rfl hp rfl];exact zj8
theorem zsd:X.fn dQ=some MZ:=by kernel_rfl
theorem zf4 {u0 v0:AV}{h h1:aA}{P:kA}(hp:oA h [u0]=some ([v0],h1)):bA X dQ [u0] h P=(tT (bA X) X.gl [(0,v0)] h1 [] (mA [.t 2] false h.length P)).1:=by rw[tA zsd rfl hp rfl];exact zjv
theorem zrD:X.fn PP=some kZ:=by kernel_rfl
theorem zfe {u0 v0:AV}{h h1:aA}{P:kA}(hp:oA h [u0]=some ([v0],h1)):bA X PP [u0] h P = ∃v h' x,P v h' x∧(TS (bA X) X.gl [(0,v0)] h1 [] (mA [.t 2] false h.length fun v1 h1 x1=>v1=v∧h1=h'∧x1=x)).1:=by rw[XN zrD rfl hp rfl];exact fU fun v h' x=>congrArg (And (P v h' x)) ziE
theorem zrC:X.fn OP=some jZ:=by kernel_rfl
theorem zfd {u0 v0:AV}{h h1:aA}{P:kA}(hp:oA h [u0]=some ([v0],h1)):bA X OP [u0] h P = ∃v h' x,P v h' x∧(SS (bA X) X.gl [(0,v0)] h1 [] (mA [.t 2] false h.length fun v1 h1 x1=>v1=v∧h1=h'∧x1=x)).1:=by rw[XN zrC rfl hp rfl];exact fU fun v h' x=>congrArg (And (P v h' x)) ziD
theorem zrV:X.fn WP=some DZ:=by kernel_rfl
theorem zfw {u0 u1 u2 v0 v1 v2:AV}{h h1:aA}{P:kA}(hp:oA h [u0,u1,u2]=some ([v0,v1,v2],h1)):bA X WP [u0,u1,u2] h P=(WE (bA X) X.gl [(0,v0),(1,v1),(2,v2)] h1 [] (mA [.t 6] false h.length P)).1:=by rw[tA zrV rfl hp rfl];exact zjk
theorem zc4:X.fn uG=some RN:=by kernel_rfl
theorem c_q0aw {u0 u1 v0 v1:AV}{h h1:aA}{P:kA}(hp:oA h [u0,u1]=some ([v0,v1],h1)):bA X uG [u0,u1] h P=yT (bA X) X.gl v0 v1 h1 [] (mA [.t 4] false h.length P):=by rw[tA zc4 rfl hp rfl];exact z8C
theorem zrT:X.fn VP=some BZ:=by kernel_rfl
theorem zfu {u0 u1 v0 v1:AV}{h h1:aA}{P:kA}(hp:oA h [u0,u1]=some ([v0,v1],h1)):bA X VP [u0,u1] h P=(jT (bA X) X.gl [(0,v0),(1,v1)] h1 [] (mA [.t 4] false h.length P)).1:=by rw[tA zrT rfl hp rfl];exact zji
theorem zrM:X.fn SP=some tZ:=by kernel_rfl
theorem zfn {u0 u1 h P}:bA X SP [u0,u1] h P=(aT (bA X) X.gl [(0,u0),(1,u1)] h [] (mA [.t 4] false h.length P)).1:=by rw[uH zrM rfl rfl];exact ziV
theorem zrO:X.fn TP=some vZ:=by kernel_rfl
theorem zfp {u0 u1 h P}:bA X TP [u0,u1] h P=(fT (bA X) X.gl [(0,u0),(1,u1)] h [] (mA [.t 4] false h.length P)).1:=by rw[uH zrO rfl rfl];exact zjb
theorem zrl:X.fn BP=some IY:=by kernel_rfl
theorem zeD {u0 u1 v0 v1:AV}{h h1:aA}{P:kA}(hp:oA h [u0,u1]=some ([v0,v1],h1)):bA X BP [u0,u1] h P=(FK (bA X) X.gl [(0,v0),(1,v1)] h1 [] (mA [.t 4] false h.length P)).1:=by rw[tA zrl rfl hp rfl];exact zhK
theorem zrn:X.fn kL=some KY:=by kernel_rfl
theorem zeF {u0 u1 v0 v1:AV}{h h1:aA}{P:kA}(hp:oA h [u0,u1]=some ([v0,v1],h1)):bA X kL [u0,u1] h P=(IK (bA X) X.gl [(0,v0),(1,v1)] h1 [] (mA [.cell 4 (some 2)] false h.length P)).1:=by rw[tA zrn rfl hp rfl];exact zhO
theorem zro:X.fn EP=some LY:=by kernel_rfl
theorem zeG {u0 u1 v0 v1:AV}{h h1:aA}{P:kA}(hp:oA h [u0,u1]=some ([v0,v1],h1)):bA X EP [u0,u1] h P=(uS (bA X) X.gl [(0,v0),(1,v1)] h1 [] (mA [.t 4] false h.length P)).1:=by rw[tA zro rfl hp rfl];exact zhS
theorem zsf:X.fn BL=some OZ:=by kernel_rfl
theorem zf6 {u0 v0:AV}{h h1:aA}{P:kA}(hp:oA h [u0]=some ([v0],h1)):bA X BL [u0] h P=(xT (bA X) X.gl [(0,v0)] h1 [] (mA [.t 2] false h.length P)).1:=by rw[tA zsf rfl hp rfl];exact zjx
theorem zc5:X.fn CL=some ER:=by kernel_rfl
theorem c_q0ax {u0 u1 v0 v1:AV}{h h1:aA}{P:kA}(hp:oA h [u0,u1]=some ([v0,v1],h1)):bA X CL [u0,u1] h P = ∃v h' x,P v h' x∧MO (bA X) X.gl UM oW v0 v1 h1 [] (mA [.t 4] false h.length fun v1 h1 x1=>v1=v∧h1=h'∧x1=x):=by rw[XN zc5 rfl hp rfl];exact fU fun v h' x=>congrArg (And (P v h' x)) z8D
theorem zsl:X.fn jQ=some UZ:=by kernel_rfl
theorem zfC {u0 u1 v0 v1:AV}{h h1:aA}{P:kA}(hp:oA h [u0,u1]=some ([v0,v1],h1)):bA X jQ [u0,u1] h P=(CT (bA X) X.gl [(0,v0),(1,v1)] h1 [] (mA [.t 3] false h.length P)).1:=by rw[tA zsl rfl hp rfl];exact zj9
theorem zse:X.fn eQ=some NZ:=by kernel_rfl
theorem zf5 {u0 u1 v0 v1:AV}{h h1:aA}{P:kA}(hp:oA h [u0,u1]=some ([v0,v1],h1)):bA X eQ [u0,u1] h P=(vT (bA X) X.gl [(0,v0),(1,v1)] h1 [] (mA [.t 3] false h.length P)).1:=by rw[tA zse rfl hp rfl];exact zjw
theorem zsi:X.fn pJ=some RZ:=by kernel_rfl
theorem zf9 {u0 u1 v0 v1:AV}{h h1:aA}{P:kA}(hp:oA h [u0,u1]=some ([v0,v1],h1)):bA X pJ [u0,u1] h P=(LG (bA X) X.gl [(0,v0),(1,v1)] h1 [] (mA [.cell 4 (some 2),.t 5] false h.length P)).1:=by rw[tA zsi rfl hp rfl];exact zj6
theorem zsg:X.fn fQ=some PZ:=by kernel_rfl
theorem zf7 {u0 v0:AV}{h h1:aA}{P:kA}(hp:oA h [u0]=some ([v0],h1)):bA X fQ [u0] h P=(TK (bA X) X.gl [(0,v0)] h1 [] (mA [.t 2] false h.length P)).1:=by rw[tA zsg rfl hp rfl];exact zj2
theorem zsh:X.fn DL=some QZ:=by kernel_rfl
theorem zf8 {u0 v0:AV}{h h1:aA}{P:kA}(hp:oA h [u0]=some ([v0],h1)):bA X DL [u0] h P=(UK (bA X) X.gl [(0,v0)] h1 [] (mA [.cell 2 (some 2)] false h.length P)).1:=by rw[tA zsh rfl hp rfl];exact zj5
theorem zqN:X.fn pP=some kY:=by kernel_rfl
theorem zes {u0 u1 v0 v1:AV}{h h1:aA}{P:kA}(hp:oA h [u0,u1]=some ([v0,v1],h1)):bA X pP [u0,u1] h P=(bS (bA X) X.gl [(0,v0),(1,v1)] h1 [] (mA [.t 4] false h.length P)).1:=by rw[tA zqN rfl hp rfl];exact zhb
theorem zsj:X.fn gQ=some SZ:=by kernel_rfl
theorem zfA {u0 u1 v0 v1:AV}{h h1:aA}{P:kA}(hp:oA h [u0,u1]=some ([v0,v1],h1)):bA X gQ [u0,u1] h P=(zT (bA X) X.gl [(0,v0),(1,v1)] h1 [] (mA [.t 3] false h.length P)).1:=by rw[tA zsj rfl hp rfl];exact zj7
theorem zsm:X.fn kQ=some VZ:=by kernel_rfl
theorem zfD {u0 u1 v0 v1:AV}{h h1:aA}{P:kA}(hp:oA h [u0,u1]=some ([v0,v1],h1)):bA X kQ [u0,u1] h P=(DT (bA X) X.gl [(0,v0),(1,v1)] h1 [] (mA [.cell 4 (some 2)] false h.length P)).1:=by rw[tA zsm rfl hp rfl];exact zjA
theorem zqK:X.fn gU=some gY:=by kernel_rfl
theorem c_q065 {u0 v0:AV}{h h1:aA}{P:kA}(hp:oA h [u0]=some ([v0],h1)):bA X gU [u0] h P=(z0M (bA X) X.gl [(0,v0)] h1 [] (mA [.t 2] false h.length P)).1:=by rw[tA zqK rfl hp rfl];exact zgO
theorem zqL:X.fn iU=some iY:=by kernel_rfl
theorem c_q066 {u0 u1 v0 v1:AV}{h h1:aA}{P:kA}(hp:oA h [u0,u1]=some ([v0,v1],h1)):bA X iU [u0,u1] h P=(z0N (bA X) X.gl [(0,v0),(1,v1)] h1 [] (mA [.t 4] false h.length P)).1:=by rw[tA zqL rfl hp rfl];exact zgP
theorem zqM:X.fn jU=some jY:=by kernel_rfl
theorem c_q067 {u0 v0:AV}{h h1:aA}{P:kA}(hp:oA h [u0]=some ([v0],h1)):bA X jU [u0] h P=(z0S (bA X) X.gl [(0,v0)] h1 [] (mA [.t 2,.t 3] false h.length P)).1:=by rw[tA zqM rfl hp rfl];exact zgU
attribute [go_sem] QT xK NG rG QF RT ST zl8 LF uF TE yK WI zhu zhv zhw zhx zl9 zlA z1g z1h z1i z1j jP kP KH z2D zjI z8F zms zmt cJ dJ qG RO z2b ET z2E z2F z8G
attribute [go_sem] zmu TO UO FT zhi zhj zl7 z1c z1d RF z86 zlC UE pS zie zif zlQ z1y z1z z25 z26 zik z89 zlU CO DO z11 JS z23 z24 z88 zlT zO BO GS YK ZK YT z22 zih
attribute [go_sem] z87 zlR zlS AH BH NK yO z10 ES ziQ ziR zmb z1G z1H ziN ziO zma z1E z1F ziK ziL zlZ z1C z1D zho zhp zhq zhr z8m z1f z8n KF z2G z2H cU z8H zmw YO ZO XK
attribute [go_sem] HT OG dP z2y z2z zlO zlP MF YI tO vO ziq zir zis zit ZI NF ID OK zim zin zlV z12 z13 zhM XT zhN zlK z1r HK z1s zi8 zi9 zlY z1A z1B ziv ziw zix zlW
attribute [go_sem] z14 z15 z16 zjE zjF zmr z1Z z2a zjQ zjR zmv z2d z2e zhm z1e ziT ziU zmc z1I z1J zke zkf zmy z8q cP zh5 zh6 zlB z1k z1l zgI zgJ zlz z0I z0J ZT z8A zmh QK nT
attribute [go_sem] zjr bU zjs zmk z1R SK z1S TT z2o UT z2p zlD zlE AK nO BK oO VT z2q z2r z2s zlH zlI DK EK pO qO zi4 zi5 zi6 EH z19 KG zjO z2c zi1 zi2 zlX z17 z18
attribute [go_sem] zgL zgM zl0 z0K z0L zjW zjX zjY zjZ zka zkb zkc zmx z2f z2g z2h z2i z2j z2k z2l zkh zki zmz z2m z2n iP z29 z2A aU z2B zmi zmj FH JO KO RK LO zjm eP fP
attribute [go_sem] zmg z1Q aJ bJ ziZ zja zme z1M z1N zhD zhE zhF zhG zhH zlF zlG z1m z1n z1o z1p z1q JH z8E zmp pG BT HH z8B zml oG uT z27 z28 vF wE ziW ziX zmd z1K z1L
attribute [go_sem] zjc zjd zmf z1O z1P WT z2t z2u zlJ GK rO sO zhP zhQ zhR z2v z2w z2x zlL zlM z1t z1u z1v JK KK LK zhT zhU zlN z1w z1x zjy zjz zj0 zj1 zmm zmn z8o z1T z1U
attribute [go_sem] z8p zj3 zj4 zmo z1V z1W zhc zhd zhe zl6 z0Z z1a z1b zjB zjC z2C zmq z1X z1Y NO zgQ zgR zgS zgT zl1 zl3 z0O z0P z0Q z0R zgV zgW zgX zgY zgZ zha zl4 zl5 z0T z0U
attribute [go_sem] z0V z0W z0X z0Y
end Go.Am
end
section
/- The stream of numbers out of which the laws draw. -/
open Go
namespace Go.Am
abbrev eI (n:Int):PV:=.int .i64 n
abbrev AL (l:List Int):AV:=.p (.sl none (l.map eI))
abbrev TA (L:List Int)(a:Int):Obj:=.box [AL L,AI a]
def rH (x n:Int):Int:=if n<1 then 0 else if x.tmod n<0 then IntKind.i64.wrap (x.tmod n+n) else x.tmod n
theorem zbn (x n:Int)(h:aA)(K:kA):bA X hJ [AI x,AI n] h K=K (AI (rH x n)) h []:=by
 refine rA ?_;rw[zew rfl];simp only[fS,go_sem];unfold rH;by_cases h1:n<1
 ·simp only[h1,if_true]
 ·simp only[h1,if_false,show ¬n=0 by omega]
  split <;> rfl
theorem zdI (x n:Int)(h1:1≤n)(h2:n≤4611686018427387904):0≤rH x n∧rH x n<n:=by
 unfold rH;rw[if_neg (by omega)]
 have:=Int.tmod_lt_of_pos x (show 0<n by omega)
 have h3 : -n<x.tmod n:=by
  have:=Int.lt_tmod_of_pos x (show 0<n by omega)
  exact this
 split
 ·rw[zA _ (by omega) (by omega)];omega
 ·omega
def LB (L:List Int)(a n:Int):Int:=
 if L.length=0 then rH (IntKind.i64.wrap ((a+1)*7919)) n
 else rH (IntKind.i64.wrap (rH (L.getD (a.tmod L.length).toNat 0) 1073741824+IntKind.i64.wrap (IntKind.i64.wrap (a.tdiv L.length)*IntKind.i64.wrap (7919+a.tmod L.length)))) n
theorem BJ (L:List Int)(a n:Int)(h1:1≤n)(h2:n≤4611686018427387904):0≤LB L a n∧LB L a n<n:=by
 unfold LB;split <;> exact zdI _ _ h1 h2
theorem tR {h:aA}{id:Nat}{o':Obj}(hid:id<h.length):(h.set id o')[id]?=some o':=by simp [hid]
theorem YG {h:aA}{id:Nat}{o:Obj}(hh:h[id]?=some o):id<h.length:=(List.getElem?_eq_some_iff.1 hh).1
def kB (n:Nat)(a:Int):Prop:=0≤a∧a+n<4611686018427387904
theorem YC {n m:Nat}{a b:Int}(H:kB m a)(h:a≤b)(hn:b+n≤a+m):kB n b:=by unfold kB at *;omega
theorem jN {a:Int}(H:kB 14 a):kB 0 (a)∧kB 0 (a+1)∧kB 0 (a+1+1)∧kB 0 (a+1+1+1)∧kB 0 (a+1+1+1+1)∧kB 0 (a+1+1+1+1+1)∧kB 0 (a+1+1+1+1+1+1)∧kB 0 (a+1+1+1+1+1+1+1)∧kB 0 (a+1+1+1+1+1+1+1+1)∧kB 0 (a+1+1+1+1+1+1+1+1+1)∧kB 0 (a+1+1+1+1+1+1+1+1+1+1)∧kB 0 (a+1+1+1+1+1+1+1+1+1+1+1)∧kB 0 (a+1+1+1+1+1+1+1+1+1+1+1+1)∧kB 0 (a+1+1+1+1+1+1+1+1+1+1+1+1+1)∧kB 0 (a+1+1+1+1+1+1+1+1+1+1+1+1+1+1):=by
 unfold kB at *;omega
def Gen (f:Nat)(args:List AV)(L:List Int)(a a2:Int)(v:AV):Prop:=∀(h:aA) (id:Nat) (K:kA),h[id]?=some (TA L a)→bA X f (.ref id 0::args) h K=K v (h.set id (TA L a2)) []
section
variable {f:Nat} {args:List AV} {L:List Int} {a a2:Int} {v:AV} {h l:aA} {id:Nat} {K:kA}
theorem Gen.set (g:Gen f args L a a2 v)(hid:id<h.length):bA X f (.ref id 0::args) (h.set id (TA L a)) K=K v (h.set id (TA L a2)) []:=by
 rw[g _ _ _ (tR hid),List.set_set]
theorem Gen.app (g:Gen f args L a a2 v)(hid:id<h.length):bA X f (.ref id 0::args) (h.set id (TA L a)++l) K=K v (h.set id (TA L a2)++l) []:=by
 rw[g _ _ _ (by rw[z9F (by simpa using hid)];exact tR hid),zbZ (by simpa using hid),List.set_set]
theorem Gen.hd (g:Gen f args L a a2 v):bA X f (.ref 0 0::args) (TA L a::l) K=K v (TA L a2::l) []:=by
 rw[g _ _ _ rfl];rfl
theorem Gen.of (H:∀ (h:aA) (id:Nat),id<h.length→bA X f (.ref id 0::args) (h.set id (TA L a)) fun v1 h1 x1=>v1=v∧h1=h.set id (TA L a2)∧x1=[]):Gen f args L a a2 v:=by
 intro h id K hh;have hid:=YG hh
 have:h.set id (TA L a)=h:=by
  apply List.ext_getElem?
  intro i;rw[List.getElem?_set];split
  ·rename_i e;subst e;rw[hh]
  ·rfl
 have k:=H h id hid
 rw[this]at k;exact rA k
end
def WD (f:Nat)(args:List AV)(L:List Int)(a:Int)(Q:AV→Int→Prop):Prop:=∀(h:aA) (id:Nat),h[id]?=some (TA L a)→∃v a2,Q v a2∧∀K:kA,bA X f (.ref id 0::args) h K=K v (h.set id (TA L a2)) []
section
variable {f:Nat} {args:List AV} {L:List Int} {a:Int} {Q:AV→Int→Prop}
theorem WD.set (g:WD f args L a Q){h:aA}{id:Nat}(hid:id<h.length):∃v a2,Q v a2∧∀K:kA,bA X f (.ref id 0::args) (h.set id (TA L a)) K=K v (h.set id (TA L a2)) []:=by
 obtain⟨v,a2,q,r⟩:=g _ _ (tR hid);exact⟨v,a2,q,fun K=>by rw[r,List.set_set]⟩
theorem WD.app (g:WD f args L a Q){h l:aA}{id:Nat}(hid:id<h.length):∃v a2,Q v a2∧∀K:kA,bA X f (.ref id 0::args) (h.set id (TA L a)++l) K=K v (h.set id (TA L a2)++l) []:=by
 obtain⟨v,a2,q,r⟩:=g (h.set id (TA L a)++l) id (by rw[z9F (by simpa using hid)];exact tR hid)
 exact⟨v,a2,q,fun K=>by rw[r,zbZ (by simpa using hid),List.set_set]⟩
theorem WD.hd (g:WD f args L a Q){l:aA}:∃v a2,Q v a2∧∀K:kA,bA X f (.ref 0 0::args) (TA L a::l) K=K v (TA L a2::l) []:=g (TA L a::l) 0 rfl
theorem WD.of (H:∀ (h:aA) (id:Nat),id<h.length→bA X f (.ref id 0::args) (h.set id (TA L a)) fun v1 h1 x1=>∃ a2,Q v1 a2∧h1=h.set id (TA L a2)∧x1=[]):WD f args L a Q:=by
 intro h id hh;have hid:=YG hh
 have:h.set id (TA L a)=h:=by
  apply List.ext_getElem?
  intro i;rw[List.getElem?_set];split
  ·rename_i e;subst e;rw[hh]
  ·rfl
 have k:=H h id hid
 rw[this]at k;obtain⟨v,h',x,⟨a2,q,e1,e2⟩,r⟩:=bA.one z6Y k;subst e1;subst e2
 exact⟨v,a2,q,r⟩
end
def PC (l:List Int)(L:List Int)(a:Int):Int:=l.getD (LB L a l.length).toNat 0
theorem RW {l L:List Int}{a:Int}(hl:0<l.length)(hl2:l.length<4611686018427387904):PC l L a∈l:=by
 obtain⟨b1,b2⟩:=BJ L a l.length (by omega) (by omega)
 unfold PC;have:(LB L a l.length).toNat<l.length:=by omega
 simp only[List.getD,List.getElem?_eq_getElem this,Option.getD_some];exact List.getElem_mem _
def isI:PV→Bool
 | .int .i64 _=>true
 | _=>false
def unI:PV→Int
 | .int _ n=>n
 | _=>0
theorem zqz {xs:List PV}(h:xs.all isI=true):xs=(xs.map unI).map eI:=by
 induction xs with
 | nil=>rfl
 | cons x r ih=>
  simp only[List.all_cons,Bool.and_eq_true]at h;simp only[List.map_cons];rw[←ih h.2];cases x with
  | int k n=>cases k <;> first|rfl|cases h.1
  | _=>cases h.1
set_option maxHeartbeats 400000 in
theorem z96 (L:List Int)(a n:Int)(hp:kB 0 a):Gen bF [AI n] L a (a+1) (AI (LB L a n)):=by
 refine Gen.of fun h id hid=>?_
 rw[ze1 rfl];obtain⟨h0,h1⟩:=hp;have w1:IntKind.i64.wrap (a+1)=a+1:=zA _ (by omega) (by omega)
 have w2:IntKind.i64.wrap (a+1-1)=a:=by rw[zA _ (by omega) (by omega)];omega
 have hs:∀o',(h.set id o')[id]?=some o':=fun o'=>tR hid
 rcases Nat.eq_zero_or_pos L.length with hl|hl
 ·simp only[jO,go_sem,hs,zbn,hl,w1]
  simp only[LB,hl,if_true]
 ·have e1:((L.length:Int)=0)=False:=by simp only[eq_iff_iff,iff_false];omega
  have e2:0≤a.tmod L.length:=Int.tmod_nonneg _ h0
  have e3:a.tmod L.length<L.length:=Int.tmod_lt_of_pos _ (by omega)
  have e4:=z3o (k:=.i64) e2
  have e5:(L.map eI)[(a.tmod L.length).toNat]?=some (eI (L.getD (a.tmod L.length).toNat 0)):=by
   rw[BB eI (show(a.tmod L.length).toNat<L.length by omega)]
   simp [List.getD,show(a.tmod L.length).toNat<L.length by omega]
  simp only[jO,go_sem,hs,zbn,e1,w1,w2,e4,e5];simp only[LB,show ¬L.length=0 by omega,if_false]
section
variable {L:List Int} {a:Int} {h l:aA} {id:Nat} {K:kA}
theorem zN (hid:id<h.length)(hp:kB 0 a)(n:Int):bA X bF [.ref id 0,AI n] (h.set id (TA L a)) K=K (AI (LB L a n)) (h.set id (TA L (a+1))) []:=(z96 L a n hp).set hid
theorem zby (hid:id<h.length)(hp:kB 0 a)(n:Int):bA X bF [.ref id 0,AI n] (h.set id (TA L a)++l) K=K (AI (LB L a n)) (h.set id (TA L (a+1))++l) []:=(z96 L a n hp).app hid
theorem z95 (hp:kB 0 a)(n:Int):Gen nE [AI n] L a (a+1) (AB (decide (LB L a n=0))):=by
 refine Gen.of fun h id hid=>?_
 rw[ze0 rfl];simp only[jS,go_sem,zN hid hp]
theorem zbv (hid:id<h.length)(hp:kB 0 a)(n:Int):bA X nE [.ref id 0,AI n] (h.set id (TA L a)) K=K (AB (decide (LB L a n=0))) (h.set id (TA L (a+1))) []:=(z95 hp n).set hid
theorem zbu (hid:id<h.length)(hp:kB 0 a)(n:Int):bA X nE [.ref id 0,AI n] (h.set id (TA L a)++l) K=K (AB (decide (LB L a n=0))) (h.set id (TA L (a+1))++l) []:=(z95 hp n).app hid
theorem z98 (hp:kB 0 a)(xs:List PV)(hx:xs.all isI=true)(hl:0<xs.length)(hl2:xs.length<4611686018427387904) :
 Gen JC [.p (.sl none xs)] L a (a+1) (AI (PC (xs.map unI) L a)):=by
 refine Gen.of fun h id hid=>?_
 rw[ze2 rfl];obtain⟨b1,b2⟩:=BJ L a xs.length (by omega) (by omega)
 have e4:=z3o (k:=.i64) b1
 have e5:xs[(LB L a xs.length).toNat]?=some (eI (PC (xs.map unI) L a)):=by
  have hm:=zqz hx
  generalize hq:xs.map unI=q at *;subst hm;simp only[List.length_map]at *;rw[BB eI (show(LB L a q.length).toNat<q.length by omega)]
  simp [PC,List.getD,show(LB L a q.length).toNat<q.length by omega]
 simp only[kS,go_sem,zN hid hp,e4,e5]
theorem zb0 (hid:id<h.length)(hp:kB 0 a){xs:List PV}(hx:xs.all isI=true)(hl:0<xs.length)(hl2:xs.length<4611686018427387904) :
 bA X JC [.ref id 0,.p (.sl none xs)] (h.set id (TA L a)) K=K (AI (PC (xs.map unI) L a)) (h.set id (TA L (a+1))) []:=(z98 hp xs hx hl hl2).set hid
theorem zbz (hid:id<h.length)(hp:kB 0 a){xs:List PV}(hx:xs.all isI=true)(hl:0<xs.length)(hl2:xs.length<4611686018427387904) :
 bA X JC [.ref id 0,.p (.sl none xs)] (h.set id (TA L a)++l) K=K (AI (PC (xs.map unI) L a)) (h.set id (TA L (a+1))++l) []:=(z98 hp xs hx hl hl2).app hid
def cE (u v:Int)(L:List Int)(a:Int):Int:=u+LB L a (v-u+1)
theorem dR {u v:Int}(L:List Int)(a:Int)(h1:u≤v)(h2:v≤u+4611686018427387900):u≤cE u v L a∧cE u v L a≤v:=by
 have:=BJ L a (v-u+1) (by omega) (by omega)
 unfold cE;omega
theorem z2W (hp:kB 0 a)(u v:Int)(huv:u≤v)(hu : -1152921504606846976≤u)(hv:v≤1152921504606846976) :
 Gen UF [AI u,AI v] L a (a+1) (AI (cE u v L a)):=by
 refine Gen.of fun h id hid=>?_
 rw[ze3 rfl];obtain⟨b1,b2⟩:=dR L a huv (by omega)
 have w1:IntKind.i64.wrap (v-u)=v-u:=zA _ (by omega) (by omega)
 have w2:IntKind.i64.wrap (v-u+1)=v-u+1:=zA _ (by omega) (by omega)
 have w3:IntKind.i64.wrap (u+LB L a (v-u+1))=cE u v L a:=zA (cE u v L a) (by omega) (by omega)
 simp only[lS,go_sem,show ¬v<u by omega,w1,w2,zN hid hp,w3]
theorem zb3 (hid:id<h.length)(hp:kB 0 a){u v:Int}(huv:u≤v)(hu : -1152921504606846976≤u)(hv:v≤1152921504606846976) :
 bA X UF [.ref id 0,AI u,AI v] (h.set id (TA L a)) K=K (AI (cE u v L a)) (h.set id (TA L (a+1))) []:=(z2W hp u v huv hu hv).set hid
theorem zb1 (hid:id<h.length)(hp:kB 0 a){u v:Int}(huv:u≤v)(hu : -1152921504606846976≤u)(hv:v≤1152921504606846976) :
 bA X UF [.ref id 0,AI u,AI v] (h.set id (TA L a)++l) K=K (AI (cE u v L a)) (h.set id (TA L (a+1))++l) []:=(z2W hp u v huv hu hv).app hid
theorem zb2 (hp:kB 0 a){u v:Int}(huv:u≤v)(hu : -1152921504606846976≤u)(hv:v≤1152921504606846976) :
 bA X UF [.ref 0 0,AI u,AI v] (TA L a::l) K=K (AI (cE u v L a)) (TA L (a+1)::l) []:=(z2W hp u v huv hu hv).hd
end
attribute [go_sem ↓] zN zby zbv zbu zb0 zbz zb3 zb1 zb2
attribute [go_sem] zN zby zbv zbu zb0 zbz zb3 zb1 zb2 isI unI
end Go.Am
end
section
/- Plain laws of fractions in lowest terms. -/
namespace Go.Am
end Go.Am
end
section
/- Small functions of numbers and of lists of numbers. -/
open Go
namespace Go.Am
variable {h:aA} {K:kA}
theorem LC (n a b:Int):bA X TF [AI n,AI a,AI b] h K=K (AB (decide (n<a)||decide (b<n))) h []:=by
 refine rA ?_;rw[zer rfl];by_cases h1:n<a <;> simp only[aS,go_sem,h1]
theorem s_in (n a b:Int):bA X kJ [AI n,AI a,AI b] h K=K (AB (decide (a≤n)&&decide (n≤b))) h []:=by
 refine rA ?_;rw[zeW rfl];by_cases h1:a≤n <;> simp only[MS,go_sem,h1]
end Go.Am
end
section
/- Functions of lists. -/
open Go
namespace Go.Am
variable {h:aA} {K:kA}
theorem zqf (l:List Int)(a b:Int)(hv:∀ n∈l,a≤n∧n≤b):(l.length:Int)*a≤l.sum∧l.sum≤(l.length:Int)*b:=by
 induction l with
 | nil=>simp
 | cons x r ih=>
  obtain⟨i1,i2⟩:=ih (fun n hn=>hv n (by simp [hn]))
  obtain⟨x1,x2⟩:=hv x (by simp)
  simp only[List.length_cons,List.sum_cons,Int.natCast_add,Int.add_mul];omega
theorem zqg {l:List Int}{B:Int}(hv:∀ n∈l,-B≤n∧n≤B){N:Nat}(hl:l.length≤N)(hB:0≤B) : -(N*B)≤l.sum∧l.sum≤N*B:=by
 obtain⟨h1,h2⟩:=zqf l (-B) B hv;have:(l.length:Int)*B≤N*B:=Int.mul_le_mul_of_nonneg_right (by omega) hB
 rw[Int.mul_neg]at h1;omega
theorem zqh {l:List Int}{B:Int}(hv:∀ n∈l,-B≤n∧n≤B){N:Nat}(hl:l.length≤N)(hB:0≤B)(k:Nat) : -(N*B)≤(l.take k).sum∧(l.take k).sum≤N*B:=
 zqg (fun n hn=>hv n (List.mem_of_mem_take hn)) (by simp;omega) hB
theorem z5I (l m:List Int)(hl:l.length≤1000000000):bA X nJ [AL l,AL m] h K=K (AB (decide (l=m))) h []:=by
 refine rA ?_;rw[zfk rfl];by_cases hlen:l.length=m.length
 ·simp only[FO,go_sem,hlen]
  refine XA (fun k:Nat=>⟨[(0,AL l),(1,AL m),(12,AI m.length),(13,AI k)],h,[]⟩) (fun k=>k≤m.length∧l.take k=m.take k) (fun k=>m.length-k) 0 rfl (by simp) ?_
  rintro k ⟨hk,hp⟩
  rcases Nat.lt_or_ge k m.length with hlt|hge
  ·have hg1:=BB eI (show k<l.length by omega)
   have hg2:=BB eI hlt
   have w2:IntKind.i64.wrap ((k:Int)+1)=((k+1:Nat):Int):=zA _ (by omega) (by omega)
   by_cases he:l[k]=m[k]
   ·simp only[go_sem,hlt,hg1,hg2,w2,he]
    exact⟨k+1,rfl,⟨by omega,by rw[List.take_succ_eq_append_getElem (by omega),List.take_succ_eq_append_getElem hlt,hp,he]⟩,by omega⟩
   ·simp only[go_sem,hlt,hg1,hg2,w2,he]
    have:¬l=m:=fun h=>he (by simp only[h])
    simp [this]
  ·have e1:k=m.length:=by omega
   have e2:l=m:=by rw[←List.take_length (l:=l),←List.take_length (l:=m),hlen,←e1,hp]
   subst e1;simp only[go_sem,Nat.lt_irrefl];simp [e2]
 ·have e1:((l.length:Int)=m.length)=False:=by simp only[eq_iff_iff,iff_false];omega
  simp only[FO,go_sem,e1];have:¬l=m:=fun h=>hlen (by rw[h])
  simp [this]
def sE (g:Nat)(caps:List AV)(p:PV→Bool)(xs:List PV)(h:aA):Prop:=∀x∈xs,∀K:kA,bA X g (.p x::caps) h K=K (AB (p x)) h []
def EE (p:PV→Bool)(xs:List PV):Int:=if xs.findIdx p<xs.length then(xs.findIdx p:Int) else -1
theorem z3b (p:PV→Bool)(xs:List PV):decide (0≤EE p xs)=xs.any p:=by
 unfold EE;rw[Bool.eq_iff_iff];by_cases h:xs.findIdx p<xs.length
 ·rw[if_pos h];simp only[decide_eq_true_eq,List.any_eq_true]
  exact⟨fun _=>⟨_,List.getElem_mem h,List.findIdx_getElem⟩,fun _=>by omega⟩
 ·rw[if_neg h];simp only[decide_eq_true_eq,List.any_eq_true]
  refine⟨fun h=>by omega,fun⟨x,hx,hp⟩=>absurd (List.findIdx_lt_length_of_exists ⟨x,hx,hp⟩) h⟩
def tJ:List Int→Int
 | []=>0
 | e::r=>if e=0 then tJ r else e
theorem zoH (l:List Int)(hl:l.length≤1000):bA X qP [AL l] h K=K (AI (tJ l)) h []:=by
 refine rA ?_;rw[zeu rfl];simp only[dS,go_sem];refine XA (fun k:Nat=>⟨[(5,AL l),(6,AI l.length),(7,AI k)],h,[]⟩) (fun k=>k≤l.length∧tJ (l.drop k)=tJ l) (fun k=>l.length-k) 0 rfl (by simp) ?_
 rintro k ⟨hk,hp⟩
 rcases Nat.lt_or_ge k l.length with hlt|hge
 ·have hg:=BB eI hlt
  have w2:IntKind.i64.wrap ((k:Int)+1)=((k+1:Nat):Int):=zA _ (by omega) (by omega)
  rw[List.drop_eq_getElem_cons hlt,tJ]at hp;by_cases he:l[k]=0
  ·rw[if_pos he]at hp
   simp only[go_sem,hlt,hg,w2,he];exact⟨k+1,rfl,⟨by omega,hp⟩,by omega⟩
  ·rw[if_neg he]at hp
   simp only[go_sem,hlt,hg,w2,he];rw[hp]
 ·have e1:k=l.length:=by omega
  subst e1;simp only[go_sem,Nat.lt_irrefl];rw[List.drop_length]at hp;rw[←hp];rfl
end Go.Am
end
section
/- Values of a shape: loads and stores in rows. -/
open Go
namespace Go.Am
variable {h:aA} {K:kA}
theorem zp6 {sh:Sh}{x:PV}(hx:x.shp sh=true):aB sh 0 x=some x:=by
 cases sh with
 | none=>exact zg5 hx
 | some n=>
  cases x with
  | agg cs=>
   simp only[PV.shp,Bool.and_eq_true,beq_iff_eq]at hx;simp [aB,hx.1];exact List.take_of_length_le (by omega)
  | _=>cases hx
theorem zp7 {sh:Sh}{x y:PV}(hx:x.shp sh=true)(hy:y.shp sh=true)(id i fz:Nat)(xs:List PV)(h1:aA):stE sh id i 0 fz sh xs x h1 (some y)=some (.und,h1.set id (.row sh (xs.set i x) fz),[]):=by
 cases sh with
 | none=>
  cases y with
  | agg cs=>cases hy
  | _=>simp only[PV.shp]at hx;simp [stE,hx]
 | some n=>
  cases y with
  | agg cs=>
   cases x with
   | agg ds=>
    simp only[PV.shp,Bool.and_eq_true,beq_iff_eq]at hx hy;simp [stE,PV.cells,splice,hx.1,hy.1,show cs.drop n=[] from List.drop_of_length_le (by omega)]
   | _=>cases hx
  | _=>cases hy
def jH (sh:Sh)(xs:List PV):Prop:=∀x∈xs,x.shp sh=true
theorem zp9 {sh:Sh}{xs:List PV}(hx:jH sh xs){i:Nat}(hi:i<xs.length):xs[i].shp sh=true:=hx _ (List.getElem_mem hi)
theorem zp5 {h:aA}{id:Nat}{o:Obj}(hh:h[id]?=some o):h.set id o=h:=by
 apply List.ext_getElem?
 intro i;rw[List.getElem?_set];split
 ·rename_i e;subst e;rw[hh];simp [YG hh]
 ·rfl
structure Shows (sh:Sh) (v:AV) (xs:List PV) (h:aA):Prop where
 len:bH v=some (AI xs.length)
 get:∀(k:Nat) (hk:k<xs.length),∃a,eD sh v (AI k) h=some a∧FA sh a h=some (.p xs[k])
theorem vR {sh:Sh}{xs:List PV}(hs:jH sh xs):Shows sh (.p (.sl sh xs)) xs h:=by
 refine⟨rfl,fun k hk=>⟨.vp xs[k],?_,?_⟩⟩
 ·simp [eD,CB,hk]
 ·simp only[zaj,zp6 (zp9 hs hk)];rfl
end Go.Am
end
section
/- Strings: keys,the library's functions without text. -/
open Go
set_option linter.unusedSimpArgs false
namespace Go.Am
variable {h:aA} {K:kA}
abbrev AS (s:List UInt8):AV:=.p (.str s)
theorem X_ext:X.ext=oP gJ z8W:=rfl
theorem zbB (s:List UInt8)(c:UInt8):bA X gJ [AS s,.p (.int .u8 c.toNat)] h K=K (AI (dD s c)) h []:=by
 have:=zk4 (X:=X) (f:=gJ) (asv:=[AS s,.p (.int .u8 c.toNat)]) (vs:=[.str s,.int .u8 c.toNat]) (h:=h) (h1:=h) (r:=.int .i64 (dD s c)) (K:=K) (by kernel_rfl) rfl rfl rfl ?_
 ·exact this
 ·rw[X_ext]
  unfold oP;rw[show Nat.beq gJ gJ=true from by kernel_rfl]
  simp
theorem z5J (s:List UInt8)(c:UInt8):bA X yL [AS s,.p (.int .u8 c.toNat)] h K=K (AI (dD s c)) h []:=by
 have key:∀(h:aA) (K:kA),bA X MH [AS s,.p (.int .u8 c.toNat)] h K=K (AI (dD s c)) h []:=by
  intro h K;refine rA ?_;rw[z7H rfl];simp only[fO,go_sem,zbB]
 refine rA ?_;rw[zfv rfl];simp only[kT,go_sem,key]
def GE (c:UInt8):Bool:=decide ((97:Int)≤c.toNat)&&decide ((c.toNat:Int)≤122)||decide ((48:Int)≤c.toNat)&&decide ((c.toNat:Int)≤57)||decide ((c.toNat:Int)=45)||decide ((c.toNat:Int)=95)
def OC (s:List UInt8):Bool:=match s with
 | []=>false
 | c::r=>decide (r.length<40)&&(decide ((97:Int)≤c.toNat)&&decide ((c.toNat:Int)≤122))&&(c::r).all GE
theorem zbw (s:List UInt8)(hl:s.length≤1000000000):bA X iL [AS s] h K=K (AB (OC s)) h []:=by
 refine rA ?_;rw[zeq rfl];cases s with
 | nil=>simp only[zH,go_sem,OC]
 | cons c r=>
  have n0:((c::r)=[])=False:=by simp
  have e1:(((r.length+1:Nat):Int)≤40)=(r.length<40):=by simp only[eq_iff_iff];omega
  by_cases h1:(40:Int)<((r.length+1:Nat):Int)
  ·have:¬r.length<40:=by omega
   simp only[zH,go_sem,n0,h1,OC,this]
  have h1':r.length<40:=by omega
  by_cases h2:(c.toNat:Int)<97
  ·have:¬(97:Int)≤c.toNat:=by omega
   simp only[zH,go_sem,n0,h1,h2,OC,this,h1']
  have h2':(97:Int)≤c.toNat:=by omega
  by_cases h3:(122:Int)<c.toNat
  ·have:¬(c.toNat:Int)≤122:=by omega
   simp only[zH,go_sem,n0,h1,h2,h3,OC,this,h1',h2']
  have h3':(c.toNat:Int)≤122:=by omega
  have ek:OC (c::r)=(c::r).all GE:=by simp [OC,h1',h2',h3']
  rw[ek];generalize hB:(c::r).all GE=B;simp only[zH,go_sem,n0,h1,h2,h3];have hlen:(c::r).length=r.length+1:=rfl
  rw[←hlen];generalize c::r=s at *;refine XA (fun k:Nat=>⟨[(0,AS s),(23,AI s.length),(24,AI k)],h,[]⟩) (fun k=>k≤s.length∧(s.take k).all GE=true) (fun k=>s.length-k) 0 rfl ⟨by omega,rfl⟩ ?_
  rintro k ⟨hk,hp⟩
  rcases Nat.lt_or_ge k s.length with hlt|hge
  ·have hg:s[k]?=some s[k]:=List.getElem?_eq_getElem hlt
   have w2:IntKind.i64.wrap ((k:Int)+1)=((k+1:Nat):Int):=zA _ (by omega) (by omega)
   generalize hc:s[k]=c at *;have key:(decide ((97:Int)≤c.toNat)&&decide ((c.toNat:Int)≤122)||decide ((48:Int)≤c.toNat)&&decide ((c.toNat:Int)≤57)||decide ((c.toNat:Int)=45)||decide ((c.toNat:Int)=95))=GE c:=rfl
   cases hkc:GE c with
   | true=>
    rw[hkc]at key;have hn:(s.take (k+1)).all GE=true:=by rw[List.take_succ_eq_append_getElem hlt,List.all_append,hp,hc];simp [hkc]
    by_cases b1:(97:Int)≤c.toNat <;> by_cases b2:(c.toNat:Int)≤122 <;> by_cases b3:(48:Int)≤c.toNat <;> by_cases b4:(c.toNat:Int)≤57 <;> by_cases b5:(c.toNat:Int)=45 <;> by_cases b6:(c.toNat:Int)=95
    all_goals first
     | (simp only[b1,b2,b3,b4,b5,b6,decide_true,decide_false,Bool.and_self,Bool.and_true,Bool.and_false,Bool.or_self,Bool.or_true,Bool.or_false,Bool.true_or,Bool.false_or,Bool.false_and,reduceCtorEq]at key;done)
     | (exfalso;omega)
     | (simp only[go_sem,hlt,hg,w2,b1,b2,b3,b4,b5,b6];exact⟨k+1,rfl,⟨by omega,hn⟩,by omega⟩)
   | false=>
    rw[hkc]at key;have hn:s.all GE=false:=by rw[List.all_eq_false];exact⟨_,List.getElem_mem hlt,by rw[hc,hkc];simp⟩
    rw[hn]at hB;subst hB;by_cases b1:(97:Int)≤c.toNat <;> by_cases b2:(c.toNat:Int)≤122 <;> by_cases b3:(48:Int)≤c.toNat <;> by_cases b4:(c.toNat:Int)≤57 <;> by_cases b5:(c.toNat:Int)=45 <;> by_cases b6:(c.toNat:Int)=95
    all_goals first
     | (simp only[b1,b2,b3,b4,b5,b6,decide_true,decide_false,Bool.and_self,Bool.and_true,Bool.and_false,Bool.or_self,Bool.or_true,Bool.or_false,Bool.true_or,Bool.false_or,Bool.false_and,reduceCtorEq]at key;done)
     | (exfalso;omega)
     | (simp only[go_sem,hlt,hg,b1,b2,b3,b4,b5,b6])
  ·have ek:k=s.length:=by omega
   subst ek;rw[List.take_length,hB]at hp;subst hp;simp only[go_sem,Nat.lt_irrefl]
theorem z3a (s:List UInt8)(c:UInt8):decide (dD s c<0) = !s.contains c:=by
 unfold dD;rw[Bool.eq_iff_iff];by_cases hf:s.findIdx (· == c)<s.length
 ·rw[if_pos hf]
  have:=List.findIdx_getElem (w:=hf);simp only[beq_iff_eq]at this;have hm:c∈s:=by rw[←this];exact List.getElem_mem hf
  simp [hm]
 ·rw[if_neg hf]
  have hm:¬c∈s:=fun hm=>hf (List.findIdx_lt_length_of_exists ⟨c,hm,by simp⟩)
  simp [hm]
theorem zoM (s t:List UInt8)(hl:s.length≤1000000000):bA X NP [AS s,AS t] h K=K (AB (s.all fun c=>t.contains c)) h []:=by
 refine rA ?_;rw[zeY rfl];simp only[OS,go_sem];refine XA (fun k:Nat=>⟨[(0,AS s),(1,AS t),(7,AI s.length),(8,AI k)],h,[]⟩) (fun k=>k≤s.length∧(s.take k).all (fun c=>t.contains c)=true) (fun k=>s.length-k) 0 rfl ⟨by omega,rfl⟩ ?_
 rintro k ⟨hk,hp⟩
 rcases Nat.lt_or_ge k s.length with hlt|hge
 ·have hg:s[k]?=some s[k]:=List.getElem?_eq_getElem hlt
  have w2:IntKind.i64.wrap ((k:Int)+1)=((k+1:Nat):Int):=zA _ (by omega) (by omega)
  have hi:=z3a t s[k]
  by_cases hc:dD t s[k]<0
  ·have:s.all (fun c=>t.contains c)=false:=by
    rw[List.all_eq_false];refine⟨_,List.getElem_mem hlt,?_⟩;rw[decide_eq_true hc]at hi;cases hq:t.contains s[k]with
    | true=>rw[hq]at hi;cases hi
    | false=>simp
   simp only[go_sem,hlt,hg,z5J,hc,this]
  ·rw[decide_eq_false hc]at hi
   have hq:t.contains s[k]=true:=by cases hq:t.contains s[k]with|true=>rfl|false=>rw[hq]at hi;cases hi
   simp only[go_sem,hlt,hg,z5J,hc,w2];exact⟨k+1,rfl,⟨by omega,by rw[List.take_succ_eq_append_getElem hlt,List.all_append,hp];simp only[List.all_cons,List.all_nil,hq];rfl⟩,by omega⟩
 ·have ek:k=s.length:=by omega
  subst ek;rw[List.take_length]at hp;simp only[go_sem,Nat.lt_irrefl,hp]
end Go.Am
end
section
/- What is wrong with devices,plainly. -/
set_option linter.all false
namespace Go.Am
def dC (pre:List TReg)(r:TReg):Int:=
 if OC r.name=false then 5 else if r.name=yB∨r.name=bB∨(pre.any fun x=>decide (x.name=r.name))=true then 6 else if r.long<1∨1000<r.long then 1 else 0
def QD:List TReg→List TReg→Int
 | _,[]=>0
 | pre,r::rs=>if dC pre r≠0 then dC pre r else QD (pre++[r]) rs
def VB (d:TDev)(pre:List TIns)(x:TIns):Int:=
 if(x.code.length:Int)≠d.long then 3 else if EA x.code=false then 9 else if x.code.contains 48=false then 16 else if(pre.any fun y=>decide (y.code=x.code))=true then 6 else if(WB d x.reg).isSome=false then 8 else 0
def oE (d:TDev):List TIns→List TIns→Int
 | _,[]=>0
 | pre,x::xs=>if VB d pre x≠0 then VB d pre x else oE d (pre++[x]) xs
def OF (pre:List TDev)(d:TDev):Int:=
 if OC d.name=false then 5 else if(pre.any fun x=>decide (x.name=d.name))=true then 6 else if(d.long<2∨32<d.long)∨(d.id<0∨4294967295<d.id) then 1
 else if d.id≠0∧d.id.tmod 2=0 then 3 else if(10:Int)<d.regs.length∨(100:Int)<d.ins.length then 2 else if QD [] d.regs≠0 then QD [] d.regs else oE d [] d.ins
def wF:List TDev→List TDev→Int
 | _,[]=>0
 | pre,d::ds=>if OF pre d≠0 then OF pre d else wF (pre++[d]) ds
def YE (ds:List TDev):Int:=if ds.length=0 then 8 else if 20<ds.length then 2 else wF [] ds
theorem zaa {s:List UInt8}(h:OC s=true):s.length≤40∧s≠[]:=by
 unfold OC at h;cases s with
 | nil=>cases h
 | cons c r=>
  simp only[Bool.and_eq_true,decide_eq_true_eq]at h;simp;omega
theorem zaQ:∀ {rs pre:List TReg},QD pre rs=0→(∀ r∈rs,r.name≠yB∧r.name≠bB∧1≤r.long∧r.long≤1000∧∀ x∈pre,x.name≠r.name)∧(rs.map TReg.name).Nodup
 | [],_,_=>⟨by simp,by simp⟩
 | r::rs,pre,h=>by
  unfold QD at h;by_cases h0:dC pre r≠0
  ·rw[if_pos h0]at h;exact absurd h h0
  rw[if_neg h0]at h;obtain⟨a1,a2⟩:=zaQ h;have h0:dC pre r=0:=by omega
  unfold dC at h0;split at h0
  ·cases h0
  split at h0
  ·cases h0
  rename_i n1;split at h0
  ·cases h0
  rename_i n2;rw[not_or,not_or]at n1;obtain⟨b1,b2,b3⟩:=n1;have b3:∀x∈pre,x.name≠r.name:=fun x hx e=>b3 (List.any_eq_true.2 ⟨x,hx,by simpa using e⟩)
  refine⟨fun y hy=>?_,?_⟩
  ·rcases List.mem_cons.1 hy with e|e
   ·subst e;exact⟨b1,b2,by omega,by omega,b3⟩
   ·obtain⟨c1,c2,c3,c4,c5⟩:=a1 y e
    exact⟨c1,c2,c3,c4,fun x hx=>c5 x (List.mem_append_left _ hx)⟩
  ·rw[List.map_cons,List.nodup_cons]
   refine⟨fun hm=>?_,a2⟩
   obtain⟨y,hy,e⟩:=List.mem_map.1 hm;exact(a1 y hy).2.2.2.2 r (by simp) e.symm
theorem z9W {d:TDev}:∀{xs pre:List TIns},oE d pre xs=0→∀x∈xs,(x.code.length:Int)=d.long∧(WB d x.reg).isSome=true
 | [],_,_,x,hx=>by cases hx
 | y::xs,pre,h,x,hx=>by
  unfold oE at h;by_cases h0:VB d pre y≠0
  ·rw[if_pos h0]at h;exact absurd h h0
  rw[if_neg h0]at h;have h0:VB d pre y=0:=by omega
  rcases List.mem_cons.1 hx with e|e
  ·subst e
   unfold VB at h0;split at h0
   ·cases h0
   rename_i n1;split at h0
   ·cases h0
   split at h0
   ·cases h0
   split at h0
   ·cases h0
   split at h0
   ·cases h0
   rename_i n5;exact⟨by omega,by cases q:(WB d x.reg).isSome with|true=>rfl|false=>exact absurd q n5⟩
  ·exact z9W h x e
theorem zgA {pre:List TDev}{d:TDev}(h:OF pre d=0):DevOk d∧∀x∈pre,x.name≠d.name:=by
 unfold OF at h;split at h
 ·cases h
 rename_i n1;split at h
 ·cases h
 rename_i n2;split at h
 ·cases h
 rename_i n3;split at h
 ·cases h
 split at h
 ·cases h
 rename_i n5;split at h
 ·rename_i n6;exact absurd h n6
 rename_i n6;have kn:OC d.name=true:=by simpa using n1
 obtain⟨r1,r2⟩:=zaQ (show QD [] d.regs=0 by omega)
 have i1:=z9W h
 refine⟨⟨by omega,by omega,by omega,by omega,fun x hx e=>?_,fun x hx=>(i1 x hx).2,fun r hr=>(r1 r hr).1,fun r hr=>(r1 r hr).2.1,fun r hr=>⟨(r1 r hr).2.2.1,by have:=(r1 r hr).2.2.2.1;omega⟩,r2,by omega,by omega,by have:=(zaa kn).1;omega⟩,fun x hx e=>n2 (List.any_eq_true.2 ⟨x,hx,by simpa using e⟩)⟩
 have:=(i1 x hx).1;rw[e]at this;simp at this;omega
theorem z8s:∀ {ds pre:List TDev},wF pre ds=0→(∀ d∈ds,DevOk d∧∀ x∈pre,x.name≠d.name)∧(ds.map TDev.name).Nodup
 | [],_,_=>⟨by simp,by simp⟩
 | d::ds,pre,h=>by
  unfold wF at h;by_cases h0:OF pre d≠0
  ·rw[if_pos h0]at h;exact absurd h h0
  rw[if_neg h0]at h;obtain⟨b1,b2⟩:=zgA (show OF pre d=0 by omega)
  obtain⟨a1,a2⟩:=z8s h;refine⟨fun y hy=>?_,?_⟩
  ·rcases List.mem_cons.1 hy with e|e
   ·subst e;exact⟨b1,b2⟩
   ·obtain⟨c1,c2⟩:=a1 y e
    exact⟨c1,fun x hx=>c2 x (List.mem_append_left _ hx)⟩
  ·rw[List.map_cons,List.nodup_cons]
   refine⟨fun hm=>?_,a2⟩
   obtain⟨y,hy,e⟩:=List.mem_map.1 hm;exact(a1 y hy).2 d (by simp) e.symm
theorem zgC {ds:List TDev}(h:YE ds=0):(∀d∈ds,DevOk d)∧(ds.map TDev.name).Nodup∧ds≠[]∧ds.length≤20:=by
 unfold YE at h;split at h
 ·cases h
 rename_i n1;split at h
 ·cases h
 obtain⟨a1,a2⟩:=z8s h;exact⟨fun d hd=>(a1 d hd).1,a2,fun e=>n1 (by rw[e];rfl),by omega⟩
structure DevB (d:TDev):Prop where
 n:d.name.length≤1000
 rs:d.regs.length≤1000
 is:d.ins.length≤1000
 rn:∀r∈d.regs,r.name.length≤1000
 ic:∀x∈d.ins,x.code.length≤1000∧x.reg.length≤1000
end Go.Am
end
section
/- Devices looked through: printed by program. -/
open Go
set_option linter.unusedSimpArgs false
namespace Go.Am
attribute [-go_sem] PV.cells splice
variable {h:aA} {K:kA}
theorem z6D {v:AV}{g:Nat}{caps:List AV}{p:PV→Bool}{xs:List PV}(hv:Shows (some 2) v xs h)(hp:sE g caps p xs h)(hl:xs.length≤1000000000) :
 bA X vL [v,.fn g caps] h K=K (AI (EE p xs)) h []:=by
 refine rA ?_;rw[zfo];have vl:=hv.len
 simp only[bT,go_sem,vl];refine XA (fun k:Nat=>⟨[(0,v),(1,.fn g caps),(7,AI xs.length),(8,AI k)],h,[]⟩) (fun k=>k≤xs.length∧∀x∈xs.take k,p x=false) (fun k=>xs.length-k) 0 rfl (by simp) ?_
 rintro k ⟨hk,hn⟩
 rcases Nat.lt_or_ge k xs.length with hlt|hge
 ·obtain⟨a,ha,hb⟩:=hv.get k hlt
  have w2:IntKind.i64.wrap ((k:Int)+1)=((k+1:Nat):Int):=zA _ (by omega) (by omega)
  have ht:=hp _ (List.getElem_mem hlt)
  cases hpk:p xs[k]with
  | true=>
   have hf:xs.findIdx p=k:=by
    rw[List.findIdx_eq hlt];refine⟨hpk,fun j hj=>?_⟩
    have:=hn xs[j] (by rw[List.mem_take_iff_getElem];exact⟨j,by omega,rfl⟩)
    simpa using this
   simp only[go_sem,hlt,ha,hb,ht,hpk,w2];simp only[EE,hf,hlt,if_true]
  | false=>
   simp only[go_sem,hlt,ha,hb,ht,hpk,w2];refine⟨k+1,rfl,⟨by omega,fun x hx=>?_⟩,by omega⟩
   rw[List.take_succ_eq_append_getElem hlt,List.mem_append,List.mem_singleton]at hx;rcases hx with hx|hx
   ·exact hn x hx
   ·rw[hx];exact hpk
 ·have e1:k=xs.length:=by omega
  subst e1;simp only[go_sem,Nat.lt_irrefl];rw[List.take_length]at hn;have:¬xs.findIdx p<xs.length:=by
   rw[Nat.not_lt,Nat.le_iff_lt_or_eq];right
   exact(List.findIdx_eq_length.2 (fun x hx=>by simp [hn x hx])).symm
  simp [EE,this]
theorem ZX {g:Nat}{caps:List AV}{p:PV→Bool}{xs:List PV}(hp:sE g caps p xs h)(hs:jH (some 2) xs)(hl:xs.length≤1000000000) :
 bA X lJ [.p (.sl (some 2) xs),.fn g caps] h K=K (AB (xs.any p)) h []:=by
 refine rA ?_;rw[zfh];have vi:=fun K=>z6D (h:=h) (K:=K) (vR hs) hp hl
 simp only[WS,go_sem,vi,z3b]
theorem zda {v:AV}{g:Nat}{caps:List AV}{p:PV→Bool}{xs:List PV}(hv:Shows (some 2) v xs h)(hp:sE g caps p xs h)(hl:xs.length≤1000000000) :
 bA X SP [v,.fn g caps] h K=K (AI (EE p xs)) h []:=by
 refine rA ?_;rw[zfn];have vl:=hv.len
 simp only[aT,go_sem,vl];refine XA (fun k:Nat=>⟨[(0,v),(1,.fn g caps),(7,AI xs.length),(8,AI k)],h,[]⟩) (fun k=>k≤xs.length∧∀x∈xs.take k,p x=false) (fun k=>xs.length-k) 0 rfl (by simp) ?_
 rintro k ⟨hk,hn⟩
 rcases Nat.lt_or_ge k xs.length with hlt|hge
 ·obtain⟨a,ha,hb⟩:=hv.get k hlt
  have w2:IntKind.i64.wrap ((k:Int)+1)=((k+1:Nat):Int):=zA _ (by omega) (by omega)
  have ht:=hp _ (List.getElem_mem hlt)
  cases hpk:p xs[k]with
  | true=>
   have hf:xs.findIdx p=k:=by
    rw[List.findIdx_eq hlt];refine⟨hpk,fun j hj=>?_⟩
    have:=hn xs[j] (by rw[List.mem_take_iff_getElem];exact⟨j,by omega,rfl⟩)
    simpa using this
   simp only[go_sem,hlt,ha,hb,ht,hpk,w2];simp only[EE,hf,hlt,if_true]
  | false=>
   simp only[go_sem,hlt,ha,hb,ht,hpk,w2];refine⟨k+1,rfl,⟨by omega,fun x hx=>?_⟩,by omega⟩
   rw[List.take_succ_eq_append_getElem hlt,List.mem_append,List.mem_singleton]at hx;rcases hx with hx|hx
   ·exact hn x hx
   ·rw[hx];exact hpk
 ·have e1:k=xs.length:=by omega
  subst e1;simp only[go_sem,Nat.lt_irrefl];rw[List.take_length]at hn;have:¬xs.findIdx p<xs.length:=by
   rw[Nat.not_lt,Nat.le_iff_lt_or_eq];right
   exact(List.findIdx_eq_length.2 (fun x hx=>by simp [hn x hx])).symm
  simp [EE,this]
theorem z6B {g:Nat}{caps:List AV}{p:PV→Bool}{xs:List PV}(hp:sE g caps p xs h)(hs:jH (some 2) xs)(hl:xs.length≤1000000000) :
 bA X sL [.p (.sl (some 2) xs),.fn g caps] h K=K (AB (xs.any p)) h []:=by
 refine rA ?_;rw[zfg];have vi:=fun K=>zda (h:=h) (K:=K) (vR hs) hp hl
 simp only[VS,go_sem,vi,z3b]
theorem zcZ {v:AV}{g:Nat}{caps:List AV}{p:PV→Bool}{xs:List PV}(hv:Shows (some 5) v xs h)(hp:sE g caps p xs h)(hl:xs.length≤1000000000) :
 bA X RP [v,.fn g caps] h K=K (AI (EE p xs)) h []:=by
 refine rA ?_;rw[zfm];have vl:=hv.len
 simp only[ZS,go_sem,vl];refine XA (fun k:Nat=>⟨[(0,v),(1,.fn g caps),(7,AI xs.length),(8,AI k)],h,[]⟩) (fun k=>k≤xs.length∧∀x∈xs.take k,p x=false) (fun k=>xs.length-k) 0 rfl (by simp) ?_
 rintro k ⟨hk,hn⟩
 rcases Nat.lt_or_ge k xs.length with hlt|hge
 ·obtain⟨a,ha,hb⟩:=hv.get k hlt
  have w2:IntKind.i64.wrap ((k:Int)+1)=((k+1:Nat):Int):=zA _ (by omega) (by omega)
  have ht:=hp _ (List.getElem_mem hlt)
  cases hpk:p xs[k]with
  | true=>
   have hf:xs.findIdx p=k:=by
    rw[List.findIdx_eq hlt];refine⟨hpk,fun j hj=>?_⟩
    have:=hn xs[j] (by rw[List.mem_take_iff_getElem];exact⟨j,by omega,rfl⟩)
    simpa using this
   simp only[go_sem,hlt,ha,hb,ht,hpk,w2];simp only[EE,hf,hlt,if_true]
  | false=>
   simp only[go_sem,hlt,ha,hb,ht,hpk,w2];refine⟨k+1,rfl,⟨by omega,fun x hx=>?_⟩,by omega⟩
   rw[List.take_succ_eq_append_getElem hlt,List.mem_append,List.mem_singleton]at hx;rcases hx with hx|hx
   ·exact hn x hx
   ·rw[hx];exact hpk
 ·have e1:k=xs.length:=by omega
  subst e1;simp only[go_sem,Nat.lt_irrefl];rw[List.take_length]at hn;have:¬xs.findIdx p<xs.length:=by
   rw[Nat.not_lt,Nat.le_iff_lt_or_eq];right
   exact(List.findIdx_eq_length.2 (fun x hx=>by simp [hn x hx])).symm
  simp [EE,this]
theorem z6A {g:Nat}{caps:List AV}{p:PV→Bool}{xs:List PV}(hp:sE g caps p xs h)(hs:jH (some 5) xs)(hl:xs.length≤1000000000) :
 bA X rL [.p (.sl (some 5) xs),.fn g caps] h K=K (AB (xs.any p)) h []:=by
 refine rA ?_;rw[zff];have vi:=fun K=>zcZ (h:=h) (K:=K) (vR hs) hp hl
 simp only[US,go_sem,vi,z3b]
end Go.Am
end
section
/- Maps,asv lists of keys with values. -/
open Go
set_option linter.all false
namespace Go.Am
section
variable {α β:Type} [DecidableEq α]
def pD (key:α→PV)(val:β→AV):Nat→List (α×β)→List ME
 | _,[]=>[]
 | n,e::r=>⟨key e.1,val e.2,n⟩::pD key val (n+1) r
def LA (key:α→PV)(val:β→AV)(l:List (α × β)):Obj:=.amap (pD key val 0 l) l.length
def YB (k:α):List (α×β)→Option Nat
 | []=>none
 | e::r=>if k=e.1 then some 0 else(YB k r).map (· + 1)
def RA (k:α):List (α×β)→Option β
 | []=>none
 | e::r=>if k=e.1 then some e.2 else RA k r
def rB (k:α)(v:β):List (α×β)→List (α×β)
 | []=>[(k,v)]
 | e::r=>if k=e.1 then(k,v)::r else e::rB k v r
def aF (k:α)(v:β)(l:List (α × β)):List (α×β):=if(YB k l).isSome then l else l++[(k,v)]
def iF (k:α)(l:List (α × β)):Nat:=(YB k l).getD l.length
def GI (key:α→PV):Prop:=∀a b,PV.eqv (key a) (key b)=some (decide (a=b))
theorem zac:GI PV.str:=fun a b=>rfl
theorem z3g:GI (fun n:Int=>PV.int .i64 n):=fun a b=>by simp [PV.eqv,PV.eq1]
theorem zad {s:List UInt8}:VC (none,[2]) (.p (.str s))=some (.str s):=by simp [VC,PV.key,PV.shp,PV.sc,PV.cells,PV.kind]
theorem z3h {n:Int}{k:IntKind}:VC (none,[0]) (.p (.int k n))=some (.int k n):=by simp [VC,PV.key,PV.shp,PV.sc,PV.cells,PV.kind]
variable {key:α→PV} {val:β→AV}
theorem AU (hk:GI key)(k:α):∀(l:List (α×β)) (n:Nat),KC (key k) (pD key val n l)=some (YB k l)
 | [],n=>rfl
 | e::r,n=>by
  simp only[pD,KC,hk k e.1,YB];by_cases h:k=e.1
  ·simp [h]
  ·simp [h,AU hk k r (n+1)]
theorem zar:∀ (l:List (α × β)) (n:Nat),(pD key val n l).length=l.length
 | [],n=>rfl
 | e::r,n=>by simp [pD,zar r (n+1)]
theorem PL:∀ (l:List (α × β)) (n i:Nat),(pD key val n l)[i]?=(l[i]?).map fun e=>⟨key e.1,val e.2,n+i⟩
 | [],n,i=>rfl
 | e::r,n,0=>rfl
 | e::r,n,i+1=>by simp only[pD,List.getElem?_cons_succ,PL r (n+1) i];rw[show n+1+i=n+(i+1) by omega]
theorem z6t {k:α}:∀{l:List (α×β)} {i:Nat},YB k l=some i→i<l.length
 | [],i,h=>by cases h
 | e::r,i,h=>by
  unfold YB at h;split at h
  ·cases h;simp
  ·obtain⟨j,hj,e2⟩:=Option.map_eq_some_iff.1 h
   have:=z6t hj;simp;omega
theorem QX {k:α}:∀{l:List (α×β)} {i:Nat},YB k l=some i→l[i]?=(RA k l).map fun v=>(k,v)
 | [],i,h=>by cases h
 | e::r,i,h=>by
  unfold YB at h;unfold RA;split at h
  ·rename_i hk;cases h;simp [hk]
  ·rename_i hk
   obtain⟨j,hj,e2⟩:=Option.map_eq_some_iff.1 h;subst e2;rw[if_neg hk,List.getElem?_cons_succ];exact QX hj
theorem z6u {k:α}:∀{l:List (α×β)},YB k l=none→RA k l=none
 | [],h=>rfl
 | e::r,h=>by
  unfold YB at h;unfold RA;split at h
  ·cases h
  ·rename_i hk
   rw[if_neg hk];exact z6u (by simpa using h)
theorem z6v {k:α}:∀{l:List (α×β)} {i:Nat},YB k l=some i→(RA k l).isSome=true
 | [],i,h=>by cases h
 | e::r,i,h=>by
  unfold YB at h;unfold RA;split at h
  ·rename_i hk;simp [hk]
  ·rename_i hk
   obtain⟨j,hj,e2⟩:=Option.map_eq_some_iff.1 h;rw[if_neg hk];exact z6v hj
theorem zmM {k:α}{l:List (α × β)}{n:Nat}:((YB k l).bind fun i=>(pD key val n l)[i]?).map ME.val=(RA k l).map val:=by
 cases h:YB k l with
 | none=>rw[z6u h];rfl
 | some i=>
  simp only[Option.bind_some,PL,QX h];cases RA k l <;> rfl
theorem z6p {k:α}{v:β}:∀{l:List (α×β)},YB k l=none→rB k v l=l++[(k,v)]
 | [],h=>rfl
 | e::r,h=>by
  unfold YB at h;unfold rB;split at h
  ·cases h
  ·rename_i hk
   rw[if_neg hk,z6p (by simpa using h)];rfl
theorem z6q {k:α}{v:β}:∀{l:List (α×β)} {i:Nat},YB k l=some i→rB k v l=l.set i (k,v)
 | [],i,h=>by cases h
 | e::r,i,h=>by
  unfold YB at h;unfold rB;split at h
  ·rename_i hk;cases h;simp [hk]
  ·rename_i hk
   obtain⟨j,hj,e2⟩:=Option.map_eq_some_iff.1 h;subst e2;rw[if_neg hk,z6q hj];rfl
theorem z3l (k:α)(v:β):∀(l:List (α×β)) (n:Nat),pD key val n (l++[(k,v)])=pD key val n l++[⟨key k,val v,n+l.length⟩]
 | [],n=>rfl
 | e::r,n=>by simp only[List.cons_append,pD,z3l k v r (n+1),List.length_cons];rw[show n+1+r.length=n+(r.length+1) by omega]
theorem zas {k:α}{v:β}{l:List (α × β)}{i n:Nat}(h:YB k l=some i):(pD key val n l).modify i (fun e=>{ e with val:=val v })=pD key val n (l.set i (k,v)):=by
 apply List.ext_getElem?
 intro j;rw[List.getElem?_modify,PL,PL,List.getElem?_set];have hi:=z6t h
 have hg:=QX h
 by_cases hij:i=j
 ·subst hij
  rw[hg];simp only[if_true,hi];obtain⟨w,hw⟩:=Option.isSome_iff_exists.1 (z6v h);rw[hw];rfl
 ·simp [hij]
variable {h:aA} {id:Nat} {l:List (α × β)} {kk:Sh × List Nat} {k:α}
theorem BU (hh:h[id]?=some (LA key val l)):AC h (.mp id)=some (id,pD key val 0 l,l.length):=by
 simp only[AC,hh,LA]
theorem EQ (hk:GI key)(hh:h[id]?=some (LA key val l))(hq:VC kk (.p (key k))=some (key k)){ok:Bool}{z:AV} :
 NB kk ok z (.mp id) (.p (key k)) h=some (bif ok then .tup [((RA k l).map val).getD z,AV.p (.bool (RA k l).isSome)] else((RA k l).map val).getD z):=by
 simp only[NB,hq,BU hh,Option.map_some,AU hk,zmM,Option.isSome_map];rfl
theorem z3n (hk:GI key)(hh:h[id]?=some (LA key val l))(hq:VC kk (.p (key k))=some (key k)){v:β}(hv:dH (val v)=true) :
 mC kk (.mp id) (.p (key k)) (val v) h=some (.und,h.set id (LA key val (rB k v l)),uC id (val v)):=by
 simp only[mC,hq,BU hh,hv,AU hk];cases hw:YB k l with
 | none=>
  simp only[LA,z6p hw,z3l,List.length_append,List.length_cons,List.length_nil,Nat.zero_add]
 | some i=>
  simp only[LA,z6q hw,zas hw,List.length_set]
theorem zc2 {k:α}{v:β}:∀{l:List (α×β)},YB k l=none→YB k (l++[(k,v)])=some l.length
 | [],h=>by simp [YB]
 | e::r,h=>by
  unfold YB at h;split at h
  ·cases h
  ·rename_i hk
   have ih:=zc2 (v:=v) (by simpa using h:YB k r=none)
   simp only[List.cons_append,YB,if_neg hk,ih];rfl
theorem zqD {k:α}{v:β}{l:List (α × β)}:YB k (aF k v l)=some (iF k l):=by
 unfold aF iF;cases hw:YB k l with
 | none=>simp [zc2 hw]
 | some i=>simp [hw]
theorem zcr {k:α}{v w:β}{l:List (α × β)}:(aF k v l).set (iF k l) (k,w)=rB k w l:=by
 unfold aF iF;cases hw:YB k l with
 | none=>simp [z6p hw]
 | some i=>simp [z6q hw]
theorem zaq (hk:GI key)(hh:h[id]?=some (LA key val l))(hq:VC kk (.p (key k))=some (key k)){v0:β} :
 cH kk (val v0) (.mp id) (.p (key k)) h=some (.tup [val ((RA k l).getD v0),AV.p (.int .i64 (iF k l))],h.set id (LA key val (aF k v0 l)),[]):=by
 simp only[cH,hq,BU hh,AU hk];unfold aF iF;cases hw:YB k l with
 | none=>
  simp only[z6u hw,Option.isSome_none,Bool.false_eq_true,if_false,LA,z3l,Nat.zero_add,List.length_append,List.length_cons,List.length_nil,Option.getD_none];rfl
 | some i=>
  have hg:=QX hw
  obtain⟨w,hw2⟩:=Option.isSome_iff_exists.1 (z6v hw);rw[hw2]at hg;have hs:h.set id (LA key val l)=h:=by
   apply List.ext_getElem?
   intro j;rw[List.getElem?_set];split
   ·rename_i e;subst e;rw[hh];simp [(List.getElem?_eq_some_iff.1 hh).1]
   ·rfl
  simp only[PL,hg,hw2,Option.isSome_some,if_true,hs,Option.map_some,Option.getD_some,Nat.zero_add];rfl
theorem zeg {l:List (α × β)}{i:Nat}(hi:i<l.length):(pD key val 0 l).findIdx? (fun e=>e.born==i)=some i:=by
 rw[List.findIdx?_eq_some_iff_getElem];have hl:=zar (key:=key) (val:=val) l 0
 have hb:∀j (hj:j<(pD key val 0 l).length),(pD key val 0 l)[j].born=j:=fun j hj=>by
  have h1:=List.getElem?_eq_getElem hj
  rw[PL,List.getElem?_eq_getElem (by omega)]at h1
  simp only[Option.map_some,Option.some.injEq]at h1;rw[←h1];simp
 refine⟨by omega,by simp [hb],fun j hj=>?_⟩
 simp [hb];omega
theorem z8T {v0:β}(hh:h[id]?=some (LA key val (aF k v0 l))){v:β}(hv:dH (val v)=true) :
 aH (.mp id) (.p (.int .i64 (iF k l))) (val v) h=some (.und,h.set id (LA key val (rB k v l)),uC id (val v)):=by
 have hw:=zqD (k:=k) (v:=v0) (l:=l)
 have hn:CB (.p (.int .i64 ((iF k l:Nat):Int)))=some (iF k l):=z3p
 simp only[aH,BU hh,hn,hv,zeg (z6t hw),zas hw,zcr,LA];rw[←zcr (v:=v0),List.length_set]
end
end Go.Am
end
section
/- Devices on a chain: which register is selected: the program. -/
open Go
set_option linter.all false
set_option maxRecDepth 100000
namespace Go.Am
variable {h:aA} {K:kA}
attribute [-go_sem] YA
def uA (r:TReg):PV:=.agg [.str r.name,eI r.long]
def VA (i:TIns):PV:=.agg [.str i.code,.str i.reg]
def BA (d:TDev):PV:=.agg [.str d.name,eI d.long,eI d.id,.sl (some 2) (d.regs.map uA),.sl (some 2) (d.ins.map VA)]
abbrev ZA (d:TDev):AV:=.p (BA d)
abbrev IB (ds:List TDev):AV:=.p (.sl (some 5) (ds.map BA))
def sB (d:TDev):List AV:=[AS d.name,AI d.long,AI d.id,.p (.sl (some 2) (d.regs.map uA)),.p (.sl (some 2) (d.ins.map VA))]
theorem pX {l:List TReg}:jH (some 2) (l.map uA):=fun x hx=>by obtain⟨n,_,rfl⟩:=List.mem_map.1 hx;rfl
theorem z9X {l:List TIns}:jH (some 2) (l.map VA):=fun x hx=>by obtain⟨n,_,rfl⟩:=List.mem_map.1 hx;rfl
theorem z8r {l:List TDev}:jH (some 5) (l.map BA):=fun x hx=>by obtain⟨n,_,rfl⟩:=List.mem_map.1 hx;rfl
def WC (n:List UInt8):PV→Bool
 | .agg (.str s::_)=>decide (s=n)
 | _=>false
theorem z9L {α:Type}(f:α→PV){p:PV→Bool}{q:α→Bool}(hpq:∀ x,p (f x)=q x)(l:List α) :
 (l.find? q=none∧EE p (l.map f) = -1)∨∃k,∃hk:k<l.length,l.find? q=some l[k]∧EE p (l.map f)=(k:Int):=by
 have e:(l.map f).findIdx p=l.findIdx q:=by
  rw[List.findIdx_map];congr 1
  funext x
  exact hpq x
 unfold EE;rw[e,List.length_map];by_cases h:l.findIdx q<l.length
 ·right
  refine⟨l.findIdx q,h,mU (fun x hx=>?_) (List.getElem?_eq_getElem h) List.findIdx_getElem,if_pos h⟩
  obtain⟨j,hj,rfl⟩:=List.mem_take_iff_getElem.1 hx;have:=List.not_of_lt_findIdx (p:=q) (xs:=l) (i:=j) (by omega)
  simpa using this
 ·left
  refine⟨?_,if_neg h⟩;rw[List.find?_eq_none];intro x hx;have:l.findIdx q=l.length:=by have:=List.findIdx_le_length (p:=q) (xs:=l);omega
  rw[List.findIdx_eq_length]at this;simp [this x hx]
def uN (d:TDev)(n:List UInt8):AV:=match WB d n with
 | some r=>.tup [.p (uA r),AB true]
 | none=>.tup [.p (.agg [.str [],eI 0]),AB false]
set_option maxHeartbeats 2000000 in
theorem z5U (d:TDev)(n:List UInt8)(hl:d.regs.length≤1000000):bA X pJ [ZA d,AS n] h K=K (uN d n) h []:=by
 refine rA ?_;rw[zf9 rfl];unfold uN WB yB bB;by_cases h1:n=[98,121,112,97,115,115]
 ·subst h1
  simp only[LG,go_sem,Nat.add_assoc,ZA,BA,uA,if_true,splice]
 have tl:sE gQ [.ref (h.length+1) 0] (WC n) (d.regs.map uA) (h++[.box (sB d),.box [AS n],.box [AS [],AI 0]]):=fun x hx K=>by
  obtain⟨r,_,rfl⟩:=List.mem_map.1 hx;refine rA ?_;rw[zfA rfl];simp only[zT,go_sem,uA,WC]
 have ix:=fun K=>z6D (h:=h++[.box (sB d),.box [AS n],.box [AS [],AI 0]]) (K:=K) (vR pX) tl (by simp;omega)
 rw[if_neg h1];unfold sB at ix;by_cases h2:n=[105,100,99,111,100,101]
 ·subst h2
  have h1:¬([105,100,99,111,100,101]:List UInt8)=[98,121,112,97,115,115]:=by decide
  by_cases h3:d.id=0
  ·rw[if_neg (by simp [h3])]
   rcases z9L uA (p:=WC [105,100,99,111,100,101]) (q:=fun r=>r.name==[105,100,99,111,100,101]) (fun x=>by show decide (x.name=_)=(x.name==_);rw[Bool.eq_iff_iff];simp) d.regs with⟨e1,e2⟩|⟨k,hk,e1,e2⟩
   ·rw[e2]at ix
    rw[e1];simp only[LG,go_sem,Nat.add_assoc,ZA,BA,h1,eq_true h3,↓ix,ix,splice]
   ·rw[e2]at ix
    rw[e1];have hg:=BB uA hk
    have k0:¬(k:Int)<0:=by omega
    have cx:aB (some 2) 0 (uA d.regs[k])=some (uA d.regs[k]):=rfl
    generalize d.regs[k]=r at *;have fp:∀y:TReg,uA y = .agg [.str y.name,eI y.long]:=fun _=>rfl
    rw[fp]at hg cx;simp only[LG,go_sem,Nat.add_assoc,ZA,BA,h1,eq_true h3,↓ix,ix,hk,hg,k0,cx,fp,splice]
  ·rw[if_pos ⟨rfl,h3⟩]
   simp only[LG,go_sem,Nat.add_assoc,ZA,BA,h1,h3,uA,splice]
 ·rw[if_neg (by simp [h2])]
  rcases z9L uA (p:=WC n) (q:=fun r=>r.name==n) (fun x=>by show decide (x.name=n)=(x.name==n);rw[Bool.eq_iff_iff];simp) d.regs with⟨e1,e2⟩|⟨k,hk,e1,e2⟩
  ·rw[e2]at ix
   rw[e1];simp only[LG,go_sem,Nat.add_assoc,ZA,BA,h1,h2,↓ix,ix,splice]
  ·rw[e2]at ix
   rw[e1];have hg:=BB uA hk
   have k0:¬(k:Int)<0:=by omega
   have cx:aB (some 2) 0 (uA d.regs[k])=some (uA d.regs[k]):=rfl
   generalize d.regs[k]=r at *;have fp:∀y:TReg,uA y = .agg [.str y.name,eI y.long]:=fun _=>rfl
   rw[fp]at hg cx;simp only[LG,go_sem,Nat.add_assoc,ZA,BA,h1,h2,↓ix,ix,hk,hg,k0,cx,fp,splice]
attribute [-go_sem] z2C NO
theorem zpi (d:TDev)(code:List UInt8)(hl:d.regs.length≤1000000)(hi:d.ins.length≤1000000):bA X kQ [ZA d,AS code] h K=K (.p (uA ((WB d (IE d code)).getD ⟨[],0⟩))) h []:=by
 refine rA ?_;rw[zfD rfl];have e3:=@z2C
 simp only[DT,go_sem,ZA,BA,List.length_map];refine XA (fun k:Nat=>⟨[(1,AS code),(2,.ref h.length 0),(4,.ref (h.length+1) 0),(5,AS ((d.ins.take k).foldl (fun n x=>if x.code=code then x.reg else n) yB)),(11,.p (.sl (some 2) (d.ins.map VA))),(12,AI d.ins.length),(13,AI k)],h++[.box (sB d),.box [AS [],AI 0]],[]⟩) (fun k=>k≤d.ins.length) (fun k=>d.ins.length-k) 0 rfl (by omega) ?_
 intro k hk;rcases Nat.lt_or_ge k d.ins.length with hlt|hge
 ·have hg:=BB VA hlt
  have w2:IntKind.i64.wrap ((k:Int)+1)=((k+1:Nat):Int):=zA _ (by omega) (by omega)
  have ef:(d.ins.take (k+1)).foldl (fun n x=>if x.code=code then x.reg else n) yB=if d.ins[k].code=code then d.ins[k].reg else(d.ins.take k).foldl (fun n x=>if x.code=code then x.reg else n) yB:=by
   rw[List.take_succ_eq_append_getElem hlt,List.foldl_append];rfl
  have cx:aB (some 2) 0 (VA d.ins[k])=some (VA d.ins[k]):=rfl
  generalize (d.ins.take k).foldl (fun n x=>if x.code=code then x.reg else n) yB=nm at *
  generalize d.ins[k]=i at *;have fp:∀y:TIns,VA y = .agg [.str y.code,.str y.reg]:=fun _=>rfl
  rw[fp]at hg cx;by_cases hc:i.code=code
  ·rw[if_pos hc]at ef
   simp only[go_sem,Nat.add_assoc,hlt,hg,cx,w2,hc,splice];exact⟨k+1,by rw[ef],by omega,by omega⟩
  ·rw[if_neg hc]at ef
   simp only[go_sem,Nat.add_assoc,hlt,hg,cx,w2,hc,splice];exact⟨k+1,by rw[ef],by omega,by omega⟩
 ·have ek:k=d.ins.length:=by omega
  subst ek;rw[List.take_length];have q:=fun h K=>z5U (h:=h) (K:=K) d (IE d code) hl
  unfold uN at q;simp only[go_sem,Nat.lt_irrefl];rw[e3];simp only[NO];have fd:ZA d = .p (.agg [.str d.name,eI d.long,eI d.id,.sl (some 2) (d.regs.map uA),.sl (some 2) (d.ins.map VA)]):=rfl
  have fs:IE d code=d.ins.foldl (fun n x=>if x.code=code then x.reg else n) yB:=rfl
  rw[fd]at q;rw[←fs];cases hr:WB d (IE d code) with
  | none=>
   rw[hr]at q;dsimp only at q;simp only[go_sem,Nat.add_assoc,sB,splice,↓q,q,Option.getD_none,uA]
  | some r=>
   rw[hr]at q;dsimp only at q;simp only[go_sem,Nat.add_assoc,sB,splice,↓q,q,Option.getD_some,uA]
abbrev SM:=List (List UInt8 × List UInt8)
def UA (s:List UInt8):AV:=AS s
def pC (d:TDev)(p:nB)(mi mo:Nat):List AV:=[AS d.name,AI d.long,AI d.id,.p (.sl (some 2) (d.regs.map uA)),.p (.sl (some 2) (d.ins.map VA)),AS p.1,AS p.2,.mp mi,.mp mo]
theorem zbH (d:TDev)(p:nB)(mi mo:Nat){id:Nat}(hh:h[id]?=some (.box (pC d p mi mo)))(hl:d.regs.length≤1000000)(hi:d.ins.length≤1000000):bA X DL [.ref id 0] h K=K (.p (uA (XB d p.1))) h []:=by
 refine rA ?_;rw[zf8 rfl];have hid:id<h.length:=by
  rcases Nat.lt_or_ge id h.length with h1|h1
  ·exact h1
  ·rw[List.getElem?_eq_none h1]at hh;cases hh
 have g:∀l:aA,(h++l)[id]?=some (.box (pC d p mi mo)):=fun l=>by rw[List.getElem?_append_left hid];exact hh
 obtain⟨i,s⟩:=p;unfold XB;dsimp only;have q1:=fun h K=>z5U (h:=h) (K:=K) d bB hl
 have q2:=fun h K=>zpi (h:=h) (K:=K) d i hl hi
 unfold uN bB at q1;unfold pC at g hh;have fd:ZA d = .p (.agg [.str d.name,eI d.long,eI d.id,.sl (some 2) (d.regs.map uA),.sl (some 2) (d.ins.map VA)]):=rfl
 rw[fd]at q1 q2;unfold bB;by_cases hc:i=[]
 ·subst hc
  rw[if_pos rfl];cases hr:WB d [105,100,99,111,100,101]with
  | none=>
   rw[hr]at q1;dsimp only at q1;simp only[UK,go_sem,Nat.add_assoc,hid,g,hh,splice,↓q1,q1,uA,yB]
  | some r=>
   rw[hr]at q1;dsimp only at q1;simp only[UK,go_sem,Nat.add_assoc,hid,g,hh,splice,↓q1,q1,uA]
 ·rw[if_neg hc]
  generalize (WB d (IE d i)).getD ⟨[],0⟩=r at *;have fp:∀y:TReg,uA y = .agg [.str y.name,eI y.long]:=fun _=>rfl
  rw[fp]at q2;simp only[UK,go_sem,Nat.add_assoc,hid,g,hh,hc,splice,↓q2,q2,fp]
end Go.Am
end
section
/- A builder of strings. -/
open Go
set_option linter.all false
namespace Go.Am
variable {h:aA} {K:kA}
theorem znR {b:Nat}:qB b h .nili=some .nili:=by simp only[qB]
attribute [local go_sem] znR
def YD (u:Bool)(id n:Nat):Obj:=.box [bif u then .ref id 0 else .bt 0 bldT id 0,.bt 1 sH (id+1) n]
theorem z0v (id n:Nat):YD true id n = .box [.ref id 0,.bt 1 sH (id+1) n]:=rfl
theorem zef (id n:Nat):YD false id n = .box [.bt 0 bldT id 0,.bt 1 sH (id+1) n]:=rfl
theorem zp4 {o:Obj}{id:Nat}(hh:h[id]?=some o):h.set id o=h:=by
 apply List.ext_getElem?
 intro j;by_cases e:id=j
 ·subst e;rw[List.getElem?_set_self (YG hh),hh]
 ·rw[List.getElem?_set_ne e]
theorem zoF (u:Bool)(id n:Nat)(hh:h[id]?=some (YD u id n)):bA X UP [.ref id 0] h K=K (.tup []) (h.set id (YD true id n)) []:=by
 refine rA ?_;rw[zfs rfl];cases u with
 | true=>
  rw[zp4 hh];rw[z0v]at hh;simp only[HO,go_sem,hh]
 | false=>
  rw[zef]at hh;rw[z0v];simp only[bldT]at hh;simp only[HO,go_sem,hh]
theorem zp3 {h:aA}{i j:Nat}{a b:Obj}(e:i≠j):(h.set i a).set j b=(h.set j b).set i a:=List.set_comm a b e
def FI (h:aA)(u:Bool)(id:Nat)(s:List UInt8):Prop:=h[id]?=some (YD u id s.length)∧h[id+1]?=some (.row none (yA s) 0)
def WH (h:aA)(id:Nat)(s:List UInt8):aA:=(h.set id (YD true id s.length)).set (id+1) (.row none (yA s) 0)
theorem iG (s:List UInt8):(yA s).length=s.length:=by simp [yA]
theorem zen (s t:List UInt8):yA s++yA t=yA (s++t):=by simp [yA]
theorem z5O {u:Bool}{id:Nat}{s t:List UInt8}(H:FI h u id s)(hm:s.length+t.length≤200000000000):bA X tG [.ref id 0,AS t] h K=K (.tup [AI t.length,.nili]) (WH h id (s++t)) []:=by
 refine rA ?_;rw[zfr rfl];have l:=YG H.1
 have l2:=YG H.2
 have e:=fun K=>zoF (K:=K) u id s.length H.1
 have g1:(h.set id (YD true id s.length))[id]?=some (.box [.ref id 0,.bt 1 sH (id+1) s.length]):=by rw[List.getElem?_set_self l,z0v]
 have g2:(h.set id (YD true id s.length))[id+1]?=some (.row none (yA s) 0):=by rw[List.getElem?_set_ne (by omega)];exact H.2
 have g3:∀o,((h.set id (YD true id s.length)).set (id+1) o)[id]?=some (.box [.ref id 0,.bt 1 sH (id+1) s.length]):=fun o=>by rw[List.getElem?_set_ne (by omega)];exact g1
 have hl:s.length+t.length≤GA:=by unfold GA;omega
 simp only[sH]at g1 g3;simp only[gT,go_sem,e,g1,g2,g3,iG,hl];rw[List.take_of_length_le (by simp)]
 unfold WH;rw[zp3 (i:=id+1) (j:=id) (by omega),List.set_set,zen,List.length_append]
 rfl
def CG (h:aA)(id:Nat)(s:List UInt8):aA:=if s=[] then h else h.set (id+1) (.row none (yA s) (s.length+1))
theorem IN (s:List UInt8):mF (yA s)=some s:=by
 induction s with
 | nil=>rfl
 | cons a r ih=>
  have h1:(0:Int)≤(a.toNat:Int)∧(a.toNat:Int)<256:=⟨by omega,by have:=a.toNat_lt;omega⟩
  have e:yA (a::r) = .int .u8 a.toNat::yA r:=rfl
  rw[e];unfold mF;rw[if_pos h1,ih];simp
theorem z5H {u:Bool}{id:Nat}{s:List UInt8}(H:FI h u id s)(hm:s.length≤200000000000):bA X oJ [.ref id 0] h K=K (AS s) (CG h id s) []:=by
 refine rA ?_;rw[zfq rfl];have l:=YG H.1
 have l2:=YG H.2
 have g1:=H.1
 have g2:=H.2
 unfold YD at g1;have hl:s.length≤GA:=by unfold GA;omega
 unfold CG;by_cases h0:s=[]
 ·subst h0
  simp only[sH,List.length_nil]at g1;simp only[GO,go_sem,g1,g2,iG,hl];exact if_pos rfl ▸ trivial
 ·have h0':¬s.length=0:=by simpa using h0
  have h1:1≤s.length:=by omega
  simp only[sH]at g1;have e0:(0:Int)≤(s.length:Int):=by omega
  simp only[GO,go_sem,g1,g2,iG,hl,h0',h1,IN,e0,Int.toNat_natCast,h0]
end Go.Am
end
section
/- Devices on a chain: what is captured;clones: the program. -/
open Go
set_option linter.all false
set_option maxRecDepth 100000
namespace Go.Am
variable {h:aA} {K:kA}
attribute [-go_sem] YA
theorem zox (l:List TReg)(hl:l.length≤1000000):bA X PP [.p (.sl (some 2) (l.map uA))] h K=K (.p (.sl (some 2) (l.map uA))) h []:=by
 refine rA ?_;rw[zfe rfl];simp only[TS];cases l with
 | nil=>
  refine⟨_,_,_,⟨rfl,rfl,rfl⟩,?_⟩;simp only[List.map_nil,List.length_nil,go_sem];trivial
 | cons x r=>
  refine⟨_,_,_,⟨rfl,rfl,rfl⟩,?_⟩;have hm:r.length+1≤GA:=by simp only[List.length_cons]at hl;unfold GA;omega
  simp only[List.map_cons,List.length_cons,go_sem,hm];rw[qE (by simp)]
theorem zow (l:List TIns)(hl:l.length≤1000000):bA X OP [.p (.sl (some 2) (l.map VA))] h K=K (.p (.sl (some 2) (l.map VA))) h []:=by
 refine rA ?_;rw[zfd rfl];simp only[SS];cases l with
 | nil=>
  refine⟨_,_,_,⟨rfl,rfl,rfl⟩,?_⟩;simp only[List.map_nil,List.length_nil,go_sem];trivial
 | cons x r=>
  refine⟨_,_,_,⟨rfl,rfl,rfl⟩,?_⟩;have hm:r.length+1≤GA:=by simp only[List.length_cons]at hl;unfold GA;omega
  simp only[List.map_cons,List.length_cons,go_sem,hm];rw[qE (by simp)]
theorem z9K {id:Int}(h0:0≤id)(h1:id≤4294967295){k:Nat}(hk:k<32):XH .i64 (xJ .i64 id (k:Int)) 1=(((id.toNat >>> k)%2:Nat):Int):=by
 obtain⟨n,rfl⟩:∃n:Nat,id=n:=⟨id.toNat,by omega⟩
 have e:xJ .i64 (n:Int) (k:Int)=((n / 2^k:Nat):Int):=by
  unfold xJ;have:min ((k:Int)).toNat IntKind.i64.bits=k:=by simp only[IntKind.bits,Int.toNat_natCast];omega
  rw[this,show((2:Int)^k)=((2^k:Nat):Int) by simp]
  exact(Int.ofNat_fdiv n (2^k)).symm
 have hn:n / 2^k≤n:=Nat.div_le_self _ _
 rw[e,Int.toNat_natCast,Nat.shiftRight_eq_div_pow];generalize n / 2^k=m at *;unfold XH;have b1:BitVec.ofInt IntKind.i64.bits (m:Int)=BitVec.ofNat 64 m:=by
  show BitVec.ofInt 64 (m:Int)=_
  simp
 have b2:BitVec.ofInt IntKind.i64.bits (1:Int)=BitVec.ofNat 64 1:=rfl
 have e2:(BitVec.ofInt IntKind.i64.bits (m:Int) &&& BitVec.ofInt IntKind.i64.bits 1).toNat=m%2:=by
  rw[b1,b2];show(BitVec.ofNat 64 m &&& BitVec.ofNat 64 1).toNat=_
  rw[BitVec.toNat_and,BitVec.toNat_ofNat,BitVec.toNat_ofNat,Nat.mod_eq_of_lt (by omega),Nat.mod_eq_of_lt (by omega),Nat.and_one_is_mod]
 rw[e2];exact zA _ (by omega) (by omega)
theorem z9J {id:Int}{k:Nat}(hk:k<32):(wC id)[k]?=some (UInt8.ofNat (48+(id.toNat >>> k)%2)):=by
 unfold wC;simp [hk]
theorem z2Z {id:Int}:(wC id).length=32:=by simp [wC]
def InM (d:TDev)(m:SM):Prop:=∀r∈d.regs,RA r.name m=some (zs r.long.toNat)
theorem zal {hp:aA}{id:Nat}{m:SM}{k:List UInt8}(hh:hp[id]?=some (LA PV.str UA m)):NB (none,[2]) false (.p (.str [])) (.mp id) (AS k) hp=some (AS ((RA k m).getD [])):=by
 have:=EQ (key:=PV.str) (val:=UA) zac hh (kk:=(none,[2])) (k:=k) zad (ok:=false) (z:=AS []);rw[this];cases RA k m <;> rfl
theorem z6r {hp:aA}{id:Nat}{m:SM}{k v:List UInt8}(hh:hp[id]?=some (LA PV.str UA m)):mC (none,[2]) (.mp id) (AS k) (AS v) hp=some (.und,hp.set id (LA PV.str UA (rB k v m)),[]):=
 z3n (key:=PV.str) (val:=UA) zac hh (kk:=(none,[2])) (k:=k) zad (v:=v) rfl
attribute [-go_sem] NB
set_option maxHeartbeats 2000000 in
theorem zoD (d:TDev)(D:DevOk d)(p:nB)(mi mo:Nat){id:Nat}(hh:h[id]?=some (.box (pC d p mi mo))){m:SM}(hm:h[mi]?=some (LA PV.str UA m))(hI:InM d m)(hl:d.regs.length≤1000000)(hi:d.ins.length≤1000000) :
 bA X fQ [.ref id 0] h K=K (AS (jG d p.1)) h []:=by
 refine rA ?_;rw[zf7 rfl];have hid:id<h.length:=by
  rcases Nat.lt_or_ge id h.length with h1|h1
  ·exact h1
  ·rw[List.getElem?_eq_none h1]at hh;cases hh
 have him:mi<h.length:=by
  rcases Nat.lt_or_ge mi h.length with h1|h1
  ·exact h1
  ·rw[List.getElem?_eq_none h1]at hm;cases hm
 have g:∀l:aA,(h++l)[id]?=some (.box (pC d p mi mo)):=fun l=>by rw[List.getElem?_append_left hid];exact hh
 have q:=fun h (hh:h[id]?=some (.box (pC d p mi mo))) K=>zbH (h:=h) (K:=K) d p mi mo hh hl hi
 have q0:=q h hh
 have sc:=z6b D p.1
 have lk:∀l:aA,∀k:List UInt8,NB (none,[2]) false (.p (.str [])) (.mp mi) (AS k) (h++l)=some (AS ((RA k m).getD [])):=fun l k=>zal (by rw[List.getElem?_append_left him];exact hm)
 unfold jG;generalize XB d p.1=r at *;have fp:∀y:TReg,uA y = .agg [.str y.name,eI y.long]:=fun _=>rfl
 unfold yB bB at *;rw[fp]at q0;dsimp only;by_cases h1:r.name=[98,121,112,97,115,115]
 ·rw[if_pos h1]
  simp only[TK,go_sem,Nat.add_assoc,↓q0,q0,h1,splice]
 rw[if_neg h1];by_cases h2:r.name=[105,100,99,111,100,101]
 ·rw[if_pos h2]
  have n1:¬([105,100,99,111,100,101]:List UInt8)=[98,121,112,97,115,115]:=by decide
  simp only[TK,go_sem,Nat.add_assoc,↓q0,q0,h2,n1,splice];refine XA (fun k:Nat=>⟨[(0,.ref id 0),(4,.own (h.length+1) k 0 k),(21,AI k)],h++[.box [AS [105,100,99,111,100,101],AI r.long],.row none (yA ((wC d.id).take k)) 0],[]⟩) (fun k=>k≤32) (fun k=>32-k) 0 rfl (by omega) ?_
  intro k hk;have hlk:(yA ((wC d.id).take k)).length=k:=by simp [yA,z2Z];omega
  rcases Nat.lt_or_ge k 32 with hlt|hge
  ·have hlt':(k:Int)<32:=by omega
   have k0:¬(k:Int)<0:=by omega
   have w2:IntKind.i64.wrap ((k:Int)+1)=((k+1:Nat):Int):=zA _ (by omega) (by omega)
   have ib:=z9K D.i0 D.i1 hlt
   have hg:=z9J (id:=d.id) hlt
   have hx:(d.id.toNat >>> k)%2<2:=Nat.mod_lt _ (by omega)
   generalize (d.id.toNat >>> k)%2=b at *;have w3:IntKind.i64.wrap (48+(b:Int))=((48+b:Nat):Int):=by rw[zA _ (by omega) (by omega)];omega
   have w4:IntKind.u8.wrap ((48+b:Nat):Int)=((48+b:Nat):Int):=by simp [IntKind.wrap,IntKind.bits,IntKind.signed];omega
   have gd:∀l:aA,ldB none 2 (h++l)[id]?=some (AI d.id):=fun l=>by rw[g l];rfl
   have e1:yA ((wC d.id).take (k+1))=yA ((wC d.id).take k)++[.int .u8 ((48+b:Nat):Int)]:=by
    rw[List.take_add_one,hg];simp only[Option.toList,yA,List.map_append,List.map_cons,List.map_nil];rw[UInt8.toNat_ofNat'];congr 4
    omega
   have ms:k+1≤GA:=by unfold GA;omega
   have f1:id≤h.length+1:=by omega
   simp only[go_sem,Nat.add_assoc,hlt',k0,gd,ib,w2,w3,w4,hlk,ms,f1];refine⟨k+1,?_,by omega,by omega⟩
   rw[e1]
  ·have ek:k=32:=by omega
   subst ek;have et:(wC d.id).take 32=wC d.id:=List.take_of_length_le (by rw[z2Z];omega)
   rw[et]at hlk ⊢;have tb:mF (yA (wC d.id))=some (wC d.id):=IN _
   have wf:win (yA (wC d.id)) 0 32=yA (wC d.id):=qE hlk
   simp only[go_sem,Nat.lt_irrefl,Nat.add_assoc,hlk,wf,tb]
 ·rw[if_neg h2]
  have hr:r∈d.regs:=by
   rcases sc with c|c|c
   ·exact absurd c h1
   ·exact absurd c h2
   ·exact c
  have hg:=hI r hr
  have lk':=fun l=>lk l r.name
  rw[hg,Option.getD_some]at lk';have gd:∀l:aA,ldB none 7 (h++l)[id]?=some (.mp mi):=fun l=>by rw[g l];rfl
  simp only[TK,go_sem,Nat.add_assoc,↓q0,q0,h1,h2,gd,lk',splice]
end Go.Am
end
section
/- The shortest way between two states of a test access port: a search over a queue. -/
open Go
set_option linter.all false
namespace Go.Am
variable {h:aA} {K:kA}
attribute [-go_sem] NB mC UL VL
def nxtT:List (List Nat):=[[1,0],[1,2],[3,9],[4,5],[4,5],[6,8],[6,7],[4,8],[1,2],[10,0],[11,12],[11,12],[13,15],[13,14],[11,15],[1,2]]
def nxt (s t:Nat):Nat:=(nxtT.getD s []).getD t 0
theorem znr {s t:Nat}(hs:s<16)(ht:t<2):([AI 1,AI 0,AI 1,AI 2,AI 3,AI 9,AI 4,AI 5,AI 4,AI 5,AI 6,AI 8,AI 6,AI 7,AI 4,AI 8,AI 1,AI 2,AI 10,AI 0,AI 11,AI 12,AI 11,AI 12,AI 13,AI 15,AI 13,AI 14,AI 11,AI 15,AI 1,AI 2]:List AV)[s*2+t*1]?=some (AI (nxt s t)):=by
 have hs':s=0∨s=1∨s=2∨s=3∨s=4∨s=5∨s=6∨s=7∨s=8∨s=9∨s=10∨s=11∨s=12∨s=13∨s=14∨s=15:=by omega
 have ht':t=0∨t=1:=by omega
 rcases hs' with rfl|rfl|rfl|rfl|rfl|rfl|rfl|rfl|rfl|rfl|rfl|rfl|rfl|rfl|rfl|rfl <;> rcases ht' with rfl|rfl <;> rfl
theorem z9A {Y:Ctx}(hY:Y.fn uG=some RN)(s t:Nat)(hs:s<16)(ht:t<2):bA Y uG [AI s,AI t] h K=K (AI (nxt s t)) h []:=by
 refine rA ?_;rw[tA hY rfl (show oA h [AI s,AI t]=some ([AI s,AI t],h) from rfl) rfl,z8C]
 show yT _ _ _ _ _ _ (mA [.t 4] false _ _)
 have g:=znr hs ht
 simp only[yT,go_sem,hs,ht,g]
abbrev BD:=List (Int × List UInt8)
def MD (n:Int):PV:=.int .i64 n
def UD (s:List UInt8):AV:=.p (.str s)
def KI (t:Nat):List UInt8:=[UInt8.ofNat (48+t)]
def BI (at_ t:Nat)(s:BD × List Nat):BD×List Nat:=
 if(RA (nxt at_ t:Int) s.1).isSome then s else(rB (nxt at_ t:Int) ((RA (at_:Int) s.1).getD []++KI t) s.1,s.2++[nxt at_ t])
def lH (at_:Nat):Nat→BD×List Nat→BD×List Nat
 | 0,s=>s
 | t+1,s=>BI at_ t (lH at_ t s)
def popS (s:BD × List Nat):BD×List Nat:=match s.2 with
 | []=>s
 | a::r=>lH a 2 (s.1,r)
def bfs (a:Nat):Nat→BD×List Nat
 | 0=>([((a:Int),[])],[a])
 | k+1=>popS (bfs a k)
def jA (a b:Nat):List UInt8:=(RA (b:Int) (bfs a 16).1).getD []
def JL (s:BD × List Nat):Bool:=decide (s.1.length≤16)&&decide (s.2.length≤16)&&s.2.all (fun x=>decide (x<16))&&s.1.all (fun e=>decide (e.2.length≤16))
theorem z77:(List.range 16).all (fun a=>(List.range 16).all (fun k=>JL (bfs a k) && !(bfs a k).2.isEmpty)&&JL (bfs a 16)&&(bfs a 16).2.isEmpty)=true:=by kernel_rfl
theorem zdL {a k:Nat}(ha:a<16)(hk:k<16):JL (bfs a k)=true∧(bfs a k).2≠[]:=by
 have h1:=List.all_eq_true.1 z77 a (List.mem_range.2 ha)
 simp only[Bool.and_eq_true]at h1;have h2:=List.all_eq_true.1 h1.1.1 k (List.mem_range.2 hk)
 simp only[Bool.and_eq_true,Bool.not_eq_true',List.isEmpty_eq_false_iff]at h2;exact h2
theorem zdK {a:Nat}(ha:a<16):JL (bfs a 16)=true∧(bfs a 16).2=[]:=by
 have h1:=List.all_eq_true.1 z77 a (List.mem_range.2 ha)
 simp only[Bool.and_eq_true,List.isEmpty_iff]at h1;exact⟨h1.1.2,h1.2⟩
theorem zkK {s:BD × List Nat}(hf:JL s=true):s.1.length≤16∧s.2.length≤16∧(∀x∈s.2,x<16)∧∀e∈s.1,e.2.length≤16:=by
 unfold JL at hf;simp only[Bool.and_eq_true,decide_eq_true_eq,List.all_eq_true]at hf;exact⟨hf.1.1.1,hf.1.1.2,hf.1.2,hf.2⟩
theorem zak {hp:aA}{id:Nat}{m:BD}{b:Int}(hh:hp[id]?=some (LA MD UD m)):NB (none,[0]) false (.p (.str [])) (.mp id) (AI b) hp=some (.p (.str ((RA b m).getD []))):=by
 have:=EQ (key:=MD) (val:=UD) (fun a b=>z3g a b) hh (kk:=(none,[0])) (k:=b) z3h (ok:=false) (z:=.p (.str []))
 rw[cond_false]at this;refine this.trans ?_;cases RA b m <;> rfl
theorem lookQ {hp:aA}{id:Nat}{m:BD}{b:Int}(hh:hp[id]?=some (LA MD UD m)):NB (none,[0]) true (.p (.str [])) (.mp id) (AI b) hp=some (.tup [.p (.str ((RA b m).getD [])),AB (RA b m).isSome]):=by
 have:=EQ (key:=MD) (val:=UD) (fun a b=>z3g a b) hh (kk:=(none,[0])) (k:=b) z3h (ok:=true) (z:=.p (.str []))
 rw[cond_true]at this;refine this.trans ?_;cases RA b m <;> rfl
theorem updP {hp:aA}{id:Nat}{m:BD}{b:Int}{v:List UInt8}(hh:hp[id]?=some (LA MD UD m)):mC (none,[0]) (.mp id) (AI b) (.p (.str v)) hp=some (.und,hp.set id (LA MD UD (rB b v m)),[]):=
 z3n (key:=MD) (val:=UD) (fun a b=>z3g a b) hh (kk:=(none,[0])) (k:=b) z3h (v:=v) rfl
structure Que (R:aA) (i:Nat) (xs:List Nat) (off:Nat) (q:List Nat):Prop where
 get:R[i]?=some (.row none (xs.map fun n:Nat=>eI n) 0)
 le:off≤xs.length
 eq:xs.drop off=q
theorem znq {hp:aA}{id:Nat}{xs:List Nat}{off:Nat}{n:Int}{k:AV→aA→Esc→Prop}(hh:hp[id]?=some (.row none (xs.map fun n:Nat=>eI n) 0))(ho:off≤xs.length)(hm:xs.length≤1000000)
 (k1:k (.own id (xs.length+1) off (xs.length-off+1)) (hp.set id (.row none (xs.map (fun n:Nat=>eI n)++[eI n]) 0)) [])
 (k2:k (.own hp.length (xs.length-off+1) 0 (xs.length-off+1)) (hp++[.row none ((xs.drop off).map (fun n:Nat=>eI n)++[eI n]) 0]) []) :
 nqK (some none) [.own id xs.length off (xs.length-off),.p (.sl none [eI n])] hp k:=by
 have hx:xs.length-off+1≤GA:=by unfold GA;omega
 have hr:rds hp (.p (.sl none [eI n]))=some (none,[eI n]):=rfl
 have hw:win (xs.map fun n:Nat=>eI n) off (xs.length-off)=(xs.drop off).map fun n:Nat=>eI n:=by
  unfold win;rw[←List.map_drop];exact List.take_of_length_le (by simp)
 unfold nqK tK appq;simp only[hr,if_true,hh,List.length_map,List.length_cons,List.length_nil,Nat.zero_add];rw[if_pos ⟨trivial,trivial,by omega,hx,Nat.zero_le _⟩,hw]
 refine⟨by simp,fun y hy=>?_⟩
 simp only[List.mem_cons,List.not_mem_nil,or_false]at hy;rcases hy with rfl|rfl
 ·exact k1
 ·exact k2
theorem zap {α β:Type}[DecidableEq α]{k:α}{v:β}:∀{l:List (α×β)} {e:α×β},e∈rB k v l→e∈l∨e=(k,v)
 | [],e,h=>by simp [rB]at h;exact .inr h
 | x::r,e,h=>by
  unfold rB at h;split at h
  ·rcases List.mem_cons.1 h with h|h
   ·exact .inr h
   ·exact .inl (List.mem_cons_of_mem _ h)
  ·rcases List.mem_cons.1 h with h|h
   ·exact .inl (h ▸ List.mem_cons_self)
   ·rcases zap h with h|h
    ·exact .inl (List.mem_cons_of_mem _ h)
    ·exact .inr h
theorem z9E {α β:Type}[DecidableEq α]{k:α}{v:β}:∀{l:List (α×β)},RA k l=some v→(k,v)∈l
 | [],h=>by cases h
 | x::r,h=>by
  unfold RA at h;split at h
  ·rename_i he;cases h;subst he;simp
  ·exact List.mem_cons_of_mem _ (z9E h)
theorem zc1 {n:Nat}{w:BD}(hw:∀ e∈w,e.2.length≤n)(k:Int):((RA k w).getD []).length≤n:=by
 cases hg:RA k w with
 | none=>simp
 | some v=>exact hw _ (z9E hg)
theorem zq6 {n at_ t:Nat}{s:BD × List Nat}(hw:∀ e∈s.1,e.2.length≤n):∀e∈(BI at_ t s).1,e.2.length≤n+1:=by
 unfold BI;split
 ·intro e he;have:=hw e he;omega
 ·intro e he
  rcases zap he with h|h
  ·have:=hw e h;omega
  ·subst h
   have:=zc1 hw (at_:Int);simp [KI];omega
theorem zct {n at_:Nat}{s:BD × List Nat}(hw:∀ e∈s.1,e.2.length≤n):∀(t:Nat),∀e∈(lH at_ t s).1,e.2.length≤n+t
 | 0=>hw
 | t+1=>zq6 (zct hw t)
set_option maxHeartbeats 1000000 in
theorem zkZ {Y:Ctx}(hY1:Y.fn CL=some ER)(hY2:Y.fn uG=some RN)(a b:Nat)(ha:a<16)(hb:b<16):bA Y CL [AI a,AI b] h K=K (.p (.str (jA a b))) h []:=by
 refine rA ?_;rw[XN hY1 rfl (show oA h [AI a,AI b]=some ([AI a,AI b],h) from rfl) rfl]
 simp only[z8D];show ∃v h' x,_∧MO _ _ _ _ _ _ _ _ (mA [.t 4] false _ _)
 simp only[MO];refine⟨_,_,_,⟨rfl,rfl,rfl⟩,?_⟩;have em:LA MD UD [((a:Int),([]:List UInt8))] = .amap [⟨.int .i64 a,.p (.str []),0⟩] 1:=rfl
 have u0:=fun(hp:aA) (hh:hp[h.length]?=some (LA MD UD []))=>updP (b:=(a:Int)) (v:=[]) hh
 have e0:rB (a:Int) [] ([]:BD)=[((a:Int),[])]:=rfl
 have em0:LA MD UD ([]:BD) = .amap [] 0:=rfl
 rw[e0]at u0;simp only[em0]at u0;simp only[go_sem,u0];refine XA (fun t:Nat×aA×Nat×List Nat×Nat×Option Nat=>⟨[(1,AI b),(5,.mp h.length),(6,.own (h.length+(t.2.2.1+1)) t.2.2.2.1.length t.2.2.2.2.1 (t.2.2.2.1.length-t.2.2.2.2.1))]++(match t.2.2.2.2.2 with|none=>[]|some q=>[(7,AI q),(25,AI 2),(26,AB false)]),h++LA MD UD (bfs a t.1).1::t.2.1,[]⟩)
  (fun t=>t.1≤16∧Que t.2.1 t.2.2.1 t.2.2.2.1 t.2.2.2.2.1 (bfs a t.1).2∧t.2.2.2.1.length≤1+2*t.1) (fun t=>16-t.1) (0,[.row none [eI a] 0],0,[a],0,none) (by simp [bfs]) ⟨by simp,⟨rfl,by simp,rfl⟩,by simp⟩ ?_
 rintro⟨k,R,i,xs,off,oq⟩ ⟨h1,hq,h2⟩
 dsimp only at h1 hq h2 ⊢;have hqg:=hq.get
 have hle:=hq.le
 have heq:=hq.eq
 have hln:xs.length-off=(bfs a k).2.length:=by rw[←heq];simp
 by_cases hk:k<16
 ·obtain⟨hf,hne⟩:=zdL ha hk
  obtain⟨f1,f2,f3,f4⟩:=zkK hf;have hpos:0<xs.length-off:=by rw[hln];exact List.length_pos_iff.2 hne
  have hoff:off<xs.length:=by omega
  obtain⟨q0,qr,hqe⟩:∃q0 qr,(bfs a k).2=q0::qr:=by
   cases hb2:(bfs a k).2 with
   | nil=>exact absurd hb2 hne
   | cons x y=>exact⟨x,y,rfl⟩
  have hx0:xs[off]?=some q0:=by
   have:(xs.drop off)[0]?=some q0:=by rw[heq,hqe];rfl
   rwa [List.getElem?_drop,Nat.add_zero]at this
  have hdr:xs.drop (off+1)=qr:=by
   rw[←List.drop_drop,heq,hqe];rfl
  have hq0:q0<16:=f3 q0 (by rw[hqe];simp)
  have hgq:(xs.map fun n:Nat=>eI n)[off]?=some (eI q0):=by rw[List.getElem?_map,hx0];rfl
  have hpi:(0:Int)<((xs.length-off:Nat):Int):=by omega
  have hl1:1≤xs.length-off:=by omega
  have hbn:bfs a (k+1)=lH q0 2 ((bfs a k).1,qr):=by show popS _=_;unfold popS;rw[hqe]
  have e3:xs.length-off-1=xs.length-(off+1):=by omega
  have hcond:off+(xs.length-off)≤xs.length:=by omega
  have hNL:∀(e:List (Nat×AV)),SA (some [1,5,6,7,25]) e=SA (some [1,5,6,7,25]) e:=fun _=>rfl
  rcases oq with _|oq
  all_goals
  simp only[List.append_nil,List.cons_append,List.nil_append,go_sem,List.getElem?_cons_succ,hqg,hpi,hpos,hgq,hl1,hcond];all_goals
  clear u0 em em0 e0;generalize hw0:((bfs a k).1,qr)=s0 at *;have es1:(bfs a k).1=s0.1:=by rw[←hw0]
  have es2:qr=s0.2:=by rw[←hw0]
  rw[es1,e3];refine XA (fun t:Nat×aA×Nat×List Nat×Nat=>⟨[(1,AI b),(5,.mp h.length),(6,.own (h.length+(t.2.2.1+1)) t.2.2.2.1.length t.2.2.2.2 (t.2.2.2.1.length-t.2.2.2.2)),(7,AI q0),(25,AI t.1)],h++LA MD UD (lH q0 t.1 s0).1::t.2.1,[]⟩)
   (fun t=>t.1≤2∧Que t.2.1 t.2.2.1 t.2.2.2.1 t.2.2.2.2 (lH q0 t.1 s0).2∧t.2.2.2.1.length≤1+2*k+t.1) (fun t=>2-t.1) (0,R,i,xs,off+1) rfl ⟨by simp,⟨hqg,hoff,by rw[hdr,es2];rfl⟩,by simp;omega⟩ ?_
  rintro⟨j,R',i',ys,of'⟩ ⟨j1,jq,j2⟩
  dsimp only at j1 jq j2 ⊢;have jg:=jq.get
  have jle:=jq.le
  have jeq:=jq.eq
  by_cases hj:j<2
  ·have hji:(j:Int)<2:=by omega
   have qn:=fun h K=>z9A (h:=h) (K:=K) hY2 q0 j hq0 hj
   have hvis:lH q0 (j+1) s0=BI q0 j (lH q0 j s0):=rfl
   generalize hsj:lH q0 j s0=s at *;have lq:=fun(hp:aA) (hh:hp[h.length]?=some (LA MD UD s.1))=>lookQ (b:=(nxt q0 j:Int)) hh
   have lp:=fun(hp:aA) (hh:hp[h.length]?=some (LA MD UD s.1))=>zak (b:=(q0:Int)) hh
   have up:=fun(hp:aA) (v:List UInt8) (hh:hp[h.length]?=some (LA MD UD s.1))=>updP (b:=(nxt q0 j:Int)) (v:=v) hh
   have w1:IntKind.i64.wrap ((j:Int)+1)=((j+1:Nat):Int):=zA _ (by omega) (by omega)
   cases hs:(RA (nxt q0 j:Int) s.1).isSome with
   | true=>
    have hv:BI q0 j s=s:=by unfold BI;rw[if_pos hs]
    rw[hv]at hvis;simp only[go_sem,hji,↓qn,qn,lq,hs,w1];exact⟨(j+1,R',i',ys,of'),by dsimp only;rw[hvis],⟨by dsimp only;omega,by dsimp only;rw[hvis];exact jq,by dsimp only;omega⟩,by dsimp only;omega⟩
   | false=>
    have hv:BI q0 j s=(rB (nxt q0 j:Int) ((RA (q0:Int) s.1).getD []++KI j) s.1,s.2++[nxt q0 j]):=by unfold BI;rw[hs];rfl
    rw[hv]at hvis;have w2:IntKind.i64.wrap (48+(j:Int))=((48+j:Nat):Int):=zA _ (by omega) (by omega)
    have w3:IntKind.i32.wrap ((48+j:Nat):Int)=((48+j:Nat):Int):=by
     have:j=0∨j=1:=by omega
     rcases this with rfl|rfl <;> rfl
    have w4:(0:Int)≤((48+j:Nat):Int)∧((48+j:Nat):Int)<128:=by omega
    have hln2:=zc1 (zct (n:=16) (at_:=q0) (s:=s0) (by rw[←es1];exact f4) j) (q0:Int)
    rw[hsj]at hln2;have w5:((RA (q0:Int) s.1).getD []).length+(KI j).length≤PA:=by have:(KI j).length=1:=rfl;unfold PA;omega
    have w6:[UInt8.ofNat ((48+j:Nat):Int).toNat]=KI j:=rfl
    simp only[go_sem,hji,↓qn,qn,lq,hs,lp,up,w1,w2,w3,w4,w5,w6];have hh1:(h++LA MD UD (rB (nxt q0 j:Int) ((RA (q0:Int) s.1).getD []++KI j) s.1)::R')[h.length+(i'+1)]?=some (.row none (ys.map fun n:Nat=>eI n) 0):=by
     rw[List.getElem?_append_right (by omega)];simpa using jg
    have hi':i'<R'.length:=JA jg
    refine znq hh1 jle (by omega) ?_ ?_
    ·refine⟨(j+1,R'.set i' (.row none (ys.map (fun n:Nat=>eI n)++[eI (nxt q0 j)]) 0),i',ys++[nxt q0 j],of'),?_,⟨by dsimp only;omega,⟨?_,?_,?_⟩,?_⟩,by dsimp only;omega⟩
     ·dsimp only
      rw[hvis,List.set_append_right _ _ (by omega)]
      simp only[List.length_append,List.length_cons,List.length_nil,Nat.add_sub_cancel_left,List.set_cons_succ];rw[show ys.length+1-of'=ys.length-of'+1 by omega]
     ·dsimp only
      rw[List.getElem?_set_self hi'];simp
     ·simp;omega
     ·dsimp only
      rw[hvis,List.drop_append_of_le_length jle,jeq]
     ·simp;omega
    ·refine⟨(j+1,R'++[.row none ((ys.drop of').map (fun n:Nat=>eI n)++[eI (nxt q0 j)]) 0],R'.length,ys.drop of'++[nxt q0 j],0),?_,⟨by dsimp only;omega,⟨?_,?_,?_⟩,?_⟩,by dsimp only;omega⟩
     ·dsimp only
      rw[hvis];simp
     ·simp
     ·simp
     ·dsimp only
      rw[hvis,jeq,List.drop_zero]
     ·simp;omega
  ·have hj2:j=2:=by omega
   subst hj2;simp only[go_sem];refine⟨(k+1,R',i',ys,of',some q0),?_,⟨by dsimp only;omega,by dsimp only;rw[hbn];exact jq,by dsimp only;omega⟩,by dsimp only;omega⟩
   dsimp only;rw[hbn]
 ·have hk16:k=16:=by omega
  subst hk16;obtain⟨_,hne⟩:=zdK ha;have hz:xs.length-off=0:=by rw[hln,hne];rfl
  have lk:=fun(hp:aA) (hh:hp[h.length]?=some (LA MD UD (bfs a 16).1))=>zak (b:=(b:Int)) hh
  have hpv:(RA (b:Int) (bfs a 16).1).getD []=jA a b:=rfl
  rcases oq with _|oq <;> simp only[List.append_nil,List.cons_append,List.nil_append,go_sem,hz,lk,hpv]
end Go.Am
end
section
/- Numbers asv sets of bits;rows of a test asv numbers. -/
set_option linter.all false
namespace Go.Am
theorem zee {s:List UInt8}(k:Nat)(h:EA s=true):EA (s.take k)=true:=by
 unfold EA at *;rw[List.all_eq_true]at *;exact fun x hx=>h x (List.mem_of_mem_take hx)
theorem zea {s:List UInt8}{k:Nat}(hk:k<s.length)(h:EA s=true):s[k]=48∨s[k]=49:=by
 unfold EA at h;have:=List.all_eq_true.1 h _ (List.getElem_mem hk);unfold ML at this;simpa [List.contains_cons] using this
end Go.Am
end
section
/- Walks over the states,and the ways that the reference looks for. -/
open Go
set_option linter.all false
namespace Go.Am
variable {h:aA} {K:kA}
attribute [-go_sem] NB mC UL VL
attribute [-go_sem] gI
def aftL:List PV:=[eI 1,eI 0,eI 1,eI 2,eI 3,eI 9,eI 4,eI 5,eI 4,eI 5,eI 6,eI 8,eI 6,eI 7,eI 4,eI 8,eI 1,eI 2,eI 10,eI 0,eI 11,eI 12,eI 11,eI 12,eI 13,eI 15,eI 13,eI 14,eI 11,eI 15,eI 1,eI 2]
theorem zlm {s:Nat}(hs:s<16):gI 16 (some 2) (.p (.agg aftL)) (AI s)=some (.p (.agg [eI (stp s 0),eI (stp s 1)])):=by
 have hs':s=0∨s=1∨s=2∨s=3∨s=4∨s=5∨s=6∨s=7∨s=8∨s=9∨s=10∨s=11∨s=12∨s=13∨s=14∨s=15:=by omega
 rcases hs' with rfl|rfl|rfl|rfl|rfl|rfl|rfl|rfl|rfl|rfl|rfl|rfl|rfl|rfl|rfl|rfl <;> rfl
theorem zll {s t:Nat}(ht:t<2):gI 2 none (.p (.agg [eI (stp s 0),eI (stp s 1)])) (AI t)=some (AI (stp s t)):=by
 have ht':t=0∨t=1:=by omega
 rcases ht' with rfl|rfl <;> rfl
theorem zb9 (s t:Nat)(hs:s<16)(ht:t<2):bA X lL [AI s,AI t] h K=K (AI (stp s t)) h []:=by
 refine rA ?_;rw[zeH rfl];have g:=zlm hs
 have g2:=zll (s:=s) ht
 unfold aftL at g;simp only[vS,go_sem,g,g2]
abbrev AIs (l:List Nat):AV:=.p (.sl none (l.map fun n:Nat=>eI n))
theorem EX (s:Nat)(l:List UInt8)(hs:s<16)(hb:EA l=true)(hl:l.length≤1000000):bA X EP [AI s,AS l] h K=K (AIs (eE s l)) h []:=by
 refine rA ?_;rw[zeG rfl];have hmx:l.length≤GA:=by unfold GA;omega
 simp only[uS,go_sem,hmx];refine XA (fun k:Nat=>⟨[(0,AI (xB s (l.take k))),(5,.own h.length k 0 k),(9,.own (h.length+1) l.length 0 l.length),(10,AI l.length),(11,AI k)],h++[.row none ((eE s (l.take k)).map fun n:Nat=>eI n) 0,.row none (yA l) 0],[]⟩) (fun k=>k≤l.length) (fun k=>l.length-k) 0 rfl (by omega) ?_
 intro k hk;rcases Nat.lt_or_ge k l.length with hlt|hge
 ·have g:(yA l)[k]?=some (.int .u8 (l[k].toNat:Int)):=by unfold yA;rw[List.getElem?_map,List.getElem?_eq_getElem hlt];rfl
  have w2:IntKind.i64.wrap ((k:Int)+1)=((k+1:Nat):Int):=zA _ (by omega) (by omega)
  have bt:=zea hlt hb
  have e1:IntKind.u8.wrap ((l[k].toNat:Int)-48)=((l[k].toNat-48:Nat):Int):=by
   rcases bt with e|e <;> rw[e] <;> rfl
  have hsm:l[k].toNat-48<2:=by rcases bt with e|e <;> rw[e] <;> decide
  have e2:IntKind.i64.wrap ((l[k].toNat-48:Nat):Int)=((l[k].toNat-48:Nat):Int):=zA _ (by omega) (by omega)
  have he:=z8L hs (zee k hb)
  have hlen:((eE s (l.take k)).map fun n:Nat=>eI n).length=k:=by simp [LN];omega
  have hmx2:k+1≤GA:=by unfold GA;omega
  have hbl:(yA l).length=l.length:=by simp [yA]
  simp only[go_sem,hlt,g,e1,e2,zb9 _ _ he hsm,w2,hlen,hmx2,hbl];refine⟨k+1,?_,by omega,by omega⟩
  rw[List.take_succ_eq_append_getElem hlt,z6s,z8M];simp [stW]
 ·have ek:k=l.length:=by omega
  subst ek;have hlen:((eE s l).map fun n:Nat=>eI n).length=l.length:=by simp [LN]
  simp only[go_sem,Nat.lt_irrefl,List.take_length,hlen];exact congrArg (fun l=>AV.p (.sl none l)) (List.take_of_length_le (by simp [LN]))
def SD (h:aA):Nat→aA
 | 0=>h
 | k+1=>SD h k++[.row none ((gB (k+1)).map PV.str) 0]
theorem z5A (h:aA):∀k,(SD h k).take h.length=h
 | 0=>List.take_length
 | k+1=>by
  have:h.length≤(SD h k).length:=by have:=congrArg List.length (z5A h k);simp at this;omega
  rw[SD,List.take_append_of_le_length this,z5A h k]
theorem z59 (h:aA):∀k,(SD h k).length=h.length+k
 | 0=>rfl
 | k+1=>by rw[SD,List.length_append,z59 h k];rfl
def flS (l:List (List UInt8)):List (List UInt8):=l.flatMap fun s=>[s++[48],s++[49]]
theorem zkL (l:List (List UInt8)):(flS l).length=2*l.length:=by
 unfold flS;induction l with
 | nil=>rfl
 | cons a r ih=>simp [ih];omega
theorem zkM (l:List (List UInt8))(s:List UInt8):flS (l++[s])=flS l++[s++[48],s++[49]]:=by simp [flS]
theorem zoj (k:Nat):gB (k+1)=flS (gB k):=rfl
def rowV (h:aA):Nat→AV
 | 0=>.p (.sl none [.str []])
 | k+1=>.own (h.length+k) (2^(k+1)) 0 (2^(k+1))
set_option maxHeartbeats 1000000 in
theorem zo8 (a b:Nat)(ha:a<16)(w:List UInt8)(hw:fK a b 9 0=some w):bA X bE [AI a,AI b] h K=K (AS w) h []:=by
 obtain⟨kw,hk8,hfw,hno⟩:=zcy hw;have hit:∀{k i:Nat} {s:List UInt8},k≤kw→(∀x∈(gB k).take i,(xB a x==b)=false)→(gB k)[i]?=some s→(xB a s==b)=true→s=w:=by
  intro k i s hk h1 h2 h3;have:=mU (p:=fun s=>xB a s==b) h1 h2 h3
  rcases Nat.lt_or_ge k kw with h4|h4
  ·rw[hno k h4]at this;cases this
  ·obtain rfl:k=kw:=by omega
   rw[hfw]at this;exact(Option.some.inj this).symm
 have miss:∀{k i:Nat},k≤kw→(∀x∈(gB k).take i,(xB a x==b)=false)→(gB k).length≤i→k+1≤kw:=by
  intro k i hk h1 h2;rcases Nat.lt_or_ge k kw with h4|h4
  ·omega
  ·obtain rfl:k=kw:=by omega
   rw[List.take_of_length_le h2]at h1;rw[z9g (p:=fun s=>xB a s==b) h1]at hfw;cases hfw
 refine rA ?_;rw[zeB rfl];simp only[sS,go_sem];refine XA (fun k:Nat=>⟨[(0,AI a),(1,AI b),(5,rowV h k)],SD h k,[]⟩) (fun k=>k≤kw) (fun k=>kw-k) 0 rfl (by omega) ?_
 intro k hk;have hp2:(2:Nat)^k≤2^8:=Nat.pow_le_pow_right (by omega) (by omega)
 have hp3:(2:Nat)^8=256:=rfl
 cases k with
 | zero=>
  dsimp only[rowV,SD];simp only[go_sem];refine XA (fun i:Nat=>⟨[(0,AI a),(1,AI b),(6,.own (h.length+0) (2*i) 0 (2*i)),(12,.p (.sl none [.str []])),(13,AI (2^0:Nat)),(14,AI i)],h++[.row none ((flS ((gB 0).take i)).map PV.str) 0],[]⟩) (fun i=>i≤2^0∧∀x∈(gB 0).take i,(xB a x==b)=false) (fun i=>2^0-i) 0 rfl ⟨Nat.zero_le _,by simp⟩ ?_
  rintro i ⟨hi,hn⟩
  rcases Nat.lt_or_ge i (2^0) with hlt|hge
  ·have hlt':i<(gB 0).length:=by rw[WJ];exact hlt
   have hg:=BB PV.str hlt'
   obtain⟨hbs,hls⟩:=uX (List.getElem_mem hlt');have hgs:(gB 0)[i]?=some (gB 0)[i]:=List.getElem?_eq_getElem hlt'
   have cx:aB none 0 (PV.str (gB 0)[i])=some (PV.str (gB 0)[i]):=rfl
   have w2:IntKind.i64.wrap ((i:Int)+1)=((i+1:Nat):Int):=zA _ (by omega) (by omega)
   have htk:(gB 0).take (i+1)=(gB 0).take i++[(gB 0)[i]]:=List.take_succ_eq_append_getElem hlt'
   generalize hse:(gB 0)[i]=s at *;have hcond:(xB a s==b)=decide ((xB a s:Int)=(b:Int)):=by
    rw[Bool.eq_iff_iff,beq_iff_eq,decide_eq_true_iff];omega
   obtain rfl:s=[]:=List.eq_nil_of_length_eq_zero hls;obtain rfl:i=0:=by simpa using hlt
   have hmx:(2*0)+2≤GA:=by unfold GA;omega
   have hfl:((flS ((gB 0).take 0)).map PV.str).length=2*0:=rfl
   have hgz:[PV.str []][0]?=some (PV.str []):=rfl
   rcases hb:decide ((a:Int)=(b:Int)) with _|_
   ·have hne:¬((a:Int)=(b:Int)):=of_decide_eq_false hb
    have h01:(0:Int)<((2^0:Nat):Int):=by decide
    have w1:IntKind.i64.wrap 1=((1:Nat):Int):=rfl
    have hst:1≤PA:=by decide
    have hmx2:2≤GA:=by decide
    have hf0:(flS []).length=0:=rfl
    simp only[go_sem,hgz,cx,w1,EX a [] ha rfl (Nat.zero_le _),eE,hne,h01,hst,hf0,hmx2];refine⟨1,rfl,⟨Nat.le_refl _,?_⟩,by decide⟩
    intro x hx;obtain rfl:x=[]:=by simpa [gB] using hx
    exact decide_eq_false (fun e=>hne (congrArg Nat.cast e))
   ·have heq:(a:Int)=(b:Int):=of_decide_eq_true hb
    have h01:(0:Int)<((2^0:Nat):Int):=by decide
    simp only[go_sem,hgz,cx,EX a [] ha rfl (Nat.zero_le _),eE,eq_true heq,h01];exact congrArg AS (hit (k:=0) (i:=0) (s:=[]) hk hn rfl (by rw[hcond];exact hb))
  ·obtain rfl:i=1:=by omega
   have h11:¬((1:Int)<((2^0:Nat):Int)):=by decide
   have c1:((1:Nat):Int)=1:=rfl
   simp only[go_sem,c1,h11];exact⟨1,rfl,miss (k:=0) (i:=1) hk hn (by simp [gB]),by have:=miss (k:=0) (i:=1) hk hn (by simp [gB]);omega⟩
 | succ k=>
  dsimp only[rowV,SD];have hlen:(SD h k).length=h.length+k:=z59 h k
  rw[←hlen];simp only[go_sem];refine XA (fun i:Nat=>⟨[(0,AI a),(1,AI b),(6,.own ((SD h k).length+1) (2*i) 0 (2*i)),(12,.own (SD h k).length (2^(k+1)) 0 (2^(k+1))),(13,AI (2^(k+1):Nat)),(14,AI i)],(SD h k)++[.row none ((gB (k+1)).map PV.str) 0,.row none ((flS ((gB (k+1)).take i)).map PV.str) 0],[]⟩) (fun i=>i≤2^(k+1)∧∀x∈(gB (k+1)).take i,(xB a x==b)=false) (fun i=>2^(k+1)-i) 0 rfl ⟨Nat.zero_le _,by simp⟩ ?_
  rintro i ⟨hi,hn⟩
  rcases Nat.lt_or_ge i (2^(k+1)) with hlt|hge
  ·have hlt':i<(gB (k+1)).length:=by rw[WJ];exact hlt
   have hg:=BB PV.str hlt'
   obtain⟨hbs,hls⟩:=uX (List.getElem_mem hlt');have hgs:(gB (k+1))[i]?=some (gB (k+1))[i]:=List.getElem?_eq_getElem hlt'
   have cx:aB none 0 (PV.str (gB (k+1))[i])=some (PV.str (gB (k+1))[i]):=rfl
   have w2:IntKind.i64.wrap ((i:Int)+1)=((i+1:Nat):Int):=zA _ (by omega) (by omega)
   have htk:(gB (k+1)).take (i+1)=(gB (k+1)).take i++[(gB (k+1))[i]]:=List.take_succ_eq_append_getElem hlt'
   generalize hse:(gB (k+1))[i]=s at *;have hcond:(xB a s==b)=decide ((xB a s:Int)=(b:Int)):=by
    rw[Bool.eq_iff_iff,beq_iff_eq,decide_eq_true_iff];omega
   have hwl:((eE a s).map fun n:Nat=>eI n).length=k+1:=by simp [LN,hls]
   have hwg:((eE a s).map fun n:Nat=>eI n)[k]?=some (eI (xB a s)):=by
    have:=zq9 a s (by omega)
    rw[hls,Nat.add_sub_cancel]at this;rw[List.getElem?_map,this];rfl
   have hpos:(0:Int)<((k+1:Nat):Int):=by omega
   have w3:IntKind.i64.wrap (((k+1:Nat):Int)-1)=(k:Int):=by
    rw[show((k+1:Nat):Int)-1=(k:Int) by omega];exact zA _ (by omega) (by omega)
   have hmx:(2*i)+2≤GA:=by unfold GA;omega
   have hfl:((flS ((gB (k+1)).take i)).map PV.str).length=2*i:=by simp [zkL,List.length_take,WJ];omega
   have hrl:(gB (k+1)).length=2^(k+1):=WJ _
   have hst:s.length+1≤PA:=by rw[hls];unfold PA;omega
   rcases hb:decide ((xB a s:Int)=(b:Int)) with _|_
   ·have hne:¬((xB a s:Int)=(b:Int)):=of_decide_eq_false hb
    simp only[go_sem,hlt,hg,cx,w2,EX a s ha hbs (by omega),hwl,hwg,hpos,w3,hfl,hmx,hne,hrl,hst]
    refine⟨i+1,?_,⟨by omega,?_⟩,by omega⟩
    ·rw[htk,zkM,List.map_append];rfl
    ·intro x hx
     rw[htk]at hx;rcases List.mem_append.1 hx with hx|hx
     ·exact hn x hx
     ·obtain rfl:x=s:=by simpa using hx
      rw[hcond];exact hb
   ·have heq:(xB a s:Int)=(b:Int):=of_decide_eq_true hb
    simp only[go_sem,hlt,hg,cx,w2,EX a s ha hbs (by omega),hwl,hwg,hpos,w3,eq_true heq,hrl]
    exact⟨congrArg AS (hit hk hn hgs (by rw[hcond];exact hb)),by rw[List.take_append_of_le_length (by rw[z59];omega),z5A]⟩
  ·obtain rfl:i=2^(k+1):=by omega
   have hm:=miss hk hn (by rw[WJ];exact Nat.le_refl _)
   simp only[go_sem,Int.lt_irrefl];have e1:2*2^(k+1)=2^(k+1+1):=by rw[Nat.pow_succ 2 (k+1)];omega
   have e2:(gB (k+1)).take (2^(k+1))=gB (k+1):=List.take_of_length_le (by rw[WJ];exact Nat.le_refl _)
   have e3:SD h k++[Obj.row none ((gB (k+1)).map PV.str) 0,Obj.row none ((flS (gB (k+1))).map PV.str) 0]=SD h (k+1+1):=by
    rw[←zoj,SD,SD,List.append_assoc];rfl
   refine⟨k+2,?_,hm,by omega⟩
   rw[e1,e2,e3,hlen];rfl
theorem zqC:(frS.all fun a=>toS.all fun b=>decide (fK a b 9 0=some (jA a b)))=true:=by kernel_rfl
theorem zc0 {a b:Nat}(ha:a∈frS)(hb:b∈toS):fK a b 9 0=some (jA a b):=
 of_decide_eq_true (List.all_eq_true.1 (List.all_eq_true.1 zqC a ha) b hb)
theorem z9l {a:Nat}(ha:a∈frS):a<16:=of_decide_eq_true (List.all_eq_true.1 (show(frS.all fun a=>decide (a<16))=true from rfl) a ha)
theorem cC {a b:Nat}(ha:a∈frS)(hb:b∈toS):EA (jA a b)=true∧(jA a b).length≤8∧xB a (jA a b)=b:=by
 obtain⟨kw,h1,h2,_⟩:=zcy (zc0 ha hb);have hm:=uX (List.mem_of_find?_eq_some h2)
 have he:=List.find?_some h2
 exact⟨hm.1,by omega,by simpa using he⟩
theorem FX {a b:Nat}(ha:a∈frS)(hb:b∈toS):bA X bE [AI a,AI b] h K=K (AS (jA a b)) h []:=zo8 a b (z9l ha) _ (zc0 ha hb)
theorem zbC {n:Nat}(hn:n<16):bA X BL [AI n] h K=K (AB true) h []:=by
 refine rA ?_;have h1:(0:Int)≤n:=by omega
 have h2:(n:Int)≤15:=by omega
 have h3:¬((n:Int)<0):=by omega
 have h4:¬((n:Int)>15):=by omega
 rw[zf6 rfl];simp only[xT,go_sem,LC,h3,h4]
theorem zo7 {a b:Nat}(ha:a<16)(hb:b<16):bA X ZP [AI a,AI b] h K=K (.tup [AS (jA a b),AI 0]) h []:=by
 refine rA ?_;rw[zf0 rfl];simp only[pT,go_sem,zbC ha,zbC hb,zkZ zc5 zc4 a b ha hb]
theorem zcs:(frS.all fun a=>toS.all fun b=>decide ((rC a (jA a b)).count 11=0)&&decide ((rC a (jA a b)).count 4=0))=true:=by kernel_rfl
theorem YQ:PathOk jA where
 bits a ha b hb:=(cC ha hb).1
 len a ha b hb:=(cC ha hb).2.1
 ends a ha b hb:=(cC ha hb).2.2
 no11 a ha b hb:=by
  have:=List.all_eq_true.1 (List.all_eq_true.1 zcs a ha) b hb;simp only[Bool.and_eq_true,decide_eq_true_eq]at this;exact this.1
 no4 a ha b hb:=by
  have:=List.all_eq_true.1 (List.all_eq_true.1 zcs a ha) b hb;simp only[Bool.and_eq_true,decide_eq_true_eq]at this;exact this.2
end Go.Am
end
section
/- Lengths of numbers in bits,and comparisons of plain values. -/
open Go
namespace Go.Am
variable {h:aA} {K:kA}
set_option maxRecDepth 20000
theorem zp8 {l:List Int}:jH none (l.map eI):=fun x hx=>by obtain⟨n,_,rfl⟩:=List.mem_map.1 hx;rfl
end Go.Am
end
section
/- Lists of strings sorted,left out: printed by program. -/
open Go
set_option linter.unusedSimpArgs false
namespace Go.Am
attribute [-go_sem] PV.cells splice
variable {h:aA} {K:kA}
end Go.Am
end
section
/- Finding values in lists: printed by program. -/
open Go
set_option linter.unusedSimpArgs false
namespace Go.Am
attribute [-go_sem] PV.cells
variable {h:aA} {K:kA}
end Go.Am
end
section
/- Limits: what they are,what is wrong with them. -/
open Go
namespace Go.Am
variable {h:aA} {K:kA}
end Go.Am
end
section
/- What is wrong with limits,both ways: printed by program. -/
open Go
set_option linter.unusedSimpArgs false
namespace Go.Am
variable {h:aA} {K:kA}
end Go.Am
end
section
/- Package lot on measured values,and what the reference says of them. -/
open Go
namespace Go.Am
variable {h:aA} {K:kA}
structure Meas (l:List Int):Prop where
 len:l.length≤5000
 bd:∀n∈l,-100000≤n∧n≤100000
theorem Meas.sum {l:List Int}(hm:Meas l)(k:Nat) : -500000000≤(l.take k).sum∧(l.take k).sum≤500000000:=by
 have:=zqh hm.bd hm.len (by omega) k
 omega
end Go.Am
end
section
/- Records: what they are,what is wrong with them. -/
open Go
set_option linter.unusedSimpArgs false
namespace Go.Am
variable {h:aA} {K:kA}
theorem zog {b:Nat}{P:kA}{vs:List AV}{h:aA}:RD true b P (some vs) h []=P (DB vs) (h.take (max b (DB vs).top)) []:=by
 simp [RD,RB,iC]
attribute [go_sem] zog
structure Rec where
 unit:List UInt8
 time:Int
 site:List UInt8
 res:List Int
end Go.Am
end
section
/- What is drawn: numbers,measured values. -/
open Go
namespace Go.Am
variable {L:List Int} {a:Int}
theorem z97 (hp:kB 14 a)(u v:Int)(huv:u≤v)(hu : -1000000000000≤u)(hv:v≤1000000000000):∃k a2:Int,a≤a2∧a2≤a+2 ∧ -1099511627776≤k∧k≤1099511627776 ∧
 Gen NH [AI u,AI v] L a a2 (AI k):=by
 have w1:IntKind.i64.wrap (u-1)=u-1:=zA _ (by omega) (by omega)
 have w2:IntKind.i64.wrap (v+1)=v+1:=zA _ (by omega) (by omega)
 by_cases hf:LB L a 12=0
 ·have hm:=RW (L:=L) (a:=a+1) (l:=[u-1,v+1,u,v,-1099511627776,1099511627776]) (by simp) (by simp)
  simp only[List.mem_cons,List.not_mem_nil,or_false]at hm;refine⟨PC [u-1,v+1,u,v,-1099511627776,1099511627776] L (a+1),a+1+1,by omega,by omega,by omega,by omega,Gen.of fun h id hid=>?_⟩
  rw[z7I rfl];simp only[lO,go_sem,hid,jN hp,hf,w1,w2]
 ·have hm:=dR L (a+1) huv (by omega)
  refine⟨cE u v L (a+1),a+1+1,by omega,by omega,by omega,by omega,Gen.of fun h id hid=>?_⟩
  rw[z7I rfl];simp only[lO,go_sem,hid,jN hp,hf,w1,w2,huv,show -1152921504606846976≤u by omega,show v≤1152921504606846976 by omega]
end Go.Am
end
section
/- Strings that are drawn. -/
open Go
set_option linter.unusedSimpArgs false
namespace Go.Am
variable {L:List Int} {a:Int} {h l:aA} {id:Nat} {K:kA}
def isS:PV→Bool
 | .str _=>true
 | _=>false
def unS:PV→List UInt8
 | .str s=>s
 | _=>[]
def OD (l:List (List UInt8))(L:List Int)(a:Int):List UInt8:=l.getD (LB L a l.length).toNat []
theorem aR {l:List (List UInt8)}{L:List Int}{a:Int}(hl:0<l.length)(hl2:l.length<4611686018427387904):OD l L a∈l:=by
 obtain⟨b1,b2⟩:=BJ L a l.length (by omega) (by omega)
 unfold OD;have:(LB L a l.length).toNat<l.length:=by omega
 simp only[List.getD,List.getElem?_eq_getElem this,Option.getD_some];exact List.getElem_mem _
theorem zq0 {xs:List PV}(h:xs.all isS=true):xs=(xs.map unS).map PV.str:=by
 induction xs with
 | nil=>rfl
 | cons x r ih=>
  simp only[List.all_cons,Bool.and_eq_true]at h;simp only[List.map_cons];rw[←ih h.2];cases x <;> first|rfl|cases h.1
theorem z99 (hp:kB 0 a)(xs:List PV)(hx:xs.all isS=true)(hl:0<xs.length)(hl2:xs.length<4611686018427387904) :
 Gen AE [.p (.sl none xs)] L a (a+1) (AS (OD (xs.map unS) L a)):=by
 refine Gen.of fun h id hid=>?_
 rw[ze4 rfl];obtain⟨b1,b2⟩:=BJ L a xs.length (by omega) (by omega)
 have e4:=z3o (k:=.i64) b1
 have e5:xs[(LB L a xs.length).toNat]?=some (.str (OD (xs.map unS) L a)):=by
  have hm:=zq0 hx
  generalize hq:xs.map unS=q at *;subst hm;simp only[List.length_map]at *;rw[BB PV.str (show(LB L a q.length).toNat<q.length by omega)]
  simp [OD,List.getD,show(LB L a q.length).toNat<q.length by omega]
 simp only[nS,go_sem,zN hid hp,e4,e5]
theorem zb8 (hid:id<h.length)(hp:kB 0 a){xs:List PV}(hx:xs.all isS=true)(hl:0<xs.length)(hl2:xs.length<4611686018427387904) :
 bA X AE [.ref id 0,.p (.sl none xs)] (h.set id (TA L a)) K=K (AS (OD (xs.map unS) L a)) (h.set id (TA L (a+1))) []:=(z99 hp xs hx hl hl2).set hid
theorem zb7 (hid:id<h.length)(hp:kB 0 a){xs:List PV}(hx:xs.all isS=true)(hl:0<xs.length)(hl2:xs.length<4611686018427387904) :
 bA X AE [.ref id 0,.p (.sl none xs)] (h.set id (TA L a)++l) K=K (AS (OD (xs.map unS) L a)) (h.set id (TA L (a+1))++l) []:=(z99 hp xs hx hl hl2).app hid
attribute [go_sem ↓] zb8 zb7
attribute [go_sem] zb8 zb7 isS unS
end Go.Am
end
section
/- What is drawn: strings,limits. -/
open Go
set_option linter.unusedSimpArgs false
namespace Go.Am
variable {L:List Int} {a:Int} {h l:aA} {id:Nat} {K:kA}
end Go.Am
end
section
/- Records: what is wrong with them,both ways. -/
open Go
set_option linter.unusedSimpArgs false
namespace Go.Am
variable {h:aA} {K:kA}
def orL:List Int→Int
 | []=>0
 | x::r=>if x≠0 then x else orL r
end Go.Am
end
section
/- Sorting records: printed by program. -/
open Go
set_option linter.unusedSimpArgs false
namespace Go.Am
attribute [-go_sem] PV.cells splice
variable {h:aA} {K:kA}
end Go.Am
end
section
/- Leaving out what is alike: printed by program. -/
open Go
set_option linter.unusedSimpArgs false
namespace Go.Am
attribute [-go_sem] PV.cells splice
variable {h:aA} {K:kA}
end Go.Am
end
section
/- What is drawn: records. -/
open Go
set_option linter.unusedSimpArgs false
namespace Go.Am
variable {L:List Int} {a:Int} {h l:aA} {id:Nat} {K:kA}
theorem z8b {b:Nat}{x:Esc}(hx:∀ y∈x,b≤y.1):∀k,RB k x b=b:=by
 have hb:FD x b=b:=by
  unfold FD;induction x with
  | nil=>rfl
  | cons y r ih=>
   simp only[List.foldl_cons];rw[if_neg (by have:=hx y (by simp);omega)]
   exact ih (fun z hz=>hx z (by simp [hz]))
 intro k;induction k with
 | zero=>rfl
 | succ k ih=>unfold RB;rw[hb,ih]
theorem JN {b:Nat}{x0 x:Esc}{e:List (Nat × AV)}{h:aA}(hx:∀ y∈x,b≤y.1):KE b x0 ⟨e,h,x⟩=⟨JF b e,h.take b,x0⟩:=by
 unfold KE;simp only[z8b hx];have hc:iC x b=true:=by
  unfold iC;rw[List.all_eq_true];intro y hy;simp [hx y hy]
 have hf:x.filter (fun y=>decide (y.1<b))=[]:=by
  rw[List.filter_eq_nil_iff];intro y hy;have:=hx y hy;simp;omega
 rw[if_pos hc,hf,List.nil_append]
theorem zqx {b i t:Nat}{x0:Esc}{e:List (Nat × AV)}{h:aA}(hi:i<b):KE b x0 ⟨e,h,[(i,t)]⟩=⟨JF (max b t) e,h.take (max b t),(i,t)::x0⟩:=by
 unfold KE;have hb:RB [(i,t)].length [(i,t)] b=max b t:=by simp [RB,FD,hi]
 simp only[hb];have hc:iC [(i,t)] (max b t)=true:=by simp [iC];omega
 have hf:[(i,t)].filter (fun y=>decide (y.1<max b t))=[(i,t)]:=by simp;omega
 rw[if_pos hc,hf];rfl
end Go.Am
end
section
/- Merging two ordered lists: by sorting and leaving out what is alike,and by looking each one up. Plain lists. -/
namespace Go.Am
variable {α:Type}
structure Ordr (c:α→α→Int):Prop where
 neg:∀a b,c b a = - c a b
 trans:∀a b d,c a b≤0→c b d≤0→c a d≤0
theorem Ordr.refl {c:α→α→Int}(o:Ordr c)(a:α):c a a=0:=by have:=o.neg a a;omega
variable {c:α→α→Int} {q:α→α→Bool} {a b:List α}
end Go.Am
end
section
/- Records alike;copies;bins. -/
open Go
set_option linter.unusedSimpArgs false
namespace Go.Am
variable {h:aA} {K:kA}
def z5W (a b:Rec):Bool:=decide (a.unit=b.unit)&&(decide (a.time=b.time)&&(decide (a.site=b.site)&&decide (a.res=b.res)))
theorem zpl (a b:Rec):z5W a b=true↔a=b:=by
 cases a;cases b
 simp [z5W]
theorem zoh {b:Nat}{P:kA}{vs:List AV}{h:aA}{x:Esc}(hx:∀ y∈x,b≤y.1){v:AV}(h1:qB b h (DB vs)=some v)(h2:v.top≤b):RD false b P (some vs) h x=P v (h.take b) []:=by
 have e:max b v.top=b:=by omega
 have c:iC x b=true:=by
  unfold iC;rw[List.all_eq_true];intro y hy;simp [hx y hy]
 have f:x.filter (fun y=>decide (y.1<b))=[]:=by
  rw[List.filter_eq_nil_iff];intro y hy;have:=hx y hy;simp;omega
 simp only[RD,h1,e,z8b hx,c,if_true,f];exact propext ⟨fun h=>h.2,fun h=>⟨h2,h⟩⟩
theorem zbt (l:List Int)(hl:l.length≤1000):bA X gL [AL l] h K=K (AI (orL l)) h []:=by
 refine rA ?_;rw[zep rfl];simp only[ZR,go_sem];refine XA (fun k:Nat=>⟨[(5,AL l),(6,AI l.length),(7,AI k)],h,[]⟩) (fun k=>k≤l.length∧orL (l.drop k)=orL l) (fun k=>l.length-k) 0 rfl ⟨by omega,rfl⟩ ?_
 rintro k ⟨hk,hp⟩
 rcases Nat.lt_or_ge k l.length with hlt|hge
 ·have g2:=BB eI hlt
  have w2:IntKind.i64.wrap ((k:Int)+1)=((k+1:Nat):Int):=zA _ (by omega) (by omega)
  rw[List.drop_eq_getElem_cons hlt,orL]at hp;by_cases hz:l[k]=0
  ·rw[if_neg (by simp [hz])]at hp
   simp only[go_sem,hlt,g2,hz,w2];exact⟨k+1,rfl,⟨by omega,hp⟩,by omega⟩
  ·rw[if_pos hz]at hp
   simp only[go_sem,hlt,g2,hz];rw[hp]
 ·have ek:k=l.length:=by omega
  subst ek;rw[List.drop_length]at hp;simp only[go_sem,Nat.lt_irrefl];rw[←hp];rfl
end Go.Am
end
section
/- Sorting numbers: printed by program. -/
open Go
set_option linter.unusedSimpArgs false
namespace Go.Am
attribute [-go_sem] PV.cells splice
variable {h:aA} {K:kA}
end Go.Am
end
section
/- Bins,both ways;lists joined;records sorted. -/
open Go
set_option linter.unusedSimpArgs false
namespace Go.Am
variable {h:aA} {K:kA}
end Go.Am
end
section
/- Lists of records joined,compared,merged. -/
open Go
set_option linter.unusedSimpArgs false
namespace Go.Am
variable {h:aA} {K:kA}
instance:DecidableEq Rec:=fun a b=>decidable_of_iff (z5W a b=true) (zpl a b)
end Go.Am
end
section
/- Records merged asv the reference does it. -/
open Go
set_option linter.unusedSimpArgs false
namespace Go.Am
variable {h:aA} {K:kA}
end Go.Am
end
section
/- Retests: which record of a unit counts. Plain lists;both ways yield the same. -/
set_option linter.all false
namespace Go.Am
end Go.Am
end
section
/- Lists of strings. -/
open Go
set_option linter.all false
namespace Go.Am
variable {h:aA} {K:kA}
end Go.Am
end
section
/- Tests and faults: what is wrong with them,both ways. -/
open Go
set_option linter.all false
namespace Go.Am
variable {h:aA} {K:kA}
theorem z5N (s cs:List UInt8)(hs:s.length≤1000000)(hc:cs.length≤1000)(ha:cs.all (fun b=>decide (b.toNat<128))=true):bA X zL [AS s,AS cs] h K=K (AS (DF s cs)) h []:=by
 refine wU (X:=X) (by kernel_rfl) ?_
 first|rw[show X.ex2=yF GRL PRL from rfl]|skip
 show yF GRL PRL zL [AS s,AS cs] h=some (AS (DF s cs),h,[])
 exact vU (vs:=[.str s,.str cs]) (by kernel_rfl) (s:=trimS) (by kernel_rfl) rfl (by simp only[trimS];rw[if_pos ⟨hs,hc,ha⟩])
theorem bK (s:List UInt8)(hs:s.length≤1000000):bA X SF [AS s] h K=K (AB (EA s)) h []:=by
 refine rA ?_;rw[zeo rfl];have e:=fun h K=>z5N (h:=h) (K:=K) s [48,49] hs (by simp) (by decide)
 have b:decide (DF s [48,49]=[])=EA s:=zcp s
 simp only[YR,go_sem,e,b]
theorem CX (s:List UInt8)(hs:s.length≤1000000):bA X RG [AS s] h K=K (AB (EA s)) h []:=by
 refine rA ?_;rw[zeO rfl];have e:=fun h K=>zoM (h:=h) (K:=K) s [48,49] (by omega)
 have b:(s.all fun c=>[48,49].contains c)=EA s:=rfl
 simp only[CS,go_sem,e,b]
end Go.Am
end
section
/- Faults: what is wrong with them,both ways. -/
open Go
set_option linter.all false
namespace Go.Am
variable {h:aA} {K:kA}
theorem zdb {v:AV}(l:List Int)(hv:Shows none v (l.map eI) h)(x:Int)(hl:l.length≤1000000):bA X TP [v,AI x] h K=K (AI (if l.findIdx (fun y=>decide (y=x))<l.length then(l.findIdx (fun y=>decide (y=x)):Int) else -1)) h []:=by
 refine rA ?_;rw[zfp];have vl:=hv.len
 rw[List.length_map]at vl;simp only[fT,go_sem,vl];refine XA (fun k:Nat=>⟨[(0,v),(1,AI x),(7,AI l.length),(8,AI k)],h,[]⟩) (fun k=>k≤l.length∧∀y∈l.take k,decide (y=x)=false) (fun k=>l.length-k) 0 rfl (by simp) ?_
 rintro k ⟨hk,hn⟩
 rcases Nat.lt_or_ge k l.length with hlt|hge
 ·obtain⟨a,ha,hb⟩:=hv.get k (by simpa using hlt)
  rw[List.getElem_map]at hb;have w2:IntKind.i64.wrap ((k:Int)+1)=((k+1:Nat):Int):=zA _ (by omega) (by omega)
  by_cases hpk:x=l[k]
  ·have hf:l.findIdx (fun y=>decide (y=x))=k:=by
    rw[List.findIdx_eq hlt];refine⟨by simp [hpk],fun j hj=>?_⟩
    have:=hn l[j] (by rw[List.mem_take_iff_getElem];exact⟨j,by omega,rfl⟩)
    simpa using this
   simp only[go_sem,hlt,ha,hb,hpk.symm,w2];simp only[hf,hlt,if_true]
  ·simp only[go_sem,hlt,ha,hb,hpk,w2]
   refine⟨k+1,rfl,⟨by omega,fun y hy=>?_⟩,by omega⟩
   rw[List.take_succ_eq_append_getElem hlt,List.mem_append,List.mem_singleton]at hy;rcases hy with hy|hy
   ·exact hn y hy
   ·rw[hy];simp;exact fun e=>hpk e.symm
 ·have e1:k=l.length:=by omega
  subst e1;simp only[go_sem,Nat.lt_irrefl];rw[List.take_length]at hn;have:¬l.findIdx (fun y=>decide (y=x))<l.length:=by
   rw[Nat.not_lt,Nat.le_iff_lt_or_eq];right
   exact(List.findIdx_eq_length.2 (fun y hy=>by simp [hn y hy])).symm
  rw[if_neg this]
theorem zcM {v:AV}(l:List Int)(hv:∀ h':aA,h'=h→Shows none v (l.map eI) h')(x:Int)(hl:l.length≤1000000):bA X mJ [v,AI x] h K=K (AB (l.contains x)) h []:=by
 refine rA ?_;rw[zfi];have e:=fun K=>zdb (h:=h) (K:=K) l (hv h rfl) x hl
 have hd:decide (0≤(if l.findIdx (fun y=>decide (y=x))<l.length then(l.findIdx (fun y=>decide (y=x)):Int) else -1))=l.contains x:=by
  rw[Bool.eq_iff_iff,decide_eq_true_eq,List.contains_iff_mem];constructor
  ·intro hq
   split at hq
   ·rename_i hlt
    have:=List.findIdx_getElem (w:=hlt);simp only[decide_eq_true_eq]at this;exact this ▸ List.getElem_mem hlt
   ·omega
  ·intro hm
   rw[if_pos (List.findIdx_lt_length_of_exists ⟨x,hm,by simp⟩)];omega
 simp only[XS,go_sem,e,hd]
theorem zo0 (l:List Int)(x:Int)(hl:l.length≤1000000):bA X mJ [AL l,AI x] h K=K (AB (l.contains x)) h []:=zcM l (fun h' _=>vR zp8) x hl
end Go.Am
end
section
/- Commands: what is wrong with them,on both sides. -/
open Go
set_option linter.all false
namespace Go.Am
variable {h:aA} {K:kA}
abbrev QA (c:Cmd):PV:=.agg [.int .i64 c.k,.int .i64 c.s,.int .i64 c.cl,.str c.b,.str c.w,.str c.m]
abbrev ACm (c:Cmd):AV:=.p (QA c)
structure CmdOk (c:Cmd):Prop where
 b:c.b.length≤100000
 w:c.w.length≤100000
 m:c.m.length≤100000
theorem z5T (n:Int):bA X rQ [AI n] h K=K (AB (UB n)) h []:=by
 refine rA ?_;rw[zfU rfl];unfold UB;by_cases h0:n=0
 ·subst h0;simp only[GH,go_sem]
 by_cases h1:n=1
 ·subst h1;simp only[GH,go_sem]
 by_cases h2:n=6
 ·subst h2;simp only[GH,go_sem]
 by_cases h3:n=13
 ·subst h3;simp only[GH,go_sem]
 have e:(n==0||n==1||n==6||n==13)=false:=by simp [h0,h1,h2,h3]
 rw[e];simp only[GH,go_sem,h0,h1,h2,h3]
theorem zbJ (n:Int):bA X pL [AI n] h K=K (AB (UB n)) h []:=by
 refine rA ?_;rw[zfb rfl];have e:([0,1,6,13]:List Int).contains n=UB n:=by
  unfold UB;simp only[List.contains_cons,List.contains_nil,Bool.or_false,Bool.or_assoc]
 have k:∀(h':aA) (K':kA),bA X mJ [.p (.sl none [eI 0,eI 1,eI 6,eI 13]),AI n] h' K'=K' (AB (([0,1,6,13]:List Int).contains n)) h' []:=fun h' K'=>zo0 (h:=h') (K:=K') [0,1,6,13] n (by decide)
 simp only[QS,go_sem,k,e]
theorem CF (n:Int):bA X SG [AI n] h K=K (AB (decide (n=7)||decide (n=8))) h []:=by
 refine rA ?_;rw[zfJ rfl];by_cases h0:n=7
 ·subst h0;simp only[VK,go_sem]
 by_cases h1:n=8
 ·subst h1;simp only[VK,go_sem]
 simp only[VK,go_sem,h0,h1]
theorem gH (n:Int):bA X HL [AI n] h K=K (AB (decide (1≤n)&&decide (n≤6))) h []:=by
 refine rA ?_;rw[zfK rfl];by_cases h0:n<1
 ·have:¬(1≤n):=by omega
  simp only[WK,go_sem,LC,h0,this]
 ·have:1≤n:=by omega
  by_cases h1:6<n
  ·have h2:¬(n≤6):=by omega
   simp only[WK,go_sem,LC,h0,this,h1,h2]
  ·have h2:n≤6:=by omega
   simp only[WK,go_sem,LC,h0,this,h1,h2]
theorem zoZ (c:Cmd)(hc:CmdOk c):bA X pQ [ACm c] h K=K (AI (QC c:Nat)) h []:=by
 refine rA ?_;rw[zfR rfl];have b1:=hc.b;have b2:=hc.w;have b3:=hc.m
 have k1:=fun(h':aA) (K':kA)=>bK (h:=h') (K:=K') c.b (show c.b.length≤1000000 by omega)
 have k2:=fun(h':aA) (K':kA)=>bK (h:=h') (K:=K') c.w (show c.w.length≤1000000 by omega)
 have k3:=fun(h':aA) (K':kA)=>bK (h:=h') (K:=K') c.m (show c.m.length≤1000000 by omega)
 obtain⟨k,s,cl,b,w,m⟩:=c;simp only at b1 b2 b3 k1 k2 k3;have h0:=k1;have h0':=k2;have h0'':=k3
 unfold QC;by_cases h1:b=[]
 ·simp only[zE,go_sem,h1]
 rcases hb:EA b with _|_
 ·simp only[zE,go_sem,h1,k1,hb]
 by_cases h2:2000<b.length
 ·have h2':(2000:Int)<(b.length:Int):=by omega
  simp only[zE,go_sem,h1,k1,hb,h2,h2']
 have h2':¬(2000:Int)<(b.length:Int):=by omega
 by_cases h3:w=[]
 ·subst h3
  have hbn:EA []=true:=rfl
  rcases hm:EA m with _|_
  ·simp only[zE,go_sem,h1,k1,hb,h2,h2',k2,hbn,k3,hm]
  ·by_cases h4:m=[]
   ·subst h4
    simp only[zE,go_sem,h1,k1,hb,h2,h2',k2,hbn]
   ·simp only[zE,go_sem,h1,k1,hb,h2,h2',k2,hbn,k3,hm,h4]
 by_cases h4:w.length=b.length
 ·have h4':(w.length:Int)=(b.length:Int):=by omega
  by_cases h5:m.length=b.length
  ·have h5':(m.length:Int)=(b.length:Int):=by omega
   rcases hw:EA w with _|_
   ·simp only[zE,go_sem,h1,k1,hb,h2',h3,h4',h5',k2,hw]
    simp [h1,hb,h2,h3,h4,h5,hw]
   ·rcases hm:EA m with _|_
    ·simp only[zE,go_sem,h1,k1,hb,h2',h3,h4',h5',k2,hw,k3,hm]
     simp [h1,hb,h2,h3,h4,h5,hw,hm]
    ·simp only[zE,go_sem,h1,k1,hb,h2',h3,h4',h5',k2,hw,k3,hm]
     simp [h1,hb,h2,h3,h4,h5,hw,hm]
  ·have h5':¬(m.length:Int)=(b.length:Int):=by omega
   simp only[zE,go_sem,h1,k1,hb,h2',h3,h4',h5'];simp [h1,hb,h2,h3,h4,h5]
 ·have h4':¬(w.length:Int)=(b.length:Int):=by omega
  simp only[zE,go_sem,h1,k1,hb,h2',h3,h4'];simp [h1,hb,h2,h3,h4]
theorem zpa (c:Cmd)(hc:CmdOk c):bA X oL [ACm c] h K=K (AI (QC c:Nat)) h []:=by
 refine rA ?_;rw[zfa rfl];have b1:=hc.b;have b2:=hc.w;have b3:=hc.m
 have k1:=fun(h':aA) (K':kA)=>CX (h:=h') (K:=K') c.b (show c.b.length≤1000000 by omega)
 have k2:=fun(h':aA) (K':kA)=>CX (h:=h') (K:=K') c.w (show c.w.length≤1000000 by omega)
 have k3:=fun(h':aA) (K':kA)=>CX (h:=h') (K:=K') c.m (show c.m.length≤1000000 by omega)
 obtain⟨k,s,cl,b,w,m⟩:=c;simp only at b1 b2 b3 k1 k2 k3;have h0:=k1;have h0':=k2;have h0'':=k3
 unfold QC;by_cases h1:b=[]
 ·simp only[vE,go_sem,h1]
 rcases hb:EA b with _|_
 ·simp only[vE,go_sem,h1,k1,hb]
 by_cases h2:2000<b.length
 ·have h2':(2000:Int)<(b.length:Int):=by omega
  simp only[vE,go_sem,h1,k1,hb,h2,h2']
 have h2':¬(2000:Int)<(b.length:Int):=by omega
 by_cases h3:w=[]
 ·subst h3
  have hbn:EA []=true:=rfl
  rcases hm:EA m with _|_
  ·simp only[vE,go_sem,h1,k1,hb,h2,h2',k2,hbn,k3,hm]
  ·by_cases h4:m=[]
   ·subst h4
    simp only[vE,go_sem,h1,k1,hb,h2,h2',k2,hbn]
   ·simp only[vE,go_sem,h1,k1,hb,h2,h2',k2,hbn,k3,hm,h4]
 by_cases h4:w.length=b.length
 ·have h4':(w.length:Int)=(b.length:Int):=by omega
  by_cases h5:m.length=b.length
  ·have h5':(m.length:Int)=(b.length:Int):=by omega
   rcases hw:EA w with _|_
   ·simp only[vE,go_sem,h1,k1,hb,h2',h3,h4',h5',k2,hw]
    simp [h1,hb,h2,h3,h4,h5,hw]
   ·rcases hm:EA m with _|_
    ·simp only[vE,go_sem,h1,k1,hb,h2',h3,h4',h5',k2,hw,k3,hm]
     simp [h1,hb,h2,h3,h4,h5,hw,hm]
    ·simp only[vE,go_sem,h1,k1,hb,h2',h3,h4',h5',k2,hw,k3,hm]
     simp [h1,hb,h2,h3,h4,h5,hw,hm]
  ·have h5':¬(m.length:Int)=(b.length:Int):=by omega
   simp only[vE,go_sem,h1,k1,hb,h2',h3,h4',h5'];simp [h1,hb,h2,h3,h4,h5]
 ·have h4':¬(w.length:Int)=(b.length:Int):=by omega
  simp only[vE,go_sem,h1,k1,hb,h2',h3,h4'];simp [h1,hb,h2,h3,h4]
end Go.Am
end
section
/- A command's fault on both sides. -/
open Go
set_option linter.all false
namespace Go.Am
variable {h:aA} {K:kA}
theorem eqs6 {k s cl k' s' cl':Int}{b w m b' w' m':List UInt8}:eqs [.int .i64 k,.int .i64 s,.int .i64 cl,.str b,.str w,.str m] [.int .i64 k',.int .i64 s',.int .i64 cl',.str b',.str w',.str m']=some (decide ((⟨k,s,cl,b,w,m⟩:Cmd)=⟨k',s',cl',b',w',m'⟩)):=by
 by_cases e1:k=k' <;> by_cases e2:s=s' <;> by_cases e3:cl=cl' <;> by_cases e4:b=b' <;> by_cases e5:w=w' <;> by_cases e6:m=m' <;> simp [eqs,PV.eq1,e1,e2,e3,e4,e5,e6]
def NL (c:Cmd):Nat:=
 if c.k=1∨c.k=2∨c.k=10 then(if !UB c.s then 1 else 0)
 else if c.k=9 then(if c.cl<0∨20000<c.cl then 1 else 0)
 else if c.k=7∨c.k=8 then QC c
 else(if !EA c.b then 9 else if 2000<c.b.length then 2 else 0)
def UN (c:Cmd):Cmd:=
 if c.k=1∨c.k=2∨c.k=10 then { c with s:=0 }
 else if c.k=9 then { c with cl:=0 }
 else if c.k=7∨c.k=8 then { c with b:=[],w:=[],m:=[] }
 else { c with b:=[] }
theorem zgm {c:Cmd}(h:1≤c.k∧c.k≤10):OA c=if NL c≠0 then NL c else if UN c=⟨c.k,0,0,[],[],[]⟩ then 0 else 3:=by
 obtain⟨k,s,cl,b,w,m⟩:=c;unfold OA NL UN;dsimp only at h ⊢;by_cases h1:k=1∨k=2∨k=10
 ·simp only[if_pos h1]
  rcases UB s with _|_ <;> simp [Cmd.mk.injEq]
 simp only[if_neg h1];by_cases h2:k=9
 ·simp only[if_pos h2]
  by_cases h3:cl<0∨20000<cl <;> simp [h3,Cmd.mk.injEq]
 simp only[if_neg h2];by_cases h3:k=7∨k=8
 ·simp only[if_pos h3]
  by_cases h4:QC ⟨k,s,cl,b,w,m⟩=0 <;> simp [h4,Cmd.mk.injEq]
 simp only[if_neg h3];rw[if_pos (by omega)]
 rcases EA b with _|_
 ·simp
 ·by_cases h4:2000<b.length <;> simp [h4,Cmd.mk.injEq]
theorem z8c {c:Cmd}(h:¬ (1≤c.k∧c.k≤10)):OA c=4:=by
 unfold OA;rw[if_neg (by omega),if_neg (by omega),if_neg (by omega),if_neg (by omega)]
theorem uD (n:Nat):n+1+1=n+2:=rfl
set_option maxHeartbeats 4000000 in
theorem zoL (c:Cmd)(hc:CmdOk c):bA X nQ [ACm c] h K=K (.tup [ACm (UN c),AI (NL c:Nat)]) h []:=by
 refine rA ?_;rw[zfL rfl];have b1:=hc.b;have b2:=hc.w;have b3:=hc.m
 have k1:=fun(h':aA) (K':kA)=>bK (h:=h') (K:=K') c.b (show c.b.length≤1000000 by omega)
 have k2:=fun(h':aA) (K':kA)=>zoZ (h:=h') (K:=K') c hc
 obtain⟨k,s,cl,b,w,m⟩:=c;simp only at b1 b2 b3 k1 k2;unfold NL UN;dsimp only;by_cases h1:k=1
 ·rcases hs:UB s with _|_ <;> (simp only[yE,go_sem,uD,h1,z5T,hs];simp [h1,hs])
 by_cases h2:k=2
 ·rcases hs:UB s with _|_ <;> (simp only[yE,go_sem,uD,h1,h2,z5T,hs];simp [h1,h2,hs])
 by_cases h3:k=10
 ·rcases hs:UB s with _|_ <;> (simp only[yE,go_sem,uD,h1,h2,h3,z5T,hs];simp [h1,h2,h3,hs])
 by_cases h4:k=9
 ·by_cases g1:cl<0
  ·(simp only[yE,go_sem,uD,h1,h2,h3,h4,LC,g1];simp [h1,h2,h3,h4,g1])
  ·by_cases g2:20000<cl
   ·(simp only[yE,go_sem,uD,h1,h2,h3,h4,LC,g1,g2];simp [h1,h2,h3,h4,g1,g2])
   ·(simp only[yE,go_sem,uD,h1,h2,h3,h4,LC,g1,g2];simp [h1,h2,h3,h4,g1,g2])
 by_cases h5:k=7
 ·subst h5
  (simp only[yE,go_sem,uD,CF,k2];simp [uD])
 by_cases h6:k=8
 ·subst h6
  (simp only[yE,go_sem,uD,CF,k2];simp [uD])
 rcases hb:EA b with _|_
 ·(simp only[yE,go_sem,uD,h1,h2,h3,h4,h5,h6,CF,k1,hb];simp [h1,h2,h3,h4,h5,h6,hb])
 ·by_cases h7:2000<b.length
  ·have h7':(2000:Int)<(b.length:Int):=by omega
   (simp only[yE,go_sem,uD,h1,h2,h3,h4,h5,h6,CF,k1,hb,h7,h7'];simp [h1,h2,h3,h4,h5,h6,hb,h7])
  ·have h7':¬(2000:Int)<(b.length:Int):=by omega
   (simp only[yE,go_sem,uD,h1,h2,h3,h4,h5,h6,CF,k1,hb,h7,h7'];simp [h1,h2,h3,h4,h5,h6,hb,h7])
end Go.Am
end
section
/- Lists of faults: what is wrong with them,both ways. -/
open Go
set_option linter.all false
namespace Go.Am
variable {h:aA} {K:kA}
end Go.Am
end
section
/- Rows of a test asv numbers. -/
open Go
set_option linter.all false
namespace Go.Am
variable {h:aA} {K:kA}
end Go.Am
end
section
/- Faults on rows: what the program makes of them. -/
open Go
set_option linter.all false
namespace Go.Am
variable {h:aA} {K:kA}
end Go.Am
end
section
/- Rows that are handed tov a function: it sees their values. -/
open Go
namespace Go.Am
end Go.Am
end
section
/- Responses,asv the program computes them. -/
open Go
set_option linter.all false
namespace Go.Am
variable {h:aA} {K:kA}
end Go.Am
end
section
/- Sorting the middle of a row: printed by program. -/
open Go
set_option linter.unusedSimpArgs false
namespace Go.Am
attribute [-go_sem] PV.cells splice
variable {h:aA} {K:kA}
end Go.Am
end
section
/- What is drawn: orders,tests. -/
open Go
set_option linter.all false
namespace Go.Am
variable {L:List Int} {a:Int} {h l:aA} {id:Nat} {K:kA}
def GenK (f:Nat)(args:List AV)(L:List Int)(a:Int)(sh:Sh)(Q:List PV→Int→Prop):Prop:=∀(h:aA) (id:Nat),h[id]?=some (TA L a)→∃xs a2,Q xs a2∧∀K:kA,bA X f (.ref id 0::args) h K=K (.own h.length xs.length 0 xs.length) (h.set id (TA L a2)++[.row sh xs 0]) []
theorem GenK.of {f:Nat}{args:List AV}{L:List Int}{a:Int}{sh:Sh}{Q:List PV→Int→Prop}(H:∀ (h:aA) (id:Nat),id<h.length→bA X f (.ref id 0::args) (h.set id (TA L a)) fun v1 h1 x1=>∃ xs a2,Q xs a2∧v1 = .own h.length xs.length 0 xs.length∧h1=h.set id (TA L a2)++[.row sh xs 0]∧x1=[]):GenK f args L a sh Q:=by
 intro h id hh;have hid:=YG hh
 have k:=H h id hid
 rw[zp5 hh]at k;obtain⟨v,h',x,⟨xs,a2,q,e0,e1,e2⟩,r⟩:=bA.one z6Y k;subst e0;subst e1;subst e2
 exact⟨xs,a2,q,r⟩
theorem DX (s:List UInt8)(c:Int)(h0:0≤c)(hc:s.length*c.toNat≤1000000)(h1:c≤1000000):bA X PB [AS s,AI c] h K=K (AS (rI s c.toNat)) h []:=by
 refine wU (X:=X) (by kernel_rfl) ?_
 first|rw[show X.ex2=yF GRL PRL from rfl]|skip
 show yF GRL PRL PB [AS s,AI c] h=some (AS (rI s c.toNat),h,[])
 exact vU (vs:=[.str s,.int .i64 c]) (by kernel_rfl) (s:=jR) (by kernel_rfl) rfl (by simp only[jR];rw[if_pos ⟨h0,hc,h1⟩])
end Go.Am
end
