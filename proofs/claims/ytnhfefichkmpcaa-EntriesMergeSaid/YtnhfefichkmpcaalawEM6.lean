/- Texts of the proof, laid together: Ctx, SpStream, MathFrac, SpBase, SpList, PSort, SpShp, SpStr, SpFind, SpLimD, SpLim, SpLotA, SpRecD, PEnt, PSplit, PTxt, PNum, PFlt, PFltR, PWrit, PEntT, SpRec, SpEnt1, SpEnt3, SpEnt2, SpMap, SpEnt4, SpSortE, SpEnt5, SpGenA, SpSome, SpGenL, SpSortRec, SpCompact, SpGenR, PMerge, SpMrgA, SpEMrg1, SpLen, SpEMrg2, SpArg, SpEMrg3. -/
import Derived.Test.YtnhfefichkmpcaalawEM5
set_option linter.all false
section
/- The functions together. -/
set_option linter.unusedVariables false
set_option maxRecDepth 100000
namespace Go.Am
def fns:List (Nat × AFun):=[(LO,RQ),(tJ,UQ),(cH,WQ),(dC,cR),(vJ,XQ),(JC,YQ),(uE,vR),(TC,ZQ),(uJ,VQ),(JF,gL),(HJ,OR),(GJ,NR),(tE,eL),(bH,SQ),(xJ,nR),(GF,fL),(HF,oR),(fF,eR),(pH,mN),(wJ,jR),(rD,kN),(kH,AR),(CJ,BR),(AJ,yR),(XB,dR),(ED,aR),(UC,bR),(nH,ER),(FD,iR),(FF,TQ),(EF,YM),(zJ,xR),(wE,nN),(yJ,wR),(gF,iL),(qG,pN),(rH,qN),(qH,oN),(sH,rN),(dH,gR),(BJ,zR),(qI,fR),(iH,tR),(eH,mR),(lH,CR),(rI,lR),(sI,DR),(fH,pR),(pD,ZM),(pG,iN),(qD,cN),(ZD,kR),(iD,qR),(FJ,MR),(jH,uR),(rG,sN),(lI,eN),(nG,dN),(mG,aN),(vE,LR),(nI,PQ),(mH,jN),(gH,rR),(aE,GR),(mI,gN),(oG,fN),(DJ,FR),(uI,JR),(oH,KR),(oI,QQ),(IJ,PR),(tI,HR),(sJ,OQ),(IF,IR)]
def GRL:List (Nat × Sh):=[(SL,(some 8)),(TL,none)]
def PRL:KG:=[(pI,RV)]
def GLL:List (Nat × PV):=[]
def WL:List (Nat × AFun)→Nat→Option AFun
 | [],_=>none
 | (k,F)::r,n=>bif Nat.beq k n then some F else WL r n
def X:Ctx:=⟨WL fns,glOf GLL,kI CF DF,wH GRL PRL⟩
theorem z1x {p:Nat→AFun→Bool}:∀(l:List (Nat×AFun)),(l.all fun y=>p y.1 y.2)=true→∀n F,WL l n=some F→p n F=true
 | [],_,n,F,h=>by cases h
 | (k,G)::r,ha,n,F,h=>by
  simp only[List.all_cons,Bool.and_eq_true]at ha;simp only[WL]at h;cases hk:Nat.beq k n with
  | true=>
   rw[hk]at h;have:=Nat.eq_of_beq_eq_true hk;simp only[cond_true,Option.some.injEq]at h;subst this;subst h;exact ha.1
  | false=>
   rw[hk]at h;exact z1x r ha.2 n F h
def fns0:List (Nat × AFun):=[(pH,mN),(rD,kN),(pI,z78),(EF,YM),(wE,nN),(gF,iL),(qG,pN),(rH,qN),(qH,oN),(sH,rN),(pD,ZM),(pG,iN),(qD,cN),(z1c,z79),(rG,sN),(lI,eN),(nG,dN),(mG,aN),(mH,jN),(z1d,z7A),(z1i,z7G),(mI,gN),(oG,fN),(z1h,z7F),(z1g,z7E),(z1f,z7C),(MT,z7D),(z1e,z7B)]
def PRL0:KG:=[]
def X0:Ctx:=⟨WL fns0,glOf GLL,kI CF DF,wH GRL PRL0⟩
theorem XM:X.NoNext:=fun f F h=>z1x (p:=fun _ F=>F.isDet||F.body.noNext) fns (by kernel_rfl) f F h
theorem zk7:X.fn LO=some RQ:=by kernel_rfl
theorem z8Q {u0 v0:AV}{h h1:aA}{P:jA}(hp:CA h [u0]=some ([v0],h1)):cA X LO [u0] h P=dI (cA X) X.gl EI v0 h1 [] (DA [.t 2] false h.length P):=by rw[UA zk7 rfl hp rfl];exact zb9
theorem zkA:X.fn tJ=some UQ:=by kernel_rfl
theorem z8T {u0 v0:AV}{h h1:aA}{P:jA}(hp:CA h [u0]=some ([v0],h1)):cA X tJ [u0] h P = ∃v h' x,P v h' x∧SN (cA X) X.gl kM v0 h1 [] (DA [.cell 2 (some 2)] false h.length fun v1 h1 x1=>v1=v∧h1=h'∧x1=x):=by rw[xN zkA rfl hp rfl];exact z0V fun v h' x=>congrArg (And (P v h' x)) zbF
theorem zkC:X.fn cH=some WQ:=by kernel_rfl
theorem z8V {u0 u1 v0 v1:AV}{h h1:aA}{P:jA}(hp:CA h [u0,u1]=some ([v0,v1],h1)):cA X cH [u0,u1] h P=TN (cA X) X.gl bK nM v0 v1 h1 [] (DA [.t 4] false h.length P):=by rw[UA zkC rfl hp rfl];exact zbK
theorem zkI:X.fn dC=some cR:=by kernel_rfl
theorem z9a {u0 u1 u2 v0 v1 v2:AV}{h h1:aA}{P:jA}(hp:CA h [u0,u1,u2]=some ([v0,v1,v2],h1)):cA X dC [u0,u1,u2] h P=DS (cA X) X.gl v0 v1 v2 h1 [] (DA [.t 6] false h.length P):=by rw[UA zkI rfl hp rfl];exact zbU
theorem zkD:X.fn vJ=some XQ:=by kernel_rfl
theorem z8W {u0 v0:AV}{h h1:aA}{P:jA}(hp:CA h [u0]=some ([v0],h1)):cA X vJ [u0] h P=zS (cA X) X.gl v0 h1 [] (DA [.t 2] false h.length P):=by rw[UA zkD rfl hp rfl];exact zbP
theorem zkE:X.fn JC=some YQ:=by kernel_rfl
theorem z8X {u0 u1 v0 v1:AV}{h h1:aA}{P:jA}(hp:CA h [u0,u1]=some ([v0,v1],h1)):cA X JC [u0,u1] h P=BS (cA X) X.gl v0 v1 h1 [] (DA [.t 4] false h.length P):=by rw[UA zkE rfl hp rfl];exact zbQ
theorem zkZ:X.fn uE=some vR:=by kernel_rfl
theorem z9s {u0 v0:AV}{h h1:aA}{P:jA}(hp:CA h [u0]=some ([v0],h1)):cA X uE [u0] h P = ∃v h' x,P v h' x∧NS (cA X) X.gl v0 h1 [] (DA [.t 2] true h.length fun v1 h1 x1=>v1=v∧h1=h'∧x1=x):=by rw[xN zkZ rfl hp rfl];exact z0V fun v h' x=>congrArg (And (P v h' x)) zc4
theorem zkF:X.fn TC=some ZQ:=by kernel_rfl
theorem z8Y {u0 u1 v0 v1:AV}{h h1:aA}{P:jA}(hp:CA h [u0,u1]=some ([v0,v1],h1)):cA X TC [u0,u1] h P=UN (cA X) X.gl v0 v1 h1 [] (DA [.t 4] false h.length P):=by rw[UA zkF rfl hp rfl];exact zbR
theorem zkB:X.fn uJ=some VQ:=by kernel_rfl
theorem z8U {u0 u1 v0 v1:AV}{h h1:aA}{P:jA}(hp:CA h [u0,u1]=some ([v0,v1],h1)):cA X uJ [u0,u1] h P=bJ (cA X) X.gl xP v0 v1 h1 [] (DA [.cell 4 (some 8)] false h.length P):=by rw[UA zkB rfl hp rfl];exact zbI
theorem bW:X.fn JF=some gL:=by kernel_rfl
theorem z9C {u0 u1 v0 v1:AV}{h h1:aA}{P:jA}(hp:CA h [u0,u1]=some ([v0,v1],h1)):cA X JF [u0,u1] h P=LL (cA X) X.gl v0 v1 h1 [] (DA [.t 4,.t 5] false h.length P):=by rw[UA bW rfl hp rfl];exact zdJ
theorem zlw:X.fn HJ=some OR:=by kernel_rfl
theorem z9D {u0 u1 v0 v1:AV}{h h1:aA}{P:jA}(hp:CA h [u0,u1]=some ([v0,v1],h1)):cA X HJ [u0,u1] h P=jJ (cA X) X.gl HI FK v0 v1 h1 [] (DA [.t 4,.t 5] false h.length P):=by rw[UA zlw rfl hp rfl];exact zdK
theorem zlv:X.fn GJ=some NR:=by kernel_rfl
theorem z9B {u0 u1 v0 v1:AV}{h h1:aA}{P:jA}(hp:CA h [u0,u1]=some ([v0,v1],h1)):cA X GJ [u0,u1] h P=KL (cA X) X.gl EK YP v0 v1 h1 [] (DA [.t 4,.t 5] false h.length P):=by rw[UA zlv rfl hp rfl];exact zdF
theorem ZV:X.fn tE=some eL:=by kernel_rfl
theorem z9d {u0 v0:AV}{h h1:aA}{P:jA}(hp:CA h [u0]=some ([v0],h1)):cA X tE [u0] h P=sL (cA X) X.gl dK CP v0 h1 [] (DA [.t 2] false h.length P):=by rw[UA ZV rfl hp rfl];exact zca
theorem zk8:X.fn bH=some SQ:=by kernel_rfl
theorem z8R {u0 v0:AV}{h h1:aA}{P:jA}(hp:CA h [u0]=some ([v0],h1)):cA X bH [u0] h P=QN (cA X) X.gl aK vP v0 h1 [] (DA [.t 2] false h.length P):=by rw[UA zk8 rfl hp rfl];exact zbA
theorem zkS:X.fn xJ=some nR:=by kernel_rfl
theorem z9l {u0 v0:AV}{h h1:aA}{P:jA}(hp:CA h [u0]=some ([v0],h1)):cA X xJ [u0] h P=ZN (cA X) X.gl v0 h1 [] (DA [.t 2] false h.length P):=by rw[UA zkS rfl hp rfl];exact zcr
theorem aW:X.fn GF=some fL:=by kernel_rfl
theorem z9i {u0 u1 v0 v1:AV}{h h1:aA}{P:jA}(hp:CA h [u0,u1]=some ([v0,v1],h1)):cA X GF [u0,u1] h P=YN (cA X) X.gl fK FP v0 v1 h1 [] (DA [.t 4,.t 5] false h.length P):=by rw[UA aW rfl hp rfl];exact zcl
theorem zkT:X.fn HF=some oR:=by kernel_rfl
theorem z9m {u0 u1 v0 v1:AV}{h h1:aA}{P:jA}(hp:CA h [u0,u1]=some ([v0,v1],h1)):cA X HF [u0,u1] h P=tL (cA X) X.gl FI iK v0 v1 h1 [] (DA [.t 4,.t 5] false h.length P):=by rw[UA zkT rfl hp rfl];exact zcs
theorem zkK:X.fn fF=some eR:=by kernel_rfl
theorem z9c {u0 u1 v0 v1:AV}{h h1:aA}{P:jA}(hp:CA h [u0,u1]=some ([v0,v1],h1)):cA X fF [u0,u1] h P=VN (cA X) X.gl cK BP v0 v1 h1 [] (DA [.t 4] false h.length P):=by rw[UA zkK rfl hp rfl];exact zbW
theorem zlu:X.fn pH=some mN:=by kernel_rfl
theorem z9A {u0 v0:AV}{h h1:aA}{P:jA}(hp:CA h [u0]=some ([v0],h1)):cA X pH [u0] h P=iJ (cA X) X.gl DK XP v0 h1 [] (DA [.t 2] false h.length P):=by rw[UA zlu rfl hp rfl];exact zdD
theorem zkO:X.fn wJ=some jR:=by kernel_rfl
theorem z9g {u0 v0:AV}{h h1:aA}{P:jA}(hp:CA h [u0]=some ([v0],h1)):cA X wJ [u0] h P=dJ (cA X) X.gl eK EP v0 h1 [] (DA [.t 2] false h.length P):=by rw[UA zkO rfl hp rfl];exact zci
theorem zlt:X.fn rD=some kN:=by kernel_rfl
theorem z99 {u0 v0:AV}{h h1:aA}{P:jA}(hp:CA h [u0]=some ([v0],h1)):cA X rD [u0] h P=JL (cA X) X.gl CK WP v0 h1 [] (DA [.t 2] false h.length P):=by rw[UA zlt rfl hp rfl];exact zdA
theorem zlf:X.fn kH=some AR:=by kernel_rfl
theorem z9y {u0 u1 v0 v1:AV}{h h1:aA}{P:jA}(hp:CA h [u0,u1]=some ([v0,v1],h1)):cA X kH [u0,u1] h P=yL (cA X) X.gl oK LP v0 v1 h1 [] (DA [.t 4] false h.length P):=by rw[UA zlf rfl hp rfl];exact zcO
theorem zlg:X.fn CJ=some BR:=by kernel_rfl
theorem z9z {u0 u1 v0 v1:AV}{h h1:aA}{P:jA}(hp:CA h [u0,u1]=some ([v0,v1],h1)):cA X CJ [u0,u1] h P=zL (cA X) X.gl qK MP v0 v1 h1 [] (DA [.t 4] false h.length P):=by rw[UA zlg rfl hp rfl];exact zcR
theorem zlc:X.fn AJ=some yR:=by kernel_rfl
theorem z9v {u0 v0:AV}{h h1:aA}{P:jA}(hp:CA h [u0]=some ([v0],h1)):cA X AJ [u0] h P=dO (cA X) X.gl nK KP v0 h1 [] (DA [.t 2] true h.length P):=by rw[UA zlc rfl hp rfl];exact zcH
theorem zkJ:X.fn XB=some dR:=by kernel_rfl
theorem z9b {u0 u1 v0 v1:AV}{h h1:aA}{P:jA}(hp:CA h [u0,u1]=some ([v0,v1],h1)):cA X XB [u0,u1] h P=ES (cA X) X.gl v0 v1 h1 [] (DA [.t 4] false h.length P):=by rw[UA zkJ rfl hp rfl];exact zbV
theorem zkG:X.fn ED=some aR:=by kernel_rfl
theorem wN {u0 u1 u2 v0 v1 v2:AV}{h h1:aA}{P:jA}(hp:CA h [u0,u1,u2]=some ([v0,v1,v2],h1)):cA X ED [u0,u1,u2] h P=cJ (cA X) X.gl v0 v1 v2 h1 [] (DA [.t 6] false h.length P):=by rw[UA zkG rfl hp rfl];exact zbS
theorem zkH:X.fn UC=some bR:=by kernel_rfl
theorem z8Z {u0 u1 v0 v1:AV}{h h1:aA}{P:jA}(hp:CA h [u0,u1]=some ([v0,v1],h1)):cA X UC [u0,u1] h P=CS (cA X) X.gl v0 v1 h1 [] (DA [.t 4] false h.length P):=by rw[UA zkH rfl hp rfl];exact zbT
theorem zlk:X.fn nH=some ER:=by kernel_rfl
theorem z92 {u0 u1 h P}:cA X nH [u0,u1] h P=US (cA X) X.gl u0 u1 h [] (DA [] false h.length P):=by rw[AD zlk rfl rfl];exact zdb
theorem zkN:X.fn FD=some iR:=by kernel_rfl
theorem AY {u0 u1 v0 v1:AV}{h h1:aA}{P:jA}(hp:CA h [u0,u1]=some ([v0,v1],h1)):cA X FD [u0,u1] h P=YG (cA X) X.gl v0 v1 h1 [] (DA [.t 4] false h.length P):=by rw[UA zkN rfl hp rfl];exact zch
theorem zk9:X.fn FF=some TQ:=by kernel_rfl
theorem z8S {u0 u1 v0 v1:AV}{h h1:aA}{P:jA}(hp:CA h [u0,u1]=some ([v0,v1],h1)):cA X FF [u0,u1] h P=RN (cA X) X.gl wP v0 v1 h1 [] (DA [.t 4] false h.length P):=by rw[UA zk9 rfl hp rfl];exact zbD
theorem zkw:X.fn EF=some YM:=by kernel_rfl
theorem z8H {u0 v0:AV}{h h1:aA}{P:jA}(hp:CA h [u0]=some ([v0],h1)):cA X EF [u0] h P=MN (cA X) X.gl XJ pP v0 h1 [] (DA [.t 2] false h.length P):=by rw[UA zkw rfl hp rfl];exact zbp
theorem zlb:X.fn zJ=some xR:=by kernel_rfl
theorem z9u {u0 v0:AV}{h h1:aA}{P:jA}(hp:CA h [u0]=some ([v0],h1)):cA X zJ [u0] h P=cO (cA X) X.gl mK JP v0 h1 [] (DA [.t 2] true h.length P):=by rw[UA zlb rfl hp rfl];exact zcC
theorem zlx:X.fn wE=some nN:=by kernel_rfl
theorem z9E {u0 u1 v0 v1:AV}{h h1:aA}{P:jA}(hp:CA h [u0,u1]=some ([v0,v1],h1)):cA X wE [u0,u1] h P=lT (cA X) X.gl v0 v1 h1 [] (DA [.t 4] false h.length P):=by rw[UA zlx rfl hp rfl];exact zdN
theorem zla:X.fn yJ=some wR:=by kernel_rfl
theorem z9t {u0 h P}:cA X yJ [u0] h P=xL (cA X) X.gl lK IP u0 h [] (DA [.t 2] false h.length P):=by rw[AD zla rfl rfl];exact zc5
theorem z4o:X.fn gF=some iL:=by kernel_rfl
theorem z9I {u0 v0:AV}{h h1:aA}{P:jA}(hp:CA h [u0]=some ([v0],h1)):cA X gF [u0] h P=tO (cA X) X.gl HK aQ v0 h1 [] (DA [.t 2] false h.length P):=by rw[UA z4o rfl hp rfl];exact zdU
theorem zlz:X.fn qG=some pN:=by kernel_rfl
theorem z9G {u0 v0:AV}{h h1:aA}{P:jA}(hp:CA h [u0]=some ([v0],h1)):cA X qG [u0] h P=gG (cA X) X.gl v0 h1 [] (DA [.t 2] false h.length P):=by rw[UA zlz rfl hp rfl];exact zdS
theorem zl0:X.fn rH=some qN:=by kernel_rfl
theorem z9H {u0 v0:AV}{h h1:aA}{P:jA}(hp:CA h [u0]=some ([v0],h1)):cA X rH [u0] h P=sO (cA X) X.gl v0 h1 [] (DA [.t 2] false h.length P):=by rw[UA zl0 rfl hp rfl];exact zdT
theorem zly:X.fn qH=some oN:=by kernel_rfl
theorem z9F {u0 v0:AV}{h h1:aA}{P:jA}(hp:CA h [u0]=some ([v0],h1)):cA X qH [u0] h P=rO (cA X) X.gl GK ZP v0 h1 [] (DA [.t 2] false h.length P):=by rw[UA zly rfl hp rfl];exact zdO
theorem zl1:X.fn sH=some rN:=by kernel_rfl
theorem z9J {u0 u1 v0 v1:AV}{h h1:aA}{P:jA}(hp:CA h [u0,u1]=some ([v0,v1],h1)):cA X sH [u0,u1] h P=vO (cA X) X.gl IK bQ v0 v1 h1 [] (DA [.t 4] false h.length P):=by rw[UA zl1 rfl hp rfl];exact zdX
theorem zkM:X.fn dH=some gR:=by kernel_rfl
theorem z9f {u0 v0:AV}{h h1:aA}{P:jA}(hp:CA h [u0]=some ([v0],h1)):cA X dH [u0] h P=XG (cA X) X.gl DP v0 h1 [] (DA [.t 2] false h.length P):=by rw[UA zkM rfl hp rfl];exact zcf
theorem zld:X.fn BJ=some zR:=by kernel_rfl
theorem z9w {u0 u1 h P}:cA X BJ [u0,u1] h P=SS (cA X) X.gl u0 u1 h [] (DA [.t 4] false h.length P):=by rw[AD zld rfl rfl];exact zcM
theorem zkL:X.fn qI=some fR:=by kernel_rfl
theorem z9e {u0 u1 v0 v1:AV}{h h1:aA}{P:jA}(hp:CA h [u0,u1]=some ([v0,v1],h1)):cA X qI [u0,u1] h P=GS (cA X) X.gl v0 v1 h1 [] (DA [.t 3] false h.length P):=by rw[UA zkL rfl hp rfl];exact zce
theorem zkX:X.fn iH=some tR:=by kernel_rfl
theorem z9q {u0 u1 v0 v1:AV}{h h1:aA}{P:jA}(hp:CA h [u0,u1]=some ([v0,v1],h1)):cA X iH [u0,u1] h P=bO (cA X) X.gl v0 v1 h1 [] (DA [.t 4] false h.length P):=by rw[UA zkX rfl hp rfl];exact zc2
theorem zkR:X.fn eH=some mR:=by kernel_rfl
theorem z9k {u0 v0:AV}{h h1:aA}{P:jA}(hp:CA h [u0]=some ([v0],h1)):cA X eH [u0] h P=KS (cA X) X.gl v0 h1 [] (DA [.t 2] false h.length P):=by rw[UA zkR rfl hp rfl];exact zcq
theorem zlh:X.fn lH=some CR:=by kernel_rfl
theorem z90 {u0 u1 h P}:cA X lH [u0,u1] h P=eO (cA X) X.gl rK NP u0 u1 h [] (DA [.t 4] false h.length P):=by rw[AD zlh rfl rfl];exact zcU
theorem zkQ:X.fn rI=some lR:=by kernel_rfl
theorem z9j {u0 u1 v0 v1:AV}{h h1:aA}{P:jA}(hp:CA h [u0,u1]=some ([v0,v1],h1)):cA X rI [u0,u1] h P=JS (cA X) X.gl v0 v1 h1 [] (DA [.t 3] false h.length P):=by rw[UA zkQ rfl hp rfl];exact zcp
theorem zlj:X.fn sI=some DR:=by kernel_rfl
theorem BY {u0 u1 h P}:cA X sI [u0,u1] h P=gO (cA X) X.gl u0 u1 h [] (DA [] false h.length P):=by rw[AD zlj rfl rfl];exact zda
theorem zkU:X.fn fH=some pR:=by kernel_rfl
theorem z9n {u0 u1 u2 v0 v1 v2:AV}{h h1:aA}{P:jA}(hp:CA h [u0,u1,u2]=some ([v0,v1,v2],h1)):cA X fH [u0,u1,u2] h P=vL (cA X) X.gl jK GP v0 v1 v2 h1 [] (DA [.t 6] false h.length P):=by rw[UA zkU rfl hp rfl];exact zcv
theorem zkx:X.fn pD=some ZM:=by kernel_rfl
theorem z8I {u0 v0:AV}{h h1:aA}{P:jA}(hp:CA h [u0]=some ([v0],h1)):cA X pD [u0] h P=WG (cA X) X.gl YJ qP v0 h1 [] (DA [.t 2] false h.length P):=by rw[UA zkx rfl hp rfl];exact zbs
theorem zle:X.fn pG=some iN:=by kernel_rfl
theorem z9x {u0 u1 h P}:cA X pG [u0,u1] h P=TS (cA X) X.gl u0 u1 h [] (DA [.t 4] false h.length P):=by rw[AD zle rfl rfl];exact zcN
theorem zkz:X.fn qD=some cN:=by kernel_rfl
theorem z8K {u0 u1 u2 v0 v1 v2:AV}{h h1:aA}{P:jA}(hp:CA h [u0,u1,u2]=some ([v0,v1,v2],h1)):cA X qD [u0,u1,u2] h P=rS (cA X) X.gl v0 v1 v2 h1 [] (DA [.t 6] false h.length P):=by rw[UA zkz rfl hp rfl];exact zbw
theorem zkP:X.fn ZD=some kR:=by kernel_rfl
theorem z9h {u0 v0:AV}{h h1:aA}{P:jA}(hp:CA h [u0]=some ([v0],h1)):cA X ZD [u0] h P=eJ (cA X) X.gl v0 h1 [] (DA [.t 2] false h.length P):=by rw[UA zkP rfl hp rfl];exact zck
theorem zkV:X.fn iD=some qR:=by kernel_rfl
theorem z9o {u0 u1 u2 v0 v1 v2:AV}{h h1:aA}{P:jA}(hp:CA h [u0,u1,u2]=some ([v0,v1,v2],h1)):cA X iD [u0,u1,u2] h P=MS (cA X) X.gl v0 v1 v2 h1 [] (DA [.t 6] false h.length P):=by rw[UA zkV rfl hp rfl];exact zcy
theorem zls:X.fn FJ=some MR:=by kernel_rfl
theorem z98 {u0 u1 u2 h P}:cA X FJ [u0,u1,u2] h P=pO (cA X) X.gl BK VP u0 u1 u2 h [] (DA [] false h.length P):=by rw[AD zls rfl rfl];exact zd3
theorem zkY:X.fn jH=some uR:=by kernel_rfl
theorem z9r {u0 v0:AV}{h h1:aA}{P:jA}(hp:CA h [u0]=some ([v0],h1)):cA X jH [u0] h P=wL (cA X) X.gl v0 h1 [] (DA [.t 2] false h.length P):=by rw[UA zkY rfl hp rfl];exact zc3
theorem zl2:X.fn rG=some sN:=by kernel_rfl
theorem z9K {u0 u1 v0 v1:AV}{h h1:aA}{P:jA}(hp:CA h [u0,u1]=some ([v0,v1],h1)):cA X rG [u0,u1] h P=nT (cA X) X.gl v0 v1 h1 [] (DA [.t 4] false h.length P):=by rw[UA zl2 rfl hp rfl];exact zea
theorem zk1:X.fn lI=some eN:=by kernel_rfl
theorem z8M {u0 v0:AV}{h h1:aA}{P:jA}(hp:CA h [u0]=some ([v0],h1)):cA X lI [u0] h P=NN (cA X) X.gl ZJ rP v0 h1 [] (DA [.t 2] false h.length P):=by rw[UA zk1 rfl hp rfl];exact zby
theorem zk0:X.fn nG=some dN:=by kernel_rfl
theorem z8L {u0 u1 v0 v1:AV}{h h1:aA}{P:jA}(hp:CA h [u0,u1]=some ([v0,v1],h1)):cA X nG [u0,u1] h P=qL (cA X) X.gl v0 v1 h1 [] (DA [.t 4] false h.length P):=by rw[UA zk0 rfl hp rfl];exact zbx
theorem zky:X.fn mG=some aN:=by kernel_rfl
theorem z8J {u0 v0:AV}{h h1:aA}{P:jA}(hp:CA h [u0]=some ([v0],h1)):cA X mG [u0] h P=qS (cA X) X.gl v0 h1 [] (DA [.t 2] false h.length P):=by rw[UA zky rfl hp rfl];exact zbv
theorem zlr:X.fn vE=some LR:=by kernel_rfl
theorem XR {u0 u1 u2 u3 u4 h P}:cA X vE [u0,u1,u2,u3,u4] h P=hJ (cA X) X.gl AK u0 u1 u2 u3 u4 h [] (DA [] false h.length P):=by rw[AD zlr rfl rfl];exact zdz
theorem zk5:X.fn nI=some PQ:=by kernel_rfl
theorem yY {u0 v0:AV}{h h1:aA}{P:jA}(hp:CA h [u0]=some ([v0],h1)):cA X nI [u0] h P=ON (cA X) X.gl v0 h1 [] (DA [.t 2] false h.length P):=by rw[UA zk5 rfl hp rfl];exact zb4
theorem zli:X.fn mH=some jN:=by kernel_rfl
theorem z91 {u0 u1 h P}:cA X mH [u0,u1] h P=fO (cA X) X.gl sK OP u0 u1 h [] (DA [.t 4] false h.length P):=by rw[AD zli rfl rfl];exact zcX
theorem zkW:X.fn gH=some rR:=by kernel_rfl
theorem z9p {u0 u1 v0 v1:AV}{h h1:aA}{P:jA}(hp:CA h [u0,u1]=some ([v0,v1],h1)):cA X gH [u0,u1] h P=aO (cA X) X.gl kK HP v0 v1 h1 [] (DA [.t 4] false h.length P):=by rw[UA zkW rfl hp rfl];exact zcz
theorem zlm:X.fn aE=some GR:=by kernel_rfl
theorem VR {u0 u1 u2 u3 h P}:cA X aE [u0,u1,u2,u3] h P=fJ (cA X) X.gl tK u0 u1 u2 u3 h [] (DA [] false h.length P):=by rw[AD zlm rfl rfl];exact zdf
theorem zk3:X.fn mI=some gN:=by kernel_rfl
theorem z8O {u0 u1 v0 v1:AV}{h h1:aA}{P:jA}(hp:CA h [u0,u1]=some ([v0,v1],h1)):cA X mI [u0,u1] h P=tS (cA X) X.gl v0 v1 h1 [] (DA [.t 4] false h.length P):=by rw[UA zk3 rfl hp rfl];exact zb2
theorem zk2:X.fn oG=some fN:=by kernel_rfl
theorem z8N {u0 v0:AV}{h h1:aA}{P:jA}(hp:CA h [u0]=some ([v0],h1)):cA X oG [u0] h P=sS (cA X) X.gl v0 h1 [] (DA [.t 2] false h.length P):=by rw[UA zk2 rfl hp rfl];exact zb1
theorem zll:X.fn DJ=some FR:=by kernel_rfl
theorem z93 {u0 u1 u2 u3 h P}:cA X DJ [u0,u1,u2,u3] h P=BL (cA X) X.gl PP QP u0 u1 u2 u3 h [] (DA [.t 8,.t 9] false h.length P):=by rw[AD zll rfl rfl];exact zdc
theorem zlp:X.fn uI=some JR:=by kernel_rfl
theorem z96 {u0 u1 u2 u3 h P}:cA X uI [u0,u1,u2,u3] h P=lO (cA X) X.gl uK RP u0 u1 u2 u3 h [] (DA [.t 8] false h.length P):=by rw[AD zlp rfl rfl];exact zdl
theorem zlq:X.fn oH=some KR:=by kernel_rfl
theorem z97 {u0 u1 u2 u3 u4 h P}:cA X oH [u0,u1,u2,u3,u4] h P=nO (cA X) X.gl GI SP u0 u1 u2 u3 u4 h [] (DA [.t 10,.t 11] false h.length P):=by rw[AD zlq rfl rfl];exact zdu
theorem zk6:X.fn oI=some QQ:=by kernel_rfl
theorem zY {u0 v0:AV}{h h1:aA}{P:jA}(hp:CA h [u0]=some ([v0],h1)):cA X oI [u0] h P=rL (cA X) X.gl sP v0 h1 [] (DA [.t 2] false h.length P):=by rw[UA zk6 rfl hp rfl];exact zb5
theorem zl3:X.fn IJ=some PR:=by kernel_rfl
theorem z9L {u0 u1 v0 v1:AV}{h h1:aA}{P:jA}(hp:CA h [u0,u1]=some ([v0,v1],h1)):cA X IJ [u0,u1] h P=oT (cA X) X.gl v0 v1 h1 [] (DA [.t 4] false h.length P):=by rw[UA zl3 rfl hp rfl];exact zeb
theorem zln:X.fn tI=some HR:=by kernel_rfl
theorem z94 {u0 u1 u2 u3 u4 u5 h P}:cA X tI [u0,u1,u2,u3,u4,u5] h P=WS (cA X) X.gl u0 u1 u2 u3 u4 u5 h [] (DA [.t 12] false h.length P):=by rw[AD zln rfl rfl];exact zdj
theorem zk4:X.fn sJ=some OQ:=by kernel_rfl
theorem z8P {u0 u1 v0 v1:AV}{h h1:aA}{P:jA}(hp:CA h [u0,u1]=some ([v0,v1],h1)):cA X sJ [u0,u1] h P=uS (cA X) X.gl v0 v1 h1 [] (DA [.t 4] false h.length P):=by rw[UA zk4 rfl hp rfl];exact zb3
theorem zlo:X.fn IF=some IR:=by kernel_rfl
theorem z95 {u0 u1 u2 u3 u4 h P}:cA X IF [u0,u1,u2,u3,u4] h P=XS (cA X) X.gl u0 u1 u2 u3 u4 h [] (DA [.t 10,.t 11] false h.length P):=by rw[AD zlo rfl rfl];exact zdk
attribute [go_sem] NL OL jG lJ PN ZI aJ fG zbG zbH mJ kZ xS fI pT zbL nJ qT zbM zbN zbO zfD mZ nZ zF gI oZ yS pZ zbJ lZ zdL zdM zO zgo z0p kT ML zdG zdH
attribute [go_sem] zdI zgn z0n jT z0o zcb zcc zcd rT zfF zfG sZ tZ uZ WN zbB zbC zfC hZ iZ zcm zcn zco zfI wZ IS xZ zct zcu yO zfJ yZ LS uL zbX zbY zbZ zfE qZ FS
attribute [go_sem] rZ zdE AT zgm z0m qO zcj sT zfH vZ XN zdB zdC zgl z0k z0l zcP zcQ zfS OZ PZ zcS zcT zfT QZ RZ zcI zcJ zcK zcL zfQ zfR LZ MZ NZ RS zbE jZ zbq zbr
attribute [go_sem] zf9 aZ bZ zcD zcE zcF zcG zfO zfP IZ JZ KZ QS zc6 zc7 zc8 zc9 zcA zcB zfM zfN DZ OS EZ FZ PS GZ zdV zdW zgq z0s z0t zdP zdQ zdR zgp z0q mT z0r zdY
attribute [go_sem] zdZ zgr z0u z0v zcg WD zcV zcW zfU SZ TZ zcw zcx zfK zZ AZ zbt zbu zfA cZ dZ zd4 zd5 zd6 zd7 zd8 zd9 zgi zgj zgk z0h z0i z0j fT gT iT zbz zb0 zfB eZ
attribute [go_sem] fZ zT zd0 zd1 zd2 zgh IL aT bT eT zcY zcZ zfV UZ VZ zc0 zc1 zfL BZ CZ zdg zdh zdi zfW zfX WZ XZ VS zdd zde iO jO zdm zdn zdo zdp zdq zdr zds zdt
attribute [go_sem] zfY zfZ zga zgb YZ ZZ z0a YS mO z0b ZS z0c zdv zdw zdx zdy uT vT wT xT yT tT zgc zgd zge zgf zgg z0d z0e z0f z0g EL FL HL oO gJ DL zb6 zb7 zb8
attribute [go_sem] gZ vS wS
end Go.Am
end
section
/- The stream of numbers out of which the laws draw. -/
open Go
namespace Go.Am
abbrev eI (n:Int):PV:=.int .i64 n
abbrev AL (l:List Int):AV:=.p (.sl none (l.map eI))
abbrev EA (L:List Int)(a:Int):Obj:=.box [AL L,AI a]
def OG (x n:Int):Int:=if n<1 then 0 else if x.tmod n<0 then IntKind.i64.wrap (x.tmod n+n) else x.tmod n
theorem z3g (x n:Int)(h:aA)(K:jA):cA X FF [AI x,AI n] h K=K (AI (OG x n)) h []:=by
 refine MA ?_;rw[z8S rfl];simp only[RN,go_sem];unfold OG;by_cases h1:n<1
 ·simp only[h1,if_true]
 ·simp only[h1,if_false,show ¬n=0 by omega]
  split <;> rfl
theorem z8l (x n:Int)(h1:1≤n)(h2:n≤4611686018427387904):0≤OG x n∧OG x n<n:=by
 unfold OG;rw[if_neg (by omega)]
 have:=Int.tmod_lt_of_pos x (show 0<n by omega)
 have h3 : -n<x.tmod n:=by
  have:=Int.lt_tmod_of_pos x (show 0<n by omega)
  exact this
 split
 ·rw[BA _ (by omega) (by omega)];omega
 ·omega
def DB (L:List Int)(a n:Int):Int:=
 if L.length=0 then OG (IntKind.i64.wrap ((a+1)*7919)) n
 else OG (IntKind.i64.wrap (OG (L.getD (a.tmod L.length).toNat 0) 1073741824+IntKind.i64.wrap (IntKind.i64.wrap (a.tdiv L.length)*IntKind.i64.wrap (7919+a.tmod L.length)))) n
theorem UJ (L:List Int)(a n:Int)(h1:1≤n)(h2:n≤4611686018427387904):0≤DB L a n∧DB L a n<n:=by
 unfold DB;split <;> exact z8l _ _ h1 h2
theorem tD {h:aA}{id:Nat}{o':Obj}(hid:id<h.length):(h.set id o')[id]?=some o':=by simp [hid]
theorem xE {h:aA}{id:Nat}{o:Obj}(hh:h[id]?=some o):id<h.length:=(List.getElem?_eq_some_iff.1 hh).1
def LA (n:Nat)(a:Int):Prop:=0≤a∧a+n<4611686018427387904
theorem rB {n m:Nat}{a b:Int}(H:LA m a)(h:a≤b)(hn:b+n≤a+m):LA n b:=by unfold LA at *;omega
theorem BG {a:Int}(H:LA 14 a):LA 0 (a)∧LA 0 (a+1)∧LA 0 (a+1+1)∧LA 0 (a+1+1+1)∧LA 0 (a+1+1+1+1)∧LA 0 (a+1+1+1+1+1)∧LA 0 (a+1+1+1+1+1+1)∧LA 0 (a+1+1+1+1+1+1+1)∧LA 0 (a+1+1+1+1+1+1+1+1)∧LA 0 (a+1+1+1+1+1+1+1+1+1)∧LA 0 (a+1+1+1+1+1+1+1+1+1+1)∧LA 0 (a+1+1+1+1+1+1+1+1+1+1+1)∧LA 0 (a+1+1+1+1+1+1+1+1+1+1+1+1)∧LA 0 (a+1+1+1+1+1+1+1+1+1+1+1+1+1)∧LA 0 (a+1+1+1+1+1+1+1+1+1+1+1+1+1+1):=by
 unfold LA at *;omega
def Gen (f:Nat)(args:List AV)(L:List Int)(a a2:Int)(v:AV):Prop:=∀(h:aA) (id:Nat) (K:jA),h[id]?=some (EA L a)→cA X f (.ref id 0::args) h K=K v (h.set id (EA L a2)) []
section
variable {f:Nat} {args:List AV} {L:List Int} {a a2:Int} {v:AV} {h l:aA} {id:Nat} {K:jA}
theorem Gen.set (g:Gen f args L a a2 v)(hid:id<h.length):cA X f (.ref id 0::args) (h.set id (EA L a)) K=K v (h.set id (EA L a2)) []:=by
 rw[g _ _ _ (tD hid),List.set_set]
theorem Gen.app (g:Gen f args L a a2 v)(hid:id<h.length):cA X f (.ref id 0::args) (h.set id (EA L a)++l) K=K v (h.set id (EA L a2)++l) []:=by
 rw[g _ _ _ (by rw[YT (by simpa using hid)];exact tD hid),z3F (by simpa using hid),List.set_set]
theorem Gen.hd (g:Gen f args L a a2 v):cA X f (.ref 0 0::args) (EA L a::l) K=K v (EA L a2::l) []:=by
 rw[g _ _ _ rfl];rfl
theorem Gen.of (H:∀ (h:aA) (id:Nat),id<h.length→cA X f (.ref id 0::args) (h.set id (EA L a)) fun v1 h1 x1=>v1=v∧h1=h.set id (EA L a2)∧x1=[]):Gen f args L a a2 v:=by
 intro h id K hh;have hid:=xE hh
 have:h.set id (EA L a)=h:=by
  apply List.ext_getElem?
  intro i;rw[List.getElem?_set];split
  ·rename_i e;subst e;rw[hh]
  ·rfl
 have k:=H h id hid
 rw[this]at k;exact MA k
end
def TD (f:Nat)(args:List AV)(L:List Int)(a:Int)(Q:AV→Int→Prop):Prop:=∀(h:aA) (id:Nat),h[id]?=some (EA L a)→∃v a2,Q v a2∧∀K:jA,cA X f (.ref id 0::args) h K=K v (h.set id (EA L a2)) []
section
variable {f:Nat} {args:List AV} {L:List Int} {a:Int} {Q:AV→Int→Prop}
theorem TD.set (g:TD f args L a Q){h:aA}{id:Nat}(hid:id<h.length):∃v a2,Q v a2∧∀K:jA,cA X f (.ref id 0::args) (h.set id (EA L a)) K=K v (h.set id (EA L a2)) []:=by
 obtain⟨v,a2,q,r⟩:=g _ _ (tD hid);exact⟨v,a2,q,fun K=>by rw[r,List.set_set]⟩
theorem TD.app (g:TD f args L a Q){h l:aA}{id:Nat}(hid:id<h.length):∃v a2,Q v a2∧∀K:jA,cA X f (.ref id 0::args) (h.set id (EA L a)++l) K=K v (h.set id (EA L a2)++l) []:=by
 obtain⟨v,a2,q,r⟩:=g (h.set id (EA L a)++l) id (by rw[YT (by simpa using hid)];exact tD hid)
 exact⟨v,a2,q,fun K=>by rw[r,z3F (by simpa using hid),List.set_set]⟩
theorem TD.hd (g:TD f args L a Q){l:aA}:∃v a2,Q v a2∧∀K:jA,cA X f (.ref 0 0::args) (EA L a::l) K=K v (EA L a2::l) []:=g (EA L a::l) 0 rfl
theorem TD.of (H:∀ (h:aA) (id:Nat),id<h.length→cA X f (.ref id 0::args) (h.set id (EA L a)) fun v1 h1 x1=>∃ a2,Q v1 a2∧h1=h.set id (EA L a2)∧x1=[]):TD f args L a Q:=by
 intro h id hh;have hid:=xE hh
 have:h.set id (EA L a)=h:=by
  apply List.ext_getElem?
  intro i;rw[List.getElem?_set];split
  ·rename_i e;subst e;rw[hh]
  ·rfl
 have k:=H h id hid
 rw[this]at k;obtain⟨v,h',x,⟨a2,q,e1,e2⟩,r⟩:=cA.one XM k;subst e1;subst e2
 exact⟨v,a2,q,r⟩
end
def RC (l:List Int)(L:List Int)(a:Int):Int:=l.getD (DB L a l.length).toNat 0
theorem dV {l L:List Int}{a:Int}(hl:0<l.length)(hl2:l.length<4611686018427387904):RC l L a∈l:=by
 obtain⟨b1,b2⟩:=UJ L a l.length (by omega) (by omega)
 unfold RC;have:(DB L a l.length).toNat<l.length:=by omega
 simp only[List.getD,List.getElem?_eq_getElem this,Option.getD_some];exact List.getElem_mem _
def isI:PV→Bool
 | .int .i64 _=>true
 | _=>false
def unI:PV→Int
 | .int _ n=>n
 | _=>0
theorem zkf {xs:List PV}(h:xs.all isI=true):xs=(xs.map unI).map eI:=by
 induction xs with
 | nil=>rfl
 | cons x r ih=>
  simp only[List.all_cons,Bool.and_eq_true]at h;simp only[List.map_cons];rw[←ih h.2];cases x with
  | int k n=>cases k <;> first|rfl|cases h.1
  | _=>cases h.1
set_option maxHeartbeats 400000 in
theorem SO (L:List Int)(a n:Int)(hp:LA 0 a):Gen TC [AI n] L a (a+1) (AI (DB L a n)):=by
 refine Gen.of fun h id hid=>?_
 rw[z8Y rfl];obtain⟨h0,h1⟩:=hp;have w1:IntKind.i64.wrap (a+1)=a+1:=BA _ (by omega) (by omega)
 have w2:IntKind.i64.wrap (a+1-1)=a:=by rw[BA _ (by omega) (by omega)];omega
 have hs:∀o',(h.set id o')[id]?=some o':=fun o'=>tD hid
 rcases Nat.eq_zero_or_pos L.length with hl|hl
 ·simp only[UN,go_sem,hs,z3g,hl,w1]
  simp only[DB,hl,if_true]
 ·have e1:((L.length:Int)=0)=False:=by simp only[eq_iff_iff,iff_false];omega
  have e2:0≤a.tmod L.length:=Int.tmod_nonneg _ h0
  have e3:a.tmod L.length<L.length:=Int.tmod_lt_of_pos _ (by omega)
  have e4:=eM (k:=.i64) e2
  have e5:(L.map eI)[(a.tmod L.length).toNat]?=some (eI (L.getD (a.tmod L.length).toNat 0)):=by
   rw[PB eI (show(a.tmod L.length).toNat<L.length by omega)]
   simp [List.getD,show(a.tmod L.length).toNat<L.length by omega]
  simp only[UN,go_sem,hs,z3g,e1,w1,w2,e4,e5];simp only[DB,show ¬L.length=0 by omega,if_false]
section
variable {L:List Int} {a:Int} {h l:aA} {id:Nat} {K:jA}
theorem PK (hid:id<h.length)(hp:LA 0 a)(n:Int):cA X TC [.ref id 0,AI n] (h.set id (EA L a)) K=K (AI (DB L a n)) (h.set id (EA L (a+1))) []:=(SO L a n hp).set hid
theorem z3o (hid:id<h.length)(hp:LA 0 a)(n:Int):cA X TC [.ref id 0,AI n] (h.set id (EA L a)++l) K=K (AI (DB L a n)) (h.set id (EA L (a+1))++l) []:=(SO L a n hp).app hid
theorem z3p (hp:LA 0 a)(n:Int):cA X TC [.ref 0 0,AI n] (EA L a::l) K=K (AI (DB L a n)) (EA L (a+1)::l) []:=(SO L a n hp).hd
theorem JJ (hp:LA 0 a)(n:Int):Gen JC [AI n] L a (a+1) (AB (decide (DB L a n=0))):=by
 refine Gen.of fun h id hid=>?_
 rw[z8X rfl];simp only[BS,go_sem,PK hid hp]
theorem z3m (hid:id<h.length)(hp:LA 0 a)(n:Int):cA X JC [.ref id 0,AI n] (h.set id (EA L a)) K=K (AB (decide (DB L a n=0))) (h.set id (EA L (a+1))) []:=(JJ hp n).set hid
theorem z3k (hid:id<h.length)(hp:LA 0 a)(n:Int):cA X JC [.ref id 0,AI n] (h.set id (EA L a)++l) K=K (AB (decide (DB L a n=0))) (h.set id (EA L (a+1))++l) []:=(JJ hp n).app hid
theorem z3l (hp:LA 0 a)(n:Int):cA X JC [.ref 0 0,AI n] (EA L a::l) K=K (AB (decide (DB L a n=0))) (EA L (a+1)::l) []:=(JJ hp n).hd
theorem YL (hp:LA 0 a)(xs:List PV)(hx:xs.all isI=true)(hl:0<xs.length)(hl2:xs.length<4611686018427387904) :
 Gen UC [.p (.sl none xs)] L a (a+1) (AI (RC (xs.map unI) L a)):=by
 refine Gen.of fun h id hid=>?_
 rw[z8Z rfl];obtain⟨b1,b2⟩:=UJ L a xs.length (by omega) (by omega)
 have e4:=eM (k:=.i64) b1
 have e5:xs[(DB L a xs.length).toNat]?=some (eI (RC (xs.map unI) L a)):=by
  have hm:=zkf hx
  generalize hq:xs.map unI=q at *;subst hm;simp only[List.length_map]at *;rw[PB eI (show(DB L a q.length).toNat<q.length by omega)]
  simp [RC,List.getD,show(DB L a q.length).toNat<q.length by omega]
 simp only[CS,go_sem,PK hid hp,e4,e5]
theorem zV (hid:id<h.length)(hp:LA 0 a){xs:List PV}(hx:xs.all isI=true)(hl:0<xs.length)(hl2:xs.length<4611686018427387904) :
 cA X UC [.ref id 0,.p (.sl none xs)] (h.set id (EA L a)) K=K (AI (RC (xs.map unI) L a)) (h.set id (EA L (a+1))) []:=(YL hp xs hx hl hl2).set hid
theorem z3q (hid:id<h.length)(hp:LA 0 a){xs:List PV}(hx:xs.all isI=true)(hl:0<xs.length)(hl2:xs.length<4611686018427387904) :
 cA X UC [.ref id 0,.p (.sl none xs)] (h.set id (EA L a)++l) K=K (AI (RC (xs.map unI) L a)) (h.set id (EA L (a+1))++l) []:=(YL hp xs hx hl hl2).app hid
theorem z3r (hp:LA 0 a){xs:List PV}(hx:xs.all isI=true)(hl:0<xs.length)(hl2:xs.length<4611686018427387904) :
 cA X UC [.ref 0 0,.p (.sl none xs)] (EA L a::l) K=K (AI (RC (xs.map unI) L a)) (EA L (a+1)::l) []:=(YL hp xs hx hl hl2).hd
def nC (u v:Int)(L:List Int)(a:Int):Int:=u+DB L a (v-u+1)
theorem LK {u v:Int}(L:List Int)(a:Int)(h1:u≤v)(h2:v≤u+4611686018427387900):u≤nC u v L a∧nC u v L a≤v:=by
 have:=UJ L a (v-u+1) (by omega) (by omega)
 unfold nC;omega
theorem VT (hp:LA 0 a)(u v:Int)(huv:u≤v)(hu : -1152921504606846976≤u)(hv:v≤1152921504606846976) :
 Gen dC [AI u,AI v] L a (a+1) (AI (nC u v L a)):=by
 refine Gen.of fun h id hid=>?_
 rw[z9a rfl];obtain⟨b1,b2⟩:=LK L a huv (by omega)
 have w1:IntKind.i64.wrap (v-u)=v-u:=BA _ (by omega) (by omega)
 have w2:IntKind.i64.wrap (v-u+1)=v-u+1:=BA _ (by omega) (by omega)
 have w3:IntKind.i64.wrap (u+DB L a (v-u+1))=nC u v L a:=BA (nC u v L a) (by omega) (by omega)
 simp only[DS,go_sem,show ¬v<u by omega,w1,w2,PK hid hp,w3]
theorem z3u (hid:id<h.length)(hp:LA 0 a){u v:Int}(huv:u≤v)(hu : -1152921504606846976≤u)(hv:v≤1152921504606846976) :
 cA X dC [.ref id 0,AI u,AI v] (h.set id (EA L a)) K=K (AI (nC u v L a)) (h.set id (EA L (a+1))) []:=(VT hp u v huv hu hv).set hid
theorem z3s (hid:id<h.length)(hp:LA 0 a){u v:Int}(huv:u≤v)(hu : -1152921504606846976≤u)(hv:v≤1152921504606846976) :
 cA X dC [.ref id 0,AI u,AI v] (h.set id (EA L a)++l) K=K (AI (nC u v L a)) (h.set id (EA L (a+1))++l) []:=(VT hp u v huv hu hv).app hid
theorem z3t (hp:LA 0 a){u v:Int}(huv:u≤v)(hu : -1152921504606846976≤u)(hv:v≤1152921504606846976) :
 cA X dC [.ref 0 0,AI u,AI v] (EA L a::l) K=K (AI (nC u v L a)) (EA L (a+1)::l) []:=(VT hp u v huv hu hv).hd
end
attribute [go_sem ↓] PK z3o z3p z3m z3k z3l zV z3q z3r z3u z3s z3t
attribute [go_sem] PK z3o z3p z3m z3k z3l zV z3q z3r z3u z3s z3t isI unI
end Go.Am
end
section
/- Plain laws of fractions in lowest terms. -/
namespace Go.Am
end Go.Am
end
section
/- Small functions of numbers and of lists of numbers. -/
open Go
namespace Go.Am
variable {h:aA} {K:jA}
theorem s_Out (n a b:Int):cA X qD [AI n,AI a,AI b] h K=K (AB (decide (n<a)||decide (b<n))) h []:=by
 refine MA ?_;rw[z8K rfl];by_cases h1:n<a <;> simp only[rS,go_sem,h1]
theorem LM (n a b:Int):cA X iD [AI n,AI a,AI b] h K=K (AB (decide (a≤n)&&decide (n≤b))) h []:=by
 refine MA ?_;rw[z9o rfl];by_cases h1:a≤n <;> simp only[MS,go_sem,h1]
theorem zhp (n a b:Int):(decide (n<a)||decide (b<n)) = !(decide (a≤n)&&decide (n≤b)):=by
 rw[Bool.eq_iff_iff];simp
theorem sQ (n:Int):cA X jH [AI n] h K=K (AI n.sign) h []:=by
 refine MA ?_;rw[z9r rfl];rcases Int.lt_trichotomy n 0 with h1|h1|h1
 ·simp only[wL,go_sem,h1,Int.sign_eq_neg_one_of_neg h1]
 ·subst h1;simp only[wL,go_sem,Int.sign_zero]
 ·simp only[wL,go_sem,show ¬n<0 by omega,h1,Int.sign_eq_one_of_pos h1]
theorem z3U (n:Int)(h1:0≤n)(h2:n<18446744073709551616):IntKind.u64.wrap n=n:=by
 simp [IntKind.wrap,IntKind.bits,IntKind.signed];omega
abbrev AU (n:Int):AV:=.p (.int .u64 n)
def IB (x y:Int):Int:=if x<y then -1 else if x=y then 0 else 1
theorem GN (x y:Int):IB x y=(x-y).sign:=by
 unfold IB;rcases Int.lt_trichotomy x y with h|h|h
 ·rw[if_pos h,Int.sign_eq_neg_one_of_neg (by omega)]
 ·rw[if_neg (by omega),if_pos h,h];simp
 ·rw[if_neg (by omega),if_neg (by omega),Int.sign_eq_one_of_pos (by omega)]
end Go.Am
end
section
/- Functions of lists. -/
open Go
namespace Go.Am
variable {h:aA} {K:jA}
theorem EV (a:Int):cA X oG [AI a] h K=K (AB false) h []:=by
 refine MA ?_;rw[z8N rfl];simp only[sS,go_sem]
theorem zi7 (a b:Int):cA X nG [AI a,AI b] h K=K (AI (IB a b)) h []:=by
 refine MA ?_;rw[z8L rfl];unfold IB;by_cases h1:a<b
 ·simp only[qL,go_sem,EV,h1]
 ·by_cases h2:b<a
  ·simp only[qL,go_sem,EV,h1,h2,show ¬a=b by omega]
  ·simp only[qL,go_sem,EV,h1,h2,show a=b by omega,Int.lt_irrefl]
theorem zi3 (l m:List Int)(hl:l.length≤1000000000):cA X CJ [AL l,AL m] h K=K (AB (decide (l=m))) h []:=by
 refine MA ?_;rw[z9z rfl];by_cases hlen:l.length=m.length
 ·simp only[zL,go_sem,hlen]
  refine qB (fun k:Nat=>⟨[(0,AL l),(1,AL m),(12,AI m.length),(13,AI k)],h,[]⟩) (fun k=>k≤m.length∧l.take k=m.take k) (fun k=>m.length-k) 0 rfl (by simp) ?_
  rintro k ⟨hk,hp⟩
  rcases Nat.lt_or_ge k m.length with hlt|hge
  ·have hg1:=PB eI (show k<l.length by omega)
   have hg2:=PB eI hlt
   have w2:IntKind.i64.wrap ((k:Int)+1)=((k+1:Nat):Int):=BA _ (by omega) (by omega)
   by_cases he:l[k]=m[k]
   ·simp only[go_sem,hlt,hg1,hg2,w2,he]
    exact⟨k+1,rfl,⟨by omega,by rw[List.take_succ_eq_append_getElem (by omega),List.take_succ_eq_append_getElem hlt,hp,he]⟩,by omega⟩
   ·simp only[go_sem,hlt,hg1,hg2,w2,he]
    have:¬l=m:=fun h=>he (by simp only[h])
    simp [this]
  ·have e1:k=m.length:=by omega
   have e2:l=m:=by rw[←List.take_length (l:=l),←List.take_length (l:=m),hlen,←e1,hp]
   subst e1;simp only[go_sem,Nat.lt_irrefl];simp [e2]
 ·have e1:((l.length:Int)=m.length)=False:=by simp only[eq_iff_iff,iff_false];omega
  simp only[zL,go_sem,e1];have:¬l=m:=fun h=>hlen (by rw[h])
  simp [this]
def NQ (g:Nat)(caps:List AV)(p:PV→Bool)(xs:List PV)(h:aA):Prop:=∀x∈xs,∀K:jA,cA X g (.p x::caps) h K=K (AB (p x)) h []
def xG (p:PV→Bool)(xs:List PV):Int:=if xs.findIdx p<xs.length then(xs.findIdx p:Int) else -1
theorem zfl (p:PV→Bool)(xs:List PV):decide (0≤xG p xs)=xs.any p:=by
 unfold xG;rw[Bool.eq_iff_iff];by_cases h:xs.findIdx p<xs.length
 ·rw[if_pos h];simp only[decide_eq_true_eq,List.any_eq_true]
  exact⟨fun _=>⟨_,List.getElem_mem h,List.findIdx_getElem⟩,fun _=>by omega⟩
 ·rw[if_neg h];simp only[decide_eq_true_eq,List.any_eq_true]
  refine⟨fun h=>by omega,fun⟨x,hx,hp⟩=>absurd (List.findIdx_lt_length_of_exists ⟨x,hx,hp⟩) h⟩
def tH:List Int→Int
 | []=>0
 | e::r=>if e=0 then tH r else e
theorem QK (l:List Int)(hl:l.length≤1000):cA X bH [AL l] h K=K (AI (tH l)) h []:=by
 refine MA ?_;rw[z8R rfl];simp only[QN,go_sem];refine qB (fun k:Nat=>⟨[(5,AL l),(6,AI l.length),(7,AI k)],h,[]⟩) (fun k=>k≤l.length∧tH (l.drop k)=tH l) (fun k=>l.length-k) 0 rfl (by simp) ?_
 rintro k ⟨hk,hp⟩
 rcases Nat.lt_or_ge k l.length with hlt|hge
 ·have hg:=PB eI hlt
  have w2:IntKind.i64.wrap ((k:Int)+1)=((k+1:Nat):Int):=BA _ (by omega) (by omega)
  rw[List.drop_eq_getElem_cons hlt,tH]at hp;by_cases he:l[k]=0
  ·rw[if_pos he]at hp
   simp only[go_sem,hlt,hg,w2,he];exact⟨k+1,rfl,⟨by omega,hp⟩,by omega⟩
  ·rw[if_neg he]at hp
   simp only[go_sem,hlt,hg,w2,he];rw[hp]
 ·have e1:k=l.length:=by omega
  subst e1;simp only[go_sem,Nat.lt_irrefl];rw[List.drop_length]at hp;rw[←hp];rfl
end Go.Am
end
section
/- Plain lists: insertion sort asv Go's package slices does it on short lists;deleting;compacting. -/
namespace Go.Am
variable {α:Type}
def iC (lt:α→α→Bool)(x:α):List α→List α
 | []=>[x]
 | y::r=>bif lt x y then y::iC lt x r else x::y::r
def JD (lt:α→α→Bool)(l:List α):List α:=l.foldl (fun r x=>iC lt x r) []
def WA (lt:α→α→Bool)(l:List α):List α:=(JD lt l).reverse
theorem aU (lt:α→α→Bool)(x:α):∀r:List α,(iC lt x r).Perm (x::r)
 | []=>.refl _
 | y::r=>by
  unfold iC;cases lt x y with
  | true=>exact((aU lt x r).cons y).trans (.swap _ _ _)
  | false=>exact .refl _
theorem z1W (lt:α→α→Bool):∀(l r:List α),(l.foldl (fun r x=>iC lt x r) r).Perm (l++r)
 | [],r=>.refl _
 | x::l,r=>by
  simp only[List.foldl_cons,List.cons_append];refine(z1W lt l _).trans ?_;exact((aU lt x r).append_left l).trans (List.perm_middle)
theorem YO (lt:α→α→Bool)(l:List α):(JD lt l).Perm l:=by
 have:=z1W lt l [];rwa [List.append_nil]at this
theorem bU (lt:α→α→Bool)(l:List α):(WA lt l).Perm l:=(List.reverse_perm _).trans (YO lt l)
theorem PJ (lt:α→α→Bool)(l:List α):(WA lt l).length=l.length:=(bU lt l).length_eq
theorem NF {lt:α→α→Bool}{l:List α}{x:α}:x∈WA lt l↔x∈l:=(bU lt l).mem_iff
theorem z1V (lt:α→α→Bool)(l:List α):(JD lt l).length=l.length:=(YO lt l).length_eq
structure Weak (lt:α→α→Bool):Prop where
 asym:∀a b,lt a b=true→lt b a=false
 ntrans:∀a b c,lt b a=false→lt c b=false→lt c a=false
theorem z1Q {lt:α→α→Bool}(w:Weak lt)(x:α):∀r:List α,r.Pairwise (fun a b=>lt a b=false)→(iC lt x r).Pairwise (fun a b=>lt a b=false)
 | [],_=>by simp [iC]
 | y::r,h=>by
  unfold iC;rw[List.pairwise_cons]at h;cases hxy:lt x y with
  | true=>
   rw[cond_true,List.pairwise_cons];refine⟨fun z hz=>?_,z1Q w x r h.2⟩
   rcases List.mem_cons.1 ((aU lt x r).mem_iff.1 hz) with rfl|hz
   ·exact w.asym _ _ hxy
   ·exact h.1 z hz
  | false=>
   rw[cond_false,List.pairwise_cons,List.pairwise_cons];refine⟨fun z hz=>?_,h⟩
   rcases List.mem_cons.1 hz with rfl|hz
   ·exact hxy
   ·exact w.ntrans _ _ _ (h.1 z hz) hxy
theorem z1X {lt:α→α→Bool}(w:Weak lt):∀(l r:List α),r.Pairwise (fun a b=>lt a b=false)→(l.foldl (fun r x=>iC lt x r) r).Pairwise (fun a b=>lt a b=false)
 | [],r,h=>h
 | x::l,r,h=>z1X w l _ (z1Q w x r h)
theorem z2a {lt:α→α→Bool}(w:Weak lt)(l:List α):(WA lt l).Pairwise (fun a b=>lt b a=false):=by
 unfold WA;rw[List.pairwise_reverse];exact z1X w l [] .nil
theorem z1Y (lt:α→α→Bool)(l:List α)(k:Nat)(hk:k<l.length):JD lt (l.take (k+1))=iC lt l[k] (JD lt (l.take k)):=by
 rw[List.take_succ_eq_append_getElem hk];unfold JD;rw[List.foldl_append];rfl
theorem z2n {β:Type}(f:α→β){lt:α→α→Bool}{lt':β→β→Bool}(h:∀ a b,lt' (f a) (f b)=lt a b)(x:α):∀r:List α,iC lt' (f x) (r.map f)=(iC lt x r).map f
 | []=>rfl
 | y::r=>by
  simp only[List.map_cons,iC,h];cases lt x y with
  | true=>simp only[cond_true,List.map_cons,z2n f h x r]
  | false=>rfl
theorem z1R (lt:α→α→Bool)(x:α)(A:List α):∀B:List α,(∀b∈B,lt x b=true)→iC lt x (B++A)=B++iC lt x A
 | [],_=>rfl
 | b::B,h=>by
  simp only[List.cons_append,iC,h b (by simp),cond_true]
  rw[z1R lt x A B (fun b hb=>h b (by simp [hb]))]
theorem z1S (A C:List α)(x:α):(A.reverse++x::C)[A.length]?=some x:=by
 rw[List.getElem?_append_right (by simp)];simp
theorem z1T (A C:List α)(x y:α):((y::A).reverse++x::C)[A.length]?=some y:=by
 rw[List.getElem?_append_left (by simp)];simp
theorem z1U (A C:List α)(x y:α):(((y::A).reverse++x::C).set (A.length+1) y).set A.length x=A.reverse++x::y::C:=by
 have e:(y::A).reverse++x::C=A.reverse++y::x::C:=by simp
 rw[e,List.set_append_right _ _ (by simp),List.length_reverse,Nat.add_sub_cancel_left,List.set_append_right _ _ (by simp),List.length_reverse,Nat.sub_self]
 rfl
theorem XO (lt:α→α→Bool)(x:α)(A B:List α)(hB:∀ b∈B,lt x b=true)(hA:∀ y r,A=y::r→lt x y=false):iC lt x (B++A)=B++x::A:=by
 rw[z1R lt x A B hB];cases A with
 | nil=>rfl
 | cons y r=>simp only[iC,hA y r rfl,cond_false]
theorem z1Z {β:Type}(f:α→β){lt:α→α→Bool}{lt':β→β→Bool}(h:∀ a b,lt' (f a) (f b)=lt a b)(l:List α):WA lt' (l.map f)=(WA lt l).map f:=by
 have key:∀(l r:List α),(l.map f).foldl (fun r x=>iC lt' x r) (r.map f)=(l.foldl (fun r x=>iC lt x r) r).map f:=by
  intro l;induction l with
  | nil=>intro r;rfl
  | cons x l ih=>intro r;simp only[List.map_cons,List.foldl_cons,z2n f h,ih]
 unfold WA JD;have:=key l [];simp only[List.map_nil]at this;rw[this,List.map_reverse]
end Go.Am
namespace Go.Am
variable {α:Type}
def YB (q:α→α→Bool)(prev:α):List α→List α
 | []=>[]
 | x::r=>bif q x prev then YB q x r else x::YB q x r
def VB (q:α→α→Bool):List α→List α
 | []=>[]
 | x::r=>x::YB q x r
theorem RY (q:α→α→Bool):∀(l:List α) (p:α),(YB q p l).length≤l.length
 | [],_=>Nat.le_refl _
 | x::r,p=>by
  unfold YB;have:=RY q r x;cases q x p with
  | true=>simp only[cond_true,List.length_cons];omega
  | false=>simp only[cond_false,List.length_cons];omega
theorem zaf (q:α→α→Bool)(l:List α):(VB q l).length≤l.length:=by
 cases l with
 | nil=>exact Nat.le_refl _
 | cons x r=>have:=RY q r x;simp only[VB,List.length_cons];omega
theorem kS (q:α→α→Bool):∀(l:List α) (p:α),∀x∈YB q p l,x∈l
 | [],_,x,h=>h
 | y::r,p,x,h=>by
  unfold YB at h;cases hq:q y p with
  | true=>rw[hq]at h;exact List.mem_cons_of_mem _ (kS q r y x h)
  | false=>
   rw[hq]at h;rcases List.mem_cons.1 h with rfl|h
   ·simp
   ·exact List.mem_cons_of_mem _ (kS q r y x h)
theorem zah {q:α→α→Bool}{l:List α}{x:α}(h:x∈VB q l):x∈l:=by
 cases l with
 | nil=>exact h
 | cons y r=>
  rcases List.mem_cons.1 h with rfl|h
  ·simp
  ·exact List.mem_cons_of_mem _ (kS q r y x h)
theorem SY (q:α→α→Bool)(z:α):∀(l:List α) (p:α),YB q p (l++[z])=YB q p l++(bif q z ((p::l).getLast (by simp)) then [] else [z])
 | [],p=>by simp only[List.nil_append,YB,List.getLast_singleton]
 | x::r,p=>by
  simp only[List.cons_append,YB,SY q z r x];have e:(p::x::r).getLast (by simp)=(x::r).getLast (by simp):=List.getLast_cons (by simp)
  rw[e];cases q x p <;> rfl
theorem UY (q:α→α→Bool)(l:List α)(k:Nat)(hk:k+1<l.length):VB q (l.take (k+1+1))=VB q (l.take (k+1))++(bif q l[k+1] l[k] then [] else [l[k+1]]):=by
 rw[List.take_succ_eq_append_getElem hk];cases l with
 | nil=>simp at hk
 | cons x r=>
  simp only[List.take_succ_cons,List.cons_append,VB,SY];have e:(x::r.take k).getLast (by simp)=(x::r)[k]:=by
   have:x::r.take k=(x::r).take (k+1):=rfl
   simp only[this];rw[List.getLast_eq_getElem];simp only[List.getElem_take];congr 1
   simp only[List.length_take,List.length_cons]at hk ⊢;omega
  rw[e]
theorem zag {β:Type}(f:α→β){q:α→α→Bool}{q':β→β→Bool}(h:∀ a b,q' (f a) (f b)=q a b)(l:List α):VB q' (l.map f)=(VB q l).map f:=by
 have key:∀(l:List α) (p:α),YB q' (f p) (l.map f)=(YB q p l).map f:=by
  intro l;induction l with
  | nil=>intro p;rfl
  | cons x r ih=>
   intro p;simp only[List.map_cons,YB,h,ih];cases q x p <;> rfl
 cases l with
 | nil=>rfl
 | cons x r=>simp only[List.map_cons,VB,key]
end Go.Am
end
section
/- Values of a shape: loads and stores in rows. -/
open Go
namespace Go.Am
variable {h:aA} {K:jA}
theorem cC {sh:Sh}{x:PV}(hx:x.shp sh=true):aB sh 0 x=some x:=by
 cases sh with
 | none=>exact za1 hx
 | some n=>
  cases x with
  | agg cs=>
   simp only[PV.shp,Bool.and_eq_true,beq_iff_eq]at hx;simp [aB,hx.1];exact List.take_of_length_le (by omega)
  | _=>cases hx
theorem QD {sh:Sh}{x:PV}(hx:x.shp sh=true):x.cells.length=gA sh:=by
 cases sh with
 | none=>cases x <;> first|rfl|cases hx
 | some n=>
  cases x with
  | agg cs=>simp only[PV.shp,Bool.and_eq_true,beq_iff_eq]at hx;exact hx.1
  | _=>cases hx
theorem PD {sh:Sh}{x:PV}(hx:x.shp sh=true):x.cells.all PV.sc=true:=by
 cases sh with
 | none=>cases x <;> first|rfl|cases hx
 | some n=>
  cases x with
  | agg cs=>simp only[PV.shp,Bool.and_eq_true,beq_iff_eq]at hx;exact hx.2
  | _=>cases hx
theorem RD {sh:Sh}{x y:PV}(hx:x.shp sh=true)(hy:y.shp sh=true)(id i fz:Nat)(xs:List PV)(h1:aA):stE sh id i 0 fz sh xs x h1 (some y)=some (.und,h1.set id (.row sh (xs.set i x) fz),[]):=by
 cases sh with
 | none=>
  cases y with
  | agg cs=>cases hy
  | _=>simp only[PV.shp]at hx;simp [stE,hx]
 | some n=>
  cases y with
  | agg cs=>
   cases x with
   | agg ds=>
    simp only[PV.shp,Bool.and_eq_true,beq_iff_eq]at hx hy;simp [stE,PV.cells,splice,hx.1,hy.1,show cs.drop n=[] from List.drop_of_length_le (by omega)]
   | _=>cases hx
  | _=>cases hy
def TB (sh:Sh)(xs:List PV):Prop:=∀x∈xs,x.shp sh=true
theorem MI {sh:Sh}{xs:List PV}(hx:TB sh xs){i:Nat}(hi:i<xs.length):xs[i].shp sh=true:=hx _ (List.getElem_mem hi)
theorem FG {h:aA}{id:Nat}{o:Obj}(hh:h[id]?=some o):h.set id o=h:=by
 apply List.ext_getElem?
 intro i;rw[List.getElem?_set];split
 ·rename_i e;subst e;rw[hh];simp [xE hh]
 ·rfl
def Cmps (g:Nat)(caps:List AV)(c:PV→PV→Int)(xs:List PV)(id:Nat)(h:aA):Prop:=∀(o:Obj) (x:PV),x∈xs→∀y,y∈xs→∀K:jA,cA X g (.p x :: .p y::caps) (h.set id o) K=K (AI (c x y)) (h.set id o) []
def ltC (c:PV→PV→Int)(a b:PV):Bool:=decide (c a b<0)
structure Shows (sh:Sh) (v:AV) (xs:List PV) (h:aA):Prop where
 len:QA v=some (AI xs.length)
 get:∀(k:Nat) (hk:k<xs.length),∃a,uA sh v (AI k) h=some a∧oA sh a h=some (.p xs[k])
theorem z3G {sh:Sh}{xs:List PV}(hs:TB sh xs):Shows sh (.p (.sl sh xs)) xs h:=by
 refine⟨rfl,fun k hk=>⟨.vp xs[k],?_,?_⟩⟩
 ·simp [uA,zB,hk]
 ·simp only[z2j,cC (MI hs hk)];rfl
theorem ziX {sh:Sh}{id off len fz:Nat}{xs:List PV}(hs:TB sh xs)(hh:h[id]?=some (.row sh xs fz))(hl:off+len≤xs.length):Shows sh (.own id xs.length off len) (win xs off len) h:=by
 have hw:(win xs off len).length=len:=by simp [win];omega
 refine⟨by rw[hw];rfl,fun k hk=>⟨.rref id xs.length (off+k) 0,?_,?_⟩⟩
 ·rw[hw]at hk
  simp [uA,zB,hh,hl,hk]
 ·have hk':off+k<xs.length:=by rw[hw]at hk;omega
  have e:(win xs off len)[k]=xs[off+k]:=by simp [win]
  rw[e];simp only[z2i,hh,z2f,if_true,List.getElem?_eq_getElem hk',Option.bind_some,cC (MI hs hk'),Option.map_some]
theorem ziW {sh:Sh}{id fz:Nat}{xs:List PV}(hs:TB sh xs)(hh:h[id]?=some (.row sh xs fz)):Shows sh (.own id xs.length 0 xs.length) xs h:=by
 have:=ziX hs hh (off:=0) (len:=xs.length) (by omega)
 rwa [z4m]at this
end Go.Am
end
section
/- Strings: keys,the library's functions without text. -/
open Go
set_option linter.unusedSimpArgs false
namespace Go.Am
variable {h:aA} {K:jA}
abbrev AS (s:List UInt8):AV:=.p (.str s)
theorem ZX:X.ext=kI CF DF:=rfl
theorem ziB (s:List UInt8)(c:UInt8):cA X CF [AS s,.p (.int .u8 c.toNat)] h K=K (AI (kF s c)) h []:=by
 have:=z0W (X:=X) (f:=CF) (asv:=[AS s,.p (.int .u8 c.toNat)]) (vs:=[.str s,.int .u8 c.toNat]) (h:=h) (h1:=h) (r:=.int .i64 (kF s c)) (K:=K) (by kernel_rfl) rfl rfl rfl ?_
 ·exact this
 ·rw[ZX]
  unfold kI;rw[show Nat.beq CF CF=true from by kernel_rfl]
  simp
theorem zi8 (a b:List UInt8):cA X DF [AS a,AS b] h K=K (AI (cB a b)) h []:=by
 have:=z0W (X:=X) (f:=DF) (asv:=[AS a,AS b]) (vs:=[.str a,.str b]) (h:=h) (h1:=h) (r:=.int .i64 (cB a b)) (K:=K) (by kernel_rfl) rfl rfl rfl ?_
 ·exact this
 ·rw[ZX]
  unfold kI;rw[show Nat.beq DF CF=false from by kernel_rfl,show Nat.beq DF DF=true from by kernel_rfl]
  rfl
theorem FV (a b:List UInt8):cA X rG [AS a,AS b] h K=K (AI (cB a b)) h []:=by
 have key:∀(h:aA) (K:jA),cA X mI [AS a,AS b] h K=K (AI (cB a b)) h []:=by
  intro h K;refine MA ?_;rw[z8O rfl];simp only[tS,go_sem,zi8]
 refine MA ?_;rw[z9K rfl];simp only[nT,go_sem,key]
theorem z3n (s:List UInt8)(c:UInt8):cA X IJ [AS s,.p (.int .u8 c.toNat)] h K=K (AI (kF s c)) h []:=by
 have key:∀(h:aA) (K:jA),cA X sJ [AS s,.p (.int .u8 c.toNat)] h K=K (AI (kF s c)) h []:=by
  intro h K;refine MA ?_;rw[z8P rfl];simp only[uS,go_sem,ziB]
 refine MA ?_;rw[z9L rfl];simp only[oT,go_sem,key]
theorem HN:∀ a,cB a a=0
 | []=>rfl
 | x::a=>by simp only[cB,UInt8.lt_irrefl,if_false];exact HN a
theorem ZH:∀ {a b:List UInt8},cB a b=0→a=b
 | [],[],_=>rfl
 | [],_::_,h=>by simp [cB]at h
 | _::_,[],h=>by simp [cB]at h
 | x::a,y::b,h=>by
  simp only[cB]at h;split at h
  ·cases h
  ·split at h
   ·cases h
   ·rename_i h1 h2
    have:x=y:=UInt8.le_antisymm (UInt8.not_lt.1 h2) (UInt8.not_lt.1 h1)
    rw[this,ZH h]
theorem aI:∀ a b,cB b a = - cB a b
 | [],[]=>rfl
 | [],_::_=>rfl
 | _::_,[]=>rfl
 | x::a,y::b=>by
  simp only[cB];by_cases h1:x<y
  ·have h2:¬y<x:=UInt8.lt_asymm h1
   simp [h1,h2]
  ·by_cases h2:y<x
   ·simp [h1,h2]
   ·simp [h1,h2,aI a b]
theorem jS:∀ {a b c:List UInt8},cB a b<0→cB b c<0→cB a c<0
 | [],[],_,h,_=>by simp [cB]at h
 | [],_::_,[],_,h=>by simp [cB]at h
 | [],_::_,_::_,_,_=>by simp [cB]
 | _::_,[],_,h,_=>by simp [cB]at h
 | _::_,_::_,[],_,h=>by simp [cB]at h
 | x::a,y::b,z::c,h1,h2=>by
  simp only[cB]at h1 h2 ⊢;by_cases hxy:x<y
  ·by_cases hyz:y<z
   ·simp [UInt8.lt_trans hxy hyz]
   ·by_cases hzy:z<y
    ·simp [hyz,hzy]at h2
    ·have:y=z:=UInt8.le_antisymm (UInt8.not_lt.1 hzy) (UInt8.not_lt.1 hyz)
     subst this;simp [hxy]
  ·by_cases hyx:y<x
   ·simp [hxy,hyx]at h1
   ·have:x=y:=UInt8.le_antisymm (UInt8.not_lt.1 hyx) (UInt8.not_lt.1 hxy)
    subst this;simp only[UInt8.lt_irrefl,if_false]at h1;by_cases hyz:x<z
    ·simp [hyz]
    ·by_cases hzy:z<x
     ·simp [hyz,hzy]at h2
     ·simp only[hyz,hzy,if_false]at h2 ⊢
      exact jS h1 h2
def zE (c:UInt8):Bool:=decide ((97:Int)≤c.toNat)&&decide ((c.toNat:Int)≤122)||decide ((48:Int)≤c.toNat)&&decide ((c.toNat:Int)≤57)||decide ((c.toNat:Int)=45)||decide ((c.toNat:Int)=95)
def LB (s:List UInt8):Bool:=match s with
 | []=>false
 | c::r=>decide (r.length<40)&&(decide ((97:Int)≤c.toNat)&&decide ((c.toNat:Int)≤122))&&(c::r).all zE
theorem KM (s:List UInt8)(hl:s.length≤1000000000):cA X pD [AS s] h K=K (AB (LB s)) h []:=by
 refine MA ?_;rw[z8I rfl];cases s with
 | nil=>simp only[WG,go_sem,LB]
 | cons c r=>
  have n0:((c::r)=[])=False:=by simp
  have e1:(((r.length+1:Nat):Int)≤40)=(r.length<40):=by simp only[eq_iff_iff];omega
  by_cases h1:(40:Int)<((r.length+1:Nat):Int)
  ·have:¬r.length<40:=by omega
   simp only[WG,go_sem,n0,h1,LB,this]
  have h1':r.length<40:=by omega
  by_cases h2:(c.toNat:Int)<97
  ·have:¬(97:Int)≤c.toNat:=by omega
   simp only[WG,go_sem,n0,h1,h2,LB,this,h1']
  have h2':(97:Int)≤c.toNat:=by omega
  by_cases h3:(122:Int)<c.toNat
  ·have:¬(c.toNat:Int)≤122:=by omega
   simp only[WG,go_sem,n0,h1,h2,h3,LB,this,h1',h2']
  have h3':(c.toNat:Int)≤122:=by omega
  have ek:LB (c::r)=(c::r).all zE:=by simp [LB,h1',h2',h3']
  rw[ek];generalize hB:(c::r).all zE=B;simp only[WG,go_sem,n0,h1,h2,h3];have hlen:(c::r).length=r.length+1:=rfl
  rw[←hlen];generalize c::r=s at *;refine qB (fun k:Nat=>⟨[(0,AS s),(23,AI s.length),(24,AI k)],h,[]⟩) (fun k=>k≤s.length∧(s.take k).all zE=true) (fun k=>s.length-k) 0 rfl ⟨by omega,rfl⟩ ?_
  rintro k ⟨hk,hp⟩
  rcases Nat.lt_or_ge k s.length with hlt|hge
  ·have hg:s[k]?=some s[k]:=List.getElem?_eq_getElem hlt
   have w2:IntKind.i64.wrap ((k:Int)+1)=((k+1:Nat):Int):=BA _ (by omega) (by omega)
   generalize hc:s[k]=c at *;have key:(decide ((97:Int)≤c.toNat)&&decide ((c.toNat:Int)≤122)||decide ((48:Int)≤c.toNat)&&decide ((c.toNat:Int)≤57)||decide ((c.toNat:Int)=45)||decide ((c.toNat:Int)=95))=zE c:=rfl
   cases hkc:zE c with
   | true=>
    rw[hkc]at key;have hn:(s.take (k+1)).all zE=true:=by rw[List.take_succ_eq_append_getElem hlt,List.all_append,hp,hc];simp [hkc]
    by_cases b1:(97:Int)≤c.toNat <;> by_cases b2:(c.toNat:Int)≤122 <;> by_cases b3:(48:Int)≤c.toNat <;> by_cases b4:(c.toNat:Int)≤57 <;> by_cases b5:(c.toNat:Int)=45 <;> by_cases b6:(c.toNat:Int)=95
    all_goals first
     | (simp only[b1,b2,b3,b4,b5,b6,decide_true,decide_false,Bool.and_self,Bool.and_true,Bool.and_false,Bool.or_self,Bool.or_true,Bool.or_false,Bool.true_or,Bool.false_or,Bool.false_and,reduceCtorEq]at key;done)
     | (exfalso;omega)
     | (simp only[go_sem,hlt,hg,w2,b1,b2,b3,b4,b5,b6];exact⟨k+1,rfl,⟨by omega,hn⟩,by omega⟩)
   | false=>
    rw[hkc]at key;have hn:s.all zE=false:=by rw[List.all_eq_false];exact⟨_,List.getElem_mem hlt,by rw[hc,hkc];simp⟩
    rw[hn]at hB;subst hB;by_cases b1:(97:Int)≤c.toNat <;> by_cases b2:(c.toNat:Int)≤122 <;> by_cases b3:(48:Int)≤c.toNat <;> by_cases b4:(c.toNat:Int)≤57 <;> by_cases b5:(c.toNat:Int)=45 <;> by_cases b6:(c.toNat:Int)=95
    all_goals first
     | (simp only[b1,b2,b3,b4,b5,b6,decide_true,decide_false,Bool.and_self,Bool.and_true,Bool.and_false,Bool.or_self,Bool.or_true,Bool.or_false,Bool.true_or,Bool.false_or,Bool.false_and,reduceCtorEq]at key;done)
     | (exfalso;omega)
     | (simp only[go_sem,hlt,hg,b1,b2,b3,b4,b5,b6])
  ·have ek:k=s.length:=by omega
   subst ek;rw[List.take_length,hB]at hp;subst hp;simp only[go_sem,Nat.lt_irrefl]
theorem zfg (s:List UInt8)(c:UInt8):decide (kF s c<0) = !s.contains c:=by
 unfold kF;rw[Bool.eq_iff_iff];by_cases hf:s.findIdx (· == c)<s.length
 ·rw[if_pos hf]
  have:=List.findIdx_getElem (w:=hf);simp only[beq_iff_eq]at this;have hm:c∈s:=by rw[←this];exact List.getElem_mem hf
  simp [hm]
 ·rw[if_neg hf]
  have hm:¬c∈s:=fun hm=>hf (List.findIdx_lt_length_of_exists ⟨c,hm,by simp⟩)
  simp [hm]
theorem z30 (s t:List UInt8)(hl:s.length≤1000000000):cA X gH [AS s,AS t] h K=K (AB (s.all fun c=>t.contains c)) h []:=by
 refine MA ?_;rw[z9p rfl];simp only[aO,go_sem];refine qB (fun k:Nat=>⟨[(0,AS s),(1,AS t),(7,AI s.length),(8,AI k)],h,[]⟩) (fun k=>k≤s.length∧(s.take k).all (fun c=>t.contains c)=true) (fun k=>s.length-k) 0 rfl ⟨by omega,rfl⟩ ?_
 rintro k ⟨hk,hp⟩
 rcases Nat.lt_or_ge k s.length with hlt|hge
 ·have hg:s[k]?=some s[k]:=List.getElem?_eq_getElem hlt
  have w2:IntKind.i64.wrap ((k:Int)+1)=((k+1:Nat):Int):=BA _ (by omega) (by omega)
  have hi:=zfg t s[k]
  by_cases hc:kF t s[k]<0
  ·have:s.all (fun c=>t.contains c)=false:=by
    rw[List.all_eq_false];refine⟨_,List.getElem_mem hlt,?_⟩;rw[decide_eq_true hc]at hi;cases hq:t.contains s[k]with
    | true=>rw[hq]at hi;cases hi
    | false=>simp
   simp only[go_sem,hlt,hg,z3n,hc,this]
  ·rw[decide_eq_false hc]at hi
   have hq:t.contains s[k]=true:=by cases hq:t.contains s[k]with|true=>rfl|false=>rw[hq]at hi;cases hi
   simp only[go_sem,hlt,hg,z3n,hc,w2];exact⟨k+1,rfl,⟨by omega,by rw[List.take_succ_eq_append_getElem hlt,List.all_append,hp];simp only[List.all_cons,List.all_nil,hq];rfl⟩,by omega⟩
 ·have ek:k=s.length:=by omega
  subst ek;rw[List.take_length]at hp;simp only[go_sem,Nat.lt_irrefl,hp]
def OM:List UInt8:=[97,98,99,100,101,102,103,104,105,106,107,108,109,110,111,112,113,114,115,116,117,118,119,120,121,122]
def cM:List UInt8:=[97,98,99,100,101,102,103,104,105,106,107,108,109,110,111,112,113,114,115,116,117,118,119,120,121,122,48,49,50,51,52,53,54,55,56,57,45,95]
theorem z3V {p:UInt8→Bool}(h:((List.range 256).all fun n=>p (UInt8.ofNat n))=true)(c:UInt8):p c=true:=by
 have:=List.all_eq_true.1 h c.toNat (by simp;exact c.toNat_lt)
 rwa [UInt8.ofNat_toNat]at this
theorem zjd (c:UInt8):OM.contains c=(decide ((97:Int)≤c.toNat)&&decide ((c.toNat:Int)≤122)):=by
 have:=z3V (p:=fun c=>OM.contains c==(decide ((97:Int)≤c.toNat)&&decide ((c.toNat:Int)≤122))) (by kernel_rfl) c
 simpa using this
theorem zf8 (c:UInt8):cM.contains c=zE c:=by
 have:=z3V (p:=fun c=>cM.contains c==zE c) (by kernel_rfl) c
 simpa using this
theorem MM (s:List UInt8)(hl:s.length≤1000000000):cA X ZD [AS s] h K=K (AB (LB s)) h []:=by
 refine MA ?_;rw[z9h rfl];have o1:=fun h K=>z30 (h:=h) (K:=K) s cM hl
 have e2:(s.all fun c=>cM.contains c)=s.all zE:=by congr 1;funext c;exact zf8 c
 rw[e2]at o1;unfold cM at o1;cases s with
 | nil=>simp only[eJ,go_sem,LM,LB]
 | cons c r=>
  have o2:=fun h K=>z30 (h:=h) (K:=K) [c] OM (by simp)
  have e3:([c].all fun c=>OM.contains c)=(decide ((97:Int)≤c.toNat)&&decide ((c.toNat:Int)≤122)):=by simp only[List.all_cons,List.all_nil,Bool.and_true];exact zjd c
  rw[e3]at o2;unfold OM at o2;have q1:(1:Int)≤((r.length+1:Nat):Int):=by omega
  have q2:1≤r.length+1:=by omega
  by_cases h1:r.length<40
  ·have h1':((r.length+1:Nat):Int)≤40:=by omega
   cases h2:(decide ((97:Int)≤c.toNat)&&decide ((c.toNat:Int)≤122)) with
   | true=>
    have ek:LB (c::r)=(c::r).all zE:=by
     simp only[LB,h1,decide_true,Bool.true_and,h2]
    rw[ek];simp only[eJ,go_sem,LM,h1',q1,q2,win,↓o2,o2,h2,↓o1,o1]
   | false=>
    have ek:LB (c::r)=false:=by simp only[LB,h1,decide_true,Bool.true_and,h2,Bool.false_and]
    rw[ek];simp only[eJ,go_sem,LM,h1',q1,q2,win,↓o2,o2,h2]
  ·have h1':¬((r.length+1:Nat):Int)≤40:=by omega
   have ek:LB (c::r)=false:=by simp only[LB,h1,decide_false,Bool.false_and]
   rw[ek];simp only[eJ,go_sem,LM,h1',q1]
end Go.Am
end
section
/- Finding values in lists: printed by program. -/
open Go
set_option linter.unusedSimpArgs false
namespace Go.Am
attribute [-go_sem] PV.cells
variable {h:aA} {K:jA}
end Go.Am
end
section
/- Limits: what they are,what is wrong with them. -/
open Go
namespace Go.Am
variable {h:aA} {K:jA}
structure Lim where
 key:List UInt8
 lo:Int
 hi:Int
 bin:Int
def Lim.pv (x:Lim):PV:=.agg [.str x.key,eI x.lo,eI x.hi,eI x.bin]
def inB (a n b:Int):Bool:=decide (a≤n)&&decide (n≤b)
theorem dE (n a b:Int):cA X qD [AI n,AI a,AI b] h K=K (AB (!inB a n b)) h []:=by rw[s_Out,zhp];rfl
theorem DE (n a b:Int):cA X iD [AI n,AI a,AI b] h K=K (AB (inB a n b)) h []:=LM n a b
end Go.Am
end
section
/- What is wrong with limits,zD ways: printed by program. -/
open Go
set_option linter.unusedSimpArgs false
namespace Go.Am
variable {h:aA} {K:jA}
end Go.Am
end
section
/- Package lot on measured values,and what the reference says of them. -/
open Go
namespace Go.Am
variable {h:aA} {K:jA}
end Go.Am
end
section
/- Records: what they are,what is wrong with them. -/
open Go
set_option linter.unusedSimpArgs false
namespace Go.Am
variable {h:aA} {K:jA}
theorem zij {b:Nat}{P:jA}{vs:List AV}{h:aA}:sD true b P (some vs) h []=P (jB vs) (h.take (max b (jB vs).top)) []:=by
 simp [sD,close,pC]
attribute [go_sem] zij
structure Rec where
 unit:List UInt8
 time:Int
 site:List UInt8
 res:List Int
def Rec.pv (r:Rec):PV:=.agg [.str r.unit,eI r.time,.str r.site,.sl none (r.res.map eI)]
def lE (n:Int):Bool:=inB 0 n 345686399999
theorem QY (x y:Int):IB y x = - IB x y:=by
 unfold IB;split <;> split <;> (try split) <;> (try split) <;> omega
theorem DG (n:Int):cA X mG [AI n] h K=K (AB (lE n)) h []:=by
 refine MA ?_;rw[z8J rfl];simp only[qS,go_sem,dE,Bool.not_not];rfl
theorem RF (n:Int):cA X eH [AI n] h K=K (AB (lE n)) h []:=by
 refine MA ?_;rw[z9k rfl];simp only[KS,go_sem,DE];rfl
end Go.Am
end
section
/- Entries of stations,plainly: what is wrong with them. -/
set_option linter.all false
namespace Go.Am
structure Ent where
 site:List UInt8
 no:Int
 time:Int
 kind:Int
 board:List UInt8
 step:List UInt8
 of:List UInt8
 other:Int
 deriving DecidableEq
def Ent.pv (x:Ent):PV:=.agg [.str x.site,eI x.no,eI x.time,eI x.kind,.str x.board,.str x.step,.str x.of,eI x.other]
def noB (n:Int):Bool:=inB 1 n 1000000
def TJ (x:Ent):Bool:=if x.kind=7 then LB x.of else if x.kind=2 then LB x.board&&LB x.step else LB x.board
def BQ (x:Ent):Ent:=if x.kind=7 then⟨x.site,x.no,x.time,x.kind,[],[],x.of,x.other⟩ else if x.kind=2 then⟨x.site,x.no,x.time,x.kind,x.board,x.step,[],0⟩ else⟨x.site,x.no,x.time,x.kind,x.board,[],[],0⟩
def JB (x:Ent):Int:=
 if LB x.site=false then 5 else if noB x.no=false∨lE x.time=false then 1 else if inB 1 x.kind 7=false then 4
 else if TJ x=false then 5 else if x.kind=7∧noB x.other=false then 1 else if x≠BQ x then 3 else 0
def IA (a b:Ent):Int:=if IB a.time b.time≠0 then IB a.time b.time else if cB a.site b.site≠0 then cB a.site b.site else IB a.no b.no
theorem CT (a b:Ent):IA b a = - IA a b:=by
 unfold IA;rw[QY a.time b.time,aI a.site b.site,QY a.no b.no];by_cases h1:IB a.time b.time=0
 ·by_cases h2:cB a.site b.site=0
  ·simp [h1,h2]
  ·simp [h1,h2]
 ·simp [h1]
def oB (a b:Ent):Bool:=decide (a.site=b.site)&&decide (a.no=b.no)
def PC:Option Ent→List Ent→Int
 | _,[]=>0
 | p,x::r=>if JB x≠0 then JB x else if(match p with|some q=>decide (IA x q≤0)|none=>false)=true then 7 else PC (some x) r
def LC (seen:List Ent):List Ent→Bool
 | []=>false
 | x::r=>if seen.any (fun o=>oB o x) then true else LC (seen++[x]) r
def wA (l:List Ent):Int:=if(2000:Int)<l.length then 2 else if PC none l≠0 then PC none l else if LC [] l then 6 else 0
end Go.Am
end
section
/- A text split at a byte. -/
set_option linter.all false
namespace Go.Am
end Go.Am
end
section
/- A text read line by line. -/
set_option linter.all false
namespace Go.Am
end Go.Am
end
section
/- Numbers in texts. -/
set_option linter.all false
namespace Go.Am
end Go.Am
end
section
/- Faults of nets: what the words mean,in plain Lean. -/
set_option linter.all false
namespace Go.Am
structure Flt where
 kind:Int
 nets:List Int
 deriving DecidableEq
end Go.Am
end
section
/- Faults read: the program's line and the reference's line agree. -/
set_option linter.all false
namespace Go.Am
end Go.Am
end
section
/- What is written is read: numbers,words,lines. -/
set_option linter.all false
namespace Go.Am
end Go.Am
end
section
/- Entries asv texts,plainly: written,read zD ways. -/
set_option linter.all false
namespace Go.Am
def ent0:Ent:=⟨[],0,0,0,[],[],[],0⟩
end Go.Am
end
section
/- Records: what is wrong with them,zD ways. -/
open Go
set_option linter.unusedSimpArgs false
namespace Go.Am
variable {h:aA} {K:jA}
def orL:List Int→Int
 | []=>0
 | x::r=>if x≠0 then x else orL r
theorem zi9 (l:List Int)(hl:l.length≤1000):cA X lI [AL l] h K=K (AI (orL l)) h []:=by
 refine MA ?_;rw[z8M rfl];simp only[NN,go_sem];refine qB (fun k:Nat=>⟨[(3,AI 0),(6,AL l),(7,AI l.length),(8,AI k)],h,[]⟩) (fun k=>k≤l.length∧orL (l.drop k)=orL l) (fun k=>l.length-k) 0 rfl ⟨by omega,rfl⟩ ?_
 rintro k ⟨hk,hp⟩
 rcases Nat.lt_or_ge k l.length with hlt|hge
 ·have g2:=PB eI hlt
  have w2:IntKind.i64.wrap ((k:Int)+1)=((k+1:Nat):Int):=BA _ (by omega) (by omega)
  rw[List.drop_eq_getElem_cons hlt,orL]at hp;by_cases hz:l[k]=0
  ·rw[if_neg (by simp [hz])]at hp
   simp only[go_sem,hlt,g2,hz,w2];exact⟨k+1,rfl,⟨by omega,hp⟩,by omega⟩
  ·rw[if_pos hz]at hp
   simp only[go_sem,hlt,g2,hz];rw[hp]
 ·have ek:k=l.length:=by omega
  subst ek;rw[List.drop_length]at hp;simp only[go_sem,Nat.lt_irrefl];rw[←hp];rfl
end Go.Am
end
section
/- Entries of stations: compared. -/
open Go
set_option linter.all false
set_option maxRecDepth 100000
namespace Go.Am
variable {h:aA} {K:jA}
abbrev yA (l:List Ent):AV:=.p (.sl (some 8) (l.map Ent.pv))
theorem jI {l:List Ent}:TB (some 8) (l.map Ent.pv):=fun x hx=>by obtain⟨n,_,rfl⟩:=List.mem_map.1 hx;rfl
theorem kG {x:Ent}:aB (some 8) 0 x.pv=some x.pv:=rfl
structure EntOk (x:Ent):Prop where
 s:x.site.length≤1000000
 b:x.board.length≤1000000
 p:x.step.length≤1000000
 o:x.of.length≤1000000
structure EntB (x:Ent):Prop where
 n:1≤x.no∧x.no≤1000000
 t:0≤x.time∧x.time≤345686399999
theorem BF {x:Ent}(h:JB x=0):EntB x:=by
 unfold JB at h;split at h
 ·cases h
 split at h
 ·cases h
 rename_i h2;rw[not_or]at h2;have a:noB x.no=true:=by simpa using h2.1
 have b:lE x.time=true:=by simpa using h2.2
 unfold noB inB at a;unfold lE inB at b;simp at a b;exact⟨a,b⟩
theorem DV (a b:Ent):cA X wE [.p a.pv,.p b.pv] h K=K (AI (IA a b)) h []:=by
 refine MA ?_;rw[z9E rfl];have o:=fun h K=>zi9 (h:=h) (K:=K) [IB a.time b.time,cB a.site b.site,IB a.no b.no] (by simp)
 simp only[AL,List.map_cons,List.map_nil]at o;have e:orL [IB a.time b.time,cB a.site b.site,IB a.no b.no]=IA a b:=by
  unfold IA;simp only[orL];split
  ·rfl
  ·split
   ·rfl
   ·split
    ·rfl
    ·rename_i h;simp only[ne_eq,Decidable.not_not]at h;rw[h]
 rw[e]at o;simp only[lT,Ent.pv,go_sem,zi7,FV,o]
theorem vV (a b:Ent)(ha:EntB a)(hb:EntB b):cA X FD [.p a.pv,.p b.pv] h K=K (AI (IA a b)) h []:=by
 refine MA ?_;rw[AY rfl];have a1:=ha.t
 have a2:=hb.t
 have a3:=ha.n
 have a4:=hb.n
 have w:IntKind.i64.wrap (a.time-b.time)=a.time-b.time:=BA _ (by omega) (by omega)
 have w2:IntKind.i64.wrap (a.no-b.no)=a.no-b.no:=BA _ (by omega) (by omega)
 unfold IA;by_cases he:a.time=b.time
 ·have:IB a.time b.time=0:=by rw[he];unfold IB;simp
  rw[if_neg (by simp [this])]
  by_cases hs:a.site=b.site
  ·have hc:cB a.site b.site=0:=by rw[hs];exact HN _
   rw[if_neg (by simp [hc]),GN]
   simp only[YG,Ent.pv,go_sem,he,hs,w2,sQ]
  ·have hc:cB a.site b.site≠0:=fun e=>hs (ZH e)
   rw[if_pos hc];simp only[YG,Ent.pv,go_sem,he,hs,FV]
 ·have hc:IB a.time b.time≠0:=by unfold IB;split <;> (try split) <;> omega
  rw[if_pos hc];rw[GN];simp only[YG,Ent.pv,go_sem,he,w,sQ]
theorem z31 (a b:Ent):cA X iH [.p a.pv,.p b.pv] h K=K (AB (oB a b)) h []:=by
 refine MA ?_;rw[z9q rfl];unfold oB;by_cases h1:a.site=b.site
 ·simp only[bO,Ent.pv,go_sem,h1]
 ·simp only[bO,Ent.pv,go_sem,h1]
end Go.Am
end
section
/- What is wrong with an entry: the reference. -/
open Go
set_option linter.all false
set_option maxRecDepth 100000
namespace Go.Am
variable {h:aA} {K:jA}
attribute [-go_sem] iB
theorem eqa8 (ks:List Nat)(hk:ks=[2,0,0,0,2,2,2,0])(neg:Bool)(c d:Ent):iB ks neg (.p c.pv) (.p d.pv)=some (AB (bif neg then !decide (c=d) else decide (c=d))):=by
 subst hk;obtain⟨a1,a2,a3,a4,a5,a6,a7,a8⟩:=c;obtain⟨b1,b2,b3,b4,b5,b6,b7,b8⟩:=d;have e:decide ((⟨a1,a2,a3,a4,a5,a6,a7,a8⟩:Ent)=⟨b1,b2,b3,b4,b5,b6,b7,b8⟩)=(decide (a1=b1)&&(decide (a2=b2)&&(decide (a3=b3)&&(decide (a4=b4)&&(decide (a5=b5)&&(decide (a6=b6)&&(decide (a7=b7)&&(decide (a8=b8)&&true)))))))):=by
  rw[Bool.eq_iff_iff];simp [Ent.mk.injEq]
 rw[e];rfl
theorem FO (c d:Ent):iB [2,0,0,0,2,2,2,0] true (.p c.pv) (.p d.pv)=some (AB (!decide (c=d))):=eqa8 _ rfl true c d
theorem eqa8p (c d:Ent):iB [2,0,0,0,2,2,2,0] false (.p c.pv) (.p d.pv)=some (AB (decide (c=d))):=eqa8 _ rfl false c d
def Ent.box (x:Ent):Obj:=.box [AS x.site,AI x.no,AI x.time,AI x.kind,AS x.board,AS x.step,AS x.of,AI x.other]
def refE (x u:Ent)(nm:Bool):Int:=if LB x.site=false then 5 else if noB x.no=false∨lE x.time=false then 1 else if inB 1 x.kind 7=false then 4
 else if nm=false then 5 else if x.kind=7∧noB x.other=false then 1 else if x≠u then 3 else 0
theorem zhN (x:Ent):refE x (BQ x) (TJ x)=JB x:=rfl
theorem zek (x u:Ent)(nm:Bool)(hs:x.site.length≤1000000)(K':Ex→St→Prop) :
 WD (cA X) X.gl (.ref h.length 0) (.ref (h.length+1) 0) (AB nm) (h++[x.box,u.box]) [] K'=K' .ret ⟨[(2,AI (refE x u nm))],h++[x.box,u.box],[]⟩:=by
 have k1:=fun h K=>MM (h:=h) (K:=K) x.site (by omega)
 have hq:=FO x u
 unfold refE noB;unfold Ent.box;simp only[Ent.pv]at hq;cases h1:LB x.site with
 | false=>simp only[WD,go_sem,or_false,false_or,true_or,or_true,true_and,and_true,false_and,and_false,not_true_eq_false,not_false_eq_true,↓k1,k1,h1]
 | true=>
  cases h2:inB 1 x.no 1000000 with
  | false=>simp only[WD,go_sem,or_false,false_or,true_or,or_true,true_and,and_true,false_and,and_false,not_true_eq_false,not_false_eq_true,↓k1,k1,DE,h1,h2]
  | true=>
   cases h3:lE x.time with
   | false=>simp only[WD,go_sem,or_false,false_or,true_or,or_true,true_and,and_true,false_and,and_false,not_true_eq_false,not_false_eq_true,↓k1,k1,DE,RF,h1,h2,h3]
   | true=>
    cases h4:inB 1 x.kind 7 with
    | false=>simp only[WD,go_sem,or_false,false_or,true_or,or_true,true_and,and_true,false_and,and_false,not_true_eq_false,not_false_eq_true,↓k1,k1,DE,RF,h1,h2,h3,h4]
    | true=>
     cases nm with
     | false=>simp only[WD,go_sem,or_false,false_or,true_or,or_true,true_and,and_true,false_and,and_false,not_true_eq_false,not_false_eq_true,↓k1,k1,DE,RF,h1,h2,h3,h4]
     | true=>
      by_cases h7:x.kind=7
      ·cases h6:inB 1 x.other 1000000 with
       | false=>simp only[WD,go_sem,or_false,false_or,true_or,or_true,true_and,and_true,false_and,and_false,not_true_eq_false,not_false_eq_true,↓k1,k1,DE,RF,h1,h2,h3,h4,eq_true h7,h6]
       | true=>
        by_cases e:x=u
        ·rw[decide_eq_true e]at hq
         simp only[WD,go_sem,or_false,false_or,true_or,or_true,true_and,and_true,false_and,and_false,not_true_eq_false,not_false_eq_true,↓k1,k1,DE,RF,h1,h2,h3,h4,eq_true h7,h6,hq,eq_true e]
        ·rw[decide_eq_false e]at hq
         simp only[WD,go_sem,or_false,false_or,true_or,or_true,true_and,and_true,false_and,and_false,not_true_eq_false,not_false_eq_true,↓k1,k1,DE,RF,h1,h2,h3,h4,eq_true h7,h6,hq,e]
      ·by_cases e:x=u
       ·rw[decide_eq_true e]at hq
        simp only[WD,go_sem,or_false,false_or,true_or,or_true,true_and,and_true,false_and,and_false,not_true_eq_false,not_false_eq_true,↓k1,k1,DE,RF,h1,h2,h3,h4,h7,hq,eq_true e]
       ·rw[decide_eq_false e]at hq
        simp only[WD,go_sem,or_false,false_or,true_or,or_true,true_and,and_true,false_and,and_false,not_true_eq_false,not_false_eq_true,↓k1,k1,DE,RF,h1,h2,h3,h4,h7,hq,e]
attribute [-go_sem] WD
theorem z3h (x:Ent)(hx:EntOk x):cA X dH [.p x.pv] h K=K (AI (JB x)) h []:=by
 refine MA ?_;rw[z9f rfl];have k2:=fun h K=>MM (h:=h) (K:=K) x.board (by have:=hx.b;omega)
 have k3:=fun h K=>MM (h:=h) (K:=K) x.step (by have:=hx.p;omega)
 have k4:=fun h K=>MM (h:=h) (K:=K) x.of (by have:=hx.o;omega)
 rw[←zhN];have hs:x.site.length≤1000000:=hx.s
 have Q:=fun u nm K'=>zek (h:=h) x u nm hs K'
 unfold Ent.box at Q;unfold BQ TJ;by_cases h7:x.kind=7
 ·have q:=Q ⟨x.site,x.no,x.time,x.kind,[],[],x.of,x.other⟩ (LB x.of)
  dsimp only at q;simp only[XG,Ent.pv,go_sem,↓k4,k4,h7]at q ⊢;simp only[XG,Ent.pv,go_sem,↓k4,k4,q,h7]
 ·by_cases h2:x.kind=2
  ·cases hb:LB x.board with
   | false=>
    have q:=Q ⟨x.site,x.no,x.time,x.kind,x.board,x.step,[],0⟩ false
    simp only[XG,Ent.pv,go_sem,↓k2,k2,↓k3,k3,h7,eq_true h2,hb,q]
   | true=>
    have q:=Q ⟨x.site,x.no,x.time,x.kind,x.board,x.step,[],0⟩ (LB x.step)
    simp only[XG,Ent.pv,go_sem,↓k2,k2,↓k3,k3,h7,eq_true h2,hb,q]
  ·have q:=Q ⟨x.site,x.no,x.time,x.kind,x.board,[],[],0⟩ (LB x.board)
   simp only[XG,Ent.pv,go_sem,↓k2,k2,↓k3,k3,h7,h2,q]
end Go.Am
end
section
/- What is wrong with an entry: the program. Printed by gen_ent.py. -/
open Go
set_option linter.all false
set_option maxRecDepth 100000
namespace Go.Am
variable {h:aA} {K:jA}
set_option maxHeartbeats 4000000 in
theorem z3z (x:Ent)(hx:EntOk x):cA X qG [.p x.pv] h K=K (AI (JB x)) h []:=by
 refine MA ?_;rw[z9G rfl];have k1:=fun h K=>KM (h:=h) (K:=K) x.site (by have:=hx.s;omega)
 have k2:=fun h K=>KM (h:=h) (K:=K) x.board (by have:=hx.b;omega)
 have k3:=fun h K=>KM (h:=h) (K:=K) x.step (by have:=hx.p;omega)
 have k4:=fun h K=>KM (h:=h) (K:=K) x.of (by have:=hx.o;omega)
 obtain⟨site,no,time,kind,board,step,of,other⟩:=x;dsimp only at k1 k2 k3 k4;unfold JB TJ BQ noB;dsimp only;cases h1:LB site with
 | false=>
  simp only[Ent.pv,go_sem,Ent.mk.injEq,or_false,false_or,true_or,or_true,true_and,and_true,and_self,false_and,and_false,not_true_eq_false,not_false_eq_true,Bool.not_true,Bool.not_false,gG,↓k1,k1,dE,DG,h1]
 | true=>
  cases h2:inB 1 no 1000000 with
  | false=>
   simp only[Ent.pv,go_sem,Ent.mk.injEq,or_false,false_or,true_or,or_true,true_and,and_true,and_self,false_and,and_false,not_true_eq_false,not_false_eq_true,Bool.not_true,Bool.not_false,gG,↓k1,k1,dE,DG,h1,h2]
  | true=>
   cases h3:lE time with
   | false=>
    simp only[Ent.pv,go_sem,Ent.mk.injEq,or_false,false_or,true_or,or_true,true_and,and_true,and_self,false_and,and_false,not_true_eq_false,not_false_eq_true,Bool.not_true,Bool.not_false,gG,↓k1,k1,dE,DG,h1,h2,h3]
   | true=>
    cases h4:inB 1 kind 7 with
    | false=>
     simp only[Ent.pv,go_sem,Ent.mk.injEq,or_false,false_or,true_or,or_true,true_and,and_true,and_self,false_and,and_false,not_true_eq_false,not_false_eq_true,Bool.not_true,Bool.not_false,gG,↓k1,k1,dE,DG,h1,h2,h3,h4]
    | true=>
     by_cases h7:kind=7
     ·have h72:¬kind=2:=by omega
      simp only[Ent.pv,go_sem,Ent.mk.injEq,or_false,false_or,true_or,or_true,true_and,and_true,and_self,false_and,and_false,not_true_eq_false,not_false_eq_true,Bool.not_true,Bool.not_false,gG,↓k1,k1,dE,DG,h1,h2,h3,h4,eq_true h7,h72];cases h5:LB of with
      | false=>
       simp only[Ent.pv,go_sem,Ent.mk.injEq,or_false,false_or,true_or,or_true,true_and,and_true,and_self,false_and,and_false,not_true_eq_false,not_false_eq_true,Bool.not_true,Bool.not_false,↓k4,k4,h5,eq_true h7,h72]
      | true=>
       cases h6:inB 1 other 1000000 with
       | false=>
        simp only[Ent.pv,go_sem,Ent.mk.injEq,or_false,false_or,true_or,or_true,true_and,and_true,and_self,false_and,and_false,not_true_eq_false,not_false_eq_true,Bool.not_true,Bool.not_false,↓k4,k4,dE,h5,h6,eq_true h7,h72]
       | true=>
        by_cases e1:board=[]
        ·by_cases e2:step=[]
         ·simp only[Ent.pv,go_sem,Ent.mk.injEq,or_false,false_or,true_or,or_true,true_and,and_true,and_self,false_and,and_false,not_true_eq_false,not_false_eq_true,Bool.not_true,Bool.not_false,↓k4,k4,dE,h5,h6,eq_true e1,eq_true e2,eq_true h7,h72]
         ·simp only[Ent.pv,go_sem,Ent.mk.injEq,or_false,false_or,true_or,or_true,true_and,and_true,and_self,false_and,and_false,not_true_eq_false,not_false_eq_true,Bool.not_true,Bool.not_false,↓k4,k4,dE,h5,h6,eq_true e1,e2,eq_true h7,h72]
        ·simp only[Ent.pv,go_sem,Ent.mk.injEq,or_false,false_or,true_or,or_true,true_and,and_true,and_self,false_and,and_false,not_true_eq_false,not_false_eq_true,Bool.not_true,Bool.not_false,↓k4,k4,dE,h5,h6,e1,eq_true h7,h72]
     ·by_cases h2k:kind=2
      ·simp only[Ent.pv,go_sem,Ent.mk.injEq,or_false,false_or,true_or,or_true,true_and,and_true,and_self,false_and,and_false,not_true_eq_false,not_false_eq_true,Bool.not_true,Bool.not_false,gG,↓k1,k1,dE,DG,h1,h2,h3,h4,h7,eq_true h2k]
       cases h5:LB board with
       | false=>
        simp only[Ent.pv,go_sem,Ent.mk.injEq,or_false,false_or,true_or,or_true,true_and,and_true,and_self,false_and,and_false,not_true_eq_false,not_false_eq_true,Bool.not_true,Bool.not_false,↓k2,k2,h5,h7,eq_true h2k]
       | true=>
        simp only[Ent.pv,go_sem,Ent.mk.injEq,or_false,false_or,true_or,or_true,true_and,and_true,and_self,false_and,and_false,not_true_eq_false,not_false_eq_true,Bool.not_true,Bool.not_false,↓k2,k2,h5,h7,eq_true h2k];cases h6:LB step with
        | false=>
         simp only[Ent.pv,go_sem,Ent.mk.injEq,or_false,false_or,true_or,or_true,true_and,and_true,and_self,false_and,and_false,not_true_eq_false,not_false_eq_true,Bool.not_true,Bool.not_false,↓k3,k3,h6,h7,eq_true h2k]
        | true=>
         by_cases e1:of=[]
         ·by_cases e2:other=0
          ·simp only[Ent.pv,go_sem,Ent.mk.injEq,or_false,false_or,true_or,or_true,true_and,and_true,and_self,false_and,and_false,not_true_eq_false,not_false_eq_true,Bool.not_true,Bool.not_false,↓k3,k3,h6,eq_true e1,eq_true e2,h7,eq_true h2k]
          ·simp only[Ent.pv,go_sem,Ent.mk.injEq,or_false,false_or,true_or,or_true,true_and,and_true,and_self,false_and,and_false,not_true_eq_false,not_false_eq_true,Bool.not_true,Bool.not_false,↓k3,k3,h6,eq_true e1,e2,h7,eq_true h2k]
         ·simp only[Ent.pv,go_sem,Ent.mk.injEq,or_false,false_or,true_or,or_true,true_and,and_true,and_self,false_and,and_false,not_true_eq_false,not_false_eq_true,Bool.not_true,Bool.not_false,↓k3,k3,h6,e1,h7,eq_true h2k]
      ·simp only[Ent.pv,go_sem,Ent.mk.injEq,or_false,false_or,true_or,or_true,true_and,and_true,and_self,false_and,and_false,not_true_eq_false,not_false_eq_true,Bool.not_true,Bool.not_false,gG,↓k1,k1,dE,DG,h1,h2,h3,h4,h7,h2k]
       cases h5:LB board with
       | false=>
        simp only[Ent.pv,go_sem,Ent.mk.injEq,or_false,false_or,true_or,or_true,true_and,and_true,and_self,false_and,and_false,not_true_eq_false,not_false_eq_true,Bool.not_true,Bool.not_false,↓k2,k2,h5,h7,h2k]
       | true=>
        by_cases e0:step=[]
        ·by_cases e1:of=[]
         ·by_cases e2:other=0
          ·simp only[Ent.pv,go_sem,Ent.mk.injEq,or_false,false_or,true_or,or_true,true_and,and_true,and_self,false_and,and_false,not_true_eq_false,not_false_eq_true,Bool.not_true,Bool.not_false,↓k2,k2,h5,eq_true e0,eq_true e1,eq_true e2,h7,h2k]
          ·simp only[Ent.pv,go_sem,Ent.mk.injEq,or_false,false_or,true_or,or_true,true_and,and_true,and_self,false_and,and_false,not_true_eq_false,not_false_eq_true,Bool.not_true,Bool.not_false,↓k2,k2,h5,eq_true e0,eq_true e1,e2,h7,h2k]
         ·simp only[Ent.pv,go_sem,Ent.mk.injEq,or_false,false_or,true_or,or_true,true_and,and_true,and_self,false_and,and_false,not_true_eq_false,not_false_eq_true,Bool.not_true,Bool.not_false,↓k2,k2,h5,eq_true e0,e1,h7,h2k]
        ·simp only[Ent.pv,go_sem,Ent.mk.injEq,or_false,false_or,true_or,or_true,true_and,and_true,and_self,false_and,and_false,not_true_eq_false,not_false_eq_true,Bool.not_true,Bool.not_false,↓k2,k2,h5,e0,h7,h2k]
end Go.Am
end
section
/- Maps,asv lists of keys with values. -/
open Go
set_option linter.all false
namespace Go.Am
section
variable {α β:Type} [DecidableEq α]
def kE (key:α→PV)(val:β→AV):Nat→List (α×β)→List ME
 | _,[]=>[]
 | n,e::r=>⟨key e.1,val e.2,n⟩::kE key val (n+1) r
def CB (key:α→PV)(val:β→AV)(l:List (α × β)):Obj:=.amap (kE key val 0 l) l.length
def BC (k:α):List (α×β)→Option Nat
 | []=>none
 | e::r=>if k=e.1 then some 0 else(BC k r).map (· + 1)
def WB (k:α):List (α×β)→Option β
 | []=>none
 | e::r=>if k=e.1 then some e.2 else WB k r
def nD (k:α)(v:β):List (α×β)→List (α×β)
 | []=>[(k,v)]
 | e::r=>if k=e.1 then(k,v)::r else e::nD k v r
def bL (key:α→PV):Prop:=∀a b,PV.eqv (key a) (key b)=some (decide (a=b))
theorem z2d:bL PV.str:=fun a b=>rfl
theorem z2e {s:List UInt8}:bD (none,[2]) (.p (.str s))=some (.str s):=by simp [bD,PV.key,PV.shp,PV.sc,PV.cells,PV.kind]
variable {key:α→PV} {val:β→AV}
theorem kU (hk:bL key)(k:α):∀(l:List (α×β)) (n:Nat),wC (key k) (kE key val n l)=some (BC k l)
 | [],n=>rfl
 | e::r,n=>by
  simp only[kE,wC,hk k e.1,BC];by_cases h:k=e.1
  ·simp [h]
  ·simp [h,kU hk k r (n+1)]
theorem fP:∀ (l:List (α × β))(n i:Nat),(kE key val n l)[i]?=(l[i]?).map fun e=>⟨key e.1,val e.2,n+i⟩
 | [],n,i=>rfl
 | e::r,n,0=>rfl
 | e::r,n,i+1=>by simp only[kE,List.getElem?_cons_succ,fP r (n+1) i];rw[show n+1+i=n+(i+1) by omega]
theorem z4l {k:α}:∀{l:List (α×β)} {i:Nat},BC k l=some i→i<l.length
 | [],i,h=>by cases h
 | e::r,i,h=>by
  unfold BC at h;split at h
  ·cases h;simp
  ·obtain⟨j,hj,e2⟩:=Option.map_eq_some_iff.1 h
   have:=z4l hj;simp;omega
theorem VV {k:α}:∀{l:List (α×β)} {i:Nat},BC k l=some i→l[i]?=(WB k l).map fun v=>(k,v)
 | [],i,h=>by cases h
 | e::r,i,h=>by
  unfold BC at h;unfold WB;split at h
  ·rename_i hk;cases h;simp [hk]
  ·rename_i hk
   obtain⟨j,hj,e2⟩:=Option.map_eq_some_iff.1 h;subst e2;rw[if_neg hk,List.getElem?_cons_succ];exact VV hj
theorem WV {k:α}:∀{l:List (α×β)},BC k l=none→WB k l=none
 | [],h=>rfl
 | e::r,h=>by
  unfold BC at h;unfold WB;split at h
  ·cases h
  ·rename_i hk
   rw[if_neg hk];exact WV (by simpa using h)
theorem XV {k:α}:∀{l:List (α×β)} {i:Nat},BC k l=some i→(WB k l).isSome=true
 | [],i,h=>by cases h
 | e::r,i,h=>by
  unfold BC at h;unfold WB;split at h
  ·rename_i hk;simp [hk]
  ·rename_i hk
   obtain⟨j,hj,e2⟩:=Option.map_eq_some_iff.1 h;rw[if_neg hk];exact XV hj
theorem zkr {k:α}{l:List (α × β)}:(BC k l).isSome=(WB k l).isSome:=by
 generalize h:BC k l=o;cases o with
 | none=>rw[WV h];rfl
 | some i=>rw[XV h];rfl
theorem zg8 {k:α}{l:List (α × β)}{n:Nat}:((BC k l).bind fun i=>(kE key val n l)[i]?).map ME.val=(WB k l).map val:=by
 cases h:BC k l with
 | none=>rw[WV h];rfl
 | some i=>
  simp only[Option.bind_some,fP,VV h];cases WB k l <;> rfl
theorem UV {k:α}{v:β}:∀{l:List (α×β)},BC k l=none→nD k v l=l++[(k,v)]
 | [],h=>rfl
 | e::r,h=>by
  unfold BC at h;unfold nD;split at h
  ·cases h
  ·rename_i hk
   rw[if_neg hk,UV (by simpa using h)];rfl
theorem z4b {k:α}{v:β}:∀{l:List (α×β)} {i:Nat},BC k l=some i→nD k v l=l.set i (k,v)
 | [],i,h=>by cases h
 | e::r,i,h=>by
  unfold BC at h;unfold nD;split at h
  ·rename_i hk;cases h;simp [hk]
  ·rename_i hk
   obtain⟨j,hj,e2⟩:=Option.map_eq_some_iff.1 h;subst e2;rw[if_neg hk,z4b hj];rfl
theorem z2p (k:α)(v:β):∀(l:List (α×β)) (n:Nat),kE key val n (l++[(k,v)])=kE key val n l++[⟨key k,val v,n+l.length⟩]
 | [],n=>rfl
 | e::r,n=>by simp only[List.cons_append,kE,z2p k v r (n+1),List.length_cons];rw[show n+1+r.length=n+(r.length+1) by omega]
theorem zgH {k:α}{v:β}{l:List (α × β)}{i n:Nat}(h:BC k l=some i):(kE key val n l).modify i (fun e=>{ e with val:=val v })=kE key val n (l.set i (k,v)):=by
 apply List.ext_getElem?
 intro j;rw[List.getElem?_modify,fP,fP,List.getElem?_set];have hi:=z4l h
 have hg:=VV h
 by_cases hij:i=j
 ·subst hij
  rw[hg];simp only[if_true,hi];obtain⟨w,hw⟩:=Option.isSome_iff_exists.1 (XV h);rw[hw];rfl
 ·simp [hij]
variable {h:aA} {id:Nat} {l:List (α × β)} {kk:Sh × List Nat} {k:α}
theorem z2q (hh:h[id]?=some (CB key val l)):sC h (.mp id)=some (id,kE key val 0 l,l.length):=by
 simp only[sC,hh,CB]
theorem gU (hk:bL key)(hh:h[id]?=some (CB key val l))(hq:bD kk (.p (key k))=some (key k)){ok:Bool}{z:AV} :
 aC kk ok z (.mp id) (.p (key k)) h=some (bif ok then .tup [((WB k l).map val).getD z,AV.p (.bool (WB k l).isSome)] else((WB k l).map val).getD z):=by
 simp only[aC,hq,z2q hh,Option.map_some,kU hk,zg8,Option.isSome_map];rfl
theorem nU (hk:bL key)(hh:h[id]?=some (CB key val l))(hq:bD kk (.p (key k))=some (key k)){v:β}(hv:zH (val v)=true) :
 jC kk (.mp id) (.p (key k)) (val v) h=some (.und,h.set id (CB key val (nD k v l)),IC id (val v)):=by
 simp only[jC,hq,z2q hh,hv,kU hk];cases hw:BC k l with
 | none=>
  simp only[CB,UV hw,z2p,List.length_append,List.length_cons,List.length_nil,Nat.zero_add]
 | some i=>
  simp only[CB,z4b hw,zgH hw,List.length_set]
theorem TO (k k':α)(v:β):∀(l:List (α×β)),WB k' (nD k v l)=if k'=k then some v else WB k' l
 | []=>by simp [nD,WB]
 | e::r=>by
  unfold nD;by_cases h1:k=e.1
  ·rw[if_pos h1];simp only[WB]
   by_cases h2:k'=k
   ·simp [h2]
   ·rw[if_neg h2,if_neg h2,if_neg (by rw[←h1];exact h2)]
  ·rw[if_neg h1];simp only[WB,TO k k' v r]
   by_cases h2:k'=e.1
   ·rw[if_pos h2,if_pos h2,if_neg (by rw[h2];exact fun h=>h1 h.symm)]
   ·rw[if_neg h2,if_neg h2]
end
end Go.Am
end
section
/- Lists of entries: what is wrong with them,the program. -/
open Go
set_option linter.all false
set_option maxRecDepth 100000
namespace Go.Am
variable {h:aA} {K:jA}
def uD (s:List UInt8 × Int):PV:=.agg [.str s.1,.int .i64 s.2]
def ZC (b:Bool):AV:=.p (.bool b)
theorem ZO:bL uD:=fun a b=>by
 obtain⟨a1,a2⟩:=a;obtain⟨b1,b2⟩:=b;have e:decide ((a1,a2)=(b1,b2))=(decide (a1=b1)&&(decide (a2=b2)&&true)):=by rw[Bool.eq_iff_iff];simp
 rw[e];rfl
theorem aP {s:List UInt8 × Int}:bD (some 2,[2,0]) (.p (uD s))=some (uD s):=by simp [uD,bD,PV.key,PV.shp,PV.sc,PV.cells,PV.kind]
def EE (l:List Ent):List ((List UInt8×Int)×Bool):=l.map fun x=>((x.site,x.no),true)
theorem XT (x:Ent):∀l:List Ent,WB (x.site,x.no) (EE l)=if l.any (fun o=>oB o x) then some true else none
 | []=>rfl
 | y::l=>by
  have ih:=XT x l
  unfold EE at ih ⊢;rw[List.map_cons];unfold WB;rw[ih,List.any_cons];have e:((x.site,x.no)=(y.site,y.no))↔oB y x=true:=by
   unfold oB;simp only[Prod.mk.injEq,Bool.and_eq_true,decide_eq_true_eq];exact⟨fun h=>⟨h.1.symm,h.2.symm⟩,fun h=>⟨h.1.symm,h.2.symm⟩⟩
  by_cases hc:oB y x=true
  ·rw[if_pos (e.2 hc),hc];rfl
  ·have hf:oB y x=false:=by simpa using hc
   rw[if_neg (fun z=>hc (e.1 z)),hf,Bool.false_or]
theorem zkl (l:List Ent)(x:Ent)(h:l.any (fun o=>oB o x)=false):nD (x.site,x.no) true (EE l)=EE (l++[x]):=by
 have:BC (x.site,x.no) (EE l)=none:=by
  have e:=zkr (k:=(x.site,x.no)) (l:=EE l)
  rw[XT,h]at e;simpa using e
 rw[UV this];unfold EE;simp
attribute [-go_sem] aC jC
theorem z32 (l:List Ent)(hn:l.length≤1000000):cA X gF [yA l] h K=K (AB (LC [] l)) h []:=by
 refine MA ?_;rw[z9I rfl];simp only[tO,go_sem];refine qB (fun k:Nat=>⟨[(3,.mp h.length),(8,yA l),(9,AI l.length),(10,AI k)],h++[CB uD ZC (EE (l.take k))],[]⟩) (fun k=>k≤l.length∧LC (l.take k) (l.drop k)=LC [] l) (fun k=>l.length-k) 0 rfl ⟨by omega,rfl⟩ ?_
 rintro k ⟨hkl,hp⟩
 rcases Nat.lt_or_ge k l.length with hlt|hge
 ·have hg:=PB Ent.pv hlt
  have w2:IntKind.i64.wrap ((k:Int)+1)=((k+1:Nat):Int):=BA _ (by omega) (by omega)
  have cx:=kG (x:=l[k])
  rw[List.drop_eq_getElem_cons hlt,LC,←List.take_succ_eq_append_getElem hlt]at hp;have ek:l.take (k+1)=l.take k++[l[k]]:=List.take_succ_eq_append_getElem hlt
  generalize hx:l[k]=x at *;generalize l.take k=S at *;have lk:=fun(hp:aA) (e:hp[h.length]?=some (CB uD ZC (EE S)))=>gU (kk:=(some 2,[2,0])) (k:=(x.site,x.no)) ZO e aP (ok:=false) (z:=ZC false)
  have up:=fun(hp:aA) (e:hp[h.length]?=some (CB uD ZC (EE S)))=>nU (kk:=(some 2,[2,0])) (k:=(x.site,x.no)) ZO e aP (v:=true) rfl
  have l1:=fun t=>lk (h++CB uD ZC (EE S)::t) (by simp)
  have u1:=fun t=>up (h++CB uD ZC (EE S)::t) (by simp)
  rw[XT]at l1;simp only[ZC,uD,cond_false,IC,AV.top]at l1 u1;cases hc:S.any (fun o=>oB o x) with
  | true=>
   rw[hc,if_pos rfl]at hp;rw[hc]at l1;simp only[if_true,Option.map_some,Option.getD_some,ZC]at l1;simp only[go_sem,hlt,hg,cx,Ent.pv,splice,l1];rw[←hp]
  | false=>
   rw[hc,if_neg (by simp)]at hp
   rw[hc]at l1;have us:=zkl S x hc
   simp only[Bool.false_eq_true,if_false,Option.map_none,Option.getD_none]at l1;have nl0:¬h.length<0:=by omega
   simp only[nl0,if_false]at u1;rw[us]at u1;simp only[go_sem,hlt,hg,cx,Ent.pv,splice,l1,u1,w2];refine⟨k+1,?_,⟨by omega,?_⟩,by omega⟩
   ·rw[ek]
   ·rw[ek];rw[←ek];exact hp
 ·have ek:k=l.length:=by omega
  subst ek;rw[List.drop_length]at hp;simp only[go_sem,Nat.lt_irrefl];rw[←hp];rfl
theorem z0B {p:Option Ent}{x:Ent}{r:List Ent}:PC p (x::r)=if JB x≠0 then JB x else if(match p with|some q=>decide (IA x q≤0)|none=>false)=true then 7 else PC (some x) r:=rfl
theorem JM (r:List Ent)(hr:∀ x∈r,EntOk x)(hn:r.length≤1000000):cA X rD [yA r] h K=K (AI (wA r)) h []:=by
 refine MA ?_;rw[z99 rfl];have tw:=fun h K=>z32 (h:=h) (K:=K) r hn
 unfold wA;by_cases h1:(2000:Int)<r.length
 ·simp only[JL,go_sem,h1]
 simp only[JL,go_sem,h1];refine qB (fun k:Nat=>⟨[(0,yA r),(9,yA r),(10,AI r.length),(11,AI k)],h,[]⟩) (fun k=>k≤r.length∧PC (r.take k).getLast? (r.drop k)=PC none r) (fun k=>r.length-k) 0 rfl ⟨by omega,rfl⟩ ?_
 rintro k ⟨hkl,hp⟩
 rcases Nat.lt_or_ge k r.length with hlt|hge
 ·have hg:=PB Ent.pv hlt
  have w2:IntKind.i64.wrap ((k:Int)+1)=((k+1:Nat):Int):=BA _ (by omega) (by omega)
  have hx:=hr _ (List.getElem_mem hlt)
  have hlast:(r.take (k+1)).getLast?=some r[k]:=by rw[List.take_succ_eq_append_getElem hlt];exact List.getLast?_concat
  rw[List.drop_eq_getElem_cons hlt,z0B]at hp;have cx:=kG (x:=r[k])
  have rf:=fun h K=>z3z (h:=h) (K:=K) r[k] hx
  simp only[Ent.pv]at rf;by_cases h2:JB r[k]=0
  ·rw[if_neg (by simp [h2])]at hp
   cases k with
   | zero=>
    simp only[List.take_zero,List.getLast?_nil,reduceCtorEq,if_false]at hp;have hlt0:(0:Int)<r.length:=by omega
    simp only[go_sem,hlt0,hg,cx,Ent.pv,rf,h2,Int.lt_irrefl,splice,show IntKind.i64.wrap 1=1 from rfl]
    exact⟨0+1,rfl,⟨by omega,by rw[hlast];exact hp⟩,by omega⟩
   | succ j=>
    have hj:j<r.length:=by omega
    have hgj:=PB Ent.pv hj
    have cj:=kG (x:=r[j])
    have hlj:(r.take (j+1)).getLast?=some r[j]:=by rw[List.take_succ_eq_append_getElem hj];exact List.getLast?_concat
    have w3:IntKind.i64.wrap (((j+1:Nat):Int)-1)=(j:Int):=by rw[BA _ (by omega) (by omega)];omega
    have p1:(0:Int)<((j+1:Nat):Int):=by omega
    have bt:=fun h K=>DV (h:=h) (K:=K) r[j+1] r[j]
    simp only[Ent.pv]at bt;rw[hlj]at hp;by_cases h3:IA r[j+1] r[j]≤0
    ·simp only[h3,decide_true,if_true]at hp
     simp only[go_sem,hlt,hj,hg,hgj,cx,cj,Ent.pv,rf,h2,p1,w3,bt,h3,splice];rw[←hp];rfl
    ·simp only[h3,decide_false,reduceCtorEq,if_false]at hp
     simp only[go_sem,hlt,hj,hg,hgj,cx,cj,Ent.pv,rf,h2,p1,w3,bt,h3,w2,splice];exact⟨j+1+1,rfl,⟨by omega,by rw[hlast];exact hp⟩,by omega⟩
  ·rw[if_pos h2]at hp
   simp only[go_sem,hlt,hg,cx,Ent.pv,rf,h2,splice];rw[←hp,if_pos h2]
 ·have ek:k=r.length:=by omega
  subst ek;rw[List.drop_length]at hp;have hz:PC none r=0:=by rw[←hp];cases (r.take r.length).getLast? <;> rfl
  rw[if_neg (by simp [hz])]
  cases ht:LC [] r with
  | true=>
   rw[ht]at tw;simp only[go_sem,Nat.lt_irrefl,tw];first|done|rfl
  | false=>
   rw[ht]at tw;simp only[go_sem,Nat.lt_irrefl,tw];first|done|rfl
end Go.Am
end
section
/- Lists of entries: sorted,looked through: printed by program. -/
open Go
set_option linter.unusedSimpArgs false
namespace Go.Am
attribute [-go_sem] PV.cells splice
variable {h:aA} {K:jA}
theorem z1P (id n:Nat)(l tl:List PV)(hn:n=l.length+tl.length)(hs:TB (some 8) l)(hl:l.length≤1000)(hh:h[id]?=some (.row (some 8) (l++tl) 0)){g:Nat}{caps:List AV}{c:PV→PV→Int}(hc:Cmps g caps c l id h) :
 cA X aE [.own id n 0 l.length,AI 0,AI l.length,.fn g caps] h K=K (.tup []) (h.set id (.row (some 8) (WA (ltC c) l++tl) 0)) []:=by
 refine MA ?_;rw[VR];have hid:=xE hh
 have hst:∀o,(h.set id o)[id]?=some o:=fun o=>tD hid
 simp only[fJ,go_sem,show IntKind.i64.wrap 1=1 from rfl]
 refine qB (fun i:Nat=>⟨[(0,.own id n 0 l.length),(1,AI 0),(2,AI l.length),(3,.fn g caps),(8,AI i)],h.set id (.row (some 8) ((JD (ltC c) (l.take i)).reverse++(l.drop i++tl)) 0),[]⟩) (fun i=>1≤i∧(i≤l.length∨i=1)) (fun i=>l.length-i) 1 ?_ (by simp) ?_
 ·have:(JD (ltC c) (l.take 1)).reverse++(l.drop 1++tl)=l++tl:=by cases l <;> rfl
  rw[this,FG hh];rfl
 rintro i ⟨hi1,hi2⟩
 rcases Nat.lt_or_ge i l.length with hlt|hge
 ·simp only[go_sem,hlt]
  have hxl:l[i]∈l:=List.getElem_mem hlt
  generalize hx:l[i]=x at *;generalize hR:JD (ltC c) (l.take i)=R;have hRl:R.length=i:=by rw[←hR,z1V];simp;omega
  have hRm:∀z∈R,z∈l:=fun z hz=>List.mem_of_mem_take ((YO (ltC c) (l.take i)).mem_iff.1 (by rw[hR];exact hz))
  have hdrop:l.drop i=x::l.drop (i+1):=by rw[←hx];exact List.drop_eq_getElem_cons hlt
  have hnext:JD (ltC c) (l.take (i+1))=iC (ltC c) x R:=by rw[z1Y _ _ _ hlt,hR,hx]
  refine qB (fun t:List PV×List PV=>⟨[(0,.own id n 0 l.length),(1,AI 0),(2,AI l.length),(3,.fn g caps),(8,AI i),(9,AI t.1.length)],h.set id (.row (some 8) (t.1.reverse++x::t.2) 0),[]⟩)
   (fun t=>∃B,R=B++t.1∧t.2=B.reverse++(l.drop (i+1)++tl)∧∀b∈B,ltC c x b=true) (fun t=>t.1.length) (R,l.drop (i+1)++tl) (by rw[hdrop,hRl];rfl) ⟨[],rfl,rfl,by simp⟩ ?_
  rintro⟨A,C⟩ ⟨B,q1,q2,q3⟩
  dsimp only at q1 q2 q3;have hlen:(A.reverse++x::C).length=n:=by
   have:R.length=B.length+A.length:=by rw[q1];simp
   rw[q2];simp;omega
  have hBA:B.length+A.length<l.length:=by
   have:R.length=B.length+A.length:=by rw[q1];simp
   omega
  have hln:l.length≤n:=by omega
  have w1:IntKind.i64.wrap ((i:Int)+1)=((i+1:Nat):Int):=BA _ (by omega) (by omega)
  cases A with
  | nil=>
   have hd:iC (ltC c) x R=B++[x]:=by rw[q1];exact XO (ltC c) x [] B q3 (fun y r h=>by cases h)
   simp only[go_sem,Int.lt_irrefl,w1];refine⟨i+1,?_,by omega,by omega⟩
   simp only[hnext,hd,q2,List.reverse_append,List.reverse_nil,List.nil_append,List.reverse_cons,List.append_assoc,List.cons_append]
  | cons y A=>
   have hyl:y∈l:=hRm y (by rw[q1];simp)
   have g1:=z1S (y::A) C x
   have g2:=z1T A C x y
   have sw:=z1U A C x y
   simp only[List.length_cons]at hBA;generalize hrow:(y::A).reverse++x::C=row at *;simp only[List.length_cons]at g1;have w2:IntKind.i64.wrap (((A.length+1:Nat):Int)-1)=(A.length:Int):=by rw[BA _ (by omega) (by omega)];omega
   have p1:(0:Int)<((A.length+1:Nat):Int):=by omega
   have b1:A.length+1<l.length:=by omega
   have b2:A.length<l.length:=by omega
   have cx:=cC (hs x hxl)
   have cy:=cC (hs y hyl)
   have hcc:=fun o K=>hc o x hxl y hyl K
   by_cases hxy:c x y<0
   ·have g3:(row.set (A.length+1) y)[A.length]?=some y:=by rw[List.getElem?_set_ne (by omega),g2]
    have lx:=QD (hs x hxl)
    have ly:=QD (hs y hyl)
    have sx:=PD (hs x hxl)
    have sy:=PD (hs y hyl)
    simp only[gA]at lx ly;have t1:=fun i xs h1=>RD (hs x hxl) (hs y hyl) id i 0 xs h1
    have t2:=fun i xs h1=>RD (hs y hyl) (hs x hxl) id i 0 xs h1
    simp only[go_sem,hst,p1,hlen,g1,g2,g3,w2,b1,b2,hln,cx,cy,hcc,hxy,lx,ly,sx,sy,t1,t2,sw];refine⟨(A,y::C),rfl,⟨B++[y],by simp [q1],by simp [q2],fun b hb=>?_⟩,by simp⟩
    rw[List.mem_append,List.mem_singleton]at hb;rcases hb with hb|rfl
    ·exact q3 b hb
    ·simpa [ltC] using hxy
   ·have hd:iC (ltC c) x R=B++x::y::A:=by rw[q1];exact XO (ltC c) x (y::A) B q3 (fun z r h=>by cases h;simpa [ltC] using hxy)
    simp only[go_sem,hst,p1,hlen,g1,g2,w2,b1,b2,hln,cx,cy,hcc,hxy,w1];refine⟨i+1,?_,by omega,by omega⟩
    simp only[hnext,hd,←hrow,q2,List.reverse_append,List.reverse_cons,List.append_assoc,List.cons_append,List.nil_append]
 ·have hge':¬i<l.length:=by omega
  have e1:l.take i=l:=List.take_of_length_le hge
  have e2:l.drop i=[]:=List.drop_of_length_le hge
  simp only[go_sem,hge',e1,e2];rfl
theorem zfv (id n:Nat)(hn:n≤1000){g:Nat}{caps:List AV} :
 cA X aE [.own id n 0 n,AI n,AI n,.fn g caps] h K=K (.tup []) h []:=by
 refine MA ?_;rw[VR];have w1:IntKind.i64.wrap ((n:Int)+1)=((n+1:Nat):Int):=BA _ (by omega) (by omega)
 have b1:¬((n+1:Nat):Int)<(n:Int):=by omega
 simp only[fJ,go_sem,w1];refine qB (fun _:Unit=>⟨[(0,.own id n 0 n),(1,AI n),(2,AI n),(3,.fn g caps),(8,AI ((n+1:Nat):Int))],h,[]⟩) (fun _=>True) (fun _=>0) () rfl trivial ?_
 intro _ _;simp only[go_sem,b1]
theorem z3J (id:Nat)(l:List PV)(hs:TB (some 8) l)(hl:l.length≤20)(hh:h[id]?=some (.row (some 8) l 0)){g:Nat}{caps:List AV}{c:PV→PV→Int}(hc:Cmps g caps c l id h) :
 cA X nH [.own id l.length 0 l.length,.fn g caps] h K=K (.tup []) (h.set id (.row (some 8) (WA (ltC c) l) 0)) []:=by
 refine MA ?_;rw[z92];have key:∀K:jA,cA X FJ [.own id l.length 0 l.length,AI l.length,.fn g caps] h K=K (.tup []) (h.set id (.row (some 8) (WA (ltC c) l) 0)) []:=by
  intro K;refine MA ?_;rw[z98];have is:=fun K=>z1P (h:=h) (K:=K) id l.length l [] rfl hs (by omega) (by rw[List.append_nil];exact hh) hc
  have i0:=fun K=>zfv (h:=h.set id (.row (some 8) (WA (ltC c) l) 0)) (K:=K) (g:=g) (caps:=caps) id l.length (by omega)
  simp only[List.append_nil]at is;have b2:¬((20:Int)<(l.length:Int)):=by omega
  simp only[pO,go_sem];refine qB (fun t:Bool=>⟨[(0,.own id l.length 0 l.length),(1,AI l.length),(2,.fn g caps),(6,AI 20),(7,AI (if t=true then 20 else 0)),(8,AI (if t=true then 40 else 20))],if t=true then h.set id (.row (some 8) (WA (ltC c) l) 0) else h,[]⟩) (fun t=>t=true→l.length=20) (fun t=>if t=true then 0 else 1) false rfl (fun e=>by cases e) ?_
  intro t ht;cases t with
  | false=>
   by_cases he:l.length=20
   ·have e20:((l.length:Nat):Int)=20:=by omega
    have gen:∀z:Int,z=(l.length:Int)→∀K:jA,cA X aE [.own id l.length 0 l.length,AI 0,AI z,.fn g caps] h K=K (.tup []) (h.set id (.row (some 8) (WA (ltC c) l) 0)) []:=fun z hz K=>by subst hz;exact is K
    have is':=gen 20 (by omega)
    have b1:(20:Int)≤(l.length:Int):=by omega
    simp only[go_sem,if_true,if_false,Bool.false_eq_true,b1,is',show IntKind.i64.wrap ((20:Int)+20)=40 from rfl]
    exact⟨true,rfl,fun _=>he,by decide⟩
   ·have b1:¬((20:Int)≤(l.length:Int)):=by omega
    simp only[go_sem,if_true,if_false,Bool.false_eq_true,b1,is];refine qB (fun _:Unit=>⟨[(0,.own id l.length 0 l.length),(1,AI l.length),(2,.fn g caps),(6,AI 20)],h.set id (.row (some 8) (WA (ltC c) l) 0),[]⟩) (fun _=>True) (fun _=>0) () rfl trivial ?_
    intro _ _;simp only[go_sem,b2]
  | true=>
   have he:=ht rfl
   have e20:((l.length:Nat):Int)=20:=by omega
   have gen:∀z:Int,z=(l.length:Int)→∀K:jA,cA X aE [.own id l.length 0 l.length,AI z,AI l.length,.fn g caps] (h.set id (.row (some 8) (WA (ltC c) l) 0)) K=K (.tup []) (h.set id (.row (some 8) (WA (ltC c) l) 0)) []:=fun z hz K=>by subst hz;exact i0 K
   have i0':=gen 20 (by omega)
   have b1:¬((40:Int)≤(l.length:Int)):=by omega
   simp only[go_sem,if_true,if_false,Bool.false_eq_true,b1,i0'];refine qB (fun _:Unit=>⟨[(0,.own id l.length 0 l.length),(1,AI l.length),(2,.fn g caps),(6,AI 20)],h.set id (.row (some 8) (WA (ltC c) l) 0),[]⟩) (fun _=>True) (fun _=>0) () rfl trivial ?_
   intro _ _;simp only[go_sem,b2]
 simp only[US,go_sem,key]
theorem sW {v:AV}{g:Nat}{caps:List AV}{p:PV→Bool}{xs:List PV}(hv:Shows (some 8) v xs h)(hp:NQ g caps p xs h)(hl:xs.length≤1000000000) :
 cA X lH [v,.fn g caps] h K=K (AI (xG p xs)) h []:=by
 refine MA ?_;rw[z90];have vl:=hv.len
 simp only[eO,go_sem,vl];refine qB (fun k:Nat=>⟨[(0,v),(1,.fn g caps),(7,AI xs.length),(8,AI k)],h,[]⟩) (fun k=>k≤xs.length∧∀x∈xs.take k,p x=false) (fun k=>xs.length-k) 0 rfl (by simp) ?_
 rintro k ⟨hk,hn⟩
 rcases Nat.lt_or_ge k xs.length with hlt|hge
 ·obtain⟨a,ha,hb⟩:=hv.get k hlt
  have w2:IntKind.i64.wrap ((k:Int)+1)=((k+1:Nat):Int):=BA _ (by omega) (by omega)
  have ht:=hp _ (List.getElem_mem hlt)
  cases hpk:p xs[k]with
  | true=>
   have hf:xs.findIdx p=k:=by
    rw[List.findIdx_eq hlt];refine⟨hpk,fun j hj=>?_⟩
    have:=hn xs[j] (by rw[List.mem_take_iff_getElem];exact⟨j,by omega,rfl⟩)
    simpa using this
   simp only[go_sem,hlt,ha,hb,ht,hpk,w2];simp only[xG,hf,hlt,if_true]
  | false=>
   simp only[go_sem,hlt,ha,hb,ht,hpk,w2];refine⟨k+1,rfl,⟨by omega,fun x hx=>?_⟩,by omega⟩
   rw[List.take_succ_eq_append_getElem hlt,List.mem_append,List.mem_singleton]at hx;rcases hx with hx|hx
   ·exact hn x hx
   ·rw[hx];exact hpk
 ·have e1:k=xs.length:=by omega
  subst e1;simp only[go_sem,Nat.lt_irrefl];rw[List.take_length]at hn;have:¬xs.findIdx p<xs.length:=by
   rw[Nat.not_lt,Nat.le_iff_lt_or_eq];right
   exact(List.findIdx_eq_length.2 (fun x hx=>by simp [hn x hx])).symm
  simp [xG,this]
theorem z5x {g:Nat}{caps:List AV}{p:PV→Bool}{xs:List PV}(hp:NQ g caps p xs h)(hs:TB (some 8) xs)(hl:xs.length≤1000000000) :
 cA X BJ [.p (.sl (some 8) xs),.fn g caps] h K=K (AB (xs.any p)) h []:=by
 refine MA ?_;rw[z9w];have vi:=fun K=>sW (h:=h) (K:=K) (z3G hs) hp hl
 simp only[SS,go_sem,vi,zfl]
end Go.Am
end
section
/- Lists of entries: what is wrong with them,the reference. -/
open Go
set_option linter.all false
set_option maxRecDepth 100000
namespace Go.Am
variable {h:aA} {K:jA}
attribute [-go_sem] iB
def yC:PV→Ent
 | .agg [.str a,.int _ b,.int _ c,.int _ d,.str e,.str f,.str g,.int _ i]=>⟨a,b,c,d,e,f,g,i⟩
 | _=>ent0
theorem TV (x:Ent):yC x.pv=x:=rfl
theorem s_EF1 (o x:Ent)(id:Nat)(hx:h[id]?=some x.box):cA X qI [.p o.pv,.ref id 0] h K=K (AB (oB o x)) h []:=by
 refine MA ?_;rw[z9e rfl];have q:=fun h K=>z31 (h:=h) (K:=K) o x
 have hl:=xE hx
 have hx2:∀t,(h++t)[id]?=some x.box:=fun t=>by rw[List.getElem?_append_left hl];exact hx
 simp only[Ent.pv]at q;unfold Ent.box at hx hx2;simp only[GS,Ent.pv,go_sem,hx,hx2,q]
attribute [-go_sem] rT
theorem OK (r:List Ent)(hr:∀ x∈r,EntOk x)(hn:r.length≤1000000):cA X tE [yA r] h K=K (AI (wA r)) h []:=by
 refine MA ?_;rw[z9d rfl];unfold wA;by_cases h1:(2000:Int)<r.length
 ·simp only[sL,go_sem,h1]
 simp only[sL,go_sem,h1];refine qB (fun k:Nat=>⟨[(0,yA r),(11,yA r),(12,AI r.length),(13,AI k)],h,[]⟩) (fun k=>k≤r.length∧PC (r.take k).getLast? (r.drop k)=PC none r∧∀x∈r.take k,JB x=0) (fun k=>r.length-k) 0 rfl ⟨by omega,rfl,by simp⟩ ?_
 rintro k ⟨hkl,hp,hz⟩
 rcases Nat.lt_or_ge k r.length with hlt|hge
 ·have hg:=PB Ent.pv hlt
  have w2:IntKind.i64.wrap ((k:Int)+1)=((k+1:Nat):Int):=BA _ (by omega) (by omega)
  have hx:=hr _ (List.getElem_mem hlt)
  have hlast:(r.take (k+1)).getLast?=some r[k]:=by rw[List.take_succ_eq_append_getElem hlt];exact List.getLast?_concat
  rw[List.drop_eq_getElem_cons hlt,z0B]at hp;have cx:=kG (x:=r[k])
  have rf:=fun h K=>z3h (h:=h) (K:=K) r[k] hx
  simp only[Ent.pv]at rf;by_cases h2:JB r[k]=0
  ·rw[if_neg (by simp [h2])]at hp
   have hz':∀x∈r.take (k+1),JB x=0:=fun x hx=>by
    rw[List.take_succ_eq_append_getElem hlt,List.mem_append,List.mem_singleton]at hx;rcases hx with hx|rfl
    ·exact hz x hx
    ·exact h2
   cases k with
   | zero=>
    simp only[List.take_zero,List.getLast?_nil,reduceCtorEq,if_false]at hp;have hlt0:(0:Int)<r.length:=by omega
    simp only[go_sem,hlt0,hg,cx,Ent.pv,rf,h2,Int.lt_irrefl,splice,show IntKind.i64.wrap 1=1 from rfl]
    exact⟨0+1,rfl,⟨by omega,by rw[hlast];exact hp,hz'⟩,by omega⟩
   | succ j=>
    have hj:j<r.length:=by omega
    have hgj:=PB Ent.pv hj
    have cj:=kG (x:=r[j])
    have hlj:(r.take (j+1)).getLast?=some r[j]:=by rw[List.take_succ_eq_append_getElem hj];exact List.getLast?_concat
    have w3:IntKind.i64.wrap (((j+1:Nat):Int)-1)=(j:Int):=by rw[BA _ (by omega) (by omega)];omega
    have p1:(0:Int)<((j+1:Nat):Int):=by omega
    have t1:=BF h2
    have t2:=BF (hz r[j] (by rw[List.mem_take_iff_getElem];exact⟨j,by omega,rfl⟩))
    have bt:=fun h K=>vV (h:=h) (K:=K) r[j] r[j+1] t2 t1
    simp only[Ent.pv]at bt;rw[hlj]at hp;have hneg:=CT r[j+1] r[j]
    by_cases h3:IA r[j+1] r[j]≤0
    ·have h3':0≤IA r[j] r[j+1]:=by omega
     simp only[h3,decide_true,if_true]at hp;simp only[go_sem,hlt,hj,hg,hgj,cx,cj,Ent.pv,rf,h2,p1,w3,bt,h3',splice];rw[←hp];rfl
    ·have h3':¬0≤IA r[j] r[j+1]:=by omega
     simp only[h3,decide_false,reduceCtorEq,if_false]at hp;simp only[go_sem,hlt,hj,hg,hgj,cx,cj,Ent.pv,rf,h2,p1,w3,bt,h3',w2,splice];exact⟨j+1+1,rfl,⟨by omega,by rw[hlast];exact hp,hz'⟩,by omega⟩
  ·rw[if_pos h2]at hp
   simp only[go_sem,hlt,hg,cx,Ent.pv,rf,h2,splice];rw[←hp,if_pos h2]
 ·have ek:k=r.length:=by omega
  subst ek;rw[List.drop_length]at hp;have hz0:PC none r=0:=by rw[←hp];cases (r.take r.length).getLast? <;> rfl
  rw[if_neg (by simp [hz0])]
  simp only[go_sem,Nat.lt_irrefl];rw[rT];simp only[WN,go_sem];refine qB (fun k:Nat=>⟨[(0,yA r),(36,yA r),(37,AI r.length),(38,AI k)],h,[]⟩) (fun k=>k≤r.length∧LC (r.take k) (r.drop k)=LC [] r) (fun k=>r.length-k) 0 rfl ⟨by omega,rfl⟩ ?_
  rintro k ⟨hkl2,hp2⟩
  rcases Nat.lt_or_ge k r.length with hlt|hge
  ·have hg:=PB Ent.pv hlt
   have w2:IntKind.i64.wrap ((k:Int)+1)=((k+1:Nat):Int):=BA _ (by omega) (by omega)
   have cx:=kG (x:=r[k])
   rw[List.drop_eq_getElem_cons hlt,LC,←List.take_succ_eq_append_getElem hlt]at hp2;have cf:=fun K=>z5x (h:=h++[r[k].box]) (K:=K) (g:=qI) (caps:=[.ref h.length 0]) (p:=fun v=>oB (yC v) r[k]) (xs:=(r.take k).map Ent.pv)
    (fun v hv K=>by
     obtain⟨o,_,rfl⟩:=List.mem_map.1 hv;dsimp only;rw[TV];exact s_EF1 o r[k] h.length (by simp)) jI (by simp;omega)
   have ea:((r.take k).map Ent.pv).any (fun v=>oB (yC v) r[k])=(r.take k).any (fun o=>oB o r[k]):=by
    rw[List.any_map];rfl
   rw[ea]at cf;have hw:win (r.map Ent.pv) 0 k=(r.take k).map Ent.pv:=by simp [win,List.map_take]
   have hkl3:k≤r.length:=by omega
   unfold Ent.box at cf;cases hc:(r.take k).any (fun o=>oB o r[k]) with
   | true=>
    rw[hc,if_pos rfl]at hp2;rw[hc]at cf;simp only[go_sem,hlt,hg,cx,Ent.pv,splice,hkl3,hw,↓cf,cf];rw[←hp2];first|done|rfl
   | false=>
    rw[hc,if_neg (by simp)]at hp2
    rw[hc]at cf;simp only[go_sem,hlt,hg,cx,Ent.pv,splice,hkl3,hw,↓cf,cf,w2];exact⟨k+1,rfl,⟨by omega,hp2⟩,by omega⟩
  ·have ek:k=r.length:=by omega
   subst ek;rw[List.drop_length]at hp2;have:LC [] r=false:=by rw[←hp2];rfl
   simp only[go_sem,Nat.lt_irrefl,this];first|done|rfl
end Go.Am
end
section
/- What is drawn: numbers,measured values. -/
open Go
namespace Go.Am
variable {L:List Int} {a:Int}
theorem XL (hp:LA 14 a)(u v:Int)(huv:u≤v)(hu : -1000000000000≤u)(hv:v≤1000000000000):∃k a2:Int,a≤a2∧a2≤a+2 ∧ -1099511627776≤k∧k≤1099511627776 ∧
 Gen ED [AI u,AI v] L a a2 (AI k):=by
 have w1:IntKind.i64.wrap (u-1)=u-1:=BA _ (by omega) (by omega)
 have w2:IntKind.i64.wrap (v+1)=v+1:=BA _ (by omega) (by omega)
 by_cases hf:DB L a 12=0
 ·have hm:=dV (L:=L) (a:=a+1) (l:=[u-1,v+1,u,v,-1099511627776,1099511627776]) (by simp) (by simp)
  simp only[List.mem_cons,List.not_mem_nil,or_false]at hm;refine⟨RC [u-1,v+1,u,v,-1099511627776,1099511627776] L (a+1),a+1+1,by omega,by omega,by omega,by omega,Gen.of fun h id hid=>?_⟩
  rw[wN rfl];simp only[cJ,go_sem,hid,BG hp,hf,w1,w2]
 ·have hm:=LK L (a+1) huv (by omega)
  refine⟨nC u v L (a+1),a+1+1,by omega,by omega,by omega,by omega,Gen.of fun h id hid=>?_⟩
  rw[wN rfl];simp only[cJ,go_sem,hid,BG hp,hf,w1,w2,huv,show -1152921504606846976≤u by omega,show v≤1152921504606846976 by omega]
end Go.Am
end
section
/- Strings that are drawn. -/
open Go
set_option linter.unusedSimpArgs false
namespace Go.Am
variable {L:List Int} {a:Int} {h l:aA} {id:Nat} {K:jA}
def isS:PV→Bool
 | .str _=>true
 | _=>false
def unS:PV→List UInt8
 | .str s=>s
 | _=>[]
def NB (l:List (List UInt8))(L:List Int)(a:Int):List UInt8:=l.getD (DB L a l.length).toNat []
theorem DH {l:List (List UInt8)}{L:List Int}{a:Int}(hl:0<l.length)(hl2:l.length<4611686018427387904):NB l L a∈l:=by
 obtain⟨b1,b2⟩:=UJ L a l.length (by omega) (by omega)
 unfold NB;have:(DB L a l.length).toNat<l.length:=by omega
 simp only[List.getD,List.getElem?_eq_getElem this,Option.getD_some];exact List.getElem_mem _
theorem zkg {xs:List PV}(h:xs.all isS=true):xs=(xs.map unS).map PV.str:=by
 induction xs with
 | nil=>rfl
 | cons x r ih=>
  simp only[List.all_cons,Bool.and_eq_true]at h;simp only[List.map_cons];rw[←ih h.2];cases x <;> first|rfl|cases h.1
theorem ZL (hp:LA 0 a)(xs:List PV)(hx:xs.all isS=true)(hl:0<xs.length)(hl2:xs.length<4611686018427387904) :
 Gen XB [.p (.sl none xs)] L a (a+1) (AS (NB (xs.map unS) L a)):=by
 refine Gen.of fun h id hid=>?_
 rw[z9b rfl];obtain⟨b1,b2⟩:=UJ L a xs.length (by omega) (by omega)
 have e4:=eM (k:=.i64) b1
 have e5:xs[(DB L a xs.length).toNat]?=some (.str (NB (xs.map unS) L a)):=by
  have hm:=zkg hx
  generalize hq:xs.map unS=q at *;subst hm;simp only[List.length_map]at *;rw[PB PV.str (show(DB L a q.length).toNat<q.length by omega)]
  simp [NB,List.getD,show(DB L a q.length).toNat<q.length by omega]
 simp only[ES,go_sem,PK hid hp,e4,e5]
theorem z3x (hid:id<h.length)(hp:LA 0 a){xs:List PV}(hx:xs.all isS=true)(hl:0<xs.length)(hl2:xs.length<4611686018427387904) :
 cA X XB [.ref id 0,.p (.sl none xs)] (h.set id (EA L a)) K=K (AS (NB (xs.map unS) L a)) (h.set id (EA L (a+1))) []:=(ZL hp xs hx hl hl2).set hid
theorem z3v (hid:id<h.length)(hp:LA 0 a){xs:List PV}(hx:xs.all isS=true)(hl:0<xs.length)(hl2:xs.length<4611686018427387904) :
 cA X XB [.ref id 0,.p (.sl none xs)] (h.set id (EA L a)++l) K=K (AS (NB (xs.map unS) L a)) (h.set id (EA L (a+1))++l) []:=(ZL hp xs hx hl hl2).app hid
theorem z3w (hp:LA 0 a){xs:List PV}(hx:xs.all isS=true)(hl:0<xs.length)(hl2:xs.length<4611686018427387904) :
 cA X XB [.ref 0 0,.p (.sl none xs)] (EA L a::l) K=K (AS (NB (xs.map unS) L a)) (EA L (a+1)::l) []:=(ZL hp xs hx hl hl2).hd
attribute [go_sem ↓] z3x z3v z3w
attribute [go_sem] z3x z3v z3w isS unS
end Go.Am
end
section
/- What is drawn: strings,limits. -/
open Go
set_option linter.unusedSimpArgs false
namespace Go.Am
variable {L:List Int} {a:Int} {h l:aA} {id:Nat} {K:jA}
end Go.Am
end
section
/- Sorting records: printed by program. -/
open Go
set_option linter.unusedSimpArgs false
namespace Go.Am
attribute [-go_sem] PV.cells splice
variable {h:aA} {K:jA}
end Go.Am
end
section
/- Leaving out what is alike: printed by program. -/
open Go
set_option linter.unusedSimpArgs false
namespace Go.Am
attribute [-go_sem] PV.cells splice
variable {h:aA} {K:jA}
end Go.Am
end
section
/- What is drawn: records. -/
open Go
set_option linter.unusedSimpArgs false
namespace Go.Am
variable {L:List Int} {a:Int} {h l:aA} {id:Nat} {K:jA}
theorem z9Y {b:Nat}{x:Esc}(hx:∀ y∈x,b≤y.1):∀k,close k x b=b:=by
 have hb:lL x b=b:=by
  unfold lL;induction x with
  | nil=>rfl
  | cons y r ih=>
   simp only[List.foldl_cons];rw[if_neg (by have:=hx y (by simp);omega)]
   exact ih (fun z hz=>hx z (by simp [hz]))
 intro k;induction k with
 | zero=>rfl
 | succ k ih=>unfold close;rw[hb,ih]
end Go.Am
end
section
/- Merging two ordered lists: by sorting and leaving out what is alike,and by looking each one up. Plain lists. -/
namespace Go.Am
variable {α:Type}
structure Ordr (c:α→α→Int):Prop where
 neg:∀a b,c b a = - c a b
 trans:∀a b d,c a b≤0→c b d≤0→c a d≤0
theorem Ordr.refl {c:α→α→Int}(o:Ordr c)(a:α):c a a=0:=by have:=o.neg a a;omega
theorem Ordr.lt_le {c:α→α→Int}(o:Ordr c){a b d:α}(h1:c a b<0)(h2:c b d≤0):c a d<0:=by
 by_cases h:c a d<0
 ·exact h
 ·have h3:=o.neg a d
  have h4:=o.trans b d a h2 (by omega)
  have:=o.neg a b;omega
def ltO (c:α→α→Int)(a b:α):Bool:=decide (c a b<0)
theorem Ordr.weak {c:α→α→Int}(o:Ordr c):Weak (ltO c):=by
 refine⟨fun a b h=>?_,fun a b d h1 h2=>?_⟩
 ·simp only[ltO,decide_eq_true_eq,decide_eq_false_iff_not]at h ⊢
  have:=o.neg a b;omega
 ·simp only[ltO,decide_eq_false_iff_not]at h1 h2 ⊢
  have q1:=o.neg a b
  have q2:=o.neg b d
  have q3:=o.trans a b d (by omega) (by omega)
  have q4:=o.neg a d
  omega
def ZE (c:α→α→Int)(l:List α):Prop:=l.Pairwise fun x y=>c x y<0
theorem xQ {c:α→α→Int}(o:Ordr c):∀{l m:List α},ZE c l→ZE c m→(∀x,x∈l↔x∈m)→l=m
 | [],[],_,_,_=>rfl
 | [],y::m,_,_,h=>absurd ((h y).2 (by simp)) (by simp)
 | x::l,[],_,_,h=>absurd ((h x).1 (by simp)) (by simp)
 | x::l,y::m,h1,h2,h=>by
  have a1:=List.pairwise_cons.1 h1
  have a2:=List.pairwise_cons.1 h2
  have e:x=y:=by
   rcases List.mem_cons.1 ((h x).1 (by simp)) with e|e
   ·exact e
   ·rcases List.mem_cons.1 ((h y).2 (by simp)) with e'|e'
    ·exact e'.symm
    ·have b1:=a2.1 x e
     have b2:=a1.1 y e'
     have:=o.neg x y;omega
  subst e;rw[xQ o a1.2 a2.2 fun z=>?_]
  constructor
  ·intro hz
   rcases List.mem_cons.1 ((h z).1 (by simp [hz])) with e|e
   ·subst e;have:=a1.1 z hz;have:=o.refl z;omega
   ·exact e
  ·intro hz
   rcases List.mem_cons.1 ((h z).2 (by simp [hz])) with e|e
   ·subst e;have:=a2.1 z hz;have:=o.refl z;omega
   ·exact e
theorem oS (q:α→α→Bool):∀(l:List α) (p:α),(YB q p l).Sublist l
 | [],_=>List.Sublist.slnil
 | x::r,p=>by
  unfold YB;cases q x p with
  | true=>exact(oS q r x).cons x
  | false=>exact(oS q r x).cons_cons x
theorem zak (q:α→α→Bool):∀l:List α,(VB q l).Sublist l
 | []=>List.Sublist.slnil
 | x::r=>(oS q r x).cons_cons x
theorem nS {q:α→α→Bool}(hq:∀ x y,q x y=true→x=y):∀(l:List α) (p x:α),x∈l→x=p∨x∈YB q p l
 | [],_,x,hx=>by simp at hx
 | y::r,p,x,hx=>by
  unfold YB;cases h:q y p with
  | true=>
   have e:=hq _ _ h
   subst e;rcases List.mem_cons.1 hx with e|e
   ·exact .inl e
   ·exact nS hq r y x e
  | false=>
   rcases List.mem_cons.1 hx with e|e
   ·subst e;exact .inr (by simp)
   ·rcases nS hq r y x e with e|e
    ·subst e;exact .inr (by simp)
    ·exact .inr (by simp [e])
theorem zaj {q:α→α→Bool}(hq:∀ x y,q x y=true→x=y):∀{l:List α} {x:α},x∈l→x∈VB q l
 | y::r,x,hx=>by
  rcases List.mem_cons.1 hx with e|e
  ·subst e;simp [VB]
  ·rcases nS hq r y x e with e|e
   ·subst e;simp [VB]
   ·simp [VB,e]
theorem mS {q:α→α→Bool}(hq:∀ x y,q x y=true↔x=y):∀(l:List α) (p:α) (i:Nat) (h:i+1<(p::YB q p l).length),(p::YB q p l)[i]≠(p::YB q p l)[i+1]
 | [],p,i,h=>by simp [YB]at h
 | x::r,p,i,h=>by
  cases hx:q x p with
  | true=>
   have e:=(hq _ _).1 hx
   subst e;have e2:YB q x (x::r)=YB q x r:=by rw[YB];rw[hx];rfl
   simp only[e2]at h ⊢;exact mS hq r x i h
  | false=>
   have e2:YB q p (x::r)=x::YB q x r:=by rw[YB];rw[hx];rfl
   simp only[e2]at h ⊢;cases i with
   | zero=>
    simp only[List.getElem_cons_zero,List.getElem_cons_succ];intro e;rw[(hq _ _).2 e.symm]at hx;cases hx
   | succ i=>
    simp only[List.getElem_cons_succ];exact mS hq r x i (by simpa using h)
theorem zai {q:α→α→Bool}(hq:∀ x y,q x y=true↔x=y):∀(l:List α) (i:Nat) (h:i+1<(VB q l).length),(VB q l)[i]≠(VB q l)[i+1]
 | [],i,h=>by simp [VB]at h
 | x::r,i,h=>mS hq r x i h
def eC (c:α→α→Int)(q:α→α→Bool)(a b:List α):List α:=VB q (WA (ltO c) (a++b))
variable {c:α→α→Int} {q:α→α→Bool} {a b:List α}
theorem zgF (hq:∀ x y,q x y=true→x=y){x:α}:x∈eC c q a b↔x∈a∨x∈b:=by
 unfold eC;constructor
 ·intro h
  have:=NF.1 (zah h);simpa using this
 ·intro h
  exact zaj hq (NF.2 (by simpa using h))
theorem z2o (o:Ordr c):(eC c q a b).Pairwise fun x y=>c x y≤0:=by
 unfold eC;refine(List.Pairwise.sublist (zak q _) (z2a o.weak _)).imp fun {x y} h=>?_
 simp only[ltO,decide_eq_false_iff_not]at h;have:=o.neg x y;omega
theorem z7L (o:Ordr c){l:List α}(hle:l.Pairwise fun x y=>c x y≤0)(hadj:∀ i (h:i+1<l.length),c l[i+1] l[i]≠0):ZE c l:=by
 rw[List.pairwise_iff_getElem]at hle;unfold ZE;rw[List.pairwise_iff_getElem];intro i j hi hj hij;have h1:c l[i] l[i+1]<0:=by
  have:=hle i (i+1) hi (by omega) (by omega)
  have h2:=hadj i (by omega)
  have:=o.neg l[i] l[i+1];omega
 rcases Nat.lt_or_ge (i+1) j with h|h
 ·exact o.lt_le h1 (hle (i+1) j (by omega) hj h)
 ·have e:j=i+1:=by omega
  subst e;exact h1
theorem zgG (o:Ordr c)(hadj:∀ i (h:i+1<(eC c q a b).length),c (eC c q a b)[i+1] (eC c q a b)[i]≠0):ZE c (eC c q a b):=z7L o (z2o o) hadj
theorem SM (o:Ordr c){l:List α}(hl:l.Pairwise fun x y=>c x y≠0):ZE c (WA (ltO c) l):=by
 have h1:=z2a o.weak l
 have h2:(WA (ltO c) l).Pairwise fun x y=>c x y≠0:=((bU (ltO c) l).pairwise_iff (fun {x y} h=>by have:=o.neg x y;omega)).2 hl
 refine(h1.and h2).imp fun {x y} h=>?_
 have:=h.1;simp only[ltO,decide_eq_false_iff_not]at this;have h3:=o.neg x y
 have:=h.2;omega
end Go.Am
end
section
/- Records alike;copies;bins. -/
open Go
set_option linter.unusedSimpArgs false
namespace Go.Am
variable {h:aA} {K:jA}
def HV (a b:Rec):Bool:=decide (a.unit=b.unit)&&(decide (a.time=b.time)&&(decide (a.site=b.site)&&decide (a.res=b.res)))
theorem ziH (a b:Rec):HV a b=true↔a=b:=by
 cases a;cases b
 simp [HV]
theorem zik {b:Nat}{P:jA}{vs:List AV}{h:aA}{x:Esc}(hx:∀ y∈x,b≤y.1){v:AV}(h1:XA b h (jB vs)=some v)(h2:v.top≤b):sD false b P (some vs) h x=P v (h.take b) []:=by
 have e:max b v.top=b:=by omega
 have c:pC x b=true:=by
  unfold pC;rw[List.all_eq_true];intro y hy;simp [hx y hy]
 have f:x.filter (fun y=>decide (y.1<b))=[]:=by
  rw[List.filter_eq_nil_iff];intro y hy;have:=hx y hy;simp;omega
 simp only[sD,h1,e,z9Y hx,c,if_true,f];exact propext ⟨fun h=>h.2,fun h=>⟨h2,h⟩⟩
theorem z3j (l:List Int)(hl:l.length≤1000):cA X EF [AL l] h K=K (AI (orL l)) h []:=by
 refine MA ?_;rw[z8H rfl];simp only[MN,go_sem];refine qB (fun k:Nat=>⟨[(5,AL l),(6,AI l.length),(7,AI k)],h,[]⟩) (fun k=>k≤l.length∧orL (l.drop k)=orL l) (fun k=>l.length-k) 0 rfl ⟨by omega,rfl⟩ ?_
 rintro k ⟨hk,hp⟩
 rcases Nat.lt_or_ge k l.length with hlt|hge
 ·have g2:=PB eI hlt
  have w2:IntKind.i64.wrap ((k:Int)+1)=((k+1:Nat):Int):=BA _ (by omega) (by omega)
  rw[List.drop_eq_getElem_cons hlt,orL]at hp;by_cases hz:l[k]=0
  ·rw[if_neg (by simp [hz])]at hp
   simp only[go_sem,hlt,g2,hz,w2];exact⟨k+1,rfl,⟨by omega,hp⟩,by omega⟩
  ·rw[if_pos hz]at hp
   simp only[go_sem,hlt,g2,hz];rw[hp]
 ·have ek:k=l.length:=by omega
  subst ek;rw[List.drop_length]at hp;simp only[go_sem,Nat.lt_irrefl];rw[←hp];rfl
end Go.Am
end
section
/- Lists of entries joined. -/
open Go
set_option linter.unusedSimpArgs false
set_option linter.all false
namespace Go.Am
variable {h:aA} {K:jA}
theorem zi5 (n:Nat)(hn:n≤1048576):cA X SL [.sl0 (some 8),AI n] h K=K (.own h.length 0 0 0) (h++[.row (some 8) [] 0]) []:=by
 refine fU (X:=X) (by kernel_rfl) ?_
 show wH GRL PRL SL [.sl0 (some 8),AI n] h=_
 exact z2h (by kernel_rfl) (by omega) (by omega)
def lsE (xs:List PV):PV:=.sl (some 8) xs
theorem z1v {ls:List (List PV)}{k:Nat}(hk:k<ls.length):(ls.take (k+1)).flatten=(ls.take k).flatten++ls[k]:=by
 rw[List.take_succ_eq_append_getElem hk,List.flatten_append];simp
theorem QT:∀ (ls:List (List PV))(k:Nat),(ls.take k).flatten.length≤ls.flatten.length
 | [],k=>by simp
 | x::r,0=>by simp
 | x::r,k+1=>by
  have:=QT r k;simp only[List.take_succ_cons,List.flatten_cons,List.length_append];omega
theorem zi0 (ls:List (List PV))(hs:∀ l∈ls,TB (some 8) l)(hl:ls.length≤1000)(hn:ls.flatten.length≤1000000) :
 cA X zJ [.p (.sl none (ls.map lsE))] h K=K (.own h.length ls.flatten.length 0 ls.flatten.length) (h++[.row (some 8) ls.flatten 0]) []:=by
 refine MA ?_;rw[z9u rfl];simp only[cO,go_sem];refine qB (fun k:Nat=>⟨[(0,.p (.sl none (ls.map lsE))),(3,AI (ls.take k).flatten.length),(9,.p (.sl none (ls.map lsE))),(10,AI ls.length),(11,AI k)],h,[]⟩) (fun k=>k≤ls.length) (fun k=>ls.length-k) 0 rfl (by omega) ?_
 intro k hk;rcases Nat.lt_or_ge k ls.length with hlt|hge
 ·have g2:=PB lsE hlt
  have f1:=z1v hlt
  have f2:=QT ls (k+1)
  have w2:IntKind.i64.wrap ((k:Int)+1)=((k+1:Nat):Int):=BA _ (by omega) (by omega)
  have w3:IntKind.i64.wrap (((ls.take k).flatten.length:Int)+(ls[k].length:Int))=((ls.take (k+1)).flatten.length:Int):=by
   rw[f1,List.length_append];have:(ls.take k).flatten.length+ls[k].length≤1000000:=by rw[f1,List.length_append]at f2;omega
   rw[BA _ (by omega) (by omega)];omega
  have b1:¬(((ls.take (k+1)).flatten.length:Int)<0):=by omega
  simp only[go_sem,hlt,g2,lsE,w3,b1,w2];exact⟨k+1,rfl,by omega,by omega⟩
 ·have ek:k=ls.length:=by omega
  subst ek;have q:=fun h K=>zi5 (h:=h) (K:=K) ls.flatten.length (by omega)
  have tl:ls.take ls.length=ls:=List.take_length
  simp only[go_sem,Nat.lt_irrefl,tl,↓q,q];refine qB (fun k:Nat=>⟨[(6,.own h.length (ls.take k).flatten.length 0 (ls.take k).flatten.length),(25,.p (.sl none (ls.map lsE))),(26,AI ls.length),(27,AI k)],h++[.row (some 8) (ls.take k).flatten 0],[]⟩) (fun k=>k≤ls.length) (fun k=>ls.length-k) 0 rfl (by omega) ?_
  intro k hk;rcases Nat.lt_or_ge k ls.length with hlt|hge
  ·have g2:=PB lsE hlt
   have f1:=z1v hlt
   have f2:=QT ls (k+1)
   have w2:IntKind.i64.wrap ((k:Int)+1)=((k+1:Nat):Int):=BA _ (by omega) (by omega)
   have hm:(ls.take k).flatten.length+ls[k].length≤xB:=by rw[f1,List.length_append]at f2;unfold xB;omega
   have hm0:ls[k].length≤xB:=by omega
   simp only[go_sem,hlt,g2,lsE,w2,hm,hm0];exact⟨k+1,by rw[f1];simp,by omega,by omega⟩
  ·have ek:k=ls.length:=by omega
   subst ek;simp only[go_sem,Nat.lt_irrefl,tl];rw[List.take_of_length_le (by simp)]
end Go.Am
end
section
/- Lengths of numbers in bits,and comparisons of plain values. -/
open Go
namespace Go.Am
variable {h:aA} {K:jA}
set_option maxRecDepth 20000
theorem z3M (k:Nat)(hk:k<256):∃b,([0,1,2,2,3,3,3,3,4,4,4,4,4,4,4,4,5,5,5,5,5,5,5,5,5,5,5,5,5,5,5,5,6,6,6,6,6,6,6,6,6,6,6,6,6,6,6,6,6,6,6,6,6,6,6,6,6,6,6,6,6,6,6,6,7,7,7,7,7,7,7,7,7,7,7,7,7,7,7,7,7,7,7,7,7,7,7,7,7,7,7,7,7,7,7,7,7,7,7,7,7,7,7,7,7,7,7,7,7,7,7,7,7,7,7,7,7,7,7,7,7,7,7,7,7,7,7,7,8,8,8,8,8,8,8,8,8,8,8,8,8,8,8,8,8,8,8,8,8,8,8,8,8,8,8,8,8,8,8,8,8,8,8,8,8,8,8,8,8,8,8,8,8,8,8,8,8,8,8,8,8,8,8,8,8,8,8,8,8,8,8,8,8,8,8,8,8,8,8,8,8,8,8,8,8,8,8,8,8,8,8,8,8,8,8,8,8,8,8,8,8,8,8,8,8,8,8,8,8,8,8,8,8,8,8,8,8,8,8,8,8,8,8,8,8,8,8,8,8,8,8,8,8,8,8,8]:List UInt8)[k]?=some b:=⟨_,List.getElem?_eq_getElem (Nat.lt_of_lt_of_eq hk (by kernel_rfl))⟩
theorem zgv (x:Int)(h0:0≤x)(h1:x<256):∃m:Int,∀(h:aA) (K:jA),cA X nI [AU x] h K=K (AI m) h []:=by
 obtain⟨b,hb⟩:=z3M x.toNat (by omega)
 refine⟨IntKind.i64.wrap (0+IntKind.i64.wrap b.toNat),fun h K=>?_⟩
 have w:IntKind.u8.wrap x=x:=by simp [IntKind.wrap,IntKind.bits,IntKind.signed];omega
 have b1:¬(4294967296≤x):=by omega
 have b2:¬(65536≤x):=by omega
 have b3:¬(256≤x):=by omega
 have hn:=eM (k:=.u8) h0
 have key:∀(h:aA) (K:jA),cA X oI [AU x] h K=K (AI (IntKind.i64.wrap (0+IntKind.i64.wrap b.toNat))) h []:=by
  intro h K;refine MA ?_;rw[zY rfl];simp only[rL,go_sem,b1,b2,b3,w,hn,hb]
 refine MA ?_;rw[yY rfl];simp only[ON,go_sem,key]
end Go.Am
end
section
/- Entries: those alike beside each other are one: printed by program. -/
open Go
set_option linter.unusedSimpArgs false
namespace Go.Am
attribute [-go_sem] PV.cells splice
variable {h:aA} {K:jA}
attribute [-go_sem] iB
theorem z5w (id:Nat)(l:List PV)(hs:TB (some 8) l)(hl:l.length≤100000)(hh:h[id]?=some (.row (some 8) l 0)){q:PV→PV→Bool}(hq1:∀ x∈l,∀ y∈l,iB [2,0,0,0,2,2,2,0] false (.p x) (.p y)=some (AB (q x y)))(hq2:∀ x∈l,∀ y∈l,iB [2,0,0,0,2,2,2,0] true (.p x) (.p y)=some (AB (!q x y))) :
 cA X yJ [.own id l.length 0 l.length] h K=K (.own id l.length 0 (VB q l).length) (h.set id (.row (some 8) (VB q l++List.replicate (l.length-(VB q l).length) (PV.agg [.str [],.int .i64 0,.int .i64 0,.int .i64 0,.str [],.str [],.str [],.int .i64 0])) 0)) []:=by
 refine MA ?_;rw[z9t];have hid:=xE hh
 have hst:∀o,(h.set id o)[id]?=some o:=fun o=>tD hid
 have hb:¬h.length≤id:=by omega
 have hb2:max h.length (id+1)=h.length:=by omega
 have hb3:id+1≤h.length:=hid
 by_cases h2:l.length<2
 ·have h2':(l.length:Int)<2:=by omega
  have e:VB q l=l:=by
   cases l with
   | nil=>rfl
   | cons x r=>
    have:r=[]:=List.length_eq_zero_iff.1 (by simp only[List.length_cons]at h2;omega)
    subst this;rfl
  simp only[xL,go_sem,h2',e,Nat.sub_self,List.replicate_zero,List.append_nil,hb,hb2,hb3];rw[FG hh]
 have h2':¬(l.length:Int)<2:=by omega
 simp only[xL,go_sem,h2'];refine qB (fun k:Nat=>⟨[(0,.own id l.length 0 l.length),(3,AI ((k+1:Nat):Int))],h,[]⟩) (fun k=>k+1≤l.length∧VB q (l.take (k+1))=l.take (k+1)) (fun k=>l.length-(k+1)) 0 rfl ⟨by omega,?_⟩ ?_
 ·cases l with
  | nil=>rfl
  | cons x r=>rfl
 rintro k ⟨hk,hc⟩
 rcases Nat.lt_or_ge (k+1) l.length with hlt|hge
 ·have hk0:k<l.length:=by omega
  have g1:l[k+1]?=some l[k+1]:=List.getElem?_eq_getElem hlt
  have g2:l[k]?=some l[k]:=List.getElem?_eq_getElem hk0
  have c1:=cC (MI hs hlt)
  have c2:=cC (MI hs hk0)
  have w1:IntKind.i64.wrap (((k+1:Nat):Int)-1)=(k:Int):=by rw[BA _ (by omega) (by omega)];omega
  have w2:IntKind.i64.wrap (((k+1:Nat):Int)+1)=((k+1+1:Nat):Int):=BA _ (by omega) (by omega)
  have hqk:=hq1 _ (List.getElem_mem hlt) _ (List.getElem_mem hk0)
  have hcs:=UY q l k hlt
  cases hqx:q l[k+1] l[k]with
  | false=>
   rw[hqx]at hcs;simp only[go_sem,hh,hlt,hk0,g1,g2,c1,c2,w1,w2,hqk,hqx];exact⟨k+1,rfl,⟨by omega,by rw[hcs,hc,cond_false,List.take_succ_eq_append_getElem hlt]⟩,by omega⟩
  | true=>
   rw[hqx,cond_true,List.append_nil,hc]at hcs;have hle:k+1≤l.length:=by omega
   simp only[go_sem,hh,hlt,hk0,hle,g1,g2,c1,c2,w1,hqk,hqx];have e0:k+1+(l.length-(k+1))=l.length:=by omega
   refine qB (fun t:List PV×Nat×Nat=>⟨[(0,.own id l.length 0 l.length),(3,AI ((t.2.1:Nat):Int)),(4,.own id l.length (k+1) (l.length-(k+1))),(5,AI ((t.2.2+1:Nat):Int))],h.set id (.row (some 8) t.1 0),[]⟩)
    (fun t=>t.1.length=l.length∧TB (some 8) t.1∧t.2.1≤k+1+t.2.2∧k+1+t.2.2<l.length∧t.1.take t.2.1=VB q (l.take (k+1+t.2.2+1))∧t.1.drop (k+1+t.2.2)=l.drop (k+1+t.2.2)) (fun t=>l.length-t.2.2)
    (l,k+1,0) (by rw[FG hh];rfl) ⟨rfl,hs,by simp,by simpa using hlt,by simpa using hcs.symm,rfl⟩ ?_
   rintro⟨row,i,j⟩ ⟨r1,r2,r3,r4,r5,r6⟩
   dsimp only at r1 r2 r3 r4 r5 r6;rcases Nat.lt_or_ge (k+1+j+1) l.length with hlt2|hge2
   ·have a1:row[k+1+j+1]?=some l[k+1+j+1]:=by
     have:=congrArg (·[1]?) r6
     simp only[List.getElem?_drop]at this;rw[this,List.getElem?_eq_getElem hlt2]
    have a2:row[k+1+j]?=some l[k+1+j]:=by
     have:=congrArg (·[0]?) r6
     simp only[List.getElem?_drop,Nat.add_zero]at this;rw[this,List.getElem?_eq_getElem r4]
    have s1:=MI hs hlt2
    have d1:=cC s1
    have d2:=cC (MI hs r4)
    have hil:i<l.length:=by omega
    have hir:i<row.length:=by omega
    have g3:row[i]?=some row[i]:=List.getElem?_eq_getElem hir
    have t1:=fun xs h1=>RD s1 (MI r2 hir) id i 0 xs h1
    have lx:=QD s1
    have sx:=PD s1
    simp only[gA]at lx;have v1:IntKind.i64.wrap (((j+1:Nat):Int)-1)=(j:Int):=by rw[BA _ (by omega) (by omega)];omega
    have v2:IntKind.i64.wrap (((j+1:Nat):Int)+1)=((j+1+1:Nat):Int):=BA _ (by omega) (by omega)
    have v3:IntKind.i64.wrap ((i:Int)+1)=((i+1:Nat):Int):=BA _ (by omega) (by omega)
    have p1:j+1<l.length-(k+1):=by omega
    have p2:j<l.length-(k+1):=by omega
    have p3:k+1+(j+1)=k+1+j+1:=by omega
    have p4:k+1+(l.length-(k+1))≤l.length:=by omega
    have hqj:=hq2 _ (List.getElem_mem hlt2) _ (List.getElem_mem r4)
    have hcs2:=UY q l (k+1+j) hlt2
    cases hqy:q l[k+1+j+1] l[k+1+j]with
    | true=>
     rw[hqy,cond_true,List.append_nil]at hcs2;simp only[go_sem,hst,r1,p1,p2,p3,p4,e0,a1,a2,d1,d2,v1,v2,hqj,hqy];refine⟨(row,i,j+1),rfl,⟨r1,r2,by dsimp only;omega,by dsimp only;omega,?_,?_⟩,by dsimp only;omega⟩
     ·dsimp only;rw[r5,←hcs2];rfl
     ·dsimp only;rw[show k+1+(j+1)=k+1+j+1 from rfl,←List.drop_drop,r6,List.drop_drop]
    | false=>
     rw[hqy,cond_false]at hcs2;simp only[go_sem,hst,r1,p1,p2,p3,p4,e0,a1,a2,g3,d1,d2,v1,v2,v3,hil,hqj,hqy,lx,sx,t1];refine⟨(row.set i l[k+1+j+1],i+1,j+1),rfl,⟨by simpa using r1,fun x hx=>?_,by dsimp only;omega,by dsimp only;omega,?_,?_⟩,by dsimp only;omega⟩
     ·rcases List.mem_or_eq_of_mem_set hx with hx|rfl
      ·exact r2 x hx
      ·exact s1
     ·dsimp only
      rw[show k+1+(j+1)+1=k+1+j+1+1 from rfl,hcs2,←r5,List.take_succ_eq_append_getElem (by simp;omega)]
      simp [List.take_set_of_le]
     ·dsimp only
      rw[List.drop_set_of_lt (by omega),show k+1+(j+1)=k+1+j+1 from rfl,←List.drop_drop,r6,List.drop_drop]
   ·have ej:k+1+j+1=l.length:=by omega
    rw[ej,List.take_length]at r5;have hil:i≤l.length:=by omega
    have hm:(VB q l).length=i:=by rw[←r5];simp;omega
    have p1:¬(j+1<l.length-(k+1)):=by omega
    have sp:splice row i (List.replicate (l.length-i) (PV.agg [.str [],.int .i64 0,.int .i64 0,.int .i64 0,.str [],.str [],.str [],.int .i64 0]))=VB q l++List.replicate (l.length-i) (PV.agg [.str [],.int .i64 0,.int .i64 0,.int .i64 0,.str [],.str [],.str [],.int .i64 0]):=by
     unfold splice;rw[r5,List.length_replicate,List.drop_of_length_le (by omega),List.append_nil]
    have rl:(VB q l++List.replicate (l.length-i) (PV.agg [.str [],.int .i64 0,.int .i64 0,.int .i64 0,.str [],.str [],.str [],.int .i64 0])).length=l.length:=by simp only[List.length_append,hm,List.length_replicate];omega
    rw[hm];generalize VB q l++List.replicate (l.length-i) (PV.agg [.str [],.int .i64 0,.int .i64 0,.int .i64 0,.str [],.str [],.str [],.int .i64 0])=row' at *;simp only[go_sem,hst,r1,rl,hil,p1,sp,show i+(l.length-i)=l.length by omega,hb,hb2,hb3]
 ·have ek:k+1=l.length:=by omega
  rw[ek,List.take_length]at hc;have hge':¬k+1<l.length:=by omega
  simp only[go_sem,hge',hc,Nat.sub_self,List.replicate_zero,List.append_nil,hb,hb2,hb3];rw[FG hh]
end Go.Am
end
section
/- Rows that are handed tov a function: it sees their values. -/
open Go
namespace Go.Am
theorem UR {X:Ctx}{f:Nat}{F:AFun}{a:List AV}{vs:List PV}{h h1:aA}{P:jA}(hf:X.fn f=some F)(hr:F.byref=false)(hp:CA h a=some (vs.map .p,h1))(hq:CA h1 (vs.map .p)=some (vs.map .p,h1))(hl:vs.length=F.nparams)(hlen:h1.length=h.length):cA X f a h P=cA X f (vs.map .p) h1 P:=by
 cases hd:F.isDet with
 | false=>rw[UA hf hr hp (by simpa using hl) hd,UA hf hr hq (by simpa using hl) hd,hlen]
 | true=>rw[xN hf hr hp (by simpa using hl) hd,xN hf hr hq (by simpa using hl) hd,hlen]
theorem ST {h:aA}{id k:Nat}:(frz h id k).length=h.length:=by
 unfold frz;split <;> simp
end Go.Am
end
section
/- Entries eC: station's walk. -/
open Go
set_option linter.all false
namespace Go.Am
variable {h:aA} {K:jA}
attribute [-go_sem] iB
theorem ziE (l:List Ent)(xs:List PV)(id n fz:Nat)(hn:l.length≤1000000)(hx:xs.length=n)(hh:h[id]?=some (.row (some 8) xs fz))(hlx:l.length≤xs.length)(hw:win xs 0 l.length=l.map Ent.pv):cA X gF [.own id n 0 l.length] h K=K (AB (LC [] l)) (frz h id l.length) []:=by
 have e:=UR (X:=X) (f:=gF) (F:=iL) (a:=[.own id n 0 l.length]) (vs:=[.sl (some 8) (l.map Ent.pv)]) (h:=h) (h1:=frz h id l.length) (P:=K) z4o rfl
  (by
   subst hx;simp [CA,pur,rd,hh,hw,hlx]) rfl rfl ST
 rw[e];exact z32 l hn
def eqE (a b:Ent):Bool:=decide (a=b)
def KD (a b:List Ent):List Ent×Int:=
 if orL [wA a,wA b]≠0 then([],orL [wA a,wA b])
 else if LC [] (eC IA eqE a b)=true then([],13) else(eC IA eqE a b,0)
theorem vD (x:Ent):yC x.pv=x:=by cases x;rfl
set_option maxHeartbeats 4000000 in
theorem wV (a b:List Ent)(ha:∀ x∈a,EntOk x)(hb:∀ x∈b,EntOk x)(hn:a.length+b.length≤20) :
 cA X JF [yA a,yA b] h K=K (.tup [yA (KD a b).1,AI (KD a b).2]) h []:=by
 refine MA ?_;rw[z9C rfl];have q1:=fun h K=>JM (h:=h) (K:=K) a ha (by omega)
 have q2:=fun h K=>JM (h:=h) (K:=K) b hb (by omega)
 have q3:=fun h K=>z3j (h:=h) (K:=K) [wA a,wA b] (by simp)
 simp only[AL,List.map_cons,List.map_nil]at q3;unfold KD;by_cases he:orL [wA a,wA b]=0
 ·rw[he]at q3
  have q4:=fun h K=>zi0 (h:=h) (K:=K) [a.map Ent.pv,b.map Ent.pv] (fun z hz=>by
   simp only[List.mem_cons,List.not_mem_nil,or_false]at hz;rcases hz with rfl|rfl <;> exact jI) (by simp) (by simp;omega)
  have ef:[a.map Ent.pv,b.map Ent.pv].flatten=(a++b).map Ent.pv:=by simp
  simp only[ef,List.map_cons,List.map_nil,lsE,List.length_map]at q4;have e0:∀o o',(h++[o]).set h.length o'=h++[o']:=fun o o'=>by rw[List.set_append_right _ _ (by simp)];simp
  have st:=fun K=>z3J (h:=h++[Obj.row (some 8) ((a++b).map Ent.pv) 0]) (K:=K) h.length ((a++b).map Ent.pv) jI (by simp;omega) (by simp) (g:=wE) (caps:=[]) (c:=fun x y=>IA (yC x) (yC y))
   (fun o x hx y hy K=>by
    obtain⟨p,_,rfl⟩:=List.mem_map.1 hx;obtain⟨q,_,rfl⟩:=List.mem_map.1 hy;dsimp only;rw[vD,vD];exact DV p q)
  have em:WA (ltC fun x y=>IA (yC x) (yC y)) ((a++b).map Ent.pv)=(WA (ltO IA) (a++b)).map Ent.pv:=z1Z Ent.pv (fun x y=>by simp only[ltC,ltO,vD]) _
  rw[em]at st;simp only[e0,List.length_map]at st;have il:=PJ (ltO IA) (a++b)
  have cp:=fun K=>z5w (h:=h++[Obj.row (some 8) ((WA (ltO IA) (a++b)).map Ent.pv) 0]) (K:=K) h.length ((WA (ltO IA) (a++b)).map Ent.pv) jI (by simp [il];omega) (by simp) (q:=fun x y=>eqE (yC x) (yC y))
   (fun x hx y hy=>by
    obtain⟨p,hp,rfl⟩:=List.mem_map.1 hx;obtain⟨q,_,rfl⟩:=List.mem_map.1 hy;rw[vD,vD];exact eqa8p p q)
   (fun x hx y hy=>by
    obtain⟨p,hp,rfl⟩:=List.mem_map.1 hx;obtain⟨q,_,rfl⟩:=List.mem_map.1 hy;rw[vD,vD];exact FO p q)
  have ec:VB (fun x y=>eqE (yC x) (yC y)) ((WA (ltO IA) (a++b)).map Ent.pv)=(eC IA eqE a b).map Ent.pv:=zag Ent.pv (fun x y=>by simp only[vD]) _
  rw[ec]at cp;simp only[e0,List.length_map,il]at cp;obtain⟨C,hC⟩:∃C,C=eC IA eqE a b:=⟨_,rfl⟩;have hcl:C.length≤(a++b).length:=by
   have:=zaf eqE (WA (ltO IA) (a++b));rw[il]at this;rw[hC];exact this
  rw[←hC]at cp;have hab:(a++b).length≤20:=by simp;omega
  generalize hNN:(a++b).length=N at *;have hrow:(C.map Ent.pv++List.replicate (N-C.length) (PV.agg [.str [],.int .i64 0,.int .i64 0,.int .i64 0,.str [],.str [],.str [],.int .i64 0])).length=N:=by simp;omega
  have hw:win (C.map Ent.pv++List.replicate (N-C.length) (PV.agg [.str [],.int .i64 0,.int .i64 0,.int .i64 0,.str [],.str [],.str [],.int .i64 0])) 0 C.length=C.map Ent.pv:=by simp [win]
  generalize C.map Ent.pv++List.replicate (N-C.length) (PV.agg [.str [],.int .i64 0,.int .i64 0,.int .i64 0,.str [],.str [],.str [],.int .i64 0])=row at *;have tw:=fun K=>ziE (h:=h++[Obj.row (some 8) row 0]) (K:=K) C row h.length N 0 (by omega) hrow (by simp) (by omega) hw
  have b2:¬(2000:Int)<C.length:=by omega
  rw[←hC];simp only[he];cases hT:LC [] C with
  | true=>
   rw[hT]at tw;simp only[LL,go_sem,↓q1,q1,↓q2,q2,↓q3,q3,↓q4,q4,↓st,st,↓cp,cp,↓tw,tw];rfl
  | false=>
   rw[hT]at tw;have fr:∃z,frz [Obj.row (some 8) row 0] 0 C.length=[Obj.row (some 8) row z]:=⟨_,rfl⟩
   obtain⟨z,fr⟩:=fr;simp only[LL,go_sem,↓q1,q1,↓q2,q2,↓q3,q3,↓q4,q4,↓st,st,↓cp,cp,↓tw,tw,b2,hrow,hcl,hw,fr]
 ·simp only[LL,go_sem,↓q1,q1,↓q2,q2,↓q3,q3,he]
  simp [he]
end Go.Am
end
