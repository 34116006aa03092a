/- Texts of the proof, laid together: AmC, Ctx, SpStream, MathFrac, SpBase, SpList, PSort, SpShp, SpStr, SpFind, SpLimD, SpLim, SpLotA, SpRecD, PEnt, PFollow, PPass, PTls, PTls2, SpMap, PReplay, SpFlo1, PSplit, PTxt, PNum, PFlt, PFltR, PWrit, PEntT, SpRec, SpEnt1, SpEnt3. -/
import Derived.Test.YtcfpflfpinmmmaaGreatDoorlawTL5
set_option linter.all false
section
/- The abstract machine,part C: aB calls that say true,asv contracts. -/
set_option linter.all false
namespace Go.Am
variable {P:Program} {gl:Nat→Option PV}
def YZ:List PV→Option AV
 | []=>some (AB true)
 | _=>none
theorem RPV.mono' {M M':Mem}(hM:∀ b o v,M.c b o=some v→M'.c b o=some v){v:PV}{x:Value}(H:RPV M v x):RPV M' v x:=by
 induction H with
 | int k n=>exact .int k n
 | bool b=>exact .bool b
 | str s=>exact .str s
 | nilp=>exact .nilp
 | unk k n=>exact .unk k n
 | nils sh a cap=>exact .nils sh a cap
 | sl sh xs b o cap f hne hc he hm hr ih=>exact .sl sh xs b o cap f hne hc he (fun j y hy=>hM _ _ _ (hm j y hy)) ih
 | agg cs vs hl hr ih=>exact .agg cs vs hl ih
theorem LD.mono' {M M':Mem}(hc:∀ b o v,M.c b o=some v→M'.c b o=some v)(hb:∀ b o,M.b b=some o→M'.b b=some o)(H:LD gl M):LD gl M':=fun n v hv=>by
 obtain⟨h1,cs,t,x,h2,h3⟩:=H n v hv;refine⟨?_,cs,t,x,hb _ _ h2,h3⟩;cases h1 with|vp _ _ _ f hm hr=>exact .vp v n 0 f (fun j y hy=>hc _ _ _ (hm j y hy)) (fun j y hy=>(hr j y hy).mono' hc)
theorem zmh {X:Ctx}(HX:Fits P X){f:Nat}(H:bA X f [] [] fun v h x=>v=AB true∧h=[]∧x=[])(he:∀ us w,(callFunc f us).run P w = .ok (.enter f us) w):PureRow P X.gl f YZ:=by
 refine⟨he,fun M w vs r us hc hb hG hl hr hs=>?_⟩
 cases vs with
 | cons a l=>cases hs
 | nil=>
  have hu:us=[]:=List.length_eq_zero_iff.1 (by simpa using hl.symm)
  subst hu;simp only[YZ,Option.some.injEq]at hs;subst hs;have hno:∀b o,¬XF ([]:aA) ([]:Mu) b o:=fun b o ⟨id,n,h1,_⟩=>by simp at h1
  have hnt:∀b,¬CI ([]:Mu) b:=fun b ⟨id,n,h1⟩=>by simp at h1
  have hG':LD X.gl (imm [] [] w):=hG.mono' (fun b o v h=>ED.2 ⟨hno b o,hc b o v h⟩) (fun b o h=>VG.2 ⟨hnt b,hb b o h⟩)
  have hR:HeapRel [] [] w:=⟨rfl,fun id o m h1=>by simp at h1,fun i j b n n' h1=>by simp at h1,fun i b n h1=>by simp at h1⟩
  rcases z1l HX H [] w [] hR hG' rfl (fun j y v h1=>by simp at h1) with⟨_,q⟩|⟨r,w',v,h',x,μ',q,_⟩
  ·refine q.mono fun e w' h=>?_
   cases e with
   | panicked _=>exact h.elim
   | outgrown=>exact h.elim
   | returned r=>
    obtain⟨v,h',x,μ',⟨rfl,rfl,rfl⟩,h1,h2,h3,h4⟩:=h;have hm:μ'=[]:=List.length_eq_zero_iff.1 (by simpa using h2.len)
    subst hm;have hbl:∀b o,w.heap[b]?=some o→w'.heap[b]?=some o:=fun b o h=>(VG.1 (h3.le.b b o (VG.2 ⟨hnt b,h⟩))).2
    refine⟨r,rfl,⟨?_,fun b hb=>?_,?_⟩,?_⟩
    ·rcases Nat.lt_or_ge w'.heap.size w.heap.size with q|q
     ·have:=hbl w'.heap.size _ (Array.getElem?_eq_getElem q)
      simp at this
     ·exact q
    ·rw[hbl b _ (Array.getElem?_eq_getElem hb),Array.getElem?_eq_getElem hb]
    ·have:=h3.le.z
     simpa [imm] using this
    ·have:=h1.p_bool
     rw[this];exact .p _ _ (.bool true)
  ·rw[he]at q
   cases q
end Go.Am
end
section
/- The functions together. -/
set_option linter.all false
set_option maxRecDepth 100000
namespace Go.Am
def fns:List (Nat × AFun):=[(NP,HT),(UL,qT),(VL,rT),(DF,mT),(sJ,IT),(lG,DN),(EL,JS),(AJ,RT),(HL,MS),(BJ,ST),(SL,iT),(oJ,vT),(TL,nT),(XL,xT),(BD,jT),(RH,FN),(iJ,KS),(mJ,XS),(JL,OS),(CF,RS),(iM,UT),(FF,RN),(TG,UN),(fM,TT),(jG,sN),(IL,NS),(SG,LN),(MC,lT),(zE,gT),(RD,tT),(NH,kT),(QH,uT),(YL,yT),(AE,BT),(xJ,NT),(OH,oT),(QG,yN),(kG,xN),(GF,VN),(uJ,JT),(PH,pT),(aM,DT),(bM,FT),(MH,fT),(QD,uN),(NL,US),(OB,wN),(PG,vN),(RG,CN),(nJ,YS),(LH,BN),(LL,QS),(lJ,WS),(DJ,JN),(EF,QN),(gJ,tN),(PL,aT),(ML,SS),(fJ,rN),(zJ,HN),(yJ,GN),(IJ,SN),(qJ,CT),(vJ,LT),(pJ,zT),(eM,QT),(KH,zN),(hJ,AN),(WL,wT),(rJ,ET),(ZL,AT),(cM,GT),(kJ,VS),(wJ,EN),(HJ,PN),(GJ,NN),(UH,ON),(FL,LS),(dM,MT),(jJ,TS),(EJ,KN),(CJ,IN),(JJ,TN),(jM,VT),(SH,OT),(FJ,MN),(OL,ZS),(TH,PT),(QL,bT),(DL,IS),(KL,PS),(RL,eT)]
def GRL:List (Nat × Sh):=[]
def PRL:pH:=[(FW,trimS),(tJ,YZ)]
def GLL:List (Nat × PV):=[]
def qM:List (Nat × AFun)→Nat→Option AFun
 | [],_=>none
 | (k,F)::r,n=>bif Nat.beq k n then some F else qM r n
def X:Ctx:=⟨qM fns,glOf GLL,JH gG iG,libF GRL PRL⟩
theorem z3k {p:Nat→AFun→Bool}:∀(l:List (Nat×AFun)),(l.all fun y=>p y.1 y.2)=true→∀n F,qM l n=some F→p n F=true
 | [],_,n,F,h=>by cases h
 | (k,G)::r,ha,n,F,h=>by
  simp only[List.all_cons,Bool.and_eq_true]at ha;simp only[qM]at h;cases hk:Nat.beq k n with
  | true=>
   rw[hk]at h;have:=Nat.eq_of_beq_eq_true hk;simp only[cond_true,Option.some.injEq]at h;subst this;subst h;exact ha.1
  | false=>
   rw[hk]at h;exact z3k r ha.2 n F h
def fns0:List (Nat × AFun):=[(lG,DN),(tJ,z6T),(RH,FN),(FF,RN),(TG,UN),(jG,sN),(SG,LN),(z2z,z6I),(z2H,z7a),(z27,z6P),(z2E,z6W),(QG,yN),(kG,xN),(GF,VN),(QD,uN),(OB,wN),(PG,vN),(RG,CN),(LH,BN),(DJ,JN),(EF,QN),(gJ,tN),(fJ,rN),(zJ,HN),(yJ,GN),(IJ,SN),(z2y,z6H),(z2G,z6Z),(IW,z7e),(z29,z6R),(z28,z6Q),(KH,zN),(hJ,AN),(wJ,EN),(HJ,PN),(GJ,NN),(UH,ON),(EJ,KN),(CJ,IN),(JJ,TN),(z20,z6J),(z23,z6L),(z26,z6O),(z25,z6N),(z24,z6M),(z2J,z7d),(z2P,z7m),(z2L,z7h),(z2A,z6S),(FJ,MN),(z2x,z6G),(z2w,z6F),(z2O,z7l),(HW,z7b),(z2M,z7j),(eJ,z6E),(z2I,z7c),(z2N,z7k),(z2K,z7g),(kM,z7i),(OP,z7f),(z22,z6K),(z2B,z6U),(z2F,z6X),(z2C,z6V),(GW,z6Y),(WH,WN),(VH,bL)]
def PRL0:pH:=[(FW,trimS)]
def X0:Ctx:=⟨qM fns0,glOf GLL,JH gG iG,libF GRL PRL0⟩
theorem zk9:X0.fn WH=some WN:=by kernel_rfl
theorem zk8:X0.fn VH=some bL:=by kernel_rfl
theorem z0D:X.NoNext:=fun f F h=>z3k (p:=fun _ F=>F.isDet||F.body.noNext) fns (by kernel_rfl) f F h
theorem zl6:X.fn NP=some HT:=by kernel_rfl
theorem z8Z {u0 v0:AV}{h h1:aA}{P:jA}(hp:lA h [u0]=some ([v0],h1)):bA X NP [u0] h P=(iP (bA X) X.gl [(0,v0)] h1 [] (mA [.t 2] false h.length P)).1:=by rw[oA zl6 rfl hp rfl];exact zbS
theorem zlq:X.fn UL=some qT:=by kernel_rfl
theorem z8J {u0 v0:AV}{h h1:aA}{P:jA}(hp:lA h [u0]=some ([v0],h1)):bA X UL [u0] h P=(UO (bA X) X.gl [(0,v0)] h1 [] (mA [.t 2] false h.length P)).1:=by rw[oA zlq rfl hp rfl];exact zb0
theorem zlr:X.fn VL=some rT:=by kernel_rfl
theorem z8K {u0 u1 u2 v0 v1 v2:AV}{h h1:aA}{P:jA}(hp:lA h [u0,u1,u2]=some ([v0,v1,v2],h1)):bA X VL [u0,u1,u2] h P=(WO (bA X) X.gl [(0,v0),(1,v1),(2,v2)] h1 [] (mA [.t 6] false h.length P)).1:=by rw[oA zlr rfl hp rfl];exact zb3
theorem zlm:X.fn DF=some mT:=by kernel_rfl
theorem z8F {u0 u1 u2 v0 v1 v2:AV}{h h1:aA}{P:jA}(hp:lA h [u0,u1,u2]=some ([v0,v1,v2],h1)):bA X DF [u0,u1,u2] h P=(RO (bA X) X.gl [(0,v0),(1,v1),(2,v2)] h1 [] (mA [.t 6] false h.length P)).1:=by rw[oA zlm rfl hp rfl];exact zbo
theorem zl7:X.fn sJ=some IT:=by kernel_rfl
theorem z9a {u0 u1 v0 v1:AV}{h h1:aA}{P:jA}(hp:lA h [u0,u1]=some ([v0,v1],h1)):bA X sJ [u0,u1] h P=(jP (bA X) X.gl [(0,v0),(1,v1)] h1 [] (mA [] false h.length P)).1:=by rw[oA zl7 rfl hp rfl];exact zbX
theorem zlA:X.fn lG=some DN:=by kernel_rfl
theorem z9d {u0 u1 h P}:bA X lG [u0,u1] h P=(lP (bA X) X.gl [(0,u0),(1,u1)] h [] (mA [.t 4] false h.length P)).1:=by rw[YE zlA rfl rfl];exact zcg
theorem zkL:X.fn EL=some JS:=by kernel_rfl
theorem z8p {u0 u1 v0 v1:AV}{h h1:aA}{P:jA}(hp:lA h [u0,u1]=some ([v0,v1],h1)):bA X EL [u0,u1] h P=(QI (bA X) X.gl [(0,v0),(1,v1)] h1 [] (mA [.t 4,.t 5,.t 6] false h.length P)).1:=by rw[oA zkL rfl hp rfl];exact za4
theorem z6h:X.fn AJ=some RT:=by kernel_rfl
theorem z9o {u0 u1 u2 u3 v0 v1 v2 v3:AV}{h h1:aA}{P:jA}(hp:lA h [u0,u1,u2,u3]=some ([v0,v1,v2,v3],h1)):bA X AJ [u0,u1,u2,u3] h P=(ZI (bA X) X.gl [(0,v0),(1,v1),(2,v2),(3,v3)] h1 [] (mA [.cell 8 (some 2),.t 9] false h.length P)).1:=by rw[oA z6h rfl hp rfl];exact zcD
theorem zkO:X.fn HL=some MS:=by kernel_rfl
theorem z8s {u0 u1 v0 v1:AV}{h h1:aA}{P:jA}(hp:lA h [u0,u1]=some ([v0,v1],h1)):bA X HL [u0,u1] h P=(CO (bA X) X.gl [(0,v0),(1,v1)] h1 [] (mA [.cell 4 (some 2),.t 5] false h.length P)).1:=by rw[oA zkO rfl hp rfl];exact za9
theorem z6i:X.fn BJ=some ST:=by kernel_rfl
theorem z9p {u0 u1 u2 v0 v1 v2:AV}{h h1:aA}{P:jA}(hp:lA h [u0,u1,u2]=some ([v0,v1,v2],h1)):bA X BJ [u0,u1,u2] h P=(wL (bA X) X.gl [(0,v0),(1,v1),(2,v2)] h1 [] (mA [.t 6,.t 7,.t 8] false h.length P)).1:=by rw[oA z6i rfl hp rfl];exact zcE
theorem zli:X.fn SL=some iT:=by kernel_rfl
theorem z8C {u0 v0:AV}{h h1:aA}{P:jA}(hp:lA h [u0]=some ([v0],h1)):bA X SL [u0] h P=(oL (bA X) X.gl [(0,v0)] h1 [] (mA [.t 2] false h.length P)).1:=by rw[oA zli rfl hp rfl];exact zbj
theorem zlu:X.fn oJ=some vT:=by kernel_rfl
theorem z8N {u0 v0:AV}{h h1:aA}{P:jA}(hp:lA h [u0]=some ([v0],h1)):bA X oJ [u0] h P=(VI (bA X) X.gl [(0,v0)] h1 [] (mA [.t 2] false h.length P)).1:=by rw[oA zlu rfl hp rfl];exact zb8
theorem zln:X.fn TL=some nT:=by kernel_rfl
theorem z8G {u0 u1 u2 v0 v1 v2:AV}{h h1:aA}{P:jA}(hp:lA h [u0,u1,u2]=some ([v0,v1,v2],h1)):bA X TL [u0,u1,u2] h P=SO (bA X) X.gl cK QM v0 v1 v2 h1 [] (mA [.t 6] false h.length P):=by rw[oA zln rfl hp rfl];exact zbp
theorem zlw:X.fn XL=some xT:=by kernel_rfl
theorem z8P {u0 u1 v0 v1:AV}{h h1:aA}{P:jA}(hp:lA h [u0,u1]=some ([v0,v1],h1)):bA X XL [u0,u1] h P=(WI (bA X) X.gl [(0,v0),(1,v1)] h1 [] (mA [.t 4] false h.length P)).1:=by rw[oA zlw rfl hp rfl];exact zbC
theorem zlj:X.fn BD=some jT:=by kernel_rfl
theorem z8D {u0 u1 v0 v1:AV}{h h1:aA}{P:jA}(hp:lA h [u0,u1]=some ([v0,v1],h1)):bA X BD [u0,u1] h P=(pL (bA X) X.gl [(0,v0),(1,v1)] h1 [] (mA [.t 4] false h.length P)).1:=by rw[oA zlj rfl hp rfl];exact zbl
theorem zlD:X.fn RH=some FN:=by kernel_rfl
theorem z9g {u0 u1 h P}:bA X RH [u0,u1] h P=(oP (bA X) X.gl [(0,u0),(1,u1)] h [] (mA [.t 4] false h.length P)).1:=by rw[YE zlD rfl rfl];exact zcn
theorem zkM:X.fn iJ=some KS:=by kernel_rfl
theorem z8q {u0 v0:AV}{h h1:aA}{P:jA}(hp:lA h [u0]=some ([v0],h1)):bA X iJ [u0] h P=(RI (bA X) X.gl [(0,v0)] h1 [] (mA [.t 2] false h.length P)).1:=by rw[oA zkM rfl hp rfl];exact za5
theorem zla:X.fn mJ=some XS:=by kernel_rfl
theorem z84 {u0 u1 v0 v1:AV}{h h1:aA}{P:jA}(hp:lA h [u0,u1]=some ([v0,v1],h1)):bA X mJ [u0,u1] h P=(dG (bA X) X.gl [(0,v0),(1,v1)] h1 [] (mA [.t 4] false h.length P)).1:=by rw[oA zla rfl hp rfl];exact zaU
theorem zkQ:X.fn JL=some OS:=by kernel_rfl
theorem z8u {u0 u1 v0 v1:AV}{h h1:aA}{P:jA}(hp:lA h [u0,u1]=some ([v0,v1],h1)):bA X JL [u0,u1] h P=(lL (bA X) X.gl [(0,v0),(1,v1)] h1 [] (mA [.t 4] false h.length P)).1:=by rw[oA zkQ rfl hp rfl];exact zaF
theorem zkT:X.fn CF=some RS:=by kernel_rfl
theorem z8x {u0 u1 v0 v1:AV}{h h1:aA}{P:jA}(hp:lA h [u0,u1]=some ([v0,v1],h1)):bA X CF [u0,u1] h P=(mL (bA X) X.gl [(0,v0),(1,v1)] h1 [] (mA [.t 4] false h.length P)).1:=by rw[oA zkT rfl hp rfl];exact zaK
theorem zlX:X.fn iM=some UT:=by kernel_rfl
theorem z91 {u0 u1 u2 u3 v0 v1 v2 v3:AV}{h h1:aA}{P:jA}(hp:lA h [u0,u1,u2,u3]=some ([v0,v1,v2,v3],h1)):bA X iM [u0,u1,u2,u3] h P=(aJ (bA X) X.gl [(0,v0),(1,v1),(2,v2),(3,v3)] h1 [] (mA [.t 8] false h.length P)).1:=by rw[oA zlX rfl hp rfl];exact zdj
theorem zlV:X.fn FF=some RN:=by kernel_rfl
theorem z9z {u0 u1 v0 v1:AV}{h h1:aA}{P:jA}(hp:lA h [u0,u1]=some ([v0,v1],h1)):bA X FF [u0,u1] h P=(AP (bA X) X.gl [(0,v0),(1,v1)] h1 [] (mA [.t 4] false h.length P)).1:=by rw[oA zlV rfl hp rfl];exact zde
theorem zlZ:X.fn TG=some UN:=by kernel_rfl
theorem z92 {u0 u1 v0 v1:AV}{h h1:aA}{P:jA}(hp:lA h [u0,u1]=some ([v0,v1],h1)):bA X TG [u0,u1] h P=(CP (bA X) X.gl [(0,v0),(1,v1)] h1 [] (mA [.t 4] false h.length P)).1:=by rw[oA zlZ rfl hp rfl];exact zdo
theorem zlS:X.fn fM=some TT:=by kernel_rfl
theorem z9x {u0 u1 v0 v1:AV}{h h1:aA}{P:jA}(hp:lA h [u0,u1]=some ([v0,v1],h1)):bA X fM [u0,u1] h P=(zP (bA X) X.gl [(0,v0),(1,v1)] h1 [] (mA [.t 4,.t 5] false h.length P)).1:=by rw[oA zlS rfl hp rfl];exact zcV
theorem zkB:X.fn jG=some sN:=by kernel_rfl
theorem z8f {u0 u1 v0 v1:AV}{h h1:aA}{P:jA}(hp:lA h [u0,u1]=some ([v0,v1],h1)):bA X jG [u0,u1] h P=(rO (bA X) X.gl [(0,v0),(1,v1)] h1 [] (mA [.cell 4 (some 2)] false h.length P)).1:=by rw[oA zkB rfl hp rfl];exact zao
theorem zkP:X.fn IL=some NS:=by kernel_rfl
theorem z8t {u0 u1 u2 v0 v1 v2:AV}{h h1:aA}{P:jA}(hp:lA h [u0,u1,u2]=some ([v0,v1,v2],h1)):bA X IL [u0,u1,u2] h P=(SI (bA X) X.gl [(0,v0),(1,v1),(2,v2)] h1 [] (mA [.cell 6 (some 2),.t 7] false h.length P)).1:=by rw[oA zkP rfl hp rfl];exact zaA
theorem zlO:X.fn SG=some LN:=by kernel_rfl
theorem z9t {u0 u1 u2 v0 v1 v2:AV}{h h1:aA}{P:jA}(hp:lA h [u0,u1,u2]=some ([v0,v1,v2],h1)):bA X SG [u0,u1,u2] h P=(wP (bA X) X.gl [(0,v0),(1,v1),(2,v2)] h1 [] (mA [.t 6] false h.length P)).1:=by rw[oA zlO rfl hp rfl];exact zcL
theorem zll:X.fn MC=some lT:=by kernel_rfl
theorem z8E {u0 u1 v0 v1:AV}{h h1:aA}{P:jA}(hp:lA h [u0,u1]=some ([v0,v1],h1)):bA X MC [u0,u1] h P=(QO (bA X) X.gl [(0,v0),(1,v1)] h1 [] (mA [.t 4] false h.length P)).1:=by rw[oA zll rfl hp rfl];exact zbn
theorem zlh:X.fn zE=some gT:=by kernel_rfl
theorem z8B {u0 u1 v0 v1:AV}{h h1:aA}{P:jA}(hp:lA h [u0,u1]=some ([v0,v1],h1)):bA X zE [u0,u1] h P=(PO (bA X) X.gl [(0,v0),(1,v1)] h1 [] (mA [.t 4] false h.length P)).1:=by rw[oA zlh rfl hp rfl];exact zbi
theorem zls:X.fn RD=some tT:=by kernel_rfl
theorem z8L {u0 u1 v0 v1:AV}{h h1:aA}{P:jA}(hp:lA h [u0,u1]=some ([v0,v1],h1)):bA X RD [u0,u1] h P=(XO (bA X) X.gl [(0,v0),(1,v1)] h1 [] (mA [.t 4] false h.length P)).1:=by rw[oA zls rfl hp rfl];exact zb6
theorem zlk:X.fn NH=some kT:=by kernel_rfl
theorem z1j {u0 u1 u2 v0 v1 v2:AV}{h h1:aA}{P:jA}(hp:lA h [u0,u1,u2]=some ([v0,v1,v2],h1)):bA X NH [u0,u1,u2] h P=(qL (bA X) X.gl [(0,v0),(1,v1),(2,v2)] h1 [] (mA [.t 6] false h.length P)).1:=by rw[oA zlk rfl hp rfl];exact zbm
theorem zlt:X.fn QH=some uT:=by kernel_rfl
theorem z8M {u0 v0:AV}{h h1:aA}{P:jA}(hp:lA h [u0]=some ([v0],h1)):bA X QH [u0] h P=(DH (bA X) X.gl [(0,v0)] h1 [] (mA [.t 2] false h.length P)).1:=by rw[oA zlt rfl hp rfl];exact zb7
theorem zlx:X.fn YL=some yT:=by kernel_rfl
theorem z8Q {u0 u1 v0 v1:AV}{h h1:aA}{P:jA}(hp:lA h [u0,u1]=some ([v0,v1],h1)):bA X YL [u0,u1] h P=(ZO (bA X) X.gl [(0,v0),(1,v1)] h1 [] (mA [.t 4] false h.length P)).1:=by rw[oA zlx rfl hp rfl];exact zbF
theorem zl0:X.fn AE=some BT:=by kernel_rfl
theorem z8T {u0 u1 u2 v0 v1 v2:AV}{h h1:aA}{P:jA}(hp:lA h [u0,u1,u2]=some ([v0,v1,v2],h1)):bA X AE [u0,u1,u2] h P=(cP (bA X) X.gl [(0,v0),(1,v1),(2,v2)] h1 [] (mA [.t 6] false h.length P)).1:=by rw[oA zl0 rfl hp rfl];exact zbK
theorem zlF:X.fn xJ=some NT:=by kernel_rfl
theorem z9i {u0 u1 h P}:bA X xJ [u0,u1] h P=(qP (bA X) X.gl [(0,u0),(1,u1)] h [] (mA [] false h.length P)).1:=by rw[YE zlF rfl rfl];exact zcr
theorem zlo:X.fn OH=some oT:=by kernel_rfl
theorem z8H {u0 u1 v0 v1:AV}{h h1:aA}{P:jA}(hp:lA h [u0,u1]=some ([v0,v1],h1)):bA X OH [u0,u1] h P=(TO (bA X) X.gl [(0,v0),(1,v1)] h1 [] (mA [.t 4] false h.length P)).1:=by rw[oA zlo rfl hp rfl];exact zby
theorem zkH:X.fn QG=some yN:=by kernel_rfl
theorem z8l {u0 v0:AV}{h h1:aA}{P:jA}(hp:lA h [u0]=some ([v0],h1)):bA X QG [u0] h P=(xO (bA X) X.gl [(0,v0)] h1 [] (mA [.t 2] false h.length P)).1:=by rw[oA zkH rfl hp rfl];exact zay
theorem zkG:X.fn kG=some xN:=by kernel_rfl
theorem z8k {u0 u1 v0 v1:AV}{h h1:aA}{P:jA}(hp:lA h [u0,u1]=some ([v0,v1],h1)):bA X kG [u0,u1] h P=(PI (bA X) X.gl [(0,v0),(1,v1)] h1 [] (mA [.t 4] false h.length P)).1:=by rw[oA zkG rfl hp rfl];exact zax
theorem zma:X.fn GF=some VN:=by kernel_rfl
theorem z93 {u0 u1 v0 v1:AV}{h h1:aA}{P:jA}(hp:lA h [u0,u1]=some ([v0,v1],h1)):bA X GF [u0,u1] h P=(DP (bA X) X.gl [(0,v0),(1,v1)] h1 [] (mA [.t 4] false h.length P)).1:=by rw[oA zma rfl hp rfl];exact zdr
theorem zl8:X.fn uJ=some JT:=by kernel_rfl
theorem z9b {u0 u1 h P}:bA X uJ [u0,u1] h P=(tL (bA X) X.gl [(0,u0),(1,u1)] h [] (mA [.t 4] false h.length P)).1:=by rw[YE zl8 rfl rfl];exact zbY
theorem zlp:X.fn PH=some pT:=by kernel_rfl
theorem z8I {u0 u1 v0 v1:AV}{h h1:aA}{P:jA}(hp:lA h [u0,u1]=some ([v0,v1],h1)):bA X PH [u0,u1] h P=(rL (bA X) X.gl [(0,v0),(1,v1)] h1 [] (mA [.t 4] false h.length P)).1:=by rw[oA zlp rfl hp rfl];exact zbz
theorem zl2:X.fn aM=some DT:=by kernel_rfl
theorem z8V {u0 u1 v0 v1:AV}{h h1:aA}{P:jA}(hp:lA h [u0,u1]=some ([v0,v1],h1)):bA X aM [u0,u1] h P=(xE (bA X) X.gl [(0,v0),(1,v1)] h1 [] (mA [.t 4] false h.length P)).1:=by rw[oA zl2 rfl hp rfl];exact zbO
theorem zl4:X.fn bM=some FT:=by kernel_rfl
theorem z8X {u0 u1 v0 v1:AV}{h h1:aA}{P:jA}(hp:lA h [u0,u1]=some ([v0,v1],h1)):bA X bM [u0,u1] h P=(sL (bA X) X.gl [(0,v0),(1,v1)] h1 [] (mA [.t 4] false h.length P)).1:=by rw[oA zl4 rfl hp rfl];exact zbQ
theorem zlg:X.fn MH=some fT:=by kernel_rfl
theorem z8A {u0 u1 v0 v1:AV}{h h1:aA}{P:jA}(hp:lA h [u0,u1]=some ([v0,v1],h1)):bA X MH [u0,u1] h P=(OO (bA X) X.gl [(0,v0),(1,v1)] h1 [] (mA [.t 4] false h.length P)).1:=by rw[oA zlg rfl hp rfl];exact zbg
theorem zkD:X.fn QD=some uN:=by kernel_rfl
theorem z8h {u0 v0:AV}{h h1:aA}{P:jA}(hp:lA h [u0]=some ([v0],h1)):bA X QD [u0] h P=(MG (bA X) X.gl [(0,v0)] h1 [] (mA [.t 2] false h.length P)).1:=by rw[oA zkD rfl hp rfl];exact zas
theorem zkW:X.fn NL=some US:=by kernel_rfl
theorem z80 {u0 u1 v0 v1:AV}{h h1:aA}{P:jA}(hp:lA h [u0,u1]=some ([v0,v1],h1)):bA X NL [u0,u1] h P=(GO (bA X) X.gl [(0,v0),(1,v1)] h1 [] (mA [.t 4] false h.length P)).1:=by rw[oA zkW rfl hp rfl];exact zaQ
theorem zkF:X.fn OB=some wN:=by kernel_rfl
theorem z8j {u0 u1 u2 v0 v1 v2:AV}{h h1:aA}{P:jA}(hp:lA h [u0,u1,u2]=some ([v0,v1,v2],h1)):bA X OB [u0,u1,u2] h P=(vO (bA X) X.gl [(0,v0),(1,v1),(2,v2)] h1 [] (mA [.t 6] false h.length P)).1:=by rw[oA zkF rfl hp rfl];exact zaw
theorem zkE:X.fn PG=some vN:=by kernel_rfl
theorem z8i {u0 v0:AV}{h h1:aA}{P:jA}(hp:lA h [u0]=some ([v0],h1)):bA X PG [u0] h P=(tO (bA X) X.gl [(0,v0)] h1 [] (mA [.t 2] false h.length P)).1:=by rw[oA zkE rfl hp rfl];exact zav
theorem zl9:X.fn RG=some CN:=by kernel_rfl
theorem z9c {u0 u1 h P}:bA X RG [u0,u1] h P=(kP (bA X) X.gl [(0,u0),(1,u1)] h [] (mA [.t 4] false h.length P)).1:=by rw[YE zl9 rfl rfl];exact zcf
theorem zlb:X.fn nJ=some YS:=by kernel_rfl
theorem z85 {u0 v0:AV}{h h1:aA}{P:jA}(hp:lA h [u0]=some ([v0],h1)):bA X nJ [u0] h P=(LO (bA X) X.gl [(0,v0)] h1 [] (mA [.t 2] false h.length P)).1:=by rw[oA zlb rfl hp rfl];exact zaV
theorem zkZ:X.fn LH=some BN:=by kernel_rfl
theorem z83 {u0 v0:AV}{h h1:aA}{P:jA}(hp:lA h [u0]=some ([v0],h1)):bA X LH [u0] h P=(KO (bA X) X.gl [(0,v0)] h1 [] (mA [.t 2] false h.length P)).1:=by rw[oA zkZ rfl hp rfl];exact zaT
theorem zkS:X.fn LL=some QS:=by kernel_rfl
theorem z8w {u0 u1 v0 v1:AV}{h h1:aA}{P:jA}(hp:lA h [u0,u1]=some ([v0,v1],h1)):bA X LL [u0,u1] h P=(TI (bA X) X.gl [(0,v0),(1,v1)] h1 [] (mA [.t 4] false h.length P)).1:=by rw[oA zkS rfl hp rfl];exact zaH
theorem zkY:X.fn lJ=some WS:=by kernel_rfl
theorem z82 {u0 u1 v0 v1:AV}{h h1:aA}{P:jA}(hp:lA h [u0,u1]=some ([v0,v1],h1)):bA X lJ [u0,u1] h P=(JO (bA X) X.gl [(0,v0),(1,v1)] h1 [] (mA [.t 4] false h.length P)).1:=by rw[oA zkY rfl hp rfl];exact zaS
theorem zlM:X.fn DJ=some JN:=by kernel_rfl
theorem z9r {u0 v0:AV}{h h1:aA}{P:jA}(hp:lA h [u0]=some ([v0],h1)):bA X DJ [u0] h P=(vP (bA X) X.gl [(0,v0)] h1 [] (mA [.t 2] false h.length P)).1:=by rw[oA zlM rfl hp rfl];exact zcG
theorem zlU:X.fn EF=some QN:=by kernel_rfl
theorem aO {u0 u1 v0 v1:AV}{h h1:aA}{P:jA}(hp:lA h [u0,u1]=some ([v0,v1],h1)):bA X EF [u0,u1] h P=(yD (bA X) X.gl [(0,v0),(1,v1)] h1 [] (mA [.t 4] false h.length P)).1:=by rw[oA zlU rfl hp rfl];exact zda
theorem zkC:X.fn gJ=some tN:=by kernel_rfl
theorem z8g {u0 u1 v0 v1:AV}{h h1:aA}{P:jA}(hp:lA h [u0,u1]=some ([v0,v1],h1)):bA X gJ [u0,u1] h P=(sO (bA X) X.gl [(0,v0),(1,v1)] h1 [] (mA [.t 4] false h.length P)).1:=by rw[oA zkC rfl hp rfl];exact zap
theorem zld:X.fn PL=some aT:=by kernel_rfl
theorem z87 {u0 u1 u2 v0 v1 v2:AV}{h h1:aA}{P:jA}(hp:lA h [u0,u1,u2]=some ([v0,v1,v2],h1)):bA X PL [u0,u1,u2] h P=(UI (bA X) X.gl [(0,v0),(1,v1),(2,v2)] h1 [] (mA [.t 6] false h.length P)).1:=by rw[oA zld rfl hp rfl];exact zaZ
theorem zkU:X.fn ML=some SS:=by kernel_rfl
theorem z8y {u0 u1 u2 v0 v1 v2:AV}{h h1:aA}{P:jA}(hp:lA h [u0,u1,u2]=some ([v0,v1,v2],h1)):bA X ML [u0,u1,u2] h P=(EO (bA X) X.gl [(0,v0),(1,v1),(2,v2)] h1 [] (mA [.t 6] false h.length P)).1:=by rw[oA zkU rfl hp rfl];exact zaL
theorem zkA:X.fn fJ=some rN:=by kernel_rfl
theorem z8e {u0 v0:AV}{h h1:aA}{P:jA}(hp:lA h [u0]=some ([v0],h1)):bA X fJ [u0] h P=(qO (bA X) X.gl [(0,v0)] h1 [] (mA [.t 2] false h.length P)).1:=by rw[oA zkA rfl hp rfl];exact zal
theorem zlK:X.fn zJ=some HN:=by kernel_rfl
theorem z9n {u0 v0:AV}{h h1:aA}{P:jA}(hp:lA h [u0]=some ([v0],h1)):bA X zJ [u0] h P=(YI (bA X) X.gl [(0,v0)] h1 [] (mA [.t 2] false h.length P)).1:=by rw[oA zlK rfl hp rfl];exact zcB
theorem zlJ:X.fn yJ=some GN:=by kernel_rfl
theorem z9m {u0 v0:AV}{h h1:aA}{P:jA}(hp:lA h [u0]=some ([v0],h1)):bA X yJ [u0] h P=(uL (bA X) X.gl [(0,v0)] h1 [] (mA [.t 2] false h.length P)).1:=by rw[oA zlJ rfl hp rfl];exact zc8
theorem zlW:X.fn IJ=some SN:=by kernel_rfl
theorem z90 {u0 v0:AV}{h h1:aA}{P:jA}(hp:lA h [u0]=some ([v0],h1)):bA X IJ [u0] h P=(xL (bA X) X.gl [(0,v0)] h1 [] (mA [.t 2] false h.length P)).1:=by rw[oA zlW rfl hp rfl];exact zdi
theorem zl1:X.fn qJ=some CT:=by kernel_rfl
theorem z8U {u0 u1 v0 v1:AV}{h h1:aA}{P:jA}(hp:lA h [u0,u1]=some ([v0,v1],h1)):bA X qJ [u0,u1] h P=(dP (bA X) X.gl [(0,v0),(1,v1)] h1 [] (mA [.t 4] false h.length P)).1:=by rw[oA zl1 rfl hp rfl];exact zbL
theorem zlB:X.fn vJ=some LT:=by kernel_rfl
theorem z9e {u0 u1 h P}:bA X vJ [u0,u1] h P=(mP (bA X) X.gl [(0,u0),(1,u1)] h [] (mA [.t 4] false h.length P)).1:=by rw[YE zlB rfl rfl];exact zch
theorem zly:X.fn pJ=some zT:=by kernel_rfl
theorem z8R {u0 u1 v0 v1:AV}{h h1:aA}{P:jA}(hp:lA h [u0,u1]=some ([v0,v1],h1)):bA X pJ [u0,u1] h P=(aP (bA X) X.gl [(0,v0),(1,v1)] h1 [] (mA [.t 3] false h.length P)).1:=by rw[oA zly rfl hp rfl];exact zbG
theorem zlI:X.fn eM=some QT:=by kernel_rfl
theorem z9l {u0 u1 u2 h P}:bA X eM [u0,u1,u2] h P=(tP (bA X) X.gl [(0,u0),(1,u1),(2,u2)] h [] (mA [] false h.length P)).1:=by rw[YE zlI rfl rfl];exact zc1
theorem zkI:X.fn KH=some zN:=by kernel_rfl
theorem z8m {u0 v0:AV}{h h1:aA}{P:jA}(hp:lA h [u0]=some ([v0],h1)):bA X KH [u0] h P=(yO (bA X) X.gl [(0,v0)] h1 [] (mA [.t 2] false h.length P)).1:=by rw[oA zkI rfl hp rfl];exact za1
theorem zkJ:X.fn hJ=some AN:=by kernel_rfl
theorem z8n {u0 u1 v0 v1:AV}{h h1:aA}{P:jA}(hp:lA h [u0,u1]=some ([v0,v1],h1)):bA X hJ [u0,u1] h P=(zO (bA X) X.gl [(0,v0),(1,v1)] h1 [] (mA [.t 4] false h.length P)).1:=by rw[oA zkJ rfl hp rfl];exact za2
theorem zlv:X.fn WL=some wT:=by kernel_rfl
theorem z8O {u0 v0:AV}{h h1:aA}{P:jA}(hp:lA h [u0]=some ([v0],h1)):bA X WL [u0] h P=(YO (bA X) X.gl [(0,v0)] h1 [] (mA [.t 2] false h.length P)).1:=by rw[oA zlv rfl hp rfl];exact zbB
theorem zl3:X.fn rJ=some ET:=by kernel_rfl
theorem z8W {u0 v0:AV}{h h1:aA}{P:jA}(hp:lA h [u0]=some ([v0],h1)):bA X rJ [u0] h P=(fP (bA X) X.gl [(0,v0)] h1 [] (mA [.t 2] false h.length P)).1:=by rw[oA zl3 rfl hp rfl];exact zbP
theorem zlz:X.fn ZL=some AT:=by kernel_rfl
theorem z8S {u0 u1 v0 v1:AV}{h h1:aA}{P:jA}(hp:lA h [u0,u1]=some ([v0,v1],h1)):bA X ZL [u0,u1] h P=(bP (bA X) X.gl [(0,v0),(1,v1)] h1 [] (mA [.t 4] false h.length P)).1:=by rw[oA zlz rfl hp rfl];exact zbH
theorem zl5:X.fn cM=some GT:=by kernel_rfl
theorem z8Y {u0 v0:AV}{h h1:aA}{P:jA}(hp:lA h [u0]=some ([v0],h1)):bA X cM [u0] h P=(XI (bA X) X.gl [(0,v0)] h1 [] (mA [.t 2] false h.length P)).1:=by rw[oA zl5 rfl hp rfl];exact zbR
theorem zkX:X.fn kJ=some VS:=by kernel_rfl
theorem z81 {u0 u1 v0 v1:AV}{h h1:aA}{P:jA}(hp:lA h [u0,u1]=some ([v0,v1],h1)):bA X kJ [u0,u1] h P=(HO (bA X) X.gl [(0,v0),(1,v1)] h1 [] (mA [.t 3] false h.length P)).1:=by rw[oA zkX rfl hp rfl];exact zaR
theorem zlC:X.fn wJ=some EN:=by kernel_rfl
theorem z9f {u0 u1 h P}:bA X wJ [u0,u1] h P=(nP (bA X) X.gl [(0,u0),(1,u1)] h [] (mA [.t 4] false h.length P)).1:=by rw[YE zlC rfl rfl];exact zck
theorem zlT:X.fn HJ=some PN:=by kernel_rfl
theorem z9y {u0 u1 u2 v0 v1 v2:AV}{h h1:aA}{P:jA}(hp:lA h [u0,u1,u2]=some ([v0,v1,v2],h1)):bA X HJ [u0,u1,u2] h P=(GH (bA X) X.gl [(0,v0),(1,v1),(2,v2)] h1 [] (mA [.t 6] false h.length P)).1:=by rw[oA zlT rfl hp rfl];exact zcZ
theorem zlQ:X.fn GJ=some NN:=by kernel_rfl
theorem z9v {u0 u1 u2 v0 v1 v2:AV}{h h1:aA}{P:jA}(hp:lA h [u0,u1,u2]=some ([v0,v1,v2],h1)):bA X GJ [u0,u1,u2] h P=(eG (bA X) X.gl [(0,v0),(1,v1),(2,v2)] h1 [] (mA [.t 6] false h.length P)).1:=by rw[oA zlQ rfl hp rfl];exact zcN
theorem zlR:X.fn UH=some ON:=by kernel_rfl
theorem z9w {u0 u1 u2 v0 v1 v2:AV}{h h1:aA}{P:jA}(hp:lA h [u0,u1,u2]=some ([v0,v1,v2],h1)):bA X UH [u0,u1,u2] h P=(yP (bA X) X.gl [(0,v0),(1,v1),(2,v2)] h1 [] (mA [] false h.length P)).1:=by rw[oA zlR rfl hp rfl];exact zcR
theorem zkN:X.fn FL=some LS:=by kernel_rfl
theorem z8r {u0 u1 v0 v1:AV}{h h1:aA}{P:jA}(hp:lA h [u0,u1]=some ([v0,v1],h1)):bA X FL [u0,u1] h P=(kL (bA X) X.gl [(0,v0),(1,v1)] h1 [] (mA [.t 4] false h.length P)).1:=by rw[oA zkN rfl hp rfl];exact za8
theorem zlE:X.fn dM=some MT:=by kernel_rfl
theorem z9h {u0 u1 h P}:bA X dM [u0,u1] h P=(pP (bA X) X.gl [(0,u0),(1,u1)] h [] (mA [] false h.length P)).1:=by rw[YE zlE rfl rfl];exact zcq
theorem zkV:X.fn jJ=some TS:=by kernel_rfl
theorem z8z {u0 u1 v0 v1:AV}{h h1:aA}{P:jA}(hp:lA h [u0,u1]=some ([v0,v1],h1)):bA X jJ [u0,u1] h P=(FO (bA X) X.gl [(0,v0),(1,v1)] h1 [] (mA [.t 4] false h.length P)).1:=by rw[oA zkV rfl hp rfl];exact zaP
theorem zlN:X.fn EJ=some KN:=by kernel_rfl
theorem z9s {u0 v0:AV}{h h1:aA}{P:jA}(hp:lA h [u0]=some ([v0],h1)):bA X EJ [u0] h P=(BF (bA X) X.gl [(0,v0)] h1 [] (mA [.t 2] false h.length P)).1:=by rw[oA zlN rfl hp rfl];exact zcK
theorem zlL:X.fn CJ=some IN:=by kernel_rfl
theorem z9q {u0 u1 v0 v1:AV}{h h1:aA}{P:jA}(hp:lA h [u0,u1]=some ([v0,v1],h1)):bA X CJ [u0,u1] h P=(uP (bA X) X.gl [(0,v0),(1,v1)] h1 [] (mA [.t 4] false h.length P)).1:=by rw[oA zlL rfl hp rfl];exact zcF
theorem zlY:X.fn JJ=some TN:=by kernel_rfl
theorem z1k {u0 v0:AV}{h h1:aA}{P:jA}(hp:lA h [u0]=some ([v0],h1)):bA X JJ [u0] h P=(BP (bA X) X.gl [(0,v0)] h1 [] (mA [.t 2] false h.length P)).1:=by rw[oA zlY rfl hp rfl];exact zdl
theorem zmb:X.fn jM=some VT:=by kernel_rfl
theorem z94 {u0 u1 v0 v1:AV}{h h1:aA}{P:jA}(hp:lA h [u0,u1]=some ([v0,v1],h1)):bA X jM [u0,u1] h P=(EP (bA X) X.gl [(0,v0),(1,v1)] h1 [] (mA [.t 4] false h.length P)).1:=by rw[oA zmb rfl hp rfl];exact zds
theorem zlG:X.fn SH=some OT:=by kernel_rfl
theorem z9j {u0 u1 u2 u3 h P}:bA X SH [u0,u1,u2,u3] h P=(rP (bA X) X.gl [(0,u0),(1,u1),(2,u2),(3,u3)] h [] (mA [] false h.length P)).1:=by rw[YE zlG rfl rfl];exact zcs
theorem zlP:X.fn FJ=some MN:=by kernel_rfl
theorem z9u {u0 u1 v0 v1:AV}{h h1:aA}{P:jA}(hp:lA h [u0,u1]=some ([v0,v1],h1)):bA X FJ [u0,u1] h P=(xP (bA X) X.gl [(0,v0),(1,v1)] h1 [] (mA [.t 4] false h.length P)).1:=by rw[oA zlP rfl hp rfl];exact zcM
theorem zlc:X.fn OL=some ZS:=by kernel_rfl
theorem z86 {u0 u1 v0 v1:AV}{h h1:aA}{P:jA}(hp:lA h [u0,u1]=some ([v0,v1],h1)):bA X OL [u0,u1] h P=(nL (bA X) X.gl [(0,v0),(1,v1)] h1 [] (mA [.t 4] false h.length P)).1:=by rw[oA zlc rfl hp rfl];exact zaW
theorem zlH:X.fn TH=some PT:=by kernel_rfl
theorem z9k {u0 u1 u2 u3 u4 h P}:bA X TH [u0,u1,u2,u3,u4] h P=(sP (bA X) X.gl [(0,u0),(1,u1),(2,u2),(3,u3),(4,u4)] h [] (mA [] false h.length P)).1:=by rw[YE zlH rfl rfl];exact zcw
theorem zle:X.fn QL=some bT:=by kernel_rfl
theorem z88 {u0 v0:AV}{h h1:aA}{P:jA}(hp:lA h [u0]=some ([v0],h1)):bA X QL [u0] h P=(MO (bA X) X.gl [(0,v0)] h1 [] (mA [.t 2] false h.length P)).1:=by rw[oA zle rfl hp rfl];exact zbb
theorem zkK:X.fn DL=some IS:=by kernel_rfl
theorem z8o {u0 u1 v0 v1:AV}{h h1:aA}{P:jA}(hp:lA h [u0,u1]=some ([v0,v1],h1)):bA X DL [u0,u1] h P=(BO (bA X) X.gl [(0,v0),(1,v1)] h1 [] (mA [.t 4] false h.length P)).1:=by rw[oA zkK rfl hp rfl];exact za3
theorem zkR:X.fn KL=some PS:=by kernel_rfl
theorem z8v {u0 u1 v0 v1:AV}{h h1:aA}{P:jA}(hp:lA h [u0,u1]=some ([v0,v1],h1)):bA X KL [u0,u1] h P=(DO (bA X) X.gl [(0,v0),(1,v1)] h1 [] (mA [.t 4] false h.length P)).1:=by rw[oA zkR rfl hp rfl];exact zaG
theorem zlf:X.fn RL=some eT:=by kernel_rfl
theorem z89 {u0 v0:AV}{h h1:aA}{P:jA}(hp:lA h [u0]=some ([v0],h1)):bA X RL [u0] h P=(NO (bA X) X.gl [(0,v0)] h1 [] (mA [.t 2] false h.length P)).1:=by rw[oA zlf rfl hp rfl];exact zbc
attribute [go_sem] zbT zbU zbV zbW vW zfr lV nV oV pV EH zb1 zb2 zfl XU YU zb4 zb5 zfm ZU aV zbk UU zb9 zbA zfn bV cV zbq zbr zbs zbt zbu zbv zbw zbx zfj zfk z1J z1K
attribute [go_sem] VU z1L AF z1M WU z1N zbD zbE zfo dV eV zco zcp zfw BV CV za6 za7 zfe CU DU zdk nW zdf zdg zdh zf8 kW lW mW zdp zdq zfA qW rW zcW zcX zcY zf7 dW
attribute [go_sem] eW fW zaB zaC zaD zaE zff EU FU GU HU zaz za0 zfd zU BU zbZ zca zcb zcc zcd zce zfs zft qV rV sV tV uV vV zbh TU zat zau zfc xU yU zaI zaJ zfg
attribute [go_sem] IU JU zcH zcI zcJ zf5 UV VV WV zdb zdc zdd gW iW jW zaq zar zfb vU wU zba PU zaM zaN zaO zfh KU LU MU zam zan zfa tU uU zcC wW zf4 TV vL zc9
attribute [go_sem] zcA zf3 RV SV zbM zbN zfq jV kV zci zcj zfu wV xV zc2 zc3 zc4 zc5 zc6 zc7 zf0 zf1 zf2 KV LV MV NV OV QV zbI zbJ zfp fV iV zcl zcm zfv yV zV zcO
attribute [go_sem] zcP zcQ XV YV ZV zcS zcT zcU zf6 aW bW cW zdm zdn zf9 oW pW zct zcu zcv zfx zfy DV EV FV zaX zaY zfi NU OU zcx zcy zcz zc0 zfz GV HV IV JV zbd
attribute [go_sem] zbe zbf QU RU SU zdv zdw zdx zdy zfB zfC z1O tW uW z1P
end Go.Am
end
section
/- The stream of numbers out of which the laws draw. -/
open Go
namespace Go.Am
abbrev eI (n:Int):PV:=.int .i64 n
abbrev AL (l:List Int):AV:=.p (.sl none (l.map eI))
abbrev xA (L:List Int)(a:Int):Obj:=.box [AL L,AI a]
def FG (x n:Int):Int:=if n<1 then 0 else if x.tmod n<0 then IntKind.i64.wrap (x.tmod n+n) else x.tmod n
theorem z5d (x n:Int)(h:aA)(K:jA):bA X MH [AI x,AI n] h K=K (AI (FG x n)) h []:=by
 refine rule ?_;rw[z8A rfl];simp only[OO,go_sem];unfold FG;by_cases h1:n<1
 ·simp only[h1,if_true]
 ·simp only[h1,if_false,show ¬n=0 by omega]
  split <;> rfl
theorem z7E (x n:Int)(h1:1≤n)(h2:n≤4611686018427387904):0≤FG x n∧FG x n<n:=by
 unfold FG;rw[if_neg (by omega)]
 have:=Int.tmod_lt_of_pos x (show 0<n by omega)
 have h3 : -n<x.tmod n:=by
  have:=Int.lt_tmod_of_pos x (show 0<n by omega)
  exact this
 split
 ·rw[yA _ (by omega) (by omega)];omega
 ·omega
def oB (L:List Int)(a n:Int):Int:=
 if L.length=0 then FG (IntKind.i64.wrap ((a+1)*7919)) n
 else FG (IntKind.i64.wrap (FG (L.getD (a.tmod L.length).toNat 0) 1073741824+IntKind.i64.wrap (IntKind.i64.wrap (a.tdiv L.length)*IntKind.i64.wrap (7919+a.tmod L.length)))) n
theorem iI (L:List Int)(a n:Int)(h1:1≤n)(h2:n≤4611686018427387904):0≤oB L a n∧oB L a n<n:=by
 unfold oB;split <;> exact z7E _ _ h1 h2
theorem vI {h:aA}{id:Nat}{o':Obj}(hid:id<h.length):(h.set id o')[id]?=some o':=by simp [hid]
theorem rG {h:aA}{id:Nat}{o:Obj}(hh:h[id]?=some o):id<h.length:=(List.getElem?_eq_some_iff.1 hh).1
def NA (n:Nat)(a:Int):Prop:=0≤a∧a+n<4611686018427387904
theorem iE {n m:Nat}{a b:Int}(H:NA m a)(h:a≤b)(hn:b+n≤a+m):NA n b:=by unfold NA at *;omega
theorem pI {a:Int}(H:NA 14 a):NA 0 (a)∧NA 0 (a+1)∧NA 0 (a+1+1)∧NA 0 (a+1+1+1)∧NA 0 (a+1+1+1+1)∧NA 0 (a+1+1+1+1+1)∧NA 0 (a+1+1+1+1+1+1)∧NA 0 (a+1+1+1+1+1+1+1)∧NA 0 (a+1+1+1+1+1+1+1+1)∧NA 0 (a+1+1+1+1+1+1+1+1+1)∧NA 0 (a+1+1+1+1+1+1+1+1+1+1)∧NA 0 (a+1+1+1+1+1+1+1+1+1+1+1)∧NA 0 (a+1+1+1+1+1+1+1+1+1+1+1+1)∧NA 0 (a+1+1+1+1+1+1+1+1+1+1+1+1+1)∧NA 0 (a+1+1+1+1+1+1+1+1+1+1+1+1+1+1):=by
 unfold NA at *;omega
def Gen (f:Nat)(args:List AV)(L:List Int)(a a2:Int)(v:AV):Prop:=∀(h:aA) (id:Nat) (K:jA),h[id]?=some (xA L a)→bA X f (.ref id 0::args) h K=K v (h.set id (xA L a2)) []
section
variable {f:Nat} {args:List AV} {L:List Int} {a a2:Int} {v:AV} {h l:aA} {id:Nat} {K:jA}
theorem Gen.set (g:Gen f args L a a2 v)(hid:id<h.length):bA X f (.ref id 0::args) (h.set id (xA L a)) K=K v (h.set id (xA L a2)) []:=by
 rw[g _ _ _ (vI hid),List.set_set]
theorem Gen.app (g:Gen f args L a a2 v)(hid:id<h.length):bA X f (.ref id 0::args) (h.set id (xA L a)++l) K=K v (h.set id (xA L a2)++l) []:=by
 rw[g _ _ _ (by rw[UP (by simpa using hid)];exact vI hid),z58 (by simpa using hid),List.set_set]
theorem Gen.hd (g:Gen f args L a a2 v):bA X f (.ref 0 0::args) (xA L a::l) K=K v (xA L a2::l) []:=by
 rw[g _ _ _ rfl];rfl
theorem Gen.of (H:∀ (h:aA) (id:Nat),id<h.length→bA X f (.ref id 0::args) (h.set id (xA L a)) fun v1 h1 x1=>v1=v∧h1=h.set id (xA L a2)∧x1=[]):Gen f args L a a2 v:=by
 intro h id K hh;have hid:=rG hh
 have:h.set id (xA L a)=h:=by
  apply List.ext_getElem?
  intro i;rw[List.getElem?_set];split
  ·rename_i e;subst e;rw[hh]
  ·rfl
 have k:=H h id hid
 rw[this]at k;exact rule k
end
def iD (f:Nat)(args:List AV)(L:List Int)(a:Int)(Q:AV→Int→Prop):Prop:=∀(h:aA) (id:Nat),h[id]?=some (xA L a)→∃v a2,Q v a2∧∀K:jA,bA X f (.ref id 0::args) h K=K v (h.set id (xA L a2)) []
section
variable {f:Nat} {args:List AV} {L:List Int} {a:Int} {Q:AV→Int→Prop}
theorem iD.set (g:iD f args L a Q){h:aA}{id:Nat}(hid:id<h.length):∃v a2,Q v a2∧∀K:jA,bA X f (.ref id 0::args) (h.set id (xA L a)) K=K v (h.set id (xA L a2)) []:=by
 obtain⟨v,a2,q,r⟩:=g _ _ (vI hid);exact⟨v,a2,q,fun K=>by rw[r,List.set_set]⟩
theorem iD.app (g:iD f args L a Q){h l:aA}{id:Nat}(hid:id<h.length):∃v a2,Q v a2∧∀K:jA,bA X f (.ref id 0::args) (h.set id (xA L a)++l) K=K v (h.set id (xA L a2)++l) []:=by
 obtain⟨v,a2,q,r⟩:=g (h.set id (xA L a)++l) id (by rw[UP (by simpa using hid)];exact vI hid)
 exact⟨v,a2,q,fun K=>by rw[r,z58 (by simpa using hid),List.set_set]⟩
theorem iD.hd (g:iD f args L a Q){l:aA}:∃v a2,Q v a2∧∀K:jA,bA X f (.ref 0 0::args) (xA L a::l) K=K v (xA L a2::l) []:=g (xA L a::l) 0 rfl
theorem iD.of (H:∀ (h:aA) (id:Nat),id<h.length→bA X f (.ref id 0::args) (h.set id (xA L a)) fun v1 h1 x1=>∃ a2,Q v1 a2∧h1=h.set id (xA L a2)∧x1=[]):iD f args L a Q:=by
 intro h id hh;have hid:=rG hh
 have:h.set id (xA L a)=h:=by
  apply List.ext_getElem?
  intro i;rw[List.getElem?_set];split
  ·rename_i e;subst e;rw[hh]
  ·rfl
 have k:=H h id hid
 rw[this]at k;obtain⟨v,h',x,⟨a2,q,e1,e2⟩,r⟩:=bA.one z0D k;subst e1;subst e2
 exact⟨v,a2,q,r⟩
end
def SB (l:List Int)(L:List Int)(a:Int):Int:=l.getD (oB L a l.length).toNat 0
theorem tZ {l L:List Int}{a:Int}(hl:0<l.length)(hl2:l.length<4611686018427387904):SB l L a∈l:=by
 obtain⟨b1,b2⟩:=iI L a l.length (by omega) (by omega)
 unfold SB;have:(oB L a l.length).toNat<l.length:=by omega
 simp only[List.getD,List.getElem?_eq_getElem this,Option.getD_some];exact List.getElem_mem _
def isI:PV→Bool
 | .int .i64 _=>true
 | _=>false
def unI:PV→Int
 | .int _ n=>n
 | _=>0
theorem zkp {xs:List PV}(h:xs.all isI=true):xs=(xs.map unI).map eI:=by
 induction xs with
 | nil=>rfl
 | cons x r ih=>
  simp only[List.all_cons,Bool.and_eq_true]at h;simp only[List.map_cons];rw[←ih h.2];cases x with
  | int k n=>cases k <;> first|rfl|cases h.1
  | _=>cases h.1
set_option maxHeartbeats 400000 in
theorem z3B (L:List Int)(a n:Int)(hp:NA 0 a):Gen BD [AI n] L a (a+1) (AI (oB L a n)):=by
 refine Gen.of fun h id hid=>?_
 rw[z8D rfl];obtain⟨h0,h1⟩:=hp;have w1:IntKind.i64.wrap (a+1)=a+1:=yA _ (by omega) (by omega)
 have w2:IntKind.i64.wrap (a+1-1)=a:=by rw[yA _ (by omega) (by omega)];omega
 have hs:∀o',(h.set id o')[id]?=some o':=fun o'=>vI hid
 rcases Nat.eq_zero_or_pos L.length with hl|hl
 ·simp only[pL,go_sem,hs,z5d,hl,w1]
  simp only[oB,hl,if_true]
 ·have e1:((L.length:Int)=0)=False:=by simp only[eq_iff_iff,iff_false];omega
  have e2:0≤a.tmod L.length:=Int.tmod_nonneg _ h0
  have e3:a.tmod L.length<L.length:=Int.tmod_lt_of_pos _ (by omega)
  have e4:=iQ (k:=.i64) e2
  have e5:(L.map eI)[(a.tmod L.length).toNat]?=some (eI (L.getD (a.tmod L.length).toNat 0)):=by
   rw[dB eI (show(a.tmod L.length).toNat<L.length by omega)]
   simp [List.getD,show(a.tmod L.length).toNat<L.length by omega]
  simp only[pL,go_sem,hs,z5d,e1,w1,w2,e4,e5];simp only[oB,show ¬L.length=0 by omega,if_false]
section
variable {L:List Int} {a:Int} {h l:aA} {id:Nat} {K:jA}
theorem OK (hid:id<h.length)(hp:NA 0 a)(n:Int):bA X BD [.ref id 0,AI n] (h.set id (xA L a)) K=K (AI (oB L a n)) (h.set id (xA L (a+1))) []:=(z3B L a n hp).set hid
theorem z5k (hid:id<h.length)(hp:NA 0 a)(n:Int):bA X BD [.ref id 0,AI n] (h.set id (xA L a)++l) K=K (AI (oB L a n)) (h.set id (xA L (a+1))++l) []:=(z3B L a n hp).app hid
theorem z3A (hp:NA 0 a)(n:Int):Gen zE [AI n] L a (a+1) (AB (decide (oB L a n=0))):=by
 refine Gen.of fun h id hid=>?_
 rw[z8B rfl];simp only[PO,go_sem,OK hid hp]
theorem z5g (hid:id<h.length)(hp:NA 0 a)(n:Int):bA X zE [.ref id 0,AI n] (h.set id (xA L a)) K=K (AB (decide (oB L a n=0))) (h.set id (xA L (a+1))) []:=(z3A hp n).set hid
theorem z5f (hid:id<h.length)(hp:NA 0 a)(n:Int):bA X zE [.ref id 0,AI n] (h.set id (xA L a)++l) K=K (AB (decide (oB L a n=0))) (h.set id (xA L (a+1))++l) []:=(z3A hp n).app hid
theorem z3D (hp:NA 0 a)(xs:List PV)(hx:xs.all isI=true)(hl:0<xs.length)(hl2:xs.length<4611686018427387904) :
 Gen MC [.p (.sl none xs)] L a (a+1) (AI (SB (xs.map unI) L a)):=by
 refine Gen.of fun h id hid=>?_
 rw[z8E rfl];obtain⟨b1,b2⟩:=iI L a xs.length (by omega) (by omega)
 have e4:=iQ (k:=.i64) b1
 have e5:xs[(oB L a xs.length).toNat]?=some (eI (SB (xs.map unI) L a)):=by
  have hm:=zkp hx
  generalize hq:xs.map unI=q at *;subst hm;simp only[List.length_map]at *;rw[dB eI (show(oB L a q.length).toNat<q.length by omega)]
  simp [SB,List.getD,show(oB L a q.length).toNat<q.length by omega]
 simp only[QO,go_sem,OK hid hp,e4,e5]
theorem z5n (hid:id<h.length)(hp:NA 0 a){xs:List PV}(hx:xs.all isI=true)(hl:0<xs.length)(hl2:xs.length<4611686018427387904) :
 bA X MC [.ref id 0,.p (.sl none xs)] (h.set id (xA L a)) K=K (AI (SB (xs.map unI) L a)) (h.set id (xA L (a+1))) []:=(z3D hp xs hx hl hl2).set hid
theorem z5m (hid:id<h.length)(hp:NA 0 a){xs:List PV}(hx:xs.all isI=true)(hl:0<xs.length)(hl2:xs.length<4611686018427387904) :
 bA X MC [.ref id 0,.p (.sl none xs)] (h.set id (xA L a)++l) K=K (AI (SB (xs.map unI) L a)) (h.set id (xA L (a+1))++l) []:=(z3D hp xs hx hl hl2).app hid
def lF (u v:Int)(L:List Int)(a:Int):Int:=u+oB L a (v-u+1)
theorem MR {u v:Int}(L:List Int)(a:Int)(h1:u≤v)(h2:v≤u+4611686018427387900):u≤lF u v L a∧lF u v L a≤v:=by
 have:=iI L a (v-u+1) (by omega) (by omega)
 unfold lF;omega
theorem WW (hp:NA 0 a)(u v:Int)(huv:u≤v)(hu : -1152921504606846976≤u)(hv:v≤1152921504606846976) :
 Gen DF [AI u,AI v] L a (a+1) (AI (lF u v L a)):=by
 refine Gen.of fun h id hid=>?_
 rw[z8F rfl];obtain⟨b1,b2⟩:=MR L a huv (by omega)
 have w1:IntKind.i64.wrap (v-u)=v-u:=yA _ (by omega) (by omega)
 have w2:IntKind.i64.wrap (v-u+1)=v-u+1:=yA _ (by omega) (by omega)
 have w3:IntKind.i64.wrap (u+oB L a (v-u+1))=lF u v L a:=yA (lF u v L a) (by omega) (by omega)
 simp only[RO,go_sem,show ¬v<u by omega,w1,w2,OK hid hp,w3]
theorem z5q (hid:id<h.length)(hp:NA 0 a){u v:Int}(huv:u≤v)(hu : -1152921504606846976≤u)(hv:v≤1152921504606846976) :
 bA X DF [.ref id 0,AI u,AI v] (h.set id (xA L a)) K=K (AI (lF u v L a)) (h.set id (xA L (a+1))) []:=(WW hp u v huv hu hv).set hid
theorem z5o (hid:id<h.length)(hp:NA 0 a){u v:Int}(huv:u≤v)(hu : -1152921504606846976≤u)(hv:v≤1152921504606846976) :
 bA X DF [.ref id 0,AI u,AI v] (h.set id (xA L a)++l) K=K (AI (lF u v L a)) (h.set id (xA L (a+1))++l) []:=(WW hp u v huv hu hv).app hid
theorem z5p (hp:NA 0 a){u v:Int}(huv:u≤v)(hu : -1152921504606846976≤u)(hv:v≤1152921504606846976) :
 bA X DF [.ref 0 0,AI u,AI v] (xA L a::l) K=K (AI (lF u v L a)) (xA L (a+1)::l) []:=(WW hp u v huv hu hv).hd
end
attribute [go_sem ↓] OK z5k z5g z5f z5n z5m z5q z5o z5p
attribute [go_sem] OK z5k z5g z5f z5n z5m z5q z5o z5p isI unI
end Go.Am
end
section
/- Plain laws of fractions in lowest terms. -/
namespace Go.Am
def low (a b:Int):Int×Int:=(a.tdiv (Int.gcd a b),b.tdiv (Int.gcd a b))
theorem SP (a b:Int)(hb:0<b):0<(Int.gcd a b:Int):=by
 have:Int.gcd a b≠0:=by
  intro h;have:=(Int.gcd_eq_zero_iff.1 h).2;omega
 omega
theorem zfW (a b:Int):(low a b).1*(Int.gcd a b:Int)=a:=by
 unfold low;exact Int.tdiv_mul_cancel (Int.gcd_dvd_left ..)
theorem z4e (a b:Int):(low a b).2*(Int.gcd a b:Int)=b:=by
 unfold low;exact Int.tdiv_mul_cancel (Int.gcd_dvd_right ..)
theorem z4f (a b:Int)(hb:0<b):0<(low a b).2:=by
 have h1:=z4e a b
 have h2:=SP a b hb
 rcases Int.lt_trichotomy (low a b).2 0 with h|h|h
 ·have:=Int.mul_neg_of_neg_of_pos h h2;omega
 ·rw[h]at h1;omega
 ·exact h
theorem zfV (a b:Int)(hb:0<b):(low a b).2≤b:=by
 have h1:=z4e a b
 have h2:=SP a b hb
 have h3:=z4f a b hb
 have:(low a b).2*1≤(low a b).2*(Int.gcd a b:Int):=Int.mul_le_mul_of_nonneg_left (by omega) (by omega)
 omega
theorem zfU (a b:Int)(hb:0<b):(low a b).1.natAbs≤a.natAbs:=by
 have h1:=zfW a b
 have h2:=SP a b hb
 have h3:((low a b).1*(Int.gcd a b:Int)).natAbs=a.natAbs:=by rw[h1]
 rw[Int.natAbs_mul]at h3;rw[←h3];exact Nat.le_mul_of_pos_right _ (by omega)
end Go.Am
end
section
/- Small functions of numbers and of lists of numbers. -/
open Go
namespace Go.Am
variable {h:aA} {K:jA}
theorem z5l (n a b:Int):bA X OB [AI n,AI a,AI b] h K=K (AB (decide (n<a)||decide (b<n))) h []:=by
 refine rule ?_;rw[z8j rfl];by_cases h1:n<a <;> simp only[vO,go_sem,h1]
theorem PK (n a b:Int):bA X AE [AI n,AI a,AI b] h K=K (AB (decide (a≤n)&&decide (n≤b))) h []:=by
 refine rule ?_;rw[z8T rfl];by_cases h1:a≤n <;> simp only[cP,go_sem,h1]
theorem z41 (n a b:Int):(decide (n<a)||decide (b<n)) = !(decide (a≤n)&&decide (n≤b)):=by
 rw[Bool.eq_iff_iff];simp
theorem zjb (n:Int):bA X cM [AI n] h K=K (AI n.sign) h []:=by
 refine rule ?_;rw[z8Y rfl];rcases Int.lt_trichotomy n 0 with h1|h1|h1
 ·simp only[XI,go_sem,h1,Int.sign_eq_neg_one_of_neg h1]
 ·subst h1;simp only[XI,go_sem,Int.sign_zero]
 ·simp only[XI,go_sem,show ¬n<0 by omega,h1,Int.sign_eq_one_of_pos h1]
theorem zey (a b:Int):Int.gcd b (a.tmod b)=Int.gcd a b:=by
 unfold Int.gcd;rw[Int.natAbs_tmod,Nat.gcd_comm,←Nat.gcd_rec,Nat.gcd_comm]
theorem s_Gcd (a b:Int)(ha:0≤a)(hb:0≤b):bA X gJ [AI a,AI b] h K=K (AI (Int.gcd a b)) h []:=by
 refine rule ?_;rw[z8g rfl];simp only[sO,go_sem];refine SA (fun t:Int×Int=>⟨[(0,AI t.1),(1,AI t.2)],h,[]⟩) (fun t=>0≤t.1∧0≤t.2∧Int.gcd t.1 t.2=Int.gcd a b) (fun t=>t.2.toNat) (a,b) rfl ⟨ha,hb,rfl⟩ ?_
 rintro⟨u,v⟩ ⟨h1,h2,h3⟩
 dsimp only at h1 h2 h3;by_cases hv:v=0
 ·subst hv
  simp only[go_sem];rw[←h3];simp;omega
 ·simp only[go_sem,hv]
  exact⟨(v,u.tmod v),rfl,⟨h2,Int.tmod_nonneg _ h1,by rw[zey];exact h3⟩,by have:=Int.tmod_lt_of_pos u (show 0<v by omega);dsimp only;omega⟩
theorem z5h (a b:Int)(ha : -9223372036854775807≤a∧a≤9223372036854775807)(hb:0<b∧b≤9223372036854775807):bA X jG [AI a,AI b] h K=K (.p (.agg [eI (low a b).1,eI (low a b).2])) h []:=by
 refine rule ?_;rw[z8f rfl];have w:IntKind.i64.wrap (-a) = -a:=yA _ (by omega) (by omega)
 have e:Int.gcd (max a (-a)) b=Int.gcd a b:=by
  rcases Int.le_total 0 a with h|h
  ·rw[show max a (-a)=a by omega]
  ·rw[show max a (-a) = -a by omega,Int.neg_gcd]
 have hg:=SP a b hb.1
 have hd:=zfV a b hb.1
 have hp:=z4f a b hb.1
 have hn:=zfU a b hb.1
 have w1:IntKind.i64.wrap (a.tdiv (Int.gcd a b))=(low a b).1:=yA (low a b).1 (by omega) (by omega)
 have w2:IntKind.i64.wrap (b.tdiv (Int.gcd a b))=(low a b).2:=yA (low a b).2 (by omega) (by omega)
 have e0:((Int.gcd a b:Int)=0)=False:=by simp only[eq_iff_iff,iff_false];omega
 simp only[rO,go_sem,w,s_Gcd (max a (-a)) b (by omega) (by omega),e,e0,w1,w2]
theorem zko (n:Int)(h1:0≤n)(h2:n<18446744073709551616):IntKind.u64.wrap n=n:=by
 simp [IntKind.wrap,IntKind.bits,IntKind.signed];omega
abbrev AU (n:Int):AV:=.p (.int .u64 n)
def WA (x y:Int):Int:=if x<y then -1 else if x=y then 0 else 1
theorem z9M (x y:Int):WA x y=(x-y).sign:=by
 unfold WA;rcases Int.lt_trichotomy x y with h|h|h
 ·rw[if_pos h,Int.sign_eq_neg_one_of_neg (by omega)]
 ·rw[if_neg (by omega),if_pos h,h];simp
 ·rw[if_neg (by omega),if_neg (by omega),Int.sign_eq_one_of_pos (by omega)]
end Go.Am
end
section
/- Functions of lists. -/
open Go
namespace Go.Am
variable {h:aA} {K:jA}
theorem MZ (a:Int):bA X KH [AI a] h K=K (AB false) h []:=by
 refine rule ?_;rw[z8m rfl];simp only[yO,go_sem]
theorem JZ (a b:Int):bA X kG [AI a,AI b] h K=K (AI (WA a b)) h []:=by
 refine rule ?_;rw[z8k rfl];unfold WA;by_cases h1:a<b
 ·simp only[PI,go_sem,MZ,h1]
 ·by_cases h2:b<a
  ·simp only[PI,go_sem,MZ,h1,h2,show ¬a=b by omega]
  ·simp only[PI,go_sem,MZ,h1,h2,show a=b by omega,Int.lt_irrefl]
def GS (g:Nat)(caps:List AV)(p:PV→Bool)(xs:List PV)(h:aA):Prop:=∀x∈xs,∀K:jA,bA X g (.p x::caps) h K=K (AB (p x)) h []
def sG (p:PV→Bool)(xs:List PV):Int:=if xs.findIdx p<xs.length then(xs.findIdx p:Int) else -1
theorem zeE (p:PV→Bool)(xs:List PV):decide (0≤sG p xs)=xs.any p:=by
 unfold sG;rw[Bool.eq_iff_iff];by_cases h:xs.findIdx p<xs.length
 ·rw[if_pos h];simp only[decide_eq_true_eq,List.any_eq_true]
  exact⟨fun _=>⟨_,List.getElem_mem h,List.findIdx_getElem⟩,fun _=>by omega⟩
 ·rw[if_neg h];simp only[decide_eq_true_eq,List.any_eq_true]
  refine⟨fun h=>by omega,fun⟨x,hx,hp⟩=>absurd (List.findIdx_lt_length_of_exists ⟨x,hx,hp⟩) h⟩
end Go.Am
end
section
/- Plain lists: insertion sort asv Go's package slices does it on short lists;deleting;compacting. -/
namespace Go.Am
variable {α:Type}
def YB (lt:α→α→Bool)(x:α):List α→List α
 | []=>[x]
 | y::r=>bif lt x y then y::YB lt x r else x::y::r
def iF (lt:α→α→Bool)(l:List α):List α:=l.foldl (fun r x=>YB lt x r) []
def ZB (lt:α→α→Bool)(l:List α):List α:=(iF lt l).reverse
theorem bX (lt:α→α→Bool)(x:α):∀r:List α,(YB lt x r).Perm (x::r)
 | []=>.refl _
 | y::r=>by
  unfold YB;cases lt x y with
  | true=>exact((bX lt x r).cons y).trans (.swap _ _ _)
  | false=>exact .refl _
theorem z3P (lt:α→α→Bool):∀(l r:List α),(l.foldl (fun r x=>YB lt x r) r).Perm (l++r)
 | [],r=>.refl _
 | x::l,r=>by
  simp only[List.foldl_cons,List.cons_append];refine(z3P lt l _).trans ?_;exact((bX lt x r).append_left l).trans (List.perm_middle)
theorem cX (lt:α→α→Bool)(l:List α):(iF lt l).Perm l:=by
 have:=z3P lt l [];rwa [List.append_nil]at this
theorem XP (lt:α→α→Bool)(l:List α):(ZB lt l).Perm l:=(List.reverse_perm _).trans (cX lt l)
theorem dX (lt:α→α→Bool)(l:List α):(ZB lt l).length=l.length:=(XP lt l).length_eq
theorem dI {lt:α→α→Bool}{l:List α}{x:α}:x∈ZB lt l↔x∈l:=(XP lt l).mem_iff
theorem zeU (lt:α→α→Bool)(l:List α):(iF lt l).length=l.length:=(cX lt l).length_eq
structure Weak (lt:α→α→Bool):Prop where
 asym:∀a b,lt a b=true→lt b a=false
 ntrans:∀a b c,lt b a=false→lt c b=false→lt c a=false
theorem z3J {lt:α→α→Bool}(w:Weak lt)(x:α):∀r:List α,r.Pairwise (fun a b=>lt a b=false)→(YB lt x r).Pairwise (fun a b=>lt a b=false)
 | [],_=>by simp [YB]
 | y::r,h=>by
  unfold YB;rw[List.pairwise_cons]at h;cases hxy:lt x y with
  | true=>
   rw[cond_true,List.pairwise_cons];refine⟨fun z hz=>?_,z3J w x r h.2⟩
   rcases List.mem_cons.1 ((bX lt x r).mem_iff.1 hz) with rfl|hz
   ·exact w.asym _ _ hxy
   ·exact h.1 z hz
  | false=>
   rw[cond_false,List.pairwise_cons,List.pairwise_cons];refine⟨fun z hz=>?_,h⟩
   rcases List.mem_cons.1 hz with rfl|hz
   ·exact hxy
   ·exact w.ntrans _ _ _ (h.1 z hz) hxy
theorem z3Q {lt:α→α→Bool}(w:Weak lt):∀(l r:List α),r.Pairwise (fun a b=>lt a b=false)→(l.foldl (fun r x=>YB lt x r) r).Pairwise (fun a b=>lt a b=false)
 | [],r,h=>h
 | x::l,r,h=>z3Q w l _ (z3J w x r h)
theorem z3R {lt:α→α→Bool}(w:Weak lt)(l:List α):(ZB lt l).Pairwise (fun a b=>lt b a=false):=by
 unfold ZB;rw[List.pairwise_reverse];exact z3Q w l [] .nil
theorem zeV (lt:α→α→Bool)(l:List α)(k:Nat)(hk:k<l.length):iF lt (l.take (k+1))=YB lt l[k] (iF lt (l.take k)):=by
 rw[List.take_succ_eq_append_getElem hk];unfold iF;rw[List.foldl_append];rfl
theorem z4h {β:Type}(f:α→β){lt:α→α→Bool}{lt':β→β→Bool}(h:∀ a b,lt' (f a) (f b)=lt a b)(x:α):∀r:List α,YB lt' (f x) (r.map f)=(YB lt x r).map f
 | []=>rfl
 | y::r=>by
  simp only[List.map_cons,YB,h];cases lt x y with
  | true=>simp only[cond_true,List.map_cons,z4h f h x r]
  | false=>rfl
theorem z3K (lt:α→α→Bool)(x:α)(A:List α):∀B:List α,(∀b∈B,lt x b=true)→YB lt x (B++A)=B++YB lt x A
 | [],_=>rfl
 | b::B,h=>by
  simp only[List.cons_append,YB,h b (by simp),cond_true]
  rw[z3K lt x A B (fun b hb=>h b (by simp [hb]))]
theorem zeL (A C:List α)(x:α):(A.reverse++x::C)[A.length]?=some x:=by
 rw[List.getElem?_append_right (by simp)];simp
theorem zeM (A C:List α)(x y:α):((y::A).reverse++x::C)[A.length]?=some y:=by
 rw[List.getElem?_append_left (by simp)];simp
theorem zeN (A C:List α)(x y:α):(((y::A).reverse++x::C).set (A.length+1) y).set A.length x=A.reverse++x::y::C:=by
 have e:(y::A).reverse++x::C=A.reverse++y::x::C:=by simp
 rw[e,List.set_append_right _ _ (by simp),List.length_reverse,Nat.add_sub_cancel_left,List.set_append_right _ _ (by simp),List.length_reverse,Nat.sub_self]
 rfl
theorem z3L (lt:α→α→Bool)(x:α)(A B:List α)(hB:∀ b∈B,lt x b=true)(hA:∀ y r,A=y::r→lt x y=false):YB lt x (B++A)=B++x::A:=by
 rw[z3K lt x A B hB];cases A with
 | nil=>rfl
 | cons y r=>simp only[YB,hA y r rfl,cond_false]
theorem zeW {β:Type}(f:α→β){lt:α→α→Bool}{lt':β→β→Bool}(h:∀ a b,lt' (f a) (f b)=lt a b)(l:List α):ZB lt' (l.map f)=(ZB lt l).map f:=by
 have key:∀(l r:List α),(l.map f).foldl (fun r x=>YB lt' x r) (r.map f)=(l.foldl (fun r x=>YB lt x r) r).map f:=by
  intro l;induction l with
  | nil=>intro r;rfl
  | cons x l ih=>intro r;simp only[List.map_cons,List.foldl_cons,z4h f h,ih]
 unfold ZB iF;have:=key l [];simp only[List.map_nil]at this;rw[this,List.map_reverse]
end Go.Am
namespace Go.Am
variable {α:Type}
def GB (q:α→α→Bool)(prev:α):List α→List α
 | []=>[]
 | x::r=>bif q x prev then GB q x r else x::GB q x r
def yB (q:α→α→Bool):List α→List α
 | []=>[]
 | x::r=>x::GB q x r
theorem z17 (q:α→α→Bool):∀(l:List α) (p:α),(GB q p l).length≤l.length
 | [],_=>Nat.le_refl _
 | x::r,p=>by
  unfold GB;have:=z17 q r x;cases q x p with
  | true=>simp only[cond_true,List.length_cons];omega
  | false=>simp only[cond_false,List.length_cons];omega
theorem z9S (q:α→α→Bool)(l:List α):(yB q l).length≤l.length:=by
 cases l with
 | nil=>exact Nat.le_refl _
 | cons x r=>have:=z17 q r x;simp only[yB,List.length_cons];omega
theorem oU (q:α→α→Bool):∀(l:List α) (p:α),∀x∈GB q p l,x∈l
 | [],_,x,h=>h
 | y::r,p,x,h=>by
  unfold GB at h;cases hq:q y p with
  | true=>rw[hq]at h;exact List.mem_cons_of_mem _ (oU q r y x h)
  | false=>
   rw[hq]at h;rcases List.mem_cons.1 h with rfl|h
   ·simp
   ·exact List.mem_cons_of_mem _ (oU q r y x h)
theorem z1B {q:α→α→Bool}{l:List α}{x:α}(h:x∈yB q l):x∈l:=by
 cases l with
 | nil=>exact h
 | cons y r=>
  rcases List.mem_cons.1 h with rfl|h
  ·simp
  ·exact List.mem_cons_of_mem _ (oU q r y x h)
theorem z18 (q:α→α→Bool)(z:α):∀(l:List α) (p:α),GB q p (l++[z])=GB q p l++(bif q z ((p::l).getLast (by simp)) then [] else [z])
 | [],p=>by simp only[List.nil_append,GB,List.getLast_singleton]
 | x::r,p=>by
  simp only[List.cons_append,GB,z18 q z r x];have e:(p::x::r).getLast (by simp)=(x::r).getLast (by simp):=List.getLast_cons (by simp)
  rw[e];cases q x p <;> rfl
theorem z1C (q:α→α→Bool)(l:List α)(k:Nat)(hk:k+1<l.length):yB q (l.take (k+1+1))=yB q (l.take (k+1))++(bif q l[k+1] l[k] then [] else [l[k+1]]):=by
 rw[List.take_succ_eq_append_getElem hk];cases l with
 | nil=>simp at hk
 | cons x r=>
  simp only[List.take_succ_cons,List.cons_append,yB,z18];have e:(x::r.take k).getLast (by simp)=(x::r)[k]:=by
   have:x::r.take k=(x::r).take (k+1):=rfl
   simp only[this];rw[List.getLast_eq_getElem];simp only[List.getElem_take];congr 1
   simp only[List.length_take,List.length_cons]at hk ⊢;omega
  rw[e]
end Go.Am
end
section
/- Values of a shape: loads and stores in rows. -/
open Go
namespace Go.Am
variable {h:aA} {K:jA}
theorem iH {sh:Sh}{x:PV}(hx:x.shp sh=true):BA sh 0 x=some x:=by
 cases sh with
 | none=>exact zaf hx
 | some n=>
  cases x with
  | agg cs=>
   simp only[PV.shp,Bool.and_eq_true,beq_iff_eq]at hx;simp [BA,hx.1];exact List.take_of_length_le (by omega)
  | _=>cases hx
theorem TZ {sh:Sh}{x:PV}(hx:x.shp sh=true):x.cells.length=gA sh:=by
 cases sh with
 | none=>cases x <;> first|rfl|cases hx
 | some n=>
  cases x with
  | agg cs=>simp only[PV.shp,Bool.and_eq_true,beq_iff_eq]at hx;exact hx.1
  | _=>cases hx
theorem SZ {sh:Sh}{x:PV}(hx:x.shp sh=true):x.cells.all PV.sc=true:=by
 cases sh with
 | none=>cases x <;> first|rfl|cases hx
 | some n=>
  cases x with
  | agg cs=>simp only[PV.shp,Bool.and_eq_true,beq_iff_eq]at hx;exact hx.2
  | _=>cases hx
theorem gS {sh:Sh}{x y:PV}(hx:x.shp sh=true)(hy:y.shp sh=true)(id i fz:Nat)(xs:List PV)(h1:aA):stE sh id i 0 fz sh xs x h1 (some y)=some (.und,h1.set id (.row sh (xs.set i x) fz),[]):=by
 cases sh with
 | none=>
  cases y with
  | agg cs=>cases hy
  | _=>simp only[PV.shp]at hx;simp [stE,hx]
 | some n=>
  cases y with
  | agg cs=>
   cases x with
   | agg ds=>
    simp only[PV.shp,Bool.and_eq_true,beq_iff_eq]at hx hy;simp [stE,PV.cells,splice,hx.1,hy.1,show cs.drop n=[] from List.drop_of_length_le (by omega)]
   | _=>cases hx
  | _=>cases hy
def kE (sh:Sh)(xs:List PV):Prop:=∀x∈xs,x.shp sh=true
theorem wI {sh:Sh}{xs:List PV}(hx:kE sh xs){i:Nat}(hi:i<xs.length):xs[i].shp sh=true:=hx _ (List.getElem_mem hi)
theorem SK {h:aA}{id:Nat}{o:Obj}(hh:h[id]?=some o):h.set id o=h:=by
 apply List.ext_getElem?
 intro i;rw[List.getElem?_set];split
 ·rename_i e;subst e;rw[hh];simp [rG hh]
 ·rfl
def Cmps (g:Nat)(caps:List AV)(c:PV→PV→Int)(xs:List PV)(id:Nat)(h:aA):Prop:=∀(o:Obj) (x:PV),x∈xs→∀y,y∈xs→∀K:jA,bA X g (.p x :: .p y::caps) (h.set id o) K=K (AI (c x y)) (h.set id o) []
def ltC (c:PV→PV→Int)(a b:PV):Bool:=decide (c a b<0)
structure Shows (sh:Sh) (v:AV) (xs:List PV) (h:aA):Prop where
 len:JF v=some (AI xs.length)
 get:∀(k:Nat) (hk:k<xs.length),∃a,gE sh v (AI k) h=some a∧eB sh a h=some (.p xs[k])
theorem dS {sh:Sh}{xs:List PV}(hs:kE sh xs):Shows sh (.p (.sl sh xs)) xs h:=by
 refine⟨rfl,fun k hk=>⟨.vp xs[k],?_,?_⟩⟩
 ·simp [gE,XA,hk]
 ·simp only[z3Z,iH (wI hs hk)];rfl
theorem z5A {sh:Sh}{id off len fz:Nat}{xs:List PV}(hs:kE sh xs)(hh:h[id]?=some (.row sh xs fz))(hl:off+len≤xs.length):Shows sh (.own id xs.length off len) (win xs off len) h:=by
 have hw:(win xs off len).length=len:=by simp [win];omega
 refine⟨by rw[hw];rfl,fun k hk=>⟨.rref id xs.length (off+k) 0,?_,?_⟩⟩
 ·rw[hw]at hk
  simp [gE,XA,hh,hl,hk]
 ·have hk':off+k<xs.length:=by rw[hw]at hk;omega
  have e:(win xs off len)[k]=xs[off+k]:=by simp [win]
  rw[e];simp only[z3Y,hh,z3T,if_true,List.getElem?_eq_getElem hk',Option.bind_some,iH (wI hs hk'),Option.map_some]
def z6w (g:Nat)(caps:List AV)(q:PV→PV→Bool)(xs:List PV)(id:Nat)(h:aA):Prop:=∀(o:Obj) (x:PV),x∈xs→∀y,y∈xs→∀K:jA,bA X g (.p x :: .p y::caps) (h.set id o) K=K (AB (q x y)) (h.set id o) []
end Go.Am
end
section
/- Strings: keys,the library's functions without text. -/
open Go
set_option linter.unusedSimpArgs false
namespace Go.Am
variable {h:aA} {K:jA}
abbrev AS (s:List UInt8):AV:=.p (.str s)
theorem z0C:X.ext=JH gG iG:=rfl
theorem ziQ (s:List UInt8)(c:UInt8):bA X gG [AS s,.p (.int .u8 c.toNat)] h K=K (AI (gF s c)) h []:=by
 have:=z2v (X:=X) (f:=gG) (asv:=[AS s,.p (.int .u8 c.toNat)]) (vs:=[.str s,.int .u8 c.toNat]) (h:=h) (h1:=h) (r:=.int .i64 (gF s c)) (K:=K) (by kernel_rfl) rfl rfl rfl ?_
 ·exact this
 ·rw[z0C]
  unfold JH;rw[show Nat.beq gG gG=true from by kernel_rfl]
  simp
theorem ziF (a b:List UInt8):bA X iG [AS a,AS b] h K=K (AI (zA a b)) h []:=by
 have:=z2v (X:=X) (f:=iG) (asv:=[AS a,AS b]) (vs:=[.str a,.str b]) (h:=h) (h1:=h) (r:=.int .i64 (zA a b)) (K:=K) (by kernel_rfl) rfl rfl rfl ?_
 ·exact this
 ·rw[z0C]
  unfold JH;rw[show Nat.beq iG gG=false from by kernel_rfl,show Nat.beq iG iG=true from by kernel_rfl]
  rfl
theorem aN (a b:List UInt8):bA X GF [AS a,AS b] h K=K (AI (zA a b)) h []:=by
 have key:∀(h:aA) (K:jA),bA X hJ [AS a,AS b] h K=K (AI (zA a b)) h []:=by
  intro h K;refine rule ?_;rw[z8n rfl];simp only[zO,go_sem,ziF]
 refine rule ?_;rw[z93 rfl];simp only[DP,go_sem,key]
theorem z5i (s:List UInt8)(c:UInt8):bA X jM [AS s,.p (.int .u8 c.toNat)] h K=K (AI (gF s c)) h []:=by
 have key:∀(h:aA) (K:jA),bA X DL [AS s,.p (.int .u8 c.toNat)] h K=K (AI (gF s c)) h []:=by
  intro h K;refine rule ?_;rw[z8o rfl];simp only[BO,go_sem,ziQ]
 refine rule ?_;rw[z94 rfl];simp only[EP,go_sem,key]
theorem z16:∀ a,zA a a=0
 | []=>rfl
 | x::a=>by simp only[zA,UInt8.lt_irrefl,if_false];exact z16 a
theorem KG:∀ {a b:List UInt8},zA a b=0→a=b
 | [],[],_=>rfl
 | [],_::_,h=>by simp [zA]at h
 | _::_,[],h=>by simp [zA]at h
 | x::a,y::b,h=>by
  simp only[zA]at h;split at h
  ·cases h
  ·split at h
   ·cases h
   ·rename_i h1 h2
    have:x=y:=UInt8.le_antisymm (UInt8.not_lt.1 h2) (UInt8.not_lt.1 h1)
    rw[this,KG h]
theorem jL:∀ a b,zA b a = - zA a b
 | [],[]=>rfl
 | [],_::_=>rfl
 | _::_,[]=>rfl
 | x::a,y::b=>by
  simp only[zA];by_cases h1:x<y
  ·have h2:¬y<x:=UInt8.lt_asymm h1
   simp [h1,h2]
  ·by_cases h2:y<x
   ·simp [h1,h2]
   ·simp [h1,h2,jL a b]
theorem nU:∀ {a b c:List UInt8},zA a b<0→zA b c<0→zA a c<0
 | [],[],_,h,_=>by simp [zA]at h
 | [],_::_,[],_,h=>by simp [zA]at h
 | [],_::_,_::_,_,_=>by simp [zA]
 | _::_,[],_,h,_=>by simp [zA]at h
 | _::_,_::_,[],_,h=>by simp [zA]at h
 | x::a,y::b,z::c,h1,h2=>by
  simp only[zA]at h1 h2 ⊢;by_cases hxy:x<y
  ·by_cases hyz:y<z
   ·simp [UInt8.lt_trans hxy hyz]
   ·by_cases hzy:z<y
    ·simp [hyz,hzy]at h2
    ·have:y=z:=UInt8.le_antisymm (UInt8.not_lt.1 hzy) (UInt8.not_lt.1 hyz)
     subst this;simp [hxy]
  ·by_cases hyx:y<x
   ·simp [hxy,hyx]at h1
   ·have:x=y:=UInt8.le_antisymm (UInt8.not_lt.1 hyx) (UInt8.not_lt.1 hxy)
    subst this;simp only[UInt8.lt_irrefl,if_false]at h1;by_cases hyz:x<z
    ·simp [hyz]
    ·by_cases hzy:z<x
     ·simp [hyz,hzy]at h2
     ·simp only[hyz,hzy,if_false]at h2 ⊢
      exact nU h1 h2
def CE (c:UInt8):Bool:=decide ((97:Int)≤c.toNat)&&decide ((c.toNat:Int)≤122)||decide ((48:Int)≤c.toNat)&&decide ((c.toNat:Int)≤57)||decide ((c.toNat:Int)=45)||decide ((c.toNat:Int)=95)
def PA (s:List UInt8):Bool:=match s with
 | []=>false
 | c::r=>decide (r.length<40)&&(decide ((97:Int)≤c.toNat)&&decide ((c.toNat:Int)≤122))&&(c::r).all CE
theorem fH (s:List UInt8)(hl:s.length≤1000000000):bA X QD [AS s] h K=K (AB (PA s)) h []:=by
 refine rule ?_;rw[z8h rfl];cases s with
 | nil=>simp only[MG,go_sem,PA]
 | cons c r=>
  have n0:((c::r)=[])=False:=by simp
  have e1:(((r.length+1:Nat):Int)≤40)=(r.length<40):=by simp only[eq_iff_iff];omega
  by_cases h1:(40:Int)<((r.length+1:Nat):Int)
  ·have:¬r.length<40:=by omega
   simp only[MG,go_sem,n0,h1,PA,this]
  have h1':r.length<40:=by omega
  by_cases h2:(c.toNat:Int)<97
  ·have:¬(97:Int)≤c.toNat:=by omega
   simp only[MG,go_sem,n0,h1,h2,PA,this,h1']
  have h2':(97:Int)≤c.toNat:=by omega
  by_cases h3:(122:Int)<c.toNat
  ·have:¬(c.toNat:Int)≤122:=by omega
   simp only[MG,go_sem,n0,h1,h2,h3,PA,this,h1',h2']
  have h3':(c.toNat:Int)≤122:=by omega
  have ek:PA (c::r)=(c::r).all CE:=by simp [PA,h1',h2',h3']
  rw[ek];generalize hB:(c::r).all CE=B;simp only[MG,go_sem,n0,h1,h2,h3];have hlen:(c::r).length=r.length+1:=rfl
  rw[←hlen];generalize c::r=s at *;refine SA (fun k:Nat=>⟨[(0,AS s),(23,AI s.length),(24,AI k)],h,[]⟩) (fun k=>k≤s.length∧(s.take k).all CE=true) (fun k=>s.length-k) 0 rfl ⟨by omega,rfl⟩ ?_
  rintro k ⟨hk,hp⟩
  rcases Nat.lt_or_ge k s.length with hlt|hge
  ·have hg:s[k]?=some s[k]:=List.getElem?_eq_getElem hlt
   have w2:IntKind.i64.wrap ((k:Int)+1)=((k+1:Nat):Int):=yA _ (by omega) (by omega)
   generalize hc:s[k]=c at *;have key:(decide ((97:Int)≤c.toNat)&&decide ((c.toNat:Int)≤122)||decide ((48:Int)≤c.toNat)&&decide ((c.toNat:Int)≤57)||decide ((c.toNat:Int)=45)||decide ((c.toNat:Int)=95))=CE c:=rfl
   cases hkc:CE c with
   | true=>
    rw[hkc]at key;have hn:(s.take (k+1)).all CE=true:=by rw[List.take_succ_eq_append_getElem hlt,List.all_append,hp,hc];simp [hkc]
    by_cases b1:(97:Int)≤c.toNat <;> by_cases b2:(c.toNat:Int)≤122 <;> by_cases b3:(48:Int)≤c.toNat <;> by_cases b4:(c.toNat:Int)≤57 <;> by_cases b5:(c.toNat:Int)=45 <;> by_cases b6:(c.toNat:Int)=95
    all_goals first
     | (simp only[b1,b2,b3,b4,b5,b6,decide_true,decide_false,Bool.and_self,Bool.and_true,Bool.and_false,Bool.or_self,Bool.or_true,Bool.or_false,Bool.true_or,Bool.false_or,Bool.false_and,reduceCtorEq]at key;done)
     | (exfalso;omega)
     | (simp only[go_sem,hlt,hg,w2,b1,b2,b3,b4,b5,b6];exact⟨k+1,rfl,⟨by omega,hn⟩,by omega⟩)
   | false=>
    rw[hkc]at key;have hn:s.all CE=false:=by rw[List.all_eq_false];exact⟨_,List.getElem_mem hlt,by rw[hc,hkc];simp⟩
    rw[hn]at hB;subst hB;by_cases b1:(97:Int)≤c.toNat <;> by_cases b2:(c.toNat:Int)≤122 <;> by_cases b3:(48:Int)≤c.toNat <;> by_cases b4:(c.toNat:Int)≤57 <;> by_cases b5:(c.toNat:Int)=45 <;> by_cases b6:(c.toNat:Int)=95
    all_goals first
     | (simp only[b1,b2,b3,b4,b5,b6,decide_true,decide_false,Bool.and_self,Bool.and_true,Bool.and_false,Bool.or_self,Bool.or_true,Bool.or_false,Bool.true_or,Bool.false_or,Bool.false_and,reduceCtorEq]at key;done)
     | (exfalso;omega)
     | (simp only[go_sem,hlt,hg,b1,b2,b3,b4,b5,b6])
  ·have ek:k=s.length:=by omega
   subst ek;rw[List.take_length,hB]at hp;subst hp;simp only[go_sem,Nat.lt_irrefl]
theorem zeD (s:List UInt8)(c:UInt8):decide (gF s c<0) = !s.contains c:=by
 unfold gF;rw[Bool.eq_iff_iff];by_cases hf:s.findIdx (· == c)<s.length
 ·rw[if_pos hf]
  have:=List.findIdx_getElem (w:=hf);simp only[beq_iff_eq]at this;have hm:c∈s:=by rw[←this];exact List.getElem_mem hf
  simp [hm]
 ·rw[if_neg hf]
  have hm:¬c∈s:=fun hm=>hf (List.findIdx_lt_length_of_exists ⟨c,hm,by simp⟩)
  simp [hm]
theorem z5w (s t:List UInt8)(hl:s.length≤1000000000):bA X qJ [AS s,AS t] h K=K (AB (s.all fun c=>t.contains c)) h []:=by
 refine rule ?_;rw[z8U rfl];simp only[dP,go_sem];refine SA (fun k:Nat=>⟨[(0,AS s),(1,AS t),(7,AI s.length),(8,AI k)],h,[]⟩) (fun k=>k≤s.length∧(s.take k).all (fun c=>t.contains c)=true) (fun k=>s.length-k) 0 rfl ⟨by omega,rfl⟩ ?_
 rintro k ⟨hk,hp⟩
 rcases Nat.lt_or_ge k s.length with hlt|hge
 ·have hg:s[k]?=some s[k]:=List.getElem?_eq_getElem hlt
  have w2:IntKind.i64.wrap ((k:Int)+1)=((k+1:Nat):Int):=yA _ (by omega) (by omega)
  have hi:=zeD t s[k]
  by_cases hc:gF t s[k]<0
  ·have:s.all (fun c=>t.contains c)=false:=by
    rw[List.all_eq_false];refine⟨_,List.getElem_mem hlt,?_⟩;rw[decide_eq_true hc]at hi;cases hq:t.contains s[k]with
    | true=>rw[hq]at hi;cases hi
    | false=>simp
   simp only[go_sem,hlt,hg,z5i,hc,this]
  ·rw[decide_eq_false hc]at hi
   have hq:t.contains s[k]=true:=by cases hq:t.contains s[k]with|true=>rfl|false=>rw[hq]at hi;cases hi
   simp only[go_sem,hlt,hg,z5i,hc,w2];exact⟨k+1,rfl,⟨by omega,by rw[List.take_succ_eq_append_getElem hlt,List.all_append,hp];simp only[List.all_cons,List.all_nil,hq];rfl⟩,by omega⟩
 ·have ek:k=s.length:=by omega
  subst ek;rw[List.take_length]at hp;simp only[go_sem,Nat.lt_irrefl,hp]
def dN:List UInt8:=[97,98,99,100,101,102,103,104,105,106,107,108,109,110,111,112,113,114,115,116,117,118,119,120,121,122]
def wM:List UInt8:=[97,98,99,100,101,102,103,104,105,106,107,108,109,110,111,112,113,114,115,116,117,118,119,120,121,122,48,49,50,51,52,53,54,55,56,57,45,95]
theorem z5S {p:UInt8→Bool}(h:((List.range 256).all fun n=>p (UInt8.ofNat n))=true)(c:UInt8):p c=true:=by
 have:=List.all_eq_true.1 h c.toNat (by simp;exact c.toNat_lt)
 rwa [UInt8.ofNat_toNat]at this
theorem zj3 (c:UInt8):dN.contains c=(decide ((97:Int)≤c.toNat)&&decide ((c.toNat:Int)≤122)):=by
 have:=z5S (p:=fun c=>dN.contains c==(decide ((97:Int)≤c.toNat)&&decide ((c.toNat:Int)≤122))) (by kernel_rfl) c
 simpa using this
theorem zeZ (c:UInt8):wM.contains c=CE c:=by
 have:=z5S (p:=fun c=>wM.contains c==CE c) (by kernel_rfl) c
 simpa using this
theorem NZ (s:List UInt8)(hl:s.length≤1000000000):bA X QH [AS s] h K=K (AB (PA s)) h []:=by
 refine rule ?_;rw[z8M rfl];have o1:=fun h K=>z5w (h:=h) (K:=K) s wM hl
 have e2:(s.all fun c=>wM.contains c)=s.all CE:=by congr 1;funext c;exact zeZ c
 rw[e2]at o1;unfold wM at o1;cases s with
 | nil=>simp only[DH,go_sem,PK,PA]
 | cons c r=>
  have o2:=fun h K=>z5w (h:=h) (K:=K) [c] dN (by simp)
  have e3:([c].all fun c=>dN.contains c)=(decide ((97:Int)≤c.toNat)&&decide ((c.toNat:Int)≤122)):=by simp only[List.all_cons,List.all_nil,Bool.and_true];exact zj3 c
  rw[e3]at o2;unfold dN at o2;have q1:(1:Int)≤((r.length+1:Nat):Int):=by omega
  have q2:1≤r.length+1:=by omega
  by_cases h1:r.length<40
  ·have h1':((r.length+1:Nat):Int)≤40:=by omega
   cases h2:(decide ((97:Int)≤c.toNat)&&decide ((c.toNat:Int)≤122)) with
   | true=>
    have ek:PA (c::r)=(c::r).all CE:=by
     simp only[PA,h1,decide_true,Bool.true_and,h2]
    rw[ek];simp only[DH,go_sem,PK,h1',q1,q2,win,↓o2,o2,h2,↓o1,o1]
   | false=>
    have ek:PA (c::r)=false:=by simp only[PA,h1,decide_true,Bool.true_and,h2,Bool.false_and]
    rw[ek];simp only[DH,go_sem,PK,h1',q1,q2,win,↓o2,o2,h2]
  ·have h1':¬((r.length+1:Nat):Int)≤40:=by omega
   have ek:PA (c::r)=false:=by simp only[PA,h1,decide_false,Bool.false_and]
   rw[ek];simp only[DH,go_sem,PK,h1',q1]
end Go.Am
end
section
/- Finding values in lists: printed by program. -/
open Go
set_option linter.unusedSimpArgs false
namespace Go.Am
attribute [-go_sem] PV.cells
variable {h:aA} {K:jA}
theorem z65 {v:AV}{g:Nat}{caps:List AV}{p:PV→Bool}{xs:List PV}(hv:Shows none v xs h)(hp:GS g caps p xs h)(hl:xs.length≤1000000000) :
 bA X wJ [v,.fn g caps] h K=K (AI (sG p xs)) h []:=by
 refine rule ?_;rw[z9f];have vl:=hv.len
 simp only[nP,go_sem,vl];refine SA (fun k:Nat=>⟨[(0,v),(1,.fn g caps),(7,AI xs.length),(8,AI k)],h,[]⟩) (fun k=>k≤xs.length∧∀x∈xs.take k,p x=false) (fun k=>xs.length-k) 0 rfl (by simp) ?_
 rintro k ⟨hk,hn⟩
 rcases Nat.lt_or_ge k xs.length with hlt|hge
 ·obtain⟨a,ha,hb⟩:=hv.get k hlt
  have w2:IntKind.i64.wrap ((k:Int)+1)=((k+1:Nat):Int):=yA _ (by omega) (by omega)
  have ht:=hp _ (List.getElem_mem hlt)
  cases hpk:p xs[k]with
  | true=>
   have hf:xs.findIdx p=k:=by
    rw[List.findIdx_eq hlt];refine⟨hpk,fun j hj=>?_⟩
    have:=hn xs[j] (by rw[List.mem_take_iff_getElem];exact⟨j,by omega,rfl⟩)
    simpa using this
   simp only[go_sem,hlt,ha,hb,ht,hpk,w2];simp only[sG,hf,hlt,if_true]
  | false=>
   simp only[go_sem,hlt,ha,hb,ht,hpk,w2];refine⟨k+1,rfl,⟨by omega,fun x hx=>?_⟩,by omega⟩
   rw[List.take_succ_eq_append_getElem hlt,List.mem_append,List.mem_singleton]at hx;rcases hx with hx|hx
   ·exact hn x hx
   ·rw[hx];exact hpk
 ·have e1:k=xs.length:=by omega
  subst e1;simp only[go_sem,Nat.lt_irrefl];rw[List.take_length]at hn;have:¬xs.findIdx p<xs.length:=by
   rw[Nat.not_lt,Nat.le_iff_lt_or_eq];right
   exact(List.findIdx_eq_length.2 (fun x hx=>by simp [hn x hx])).symm
  simp [sG,this]
theorem z0x {v:AV}{g:Nat}{caps:List AV}{p:PV→Bool}{xs:List PV}(hv:Shows (some 4) v xs h)(hp:GS g caps p xs h)(hl:xs.length≤1000000000) :
 bA X vJ [v,.fn g caps] h K=K (AI (sG p xs)) h []:=by
 refine rule ?_;rw[z9e];have vl:=hv.len
 simp only[mP,go_sem,vl];refine SA (fun k:Nat=>⟨[(0,v),(1,.fn g caps),(7,AI xs.length),(8,AI k)],h,[]⟩) (fun k=>k≤xs.length∧∀x∈xs.take k,p x=false) (fun k=>xs.length-k) 0 rfl (by simp) ?_
 rintro k ⟨hk,hn⟩
 rcases Nat.lt_or_ge k xs.length with hlt|hge
 ·obtain⟨a,ha,hb⟩:=hv.get k hlt
  have w2:IntKind.i64.wrap ((k:Int)+1)=((k+1:Nat):Int):=yA _ (by omega) (by omega)
  have ht:=hp _ (List.getElem_mem hlt)
  cases hpk:p xs[k]with
  | true=>
   have hf:xs.findIdx p=k:=by
    rw[List.findIdx_eq hlt];refine⟨hpk,fun j hj=>?_⟩
    have:=hn xs[j] (by rw[List.mem_take_iff_getElem];exact⟨j,by omega,rfl⟩)
    simpa using this
   simp only[go_sem,hlt,ha,hb,ht,hpk,w2];simp only[sG,hf,hlt,if_true]
  | false=>
   simp only[go_sem,hlt,ha,hb,ht,hpk,w2];refine⟨k+1,rfl,⟨by omega,fun x hx=>?_⟩,by omega⟩
   rw[List.take_succ_eq_append_getElem hlt,List.mem_append,List.mem_singleton]at hx;rcases hx with hx|hx
   ·exact hn x hx
   ·rw[hx];exact hpk
 ·have e1:k=xs.length:=by omega
  subst e1;simp only[go_sem,Nat.lt_irrefl];rw[List.take_length]at hn;have:¬xs.findIdx p<xs.length:=by
   rw[Nat.not_lt,Nat.le_iff_lt_or_eq];right
   exact(List.findIdx_eq_length.2 (fun x hx=>by simp [hn x hx])).symm
  simp [sG,this]
theorem z0t {g:Nat}{caps:List AV}{p:PV→Bool}{xs:List PV}(hp:GS g caps p xs h)(hs:kE none xs)(hl:xs.length≤1000000000) :
 bA X RG [.p (.sl none xs),.fn g caps] h K=K (AB (xs.any p)) h []:=by
 refine rule ?_;rw[z9c];have vi:=fun K=>z65 (h:=h) (K:=K) (dS hs) hp hl
 simp only[kP,go_sem,vi,zeE]
end Go.Am
end
section
/- Limits: what they are,what is wrong with them. -/
open Go
namespace Go.Am
variable {h:aA} {K:jA}
structure Lim where
 key:List UInt8
 lo:Int
 hi:Int
 bin:Int
def Lim.pv (x:Lim):PV:=.agg [.str x.key,eI x.lo,eI x.hi,eI x.bin]
abbrev LA (l:List Lim):AV:=.p (.sl (some 4) (l.map Lim.pv))
theorem z3W {l:List Lim}:kE (some 4) (l.map Lim.pv):=fun x hx=>by obtain⟨n,_,rfl⟩:=List.mem_map.1 hx;rfl
def kX (key:List UInt8):PV→Bool
 | .agg (.str k::_)=>decide (k=key)
 | _=>false
def pM (l:List Lim)(key:List UInt8):Int:=sG (kX key) (l.map Lim.pv)
def inB (a n b:Int):Bool:=decide (a≤n)&&decide (n≤b)
theorem xC (n a b:Int):bA X OB [AI n,AI a,AI b] h K=K (AB (!inB a n b)) h []:=by rw[z5l,z41];rfl
theorem IE (n a b:Int):bA X AE [AI n,AI a,AI b] h K=K (AB (inB a n b)) h []:=PK n a b
def xM (x:Lim):Bool:=!inB (-100000) x.lo x.hi||decide (100000<x.hi) || !inB 2 x.bin 100
def IF (pre:List Lim):List Lim→Int
 | []=>0
 | x::r=>if PA x.key=false then 5 else if 0≤pM pre x.key then 6 else if xM x then 1 else IF (pre++[x]) r
def IC (l:List Lim):Int:=if l.length=0 then 8 else if(100:Int)<l.length then 2 else IF [] l
end Go.Am
end
section
/- What is wrong with limits,both ways: printed by program. -/
open Go
set_option linter.unusedSimpArgs false
namespace Go.Am
variable {h:aA} {K:jA}
theorem ziM (x:Lim)(key:List UInt8)(id:Nat)(hh:h[id]?=some (.box [AS key])):bA X kJ [.p x.pv,.ref id 0] h K=K (AB (decide (x.key=key))) h []:=by
 refine rule ?_;rw[z81 rfl];have hg:∀l,(h++l)[id]?=some (.box [AS key]):=fun l=>by rw[UP (rG hh),hh]
 simp only[HO,Lim.pv,go_sem,hg]
theorem ziL (l:List Lim)(key:List UInt8)(hl:l.length≤1000000):bA X NL [LA l,AS key] h K=K (AI (pM l key)) h []:=by
 refine rule ?_;rw[z80 rfl];have hi:=fun K=>z0x (h:=h++[.box [AS key]]) (K:=K) (g:=kJ) (caps:=[.ref h.length 0]) (p:=kX key) (xs:=l.map Lim.pv) (dS z3W)
  (fun y hy K=>by obtain⟨x,_,rfl⟩:=List.mem_map.1 hy;exact ziM x key _ (by simp)) (by simpa using (by omega:l.length≤1000000000))
 simp only[GO,go_sem,hi];rfl
set_option maxHeartbeats 1000000 in
theorem z5e (l:List Lim)(hk:∀ x∈l,x.key.length≤1000)(hl:l.length≤1000000):bA X iJ [LA l] h K=K (AI (IC l)) h []:=by
 refine rule ?_;rw[z8q rfl];unfold IC;by_cases h0:l.length=0
 ·have h0':(l.length:Int)=0:=by omega
  simp only[RI,go_sem,h0',h0]
 have h0':¬(l.length:Int)=0:=by omega
 by_cases h1:(100:Int)<l.length
 ·simp only[RI,go_sem,h0',h0,h1]
 simp only[RI,go_sem,h0',h0,h1];refine SA (fun k:Nat=>⟨[(0,LA l),(13,LA l),(14,AI l.length),(15,AI k)],h,[]⟩) (fun k=>k≤l.length∧IF (l.take k) (l.drop k)=IF [] l) (fun k=>l.length-k) 0 rfl ⟨by omega,rfl⟩ ?_
 rintro k ⟨hkl,hp⟩
 rcases Nat.lt_or_ge k l.length with hlt|hge
 ·have hg:=dB Lim.pv hlt
  have w2:IntKind.i64.wrap ((k:Int)+1)=((k+1:Nat):Int):=yA _ (by omega) (by omega)
  have hkx:=hk _ (List.getElem_mem hlt)
  rw[List.drop_eq_getElem_cons hlt,IF,←List.take_succ_eq_append_getElem hlt]at hp;have ewin:win (l.map Lim.pv) 0 k=(l.take k).map Lim.pv:=by simp [win,List.map_take]
  have fnd:=fun h K=>ziL (h:=h) (K:=K) (l.take k) l[k].key (by simp;omega)
  generalize l[k]=x at *;have ky:=fun h K=>fH (h:=h) (K:=K) x.key (by omega)
  generalize hw:pM (l.take k) x.key=w at *;cases h2:PA x.key with
  | false=>
   rw[h2]at hp;simp only[if_true]at hp;simp only[go_sem,Lim.pv,hlt,hg,ky,h2];rw[←hp]
  | true=>
   rw[h2]at hp;simp only[reduceCtorEq,if_false]at hp;by_cases h3:0≤w
   ·rw[if_pos h3]at hp
    simp only[go_sem,Lim.pv,hlt,hg,ky,h2,hkl,ewin,fnd,h3];rw[←hp]
   ·rw[if_neg h3]at hp
    unfold xM at hp;cases h4:inB (-100000) x.lo x.hi with
    | false=>
     simp only[h4,Bool.not_false,Bool.true_or,if_true]at hp;simp only[go_sem,Lim.pv,hlt,hg,ky,h2,hkl,ewin,fnd,h3,xC,h4];rw[←hp]
    | true=>
     by_cases h5:100000<x.hi
     ·simp only[h4,h5,Bool.not_true,Bool.false_or,decide_true,Bool.true_or,if_true]at hp
      simp only[go_sem,Lim.pv,hlt,hg,ky,h2,hkl,ewin,fnd,h3,xC,h4,h5];rw[←hp]
     ·cases h6:inB 2 x.bin 100 with
      | false=>
       simp only[h4,h5,h6,Bool.not_true,Bool.false_or,decide_false,Bool.not_false,if_true]at hp;simp only[go_sem,Lim.pv,hlt,hg,ky,h2,hkl,ewin,fnd,h3,xC,h4,h5,h6];rw[←hp]
      | true=>
       simp only[h4,h5,h6,Bool.not_true,Bool.false_or,decide_false,Bool.or_self,reduceCtorEq,if_false]at hp;simp only[go_sem,Lim.pv,hlt,hg,ky,h2,hkl,ewin,fnd,h3,xC,h4,h5,h6,w2];exact⟨k+1,rfl,⟨by omega,hp⟩,by omega⟩
 ·have ek:k=l.length:=by omega
  subst ek;rw[List.drop_length]at hp;simp only[go_sem,Nat.lt_irrefl];rw[←hp];rfl
theorem ziA (x:Lim)(key:List UInt8)(id:Nat)(hh:h[id]?=some (.box [AS key])):bA X pJ [.p x.pv,.ref id 0] h K=K (AB (decide (x.key=key))) h []:=by
 refine rule ?_;rw[z8R rfl];have hg:∀l,(h++l)[id]?=some (.box [AS key]):=fun l=>by rw[UP (rG hh),hh]
 simp only[aP,Lim.pv,go_sem,hg]
theorem zi9 (l:List Lim)(key:List UInt8)(hl:l.length≤1000000):bA X YL [LA l,AS key] h K=K (AI (pM l key)) h []:=by
 refine rule ?_;rw[z8Q rfl];have hi:=fun K=>z0x (h:=h++[.box [AS key]]) (K:=K) (g:=pJ) (caps:=[.ref h.length 0]) (p:=kX key) (xs:=l.map Lim.pv) (dS z3W)
  (fun y hy K=>by obtain⟨x,_,rfl⟩:=List.mem_map.1 hy;exact ziA x key _ (by simp)) (by simpa using (by omega:l.length≤1000000000))
 simp only[ZO,go_sem,hi];rfl
set_option maxHeartbeats 1000000 in
theorem z5j (l:List Lim)(hk:∀ x∈l,x.key.length≤1000)(hl:l.length≤1000000):bA X oJ [LA l] h K=K (AI (IC l)) h []:=by
 refine rule ?_;rw[z8N rfl];unfold IC;by_cases h0:l.length=0
 ·have h0':(l.length:Int)=0:=by omega
  simp only[VI,go_sem,h0',h0]
 have h0':¬(l.length:Int)=0:=by omega
 by_cases h1:(100:Int)<l.length
 ·simp only[VI,go_sem,h0',h0,h1]
 simp only[VI,go_sem,h0',h0,h1];refine SA (fun k:Nat=>⟨[(0,LA l),(13,LA l),(14,AI l.length),(15,AI k)],h,[]⟩) (fun k=>k≤l.length∧IF (l.take k) (l.drop k)=IF [] l) (fun k=>l.length-k) 0 rfl ⟨by omega,rfl⟩ ?_
 rintro k ⟨hkl,hp⟩
 rcases Nat.lt_or_ge k l.length with hlt|hge
 ·have hg:=dB Lim.pv hlt
  have w2:IntKind.i64.wrap ((k:Int)+1)=((k+1:Nat):Int):=yA _ (by omega) (by omega)
  have hkx:=hk _ (List.getElem_mem hlt)
  rw[List.drop_eq_getElem_cons hlt,IF,←List.take_succ_eq_append_getElem hlt]at hp;have ewin:win (l.map Lim.pv) 0 k=(l.take k).map Lim.pv:=by simp [win,List.map_take]
  have fnd:=fun h K=>zi9 (h:=h) (K:=K) (l.take k) l[k].key (by simp;omega)
  generalize l[k]=x at *;have ky:=fun h K=>NZ (h:=h) (K:=K) x.key (by omega)
  generalize hw:pM (l.take k) x.key=w at *;cases h2:PA x.key with
  | false=>
   rw[h2]at hp;simp only[if_true]at hp;simp only[go_sem,Lim.pv,hlt,hg,ky,h2];rw[←hp]
  | true=>
   rw[h2]at hp;simp only[reduceCtorEq,if_false]at hp;by_cases h3:0≤w
   ·rw[if_pos h3]at hp
    simp only[go_sem,Lim.pv,hlt,hg,ky,h2,hkl,ewin,fnd,h3];rw[←hp]
   ·rw[if_neg h3]at hp
    unfold xM at hp;cases h4:inB (-100000) x.lo x.hi with
    | false=>
     simp only[h4,Bool.not_false,Bool.true_or,if_true]at hp;simp only[go_sem,Lim.pv,hlt,hg,ky,h2,hkl,ewin,fnd,h3,IE,h4];rw[←hp]
    | true=>
     by_cases h5:100000<x.hi
     ·simp only[h4,h5,Bool.not_true,Bool.false_or,decide_true,Bool.true_or,if_true]at hp
      simp only[go_sem,Lim.pv,hlt,hg,ky,h2,hkl,ewin,fnd,h3,IE,h4,h5];rw[←hp]
     ·cases h6:inB 2 x.bin 100 with
      | false=>
       simp only[h4,h5,h6,Bool.not_true,Bool.false_or,decide_false,Bool.not_false,if_true]at hp;simp only[go_sem,Lim.pv,hlt,hg,ky,h2,hkl,ewin,fnd,h3,IE,h4,h5,h6];rw[←hp]
      | true=>
       simp only[h4,h5,h6,Bool.not_true,Bool.false_or,decide_false,Bool.or_self,reduceCtorEq,if_false]at hp;simp only[go_sem,Lim.pv,hlt,hg,ky,h2,hkl,ewin,fnd,h3,IE,h4,h5,h6,w2];exact⟨k+1,rfl,⟨by omega,hp⟩,by omega⟩
 ·have ek:k=l.length:=by omega
  subst ek;rw[List.drop_length]at hp;simp only[go_sem,Nat.lt_irrefl];rw[←hp];rfl
end Go.Am
end
section
/- Package lot on measured values,and what the reference says of them. -/
open Go
namespace Go.Am
variable {h:aA} {K:jA}
def isM (n:Int):Bool:=decide (-100000≤n)&&decide (n≤100000)
theorem z0K {l:List Int}:kE none (l.map eI):=fun x hx=>by obtain⟨n,_,rfl⟩:=List.mem_map.1 hx;rfl
theorem ziR (n:Int):bA X LH [AI n] h K=K (AB (isM n)) h []:=by
 refine rule ?_;rw[z83 rfl];simp only[KO,go_sem,z5l,z41,Bool.not_not];rfl
def noM:PV→Bool:=fun x=>match x with | .int _ n=>!isM n | _=>false
theorem z0O (l:List Int):(l.map eI).any noM = !l.all isM:=by
 induction l with
 | nil=>rfl
 | cons x r ih=>simp only[List.map_cons,List.any_cons,List.all_cons,ih,Bool.not_and];rfl
end Go.Am
end
section
/- Records: what they are,what is wrong with them. -/
open Go
set_option linter.unusedSimpArgs false
namespace Go.Am
variable {h:aA} {K:jA}
structure Rec where
 unit:List UInt8
 time:Int
 site:List UInt8
 res:List Int
def Rec.pv (r:Rec):PV:=.agg [.str r.unit,eI r.time,.str r.site,.sl none (r.res.map eI)]
abbrev eC (l:List Rec):AV:=.p (.sl (some 4) (l.map Rec.pv))
theorem zZ {l:List Rec}:kE (some 4) (l.map Rec.pv):=fun x hx=>by obtain⟨n,_,rfl⟩:=List.mem_map.1 hx;rfl
structure RecOk (r:Rec):Prop where
 u:r.unit.length≤1000
 s:r.site.length≤1000
 n:r.res.length≤1000
structure LimOk (l:List Lim):Prop where
 n:l.length≤1000
 k:∀x∈l,x.key.length≤1000
def good (x:Lim)(n:Int):Bool:=inB x.lo n x.hi
def XB (l:List Lim)(res:List Int):List Bool:=List.zipWith good l res
def WB (l:List Lim)(res:List Int):Int:=if(XB l res).findIdx (fun b=>!b)<(XB l res).length then((XB l res).findIdx (fun b=>!b):Int) else -1
def QB (l:List Lim)(res:List Int):Bool:=inB 1 res.length l.length && !(decide (0≤WB l res)&&decide (WB l res≠(res.length:Int)-1)) && !(decide (WB l res<0)&&decide ((res.length:Int)≠l.length))
def FD (n:Int):Bool:=inB 0 n 345686399999
def TB (l:List Lim)(r:Rec):Int:=if(PA r.unit&&PA r.site)=false then 5 else if FD r.time=false then 1 else if r.res.all isM=false then 1 else if QB l r.res=false then 3 else 0
def wC (a b:Rec):Int:=if WA a.time b.time≠0 then WA a.time b.time else zA a.unit b.unit
def mF (l:List Lim):Option Rec→List Rec→Int
 | _,[]=>0
 | p,x::r=>if TB l x≠0 then TB l x else if(match p with|some q=>decide (wC x q≤0)|none=>false)=true then 7 else mF l (some x) r
def ZM (l:List Lim)(r:List Rec):Int:=if(5000:Int)<r.length then 2 else mF l none r
def JC (l:List Lim)(r:List Rec):Int:=if IC l≠0 then IC l else ZM l r
theorem z9L (x y:Int):WA y x = - WA x y:=by
 unfold WA;split <;> split <;> (try split) <;> (try split) <;> omega
theorem zhZ (a b:Rec):wC b a = - wC a b:=by
 unfold wC;rw[z9L a.time b.time,jL a.unit b.unit];by_cases hc:WA a.time b.time=0
 ·simp [hc]
 ·rw[if_pos (by omega),if_pos hc]
theorem aS (x:Lim)(n:Int):bA X lJ [.p x.pv,AI n] h K=K (AB (good x n)) h []:=by
 refine rule ?_;rw[z82 rfl];simp only[JO,Lim.pv,go_sem,xC,Bool.not_not];rfl
theorem jE (n:Int):bA X PG [AI n] h K=K (AB (FD n)) h []:=by
 refine rule ?_;rw[z8i rfl];simp only[tO,go_sem,xC,Bool.not_not];rfl
theorem sI (n:Int):bA X WL [AI n] h K=K (AB (FD n)) h []:=by
 refine rule ?_;rw[z8O rfl];simp only[YO,go_sem,IE];rfl
theorem aX {l:List Lim}{res:List Int}(h:res.length≤l.length):(XB l res).length=res.length:=by simp [XB];omega
theorem VP {l:List Lim}{res:List Int}{i:Nat}(h1:i<l.length)(h2:i<res.length):(XB l res)[i]?=some (good l[i] res[i]):=by
 unfold XB;rw[List.getElem?_zipWith];simp [h1,h2]
def SJ (l:List Lim)(res:List Int)(k:Nat):Prop:=∀i,i<k→(XB l res)[i]?≠some false
theorem KW {l:List Lim}{res:List Int}{k:Nat}(h1:SJ l res k)(h2:(XB l res)[k]?=some false):WB l res=k:=by
 obtain⟨hk,e⟩:=List.getElem?_eq_some_iff.1 h2;have:(XB l res).findIdx (fun b=>!b)=k:=by
  rw[List.findIdx_eq hk];refine⟨by simp [e],fun j hj=>?_⟩
  have:=h1 j hj;rw[List.getElem?_eq_getElem (by omega)]at this
  cases hq:(XB l res)[j]with
  | true=>rfl
  | false=>rw[hq]at this;exact absurd rfl this
 unfold WB;rw[this,if_pos hk]
theorem z2Q {l:List Lim}{res:List Int}(h1:SJ l res (XB l res).length):WB l res = -1:=by
 unfold WB;rw[if_neg];intro h;have:=List.findIdx_getElem (w:=h);have h2:=h1 _ h
 rw[List.getElem?_eq_getElem h]at h2;simp at this;rw[this]at h2;exact h2 rfl
theorem z5s (l:List Lim)(r:Rec)(h1:1≤r.res.length)(h2:r.res.length≤l.length)(hn:l.length≤1000) :
 bA X CF [LA l,.p r.pv] h K=K (AI (if good l[r.res.length-1] r.res[r.res.length-1] then -1 else(r.res.length:Int)-1)) h []:=by
 refine rule ?_;rw[z8x rfl];have w:IntKind.i64.wrap ((r.res.length:Int)-1)=((r.res.length-1:Nat):Int):=by rw[yA _ (by omega) (by omega)];omega
 have g1:=dB Lim.pv (show r.res.length-1<l.length by omega)
 have g2:=dB eI (show r.res.length-1<r.res.length by omega)
 have e:(r.res.length:Int)-1=((r.res.length-1:Nat):Int):=by omega
 have cx:BA (some 4) 0 (l[r.res.length-1].pv)=some l[r.res.length-1].pv:=rfl
 rw[e];cases hg:good l[r.res.length-1] r.res[r.res.length-1]with
 | true=>simp only[mL,Rec.pv,go_sem,w,g1,g2,cx,aS,hg]
 | false=>simp only[mL,Rec.pv,go_sem,w,g1,g2,cx,aS,hg]
theorem ziG (l:List Lim)(r:Rec)(hl:l.length≤1000)(hr:r.res.length≤1000):bA X LL [LA l,.p r.pv] h K=K (AB (QB l r.res)) h []:=by
 refine rule ?_;rw[z8w rfl];by_cases h1:r.res.length=0
 ·have h1':(r.res.length:Int)=0:=by omega
  have:QB l r.res=false:=by simp [QB,inB,h1]
  simp only[TI,Rec.pv,go_sem,h1',this]
 have h1':¬(r.res.length:Int)=0:=by omega
 by_cases h2:(l.length:Int)<r.res.length
 ·have:QB l r.res=false:=by simp [QB,inB];intro;omega
  simp only[TI,Rec.pv,go_sem,h1',h2,this]
 have hle:r.res.length≤l.length:=by omega
 have w:IntKind.i64.wrap ((r.res.length:Int)-1)=((r.res.length-1:Nat):Int):=by rw[yA _ (by omega) (by omega)];omega
 have hn1:r.res.length-1≤r.res.length:=by omega
 have ewin:win (r.res.map eI) 0 (r.res.length-1)=(r.res.take (r.res.length-1)).map eI:=by simp [win,List.map_take]
 have hfm:inB 1 r.res.length l.length=true:=by simp [inB];omega
 simp only[TI,Rec.pv,go_sem,h1',h2,w,hn1,ewin];have etl:min (r.res.length-1) r.res.length=r.res.length-1:=by omega
 refine SA (fun k:Nat=>⟨[(0,LA l),(3,.ref h.length 0),(5,AI r.res.length),(23,AL (r.res.take (r.res.length-1))),(24,AI ((r.res.length-1:Nat):Int)),(25,AI k)],h++[.box [AS r.unit,AI r.time,AS r.site,AL r.res]],[]⟩) (fun k=>k≤r.res.length-1∧SJ l r.res k) (fun k=>r.res.length-k) 0 ?_ ⟨by omega,fun i hi=>by omega⟩ ?_
 ·simp [etl]
 rintro k ⟨hk,hok⟩
 rcases Nat.lt_or_ge k (r.res.length-1) with hlt|hge
 ·have g1:=dB Lim.pv (show k<l.length by omega)
  have g2:((r.res.take (r.res.length-1)).map eI)[k]?=some (eI r.res[k]):=by simp [List.getElem?_take,hlt,show k<r.res.length by omega]
  have cx:BA (some 4) 0 (l[k].pv)=some l[k].pv:=rfl
  have gg:=VP (l:=l) (res:=r.res) (show k<l.length by omega) (show k<r.res.length by omega)
  have w2:IntKind.i64.wrap ((k:Int)+1)=((k+1:Nat):Int):=yA _ (by omega) (by omega)
  have hlt':k<r.res.length-1:=hlt
  cases hg:good l[k] r.res[k]with
  | false=>
   rw[hg]at gg;have hf:=KW hok gg
   have:QB l r.res=false:=by
    unfold QB;rw[hf];have q1:decide ((0:Int)≤(k:Int))=true:=by simp
    have q2:decide ((k:Int)≠(r.res.length:Int)-1)=true:=by simp;omega
    rw[q1,q2];simp
   simp only[go_sem,hlt',g1,g2,cx,aS,hg,this]
  | true=>
   simp only[go_sem,hlt',g1,g2,cx,aS,hg,w2];refine⟨k+1,rfl,⟨by omega,fun i hi=>?_⟩,by omega⟩
   rcases Nat.lt_or_ge i k with h3|h3
   ·exact hok i h3
   ·have:i=k:=by omega
    subst this;rw[gg,hg];simp
 ·have ek:k=r.res.length-1:=by omega
  subst ek;have hb:¬(r.res.length-1<r.res.length-1):=by omega
  have gg:=VP (l:=l) (res:=r.res) (show r.res.length-1<l.length by omega) (show r.res.length-1<r.res.length by omega)
  have cx:BA (some 4) 0 (PV.agg [.str r.unit,eI r.time,.str r.site,.sl none (r.res.map eI)])=some r.pv:=rfl
  have fl:=fun h K=>z5s (h:=h) (K:=K) l r (by omega) hle hl
  have hF:QB l r.res=(decide ((r.res.length:Int)=l.length) || !good l[r.res.length-1] r.res[r.res.length-1]):=by
   unfold QB;rw[hfm];cases hg:good l[r.res.length-1] r.res[r.res.length-1]with
   | false=>
    rw[hg]at gg;rw[KW hok gg];have q1:decide (((r.res.length-1:Nat):Int)≠(r.res.length:Int)-1)=false:=by simp;omega
    have q2:decide (((r.res.length-1:Nat):Int)<0)=false:=by simp
    rw[q1,q2];simp
   | true=>
    have hokn:SJ l r.res (XB l r.res).length:=by
     rw[aX hle];intro i hi;rcases Nat.lt_or_ge i (r.res.length-1) with h3|h3
     ·exact hok i h3
     ·have:i=r.res.length-1:=by omega
      subst this;rw[gg,hg];simp
    rw[z2Q hokn];simp
  rw[hF];by_cases he:(r.res.length:Int)=l.length
  ·simp only[go_sem,hb,he]
  ·cases hg:good l[r.res.length-1] r.res[r.res.length-1]with
   | true=>
    have fl':=fun h K=>fl h K
    simp only[hg,if_true,Rec.pv]at fl';simp only[go_sem,hb,he,fl',Rec.pv]
   | false=>
    have fl':=fun h K=>fl h K
    have hz:(0:Int)≤(r.res.length:Int)-1:=by omega
    simp only[hg,Rec.pv,reduceCtorEq,if_false]at fl';simp only[go_sem,hb,he,fl',Rec.pv,hz]
end Go.Am
end
section
/- Entries of stations,plainly: what is wrong with them. -/
set_option linter.all false
namespace Go.Am
structure Ent where
 site:List UInt8
 no:Int
 time:Int
 kind:Int
 board:List UInt8
 step:List UInt8
 of:List UInt8
 other:Int
 deriving DecidableEq
def Ent.pv (x:Ent):PV:=.agg [.str x.site,eI x.no,eI x.time,eI x.kind,.str x.board,.str x.step,.str x.of,eI x.other]
def noB (n:Int):Bool:=inB 1 n 1000000
def DM (x:Ent):Bool:=if x.kind=7 then PA x.of else if x.kind=2 then PA x.board&&PA x.step else PA x.board
def nN (x:Ent):Ent:=if x.kind=7 then⟨x.site,x.no,x.time,x.kind,[],[],x.of,x.other⟩ else if x.kind=2 then⟨x.site,x.no,x.time,x.kind,x.board,x.step,[],0⟩ else⟨x.site,x.no,x.time,x.kind,x.board,[],[],0⟩
def IB (x:Ent):Int:=
 if PA x.site=false then 5 else if noB x.no=false∨FD x.time=false then 1 else if inB 1 x.kind 7=false then 4
 else if DM x=false then 5 else if x.kind=7∧noB x.other=false then 1 else if x≠nN x then 3 else 0
def AD (a b:Ent):Int:=if WA a.time b.time≠0 then WA a.time b.time else if zA a.site b.site≠0 then zA a.site b.site else WA a.no b.no
def WD (a b:Ent):Bool:=decide (a.site=b.site)&&decide (a.no=b.no)
def ZC:Option Ent→List Ent→Int
 | _,[]=>0
 | p,x::r=>if IB x≠0 then IB x else if(match p with|some q=>decide (AD x q≤0)|none=>false)=true then 7 else ZC (some x) r
def pF (seen:List Ent):List Ent→Bool
 | []=>false
 | x::r=>if seen.any (fun o=>WD o x) then true else pF (seen++[x]) r
def eF (l:List Ent):Int:=if(2000:Int)<l.length then 2 else if ZC none l≠0 then ZC none l else if pF [] l then 6 else 0
end Go.Am
end
section
/- Boards followed through their steps,plainly: the program's floor and the reference's agree. -/
set_option linter.all false
namespace Go.Am
abbrev Nm:=List UInt8
section
variable {β:Type}
def rA (l:List (Nm × β))(k:Nm):Option β:=(l.find? fun e=>decide (e.1=k)).map (·.2)
def zB (l:List (Nm × β))(k:Nm)(v:β):List (Nm×β):=if l.any (fun e=>decide (e.1=k)) then l.map (fun e=>if e.1=k then(k,v) else e) else l++[(k,v)]
def HH (l:List (Nm × β))(k:Nm):List (Nm×β):=l.filter fun e=>!decide (e.1=k)
theorem ZH (e:Nm × β)(l:List (Nm × β))(k:Nm):rA (e::l) k=if e.1=k then some e.2 else rA l k:=by
 unfold rA;rw[List.find?_cons];by_cases h:e.1=k <;> simp [h]
theorem ze3 {l:List (Nm × β)}{k:Nm}(h:l.any (fun e=>decide (e.1=k))=false):rA l k=none:=by
 unfold rA;rw[List.find?_eq_none.2 (fun x hx=>by rw[List.any_eq_false]at h;exact h x hx)]
 rfl
theorem zez (l m:List (Nm × β))(k:Nm):rA (l++m) k=(rA l k).or (rA m k):=by
 unfold rA;rw[List.find?_append];cases l.find? (fun e=>decide (e.1=k)) <;> rfl
theorem ze0 (l:List (Nm × β))(k:Nm)(v:β)(j:Nm):rA (l.map fun e=>if e.1=k then(k,v) else e) j=if j=k then(rA l k).map (fun _=>v) else rA l j:=by
 induction l with
 | nil=>simp [rA]
 | cons e l ih=>
  rw[List.map_cons,ZH,ih,ZH,ZH];by_cases h1:e.1=k
  ·rw[if_pos h1]
   by_cases h2:j=k
   ·subst h2;simp [h1]
   ·have h3:¬k=j:=fun q=>h2 q.symm
    simp [h1,h2,h3]
  ·rw[if_neg h1]
   by_cases h2:j=k
   ·subst h2;simp [h1]
   ·simp [h2]
theorem TP (l:List (Nm × β))(k:Nm)(v:β)(j:Nm):rA (zB l k v) j=if j=k then some v else rA l j:=by
 unfold zB;cases h:l.any (fun e=>decide (e.1=k)) with
 | true=>
  rw[if_pos rfl,ze0];by_cases hj:j=k
  ·rw[if_pos hj,if_pos hj]
   obtain⟨e,he,hk⟩:=List.any_eq_true.1 h;have:rA l k≠none:=by
    unfold rA;intro hn;rw[Option.map_eq_none_iff,List.find?_eq_none]at hn;exact hn e he hk
   cases hg:rA l k with
   | none=>exact absurd hg this
   | some x=>rfl
  ·rw[if_neg hj,if_neg hj]
 | false=>
  rw[if_neg (by simp),zez,ZH]
  by_cases hj:j=k
  ·subst hj
   rw[ze3 h,if_pos rfl,if_pos rfl];rfl
  ·rw[if_neg (fun q=>hj q.symm),if_neg hj]
   cases rA l j <;> rfl
end
structure Sta where
 state:Int
 since:Int
 step:Nm
 site:Nm
 failed:Int
 deriving DecidableEq
structure EndP where
 board:Nm
 step:Nm
 frm:Int
 til:Int
 pass:Bool
 deriving DecidableEq
structure RunP where
 site:Nm
 frm:Int
 til:Int
 deriving DecidableEq
structure RanQ where
 board:Nm
 site:Nm
 step:Nm
 frm:Int
 til:Int
 pass:Bool
 deriving DecidableEq
def RanQ.run (r:RanQ):RunP:=⟨r.site,r.frm,r.til⟩
def RanQ.fin (r:RanQ):EndP:=⟨r.board,r.step,r.frm,r.til,r.pass⟩
structure FlP where
 bs:List (Nm×Sta)
 sites:List (Nm×Nm)
 ends:List EndP
 runs:List RunP
structure FlQ where
 bs:List (Nm×Sta)
 runs:List RanQ
def lE (steps:List Nm)(tries:Int)(s:Sta)(at_:Int)(pass:Bool):Sta:=
 if pass then(if steps.findIdx (fun y=>decide (y=s.step))+1=steps.length then⟨4,at_,[],[],0⟩ else⟨1,at_,(steps[steps.findIdx (fun y=>decide (y=s.step))+1]?).getD [],[],0⟩)
 else⟨if s.failed+1=tries then 5 else 3,at_,s.step,[],s.failed+1⟩
def nD (l:List RunP)(site:Nm)(at_:Int):List RunP:=l.map fun r=>if r.site=site∧r.til<0 then { r with til:=at_ } else r
def WC (steps:List Nm)(tries:Int)(w:FlP)(x:Ent):FlP×Int:=
 if x.kind=1 then(match rA w.bs x.board with|some _=>(w,6)|none=>({ w with bs:=zB w.bs x.board ⟨1,x.time,steps.headD [],[],0⟩ },0))
 else match rA w.bs x.board with
 | none=>(w,8)
 | some b=>
  if x.kind=2 then(if b.state≠1 then(w,11) else if x.step≠b.step then(w,3) else if(rA w.sites x.site).isSome then(w,12)
   else({ w with bs:=zB w.bs x.board { b with state:=2,since:=x.time,site:=x.site },sites:=zB w.sites x.site x.board,runs:=w.runs++[⟨x.site,x.time,-1⟩] },0))
  else if x.kind=3∨x.kind=4 then(if b.state≠2 then(w,11) else if b.site≠x.site then(w,13)
   else({ bs:=zB w.bs x.board (lE steps tries b x.time (decide (x.kind=3))),sites:=HH w.sites b.site,ends:=w.ends++[⟨x.board,b.step,b.since,x.time,decide (x.kind=3)⟩],runs:=nD w.runs b.site x.time },0))
  else if x.kind=5 then(if b.state≠3 then(w,11) else({ w with bs:=zB w.bs x.board { b with state:=1,since:=x.time } },0))
  else if b.state=4∨b.state=5 then(w,11)
  else if b.state=2 then({ w with bs:=zB w.bs x.board { b with state:=5,since:=x.time,site:=[] },sites:=HH w.sites b.site,runs:=nD w.runs b.site x.time },0)
  else({ w with bs:=zB w.bs x.board { b with state:=5,since:=x.time } },0)
def z1g (bs:List (Nm × Sta))(site:Nm):Prop:=∃b st,rA bs b=some st∧st.state=2∧st.site=site
theorem ze1 {β:Type}{l:List (Nm × β)}{k:Nm}{v:β}(h:rA l k=some v):(k,v)∈l:=by
 unfold rA at h;obtain⟨e,h1,h2⟩:=Option.map_eq_some_iff.1 h;have hm:=List.mem_of_find?_eq_some h1
 have hk:e.1=k:=by simpa using List.find?_some h1
 subst hk h2;exact hm
theorem z8d (bs:List (Nm × Sta))(site:Nm):(bs.any fun e=>decide (rA bs e.1=some e.2)&&(decide (e.2.state=2)&&decide (e.2.site=site)))=true↔z1g bs site:=by
 rw[List.any_eq_true];constructor
 ·rintro⟨e,_,h⟩
  simp only[Bool.and_eq_true,decide_eq_true_eq]at h;exact⟨e.1,e.2,h.1,h.2.1,h.2.2⟩
 ·rintro⟨b,st,h1,h2,h3⟩
  exact⟨(b,st),ze1 h1,by simp [h1,h2,h3]⟩
instance (bs:List (Nm × Sta)) (site:Nm):Decidable (z1g bs site):=decidable_of_iff _ (z8d bs site)
def isRun (bs:List (Nm × Sta))(b s:Nm):Prop:=∃st,rA bs b=some st∧st.state=2∧st.site=s
structure Inv (p:FlP) (q:FlQ):Prop where
 bs:p.bs=q.bs
 sts:∀s b,rA p.sites s=some b↔isRun p.bs b s
 idle:∀b st,rA p.bs b=some st→st.state≠2→st.site=[]
 name:∀st,rA p.bs []≠some st
 runs:p.runs=q.runs.map RanQ.run
 gone:∀r∈q.runs,r.board=[]→0≤r.til
 brd:∀b,b≠[]→∃C:List RanQ,(∀r∈C,0≤r.til)∧p.ends.filter (fun e=>decide (e.board=b))=C.map RanQ.fin ∧
  (((∀st,rA p.bs b=some st→st.state≠2)∧q.runs.filter (fun r=>decide (r.board=b))=C) ∨
   (∃st,rA p.bs b=some st∧st.state=2∧q.runs.filter (fun r=>decide (r.board=b))=C++[⟨b,st.site,st.step,st.since,-1,false⟩]))
end Go.Am
end
section
/- First passes of steps,plainly: counted by ends,counted by boards. -/
set_option linter.all false
namespace Go.Am
def LB (step:Nm):List Nm→List EndP→Nat×Nat
 | _,[]=>(0,0)
 | seen,e::r=>if e.step≠step∨e.board∈seen then LB step seen r else
  ((LB step (e.board::seen) r).1+(if e.pass then 1 else 0),(LB step (e.board::seen) r).2+1)
def isE (step k:Nm)(e:EndP):Bool:=decide (e.board=k)&&decide (e.step=step)
def NC (step k:Nm)(l:List EndP):Bool:=match l.find? (isE step k) with
 | some e=>e.pass
 | none=>false
theorem z5D {α:Type}[DecidableEq α]{N:List α}(hN:N.Nodup){a:α}(ha:a∈N)(p q:α→Bool)(hq:q a=false)(hpq:∀ x,x≠a→p x=q x):(N.filter p).length=(N.filter q).length+(if p a then 1 else 0):=by
 induction N with
 | nil=>cases ha
 | cons x N ih=>
  rw[List.nodup_cons]at hN;rw[List.filter_cons,List.filter_cons];by_cases e:x=a
  ·subst e
   have same:N.filter p=N.filter q:=List.filter_congr fun y hy=>hpq y (fun e=>hN.1 (e ▸ hy))
   rw[same,hq];cases p x <;> simp
  ·have ha':a∈N:=by
    rcases List.mem_cons.1 ha with h|h
    ·exact absurd h.symm e
    ·exact h
   have:=ih hN.2 ha';rw[hpq x e];cases q x
   ·simpa using this
   ·simp only[if_true,List.length_cons];omega
theorem nZ (step:Nm){N:List Nm}(hN:N.Nodup):∀(l:List EndP) (seen:List Nm),(∀e∈l,e.board∈N) →
 (LB step seen l).2=(N.filter fun k=>!decide (k∈seen)&&l.any (isE step k)).length ∧
 (LB step seen l).1=(N.filter fun k=>!decide (k∈seen)&&NC step k l).length
 | [],seen,_=>by
  have e1:N.filter (fun k=>!decide (k∈seen)&&([]:List EndP).any (isE step k))=[]:=by
   rw[List.filter_eq_nil_iff];intro x _;simp
  have e2:N.filter (fun k=>!decide (k∈seen)&&NC step k [])=[]:=by
   rw[List.filter_eq_nil_iff];intro x _;simp [NC]
  rw[e1,e2];exact⟨rfl,rfl⟩
 | e::r,seen,h=>by
  have hr:=fun x hx=>h x (List.mem_cons_of_mem e hx)
  unfold LB;by_cases hs:e.step≠step∨e.board∈seen
  ·rw[if_pos hs]
   obtain⟨i1,i2⟩:=nZ step hN r seen hr;have g:∀k,k∉seen→isE step k e=false:=fun k hk=>by
    unfold isE;rcases hs with hs|hs
    ·simp [hs]
    ·have:¬e.board=k:=fun q=>hk (q ▸ hs)
     simp [this]
   constructor
   ·rw[i1]
    congr 1
    apply List.filter_congr
    intro k _;by_cases hk:k∈seen
    ·simp [hk]
    ·simp [hk,g k hk]
   ·rw[i2]
    congr 1
    apply List.filter_congr
    intro k _;by_cases hk:k∈seen
    ·simp [hk]
    ·have e2:NC step k (e::r)=NC step k r:=by unfold NC;rw[List.find?_cons,g k hk]
     simp [hk,e2]
  ·rw[if_neg hs]
   rw[not_or]at hs;have hst:e.step=step:=by simpa using hs.1
   have hb:=h e (List.mem_cons_self ..)
   obtain⟨i1,i2⟩:=nZ step hN r (e.board::seen) hr;have own:isE step e.board e=true:=by simp [isE,hst]
   have other:∀k,k≠e.board→isE step k e=false:=fun k hk=>by
    have:¬e.board=k:=fun q=>hk q.symm
    simp [isE,this]
   constructor
   ·rw[i1,z5D hN hb (fun k=>!decide (k∈seen)&&(e::r).any (isE step k)) (fun k=>!decide (k∈e.board::seen)&&r.any (isE step k)) (by simp) (fun k hk=>by simp [hk,other k hk])]
    have:(!decide (e.board∈seen)&&(e::r).any (isE step e.board))=true:=by simp [hs.2,own]
    rw[this];rfl
   ·have fo:∀k,k≠e.board→NC step k (e::r)=NC step k r:=fun k hk=>by unfold NC;rw[List.find?_cons,other k hk]
    have fe:NC step e.board (e::r)=e.pass:=by unfold NC;rw[List.find?_cons,own]
    rw[i2,z5D hN hb (fun k=>!decide (k∈seen)&&NC step k (e::r)) (fun k=>!decide (k∈e.board::seen)&&NC step k r) (by simp) (fun k hk=>by simp [hk,fo k hk])]
    rw[fe];cases e.pass <;> simp [hs.2]
end Go.Am
end
section
/- A lot whose records are runs,followed through its one step: plainly. -/
set_option linter.all false
namespace Go.Am
def tsN:Nm:=[116,101,115,116]
def saN:Nm:=[115,97]
def iC (n:Nat)(i:Int)(u:Nm)(new good:Bool):List Ent:=
 [⟨saN,n+1,10*i,if new then 1 else 5,u,[],[],0⟩,⟨saN,n+2,10*i+1,2,u,tsN,[],0⟩,⟨saN,n+3,10*i+2,if good then 3 else 4,u,[],[],0⟩]
def rC (w:FlP)(x:Ent):FlP×Int:=WC [tsN] 10 w x
def goS:FlP→List Ent→FlP × Nat
 | w,[]=>(w,0)
 | w,x::r=>((goS (rC w x).1 r).1,(goS (rC w x).1 r).2+if(rC w x).2≠0 then 1 else 0)
theorem ZW:∀ (a b:List Ent) (w:FlP),goS w (a++b)=((goS (goS w a).1 b).1,(goS w a).2+(goS (goS w a).1 b).2)
 | [],b,w=>by simp [goS]
 | x::a,b,w=>by
  have ih:=ZW a b (rC w x).1
  rw[List.cons_append];simp only[goS,ih];refine Prod.ext rfl ?_;show _+_+_=_+_+_
  omega
theorem ze2 {β:Type}(k:Nm):rA ([]:List (Nm×β)) k=none:=rfl
theorem z4S (W:FlP)(hs:W.sites=[])(u:Nm)(n:Nat)(i:Int)(good:Bool){b:Sta}(h:rA W.bs u=some b)(h1:b.state=1)(h2:b.step=tsN) :
 ∃W',goS W [⟨saN,n+2,10*i+1,2,u,tsN,[],0⟩,⟨saN,n+3,10*i+2,if good then 3 else 4,u,[],[],0⟩]=(W',0)∧W'.sites=[]∧W'.ends=W.ends++[⟨u,tsN,10*i+1,10*i+2,good⟩] ∧
  (∀k,rA W'.bs k=if k=u then some (lE [tsN] 10 { b with state:=2,since:=10*i+1,site:=saN } (10*i+2) good) else rA W.bs k):=by
 have a1:rC W ⟨saN,n+2,10*i+1,2,u,tsN,[],0⟩=({ W with bs:=zB W.bs u { b with state:=2,since:=10*i+1,site:=saN },sites:=zB W.sites saN u,runs:=W.runs++[⟨saN,10*i+1,-1⟩] },0):=by
  unfold rC WC;simp [h,h1,h2,hs,ze2]
 generalize hb2:({ b with state:=2,since:=10*i+1,site:=saN }:Sta)=b2 at *
 have c1:b2.state=2:=by rw[←hb2]
 have c2:b2.site=saN:=by rw[←hb2]
 have c3:b2.step=tsN:=by rw[←hb2];exact h2
 have c4:b2.since=10*i+1:=by rw[←hb2]
 generalize hW1:({ W with bs:=zB W.bs u b2,sites:=zB W.sites saN u,runs:=W.runs++[⟨saN,10*i+1,-1⟩] }:FlP)=W1 at *
 have g1:∀k,rA W1.bs k=if k=u then some b2 else rA W.bs k:=fun k=>by rw[←hW1];exact TP W.bs u b2 k
 have g2:W1.sites=[(saN,u)]:=by rw[←hW1,hs];rfl
 have g3:W1.ends=W.ends:=by rw[←hW1]
 have gu:rA W1.bs u=some b2:=by rw[g1,if_pos rfl]
 obtain⟨r,a2⟩:∃r,rC W1 ⟨saN,n+3,10*i+2,if good then 3 else 4,u,[],[],0⟩=({ bs:=zB W1.bs u (lE [tsN] 10 b2 (10*i+2) good),sites:=HH W1.sites b2.site,ends:=W1.ends++[⟨u,b2.step,b2.since,10*i+2,good⟩],runs:=r },0):=by
  cases good <;> exact⟨_,by unfold rC WC;simp [gu,c1,c2];rfl⟩
 refine⟨{ bs:=zB W1.bs u (lE [tsN] 10 b2 (10*i+2) good),sites:=HH W1.sites b2.site,ends:=W1.ends++[⟨u,b2.step,b2.since,10*i+2,good⟩],runs:=r },?_,?_,?_,?_⟩
 ·simp only[goS,a1,a2]
  simp
 ·show HH W1.sites b2.site=[]
  rw[g2,c2];rfl
 ·show W1.ends++[⟨u,b2.step,b2.since,10*i+2,good⟩]=_
  rw[g3,c3,c4]
 ·intro k
  show rA (zB W1.bs u (lE [tsN] 10 b2 (10*i+2) good)) k=_
  rw[TP,g1];by_cases hk:k=u
  ·rw[if_pos hk,if_pos hk]
  ·rw[if_neg hk,if_neg hk,if_neg hk]
theorem z0G (b:Sta)(t:Int):lE [tsN] 10 b t false=⟨if b.failed+1=10 then 5 else 3,t,b.step,[],b.failed+1⟩:=by
 unfold lE;rw[if_neg (by simp)]
theorem new_S (W:FlP)(hs:W.sites=[])(u:Nm)(n:Nat)(i:Int)(good:Bool)(h:rA W.bs u=none) :
 ∃W',goS W (iC n i u true good)=(W',0)∧W'.sites=[]∧W'.ends=W.ends++[⟨u,tsN,10*i+1,10*i+2,good⟩] ∧
  (∀k,k≠u→rA W'.bs k=rA W.bs k)∧∃s,rA W'.bs u=some s∧(good=false→s.state=3∧s.failed=1∧s.step=tsN):=by
 have a1:rC W ⟨saN,n+1,10*i,1,u,[],[],0⟩=({ W with bs:=zB W.bs u ⟨1,10*i,tsN,[],0⟩ },0):=by
  unfold rC WC;simp [h]
 generalize hW1:({ W with bs:=zB W.bs u ⟨1,10*i,tsN,[],0⟩ }:FlP)=W1 at *
 have g1:∀k,rA W1.bs k=if k=u then some ⟨1,10*i,tsN,[],0⟩ else rA W.bs k:=fun k=>by rw[←hW1];exact TP W.bs u _ k
 have g2:W1.sites=[]:=by rw[←hW1];exact hs
 have g3:W1.ends=W.ends:=by rw[←hW1]
 obtain⟨W',b1,b2,b3,b4⟩:=z4S W1 g2 u n i good (by rw[g1,if_pos rfl]) rfl rfl
 refine⟨W',?_,b2,by rw[b3,g3],fun k hk=>by rw[b4,if_neg hk,g1,if_neg hk],?_⟩
 ·unfold iC
  rw[if_pos rfl];unfold goS;rw[a1];dsimp only;rw[b1];simp
 ·refine⟨_,by rw[b4,if_pos rfl],fun hg=>?_⟩
  subst hg;rw[z0G];exact⟨rfl,rfl,rfl⟩
theorem old_S (W:FlP)(hs:W.sites=[])(u:Nm)(n:Nat)(i:Int)(good:Bool){b:Sta}(h:rA W.bs u=some b)(h1:b.state=3)(h2:b.step=tsN) :
 ∃W',goS W (iC n i u false good)=(W',0)∧W'.sites=[]∧W'.ends=W.ends++[⟨u,tsN,10*i+1,10*i+2,good⟩] ∧
  (∀k,k≠u→rA W'.bs k=rA W.bs k)∧∃s,rA W'.bs u=some s∧(good=false→s.state=(if b.failed+1=10 then 5 else 3)∧s.failed=b.failed+1∧s.step=tsN):=by
 have a1:rC W ⟨saN,n+1,10*i,5,u,[],[],0⟩=({ W with bs:=zB W.bs u { b with state:=1,since:=10*i } },0):=by
  unfold rC WC;simp [h,h1]
 generalize hb1:({ b with state:=1,since:=10*i }:Sta)=b1 at *
 have c1:b1.state=1:=by rw[←hb1]
 have c2:b1.step=tsN:=by rw[←hb1];exact h2
 have c3:b1.failed=b.failed:=by rw[←hb1]
 generalize hW1:({ W with bs:=zB W.bs u b1 }:FlP)=W1 at *
 have g1:∀k,rA W1.bs k=if k=u then some b1 else rA W.bs k:=fun k=>by rw[←hW1];exact TP W.bs u _ k
 have g2:W1.sites=[]:=by rw[←hW1];exact hs
 have g3:W1.ends=W.ends:=by rw[←hW1]
 obtain⟨W',b1',b2,b3,b4⟩:=z4S W1 g2 u n i good (by rw[g1,if_pos rfl]) c1 c2
 refine⟨W',?_,b2,by rw[b3,g3],fun k hk=>by rw[b4,if_neg hk,g1,if_neg hk],?_⟩
 ·unfold iC
  rw[if_neg (by simp)]
  unfold goS;rw[a1];dsimp only;rw[b1'];simp
 ·refine⟨_,by rw[b4,if_pos rfl],fun hg=>?_⟩
  subst hg;rw[z0G];dsimp only;rw[c3];exact⟨rfl,rfl,c2⟩
theorem scr_S (W:FlP)(u:Nm)(n:Nat)(i:Int)(good:Bool){b:Sta}(h:rA W.bs u=some b)(h1:b.state=5):∃m,goS W (iC n i u false good)=(W,m):=by
 have a1:rC W ⟨saN,n+1,10*i,5,u,[],[],0⟩=(W,11):=by unfold rC WC;simp [h,h1]
 have a2:rC W ⟨saN,n+2,10*i+1,2,u,tsN,[],0⟩=(W,11):=by unfold rC WC;simp [h,h1]
 have a3:rC W ⟨saN,n+3,10*i+2,if good then 3 else 4,u,[],[],0⟩=(W,11):=by
  cases good <;> (unfold rC WC;simp [h,h1])
 unfold iC;rw[if_neg (by simp)]
 simp only[goS,a1,a2,a3];exact⟨_,rfl⟩
end Go.Am
end
section
/- A lot whose records are runs: what is true after each record. -/
set_option linter.all false
namespace Go.Am
def W0:FlP:=⟨[],[],[],[]⟩
structure TlS where
 E:List Ent
 en:List Nm
 dn:List Nm
def EB (s:TlS)(i:Nat)(p:Nm × Bool):TlS:=
 if p.1∈s.dn then s else⟨s.E++iC s.E.length i p.1 (!decide (p.1∈s.en)) p.2,if p.1∈s.en then s.en else s.en++[p.1],if p.2 then s.dn++[p.1] else s.dn⟩
def zC:TlS→Nat→List (Nm × Bool)→TlS
 | s,_,[]=>s
 | s,i,p::r=>zC (EB s i p) (i+1) r
theorem z5J:∀ (r:List (Nm × Bool)) (s:TlS) (i:Nat) (p:Nm × Bool),zC s i (r++[p])=EB (zC s i r) (i+r.length) p
 | [],s,i,p=>rfl
 | q::r,s,i,p=>by
  rw[List.cons_append];show zC (EB s i q) (i+1) (r++[p])=_
  rw[z5J r];show EB (zC (EB s i q) (i+1) r) (i+1+r.length) p=EB (zC (EB s i q) (i+1) r) (i+(r.length+1)) p
  congr 1
  omega
def ND (R:List (Nm × Bool))(u:Nm):Nat:=R.countP fun p=>decide (p.1=u)
def pG (R:List (Nm × Bool))(u:Nm):Bool:=match R.find? (fun p=>decide (p.1=u)) with
 | some p=>p.2
 | none=>false
structure InvT (R:List (Nm × Bool)) (s:TlS):Prop where
 sites:(goS W0 s.E).1.sites=[]
 en:∀u,u∈s.en↔u∈R.map (·.1)
 nd:s.en.Nodup
 dn:∀u,u∈s.dn↔(u,true)∈R
 no:∀u,u∉s.en→rA (goS W0 s.E).1.bs u=none
 lo:∀u,u∈s.en→u∉s.dn→ND R u<10→∃b,rA (goS W0 s.E).1.bs u=some b∧b.state=3∧b.failed=ND R u∧b.step=tsN
 hi:∀u,u∈s.en→u∉s.dn→10≤ND R u→∃b,rA (goS W0 s.E).1.bs u=some b∧b.state=5
 any:∀u,(goS W0 s.E).1.ends.any (isE tsN u)=decide (u∈s.en)
 fp:∀u,NC tsN u (goS W0 s.E).1.ends=pG R u
 eb:∀e∈(goS W0 s.E).1.ends,e.board∈s.en
 m0:R.length≤10→(goS W0 s.E).2=0
theorem z3O (u v:Nm)(a b:Int)(g:Bool):isE tsN u ⟨v,tsN,a,b,g⟩=decide (v=u):=by simp [isE]
theorem MI (R:List (Nm × Bool))(p:Nm × Bool)(u:Nm):ND (R++[p]) u=ND R u+if p.1=u then 1 else 0:=by
 unfold ND;rw[List.countP_append,List.countP_cons,List.countP_nil];by_cases h:p.1=u <;> simp [h]
theorem VW (R:List (Nm × Bool))(p:Nm × Bool)(u:Nm):pG (R++[p]) u=if u∈R.map (·.1) then pG R u else(decide (p.1=u)&&p.2):=by
 unfold pG;rw[List.find?_append];by_cases h:u∈R.map (·.1)
 ·rw[if_pos h]
  obtain⟨q,hq,e⟩:=List.mem_map.1 h;cases hf:R.find? (fun p=>decide (p.1=u)) with
  | none=>rw[List.find?_eq_none]at hf;exact absurd (by simp [e]) (hf q hq)
  | some z=>rfl
 ·rw[if_neg h]
  have hf:R.find? (fun p=>decide (p.1=u))=none:=by
   rw[List.find?_eq_none];intro q hq e;exact h (List.mem_map.2 ⟨q,hq,by simpa using e⟩)
  rw[hf,Option.none_or,List.find?_cons,List.find?_nil];cases hd:decide (p.1=u) <;> rfl
theorem zei (l:List EndP)(u v:Nm)(a b:Int)(g:Bool):NC tsN u (l++[⟨v,tsN,a,b,g⟩])=if l.any (isE tsN u) then NC tsN u l else(decide (v=u)&&g):=by
 unfold NC;rw[List.find?_append];cases hf:l.find? (isE tsN u) with
 | none=>
  have hn:l.any (isE tsN u)=false:=by
   rw[List.any_eq_false];rw[List.find?_eq_none]at hf;exact hf
  rw[hn,if_neg (by simp),Option.none_or,List.find?_cons,List.find?_nil,z3O]
  cases hd:decide (v=u) <;> rfl
 | some z=>
  have hn:l.any (isE tsN u)=true:=List.any_eq_true.2 ⟨z,List.mem_of_find?_eq_some hf,List.find?_some hf⟩
  rw[hn,if_pos rfl];rfl
theorem zeO:InvT [] ⟨[],[],[]⟩:=
 ⟨rfl,fun u=>by simp,List.nodup_nil,fun u=>by simp,fun u _=>rfl,fun u h=>by(cases h),fun u h=>by(cases h),fun u=>rfl,fun u=>rfl,fun e h=>by(cases h),fun _=>rfl⟩
theorem cnt_0 {R:List (Nm × Bool)}{u:Nm}(h:u∉R.map (·.1)):ND R u=0:=by
 unfold ND;rw[List.countP_eq_zero];intro q hq e;exact h (List.mem_map.2 ⟨q,hq,by simpa using e⟩)
theorem z9Q (R:List (Nm × Bool))(u:Nm):ND R u≤R.length:=List.countP_le_length
theorem z3N {R:List (Nm × Bool)}{s:TlS}(I:InvT R s)(p:Nm × Bool)(hd:p.1∉s.dn){new:Bool}{W':FlP}{a b:Int}
 (g:goS (goS W0 s.E).1 (iC s.E.length R.length p.1 new p.2)=(W',0)) (hs:W'.sites=[]) (he:W'.ends=(goS W0 s.E).1.ends++[⟨p.1,tsN,a,b,p.2⟩]) (ho:∀k,k≠p.1→rA W'.bs k=rA (goS W0 s.E).1.bs k)
 (hb:p.2=false→(ND R p.1+1<10→∃b,rA W'.bs p.1=some b∧b.state=3∧b.failed=ND R p.1+1∧b.step=tsN)∧(10≤ND R p.1+1→∃b,rA W'.bs p.1=some b∧b.state=5)) :
 InvT (R++[p]) ⟨s.E++iC s.E.length R.length p.1 new p.2,if p.1∈s.en then s.en else s.en++[p.1],if p.2 then s.dn++[p.1] else s.dn⟩:=by
 have ge:goS W0 (s.E++iC s.E.length R.length p.1 new p.2)=(W',(goS W0 s.E).2):=by rw[ZW,g];simp
 have men:∀u,u∈(if p.1∈s.en then s.en else s.en++[p.1])↔u∈s.en∨u=p.1:=fun u=>by
  split
  ·rename_i h
   exact⟨fun x=>.inl x,fun x=>by rcases x with x|rfl;exact x;exact h⟩
  ·simp
 have mdn:∀u,u∈(if p.2 then s.dn++[p.1] else s.dn)↔u∈s.dn∨(u=p.1∧p.2=true):=fun u=>by
  cases p.2 <;> simp
 refine⟨by rw[ge];exact hs,fun u=>?_,?_,fun u=>?_,fun u hu=>?_,fun u h1 h2 h3=>?_,fun u h1 h2 h3=>?_,fun u=>?_,fun u=>?_,fun e h=>?_,fun h=>?_⟩
 ·dsimp only
  rw[men,I.en,List.map_append,List.mem_append];simp
 ·dsimp only
  split
  ·exact I.nd
  ·rename_i h
   rw[List.nodup_append];exact⟨I.nd,by simp,fun x hx y hy=>by rw[List.mem_singleton]at hy;subst hy;intro e;subst e;exact h hx⟩
 ·dsimp only
  rw[mdn,I.dn,List.mem_append,List.mem_singleton];constructor
  ·rintro (h|⟨rfl,h⟩)
   ·exact .inl h
   ·exact .inr (by rw[←h])
  ·rintro (h|h)
   ·exact .inl h
   ·exact .inr ⟨by rw[←h],by rw[←h]⟩
 ·dsimp only at hu ⊢
  rw[men]at hu;rw[ge];dsimp only;rw[ho u (fun e=>hu (.inr e))]
  exact I.no u fun h=>hu (.inl h)
 ·dsimp only at h1 h2 ⊢
  rw[men]at h1;rw[mdn]at h2;rw[MI]at h3 ⊢;rw[ge];dsimp only;by_cases hu:u=p.1
  ·subst hu
   rw[if_pos rfl]at h3 ⊢;exact(hb (by simpa using fun e=>h2 (.inr ⟨rfl,e⟩))).1 h3
  ·rw[if_neg (fun e=>hu e.symm)]at h3 ⊢
   rw[ho u hu];exact I.lo u (h1.resolve_right hu) (fun e=>h2 (.inl e)) h3
 ·dsimp only at h1 h2 ⊢
  rw[men]at h1;rw[mdn]at h2;rw[MI]at h3;rw[ge];dsimp only;by_cases hu:u=p.1
  ·subst hu
   rw[if_pos rfl]at h3;exact(hb (by simpa using fun e=>h2 (.inr ⟨rfl,e⟩))).2 h3
  ·rw[if_neg (fun e=>hu e.symm)]at h3
   rw[ho u hu];exact I.hi u (h1.resolve_right hu) (fun e=>h2 (.inl e)) h3
 ·dsimp only
  rw[ge];dsimp only;rw[he,List.any_append,I.any,List.any_cons,List.any_nil,z3O,Bool.or_false];have:=men u;by_cases h1:u∈s.en
  ·simp [h1,this]
  ·by_cases h2:u=p.1
   ·subst h2;simp [h1]
   ·have h3:¬p.1=u:=fun e=>h2 e.symm
    simp [h1,h2,h3,this]
 ·dsimp only
  rw[ge];dsimp only;rw[he,zei,I.any,I.fp,VW];by_cases h1:u∈s.en
  ·rw[if_pos (by simpa using h1),if_pos ((I.en u).1 h1)]
  ·rw[if_neg (by simpa using h1),if_neg (fun e=>h1 ((I.en u).2 e))]
 ·dsimp only at h ⊢
  rw[ge]at h;dsimp only at h;rw[he]at h;rw[men];rcases List.mem_append.1 h with h|h
  ·exact .inl (I.eb e h)
  ·rw[List.mem_singleton]at h;subst h;exact .inr rfl
 ·dsimp only
  rw[ge];rw[List.length_append]at h;exact I.m0 (by simp at h;omega)
theorem zeP {R:List (Nm × Bool)}{s:TlS}(I:InvT R s)(p:Nm × Bool):InvT (R++[p]) (EB s R.length p):=by
 unfold EB;by_cases hd:p.1∈s.dn
 ·rw[if_pos hd]
  have hR:=(I.dn p.1).1 hd
  have hm:p.1∈R.map (·.1):=List.mem_map.2 ⟨_,hR,rfl⟩
  have ne:∀u,u∉s.dn→p.1≠u:=fun u h e=>h (e ▸ hd)
  refine⟨I.sites,fun u=>?_,I.nd,fun u=>?_,I.no,fun u h1 h2 h3=>?_,fun u h1 h2 h3=>?_,I.any,fun u=>?_,I.eb,fun h=>I.m0 (by simp at h;omega)⟩
  ·rw[I.en,List.map_append,List.mem_append]
   exact⟨fun h=>.inl h,fun h=>by
    rcases h with h|h
    ·exact h
    ·simp at h;rw[h];exact hm⟩
  ·rw[I.dn,List.mem_append,List.mem_singleton]
   exact⟨fun h=>.inl h,fun h=>by
    rcases h with h|h
    ·exact h
    ·rw[←h]at hR;exact hR⟩
  ·rw[MI,if_neg (ne u h2)]at h3 ⊢
   exact I.lo u h1 h2 h3
  ·rw[MI,if_neg (ne u h2)]at h3
   exact I.hi u h1 h2 h3
  ·rw[I.fp,VW]
   by_cases h:u∈R.map (·.1)
   ·rw[if_pos h]
   ·rw[if_neg h]
    have:p.1≠u:=fun e=>h (e ▸ hm)
    have e0:=I.fp u
    have a0:=I.any u
    have n0:u∉s.en:=fun e=>h ((I.en u).1 e)
    rw[←e0];unfold NC;have hf:(goS W0 s.E).1.ends.find? (isE tsN u)=none:=by
     rw[List.find?_eq_none];rw[decide_eq_false n0,List.any_eq_false]at a0;exact a0
    rw[hf];simp [this]
 rw[if_neg hd];by_cases hn:p.1∈s.en
 ·have hnew:(!decide (p.1∈s.en))=false:=by simp [hn]
  by_cases hc:ND R p.1<10
  ·obtain⟨b,g1,g2,g3,g4⟩:=I.lo p.1 hn hd hc
   obtain⟨W',a1,a2,a3,a4,b',a5,a6⟩:=old_S (goS W0 s.E).1 I.sites p.1 s.E.length R.length p.2 g1 g2 g4;rw[hnew];refine z3N I p hd a1 a2 a3 a4 fun hg=>⟨fun h=>⟨b',a5,?_⟩,fun h=>⟨b',a5,?_⟩⟩
   ·obtain⟨c1,c2,c3⟩:=a6 hg
    rw[g3,if_neg (by omega)]at c1
    exact⟨c1,by rw[c2,g3],c3⟩
   ·obtain⟨c1,c2,c3⟩:=a6 hg
    rw[g3,if_pos (by omega)]at c1
    exact c1
  ·obtain⟨b,g1,g2⟩:=I.hi p.1 hn hd (by omega)
   obtain⟨m,a1⟩:=scr_S (goS W0 s.E).1 p.1 s.E.length R.length p.2 g1 g2;rw[hnew];have ge:goS W0 (s.E++iC s.E.length R.length p.1 false p.2)=((goS W0 s.E).1,(goS W0 s.E).2+m):=by rw[ZW,a1]
   have hm:p.1∈R.map (·.1):=(I.en p.1).1 hn
   have mdn:∀u,u∈(if p.2 then s.dn++[p.1] else s.dn)↔u∈s.dn∨(u=p.1∧p.2=true):=fun u=>by
    cases p.2 <;> simp
   rw[if_pos hn];refine⟨by rw[ge];exact I.sites,fun u=>?_,I.nd,fun u=>?_,fun u hu=>by rw[ge];exact I.no u hu,fun u h1 h2 h3=>?_,fun u h1 h2 h3=>?_,fun u=>by rw[ge];exact I.any u,fun u=>?_,fun e h=>?_,fun h=>?_⟩
   ·dsimp only
    rw[I.en,List.map_append,List.mem_append];exact⟨fun h=>.inl h,fun h=>by
     rcases h with h|h
     ·exact h
     ·simp at h;rw[h];exact hm⟩
   ·dsimp only
    rw[mdn,I.dn,List.mem_append,List.mem_singleton];constructor
    ·rintro (h|⟨rfl,h⟩)
     ·exact .inl h
     ·exact .inr (by rw[←h])
    ·rintro (h|h)
     ·exact .inl h
     ·exact .inr ⟨by rw[←h],by rw[←h]⟩
   ·dsimp only at h1 h2 ⊢
    rw[mdn]at h2;rw[ge];dsimp only;rw[MI]at h3 ⊢;by_cases hu:p.1=u
    ·rw[if_pos hu]at h3
     rw[hu]at hc;omega
    ·rw[if_neg hu]at h3 ⊢
     exact I.lo u h1 (fun e=>h2 (.inl e)) h3
   ·dsimp only at h1 h2 ⊢
    rw[mdn]at h2;rw[ge];dsimp only;rw[MI]at h3;by_cases hu:p.1=u
    ·rw[←hu];exact⟨b,g1,g2⟩
    ·rw[if_neg hu]at h3
     exact I.hi u h1 (fun e=>h2 (.inl e)) h3
   ·dsimp only
    rw[ge];dsimp only;rw[I.fp,VW];by_cases h:u∈R.map (·.1)
    ·rw[if_pos h]
    ·rw[if_neg h]
     have:p.1≠u:=fun e=>h (e ▸ hm)
     have hf:R.find? (fun p=>decide (p.1=u))=none:=by
      rw[List.find?_eq_none];intro q hq e;exact h (List.mem_map.2 ⟨q,hq,by simpa using e⟩)
     unfold pG;rw[hf];simp [this]
   ·dsimp only at h
    rw[ge]at h;exact I.eb e h
   ·have:=z9Q R p.1
    rw[List.length_append]at h;simp at h;omega
 ·have hnew:(!decide (p.1∈s.en))=true:=by simp [hn]
  obtain⟨W',a1,a2,a3,a4,b',a5,a6⟩:=new_S (goS W0 s.E).1 I.sites p.1 s.E.length R.length p.2 (I.no p.1 hn);have c0:ND R p.1=0:=cnt_0 fun e=>hn ((I.en p.1).2 e)
  rw[hnew];refine z3N I p hd a1 a2 a3 a4 fun hg=>⟨fun h=>⟨b',a5,?_⟩,fun h=>by omega⟩
  obtain⟨c1,c2,c3⟩:=a6 hg;exact⟨c1,by rw[c2,c0];rfl,c3⟩
theorem z3M:∀ (r:List (Nm × Bool)) (R:List (Nm × Bool)) (s:TlS),InvT R s→InvT (R++r) (zC s R.length r)
 | [],R,s,I=>by rw[List.append_nil];exact I
 | p::r,R,s,I=>by
  have h:=z3M r (R++[p]) (EB s R.length p) (zeP I p)
  rw[List.append_assoc,List.length_append]at h;exact h
end Go.Am
end
section
/- Maps,asv lists of keys with values. -/
open Go
set_option linter.all false
namespace Go.Am
section
variable {α β:Type} [DecidableEq α]
def fE (key:α→PV)(val:β→AV):Nat→List (α×β)→List ME
 | _,[]=>[]
 | n,e::r=>⟨key e.1,val e.2,n⟩::fE key val (n+1) r
def FA (key:α→PV)(val:β→AV)(l:List (α × β)):Obj:=.amap (fE key val 0 l) l.length
def MB (k:α):List (α×β)→Option Nat
 | []=>none
 | e::r=>if k=e.1 then some 0 else(MB k r).map (· + 1)
def EA (k:α):List (α×β)→Option β
 | []=>none
 | e::r=>if k=e.1 then some e.2 else EA k r
def dC (k:α)(v:β):List (α×β)→List (α×β)
 | []=>[(k,v)]
 | e::r=>if k=e.1 then(k,v)::r else e::dC k v r
def zI (key:α→PV):Prop:=∀a b,PV.eqv (key a) (key b)=some (decide (a=b))
theorem WG:zI PV.str:=fun a b=>rfl
theorem jX:zI (fun n:Int=>PV.int .i64 n):=fun a b=>by simp [PV.eqv,PV.eq1]
theorem jF {s:List UInt8}:aC (none,[2]) (.p (.str s))=some (.str s):=by simp [aC,PV.key,PV.shp,PV.sc,PV.cells,PV.kind]
theorem lX {n:Int}{k:IntKind}:aC (none,[0]) (.p (.int k n))=some (.int k n):=by simp [aC,PV.key,PV.shp,PV.sc,PV.cells,PV.kind]
variable {key:α→PV} {val:β→AV}
theorem oX (hk:zI key)(k:α):∀(l:List (α×β)) (n:Nat),JB (key k) (fE key val n l)=some (MB k l)
 | [],n=>rfl
 | e::r,n=>by
  simp only[fE,JB,hk k e.1,MB];by_cases h:k=e.1
  ·simp [h]
  ·simp [h,oX hk k r (n+1)]
theorem eQ:∀ (l:List (α × β)) (n i:Nat),(fE key val n l)[i]?=(l[i]?).map fun e=>⟨key e.1,val e.2,n+i⟩
 | [],n,i=>rfl
 | e::r,n,0=>rfl
 | e::r,n,i+1=>by simp only[fE,List.getElem?_cons_succ,eQ r (n+1) i];rw[show n+1+i=n+(i+1) by omega]
theorem z6f {k:α}:∀{l:List (α×β)} {i:Nat},MB k l=some i→i<l.length
 | [],i,h=>by cases h
 | e::r,i,h=>by
  unfold MB at h;split at h
  ·cases h;simp
  ·obtain⟨j,hj,e2⟩:=Option.map_eq_some_iff.1 h
   have:=z6f hj;simp;omega
theorem z0d {k:α}:∀{l:List (α×β)} {i:Nat},MB k l=some i→l[i]?=(EA k l).map fun v=>(k,v)
 | [],i,h=>by cases h
 | e::r,i,h=>by
  unfold MB at h;unfold EA;split at h
  ·rename_i hk;cases h;simp [hk]
  ·rename_i hk
   obtain⟨j,hj,e2⟩:=Option.map_eq_some_iff.1 h;subst e2;rw[if_neg hk,List.getElem?_cons_succ];exact z0d hj
theorem z0e {k:α}:∀{l:List (α×β)},MB k l=none→EA k l=none
 | [],h=>rfl
 | e::r,h=>by
  unfold MB at h;unfold EA;split at h
  ·cases h
  ·rename_i hk
   rw[if_neg hk];exact z0e (by simpa using h)
theorem pS {k:α}:∀{l:List (α×β)} {i:Nat},MB k l=some i→(EA k l).isSome=true
 | [],i,h=>by cases h
 | e::r,i,h=>by
  unfold MB at h;unfold EA;split at h
  ·rename_i hk;simp [hk]
  ·rename_i hk
   obtain⟨j,hj,e2⟩:=Option.map_eq_some_iff.1 h;rw[if_neg hk];exact pS hj
theorem z6e {k:α}{l:List (α × β)}:(MB k l).isSome=(EA k l).isSome:=by
 generalize h:MB k l=o;cases o with
 | none=>rw[z0e h];rfl
 | some i=>rw[pS h];rfl
theorem zfT {k:α}{l:List (α × β)}{n:Nat}:((MB k l).bind fun i=>(fE key val n l)[i]?).map ME.val=(EA k l).map val:=by
 cases h:MB k l with
 | none=>rw[z0e h];rfl
 | some i=>
  simp only[Option.bind_some,eQ,z0d h];cases EA k l <;> rfl
theorem mN {k:α}{v:β}:∀{l:List (α×β)},MB k l=none→dC k v l=l++[(k,v)]
 | [],h=>rfl
 | e::r,h=>by
  unfold MB at h;unfold dC;split at h
  ·cases h
  ·rename_i hk
   rw[if_neg hk,mN (by simpa using h)];rfl
theorem z5X {k:α}{v:β}:∀{l:List (α×β)} {i:Nat},MB k l=some i→dC k v l=l.set i (k,v)
 | [],i,h=>by cases h
 | e::r,i,h=>by
  unfold MB at h;unfold dC;split at h
  ·rename_i hk;cases h;simp [hk]
  ·rename_i hk
   obtain⟨j,hj,e2⟩:=Option.map_eq_some_iff.1 h;subst e2;rw[if_neg hk,z5X hj];rfl
theorem z4k (k:α)(v:β):∀(l:List (α×β)) (n:Nat),fE key val n (l++[(k,v)])=fE key val n l++[⟨key k,val v,n+l.length⟩]
 | [],n=>rfl
 | e::r,n=>by simp only[List.cons_append,fE,z4k k v r (n+1),List.length_cons];rw[show n+1+r.length=n+(r.length+1) by omega]
theorem zgc {k:α}{v:β}{l:List (α × β)}{i n:Nat}(h:MB k l=some i):(fE key val n l).modify i (fun e=>{ e with val:=val v })=fE key val n (l.set i (k,v)):=by
 apply List.ext_getElem?
 intro j;rw[List.getElem?_modify,eQ,eQ,List.getElem?_set];have hi:=z6f h
 have hg:=z0d h
 by_cases hij:i=j
 ·subst hij
  rw[hg];simp only[if_true,hi];obtain⟨w,hw⟩:=Option.isSome_iff_exists.1 (pS h);rw[hw];rfl
 ·simp [hij]
variable {h:aA} {id:Nat} {l:List (α × β)} {kk:Sh × List Nat} {k:α}
theorem z4l (hh:h[id]?=some (FA key val l)):nB h (.mp id)=some (id,fE key val 0 l,l.length):=by
 simp only[nB,hh,FA]
theorem tG (hk:zI key)(hh:h[id]?=some (FA key val l))(hq:aC kk (.p (key k))=some (key k)){ok:Bool}{z:AV} :
 QA kk ok z (.mp id) (.p (key k)) h=some (bif ok then .tup [((EA k l).map val).getD z,AV.p (.bool (EA k l).isSome)] else((EA k l).map val).getD z):=by
 simp only[QA,hq,z4l hh,Option.map_some,oX hk,zfT,Option.isSome_map];rfl
theorem OJ (hk:zI key)(hh:h[id]?=some (FA key val l))(hq:aC kk (.p (key k))=some (key k)){v:β}(hv:uG (val v)=true) :
 UA kk (.mp id) (.p (key k)) (val v) h=some (.und,h.set id (FA key val (dC k v l)),mB id (val v)):=by
 simp only[UA,hq,z4l hh,hv,oX hk];cases hw:MB k l with
 | none=>
  simp only[FA,mN hw,z4k,List.length_append,List.length_cons,List.length_nil,Nat.zero_add]
 | some i=>
  simp only[FA,z5X hw,zgc hw,List.length_set]
theorem YW (k k':α)(v:β):∀(l:List (α×β)),EA k' (dC k v l)=if k'=k then some v else EA k' l
 | []=>by simp [dC,EA]
 | e::r=>by
  unfold dC;by_cases h1:k=e.1
  ·rw[if_pos h1];simp only[EA]
   by_cases h2:k'=k
   ·simp [h2]
   ·rw[if_neg h2,if_neg h2,if_neg (by rw[←h1];exact h2)]
  ·rw[if_neg h1];simp only[EA,YW k k' v r]
   by_cases h2:k'=e.1
   ·rw[if_pos h2,if_pos h2,if_neg (by rw[h2];exact fun h=>h1 h.symm)]
   ·rw[if_neg h2,if_neg h2]
end
end Go.Am
end
section
/- Entries that count,and what is followed of them,plainly. -/
set_option linter.all false
namespace Go.Am
def kN (y x:Ent):Bool:=decide (y.kind=7)&&decide (y.of=x.site)&&decide (y.other=x.no)
def bB:List Ent→List Bool
 | []=>[]
 | x::r=>(!((r.zip (bB r)).any fun y=>y.2&&kN y.1 x))::bB r
theorem BH:∀ l,(bB l).length=l.length
 | []=>rfl
 | x::r=>by simp [bB,BH r]
def jC:List Ent→List (Nm × Int)
 | []=>[]
 | x::r=>if decide ((x.site,x.no)∈jC r)=false∧x.kind=7 then(x.of,x.other)::jC r else jC r
theorem z5T:∀ (l:List Ent) (s:Nm) (n:Int),(s,n)∈jC l↔((l.zip (bB l)).any fun y=>y.2&&(decide (y.1.kind=7)&&decide (y.1.of=s)&&decide (y.1.other=n)))=true
 | [],s,n=>by simp [jC,bB]
 | x::r,s,n=>by
  have ih:=z5T r
  have hb:decide ((x.site,x.no)∈jC r)=((r.zip (bB r)).any fun y=>y.2&&kN y.1 x):=by
   rw[Bool.eq_iff_iff,decide_eq_true_eq,ih x.site x.no];rfl
  unfold jC;rw[bB,List.zip_cons_cons,List.any_cons,←hb];cases hd:decide ((x.site,x.no)∈jC r) with
  | true=>
   rw[if_neg (by simp),ih s n]
   simp
  | false=>
   by_cases h7:x.kind=7
   ·rw[if_pos ⟨rfl,h7⟩,List.mem_cons,ih s n,Bool.or_eq_true]
    have:((s,n)=(x.of,x.other))↔((!false&&(decide (x.kind=7)&&decide (x.of=s)&&decide (x.other=n)))=true):=by
     simp only[Prod.mk.injEq,Bool.not_false,Bool.true_and,h7,decide_true,Bool.and_eq_true,decide_eq_true_eq];exact⟨fun h=>⟨h.1.symm,h.2.symm⟩,fun h=>⟨h.1.symm,h.2.symm⟩⟩
    rw[this]
   ·rw[if_neg (fun z=>h7 z.2),ih s n]
    simp [h7]
theorem z9O (x:Ent)(r:List Ent):bB (x::r)=(!decide ((x.site,x.no)∈jC r))::bB r:=by
 have hb:decide ((x.site,x.no)∈jC r)=((r.zip (bB r)).any fun y=>y.2&&kN y.1 x):=by
  rw[Bool.eq_iff_iff,decide_eq_true_eq,z5T r x.site x.no];rfl
 rw[hb];rfl
end Go.Am
end
section
/- The floor's memory: what lies where. -/
open Go
set_option linter.all false
set_option maxRecDepth 100000
namespace Go.Am
variable {h:aA} {K:jA}
def FH (h:aA)(o0 o1 o2 o3 o4 o5 o6 o7:Obj)(B l:aA):aA:=h++o0::o1::o2::o3::o4::o5::o6::o7::(B++l)
section
variable {o0 o1 o2 o3 o4 o5 o6 o7 o o':Obj} {B l l2:aA} {n:Nat}
theorem rD:(FH h o0 o1 o2 o3 o4 o5 o6 o7 B l).length=h.length+(8+B.length+l.length):=by unfold FH;simp;omega
theorem nE:FH h o0 o1 o2 o3 o4 o5 o6 o7 B l++l2=FH h o0 o1 o2 o3 o4 o5 o6 o7 B (l++l2):=by unfold FH;simp
theorem UF (n:Nat):(FH h o0 o1 o2 o3 o4 o5 o6 o7 B l)[h.length+n]?=(o0::o1::o2::o3::o4::o5::o6::o7::(B++l))[n]?:=by unfold FH;rw[List.getElem?_append_right (by omega)];simp
theorem VF (n:Nat):(FH h o0 o1 o2 o3 o4 o5 o6 o7 B l).set (h.length+n) o=h++(o0::o1::o2::o3::o4::o5::o6::o7::(B++l)).set n o:=by unfold FH;rw[List.set_append_right _ _ (by omega)];simp
theorem JD:(FH h o0 o1 o2 o3 o4 o5 o6 o7 B l)[h.length+1]?=some o1:=UF 1
theorem KD:(FH h o0 o1 o2 o3 o4 o5 o6 o7 B l)[h.length+2]?=some o2:=UF 2
theorem oE:(FH h o0 o1 o2 o3 o4 o5 o6 o7 B l)[h.length+3]?=some o3:=UF 3
theorem NE:(FH h o0 o1 o2 o3 o4 o5 o6 o7 B l)[h.length+4]?=some o4:=UF 4
theorem pE:(FH h o0 o1 o2 o3 o4 o5 o6 o7 B l)[h.length+5]?=some o5:=UF 5
theorem qE:(FH h o0 o1 o2 o3 o4 o5 o6 o7 B l)[h.length+6]?=some o6:=UF 6
theorem rE:(FH h o0 o1 o2 o3 o4 o5 o6 o7 B l)[h.length+7]?=some o7:=UF 7
theorem OE:(FH h o0 o1 o2 o3 o4 o5 o6 o7 B l).set (h.length+1) o=FH h o0 o o2 o3 o4 o5 o6 o7 B l:=VF 1
theorem PE:(FH h o0 o1 o2 o3 o4 o5 o6 o7 B l).set (h.length+2) o=FH h o0 o1 o o3 o4 o5 o6 o7 B l:=VF 2
theorem QE:(FH h o0 o1 o2 o3 o4 o5 o6 o7 B l).set (h.length+3) o=FH h o0 o1 o2 o o4 o5 o6 o7 B l:=VF 3
theorem RE:(FH h o0 o1 o2 o3 o4 o5 o6 o7 B l).set (h.length+4) o=FH h o0 o1 o2 o3 o o5 o6 o7 B l:=VF 4
theorem SE:(FH h o0 o1 o2 o3 o4 o5 o6 o7 B l).set (h.length+5) o=FH h o0 o1 o2 o3 o4 o o6 o7 B l:=VF 5
theorem TE:(FH h o0 o1 o2 o3 o4 o5 o6 o7 B l).set (h.length+6) o=FH h o0 o1 o2 o3 o4 o5 o o7 B l:=VF 6
theorem UE:(FH h o0 o1 o2 o3 o4 o5 o6 o7 B l).set (h.length+7) o=FH h o0 o1 o2 o3 o4 o5 o6 o B l:=VF 7
theorem BS (n:Nat):(FH h o0 o1 o2 o3 o4 o5 o6 o7 B l)[h.length+(8+B.length+n)]?=l[n]?:=by
 rw[UF,show 8+B.length+n=(B.length+n)+8 by omega]
 show(B++l)[B.length+n]?=_
 rw[List.getElem?_append_right (by omega)]
 simp
theorem FH_st (n:Nat):(FH h o0 o1 o2 o3 o4 o5 o6 o7 B l).set (h.length+(8+B.length+n)) o=FH h o0 o1 o2 o3 o4 o5 o6 o7 B (l.set n o):=by
 rw[VF,show 8+B.length+n=(B.length+n)+8 by omega]
 unfold FH;congr 1
 simp only[List.set_cons_succ];rw[List.set_append_right _ _ (by omega)]
 simp
theorem qN (n:Nat):(FH h o0 o1 o2 o3 o4 o5 o6 o7 B l).take (h.length+(8+B.length+n))=FH h o0 o1 o2 o3 o4 o5 o6 o7 B (l.take n):=by
 unfold FH;rw[show h.length+(8+B.length+n)=h.length+((B.length+n)+8) by omega,List.take_append,List.take_of_length_le (by omega)]
 congr 1
 simp only[Nat.add_sub_cancel_left,List.take_succ_cons];rw[List.take_append,List.take_of_length_le (show B.length≤B.length+n by omega)]
 simp
end
def Ent.bx (x:Ent):Obj:=.box [AS x.site,AI x.no,AI x.time,AI x.kind,AS x.board,AS x.step,AS x.of,AI x.other]
def Sta.bx (s:Sta):Obj:=.box [AI s.state,AI s.since,AS s.step,AS s.site,AI s.failed]
def Sta.pv (s:Sta):PV:=.agg [eI s.state,eI s.since,.str s.step,.str s.site,eI s.failed]
abbrev oC:=List (Ent × Sta)
def TA:oC→aA
 | []=>[]
 | e::r=>e.1.bx::e.1.bx::e.2.bx::TA r
theorem XC:∀ bs:oC,(TA bs).length=3*bs.length
 | []=>rfl
 | e::r=>by simp [TA,XC r];omega
theorem z1c:∀ a b:oC,TA (a++b)=TA a++TA b
 | [],b=>rfl
 | e::r,b=>by simp [TA,z1c r b]
theorem z1d:∀ (bs:oC) (i:Nat) (e:Ent × Sta),bs[i]?=some e→(TA bs)[3*i+2]?=some e.2.bx
 | [],i,e,h=>by simp at h
 | y::r,0,e,h=>by simp at h;subst h;rfl
 | y::r,i+1,e,h=>by
  have:=z1d r i e (by simpa using h)
  rw[show 3*(i+1)+2=(3*i+2)+3 by omega]
  exact this
theorem z1e:∀ (bs:oC) (i:Nat) (e:Ent × Sta) (s:Sta),bs[i]?=some e→(TA bs).set (3*i+2) s.bx=TA (bs.set i (e.1,s))
 | [],i,e,s,h=>by simp at h
 | y::r,0,e,s,h=>by simp at h;subst h;rfl
 | y::r,i+1,e,s,h=>by
  have:=z1e r i e s (by simpa using h)
  rw[show 3*(i+1)+2=(3*i+2)+3 by omega]
  simp only[TA,List.set_cons_succ,this]
def qB (h:aA)(i:Nat):Nat:=h.length+(8+(3*i+2))
section
variable {o0 o1 o2 o3 o4 o5 o6 o7:Obj} {l:aA} {bs:oC} {i:Nat} {e:Ent × Sta}
theorem z0v (hi:bs[i]?=some e):(FH h o0 o1 o2 o3 o4 o5 o6 o7 (TA bs) l)[qB h i]?=some e.2.bx:=by
 unfold qB;rw[UF,show 8+(3*i+2)=(3*i+2)+8 by omega]
 show(TA bs++l)[3*i+2]?=_
 have hl:i<bs.length:=by
  rcases Nat.lt_or_ge i bs.length with h|h
  ·exact h
  ·rw[List.getElem?_eq_none h]at hi;cases hi
 rw[List.getElem?_append_left (by rw[XC];omega)]
 exact z1d bs i e hi
theorem z0w (hi:bs[i]?=some e)(s:Sta):(FH h o0 o1 o2 o3 o4 o5 o6 o7 (TA bs) l).set (qB h i) s.bx=FH h o0 o1 o2 o3 o4 o5 o6 o7 (TA (bs.set i (e.1,s))) l:=by
 unfold qB;rw[VF,show 8+(3*i+2)=(3*i+2)+8 by omega]
 unfold FH;congr 1
 simp only[List.set_cons_succ];have hl:i<bs.length:=by
  rcases Nat.lt_or_ge i bs.length with h|h
  ·exact h
  ·rw[List.getElem?_eq_none h]at hi;cases hi
 rw[List.set_append_left _ _ (by rw[XC];omega),z1e bs i e s hi]
end
def bD (q:Nat):AV:=.ref q 0
def bC:Nat→oC→List (Nm × Nat)
 | _,[]=>[]
 | q,e::r=>(e.1.board,q+2)::bC (q+3) r
theorem z4g:∀ (q:Nat) (bs:oC) (e:Ent × Sta),bC q (bs++[e])=bC q bs++[(e.1.board,q+3*bs.length+2)]
 | q,[],e=>by simp [bC]
 | q,y::r,e=>by
  have:=z4g (q+3) r e;simp only[List.cons_append,bC,this,List.length_cons];rw[show q+3+3*r.length+2=q+3*(r.length+1)+2 by omega]
theorem zM:∀ (q:Nat) (bs:oC) (i:Nat) (e:Ent × Sta) (s:Sta),bs[i]?=some e→bC q (bs.set i (e.1,s))=bC q bs
 | q,[],i,e,s,h=>by simp at h
 | q,y::r,0,e,s,h=>by simp at h;subst h;rfl
 | q,y::r,i+1,e,s,h=>by
  have:=zM (q+3) r i e s (by simpa using h)
  simp only[List.set_cons_succ,bC,this]
def asA (bs:oC):List (Nm×Sta):=bs.map fun e=>(e.1.board,e.2)
def ixB (k:Nm):oC→Option Nat
 | []=>none
 | e::r=>if k=e.1.board then some 0 else(ixB k r).map (· + 1)
theorem dQ (k:Nm):∀(q:Nat) (bs:oC),EA k (bC q bs)=(ixB k bs).map fun i=>q+(3*i+2)
 | q,[]=>rfl
 | q,e::r=>by
  unfold bC EA ixB;by_cases h:k=e.1.board
  ·simp [h]
  ·rw[if_neg h,if_neg h,dQ k (q+3) r]
   cases ixB k r with
   | none=>rfl
   | some i=>simp;omega
theorem iX (k:Nm):∀(bs:oC),(ixB k bs=none→rA (asA bs) k=none)∧∀i,ixB k bs=some i→∃e,bs[i]?=some e∧e.1.board=k∧rA (asA bs) k=some e.2
 | []=>⟨fun _=>rfl,fun i h=>by cases h⟩
 | e::r=>by
  obtain⟨i1,i2⟩:=iX k r;unfold ixB;by_cases h:k=e.1.board
  ·refine⟨fun z=>by simp [h]at z,fun i hi=>?_⟩
   rw[if_pos h]at hi;cases hi;exact⟨e,rfl,h.symm,by unfold asA;rw[List.map_cons,ZH,if_pos h.symm]⟩
  ·have hn:¬e.1.board=k:=fun z=>h z.symm
   rw[if_neg h];refine⟨fun z=>?_,fun i hi=>?_⟩
   ·unfold asA
    rw[List.map_cons,ZH,if_neg hn];exact i1 (by simpa using z)
   ·obtain⟨j,hj,e2⟩:=Option.map_eq_some_iff.1 hi
    obtain⟨y,y1,y2,y3⟩:=i2 j hj;subst e2;refine⟨y,by simpa using y1,y2,?_⟩
    unfold asA;rw[List.map_cons,ZH,if_neg hn];exact y3
theorem z78 {bs:oC}{k:Nm}{i:Nat}{e:Ent × Sta}(hi:ixB k bs=some i)(he:bs[i]?=some e)(hu:(bs.map fun e=>e.1.board).Nodup)(s:Sta):asA (bs.set i (e.1,s))=zB (asA bs) k s:=by
 induction bs generalizing i with
 | nil=>cases hi
 | cons y r ih=>
  unfold ixB at hi;rw[List.map_cons,List.nodup_cons]at hu;by_cases h:k=y.1.board
  ·rw[if_pos h]at hi
   cases hi;simp at he
   subst he;unfold zB asA;rw[if_pos (by simp [h])]
   simp only[List.set_cons_zero,List.map_cons,h,if_true];congr 1
   rw[List.map_map];apply List.map_congr_left
   intro z hz;have:¬z.1.board=y.1.board:=fun q=>hu.1 (q ▸ List.mem_map_of_mem hz)
   simp [this]
  ·rw[if_neg h]at hi
   obtain⟨j,hj,e2⟩:=Option.map_eq_some_iff.1 hi;subst e2;have hn:¬y.1.board=k:=fun z=>h z.symm
   have he':r[j]?=some e:=by simpa using he
   have q:=ih hj he' hu.2
   simp only[List.set_cons_succ];unfold zB asA at q ⊢;simp only[List.map_cons,List.any_cons,decide_eq_false hn,Bool.false_or,if_neg hn];rw[q];split
   ·rfl
   ·rfl
theorem z77 {bs:oC}{k:Nm}(hi:ixB k bs=none)(x:Ent)(hx:x.board=k)(s:Sta):asA (bs++[(x,s)])=zB (asA bs) k s:=by
 have:(asA bs).any (fun e=>decide (e.1=k))=false:=by
  induction bs with
  | nil=>rfl
  | cons y r ih=>
   unfold ixB at hi;by_cases h:k=y.1.board
   ·rw[if_pos h]at hi;cases hi
   ·rw[if_neg h]at hi
    have hn:¬y.1.board=k:=fun z=>h z.symm
    have q:=ih (by simpa using hi)
    unfold asA at q ⊢;rw[List.map_cons,List.any_cons,q];simp [hn]
 unfold zB;rw[if_neg (by simp [this])]
 unfold asA;simp [hx]
abbrev kD:=List ((Nm × Nm) × Nat)
def uC (m:kD)(c:Nat):Obj:=.amap (m.map fun e=>⟨.str e.1.1,AS e.1.2,e.2⟩) c
def asS (m:kD):List (Nm×Nm):=m.map (·.1)
def DD (k:Nm):kD→Option Nat
 | []=>none
 | e::r=>if k=e.1.1 then some 0 else(DD k r).map (· + 1)
theorem fQ (k:Nm):∀m:kD,JB (.str k) (m.map fun e=>(⟨.str e.1.1,AS e.1.2,e.2⟩:ME))=some (DD k m)
 | []=>rfl
 | e::r=>by
  have hk:PV.eqv (.str k) (.str e.1.1)=some (decide (k=e.1.1)):=rfl
  simp only[List.map_cons,JB,hk,DD];by_cases h:k=e.1.1
  ·simp [h]
  ·simp [h,fQ k r]
theorem QW (k:Nm):∀m:kD,(DD k m).bind (fun i=>m[i]?)=m.find? (fun e=>decide (e.1.1=k))
 | []=>rfl
 | e::r=>by
  unfold DD;rw[List.find?_cons];by_cases h:k=e.1.1
  ·simp [h]
  ·have hn:¬e.1.1=k:=fun z=>h z.symm
   rw[if_neg h,decide_eq_false hn];have:=QW k r;cases hf:DD k r with
   | none=>rw[hf]at this;simpa using this
   | some i=>rw[hf]at this;simpa using this
theorem RW (k:Nm):∀(m:kD) (i:Nat),DD k m=some i→(m[i]?).isSome=true
 | [],i,h=>by cases h
 | e::r,i,h=>by
  unfold DD at h;split at h
  ·cases h;rfl
  ·obtain⟨j,hj,e2⟩:=Option.map_eq_some_iff.1 h
   subst e2;have:=RW k r j hj;simpa using this
theorem zfR {id:Nat}{hp:aA}{m:kD}{c:Nat}{k:Nm}(hh:hp[id]?=some (uC m c)) :
 QA (none,[2]) true (AS []) (.mp id) (AS k) hp=some (.tup [AS ((rA (asS m) k).getD []),AB (rA (asS m) k).isSome]):=by
 have e1:aC (none,[2]) (AS k)=some (.str k):=jF
 have e2:nB hp (.mp id)=some (id,m.map fun e=>(⟨.str e.1.1,AS e.1.2,e.2⟩:ME),c):=by simp only[nB,hh,uC]
 have e3:rA (asS m) k=(m.find? fun e=>decide (e.1.1=k)).map (fun e=>e.1.2):=by
  unfold rA asS;rw[List.find?_map];cases h:m.find? (fun e=>decide (e.1.1=k)) with
  | none=>rw[show(List.find? ((fun e=>decide (e.1=k)) ∘ fun x=>x.1) m)=m.find? (fun e=>decide (e.1.1=k)) from rfl,h];rfl
  | some x=>rw[show(List.find? ((fun e=>decide (e.1=k)) ∘ fun x=>x.1) m)=m.find? (fun e=>decide (e.1.1=k)) from rfl,h];rfl
 simp only[QA,e1,e2,Option.map_some,fQ];have e4:=QW k m
 rw[e3,←e4];cases hf:DD k m with
 | none=>rfl
 | some i=>
  simp only[Option.bind_some,List.getElem?_map];have hs:(m[i]?).isSome=true:=RW k m i hf
  obtain⟨y,hy⟩:=Option.isSome_iff_exists.1 hs;rw[hy];rfl
end Go.Am
end
section
/- A text split at a byte. -/
set_option linter.all false
namespace Go.Am
end Go.Am
end
section
/- A text read line by line. -/
set_option linter.all false
namespace Go.Am
end Go.Am
end
section
/- Numbers in texts. -/
set_option linter.all false
namespace Go.Am
end Go.Am
end
section
/- Faults of nets: what the words mean,in plain Lean. -/
set_option linter.all false
namespace Go.Am
structure Flt where
 kind:Int
 nets:List Int
 deriving DecidableEq
end Go.Am
end
section
/- Faults read: the program's line and the reference's line agree. -/
set_option linter.all false
namespace Go.Am
end Go.Am
end
section
/- What is written is read: numbers,words,lines. -/
set_option linter.all false
namespace Go.Am
end Go.Am
end
section
/- Entries asv texts,plainly: written,read both ways. -/
set_option linter.all false
namespace Go.Am
end Go.Am
end
section
/- Records: what is wrong with them,both ways. -/
open Go
set_option linter.unusedSimpArgs false
namespace Go.Am
variable {h:aA} {K:jA}
theorem s_rf1 (n:Int):bA X nJ [AI n] h K=K (AB (!isM n)) h []:=by
 refine rule ?_;rw[z85 rfl];simp only[LO,go_sem,ziR]
theorem ziZ (n:Int):bA X rJ [AI n] h K=K (AB (!isM n)) h []:=by
 refine rule ?_;rw[z8W rfl];simp only[fP,go_sem,PK];rfl
theorem z5x (l:List Lim)(r:Rec)(hl:LimOk l)(hr:RecOk r):bA X mJ [LA l,.p r.pv] h K=K (AI (TB l r)) h []:=by
 refine rule ?_;rw[z84 rfl];have ku:=fun h K=>fH (h:=h) (K:=K) r.unit (by have:=hr.u;omega)
 have ks:=fun h K=>fH (h:=h) (K:=K) r.site (by have:=hr.s;omega)
 have cf:=fun h K=>z0t (h:=h) (K:=K) (g:=nJ) (caps:=[]) (p:=noM) (xs:=r.res.map eI) (fun x hx K=>by obtain⟨n,_,rfl⟩:=List.mem_map.1 hx;exact s_rf1 n) z0K (by have:=hr.n;simp;omega)
 have cp:=fun h K=>ziG (h:=h) (K:=K) l r hl.n hr.n
 rw[z0O]at cf;simp only[Rec.pv]at cp;unfold TB;cases h1:PA r.unit with
 | false=>simp only[dG,Rec.pv,go_sem,↓ku,ku,h1]
 | true=>
  cases h2:PA r.site with
  | false=>simp only[dG,Rec.pv,go_sem,↓ku,ku,↓ks,ks,h1,h2]
  | true=>
   cases h3:FD r.time with
   | false=>simp only[dG,Rec.pv,go_sem,↓ku,ku,↓ks,ks,h1,h2,jE,h3]
   | true=>
    cases h4:r.res.all isM with
    | false=>simp only[dG,Rec.pv,go_sem,↓ku,ku,↓ks,ks,h1,h2,jE,h3,↓cf,cf,h4]
    | true=>
     cases h5:QB l r.res with
     | false=>simp only[dG,Rec.pv,go_sem,↓ku,ku,↓ks,ks,h1,h2,jE,h3,↓cf,cf,h4,↓cp,cp,h5]
     | true=>simp only[dG,Rec.pv,go_sem,↓ku,ku,↓ks,ks,h1,h2,jE,h3,↓cf,cf,h4,↓cp,cp,h5]
theorem ziX (l:List Lim)(res:List Int)(hl:l.length≤1000)(hr:res.length≤1000):bA X ZL [LA l,AL res] h K=K (AI (WB l res)) h []:=by
 refine rule ?_;rw[z8S rfl];simp only[bP,go_sem];refine SA (fun k:Nat=>⟨[(0,LA l),(7,AL res),(8,AI res.length),(9,AI k)],h,[]⟩) (fun k=>k≤res.length∧SJ l res k) (fun k=>res.length-k) 0 rfl ⟨by omega,fun i hi=>by omega⟩ ?_
 rintro k ⟨hk,hok⟩
 rcases Nat.lt_or_ge k res.length with hlt|hge
 ·have g2:=dB eI hlt
  have w2:IntKind.i64.wrap ((k:Int)+1)=((k+1:Nat):Int):=yA _ (by omega) (by omega)
  rcases Nat.lt_or_ge k l.length with hkl|hkl
  ·have g1:=dB Lim.pv hkl
   have gg:=VP (l:=l) (res:=res) hkl hlt
   unfold good at gg;cases hg:inB l[k].lo res[k] l[k].hi with
   | false=>
    rw[hg]at gg;simp only[go_sem,hlt,hkl,g1,g2,Lim.pv,IE,hg];rw[KW hok gg]
   | true=>
    simp only[go_sem,hlt,hkl,g1,g2,Lim.pv,IE,hg,w2];refine⟨k+1,rfl,⟨by omega,fun i hi=>?_⟩,by omega⟩
    rcases Nat.lt_or_ge i k with h3|h3
    ·exact hok i h3
    ·have:i=k:=by omega
     subst this;rw[gg,hg];simp
  ·have hkl':¬k<l.length:=by omega
   simp only[go_sem,hlt,hkl',g2,w2];refine⟨k+1,rfl,⟨by omega,fun i hi=>?_⟩,by omega⟩
   rcases Nat.lt_or_ge i k with h3|h3
   ·exact hok i h3
   ·have:(XB l res)[i]?=none:=List.getElem?_eq_none (by simp [XB];omega)
    rw[this];simp
 ·have ek:k=res.length:=by omega
  subst ek;have:SJ l res (XB l res).length:=fun i hi=>hok i (by simp [XB]at hi;omega)
  simp only[go_sem,Nat.lt_irrefl];rw[z2Q this]
set_option maxHeartbeats 1000000 in
theorem ziY (l:List Lim)(r:Rec)(hl:LimOk l)(hr:RecOk r):bA X aM [LA l,.p r.pv] h K=K (AI (TB l r)) h []:=by
 refine rule ?_;rw[z8V rfl];have ku:=fun h K=>NZ (h:=h) (K:=K) r.unit (by have:=hr.u;omega)
 have ks:=fun h K=>NZ (h:=h) (K:=K) r.site (by have:=hr.s;omega)
 have cf:=fun h K=>z0t (h:=h) (K:=K) (g:=rJ) (caps:=[]) (p:=noM) (xs:=r.res.map eI) (fun x hx K=>by obtain⟨n,_,rfl⟩:=List.mem_map.1 hx;exact ziZ n) z0K (by have:=hr.n;simp;omega)
 have fl:=fun h K=>ziX (h:=h) (K:=K) l r.res hl.n hr.n
 rw[z0O]at cf;have hw:IntKind.i64.wrap ((r.res.length:Int)-1)=(r.res.length:Int)-1:=yA _ (by omega) (by have:=hr.n;omega)
 unfold TB;cases h1:PA r.unit with
 | false=>simp only[xE,Rec.pv,go_sem,↓ku,ku,h1]
 | true=>
  cases h2:PA r.site with
  | false=>simp only[xE,Rec.pv,go_sem,↓ku,ku,↓ks,ks,h1,h2]
  | true=>
   cases h3:FD r.time with
   | false=>simp only[xE,Rec.pv,go_sem,↓ku,ku,↓ks,ks,h1,h2,sI,h3]
   | true=>
    cases h4:r.res.all isM with
    | false=>simp only[xE,Rec.pv,go_sem,↓ku,ku,↓ks,ks,h1,h2,sI,h3,↓cf,cf,h4]
    | true=>
     unfold QB;generalize WB l r.res=w at *;cases h5:inB 1 r.res.length l.length with
     | false=>simp only[xE,Rec.pv,go_sem,↓ku,ku,↓ks,ks,h1,h2,sI,h3,↓cf,cf,h4,↓fl,fl,IE,h5]
     | true=>
      by_cases h6:0≤w
      ·have h6':¬w<0:=by omega
       by_cases h7:w=(r.res.length:Int)-1
       ·simp only[xE,Rec.pv,go_sem,↓ku,ku,↓ks,ks,h1,h2,sI,h3,↓cf,cf,h4,↓fl,fl,IE,h5,h6,h6',hw,eq_true h7]
       ·simp only[xE,Rec.pv,go_sem,↓ku,ku,↓ks,ks,h1,h2,sI,h3,↓cf,cf,h4,↓fl,fl,IE,h5,h6,h6',hw,h7]
      ·have h6':w<0:=by omega
       by_cases h7:(r.res.length:Int)=l.length
       ·simp only[xE,Rec.pv,go_sem,↓ku,ku,↓ks,ks,h1,h2,sI,h3,↓cf,cf,h4,↓fl,fl,IE,h5,h6,h6',eq_true h7]
       ·simp only[xE,Rec.pv,go_sem,↓ku,ku,↓ks,ks,h1,h2,sI,h3,↓cf,cf,h4,↓fl,fl,IE,h5,h6,h6',h7]
def orL:List Int→Int
 | []=>0
 | x::r=>if x≠0 then x else orL r
theorem KZ (l:List Int)(hl:l.length≤1000):bA X QG [AL l] h K=K (AI (orL l)) h []:=by
 refine rule ?_;rw[z8l rfl];simp only[xO,go_sem];refine SA (fun k:Nat=>⟨[(3,AI 0),(6,AL l),(7,AI l.length),(8,AI k)],h,[]⟩) (fun k=>k≤l.length∧orL (l.drop k)=orL l) (fun k=>l.length-k) 0 rfl ⟨by omega,rfl⟩ ?_
 rintro k ⟨hk,hp⟩
 rcases Nat.lt_or_ge k l.length with hlt|hge
 ·have g2:=dB eI hlt
  have w2:IntKind.i64.wrap ((k:Int)+1)=((k+1:Nat):Int):=yA _ (by omega) (by omega)
  rw[List.drop_eq_getElem_cons hlt,orL]at hp;by_cases hz:l[k]=0
  ·rw[if_neg (by simp [hz])]at hp
   simp only[go_sem,hlt,g2,hz,w2];exact⟨k+1,rfl,⟨by omega,hp⟩,by omega⟩
  ·rw[if_pos hz]at hp
   simp only[go_sem,hlt,g2,hz];rw[hp]
 ·have ek:k=l.length:=by omega
  subst ek;rw[List.drop_length]at hp;simp only[go_sem,Nat.lt_irrefl];rw[←hp];rfl
theorem ziD (a b:Rec):bA X KL [.p a.pv,.p b.pv] h K=K (AI (wC a b)) h []:=by
 refine rule ?_;rw[z8v rfl];have o:=fun h K=>KZ (h:=h) (K:=K) [WA a.time b.time,zA a.unit b.unit] (by simp)
 simp only[AL,List.map_cons,List.map_nil]at o;have e:orL [WA a.time b.time,zA a.unit b.unit]=wC a b:=by
  unfold wC orL;split
  ·rfl
  ·unfold orL
   split
   ·rfl
   ·rename_i h;simp only[ne_eq,Decidable.not_not]at h;rw[h];rfl
 rw[e]at o;simp only[DO,Rec.pv,go_sem,JZ,aN,o]
theorem ziV (a b:Rec)(ha : -1000000000000000000≤a.time∧a.time≤1000000000000000000)(hb : -1000000000000000000≤b.time∧b.time≤1000000000000000000):bA X bM [.p a.pv,.p b.pv] h K=K (AI (wC a b)) h []:=by
 refine rule ?_;rw[z8X rfl];have w:IntKind.i64.wrap (a.time-b.time)=a.time-b.time:=yA _ (by omega) (by omega)
 unfold wC;by_cases he:a.time=b.time
 ·have:WA a.time b.time=0:=by rw[he];unfold WA;simp
  rw[if_neg (by simp [this])]
  simp only[sL,Rec.pv,go_sem,he,aN]
 ·have hc:WA a.time b.time≠0:=by unfold WA;split <;> (try split) <;> omega
  rw[if_pos hc];rw[z9M];simp only[sL,Rec.pv,go_sem,he,w,zjb]
theorem z4H {l:List Lim}{p:Option Rec}{x:Rec}{r:List Rec}:mF l p (x::r)=if TB l x≠0 then TB l x else if(match p with|some q=>decide (wC x q≤0)|none=>false)=true then 7 else mF l (some x) r:=rfl
theorem z4F {l:List Lim}{r:Rec}(hf:TB l r=0):0≤r.time∧r.time≤345686399999:=by
 unfold TB at hf;split at hf
 ·cases hf
 ·split at hf
  ·cases hf
  ·rename_i h
   simp [FD,inB]at h;exact h
theorem ziW (l:List Lim)(r:List Rec)(hl:LimOk l)(hr:∀ x∈r,RecOk x)(hn:r.length≤1000000):bA X OL [LA l,eC r] h K=K (AI (ZM l r)) h []:=by
 refine rule ?_;rw[z86 rfl];unfold ZM;by_cases h1:(5000:Int)<r.length
 ·simp only[nL,go_sem,h1]
 simp only[nL,go_sem,h1];refine SA (fun k:Nat=>⟨[(0,LA l),(1,eC r),(11,eC r),(12,AI r.length),(13,AI k)],h,[]⟩) (fun k=>k≤r.length∧mF l (r.take k).getLast? (r.drop k)=mF l none r) (fun k=>r.length-k) 0 rfl ⟨by omega,rfl⟩ ?_
 rintro k ⟨hkl,hp⟩
 rcases Nat.lt_or_ge k r.length with hlt|hge
 ·have hg:=dB Rec.pv hlt
  have w2:IntKind.i64.wrap ((k:Int)+1)=((k+1:Nat):Int):=yA _ (by omega) (by omega)
  have hx:=hr _ (List.getElem_mem hlt)
  have hlast:(r.take (k+1)).getLast?=some r[k]:=by rw[List.take_succ_eq_append_getElem hlt];exact List.getLast?_concat
  rw[List.drop_eq_getElem_cons hlt,z4H]at hp;have cx:BA (some 4) 0 (r[k].pv)=some r[k].pv:=rfl
  have rf:=fun h K=>z5x (h:=h) (K:=K) l r[k] hl hx
  simp only[Rec.pv]at rf;by_cases h2:TB l r[k]=0
  ·rw[if_neg (by simp [h2])]at hp
   cases k with
   | zero=>
    simp only[List.take_zero,List.getLast?_nil,reduceCtorEq,if_false]at hp;have hlt0:(0:Int)<r.length:=by omega
    simp only[go_sem,hlt0,hg,cx,Rec.pv,rf,h2,Int.lt_irrefl,show IntKind.i64.wrap 1=1 from rfl]
    exact⟨0+1,rfl,⟨by omega,by rw[hlast];exact hp⟩,by omega⟩
   | succ j=>
    have hj:j<r.length:=by omega
    have hgj:=dB Rec.pv hj
    have cj:BA (some 4) 0 (r[j].pv)=some r[j].pv:=rfl
    have hlj:(r.take (j+1)).getLast?=some r[j]:=by rw[List.take_succ_eq_append_getElem hj];exact List.getLast?_concat
    have w3:IntKind.i64.wrap (((j+1:Nat):Int)-1)=(j:Int):=by rw[yA _ (by omega) (by omega)];omega
    have p1:(0:Int)<((j+1:Nat):Int):=by omega
    have bt:=fun h K=>ziD (h:=h) (K:=K) r[j+1] r[j]
    simp only[Rec.pv]at bt;rw[hlj]at hp;by_cases h3:wC r[j+1] r[j]≤0
    ·simp only[h3,decide_true,if_true]at hp
     simp only[go_sem,hlt,hj,hg,hgj,cx,cj,Rec.pv,rf,h2,p1,w3,bt,h3];rw[←hp]
    ·simp only[h3,decide_false,reduceCtorEq,if_false]at hp
     simp only[go_sem,hlt,hj,hg,hgj,cx,cj,Rec.pv,rf,h2,p1,w3,bt,h3,w2];exact⟨j+1+1,rfl,⟨by omega,by rw[hlast];exact hp⟩,by omega⟩
  ·rw[if_pos h2]at hp
   simp only[go_sem,hlt,hg,cx,Rec.pv,rf,h2];rw[←hp]
 ·have ek:k=r.length:=by omega
  subst ek;rw[List.drop_length]at hp;simp only[go_sem,Nat.lt_irrefl];rw[←hp];cases (r.take r.length).getLast? <;> rfl
theorem zi3 (l:List Lim)(r:List Rec)(hl:LimOk l)(hr:∀ x∈r,RecOk x)(hn:r.length≤1000000):bA X FL [LA l,eC r] h K=K (AI (JC l r)) h []:=by
 refine rule ?_;rw[z8r rfl];have cl:=fun h K=>z5e (h:=h) (K:=K) l hl.k (by have:=hl.n;omega)
 have cr:=fun h K=>ziW (h:=h) (K:=K) l r hl hr hn
 unfold JC;by_cases h1:IC l=0
 ·simp only[kL,go_sem,cl,cr,h1]
 ·simp only[kL,go_sem,cl,cr,h1]
theorem zi7 (l:List Lim)(r:List Rec)(hl:LimOk l)(hr:∀ x∈r,RecOk x)(hn:r.length≤1000000):bA X XL [LA l,eC r] h K=K (AI (JC l r)) h []:=by
 refine rule ?_;rw[z8P rfl];have cl:=fun h K=>z5j (h:=h) (K:=K) l hl.k (by have:=hl.n;omega)
 unfold JC ZM;by_cases h0:IC l=0
 case neg=>simp only[WI,go_sem,cl,h0]
 by_cases h1:(5000:Int)<r.length
 ·simp only[WI,go_sem,cl,h0,h1]
 simp only[WI,go_sem,cl,h0,h1];refine SA (fun k:Nat=>⟨[(0,LA l),(1,eC r),(17,eC r),(18,AI r.length),(19,AI k)],h,[]⟩) (fun k=>k≤r.length∧mF l (r.take k).getLast? (r.drop k)=mF l none r∧∀x∈r.take k,TB l x=0) (fun k=>r.length-k) 0 rfl ⟨by omega,rfl,by simp⟩ ?_
 rintro k ⟨hkl,hp,hz⟩
 rcases Nat.lt_or_ge k r.length with hlt|hge
 ·have hg:=dB Rec.pv hlt
  have w2:IntKind.i64.wrap ((k:Int)+1)=((k+1:Nat):Int):=yA _ (by omega) (by omega)
  have hx:=hr _ (List.getElem_mem hlt)
  have hlast:(r.take (k+1)).getLast?=some r[k]:=by rw[List.take_succ_eq_append_getElem hlt];exact List.getLast?_concat
  rw[List.drop_eq_getElem_cons hlt,z4H]at hp;have cx:BA (some 4) 0 (r[k].pv)=some r[k].pv:=rfl
  have rf:=fun h K=>ziY (h:=h) (K:=K) l r[k] hl hx
  simp only[Rec.pv]at rf;by_cases h2:TB l r[k]=0
  ·rw[if_neg (by simp [h2])]at hp
   have hz':∀x∈r.take (k+1),TB l x=0:=fun x hx=>by
    rw[List.take_succ_eq_append_getElem hlt,List.mem_append,List.mem_singleton]at hx;rcases hx with hx|rfl
    ·exact hz x hx
    ·exact h2
   cases k with
   | zero=>
    simp only[List.take_zero,List.getLast?_nil,reduceCtorEq,if_false]at hp;have hlt0:(0:Int)<r.length:=by omega
    simp only[go_sem,hlt0,hg,cx,Rec.pv,rf,h2,Int.lt_irrefl,show IntKind.i64.wrap 1=1 from rfl]
    exact⟨0+1,rfl,⟨by omega,by rw[hlast];exact hp,hz'⟩,by omega⟩
   | succ j=>
    have hj:j<r.length:=by omega
    have hgj:=dB Rec.pv hj
    have cj:BA (some 4) 0 (r[j].pv)=some r[j].pv:=rfl
    have hlj:(r.take (j+1)).getLast?=some r[j]:=by rw[List.take_succ_eq_append_getElem hj];exact List.getLast?_concat
    have w3:IntKind.i64.wrap (((j+1:Nat):Int)-1)=(j:Int):=by rw[yA _ (by omega) (by omega)];omega
    have p1:(0:Int)<((j+1:Nat):Int):=by omega
    have t1:=z4F h2
    have t2:=z4F (hz r[j] (by rw[List.mem_take_iff_getElem];exact⟨j,by omega,rfl⟩))
    have bt:=fun h K=>ziV (h:=h) (K:=K) r[j] r[j+1] (by omega) (by omega)
    simp only[Rec.pv]at bt;rw[hlj]at hp;have hneg:=zhZ r[j+1] r[j]
    by_cases h3:wC r[j+1] r[j]≤0
    ·have h3':0≤wC r[j] r[j+1]:=by omega
     simp only[h3,decide_true,if_true]at hp;simp only[go_sem,hlt,hj,hg,hgj,cx,cj,Rec.pv,rf,h2,p1,w3,bt,h3'];rw[←hp]
    ·have h3':¬0≤wC r[j] r[j+1]:=by omega
     simp only[h3,decide_false,reduceCtorEq,if_false]at hp;simp only[go_sem,hlt,hj,hg,hgj,cx,cj,Rec.pv,rf,h2,p1,w3,bt,h3',w2];exact⟨j+1+1,rfl,⟨by omega,by rw[hlast];exact hp,hz'⟩,by omega⟩
  ·rw[if_pos h2]at hp
   simp only[go_sem,hlt,hg,cx,Rec.pv,rf,h2];rw[←hp]
 ·have ek:k=r.length:=by omega
  subst ek;rw[List.drop_length]at hp;simp only[go_sem,Nat.lt_irrefl];rw[←hp];cases (r.take r.length).getLast? <;> rfl
end Go.Am
end
section
/- Entries of stations: compared. -/
open Go
set_option linter.all false
set_option maxRecDepth 100000
namespace Go.Am
variable {h:aA} {K:jA}
abbrev mC (l:List Ent):AV:=.p (.sl (some 8) (l.map Ent.pv))
theorem yL {x:Ent}:BA (some 8) 0 x.pv=some x.pv:=rfl
structure EntOk (x:Ent):Prop where
 s:x.site.length≤1000000
 b:x.board.length≤1000000
 p:x.step.length≤1000000
 o:x.of.length≤1000000
structure EntB (x:Ent):Prop where
 n:1≤x.no∧x.no≤1000000
 t:0≤x.time∧x.time≤345686399999
theorem zdz {x:Ent}(h:IB x=0):EntB x:=by
 unfold IB at h;split at h
 ·cases h
 split at h
 ·cases h
 rename_i h2;rw[not_or]at h2;have a:noB x.no=true:=by simpa using h2.1
 have b:FD x.time=true:=by simpa using h2.2
 unfold noB inB at a;unfold FD inB at b;simp at a b;exact⟨a,b⟩
theorem ziE (a b:Ent):bA X CJ [.p a.pv,.p b.pv] h K=K (AI (AD a b)) h []:=by
 refine rule ?_;rw[z9q rfl];have o:=fun h K=>KZ (h:=h) (K:=K) [WA a.time b.time,zA a.site b.site,WA a.no b.no] (by simp)
 simp only[AL,List.map_cons,List.map_nil]at o;have e:orL [WA a.time b.time,zA a.site b.site,WA a.no b.no]=AD a b:=by
  unfold AD;simp only[orL];split
  ·rfl
  ·split
   ·rfl
   ·split
    ·rfl
    ·rename_i h;simp only[ne_eq,Decidable.not_not]at h;rw[h]
 rw[e]at o;simp only[uP,Ent.pv,go_sem,JZ,aN,o]
end Go.Am
end
section
/- What is wrong with an entry: the reference. -/
open Go
set_option linter.all false
set_option maxRecDepth 100000
namespace Go.Am
variable {h:aA} {K:jA}
attribute [-go_sem] tB
def Ent.box (x:Ent):Obj:=.box [AS x.site,AI x.no,AI x.time,AI x.kind,AS x.board,AS x.step,AS x.of,AI x.other]
end Go.Am
end
