/- Texts of the proof, laid together: AmL, AmC, Ctx, SpStream, MathFrac, SpBase, SpList, PSort, SpShp, SpStr, SpFind, SpLimD, PBrd, SpBrd1, SpBrd1q, SpBrdT, SpBrd2, SpBrd3, SpMap, SpLim, SpLotA, SpRecD, SpRec, SpLen, SpStrs, SpGenA, SpSome, SpGenL, SpSortRec, SpCompact, SpGenR, PMerge, SpMrgA, SpSort, SpMrgB, SpMrgC, SpMrgD, PFin, SpTxt, SpSrtS, SpBrd4, SpBrd5, PSplit, PTxt, PNum, PFlt, PFltR, SpIdx. -/
import Derived.KernelRfl
import Derived.Test.YtkbafocpdpcekaaGreatDoorlawQD6
set_option linter.all false
section
/- The abstract machine,part L: functions of the library that are met by the kit's contracts: plain values in,plain values out,new memory at most. -/
set_option linter.unusedSimpArgs false
set_option linter.unusedVariables false
namespace Go.Am
variable {P:Program} {gl:Nat→Option PV}
structure PureRow (P:Program) (gl:Nat→Option PV) (f:Nat) (spec:List PV→Option AV):Prop where
 enter:∀us w,(callFunc f us).run P w = .ok (.enter f us) w
 run:∀(M:Mem) (w:World) (vs:List PV) (r:AV) (us:List Value),(∀b o v,M.c b o=some v→w.cell? ⟨b,o,none⟩=some v)→(∀b o,M.b b=some o→w.heap[b]?=some o)→uD gl M→vs.length=us.length →
  (∀(j:Nat) (y:PV) (v:Value),vs[j]?=some y→us[j]?=some v→RPV M y v)→spec vs=some r →
  Calls P f us.toArray w fun e w'=>∃x,e = .returned x∧WExt w w'∧RAV (UF M w w') [] [] r x
abbrev KE:=List (Nat × (List PV→Option AV))
def zG:KE→Nat→List AV→aA→Option (AV×aA×Esc)
 | [],_,_,_=>none
 | (g,s)::r,f,asv,h=>bif Nat.beq f g then((unp asv).bind s).map fun v=>(v,h,[]) else zG r f asv h
theorem kU:∀ (gs:KE),(∀g s,(g,s)∈gs→PureRow P gl g s)→∀{f:Nat} {asv:List AV} {h:aA} {v:AV} {h':aA} {x:Esc},zG gs f asv h=some (v,h',x) →
 kC P gl f asv h fun v1 h1 x1=>v1=v∧h1=h'∧x1=x
 | [],_,f,asv,h,v,h',x,H=>by cases H
 | (g,s)::r,hg,f,asv,h,v,h',x,H=>by
  unfold zG at H;cases e1:Nat.beq f g with
  | false=>
   rw[e1]at H;exact kU r (fun g sh hm=>hg g sh (by simp [hm])) H
  | true=>
   rw[e1]at H;have e:=Nat.eq_of_beq_eq_true e1
   subst e;have R:=hg f s (by simp)
   simp only[cond_true]at H;obtain⟨y,hy,e2⟩:=Option.map_eq_some_iff.1 H;simp only[Prod.mk.injEq]at e2;obtain⟨rfl,rfl,rfl⟩:=e2;obtain⟨ps,hps,hs⟩:=Option.bind_eq_some_iff.1 hy;have hm:=XJ hps
   subst hm;intro μ w vs Hh Hg hl hr;refine .inl ⟨R.enter _,?_⟩;refine(R.run (imm h μ w) w ps y vs (fun b o v hv=>(oD.1 hv).2) (fun b o hv=>(sG.1 hv).2) Hg (by simpa using hl) (fun j q v hq hv=>(hr j (.p q) v (by simp [hq]) hv).p_inv) hs).mono fun e w' he=>?_
   obtain⟨u,rfl,g1,g2⟩:=he;obtain⟨n1,n2⟩:=Hh.ext g1;have Lq:(UF (imm h μ w) w w').le (imm h μ w'):=by
    refine⟨fun b o v hv=>?_,fun b o hv=>?_,rfl,fun _ _ h=>by cases h⟩
    ·dsimp only[UF]at hv
     split at hv
     ·exact n2.le.c _ _ _ hv
     ·rename_i hb
      exact oD.2 ⟨fun hO=>hb (kT Hh hO),hv⟩
    ·dsimp only[UF]at hv
     cases hv
   exact⟨_,_,_,μ,⟨rfl,rfl,rfl⟩,g2.evo ⟨Lq,Nat.zero_le _,fun id o m h1=>by simp at h1⟩,n1,n2,tA.refl h []⟩
def vH (gs:List (Nat × Sh))(ps:KE)(f:Nat)(asv:List AV)(h:aA):Option (AV×aA×Esc):=match WI gs f asv h with
 | some y=>some y
 | none=>match zG ps f asv h with
  | some y=>some y
  | none=>match zA h asv with
   | some (asv',h1)=>zG ps f asv' h1
   | none=>none
theorem zjv {ps:KE}(hp:∀ g s,(g,s)∈ps→PureRow P gl g s){f:Nat}{asv asv':List AV}{h h1:aA}{v:AV}{h':aA}{x:Esc}(hq:zA h asv=some (asv',h1))(H:zG ps f asv' h1=some (v,h',x)) :
 kC P gl f asv h fun v1 h2 x1=>v1=v∧h2=h'∧x1=x:=by
 intro μ w vs Hh Hg hl hr;obtain⟨q1,q2,q3⟩:=YO asv Hh hl hr hq;rcases kU ps hp H μ w vs q1.1 (Hg.mono q1.2.1.le) q2 q3 with⟨k1,k2⟩|⟨r,w',v2,h2,x2,μ',k1,k2,k3,k4,k5,k6⟩
 ·refine .inl ⟨k1,k2.mono fun e w' he=>?_⟩
  cases e with
  | returned r=>
   obtain⟨v2,h2,x2,μ',k2,k3,k4,k5,k6⟩:=he;exact⟨v2,h2,x2,μ',k2,k3,k4,q1.2.1.trans k5,by simpa using q1.2.2.trans k6⟩
  | panicked _=>exact he
  | outgrown=>exact he
 ·exact .inr ⟨r,w',v2,h2,x2,μ',k1,k2,k3,k4,q1.2.1.trans k5,by simpa using q1.2.2.trans k6⟩
theorem libF_ok {gs:List (Nat × Sh)}{ps:KE}(hg:∀ g sh,(g,sh)∈gs→GrowRow P g sh)(hp:∀ g s,(g,s)∈ps→PureRow P gl g s){f:Nat}{asv:List AV}{h:aA}{v:AV}{h':aA}{x:Esc}(H:vH gs ps f asv h=some (v,h',x)) :
 kC P gl f asv h fun v1 h1 x1=>v1=v∧h1=h'∧x1=x:=by
 unfold vH at H;split at H
 ·rename_i y hy
  cases H;exact z1Y gs hg hy
 ·split at H
  ·rename_i y hy
   cases H;exact kU ps hp hy
  ·split at H
   ·rename_i asv' h1 hq
    exact zjv hp hq H
   ·cases H
theorem z2u {X:Ctx}{f:Nat}{asv:List AV}{h h':aA}{v:AV}{x:Esc}{K:mA}(hf:X.fn f=none)(hx:X.ex2 f asv h=some (v,h',x)):kA X f asv h K=K v h' x:=by
 refine propext (kA.eq (kA.fold ?_) K);unfold ZB;simp only[hf,hx];exact⟨trivial,trivial,trivial⟩
def WN:List (Nat × Sh)→Nat→Option Sh
 | [],_=>none
 | (g,s)::r,f=>bif Nat.beq f g then some s else WN r f
theorem z1X:∀ {gs:List (Nat × Sh)}{f:Nat}{asv:List AV}{h:aA},WN gs f=none→WI gs f asv h=none
 | [],f,asv,h,_=>rfl
 | (g,s)::r,f,asv,h,hm=>by
  unfold WN at hm;unfold WI;cases hq:Nat.beq f g with
  | true=>rw[hq]at hm;cases hm
  | false=>rw[hq]at hm;exact z1X hm
def ZO:KE→Nat→Option (List PV→Option AV)
 | [],_=>none
 | (g,s)::r,f=>bif Nat.beq f g then some s else ZO r f
theorem z3f:∀ {gs:KE}{f:Nat}{s:List PV→Option AV}{asv:List AV}{h:aA},ZO gs f=some s→zG gs f asv h=((unp asv).bind s).map fun v=>(v,h,[])
 | [],f,s,asv,h,hm=>by cases hm
 | (g,s')::r,f,s,asv,h,hm=>by
  unfold ZO at hm;unfold zG;cases hq:Nat.beq f g with
  | true=>rw[hq]at hm;cases hm;rfl
  | false=>rw[hq]at hm;exact z3f hm
theorem zgL {gs:List (Nat × Sh)}{ps:KE}{f:Nat}{s:List PV→Option AV}{asv:List AV}{vs:List PV}{v:AV}{h:aA}(hg:WN gs f=none)(hm:ZO ps f=some s)(hu:unp asv=some vs)(hv:s vs=some v):vH gs ps f asv h=some (v,h,[]):=by
 unfold vH;rw[z1X hg,z3f hm,hu];simp [hv]
def glOf:List (Nat × PV)→Nat→Option PV
 | [],_=>none
 | (g,v)::r,n=>bif Nat.beq n g then some v else glOf r n
theorem znb {f:Nat}(h:(match P.funcs[f]? with | some fn=>fn.body.isSome&&fn.name != "runtime.NumGoroutine" | none=>false)=true)(us:Array Value)(w:World):(callFunc f us).run P w = .ok (.enter f us) w:=by
 cases hf:P.funcs[f]? with
 | none=>rw[hf]at h;cases h
 | some fn=>
  rw[hf]at h;simp only[Bool.and_eq_true,bne_iff_ne,ne_eq]at h;cases hb:fn.body with
  | none=>rw[hb]at h;cases h.1
  | some c=>exact mS hf hb h.2 us w
theorem znd {M:Mem}:uD (glOf []) M:=fun n v hv=>by cases hv
def BG (s:List UInt8):Nat→List UInt8
 | 0=>[]
 | c+1=>s++BG s c
def PJ:List PV→Option AV
 | [.str s,.int .i64 c]=>if 0≤c∧s.length*c.toNat≤1000000∧c≤1000000 then some (.p (.str (BG s c.toNat))) else none
 | _=>none
def z4f (s cs:List UInt8):List UInt8:=(s.reverse.dropWhile (cs.contains ·)).reverse.dropWhile (cs.contains ·)
def trimS:List PV→Option AV
 | [.str s,.str cs]=>if s.length≤1000000∧cs.length≤1000∧cs.all (fun b=>decide (b.toNat<128))=true then some (.p (.str (z4f s cs))) else none
 | _=>none
end Go.Am
end
section
/- The abstract machine,part C: VB calls that say true,asv contracts. -/
set_option linter.all false
namespace Go.Am
variable {P:Program} {gl:Nat→Option PV}
def NU:List PV→Option AV
 | []=>some (AB true)
 | _=>none
theorem RPV.mono' {M M':Mem}(hM:∀ b o v,M.c b o=some v→M'.c b o=some v){v:PV}{x:Value}(H:RPV M v x):RPV M' v x:=by
 induction H with
 | int k n=>exact .int k n
 | bool b=>exact .bool b
 | str s=>exact .str s
 | nilp=>exact .nilp
 | unk k n=>exact .unk k n
 | nils sh a cap=>exact .nils sh a cap
 | sl sh xs b o cap f hne hc he hm hr ih=>exact .sl sh xs b o cap f hne hc he (fun j y hy=>hM _ _ _ (hm j y hy)) ih
 | agg cs vs hl hr ih=>exact .agg cs vs hl ih
theorem uD.mono' {M M':Mem}(hc:∀ b o v,M.c b o=some v→M'.c b o=some v)(hb:∀ b o,M.b b=some o→M'.b b=some o)(H:uD gl M):uD gl M':=fun n v hv=>by
 obtain⟨h1,cs,t,x,h2,h3⟩:=H n v hv;refine⟨?_,cs,t,x,hb _ _ h2,h3⟩;cases h1 with|vp _ _ _ f hm hr=>exact .vp v n 0 f (fun j y hy=>hc _ _ _ (hm j y hy)) (fun j y hy=>(hr j y hy).mono' hc)
theorem zne {X:Ctx}(HX:Fits P X){f:Nat}(H:kA X f [] [] fun v h x=>v=AB true∧h=[]∧x=[])(he:∀ us w,(callFunc f us).run P w = .ok (.enter f us) w):PureRow P X.gl f NU:=by
 refine⟨he,fun M w vs r us hc hb hG hl hr hs=>?_⟩
 cases vs with
 | cons a l=>cases hs
 | nil=>
  have hu:us=[]:=List.length_eq_zero_iff.1 (by simpa using hl.symm)
  subst hu;simp only[NU,Option.some.injEq]at hs;subst hs;have hno:∀b o,¬sF ([]:aA) ([]:Mu) b o:=fun b o ⟨id,n,h1,_⟩=>by simp at h1
  have hnt:∀b,¬RH ([]:Mu) b:=fun b ⟨id,n,h1⟩=>by simp at h1
  have hG':uD X.gl (imm [] [] w):=hG.mono' (fun b o v h=>oD.2 ⟨hno b o,hc b o v h⟩) (fun b o h=>sG.2 ⟨hnt b,hb b o h⟩)
  have hR:HeapRel [] [] w:=⟨rfl,fun id o m h1=>by simp at h1,fun i j b n n' h1=>by simp at h1,fun i b n h1=>by simp at h1⟩
  rcases FX HX H [] w [] hR hG' rfl (fun j y v h1=>by simp at h1) with⟨_,q⟩|⟨r,w',v,h',x,μ',q,_⟩
  ·refine q.mono fun e w' h=>?_
   cases e with
   | panicked _=>exact h.elim
   | outgrown=>exact h.elim
   | returned r=>
    obtain⟨v,h',x,μ',⟨rfl,rfl,rfl⟩,h1,h2,h3,h4⟩:=h;have hm:μ'=[]:=List.length_eq_zero_iff.1 (by simpa using h2.len)
    subst hm;have hbl:∀b o,w.heap[b]?=some o→w'.heap[b]?=some o:=fun b o h=>(sG.1 (h3.le.b b o (sG.2 ⟨hnt b,h⟩))).2
    refine⟨r,rfl,⟨?_,fun b hb=>?_,?_⟩,?_⟩
    ·rcases Nat.lt_or_ge w'.heap.size w.heap.size with q|q
     ·have:=hbl w'.heap.size _ (Array.getElem?_eq_getElem q)
      simp at this
     ·exact q
    ·rw[hbl b _ (Array.getElem?_eq_getElem hb),Array.getElem?_eq_getElem hb]
    ·have:=h3.le.z
     simpa [imm] using this
    ·have:=h1.p_bool
     rw[this];exact .p _ _ (.bool true)
  ·rw[he]at q
   cases q
end Go.Am
end
section
/- The functions together. -/
set_option linter.unusedVariables false
set_option maxRecDepth 100000
namespace Go.Am
def fns:List (Nat × AFun):=[(SN,PP),(DI,ZP),(vI,GP),(BI,RP),(EI,fQ),(iG,aM),(wI,IP),(rC,UP),(fH,bQ),(LI,wQ),(wC,aQ),(nH,AQ),(nG,TP),(qG,uQ),(DF,jQ),(zB,VP),(wE,dQ),(WE,iQ),(JI,sQ),(II,oQ),(KI,vQ),(iH,gQ),(YE,vM),(kD,qQ),(NC,YL),(ZG,eM),(bH,mM),(BF,nM),(LB,ZL),(VE,YP),(VC,uM),(gH,cQ),(PI,zQ),(ZE,EQ),(mG,NP),(xI,JP),(oH,BQ),(XE,tM),(UE,QP),(CI,WP),(AD,XP),(oG,rQ),(HI,nQ),(lH,tQ),(GI,kQ),(kH,pQ),(OI,yQ),(rG,xM),(YG,dM),(RD,kM),(jG,fM),(cH,oM),(XG,bM),(mH,wM),(QI,CQ),(zI,OP),(dE,LP),(aF,FQ),(SI,GQ),(NI,xQ),(jH,mQ),(aH,iM),(kG,pM),(lG,qM),(BD,yM),(RI,DQ),(vE,KP),(yI,MP),(pG,sM),(TE,jM),(dH,rM)]
def GRL:List (Nat × Sh):=[]
def PRL:KE:=[(TI,PJ),(yS,trimS),(eH,NU)]
def GLL:List (Nat × PV):=[]
def PK:List (Nat × AFun)→Nat→Option AFun
 | [],_=>none
 | (k,F)::r,n=>bif Nat.beq k n then some F else PK r n
def X:Ctx:=⟨PK fns,glOf GLL,VG RE SE,vH GRL PRL⟩
theorem z19 {p:Nat→AFun→Bool}:∀(l:List (Nat×AFun)),(l.all fun y=>p y.1 y.2)=true→∀n F,PK l n=some F→p n F=true
 | [],_,n,F,h=>by cases h
 | (k,G)::r,ha,n,F,h=>by
  simp only[List.all_cons,Bool.and_eq_true]at ha;simp only[PK]at h;cases hk:Nat.beq k n with
  | true=>
   rw[hk]at h;have:=Nat.eq_of_beq_eq_true hk;simp only[cond_true,Option.some.injEq]at h;subst this;subst h;exact ha.1
  | false=>
   rw[hk]at h;exact z19 r ha.2 n F h
def fns0:List (Nat × AFun):=[(eH,z8E),(iG,aM),(z0v,z8s),(z0G,z8F),(z02,z81),(z1q,z9d),(z09,z88),(z1b,z8M),(z0F,z8D),(YE,vM),(NC,YL),(ZG,eM),(bH,mM),(BF,nM),(LB,ZL),(z0u,z8r),(z0x,z8u),(z01,z80),(z1p,z9c),(CS,z9h),(z0C,z8B),(z0B,z8A),(tS,z8o),(z1f,z8Q),(z1k,z8W),(z1n,z8Z),(VC,uM),(XE,tM),(rG,xM),(YG,dM),(RD,kM),(jG,fM),(cH,oM),(XG,bM),(WG,z8m),(z0w,z8t),(z03,z82),(z05,z84),(z08,z87),(z07,z86),(z06,z85),(z1s,z9g),(z1y,z9p),(z1u,z9k),(z0H,z8G),(z0D,z8C),(z0A,z89),(z0t,z8p),(z0s,z8n),(z1a,z8L),(z0Z,z8K),(z1l,z8X),(z1d,z8O),(z1j,z8V),(mH,wM),(aH,iM),(kG,pM),(lG,qM),(BD,yM),(z0y,z8v),(z00,z8z),(z0z,z8y),(z1x,z9o),(BS,z9e),(z1v,z9m),(z1r,z9f),(z1w,z9n),(z1t,z9j),(KK,z9l),(TN,z9i),(z0J,z8I),(z1e,z8P),(z1c,z8N),(z1m,z8Y),(uS,z8q),(z1i,z8U),(z1h,z8S),(xS,z8T),(pG,sM),(TE,jM),(dH,rM),(z04,z83),(z0I,z8H),(z1o,z9a),(vS,z8w),(z1g,z8R),(z0K,z8J),(zS,z9b),(qH,zM),(wS,z8x),(pH,dK)]
def PRL0:KE:=[(TI,PJ),(yS,trimS)]
def X0:Ctx:=⟨PK fns0,glOf GLL,VG RE SE,vH GRL PRL0⟩
theorem zlR:X0.fn qH=some zM:=by kernel_rfl
theorem zlQ:X0.fn pH=some dK:=by kernel_rfl
theorem cK:X.NoNext:=fun f F h=>z19 (p:=fun _ F=>F.isDet||F.body.noNext) fns (by kernel_rfl) f F h
theorem zmq:X.fn SN=some PP:=by kernel_rfl
theorem za4 {u0 v0:AV}{h h1:aA}{P:mA}(hp:zA h [u0]=some ([v0],h1)):kA X SN [u0] h P=ZM (kA X) X.gl AH tO v0 h1 [] (wA [.t 2] false h.length P):=by rw[PA zmq rfl hp rfl];exact zc4
theorem zmz:X.fn DI=some ZP:=by kernel_rfl
theorem zaC {u0 v0:AV}{h h1:aA}{P:mA}(hp:zA h [u0]=some ([v0],h1)):kA X DI [u0] h P=jN (kA X) X.gl vJ CO v0 h1 [] (wA [.cell 2 (some 3)] false h.length P):=by rw[PA zmz rfl hp rfl];exact zcS
theorem zlV:X.fn vI=some GP:=by kernel_rfl
theorem zaj {u0 v0:AV}{h h1:aA}{P:mA}(hp:zA h [u0]=some ([v0],h1)):kA X vI [u0] h P=oK (kA X) X.gl jJ oO v0 h1 [] (wA [.t 2,.t 3] false h.length P):=by rw[PA zlV rfl hp rfl];exact zbO
theorem zms:X.fn BI=some RP:=by kernel_rfl
theorem za6 {u0 v0:AV}{h h1:aA}{P:mA}(hp:zA h [u0]=some ([v0],h1)):kA X BI [u0] h P=eN (kA X) X.gl CH lL v0 h1 [] (wA [.cell 2 (some 3)] false h.length P):=by rw[PA zms rfl hp rfl];exact zcC
theorem zm4:X.fn EI=some fQ:=by kernel_rfl
theorem zaG {u0 v0:AV}{h h1:aA}{P:mA}(hp:zA h [u0]=some ([v0],h1)):kA X EI [u0] h P=zK (kA X) X.gl yJ pL v0 h1 [] (wA [.t 2] false h.length P):=by rw[PA zm4 rfl hp rfl];exact zdh
theorem zlU:X.fn iG=some aM:=by kernel_rfl
theorem zai {u0 v0:AV}{h h1:aA}{P:mA}(hp:zA h [u0]=some ([v0],h1)):kA X iG [u0] h P=nK (kA X) X.gl iJ eL v0 h1 [] (wA [.t 2] false h.length P):=by rw[PA zlU rfl hp rfl];exact zbK
theorem zmh:X.fn wI=some IP:=by kernel_rfl
theorem zav {u0 v0:AV}{h h1:aA}{P:mA}(hp:zA h [u0]=some ([v0],h1)):kA X wI [u0] h P=WM (kA X) X.gl nJ qO v0 h1 [] (wA [.t 2] false h.length P):=by rw[PA zmh rfl hp rfl];exact zck
theorem zmu:X.fn rC=some UP:=by kernel_rfl
theorem za8 {u0 u1 v0 v1:AV}{h h1:aA}{P:mA}(hp:zA h [u0,u1]=some ([v0,v1],h1)):kA X rC [u0,u1] h P=uR (kA X) X.gl v0 v1 h1 [] (wA [.t 4] false h.length P):=by rw[PA zmu rfl hp rfl];exact zcN
theorem zm1:X.fn fH=some bQ:=by kernel_rfl
theorem zaE {u0 v0:AV}{h h1:aA}{P:mA}(hp:zA h [u0]=some ([v0],h1)):kA X fH [u0] h P=mN (kA X) X.gl DH EO v0 h1 [] (wA [.t 2] true h.length P):=by rw[PA zm1 rfl hp rfl];exact zcV
theorem zmM:X.fn LI=some wQ:=by kernel_rfl
theorem zaW {u0 u1 h P}:kA X LI [u0,u1] h P=IR (kA X) X.gl u0 u1 h [] (wA [.t 4] false h.length P):=by rw[LC zmM rfl rfl];exact zdL
theorem zm0:X.fn wC=some aQ:=by kernel_rfl
theorem zaD {u0 u1 v0 v1:AV}{h h1:aA}{P:mA}(hp:zA h [u0,u1]=some ([v0,v1],h1)):kA X wC [u0,u1] h P=xR (kA X) X.gl v0 v1 h1 [] (wA [.t 4] false h.length P):=by rw[PA zm0 rfl hp rfl];exact zcU
theorem zmT:X.fn nH=some AQ:=by kernel_rfl
theorem zbd {u0 u1 h P}:kA X nH [u0,u1] h P=KR (kA X) X.gl u0 u1 h [] (wA [] false h.length P):=by rw[LC zmT rfl rfl];exact zec
theorem zmt:X.fn nG=some TP:=by kernel_rfl
theorem za7 {u0 u1 v0 v1:AV}{h h1:aA}{P:mA}(hp:zA h [u0,u1]=some ([v0,v1],h1)):kA X nG [u0,u1] h P=sR (kA X) X.gl v0 v1 h1 [] (wA [.t 4] false h.length P):=by rw[PA zmt rfl hp rfl];exact zcM
theorem zmJ:X.fn qG=some uQ:=by kernel_rfl
theorem zaU {u0 u1 v0 v1:AV}{h h1:aA}{P:mA}(hp:zA h [u0,u1]=some ([v0,v1],h1)):kA X qG [u0,u1] h P=sN (kA X) X.gl EJ MO v0 v1 h1 [] (wA [.t 4] false h.length P):=by rw[PA zmJ rfl hp rfl];exact zdG
theorem zm7:X.fn DF=some jQ:=by kernel_rfl
theorem DX {u0 h P}:kA X DF [u0] h P=AK (kA X) X.gl zJ HO u0 h [] (wA [.t 2] true h.length P):=by rw[LC zm7 rfl rfl];exact zdp
theorem zmv:X.fn zB=some VP:=by kernel_rfl
theorem za9 {u0 u1 v0 v1:AV}{h h1:aA}{P:mA}(hp:zA h [u0,u1]=some ([v0,v1],h1)):kA X zB [u0,u1] h P=gN (kA X) X.gl v0 v1 h1 [] (wA [.t 4] false h.length P):=by rw[PA zmv rfl hp rfl];exact zcO
theorem zm3:X.fn wE=some dQ:=by kernel_rfl
theorem CM {u0 u1 v0 v1:AV}{h h1:aA}{P:mA}(hp:zA h [u0,u1]=some ([v0,v1],h1)):kA X wE [u0,u1] h P=uE (kA X) X.gl v0 v1 h1 [] (wA [] false h.length P):=by rw[PA zm3 rfl hp rfl];exact zdg
theorem zm6:X.fn WE=some iQ:=by kernel_rfl
theorem zaI {u0 v0:AV}{h h1:aA}{P:mA}(hp:zA h [u0]=some ([v0],h1)):kA X WE [u0] h P=pI (kA X) X.gl v0 h1 [] (wA [.t 2] false h.length P):=by rw[PA zm6 rfl hp rfl];exact zdo
theorem zmF:X.fn JI=some sQ:=by kernel_rfl
theorem zaQ {u0 v0:AV}{h h1:aA}{P:mA}(hp:zA h [u0]=some ([v0],h1)):kA X JI [u0] h P=CK (kA X) X.gl BJ rL v0 h1 [] (wA [.t 2] false h.length P):=by rw[PA zmF rfl hp rfl];exact zd1
theorem zmB:X.fn II=some oQ:=by kernel_rfl
theorem zaM {u0 u1 u2 v0 v1 v2:AV}{h h1:aA}{P:mA}(hp:zA h [u0,u1,u2]=some ([v0,v1,v2],h1)):kA X II [u0,u1,u2] h P=BK (kA X) X.gl v0 v1 v2 h1 [] (wA [.t 6] false h.length P):=by rw[PA zmB rfl hp rfl];exact zdv
theorem zmL:X.fn KI=some vQ:=by kernel_rfl
theorem zaV {u0 u1 h P}:kA X KI [u0,u1] h P=HR (kA X) X.gl u0 u1 h [] (wA [.t 4] false h.length P):=by rw[LC zmL rfl rfl];exact zdK
theorem zm5:X.fn iH=some gQ:=by kernel_rfl
theorem zaH {u0 u1 v0 v1:AV}{h h1:aA}{P:mA}(hp:zA h [u0,u1]=some ([v0,v1],h1)):kA X iH [u0,u1] h P=oN (kA X) X.gl v0 v1 h1 [] (wA [.t 3] false h.length P):=by rw[PA zm5 rfl hp rfl];exact zdn
theorem zmN:X.fn YE=some vM:=by kernel_rfl
theorem zaX {u0 u1 h P}:kA X YE [u0,u1] h P=JR (kA X) X.gl u0 u1 h [] (wA [.t 4] false h.length P):=by rw[LC zmN rfl rfl];exact zdM
theorem zmD:X.fn kD=some qQ:=by kernel_rfl
theorem zaO {u0 u1 u2 v0 v1 v2:AV}{h h1:aA}{P:mA}(hp:zA h [u0,u1,u2]=some ([v0,v1,v2],h1)):kA X kD [u0,u1,u2] h P=ER (kA X) X.gl v0 v1 v2 h1 [] (wA [.t 6] false h.length P):=by rw[PA zmD rfl hp rfl];exact zdx
theorem zlS:X.fn NC=some YL:=by kernel_rfl
theorem zag {u0 v0:AV}{h h1:aA}{P:mA}(hp:zA h [u0]=some ([v0],h1)):kA X NC [u0] h P=bG (kA X) X.gl gJ nO v0 h1 [] (wA [.t 2] false h.length P):=by rw[PA zlS rfl hp rfl];exact zbG
theorem zlY:X.fn ZG=some eM:=by kernel_rfl
theorem zam {u0 v0:AV}{h h1:aA}{P:mA}(hp:zA h [u0]=some ([v0],h1)):kA X ZG [u0] h P=qK (kA X) X.gl kJ gL v0 h1 [] (wA [.t 2] false h.length P):=by rw[PA zlY rfl hp rfl];exact zbT
theorem zmd:X.fn bH=some mM:=by kernel_rfl
theorem zar {u0 v0:AV}{h h1:aA}{P:mA}(hp:zA h [u0]=some ([v0],h1)):kA X bH [u0] h P=SM (kA X) X.gl lJ jL v0 h1 [] (wA [.t 2] false h.length P):=by rw[PA zmd rfl hp rfl];exact zcb
theorem zme:X.fn BF=some nM:=by kernel_rfl
theorem zas {u0 v0:AV}{h h1:aA}{P:mA}(hp:zA h [u0]=some ([v0],h1)):kA X BF [u0] h P=TM (kA X) X.gl mJ pO v0 h1 [] (wA [.t 2] true h.length P):=by rw[PA zme rfl hp rfl];exact zcf
theorem zlT:X.fn LB=some ZL:=by kernel_rfl
theorem zah {u0 u1 u2 v0 v1 v2:AV}{h h1:aA}{P:mA}(hp:zA h [u0,u1,u2]=some ([v0,v1,v2],h1)):kA X LB [u0,u1,u2] h P=YQ (kA X) X.gl v0 v1 v2 h1 [] (wA [.t 6] false h.length P):=by rw[PA zlT rfl hp rfl];exact zbJ
theorem zmy:X.fn VE=some YP:=by kernel_rfl
theorem zaB {u0 u1 u2 v0 v1 v2:AV}{h h1:aA}{P:mA}(hp:zA h [u0,u1,u2]=some ([v0,v1,v2],h1)):kA X VE [u0,u1,u2] h P=wR (kA X) X.gl v0 v1 v2 h1 [] (wA [.t 6] false h.length P):=by rw[PA zmy rfl hp rfl];exact zcR
theorem zmK:X.fn VC=some uM:=by kernel_rfl
theorem EX {u0 u1 h P}:kA X VC [u0,u1] h P=tN (kA X) X.gl u0 u1 h [] (wA [.t 4] false h.length P):=by rw[LC zmK rfl rfl];exact zdJ
theorem zm2:X.fn gH=some cQ:=by kernel_rfl
theorem zaF {u0 u1 v0 v1:AV}{h h1:aA}{P:mA}(hp:zA h [u0,u1]=some ([v0,v1],h1)):kA X gH [u0,u1] h P=nN (kA X) X.gl v0 v1 h1 [] (wA [.t 3] false h.length P):=by rw[PA zm2 rfl hp rfl];exact zdf
theorem zmR:X.fn PI=some zQ:=by kernel_rfl
theorem zbb {u0 u1 h P}:kA X PI [u0,u1] h P=xN (kA X) X.gl IJ QO u0 u1 h [] (wA [.t 4] false h.length P):=by rw[LC zmR rfl rfl];exact zdW
theorem zmX:X.fn ZE=some EQ:=by kernel_rfl
theorem zbh {u0 u1 u2 u3 u4 h P}:kA X ZE [u0,u1,u2,u3,u4] h P=CN (kA X) X.gl MJ u0 u1 u2 u3 u4 h [] (wA [] false h.length P):=by rw[LC zmX rfl rfl];exact zen
theorem zmo:X.fn mG=some NP:=by kernel_rfl
theorem za2 {u0 v0:AV}{h h1:aA}{P:mA}(hp:zA h [u0]=some ([v0],h1)):kA X mG [u0] h P=jR (kA X) X.gl v0 h1 [] (wA [.t 2] false h.length P):=by rw[PA zmo rfl hp rfl];exact zcz
theorem zmi:X.fn xI=some JP:=by kernel_rfl
theorem zaw {u0 u1 v0 v1:AV}{h h1:aA}{P:mA}(hp:zA h [u0,u1]=some ([v0,v1],h1)):kA X xI [u0,u1] h P=tK (kA X) X.gl v0 v1 h1 [] (wA [.t 4] false h.length P):=by rw[PA zmi rfl hp rfl];exact zcr
theorem zmU:X.fn oH=some BQ:=by kernel_rfl
theorem zbe {u0 h P}:kA X oH [u0] h P=LR (kA X) X.gl u0 h [] (wA [] false h.length P):=by rw[LC zmU rfl rfl];exact zee
theorem zmI:X.fn XE=some tM:=by kernel_rfl
theorem zaT {u0 h P}:kA X XE [u0] h P=EK (kA X) X.gl DJ LO u0 h [] (wA [.t 2] false h.length P):=by rw[LC zmI rfl rfl];exact zd9
theorem zmr:X.fn UE=some QP:=by kernel_rfl
theorem za5 {u0 u1 v0 v1:AV}{h h1:aA}{P:mA}(hp:zA h [u0,u1]=some ([v0,v1],h1)):kA X UE [u0,u1] h P=dN (kA X) X.gl vO v0 v1 h1 [] (wA [.t 4] false h.length P):=by rw[PA zmr rfl hp rfl];exact zcA
theorem zmw:X.fn CI=some WP:=by kernel_rfl
theorem BX {u0 u1 u2 v0 v1 v2:AV}{h h1:aA}{P:mA}(hp:zA h [u0,u1,u2]=some ([v0,v1,v2],h1)):kA X CI [u0,u1,u2] h P=iN (kA X) X.gl v0 v1 v2 h1 [] (wA [.t 6] false h.length P):=by rw[PA zmw rfl hp rfl];exact zcP
theorem zmx:X.fn AD=some XP:=by kernel_rfl
theorem zaA {u0 u1 v0 v1:AV}{h h1:aA}{P:mA}(hp:zA h [u0,u1]=some ([v0,v1],h1)):kA X AD [u0,u1] h P=vR (kA X) X.gl v0 v1 h1 [] (wA [.t 4] false h.length P):=by rw[PA zmx rfl hp rfl];exact zcQ
theorem zmE:X.fn oG=some rQ:=by kernel_rfl
theorem zaP {u0 u1 v0 v1:AV}{h h1:aA}{P:mA}(hp:zA h [u0,u1]=some ([v0,v1],h1)):kA X oG [u0,u1] h P=pN (kA X) X.gl AJ JO v0 v1 h1 [] (wA [.t 4] false h.length P):=by rw[PA zmE rfl hp rfl];exact zdy
theorem zmA:X.fn HI=some nQ:=by kernel_rfl
theorem zaL {u0 u1 v0 v1:AV}{h h1:aA}{P:mA}(hp:zA h [u0,u1]=some ([v0,v1],h1)):kA X HI [u0,u1] h P=nC (kA X) X.gl v0 v1 h1 [] (wA [.t 4] false h.length P):=by rw[PA zmA rfl hp rfl];exact zdu
theorem zmG:X.fn lH=some tQ:=by kernel_rfl
theorem zaR {u0 u1 v0 v1:AV}{h h1:aA}{P:mA}(hp:zA h [u0,u1]=some ([v0,v1],h1)):kA X lH [u0,u1] h P=qN (kA X) X.gl v0 v1 h1 [] (wA [.t 3] false h.length P):=by rw[PA zmG rfl hp rfl];exact zd5
theorem zm8:X.fn GI=some kQ:=by kernel_rfl
theorem zaJ {u0 u1 v0 v1:AV}{h h1:aA}{P:mA}(hp:zA h [u0,u1]=some ([v0,v1],h1)):kA X GI [u0,u1] h P=BR (kA X) X.gl v0 v1 h1 [] (wA [.t 4] false h.length P):=by rw[PA zm8 rfl hp rfl];exact zds
theorem zmC:X.fn kH=some pQ:=by kernel_rfl
theorem zaN {u0 u1 v0 v1:AV}{h h1:aA}{P:mA}(hp:zA h [u0,u1]=some ([v0,v1],h1)):kA X kH [u0,u1] h P=DR (kA X) X.gl v0 v1 h1 [] (wA [.t 3] false h.length P):=by rw[PA zmC rfl hp rfl];exact zdw
theorem zmQ:X.fn OI=some yQ:=by kernel_rfl
theorem zba {u0 u1 h P}:kA X OI [u0,u1] h P=wN (kA X) X.gl HJ PO u0 u1 h [] (wA [.t 4] false h.length P):=by rw[LC zmQ rfl rfl];exact zdT
theorem zmS:X.fn rG=some xM:=by kernel_rfl
theorem zbc {u0 u1 h P}:kA X rG [u0,u1] h P=yN (kA X) X.gl JJ RO u0 u1 h [] (wA [.t 4] false h.length P):=by rw[LC zmS rfl rfl];exact zdZ
theorem zlX:X.fn YG=some dM:=by kernel_rfl
theorem zal {u0 u1 v0 v1:AV}{h h1:aA}{P:mA}(hp:zA h [u0,u1]=some ([v0,v1],h1)):kA X YG [u0,u1] h P=AC (kA X) X.gl v0 v1 h1 [] (wA [.t 4] false h.length P):=by rw[PA zlX rfl hp rfl];exact zbS
theorem zmc:X.fn RD=some kM:=by kernel_rfl
theorem zaq {u0 v0:AV}{h h1:aA}{P:mA}(hp:zA h [u0]=some ([v0],h1)):kA X RD [u0] h P=sK (kA X) X.gl v0 h1 [] (wA [.t 2] false h.length P):=by rw[PA zmc rfl hp rfl];exact zca
theorem zlZ:X.fn jG=some fM:=by kernel_rfl
theorem zan {u0 u1 v0 v1:AV}{h h1:aA}{P:mA}(hp:zA h [u0,u1]=some ([v0,v1],h1)):kA X jG [u0,u1] h P=QM (kA X) X.gl v0 v1 h1 [] (wA [.t 3] false h.length P):=by rw[PA zlZ rfl hp rfl];exact zbX
theorem zmf:X.fn cH=some oM:=by kernel_rfl
theorem zat {u0 u1 u2 v0 v1 v2:AV}{h h1:aA}{P:mA}(hp:zA h [u0,u1,u2]=some ([v0,v1,v2],h1)):kA X cH [u0,u1,u2] h P=UM (kA X) X.gl v0 v1 v2 h1 [] (wA [.t 6] false h.length P):=by rw[PA zmf rfl hp rfl];exact zci
theorem zlW:X.fn XG=some bM:=by kernel_rfl
theorem zak {u0 u1 v0 v1:AV}{h h1:aA}{P:mA}(hp:zA h [u0,u1]=some ([v0,v1],h1)):kA X XG [u0,u1] h P=ZQ (kA X) X.gl v0 v1 h1 [] (wA [.t 4] false h.length P):=by rw[PA zlW rfl hp rfl];exact zbR
theorem zmO:X.fn mH=some wM:=by kernel_rfl
theorem zaY {u0 u1 h P}:kA X mH [u0,u1] h P=uN (kA X) X.gl FJ NO u0 u1 h [] (wA [.t 4] false h.length P):=by rw[LC zmO rfl rfl];exact zdN
theorem zmV:X.fn QI=some CQ:=by kernel_rfl
theorem zbf {u0 u1 u2 u3 h P}:kA X QI [u0,u1,u2,u3] h P=zN (kA X) X.gl KJ u0 u1 u2 u3 h [] (wA [] false h.length P):=by rw[LC zmV rfl rfl];exact zef
theorem zmp:X.fn zI=some OP:=by kernel_rfl
theorem za3 {u0 v0:AV}{h h1:aA}{P:mA}(hp:zA h [u0]=some ([v0],h1)):kA X zI [u0] h P=YM (kA X) X.gl sO v0 h1 [] (wA [.t 2] false h.length P):=by rw[PA zmp rfl hp rfl];exact zc0
theorem zml:X.fn dE=some LP:=by kernel_rfl
theorem zaz {u0 v0:AV}{h h1:aA}{P:mA}(hp:zA h [u0]=some ([v0],h1)):kA X dE [u0] h P=fR (kA X) X.gl v0 h1 [] (wA [.t 2] false h.length P):=by rw[PA zml rfl hp rfl];exact zcw
theorem zmY:X.fn aF=some FQ:=by kernel_rfl
theorem zbi {u0 u1 u2 u3 h P}:kA X aF [u0,u1,u2,u3] h P=DN (kA X) X.gl NJ u0 u1 u2 u3 h [] (wA [] false h.length P):=by rw[LC zmY rfl rfl];exact zes
theorem zna:X.fn SI=some GQ:=by kernel_rfl
theorem zbk {u0 u1 v0 v1:AV}{h h1:aA}{P:mA}(hp:zA h [u0,u1]=some ([v0,v1],h1)):kA X SI [u0,u1] h P=WR (kA X) X.gl v0 v1 h1 [] (wA [.t 4] false h.length P):=by rw[PA zna rfl hp rfl];exact zey
theorem zmP:X.fn NI=some xQ:=by kernel_rfl
theorem zaZ {u0 u1 h P}:kA X NI [u0,u1] h P=vN (kA X) X.gl GJ OO u0 u1 h [] (wA [.t 4] false h.length P):=by rw[LC zmP rfl rfl];exact zdQ
theorem zm9:X.fn jH=some mQ:=by kernel_rfl
theorem zaK {u0 u1 v0 v1:AV}{h h1:aA}{P:mA}(hp:zA h [u0,u1]=some ([v0,v1],h1)):kA X jH [u0,u1] h P=CR (kA X) X.gl v0 v1 h1 [] (wA [.t 3] false h.length P):=by rw[PA zm9 rfl hp rfl];exact zdt
theorem zma:X.fn aH=some iM:=by kernel_rfl
theorem zao {u0 u1 v0 v1:AV}{h h1:aA}{P:mA}(hp:zA h [u0,u1]=some ([v0,v1],h1)):kA X aH [u0,u1] h P=RM (kA X) X.gl v0 v1 h1 [] (wA [.t 4] false h.length P):=by rw[PA zma rfl hp rfl];exact zbY
theorem zmg:X.fn kG=some pM:=by kernel_rfl
theorem zau {u0 u1 v0 v1:AV}{h h1:aA}{P:mA}(hp:zA h [u0,u1]=some ([v0,v1],h1)):kA X kG [u0,u1] h P=VM (kA X) X.gl v0 v1 h1 [] (wA [.t 3] false h.length P):=by rw[PA zmg rfl hp rfl];exact zcj
theorem zmk:X.fn lG=some qM:=by kernel_rfl
theorem zay {u0 v0:AV}{h h1:aA}{P:mA}(hp:zA h [u0]=some ([v0],h1)):kA X lG [u0] h P=XM (kA X) X.gl oJ rO v0 h1 [] (wA [.t 2] false h.length P):=by rw[PA zmk rfl hp rfl];exact zct
theorem zmZ:X.fn BD=some yM:=by kernel_rfl
theorem zbj {u0 u1 v0 v1:AV}{h h1:aA}{P:mA}(hp:zA h [u0,u1]=some ([v0,v1],h1)):kA X BD [u0,u1] h P=VR (kA X) X.gl v0 v1 h1 [] (wA [.t 4] false h.length P):=by rw[PA zmZ rfl hp rfl];exact zex
theorem zmW:X.fn RI=some DQ:=by kernel_rfl
theorem zbg {u0 u1 u2 h P}:kA X RI [u0,u1,u2] h P=AN (kA X) X.gl LJ u0 u1 u2 h [] (wA [] false h.length P):=by rw[LC zmW rfl rfl];exact zej
theorem zmj:X.fn vE=some KP:=by kernel_rfl
theorem zax {u0 u1 v0 v1:AV}{h h1:aA}{P:mA}(hp:zA h [u0,u1]=some ([v0,v1],h1)):kA X vE [u0,u1] h P=eR (kA X) X.gl v0 v1 h1 [] (wA [.t 4] false h.length P):=by rw[PA zmj rfl hp rfl];exact zcs
theorem zmn:X.fn yI=some MP:=by kernel_rfl
theorem za1 {u0 u1 v0 v1:AV}{h h1:aA}{P:mA}(hp:zA h [u0,u1]=some ([v0,v1],h1)):kA X yI [u0,u1] h P=iR (kA X) X.gl v0 v1 h1 [] (wA [.t 4] false h.length P):=by rw[PA zmn rfl hp rfl];exact zcy
theorem zmH:X.fn pG=some sM:=by kernel_rfl
theorem zaS {u0 u1 u2 v0 v1 v2:AV}{h h1:aA}{P:mA}(hp:zA h [u0,u1,u2]=some ([v0,v1,v2],h1)):kA X pG [u0,u1,u2] h P=rN (kA X) X.gl CJ KO v0 v1 v2 h1 [] (wA [.t 6,.t 7] false h.length P):=by rw[PA zmH rfl hp rfl];exact zd6
theorem zmb:X.fn TE=some jM:=by kernel_rfl
theorem zap {u0 u1 v0 v1:AV}{h h1:aA}{P:mA}(hp:zA h [u0,u1]=some ([v0,v1],h1)):kA X TE [u0,u1] h P=aR (kA X) X.gl v0 v1 h1 [] (wA [.t 4] false h.length P):=by rw[PA zmb rfl hp rfl];exact zbZ
theorem zmm:X.fn dH=some rM:=by kernel_rfl
theorem za0 {u0 u1 v0 v1:AV}{h h1:aA}{P:mA}(hp:zA h [u0,u1]=some ([v0,v1],h1)):kA X dH [u0,u1] h P=gR (kA X) X.gl v0 v1 h1 [] (wA [.t 4] false h.length P):=by rw[PA zmm rfl hp rfl];exact zcx
attribute [go_sem] zc5 zc6 dS zc7 ZZ zc8 zc9 fS zfZ zga zgb OY mR uK PY aN QY nR cN zcT gS zgh XY kN zbP zbQ zfQ xY yY zcD zcF zcG z0a zcH zcI zcJ zcK zcL zcE HN
attribute [go_sem] IN JN KN LN zgd zge zgf zgg zgc SY pR TY fN UY qR VY rR WY oR vK UG lI mI nI zdi zdj zdk zdl zdm qI rI sI zgl zgm zgn zgo eZ fZ gZ hZ
attribute [go_sem] iZ cG dG eG zbL zbM zbN aS zfO zfP uY vY wY jI zcl zcm zcn zco zcp zcq zfW zfX HY bR IY cR JY dR zcW zcX zcY zcZ zda zdb zdc zdd zde iS jS kS
attribute [go_sem] zgi zgj zgk YY ZY yR aZ zR bZ cZ AR dZ xK oI yK zdH zdI zgw wZ xZ zdq zdr zgp jZ kZ zd2 zd3 zd4 lS zgr zgs nZ oZ pZ DK zbH zbI zfN sY tY
attribute [go_sem] zbU zbV zbW bS zfR zfS zY AY BY rK zcc zcd zce GN zfT zfU CY DY EY kI zcg zch zfV FY GY zdX zdY zg0 EZ FZ zeo zep zeq zer zg6 NZ OR PR QR zdA
attribute [go_sem] zdB zdC zdD zdE zdF zgu zgv sZ FR tZ uZ GR vZ zcB RY zdz zd0 zgq lZ mZ zdU zdV zgz CZ DZ zea zeb zg1 GZ IZ zdO zdP zgx yZ zZ zeg zeh zei zg2 zg3
attribute [go_sem] JZ KZ MR zc1 zc2 zc3 NY kR lR zet zeu zev zew zg7 OZ SR TR UR zdR zdS zgy AZ BZ zcu zcv zfY LY MY zek zel zem zg4 zg5 LZ MZ NR zd7 zd8 zgt qZ
attribute [go_sem] rZ ze1 ze2 ze3 ze4 zg8 zg9 PZ YR ZR QZ
end Go.Am
end
section
/- The stream of numbers out of which the laws draw. -/
open Go
namespace Go.Am
abbrev eI (n:Int):PV:=.int .i64 n
abbrev AL (l:List Int):AV:=.p (.sl none (l.map eI))
abbrev vA (L:List Int)(a:Int):Obj:=.box [AL L,AI a]
def WF (x n:Int):Int:=if n<1 then 0 else if x.tmod n<0 then IntKind.i64.wrap (x.tmod n+n) else x.tmod n
theorem z36 (x n:Int)(h:aA)(K:mA):kA X UE [AI x,AI n] h K=K (AI (WF x n)) h []:=by
 refine JA ?_;rw[za5 rfl];simp only[dN,go_sem];unfold WF;by_cases h1:n<1
 ·simp only[h1,if_true]
 ·simp only[h1,if_false,show ¬n=0 by omega]
  split <;> rfl
theorem z9F (x n:Int)(h1:1≤n)(h2:n≤4611686018427387904):0≤WF x n∧WF x n<n:=by
 unfold WF;rw[if_neg (by omega)]
 have:=Int.tmod_lt_of_pos x (show 0<n by omega)
 have h3 : -n<x.tmod n:=by
  have:=Int.lt_tmod_of_pos x (show 0<n by omega)
  exact this
 split
 ·rw[FA _ (by omega) (by omega)];omega
 ·omega
def DA (L:List Int)(a n:Int):Int:=
 if L.length=0 then WF (IntKind.i64.wrap ((a+1)*7919)) n
 else WF (IntKind.i64.wrap (WF (L.getD (a.tmod L.length).toNat 0) 1073741824+IntKind.i64.wrap (IntKind.i64.wrap (a.tdiv L.length)*IntKind.i64.wrap (7919+a.tmod L.length)))) n
theorem iE (L:List Int)(a n:Int)(h1:1≤n)(h2:n≤4611686018427387904):0≤DA L a n∧DA L a n<n:=by
 unfold DA;split <;> exact z9F _ _ h1 h2
theorem CG {h:aA}{id:Nat}{o':Obj}(hid:id<h.length):(h.set id o')[id]?=some o':=by simp [hid]
theorem WB {h:aA}{id:Nat}{o:Obj}(hh:h[id]?=some o):id<h.length:=(List.getElem?_eq_some_iff.1 hh).1
def sA (n:Nat)(a:Int):Prop:=0≤a∧a+n<4611686018427387904
theorem zjp {n m:Nat}{a b:Int}(H:sA m a)(h:a≤b)(hn:b+n≤a+m):sA n b:=by unfold sA at *;omega
theorem z3a {a:Int}(H:sA 14 a):sA 0 (a)∧sA 0 (a+1)∧sA 0 (a+1+1)∧sA 0 (a+1+1+1)∧sA 0 (a+1+1+1+1)∧sA 0 (a+1+1+1+1+1)∧sA 0 (a+1+1+1+1+1+1)∧sA 0 (a+1+1+1+1+1+1+1)∧sA 0 (a+1+1+1+1+1+1+1+1)∧sA 0 (a+1+1+1+1+1+1+1+1+1)∧sA 0 (a+1+1+1+1+1+1+1+1+1+1)∧sA 0 (a+1+1+1+1+1+1+1+1+1+1+1)∧sA 0 (a+1+1+1+1+1+1+1+1+1+1+1+1)∧sA 0 (a+1+1+1+1+1+1+1+1+1+1+1+1+1)∧sA 0 (a+1+1+1+1+1+1+1+1+1+1+1+1+1+1):=by
 unfold sA at *;omega
def Gen (f:Nat)(args:List AV)(L:List Int)(a a2:Int)(v:AV):Prop:=∀(h:aA) (id:Nat) (K:mA),h[id]?=some (vA L a)→kA X f (.ref id 0::args) h K=K v (h.set id (vA L a2)) []
section
variable {f:Nat} {args:List AV} {L:List Int} {a a2:Int} {v:AV} {h l:aA} {id:Nat} {K:mA}
theorem Gen.set (g:Gen f args L a a2 v)(hid:id<h.length):kA X f (.ref id 0::args) (h.set id (vA L a)) K=K v (h.set id (vA L a2)) []:=by
 rw[g _ _ _ (CG hid),List.set_set]
theorem Gen.app (g:Gen f args L a a2 v)(hid:id<h.length):kA X f (.ref id 0::args) (h.set id (vA L a)++l) K=K v (h.set id (vA L a2)++l) []:=by
 rw[g _ _ _ (by rw[z1V (by simpa using hid)];exact CG hid),oP (by simpa using hid),List.set_set]
theorem Gen.hd (g:Gen f args L a a2 v):kA X f (.ref 0 0::args) (vA L a::l) K=K v (vA L a2::l) []:=by
 rw[g _ _ _ rfl];rfl
theorem Gen.of (H:∀ (h:aA) (id:Nat),id<h.length→kA X f (.ref id 0::args) (h.set id (vA L a)) fun v1 h1 x1=>v1=v∧h1=h.set id (vA L a2)∧x1=[]):Gen f args L a a2 v:=by
 intro h id K hh;have hid:=WB hh
 have:h.set id (vA L a)=h:=by
  apply List.ext_getElem?
  intro i;rw[List.getElem?_set];split
  ·rename_i e;subst e;rw[hh]
  ·rfl
 have k:=H h id hid
 rw[this]at k;exact JA k
end
def YD (f:Nat)(args:List AV)(L:List Int)(a:Int)(Q:AV→Int→Prop):Prop:=∀(h:aA) (id:Nat),h[id]?=some (vA L a)→∃v a2,Q v a2∧∀K:mA,kA X f (.ref id 0::args) h K=K v (h.set id (vA L a2)) []
section
variable {f:Nat} {args:List AV} {L:List Int} {a:Int} {Q:AV→Int→Prop}
theorem YD.set (g:YD f args L a Q){h:aA}{id:Nat}(hid:id<h.length):∃v a2,Q v a2∧∀K:mA,kA X f (.ref id 0::args) (h.set id (vA L a)) K=K v (h.set id (vA L a2)) []:=by
 obtain⟨v,a2,q,r⟩:=g _ _ (CG hid);exact⟨v,a2,q,fun K=>by rw[r,List.set_set]⟩
theorem YD.app (g:YD f args L a Q){h l:aA}{id:Nat}(hid:id<h.length):∃v a2,Q v a2∧∀K:mA,kA X f (.ref id 0::args) (h.set id (vA L a)++l) K=K v (h.set id (vA L a2)++l) []:=by
 obtain⟨v,a2,q,r⟩:=g (h.set id (vA L a)++l) id (by rw[z1V (by simpa using hid)];exact CG hid)
 exact⟨v,a2,q,fun K=>by rw[r,oP (by simpa using hid),List.set_set]⟩
theorem YD.hd (g:YD f args L a Q){l:aA}:∃v a2,Q v a2∧∀K:mA,kA X f (.ref 0 0::args) (vA L a::l) K=K v (vA L a2::l) []:=g (vA L a::l) 0 rfl
theorem YD.of (H:∀ (h:aA) (id:Nat),id<h.length→kA X f (.ref id 0::args) (h.set id (vA L a)) fun v1 h1 x1=>∃ a2,Q v1 a2∧h1=h.set id (vA L a2)∧x1=[]):YD f args L a Q:=by
 intro h id hh;have hid:=WB hh
 have:h.set id (vA L a)=h:=by
  apply List.ext_getElem?
  intro i;rw[List.getElem?_set];split
  ·rename_i e;subst e;rw[hh]
  ·rfl
 have k:=H h id hid
 rw[this]at k;obtain⟨v,h',x,⟨a2,q,e1,e2⟩,r⟩:=kA.one cK k;subst e1;subst e2
 exact⟨v,a2,q,r⟩
end
def BE (l:List Int)(L:List Int)(a:Int):Int:=l.getD (DA L a l.length).toNat 0
theorem zjh {l L:List Int}{a:Int}(hl:0<l.length)(hl2:l.length<4611686018427387904):BE l L a∈l:=by
 obtain⟨b1,b2⟩:=iE L a l.length (by omega) (by omega)
 unfold BE;have:(DA L a l.length).toNat<l.length:=by omega
 simp only[List.getD,List.getElem?_eq_getElem this,Option.getD_some];exact List.getElem_mem _
def isI:PV→Bool
 | .int .i64 _=>true
 | _=>false
def unI:PV→Int
 | .int _ n=>n
 | _=>0
theorem zlB {xs:List PV}(h:xs.all isI=true):xs=(xs.map unI).map eI:=by
 induction xs with
 | nil=>rfl
 | cons x r ih=>
  simp only[List.all_cons,Bool.and_eq_true]at h;simp only[List.map_cons];rw[←ih h.2];cases x with
  | int k n=>cases k <;> first|rfl|cases h.1
  | _=>cases h.1
set_option maxHeartbeats 400000 in
theorem z1Q (L:List Int)(a n:Int)(hp:sA 0 a):Gen zB [AI n] L a (a+1) (AI (DA L a n)):=by
 refine Gen.of fun h id hid=>?_
 rw[za9 rfl];obtain⟨h0,h1⟩:=hp;have w1:IntKind.i64.wrap (a+1)=a+1:=FA _ (by omega) (by omega)
 have w2:IntKind.i64.wrap (a+1-1)=a:=by rw[FA _ (by omega) (by omega)];omega
 have hs:∀o',(h.set id o')[id]?=some o':=fun o'=>CG hid
 rcases Nat.eq_zero_or_pos L.length with hl|hl
 ·simp only[gN,go_sem,hs,z36,hl,w1]
  simp only[DA,hl,if_true]
 ·have e1:((L.length:Int)=0)=False:=by simp only[eq_iff_iff,iff_false];omega
  have e2:0≤a.tmod L.length:=Int.tmod_nonneg _ h0
  have e3:a.tmod L.length<L.length:=Int.tmod_lt_of_pos _ (by omega)
  have e4:=iF (k:=.i64) e2
  have e5:(L.map eI)[(a.tmod L.length).toNat]?=some (eI (L.getD (a.tmod L.length).toNat 0)):=by
   rw[dB eI (show(a.tmod L.length).toNat<L.length by omega)]
   simp [List.getD,show(a.tmod L.length).toNat<L.length by omega]
  simp only[gN,go_sem,hs,z36,e1,w1,w2,e4,e5];simp only[DA,show ¬L.length=0 by omega,if_false]
section
variable {L:List Int} {a:Int} {h l:aA} {id:Nat} {K:mA}
theorem TJ (hid:id<h.length)(hp:sA 0 a)(n:Int):kA X zB [.ref id 0,AI n] (h.set id (vA L a)) K=K (AI (DA L a n)) (h.set id (vA L (a+1))) []:=(z1Q L a n hp).set hid
theorem z3C (hid:id<h.length)(hp:sA 0 a)(n:Int):kA X zB [.ref id 0,AI n] (h.set id (vA L a)++l) K=K (AI (DA L a n)) (h.set id (vA L (a+1))++l) []:=(z1Q L a n hp).app hid
theorem z1P (hp:sA 0 a)(n:Int):Gen rC [AI n] L a (a+1) (AB (decide (DA L a n=0))):=by
 refine Gen.of fun h id hid=>?_
 rw[za8 rfl];simp only[uR,go_sem,TJ hid hp]
theorem z3A (hid:id<h.length)(hp:sA 0 a)(n:Int):kA X rC [.ref id 0,AI n] (h.set id (vA L a)) K=K (AB (decide (DA L a n=0))) (h.set id (vA L (a+1))) []:=(z1P hp n).set hid
theorem z39 (hid:id<h.length)(hp:sA 0 a)(n:Int):kA X rC [.ref id 0,AI n] (h.set id (vA L a)++l) K=K (AB (decide (DA L a n=0))) (h.set id (vA L (a+1))++l) []:=(z1P hp n).app hid
theorem z1R (hp:sA 0 a)(xs:List PV)(hx:xs.all isI=true)(hl:0<xs.length)(hl2:xs.length<4611686018427387904) :
 Gen AD [.p (.sl none xs)] L a (a+1) (AI (BE (xs.map unI) L a)):=by
 refine Gen.of fun h id hid=>?_
 rw[zaA rfl];obtain⟨b1,b2⟩:=iE L a xs.length (by omega) (by omega)
 have e4:=iF (k:=.i64) b1
 have e5:xs[(DA L a xs.length).toNat]?=some (eI (BE (xs.map unI) L a)):=by
  have hm:=zlB hx
  generalize hq:xs.map unI=q at *;subst hm;simp only[List.length_map]at *;rw[dB eI (show(DA L a q.length).toNat<q.length by omega)]
  simp [BE,List.getD,show(DA L a q.length).toNat<q.length by omega]
 simp only[vR,go_sem,TJ hid hp,e4,e5]
theorem z3D (hid:id<h.length)(hp:sA 0 a){xs:List PV}(hx:xs.all isI=true)(hl:0<xs.length)(hl2:xs.length<4611686018427387904) :
 kA X AD [.ref id 0,.p (.sl none xs)] (h.set id (vA L a)) K=K (AI (BE (xs.map unI) L a)) (h.set id (vA L (a+1))) []:=(z1R hp xs hx hl hl2).set hid
theorem FL (hid:id<h.length)(hp:sA 0 a){xs:List PV}(hx:xs.all isI=true)(hl:0<xs.length)(hl2:xs.length<4611686018427387904) :
 kA X AD [.ref id 0,.p (.sl none xs)] (h.set id (vA L a)++l) K=K (AI (BE (xs.map unI) L a)) (h.set id (vA L (a+1))++l) []:=(z1R hp xs hx hl hl2).app hid
def NF (u v:Int)(L:List Int)(a:Int):Int:=u+DA L a (v-u+1)
theorem lU {u v:Int}(L:List Int)(a:Int)(h1:u≤v)(h2:v≤u+4611686018427387900):u≤NF u v L a∧NF u v L a≤v:=by
 have:=iE L a (v-u+1) (by omega) (by omega)
 unfold NF;omega
theorem z1S (hp:sA 0 a)(u v:Int)(huv:u≤v)(hu : -1152921504606846976≤u)(hv:v≤1152921504606846976) :
 Gen VE [AI u,AI v] L a (a+1) (AI (NF u v L a)):=by
 refine Gen.of fun h id hid=>?_
 rw[zaB rfl];obtain⟨b1,b2⟩:=lU L a huv (by omega)
 have w1:IntKind.i64.wrap (v-u)=v-u:=FA _ (by omega) (by omega)
 have w2:IntKind.i64.wrap (v-u+1)=v-u+1:=FA _ (by omega) (by omega)
 have w3:IntKind.i64.wrap (u+DA L a (v-u+1))=NF u v L a:=FA (NF u v L a) (by omega) (by omega)
 simp only[wR,go_sem,show ¬v<u by omega,w1,w2,TJ hid hp,w3]
theorem z3F (hid:id<h.length)(hp:sA 0 a){u v:Int}(huv:u≤v)(hu : -1152921504606846976≤u)(hv:v≤1152921504606846976) :
 kA X VE [.ref id 0,AI u,AI v] (h.set id (vA L a)) K=K (AI (NF u v L a)) (h.set id (vA L (a+1))) []:=(z1S hp u v huv hu hv).set hid
theorem z3E (hid:id<h.length)(hp:sA 0 a){u v:Int}(huv:u≤v)(hu : -1152921504606846976≤u)(hv:v≤1152921504606846976) :
 kA X VE [.ref id 0,AI u,AI v] (h.set id (vA L a)++l) K=K (AI (NF u v L a)) (h.set id (vA L (a+1))++l) []:=(z1S hp u v huv hu hv).app hid
end
attribute [go_sem ↓] TJ z3C z3A z39 z3D FL z3F z3E
attribute [go_sem] TJ z3C z3A z39 z3D FL z3F z3E isI unI
end Go.Am
end
section
/- Plain laws of fractions in lowest terms. -/
namespace Go.Am
end Go.Am
end
section
/- Small functions of numbers and of lists of numbers. -/
open Go
namespace Go.Am
variable {h:aA} {K:mA}
theorem s_Out (n a b:Int):kA X LB [AI n,AI a,AI b] h K=K (AB (decide (n<a)||decide (b<n))) h []:=by
 refine JA ?_;rw[zah rfl];by_cases h1:n<a <;> simp only[YQ,go_sem,h1]
theorem HL (n a b:Int):kA X kD [AI n,AI a,AI b] h K=K (AB (decide (a≤n)&&decide (n≤b))) h []:=by
 refine JA ?_;rw[zaO rfl];by_cases h1:a≤n <;> simp only[ER,go_sem,h1]
theorem zh1 (n a b:Int):(decide (n<a)||decide (b<n)) = !(decide (a≤n)&&decide (n≤b)):=by
 rw[Bool.eq_iff_iff];simp
theorem PU (n:Int)(h1:0≤n)(h2:n<18446744073709551616):IntKind.u64.wrap n=n:=by
 simp [IntKind.wrap,IntKind.bits,IntKind.signed];omega
abbrev AU (n:Int):AV:=.p (.int .u64 n)
end Go.Am
end
section
/- Functions of lists. -/
open Go
namespace Go.Am
variable {h:aA} {K:mA}
def MD (g:Nat)(caps:List AV)(p:PV→Bool)(xs:List PV)(h:aA):Prop:=∀x∈xs,∀K:mA,kA X g (.p x::caps) h K=K (AB (p x)) h []
def SD (p:PV→Bool)(xs:List PV):Int:=if xs.findIdx p<xs.length then(xs.findIdx p:Int) else -1
theorem LS (p:PV→Bool)(xs:List PV):decide (0≤SD p xs)=xs.any p:=by
 unfold SD;rw[Bool.eq_iff_iff];by_cases h:xs.findIdx p<xs.length
 ·rw[if_pos h];simp only[decide_eq_true_eq,List.any_eq_true]
  exact⟨fun _=>⟨_,List.getElem_mem h,List.findIdx_getElem⟩,fun _=>by omega⟩
 ·rw[if_neg h];simp only[decide_eq_true_eq,List.any_eq_true]
  refine⟨fun h=>by omega,fun⟨x,hx,hp⟩=>absurd (List.findIdx_lt_length_of_exists ⟨x,hx,hp⟩) h⟩
end Go.Am
end
section
/- Plain lists: insertion sort asv Go's package slices does it on short lists;deleting;compacting. -/
namespace Go.Am
variable {α:Type}
def IB (lt:α→α→Bool)(x:α):List α→List α
 | []=>[x]
 | y::r=>bif lt x y then y::IB lt x r else x::y::r
def OC (lt:α→α→Bool)(l:List α):List α:=l.foldl (fun r x=>IB lt x r) []
def CB (lt:α→α→Bool)(l:List α):List α:=(OC lt l).reverse
theorem MS (lt:α→α→Bool)(x:α):∀r:List α,(IB lt x r).Perm (x::r)
 | []=>.refl _
 | y::r=>by
  unfold IB;cases lt x y with
  | true=>exact((MS lt x r).cons y).trans (.swap _ _ _)
  | false=>exact .refl _
theorem z2f (lt:α→α→Bool):∀(l r:List α),(l.foldl (fun r x=>IB lt x r) r).Perm (l++r)
 | [],r=>.refl _
 | x::l,r=>by
  simp only[List.foldl_cons,List.cons_append];refine(z2f lt l _).trans ?_;exact((MS lt x r).append_left l).trans (List.perm_middle)
theorem ZN (lt:α→α→Bool)(l:List α):(OC lt l).Perm l:=by
 have:=z2f lt l [];rwa [List.append_nil]at this
theorem z2k (lt:α→α→Bool)(l:List α):(CB lt l).Perm l:=(List.reverse_perm _).trans (ZN lt l)
theorem zf8 (lt:α→α→Bool)(l:List α):(CB lt l).length=l.length:=(z2k lt l).length_eq
theorem zf9 {lt:α→α→Bool}{l:List α}{x:α}:x∈CB lt l↔x∈l:=(z2k lt l).mem_iff
theorem z2e (lt:α→α→Bool)(l:List α):(OC lt l).length=l.length:=(ZN lt l).length_eq
structure Weak (lt:α→α→Bool):Prop where
 asym:∀a b,lt a b=true→lt b a=false
 ntrans:∀a b c,lt b a=false→lt c b=false→lt c a=false
theorem z1Z {lt:α→α→Bool}(w:Weak lt)(x:α):∀r:List α,r.Pairwise (fun a b=>lt a b=false)→(IB lt x r).Pairwise (fun a b=>lt a b=false)
 | [],_=>by simp [IB]
 | y::r,h=>by
  unfold IB;rw[List.pairwise_cons]at h;cases hxy:lt x y with
  | true=>
   rw[cond_true,List.pairwise_cons];refine⟨fun z hz=>?_,z1Z w x r h.2⟩
   rcases List.mem_cons.1 ((MS lt x r).mem_iff.1 hz) with rfl|hz
   ·exact w.asym _ _ hxy
   ·exact h.1 z hz
  | false=>
   rw[cond_false,List.pairwise_cons,List.pairwise_cons];refine⟨fun z hz=>?_,h⟩
   rcases List.mem_cons.1 hz with rfl|hz
   ·exact hxy
   ·exact w.ntrans _ _ _ (h.1 z hz) hxy
theorem z2g {lt:α→α→Bool}(w:Weak lt):∀(l r:List α),r.Pairwise (fun a b=>lt a b=false)→(l.foldl (fun r x=>IB lt x r) r).Pairwise (fun a b=>lt a b=false)
 | [],r,h=>h
 | x::l,r,h=>z2g w l _ (z1Z w x r h)
theorem zfA {lt:α→α→Bool}(w:Weak lt)(l:List α):(CB lt l).Pairwise (fun a b=>lt b a=false):=by
 unfold CB;rw[List.pairwise_reverse];exact z2g w l [] .nil
theorem z2h (lt:α→α→Bool)(l:List α)(k:Nat)(hk:k<l.length):OC lt (l.take (k+1))=IB lt l[k] (OC lt (l.take k)):=by
 rw[List.take_succ_eq_append_getElem hk];unfold OC;rw[List.foldl_append];rfl
theorem z24 {β:Type}(f:α→β){lt:α→α→Bool}{lt':β→β→Bool}(h:∀ a b,lt' (f a) (f b)=lt a b)(x:α):∀r:List α,IB lt' (f x) (r.map f)=(IB lt x r).map f
 | []=>rfl
 | y::r=>by
  simp only[List.map_cons,IB,h];cases lt x y with
  | true=>simp only[cond_true,List.map_cons,z24 f h x r]
  | false=>rfl
theorem z2a (lt:α→α→Bool)(x:α)(A:List α):∀B:List α,(∀b∈B,lt x b=true)→IB lt x (B++A)=B++IB lt x A
 | [],_=>rfl
 | b::B,h=>by
  simp only[List.cons_append,IB,h b (by simp),cond_true]
  rw[z2a lt x A B (fun b hb=>h b (by simp [hb]))]
theorem z2b (A C:List α)(x:α):(A.reverse++x::C)[A.length]?=some x:=by
 rw[List.getElem?_append_right (by simp)];simp
theorem z2c (A C:List α)(x y:α):((y::A).reverse++x::C)[A.length]?=some y:=by
 rw[List.getElem?_append_left (by simp)];simp
theorem z2d (A C:List α)(x y:α):(((y::A).reverse++x::C).set (A.length+1) y).set A.length x=A.reverse++x::y::C:=by
 have e:(y::A).reverse++x::C=A.reverse++y::x::C:=by simp
 rw[e,List.set_append_right _ _ (by simp),List.length_reverse,Nat.add_sub_cancel_left,List.set_append_right _ _ (by simp),List.length_reverse,Nat.sub_self]
 rfl
theorem YN (lt:α→α→Bool)(x:α)(A B:List α)(hB:∀ b∈B,lt x b=true)(hA:∀ y r,A=y::r→lt x y=false):IB lt x (B++A)=B++x::A:=by
 rw[z2a lt x A B hB];cases A with
 | nil=>rfl
 | cons y r=>simp only[IB,hA y r rfl,cond_false]
theorem z2i {β:Type}(f:α→β){lt:α→α→Bool}{lt':β→β→Bool}(h:∀ a b,lt' (f a) (f b)=lt a b)(l:List α):CB lt' (l.map f)=(CB lt l).map f:=by
 have key:∀(l r:List α),(l.map f).foldl (fun r x=>IB lt' x r) (r.map f)=(l.foldl (fun r x=>IB lt x r) r).map f:=by
  intro l;induction l with
  | nil=>intro r;rfl
  | cons x l ih=>intro r;simp only[List.map_cons,List.foldl_cons,z24 f h,ih]
 unfold CB OC;have:=key l [];simp only[List.map_nil]at this;rw[this,List.map_reverse]
end Go.Am
namespace Go.Am
variable {α:Type}
def xD (q:α→α→Bool)(prev:α):List α→List α
 | []=>[]
 | x::r=>bif q x prev then xD q x r else x::xD q x r
def NB (q:α→α→Bool):List α→List α
 | []=>[]
 | x::r=>x::xD q x r
theorem eY (q:α→α→Bool):∀(l:List α) (p:α),(xD q p l).length≤l.length
 | [],_=>Nat.le_refl _
 | x::r,p=>by
  unfold xD;have:=eY q r x;cases q x p with
  | true=>simp only[cond_true,List.length_cons];omega
  | false=>simp only[cond_false,List.length_cons];omega
theorem zby (q:α→α→Bool)(l:List α):(NB q l).length≤l.length:=by
 cases l with
 | nil=>exact Nat.le_refl _
 | cons x r=>have:=eY q r x;simp only[NB,List.length_cons];omega
theorem XQ (q:α→α→Bool):∀(l:List α) (p:α),∀x∈xD q p l,x∈l
 | [],_,x,h=>h
 | y::r,p,x,h=>by
  unfold xD at h;cases hq:q y p with
  | true=>rw[hq]at h;exact List.mem_cons_of_mem _ (XQ q r y x h)
  | false=>
   rw[hq]at h;rcases List.mem_cons.1 h with rfl|h
   ·simp
   ·exact List.mem_cons_of_mem _ (XQ q r y x h)
theorem zb0 {q:α→α→Bool}{l:List α}{x:α}(h:x∈NB q l):x∈l:=by
 cases l with
 | nil=>exact h
 | cons y r=>
  rcases List.mem_cons.1 h with rfl|h
  ·simp
  ·exact List.mem_cons_of_mem _ (XQ q r y x h)
theorem fY (q:α→α→Bool)(z:α):∀(l:List α) (p:α),xD q p (l++[z])=xD q p l++(bif q z ((p::l).getLast (by simp)) then [] else [z])
 | [],p=>by simp only[List.nil_append,xD,List.getLast_singleton]
 | x::r,p=>by
  simp only[List.cons_append,xD,fY q z r x];have e:(p::x::r).getLast (by simp)=(x::r).getLast (by simp):=List.getLast_cons (by simp)
  rw[e];cases q x p <;> rfl
theorem kY (q:α→α→Bool)(l:List α)(k:Nat)(hk:k+1<l.length):NB q (l.take (k+1+1))=NB q (l.take (k+1))++(bif q l[k+1] l[k] then [] else [l[k+1]]):=by
 rw[List.take_succ_eq_append_getElem hk];cases l with
 | nil=>simp at hk
 | cons x r=>
  simp only[List.take_succ_cons,List.cons_append,NB,fY];have e:(x::r.take k).getLast (by simp)=(x::r)[k]:=by
   have:x::r.take k=(x::r).take (k+1):=rfl
   simp only[this];rw[List.getLast_eq_getElem];simp only[List.getElem_take];congr 1
   simp only[List.length_take,List.length_cons]at hk ⊢;omega
  rw[e]
theorem zbz {β:Type}(f:α→β){q:α→α→Bool}{q':β→β→Bool}(h:∀ a b,q' (f a) (f b)=q a b)(l:List α):NB q' (l.map f)=(NB q l).map f:=by
 have key:∀(l:List α) (p:α),xD q' (f p) (l.map f)=(xD q p l).map f:=by
  intro l;induction l with
  | nil=>intro p;rfl
  | cons x r ih=>
   intro p;simp only[List.map_cons,xD,h,ih];cases q x p <;> rfl
 cases l with
 | nil=>rfl
 | cons x r=>simp only[List.map_cons,NB,key]
end Go.Am
end
section
/- Values of a shape: loads and stores in rows. -/
open Go
namespace Go.Am
variable {h:aA} {K:mA}
theorem oF {sh:Sh}{x:PV}(hx:x.shp sh=true):IA sh 0 x=some x:=by
 cases sh with
 | none=>exact zb9 hx
 | some n=>
  cases x with
  | agg cs=>
   simp only[PV.shp,Bool.and_eq_true,beq_iff_eq]at hx;simp [IA,hx.1];exact List.take_of_length_le (by omega)
  | _=>cases hx
theorem KL {sh:Sh}{x:PV}(hx:x.shp sh=true):x.cells.length=jA sh:=by
 cases sh with
 | none=>cases x <;> first|rfl|cases hx
 | some n=>
  cases x with
  | agg cs=>simp only[PV.shp,Bool.and_eq_true,beq_iff_eq]at hx;exact hx.1
  | _=>cases hx
theorem JL {sh:Sh}{x:PV}(hx:x.shp sh=true):x.cells.all PV.sc=true:=by
 cases sh with
 | none=>cases x <;> first|rfl|cases hx
 | some n=>
  cases x with
  | agg cs=>simp only[PV.shp,Bool.and_eq_true,beq_iff_eq]at hx;exact hx.2
  | _=>cases hx
theorem LL {sh:Sh}{x y:PV}(hx:x.shp sh=true)(hy:y.shp sh=true)(id i fz:Nat)(xs:List PV)(h1:aA):stE sh id i 0 fz sh xs x h1 (some y)=some (.und,h1.set id (.row sh (xs.set i x) fz),[]):=by
 cases sh with
 | none=>
  cases y with
  | agg cs=>cases hy
  | _=>simp only[PV.shp]at hx;simp [stE,hx]
 | some n=>
  cases y with
  | agg cs=>
   cases x with
   | agg ds=>
    simp only[PV.shp,Bool.and_eq_true,beq_iff_eq]at hx hy;simp [stE,PV.cells,splice,hx.1,hy.1,show cs.drop n=[] from List.drop_of_length_le (by omega)]
   | _=>cases hx
  | _=>cases hy
def jC (sh:Sh)(xs:List PV):Prop:=∀x∈xs,x.shp sh=true
theorem MH {sh:Sh}{xs:List PV}(hx:jC sh xs){i:Nat}(hi:i<xs.length):xs[i].shp sh=true:=hx _ (List.getElem_mem hi)
theorem UJ {h:aA}{id:Nat}{o:Obj}(hh:h[id]?=some o):h.set id o=h:=by
 apply List.ext_getElem?
 intro i;rw[List.getElem?_set];split
 ·rename_i e;subst e;rw[hh];simp [WB hh]
 ·rfl
def Cmps (g:Nat)(caps:List AV)(c:PV→PV→Int)(xs:List PV)(id:Nat)(h:aA):Prop:=∀(o:Obj) (x:PV),x∈xs→∀y,y∈xs→∀K:mA,kA X g (.p x :: .p y::caps) (h.set id o) K=K (AI (c x y)) (h.set id o) []
def ltC (c:PV→PV→Int)(a b:PV):Bool:=decide (c a b<0)
structure Shows (sh:Sh) (v:AV) (xs:List PV) (h:aA):Prop where
 len:AA v=some (AI xs.length)
 get:∀(k:Nat) (hk:k<xs.length),∃a,uA sh v (AI k) h=some a∧lA sh a h=some (.p xs[k])
theorem IU {sh:Sh}{xs:List PV}(hs:jC sh xs):Shows sh (.p (.sl sh xs)) xs h:=by
 refine⟨rfl,fun k hk=>⟨.vp xs[k],?_,?_⟩⟩
 ·simp [uA,gB,hk]
 ·simp only[z2x,oF (MH hs hk)];rfl
theorem pP {sh:Sh}{id off len fz:Nat}{xs:List PV}(hs:jC sh xs)(hh:h[id]?=some (.row sh xs fz))(hl:off+len≤xs.length):Shows sh (.own id xs.length off len) (win xs off len) h:=by
 have hw:(win xs off len).length=len:=by simp [win];omega
 refine⟨by rw[hw];rfl,fun k hk=>⟨.rref id xs.length (off+k) 0,?_,?_⟩⟩
 ·rw[hw]at hk
  simp [uA,gB,hh,hl,hk]
 ·have hk':off+k<xs.length:=by rw[hw]at hk;omega
  have e:(win xs off len)[k]=xs[off+k]:=by simp [win]
  rw[e];simp only[z2w,hh,z2r,if_true,List.getElem?_eq_getElem hk',Option.bind_some,oF (MH hs hk'),Option.map_some]
theorem zkO {sh:Sh}{id fz:Nat}{xs:List PV}(hs:jC sh xs)(hh:h[id]?=some (.row sh xs fz)):Shows sh (.own id xs.length 0 xs.length) xs h:=by
 have:=pP hs hh (off:=0) (len:=xs.length) (by omega)
 rwa [z4v]at this
end Go.Am
end
section
/- Strings: keys,the library's functions without text. -/
open Go
set_option linter.unusedSimpArgs false
namespace Go.Am
variable {h:aA} {K:mA}
abbrev AS (s:List UInt8):AV:=.p (.str s)
theorem QW:X.ext=VG RE SE:=rfl
theorem zk2 (s:List UInt8)(c:UInt8):kA X RE [AS s,.p (.int .u8 c.toNat)] h K=K (AI (yE s c)) h []:=by
 have:=z0r (X:=X) (f:=RE) (asv:=[AS s,.p (.int .u8 c.toNat)]) (vs:=[.str s,.int .u8 c.toNat]) (h:=h) (h1:=h) (r:=.int .i64 (yE s c)) (K:=K) (by kernel_rfl) rfl rfl rfl ?_
 ·exact this
 ·rw[QW]
  unfold VG;rw[show Nat.beq RE RE=true from by kernel_rfl]
  simp
theorem zkx (a b:List UInt8):kA X SE [AS a,AS b] h K=K (AI (rA a b)) h []:=by
 have:=z0r (X:=X) (f:=SE) (asv:=[AS a,AS b]) (vs:=[.str a,.str b]) (h:=h) (h1:=h) (r:=.int .i64 (rA a b)) (K:=K) (by kernel_rfl) rfl rfl rfl ?_
 ·exact this
 ·rw[QW]
  unfold VG;rw[show Nat.beq SE RE=false from by kernel_rfl,show Nat.beq SE SE=true from by kernel_rfl]
  rfl
theorem nP (a b:List UInt8):kA X BD [AS a,AS b] h K=K (AI (rA a b)) h []:=by
 have key:∀(h:aA) (K:mA),kA X dH [AS a,AS b] h K=K (AI (rA a b)) h []:=by
  intro h K;refine JA ?_;rw[za0 rfl];simp only[gR,go_sem,zkx]
 refine JA ?_;rw[zbj rfl];simp only[VR,go_sem,key]
theorem z3B (s:List UInt8)(c:UInt8):kA X SI [AS s,.p (.int .u8 c.toNat)] h K=K (AI (yE s c)) h []:=by
 have key:∀(h:aA) (K:mA),kA X yI [AS s,.p (.int .u8 c.toNat)] h K=K (AI (yE s c)) h []:=by
  intro h K;refine JA ?_;rw[za1 rfl];simp only[iR,go_sem,zk2]
 refine JA ?_;rw[zbk rfl];simp only[WR,go_sem,key]
theorem PE:∀ {a b:List UInt8},rA a b=0→a=b
 | [],[],_=>rfl
 | [],_::_,h=>by simp [rA]at h
 | _::_,[],h=>by simp [rA]at h
 | x::a,y::b,h=>by
  simp only[rA]at h;split at h
  ·cases h
  ·split at h
   ·cases h
   ·rename_i h1 h2
    have:x=y:=UInt8.le_antisymm (UInt8.not_lt.1 h2) (UInt8.not_lt.1 h1)
    rw[this,PE h]
theorem bE:∀ a b,rA b a = - rA a b
 | [],[]=>rfl
 | [],_::_=>rfl
 | _::_,[]=>rfl
 | x::a,y::b=>by
  simp only[rA];by_cases h1:x<y
  ·have h2:¬y<x:=UInt8.lt_asymm h1
   simp [h1,h2]
  ·by_cases h2:y<x
   ·simp [h1,h2]
   ·simp [h1,h2,bE a b]
theorem dY:∀ a b,rA a b = -1∨rA a b=0∨rA a b=1
 | [],[]=>.inr (.inl rfl)
 | [],_::_=>.inl rfl
 | _::_,[]=>.inr (.inr rfl)
 | x::a,y::b=>by
  simp only[rA];split
  ·exact .inl rfl
  ·split
   ·exact .inr (.inr rfl)
   ·exact dY a b
theorem fI:∀ {a b c:List UInt8},rA a b<0→rA b c<0→rA a c<0
 | [],[],_,h,_=>by simp [rA]at h
 | [],_::_,[],_,h=>by simp [rA]at h
 | [],_::_,_::_,_,_=>by simp [rA]
 | _::_,[],_,h,_=>by simp [rA]at h
 | _::_,_::_,[],_,h=>by simp [rA]at h
 | x::a,y::b,z::c,h1,h2=>by
  simp only[rA]at h1 h2 ⊢;by_cases hxy:x<y
  ·by_cases hyz:y<z
   ·simp [UInt8.lt_trans hxy hyz]
   ·by_cases hzy:z<y
    ·simp [hyz,hzy]at h2
    ·have:y=z:=UInt8.le_antisymm (UInt8.not_lt.1 hzy) (UInt8.not_lt.1 hyz)
     subst this;simp [hxy]
  ·by_cases hyx:y<x
   ·simp [hxy,hyx]at h1
   ·have:x=y:=UInt8.le_antisymm (UInt8.not_lt.1 hyx) (UInt8.not_lt.1 hxy)
    subst this;simp only[UInt8.lt_irrefl,if_false]at h1;by_cases hyz:x<z
    ·simp [hyz]
    ·by_cases hzy:z<x
     ·simp [hyz,hzy]at h2
     ·simp only[hyz,hzy,if_false]at h2 ⊢
      exact fI h1 h2
def fE (c:UInt8):Bool:=decide ((97:Int)≤c.toNat)&&decide ((c.toNat:Int)≤122)||decide ((48:Int)≤c.toNat)&&decide ((c.toNat:Int)≤57)||decide ((c.toNat:Int)=45)||decide ((c.toNat:Int)=95)
def xB (s:List UInt8):Bool:=match s with
 | []=>false
 | c::r=>decide (r.length<40)&&(decide ((97:Int)≤c.toNat)&&decide ((c.toNat:Int)≤122))&&(c::r).all fE
theorem yU (s:List UInt8)(hl:s.length≤1000000000):kA X NC [AS s] h K=K (AB (xB s)) h []:=by
 refine JA ?_;rw[zag rfl];cases s with
 | nil=>simp only[bG,go_sem,xB]
 | cons c r=>
  have n0:((c::r)=[])=False:=by simp
  have e1:(((r.length+1:Nat):Int)≤40)=(r.length<40):=by simp only[eq_iff_iff];omega
  by_cases h1:(40:Int)<((r.length+1:Nat):Int)
  ·have:¬r.length<40:=by omega
   simp only[bG,go_sem,n0,h1,xB,this]
  have h1':r.length<40:=by omega
  by_cases h2:(c.toNat:Int)<97
  ·have:¬(97:Int)≤c.toNat:=by omega
   simp only[bG,go_sem,n0,h1,h2,xB,this,h1']
  have h2':(97:Int)≤c.toNat:=by omega
  by_cases h3:(122:Int)<c.toNat
  ·have:¬(c.toNat:Int)≤122:=by omega
   simp only[bG,go_sem,n0,h1,h2,h3,xB,this,h1',h2']
  have h3':(c.toNat:Int)≤122:=by omega
  have ek:xB (c::r)=(c::r).all fE:=by simp [xB,h1',h2',h3']
  rw[ek];generalize hB:(c::r).all fE=B;simp only[bG,go_sem,n0,h1,h2,h3];have hlen:(c::r).length=r.length+1:=rfl
  rw[←hlen];generalize c::r=s at *;refine UA (fun k:Nat=>⟨[(0,AS s),(23,AI s.length),(24,AI k)],h,[]⟩) (fun k=>k≤s.length∧(s.take k).all fE=true) (fun k=>s.length-k) 0 rfl ⟨by omega,rfl⟩ ?_
  rintro k ⟨hk,hp⟩
  rcases Nat.lt_or_ge k s.length with hlt|hge
  ·have hg:s[k]?=some s[k]:=List.getElem?_eq_getElem hlt
   have w2:IntKind.i64.wrap ((k:Int)+1)=((k+1:Nat):Int):=FA _ (by omega) (by omega)
   generalize hc:s[k]=c at *;have key:(decide ((97:Int)≤c.toNat)&&decide ((c.toNat:Int)≤122)||decide ((48:Int)≤c.toNat)&&decide ((c.toNat:Int)≤57)||decide ((c.toNat:Int)=45)||decide ((c.toNat:Int)=95))=fE c:=rfl
   cases hkc:fE c with
   | true=>
    rw[hkc]at key;have hn:(s.take (k+1)).all fE=true:=by rw[List.take_succ_eq_append_getElem hlt,List.all_append,hp,hc];simp [hkc]
    by_cases b1:(97:Int)≤c.toNat <;> by_cases b2:(c.toNat:Int)≤122 <;> by_cases b3:(48:Int)≤c.toNat <;> by_cases b4:(c.toNat:Int)≤57 <;> by_cases b5:(c.toNat:Int)=45 <;> by_cases b6:(c.toNat:Int)=95
    all_goals first
     | (simp only[b1,b2,b3,b4,b5,b6,decide_true,decide_false,Bool.and_self,Bool.and_true,Bool.and_false,Bool.or_self,Bool.or_true,Bool.or_false,Bool.true_or,Bool.false_or,Bool.false_and,reduceCtorEq]at key;done)
     | (exfalso;omega)
     | (simp only[go_sem,hlt,hg,w2,b1,b2,b3,b4,b5,b6];exact⟨k+1,rfl,⟨by omega,hn⟩,by omega⟩)
   | false=>
    rw[hkc]at key;have hn:s.all fE=false:=by rw[List.all_eq_false];exact⟨_,List.getElem_mem hlt,by rw[hc,hkc];simp⟩
    rw[hn]at hB;subst hB;by_cases b1:(97:Int)≤c.toNat <;> by_cases b2:(c.toNat:Int)≤122 <;> by_cases b3:(48:Int)≤c.toNat <;> by_cases b4:(c.toNat:Int)≤57 <;> by_cases b5:(c.toNat:Int)=45 <;> by_cases b6:(c.toNat:Int)=95
    all_goals first
     | (simp only[b1,b2,b3,b4,b5,b6,decide_true,decide_false,Bool.and_self,Bool.and_true,Bool.and_false,Bool.or_self,Bool.or_true,Bool.or_false,Bool.true_or,Bool.false_or,Bool.false_and,reduceCtorEq]at key;done)
     | (exfalso;omega)
     | (simp only[go_sem,hlt,hg,b1,b2,b3,b4,b5,b6])
  ·have ek:k=s.length:=by omega
   subst ek;rw[List.take_length,hB]at hp;subst hp;simp only[go_sem,Nat.lt_irrefl]
theorem zfv (s:List UInt8)(c:UInt8):decide (yE s c<0) = !s.contains c:=by
 unfold yE;rw[Bool.eq_iff_iff];by_cases hf:s.findIdx (· == c)<s.length
 ·rw[if_pos hf]
  have:=List.findIdx_getElem (w:=hf);simp only[beq_iff_eq]at this;have hm:c∈s:=by rw[←this];exact List.getElem_mem hf
  simp [hm]
 ·rw[if_neg hf]
  have hm:¬c∈s:=fun hm=>hf (List.findIdx_lt_length_of_exists ⟨c,hm,by simp⟩)
  simp [hm]
theorem z3I (s t:List UInt8)(hl:s.length≤1000000000):kA X oG [AS s,AS t] h K=K (AB (s.all fun c=>t.contains c)) h []:=by
 refine JA ?_;rw[zaP rfl];simp only[pN,go_sem];refine UA (fun k:Nat=>⟨[(0,AS s),(1,AS t),(7,AI s.length),(8,AI k)],h,[]⟩) (fun k=>k≤s.length∧(s.take k).all (fun c=>t.contains c)=true) (fun k=>s.length-k) 0 rfl ⟨by omega,rfl⟩ ?_
 rintro k ⟨hk,hp⟩
 rcases Nat.lt_or_ge k s.length with hlt|hge
 ·have hg:s[k]?=some s[k]:=List.getElem?_eq_getElem hlt
  have w2:IntKind.i64.wrap ((k:Int)+1)=((k+1:Nat):Int):=FA _ (by omega) (by omega)
  have hi:=zfv t s[k]
  by_cases hc:yE t s[k]<0
  ·have:s.all (fun c=>t.contains c)=false:=by
    rw[List.all_eq_false];refine⟨_,List.getElem_mem hlt,?_⟩;rw[decide_eq_true hc]at hi;cases hq:t.contains s[k]with
    | true=>rw[hq]at hi;cases hi
    | false=>simp
   simp only[go_sem,hlt,hg,z3B,hc,this]
  ·rw[decide_eq_false hc]at hi
   have hq:t.contains s[k]=true:=by cases hq:t.contains s[k]with|true=>rfl|false=>rw[hq]at hi;cases hi
   simp only[go_sem,hlt,hg,z3B,hc,w2];exact⟨k+1,rfl,⟨by omega,by rw[List.take_succ_eq_append_getElem hlt,List.all_append,hp];simp only[List.all_cons,List.all_nil,hq];rfl⟩,by omega⟩
 ·have ek:k=s.length:=by omega
  subst ek;rw[List.take_length]at hp;simp only[go_sem,Nat.lt_irrefl,hp]
def ML:List UInt8:=[97,98,99,100,101,102,103,104,105,106,107,108,109,110,111,112,113,114,115,116,117,118,119,120,121,122]
def UK:List UInt8:=[97,98,99,100,101,102,103,104,105,106,107,108,109,110,111,112,113,114,115,116,117,118,119,120,121,122,48,49,50,51,52,53,54,55,56,57,45,95]
theorem z4j {p:UInt8→Bool}(h:((List.range 256).all fun n=>p (UInt8.ofNat n))=true)(c:UInt8):p c=true:=by
 have:=List.all_eq_true.1 h c.toNat (by simp;exact c.toNat_lt)
 rwa [UInt8.ofNat_toNat]at this
theorem zkU (c:UInt8):ML.contains c=(decide ((97:Int)≤c.toNat)&&decide ((c.toNat:Int)≤122)):=by
 have:=z4j (p:=fun c=>ML.contains c==(decide ((97:Int)≤c.toNat)&&decide ((c.toNat:Int)≤122))) (by kernel_rfl) c
 simpa using this
theorem zfM (c:UInt8):UK.contains c=fE c:=by
 have:=z4j (p:=fun c=>UK.contains c==fE c) (by kernel_rfl) c
 simpa using this
theorem CU (s:List UInt8)(hl:s.length≤1000000000):kA X WE [AS s] h K=K (AB (xB s)) h []:=by
 refine JA ?_;rw[zaI rfl];have o1:=fun h K=>z3I (h:=h) (K:=K) s UK hl
 have e2:(s.all fun c=>UK.contains c)=s.all fE:=by congr 1;funext c;exact zfM c
 rw[e2]at o1;unfold UK at o1;cases s with
 | nil=>simp only[pI,go_sem,HL,xB]
 | cons c r=>
  have o2:=fun h K=>z3I (h:=h) (K:=K) [c] ML (by simp)
  have e3:([c].all fun c=>ML.contains c)=(decide ((97:Int)≤c.toNat)&&decide ((c.toNat:Int)≤122)):=by simp only[List.all_cons,List.all_nil,Bool.and_true];exact zkU c
  rw[e3]at o2;unfold ML at o2;have q1:(1:Int)≤((r.length+1:Nat):Int):=by omega
  have q2:1≤r.length+1:=by omega
  by_cases h1:r.length<40
  ·have h1':((r.length+1:Nat):Int)≤40:=by omega
   cases h2:(decide ((97:Int)≤c.toNat)&&decide ((c.toNat:Int)≤122)) with
   | true=>
    have ek:xB (c::r)=(c::r).all fE:=by
     simp only[xB,h1,decide_true,Bool.true_and,h2]
    rw[ek];simp only[pI,go_sem,HL,h1',q1,q2,win,↓o2,o2,h2,↓o1,o1]
   | false=>
    have ek:xB (c::r)=false:=by simp only[xB,h1,decide_true,Bool.true_and,h2,Bool.false_and]
    rw[ek];simp only[pI,go_sem,HL,h1',q1,q2,win,↓o2,o2,h2]
  ·have h1':¬((r.length+1:Nat):Int)≤40:=by omega
   have ek:xB (c::r)=false:=by simp only[xB,h1,decide_false,Bool.false_and]
   rw[ek];simp only[pI,go_sem,HL,h1',q1]
end Go.Am
end
section
/- Finding values in lists: printed by program. -/
open Go
set_option linter.unusedSimpArgs false
namespace Go.Am
attribute [-go_sem] PV.cells
variable {h:aA} {K:mA}
end Go.Am
end
section
/- Limits: what they are,what is wrong with them. -/
open Go
namespace Go.Am
variable {h:aA} {K:mA}
structure Lim where
 key:List UInt8
 lo:Int
 hi:Int
 bin:Int
def Lim.pv (x:Lim):PV:=.agg [.str x.key,eI x.lo,eI x.hi,eI x.bin]
def inB (a n b:Int):Bool:=decide (a≤n)&&decide (n≤b)
theorem kP (n a b:Int):kA X LB [AI n,AI a,AI b] h K=K (AB (!inB a n b)) h []:=by rw[s_Out,zh1];rfl
theorem lP (n a b:Int):kA X kD [AI n,AI a,AI b] h K=K (AB (inB a n b)) h []:=HL n a b
end Go.Am
end
section
/- Boards,plainly: what is wrong with them. -/
set_option linter.all false
namespace Go.Am
structure Cel where
 kind:Int
 pin:List UInt8
 ctl:Int
 off:Int
 deriving DecidableEq
structure Prt where
 key:List UInt8
 cells:List Cel
 deriving DecidableEq
structure Jon where
 net:List UInt8
 part:List UInt8
 pin:List UInt8
 deriving DecidableEq
structure Pul where
 net:List UInt8
 level:Int
 deriving DecidableEq
structure Brd where
 parts:List Prt
 joins:List Jon
 pulls:List Pul
 deriving DecidableEq
def Cel.pv (c:Cel):PV:=.agg [eI c.kind,.str c.pin,eI c.ctl,eI c.off]
def Prt.pv (p:Prt):PV:=.agg [.str p.key,.sl (some 4) (p.cells.map Cel.pv)]
def Jon.pv (j:Jon):PV:=.agg [.str j.net,.str j.part,.str j.pin]
def Pul.pv (p:Pul):PV:=.agg [.str p.net,eI p.level]
def Brd.pv (b:Brd):PV:=.agg [.sl (some 2) (b.parts.map Prt.pv),.sl (some 3) (b.joins.map Jon.pv),.sl (some 2) (b.pulls.map Pul.pv)]
def GB (c:Cel):Bool:=decide (c.kind=1)||decide (c.kind=2)
def VD (l:List Cel)(i:Int):Int:=((l[i.toNat]?).map Cel.kind).getD 0
def mB (b1 b2 b3 b4 b5 b6 b7 b8 b9 bp:Bool):Int:=
 bif !b1 then 4 else bif b2 && !b3 then 5 else bif !b2 && !bp then 3
 else bif !b4 then(bif !b5 || !b9 then 3 else 0)
 else bif !b5&&(!b6 || !b7) then 8 else bif !b8||(b5 && !b9) then 1 else 0
def UB (l:List Cel)(c:Cel):Int:=
 mB (inB 1 c.kind 4) (GB c) (xB c.pin) (decide (c.kind=2)) (decide (c.ctl = -1)) (inB 0 c.ctl (l.length-1)) (decide (VD l c.ctl=3)) (inB 0 c.off 1) (decide (c.off=0)) (decide (c.pin=[]))
def BC {α:Type}(f:α→Int):List α→Int
 | []=>0
 | x::r=>if f x≠0 then f x else BC f r
theorem VI {α:Type}{f:α→Int}:∀{l:List α},BC f l=0→∀x∈l,f x=0
 | [],_,_,h=>by cases h
 | y::r,h,x,hx=>by
  unfold BC at h;by_cases hy:f y=0
  ·rw[if_neg (by simp [hy])]at h
   rcases List.mem_cons.1 hx with e|hx
   ·rw[e];exact hy
   ·exact VI h x hx
  ·rw[if_pos hy]at h;exact absurd h hy
def tC (c d:Cel):Bool:=decide (d.kind=c.kind)&&decide (d.pin=c.pin)
def twC (P:Cel→Bool)(seen:List Cel):List Cel→Bool
 | []=>false
 | c::r=>if P c&&seen.any (tC c) then true else twC P (seen++[c]) r
def zC (l:List Cel):Int:=if(200:Int)<l.length then 2 else if BC (UB l) l≠0 then BC (UB l) l else if twC GB [] l then 6 else 0
def YC (c:Cel):Bool:=!decide (c.pin=[])
theorem IX {l:List Cel}{c:Cel}(h:UB l c=0):YC c=GB c:=by
 unfold UB at h;unfold YC;cases h1:inB 1 c.kind 4 with
 | false=>rw[h1]at h;cases h
 | true=>
  cases h2:GB c with
  | true=>
   cases h3:xB c.pin with
   | false=>rw[h1,h2,h3]at h;cases h
   | true=>
    have:c.pin≠[]:=fun e=>by rw[e]at h3;cases h3
    simp [this]
  | false=>
   cases h3:decide (c.pin=[]) with
   | true=>rfl
   | false=>rw[h1,h2,h3]at h;cases h
theorem z4g {P Q:Cel→Bool}:∀{l seen:List Cel},(∀c∈l,P c=Q c)→twC P seen l=twC Q seen l
 | [],_,_=>rfl
 | c::r,seen,h=>by
  unfold twC;rw[h c (by simp),z4g (l:=r) fun d hd=>h d (by simp [hd])]
theorem zbt (l:List Cel):zC l=if(200:Int)<l.length then 2 else if BC (UB l) l≠0 then BC (UB l) l else if twC YC [] l then 6 else 0:=by
 unfold zC;split
 ·rfl
 ·split
  ·rfl
  ·rename_i h1 h2
   rw[z4g (P:=GB) (Q:=YC) fun c hc=>(IX (VI (by simpa using h2) c hc)).symm]
def iC:Option Prt→List Prt→Int
 | _,[]=>0
 | p,x::r=>if xB x.key=false then 5 else if(match p with|some q=>decide (rA x.key q.key≤0)|none=>false)=true then 7 else if zC x.cells≠0 then zC x.cells else iC (some x) r
def aU (b:Brd)(key:List UInt8):Option Prt:=b.parts[b.parts.findIdx fun p=>decide (p.key=key)]?
def LF (b:Brd)(part pin:List UInt8):Bool:=match aU b part with
 | some p=>p.cells.any fun c=>GB c&&decide (c.pin=pin)
 | none=>false
def nB (x y:Jon):Int:=if rA x.net y.net≠0 then rA x.net y.net else if rA x.part y.part≠0 then rA x.part y.part else rA x.pin y.pin
def PC (b:Brd):Option Jon→List Jon→Int
 | _,[]=>0
 | p,x::r=>if xB x.net=false then 5 else if LF b x.part x.pin=false then 8 else if(match p with|some q=>decide (nB x q≤0)|none=>false)=true then 7 else PC b (some x) r
def rD (x y:Jon):Bool:=decide (y.part=x.part)&&decide (y.pin=x.pin)
def twJ (seen:List Jon):List Jon→Bool
 | []=>false
 | x::r=>if seen.any (rD x) then true else twJ (seen++[x]) r
def UD (b:Brd):Int:=if(1000:Int)<b.joins.length then 2 else if PC b none b.joins≠0 then PC b none b.joins else if twJ [] b.joins then 6 else 0
def eqN (x y:List UInt8):Bool:=decide (x=y)
def jB (b:Brd):List (List UInt8):=NB eqN (b.joins.map Jon.net)
def DE (nets:List (List UInt8)):Option Pul→List Pul→Int
 | _,[]=>0
 | p,x::r=>if nets.contains x.net=false then 8 else if inB 0 x.level 1=false then 1 else if(match p with|some q=>decide (rA x.net q.net≤0)|none=>false)=true then 7 else DE nets (some x) r
def wD (b:Brd):Int:=
 if(40:Int)<b.parts.length then 2 else if iC none b.parts≠0 then iC none b.parts
 else if UD b≠0 then UD b else if(100:Int)<(jB b).length then 2 else DE (jB b) none b.pulls
end Go.Am
end
section
/- A board's cells: what is wrong with one,both ways. -/
open Go
set_option linter.all false
namespace Go.Am
variable {h:aA} {K:mA}
theorem zU (c:Cel):kA X RD [.p c.pv] h K=K (AB (GB c)) h []:=by
 refine JA ?_;rw[zaq rfl];unfold GB;by_cases h1:c.kind=1
 ·simp only[sK,Cel.pv,eI,go_sem,h1]
 ·by_cases h2:c.kind=2
  ·simp only[sK,Cel.pv,eI,go_sem,h1,h2]
  ·simp only[sK,Cel.pv,eI,go_sem,h1,h2]
theorem z2q {l:List Cel}{i:Int}(h:inB 0 i (l.length-1)=true):∃(n:Nat) (d:Cel),i=n∧n<l.length∧(l.map Cel.pv)[n]?=some d.pv∧VD l i=d.kind:=by
 unfold inB at h;simp only[Bool.and_eq_true,decide_eq_true_eq]at h;have hn:i.toNat<l.length:=by omega
 refine⟨i.toNat,l[i.toNat],by omega,hn,dB Cel.pv hn,?_⟩
 unfold VD;rw[List.getElem?_eq_getElem hn];rfl
set_option maxHeartbeats 4000000 in
theorem zkn (p:Prt)(c:Cel)(hp:c.pin.length≤1000000)(hl:p.cells.length≤100000):kA X YG [.p p.pv,.p c.pv] h K=K (AI (UB p.cells c)) h []:=by
 refine JA ?_;rw[zal rfl];unfold UB;have H1:=fun h K=>zU (h:=h) (K:=K) c
 have H2:=fun h K=>yU (h:=h) (K:=K) c.pin (by omega)
 have H3:=fun h K=>kP (h:=h) (K:=K) c.kind 1 4
 have H4:=fun h K=>kP (h:=h) (K:=K) c.ctl 0 ((p.cells.length:Int)-1)
 have H5:=fun h K=>kP (h:=h) (K:=K) c.off 0 1
 simp only[Cel.pv,eI]at H1;have w:IntKind.i64.wrap ((p.cells.length:Int)-1)=(p.cells.length:Int)-1:=FA _ (by omega) (by omega)
 have ln:(p.cells.map Cel.pv).length=p.cells.length:=List.length_map ..
 have pk2:c.kind=2→GB c=true:=fun e=>by unfold GB;simp [e]
 obtain⟨b4,k4⟩:∃b,decide (c.kind=2)=b:=⟨_,rfl⟩;obtain⟨b5,k5⟩:∃b,decide (c.ctl = -1)=b:=⟨_,rfl⟩;obtain⟨b9,k9⟩:∃b,decide (c.off=0)=b:=⟨_,rfl⟩;obtain⟨bp,kp⟩:∃b,decide (c.pin=[])=b:=⟨_,rfl⟩;obtain⟨b1,k1⟩:∃b,inB 1 c.kind 4=b:=⟨_,rfl⟩;obtain⟨b2,k2⟩:∃b,GB c=b:=⟨_,rfl⟩;obtain⟨b3,k3⟩:∃b,xB c.pin=b:=⟨_,rfl⟩;obtain⟨b8,k8⟩:∃b,inB 0 c.off 1=b:=⟨_,rfl⟩;obtain⟨b6,k6⟩:∃b,inB 0 c.ctl ((p.cells.length:Int)-1)=b:=⟨_,rfl⟩;obtain⟨b7,k7⟩:∃b,decide (VD p.cells c.ctl=3)=b:=⟨_,rfl⟩;rw[k2]at H1;rw[k3]at H2;rw[k1]at H3;rw[k6]at H4;rw[k8]at H5;have n42:b4=true→b2=true:=fun e=>by rw[←k2];exact pk2 (by rw[e]at k4;simpa using k4)
 rw[k1,k2,k3,k4,k5,k6,k7,k8,k9,kp];cases b1
 ·simp only[AC,Prt.pv,Cel.pv,eI,go_sem,↓H1,H1,↓H2,H2,↓H3,H3,↓H4,H4,↓H5,H5,k4,k5,k9,kp,w,ln,mB]
 cases b2
 ·cases b4
  ·cases bp
   ·simp only[AC,Prt.pv,Cel.pv,eI,go_sem,↓H1,H1,↓H2,H2,↓H3,H3,↓H4,H4,↓H5,H5,k4,k5,k9,kp,w,ln,mB]
   cases b5
   ·simp only[AC,Prt.pv,Cel.pv,eI,go_sem,↓H1,H1,↓H2,H2,↓H3,H3,↓H4,H4,↓H5,H5,k4,k5,k9,kp,w,ln,mB]
   cases b9
   ·simp only[AC,Prt.pv,Cel.pv,eI,go_sem,↓H1,H1,↓H2,H2,↓H3,H3,↓H4,H4,↓H5,H5,k4,k5,k9,kp,w,ln,mB]
   ·simp only[AC,Prt.pv,Cel.pv,eI,go_sem,↓H1,H1,↓H2,H2,↓H3,H3,↓H4,H4,↓H5,H5,k4,k5,k9,kp,w,ln,mB]
  ·cases n42 rfl
 cases b3
 ·simp only[AC,Prt.pv,Cel.pv,eI,go_sem,↓H1,H1,↓H2,H2,↓H3,H3,↓H4,H4,↓H5,H5,k4,k5,k9,kp,w,ln,mB]
 cases b4
 ·cases b5
  ·simp only[AC,Prt.pv,Cel.pv,eI,go_sem,↓H1,H1,↓H2,H2,↓H3,H3,↓H4,H4,↓H5,H5,k4,k5,k9,kp,w,ln,mB]
  cases b9
  ·simp only[AC,Prt.pv,Cel.pv,eI,go_sem,↓H1,H1,↓H2,H2,↓H3,H3,↓H4,H4,↓H5,H5,k4,k5,k9,kp,w,ln,mB]
  ·simp only[AC,Prt.pv,Cel.pv,eI,go_sem,↓H1,H1,↓H2,H2,↓H3,H3,↓H4,H4,↓H5,H5,k4,k5,k9,kp,w,ln,mB]
 cases b5
 ·cases b6
  ·simp only[AC,Prt.pv,Cel.pv,eI,go_sem,↓H1,H1,↓H2,H2,↓H3,H3,↓H4,H4,↓H5,H5,k4,k5,k9,kp,w,ln,mB]
  obtain⟨n,d,e1,e2,e3,e4⟩:=z2q k6;have c1:IA none 0 d.pv=some (eI d.kind):=rfl
  have hn:gB (.p (.int .i64 c.ctl))=some n:=by rw[e1];exact YK
  rw[e4]at k7;simp only[eI]at c1;cases b7
  ·simp only[AC,Prt.pv,Cel.pv,eI,go_sem,↓H1,H1,↓H2,H2,↓H3,H3,↓H4,H4,↓H5,H5,k4,k5,k9,kp,w,ln,hn,e2,e3,c1,k7,mB]
  cases b8
  ·simp only[AC,Prt.pv,Cel.pv,eI,go_sem,↓H1,H1,↓H2,H2,↓H3,H3,↓H4,H4,↓H5,H5,k4,k5,k9,kp,w,ln,hn,e2,e3,c1,k7,mB]
  ·simp only[AC,Prt.pv,Cel.pv,eI,go_sem,↓H1,H1,↓H2,H2,↓H3,H3,↓H4,H4,↓H5,H5,k4,k5,k9,kp,w,ln,hn,e2,e3,c1,k7,mB]
 cases b8
 ·simp only[AC,Prt.pv,Cel.pv,eI,go_sem,↓H1,H1,↓H2,H2,↓H3,H3,↓H4,H4,↓H5,H5,k4,k5,k9,kp,w,ln,mB]
 cases b9
 ·simp only[AC,Prt.pv,Cel.pv,eI,go_sem,↓H1,H1,↓H2,H2,↓H3,H3,↓H4,H4,↓H5,H5,k4,k5,k9,kp,w,ln,mB]
 ·simp only[AC,Prt.pv,Cel.pv,eI,go_sem,↓H1,H1,↓H2,H2,↓H3,H3,↓H4,H4,↓H5,H5,k4,k5,k9,kp,w,ln,mB]
end Go.Am
end
section
/- A board's cells: what is wrong with one: the reference. -/
open Go
set_option linter.all false
namespace Go.Am
variable {h:aA} {K:mA}
set_option maxHeartbeats 4000000 in
theorem zko (l:List Cel)(c:Cel)(hp:c.pin.length≤1000000)(hl:l.length≤100000):kA X HI [.p (.sl (some 4) (l.map Cel.pv)),.p c.pv] h K=K (AI (UB l c)) h []:=by
 refine JA ?_;rw[zaL rfl];unfold UB;have H2:=fun h K=>CU (h:=h) (K:=K) c.pin (by omega)
 have H3:=fun h K=>lP (h:=h) (K:=K) c.kind 1 4
 have H4:=fun h K=>lP (h:=h) (K:=K) c.ctl 0 ((l.length:Int)-1)
 have H5:=fun h K=>lP (h:=h) (K:=K) c.off 0 1
 have w:IntKind.i64.wrap ((l.length:Int)-1)=(l.length:Int)-1:=FA _ (by omega) (by omega)
 have ln:(l.map Cel.pv).length=l.length:=List.length_map ..
 obtain⟨b4,k4⟩:∃b,decide (c.kind=2)=b:=⟨_,rfl⟩;obtain⟨b5,k5⟩:∃b,decide (c.ctl = -1)=b:=⟨_,rfl⟩;obtain⟨b9,k9⟩:∃b,decide (c.off=0)=b:=⟨_,rfl⟩;obtain⟨bp,kp⟩:∃b,decide (c.pin=[])=b:=⟨_,rfl⟩;obtain⟨ba,ka⟩:∃b,decide (c.kind=1)=b:=⟨_,rfl⟩;obtain⟨b1,k1⟩:∃b,inB 1 c.kind 4=b:=⟨_,rfl⟩;obtain⟨b2,k2⟩:∃b,GB c=b:=⟨_,rfl⟩;obtain⟨b3,k3⟩:∃b,xB c.pin=b:=⟨_,rfl⟩;obtain⟨b8,k8⟩:∃b,inB 0 c.off 1=b:=⟨_,rfl⟩;obtain⟨b6,k6⟩:∃b,inB 0 c.ctl ((l.length:Int)-1)=b:=⟨_,rfl⟩;obtain⟨b7,k7⟩:∃b,decide (VD l c.ctl=3)=b:=⟨_,rfl⟩;rw[k3]at H2;rw[k1]at H3;rw[k6]at H4;rw[k8]at H5;have e2:b2=(ba||b4):=by rw[←k2,←ka,←k4];rfl
 subst e2;rw[k1,k2,k3,k4,k5,k6,k7,k8,k9,kp];clear k2;cases b4
 ·cases ba
  ·cases b1
   ·simp only[nC,Cel.pv,eI,go_sem,↓H2,H2,↓H3,H3,↓H4,H4,↓H5,H5,ka,k4,k5,k9,kp,w,ln,mB]
   cases bp
   ·simp only[nC,Cel.pv,eI,go_sem,↓H2,H2,↓H3,H3,↓H4,H4,↓H5,H5,ka,k4,k5,k9,kp,w,ln,mB]
   cases b5
   ·simp only[nC,Cel.pv,eI,go_sem,↓H2,H2,↓H3,H3,↓H4,H4,↓H5,H5,ka,k4,k5,k9,kp,w,ln,mB]
   cases b9
   ·simp only[nC,Cel.pv,eI,go_sem,↓H2,H2,↓H3,H3,↓H4,H4,↓H5,H5,ka,k4,k5,k9,kp,w,ln,mB]
   ·simp only[nC,Cel.pv,eI,go_sem,↓H2,H2,↓H3,H3,↓H4,H4,↓H5,H5,ka,k4,k5,k9,kp,w,ln,mB]
  ·cases b1
   ·simp only[nC,Cel.pv,eI,go_sem,↓H2,H2,↓H3,H3,↓H4,H4,↓H5,H5,ka,k4,k5,k9,kp,w,ln,mB]
   cases b3
   ·simp only[nC,Cel.pv,eI,go_sem,↓H2,H2,↓H3,H3,↓H4,H4,↓H5,H5,ka,k4,k5,k9,kp,w,ln,mB]
   cases b5
   ·simp only[nC,Cel.pv,eI,go_sem,↓H2,H2,↓H3,H3,↓H4,H4,↓H5,H5,ka,k4,k5,k9,kp,w,ln,mB]
   cases b9
   ·simp only[nC,Cel.pv,eI,go_sem,↓H2,H2,↓H3,H3,↓H4,H4,↓H5,H5,ka,k4,k5,k9,kp,w,ln,mB]
   ·simp only[nC,Cel.pv,eI,go_sem,↓H2,H2,↓H3,H3,↓H4,H4,↓H5,H5,ka,k4,k5,k9,kp,w,ln,mB]
 ·cases ba
  ·cases b1
   ·simp only[nC,Cel.pv,eI,go_sem,↓H2,H2,↓H3,H3,↓H4,H4,↓H5,H5,ka,k4,k5,k9,kp,w,ln,mB]
   cases b3
   ·simp only[nC,Cel.pv,eI,go_sem,↓H2,H2,↓H3,H3,↓H4,H4,↓H5,H5,ka,k4,k5,k9,kp,w,ln,mB]
   cases b5
   ·cases b6
    ·simp only[nC,Cel.pv,eI,go_sem,↓H2,H2,↓H3,H3,↓H4,H4,↓H5,H5,ka,k4,k5,k9,kp,w,ln,mB]
    obtain⟨n,d,e1,e2,e3,e4⟩:=z2q k6;have c1:IA none 0 d.pv=some (eI d.kind):=rfl
    have hn:gB (.p (.int .i64 c.ctl))=some n:=by rw[e1];exact YK
    rw[e4]at k7;simp only[eI]at c1;cases b7
    ·simp only[nC,Cel.pv,eI,go_sem,↓H2,H2,↓H3,H3,↓H4,H4,↓H5,H5,ka,k4,k5,k9,kp,w,ln,hn,e2,e3,c1,k7,mB]
    cases b8
    ·simp only[nC,Cel.pv,eI,go_sem,↓H2,H2,↓H3,H3,↓H4,H4,↓H5,H5,ka,k4,k5,k9,kp,w,ln,hn,e2,e3,c1,k7,mB]
    ·simp only[nC,Cel.pv,eI,go_sem,↓H2,H2,↓H3,H3,↓H4,H4,↓H5,H5,ka,k4,k5,k9,kp,w,ln,hn,e2,e3,c1,k7,mB]
   cases b8
   ·simp only[nC,Cel.pv,eI,go_sem,↓H2,H2,↓H3,H3,↓H4,H4,↓H5,H5,ka,k4,k5,k9,kp,w,ln,mB]
   cases b9
   ·simp only[nC,Cel.pv,eI,go_sem,↓H2,H2,↓H3,H3,↓H4,H4,↓H5,H5,ka,k4,k5,k9,kp,w,ln,mB]
   ·simp only[nC,Cel.pv,eI,go_sem,↓H2,H2,↓H3,H3,↓H4,H4,↓H5,H5,ka,k4,k5,k9,kp,w,ln,mB]
  ·simp only[decide_eq_true_eq]at k4 ka
   omega
end Go.Am
end
section
/- Lists of cells,joins,parts: looked through: printed by program. -/
open Go
set_option linter.unusedSimpArgs false
namespace Go.Am
attribute [-go_sem] PV.cells splice
variable {h:aA} {K:mA}
theorem jV {v:AV}{g:Nat}{caps:List AV}{p:PV→Bool}{xs:List PV}(hv:Shows (some 4) v xs h)(hp:MD g caps p xs h)(hl:xs.length≤1000000000) :
 kA X mH [v,.fn g caps] h K=K (AI (SD p xs)) h []:=by
 refine JA ?_;rw[zaY];have vl:=hv.len
 simp only[uN,go_sem,vl];refine UA (fun k:Nat=>⟨[(0,v),(1,.fn g caps),(7,AI xs.length),(8,AI k)],h,[]⟩) (fun k=>k≤xs.length∧∀x∈xs.take k,p x=false) (fun k=>xs.length-k) 0 rfl (by simp) ?_
 rintro k ⟨hk,hn⟩
 rcases Nat.lt_or_ge k xs.length with hlt|hge
 ·obtain⟨a,ha,hb⟩:=hv.get k hlt
  have w2:IntKind.i64.wrap ((k:Int)+1)=((k+1:Nat):Int):=FA _ (by omega) (by omega)
  have ht:=hp _ (List.getElem_mem hlt)
  cases hpk:p xs[k]with
  | true=>
   have hf:xs.findIdx p=k:=by
    rw[List.findIdx_eq hlt];refine⟨hpk,fun j hj=>?_⟩
    have:=hn xs[j] (by rw[List.mem_take_iff_getElem];exact⟨j,by omega,rfl⟩)
    simpa using this
   simp only[go_sem,hlt,ha,hb,ht,hpk,w2];simp only[SD,hf,hlt,if_true]
  | false=>
   simp only[go_sem,hlt,ha,hb,ht,hpk,w2];refine⟨k+1,rfl,⟨by omega,fun x hx=>?_⟩,by omega⟩
   rw[List.take_succ_eq_append_getElem hlt,List.mem_append,List.mem_singleton]at hx;rcases hx with hx|hx
   ·exact hn x hx
   ·rw[hx];exact hpk
 ·have e1:k=xs.length:=by omega
  subst e1;simp only[go_sem,Nat.lt_irrefl];rw[List.take_length]at hn;have:¬xs.findIdx p<xs.length:=by
   rw[Nat.not_lt,Nat.le_iff_lt_or_eq];right
   exact(List.findIdx_eq_length.2 (fun x hx=>by simp [hn x hx])).symm
  simp [SD,this]
theorem WL {g:Nat}{caps:List AV}{p:PV→Bool}{xs:List PV}(hp:MD g caps p xs h)(hs:jC (some 4) xs)(hl:xs.length≤1000000000) :
 kA X VC [.p (.sl (some 4) xs),.fn g caps] h K=K (AB (xs.any p)) h []:=by
 refine JA ?_;rw[EX];have vi:=fun K=>jV (h:=h) (K:=K) (IU hs) hp hl
 simp only[tN,go_sem,vi,LS]
theorem z5S {v:AV}{g:Nat}{caps:List AV}{p:PV→Bool}{xs:List PV}(hv:Shows (some 3) v xs h)(hp:MD g caps p xs h)(hl:xs.length≤1000000000) :
 kA X OI [v,.fn g caps] h K=K (AI (SD p xs)) h []:=by
 refine JA ?_;rw[zba];have vl:=hv.len
 simp only[wN,go_sem,vl];refine UA (fun k:Nat=>⟨[(0,v),(1,.fn g caps),(7,AI xs.length),(8,AI k)],h,[]⟩) (fun k=>k≤xs.length∧∀x∈xs.take k,p x=false) (fun k=>xs.length-k) 0 rfl (by simp) ?_
 rintro k ⟨hk,hn⟩
 rcases Nat.lt_or_ge k xs.length with hlt|hge
 ·obtain⟨a,ha,hb⟩:=hv.get k hlt
  have w2:IntKind.i64.wrap ((k:Int)+1)=((k+1:Nat):Int):=FA _ (by omega) (by omega)
  have ht:=hp _ (List.getElem_mem hlt)
  cases hpk:p xs[k]with
  | true=>
   have hf:xs.findIdx p=k:=by
    rw[List.findIdx_eq hlt];refine⟨hpk,fun j hj=>?_⟩
    have:=hn xs[j] (by rw[List.mem_take_iff_getElem];exact⟨j,by omega,rfl⟩)
    simpa using this
   simp only[go_sem,hlt,ha,hb,ht,hpk,w2];simp only[SD,hf,hlt,if_true]
  | false=>
   simp only[go_sem,hlt,ha,hb,ht,hpk,w2];refine⟨k+1,rfl,⟨by omega,fun x hx=>?_⟩,by omega⟩
   rw[List.take_succ_eq_append_getElem hlt,List.mem_append,List.mem_singleton]at hx;rcases hx with hx|hx
   ·exact hn x hx
   ·rw[hx];exact hpk
 ·have e1:k=xs.length:=by omega
  subst e1;simp only[go_sem,Nat.lt_irrefl];rw[List.take_length]at hn;have:¬xs.findIdx p<xs.length:=by
   rw[Nat.not_lt,Nat.le_iff_lt_or_eq];right
   exact(List.findIdx_eq_length.2 (fun x hx=>by simp [hn x hx])).symm
  simp [SD,this]
theorem z4D {g:Nat}{caps:List AV}{p:PV→Bool}{xs:List PV}(hp:MD g caps p xs h)(hs:jC (some 3) xs)(hl:xs.length≤1000000000) :
 kA X KI [.p (.sl (some 3) xs),.fn g caps] h K=K (AB (xs.any p)) h []:=by
 refine JA ?_;rw[zaV];have vi:=fun K=>z5S (h:=h) (K:=K) (IU hs) hp hl
 simp only[HR,go_sem,vi,LS]
theorem z5R {v:AV}{g:Nat}{caps:List AV}{p:PV→Bool}{xs:List PV}(hv:Shows (some 2) v xs h)(hp:MD g caps p xs h)(hl:xs.length≤1000000000) :
 kA X NI [v,.fn g caps] h K=K (AI (SD p xs)) h []:=by
 refine JA ?_;rw[zaZ];have vl:=hv.len
 simp only[vN,go_sem,vl];refine UA (fun k:Nat=>⟨[(0,v),(1,.fn g caps),(7,AI xs.length),(8,AI k)],h,[]⟩) (fun k=>k≤xs.length∧∀x∈xs.take k,p x=false) (fun k=>xs.length-k) 0 rfl (by simp) ?_
 rintro k ⟨hk,hn⟩
 rcases Nat.lt_or_ge k xs.length with hlt|hge
 ·obtain⟨a,ha,hb⟩:=hv.get k hlt
  have w2:IntKind.i64.wrap ((k:Int)+1)=((k+1:Nat):Int):=FA _ (by omega) (by omega)
  have ht:=hp _ (List.getElem_mem hlt)
  cases hpk:p xs[k]with
  | true=>
   have hf:xs.findIdx p=k:=by
    rw[List.findIdx_eq hlt];refine⟨hpk,fun j hj=>?_⟩
    have:=hn xs[j] (by rw[List.mem_take_iff_getElem];exact⟨j,by omega,rfl⟩)
    simpa using this
   simp only[go_sem,hlt,ha,hb,ht,hpk,w2];simp only[SD,hf,hlt,if_true]
  | false=>
   simp only[go_sem,hlt,ha,hb,ht,hpk,w2];refine⟨k+1,rfl,⟨by omega,fun x hx=>?_⟩,by omega⟩
   rw[List.take_succ_eq_append_getElem hlt,List.mem_append,List.mem_singleton]at hx;rcases hx with hx|hx
   ·exact hn x hx
   ·rw[hx];exact hpk
 ·have e1:k=xs.length:=by omega
  subst e1;simp only[go_sem,Nat.lt_irrefl];rw[List.take_length]at hn;have:¬xs.findIdx p<xs.length:=by
   rw[Nat.not_lt,Nat.le_iff_lt_or_eq];right
   exact(List.findIdx_eq_length.2 (fun x hx=>by simp [hn x hx])).symm
  simp [SD,this]
end Go.Am
end
section
/- A board's cells: what is wrong with some,both ways. -/
open Go
set_option linter.all false
namespace Go.Am
variable {h:aA} {K:mA}
abbrev FC (l:List Cel):AV:=.p (.sl (some 4) (l.map Cel.pv))
def Cel.bx (c:Cel):Obj:=.box [AI c.kind,AS c.pin,AI c.ctl,AI c.off]
def Prt.bx (p:Prt):Obj:=.box [AS p.key,FC p.cells]
def sD:PV→Cel
 | .agg [.int _ a,.str b,.int _ c,.int _ d]=>⟨a,b,c,d⟩
 | _=>⟨0,[],0,0⟩
theorem SL (c:Cel):sD c.pv=c:=rfl
theorem jK {l:List Cel}:jC (some 4) (l.map Cel.pv):=fun x hx=>by obtain⟨e,_,rfl⟩:=List.mem_map.1 hx;rfl
theorem z4h (P:Cel→Bool)(seen:List Cel)(c:Cel)(r:List Cel):twC P seen (c::r)=if(P c&&seen.any (tC c))=true then true else twC P (seen++[c]) r:=rfl
theorem zkr (c d:Cel)(id:Nat)(hc:h[id]?=some c.bx):kA X jG [.p d.pv,.ref id 0] h K=K (AB (tC c d)) h []:=by
 refine JA ?_;rw[zan rfl];have hl:=WB hc
 have hc2:∀t,(h++t)[id]?=some c.bx:=fun t=>by rw[List.getElem?_append_left hl];exact hc
 unfold Cel.bx at hc hc2;unfold tC;by_cases h1:d.kind=c.kind
 ·have h1p:=eq_true h1
  simp only[QM,Cel.pv,eI,go_sem,hc,hc2,h1p]
 ·simp only[QM,Cel.pv,eI,go_sem,hc,hc2,h1]
attribute [-go_sem] bS rK
theorem zks {K:Ex→St→Prop}(p:Prt)(hl:p.cells.length≤100000)(b:List (Nat × AV))(b1:bA b 1 = .ref h.length 0)
 (f6:twC GB [] p.cells=true→∀H,K .ret ⟨[(2,AI 6)],h++H,[]⟩) (f0:twC GB [] p.cells=false→∀H,K .ret ⟨[(2,AI 0)],h++H,[]⟩) :
 NW (kA X) X.gl gL ⟨b,h++[p.bx],[]⟩ K:=by
 rw[bS];have ln:(p.cells.map Cel.pv).length=p.cells.length:=List.length_map ..
 unfold Prt.bx;simp only[rK,b1,go_sem,ln];refine UA (fun k:Nat=>⟨[(1,.ref h.length 0),(27,FC p.cells),(28,AI p.cells.length),(29,AI k)],h++[p.bx],[]⟩) (fun k=>k≤p.cells.length∧twC GB (p.cells.take k) (p.cells.drop k)=twC GB [] p.cells) (fun k=>p.cells.length-k) 0 rfl ⟨by omega,rfl⟩ ?_
 rintro k ⟨hk,hp⟩
 unfold Prt.bx;rcases Nat.lt_or_ge k p.cells.length with hlt|hge
 ·have g:=dB Cel.pv hlt
  have c1:IA (some 4) 0 p.cells[k].pv=some p.cells[k].pv:=rfl
  have w2:IntKind.i64.wrap ((k:Int)+1)=((k+1:Nat):Int):=FA _ (by omega) (by omega)
  rw[List.drop_eq_getElem_cons hlt,z4h]at hp;have tk:p.cells.take (k+1)=p.cells.take k++[p.cells[k]]:=List.take_succ_eq_append_getElem hlt
  rw[←tk]at hp;have hw:win (p.cells.map Cel.pv) 0 k=(p.cells.take k).map Cel.pv:=by simp [win,List.map_take]
  have hkl:k≤p.cells.length:=hk
  generalize hcc:p.cells[k]=c at *;have HP:=fun h K=>zU (h:=h) (K:=K) c
  simp only[Cel.pv,eI]at HP;have tells:∀o:Obj,MD jG [.ref (h.length+1) 0] (fun y=>tC c (sD y)) ((p.cells.take k).map Cel.pv) (h++[o,c.bx]):=fun o y hy K=>by
   obtain⟨d,_,rfl⟩:=List.mem_map.1 hy;dsimp only;rw[SL];exact zkr c d (h.length+1) (by simp)
  have CF:=fun(o:Obj) K=>WL (h:=h++[o,c.bx]) (K:=K) (tells o) jK (by simp;omega)
  have ea:((p.cells.take k).map Cel.pv).any (fun y=>tC c (sD y))=(p.cells.take k).any (tC c):=by rw[List.any_map];rfl
  simp only[ea]at CF;unfold Cel.bx at CF;simp only[Cel.pv,eI]at g c1;cases hq:GB c with
  | false=>
   rw[hq]at hp;rw[hq]at HP;simp only[go_sem,hlt,g,c1,w2,↓HP,HP];exact⟨k+1,rfl,⟨by omega,hp⟩,by omega⟩
  | true=>
   rw[hq]at hp;rw[hq]at HP;cases ha:(p.cells.take k).any (tC c) with
   | true=>
    rw[ha]at hp CF;simp only[go_sem,hlt,g,c1,w2,↓HP,HP,ln,hkl,hw,↓CF,CF];exact f6 hp.symm _
   | false=>
    rw[ha]at hp CF;simp only[go_sem,hlt,g,c1,w2,↓HP,HP,ln,hkl,hw,↓CF,CF];exact⟨k+1,rfl,⟨by omega,hp⟩,by omega⟩
 ·have e:k=p.cells.length:=by omega
  subst e;rw[List.drop_length,List.take_length]at hp;simp only[go_sem,Nat.lt_irrefl];exact f0 hp.symm _
theorem zkq (p:Prt)(hc:∀ c∈p.cells,c.pin.length≤1000000)(hl:p.cells.length≤100000):kA X ZG [.p p.pv] h K=K (AI (zC p.cells)) h []:=by
 refine JA ?_;rw[zam rfl];have ln:(p.cells.map Cel.pv).length=p.cells.length:=List.length_map ..
 rw[zC];by_cases h2:(200:Int)<p.cells.length
 ·rw[if_pos h2]
  simp only[qK,Prt.pv,go_sem,ln,h2]
 rw[if_neg h2];simp only[qK,Prt.pv,go_sem,ln,h2];refine UA (fun k:Nat=>⟨[(1,.ref h.length 0),(13,FC p.cells),(14,AI p.cells.length),(15,AI k)],h++[p.bx],[]⟩) (fun k=>k≤p.cells.length∧BC (UB p.cells) (p.cells.drop k)=BC (UB p.cells) p.cells) (fun k=>p.cells.length-k) 0 rfl ⟨by omega,rfl⟩ ?_
 rintro k ⟨hk,hp⟩
 unfold Prt.bx;rcases Nat.lt_or_ge k p.cells.length with hlt|hge
 ·have g:=dB Cel.pv hlt
  have c1:IA (some 4) 0 p.cells[k].pv=some p.cells[k].pv:=rfl
  have w2:IntKind.i64.wrap ((k:Int)+1)=((k+1:Nat):Int):=FA _ (by omega) (by omega)
  rw[List.drop_eq_getElem_cons hlt,BC]at hp;have hcl:=hc _ (List.getElem_mem hlt)
  generalize hcc:p.cells[k]=c at *;have CE:=fun h K=>zkn (h:=h) (K:=K) p c hcl hl
  simp only[Prt.pv,Cel.pv,eI]at CE g c1;by_cases hz:UB p.cells c=0
  ·rw[if_neg (by simp [hz])]at hp
   rw[hz]at CE;simp only[go_sem,hlt,g,c1,w2,↓CE,CE];exact⟨k+1,rfl,⟨by omega,hp⟩,by omega⟩
  ·rw[if_pos hz]at hp
   rw[if_pos (by rw[←hp];exact hz),←hp]
   have e12:eA .neq (.p (.int .i64 (UB p.cells c))) (.p (.int .i64 0))=some (AB true):=by simp only[go_sem,hz]
   simp only[go_sem,hlt,g,c1,w2,↓CE,CE,↓e12]
 ·have e:k=p.cells.length:=by omega
  subst e;rw[List.drop_length]at hp;rw[if_neg (by rw[←hp];simp [BC])]
  simp only[go_sem,Nat.lt_irrefl];refine zks p hl _ rfl (fun ht H=>?_) (fun ht H=>?_)
  ·rw[ht];simp only[go_sem]
  ·rw[ht];simp only[go_sem]
theorem zk7 (c d:Cel)(id:Nat)(hc:h[id]?=some c.bx):kA X lH [.p d.pv,.ref id 0] h K=K (AB (tC c d)) h []:=by
 refine JA ?_;rw[zaR rfl];have hl:=WB hc
 have hc2:∀t,(h++t)[id]?=some c.bx:=fun t=>by rw[List.getElem?_append_left hl];exact hc
 unfold Cel.bx at hc hc2;unfold tC;by_cases h1:d.kind=c.kind
 ·have h1p:=eq_true h1
  simp only[qN,Cel.pv,eI,go_sem,hc,hc2,h1p]
 ·simp only[qN,Cel.pv,eI,go_sem,hc,hc2,h1]
attribute [-go_sem] lS DK
theorem zk8 {K:Ex→St→Prop}(p:Prt)(hl:p.cells.length≤100000)(b:List (Nat × AV))(b1:bA b 1 = .ref h.length 0)
 (f6:twC YC [] p.cells=true→∀H,K .ret ⟨[(2,AI 6)],h++H,[]⟩) (f0:twC YC [] p.cells=false→∀H,K .ret ⟨[(2,AI 0)],h++H,[]⟩) :
 NW (kA X) X.gl rL ⟨b,h++[p.bx],[]⟩ K:=by
 rw[lS];have ln:(p.cells.map Cel.pv).length=p.cells.length:=List.length_map ..
 unfold Prt.bx;simp only[DK,b1,go_sem,ln];refine UA (fun k:Nat=>⟨[(1,.ref h.length 0),(28,FC p.cells),(29,AI p.cells.length),(30,AI k)],h++[p.bx],[]⟩) (fun k=>k≤p.cells.length∧twC YC (p.cells.take k) (p.cells.drop k)=twC YC [] p.cells) (fun k=>p.cells.length-k) 0 rfl ⟨by omega,rfl⟩ ?_
 rintro k ⟨hk,hp⟩
 unfold Prt.bx;rcases Nat.lt_or_ge k p.cells.length with hlt|hge
 ·have g:=dB Cel.pv hlt
  have c1:IA (some 4) 0 p.cells[k].pv=some p.cells[k].pv:=rfl
  have w2:IntKind.i64.wrap ((k:Int)+1)=((k+1:Nat):Int):=FA _ (by omega) (by omega)
  rw[List.drop_eq_getElem_cons hlt,z4h]at hp;have tk:p.cells.take (k+1)=p.cells.take k++[p.cells[k]]:=List.take_succ_eq_append_getElem hlt
  rw[←tk]at hp;have hw:win (p.cells.map Cel.pv) 0 k=(p.cells.take k).map Cel.pv:=by simp [win,List.map_take]
  have hkl:k≤p.cells.length:=hk
  generalize hcc:p.cells[k]=c at *;have tells:∀o:Obj,MD lH [.ref (h.length+1) 0] (fun y=>tC c (sD y)) ((p.cells.take k).map Cel.pv) (h++[o,c.bx]):=fun o y hy K=>by
   obtain⟨d,_,rfl⟩:=List.mem_map.1 hy;dsimp only;rw[SL];exact zk7 c d (h.length+1) (by simp)
  have CF:=fun(o:Obj) K=>WL (h:=h++[o,c.bx]) (K:=K) (tells o) jK (by simp;omega)
  have ea:((p.cells.take k).map Cel.pv).any (fun y=>tC c (sD y))=(p.cells.take k).any (tC c):=by rw[List.any_map];rfl
  simp only[ea]at CF;unfold Cel.bx at CF;simp only[Cel.pv,eI]at g c1;cases hq:YC c with
  | false=>
   rw[hq]at hp;have he:decide (c.pin=[])=true:=by unfold YC at hq;simpa using hq
   simp only[go_sem,hlt,g,c1,w2,he];exact⟨k+1,rfl,⟨by omega,hp⟩,by omega⟩
  | true=>
   rw[hq]at hp;have he:decide (c.pin=[])=false:=by unfold YC at hq;simpa using hq
   cases ha:(p.cells.take k).any (tC c) with
   | true=>
    rw[ha]at hp CF;simp only[go_sem,hlt,g,c1,w2,he,ln,hkl,hw,↓CF,CF];exact f6 hp.symm _
   | false=>
    rw[ha]at hp CF;simp only[go_sem,hlt,g,c1,w2,he,ln,hkl,hw,↓CF,CF];exact⟨k+1,rfl,⟨by omega,hp⟩,by omega⟩
 ·have e:k=p.cells.length:=by omega
  subst e;rw[List.drop_length,List.take_length]at hp;simp only[go_sem,Nat.lt_irrefl];exact f0 hp.symm _
theorem zk6 (p:Prt)(hc:∀ c∈p.cells,c.pin.length≤1000000)(hl:p.cells.length≤100000):kA X JI [.p p.pv] h K=K (AI (zC p.cells)) h []:=by
 refine JA ?_;rw[zaQ rfl];have ln:(p.cells.map Cel.pv).length=p.cells.length:=List.length_map ..
 rw[zbt];by_cases h2:(200:Int)<p.cells.length
 ·rw[if_pos h2]
  simp only[CK,Prt.pv,go_sem,ln,h2]
 rw[if_neg h2];simp only[CK,Prt.pv,go_sem,ln,h2];refine UA (fun k:Nat=>⟨[(1,.ref h.length 0),(13,FC p.cells),(14,AI p.cells.length),(15,AI k)],h++[p.bx],[]⟩) (fun k=>k≤p.cells.length∧BC (UB p.cells) (p.cells.drop k)=BC (UB p.cells) p.cells) (fun k=>p.cells.length-k) 0 rfl ⟨by omega,rfl⟩ ?_
 rintro k ⟨hk,hp⟩
 unfold Prt.bx;rcases Nat.lt_or_ge k p.cells.length with hlt|hge
 ·have g:=dB Cel.pv hlt
  have c1:IA (some 4) 0 p.cells[k].pv=some p.cells[k].pv:=rfl
  have w2:IntKind.i64.wrap ((k:Int)+1)=((k+1:Nat):Int):=FA _ (by omega) (by omega)
  rw[List.drop_eq_getElem_cons hlt,BC]at hp;have hcl:=hc _ (List.getElem_mem hlt)
  generalize hcc:p.cells[k]=c at *;have CE:=fun h K=>zko (h:=h) (K:=K) p.cells c hcl hl
  simp only[Prt.pv,Cel.pv,eI]at CE g c1;by_cases hz:UB p.cells c=0
  ·rw[if_neg (by simp [hz])]at hp
   rw[hz]at CE;simp only[go_sem,hlt,g,c1,w2,↓CE,CE];exact⟨k+1,rfl,⟨by omega,hp⟩,by omega⟩
  ·rw[if_pos hz]at hp
   rw[if_pos (by rw[←hp];exact hz),←hp]
   have e12:eA .neq (.p (.int .i64 (UB p.cells c))) (.p (.int .i64 0))=some (AB true):=by simp only[go_sem,hz]
   simp only[go_sem,hlt,g,c1,w2,↓CE,CE,↓e12]
 ·have e:k=p.cells.length:=by omega
  subst e;rw[List.drop_length]at hp;rw[if_neg (by rw[←hp];simp [BC])]
  simp only[go_sem,Nat.lt_irrefl];refine zk8 p hl _ rfl (fun ht H=>?_) (fun ht H=>?_)
  ·rw[ht];simp only[go_sem]
  ·rw[ht];simp only[go_sem]
end Go.Am
end
section
/- Where a part is: both ways. -/
open Go
set_option linter.all false
namespace Go.Am
variable {h:aA} {K:mA}
abbrev SC (l:List Prt):AV:=.p (.sl (some 2) (l.map Prt.pv))
def zlA:PV→List Cel
 | .sl _ l=>l.map sD
 | _=>[]
def sP:PV→Prt
 | .agg [.str a,b]=>⟨a,zlA b⟩
 | _=>⟨[],[]⟩
theorem zlD (p:Prt):sP p.pv=p:=by
 cases p with
 | mk k c=>
  show(⟨k,(c.map Cel.pv).map sD⟩:Prt)=⟨k,c⟩
  rw[List.map_map];congr 1
  induction c with
  | nil=>rfl
  | cons x r ih=>rw[List.map_cons,ih];rfl
theorem zjr {l:List Prt}:jC (some 2) (l.map Prt.pv):=fun x hx=>by obtain⟨e,_,rfl⟩:=List.mem_map.1 hx;rfl
def LG (l:List Prt):Prop:=l.Pairwise fun p q=>rA p.key q.key<0
theorem z3H (p:Prt)(key:List UInt8):kA X TE [.p p.pv,AS key] h K=K (AI (rA p.key key)) h []:=by
 refine JA ?_;rw[zap rfl];have q:=fun h K=>nP (h:=h) (K:=K) p.key key
 simp only[aR,Prt.pv,go_sem,↓q,q]
theorem zkP (n:Nat)(hn:n≤1000000):IntKind.i64.wrap (XI IntKind.u64 (n:Int) 1)=((n / 2:Nat):Int):=by
 have e:XI IntKind.u64 (n:Int) 1=((n / 2:Nat):Int):=by
  show Int.fdiv (n:Int) 2=_
  rw[Int.fdiv_eq_ediv_of_nonneg _ (by omega)];omega
 rw[e,FA _ (by omega) (by omega)]
theorem zjY (l:List Prt)(key:List UInt8)(hs:LG l)(hl:l.length≤100000)(hk:∀ a b:List UInt8,rA a b<0→∀ c,rA b c<0→rA a c<0) :
 ∃(i:Nat) (is:Bool),(i≤l.length)∧(∀t (ht:t<l.length),t<i→rA l[t].key key<0)∧(∀t (ht:t<l.length),i≤t→¬rA l[t].key key<0)∧(is=true↔∃ht:i<l.length,rA l[i].key key=0) ∧
  ∀(K:mA),kA X pG [SC l,AS key,.fn TE []] h K=K (.tup [AI i,AB is]) h []:=by
 obtain⟨Q,hQ⟩:∃Q:mA,Q=fun v h' x=>∃(i:Nat) (is:Bool),v = .tup [AI i,AB is]∧h'=h∧x=[]∧(i≤l.length)∧(∀t (ht:t<l.length),t<i→rA l[t].key key<0)∧(∀t (ht:t<l.length),i≤t→¬rA l[t].key key<0)∧(is=true↔∃ht:i<l.length,rA l[i].key key=0):=⟨_,rfl⟩
 have H:kA X pG [SC l,AS key,.fn TE []] h Q:=by
  rw[zaS rfl];have ln:(l.map Prt.pv).length=l.length:=List.length_map ..
  simp only[rN,go_sem,ln];refine UA (fun t:Nat×Nat=>⟨[(0,SC l),(1,AS key),(2,.fn TE []),(8,AI l.length),(9,AI t.1),(10,AI t.2)],h,[]⟩) (fun t=>t.1≤t.2∧t.2≤l.length∧(∀k (hk:k<l.length),k<t.1→rA l[k].key key<0)∧∀k (hk:k<l.length),t.2≤k→¬rA l[k].key key<0) (fun t=>t.2-t.1) (0,l.length) rfl ⟨by omega,by omega,fun k _ h=>by omega,fun k h1 h2=>by omega⟩ ?_
  rintro⟨i,j⟩ ⟨h1,h2,h3,h4⟩
  dsimp only at h1 h2 h3 h4 ⊢;rcases Nat.lt_or_ge i j with hij|hge
  ·have w1:IntKind.i64.wrap ((i:Int)+j)=((i+j:Nat):Int):=by rw[FA _ (by omega) (by omega)];omega
   have w2:IntKind.u64.wrap ((i+j:Nat):Int)=((i+j:Nat):Int):=PU _ (by omega) (by omega)
   have w3:=zkP (i+j) (by omega)
   have hm:(i+j) / 2<l.length:=by omega
   have hm1:i≤(i+j) / 2:=by omega
   have hm2:(i+j) / 2<j:=by omega
   have g:=dB Prt.pv hm
   have h3':=fun q:rA l[(i+j) / 2].key key<0=>q
   generalize hmm:(i+j) / 2=m at *;have c1:IA (some 2) 0 l[m].pv=some l[m].pv:=rfl
   have w4:IntKind.i64.wrap ((m:Int)+1)=((m+1:Nat):Int):=FA _ (by omega) (by omega)
   have F:=fun h K=>z3H (h:=h) (K:=K) l[m] key
   simp only[Prt.pv]at g c1 F;by_cases hc:rA l[m].key key<0
   ·simp only[go_sem,hij,w1,w2,w3,hm,g,c1,↓F,F,hc,w4]
    refine⟨(m+1,j),rfl,⟨by dsimp only;omega,h2,fun k hk1 hk2=>?_,h4⟩,by dsimp only;omega⟩
    dsimp only at hk2;by_cases e:k=m
    ·subst e;exact hc
    ·exact hk _ _ (List.pairwise_iff_getElem.1 hs k m hk1 hm (by omega)) _ hc
   ·simp only[go_sem,hij,w1,w2,w3,hm,g,c1,↓F,F,hc]
    refine⟨(i,m),rfl,⟨by dsimp only;omega,by dsimp only;omega,h3,fun k hk1 hk2=>?_⟩,by dsimp only;omega⟩
    dsimp only at hk2;by_cases e:k=m
    ·subst e;exact hc
    ·intro q
     exact hc (hk _ _ (List.pairwise_iff_getElem.1 hs m k hm hk1 (by omega)) _ q)
  ·have e:i=j:=by omega
   subst e;rcases Nat.lt_or_ge i l.length with hlt|hge2
   ·have g:=dB Prt.pv hlt
    have c1:IA (some 2) 0 l[i].pv=some l[i].pv:=rfl
    have F:=fun h K=>z3H (h:=h) (K:=K) l[i] key
    simp only[Prt.pv]at g c1 F;by_cases hz:rA l[i].key key=0
    ·simp only[go_sem,Nat.lt_irrefl,hlt,g,c1,↓F,F,hz]
     rw[hQ];exact⟨i,true,rfl,rfl,rfl,h2,h3,h4,by simp [hlt,hz]⟩
    ·simp only[go_sem,Nat.lt_irrefl,hlt,g,c1,↓F,F,hz]
     rw[hQ];exact⟨i,false,rfl,rfl,rfl,h2,h3,h4,by simp [hz]⟩
   ·have hn:¬i<l.length:=by omega
    simp only[go_sem,Nat.lt_irrefl,hn];rw[hQ];exact⟨i,false,rfl,rfl,rfl,h2,h3,h4,by simp [hn]⟩
 rw[hQ]at H;obtain⟨v,h',x,⟨i,is,rfl,rfl,rfl,q1,q2,q3,q4⟩,gK⟩:=kA.one cK H;exact⟨i,is,q1,q2,q3,q4,gK⟩
def EH (l:List Prt)(key:List UInt8):Int:=SD (fun y=>decide ((sP y).key=key)) (l.map Prt.pv)
def EA (b:Brd):Obj:=.box [SC b.parts,.p (.sl (some 3) (b.joins.map Jon.pv)),.p (.sl (some 2) (b.pulls.map Pul.pv))]
theorem mK (a:List UInt8):rA a a=0:=by have:=bE a a;omega
theorem zeS {l:List Prt}{key:List UInt8}(hs:LG l){i:Nat}(hi:i<l.length)(he:l[i].key=key):l.findIdx (fun p=>decide (p.key=key))=i:=by
 rw[List.findIdx_eq hi];refine⟨by simp [he],fun j hj=>?_⟩
 have:=List.pairwise_iff_getElem.1 hs j i (by omega) hi hj
 rw[he]at this;simp only[decide_eq_false_iff_not];intro e;rw[e,mK]at this;omega
theorem SO (l:List Prt)(key:List UInt8):EH l key=if l.findIdx (fun p=>decide (p.key=key))<l.length then((l.findIdx fun p=>decide (p.key=key):Nat):Int) else -1:=by
 unfold EH SD;have e:(l.map Prt.pv).findIdx (fun y=>decide ((sP y).key=key))=l.findIdx fun p=>decide (p.key=key):=by
  rw[List.findIdx_map];congr 1
 rw[e,List.length_map]
theorem zkz (b:Brd)(key:List UInt8)(hs:LG b.parts)(hl:b.parts.length≤100000):kA X aH [.p b.pv,AS key] h K=K (AI (EH b.parts key)) h []:=by
 refine JA ?_;rw[zao rfl];obtain⟨i,is,q1,q2,q3,q4,B⟩:=zjY (h:=h++[EA b]) b.parts key hs hl fun a b h1 c h2=>fI h1 h2
 unfold EA at B;cases is with
 | true=>
  obtain⟨ht,hz⟩:=q4.1 rfl;have hf:=zeS hs ht (PE hz)
  have e:EH b.parts key=i:=by rw[SO,hf,if_pos ht]
  rw[e];simp only[RM,Brd.pv,go_sem,↓B,B]
 | false=>
  have e:EH b.parts key = -1:=by
   rw[SO,if_neg];intro hlt;have hp:=List.findIdx_getElem (w:=hlt)
   simp only[decide_eq_true_eq]at hp;generalize b.parts.findIdx (fun p=>decide (p.key=key))=j at *
   by_cases hij:j<i
   ·have:=q2 j hlt hij
    rw[hp,mK]at this;omega
   ·by_cases e:j=i
    ·subst e
     have:=q4.2 ⟨hlt,by rw[hp,mK]⟩
     cases this
    ·have h1:=List.pairwise_iff_getElem.1 hs i j (by omega) hlt (by omega)
     rw[hp]at h1;exact q3 i (by omega) (Nat.le_refl _) h1
  rw[e];simp only[RM,Brd.pv,go_sem,↓B,B]
theorem zki (p:Prt)(key:List UInt8)(id:Nat)(hk:h[id]?=some (.box [AS key])):kA X jH [.p p.pv,.ref id 0] h K=K (AB (decide (p.key=key))) h []:=by
 refine JA ?_;rw[zaK rfl];have hl:=WB hk
 have hk2:∀t,(h++t)[id]?=some (.box [AS key]):=fun t=>by rw[List.getElem?_append_left hl];exact hk
 simp only[CR,Prt.pv,go_sem,hk2]
theorem zkh (b:Brd)(key:List UInt8)(hl:b.parts.length≤100000):kA X GI [.p b.pv,AS key] h K=K (AI (EH b.parts key)) h []:=by
 refine JA ?_;rw[zaJ rfl];have tells:MD jH [.ref (h.length+1) 0] (fun y=>decide ((sP y).key=key)) (b.parts.map Prt.pv) (h++[EA b,.box [AS key]]):=fun y hy K=>by
  obtain⟨p,_,rfl⟩:=List.mem_map.1 hy;dsimp only;rw[zlD];exact zki p key (h.length+1) (by simp)
 have ix:=fun K=>z5R (h:=h++[EA b,.box [AS key]]) (K:=K) (IU zjr) tells (by simp;omega)
 unfold EA at ix;unfold EH;simp only[BR,Brd.pv,go_sem,↓ix,ix]
theorem aX {α:Type}{p q:α→Bool}:∀{l:List α},(∀x∈l,p x=q x)→l.any p=l.any q
 | [],_=>rfl
 | x::r,h=>by rw[List.any_cons,List.any_cons,h x (by simp),aX (l:=r) fun y hy=>h y (by simp [hy])]
theorem zkA (c:Cel)(pin:List UInt8)(id:Nat)(hk:h[id]?=some (.box [AS pin])):kA X kG [.p c.pv,.ref id 0] h K=K (AB (GB c&&decide (c.pin=pin))) h []:=by
 refine JA ?_;rw[zau rfl];have hl:=WB hk
 have hk2:∀t,(h++t)[id]?=some (.box [AS pin]):=fun t=>by rw[List.getElem?_append_left hl];exact hk
 have HP:=fun h K=>zU (h:=h) (K:=K) c
 simp only[Cel.pv,eI]at HP;cases hq:GB c with
 | false=>
  rw[hq]at HP;simp only[VM,Cel.pv,eI,go_sem,↓HP,HP]
 | true=>
  rw[hq]at HP;simp only[VM,Cel.pv,eI,go_sem,↓HP,HP,hk2]
theorem zk0 (c:Cel)(pin:List UInt8)(id:Nat)(hk:h[id]?=some (.box [AS pin])):kA X kH [.p c.pv,.ref id 0] h K=K (AB (decide (c.pin=pin))) h []:=by
 refine JA ?_;rw[zaN rfl];have hl:=WB hk
 have hk2:∀t,(h++t)[id]?=some (.box [AS pin]):=fun t=>by rw[List.getElem?_append_left hl];exact hk
 simp only[DR,Cel.pv,eI,go_sem,hk2]
def aK (b:Brd):Prop:=b.parts.length≤100000∧∀p∈b.parts,p.cells.length≤100000∧∀c∈p.cells,c.pin.length≤1000000
theorem zk9 (b:Brd)(part pin:List UInt8)(hs:LG b.parts)(ho:aK b):kA X cH [.p b.pv,AS part,AS pin] h K=K (AB (LF b part pin)) h []:=by
 refine JA ?_;rw[zat rfl];have FI:=fun h K=>zkz (h:=h) (K:=K) b part hs ho.1
 have pe:=SO b.parts part
 unfold LF aU;by_cases hlt:b.parts.findIdx (fun p=>decide (p.key=part))<b.parts.length
 ·rw[if_pos hlt]at pe
  rw[pe]at FI;rw[List.getElem?_eq_getElem hlt];generalize b.parts.findIdx (fun p=>decide (p.key=part))=i at *
  have g:=dB Prt.pv hlt
  have hpo:=ho.2 _ (List.getElem_mem hlt)
  generalize b.parts[i]=p at *;have c1:IA none 1 p.pv=some (.sl (some 4) (p.cells.map Cel.pv)):=rfl
  have tells:MD kG [.ref (h.length+1) 0] (fun y=>GB (sD y)&&decide ((sD y).pin=pin)) (p.cells.map Cel.pv) (h++[EA b,.box [AS pin]]):=fun y hy K=>by
   obtain⟨c,_,rfl⟩:=List.mem_map.1 hy;dsimp only;rw[SL];exact zkA c pin (h.length+1) (by simp)
  have CF:=fun K=>WL (h:=h++[EA b,.box [AS pin]]) (K:=K) tells jK (by simp;omega)
  have ea:(p.cells.map Cel.pv).any (fun y=>GB (sD y)&&decide ((sD y).pin=pin))=p.cells.any fun c=>GB c&&decide (c.pin=pin):=by rw[List.any_map];rfl
  rw[ea]at CF;unfold EA at CF;have n0:¬((i:Int)<0):=by omega
  have n1:(0:Int)≤(i:Int):=by omega
  simp only[Brd.pv]at FI;simp only[UM,Brd.pv,go_sem,↓FI,FI,n1,hlt,g,c1,↓CF,CF]
 ·rw[if_neg hlt]at pe
  rw[pe]at FI;rw[List.getElem?_eq_none (by omega)]
  simp only[Brd.pv]at FI;simp only[UM,Brd.pv,go_sem,↓FI,FI]
theorem zk1 (b:Brd)(part pin:List UInt8)(hq:∀ p∈b.parts,∀ c∈p.cells,YC c=GB c)(ho:aK b):kA X II [.p b.pv,AS part,AS pin] h K=K (AB (LF b part pin)) h []:=by
 refine JA ?_;rw[zaM rfl];have FI:=fun h K=>zkh (h:=h) (K:=K) b part ho.1
 have pe:=SO b.parts part
 unfold LF aU;by_cases hlt:b.parts.findIdx (fun p=>decide (p.key=part))<b.parts.length
 ·rw[if_pos hlt]at pe
  rw[pe]at FI;rw[List.getElem?_eq_getElem hlt];have hpq:=hq _ (List.getElem_mem hlt)
  generalize b.parts.findIdx (fun p=>decide (p.key=part))=i at *
  have g:=dB Prt.pv hlt
  have hpo:=ho.2 _ (List.getElem_mem hlt)
  generalize b.parts[i]=p at *;have c1:IA none 1 p.pv=some (.sl (some 4) (p.cells.map Cel.pv)):=rfl
  have tells:MD kH [.ref (h.length+1) 0] (fun y=>decide ((sD y).pin=pin)) (p.cells.map Cel.pv) (h++[EA b,.box [AS pin]]):=fun y hy K=>by
   obtain⟨c,_,rfl⟩:=List.mem_map.1 hy;dsimp only;rw[SL];exact zk0 c pin (h.length+1) (by simp)
  have CF:=fun K=>WL (h:=h++[EA b,.box [AS pin]]) (K:=K) tells jK (by simp;omega)
  have ea:(p.cells.map Cel.pv).any (fun y=>decide ((sD y).pin=pin))=p.cells.any fun c=>decide (c.pin=pin):=by rw[List.any_map];rfl
  rw[ea]at CF;unfold EA at CF;have n1:(0:Int)≤(i:Int):=by omega
  simp only[Brd.pv]at FI;by_cases hp0:pin=[]
  ·have z:(p.cells.any fun c=>GB c&&decide (c.pin=pin))=false:=by
    rw[List.any_eq_false];intro c hc;have:=hpq c hc;unfold YC at this;cases h1:decide (c.pin=pin) with
    | false=>simp
    | true=>
     have h2:c.pin=pin:=by simpa using h1
     rw[h2,hp0]at this;simp at this;simp [this]
   dsimp only;rw[z];have hp0':=eq_true hp0
   simp only[BK,Brd.pv,go_sem,↓FI,FI,n1,hp0']
  ·have z:(p.cells.any fun c=>GB c&&decide (c.pin=pin))=p.cells.any fun c=>decide (c.pin=pin):=by
    refine aX fun c hc=>?_
    have:=hpq c hc;unfold YC at this;cases h1:decide (c.pin=pin) with
    | false=>simp
    | true=>
     have h2:c.pin=pin:=by simpa using h1
     have h3:c.pin≠[]:=by rw[h2];exact hp0
     simp [h3]at this;simp [this]
   dsimp only;rw[z];simp only[BK,Brd.pv,go_sem,↓FI,FI,n1,hp0,hlt,g,c1,↓CF,CF]
 ·rw[if_neg hlt]at pe
  rw[pe]at FI;rw[List.getElem?_eq_none (by omega)]
  simp only[Brd.pv]at FI;simp only[BK,Brd.pv,go_sem,↓FI,FI]
end Go.Am
end
section
/- Maps,asv lists of keys with values. -/
open Go
set_option linter.all false
namespace Go.Am
section
variable {α β:Type} [DecidableEq α]
def CC (key:α→PV)(val:β→AV):Nat→List (α×β)→List ME
 | _,[]=>[]
 | n,e::r=>⟨key e.1,val e.2,n⟩::CC key val (n+1) r
def oB (key:α→PV)(val:β→AV)(l:List (α × β)):Obj:=.amap (CC key val 0 l) l.length
def yB (k:α):List (α×β)→Option Nat
 | []=>none
 | e::r=>if k=e.1 then some 0 else(yB k r).map (· + 1)
def QA (k:α):List (α×β)→Option β
 | []=>none
 | e::r=>if k=e.1 then some e.2 else QA k r
def qC (k:α)(v:β):List (α×β)→List (α×β)
 | []=>[(k,v)]
 | e::r=>if k=e.1 then(k,v)::r else e::qC k v r
def cE (k:α)(v:β)(l:List (α × β)):List (α×β):=if(yB k l).isSome then l else l++[(k,v)]
def MF (k:α)(l:List (α × β)):Nat:=(yB k l).getD l.length
def JG (key:α→PV):Prop:=∀a b,PV.eqv (key a) (key b)=some (decide (a=b))
theorem RS:JG (fun n:Int=>PV.int .i64 n):=fun a b=>by simp [PV.eqv,PV.eq1]
theorem TS {n:Int}{k:IntKind}:oC (none,[0]) (.p (.int k n))=some (.int k n):=by simp [oC,PV.key,PV.shp,PV.sc,PV.cells,PV.kind]
variable {key:α→PV} {val:β→AV}
theorem fO (hk:JG key)(k:α):∀(l:List (α×β)) (n:Nat),fC (key k) (CC key val n l)=some (yB k l)
 | [],n=>rfl
 | e::r,n=>by
  simp only[CC,fC,hk k e.1,yB];by_cases h:k=e.1
  ·simp [h]
  ·simp [h,fO hk k r (n+1)]
theorem z26:∀ (l:List (α × β))(n:Nat),(CC key val n l).length=l.length
 | [],n=>rfl
 | e::r,n=>by simp [CC,z26 r (n+1)]
theorem aJ:∀ (l:List (α × β))(n i:Nat),(CC key val n l)[i]?=(l[i]?).map fun e=>⟨key e.1,val e.2,n+i⟩
 | [],n,i=>rfl
 | e::r,n,0=>rfl
 | e::r,n,i+1=>by simp only[CC,List.getElem?_cons_succ,aJ r (n+1) i];rw[show n+1+i=n+(i+1) by omega]
theorem SU {k:α}:∀{l:List (α×β)} {i:Nat},yB k l=some i→i<l.length
 | [],i,h=>by cases h
 | e::r,i,h=>by
  unfold yB at h;split at h
  ·cases h;simp
  ·obtain⟨j,hj,e2⟩:=Option.map_eq_some_iff.1 h
   have:=SU hj;simp;omega
theorem uP {k:α}:∀{l:List (α×β)} {i:Nat},yB k l=some i→l[i]?=(QA k l).map fun v=>(k,v)
 | [],i,h=>by cases h
 | e::r,i,h=>by
  unfold yB at h;unfold QA;split at h
  ·rename_i hk;cases h;simp [hk]
  ·rename_i hk
   obtain⟨j,hj,e2⟩:=Option.map_eq_some_iff.1 h;subst e2;rw[if_neg hk,List.getElem?_cons_succ];exact uP hj
theorem vP {k:α}:∀{l:List (α×β)},yB k l=none→QA k l=none
 | [],h=>rfl
 | e::r,h=>by
  unfold yB at h;unfold QA;split at h
  ·cases h
  ·rename_i hk
   rw[if_neg hk];exact vP (by simpa using h)
theorem wP {k:α}:∀{l:List (α×β)} {i:Nat},yB k l=some i→(QA k l).isSome=true
 | [],i,h=>by cases h
 | e::r,i,h=>by
  unfold yB at h;unfold QA;split at h
  ·rename_i hk;simp [hk]
  ·rename_i hk
   obtain⟨j,hj,e2⟩:=Option.map_eq_some_iff.1 h;rw[if_neg hk];exact wP hj
theorem z4t {k:α}{l:List (α × β)}:(yB k l).isSome=(QA k l).isSome:=by
 generalize h:yB k l=o;cases o with
 | none=>rw[vP h];rfl
 | some i=>rw[wP h];rfl
theorem zgR {k:α}{l:List (α × β)}{n:Nat}:((yB k l).bind fun i=>(CC key val n l)[i]?).map ME.val=(QA k l).map val:=by
 cases h:yB k l with
 | none=>rw[vP h];rfl
 | some i=>
  simp only[Option.bind_some,aJ,uP h];cases QA k l <;> rfl
theorem TL {k:α}{v:β}:∀{l:List (α×β)},yB k l=none→qC k v l=l++[(k,v)]
 | [],h=>rfl
 | e::r,h=>by
  unfold yB at h;unfold qC;split at h
  ·cases h
  ·rename_i hk
   rw[if_neg hk,TL (by simpa using h)];rfl
theorem RU {k:α}{v:β}:∀{l:List (α×β)} {i:Nat},yB k l=some i→qC k v l=l.set i (k,v)
 | [],i,h=>by cases h
 | e::r,i,h=>by
  unfold yB at h;unfold qC;split at h
  ·rename_i hk;cases h;simp [hk]
  ·rename_i hk
   obtain⟨j,hj,e2⟩:=Option.map_eq_some_iff.1 h;subst e2;rw[if_neg hk,RU hj];rfl
theorem XS (k:α)(v:β):∀(l:List (α×β)) (n:Nat),CC key val n (l++[(k,v)])=CC key val n l++[⟨key k,val v,n+l.length⟩]
 | [],n=>rfl
 | e::r,n=>by simp only[List.cons_append,CC,XS k v r (n+1),List.length_cons];rw[show n+1+r.length=n+(r.length+1) by omega]
theorem z27 {k:α}{v:β}{l:List (α × β)}{i n:Nat}(h:yB k l=some i):(CC key val n l).modify i (fun e=>{ e with val:=val v })=CC key val n (l.set i (k,v)):=by
 apply List.ext_getElem?
 intro j;rw[List.getElem?_modify,aJ,aJ,List.getElem?_set];have hi:=SU h
 have hg:=uP h
 by_cases hij:i=j
 ·subst hij
  rw[hg];simp only[if_true,hi];obtain⟨w,hw⟩:=Option.isSome_iff_exists.1 (wP h);rw[hw];rfl
 ·simp [hij]
variable {h:aA} {id:Nat} {l:List (α × β)} {kk:Sh × List Nat} {k:α}
theorem gO (hh:h[id]?=some (oB key val l)):cC h (.mp id)=some (id,CC key val 0 l,l.length):=by
 simp only[cC,hh,oB]
theorem VK (hk:JG key)(hh:h[id]?=some (oB key val l))(hq:oC kk (.p (key k))=some (key k)){ok:Bool}{z:AV} :
 kB kk ok z (.mp id) (.p (key k)) h=some (bif ok then .tup [((QA k l).map val).getD z,AV.p (.bool (QA k l).isSome)] else((QA k l).map val).getD z):=by
 simp only[kB,hq,gO hh,Option.map_some,fO hk,zgR,Option.isSome_map];rfl
theorem z29 (hk:JG key)(hh:h[id]?=some (oB key val l))(hq:oC kk (.p (key k))=some (key k)){v:β}(hv:KF (val v)=true) :
 BB kk (.mp id) (.p (key k)) (val v) h=some (.und,h.set id (oB key val (qC k v l)),RB id (val v)):=by
 simp only[BB,hq,gO hh,hv,fO hk];cases hw:yB k l with
 | none=>
  simp only[oB,TL hw,XS,List.length_append,List.length_cons,List.length_nil,Nat.zero_add]
 | some i=>
  simp only[oB,RU hw,z27 hw,List.length_set]
theorem z4u {k:α}{v:β}:∀{l:List (α×β)},yB k l=none→yB k (l++[(k,v)])=some l.length
 | [],h=>by simp [yB]
 | e::r,h=>by
  unfold yB at h;split at h
  ·cases h
  ·rename_i hk
   have ih:=z4u (v:=v) (by simpa using h:yB k r=none)
   simp only[List.cons_append,yB,if_neg hk,ih];rfl
theorem zlN {k:α}{v:β}{l:List (α × β)}:yB k (cE k v l)=some (MF k l):=by
 unfold cE MF;cases hw:yB k l with
 | none=>simp [z4u hw]
 | some i=>simp [hw]
theorem z4m {k:α}{v w:β}{l:List (α × β)}:(cE k v l).set (MF k l) (k,w)=qC k w l:=by
 unfold cE MF;cases hw:yB k l with
 | none=>simp [TL hw]
 | some i=>simp [RU hw]
theorem zgT (hk:JG key)(hh:h[id]?=some (oB key val l))(hq:oC kk (.p (key k))=some (key k)){v0:β} :
 fJ kk (val v0) (.mp id) (.p (key k)) h=some (.tup [val ((QA k l).getD v0),AV.p (.int .i64 (MF k l))],h.set id (oB key val (cE k v0 l)),[]):=by
 simp only[fJ,hq,gO hh,fO hk];unfold cE MF;cases hw:yB k l with
 | none=>
  simp only[vP hw,Option.isSome_none,Bool.false_eq_true,if_false,oB,XS,Nat.zero_add,List.length_append,List.length_cons,List.length_nil,Option.getD_none];rfl
 | some i=>
  have hg:=uP hw
  obtain⟨w,hw2⟩:=Option.isSome_iff_exists.1 (wP hw);rw[hw2]at hg;have hs:h.set id (oB key val l)=h:=by
   apply List.ext_getElem?
   intro j;rw[List.getElem?_set];split
   ·rename_i e;subst e;rw[hh];simp [(List.getElem?_eq_some_iff.1 hh).1]
   ·rfl
  simp only[aJ,hg,hw2,Option.isSome_some,if_true,hs,Option.map_some,Option.getD_some,Nat.zero_add];rfl
theorem z9W {l:List (α × β)}{i:Nat}(hi:i<l.length):(CC key val 0 l).findIdx? (fun e=>e.born==i)=some i:=by
 rw[List.findIdx?_eq_some_iff_getElem];have hl:=z26 (key:=key) (val:=val) l 0
 have hb:∀j (hj:j<(CC key val 0 l).length),(CC key val 0 l)[j].born=j:=fun j hj=>by
  have h1:=List.getElem?_eq_getElem hj
  rw[aJ,List.getElem?_eq_getElem (by omega)]at h1
  simp only[Option.map_some,Option.some.injEq]at h1;rw[←h1];simp
 refine⟨by omega,by simp [hb],fun j hj=>?_⟩
 simp [hb];omega
theorem zeD {v0:β}(hh:h[id]?=some (oB key val (cE k v0 l))){v:β}(hv:KF (val v)=true) :
 eJ (.mp id) (.p (.int .i64 (MF k l))) (val v) h=some (.und,h.set id (oB key val (qC k v l)),RB id (val v)):=by
 have hw:=zlN (k:=k) (v:=v0) (l:=l)
 have hn:gB (.p (.int .i64 ((MF k l:Nat):Int)))=some (MF k l):=YK
 simp only[eJ,gO hh,hn,hv,z9W (SU hw),z27 hw,z4m,oB];rw[←z4m (v:=v0),List.length_set]
theorem KS (k k':α)(v:β):∀(l:List (α×β)),QA k' (qC k v l)=if k'=k then some v else QA k' l
 | []=>by simp [qC,QA]
 | e::r=>by
  unfold qC;by_cases h1:k=e.1
  ·rw[if_pos h1];simp only[QA]
   by_cases h2:k'=k
   ·simp [h2]
   ·rw[if_neg h2,if_neg h2,if_neg (by rw[←h1];exact h2)]
  ·rw[if_neg h1];simp only[QA,KS k k' v r]
   by_cases h2:k'=e.1
   ·rw[if_pos h2,if_pos h2,if_neg (by rw[h2];exact fun h=>h1 h.symm)]
   ·rw[if_neg h2,if_neg h2]
end
end Go.Am
end
section
/- What is wrong with limits,both ways: printed by program. -/
open Go
set_option linter.unusedSimpArgs false
namespace Go.Am
variable {h:aA} {K:mA}
end Go.Am
end
section
/- Package lot on measured values,and what the reference says of them. -/
open Go
namespace Go.Am
variable {h:aA} {K:mA}
end Go.Am
end
section
/- Records: what they are,what is wrong with them. -/
open Go
set_option linter.unusedSimpArgs false
namespace Go.Am
variable {h:aA} {K:mA}
theorem zjE {b:Nat}{P:mA}{vs:List AV}{h:aA}:GD true b P (some vs) h []=P (bB vs) (h.take (max b (bB vs).top)) []:=by
 simp [GD,aC,VB]
attribute [go_sem] zjE
structure Rec where
 unit:List UInt8
 time:Int
 site:List UInt8
 res:List Int
def Rec.pv (r:Rec):PV:=.agg [.str r.unit,eI r.time,.str r.site,.sl none (r.res.map eI)]
end Go.Am
end
section
/- Records: what is wrong with them,both ways. -/
open Go
set_option linter.unusedSimpArgs false
namespace Go.Am
variable {h:aA} {K:mA}
def orL:List Int→Int
 | []=>0
 | x::r=>if x≠0 then x else orL r
theorem zky (l:List Int)(hl:l.length≤1000):kA X lG [AL l] h K=K (AI (orL l)) h []:=by
 refine JA ?_;rw[zay rfl];simp only[XM,go_sem];refine UA (fun k:Nat=>⟨[(3,AI 0),(6,AL l),(7,AI l.length),(8,AI k)],h,[]⟩) (fun k=>k≤l.length∧orL (l.drop k)=orL l) (fun k=>l.length-k) 0 rfl ⟨by omega,rfl⟩ ?_
 rintro k ⟨hk,hp⟩
 rcases Nat.lt_or_ge k l.length with hlt|hge
 ·have g2:=dB eI hlt
  have w2:IntKind.i64.wrap ((k:Int)+1)=((k+1:Nat):Int):=FA _ (by omega) (by omega)
  rw[List.drop_eq_getElem_cons hlt,orL]at hp;by_cases hz:l[k]=0
  ·rw[if_neg (by simp [hz])]at hp
   simp only[go_sem,hlt,g2,hz,w2];exact⟨k+1,rfl,⟨by omega,hp⟩,by omega⟩
  ·rw[if_pos hz]at hp
   simp only[go_sem,hlt,g2,hz];rw[hp]
 ·have ek:k=l.length:=by omega
  subst ek;rw[List.drop_length]at hp;simp only[go_sem,Nat.lt_irrefl];rw[←hp];rfl
end Go.Am
end
section
/- Lengths of numbers in bits,and comparisons of plain values. -/
open Go
namespace Go.Am
variable {h:aA} {K:mA}
set_option maxRecDepth 20000
theorem zlv (k:Nat)(hk:k<256):∃b,([0,1,2,2,3,3,3,3,4,4,4,4,4,4,4,4,5,5,5,5,5,5,5,5,5,5,5,5,5,5,5,5,6,6,6,6,6,6,6,6,6,6,6,6,6,6,6,6,6,6,6,6,6,6,6,6,6,6,6,6,6,6,6,6,7,7,7,7,7,7,7,7,7,7,7,7,7,7,7,7,7,7,7,7,7,7,7,7,7,7,7,7,7,7,7,7,7,7,7,7,7,7,7,7,7,7,7,7,7,7,7,7,7,7,7,7,7,7,7,7,7,7,7,7,7,7,7,7,8,8,8,8,8,8,8,8,8,8,8,8,8,8,8,8,8,8,8,8,8,8,8,8,8,8,8,8,8,8,8,8,8,8,8,8,8,8,8,8,8,8,8,8,8,8,8,8,8,8,8,8,8,8,8,8,8,8,8,8,8,8,8,8,8,8,8,8,8,8,8,8,8,8,8,8,8,8,8,8,8,8,8,8,8,8,8,8,8,8,8,8,8,8,8,8,8,8,8,8,8,8,8,8,8,8,8,8,8,8,8,8,8,8,8,8,8,8,8,8,8,8,8,8,8,8,8,8]:List UInt8)[k]?=some b:=⟨_,List.getElem?_eq_getElem (Nat.lt_of_lt_of_eq hk (by kernel_rfl))⟩
theorem z2t (x:Int)(h0:0≤x)(h1:x<256):∃m:Int,∀(h:aA) (K:mA),kA X mG [AU x] h K=K (AI m) h []:=by
 obtain⟨b,hb⟩:=zlv x.toNat (by omega)
 refine⟨IntKind.i64.wrap (0+IntKind.i64.wrap b.toNat),fun h K=>?_⟩
 have w:IntKind.u8.wrap x=x:=by simp [IntKind.wrap,IntKind.bits,IntKind.signed];omega
 have b1:¬(4294967296≤x):=by omega
 have b2:¬(65536≤x):=by omega
 have b3:¬(256≤x):=by omega
 have hn:=iF (k:=.u8) h0
 have key:∀(h:aA) (K:mA),kA X zI [AU x] h K=K (AI (IntKind.i64.wrap (0+IntKind.i64.wrap b.toNat))) h []:=by
  intro h K;refine JA ?_;rw[za3 rfl];simp only[YM,go_sem,b1,b2,b3,w,hn,hb]
 refine JA ?_;rw[za2 rfl];simp only[jR,go_sem,key]
end Go.Am
end
section
/- Lists of strings sorted,left out: printed by program. -/
open Go
set_option linter.unusedSimpArgs false
namespace Go.Am
attribute [-go_sem] PV.cells splice
variable {h:aA} {K:mA}
theorem zf3 (id n:Nat)(l tl:List PV)(hn:n=l.length+tl.length)(hs:jC none l)(hl:l.length≤1000)(hh:h[id]?=some (.row none (l++tl) 0)){lt:PV→PV→Bool}(hc:∀ x∈l,∀ y∈l,∀ (h:aA) (K:mA),kA X vE [.p x,.p y] h K=K (AB (lt x y)) h []) :
 kA X RI [.own id n 0 l.length,AI 0,AI l.length] h K=K (.tup []) (h.set id (.row none (CB lt l++tl) 0)) []:=by
 refine JA ?_;rw[zbg];have hid:=WB hh
 have hst:∀o,(h.set id o)[id]?=some o:=fun o=>CG hid
 simp only[AN,go_sem,show IntKind.i64.wrap 1=1 from rfl]
 refine UA (fun i:Nat=>⟨[(0,.own id n 0 l.length),(1,AI 0),(2,AI l.length),(6,AI i)],h.set id (.row none ((OC lt (l.take i)).reverse++(l.drop i++tl)) 0),[]⟩) (fun i=>1≤i∧(i≤l.length∨i=1)) (fun i=>l.length-i) 1 ?_ (by simp) ?_
 ·have:(OC lt (l.take 1)).reverse++(l.drop 1++tl)=l++tl:=by cases l <;> rfl
  rw[this,UJ hh];rfl
 rintro i ⟨hi1,hi2⟩
 rcases Nat.lt_or_ge i l.length with hlt|hge
 ·simp only[go_sem,hlt]
  have hxl:l[i]∈l:=List.getElem_mem hlt
  generalize hx:l[i]=x at *;generalize hR:OC lt (l.take i)=R;have hRl:R.length=i:=by rw[←hR,z2e];simp;omega
  have hRm:∀z∈R,z∈l:=fun z hz=>List.mem_of_mem_take ((ZN lt (l.take i)).mem_iff.1 (by rw[hR];exact hz))
  have hdrop:l.drop i=x::l.drop (i+1):=by rw[←hx];exact List.drop_eq_getElem_cons hlt
  have hnext:OC lt (l.take (i+1))=IB lt x R:=by rw[z2h _ _ _ hlt,hR,hx]
  refine UA (fun t:List PV×List PV=>⟨[(0,.own id n 0 l.length),(1,AI 0),(2,AI l.length),(6,AI i),(7,AI t.1.length)],h.set id (.row none (t.1.reverse++x::t.2) 0),[]⟩)
   (fun t=>∃B,R=B++t.1∧t.2=B.reverse++(l.drop (i+1)++tl)∧∀b∈B,lt x b=true) (fun t=>t.1.length) (R,l.drop (i+1)++tl) (by rw[hdrop,hRl];rfl) ⟨[],rfl,rfl,by simp⟩ ?_
  rintro⟨A,C⟩ ⟨B,q1,q2,q3⟩
  dsimp only at q1 q2 q3;have hlen:(A.reverse++x::C).length=n:=by
   have:R.length=B.length+A.length:=by rw[q1];simp
   rw[q2];simp;omega
  have hBA:B.length+A.length<l.length:=by
   have:R.length=B.length+A.length:=by rw[q1];simp
   omega
  have hln:l.length≤n:=by omega
  have w1:IntKind.i64.wrap ((i:Int)+1)=((i+1:Nat):Int):=FA _ (by omega) (by omega)
  cases A with
  | nil=>
   have hd:IB lt x R=B++[x]:=by rw[q1];exact YN lt x [] B q3 (fun y r h=>by cases h)
   simp only[go_sem,Int.lt_irrefl,w1];refine⟨i+1,?_,by omega,by omega⟩
   simp only[hnext,hd,q2,List.reverse_append,List.reverse_nil,List.nil_append,List.reverse_cons,List.append_assoc,List.cons_append]
  | cons y A=>
   have hyl:y∈l:=hRm y (by rw[q1];simp)
   have g1:=z2b (y::A) C x
   have g2:=z2c A C x y
   have sw:=z2d A C x y
   simp only[List.length_cons]at hBA;generalize hrow:(y::A).reverse++x::C=row at *;simp only[List.length_cons]at g1;have w2:IntKind.i64.wrap (((A.length+1:Nat):Int)-1)=(A.length:Int):=by rw[FA _ (by omega) (by omega)];omega
   have p1:(0:Int)<((A.length+1:Nat):Int):=by omega
   have b1:A.length+1<l.length:=by omega
   have b2:A.length<l.length:=by omega
   have cx:=oF (hs x hxl)
   have cy:=oF (hs y hyl)
   have hcc:=fun h K=>hc x hxl y hyl h K
   cases hxy:lt x y with
   | false=>
    have hd:IB lt x R=B++x::y::A:=by rw[q1];exact YN lt x (y::A) B q3 (fun z r h=>by cases h;exact hxy)
    simp only[go_sem,hst,p1,hlen,g1,g2,w2,b1,b2,hln,cx,cy,hcc,hxy,w1];refine⟨i+1,?_,by omega,by omega⟩
    simp only[hnext,hd,←hrow,q2,List.reverse_append,List.reverse_cons,List.append_assoc,List.cons_append,List.nil_append]
   | true=>
    have g3:(row.set (A.length+1) y)[A.length]?=some y:=by rw[List.getElem?_set_ne (by omega),g2]
    have lx:=KL (hs x hxl)
    have ly:=KL (hs y hyl)
    have sx:=JL (hs x hxl)
    have sy:=JL (hs y hyl)
    simp only[jA]at lx ly;have t1:=fun i xs h1=>LL (hs x hxl) (hs y hyl) id i 0 xs h1
    have t2:=fun i xs h1=>LL (hs y hyl) (hs x hxl) id i 0 xs h1
    simp only[go_sem,hst,p1,hlen,g1,g2,g3,w2,b1,b2,hln,cx,cy,hcc,hxy,lx,ly,sx,sy,t1,t2,sw];refine⟨(A,y::C),rfl,⟨B++[y],by simp [q1],by simp [q2],fun b hb=>?_⟩,by simp⟩
    rw[List.mem_append,List.mem_singleton]at hb;rcases hb with hb|rfl
    ·exact q3 b hb
    ·exact hxy
 ·have hge':¬i<l.length:=by omega
  have e1:l.take i=l:=List.take_of_length_le hge
  have e2:l.drop i=[]:=List.drop_of_length_le hge
  simp only[go_sem,hge',e1,e2];rfl
theorem z8i (id n:Nat)(l tl:List PV)(hn:n=l.length+tl.length)(hs:jC none l)(hl:l.length≤12)(hh:h[id]?=some (.row none (l++tl) 0)){lt:PV→PV→Bool}(hc:∀ x∈l,∀ y∈l,∀ (h:aA) (K:mA),kA X vE [.p x,.p y] h K=K (AB (lt x y)) h []) :
 kA X oH [.own id n 0 l.length] h K=K (.tup []) (h.set id (.row none (CB lt l++tl) 0)) []:=by
 refine JA ?_;rw[zbe];have w0:IntKind.u64.wrap (l.length:Int)=l.length:=PU _ (by omega) (by omega)
 obtain⟨m,hm⟩:=z2t (l.length:Int) (by omega) (by omega)
 have is:=fun h' (hq:h'=h) K=>zf3 (h:=h) (K:=K) id n l tl hn hs (by omega) hh hc
 have key:∀K:mA,kA X aF [.own id n 0 l.length,AI 0,AI l.length,AI m] h K=K (.tup []) (h.set id (.row none (CB lt l++tl) 0)) []:=by
  intro K;refine JA ?_;rw[zbi];simp only[DN,go_sem];refine UA (fun _:Unit=>⟨[(0,.own id n 0 l.length),(1,AI 0),(2,AI l.length),(3,AI m),(8,AB true),(9,AB true)],h,[]⟩) (fun _=>True) (fun _=>0) () rfl trivial ?_
  intro _ _;have w1:IntKind.i64.wrap ((l.length:Int)-0)=l.length:=by rw[FA _ (by omega) (by omega)];omega
  have b1:((l.length:Int)≤12):=by omega
  simp only[go_sem,w1,b1,is _ rfl]
 simp only[LR,go_sem,w0,hm,key]
theorem z4B (id:Nat)(l:List PV)(hs:jC none l)(hl:l.length≤100000)(hh:h[id]?=some (.row none l 0)){q:PV→PV→Bool}(hq1:∀ x∈l,∀ y∈l,eA .eql (.p x) (.p y)=some (AB (q x y)))(hq2:∀ x∈l,∀ y∈l,eA .neq (.p x) (.p y)=some (AB (!q x y))) :
 kA X XE [.own id l.length 0 l.length] h K=K (.own id l.length 0 (NB q l).length) (h.set id (.row none (NB q l++List.replicate (l.length-(NB q l).length) (PV.str [])) 0)) []:=by
 refine JA ?_;rw[zaT];have hid:=WB hh
 have hst:∀o,(h.set id o)[id]?=some o:=fun o=>CG hid
 have hb:¬h.length≤id:=by omega
 have hb2:max h.length (id+1)=h.length:=by omega
 have hb3:id+1≤h.length:=hid
 by_cases h2:l.length<2
 ·have h2':(l.length:Int)<2:=by omega
  have e:NB q l=l:=by
   cases l with
   | nil=>rfl
   | cons x r=>
    have:r=[]:=List.length_eq_zero_iff.1 (by simp only[List.length_cons]at h2;omega)
    subst this;rfl
  simp only[EK,go_sem,h2',e,Nat.sub_self,List.replicate_zero,List.append_nil,hb,hb2,hb3];rw[UJ hh]
 have h2':¬(l.length:Int)<2:=by omega
 simp only[EK,go_sem,h2'];refine UA (fun k:Nat=>⟨[(0,.own id l.length 0 l.length),(3,AI ((k+1:Nat):Int))],h,[]⟩) (fun k=>k+1≤l.length∧NB q (l.take (k+1))=l.take (k+1)) (fun k=>l.length-(k+1)) 0 rfl ⟨by omega,?_⟩ ?_
 ·cases l with
  | nil=>rfl
  | cons x r=>rfl
 rintro k ⟨hk,hc⟩
 rcases Nat.lt_or_ge (k+1) l.length with hlt|hge
 ·have hk0:k<l.length:=by omega
  have g1:l[k+1]?=some l[k+1]:=List.getElem?_eq_getElem hlt
  have g2:l[k]?=some l[k]:=List.getElem?_eq_getElem hk0
  have c1:=oF (MH hs hlt)
  have c2:=oF (MH hs hk0)
  have w1:IntKind.i64.wrap (((k+1:Nat):Int)-1)=(k:Int):=by rw[FA _ (by omega) (by omega)];omega
  have w2:IntKind.i64.wrap (((k+1:Nat):Int)+1)=((k+1+1:Nat):Int):=FA _ (by omega) (by omega)
  have hqk:=hq1 _ (List.getElem_mem hlt) _ (List.getElem_mem hk0)
  have hcs:=kY q l k hlt
  cases hqx:q l[k+1] l[k]with
  | false=>
   rw[hqx]at hcs;simp only[go_sem,hh,hlt,hk0,g1,g2,c1,c2,w1,w2,hqk,hqx];exact⟨k+1,rfl,⟨by omega,by rw[hcs,hc,cond_false,List.take_succ_eq_append_getElem hlt]⟩,by omega⟩
  | true=>
   rw[hqx,cond_true,List.append_nil,hc]at hcs;have hle:k+1≤l.length:=by omega
   simp only[go_sem,hh,hlt,hk0,hle,g1,g2,c1,c2,w1,hqk,hqx];have e0:k+1+(l.length-(k+1))=l.length:=by omega
   refine UA (fun t:List PV×Nat×Nat=>⟨[(0,.own id l.length 0 l.length),(3,AI ((t.2.1:Nat):Int)),(4,.own id l.length (k+1) (l.length-(k+1))),(5,AI ((t.2.2+1:Nat):Int))],h.set id (.row none t.1 0),[]⟩)
    (fun t=>t.1.length=l.length∧jC none t.1∧t.2.1≤k+1+t.2.2∧k+1+t.2.2<l.length∧t.1.take t.2.1=NB q (l.take (k+1+t.2.2+1))∧t.1.drop (k+1+t.2.2)=l.drop (k+1+t.2.2)) (fun t=>l.length-t.2.2)
    (l,k+1,0) (by rw[UJ hh];rfl) ⟨rfl,hs,by simp,by simpa using hlt,by simpa using hcs.symm,rfl⟩ ?_
   rintro⟨row,i,j⟩ ⟨r1,r2,r3,r4,r5,r6⟩
   dsimp only at r1 r2 r3 r4 r5 r6;rcases Nat.lt_or_ge (k+1+j+1) l.length with hlt2|hge2
   ·have a1:row[k+1+j+1]?=some l[k+1+j+1]:=by
     have:=congrArg (·[1]?) r6
     simp only[List.getElem?_drop]at this;rw[this,List.getElem?_eq_getElem hlt2]
    have a2:row[k+1+j]?=some l[k+1+j]:=by
     have:=congrArg (·[0]?) r6
     simp only[List.getElem?_drop,Nat.add_zero]at this;rw[this,List.getElem?_eq_getElem r4]
    have s1:=MH hs hlt2
    have d1:=oF s1
    have d2:=oF (MH hs r4)
    have hil:i<l.length:=by omega
    have hir:i<row.length:=by omega
    have g3:row[i]?=some row[i]:=List.getElem?_eq_getElem hir
    have t1:=fun xs h1=>LL s1 (MH r2 hir) id i 0 xs h1
    have lx:=KL s1
    have sx:=JL s1
    simp only[jA]at lx;have v1:IntKind.i64.wrap (((j+1:Nat):Int)-1)=(j:Int):=by rw[FA _ (by omega) (by omega)];omega
    have v2:IntKind.i64.wrap (((j+1:Nat):Int)+1)=((j+1+1:Nat):Int):=FA _ (by omega) (by omega)
    have v3:IntKind.i64.wrap ((i:Int)+1)=((i+1:Nat):Int):=FA _ (by omega) (by omega)
    have p1:j+1<l.length-(k+1):=by omega
    have p2:j<l.length-(k+1):=by omega
    have p3:k+1+(j+1)=k+1+j+1:=by omega
    have p4:k+1+(l.length-(k+1))≤l.length:=by omega
    have hqj:=hq2 _ (List.getElem_mem hlt2) _ (List.getElem_mem r4)
    have hcs2:=kY q l (k+1+j) hlt2
    cases hqy:q l[k+1+j+1] l[k+1+j]with
    | true=>
     rw[hqy,cond_true,List.append_nil]at hcs2;simp only[go_sem,hst,r1,p1,p2,p3,p4,e0,a1,a2,d1,d2,v1,v2,hqj,hqy];refine⟨(row,i,j+1),rfl,⟨r1,r2,by dsimp only;omega,by dsimp only;omega,?_,?_⟩,by dsimp only;omega⟩
     ·dsimp only;rw[r5,←hcs2];rfl
     ·dsimp only;rw[show k+1+(j+1)=k+1+j+1 from rfl,←List.drop_drop,r6,List.drop_drop]
    | false=>
     rw[hqy,cond_false]at hcs2;simp only[go_sem,hst,r1,p1,p2,p3,p4,e0,a1,a2,g3,d1,d2,v1,v2,v3,hil,hqj,hqy,lx,sx,t1];refine⟨(row.set i l[k+1+j+1],i+1,j+1),rfl,⟨by simpa using r1,fun x hx=>?_,by dsimp only;omega,by dsimp only;omega,?_,?_⟩,by dsimp only;omega⟩
     ·rcases List.mem_or_eq_of_mem_set hx with hx|rfl
      ·exact r2 x hx
      ·exact s1
     ·dsimp only
      rw[show k+1+(j+1)+1=k+1+j+1+1 from rfl,hcs2,←r5,List.take_succ_eq_append_getElem (by simp;omega)]
      simp [List.take_set_of_le]
     ·dsimp only
      rw[List.drop_set_of_lt (by omega),show k+1+(j+1)=k+1+j+1 from rfl,←List.drop_drop,r6,List.drop_drop]
   ·have ej:k+1+j+1=l.length:=by omega
    rw[ej,List.take_length]at r5;have hil:i≤l.length:=by omega
    have hm:(NB q l).length=i:=by rw[←r5];simp;omega
    have p1:¬(j+1<l.length-(k+1)):=by omega
    have sp:splice row i (List.replicate (l.length-i) (PV.str []))=NB q l++List.replicate (l.length-i) (PV.str []):=by
     unfold splice;rw[r5,List.length_replicate,List.drop_of_length_le (by omega),List.append_nil]
    have rl:(NB q l++List.replicate (l.length-i) (PV.str [])).length=l.length:=by simp only[List.length_append,hm,List.length_replicate];omega
    rw[hm];generalize NB q l++List.replicate (l.length-i) (PV.str [])=row' at *;simp only[go_sem,hst,r1,rl,hil,p1,sp,show i+(l.length-i)=l.length by omega,hb,hb2,hb3]
 ·have ek:k+1=l.length:=by omega
  rw[ek,List.take_length]at hc;have hge':¬k+1<l.length:=by omega
  simp only[go_sem,hge',hc,Nat.sub_self,List.replicate_zero,List.append_nil,hb,hb2,hb3];rw[UJ hh]
end Go.Am
end
section
/- What is drawn: numbers,measured values. -/
open Go
namespace Go.Am
variable {L:List Int} {a:Int}
theorem g_Odd (hp:sA 14 a)(u v:Int)(huv:u≤v)(hu : -1000000000000≤u)(hv:v≤1000000000000):∃k a2:Int,a≤a2∧a2≤a+2 ∧ -1099511627776≤k∧k≤1099511627776 ∧
 Gen CI [AI u,AI v] L a a2 (AI k):=by
 have w1:IntKind.i64.wrap (u-1)=u-1:=FA _ (by omega) (by omega)
 have w2:IntKind.i64.wrap (v+1)=v+1:=FA _ (by omega) (by omega)
 by_cases hf:DA L a 12=0
 ·have hm:=zjh (L:=L) (a:=a+1) (l:=[u-1,v+1,u,v,-1099511627776,1099511627776]) (by simp) (by simp)
  simp only[List.mem_cons,List.not_mem_nil,or_false]at hm;refine⟨BE [u-1,v+1,u,v,-1099511627776,1099511627776] L (a+1),a+1+1,by omega,by omega,by omega,by omega,Gen.of fun h id hid=>?_⟩
  rw[BX rfl];simp only[iN,go_sem,hid,z3a hp,hf,w1,w2]
 ·have hm:=lU L (a+1) huv (by omega)
  refine⟨NF u v L (a+1),a+1+1,by omega,by omega,by omega,by omega,Gen.of fun h id hid=>?_⟩
  rw[BX rfl];simp only[iN,go_sem,hid,z3a hp,hf,w1,w2,huv,show -1152921504606846976≤u by omega,show v≤1152921504606846976 by omega]
end Go.Am
end
section
/- Strings that are drawn. -/
open Go
set_option linter.unusedSimpArgs false
namespace Go.Am
variable {L:List Int} {a:Int} {h l:aA} {id:Nat} {K:mA}
def isS:PV→Bool
 | .str _=>true
 | _=>false
def unS:PV→List UInt8
 | .str s=>s
 | _=>[]
def XC (l:List (List UInt8))(L:List Int)(a:Int):List UInt8:=l.getD (DA L a l.length).toNat []
theorem z2X {l:List (List UInt8)}{L:List Int}{a:Int}(hl:0<l.length)(hl2:l.length<4611686018427387904):XC l L a∈l:=by
 obtain⟨b1,b2⟩:=iE L a l.length (by omega) (by omega)
 unfold XC;have:(DA L a l.length).toNat<l.length:=by omega
 simp only[List.getD,List.getElem?_eq_getElem this,Option.getD_some];exact List.getElem_mem _
theorem zlE {xs:List PV}(h:xs.all isS=true):xs=(xs.map unS).map PV.str:=by
 induction xs with
 | nil=>rfl
 | cons x r ih=>
  simp only[List.all_cons,Bool.and_eq_true]at h;simp only[List.map_cons];rw[←ih h.2];cases x <;> first|rfl|cases h.1
theorem zfg (hp:sA 0 a)(xs:List PV)(hx:xs.all isS=true)(hl:0<xs.length)(hl2:xs.length<4611686018427387904) :
 Gen wC [.p (.sl none xs)] L a (a+1) (AS (XC (xs.map unS) L a)):=by
 refine Gen.of fun h id hid=>?_
 rw[zaD rfl];obtain⟨b1,b2⟩:=iE L a xs.length (by omega) (by omega)
 have e4:=iF (k:=.i64) b1
 have e5:xs[(DA L a xs.length).toNat]?=some (.str (XC (xs.map unS) L a)):=by
  have hm:=zlE hx
  generalize hq:xs.map unS=q at *;subst hm;simp only[List.length_map]at *;rw[dB PV.str (show(DA L a q.length).toNat<q.length by omega)]
  simp [XC,List.getD,show(DA L a q.length).toNat<q.length by omega]
 simp only[xR,go_sem,TJ hid hp,e4,e5]
theorem PF (hid:id<h.length)(hp:sA 0 a){xs:List PV}(hx:xs.all isS=true)(hl:0<xs.length)(hl2:xs.length<4611686018427387904) :
 kA X wC [.ref id 0,.p (.sl none xs)] (h.set id (vA L a)++l) K=K (AS (XC (xs.map unS) L a)) (h.set id (vA L (a+1))++l) []:=(zfg hp xs hx hl hl2).app hid
attribute [go_sem ↓] PF
attribute [go_sem] PF isS unS
end Go.Am
end
section
/- What is drawn: strings,limits. -/
open Go
set_option linter.unusedSimpArgs false
namespace Go.Am
variable {L:List Int} {a:Int} {h l:aA} {id:Nat} {K:mA}
end Go.Am
end
section
/- Sorting records: printed by program. -/
open Go
set_option linter.unusedSimpArgs false
namespace Go.Am
attribute [-go_sem] PV.cells splice
variable {h:aA} {K:mA}
end Go.Am
end
section
/- Leaving out what is alike: printed by program. -/
open Go
set_option linter.unusedSimpArgs false
namespace Go.Am
attribute [-go_sem] PV.cells splice
variable {h:aA} {K:mA}
end Go.Am
end
section
/- What is drawn: records. -/
open Go
set_option linter.unusedSimpArgs false
namespace Go.Am
variable {L:List Int} {a:Int} {h l:aA} {id:Nat} {K:mA}
theorem zbv {b:Nat}{x:Esc}(hx:∀ y∈x,b≤y.1):∀k,aC k x b=b:=by
 have hb:WH x b=b:=by
  unfold WH;induction x with
  | nil=>rfl
  | cons y r ih=>
   simp only[List.foldl_cons];rw[if_neg (by have:=hx y (by simp);omega)]
   exact ih (fun z hz=>hx z (by simp [hz]))
 intro k;induction k with
 | zero=>rfl
 | succ k ih=>unfold aC;rw[hb,ih]
theorem zl8 {b i t:Nat}{x0:Esc}{e:List (Nat × AV)}{h:aA}(hi:i<b):nE b x0 ⟨e,h,[(i,t)]⟩=⟨zF (max b t) e,h.take (max b t),(i,t)::x0⟩:=by
 unfold nE;have hb:aC [(i,t)].length [(i,t)] b=max b t:=by simp [aC,WH,hi]
 simp only[hb];have hc:VB [(i,t)] (max b t)=true:=by simp [VB];omega
 have hf:[(i,t)].filter (fun y=>decide (y.1<max b t))=[(i,t)]:=by simp;omega
 rw[if_pos hc,hf];rfl
end Go.Am
end
section
/- Merging two ordered lists: by sorting and leaving out what is alike,and by looking each one up. Plain lists. -/
namespace Go.Am
variable {α:Type}
structure Ordr (c:α→α→Int):Prop where
 neg:∀a b,c b a = - c a b
 trans:∀a b d,c a b≤0→c b d≤0→c a d≤0
theorem Ordr.refl {c:α→α→Int}(o:Ordr c)(a:α):c a a=0:=by have:=o.neg a a;omega
def ltO (c:α→α→Int)(a b:α):Bool:=decide (c a b<0)
theorem Ordr.weak {c:α→α→Int}(o:Ordr c):Weak (ltO c):=by
 refine⟨fun a b h=>?_,fun a b d h1 h2=>?_⟩
 ·simp only[ltO,decide_eq_true_eq,decide_eq_false_iff_not]at h ⊢
  have:=o.neg a b;omega
 ·simp only[ltO,decide_eq_false_iff_not]at h1 h2 ⊢
  have q1:=o.neg a b
  have q2:=o.neg b d
  have q3:=o.trans a b d (by omega) (by omega)
  have q4:=o.neg a d
  omega
variable {c:α→α→Int} {q:α→α→Bool} {a b:List α}
end Go.Am
end
section
/- Records alike;copies;bins. -/
open Go
set_option linter.unusedSimpArgs false
namespace Go.Am
variable {h:aA} {K:mA}
def EU (a b:Rec):Bool:=decide (a.unit=b.unit)&&(decide (a.time=b.time)&&(decide (a.site=b.site)&&decide (a.res=b.res)))
theorem zkJ (a b:Rec):EU a b=true↔a=b:=by
 cases a;cases b
 simp [EU]
end Go.Am
end
section
/- Sorting numbers: printed by program. -/
open Go
set_option linter.unusedSimpArgs false
namespace Go.Am
attribute [-go_sem] PV.cells splice
variable {h:aA} {K:mA}
end Go.Am
end
section
/- Bins,both ways;lists joined;records sorted. -/
open Go
set_option linter.unusedSimpArgs false
namespace Go.Am
variable {h:aA} {K:mA}
end Go.Am
end
section
/- Lists of records joined,compared,merged. -/
open Go
set_option linter.unusedSimpArgs false
namespace Go.Am
variable {h:aA} {K:mA}
instance:DecidableEq Rec:=fun a b=>decidable_of_iff (EU a b=true) (zkJ a b)
end Go.Am
end
section
/- Records merged asv the reference does it. -/
open Go
set_option linter.unusedSimpArgs false
namespace Go.Am
variable {h:aA} {K:mA}
theorem WQ {a b c:List UInt8}(h1:rA a b≤0)(h2:rA b c≤0):rA a c≤0:=by
 by_cases e1:rA a b=0
 ·rw[PE e1];exact h2
 ·by_cases e2:rA b c=0
  ·rw[←PE e2];exact h1
  ·have:=fI (a:=a) (b:=b) (c:=c) (by omega) (by omega)
   omega
end Go.Am
end
section
/- Retests: which record of a unit counts. Plain lists;both ways yield the same. -/
set_option linter.all false
namespace Go.Am
def ltS (a b:List UInt8):Bool:=decide (rA a b<0)
end Go.Am
end
section
/- Lists of strings. -/
open Go
set_option linter.all false
namespace Go.Am
variable {h:aA} {K:mA}
theorem X_ex2:X.ex2=X.ex2:=rfl
theorem JU {us:List (List UInt8)}:jC none (us.map PV.str):=fun x hx=>by obtain⟨n,_,rfl⟩:=List.mem_map.1 hx;rfl
def z4k:PV→List UInt8
 | .str s=>s
 | _=>[]
theorem XH:∀ a b:List UInt8,Op.bytesLess a b=ltS a b
 | [],[]=>rfl
 | [],_::_=>rfl
 | _::_,[]=>rfl
 | a::x,b::y=>by
  have ih:=XH x y
  unfold ltS at ih ⊢;unfold Op.bytesLess rA;rw[ih];by_cases h1:a<b
  ·simp [h1]
  ·by_cases h2:b<a
   ·have:¬a=b:=fun e=>by subst e;exact UInt8.lt_irrefl _ h2
    simp [h1,h2,this]
   ·have:a=b:=by
     rcases UInt8.lt_or_lt_of_ne (a:=a) (b:=b) |> fun f=>Classical.em (a=b) with e|e
     ·exact e
     ·rcases UInt8.lt_or_lt_of_ne e with h|h
      ·exact absurd h h1
      ·exact absurd h h2
    simp [h1,h2,this]
def ltPS (x y:PV):Bool:=ltS (z4k x) (z4k y)
theorem zfB (us:List (List UInt8)):CB ltPS (us.map PV.str)=(CB ltS us).map PV.str:=z2i PV.str (fun a b=>rfl) us
end Go.Am
end
section
/- Texts sorted. -/
open Go
set_option linter.all false
namespace Go.Am
variable {h:aA} {K:mA}
theorem mP (a:List UInt8):kA X dE [AS a] h K=K (AB false) h []:=by
 refine JA ?_;rw[zaz rfl];simp only[fR,go_sem]
theorem zke (a b:List UInt8):kA X vE [AS a,AS b] h K=K (AB (ltS a b)) h []:=by
 refine JA ?_;rw[zax rfl];simp only[eR,go_sem,mP,XH]
theorem zgK {us:List (List UInt8)}:∀x∈us.map PV.str,∀y∈us.map PV.str,∀(h:aA) (K:mA),kA X vE [.p x,.p y] h K=K (AB (ltPS x y)) h []:=by
 intro x hx y hy h K;obtain⟨a,_,rfl⟩:=List.mem_map.1 hx;obtain⟨b,_,rfl⟩:=List.mem_map.1 hy;exact zke a b
theorem z3G (id:Nat)(us:List (List UInt8))(hl:us.length≤12)(hh:h[id]?=some (.row none (us.map PV.str) 0)) :
 kA X oH [.own id us.length 0 us.length] h K=K (.tup []) (h.set id (.row none ((CB ltS us).map PV.str) 0)) []:=by
 have:=z8i (h:=h) (K:=K) id us.length (us.map PV.str) [] (by simp) JU (by simpa using hl) (by simpa using hh) (lt:=ltPS) zgK
 simp only[List.length_map,List.append_nil,zfB]at this;exact this
end Go.Am
end
section
/- A board's joins: their order,and what is wrong with them: the program. -/
open Go
set_option linter.all false
set_option maxRecDepth 100000
namespace Go.Am
variable {h:aA} {K:mA}
theorem BU (a b:List UInt8):kA X xI [AS a,AS b] h K=K (AI (rA a b)) h []:=by
 refine JA ?_;rw[zaw rfl];have n:=dY a b
 by_cases h1:rA a b<0
 ·have e:rA a b = -1:=by omega
  have l1:ltS a b=true:=by simp [ltS,h1]
  simp only[tK,go_sem,mP,XH,l1,e]
 ·have l1:ltS a b=false:=by simp [ltS,h1]
  by_cases h2:a=b
  ·have e:rA a b=0:=by rw[h2];exact mK b
   have h2p:=eq_true h2
   simp only[tK,go_sem,mP,XH,l1,h2p,e]
  ·have hz:rA a b≠0:=fun z=>h2 (PE z)
   have e:rA a b=1:=by omega
   simp only[tK,go_sem,mP,XH,l1,h2,e]
theorem or3 (a b c:Int):orL [a,b,c]=if a≠0 then a else if b≠0 then b else c:=by
 unfold orL orL orL;by_cases h1:a=0
 ·subst h1
  by_cases h2:b=0
  ·subst h2
   by_cases h3:c=0 <;> simp [orL,h3]
  ·simp [h2]
 ·simp [h1]
theorem zkm (x y:Jon):kA X XG [.p x.pv,.p y.pv] h K=K (AI (nB x y)) h []:=by
 refine JA ?_;rw[zak rfl];have q1:=fun h K=>nP (h:=h) (K:=K) x.net y.net
 have q2:=fun h K=>nP (h:=h) (K:=K) x.part y.part
 have q3:=fun h K=>nP (h:=h) (K:=K) x.pin y.pin
 have q4:=fun h K=>zky (h:=h) (K:=K) [rA x.net y.net,rA x.part y.part,rA x.pin y.pin] (by simp)
 rw[or3]at q4;simp only[AL,List.map_cons,List.map_nil]at q4;unfold nB;simp only[ZQ,Jon.pv,go_sem,↓q1,q1,↓q2,q2,↓q3,q3,↓q4,q4]
def Jon.bx (j:Jon):Obj:=.box [AS j.net,AS j.part,AS j.pin]
def spP (s:List UInt8 × List UInt8):PV:=.agg [.str s.1,.str s.2]
def uF (b:Bool):AV:=.p (.bool b)
theorem z2o:JG spP:=fun a b=>by
 obtain⟨a1,a2⟩:=a;obtain⟨b1,b2⟩:=b;have e:decide ((a1,a2)=(b1,b2))=(decide (a1=b1)&&(decide (a2=b2)&&true)):=by rw[Bool.eq_iff_iff];simp
 rw[e];rfl
theorem z2p {s:List UInt8 × List UInt8}:oC (some 2,[2,2]) (.p (spP s))=some (spP s):=by simp [spP,oC,PV.key,PV.shp,PV.sc,PV.cells,PV.kind]
def lE (l:List Jon):List ((List UInt8×List UInt8)×Bool):=l.map fun x=>((x.part,x.pin),true)
theorem JS (x:Jon):∀l:List Jon,QA (x.part,x.pin) (lE l)=if l.any (rD x) then some true else none
 | []=>rfl
 | y::l=>by
  have ih:=JS x l
  unfold lE at ih ⊢;rw[List.map_cons];unfold QA;rw[ih,List.any_cons];have e:((x.part,x.pin)=(y.part,y.pin))↔rD x y=true:=by
   unfold rD;simp only[Prod.mk.injEq,Bool.and_eq_true,decide_eq_true_eq];exact⟨fun h=>⟨h.1.symm,h.2.symm⟩,fun h=>⟨h.1.symm,h.2.symm⟩⟩
  by_cases hc:rD x y=true
  ·rw[if_pos (e.2 hc),hc];rfl
  ·have hf:rD x y=false:=by simpa using hc
   rw[if_neg (fun z=>hc (e.1 z)),hf,Bool.false_or]
theorem zlH (l:List Jon)(x:Jon)(h:l.any (rD x)=false):qC (x.part,x.pin) true (lE l)=lE (l++[x]):=by
 have:yB (x.part,x.pin) (lE l)=none:=by
  have e:=z4t (k:=(x.part,x.pin)) (l:=lE l)
  rw[JS,h]at e;simpa using e
 rw[TL this];unfold lE;simp
theorem z4i (seen:List Jon)(x:Jon)(r:List Jon):twJ seen (x::r)=if seen.any (rD x) then true else twJ (seen++[x]) r:=rfl
theorem OS (b:Brd)(p:Option Jon)(x:Jon)(r:List Jon):PC b p (x::r)=if xB x.net=false then 5 else if LF b x.part x.pin=false then 8 else if(match p with|some q=>decide (nB x q≤0)|none=>false)=true then 7 else PC b (some x) r:=rfl
attribute [-go_sem] kB BB
attribute [-go_sem] GN kI
theorem zk4 {K:Ex→St→Prop}(b:Brd)(hl:b.joins.length≤100000)(env:List (Nat × AV))(b1:bA env 1 = .ref h.length 0)
 (f6:twJ [] b.joins=true→∀H,K .ret ⟨[(2,AI 6)],h++H,[]⟩) (f0:twJ [] b.joins=false→∀H,K .ret ⟨[(2,AI 0)],h++H,[]⟩) :
 NW (kA X) X.gl jL ⟨env,h++[EA b],[]⟩ K:=by
 rw[GN];have ln:(b.joins.map Jon.pv).length=b.joins.length:=List.length_map ..
 unfold EA;simp only[kI,b1,go_sem,ln];refine UA (fun k:Nat=>⟨[(5,.mp (h.length+1)),(51,.p (.sl (some 3) (b.joins.map Jon.pv))),(52,AI b.joins.length),(53,AI k)],h++[EA b,oB spP uF (lE (b.joins.take k))],[]⟩) (fun k=>k≤b.joins.length∧twJ (b.joins.take k) (b.joins.drop k)=twJ [] b.joins) (fun k=>b.joins.length-k) 0 rfl ⟨by omega,rfl⟩ ?_
 rintro k ⟨hk,hp⟩
 rcases Nat.lt_or_ge k b.joins.length with hlt|hge
 ·have g:=dB Jon.pv hlt
  have c1:IA (some 3) 0 b.joins[k].pv=some b.joins[k].pv:=rfl
  have w2:IntKind.i64.wrap ((k:Int)+1)=((k+1:Nat):Int):=FA _ (by omega) (by omega)
  rw[List.drop_eq_getElem_cons hlt,z4i]at hp;have tk:b.joins.take (k+1)=b.joins.take k++[b.joins[k]]:=List.take_succ_eq_append_getElem hlt
  rw[←tk]at hp;generalize hx:b.joins[k]=x at *;generalize b.joins.take k=S at *;generalize hb:EA b=bo at *;have lk:=fun(hp:aA) (e:hp[h.length+1]?=some (oB spP uF (lE S)))=>VK (kk:=(some 2,[2,2])) (k:=(x.part,x.pin)) z2o e z2p (ok:=false) (z:=uF false)
  have up:=fun(hp:aA) (e:hp[h.length+1]?=some (oB spP uF (lE S)))=>z29 (kk:=(some 2,[2,2])) (k:=(x.part,x.pin)) z2o e z2p (v:=true) rfl
  have l1:=fun t=>lk (h++bo::oB spP uF (lE S)::t) (by simp)
  have u1:=fun t=>up (h++bo::oB spP uF (lE S)::t) (by simp)
  rw[JS]at l1;simp only[uF,spP,cond_false,RB,AV.top]at l1 u1;simp only[Jon.pv]at g c1;cases hc:S.any (rD x) with
  | true=>
   rw[hc,if_pos rfl]at hp;rw[hc]at l1;simp only[if_true,Option.map_some,Option.getD_some,uF]at l1;simp only[go_sem,hlt,g,c1,l1];exact f6 hp.symm _
  | false=>
   rw[hc,if_neg (by simp)]at hp
   rw[hc]at l1;have us:=zlH S x hc
   simp only[Bool.false_eq_true,if_false,Option.map_none,Option.getD_none,uF]at l1;have nl0:¬h.length+1<0:=by omega
   simp only[nl0,if_false]at u1;rw[us]at u1;simp only[go_sem,hlt,g,c1,l1,u1,w2];refine⟨k+1,?_,⟨by omega,hp⟩,by omega⟩
   rw[tk]
 ·have e:k=b.joins.length:=by omega
  subst e;rw[List.drop_length,List.take_length]at hp;simp only[go_sem,Nat.lt_irrefl];exact f0 hp.symm _
end Go.Am
end
section
/- A board's joins,its nets,the whole of it: the program. -/
open Go
set_option linter.all false
set_option maxRecDepth 100000
namespace Go.Am
variable {h:aA} {K:mA}
attribute [-go_sem] kB BB GN kI
structure JonsOk (b:Brd):Prop where
 l:b.joins.length≤12
 n:∀j∈b.joins,j.net.length≤1000000
theorem gF {α:Type}{l:List α}{k:Nat}(hk:k+1≤l.length):(l.take (k+1)).getLast?=l[k]?:=by
 rw[List.take_succ_eq_append_getElem (by omega),List.getLast?_append,List.getElem?_eq_getElem (by omega)]
 simp
theorem zk3 (b:Brd)(hs:LG b.parts)(ho:aK b)(hj:JonsOk b):kA X bH [.p b.pv] h K=K (AI (UD b)) h []:=by
 refine JA ?_;rw[zar rfl];have ln:(b.joins.map Jon.pv).length=b.joins.length:=List.length_map ..
 have hl:=hj.l
 unfold UD;have h1000:¬(1000:Int)<b.joins.length:=by omega
 rw[if_neg h1000];simp only[SM,Brd.pv,go_sem,ln,h1000];refine UA (fun k:Nat=>⟨[(1,.ref h.length 0),(14,.p (.sl (some 3) (b.joins.map Jon.pv))),(15,AI b.joins.length),(16,AI k)],h++[EA b],[]⟩) (fun k=>k≤b.joins.length∧PC b (b.joins.take k).getLast? (b.joins.drop k)=PC b none b.joins) (fun k=>b.joins.length-k) 0 rfl ⟨by omega,rfl⟩ ?_
 rintro k ⟨hk,hp⟩
 rcases Nat.lt_or_ge k b.joins.length with hlt|hge
 ·have g:=dB Jon.pv hlt
  have c1:IA (some 3) 0 b.joins[k].pv=some b.joins[k].pv:=rfl
  have w2:IntKind.i64.wrap ((k:Int)+1)=((k+1:Nat):Int):=FA _ (by omega) (by omega)
  rw[List.drop_eq_getElem_cons hlt,OS]at hp;have lg:(b.joins.take (k+1)).getLast?=some b.joins[k]:=by rw[gF (by omega),List.getElem?_eq_getElem hlt]
  have hx:=hj.n _ (List.getElem_mem hlt)
  have KY:=fun h K=>yU (h:=h) (K:=K) b.joins[k].net (by omega)
  have PN:=fun h K=>zk9 (h:=h) (K:=K) b b.joins[k].part b.joins[k].pin hs ho
  have BN:=fun(y:Jon) h K=>zkm (h:=h) (K:=K) b.joins[k] y
  generalize hxx:b.joins[k]=x at *;simp only[Jon.pv]at g c1 BN;simp only[Brd.pv]at PN;unfold EA;cases hkey:xB x.net with
  | false=>
   rw[hkey,if_pos rfl]at hp;rw[hkey]at KY;rw[←hp];simp only[go_sem,hlt,g,c1,↓KY,KY]
  | true=>
   rw[hkey,if_neg (by simp)]at hp
   rw[hkey]at KY;cases hpin:LF b x.part x.pin with
   | false=>
    rw[hpin,if_pos rfl]at hp;rw[hpin]at PN;rw[←hp];simp only[go_sem,hlt,g,c1,↓KY,KY,↓PN,PN]
   | true=>
    rw[hpin,if_neg (by simp)]at hp
    rw[hpin]at PN;cases k with
    | zero=>
     rw[List.take_zero,List.getLast?_nil,if_neg (by simp)]at hp
     have hlt0:(0:Int)<b.joins.length:=by omega
     simp only[go_sem,hlt,hlt0,g,c1,↓KY,KY,↓PN,PN,Int.lt_irrefl,show((0:Nat):Int)=0 from rfl,show IntKind.i64.wrap 1=1 from rfl]
     refine⟨1,rfl,⟨by omega,?_⟩,by omega⟩
     rw[lg];exact hp
    | succ m=>
     have hm:m<b.joins.length:=by omega
     have gm:=dB Jon.pv hm
     have cm:IA (some 3) 0 b.joins[m].pv=some b.joins[m].pv:=rfl
     have wm:IntKind.i64.wrap (((m+1:Nat):Int)-1)=(m:Int):=by rw[FA _ (by omega) (by omega)];omega
     have p1:(0:Int)<((m+1:Nat):Int):=by omega
     rw[gF (by omega),List.getElem?_eq_getElem hm]at hp
     generalize b.joins[m]=y at *;have BN':=BN y
     simp only[Jon.pv]at gm cm BN';by_cases hc:nB x y≤0
     ·rw[if_pos (by simp [hc])]at hp
      rw[←hp];simp only[go_sem,hlt,g,c1,↓KY,KY,↓PN,PN,p1,wm,hm,gm,cm,↓BN',BN',hc]
     ·rw[if_neg (by simp [hc])]at hp
      simp only[go_sem,hlt,g,c1,↓KY,KY,↓PN,PN,p1,wm,hm,gm,cm,↓BN',BN',hc,w2];refine⟨m+1+1,rfl,⟨by omega,?_⟩,by omega⟩
      rw[lg];exact hp
 ·have e:k=b.joins.length:=by omega
  subst e;rw[List.drop_length]at hp;have z:PC b none b.joins=0:=hp.symm
  rw[if_neg (by simp [z])]
  simp only[go_sem,Nat.lt_irrefl];refine zk4 b (by omega) _ rfl (fun ht H=>?_) (fun ht H=>?_)
  ·rw[ht];simp only[go_sem]
  ·rw[ht];simp only[go_sem]
theorem zhg (us:List (List UInt8)):∀x∈us.map PV.str,∀y∈us.map PV.str,eA .eql (.p x) (.p y)=some (AB (eqN (unS x) (unS y))):=fun x hx y hy=>by
 obtain⟨a,_,rfl⟩:=List.mem_map.1 hx;obtain⟨b,_,rfl⟩:=List.mem_map.1 hy;simp only[go_sem];rfl
theorem zhh (us:List (List UInt8)):∀x∈us.map PV.str,∀y∈us.map PV.str,eA .neq (.p x) (.p y)=some (AB (!eqN (unS x) (unS y))):=fun x hx y hy=>by
 obtain⟨a,_,rfl⟩:=List.mem_map.1 hx;obtain⟨b,_,rfl⟩:=List.mem_map.1 hy;simp only[go_sem];rfl
theorem xU (us:List (List UInt8))(id:Nat)(hl:us.length≤100000)(hh:h[id]?=some (.row none (us.map PV.str) 0)) :
 ∃xs:List PV,xs.length=us.length∧win xs 0 (NB eqN us).length=(NB eqN us).map PV.str∧(NB eqN us).length≤us.length∧jC none xs∧∀K:mA,kA X XE [.own id us.length 0 us.length] h K=K (.own id us.length 0 (NB eqN us).length) (h.set id (.row none xs 0)) []:=by
 have ec:NB (fun x y=>eqN (unS x) (unS y)) (us.map PV.str)=(NB eqN us).map PV.str:=zbz PV.str (fun x y=>rfl) _
 have cl:=zby eqN us
 have C:=fun K=>z4B (h:=h) (K:=K) id (us.map PV.str) JU (by simpa using hl) hh (q:=fun x y=>eqN (unS x) (unS y)) (zhg us) (zhh us)
 rw[ec]at C;simp only[List.length_map]at C;refine⟨_,by simp;omega,by simp [win],cl,fun x hx=>?_,C⟩
 rcases List.mem_append.1 hx with hx|hx
 ·exact JU x hx
 ·rw[(List.mem_replicate.1 hx).2];rfl
theorem zk5 (b:Brd)(hl:b.joins.length≤100000):∃xs:List PV,xs.length=b.joins.length∧win xs 0 (jB b).length=(jB b).map PV.str∧(jB b).length≤b.joins.length∧jC none xs ∧
 ∀K:mA,kA X BF [.p b.pv] h K=K (.own (h.length+1) b.joins.length 0 (jB b).length) (h++[EA b,.row none xs 0]) []:=by
 have nl:(b.joins.map Jon.net).length=b.joins.length:=List.length_map ..
 obtain⟨xs,x1,x2,x3,x4,C⟩:=xU (h:=h++[EA b,.row none ((b.joins.map Jon.net).map PV.str) 0]) (b.joins.map Jon.net) (h.length+1) (by simpa using hl) (by simp)
 rw[nl]at C x1 x3;have es:∀o,(h++[EA b,.row none ((b.joins.map Jon.net).map PV.str) 0]).set (h.length+1) o=h++[EA b,o]:=fun o=>by rw[List.set_append_right _ _ (by omega)];simp
 rw[es]at C;refine⟨xs,x1,x2,x3,x4,fun K=>JA ?_⟩
 rw[zas rfl];have ln:(b.joins.map Jon.pv).length=b.joins.length:=List.length_map ..
 simp only[TM,Brd.pv,go_sem,ln];refine UA (fun k:Nat=>⟨[(3,.own (h.length+1) k 0 k),(7,.p (.sl (some 3) (b.joins.map Jon.pv))),(8,AI b.joins.length),(9,AI k)],h++[EA b,.row none (((b.joins.map Jon.net).take k).map PV.str) 0],[]⟩) (fun k=>k≤b.joins.length) (fun k=>b.joins.length-k) 0 (by simp;rfl) (by omega) ?_
 intro k hk;unfold EA;rcases Nat.lt_or_ge k b.joins.length with hlt|hge
 ·have g:=dB Jon.pv hlt
  have c1:IA (some 3) 0 b.joins[k].pv=some b.joins[k].pv:=rfl
  have w2:IntKind.i64.wrap ((k:Int)+1)=((k+1:Nat):Int):=FA _ (by omega) (by omega)
  have hn:k<(b.joins.map Jon.net).length:=by simpa using hlt
  have tk:(b.joins.map Jon.net).take (k+1)=(b.joins.map Jon.net).take k++[b.joins[k].net]:=by rw[List.take_succ_eq_append_getElem hn];simp
  have tl:(((b.joins.map Jon.net).take k).map PV.str).length=k:=by simp;omega
  have hm:k+1≤XA:=by unfold XA;omega
  generalize b.joins[k]=x at *;simp only[Jon.pv]at g c1;simp only[go_sem,hlt,g,c1,w2,tl,hm];refine⟨k+1,?_,by omega,by omega⟩
  rw[tk];simp
 ·have e:k=b.joins.length:=by omega
  subst e;have t0:(b.joins.map Jon.net).take b.joins.length=b.joins.map Jon.net:=List.take_of_length_le (by simp)
  unfold EA at C;unfold jB;rw[t0];generalize (b.joins.map Jon.net).map PV.str=us at *;simp only[go_sem,Nat.lt_irrefl,↓C,C];exact List.take_of_length_le (by simp;omega)
theorem bO (a b:List UInt8):(Op.bytesLess a b||decide (a=b))=decide (rA a b≤0):=by
 rw[XH,Bool.eq_iff_iff];unfold ltS;simp only[Bool.or_eq_true,decide_eq_true_eq];constructor
 ·rintro (h|h)
  ·omega
  ·rw[h,mK];omega
 ·intro h
  by_cases e:rA a b=0
  ·exact .inr (PE e)
  ·exact .inl (by omega)
end Go.Am
end
section
/- A text split at a byte. -/
set_option linter.all false
namespace Go.Am
end Go.Am
end
section
/- A text read line by line. -/
set_option linter.all false
namespace Go.Am
end Go.Am
end
section
/- Numbers in texts. -/
set_option linter.all false
namespace Go.Am
end Go.Am
end
section
/- Faults of nets: what the words mean,in plain Lean. -/
set_option linter.all false
namespace Go.Am
structure Flt where
 kind:Int
 nets:List Int
 deriving DecidableEq
end Go.Am
end
section
/- Faults read: the program's line and the reference's line agree. -/
set_option linter.all false
namespace Go.Am
end Go.Am
end
section
/- Where a byte stands in a text. -/
open Go
set_option linter.all false
namespace Go.Am
variable {h:aA} {K:mA}
end Go.Am
end
