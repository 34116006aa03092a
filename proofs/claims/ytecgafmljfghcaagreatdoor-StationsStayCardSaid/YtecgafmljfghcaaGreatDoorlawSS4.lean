/- Texts of the proof, laid together: Am30, Am31, AmX, AmS, AmW, CodesA. -/
import GoSem.Extern.Table
import Derived.Laws.World
import Derived.KernelRfl
import Derived.Test.YtecgafmljfghcaaGreatDoorlawSS3
set_option linter.all false
section
/- The abstract machine,part 30: the meaning of code in the new spelling,and that it is the old one. -/
set_option linter.unusedSimpArgs false
set_option linter.unusedVariables false
namespace Go.Am
def gV (v:AV)(b:Bool)(h:aA)(A:(AV→aA→Esc→Prop)→Prop)(k:AV→aA→Esc→Prop):Prop:=eF v b (A k) (k .skp h [])
def gP (v:AV)(b:Bool)(o:Option AV)(h:aA)(k:AV→aA→Esc→Prop):Prop:=gV v b h (fun k=>pK o fun u=>k u h []) k
def gM (v:AV)(b:Bool)(u:AV)(h:aA)(k:AV→aA→Esc→Prop):Prop:=gV v b h (fun k=>k u h []) k
def upB (b:Bool):Bool:=(fun(_:AV→Bool→Option AV→aA→(AV→aA→Esc→Prop)→Prop)=>b) gP
def gK (g:Option (Nat × Bool))(e:List (Nat × AV))(h:aA)(A:(AV→aA→Esc→Prop)→Prop)(k:AV→aA→Esc→Prop):Prop:=match g with
 | none=>A k
 | some (t,b)=>gV (eA e t) b h A k
def opC (C:Hd)(o:AO)(ev:Opd→AV)(h:aA)(k:AV→aA→Esc→Prop):Prop:=match o with
 | .call f args=>C f (ev1 ev args) h k
 | .callv f args=>VG C (ev f) (ev1 ev args) h k
 | .mnext sh xs=>match FF h sh (ev1 ev xs) with
  | some l=>l≠[]∧∀y∈l,k y.1 y.2 []
  | none=>False
 | o=>opN o ev h k
def NE (C:Hd)(gl:Nat→Option PV):List AOp→List (Nat×AV)→aA→Esc→(List (Nat×AV)→aA→Esc→Prop)→Prop
 | [],e,h,x,L=>L e h x
 | o::r,e,h,x,L=>gK o.guard e h (opC C o.op (Opd.ev gl e) h) fun v h' x'=>NE C gl r (put o.dst v e) h' (x'++x) L
variable {C:Hd} {gl:Nat→Option PV}
theorem z45 {o:AO}{d:Option Nat}{r:List AOp}{e:List (Nat × AV)}{h:aA}{x:Esc}{L:List (Nat × AV)→aA→Esc→Prop} :
 JA C gl (⟨d,none,o⟩::r) e h x L=opC C o (Opd.ev gl e) h (kJ C gl r d e x L):=by
 cases hp:o.plain with
 | true=>
  rw[z61 hp,z48 hp];cases o <;> first|rfl|cases hp
 | false=>
  cases o <;> first|(cases hp;done)|skip
  all_goals first
   | (rw[NZ,qG];rfl)
   | (rw[OZ,qG];rfl)
   | (unfold JA opC;simp only[wanted,qG];rfl)
theorem ZZ:∀ (ops:List AOp) (e:List (Nat × AV)) (h:aA) (x:Esc) (L:List (Nat × AV)→aA→Esc→Prop),JA C gl ops e h x L=NE C gl ops e h x L
 | [],e,h,x,L=>rfl
 | ⟨d,g,o⟩::r,e,h,x,L=>by
  have ih:(fun(v:AV) (h':aA) (x':Esc)=>NE C gl r (put d v e) h' (x'++x) L)=kJ C gl r d e x L:=by
   funext v h' x';rw[←ZZ r];rfl
  show _=gK g e h (opC C o (Opd.ev gl e) h) fun v h' x'=>NE C gl r (put d v e) h' (x'++x) L
  rw[ih];cases g with
  | none=>exact z45
  | some tb=>
   obtain⟨t,b⟩:=tb;rw[QZ,z45];rfl
def opE (C:Hd)(o:AO)(ev:Opd→AV)(h:aA)(k:AV→aA→Esc→Prop):Prop:=match o with
 | .call f args=>UC C f (ev1 ev args) h k
 | .callv f args=>dJ C (ev f) (ev1 ev args) h k
 | .mnext _ _=>False
 | o=>opN o ev h k
def cH (still eff:Bool)(h h':aA)(y:Esc)(Q:Prop):Prop:=match upB eff with
 | true=>Q
 | false=>match still with
  | true=>Q
  | false=>(h'=h∧y=[])∧Q
def OI (C:Hd)(gl:Nat→Option PV)(q:AOp × List (Nat × AV) × AV)(g:aA):Prop:=
 gK q.1.guard q.2.1 g (opE C q.1.op (Opd.ev gl q.2.1) g) fun v1 h1 x1=>v1=q.2.2∧h1=g∧x1=[]
def rE (C:Hd)(gl:Nat→Option PV)(h:aA)(dn:yC)(Q:Prop):List Nat→Prop
 | []=>Q
 | j::r=>(match dn[j]? with|some q=>OI C gl q h|none=>False)∧rE C gl h dn Q r
def uE (C:Hd)(gl:Nat→Option PV)(o:AOp)(e:List (Nat × AV))(v:AV)(hs:List aA)(Q:Prop):List Nat→Prop
 | []=>Q
 | k::r=>(match hs[k]? with|some g=>OI C gl (o,e,v) g|none=>False)∧uE C gl o e v hs Q r
def qE (C:Hd)(gl:Nat→Option PV):List DOp→yC→List aA→List (Nat×AV)→aA→Esc→(List (Nat×AV)→aA→Esc→Prop)→Prop
 | [],_,_,e,h,x,L=>L e h x
 | o::r,dn,hs,e,h,x,L=>gK o.op.guard (rA (some o.rd) e) h (opE C o.op.op (Opd.ev gl (rA (some o.rd) e)) h) fun v h' y=>
  cH o.op.op.still o.eff h h' y (uE C gl o.op (rA (some o.rd) e) v hs (rE C gl h' dn (qE C gl r (dn++[(o.op,rA (some o.rd) e,v)]) (hs++[h]) (put o.op.dst v e) h' (y++x) L) o.again) o.early)
theorem z47 {o:AO}{d:Option Nat}{e:List (Nat × AV)}{h:aA}{R:AV→aA→Esc→Prop}:doK C gl ⟨d,none,o⟩ e h R=opE C o (Opd.ev gl e) h R:=by
 cases hp:o.plain with
 | true=>
  rw[zaJ hp,z48 hp];cases o <;> first|rfl|cases hp
 | false=>
  cases o <;> first|(cases hp;done)|skip
  all_goals first
   | (rw[z14,qG];rfl)
   | (rw[z15,qG];rfl)
   | (unfold doK ADo opE;simp [wanted])
theorem z3w {o:AOp}{e:List (Nat × AV)}{h:aA}{R:AV→aA→Esc→Prop}:doK C gl o e h R=gK o.guard e h (opE C o.op (Opd.ev gl e) h) R:=by
 obtain⟨d,g,op⟩:=o;cases g with
 | none=>exact z47
 | some tb=>
  obtain⟨t,b⟩:=tb;rw[z16,z47];rfl
theorem z5B {q:AOp × List (Nat × AV) × AV}{g:aA}:doS C gl q g=OI C gl q g:=by
 obtain⟨⟨d,gd,op⟩,e,v⟩:=q;rw[z17,z3w];rfl
theorem z0t {h:aA}{dn:yC}{Q:Prop}:∀{l:List Nat},rE C gl h dn Q l=(agK C gl h dn l∧Q)
 | []=>by simp [rE,agK]
 | j::r=>by
  unfold rE agK;rw[z0t (l:=r)];cases dn[j]? with
  | none=>simp
  | some q=>simp only[z5B,and_assoc]
theorem z1C {o:AOp}{e:List (Nat × AV)}{v:AV}{hs:List aA}{Q:Prop}:∀{l:List Nat},uE C gl o e v hs Q l=(eaK C gl o e v hs l∧Q)
 | []=>by simp [uE,eaK]
 | j::r=>by
  unfold uE eaK;rw[z1C (l:=r)];cases hs[j]? with
  | none=>simp
  | some q=>simp only[z5B,and_assoc]
theorem zaK {o:AOp}(hs:o.op.still=true){e:List (Nat × AV)}{h:aA}{R:AV→aA→Esc→Prop}:doK C gl o e h (fun v h' y=>(h'=h∧y=[])∧R v h' y)=doK C gl o e h R:=by
 unfold doK;refine propext ⟨fun⟨v,h',y,H,_,r⟩=>⟨v,h',y,H,r⟩,fun⟨v,h',y,H,r⟩=>⟨v,h',y,H,z6w hs H,r⟩⟩
theorem YZ:∀ (ds:List DOp) (dn:yC) (hs:List aA) (e:List (Nat × AV)) (h:aA) (x:Esc) (L:List (Nat × AV)→aA→Esc→Prop),PC C gl ds dn hs e h x L=qE C gl ds dn hs e h x L
 | [],dn,hs,e,h,x,L=>rfl
 | ⟨o,rd,eff,early,again⟩::r,dn,hs,e,h,x,L=>by
  rw[JZ];show _=gK o.guard (rA (some rd) e) h (opE C o.op (Opd.ev gl (rA (some rd) e)) h) fun v h' y=>
   cH o.op.still eff h h' y (uE C gl o (rA (some rd) e) v hs (rE C gl h' dn (qE C gl r (dn++[(o,rA (some rd) e,v)]) (hs++[h]) (put o.dst v e) h' (y++x) L) again) early)
  rw[←z3w];have e1:RP C gl ⟨o,rd,eff,early,again⟩ r dn hs e h x L=fun v h' y=>(effK eff h h' y∧uE C gl o (rA (some rd) e) v hs (rE C gl h' dn (qE C gl r (dn++[(o,rA (some rd) e,v)]) (hs++[h]) (put o.dst v e) h' (y++x) L) again) early):=by
   funext v h' y
   rw[z19,z1C,z0t,←YZ r]
  rw[e1];cases eff with
  | true=>
   congr 1;funext v h' y
   simp [effK,cH,upB]
  | false=>
   cases hs':o.op.still with
   | true=>
    have:=zaK (C:=C) (gl:=gl) (o:=o) hs' (e:=rA (some rd) e) (h:=h) (R:=fun v h' y=>uE C gl o (rA (some rd) e) v hs (rE C gl h' dn (qE C gl r (dn++[(o,rA (some rd) e,v)]) (hs++[h]) (put o.dst v e) h' (y++x) L) again) early)
    exact this
   | false=>rfl
def NW (C:Hd)(gl:Nat→Option PV):ACode→St→(Ex→St→Prop)→Prop
 | .skip,s,K=>K .normal s
 | .reg ops keep,s,K=>NE C gl ops s.env s.h s.esc fun e h x=>K .normal ⟨rA keep e,h,x⟩
 | .draw ds keep,s,K=>qE C gl ds [] [] s.env s.h s.esc fun e h x=>K .normal ⟨rA keep e,h,x⟩
 | .seq a b,s,K=>NW C gl a s fun e s'=>match e with
  | .normal=>NW C gl b s' K
  | .exit i=>K (.exit i) s'
  | .ret=>K .ret s'
 | .cond c a b,s,K=>kB (Opd.ev gl s.env c) (NW C gl a s K) (NW C gl b s K)
 | .condu c a b,s,K=>DL (Opd.ev gl s.env c) (NW C gl a s K) (NW C gl b s K)
 | .det b,s,K=>NW C gl b s K
 | .block id b,s,K=>NW C gl b s fun e s'=>match e with
  | .normal=>K .normal s'
  | .exit i=>bif Nat.beq i id then K .normal s' else K (.exit i) s'
  | .ret=>K .ret s'
 | .loop b,s,K=>ALoop (NW C gl b) K s
 | .scope b,s,K=>NW C gl b ⟨s.env,s.h,[]⟩ fun e s'=>K e (SC s.h.length s.esc s')
 | .pr l b,s,K=>NW C gl b ⟨rA (some l) s.env,s.h,s.esc⟩ K
 | .exit id,s,K=>K (.exit id) s
 | .ret,s,K=>K .ret s
 | .bad,_,_=>False
theorem rD:∀ (c:ACode) (s:St) (K:Ex→St→Prop),AW C gl c s K=NW C gl c s K
 | .skip,s,K=>rfl
 | .reg ops keep,s,K=>ZZ _ _ _ _ _
 | .draw ds keep,s,K=>YZ _ _ _ _ _ _ _
 | .seq a b,s,K=>by
  unfold AW NW;rw[rD a];congr 1;funext e s'
  cases e with
  | normal=>exact rD b s' K
  | _=>rfl
 | .cond c a b,s,K=>by
  unfold AW NW kB;rw[←rD a,←rD b];rfl
 | .condu c a b,s,K=>by
  unfold AW NW DL;rw[←rD a,←rD b];rfl
 | .det b,s,K=>rD b s K
 | .block id b,s,K=>by
  unfold AW NW;rw[rD b];congr 1;funext e s'
  cases e with
  | exit i=>
   dsimp only;by_cases hi:i=id
   ·subst hi;simp
   ·rw[if_neg hi]
    have:Nat.beq i id=false:=by cases h:Nat.beq i id with|false=>rfl|true=>exact absurd (Nat.eq_of_beq_eq_true h) hi
    rw[this];rfl
  | _=>rfl
 | .loop b,s,K=>by
  show ALoop (AW C gl b) K s=ALoop (NW C gl b) K s
  rw[show AW C gl b=NW C gl b from funext fun s=>funext fun K=>rD b s K]
 | .scope b,s,K=>rD b _ _
 | .pr l b,s,K=>rD b _ _
 | .exit id,s,K=>rfl
 | .ret,s,K=>rfl
 | .bad,s,K=>rfl
end Go.Am
end
section
/- The abstract machine,part 31: words in which a function's code is printed,and the rules of computing aF them. -/
set_option linter.unusedSimpArgs false
set_option linter.unusedVariables false
namespace Go.Am
variable {C:Hd} {gl:Nat→Option PV} {e:List (Nat × AV)} {h:aA} {x:Esc} {K:Ex→St→Prop} {s:St}
abbrev AI (n:Int):AV:=.p (.int .i64 n)
abbrev AB (b:Bool):AV:=.p (.bool b)
def oD (C:Hd)(gl:Nat→Option PV)(b:ACode)(K:Ex→St→Prop)(e:Ex)(s:St):Prop:=match e with
 | .normal=>NW C gl b s K
 | .exit i=>K (.exit i) s
 | .ret=>K .ret s
def EC (id:Nat)(K:Ex→St→Prop)(e:Ex)(s:St):Prop:=match e with
 | .normal=>K .normal s
 | .exit i=>bif Nat.beq i id then K .normal s else K (.exit i) s
 | .ret=>K .ret s
def nqK (sh:Option Sh)(l:List AV)(h:aA)(k:AV→aA→Esc→Prop):Prop:=match FF h sh l with
 | some l=>l≠[]∧∀y∈l,k y.1 y.2 []
 | none=>False
def nxK (i:AV)(h:aA)(k:AV→aA→Esc→Prop):Prop:=match GG h i with
 | some l=>l≠[]∧∀y∈l,k y.1 y.2 []
 | none=>False
def gv (gl:Nat→Option PV)(n:Nat):AV:=match gl n with|some v=>.vp v|none=>.und
theorem z5G {b:ACode}:oD C gl b K .normal s=NW C gl b s K:=(rfl)
theorem z5H {b:ACode}:oD C gl b K .ret s=K .ret s:=(rfl)
theorem z0C {i:Nat}:EC i K .normal s=K .normal s:=(rfl)
theorem z0E {i:Nat}:EC i K (.exit i) s=K .normal s:=by simp [EC]
theorem z0D {i:Nat}:EC i K .ret s=K .ret s:=(rfl)
theorem z6S {b:ACode}:NW C gl (.scope b) ⟨e,h,x⟩ K=NW C gl b ⟨e,h,[]⟩ (kZ h.length x K):=(rfl)
theorem z6R {c:ACode}{s s':St}(hs:s=s'):NW C gl c s K=NW C gl c s' K:=by rw[hs]
def VA (C:Hd)(gl:Nat→Option PV)(b:ACode)(K:Ex→St→Prop)(e:List (Nat × AV))(h:aA)(x:Esc):Prop:=ALoop (NW C gl b) K ⟨e,h,x⟩
theorem GB {l:List Nat}{b:ACode}:NW C gl (.loop (.pr l b)) ⟨e,h,x⟩ K=VA C gl (.pr l b) K (rA (some l) e) h x:=by
 show ALoop _ _ _=ALoop _ _ _
 exact MZ (funext fun R=>by show NW C gl b _ R=NW C gl b _ R;dsimp only;rw[z4E])
theorem iF {l:List Nat}{b:ACode}:NW C gl (.loop (.scope (.pr l b))) ⟨e,h,x⟩ K=VA C gl (.scope (.pr l b)) K (rA (some l) e) h x:=by
 show ALoop _ _ _=ALoop _ _ _
 exact MZ (funext fun R=>by show NW C gl b _ _=NW C gl b _ _;dsimp only;rw[z4E])
theorem z6Q {b:ACode}{e e':List (Nat × AV)}{h h':aA}{x x':Esc}(h1:e=e')(h2:h=h')(h3:x=x'):VA C gl b K e h x=VA C gl b K e' h' x':=by rw[h1,h2,h3]
theorem XA {σ:Type}{b:ACode}(S:σ→St)(P:σ→Prop)(m:σ→Nat)(t0:σ)(hs:(⟨e,h,x⟩:St)=S t0)(h0:P t0)(hr:∀ t,P t→NW C gl b (S t) (RM S P m K t)):VA C gl b K e h x:=by
 show ALoop (NW C gl b) K _
 rw[hs];have key:∀n t,m t<n→P t→ALoop (NW C gl b) K (S t):=by
  intro n;induction n with
  | zero=>intro t h;omega
  | succ n ih=>
   intro t hm hp;refine .mk _ _ (hr t hp) (fun s' h'=>?_) (fun i s' h'=>h') (fun s' h'=>h')
   obtain⟨u,rfl,hu,hlt⟩:=h';exact ih u (by omega) hu
 exact key _ t0 (Nat.lt_succ_self _) h0
theorem NA {X:Ctx}{f:Nat}{F:AFun}{a asv:List AV}{h h1:aA}{P:jA}(hf:X.fn f=some F)(hr:F.byref=false)(hp:mA h a=some (asv,h1))(hl:asv.length=F.nparams)(hd:F.isDet=false:=by rfl)(hO:XC F.results=false:=by rfl) :
 bA X f a h P=NW (bA X) X.gl F.body ⟨enter asv,h1,[]⟩ (qA F.results F.keep h.length P):=by
 rw[zla hf hr hp hl hd hO,rD]
theorem z0V {X:Ctx}{f:Nat}{F:AFun}{a asv:List AV}{h h1:aA}{P:jA}(hf:X.fn f=some F)(hr:F.byref=false)(hp:mA h a=some (asv,h1))(hl:asv.length=F.nparams)(hd:F.isDet=true:=by rfl)(hO:XC F.results=false:=by rfl) :
 bA X f a h P = ∃v h' x,P v h' x∧NW (bA X) X.gl F.body ⟨enter asv,h1,[]⟩ (qA F.results F.keep h.length fun v1 h1 x1=>v1=v∧h1=h'∧x1=x):=by
 rw[zlc hf hr hp hl hd hO];simp only[rD]
theorem GD {X:Ctx}{f:Nat}{F:AFun}{asv:List AV}{h:aA}{P:jA}(hf:X.fn f=some F)(hr:F.byref=true)(hl:asv.length=F.nparams)(hd:F.isDet=false:=by rfl)(hO:XC F.results=false:=by rfl) :
 bA X f asv h P=NW (bA X) X.gl F.body ⟨enter asv,h,[]⟩ (qA F.results F.keep h.length P):=by
 rw[zkY hf hr hl hd hO,rD]
theorem vO {X:Ctx}{f:Nat}{F:AFun}{a asv:List AV}{h h1:aA}{P:jA}(hf:X.fn f=some F)(hr:F.byref=false)(hp:mA h a=some (asv,h1))(hl:asv.length=F.nparams)(hd:F.isDet=false:=by rfl)(hO:XC F.results=true:=by rfl) :
 bA X f a h P=NW (bA X) X.gl F.body ⟨enter asv,h1,[]⟩ (tF F.results h.length P):=by
 rw[zlb hf hr hp hl hd hO,rD]
theorem zad {X:Ctx}{f:Nat}{F:AFun}{a asv:List AV}{h h1:aA}{P:jA}(hf:X.fn f=some F)(hr:F.byref=false)(hp:mA h a=some (asv,h1))(hl:asv.length=F.nparams)(hd:F.isDet=true:=by rfl)(hO:XC F.results=true:=by rfl) :
 bA X f a h P = ∃v h' x,P v h' x∧NW (bA X) X.gl F.body ⟨enter asv,h1,[]⟩ (tF F.results h.length fun v1 h1 x1=>v1=v∧h1=h'∧x1=x):=by
 rw[zld hf hr hp hl hd hO];simp only[rD]
theorem nX {v:AV}{k:AV→Prop}:pK (some v) k=k v:=(rfl)
theorem z4C {k:AV→Prop}:pK none k=False:=(rfl)
theorem z6j {v:AV}{h:aA}{x:Esc}{k:AV→aA→Esc→Prop}:wK (some (v,h,x)) k=k v h x:=(rfl)
theorem z6h {k:AV→aA→Esc→Prop}:wK none k=False:=(rfl)
theorem zg9 {p:Prop}[Decidable p]{a b:Option AV}{k:AV→Prop}:pK (if p then a else b) k=if p then pK a k else pK b k:=by split <;> rfl
theorem zlP {p:Prop}[Decidable p]{a b:Option (AV × aA × Esc)}{k:AV→aA→Esc→Prop}:wK (if p then a else b) k=if p then wK a k else wK b k:=by split <;> rfl
theorem zg8 {o o':Option AV}{k:AV→Prop}(h:o=o'):pK o k=pK o' k:=by rw[h]
theorem zlO {o o':Option (AV × aA × Esc)}{k:AV→aA→Esc→Prop}(h:o=o'):wK o k=wK o' k:=by rw[h]
theorem zep {v v':AV}{b:Bool}{h:aA}{A:(AV→aA→Esc→Prop)→Prop}{k:AV→aA→Esc→Prop}(h1:v=v'):gV v b h A k=gV v' b h A k:=by rw[h1]
theorem zen {v v':AV}{b:Bool}{o:Option AV}{h:aA}{k:AV→aA→Esc→Prop}(h1:v=v'):gP v b o h k=gP v' b o h k:=by rw[h1]
theorem zel {v v':AV}{b:Bool}{u:AV}{h:aA}{k:AV→aA→Esc→Prop}(h1:v=v'):gM v b u h k=gM v' b u h k:=by rw[h1]
section
variable {A:(AV→aA→Esc→Prop)→Prop} {o:Option AV} {u:AV} {k:AV→aA→Esc→Prop} {t b:Bool}
theorem z3B:gV (.p (.bool true)) true h A k=A k:=(rfl)
theorem z37:gV (.p (.bool false)) false h A k=A k:=(rfl)
theorem z3A:gV (.p (.bool true)) false h A k=k .skp h []:=(rfl)
theorem z38:gV (.p (.bool false)) true h A k=k .skp h []:=(rfl)
theorem z39:gV .skp b h A k=k .skp h []:=(rfl)
theorem zeo:gV (.p (.bool t)) b h A k=eF (.p (.bool t)) b (A k) (k .skp h []):=(rfl)
theorem z36:gP (.p (.bool true)) true o h k=pK o fun v=>k v h []:=(rfl)
theorem z32:gP (.p (.bool false)) false o h k=pK o fun v=>k v h []:=(rfl)
theorem z35:gP (.p (.bool true)) false o h k=k .skp h []:=(rfl)
theorem z33:gP (.p (.bool false)) true o h k=k .skp h []:=(rfl)
theorem z34:gP .skp b o h k=k .skp h []:=(rfl)
theorem zem:gP (.p (.bool t)) b o h k=eF (.p (.bool t)) b (pK o fun v=>k v h []) (k .skp h []):=(rfl)
theorem z31:gM (.p (.bool true)) true u h k=k u h []:=(rfl)
theorem z3x:gM (.p (.bool false)) false u h k=k u h []:=(rfl)
theorem z30:gM (.p (.bool true)) false u h k=k .skp h []:=(rfl)
theorem z3y:gM (.p (.bool false)) true u h k=k .skp h []:=(rfl)
theorem z3z:gM .skp b u h k=k .skp h []:=(rfl)
theorem zek:gM (.p (.bool t)) b u h k=eF (.p (.bool t)) b (k u h []) (k .skp h []):=(rfl)
end
section
variable {k k':IntKind} {a b:Int} {sa sb:List UInt8}
theorem z8E:CA .add (.p (.int k a)) (.p (.int k b))=some (.p (.int k (k.wrap (a+b)))):=by simp [CA,TB,tD]
theorem z8P:CA .sub (.p (.int k a)) (.p (.int k b))=some (.p (.int k (k.wrap (a-b)))):=by simp [CA,TB,tD]
theorem z8K:CA .mul (.p (.int k a)) (.p (.int k b))=some (.p (.int k (k.wrap (a*b)))):=by simp [CA,TB,tD]
theorem z8N:CA .quo (.p (.int k a)) (.p (.int k b))=if b=0 then none else some (.p (.int k (k.wrap (a.tdiv b)))):=by simp [CA,TB,tD] <;> split <;> rfl
theorem z8O:CA .rem (.p (.int k a)) (.p (.int k b))=if b=0 then none else some (.p (.int k (a.tmod b))):=by simp [CA,TB,tD] <;> split <;> rfl
theorem z8F:CA .eql (.p (.int k a)) (.p (.int k b))=some (.p (.bool (decide (a=b)))):=by simp [CA,TB,tD]
theorem z8L:CA .neq (.p (.int k a)) (.p (.int k b))=some (.p (.bool (!decide (a=b)))):=by simp [CA,TB,tD]
theorem z8J:CA .lss (.p (.int k a)) (.p (.int k b))=some (.p (.bool (decide (a<b)))):=by simp [CA,TB,tD]
theorem z8I:CA .leq (.p (.int k a)) (.p (.int k b))=some (.p (.bool (decide (a≤b)))):=by simp [CA,TB,tD]
theorem z8H:CA .gtr (.p (.int k a)) (.p (.int k b))=some (.p (.bool (decide (b<a)))):=by simp [CA,TB,tD]
theorem z8G:CA .geq (.p (.int k a)) (.p (.int k b))=some (.p (.bool (decide (b≤a)))):=by simp [CA,TB,tD]
theorem zlm:CA .add (.p (.str sa)) (.p (.str sb))=if sa.length+sb.length≤TM then some (.p (.str (sa++sb))) else none:=by simp [CA,TB,PH] <;> split <;> rfl
theorem zln:CA .eql (.p (.str sa)) (.p (.str sb))=some (.p (.bool (decide (sa=sb)))):=by simp [CA,TB,PH]
theorem zlp:CA .neq (.p (.str sa)) (.p (.str sb))=some (.p (.bool (!decide (sa=sb)))):=by simp [CA,TB,PH]
theorem zlI {t:Bool}:oUn .not (.p (.bool t))=some (.p (.bool !t)):=(rfl)
theorem convI {k':IntKind}:iK k (.p (.int k' a))=some (.p (.int k (k.wrap a))):=(rfl)
theorem zgx {i j:Nat}:eN (.ref i j)=some (.ref i j):=(rfl)
theorem zjl {t:Bool}{u v:AV}:HG (.p (.bool t)) u v=some (bif t then u else v):=(rfl)
theorem zfE {sh:Sh}{xs:List PV}:ZE (.p (.sl sh xs))=some (.p (.int .i64 xs.length)):=(rfl)
theorem zfD {i g o l:Nat}:ZE (.own i g o l)=some (.p (.int .i64 l)):=(rfl)
theorem zfH:dN (.p (.str sa))=some (.p (.int .i64 sa.length)):=(rfl)
theorem ext_t {vs:List AV}{i:Nat}:DI (.tup vs) i=vs[i]?:=(rfl)
theorem zdT {off i j:Nat}{sh:Sh}:EA off sh (.ref i j)=some (.ref i (j+off)):=(rfl)
theorem zdU {off i j m n:Nat}{sh:Sh}:EA off sh (.rref i j m n)=some (.rref i j m (n+off)):=(rfl)
theorem zdV {off:Nat}{sh:Sh}{v:PV}:EA off sh (.vp v)=(ZA sh off v).map .vp:=(rfl)
def ldB (sh:Sh)(off:Nat):Option Obj→Option AV
 | some (.box cs)=>cut sh off cs
 | _=>none
def ldR (sh:Sh)(g i off:Nat):Option Obj→Option AV
 | some (.row _ xs _)=>if g=xs.length then((xs[i]?).bind (ZA sh off)).map .p else none
 | _=>none
theorem zfM {sh:Sh}{i j:Nat}:FA sh (.ref i j) h=ldB sh j h[i]?:=by unfold FA ldB;rfl
theorem z4h {sh:Sh}{i g m n:Nat}:FA sh (.rref i g m n) h=ldR sh g m n h[i]?:=by unfold FA ldR;rfl
theorem z4i {sh:Sh}{v:PV}:FA sh (.vp v) h=(ZA sh 0 v).map .p:=(rfl)
theorem zf8 {sh:Sh}{off:Nat}{cs:List AV}:ldB sh off (some (.box cs))=cut sh off cs:=(rfl)
theorem z4e {sh sh':Sh}{g i off fz:Nat}{xs:List PV}:ldR sh g i off (some (.row sh' xs fz))=if g=xs.length then((xs[i]?).bind (ZA sh off)).map .p else none:=(rfl)
def stB (sh:Sh)(id off:Nat)(v:AV)(h:aA):Option Obj→Option (List AV)→Option (AV×aA×Esc)
 | some (.box cs),some vs=>if vs.length=gA sh∧off+vs.length≤cs.length then some (.und,h.set id (.box (splice cs off vs)),oF id cs v) else none
 | _,_=>none
theorem zlj {sh:Sh}{i j:Nat}{v:AV}:vB sh (.ref i j) v h=stB sh i j v h h[i]? v.cells:=by unfold vB stB;rfl
theorem zkR {sh:Sh}{id off:Nat}{v:AV}{cs vs:List AV}:stB sh id off v h (some (.box cs)) (some vs)=if vs.length=gA sh∧off+vs.length≤cs.length then some (.und,h.set id (.box (splice cs off vs)),oF id cs v) else none:=(rfl)
theorem zdD {id:Nat}{cs:List AV}{v:AV}(h:RF cs=false):oF id cs v=YB id v:=by
 unfold oF;rw[h];rfl
theorem zeN {a:AV}{v:PV}:RF [a,.p v]=false:=(rfl)
theorem zeM {a b c:AV}{l:List AV}:RF (a::b::c::l)=false:=by unfold RF;split <;> first|rfl|(rename_i h;simp at h)
def stE (sh:Sh)(id i off fz:Nat)(rsh:Sh)(xs:List PV)(v:PV)(h1:aA):Option PV→Option (AV×aA×Esc)
 | some (.agg cs)=>if off+v.cells.length≤cs.length then some (.und,h1.set id (.row rsh (xs.set i (.agg (splice cs off v.cells))) fz),[]) else none
 | some _=>if off=0∧v.sc then some (.und,h1.set id (.row rsh (xs.set i v) fz),[]) else none
 | none=>none
def stO (sh:Sh)(id g i off:Nat)(v:PV)(h1:aA):Option Obj→Option (AV×aA×Esc)
 | some (.row rsh xs fz)=>if g=xs.length∧fz≤i∧v.cells.length=gA sh∧v.cells.all PV.sc then stE sh id i off fz rsh xs v h1 xs[i]? else none
 | _=>none
def stR (sh:Sh)(id g i off:Nat):Option (PV×aA)→Option (AV×aA×Esc)
 | some y=>stO sh id g i off y.1 y.2 y.2[id]?
 | none=>none
theorem zlk {sh:Sh}{id g i off:Nat}{x:AV}:vB sh (.rref id g i off) x h=stR sh id g i off (pur h x):=by
 unfold vB stR;cases pur h x with
 | none=>rfl
 | some y=>
  obtain⟨v,h1⟩:=y;dsimp only;unfold stO;cases h1[id]? with
  | none=>rfl
  | some o=>cases o <;> rfl
theorem zkW {sh:Sh}{id g i off:Nat}{v:PV}{h1:aA}:stR sh id g i off (some (v,h1))=stO sh id g i off v h1 h1[id]?:=(rfl)
theorem zkV {sh rsh:Sh}{id g i off fz:Nat}{v:PV}{h1:aA}{xs:List PV}:stO sh id g i off v h1 (some (.row rsh xs fz))=if g=xs.length∧fz≤i∧v.cells.length=gA sh∧v.cells.all PV.sc then stE sh id i off fz rsh xs v h1 xs[i]? else none:=(rfl)
theorem zkS {sh rsh:Sh}{id i off fz:Nat}{v:PV}{h1:aA}{xs cs:List PV}:stE sh id i off fz rsh xs v h1 (some (.agg cs))=if off+v.cells.length≤cs.length then some (.und,h1.set id (.row rsh (xs.set i (.agg (splice cs off v.cells))) fz),[]) else none:=(rfl)
theorem zkT {sh rsh:Sh}{id i off fz:Nat}{v:PV}{h1:aA}{xs:List PV}{t:Bool}:stE sh id i off fz rsh xs v h1 (some (.bool t))=if off=0∧v.sc then some (.und,h1.set id (.row rsh (xs.set i v) fz),[]) else none:=(rfl)
theorem zkU {sh rsh:Sh}{id i off fz:Nat}{v:PV}{h1:aA}{xs:List PV}{s:List UInt8}:stE sh id i off fz rsh xs v h1 (some (.str s))=if off=0∧v.sc then some (.und,h1.set id (.row rsh (xs.set i v) fz),[]) else none:=(rfl)
def iaS (xs:List PV):Option Nat→Option AV
 | some k=>(xs[k]?).map .vp
 | none=>none
theorem ze7 {sh:Sh}{xs:List PV}{i:AV}:RD sh (.p (.sl sh xs)) i h=iaS xs (dB i):=by
 unfold RD iaS;cases dB i <;> simp
theorem ze4 {xs:List PV}{n:Nat}:iaS xs (some n)=(xs[n]?).map .vp:=(rfl)
def iaO (sh:Sh)(id g off len:Nat):Option Obj→Option Nat→Option AV
 | some (.row rsh xs _),some k=>if rsh=sh∧g=xs.length∧off+len≤xs.length∧k<len then some (.rref id g (off+k) 0) else none
 | _,_=>none
theorem ze6 {sh:Sh}{id g off len:Nat}{i:AV}:RD sh (.own id g off len) i h=iaO sh id g off len h[id]? (dB i):=by
 unfold RD iaO;cases dB i with
 | none=>dsimp only;cases h[id]? with
  | none=>rfl
  | some o=>cases o <;> rfl
 | some k=>dsimp only;cases h[id]? with
  | none=>rfl
  | some o=>cases o <;> rfl
theorem ze3 {sh rsh:Sh}{id g off len k fz:Nat}{xs:List PV}:iaO sh id g off len (some (.row rsh xs fz)) (some k)=if rsh=sh∧g=xs.length∧off+len≤xs.length∧k<len then some (.rref id g (off+k) 0) else none:=(rfl)
theorem zeD {i:AV}:jK (.p (.str sa)) i=(dB i).bind fun n=>(sa[n]?).map fun b=>.p (.int .u8 b.toNat):=by
 unfold jK;cases dB i <;> rfl
end
theorem z0u {z:List AV}{k:AV→aA→Esc→Prop}:alK z h k=k (.ref h.length 0) (h++[.box z]) []:=(rfl)
theorem z43 {sh:Sh}{k:AV→aA→Esc→Prop}:nwK sh h k=k (.own h.length 0 0 0) (h++[.row sh [] 0]) []:=(rfl)
theorem z4u {k:AV→aA→Esc→Prop}:mmK h k=k (.mp h.length) (h++[.amap [] 0]) []:=(rfl)
theorem za7 {A B:Prop}:DL (.p (.bool false)) A B=B:=(rfl)
theorem za6 {A B:Prop}:DL .anyb A B=(A∧B):=(rfl)
theorem zjH {t:Nat}{h:aA}:SA t [] h=([],h):=(rfl)
theorem zjJ {h:aA}{s:Sh}{r:List AV}:SA 0 (.sl0 s::r) h=(.own h.length 0 0 0::(SA 0 r (h++[.row s [] 0])).1,(SA 0 r (h++[.row s [] 0])).2):=(rfl)
theorem zjI {t:Nat}{h:aA}{v:PV}{r:List AV}:SA t (.p v::r) h=(.p v::(SA t r h).1,(SA t r h).2):=(rfl)
theorem zjG {t:Nat}{h:aA}{i:Nat}{r:List AV}:SA t (.mp i::r) h=(.mp i::(SA t r h).1,(SA t r h).2):=(rfl)
attribute [go_sem] zjH zjJ zjI zjG
attribute [go_sem] z5G z5H z0C z0E z0D z6S nX z4C z6j z6h zg9 zlP z3B z37 z3A z38 z39 z36 z32 z35 z33 z34 z31 z3x z30 z3y z3z z8E z8P z8K z8N z8O z8F z8L z8J z8I z8H z8G zlm zln zlp zlI convI zgx zjl zfE zfD zfH ext_t zdT zdU zdV zfM z4h z4i zf8 z4e zlj zkR zlk zkW zkV zkS zkT zkU zdD zeN zeM ze7 ze4 ze6 ze3 zeD z0u z43 z4u fC fL pL cK lenB n64 sJ RI aJ rds rd fK pC BM oC CM GA aN wF za7 za6 CI IQ yF jE JQ DD fN FI EI ZM eK EQ oClr oMx oMn IA OA HQ FQ mB cN RB QB
attribute [go_sem ↓] nX z4C z6j z6h z3B z37 z3A z38 z39 z36 z32 z35 z33 z34 z31 z3x z30 z3y z3z uU z1r z5G z5H z0C z0E z0D z0u z43 z4u z4l z4k z4m z5F z3i z3j z3k
attribute [go_sem low] zeo zem zek
attribute [congr] z6R z6Q zg8 zlO zep zen zel
end Go.Am
end
section
/- The abstract machine,part X: the library's functions that have no Go text: comparing strings,finding a byte. -/
set_option linter.unusedSimpArgs false
set_option linter.unusedVariables false
namespace Go.Am
variable {P:Program}
structure ExtRow (P:Program) (f:Nat) (e:Array Value→Sem Value):Prop where
 row:∃fn,P.funcs[f]?=some fn∧fn.name ≠ "runtime.NumGoroutine" ∧ fn.body=none∧Extern.findNext fn=none∧Extern.find fn=some e
theorem ExtRow.run {f:Nat}{e:Array Value→Sem Value}(R:ExtRow P f e){us:Array Value}{w w':World}{x:Value}(he:(e us).run P w = .ok x w'):(callFunc f us).run P w = .ok (.value x) w':=by
 obtain⟨fn,h1,h2,h3,h4,h5⟩:=R.row;unfold callFunc;simp [h1,h2,h3,h4,h5,he]
theorem znp {f:Nat}{e:Array Value→Sem Value}(h:(match P.funcs[f]? with | some fn=>fn.name != "runtime.NumGoroutine" && fn.body.isNone&&(Extern.findNext fn).isNone | none=>false)=true)(h2:(P.funcs[f]?).bind Extern.find=some e):ExtRow P f e:=by
 cases hf:P.funcs[f]? with
 | none=>rw[hf]at h;cases h
 | some fn=>
  rw[hf]at h h2;simp only[Bool.and_eq_true,bne_iff_ne,ne_eq,Option.isNone_iff_eq_none]at h;exact⟨⟨fn,hf,h.1.1,h.1.2,h.2,h2⟩⟩
def vF (s:List UInt8)(c:UInt8):Int:=if s.findIdx (· == c)<s.length then(s.findIdx (· == c):Int) else -1
def DA:List UInt8→List UInt8→Int
 | [],[]=>0
 | [],_::_=>-1
 | _::_,[]=>1
 | a::asv,b::bs=>if a<b then -1 else if b<a then 1 else DA asv bs
theorem z09 (s:List UInt8)(i:Nat):(⟨s.toArray⟩:ByteArray)[i]! = s.getD i 0:=by
 by_cases h:i<s.length
 ·rw[getElem!_pos (⟨s.toArray⟩:ByteArray) i h]
  show s.toArray[i]=_
  simp [h]
 ·rw[getElem!_neg (⟨s.toArray⟩:ByteArray) i h]
  simp [Nat.not_lt.1 h];rfl
theorem zec (s:List UInt8)(c:UInt8):(match (List.range (⟨s.toArray⟩:ByteArray).size).find? fun i=>(⟨s.toArray⟩:ByteArray)[i]! == c with
 | some i=>(i:Int)
 | none=>-1)=vF s c:=by
 have hsz:(⟨s.toArray⟩:ByteArray).size=s.length:=rfl
 have hget:∀i,i<s.length→(⟨s.toArray⟩:ByteArray)[i]! = s.getD i 0:=by
  intro i hi;exact z09 s i
 unfold vF;rw[hsz];by_cases h:s.findIdx (· == c)<s.length
 ·rw[if_pos h]
  have hf:(List.range s.length).find? (fun i=>(⟨s.toArray⟩:ByteArray)[i]! == c)=some (s.findIdx (· == c)):=by
   rw[List.find?_eq_some_iff_getElem];refine⟨?_,s.findIdx (· == c),by simpa using h,by simp,fun j hj=>?_⟩
   ·rw[hget _ h]
    have:=List.findIdx_getElem (w:=h);simpa [h] using this
   ·simp only[List.getElem_range]
    have hj':j<s.length:=by omega
    rw[hget _ hj'];have:=List.not_of_lt_findIdx hj;simpa [hj'] using this
  rw[hf]
 ·rw[if_neg h]
  have hf:(List.range s.length).find? (fun i=>(⟨s.toArray⟩:ByteArray)[i]! == c)=none:=by
   rw[List.find?_eq_none];intro i hi;rw[List.mem_range]at hi;rw[hget _ hi];intro hc;exact h (List.findIdx_lt_length_of_exists ⟨s[i],List.getElem_mem hi,by simpa [hi] using hc⟩)
  rw[hf]
theorem zaw:∀ (a b:List UInt8),Extern.BytealgCompare.cmp ⟨a.toArray⟩ ⟨b.toArray⟩=DA a b:=by
 have key:∀(a b:List UInt8),(match (List.range (min a.length b.length)).find? fun i=>a.getD i 0 != b.getD i 0 with
  | some i=>if a.getD i 0<b.getD i 0 then(-1:Int) else 1
  | none=>if a.length<b.length then -1 else if a.length>b.length then 1 else 0)=DA a b:=by
  intro a;induction a with
  | nil=>intro b;cases b <;> simp [DA]
  | cons x a ih=>
   intro b;cases b with
   | nil=>simp [DA]
   | cons y b=>
    have hm:min (x::a).length (y::b).length=min a.length b.length+1:=by simp only[List.length_cons];omega
    rw[hm,List.range_succ_eq_map,List.find?_cons];simp only[List.getD_cons_zero];by_cases hxy:x=y
    ·subst hxy
     have hlt:¬x<x:=UInt8.lt_irrefl x
     simp only[bne_self_eq_false,List.find?_map,DA,hlt,if_false];rw[←ih b];have hc:((fun i=>(x::a).getD i 0 != (x::b).getD i 0) ∘ Nat.succ)=fun i=>a.getD i 0 != b.getD i 0:=by
      funext i;simp
     rw[hc];cases (List.range (min a.length b.length)).find? fun i=>a.getD i 0 != b.getD i 0 with
     | none=>simp
     | some i=>simp
    ·have:(x != y)=true:=by simpa using hxy
     rw[this];simp only[DA,List.getD_cons_zero];by_cases h1:x<y
     ·simp [h1]
     ·have h2:y<x:=by
       rcases UInt8.lt_or_lt_of_ne (a:=x) (b:=y) hxy with h|h
       ·exact absurd h h1
       ·exact h
      simp [h1,h2]
 intro a b;rw[←key a b];unfold Extern.BytealgCompare.cmp;have sa:(⟨a.toArray⟩:ByteArray).size=a.length:=rfl
 have sb:(⟨b.toArray⟩:ByteArray).size=b.length:=rfl
 simp only[sa,sb,z09];generalize List.find? _ _=q;cases q <;> rfl
def fI (fi fc:Nat)(f:Nat)(vs:List PV):Option PV:=
 bif Nat.beq f fi then(match vs with
  | [.str s,.int .u8 c]=>some (.int .i64 (vF s (UInt8.ofNat c.toNat)))
  | _=>none)
 else bif Nat.beq f fc then(match vs with
  | [.str a,.str b]=>some (.int .i64 (DA a b))
  | _=>none)
 else none
theorem extF_ok {fi fc:Nat}(h1:ExtRow P fi Extern.BytealgIndexByte.indexByte)(h2:ExtRow P fc Extern.BytealgCompare.compare){f:Nat}{vs:List PV}{r:PV}(h:fI fi fc f vs=some r):TZ P f vs r:=by
 intro M w us hM hl hr;unfold fI at h;cases e1:Nat.beq f fi with
 | true=>
  rw[e1]at h;have e:=Nat.eq_of_beq_eq_true e1
  subst e;simp only[cond_true]at h;split at h
  ·rename_i s c
   injection h with h
   subst h;match us,hl with
   | [u,v],_=>
    have q1:=hr 0 _ u rfl rfl
    have q2:=hr 1 _ v rfl rfl
    cases q1;cases q2
    refine⟨.int .i64 (vF s (UInt8.ofNat c.toNat)),w,h1.run ?_,WExt.refl w,.int _ _⟩;rw[←zec];show(match (List.range (⟨s.toArray⟩:ByteArray).size).find? fun i=>(⟨s.toArray⟩:ByteArray)[i]! == UInt8.ofNat c.toNat with|some i=>(pure (goInt i):Sem Value)|none=>pure (goInt (-1))).run P w=_
    generalize List.find? _ _=q;cases q <;> rfl
  ·cases h
 | false=>
  rw[e1]at h;simp only[cond_false]at h;cases e2:Nat.beq f fc with
  | true=>
   rw[e2]at h;have e:=Nat.eq_of_beq_eq_true e2
   subst e;simp only[cond_true]at h;split at h
   ·rename_i a b
    injection h with h
    subst h;match us,hl with
    | [u,v],_=>
     have q1:=hr 0 _ u rfl rfl
     have q2:=hr 1 _ v rfl rfl
     cases q1;cases q2
     refine⟨.int .i64 (DA a b),w,h2.run ?_,WExt.refl w,.int _ _⟩;rw[←zaw];rfl
   ·cases h
  | false=>rw[e2]at h;cases h
theorem z2f {X:Ctx}{f:Nat}{asv:List AV}{vs:List PV}{h h1:aA}{r:PV}{K:jA}(hf:X.fn f=none)(h2:X.ex2 f asv h=none)(hp:mA h asv=some (vs.map .p,h1))(hu:unp (vs.map AV.p)=some vs)(hx:X.ext f vs=some r):bA X f asv h K=K (.p r) h1 []:=by
 refine propext (bA.eq (bA.fold ?_) K);unfold OB;simp only[hf,h2,hp,hu,hx];exact⟨trivial,trivial,trivial⟩
structure GrowRow (P:Program) (f:Nat) (sh:Sh):Prop where
 enter:∀us w,(callFunc f us).run P w = .ok (.enter f us) w
 room:∀a w,Calls P f #[.slice a 0 0,.int .i64 0] w fun e w'=>e = .returned (.slice a 0 0)∧w'=w
 grow:∀a (n:Nat) w,0<n→n≤1048576→Calls P f #[.slice a 0 0,.int .i64 n] w fun e w'=>∃G cs E,e = .returned (.slice (some ⟨w.heap.size,0,none⟩) 0 G)∧cs.size=G*gA sh∧w'=w.drew.alloc (.cells cs E)
def EG:List (Nat × Sh)→Nat→List AV→aA→Option (AV × aA × Esc)
 | [],_,_,_=>none
 | (g,sh)::r,f,asv,h=>bif Nat.beq f g then(match asv with
  | [.sl0 _,.p (.int .i64 n)]=>bif decide (0≤n)&&decide (n≤1048576) then some (.own h.length 0 0 0,h++[.row sh [] 0],[]) else none
  | _=>none) else EG r f asv h
theorem z3O {gl:Nat→Option PV}:∀(gs:List (Nat×Sh)),(∀g sh,(g,sh)∈gs→GrowRow P g sh)→∀{f:Nat} {asv:List AV} {h:aA} {v:AV} {h':aA} {x:Esc},EG gs f asv h=some (v,h',x) →
 CC P gl f asv h fun v1 h1 x1=>v1=v∧h1=h'∧x1=x
 | [],_,f,asv,h,v,h',x,H=>by cases H
 | (g,sh)::r,hg,f,asv,h,v,h',x,H=>by
  unfold EG at H;cases e1:Nat.beq f g with
  | false=>
   rw[e1]at H;exact z3O r (fun g sh hm=>hg g sh (by simp [hm])) H
  | true=>
   rw[e1]at H;have e:=Nat.eq_of_beq_eq_true e1
   subst e;have R:=hg f sh (by simp)
   simp only[cond_true]at H;split at H
   ·rename_i sh' n
    cases hb:(decide (0≤n)&&decide (n≤1048576)) with
    | false=>rw[hb]at H;cases H
    | true=>
     rw[hb]at H;simp only[cond_true,Option.some.injEq,Prod.mk.injEq]at H;obtain⟨rfl,rfl,rfl⟩:=H;simp only[Bool.and_eq_true,decide_eq_true_eq]at hb;intro μ w vs Hh Hg hl hr;match vs,hl with
     | [u1,u2],_=>
      have q1:=hr 0 _ u1 rfl rfl
      have q2:=(hr 1 _ u2 rfl rfl).p_inv
      cases q1;cases q2
      obtain⟨m,hm⟩:=Int.eq_ofNat_of_zero_le hb.1;subst hm;refine .inl ⟨R.enter _,?_⟩;rcases Nat.eq_zero_or_pos m with h0|h0
      ·subst h0
       refine(R.room _ w).mono fun e w' he=>?_
       obtain⟨rfl,rfl⟩:=he;obtain⟨n1,n2⟩:=CQ Hh sh;refine⟨_,_,_,_,⟨rfl,rfl,rfl⟩,?_,n1,n2,oA.push (by simp [Obj.top])⟩
       exact .own h.length 0 0 0 _ 0 sh [] 0 none (Nat.le_refl _) (by simp) (by rw[←Hh.len];simp) (by simp) (by simp) (fun _=>rfl)
      ·refine(R.grow _ m w h0 (by omega)).mono fun e w' he=>?_
       obtain⟨G,cs,E,rfl,hcs,rfl⟩:=he;have hw:WExt w (w.drew.alloc (.cells cs E)):=(WExt.drew w _).trans (WExt.push _ _)
       obtain⟨n1,n2⟩:=zI (sh:=sh) (xs:=[]) Hh hw (b:=w.heap.size) (n:=cs.size) (Nat.le_refl _) (by show w.heap.size<(w.heap.push _).size;simp) (c:=cs) (WA.push (w:=w.drew) cs E) (by simp) (by simp) (by simp)
       refine⟨_,_,_,_,⟨rfl,rfl,rfl⟩,?_,n1,n2,oA.push (by simp [Obj.top])⟩
       refine .own h.length 0 0 0 _ G sh [] 0 (some (w.heap.size,cs.size)) (Nat.zero_le _) (by simp) (by rw[←Hh.len];simp) (by simp) (by simp) (fun _=>?_)
       exact .inr ⟨by simp,by simp [hcs]⟩
   ·cases H
end Go.Am
end
section
/- Short words for the printed code. -/
set_option linter.all false
namespace Go.Am
instance {n:Nat}:OfNat Opd n:=⟨.t n⟩
abbrev GL:=Nat→Option PV
abbrev KT:=Ex→St→Prop
def cI (n:Int):Opd:=.c (.p (.int .i64 n))
def cT:Opd:=.c (.p (.bool true))
def cF:Opd:=.c (.p (.bool false))
def cS (s:List UInt8):Opd:=.c (.p (.str s))
def uO (d:Nat)(o:AO):AOp:=⟨some d,none,o⟩
def wO (o:AO):AOp:=⟨none,none,o⟩
def gD (d g:Nat)(b:Bool)(o:AO):AOp:=⟨some d,some (g,b),o⟩
def mV (d:Nat)(x:Opd):AOp:=⟨some d,none,.mv x⟩
def bN (d:Nat)(b:BinOp)(x y:Opd):AOp:=⟨some d,none,.bin b x y⟩
def cL (d f:Nat)(l:List Opd):AOp:=⟨some d,none,.call f l⟩
def lD (d:Nat)(s:Sh)(x:Opd):AOp:=⟨some d,none,.load s x⟩
def iA (d:Nat)(s:Sh)(x y:Opd):AOp:=⟨some d,none,.iaddr s x y⟩
def fA (d o:Nat)(s:Sh)(x:Opd):AOp:=⟨some d,none,.faddr o s x⟩
def sT (d:Nat)(s:Sh)(x y:Opd):AOp:=⟨some d,none,.store s x y⟩
def lN (d:Nat)(x:Opd):AOp:=⟨some d,none,.len x⟩
def eX (d:Nat)(x:Opd)(i:Nat):AOp:=⟨some d,none,.ext x i⟩
def dF (o:AOp)(l:List Nat):DOp:=⟨o,l,false,[],[]⟩
def dT (o:AOp)(l:List Nat):DOp:=⟨o,l,true,[],[]⟩
def dA (o:AOp)(l:List Nat)(e:Bool)(a b:List Nat):DOp:=⟨o,l,e,a,b⟩
def rg (l:List AOp)(k:List Nat):ACode:=.reg l (some k)
def dr (l:List DOp)(k:List Nat):ACode:=.draw l (some k)
end Go.Am
end
section
/- A function's formula,computed out of its code. -/
set_option linter.all false
namespace Go.Am
abbrev En:=List (Nat × AV)
variable {C:Hd} {gl:Nat→Option PV} {e:En} {h h':aA} {x y:Esc} {K:Ex→St→Prop} {s:St} {L:En→aA→Esc→Prop} {k:AV→aA→Esc→Prop} {ev:Opd→AV} {r:List AOp} {q:List DOp} {dn:yC} {hs:List aA} {Q:Prop}
abbrev Sf (C:Hd)(gl:Nat→Option PV)(c:ACode)(e:En)(h:aA)(x:Esc)(K:Ex→St→Prop):Type:={P:Prop // NW C gl c ⟨e,h,x⟩ K=P}
def gO (G:AO→(Opd→AV)→aA→(AV→aA→Esc→Prop)→Prop)(t:AV)(g:Bool)(o:AO)(ev:Opd→AV)(h:aA)(k:AV→aA→Esc→Prop):Prop:=gV t g h (G o ev h) k
theorem agetB {e:En}{n m:Nat}{v:AV}:eA ((n,v)::e) m=match Nat.beq n m with|true=>v|false=>eA e m:=by
 show(if n=m then v else eA e m)=_
 cases hb:Nat.beq n m with
 | true=>rw[if_pos (Nat.eq_of_beq_eq_true hb)]
 | false=>rw[if_neg (Nat.ne_of_beq_eq_false hb)]
theorem wA:(∀ {C:Hd} {gl:GL} {e:En} {h:aA} {x:Esc} {K:KT} {l:List Nat} {b:ACode},NW C gl (.pr l b) ⟨e,h,x⟩ K=NW C gl b ⟨rA (some l) e,h,x⟩ K) ∧
 (∀{C:Hd} {gl:GL} {K:KT} {s:St} {a b:ACode},NW C gl (.seq a b) s K=NW C gl a s (oD C gl b K)) ∧
 (∀{C:Hd} {gl:GL} {K:KT} {s:St} {i:Nat} {b:ACode},NW C gl (.block i b) s K=NW C gl b s (EC i K)) ∧
 (∀{C:Hd} {gl:GL} {e:En} {h:aA} {x:Esc} {K:KT} {c:Opd} {a b:ACode},NW C gl (.cond c a b) ⟨e,h,x⟩ K=kB (Opd.ev gl e c) (NW C gl a ⟨e,h,x⟩ K) (NW C gl b ⟨e,h,x⟩ K)) ∧
 (∀{C:Hd} {gl:GL} {e:En} {h:aA} {x:Esc} {K:KT} {c:Opd} {a b:ACode},NW C gl (.condu c a b) ⟨e,h,x⟩ K=DL (Opd.ev gl e c) (NW C gl a ⟨e,h,x⟩ K) (NW C gl b ⟨e,h,x⟩ K)) ∧
 (∀{C:Hd} {gl:GL} {K:KT} {s:St} {b:ACode},NW C gl (.det b) s K=NW C gl b s K) ∧
 (∀{C:Hd} {gl:GL} {K:KT} {s:St},NW C gl .skip s K=K .normal s) ∧
 (∀{C:Hd} {gl:GL} {K:KT} {s:St} {i:Nat},NW C gl (.exit i) s K=K (.exit i) s) ∧
 (∀{C:Hd} {gl:GL} {K:KT} {s:St},NW C gl .ret s K=K .ret s) ∧
 (∀{C:Hd} {gl:GL} {K:KT} {s:St},NW C gl .bad s K=False) ∧
 (∀{C:Hd} {gl:GL} {e:En} {h:aA} {x:Esc} {K:KT} {l:List AOp} {o:List Nat},NW C gl (.reg l (some o)) ⟨e,h,x⟩ K=NE C gl l e h x fun e h x=>K .normal ⟨rA (some o) e,h,x⟩) ∧
 (∀{C:Hd} {gl:GL} {e:En} {h:aA} {x:Esc} {K:KT} {l:List AOp},NW C gl (.reg l none) ⟨e,h,x⟩ K=NE C gl l e h x fun e h x=>K .normal ⟨e,h,x⟩) ∧
 (∀{C:Hd} {gl:GL} {e:En} {h:aA} {x:Esc} {K:KT} {l:List DOp} {o:List Nat},NW C gl (.draw l (some o)) ⟨e,h,x⟩ K=qE C gl l [] [] e h x fun e h x=>K .normal ⟨rA (some o) e,h,x⟩) ∧
 (∀{C:Hd} {gl:GL} {e:En} {h:aA} {x:Esc} {K:KT} {l:List DOp},NW C gl (.draw l none) ⟨e,h,x⟩ K=qE C gl l [] [] e h x fun e h x=>K .normal ⟨e,h,x⟩) ∧
 (∀{C:Hd} {gl:GL} {e:En} {h:aA} {x:Esc} {L:En→aA→Esc→Prop},NE C gl [] e h x L=L e h x) ∧
 (∀{C:Hd} {gl:GL} {e:En} {h:aA} {x:Esc} {L:En→aA→Esc→Prop} {r:List AOp} {d:Option Nat} {o:AO},NE C gl (⟨d,none,o⟩::r) e h x L=opC C o (Opd.ev gl e) h fun v h' x'=>NE C gl r (put d v e) h' (x'++x) L) ∧
 (∀{C:Hd} {gl:GL} {e:En} {h:aA} {x:Esc} {L:En→aA→Esc→Prop} {r:List AOp} {d:Option Nat} {t:Nat} {b:Bool} {o:AO},NE C gl (⟨d,some (t,b),o⟩::r) e h x L=gO (opC C) (eA e t) b o (Opd.ev gl e) h fun v h' x'=>NE C gl r (put d v e) h' (x'++x) L) ∧
 (∀{C:Hd} {gl:GL} {e:En} {h:aA} {x:Esc} {L:En→aA→Esc→Prop} {dn:yC} {hs:List aA},qE C gl [] dn hs e h x L=L e h x) ∧
 (∀{C:Hd} {gl:GL} {e:En} {h:aA} {x:Esc} {L:En→aA→Esc→Prop} {q:List DOp} {dn:yC} {hs:List aA} {d:Option Nat} {o:AO} {rd a b:List Nat} {f:Bool},qE C gl (⟨⟨d,none,o⟩,rd,f,a,b⟩::q) dn hs e h x L=opE C o (Opd.ev gl (rA (some rd) e)) h fun v h' y=>
  cH o.still f h h' y (uE C gl ⟨d,none,o⟩ (rA (some rd) e) v hs (rE C gl h' dn (qE C gl q (dn++[(⟨d,none,o⟩,rA (some rd) e,v)]) (hs++[h]) (put d v e) h' (y++x) L) b) a)) ∧
 (∀{C:Hd} {gl:GL} {e:En} {h:aA} {x:Esc} {L:En→aA→Esc→Prop} {q:List DOp} {dn:yC} {hs:List aA} {d:Option Nat} {t:Nat} {g:Bool} {o:AO} {rd a b:List Nat} {f:Bool},qE C gl (⟨⟨d,some (t,g),o⟩,rd,f,a,b⟩::q) dn hs e h x L=gO (opE C) (eA (rA (some rd) e) t) g o (Opd.ev gl (rA (some rd) e)) h fun v h' y=>
  cH o.still f h h' y (uE C gl ⟨d,some (t,g),o⟩ (rA (some rd) e) v hs (rE C gl h' dn (qE C gl q (dn++[(⟨d,some (t,g),o⟩,rA (some rd) e,v)]) (hs++[h]) (put d v e) h' (y++x) L) b) a)) ∧
 (∀{h':aA} {h:aA} {y:Esc} {Q:Prop} {b:Bool},cH b true h h' y Q=Q) ∧
 (∀{h':aA} {h:aA} {y:Esc} {Q:Prop},cH true false h h' y Q=Q) ∧
 (∀{h':aA} {h:aA} {y:Esc} {Q:Prop},cH false false h h' y Q=((h'=h∧y=[])∧Q)) ∧
 (∀{C:Hd} {gl:GL} {h:aA} {dn:yC} {Q:Prop},rE C gl h dn Q []=Q) ∧
 (∀{C:Hd} {gl:GL} {h:aA} {dn:yC} {Q:Prop} {j:Nat} {l:List Nat},rE C gl h dn Q (j::l)=((match dn[j]? with|some q=>OI C gl q h|none=>False)∧rE C gl h dn Q l)) ∧
 (∀{C:Hd} {gl:GL} {e:En} {hs:List aA} {Q:Prop} {o:AOp} {v:AV},uE C gl o e v hs Q []=Q) ∧
 (∀{C:Hd} {gl:GL} {e:En} {hs:List aA} {Q:Prop} {o:AOp} {v:AV} {j:Nat} {l:List Nat},uE C gl o e v hs Q (j::l)=((match hs[j]? with|some g=>OI C gl (o,e,v) g|none=>False)∧uE C gl o e v hs Q l)) ∧
 (∀{C:Hd} {gl:GL} {e:En} {d:Option Nat} {o:AO} {v:AV} {g:aA},OI C gl (⟨d,none,o⟩,e,v) g=opE C o (Opd.ev gl e) g fun v1 h1 x1=>v1=v∧h1=g∧x1=[]) ∧
 (∀{C:Hd} {gl:GL} {e:En} {d:Option Nat} {t:Nat} {b:Bool} {o:AO} {v:AV} {g:aA},OI C gl (⟨d,some (t,b),o⟩,e,v) g=gO (opE C) (eA e t) b o (Opd.ev gl e) g fun v1 h1 x1=>v1=v∧h1=g∧x1=[]) ∧
 (∀{e:En} {d:Nat} {v:AV},put (some d) v e=(d,v)::e) ∧
 (∀{e:En} {v:AV},put none v e=e) ∧
 (∀{e:En} {n:Nat} {l:List Nat},rA (some (n::l)) e=(n,eA e n)::rA (some l) e) ∧
 (∀{e:En},rA (some []) e=[]) ∧
 (∀{e:En} {n m:Nat} {v:AV},eA ((n,v)::e) m=match Nat.beq n m with|true=>v|false=>eA e m) ∧
 (∀{gl:GL} {e:En} {n:Nat},Opd.ev gl e (.t n)=eA e n) ∧
 (∀{gl:GL} {e:En} {v:AV},Opd.ev gl e (.c v)=v) ∧
 (∀{gl:GL} {e:En} {n:Nat},Opd.ev gl e (.f n) = .fn n []) ∧
 (∀{gl:GL} {e:En} {n:Nat},Opd.ev gl e (.g n)=gv gl n) ∧
 (∀{n:Nat},(OfNat.ofNat n:Opd) = .t n) ∧
 (∀{C:Hd} {h:aA} {k:AV→aA→Esc→Prop} {ev:Opd→AV} {a:Opd},opC C (.mnext none [a]) ev h k=nxK (ev a) h k) ∧
 (∀{C:Hd} {h:aA} {k:AV→aA→Esc→Prop} {ev:Opd→AV} {sh:Sh} {l:List Opd},opC C (.mnext (some sh) l) ev h k=nqK (some sh) (ev1 ev l) h k) ∧
 (∀{C:Hd} {h:aA} {k:AV→aA→Esc→Prop} {ev:Opd→AV} {f:Nat} {a:List Opd},opC C (.call f a) ev h k=C f (ev1 ev a) h k) ∧
 (∀{C:Hd} {h:aA} {k:AV→aA→Esc→Prop} {ev:Opd→AV} {f:Opd} {a:List Opd},opC C (.callv f a) ev h k=VG C (ev f) (ev1 ev a) h k) ∧
 (∀{C:Hd} {h:aA} {k:AV→aA→Esc→Prop} {ev:Opd→AV} {f:Nat} {a:List Opd},opE C (.call f a) ev h k=UC C f (ev1 ev a) h k) ∧
 (∀{C:Hd} {h:aA} {k:AV→aA→Esc→Prop} {ev:Opd→AV} {f:Opd} {a:List Opd},opE C (.callv f a) ev h k=dJ C (ev f) (ev1 ev a) h k) ∧
 (∀{ev:Opd→AV},ev1 ev []=[]) ∧
 (∀{ev:Opd→AV} {a:Opd} {l:List Opd},ev1 ev (a::l)=ev a::ev1 ev l) ∧
 (∀{ev:Opd→AV},ev2 ev []=[]) ∧
 (∀{ev:Opd→AV} {n:Nat} {a:Opd} {l:List (Nat×Opd)},ev2 ev ((n,a)::l)=(n,ev a)::ev2 ev l) ∧
 (∀{ev:Opd→AV},ev3 ev []=[]) ∧
 (∀{ev:Opd→AV} {n m:Nat} {a:Opd} {l:List (Nat×Nat×Opd)},ev3 ev ((n,m,a)::l)=(n,m,ev a)::ev3 ev l) ∧
 (∀{ev:Opd→AV},evO ev none=none) ∧
 (∀{ev:Opd→AV} {a:Opd},evO ev (some a)=some (ev a)):=
 ⟨(by intros;rfl),(by intros;rfl),(by intros;rfl),(by intros;rfl),(by intros;rfl),(by intros;rfl),(by intros;rfl),(by intros;rfl),(by intros;rfl),(by intros;rfl),(by intros;rfl),(by intros;rfl),(by intros;rfl),(by intros;rfl),(by intros;rfl),(by intros;rfl),(by intros;rfl),(by intros;rfl),(by intros;rfl),(by intros;rfl),(by intros;rfl),(by intros;rfl),(by intros;rfl),(by intros;rfl),(by intros;rfl),(by intros;rfl),(by intros;rfl),(by intros;rfl),(by intros;rfl),(by intros;rfl),(by intros;rfl),(by intros;rfl),(by intros;rfl),(by intro e n m v;exact agetB),(by intros;rfl),(by intros;rfl),(by intros;rfl),(by intros;rfl),(by intros;rfl),(by intros;rfl),(by intros;rfl),(by intros;rfl),(by intros;rfl),(by intros;rfl),(by intros;rfl),(by intros;rfl),(by intros;rfl),(by intros;rfl),(by intros;rfl),(by intros;rfl),(by intros;rfl),(by intros;rfl),(by intros;rfl)⟩
abbrev OpW (G:AO→(Opd→AV)→aA→(AV→aA→Esc→Prop)→Prop):Prop:=∀{ev:Opd→AV} {h:aA} {k:AV→aA→Esc→Prop},
 (∀{x},G (.mv x) ev h k=k (ev x) h [])∧(∀{c a b},G (.pick c a b) ev h k=pK (HG (ev c) (ev a) (ev b)) fun v=>k v h [])∧(∀{z},G (.alloc z) ev h k=alK z h k) ∧
 (∀{x},G (.box x) ev h k=wK (fK (ev x) h) k)∧(∀{z ps},G (.build z ps) ev h k=pK (pC z (ev3 ev ps)) fun v=>k v h [])∧(∀{o sh n z ps},G (.bsl o sh n z ps) ev h k=wK (oC o sh n z (ev2 ev ps) h) k) ∧
 (∀{sh a},G (.load sh a) ev h k=pK (FA sh (ev a) h) fun v=>k v h [])∧(∀{sh a x},G (.store sh a x) ev h k=wK (vB sh (ev a) (ev x) h) k)∧(∀{x},G (.nilchk x) ev h k=pK (eN (ev x)) fun v=>k v h []) ∧
 (∀{o x y},G (.bin o x y) ev h k=pK (CA o (ev x) (ev y)) fun v=>k v h [])∧(∀{l n x y},G (.eqa l n x y) ev h k=pK (GA l n (ev x) (ev y)) fun v=>k v h [])∧(∀{n b x},G (.isnil n b x) ev h k=pK (aN n b (ev x)) fun v=>k v h []) ∧
 (∀{x},G (.mkif x) ev h k=pK (IQ (ev x)) fun v=>k v h [])∧(∀{o x},G (.un o x) ev h k=pK (oUn o (ev x)) fun v=>k v h [])∧(∀{c x},G (.conv (.i c) x) ev h k=pK (iK c (ev x)) fun v=>k v h []) ∧
 (∀{f l},G (.mkfn f l) ev h k=k (.fn f (ev1 ev l)) h [])∧(∀{sh x a b c},G (.slice sh x a b c) ev h k=pK (FI sh (ev x) (evO ev a) (evO ev b) (evO ev c) h) fun v=>k v h [])∧(∀{x a b},G (.slstr x a b) ev h k=pK (fN (ev x) (evO ev a) (evO ev b)) fun v=>k v h []) ∧
 (∀{sh z a b},G (.mksl sh z a b) ev h k=wK (JQ sh z (ev a) (ev b) h) k)∧(∀{o sh x},G (.faddr o sh x) ev h k=pK (EA o sh (ev x)) fun v=>k v h [])∧(∀{o sh x},G (.field o sh x) ev h k=pK (GQ o sh (ev x)) fun v=>k v h []) ∧
 (∀{sh x i},G (.iaddr sh x i) ev h k=pK (RD sh (ev x) (ev i) h) fun v=>k v h [])∧(∀{n sh x i},G (.iaddra n sh x i) ev h k=pK (EI n sh (ev x) (ev i)) fun v=>k v h [])∧(∀{n sh x i},G (.idxa n sh x i) ev h k=pK (ZM n sh (ev x) (ev i)) fun v=>k v h []) ∧
 (∀{x i},G (.idxs x i) ev h k=pK (jK (ev x) (ev i)) fun v=>k v h [])∧(∀{x i},G (.ext x i) ev h k=pK (DI (ev x) i) fun v=>k v h [])∧(∀{x},G (.len x) ev h k=pK (ZE (ev x)) fun v=>k v h [])∧(∀{x},G (.lens x) ev h k=pK (dN (ev x)) fun v=>k v h []) ∧
 (∀{sh a x},G (.app sh a x) ev h k=wK (eK sh (ev a) (ev x) h) k)∧(∀{sh a x},G (.copy sh a x) ev h k=wK (EQ sh (ev a) (ev x) h) k)∧(∀{m t l},G (.uns m t l) ev h k=wK (fC m t (ev1 ev l) h) k)∧(∀{sh z x},G (.clr sh z x) ev h k=wK (oClr sh z (ev x) h) k) ∧
 (∀{l},G (.mx l) ev h k=pK (oMx (ev1 ev l)) fun v=>k v h [])∧(∀{l},G (.mn l) ev h k=pK (oMn (ev1 ev l)) fun v=>k v h [])∧(∀{sh},G (.new0 sh) ev h k=nwK sh h k)∧(∀{x},G (.conv .s2b x) ev h k=wK (jE .s2b (ev x) h) k)∧(∀{x},G (.conv .b2s x) ev h k=wK (jE .b2s (ev x) h) k) ∧
 (∀{x},G (.conv .r2s x) ev h k=wK (jE .r2s (ev x) h) k)∧(∀{x},G (.conv .same x) ev h k=wK (jE .same (ev x) h) k)∧(G .mkmap ev h k=mmK h k)∧(∀{n o z x y},G (.look n o z x y) ev h k=pK (IA n o z (ev x) (ev y) h) fun v=>k v h [])∧(∀{n m y x},G (.mupd n m y x) ev h k=wK (OA n (ev m) (ev y) (ev x) h) k) ∧
 (∀{n z m y},G (.ment n z m y) ev h k=wK (HQ n z (ev m) (ev y) h) k)∧(∀{m a x},G (.estore m a x) ev h k=wK (FQ (ev m) (ev a) (ev x) h) k)∧(∀{n m y},G (.mdel n m y) ev h k=wK (mB n (ev m) (ev y) h) k)∧(∀{x},G (.lenm x) ev h k=pK (cN (ev x) h) fun v=>k v h []) ∧
 (∀{x},G (.mrange x) ev h k=wK (RB (ev x) h) k)∧(∀{i},G (.mentry i) ev h k=wK (QB (ev i) h) k)
theorem w_op:∀ G,(G=opC C∨G=opE C)→OpW G:=by
 rintro G (rfl|rfl) <;> refine fun {_ _ _}=>⟨?_,?_,?_,?_,?_,?_,?_,?_,?_,?_,?_,?_,?_,?_,?_,?_,?_,?_,?_,?_,?_,?_,?_,?_,?_,?_,?_,?_,?_,?_,?_,?_,?_,?_,?_,?_,?_,?_,?_,?_,?_,?_,?_,?_,?_,?_,?_,?_⟩ <;> intros <;> rfl
theorem w_oc:OpW (opC C):=w_op _ (.inl rfl)
theorem w_oe:OpW (opE C):=w_op _ (.inr rfl)
abbrev OpG (G:AO→(Opd→AV)→aA→(AV→aA→Esc→Prop)→Prop):Prop:=∀{t:AV} {g:Bool} {ev:Opd→AV} {h:aA} {k:AV→aA→Esc→Prop},
 (∀{x},gO G t g (.mv x) ev h k=gM t g (ev x) h k) ∧
 (∀{c a b},gO G t g (.pick c a b) ev h k=gP t g (HG (ev c) (ev a) (ev b)) h k) ∧
 (∀{z},gO G t g (.alloc z) ev h k=gV t g h (fun k=>alK z h k) k) ∧
 (∀{x},gO G t g (.box x) ev h k=gV t g h (fun k=>wK (fK (ev x) h) k) k) ∧
 (∀{z ps},gO G t g (.build z ps) ev h k=gP t g (pC z (ev3 ev ps)) h k) ∧
 (∀{o sh n z ps},gO G t g (.bsl o sh n z ps) ev h k=gV t g h (fun k=>wK (oC o sh n z (ev2 ev ps) h) k) k) ∧
 (∀{sh a},gO G t g (.load sh a) ev h k=gP t g (FA sh (ev a) h) h k) ∧
 (∀{sh a x},gO G t g (.store sh a x) ev h k=gV t g h (fun k=>wK (vB sh (ev a) (ev x) h) k) k) ∧
 (∀{x},gO G t g (.nilchk x) ev h k=gP t g (eN (ev x)) h k) ∧
 (∀{o x y},gO G t g (.bin o x y) ev h k=gP t g (CA o (ev x) (ev y)) h k) ∧
 (∀{l n x y},gO G t g (.eqa l n x y) ev h k=gP t g (GA l n (ev x) (ev y)) h k) ∧
 (∀{n b x},gO G t g (.isnil n b x) ev h k=gP t g (aN n b (ev x)) h k) ∧
 (∀{x},gO G t g (.mkif x) ev h k=gP t g (IQ (ev x)) h k) ∧
 (∀{o x},gO G t g (.un o x) ev h k=gP t g (oUn o (ev x)) h k) ∧
 (∀{c x},gO G t g (.conv (.i c) x) ev h k=gP t g (iK c (ev x)) h k) ∧
 (∀{f l},gO G t g (.mkfn f l) ev h k=gM t g (.fn f (ev1 ev l)) h k) ∧
 (∀{sh x a b c},gO G t g (.slice sh x a b c) ev h k=gP t g (FI sh (ev x) (evO ev a) (evO ev b) (evO ev c) h) h k) ∧
 (∀{x a b},gO G t g (.slstr x a b) ev h k=gP t g (fN (ev x) (evO ev a) (evO ev b)) h k) ∧
 (∀{sh z a b},gO G t g (.mksl sh z a b) ev h k=gV t g h (fun k=>wK (JQ sh z (ev a) (ev b) h) k) k) ∧
 (∀{o sh x},gO G t g (.faddr o sh x) ev h k=gP t g (EA o sh (ev x)) h k) ∧
 (∀{o sh x},gO G t g (.field o sh x) ev h k=gP t g (GQ o sh (ev x)) h k) ∧
 (∀{sh x i},gO G t g (.iaddr sh x i) ev h k=gP t g (RD sh (ev x) (ev i) h) h k) ∧
 (∀{n sh x i},gO G t g (.iaddra n sh x i) ev h k=gP t g (EI n sh (ev x) (ev i)) h k) ∧
 (∀{n sh x i},gO G t g (.idxa n sh x i) ev h k=gP t g (ZM n sh (ev x) (ev i)) h k) ∧
 (∀{x i},gO G t g (.idxs x i) ev h k=gP t g (jK (ev x) (ev i)) h k) ∧
 (∀{x i},gO G t g (.ext x i) ev h k=gP t g (DI (ev x) i) h k) ∧
 (∀{x},gO G t g (.len x) ev h k=gP t g (ZE (ev x)) h k) ∧
 (∀{x},gO G t g (.lens x) ev h k=gP t g (dN (ev x)) h k) ∧
 (∀{sh a x},gO G t g (.app sh a x) ev h k=gV t g h (fun k=>wK (eK sh (ev a) (ev x) h) k) k) ∧
 (∀{sh a x},gO G t g (.copy sh a x) ev h k=gV t g h (fun k=>wK (EQ sh (ev a) (ev x) h) k) k) ∧
 (∀{m t2 l},gO G t g (.uns m t2 l) ev h k=gV t g h (fun k=>wK (fC m t2 (ev1 ev l) h) k) k) ∧
 (∀{sh z x},gO G t g (.clr sh z x) ev h k=gV t g h (fun k=>wK (oClr sh z (ev x) h) k) k) ∧
 (∀{l},gO G t g (.mx l) ev h k=gP t g (oMx (ev1 ev l)) h k) ∧
 (∀{l},gO G t g (.mn l) ev h k=gP t g (oMn (ev1 ev l)) h k) ∧
 (∀{sh},gO G t g (.new0 sh) ev h k=gV t g h (fun k=>nwK sh h k) k) ∧
 (∀{x},gO G t g (.conv .s2b x) ev h k=gV t g h (fun k=>wK (jE .s2b (ev x) h) k) k) ∧
 (∀{x},gO G t g (.conv .b2s x) ev h k=gV t g h (fun k=>wK (jE .b2s (ev x) h) k) k) ∧
 (∀{x},gO G t g (.conv .r2s x) ev h k=gV t g h (fun k=>wK (jE .r2s (ev x) h) k) k) ∧
 (∀{x},gO G t g (.conv .same x) ev h k=gV t g h (fun k=>wK (jE .same (ev x) h) k) k) ∧
 (gO G t g .mkmap ev h k=gV t g h (fun k=>mmK h k) k) ∧
 (∀{n o z x y},gO G t g (.look n o z x y) ev h k=gP t g (IA n o z (ev x) (ev y) h) h k) ∧
 (∀{n m y x},gO G t g (.mupd n m y x) ev h k=gV t g h (fun k=>wK (OA n (ev m) (ev y) (ev x) h) k) k) ∧
 (∀{n z m y},gO G t g (.ment n z m y) ev h k=gV t g h (fun k=>wK (HQ n z (ev m) (ev y) h) k) k) ∧
 (∀{m a x},gO G t g (.estore m a x) ev h k=gV t g h (fun k=>wK (FQ (ev m) (ev a) (ev x) h) k) k) ∧
 (∀{n m y},gO G t g (.mdel n m y) ev h k=gV t g h (fun k=>wK (mB n (ev m) (ev y) h) k) k) ∧
 (∀{x},gO G t g (.lenm x) ev h k=gP t g (cN (ev x) h) h k) ∧
 (∀{x},gO G t g (.mrange x) ev h k=gV t g h (fun k=>wK (RB (ev x) h) k) k) ∧
 (∀{i},gO G t g (.mentry i) ev h k=gV t g h (fun k=>wK (QB (ev i) h) k) k)
theorem w_og:∀ G,(G=opC C∨G=opE C)→OpG G:=by
 rintro G (rfl|rfl) <;> refine fun {_ _ _ _ _}=>⟨?_,?_,?_,?_,?_,?_,?_,?_,?_,?_,?_,?_,?_,?_,?_,?_,?_,?_,?_,?_,?_,?_,?_,?_,?_,?_,?_,?_,?_,?_,?_,?_,?_,?_,?_,?_,?_,?_,?_,?_,?_,?_,?_,?_,?_,?_,?_,?_⟩ <;> intros <;> rfl
theorem w_gc:OpG (opC C):=w_og _ (.inl rfl)
theorem w_ge:OpG (opE C):=w_og _ (.inr rfl)
theorem wG:(∀ {C:Hd} {t:AV} {g:Bool} {f:Nat} {a:List Opd} {ev:Opd→AV} {h:aA} {k:AV→aA→Esc→Prop},gO (opC C) t g (.call f a) ev h k=gV t g h (C f (ev1 ev a) h) k)∧(∀ {C:Hd} {t:AV} {g:Bool} {f:Opd} {a:List Opd} {ev:Opd→AV} {h:aA} {k:AV→aA→Esc→Prop},gO (opC C) t g (.callv f a) ev h k=gV t g h (VG C (ev f) (ev1 ev a) h) k) ∧
 (∀{C:Hd} {t:AV} {g:Bool} {f:Nat} {a:List Opd} {ev:Opd→AV} {h:aA} {k:AV→aA→Esc→Prop},gO (opE C) t g (.call f a) ev h k=gV t g h (UC C f (ev1 ev a) h) k)∧(∀{C:Hd} {t:AV} {g:Bool} {f:Opd} {a:List Opd} {ev:Opd→AV} {h:aA} {k:AV→aA→Esc→Prop},gO (opE C) t g (.callv f a) ev h k=gV t g h (dJ C (ev f) (ev1 ev a) h) k):=⟨rfl,rfl,rfl,rfl⟩
theorem wB:(∀ {α:Type} {l:List α},[]++l=l)∧(∀ {α:Type} {a:α} {l m:List α},a::l++m=a::(l++m))∧(∀ {α:Type} {a:α} {l:List α},(a::l)[0]?=some a)∧(∀ {α:Type} {a:α} {l:List α} {i:Nat},(a::l)[i+1]?=l[i]?) ∧
 (∀{C:Hd} {gl:GL} {b:ACode} {K:KT} {s:St},oD C gl b K .normal s=NW C gl b s K)∧(∀{C:Hd} {gl:GL} {b:ACode} {K:KT} {s:St} {i:Nat},oD C gl b K (.exit i) s=K (.exit i) s)∧(∀{C:Hd} {gl:GL} {b:ACode} {K:KT} {s:St},oD C gl b K .ret s=K .ret s) ∧
 (∀{i:Nat} {K:KT} {s:St},EC i K .normal s=K .normal s)∧(∀{i j:Nat} {K:KT} {s:St},EC i K (.exit j) s=match Nat.beq j i with|true=>K .normal s|false=>K (.exit j) s)∧(∀{i:Nat} {K:KT} {s:St},EC i K .ret s=K .ret s):=
 ⟨by intros;rfl,by intros;rfl,by intros;rfl,by intros;rfl,by intros;rfl,by intros;rfl,by intros;rfl,by intros;rfl,by intro i j K s;show(bif Nat.beq j i then _ else _)=_;cases Nat.beq j i <;> rfl,by intros;rfl⟩
theorem wS:(∀ {n:Int},cI n = .c (.p (.int .i64 n)))∧(cT = .c (.p (.bool true)))∧(cF = .c (.p (.bool false)))∧(∀ {l:List UInt8},cS l = .c (.p (.str l)))∧(∀ {d:Nat} {o:AO},uO d o=⟨some d,none,o⟩)∧(∀ {o:AO},wO o=⟨none,none,o⟩)∧(∀ {d g:Nat} {b:Bool} {o:AO},gD d g b o=⟨some d,some (g,b),o⟩)∧(∀ {d:Nat} {x:Opd},mV d x=⟨some d,none,.mv x⟩) ∧
 (∀{d:Nat} {b:BinOp} {x y:Opd},bN d b x y=⟨some d,none,.bin b x y⟩)∧(∀{d f:Nat} {l:List Opd},cL d f l=⟨some d,none,.call f l⟩)∧(∀{d:Nat} {s:Sh} {x:Opd},lD d s x=⟨some d,none,.load s x⟩)∧(∀{d:Nat} {s:Sh} {x y:Opd},iA d s x y=⟨some d,none,.iaddr s x y⟩)∧(∀{d o:Nat} {s:Sh} {x:Opd},fA d o s x=⟨some d,none,.faddr o s x⟩) ∧
 (∀{d:Nat} {s:Sh} {x y:Opd},sT d s x y=⟨some d,none,.store s x y⟩)∧(∀{d:Nat} {x:Opd},lN d x=⟨some d,none,.len x⟩)∧(∀{d:Nat} {x:Opd} {i:Nat},eX d x i=⟨some d,none,.ext x i⟩)∧(∀{o:AOp} {l:List Nat},dF o l=⟨o,l,false,[],[]⟩)∧(∀{o:AOp} {l:List Nat},dT o l=⟨o,l,true,[],[]⟩)∧(∀{o:AOp} {l:List Nat} {e:Bool} {a b:List Nat},dA o l e a b=⟨o,l,e,a,b⟩) ∧
 (∀{l:List AOp} {k:List Nat},rg l k = .reg l (some k))∧(∀{l:List DOp} {k:List Nat},dr l k = .draw l (some k)):=
 ⟨rfl,rfl,rfl,rfl,rfl,rfl,rfl,rfl,rfl,rfl,rfl,rfl,rfl,rfl,rfl,rfl,rfl,rfl,rfl,rfl,rfl⟩
def wZ:=And.intro wA (And.intro wB (And.intro @w_oc (And.intro @w_oe (And.intro @w_gc (And.intro @w_ge (And.intro wG wS))))))
end Go.Am
end
section
/- The functions asv abstract code,and asv formulas aF their values: printed by program out of the translation. -/
set_option linter.all false
set_option maxRecDepth 100000
namespace Go.Am
def zX:ACode:=(.seq (rg [mV 2 cF] [0])
(.seq (rg [mV 17 0,
uO 18 (.build [.sl0 none,.p (.int .i64 0)] [(0,1,17)]),
uO 19 (.box 18),
mV 20 0,
uO 21 (.build [.sl0 none,.p (.int .i64 0)] [(0,1,20)]),
uO 22 (.box 21),
mV 3 19,
mV 4 22] [3,4])
(.seq (rg [mV 23 3,
cL 24 gH [23],
mV 25 4,
cL 26 gH [25],
mV 27 3,
cL 28 fH [27,(cI 14)],
mV 29 4,
cL 30 fH [29,(cI 14)],
uO 5 (.alloc [.sl0 none,.p (.int .i64 0)]),
uO 6 (.alloc [.sl0 none,.p (.int .i64 0)]),
wO (.store (some 2) 5 24),
wO (.store (some 2) 6 26),
mV 7 28,
mV 8 30] [5,6,7,8])
(.seq (rg [mV 32 7,
cL 33 vM [32,(.c (.p (.sl (some 8) [])))],
mV 31 33,
eX 34 31 0,
eX 35 31 1,
mV 9 34,
mV 10 35] [5,6,7,8,9])
(.seq (rg [mV 36 9,
cL 37 lI [36]] [5,6,7,8])
(.seq (rg [mV 39 7,
uO 40 (.build [.p (.str []),.p (.int .i64 0),.p (.int .i64 0),.p (.int .i64 0),.p (.str []),.p (.str []),.p (.str []),.p (.int .i64 0)] [(0,1,(cS [122,122])),(2,1,(cI 10000)),(3,1,(cI 1)),(4,1,(cS [98,57]))]),
cL 41 JJ [39,40],
mV 38 41,
eX 42 38 0,
eX 43 38 1,
mV 11 42,
mV 12 43] [5,6,7,8,11])
(.seq (rg [mV 44 11,
cL 45 lI [44]] [5,6,7,8])
(.seq (rg [lD 47 (some 2) 5,
mV 48 7,
cL 49 wM [47,48,(cI 100)],
mV 46 49,
eX 50 46 0,
eX 51 46 1,
mV 13 50,
mV 14 51] [5,6,7,8,13])
(.seq (rg [mV 52 13,
cL 53 fM [52]] [5,6,7,8])
(.seq (rg [lD 55 (some 2) 5,
mV 56 7,
cL 57 xM [55,56,(cS [115,99,97,110]),(cI 100)],
mV 54 57,
eX 58 54 0,
eX 59 54 1,
mV 15 58,
mV 16 59] [5,6,7,8,15])
(.seq (rg [mV 60 15,
cL 61 CJ [60]] [5,6,7,8])
(.seq (rg [fA 62 0 none 5,
lD 63 none 62,
fA 64 0 none 6,
lD 65 none 64,
cL 66 qM [63,65],
mV 67 66,
gD 68 67 true (.faddr 1 none 5),
gD 69 67 true (.load none 68),
gD 70 67 true (.faddr 1 none 6),
gD 71 67 true (.load none 70),
gD 72 67 true (.bin .eql 69 71),
uO 73 (.pick 67 72 cF),
mV 74 73,
gD 75 74 true (.mv 7),
gD 76 74 true (.mv 8),
gD 77 74 true (.call pM [75,76]),
uO 78 (.pick 74 77 cF),
mV 79 78,
gD 80 79 true (.call BJ []),
uO 81 (.pick 79 80 cF),
mV 2 81] [2])
.ret))))))))))))
def fT:AFun:=⟨1,[.t 2],zX,false,false⟩
def bP (C:Hd)(gl:GL)(e:En)(h:aA)(x:Esc)(K:KT):Sf C gl zX e h x K:=⟨_,by simp only[zX,↓wZ,AO.still];rfl⟩
theorem zbg {C gl v0 h x K}:NW C gl fT.body ⟨enter [v0],h,x⟩ K=(bP C gl [(0,v0)] h x K).1:=(bP C gl [(0,v0)] h x K).2
def LX:ACode:=(.seq (rg [uO 2 (.alloc [.sl0 none,.p (.int .i64 0)])] [0,2])
(.seq (dr [dF (uO 3 (.bsl false none 3 (.str []) [(0,(cS [115,99,97,110])),(1,(cS [102,108,97,115,104])),(2,(cS [98,117,114,110]))])) [],
dF (mV 4 0) [0],
dA (cL 5 qF [4,(cI 1),(cI 3)]) [4] true [] [0],
dF (uO 6 (.slice none 3 none (some 5) none)) [3,5],
dF (mV 7 0) [0],
dA (cL 8 qF [7,(cI 1),(cI 3)]) [7] true [] [0,3],
dF (uO 9 (.build [.sl0 none,.p (.int .i64 0)] [(0,1,6),(1,1,8)])) [6,8],
dT (wO (.store (some 2) 2 9)) [2,9]] [2])
.ret))
def tT:AFun:=⟨1,[.cell 2 (some 2)],LX,false,false⟩
def lP (C:Hd)(gl:GL)(e:En)(h:aA)(x:Esc)(K:KT):Sf C gl LX e h x K:=⟨_,by simp only[LX,↓wZ,AO.still];rfl⟩
theorem zbz {C gl v0 h x K}:NW C gl tT.body ⟨enter [v0],h,x⟩ K=(lP C gl [(0,v0)] h x K).1:=(lP C gl [(0,v0)] h x K).2
def sK:ACode:=.pr [0,1,6] (.seq (rg [bN 7 .lss 6 (cI 8)] [0,1,6,7])
(.seq (.cond 7 .skip
(.exit 0))
(.seq (.block 1 (.seq (rg [mV 8 0,
mV 9 1,
cL 10 iM [8,9],
mV 5 10] [0,1,5,6])
(.seq (rg [mV 11 5,
cL 12 jM [11],
bN 13 .eql 12 (cI 0)] [0,1,5,6,13])
(.cond 13 (.seq (rg [mV 14 5,
mV 4 14] [4])
.ret)
.skip))))
(rg [bN 15 .add 6 (cI 1),
mV 6 15] [0,1,6]))))
def HU (C:Hd)(gl:GL)(e:En)(h:aA)(x:Esc)(K:KT):Sf C gl sK e h x K:=⟨_,by simp only[sK,↓wZ,AO.still];rfl⟩
theorem zbx {C gl e h x K}:NW C gl sK ⟨e,h,x⟩ K=(HU C gl e h x K).1:=(HU C gl e h x K).2
theorem zfb {C gl e h x K}:NW C gl (.loop sK) ⟨e,h,x⟩ K=VA C gl sK K [(0,eA e 0),(1,eA e 1),(6,eA e 6)] h x:=GB
def UQ:ACode:=.pr [] (.seq (rg [mV 4 (.c (.p (.sl (some 8) [])))] [4])
.ret)
def IU (C:Hd)(gl:GL)(e:En)(h:aA)(x:Esc)(K:KT):Sf C gl UQ e h x K:=⟨_,by simp only[UQ,↓wZ,AO.still];rfl⟩
theorem zby {C gl e h x K}:NW C gl UQ ⟨e,h,x⟩ K=(IU C gl e h x K).1:=(IU C gl e h x K).2
def KX:ACode:=(.seq (rg [mV 4 (.c (.p (.sl (some 8) [])))] [0,1])
(.seq (.seq (rg [mV 6 (cI 0)] [0,1,6])
(.block 0 (.loop sK)))
UQ))
def rT:AFun:=⟨2,[.t 4],KX,false,false⟩
def kP (C:Hd)(gl:GL)(e:En)(h:aA)(x:Esc)(K:KT):Sf C gl KX e h x K:=⟨_,by simp only[KX,↓wZ,AO.still];rfl⟩
theorem zbw {C gl v0 v1 h x K}:NW C gl rT.body ⟨enter [v0,v1],h,x⟩ K=(kP C gl [(0,v0),(1,v1)] h x K).1:=(kP C gl [(0,v0),(1,v1)] h x K).2
def oY:ACode:=(.seq (rg [mV 4 (.c (.p (.sl (some 8) []))),
mV 5 (cI 0)] [0,1])
(.seq (.seq (rg [mV 8 0,
cL 9 rF [8],
mV 10 1,
cL 11 rF [10],
uO 12 (.bsl false none 2 (.int .i64 0) [(0,9),(1,11)]),
cL 13 iI [12],
mV 6 13] [0,1,6])
(.seq (rg [mV 14 6,
bN 15 .neq 14 (cI 0)] [0,1,6,15])
(.cond 15 (.seq (rg [mV 16 6,
mV 4 (.c (.p (.sl (some 8) []))),
mV 5 16] [4,5])
.ret)
.skip)))
(.seq (rg [mV 17 0,
mV 18 1,
uO 19 (.bsl false none 2 (.sl (some 8) []) [(0,17),(1,18)]),
cL 20 nM [19],
mV 7 20] [7])
(.seq (rg [mV 21 7,
cL 22 oI [21,(.f MF)]] [7])
(.seq (rg [mV 23 7,
cL 24 mM [23],
mV 7 24] [7])
(.seq (.block 0 (.seq (rg [mV 26 7,
cL 27 xG [26],
mV 25 27] [7,25])
(.cond 25 (.seq (rg [mV 4 (.c (.p (.sl (some 8) []))),
mV 5 (cI 13)] [4,5])
.ret)
(.seq (rg [mV 29 7,
lN 30 29,
bN 31 .gtr 30 (cI 2000),
mV 28 31] [7,28])
(.cond 28 (.seq (rg [mV 4 (.c (.p (.sl (some 8) []))),
mV 5 (cI 2)] [4,5])
.ret)
.skip)))))
(.seq (rg [mV 32 7,
mV 4 32,
mV 5 (cI 0)] [4,5])
.ret)))))))
def TT:AFun:=⟨2,[.o 4,.t 5],oY,false,false⟩
def EP (C:Hd)(gl:GL)(e:En)(h:aA)(x:Esc)(K:KT):Sf C gl oY e h x K:=⟨_,by simp only[oY,↓wZ,AO.still];rfl⟩
theorem zc9 {C gl v0 v1 h x K}:NW C gl TT.body ⟨enter [v0,v1],h,x⟩ K=(EP C gl [(0,v0),(1,v1)] h x K).1:=(EP C gl [(0,v0),(1,v1)] h x K).2
def nK:ACode:=.pr [0,2,5,6] (.seq (rg [bN 7 .lss 6 5] [0,2,5,6,7])
(.seq (.cond 7 .skip
(.exit 0))
(.seq (.block 1 (.seq (rg [mV 8 6,
mV 3 8] [0,2,3,5,6])
(rg [mV 9 0,
mV 10 3,
lD 11 (some 8) 2,
iA 12 (some 8) 9 10,
wO (.store (some 8) 12 11)] [0,2,5,6])))
(rg [bN 13 .add 6 (cI 1),
mV 6 13] [0,2,5,6]))))
def mJ (C:Hd)(gl:GL)(e:En)(h:aA)(x:Esc)(K:KT):Sf C gl nK e h x K:=⟨_,by simp only[nK,↓wZ,AO.still];rfl⟩
theorem SP {C gl e h x K}:NW C gl nK ⟨e,h,x⟩ K=(mJ C gl e h x K).1:=(mJ C gl e h x K).2
theorem zeX {C gl e h x K}:NW C gl (.loop nK) ⟨e,h,x⟩ K=VA C gl nK K [(0,eA e 0),(2,eA e 2),(5,eA e 5),(6,eA e 6)] h x:=GB
def AX:ACode:=(.seq (rg [uO 2 (.alloc [.p (.str []),.p (.int .i64 0),.p (.int .i64 0),.p (.int .i64 0),.p (.str []),.p (.str []),.p (.str []),.p (.int .i64 0)])] [0,2])
(.seq (rg [mV 4 0,
lN 5 4,
mV 6 (cI 0)] [0,2,5,6])
(.block 0 (.loop nK))))
def gT:AFun:=⟨1,[],AX,true,false⟩
def EL (C:Hd)(gl:GL)(e:En)(h:aA)(x:Esc)(K:KT):Sf C gl AX e h x K:=⟨_,by simp only[AX,↓wZ,AO.still];rfl⟩
theorem zbh {C gl v0 h x K}:NW C gl gT.body ⟨enter [v0],h,x⟩ K=(EL C gl [(0,v0)] h x K).1:=(EL C gl [(0,v0)] h x K).2
def rY:ACode:=.pr [0,3,18,19,20] (rg [bN 35 .add 20 (cI 1),
mV 20 35] [0,3,18,19,20])
def z10 (C:Hd)(gl:GL)(v0 v3 v18 v19 v20:AV)(h:aA)(x:Esc)(K:KT):Prop:=
 pK (CA .add v20 (AI 1)) fun t1=>
 K .normal ⟨[(0,v0),(3,v3),(18,v18),(19,v19),(20,t1)],h,x⟩
theorem zcG {C gl e h x K}:NW C gl rY ⟨e,h,x⟩ K=z10 C gl (eA e 0) (eA e 3) (eA e 18) (eA e 19) (eA e 20) h x K:=by kernel_rfl
def z0g (q1:ACode):ACode:=.pr [0,3,18,19,20] (.seq (rg [bN 21 .lss 20 19] [0,3,18,19,20,21])
(.seq (.cond 21 .skip
(.exit 0))
(.seq (.block 1 (.seq (rg [iA 22 (some 8) 18 20,
lD 23 (some 8) 22,
uO 8 (.alloc [.p (.str []),.p (.int .i64 0),.p (.int .i64 0),.p (.int .i64 0),.p (.str []),.p (.str []),.p (.str []),.p (.int .i64 0)]),
wO (.store (some 8) 8 23)] [0,3,8,18,19,20])
(.seq (rg [fA 24 0 none 8,
lD 25 none 24,
fA 26 0 none 3,
lD 27 none 26,
bN 28 .eql 25 27] [0,3,8,18,19,20,28])
(.cond 28 (rg [fA 29 1 none 3,
lD 30 none 29,
fA 31 1 none 8,
lD 32 none 31,
uO 33 (.mx [30,32]),
fA 34 1 none 3,
wO (.store none 34 33)] [0,3,18,19,20])
.skip))))
q1)))
def HI:ACode:=z0g rY
def GV (C:Hd)(gl:GL)(q1:ACode)(v0 v3 v18 v19 v20:AV)(h:aA)(x:Esc)(K:KT):Prop:=
 pK (CA .lss v20 v19) fun t1=>
 kB t1 (pK (RD (some 8) v18 v20 h) fun t2=>
 pK (FA (some 8) t2 h) fun t3=>
 alK [.p (.str []),.p (.int .i64 0),.p (.int .i64 0),.p (.int .i64 0),.p (.str []),.p (.str []),.p (.str []),.p (.int .i64 0)] h fun t4 h5 y6=>
 wK (vB (some 8) t4 t3 h5) fun t7 h8 y9=>
 pK (EA 0 none t4) fun t10=>
 pK (FA none t10 h8) fun t11=>
 pK (EA 0 none v3) fun t12=>
 pK (FA none t12 h8) fun t13=>
 pK (CA .eql t11 t13) fun t14=>
 kB t14 (pK (EA 1 none v3) fun t15=>
 pK (FA none t15 h8) fun t16=>
 pK (EA 1 none t4) fun t17=>
 pK (FA none t17 h8) fun t18=>
 pK (oMx [t16,t18]) fun t19=>
 pK (EA 1 none v3) fun t20=>
 wK (vB none t20 t19 h8) fun t21 h22 y23=>
 NW C gl q1 ⟨[(0,v0),(3,v3),(18,v18),(19,v19),(20,v20)],h22,(y23++(y9++(y6++x)))⟩ K)
 (NW C gl q1 ⟨[(0,v0),(3,v3),(8,t4),(18,v18),(19,v19),(20,v20),(28,t14)],h8,(y9++(y6++x))⟩ K))
 (K (.exit 0) ⟨[(0,v0),(3,v3),(18,v18),(19,v19),(20,v20),(21,t1)],h,x⟩)
theorem z6C {C gl q1 e h x K}:NW C gl (z0g q1) ⟨e,h,x⟩ K=GV C gl q1 (eA e 0) (eA e 3) (eA e 18) (eA e 19) (eA e 20) h x K:=by kernel_rfl
theorem zcH {C gl e h x K}:NW C gl HI ⟨e,h,x⟩ K=GV C gl rY (eA e 0) (eA e 3) (eA e 18) (eA e 19) (eA e 20) h x K:=z6C
theorem zfy {C gl e h x K}:NW C gl (.loop (.scope HI)) ⟨e,h,x⟩ K=VA C gl (.scope HI) K [(0,eA e 0),(3,eA e 3),(18,eA e 18),(19,eA e 19),(20,eA e 20)] h x:=iF
def QK:ACode:=.pr [0,3] (.seq (rg [fA 36 1 none 3,
lD 37 none 36,
bN 38 .add 37 (cI 1),
fA 39 1 none 3,
wO (.store none 39 38)] [0,3])
(.seq (.seq (rg [lD 40 (some 8) 3,
cL 41 jH [40],
mV 9 41] [0,3,9])
(.seq (rg [mV 42 9,
bN 43 .neq 42 (cI 0)] [0,3,9,43])
(.cond 43 (.seq (rg [mV 44 9,
mV 4 (.c (.p (.sl (some 8) []))),
mV 5 44] [4,5])
.ret)
.skip)))
(.seq (.block 2 (.seq (dr [dF (mV 46 0) [0],
dF (lN 47 46) [46],
dF (bN 48 .gtr 47 (cI 0)) [47],
dF (mV 49 48) [48],
dF (gD 50 49 true (.load (some 8) 3)) [3,49],
dF (gD 51 49 true (.mv 0)) [0,49],
dF (gD 52 49 true (.mv 0)) [0,49],
dF (gD 53 49 true (.len 52)) [52,49],
dF (gD 54 49 true (.bin .sub 53 (cI 1))) [53,49],
dF (gD 55 49 true (.iaddr (some 8) 51 54)) [51,54,49],
dF (gD 56 49 true (.load (some 8) 55)) [55,49],
dT (gD 57 49 true (.call MF [50,56])) [50,56,49],
dF (gD 58 49 true (.bin .leq 57 (cI 0))) [57,49],
dF (uO 59 (.pick 49 58 cF)) [49,58],
dF (mV 45 59) [59]] [0,3,45])
(.cond 45 (.seq (rg [mV 4 (.c (.p (.sl (some 8) []))),
mV 5 (cI 7)] [4,5])
.ret)
(.seq (rg [mV 61 0,
lN 62 61,
bN 63 .geq 62 (cI 2000),
mV 60 63] [0,3,60])
(.cond 60 (.seq (rg [mV 4 (.c (.p (.sl (some 8) []))),
mV 5 (cI 2)] [4,5])
.ret)
.skip)))))
(.seq (dr [dF (mV 64 0) [0],
dT (cL 65 HJ [64]) [64],
dA (lD 66 (some 8) 3) [3] false [1] [],
dA (uO 67 (.bsl false (some 8) 1 (.agg [.str [],.int .i64 0,.int .i64 0,.int .i64 0,.str [],.str [],.str [],.int .i64 0]) [(0,66)])) [66] false [1] [],
dT (uO 68 (.app (some 8) 65 67)) [65,67],
dF (mV 4 68) [68],
dF (mV 5 (cI 0)) []] [4,5])
.ret))))
def qJ (C:Hd)(gl:GL)(v0 v3:AV)(h:aA)(x:Esc)(K:KT):Prop:=
 pK (EA 1 none v3) fun t1=>
 pK (FA none t1 h) fun t2=>
 pK (CA .add t2 (AI 1)) fun t3=>
 pK (EA 1 none v3) fun t4=>
 wK (vB none t4 t3 h) fun t5 h6 y7=>
 pK (FA (some 8) v3 h6) fun t8=>
 C jH [t8] h6 fun t9 h10 y11=>
 pK (CA .neq t9 (AI 0)) fun t12=>
 kB t12 (K .ret ⟨[(4,(.p (.sl (some 8) []))),(5,t9)],h10,(y11++(y7++x))⟩)
 (pK (ZE v0) fun t13=>
 pK (CA .gtr t13 (AI 0)) fun t14=>
 gP t14 true (FA (some 8) v3 h10) h10 fun t15 h16 y17=>
 gM t14 true v0 h16 fun t18 h19 y20=>
 gM t14 true v0 h19 fun t21 h22 y23=>
 gP t14 true (ZE t21) h22 fun t24 h25 y26=>
 gP t14 true (CA .sub t24 (AI 1)) h25 fun t27 h28 y29=>
 gP t14 true (RD (some 8) t18 t27 h28) h28 fun t30 h31 y32=>
 gP t14 true (FA (some 8) t30 h31) h31 fun t33 h34 y35=>
 gV t14 true h34 (UC C MF [t15,t33] h34) fun t36 h37 y38=>
 gP t14 true (CA .leq t36 (AI 0)) h37 fun t39 h40 y41=>
 pK (HG t14 t39 (AB false)) fun t42=>
 kB t42 (K .ret ⟨[(4,(.p (.sl (some 8) []))),(5,(AI 7))],h40,(y41++(y38++(y35++(y32++(y29++(y26++(y23++(y20++(y17++(y11++(y7++x)))))))))))⟩)
 (pK (ZE v0) fun t43=>
 pK (CA .geq t43 (AI 2000)) fun t44=>
 kB t44 (K .ret ⟨[(4,(.p (.sl (some 8) []))),(5,(AI 2))],h40,(y41++(y38++(y35++(y32++(y29++(y26++(y23++(y20++(y17++(y11++(y7++x)))))))))))⟩)
 (UC C HJ [v0] h40 fun t45 h46 y47=>
 pK (FA (some 8) v3 h46) fun t48=>
 (pK (FA (some 8) v3 h40) fun v=>(fun u (g1:aA) (y1:Esc)=>u=t48∧g1=h40∧y1=[]) v h40 [])∧(wK (oC false (some 8) 1 (.agg [.str [],.int .i64 0,.int .i64 0,.int .i64 0,.str [],.str [],.str [],.int .i64 0]) [(0,t48)] h46) fun t49 h50 y51=>
 (h50=h46∧y51=[])∧((wK (oC false (some 8) 1 (.agg [.str [],.int .i64 0,.int .i64 0,.int .i64 0,.str [],.str [],.str [],.int .i64 0]) [(0,t48)] h40) (fun u (g1:aA) (y1:Esc)=>u=t49∧g1=h40∧y1=[]))∧(wK (eK (some 8) t45 t49 h50) fun t52 h53 y54=>
 K .ret ⟨[(4,t52),(5,(AI 0))],h53,(y54++(y51++(y47++(y41++(y38++(y35++(y32++(y29++(y26++(y23++(y20++(y17++(y11++(y7++x))))))))))))))⟩))))))
theorem VL {C gl e h x K}:NW C gl QK ⟨e,h,x⟩ K=qJ C gl (eA e 0) (eA e 3) h x K:=by kernel_rfl
def z0f (q2 q3:ACode):ACode:=(.seq (rg [uO 3 (.box 1),
mV 4 (.c (.p (.sl (some 8) []))),
mV 5 (cI 0)] [0,3])
(.seq (.seq (rg [mV 10 0,
cL 11 rF [10],
mV 6 11] [0,3,6])
(.seq (rg [mV 12 6,
bN 13 .neq 12 (cI 0)] [0,3,6,13])
(.cond 13 (.seq (rg [mV 14 6,
mV 4 (.c (.p (.sl (some 8) []))),
mV 5 14] [4,5])
.ret)
.skip)))
(.seq (.seq (rg [fA 15 1 none 3,
lD 16 none 15,
bN 17 .neq 16 (cI 0)] [0,3,17])
(.cond 17 (.seq (rg [mV 4 (.c (.p (.sl (some 8) []))),
mV 5 (cI 3)] [4,5])
.ret)
.skip))
(.seq (.seq (rg [mV 18 0,
lN 19 18,
mV 20 (cI 0)] [0,3,18,19,20])
(.block 0 (.loop (.scope q2))))
q3))))
def WT:AFun:=⟨2,[.o 4,.t 5],z0f HI QK,false,false⟩
def SL (C:Hd)(gl:GL)(q2 q3:ACode)(v0 v1:AV)(h:aA)(x:Esc)(K:KT):Prop:=
 wK (fK v1 h) fun t1 h2 y3=>
 C rF [v0] h2 fun t4 h5 y6=>
 pK (CA .neq t4 (AI 0)) fun t7=>
 kB t7 (K .ret ⟨[(4,(.p (.sl (some 8) []))),(5,t4)],h5,(y6++(y3++x))⟩)
 (pK (EA 1 none t1) fun t8=>
 pK (FA none t8 h5) fun t9=>
 pK (CA .neq t9 (AI 0)) fun t10=>
 kB t10 (K .ret ⟨[(4,(.p (.sl (some 8) []))),(5,(AI 3))],h5,(y6++(y3++x))⟩)
 (pK (ZE v0) fun t11=>
 NW C gl (.loop (.scope q2)) ⟨[(0,v0),(3,t1),(18,v0),(19,t11),(20,(AI 0))],h5,(y6++(y3++x))⟩ (EC 0 (oD C gl q3 K))))
theorem z6B {C gl q2 q3 v0 v1 h x K}:NW C gl (z0f q2 q3) ⟨enter [v0,v1],h,x⟩ K=SL C gl q2 q3 v0 v1 h x K:=by kernel_rfl
theorem zcF {C gl v0 v1 h x K}:NW C gl WT.body ⟨enter [v0,v1],h,x⟩ K=SL C gl HI QK v0 v1 h x K:=z6B
def uR:ACode:=.pr [9,10,27,28,29] (rg [bN 47 .add 29 (cI 1),
mV 29 47] [9,10,27,28,29])
def DV (C:Hd)(gl:GL)(e:En)(h:aA)(x:Esc)(K:KT):Sf C gl uR e h x K:=⟨_,by simp only[uR,↓wZ,AO.still];rfl⟩
theorem zcB {C gl e h x K}:NW C gl uR ⟨e,h,x⟩ K=(DV C gl e h x K).1:=(DV C gl e h x K).2
def PK:ACode:=.pr [9,10,27,28,29] (.seq (rg [bN 30 .lss 29 28] [9,10,27,28,29,30])
(.seq (.cond 30 .skip
(.exit 0))
(.seq (.block 1 (.seq (rg [iA 31 none 27 29,
lD 32 none 31,
mV 12 32] [9,10,12,27,28,29])
(.seq (rg [mV 33 9,
mV 34 12,
cL 35 OJ [33,34],
mV 13 35] [9,10,12,13,27,28,29])
(.seq (rg [mV 36 13,
lN 37 36,
bN 38 .gtr 37 (cI 0)] [9,10,12,13,27,28,29,38])
(.cond 38 (rg [mV 39 10,
mV 40 12,
mV 41 13,
iA 42 none 41 (cI 0),
lD 43 none 42,
uO 44 (.build [.p (.str []),.p (.str [])] [(0,1,40),(1,1,43)]),
uO 45 (.bsl false (some 2) 1 (.agg [.str [],.str []]) [(0,44)]),
uO 46 (.app (some 2) 39 45),
mV 10 46] [9,10,27,28,29])
.skip)))))
uR)))
def EV (C:Hd)(gl:GL)(e:En)(h:aA)(x:Esc)(K:KT):Sf C gl PK e h x K:=⟨_,by simp only[PK,↓wZ,AO.still];rfl⟩
theorem zcC {C gl e h x K}:NW C gl PK ⟨e,h,x⟩ K=(EV C gl e h x K).1:=(EV C gl e h x K).2
theorem zfx {C gl e h x K}:NW C gl (.loop (.scope PK)) ⟨e,h,x⟩ K=VA C gl (.scope PK) K [(9,eA e 9),(10,eA e 10),(27,eA e 27),(28,eA e 28),(29,eA e 29)] h x:=iF
def vR:ACode:=.pr [10] (.seq (rg [mV 48 10,
mV 6 48,
mV 7 (cI 0)] [6,7])
.ret)
def FV (C:Hd)(gl:GL)(e:En)(h:aA)(x:Esc)(K:KT):Sf C gl vR e h x K:=⟨_,by simp only[vR,↓wZ,AO.still];rfl⟩
theorem zcD {C gl e h x K}:NW C gl vR ⟨e,h,x⟩ K=(FV C gl e h x K).1:=(FV C gl e h x K).2
def pY:ACode:=(.seq (rg [uO 3 (.box 0),
mV 6 (.c (.p (.sl (some 2) []))),
mV 7 (cI 0)] [1,2,3])
(.seq (.seq (rg [lD 14 (some 2) 3,
mV 15 1,
mV 16 2,
cL 17 kH [14,15,16],
mV 8 17] [1,2,3,8])
(.seq (rg [mV 18 8,
bN 19 .neq 18 (cI 0)] [1,2,3,8,19])
(.cond 19 (.seq (rg [mV 20 8,
mV 6 (.c (.p (.sl (some 2) []))),
mV 7 20] [6,7])
.ret)
.skip)))
(.seq (dr [dF (lD 21 (some 2) 3) [3],
dF (mV 22 1) [1],
dF (mV 23 2) [2],
dA (cL 24 lH [22,23]) [22,23] true [] [0],
dT (cL 25 OF [21,24]) [21,24],
dF (mV 9 25) [25]] [3,9])
(.seq (rg [uO 10 (.new0 (some 2))] [3,9,10])
(.seq (.seq (rg [fA 26 0 none 3,
lD 27 none 26,
lN 28 27,
mV 29 (cI 0)] [9,10,27,28,29])
(.block 0 (.loop (.scope PK))))
vR)))))
def UT:AFun:=⟨3,[.o 6,.t 7],pY,false,false⟩
def QL (C:Hd)(gl:GL)(e:En)(h:aA)(x:Esc)(K:KT):Sf C gl pY e h x K:=⟨_,by simp only[pY,↓wZ,AO.still];rfl⟩
theorem zcA {C gl v0 v1 v2 h x K}:NW C gl UT.body ⟨enter [v0,v1,v2],h,x⟩ K=(QL C gl [(0,v0),(1,v1),(2,v2)] h x K).1:=(QL C gl [(0,v0),(1,v1),(2,v2)] h x K).2
def oK:ACode:=.pr [0,2,5,6] (.seq (rg [bN 7 .lss 6 5] [0,2,5,6,7])
(.seq (.cond 7 .skip
(.exit 0))
(.seq (.block 1 (.seq (rg [mV 8 6,
mV 3 8] [0,2,3,5,6])
(rg [mV 9 0,
mV 10 3,
lD 11 (some 2) 2,
iA 12 (some 2) 9 10,
wO (.store (some 2) 12 11)] [0,2,5,6])))
(rg [bN 13 .add 6 (cI 1),
mV 6 13] [0,2,5,6]))))
def FL (C:Hd)(gl:GL)(e:En)(h:aA)(x:Esc)(K:KT):Sf C gl oK e h x K:=⟨_,by simp only[oK,↓wZ,AO.still];rfl⟩
theorem iW {C gl e h x K}:NW C gl oK ⟨e,h,x⟩ K=(FL C gl e h x K).1:=(FL C gl e h x K).2
theorem zeY {C gl e h x K}:NW C gl (.loop oK) ⟨e,h,x⟩ K=VA C gl oK K [(0,eA e 0),(2,eA e 2),(5,eA e 5),(6,eA e 6)] h x:=GB
def BX:ACode:=(.seq (rg [uO 2 (.alloc [.p (.str []),.p (.str [])])] [0,2])
(.seq (rg [mV 4 0,
lN 5 4,
mV 6 (cI 0)] [0,2,5,6])
(.block 0 (.loop oK))))
def iT:AFun:=⟨1,[],BX,true,false⟩
def cP (C:Hd)(gl:GL)(e:En)(h:aA)(x:Esc)(K:KT):Sf C gl BX e h x K:=⟨_,by simp only[BX,↓wZ,AO.still];rfl⟩
theorem zbi {C gl v0 h x K}:NW C gl iT.body ⟨enter [v0],h,x⟩ K=(cP C gl [(0,v0)] h x K).1:=(cP C gl [(0,v0)] h x K).2
def qY:ACode:=(.seq (rg [uO 4 (.box 0),
mV 8 (.c (.p (.sl none []))),
mV 9 (cI 0)] [1,2,3,4])
(.seq (.seq (rg [lD 11 (some 2) 4,
mV 12 1,
mV 13 2,
mV 14 3,
cL 15 yM [11,12,13,14],
mV 10 15] [1,2,3,4,10])
(.seq (rg [mV 16 10,
bN 17 .neq 16 (cI 0)] [1,2,3,4,10,17])
(.cond 17 (.seq (rg [mV 18 10,
mV 8 (.c (.p (.sl none []))),
mV 9 18] [8,9])
.ret)
.skip)))
(.seq (dr [dF (lD 19 (some 2) 4) [4],
dF (mV 20 1) [1],
dF (mV 21 3) [3],
dA (cL 22 lH [20,21]) [20,21] true [] [0],
dT (cL 23 OF [19,22]) [19,22],
dF (mV 24 2) [2],
dT (cL 25 OJ [23,24]) [23,24],
dF (mV 8 25) [25],
dF (mV 9 (cI 0)) []] [8,9])
.ret)))
def VT:AFun:=⟨4,[.o 8,.t 9],qY,false,false⟩
def RL (C:Hd)(gl:GL)(e:En)(h:aA)(x:Esc)(K:KT):Sf C gl qY e h x K:=⟨_,by simp only[qY,↓wZ,AO.still];rfl⟩
theorem zcE {C gl v0 v1 v2 v3 h x K}:NW C gl VT.body ⟨enter [v0,v1,v2,v3],h,x⟩ K=(RL C gl [(0,v0),(1,v1),(2,v2),(3,v3)] h x K).1:=(RL C gl [(0,v0),(1,v1),(2,v2),(3,v3)] h x K).2
def qK:ACode:=.pr [0,2,5,6] (.seq (rg [bN 7 .lss 6 5] [0,2,5,6,7])
(.seq (.cond 7 .skip
(.exit 0))
(.seq (.block 1 (.seq (rg [mV 8 6,
mV 3 8] [0,2,3,5,6])
(rg [mV 9 0,
mV 10 3,
mV 11 2,
iA 12 none 9 10,
wO (.store none 12 11)] [0,2,5,6])))
(rg [bN 13 .add 6 (cI 1),
mV 6 13] [0,2,5,6]))))
def nJ (C:Hd)(gl:GL)(e:En)(h:aA)(x:Esc)(K:KT):Sf C gl qK e h x K:=⟨_,by simp only[qK,↓wZ,AO.still];rfl⟩
theorem TP {C gl e h x K}:NW C gl qK ⟨e,h,x⟩ K=(nJ C gl e h x K).1:=(nJ C gl e h x K).2
theorem zeZ {C gl e h x K}:NW C gl (.loop qK) ⟨e,h,x⟩ K=VA C gl qK K [(0,eA e 0),(2,eA e 2),(5,eA e 5),(6,eA e 6)] h x:=GB
def CX:ACode:=(.seq (rg [mV 2 (cS [])] [0,2])
(.seq (rg [mV 4 0,
lN 5 4,
mV 6 (cI 0)] [0,2,5,6])
(.block 0 (.loop qK))))
def jT:AFun:=⟨1,[],CX,true,false⟩
def HL (C:Hd)(gl:GL)(e:En)(h:aA)(x:Esc)(K:KT):Sf C gl CX e h x K:=⟨_,by simp only[CX,↓wZ,AO.still];rfl⟩
theorem zbj {C gl v0 h x K}:NW C gl jT.body ⟨enter [v0],h,x⟩ K=(HL C gl [(0,v0)] h x K).1:=(HL C gl [(0,v0)] h x K).2
def CK:ACode:=.pr [0,1,12,13] (.seq (rg [bN 14 .lss 13 12] [0,1,12,13,14])
(.seq (.cond 14 .skip
(.exit 0))
(.seq (.block 1 (.seq (rg [mV 15 13,
mV 5 15] [0,1,5,12,13])
(.seq (dr [dF (mV 16 0) [0],
dF (mV 17 5) [5],
dF (iA 18 none 16 17) [16,17],
dF (lD 19 none 18) [18],
dF (mV 20 1) [1],
dF (mV 21 5) [5],
dF (iA 22 none 20 21) [20,21],
dF (lD 23 none 22) [22],
dF (bN 24 .neq 19 23) [19,23]] [0,1,12,13,24])
(.cond 24 (.seq (rg [mV 4 cF] [4])
.ret)
.skip))))
(rg [bN 25 .add 13 (cI 1),
mV 13 25] [0,1,12,13]))))
def aV (C:Hd)(gl:GL)(e:En)(h:aA)(x:Esc)(K:KT):Sf C gl CK e h x K:=⟨_,by simp only[CK,↓wZ,AO.still];rfl⟩
theorem zca {C gl e h x K}:NW C gl CK ⟨e,h,x⟩ K=(aV C gl e h x K).1:=(aV C gl e h x K).2
theorem zfk {C gl e h x K}:NW C gl (.loop CK) ⟨e,h,x⟩ K=VA C gl CK K [(0,eA e 0),(1,eA e 1),(12,eA e 12),(13,eA e 13)] h x:=GB
def gR:ACode:=.pr [] (.seq (rg [mV 4 cT] [4])
.ret)
def bV (C:Hd)(gl:GL)(e:En)(h:aA)(x:Esc)(K:KT):Sf C gl gR e h x K:=⟨_,by simp only[gR,↓wZ,AO.still];rfl⟩
theorem zcb {C gl e h x K}:NW C gl gR ⟨e,h,x⟩ K=(bV C gl e h x K).1:=(bV C gl e h x K).2
def cY:ACode:=(.seq (rg [mV 4 cF] [0,1])
(.seq (.seq (rg [mV 6 0,
lN 7 6,
mV 8 1,
lN 9 8,
bN 10 .neq 7 9] [0,1,10])
(.cond 10 (.seq (rg [mV 4 cF] [4])
.ret)
.skip))
(.seq (.seq (rg [mV 11 0,
lN 12 11,
mV 13 (cI 0)] [0,1,12,13])
(.block 0 (.loop CK)))
gR)))
def LT:AFun:=⟨2,[.t 4],cY,false,false⟩
def wP (C:Hd)(gl:GL)(e:En)(h:aA)(x:Esc)(K:KT):Sf C gl cY e h x K:=⟨_,by simp only[cY,↓wZ,AO.still];rfl⟩
theorem zbZ {C gl v0 v1 h x K}:NW C gl LT.body ⟨enter [v0,v1],h,x⟩ K=(wP C gl [(0,v0),(1,v1)] h x K).1:=(wP C gl [(0,v0),(1,v1)] h x K).2
def BK:ACode:=.pr [0,1,12,13] (.seq (rg [bN 14 .lss 13 12] [0,1,12,13,14])
(.seq (.cond 14 .skip
(.exit 0))
(.seq (.block 1 (.seq (rg [mV 15 13,
mV 5 15] [0,1,5,12,13])
(.seq (dr [dF (mV 16 0) [0],
dF (mV 17 5) [5],
dF (iA 18 (some 8) 16 17) [16,17],
dF (lD 19 (some 8) 18) [18],
dF (mV 20 1) [1],
dF (mV 21 5) [5],
dF (iA 22 (some 8) 20 21) [20,21],
dF (lD 23 (some 8) 22) [22],
dF (uO 24 (.eqa [2,0,0,0,2,2,2,0] true 19 23)) [19,23]] [0,1,12,13,24])
(.cond 24 (.seq (rg [mV 4 cF] [4])
.ret)
.skip))))
(rg [bN 25 .add 13 (cI 1),
mV 13 25] [0,1,12,13]))))
def YU (C:Hd)(gl:GL)(e:En)(h:aA)(x:Esc)(K:KT):Sf C gl BK e h x K:=⟨_,by simp only[BK,↓wZ,AO.still];rfl⟩
theorem zbX {C gl e h x K}:NW C gl BK ⟨e,h,x⟩ K=(YU C gl e h x K).1:=(YU C gl e h x K).2
theorem zfj {C gl e h x K}:NW C gl (.loop BK) ⟨e,h,x⟩ K=VA C gl BK K [(0,eA e 0),(1,eA e 1),(12,eA e 12),(13,eA e 13)] h x:=GB
def fR:ACode:=.pr [] (.seq (rg [mV 4 cT] [4])
.ret)
def ZU (C:Hd)(gl:GL)(e:En)(h:aA)(x:Esc)(K:KT):Sf C gl fR e h x K:=⟨_,by simp only[fR,↓wZ,AO.still];rfl⟩
theorem zbY {C gl e h x K}:NW C gl fR ⟨e,h,x⟩ K=(ZU C gl e h x K).1:=(ZU C gl e h x K).2
def bY:ACode:=(.seq (rg [mV 4 cF] [0,1])
(.seq (.seq (rg [mV 6 0,
lN 7 6,
mV 8 1,
lN 9 8,
bN 10 .neq 7 9] [0,1,10])
(.cond 10 (.seq (rg [mV 4 cF] [4])
.ret)
.skip))
(.seq (.seq (rg [mV 11 0,
lN 12 11,
mV 13 (cI 0)] [0,1,12,13])
(.block 0 (.loop BK)))
fR)))
def JT:AFun:=⟨2,[.t 4],bY,false,false⟩
def ML (C:Hd)(gl:GL)(e:En)(h:aA)(x:Esc)(K:KT):Sf C gl bY e h x K:=⟨_,by simp only[bY,↓wZ,AO.still];rfl⟩
theorem zbW {C gl v0 v1 h x K}:NW C gl JT.body ⟨enter [v0,v1],h,x⟩ K=(ML C gl [(0,v0),(1,v1)] h x K).1:=(ML C gl [(0,v0),(1,v1)] h x K).2
def JX:ACode:=(.seq (rg [mV 6 (cI 0)] [0,1,2])
(.seq (.seq (rg [mV 7 2,
mV 8 1,
bN 9 .lss 7 8] [0,1,2,9])
(.cond 9 (.seq (rg [mV 10 1,
mV 6 10] [6])
.ret)
.skip))
(.seq (rg [mV 11 1,
mV 12 0,
mV 13 2,
mV 14 1,
bN 15 .sub 13 14,
bN 16 .add 15 (cI 1),
cL 17 SE [12,16],
bN 18 .add 11 17,
mV 6 18] [6])
.ret)))
def qT:AFun:=⟨3,[.t 6],JX,false,false⟩
def jP (C:Hd)(gl:GL)(e:En)(h:aA)(x:Esc)(K:KT):Sf C gl JX e h x K:=⟨_,by simp only[JX,↓wZ,AO.still];rfl⟩
theorem zbv {C gl v0 v1 v2 h x K}:NW C gl qT.body ⟨enter [v0,v1,v2],h,x⟩ K=(jP C gl [(0,v0),(1,v1),(2,v2)] h x K).1:=(jP C gl [(0,v0),(1,v1),(2,v2)] h x K).2
def iN:ACode:=.pr [0,5,6,7,9,11,12] (.seq (rg [fA 55 3 none 9,
lD 56 none 55,
bN 57 .eql 56 (cI 2)] [0,5,6,7,9,11,12,57])
(.cond 57 (rg [mV 58 0,
uO 59 (.bsl false none 4 (.str []) [(0,(cS [115,99,97,110])),(1,(cS [115,99,97,110])),(2,(cS [102,108,97,115,104])),(3,(cS [98,117,114,110]))]),
cL 60 KC [58,59],
fA 61 5 none 9,
wO (.store none 61 60)] [0,5,6,7,9,11,12])
.skip))
def z1w (C:Hd)(gl:GL)(v0 v5 v6 v7 v9 v11 v12:AV)(h:aA)(x:Esc)(K:KT):Prop:=
 pK (EA 3 none v9) fun t1=>
 pK (FA none t1 h) fun t2=>
 pK (CA .eql t2 (AI 2)) fun t3=>
 kB t3 (wK (oC false none 4 (.str []) [(0,(.p (.str [115,99,97,110]))),(1,(.p (.str [115,99,97,110]))),(2,(.p (.str [102,108,97,115,104]))),(3,(.p (.str [98,117,114,110])))] h) fun t4 h5 y6=>
 C KC [v0,t4] h5 fun t7 h8 y9=>
 pK (EA 5 none v9) fun t10=>
 wK (vB none t10 t7 h8) fun t11 h12 y13=>
 K .normal ⟨[(0,v0),(5,v5),(6,v6),(7,v7),(9,v9),(11,v11),(12,v12)],h12,(y13++(y9++(y6++x)))⟩)
 (K .normal ⟨[(0,v0),(5,v5),(6,v6),(7,v7),(9,v9),(11,v11),(12,v12),(57,t3)],h,x⟩)
theorem jW {C gl e h x K}:NW C gl iN ⟨e,h,x⟩ K=z1w C gl (eA e 0) (eA e 5) (eA e 6) (eA e 7) (eA e 9) (eA e 11) (eA e 12) h x K:=by kernel_rfl
def RQ:ACode:=.pr [0,5,6,7,9,11,12] (rg [mV 111 5,
lD 112 (some 8) 9,
uO 113 (.bsl false (some 8) 1 (.agg [.str [],.int .i64 0,.int .i64 0,.int .i64 0,.str [],.str [],.str [],.int .i64 0]) [(0,112)]),
uO 114 (.app (some 8) 111 113),
mV 5 114] [0,5,6,7,11,12])
def z1x (C:Hd)(gl:GL)(v0 v5 v6 v7 v9 v11 v12:AV)(h:aA)(x:Esc)(K:KT):Prop:=
 pK (FA (some 8) v9 h) fun t1=>
 wK (oC false (some 8) 1 (.agg [.str [],.int .i64 0,.int .i64 0,.int .i64 0,.str [],.str [],.str [],.int .i64 0]) [(0,t1)] h) fun t2 h3 y4=>
 wK (eK (some 8) v5 t2 h3) fun t5 h6 y7=>
 K .normal ⟨[(0,v0),(5,t5),(6,v6),(7,v7),(11,v11),(12,v12)],h6,(y7++(y4++x))⟩
theorem zbn {C gl e h x K}:NW C gl RQ ⟨e,h,x⟩ K=z1x C gl (eA e 0) (eA e 5) (eA e 6) (eA e 7) (eA e 9) (eA e 11) (eA e 12) h x K:=by kernel_rfl
def z0b (q2:ACode):ACode:=.pr [0,5,6,7,9,11,12] (.seq (.seq (rg [mV 71 0,
cL 72 tG [71,(cI 100)]] [0,5,6,7,9,11,12,72])
(.cond 72 (.seq (rg [mV 73 0,
cL 74 SE [73,(cI 3)]] [0,5,6,7,9,11,12,74])
(.block 3 (.seq (rg [bN 83 .eql 74 (cI 0),
mV 82 83] [0,5,6,7,9,11,12,74,82])
(.cond 82 (rg [mV 84 0,
fA 85 0 none 9,
lD 86 none 85,
uO 87 (.bsl false none 2 (.str []) [(0,(cS [])),(1,86)]),
cL 88 KC [84,87],
mV 89 0,
cL 90 vE [89,(cI 1),(cI 9)],
mV 91 0,
cL 92 vE [91,(cI 0),(cI 100)],
fA 93 0 none 9,
wO (.store none 93 88),
fA 94 1 none 9,
wO (.store none 94 90),
fA 95 2 none 9,
wO (.store none 95 92)] [0,5,6,7,9,11,12])
(.seq (rg [bN 97 .eql 74 (cI 1),
mV 96 97] [0,5,6,7,9,11,12,96])
(.cond 96 (dr [dF (mV 98 0) [0],
dT (cL 99 vE [98,(cI 1),(cI 7)]) [98],
dF (mV 100 0) [0],
dF (fA 101 4 none 9) [9],
dA (lD 102 none 101) [101] false [1] [],
dA (uO 103 (.bsl false none 3 (.str []) [(0,(cS [])),(1,(cS [65])),(2,102)])) [102] false [1] [],
dT (cL 104 KC [100,103]) [100,103],
dF (mV 105 0) [0],
dA (uO 106 (.bsl false none 2 (.str []) [(0,(cS [])),(1,(cS [115,99,97,110]))])) [] false [1,6] [],
dT (cL 107 KC [105,106]) [105,106],
dF (fA 108 3 none 9) [9],
dT (wO (.store none 108 99)) [108,99],
dF (fA 109 4 none 9) [9],
dT (wO (.store none 109 104)) [109,104],
dF (fA 110 5 none 9) [9],
dT (wO (.store none 110 107)) [110,107]] [0,5,6,7,9,11,12])
(rg [mV 75 0,
uO 76 (.bsl false none 2 (.str []) [(0,(cS [])),(1,(cS [115,97]))]),
cL 77 KC [75,76],
mV 78 0,
cL 79 vE [78,(cI 0),(cI 5)],
fA 80 6 none 9,
wO (.store none 80 77),
fA 81 7 none 9,
wO (.store none 81 79)] [0,5,6,7,9,11,12])))))))
.skip))
q2)
def jN:ACode:=z0b RQ
def JF (C:Hd)(gl:GL)(q2:ACode)(v0 v5 v6 v7 v9 v11 v12:AV)(h:aA)(x:Esc)(K:KT):Prop:=
 C tG [v0,(AI 100)] h fun t1 h2 y3=>
 kB t1 (C SE [v0,(AI 3)] h2 fun t4 h5 y6=>
 pK (CA .eql t4 (AI 0)) fun t7=>
 kB t7 (pK (EA 0 none v9) fun t8=>
 pK (FA none t8 h5) fun t9=>
 wK (oC false none 2 (.str []) [(0,(.p (.str []))),(1,t9)] h5) fun t10 h11 y12=>
 C KC [v0,t10] h11 fun t13 h14 y15=>
 C vE [v0,(AI 1),(AI 9)] h14 fun t16 h17 y18=>
 C vE [v0,(AI 0),(AI 100)] h17 fun t19 h20 y21=>
 pK (EA 0 none v9) fun t22=>
 wK (vB none t22 t13 h20) fun t23 h24 y25=>
 pK (EA 1 none v9) fun t26=>
 wK (vB none t26 t16 h24) fun t27 h28 y29=>
 pK (EA 2 none v9) fun t30=>
 wK (vB none t30 t19 h28) fun t31 h32 y33=>
 NW C gl q2 ⟨[(0,v0),(5,v5),(6,v6),(7,v7),(9,v9),(11,v11),(12,v12)],h32,(y33++(y29++(y25++(y21++(y18++(y15++(y12++(y6++(y3++x)))))))))⟩ K)
 (pK (CA .eql t4 (AI 1)) fun t34=>
 kB t34 (UC C vE [v0,(AI 1),(AI 7)] h5 fun t35 h36 y37=>
 pK (EA 4 none v9) fun t38=>
 pK (FA none t38 h36) fun t39=>
 (pK (FA none t38 h5) fun v=>(fun u (g1:aA) (y1:Esc)=>u=t39∧g1=h5∧y1=[]) v h5 [])∧(wK (oC false none 3 (.str []) [(0,(.p (.str []))),(1,(.p (.str [65]))),(2,t39)] h36) fun t40 h41 y42=>
 (h41=h36∧y42=[])∧((wK (oC false none 3 (.str []) [(0,(.p (.str []))),(1,(.p (.str [65]))),(2,t39)] h5) (fun u (g1:aA) (y1:Esc)=>u=t40∧g1=h5∧y1=[]))∧(UC C KC [v0,t40] h41 fun t43 h44 y45=>
 wK (oC false none 2 (.str []) [(0,(.p (.str []))),(1,(.p (.str [115,99,97,110])))] h44) fun t46 h47 y48=>
 (h47=h44∧y48=[])∧((wK (oC false none 2 (.str []) [(0,(.p (.str []))),(1,(.p (.str [115,99,97,110])))] h5) (fun u (g1:aA) (y1:Esc)=>u=t46∧g1=h5∧y1=[]))∧((wK (oC false none 2 (.str []) [(0,(.p (.str []))),(1,(.p (.str [115,99,97,110])))] h41) (fun u (g1:aA) (y1:Esc)=>u=t46∧g1=h41∧y1=[]))∧(UC C KC [v0,t46] h47 fun t49 h50 y51=>
 pK (EA 3 none v9) fun t52=>
 wK (vB none t52 t35 h50) fun t53 h54 y55=>
 pK (EA 4 none v9) fun t56=>
 wK (vB none t56 t43 h54) fun t57 h58 y59=>
 pK (EA 5 none v9) fun t60=>
 wK (vB none t60 t49 h58) fun t61 h62 y63=>
 NW C gl q2 ⟨[(0,v0),(5,v5),(6,v6),(7,v7),(9,v9),(11,v11),(12,v12)],h62,(y63++(y59++(y55++(y51++(y48++(y45++(y42++(y37++(y6++(y3++x))))))))))⟩ K)))))))
 (wK (oC false none 2 (.str []) [(0,(.p (.str []))),(1,(.p (.str [115,97])))] h5) fun t64 h65 y66=>
 C KC [v0,t64] h65 fun t67 h68 y69=>
 C vE [v0,(AI 0),(AI 5)] h68 fun t70 h71 y72=>
 pK (EA 6 none v9) fun t73=>
 wK (vB none t73 t67 h71) fun t74 h75 y76=>
 pK (EA 7 none v9) fun t77=>
 wK (vB none t77 t70 h75) fun t78 h79 y80=>
 NW C gl q2 ⟨[(0,v0),(5,v5),(6,v6),(7,v7),(9,v9),(11,v11),(12,v12)],h79,(y80++(y76++(y72++(y69++(y66++(y6++(y3++x)))))))⟩ K)))
 (NW C gl q2 ⟨[(0,v0),(5,v5),(6,v6),(7,v7),(9,v9),(11,v11),(12,v12),(72,t1)],h2,(y3++x)⟩ K)
theorem z67 {C gl q2 e h x K}:NW C gl (z0b q2) ⟨e,h,x⟩ K=JF C gl q2 (eA e 0) (eA e 5) (eA e 6) (eA e 7) (eA e 9) (eA e 11) (eA e 12) h x K:=by kernel_rfl
theorem uJ {C gl e h x K}:NW C gl jN ⟨e,h,x⟩ K=JF C gl RQ (eA e 0) (eA e 5) (eA e 6) (eA e 7) (eA e 9) (eA e 11) (eA e 12) h x K:=z67
def z0c (q1 q3:ACode):ACode:=.pr [0,5,6,7,8,9,11,12] (.seq (rg [mV 31 7,
fA 32 0 none 9,
lD 33 none 32,
uO 34 (.look (none,[2]) false (AI 0) 31 33),
bN 35 .add 34 (cI 1),
wO (.mupd (none,[2]) 31 33 35)] [0,5,6,7,8,9,11,12])
(.seq (rg [mV 36 7,
fA 37 0 none 9,
lD 38 none 37,
uO 39 (.look (none,[2]) false (AI 0) 36 38),
fA 40 1 none 9,
wO (.store none 40 39)] [0,5,6,7,8,9,11,12])
(.seq (.seq (rg [fA 41 3 none 9,
lD 42 none 41] [0,5,6,7,8,9,11,12,42])
(.block 2 (.seq (rg [bN 63 .eql 42 (cI 7),
mV 62 63] [0,5,6,7,8,9,11,12,62])
(.cond 62 (rg [mV 64 0,
uO 65 (.bsl false none 2 (.str []) [(0,(cS [115,97])),(1,(cS [115,98]))]),
cL 66 KC [64,65],
mV 67 0,
cL 68 qF [67,(cI 1),(cI 8)],
fA 69 6 none 9,
wO (.store none 69 66),
fA 70 7 none 9,
wO (.store none 70 68)] [0,5,6,7,9,11,12])
(.seq (rg [uO 43 (.bsl false none 3 (.str []) [(0,(cS [98,49])),(1,(cS [98,50])),(2,(cS [98,51]))]),
mV 44 8,
bN 45 .rem 44 (cI 3),
iA 46 none 43 45,
lD 47 none 46,
fA 48 4 none 9,
wO (.store none 48 47)] [0,5,6,7,8,9,11,12])
(.seq (.seq (rg [mV 49 8,
bN 50 .geq 49 (cI 3)] [0,5,6,7,9,11,12,50])
(.cond 50 (rg [mV 51 0,
uO 52 (.bsl false none 5 (.str []) [(0,(cS [98,49])),(1,(cS [98,49])),(2,(cS [98,50])),(3,(cS [98,51])),(4,(cS [98,52]))]),
cL 53 KC [51,52],
fA 54 4 none 9,
wO (.store none 54 53)] [0,5,6,7,9,11,12])
.skip))
q1))))))
q3)))
def SQ:ACode:=z0c iN jN
def YH (C:Hd)(gl:GL)(q1 q3:ACode)(v0 v5 v6 v7 v8 v9 v11 v12:AV)(h:aA)(x:Esc)(K:KT):Prop:=
 pK (EA 0 none v9) fun t1=>
 pK (FA none t1 h) fun t2=>
 pK (IA (none,[2]) false (AI 0) v7 t2 h) fun t3=>
 pK (CA .add t3 (AI 1)) fun t4=>
 wK (OA (none,[2]) v7 t2 t4 h) fun t5 h6 y7=>
 pK (EA 0 none v9) fun t8=>
 pK (FA none t8 h6) fun t9=>
 pK (IA (none,[2]) false (AI 0) v7 t9 h6) fun t10=>
 pK (EA 1 none v9) fun t11=>
 wK (vB none t11 t10 h6) fun t12 h13 y14=>
 pK (EA 3 none v9) fun t15=>
 pK (FA none t15 h13) fun t16=>
 pK (CA .eql t16 (AI 7)) fun t17=>
 kB t17 (wK (oC false none 2 (.str []) [(0,(.p (.str [115,97]))),(1,(.p (.str [115,98])))] h13) fun t18 h19 y20=>
 C KC [v0,t18] h19 fun t21 h22 y23=>
 C qF [v0,(AI 1),(AI 8)] h22 fun t24 h25 y26=>
 pK (EA 6 none v9) fun t27=>
 wK (vB none t27 t21 h25) fun t28 h29 y30=>
 pK (EA 7 none v9) fun t31=>
 wK (vB none t31 t24 h29) fun t32 h33 y34=>
 NW C gl q3 ⟨[(0,v0),(5,v5),(6,v6),(7,v7),(9,v9),(11,v11),(12,v12)],h33,(y34++(y30++(y26++(y23++(y20++(y14++(y7++x)))))))⟩ K)
 (wK (oC false none 3 (.str []) [(0,(.p (.str [98,49]))),(1,(.p (.str [98,50]))),(2,(.p (.str [98,51])))] h13) fun t35 h36 y37=>
 pK (CA .rem v8 (AI 3)) fun t38=>
 pK (RD none t35 t38 h36) fun t39=>
 pK (FA none t39 h36) fun t40=>
 pK (EA 4 none v9) fun t41=>
 wK (vB none t41 t40 h36) fun t42 h43 y44=>
 pK (CA .geq v8 (AI 3)) fun t45=>
 kB t45 (wK (oC false none 5 (.str []) [(0,(.p (.str [98,49]))),(1,(.p (.str [98,49]))),(2,(.p (.str [98,50]))),(3,(.p (.str [98,51]))),(4,(.p (.str [98,52])))] h43) fun t46 h47 y48=>
 C KC [v0,t46] h47 fun t49 h50 y51=>
 pK (EA 4 none v9) fun t52=>
 wK (vB none t52 t49 h50) fun t53 h54 y55=>
 NW C gl q1 ⟨[(0,v0),(5,v5),(6,v6),(7,v7),(9,v9),(11,v11),(12,v12)],h54,(y55++(y51++(y48++(y44++(y37++(y14++(y7++x)))))))⟩ (EC 2 (oD C gl q3 K)))
 (NW C gl q1 ⟨[(0,v0),(5,v5),(6,v6),(7,v7),(9,v9),(11,v11),(12,v12),(50,t45)],h43,(y44++(y37++(y14++(y7++x))))⟩ (EC 2 (oD C gl q3 K))))
theorem z68 {C gl q1 q3 e h x K}:NW C gl (z0c q1 q3) ⟨e,h,x⟩ K=YH C gl q1 q3 (eA e 0) (eA e 5) (eA e 6) (eA e 7) (eA e 8) (eA e 9) (eA e 11) (eA e 12) h x K:=by kernel_rfl
theorem kW {C gl e h x K}:NW C gl SQ ⟨e,h,x⟩ K=YH C gl iN jN (eA e 0) (eA e 5) (eA e 6) (eA e 7) (eA e 8) (eA e 9) (eA e 11) (eA e 12) h x K:=z68
def TQ:ACode:=.pr [0,5,6,7,11,12] (rg [bN 115 .add 12 (cI 1),
mV 12 115] [0,5,6,7,11,12])
def z1y (C:Hd)(gl:GL)(v0 v5 v6 v7 v11 v12:AV)(h:aA)(x:Esc)(K:KT):Prop:=
 pK (CA .add v12 (AI 1)) fun t1=>
 K .normal ⟨[(0,v0),(5,v5),(6,v6),(7,v7),(11,v11),(12,t1)],h,x⟩
theorem zbo {C gl e h x K}:NW C gl TQ ⟨e,h,x⟩ K=z1y C gl (eA e 0) (eA e 5) (eA e 6) (eA e 7) (eA e 11) (eA e 12) h x K:=by kernel_rfl
def z0d (q4 q5:ACode):ACode:=.pr [0,5,6,7,11,12] (.seq (rg [bN 13 .lss 12 11] [0,5,6,7,11,12,13])
(.seq (.cond 13 .skip
(.exit 0))
(.seq (.block 1 (.seq (rg [mV 14 12,
mV 8 14] [0,5,6,7,8,11,12])
(.seq (rg [mV 15 6,
mV 16 0,
uO 17 (.bsl false none 5 (.int .i64 0) [(0,(cI 0)),(1,(cI 1)),(2,(cI 1)),(3,(cI 3)),(4,(cI 10))]),
cL 18 pF [16,17],
bN 19 .add 15 18,
mV 6 19] [0,5,6,7,8,11,12])
(.seq (rg [mV 20 0,
uO 21 (.bsl false none 3 (.str []) [(0,(cS [115,97])),(1,(cS [115,97])),(2,(cS [115,98]))]),
cL 22 KC [20,21],
mV 23 6,
mV 24 0,
uO 25 (.bsl false none 12 (.int .i64 0) [(0,(cI 2)),(1,(cI 2)),(2,(cI 2)),(3,(cI 3)),(4,(cI 3)),(5,(cI 4)),(6,(cI 4)),(7,(cI 5)),(8,(cI 5)),(9,(cI 6)),(10,(cI 7)),(11,(cI 1))]),
cL 26 pF [24,25],
uO 27 (.build [.p (.str []),.p (.int .i64 0),.p (.int .i64 0),.p (.int .i64 0),.p (.str []),.p (.str []),.p (.str []),.p (.int .i64 0)] [(0,1,22),(2,1,23),(3,1,26)]),
uO 9 (.alloc [.p (.str []),.p (.int .i64 0),.p (.int .i64 0),.p (.int .i64 0),.p (.str []),.p (.str []),.p (.str []),.p (.int .i64 0)]),
wO (.store (some 8) 9 27)] [0,5,6,7,8,9,11,12])
(.seq (.seq (rg [mV 28 8,
bN 29 .lss 28 (cI 3)] [0,5,6,7,8,9,11,12,29])
(.cond 29 (rg [fA 30 3 none 9,
wO (.store none 30 (cI 1))] [0,5,6,7,8,9,11,12])
.skip))
q4)))))
q5)))
def rK:ACode:=z0d SQ TQ
def GU (C:Hd)(gl:GL)(q4 q5:ACode)(v0 v5 v6 v7 v11 v12:AV)(h:aA)(x:Esc)(K:KT):Prop:=
 pK (CA .lss v12 v11) fun t1=>
 kB t1 (wK (oC false none 5 (.int .i64 0) [(0,(AI 0)),(1,(AI 1)),(2,(AI 1)),(3,(AI 3)),(4,(AI 10))] h) fun t2 h3 y4=>
 C pF [v0,t2] h3 fun t5 h6 y7=>
 pK (CA .add v6 t5) fun t8=>
 wK (oC false none 3 (.str []) [(0,(.p (.str [115,97]))),(1,(.p (.str [115,97]))),(2,(.p (.str [115,98])))] h6) fun t9 h10 y11=>
 C KC [v0,t9] h10 fun t12 h13 y14=>
 wK (oC false none 12 (.int .i64 0) [(0,(AI 2)),(1,(AI 2)),(2,(AI 2)),(3,(AI 3)),(4,(AI 3)),(5,(AI 4)),(6,(AI 4)),(7,(AI 5)),(8,(AI 5)),(9,(AI 6)),(10,(AI 7)),(11,(AI 1))] h13) fun t15 h16 y17=>
 C pF [v0,t15] h16 fun t18 h19 y20=>
 pK (pC [.p (.str []),.p (.int .i64 0),.p (.int .i64 0),.p (.int .i64 0),.p (.str []),.p (.str []),.p (.str []),.p (.int .i64 0)] [(0,1,t12),(2,1,t8),(3,1,t18)]) fun t21=>
 alK [.p (.str []),.p (.int .i64 0),.p (.int .i64 0),.p (.int .i64 0),.p (.str []),.p (.str []),.p (.str []),.p (.int .i64 0)] h19 fun t22 h23 y24=>
 wK (vB (some 8) t22 t21 h23) fun t25 h26 y27=>
 pK (CA .lss v12 (AI 3)) fun t28=>
 kB t28 (pK (EA 3 none t22) fun t29=>
 wK (vB none t29 (AI 1) h26) fun t30 h31 y32=>
 NW C gl q4 ⟨[(0,v0),(5,v5),(6,t8),(7,v7),(8,v12),(9,t22),(11,v11),(12,v12)],h31,(y32++(y27++(y24++(y20++(y17++(y14++(y11++(y7++(y4++x)))))))))⟩ (EC 1 (oD C gl q5 K)))
 (NW C gl q4 ⟨[(0,v0),(5,v5),(6,t8),(7,v7),(8,v12),(9,t22),(11,v11),(12,v12),(29,t28)],h26,(y27++(y24++(y20++(y17++(y14++(y11++(y7++(y4++x))))))))⟩ (EC 1 (oD C gl q5 K))))
 (K (.exit 0) ⟨[(0,v0),(5,v5),(6,v6),(7,v7),(11,v11),(12,v12),(13,t1)],h,x⟩)
theorem z69 {C gl q4 q5 e h x K}:NW C gl (z0d q4 q5) ⟨e,h,x⟩ K=GU C gl q4 q5 (eA e 0) (eA e 5) (eA e 6) (eA e 7) (eA e 11) (eA e 12) h x K:=by kernel_rfl
theorem zbp {C gl e h x K}:NW C gl rK ⟨e,h,x⟩ K=GU C gl SQ TQ (eA e 0) (eA e 5) (eA e 6) (eA e 7) (eA e 11) (eA e 12) h x K:=z69
theorem zfa {C gl e h x K}:NW C gl (.loop (.scope rK)) ⟨e,h,x⟩ K=VA C gl (.scope rK) K [(0,eA e 0),(5,eA e 5),(6,eA e 6),(7,eA e 7),(11,eA e 11),(12,eA e 12)] h x:=iF
def kN:ACode:=.pr [5] (.seq (rg [mV 116 5,
cL 117 oI [116,(.f uG)]] [5])
(.seq (rg [mV 118 5,
mV 4 118] [4])
.ret))
def z1z (C:Hd)(gl:GL)(v5:AV)(h:aA)(x:Esc)(K:KT):Prop:=
 C oI [v5,(.fn uG [])] h fun t1 h2 y3=>
 K .ret ⟨[(4,v5)],h2,(y3++x)⟩
theorem zbq {C gl e h x K}:NW C gl kN ⟨e,h,x⟩ K=z1z C gl (eA e 5) h x K:=by kernel_rfl
def z0a (q6 q7:ACode):ACode:=(.seq (rg [mV 4 (.c (.p (.sl (some 8) [])))] [0,1])
(.seq (rg [uO 5 (.new0 (some 8))] [0,1,5])
(.seq (rg [mV 6 (cI 0)] [0,1,5,6])
(.seq (rg [uO 10 (.mkmap),
mV 7 10] [0,1,5,6,7])
(.seq (.seq (rg [mV 11 1,
mV 12 (cI 0)] [0,5,6,7,11,12])
(.block 0 (.loop (.scope q6))))
q7)))))
def lT:AFun:=⟨2,[.t 4],z0a rK kN,false,false⟩
def eP (C:Hd)(gl:GL)(q6 q7:ACode)(v0 v1:AV)(h:aA)(x:Esc)(K:KT):Prop:=
 nwK (some 8) h fun t1 h2 y3=>
 mmK h2 fun t4 h5 y6=>
 NW C gl (.loop (.scope q6)) ⟨[(0,v0),(5,t1),(6,(AI 0)),(7,t4),(11,v1),(12,(AI 0))],h5,(y6++(y3++x))⟩ (EC 0 (oD C gl q7 K))
theorem z66 {C gl q6 q7 v0 v1 h x K}:NW C gl (z0a q6 q7) ⟨enter [v0,v1],h,x⟩ K=eP C gl q6 q7 v0 v1 h x K:=by kernel_rfl
theorem zbm {C gl v0 v1 h x K}:NW C gl lT.body ⟨enter [v0,v1],h,x⟩ K=eP C gl rK kN v0 v1 h x K:=z66
def tK:ACode:=.pr [0,11,12,13] (.seq (rg [bN 14 .lss 13 12] [0,11,12,13,14])
(.seq (.cond 14 .skip
(.exit 0))
(.seq (.block 1 (.seq (rg [mV 15 13,
iA 16 (some 8) 11 13,
lD 17 (some 8) 16,
uO 4 (.alloc [.p (.str []),.p (.int .i64 0),.p (.int .i64 0),.p (.int .i64 0),.p (.str []),.p (.str []),.p (.str []),.p (.int .i64 0)]),
mV 3 15,
wO (.store (some 8) 4 17)] [0,3,4,11,12,13])
(.seq (.seq (rg [lD 18 (some 8) 4,
cL 19 kM [18],
mV 5 19] [0,3,4,5,11,12,13])
(.seq (rg [mV 20 5,
bN 21 .neq 20 (cI 0)] [0,3,4,5,11,12,13,21])
(.cond 21 (.seq (rg [mV 22 5,
mV 2 22] [2])
.ret)
.skip)))
(.seq (dr [dF (mV 23 3) [3],
dF (bN 24 .gtr 23 (cI 0)) [23],
dF (mV 25 24) [24],
dF (gD 26 25 true (.mv 0)) [0,25],
dF (gD 27 25 true (.mv 3)) [3,25],
dF (gD 28 25 true (.bin .sub 27 (cI 1))) [27,25],
dF (gD 29 25 true (.iaddr (some 8) 26 28)) [26,28,25],
dF (gD 30 25 true (.load (some 8) 29)) [29,25],
dF (gD 31 25 true (.load (some 8) 4)) [4,25],
dT (gD 32 25 true (.call uG [30,31])) [30,31,25],
dF (gD 33 25 true (.bin .geq 32 (cI 0))) [32,25],
dF (uO 34 (.pick 25 33 cF)) [25,33]] [0,11,12,13,34])
(.cond 34 (.seq (rg [mV 2 (cI 7)] [2])
.ret)
.skip)))))
(rg [bN 35 .add 13 (cI 1),
mV 13 35] [0,11,12,13]))))
def JU (C:Hd)(gl:GL)(e:En)(h:aA)(x:Esc)(K:KT):Sf C gl tK e h x K:=⟨_,by simp only[tK,↓wZ,AO.still];rfl⟩
theorem zb2 {C gl e h x K}:NW C gl tK ⟨e,h,x⟩ K=(JU C gl e h x K).1:=(JU C gl e h x K).2
theorem zfc {C gl e h x K}:NW C gl (.loop (.scope tK)) ⟨e,h,x⟩ K=VA C gl (.scope tK) K [(0,eA e 0),(11,eA e 11),(12,eA e 12),(13,eA e 13)] h x:=iF
def uK:ACode:=.pr [0,36,37,38] (.seq (rg [bN 39 .lss 38 37] [0,36,37,38,39])
(.seq (.cond 39 .skip
(.exit 2))
(.seq (.block 3 (.seq (rg [mV 40 38,
iA 41 (some 8) 36 38,
lD 42 (some 8) 41,
uO 7 (.alloc [.p (.str []),.p (.int .i64 0),.p (.int .i64 0),.p (.int .i64 0),.p (.str []),.p (.str []),.p (.str []),.p (.int .i64 0)]),
mV 6 40,
wO (.store (some 8) 7 42)] [0,6,7,36,37,38])
(.seq (rg [mV 43 0,
mV 44 6,
uO 45 (.slice (some 8) 43 none (some 44) none),
uO 46 (.mkfn DJ [7]),
cL 47 oM [45,46]] [0,36,37,38,47])
(.cond 47 (.seq (rg [mV 2 (cI 6)] [2])
.ret)
.skip))))
(rg [bN 48 .add 38 (cI 1),
mV 38 48] [0,36,37,38]))))
def KU (C:Hd)(gl:GL)(e:En)(h:aA)(x:Esc)(K:KT):Sf C gl uK e h x K:=⟨_,by simp only[uK,↓wZ,AO.still];rfl⟩
theorem zb3 {C gl e h x K}:NW C gl uK ⟨e,h,x⟩ K=(KU C gl e h x K).1:=(KU C gl e h x K).2
theorem zfd {C gl e h x K}:NW C gl (.loop (.scope uK)) ⟨e,h,x⟩ K=VA C gl (.scope uK) K [(0,eA e 0),(36,eA e 36),(37,eA e 37),(38,eA e 38)] h x:=iF
def VQ:ACode:=.pr [] (.seq (rg [mV 2 (cI 0)] [2])
.ret)
def LU (C:Hd)(gl:GL)(e:En)(h:aA)(x:Esc)(K:KT):Sf C gl VQ e h x K:=⟨_,by simp only[VQ,↓wZ,AO.still];rfl⟩
theorem zb4 {C gl e h x K}:NW C gl VQ ⟨e,h,x⟩ K=(LU C gl e h x K).1:=(LU C gl e h x K).2
def WQ:ACode:=.pr [0] (.seq (.seq (rg [mV 36 0,
lN 37 36,
mV 38 (cI 0)] [0,36,37,38])
(.block 2 (.loop (.scope uK))))
VQ)
def nP (C:Hd)(gl:GL)(e:En)(h:aA)(x:Esc)(K:KT):Sf C gl WQ e h x K:=⟨_,by simp only[WQ,↓wZ,AO.still];rfl⟩
theorem lW {C gl e h x K}:NW C gl WQ ⟨e,h,x⟩ K=(nP C gl e h x K).1:=(nP C gl e h x K).2
def NX:ACode:=(.seq (rg [mV 2 (cI 0)] [0])
(.seq (.seq (rg [mV 8 0,
lN 9 8,
bN 10 .gtr 9 (cI 2000)] [0,10])
(.cond 10 (.seq (rg [mV 2 (cI 2)] [2])
.ret)
.skip))
(.seq (.seq (rg [mV 11 0,
lN 12 11,
mV 13 (cI 0)] [0,11,12,13])
(.block 0 (.loop (.scope tK))))
WQ)))
def vT:AFun:=⟨1,[.t 2],NX,false,false⟩
def JL (C:Hd)(gl:GL)(e:En)(h:aA)(x:Esc)(K:KT):Sf C gl NX e h x K:=⟨_,by simp only[NX,↓wZ,AO.still];rfl⟩
theorem zb1 {C gl v0 h x K}:NW C gl vT.body ⟨enter [v0],h,x⟩ K=(JL C gl [(0,v0)] h x K).1:=(JL C gl [(0,v0)] h x K).2
def kK:ACode:=.pr [5,6,7] (.seq (rg [bN 8 .lss 7 6] [5,6,7,8])
(.seq (.cond 8 .skip
(.exit 0))
(.seq (.block 1 (.seq (rg [iA 9 none 5 7,
lD 10 none 9,
mV 4 10] [4,5,6,7])
(.seq (rg [mV 11 4,
bN 12 .neq 11 (cI 0)] [4,5,6,7,12])
(.cond 12 (.seq (rg [mV 13 4,
mV 2 13] [2])
.ret)
.skip))))
(rg [bN 14 .add 7 (cI 1),
mV 7 14] [5,6,7]))))
def vU (C:Hd)(gl:GL)(e:En)(h:aA)(x:Esc)(K:KT):Sf C gl kK e h x K:=⟨_,by simp only[kK,↓wZ,AO.still];rfl⟩
theorem zaN {C gl e h x K}:NW C gl kK ⟨e,h,x⟩ K=(vU C gl e h x K).1:=(vU C gl e h x K).2
theorem zeU {C gl e h x K}:NW C gl (.loop kK) ⟨e,h,x⟩ K=VA C gl kK K [(5,eA e 5),(6,eA e 6),(7,eA e 7)] h x:=GB
def KQ:ACode:=.pr [] (.seq (rg [mV 2 (cI 0)] [2])
.ret)
def wU (C:Hd)(gl:GL)(e:En)(h:aA)(x:Esc)(K:KT):Sf C gl KQ e h x K:=⟨_,by simp only[KQ,↓wZ,AO.still];rfl⟩
theorem zaO {C gl e h x K}:NW C gl KQ ⟨e,h,x⟩ K=(wU C gl e h x K).1:=(wU C gl e h x K).2
def oX:ACode:=(.seq (rg [mV 2 (cI 0)] [0])
(.seq (.seq (rg [mV 5 0,
lN 6 5,
mV 7 (cI 0)] [5,6,7])
(.block 0 (.loop kK)))
KQ))
def LN:AFun:=⟨1,[.t 2],oX,false,false⟩
def RO (C:Hd)(gl:GL)(e:En)(h:aA)(x:Esc)(K:KT):Sf C gl oX e h x K:=⟨_,by simp only[oX,↓wZ,AO.still];rfl⟩
theorem zaM {C gl v0 h x K}:NW C gl LN.body ⟨enter [v0],h,x⟩ K=(RO C gl [(0,v0)] h x K).1:=(RO C gl [(0,v0)] h x K).2
def NK:ACode:=.pr [0,9,10,11] (.seq (rg [bN 12 .lss 11 10] [0,9,10,11,12])
(.seq (.cond 12 .skip
(.exit 0))
(.seq (.block 1 (.seq (rg [mV 13 11,
iA 14 (some 8) 9 11,
lD 15 (some 8) 14,
uO 4 (.alloc [.p (.str []),.p (.int .i64 0),.p (.int .i64 0),.p (.int .i64 0),.p (.str []),.p (.str []),.p (.str []),.p (.int .i64 0)]),
mV 3 13,
wO (.store (some 8) 4 15)] [0,3,4,9,10,11])
(.seq (.seq (rg [lD 16 (some 8) 4,
cL 17 jH [16],
mV 5 17] [0,3,4,5,9,10,11])
(.seq (rg [mV 18 5,
bN 19 .neq 18 (cI 0)] [0,3,4,5,9,10,11,19])
(.cond 19 (.seq (rg [mV 20 5,
mV 2 20] [2])
.ret)
.skip)))
(.seq (dr [dF (mV 21 3) [3],
dF (bN 22 .gtr 21 (cI 0)) [21],
dF (mV 23 22) [22],
dF (gD 24 23 true (.load (some 8) 4)) [4,23],
dF (gD 25 23 true (.mv 0)) [0,23],
dF (gD 26 23 true (.mv 3)) [3,23],
dF (gD 27 23 true (.bin .sub 26 (cI 1))) [26,23],
dF (gD 28 23 true (.iaddr (some 8) 25 27)) [25,27,23],
dF (gD 29 23 true (.load (some 8) 28)) [28,23],
dT (gD 30 23 true (.call MF [24,29])) [24,29,23],
dF (gD 31 23 true (.bin .leq 30 (cI 0))) [30,23],
dF (uO 32 (.pick 23 31 cF)) [23,31]] [0,9,10,11,32])
(.cond 32 (.seq (rg [mV 2 (cI 7)] [2])
.ret)
.skip)))))
(rg [bN 33 .add 11 (cI 1),
mV 11 33] [0,9,10,11]))))
def zV (C:Hd)(gl:GL)(e:En)(h:aA)(x:Esc)(K:KT):Sf C gl NK e h x K:=⟨_,by simp only[NK,↓wZ,AO.still];rfl⟩
theorem zc5 {C gl e h x K}:NW C gl NK ⟨e,h,x⟩ K=(zV C gl e h x K).1:=(zV C gl e h x K).2
theorem zfv {C gl e h x K}:NW C gl (.loop (.scope NK)) ⟨e,h,x⟩ K=VA C gl (.scope NK) K [(0,eA e 0),(9,eA e 9),(10,eA e 10),(11,eA e 11)] h x:=iF
def sR:ACode:=.pr [0] (.seq (.seq (rg [mV 34 0,
cL 35 xG [34]] [35])
(.cond 35 (.seq (rg [mV 2 (cI 6)] [2])
.ret)
.skip))
(.seq (rg [mV 2 (cI 0)] [2])
.ret))
def BV (C:Hd)(gl:GL)(e:En)(h:aA)(x:Esc)(K:KT):Sf C gl sR e h x K:=⟨_,by simp only[sR,↓wZ,AO.still];rfl⟩
theorem zc6 {C gl e h x K}:NW C gl sR ⟨e,h,x⟩ K=(BV C gl e h x K).1:=(BV C gl e h x K).2
def mY:ACode:=(.seq (rg [mV 2 (cI 0)] [0])
(.seq (.seq (rg [mV 6 0,
lN 7 6,
bN 8 .gtr 7 (cI 2000)] [0,8])
(.cond 8 (.seq (rg [mV 2 (cI 2)] [2])
.ret)
.skip))
(.seq (.seq (rg [mV 9 0,
lN 10 9,
mV 11 (cI 0)] [0,9,10,11])
(.block 0 (.loop (.scope NK))))
sR)))
def VN:AFun:=⟨1,[.t 2],mY,false,false⟩
def OL (C:Hd)(gl:GL)(e:En)(h:aA)(x:Esc)(K:KT):Sf C gl mY e h x K:=⟨_,by simp only[mY,↓wZ,AO.still];rfl⟩
theorem zc4 {C gl v0 h x K}:NW C gl VN.body ⟨enter [v0],h,x⟩ K=(OL C gl [(0,v0)] h x K).1:=(OL C gl [(0,v0)] h x K).2
def zK:ACode:=.pr [0,3,9,10,11] (.seq (rg [bN 12 .lss 11 10] [0,3,9,10,11,12])
(.seq (.cond 12 .skip
(.exit 0))
(.seq (.block 1 (.seq (rg [iA 13 none 9 11,
lD 14 none 13,
mV 5 14] [0,3,5,9,10,11])
(.seq (rg [mV 15 3,
mV 16 5,
lN 17 16,
bN 18 .add 15 17,
mV 3 18] [0,3,9,10,11])
(.seq (rg [mV 19 3,
bN 20 .lss 19 (cI 0)] [0,3,9,10,11,20])
(.cond 20 .bad
.skip)))))
(rg [bN 22 .add 11 (cI 1),
mV 11 22] [0,3,9,10,11]))))
def UU (C:Hd)(gl:GL)(e:En)(h:aA)(x:Esc)(K:KT):Sf C gl zK e h x K:=⟨_,by simp only[zK,↓wZ,AO.still];rfl⟩
theorem zbQ {C gl e h x K}:NW C gl zK ⟨e,h,x⟩ K=(UU C gl e h x K).1:=(UU C gl e h x K).2
theorem zfh {C gl e h x K}:NW C gl (.loop zK) ⟨e,h,x⟩ K=VA C gl zK K [(0,eA e 0),(3,eA e 3),(9,eA e 9),(10,eA e 10),(11,eA e 11)] h x:=GB
def AK:ACode:=.pr [6,25,26,27] (.seq (rg [bN 28 .lss 27 26] [6,25,26,27,28])
(.seq (.cond 28 .skip
(.exit 2))
(.seq (.block 3 (.seq (rg [iA 29 none 25 27,
lD 30 none 29,
mV 8 30] [6,8,25,26,27])
(rg [mV 31 6,
mV 32 8,
uO 33 (.app (some 8) 31 32),
mV 6 33] [6,25,26,27])))
(rg [bN 34 .add 27 (cI 1),
mV 27 34] [6,25,26,27]))))
def VU (C:Hd)(gl:GL)(e:En)(h:aA)(x:Esc)(K:KT):Sf C gl AK e h x K:=⟨_,by simp only[AK,↓wZ,AO.still];rfl⟩
theorem zbR {C gl e h x K}:NW C gl AK ⟨e,h,x⟩ K=(VU C gl e h x K).1:=(VU C gl e h x K).2
theorem zfi {C gl e h x K}:NW C gl (.loop (.scope AK)) ⟨e,h,x⟩ K=VA C gl (.scope AK) K [(6,eA e 6),(25,eA e 25),(26,eA e 26),(27,eA e 27)] h x:=iF
def dR:ACode:=.pr [6] (.seq (rg [mV 35 6,
mV 2 35] [2])
.ret)
def WU (C:Hd)(gl:GL)(e:En)(h:aA)(x:Esc)(K:KT):Sf C gl dR e h x K:=⟨_,by simp only[dR,↓wZ,AO.still];rfl⟩
theorem zbS {C gl e h x K}:NW C gl dR ⟨e,h,x⟩ K=(WU C gl e h x K).1:=(WU C gl e h x K).2
def eR:ACode:=.pr [0,3] (.seq (rg [mV 23 3,
cL 24 eQ [(.c (.sl0 (some 8))),23],
mV 6 24] [0,6])
(.seq (.seq (rg [mV 25 0,
lN 26 25,
mV 27 (cI 0)] [6,25,26,27])
(.block 2 (.loop (.scope AK))))
dR))
def XU (C:Hd)(gl:GL)(e:En)(h:aA)(x:Esc)(K:KT):Sf C gl eR e h x K:=⟨_,by simp only[eR,↓wZ,AO.still];rfl⟩
theorem zbT {C gl e h x K}:NW C gl eR ⟨e,h,x⟩ K=(XU C gl e h x K).1:=(XU C gl e h x K).2
def YX:ACode:=(.seq (rg [mV 2 (.c (.p (.sl (some 8) [])))] [0])
(.seq (rg [mV 3 (cI 0)] [0,3])
(.seq (.seq (rg [mV 9 0,
lN 10 9,
mV 11 (cI 0)] [0,3,9,10,11])
(.block 0 (.loop zK)))
eR)))
def HT:AFun:=⟨1,[.t 2],YX,false,true⟩
def tP (C:Hd)(gl:GL)(e:En)(h:aA)(x:Esc)(K:KT):Sf C gl YX e h x K:=⟨_,by simp only[YX,↓wZ,AO.still];rfl⟩
theorem zbP {C gl v0 h x K}:NW C gl HT.body ⟨enter [v0],h,x⟩ K=(tP C gl [(0,v0)] h x K).1:=(tP C gl [(0,v0)] h x K).2
def gY:ACode:=(rg [mV 4 0,
mV 5 0,
lN 6 5,
mV 7 1,
cL 8 uM [4,6,7]] [])
def OT:AFun:=⟨2,[],gY,true,false⟩
def AP (C:Hd)(gl:GL)(e:En)(h:aA)(x:Esc)(K:KT):Sf C gl gY e h x K:=⟨_,by simp only[gY,↓wZ,AO.still];rfl⟩
theorem zcj {C gl v0 v1 h x K}:NW C gl OT.body ⟨enter [v0,v1],h,x⟩ K=(AP C gl [(0,v0),(1,v1)] h x K).1:=(AP C gl [(0,v0),(1,v1)] h x K).2
def sY:ACode:=(.seq (rg [uO 2 (.box 0),
uO 3 (.box 1),
mV 4 (cI 0)] [2,3])
(.seq (dr [dF (fA 5 2 none 2) [2],
dF (lD 6 none 5) [5],
dF (fA 7 2 none 3) [3],
dF (lD 8 none 7) [7],
dT (cL 9 dH [6,8]) [6,8],
dF (fA 10 0 none 2) [2],
dA (lD 11 none 10) [10] false [4] [],
dF (fA 12 0 none 3) [3],
dA (lD 13 none 12) [12] false [4] [],
dT (cL 14 UE [11,13]) [11,13],
dF (fA 15 1 none 2) [2],
dA (lD 16 none 15) [15] false [4,9] [],
dF (fA 17 1 none 3) [3],
dA (lD 18 none 17) [17] false [4,9] [],
dT (cL 19 dH [16,18]) [16,18],
dF (uO 20 (.bsl false none 3 (.int .i64 0) [(0,9),(1,14),(2,19)])) [9,14,19],
dT (cL 21 eH [20]) [20],
dF (mV 4 21) [21]] [4])
.ret))
def XN:AFun:=⟨2,[.t 4],sY,false,false⟩
def FP (C:Hd)(gl:GL)(e:En)(h:aA)(x:Esc)(K:KT):Sf C gl sY e h x K:=⟨_,by simp only[sY,↓wZ,AO.still];rfl⟩
theorem zcI {C gl v0 v1 h x K}:NW C gl XN.body ⟨enter [v0,v1],h,x⟩ K=(FP C gl [(0,v0),(1,v1)] h x K).1:=(FP C gl [(0,v0),(1,v1)] h x K).2
def ZQ:ACode:=.pr [0,3,4,5] (rg [mV 33 5,
bN 34 .add 33 (cI 1),
mV 5 34] [0,3,4,5])
def OU (C:Hd)(gl:GL)(e:En)(h:aA)(x:Esc)(K:KT):Sf C gl ZQ e h x K:=⟨_,by simp only[ZQ,↓wZ,AO.still];rfl⟩
theorem zbJ {C gl e h x K}:NW C gl ZQ ⟨e,h,x⟩ K=(OU C gl e h x K).1:=(OU C gl e h x K).2
def xK:ACode:=.pr [0,3,4,5] (.seq (.seq (rg [mV 29 5,
mV 30 4,
lN 31 30,
bN 32 .lss 29 31] [0,3,4,5,32])
(.cond 32 .skip
(.exit 2)))
(.seq (.block 3 (.seq (dr [dF (mV 35 4) [4],
dF (mV 36 5) [5],
dF (iA 37 (some 8) 35 36) [35,36],
dF (lD 38 (some 8) 37) [37],
dF (mV 39 4) [4],
dF (mV 40 5) [5],
dF (bN 41 .sub 40 (cI 1)) [40],
dF (iA 42 (some 8) 39 41) [39,41],
dF (lD 43 (some 8) 42) [42],
dF (uO 44 (.eqa [2,0,0,0,2,2,2,0] true 38 43)) [38,43]] [0,3,4,5,44])
(.cond 44 (.seq (rg [mV 45 0,
mV 46 3,
mV 47 4,
mV 48 5,
iA 49 (some 8) 47 48,
lD 50 (some 8) 49,
iA 51 (some 8) 45 46,
wO (.store (some 8) 51 50)] [0,3,4,5])
(rg [mV 52 3,
bN 53 .add 52 (cI 1),
mV 3 53] [0,3,4,5]))
.skip)))
ZQ))
def PU (C:Hd)(gl:GL)(e:En)(h:aA)(x:Esc)(K:KT):Sf C gl xK e h x K:=⟨_,by simp only[xK,↓wZ,AO.still];rfl⟩
theorem zbK {C gl e h x K}:NW C gl xK ⟨e,h,x⟩ K=(PU C gl e h x K).1:=(PU C gl e h x K).2
theorem zff {C gl e h x K}:NW C gl (.loop xK) ⟨e,h,x⟩ K=VA C gl xK K [(0,eA e 0),(3,eA e 3),(4,eA e 4),(5,eA e 5)] h x:=GB
def aR:ACode:=.pr [0,3] (.seq (rg [mV 54 0,
mV 55 3,
uO 56 (.slice (some 8) 54 (some 55) none none),
wO (.clr (some 8) (.agg [.str [],.int .i64 0,.int .i64 0,.int .i64 0,.str [],.str [],.str [],.int .i64 0]) 56)] [0,3])
(.seq (rg [mV 57 0,
mV 58 3,
uO 59 (.slice (some 8) 57 none (some 58) none),
mV 2 59] [2])
.ret))
def QU (C:Hd)(gl:GL)(e:En)(h:aA)(x:Esc)(K:KT):Sf C gl aR e h x K:=⟨_,by simp only[aR,↓wZ,AO.still];rfl⟩
theorem zbL {C gl e h x K}:NW C gl aR ⟨e,h,x⟩ K=(QU C gl e h x K).1:=(QU C gl e h x K).2
def bR:ACode:=.pr [0,3] (rg [mV 14 3,
bN 15 .add 14 (cI 1),
mV 3 15] [0,3])
def RU (C:Hd)(gl:GL)(e:En)(h:aA)(x:Esc)(K:KT):Sf C gl bR e h x K:=⟨_,by simp only[bR,↓wZ,AO.still];rfl⟩
theorem zbM {C gl e h x K}:NW C gl bR ⟨e,h,x⟩ K=(RU C gl e h x K).1:=(RU C gl e h x K).2
def yK:ACode:=.pr [0,3] (.seq (.seq (rg [mV 10 3,
mV 11 0,
lN 12 11,
bN 13 .lss 10 12] [0,3,13])
(.cond 13 .skip
(.exit 0)))
(.seq (.block 1 (.seq (dr [dF (mV 16 0) [0],
dF (mV 17 3) [3],
dF (iA 18 (some 8) 16 17) [16,17],
dF (lD 19 (some 8) 18) [18],
dF (mV 20 0) [0],
dF (mV 21 3) [3],
dF (bN 22 .sub 21 (cI 1)) [21],
dF (iA 23 (some 8) 20 22) [20,22],
dF (lD 24 (some 8) 23) [23],
dF (uO 25 (.eqa [2,0,0,0,2,2,2,0] false 19 24)) [19,24]] [0,3,25])
(.cond 25 (.seq (rg [mV 26 0,
mV 27 3,
uO 28 (.slice (some 8) 26 (some 27) none none),
mV 4 28] [0,3,4])
(.seq (.seq (rg [mV 5 (cI 1)] [0,3,4,5])
(.block 2 (.loop xK)))
aR))
.skip)))
bR))
def SU (C:Hd)(gl:GL)(e:En)(h:aA)(x:Esc)(K:KT):Sf C gl yK e h x K:=⟨_,by simp only[yK,↓wZ,AO.still];rfl⟩
theorem zbN {C gl e h x K}:NW C gl yK ⟨e,h,x⟩ K=(SU C gl e h x K).1:=(SU C gl e h x K).2
theorem zfg {C gl e h x K}:NW C gl (.loop yK) ⟨e,h,x⟩ K=VA C gl yK K [(0,eA e 0),(3,eA e 3)] h x:=GB
def cR:ACode:=.pr [0] (.seq (rg [mV 60 0,
mV 2 60] [2])
.ret)
def TU (C:Hd)(gl:GL)(e:En)(h:aA)(x:Esc)(K:KT):Sf C gl cR e h x K:=⟨_,by simp only[cR,↓wZ,AO.still];rfl⟩
theorem zbO {C gl e h x K}:NW C gl cR ⟨e,h,x⟩ K=(TU C gl e h x K).1:=(TU C gl e h x K).2
def XX:ACode:=(.seq (rg [mV 2 (.c (.p (.sl (some 8) [])))] [0])
(.seq (.seq (rg [mV 6 0,
lN 7 6,
bN 8 .lss 7 (cI 2)] [0,8])
(.cond 8 (.seq (rg [mV 9 0,
mV 2 9] [2])
.ret)
.skip))
(.seq (.seq (rg [mV 3 (cI 1)] [0,3])
(.block 0 (.loop yK)))
cR)))
def GT:AFun:=⟨1,[.t 2],XX,true,false⟩
def LL (C:Hd)(gl:GL)(e:En)(h:aA)(x:Esc)(K:KT):Sf C gl XX e h x K:=⟨_,by simp only[XX,↓wZ,AO.still];rfl⟩
theorem zbI {C gl v0 h x K}:NW C gl GT.body ⟨enter [v0],h,x⟩ K=(LL C gl [(0,v0)] h x K).1:=(LL C gl [(0,v0)] h x K).2
end Go.Am
end
