/- Texts of the proof, laid together: Am30, Am31, AmX, AmS, CodesA. -/
import GoSem.Extern.Table
import Derived.Laws.World
import Derived.KernelRfl
import Derived.Test.YtbldcfbggmjbpaaGreatDoorlawLC3
set_option linter.all false
section
/- The abstract machine,part 30: the meaning of code in the new spelling,and that it is the old one. -/
set_option linter.unusedSimpArgs false
set_option linter.unusedVariables false
namespace Go.Am
def gV (v:AV)(b:Bool)(h:bA)(A:(AV→bA→Esc→Prop)→Prop)(k:AV→bA→Esc→Prop):Prop:=qE v b (A k) (k .skp h [])
def gP (v:AV)(b:Bool)(o:Option AV)(h:bA)(k:AV→bA→Esc→Prop):Prop:=gV v b h (fun k=>pK o fun u=>k u h []) k
def gM (v:AV)(b:Bool)(u:AV)(h:bA)(k:AV→bA→Esc→Prop):Prop:=gV v b h (fun k=>k u h []) k
def upB (b:Bool):Bool:=(fun(_:AV→Bool→Option AV→bA→(AV→bA→Esc→Prop)→Prop)=>b) gP
def gK (g:Option (Nat × Bool))(e:List (Nat × AV))(h:bA)(A:(AV→bA→Esc→Prop)→Prop)(k:AV→bA→Esc→Prop):Prop:=match g with
 | none=>A k
 | some (t,b)=>gV (aA e t) b h A k
def opC (C:Hd)(o:AO)(ev:Opd→AV)(h:bA)(k:AV→bA→Esc→Prop):Prop:=match o with
 | .call f args=>C f (ev1 ev args) h k
 | .callv f args=>lF C (ev f) (ev1 ev args) h k
 | .mnext sh xs=>match EM h sh (ev1 ev xs) with
  | some l=>l≠[]∧∀y∈l,k y.1 y.2 []
  | none=>False
 | o=>opN o ev h k
def tM (C:Hd)(gl:Nat→Option PV):List AOp→List (Nat×AV)→bA→Esc→(List (Nat×AV)→bA→Esc→Prop)→Prop
 | [],e,h,x,L=>L e h x
 | o::r,e,h,x,L=>gK o.guard e h (opC C o.op (Opd.ev gl e) h) fun v h' x'=>tM C gl r (put o.dst v e) h' (x'++x) L
variable {C:Hd} {gl:Nat→Option PV}
theorem z77 {o:AO}{d:Option Nat}{r:List AOp}{e:List (Nat × AV)}{h:bA}{x:Esc}{L:List (Nat × AV)→bA→Esc→Prop} :
 mB C gl (⟨d,none,o⟩::r) e h x L=opC C o (Opd.ev gl e) h (xJ C gl r d e x L):=by
 cases hp:o.plain with
 | true=>
  rw[z9v hp,z79 hp];cases o <;> first|rfl|cases hp
 | false=>
  cases o <;> first|(cases hp;done)|skip
  all_goals first
   | (rw[SZ,AG];rfl)
   | (rw[TZ,AG];rfl)
   | (unfold mB opC;simp only[wanted,AG];rfl)
theorem z0b:∀ (ops:List AOp)(e:List (Nat × AV))(h:bA)(x:Esc)(L:List (Nat × AV)→bA→Esc→Prop),mB C gl ops e h x L=tM C gl ops e h x L
 | [],e,h,x,L=>rfl
 | ⟨d,g,o⟩::r,e,h,x,L=>by
  have ih:(fun(v:AV) (h':bA) (x':Esc)=>tM C gl r (put d v e) h' (x'++x) L)=xJ C gl r d e x L:=by
   funext v h' x';rw[←z0b r];rfl
  show _=gK g e h (opC C o (Opd.ev gl e) h) fun v h' x'=>tM C gl r (put d v e) h' (x'++x) L
  rw[ih];cases g with
  | none=>exact z77
  | some tb=>
   obtain⟨t,b⟩:=tb;rw[VZ,z77];rfl
def opE (C:Hd)(o:AO)(ev:Opd→AV)(h:bA)(k:AV→bA→Esc→Prop):Prop:=match o with
 | .call f args=>DB C f (ev1 ev args) h k
 | .callv f args=>qJ C (ev f) (ev1 ev args) h k
 | .mnext _ _=>False
 | o=>opN o ev h k
def effN (still eff:Bool)(h h':bA)(y:Esc)(Q:Prop):Prop:=match upB eff with
 | true=>Q
 | false=>match still with
  | true=>Q
  | false=>(h'=h∧y=[])∧Q
def rZ (C:Hd)(gl:Nat→Option PV)(q:AOp × List (Nat × AV) × AV)(g:bA):Prop:=
 gK q.1.guard q.2.1 g (opE C q.1.op (Opd.ev gl q.2.1) g) fun v1 h1 x1=>v1=q.2.2∧h1=g∧x1=[]
def bH (C:Hd)(gl:Nat→Option PV)(h:bA)(dn:bE)(Q:Prop):List Nat→Prop
 | []=>Q
 | j::r=>(match dn[j]? with|some q=>rZ C gl q h|none=>False)∧bH C gl h dn Q r
def pH (C:Hd)(gl:Nat→Option PV)(o:AOp)(e:List (Nat × AV))(v:AV)(hs:List bA)(Q:Prop):List Nat→Prop
 | []=>Q
 | k::r=>(match hs[k]? with|some g=>rZ C gl (o,e,v) g|none=>False)∧pH C gl o e v hs Q r
def fJ (C:Hd)(gl:Nat→Option PV):List DOp→bE→List bA→List (Nat×AV)→bA→Esc→(List (Nat×AV)→bA→Esc→Prop)→Prop
 | [],_,_,e,h,x,L=>L e h x
 | o::r,dn,hs,e,h,x,L=>gK o.op.guard (gB (some o.rd) e) h (opE C o.op.op (Opd.ev gl (gB (some o.rd) e)) h) fun v h' y=>
  effN o.op.op.still o.eff h h' y (pH C gl o.op (gB (some o.rd) e) v hs (bH C gl h' dn (fJ C gl r (dn++[(o.op,gB (some o.rd) e,v)]) (hs++[h]) (put o.op.dst v e) h' (y++x) L) o.again) o.early)
theorem z78 {o:AO}{d:Option Nat}{e:List (Nat × AV)}{h:bA}{R:AV→bA→Esc→Prop}:doK C gl ⟨d,none,o⟩ e h R=opE C o (Opd.ev gl e) h R:=by
 cases hp:o.plain with
 | true=>
  rw[zeZ hp,z79 hp];cases o <;> first|rfl|cases hp
 | false=>
  cases o <;> first|(cases hp;done)|skip
  all_goals first
   | (rw[z5l,AG];rfl)
   | (rw[z5m,AG];rfl)
   | (unfold doK ADo opE;simp [wanted])
theorem z6k {o:AOp}{e:List (Nat × AV)}{h:bA}{R:AV→bA→Esc→Prop}:doK C gl o e h R=gK o.guard e h (opE C o.op (Opd.ev gl e) h) R:=by
 obtain⟨d,g,op⟩:=o;cases g with
 | none=>exact z78
 | some tb=>
  obtain⟨t,b⟩:=tb;rw[z5n,z78];rfl
theorem z88 {q:AOp × List (Nat × AV) × AV}{g:bA}:doS C gl q g=rZ C gl q g:=by
 obtain⟨⟨d,gd,op⟩,e,v⟩:=q;rw[z5o,z6k];rfl
theorem z1T {h:bA}{dn:bE}{Q:Prop}:∀{l:List Nat},bH C gl h dn Q l=(agK C gl h dn l∧Q)
 | []=>by simp [bH,agK]
 | j::r=>by
  unfold bH agK;rw[z1T (l:=r)];cases dn[j]? with
  | none=>simp
  | some q=>simp only[z88,and_assoc]
theorem z5y {o:AOp}{e:List (Nat × AV)}{v:AV}{hs:List bA}{Q:Prop}:∀{l:List Nat},pH C gl o e v hs Q l=(eaK C gl o e v hs l∧Q)
 | []=>by simp [pH,eaK]
 | j::r=>by
  unfold pH eaK;rw[z5y (l:=r)];cases hs[j]? with
  | none=>simp
  | some q=>simp only[z88,and_assoc]
theorem zfa {o:AOp}(hs:o.op.still=true){e:List (Nat × AV)}{h:bA}{R:AV→bA→Esc→Prop}:doK C gl o e h (fun v h' y=>(h'=h∧y=[])∧R v h' y)=doK C gl o e h R:=by
 unfold doK;refine propext ⟨fun⟨v,h',y,H,_,r⟩=>⟨v,h',y,H,r⟩,fun⟨v,h',y,H,r⟩=>⟨v,h',y,H,z9s hs H,r⟩⟩
theorem z0a:∀ (ds:List DOp)(dn:bE)(hs:List bA)(e:List (Nat × AV))(h:bA)(x:Esc)(L:List (Nat × AV)→bA→Esc→Prop),tD C gl ds dn hs e h x L=fJ C gl ds dn hs e h x L
 | [],dn,hs,e,h,x,L=>rfl
 | ⟨o,rd,eff,early,again⟩::r,dn,hs,e,h,x,L=>by
  rw[OZ];show _=gK o.guard (gB (some rd) e) h (opE C o.op (Opd.ev gl (gB (some rd) e)) h) fun v h' y=>
   effN o.op.still eff h h' y (pH C gl o (gB (some rd) e) v hs (bH C gl h' dn (fJ C gl r (dn++[(o,gB (some rd) e,v)]) (hs++[h]) (put o.dst v e) h' (y++x) L) again) early)
  rw[←z6k];have e1:JQ C gl ⟨o,rd,eff,early,again⟩ r dn hs e h x L=fun v h' y=>(effK eff h h' y∧pH C gl o (gB (some rd) e) v hs (bH C gl h' dn (fJ C gl r (dn++[(o,gB (some rd) e,v)]) (hs++[h]) (put o.dst v e) h' (y++x) L) again) early):=by
   funext v h' y
   rw[z5q,z5y,z1T,←z0a r]
  rw[e1];cases eff with
  | true=>
   congr 1;funext v h' y
   simp [effK,effN,upB]
  | false=>
   cases hs':o.op.still with
   | true=>
    have:=zfa (C:=C) (gl:=gl) (o:=o) hs' (e:=gB (some rd) e) (h:=h) (R:=fun v h' y=>pH C gl o (gB (some rd) e) v hs (bH C gl h' dn (fJ C gl r (dn++[(o,gB (some rd) e,v)]) (hs++[h]) (put o.dst v e) h' (y++x) L) again) early)
    exact this
   | false=>rfl
def NW (C:Hd)(gl:Nat→Option PV):ACode→St→(Ex→St→Prop)→Prop
 | .skip,s,K=>K .normal s
 | .reg ops keep,s,K=>tM C gl ops s.env s.h s.esc fun e h x=>K .normal ⟨gB keep e,h,x⟩
 | .draw ds keep,s,K=>fJ C gl ds [] [] s.env s.h s.esc fun e h x=>K .normal ⟨gB keep e,h,x⟩
 | .seq a b,s,K=>NW C gl a s fun e s'=>match e with
  | .normal=>NW C gl b s' K
  | .exit i=>K (.exit i) s'
  | .ret=>K .ret s'
 | .cond c a b,s,K=>oA (Opd.ev gl s.env c) (NW C gl a s K) (NW C gl b s K)
 | .condu c a b,s,K=>z3g (Opd.ev gl s.env c) (NW C gl a s K) (NW C gl b s K)
 | .det b,s,K=>NW C gl b s K
 | .block id b,s,K=>NW C gl b s fun e s'=>match e with
  | .normal=>K .normal s'
  | .exit i=>bif Nat.beq i id then K .normal s' else K (.exit i) s'
  | .ret=>K .ret s'
 | .loop b,s,K=>ALoop (NW C gl b) K s
 | .scope b,s,K=>NW C gl b ⟨s.env,s.h,[]⟩ fun e s'=>K e (ZD s.h.length s.esc s')
 | .pr l b,s,K=>NW C gl b ⟨gB (some l) s.env,s.h,s.esc⟩ K
 | .exit id,s,K=>K (.exit id) s
 | .ret,s,K=>K .ret s
 | .bad,_,_=>False
theorem dE:∀ (c:ACode)(s:St)(K:Ex→St→Prop),AW C gl c s K=NW C gl c s K
 | .skip,s,K=>rfl
 | .reg ops keep,s,K=>z0b _ _ _ _ _
 | .draw ds keep,s,K=>z0a _ _ _ _ _ _ _
 | .seq a b,s,K=>by
  unfold AW NW;rw[dE a];congr 1;funext e s'
  cases e with
  | normal=>exact dE b s' K
  | _=>rfl
 | .cond c a b,s,K=>by
  unfold AW NW oA;rw[←dE a,←dE b];rfl
 | .condu c a b,s,K=>by
  unfold AW NW z3g;rw[←dE a,←dE b];rfl
 | .det b,s,K=>dE b s K
 | .block id b,s,K=>by
  unfold AW NW;rw[dE b];congr 1;funext e s'
  cases e with
  | exit i=>
   dsimp only;by_cases hi:i=id
   ·subst hi;simp
   ·rw[if_neg hi]
    have:Nat.beq i id=false:=by cases h:Nat.beq i id with|false=>rfl|true=>exact absurd (Nat.eq_of_beq_eq_true h) hi
    rw[this];rfl
  | _=>rfl
 | .loop b,s,K=>by
  show ALoop (AW C gl b) K s=ALoop (NW C gl b) K s
  rw[show AW C gl b=NW C gl b from funext fun s=>funext fun K=>dE b s K]
 | .scope b,s,K=>dE b _ _
 | .pr l b,s,K=>dE b _ _
 | .exit id,s,K=>rfl
 | .ret,s,K=>rfl
 | .bad,s,K=>rfl
end Go.Am
end
section
/- The abstract machine,part 31: words in which a function's code is printed,and the rules of computing over them. -/
set_option linter.unusedSimpArgs false
set_option linter.unusedVariables false
namespace Go.Am
variable {C:Hd} {gl:Nat→Option PV} {e:List (Nat × AV)} {h:bA} {x:Esc} {K:Ex→St→Prop} {s:St}
abbrev AI (n:Int):AV:=.p (.int .i64 n)
abbrev AB (b:Bool):AV:=.p (.bool b)
def QA (C:Hd)(gl:Nat→Option PV)(b:ACode)(K:Ex→St→Prop)(e:Ex)(s:St):Prop:=match e with
 | .normal=>NW C gl b s K
 | .exit i=>K (.exit i) s
 | .ret=>K .ret s
def wA (id:Nat)(K:Ex→St→Prop)(e:Ex)(s:St):Prop:=match e with
 | .normal=>K .normal s
 | .exit i=>bif Nat.beq i id then K .normal s else K (.exit i) s
 | .ret=>K .ret s
def nxK (i:AV)(h:bA)(k:AV→bA→Esc→Prop):Prop:=match zN h i with
 | some l=>l≠[]∧∀y∈l,k y.1 y.2 []
 | none=>False
def gv (gl:Nat→Option PV)(n:Nat):AV:=match gl n with|some v=>.vp v|none=>.und
theorem z8E {b:ACode}:QA C gl b K .normal s=NW C gl b s K:=(rfl)
theorem z8F {b:ACode}:QA C gl b K .ret s=K .ret s:=(rfl)
theorem z2m {i:Nat}:wA i K .normal s=K .normal s:=(rfl)
theorem z2o {i:Nat}:wA i K (.exit i) s=K .normal s:=by simp [wA]
theorem z2n {i:Nat}:wA i K .ret s=K .ret s:=(rfl)
theorem zbp {b:ACode}:NW C gl (.scope b) ⟨e,h,x⟩ K=NW C gl b ⟨e,h,[]⟩ (z8C h.length x K):=(rfl)
theorem zbo {c:ACode}{s s':St}(hs:s=s'):NW C gl c s K=NW C gl c s' K:=by rw[hs]
def GA (C:Hd)(gl:Nat→Option PV)(b:ACode)(K:Ex→St→Prop)(e:List (Nat × AV))(h:bA)(x:Esc):Prop:=ALoop (NW C gl b) K ⟨e,h,x⟩
theorem jC {l:List Nat}{b:ACode}:NW C gl (.loop (.pr l b)) ⟨e,h,x⟩ K=GA C gl (.pr l b) K (gB (some l) e) h x:=by
 show ALoop _ _ _=ALoop _ _ _
 exact RZ (funext fun R=>by show NW C gl b _ R=NW C gl b _ R;dsimp only;rw[z7M])
theorem vB {l:List Nat}{b:ACode}:NW C gl (.loop (.scope (.pr l b))) ⟨e,h,x⟩ K=GA C gl (.scope (.pr l b)) K (gB (some l) e) h x:=by
 show ALoop _ _ _=ALoop _ _ _
 exact RZ (funext fun R=>by show NW C gl b _ _=NW C gl b _ _;dsimp only;rw[z7M])
theorem zbn {b:ACode}{e e':List (Nat × AV)}{h h':bA}{x x':Esc}(h1:e=e')(h2:h=h')(h3:x=x'):GA C gl b K e h x=GA C gl b K e' h' x':=by rw[h1,h2,h3]
theorem VA {σ:Type}{b:ACode}(S:σ→St)(P:σ→Prop)(m:σ→Nat)(t0:σ)(hs:(⟨e,h,x⟩:St)=S t0)(h0:P t0)(hr:∀ t,P t→NW C gl b (S t) (mR S P m K t)):GA C gl b K e h x:=by
 show ALoop (NW C gl b) K _
 rw[hs];have key:∀n t,m t<n→P t→ALoop (NW C gl b) K (S t):=by
  intro n;induction n with
  | zero=>intro t h;omega
  | succ n ih=>
   intro t hm hp;refine .mk _ _ (hr t hp) (fun s' h'=>?_) (fun i s' h'=>h') (fun s' h'=>h')
   obtain⟨u,rfl,hu,hlt⟩:=h';exact ih u (by omega) hu
 exact key _ t0 (Nat.lt_succ_self _) h0
theorem SA {X:Ctx}{f:Nat}{F:AFun}{a asv:List AV}{h h1:bA}{P:nA}(hf:X.fn f=some F)(hr:F.byref=false)(hp:AA h a=some (asv,h1))(hl:asv.length=F.nparams)(hd:F.isDet=false:=by rfl) :
 kA X f a h P=NW (kA X) X.gl F.body ⟨enter asv,h1,[]⟩ (yA F.results F.keep h.length P):=by
 rw[zpe hf hr hp hl hd,dE]
theorem ze8 {X:Ctx}{f:Nat}{F:AFun}{a asv:List AV}{h h1:bA}{P:nA}(hf:X.fn f=some F)(hr:F.byref=false)(hp:AA h a=some (asv,h1))(hl:asv.length=F.nparams)(hd:F.isDet=true:=by rfl) :
 kA X f a h P = ∃v h' x,P v h' x∧NW (kA X) X.gl F.body ⟨enter asv,h1,[]⟩ (yA F.results F.keep h.length fun v1 h1 x1=>v1=v∧h1=h'∧x1=x):=by
 rw[zpf hf hr hp hl hd];simp only[dE]
theorem ZC {X:Ctx}{f:Nat}{F:AFun}{asv:List AV}{h:bA}{P:nA}(hf:X.fn f=some F)(hr:F.byref=true)(hl:asv.length=F.nparams)(hd:F.isDet=false:=by rfl) :
 kA X f asv h P=NW (kA X) X.gl F.body ⟨enter asv,h,[]⟩ (yA F.results F.keep h.length P):=by
 rw[zpc hf hr hl hd,dE]
theorem z7F {v:AV}{k:AV→Prop}:pK (some v) k=k v:=(rfl)
theorem z7E {k:AV→Prop}:pK none k=False:=(rfl)
theorem z9h {v:AV}{h:bA}{x:Esc}{k:AV→bA→Esc→Prop}:wK (some (v,h,x)) k=k v h x:=(rfl)
theorem z9f {k:AV→bA→Esc→Prop}:wK none k=False:=(rfl)
theorem zmE {p:Prop}[Decidable p]{a b:Option AV}{k:AV→Prop}:pK (if p then a else b) k=if p then pK a k else pK b k:=by split <;> rfl
theorem zpN {p:Prop}[Decidable p]{a b:Option (AV × bA × Esc)}{k:AV→bA→Esc→Prop}:wK (if p then a else b) k=if p then wK a k else wK b k:=by split <;> rfl
theorem zmD {o o':Option AV}{k:AV→Prop}(h:o=o'):pK o k=pK o' k:=by rw[h]
theorem zpM {o o':Option (AV × bA × Esc)}{k:AV→bA→Esc→Prop}(h:o=o'):wK o k=wK o' k:=by rw[h]
theorem zjK {v v':AV}{b:Bool}{h:bA}{A:(AV→bA→Esc→Prop)→Prop}{k:AV→bA→Esc→Prop}(h1:v=v'):gV v b h A k=gV v' b h A k:=by rw[h1]
theorem zjI {v v':AV}{b:Bool}{o:Option AV}{h:bA}{k:AV→bA→Esc→Prop}(h1:v=v'):gP v b o h k=gP v' b o h k:=by rw[h1]
theorem zjG {v v':AV}{b:Bool}{u:AV}{h:bA}{k:AV→bA→Esc→Prop}(h1:v=v'):gM v b u h k=gM v' b u h k:=by rw[h1]
section
variable {A:(AV→bA→Esc→Prop)→Prop} {o:Option AV} {u:AV} {k:AV→bA→Esc→Prop} {t b:Bool}
theorem z6y:gV (.p (.bool true)) true h A k=A k:=(rfl)
theorem z6v:gV (.p (.bool false)) false h A k=A k:=(rfl)
theorem z6x:gV (.p (.bool true)) false h A k=k .skp h []:=(rfl)
theorem z6w:gV (.p (.bool false)) true h A k=k .skp h []:=(rfl)
theorem zjJ:gV (.p (.bool t)) b h A k=qE (.p (.bool t)) b (A k) (k .skp h []):=(rfl)
theorem z6u:gP (.p (.bool true)) true o h k=pK o fun v=>k v h []:=(rfl)
theorem z6q:gP (.p (.bool false)) false o h k=pK o fun v=>k v h []:=(rfl)
theorem z6t:gP (.p (.bool true)) false o h k=k .skp h []:=(rfl)
theorem z6r:gP (.p (.bool false)) true o h k=k .skp h []:=(rfl)
theorem z6s:gP .skp b o h k=k .skp h []:=(rfl)
theorem zjH:gP (.p (.bool t)) b o h k=qE (.p (.bool t)) b (pK o fun v=>k v h []) (k .skp h []):=(rfl)
theorem z6p:gM (.p (.bool true)) true u h k=k u h []:=(rfl)
theorem z6l:gM (.p (.bool false)) false u h k=k u h []:=(rfl)
theorem z6o:gM (.p (.bool true)) false u h k=k .skp h []:=(rfl)
theorem z6m:gM (.p (.bool false)) true u h k=k .skp h []:=(rfl)
theorem z6n:gM .skp b u h k=k .skp h []:=(rfl)
theorem zjF:gM (.p (.bool t)) b u h k=qE (.p (.bool t)) b (k u h []) (k .skp h []):=(rfl)
end
section
variable {k k':IntKind} {a b:Int} {sa sb:List UInt8}
theorem zcE:jA .add (.p (.int k a)) (.p (.int k b))=some (.p (.int k (k.wrap (a+b)))):=by simp [jA,cC,AD]
theorem zcQ:jA .sub (.p (.int k a)) (.p (.int k b))=some (.p (.int k (k.wrap (a-b)))):=by simp [jA,cC,AD]
theorem zcK:jA .mul (.p (.int k a)) (.p (.int k b))=some (.p (.int k (k.wrap (a*b)))):=by simp [jA,cC,AD]
theorem zcN:jA .quo (.p (.int k a)) (.p (.int k b))=if b=0 then none else some (.p (.int k (k.wrap (a.tdiv b)))):=by simp [jA,cC,AD] <;> split <;> rfl
theorem zcO:jA .rem (.p (.int k a)) (.p (.int k b))=if b=0 then none else some (.p (.int k (a.tmod b))):=by simp [jA,cC,AD] <;> split <;> rfl
theorem zcF:jA .eql (.p (.int k a)) (.p (.int k b))=some (.p (.bool (decide (a=b)))):=by simp [jA,cC,AD]
theorem zcL:jA .neq (.p (.int k a)) (.p (.int k b))=some (.p (.bool (!decide (a=b)))):=by simp [jA,cC,AD]
theorem zcJ:jA .lss (.p (.int k a)) (.p (.int k b))=some (.p (.bool (decide (a<b)))):=by simp [jA,cC,AD]
theorem zcI:jA .leq (.p (.int k a)) (.p (.int k b))=some (.p (.bool (decide (a≤b)))):=by simp [jA,cC,AD]
theorem zcH:jA .gtr (.p (.int k a)) (.p (.int k b))=some (.p (.bool (decide (b<a)))):=by simp [jA,cC,AD]
theorem zcG:jA .geq (.p (.int k a)) (.p (.int k b))=some (.p (.bool (decide (b≤a)))):=by simp [jA,cC,AD]
theorem zcP:jA .shr (.p (.int k a)) (.p (.int k' b))=if b<0 then none else some (.p (.int k (EK k a b))):=by simp [jA,cC] <;> split <;> rfl
theorem zpn:jA .add (.p (.str sa)) (.p (.str sb))=if sa.length+sb.length≤PI then some (.p (.str (sa++sb))) else none:=by simp [jA,cC,OF] <;> split <;> rfl
theorem zpo:jA .eql (.p (.str sa)) (.p (.str sb))=some (.p (.bool (decide (sa=sb)))):=by simp [jA,cC,OF]
theorem zpt:jA .neq (.p (.str sa)) (.p (.str sb))=some (.p (.bool (!decide (sa=sb)))):=by simp [jA,cC,OF]
theorem zps:jA .lss (.p (.str sa)) (.p (.str sb))=some (.p (.bool (Op.bytesLess sa sb))):=by simp [jA,cC,OF]
theorem zpr:jA .leq (.p (.str sa)) (.p (.str sb))=some (.p (.bool (Op.bytesLess sa sb||decide (sa=sb)))):=by simp [jA,cC,OF]
theorem zpq:jA .gtr (.p (.str sa)) (.p (.str sb))=some (.p (.bool (!(Op.bytesLess sa sb||decide (sa=sb))))):=by simp [jA,cC,OF]
theorem zpJ {t:Bool}:oUn .not (.p (.bool t))=some (.p (.bool !t)):=(rfl)
theorem convI {k':IntKind}:UD k (.p (.int k' a))=some (.p (.int k (k.wrap a))):=(rfl)
theorem zm2 {i j:Nat}:nB (.ref i j)=some (.ref i j):=(rfl)
theorem zm3 {i j m n:Nat}:nB (.rref i j m n)=some (.rref i j m n):=(rfl)
theorem zmK {t:Bool}{u v:AV}:MA (.p (.bool t)) u v=some (bif t then u else v):=(rfl)
theorem zlL {sh:Sh}{xs:List PV}:xA (.p (.sl sh xs))=some (.p (.int .i64 xs.length)):=(rfl)
theorem zlK {i g o l:Nat}:xA (.own i g o l)=some (.p (.int .i64 l)):=(rfl)
theorem zlO:MG (.p (.str sa))=some (.p (.int .i64 sa.length)):=(rfl)
theorem ext_t {vs:List AV}{i:Nat}:iC (.tup vs) i=vs[i]?:=(rfl)
theorem zj1 {off i j:Nat}{sh:Sh}:mA off sh (.ref i j)=some (.ref i (j+off)):=(rfl)
theorem zj2 {off i j m n:Nat}{sh:Sh}:mA off sh (.rref i j m n)=some (.rref i j m (n+off)):=(rfl)
theorem zj3 {off:Nat}{sh:Sh}{v:PV}:mA off sh (.vp v)=(LA sh off v).map .vp:=(rfl)
def ldB (sh:Sh)(off:Nat):Option Obj→Option AV
 | some (.box cs)=>cut sh off cs
 | _=>none
def ldR (sh:Sh)(g i off:Nat):Option Obj→Option AV
 | some (.row _ xs _)=>if g=xs.length then((xs[i]?).bind (LA sh off)).map .p else none
 | _=>none
theorem zma {sh:Sh}{i j:Nat}:eA sh (.ref i j) h=ldB sh j h[i]?:=by unfold eA ldB;rfl
theorem z7d {sh:Sh}{i g m n:Nat}:eA sh (.rref i g m n) h=ldR sh g m n h[i]?:=by unfold eA ldR;rfl
theorem z7e {sh:Sh}{v:PV}:eA sh (.vp v) h=(LA sh 0 v).map .p:=(rfl)
theorem zlG {sh:Sh}{off:Nat}{cs:List AV}:ldB sh off (some (.box cs))=cut sh off cs:=(rfl)
theorem z6X {sh sh':Sh}{g i off fz:Nat}{xs:List PV}:ldR sh g i off (some (.row sh' xs fz))=if g=xs.length then((xs[i]?).bind (LA sh off)).map .p else none:=(rfl)
def stB (sh:Sh)(id off:Nat)(v:AV)(h:bA):Option Obj→Option (List AV)→Option (AV×bA×Esc)
 | some (.box cs),some vs=>if vs.length=lA sh∧off+vs.length≤cs.length then some (.und,h.set id (.box (splice cs off vs)),qH id cs v) else none
 | _,_=>none
theorem zpl {sh:Sh}{i j:Nat}{v:AV}:OA sh (.ref i j) v h=stB sh i j v h h[i]? v.cells:=by unfold OA stB;rfl
theorem zoW {sh:Sh}{id off:Nat}{v:AV}{cs vs:List AV}:stB sh id off v h (some (.box cs)) (some vs)=if vs.length=lA sh∧off+vs.length≤cs.length then some (.und,h.set id (.box (splice cs off vs)),qH id cs v) else none:=(rfl)
theorem zjp {id:Nat}{cs:List AV}{v:AV}(h:HH cs=false):qH id cs v=WB id v:=by
 unfold qH;rw[h];rfl
theorem zko {a:AV}{v:PV}:HH [a,.p v]=false:=(rfl)
theorem zkp {a:AV}{s:Sh}:HH [a,.sl0 s]=false:=(rfl)
theorem zkm {a:AV}:HH [a]=false:=(rfl)
theorem zkn {a b c:AV}{l:List AV}:HH (a::b::c::l)=false:=by unfold HH;split <;> first|rfl|(rename_i h;simp at h)
def stE (sh:Sh)(id i off fz:Nat)(rsh:Sh)(xs:List PV)(v:PV)(h1:bA):Option PV→Option (AV×bA×Esc)
 | some (.agg cs)=>if off+v.cells.length≤cs.length then some (.und,h1.set id (.row rsh (xs.set i (.agg (splice cs off v.cells))) fz),[]) else none
 | some _=>if off=0∧v.sc then some (.und,h1.set id (.row rsh (xs.set i v) fz),[]) else none
 | none=>none
def stO (sh:Sh)(id g i off:Nat)(v:PV)(h1:bA):Option Obj→Option (AV×bA×Esc)
 | some (.row rsh xs fz)=>if g=xs.length∧fz≤i∧v.cells.length=lA sh∧v.cells.all PV.sc then stE sh id i off fz rsh xs v h1 xs[i]? else none
 | _=>none
def stR (sh:Sh)(id g i off:Nat):Option (PV×bA)→Option (AV×bA×Esc)
 | some y=>stO sh id g i off y.1 y.2 y.2[id]?
 | none=>none
theorem zpm {sh:Sh}{id g i off:Nat}{x:AV}:OA sh (.rref id g i off) x h=stR sh id g i off (pur h x):=by
 unfold OA stR;cases pur h x with
 | none=>rfl
 | some y=>
  obtain⟨v,h1⟩:=y;dsimp only;unfold stO;cases h1[id]? with
  | none=>rfl
  | some o=>cases o <;> rfl
theorem zpb {sh:Sh}{id g i off:Nat}{v:PV}{h1:bA}:stR sh id g i off (some (v,h1))=stO sh id g i off v h1 h1[id]?:=(rfl)
theorem zpa {sh rsh:Sh}{id g i off fz:Nat}{v:PV}{h1:bA}{xs:List PV}:stO sh id g i off v h1 (some (.row rsh xs fz))=if g=xs.length∧fz≤i∧v.cells.length=lA sh∧v.cells.all PV.sc then stE sh id i off fz rsh xs v h1 xs[i]? else none:=(rfl)
theorem zoX {sh rsh:Sh}{id i off fz:Nat}{v:PV}{h1:bA}{xs cs:List PV}:stE sh id i off fz rsh xs v h1 (some (.agg cs))=if off+v.cells.length≤cs.length then some (.und,h1.set id (.row rsh (xs.set i (.agg (splice cs off v.cells))) fz),[]) else none:=(rfl)
theorem zoY {sh rsh:Sh}{id i off fz:Nat}{v:PV}{h1:bA}{xs:List PV}{k:IntKind}{n:Int}:stE sh id i off fz rsh xs v h1 (some (.int k n))=if off=0∧v.sc then some (.und,h1.set id (.row rsh (xs.set i v) fz),[]) else none:=(rfl)
theorem zoZ {sh rsh:Sh}{id i off fz:Nat}{v:PV}{h1:bA}{xs:List PV}{s:List UInt8}:stE sh id i off fz rsh xs v h1 (some (.str s))=if off=0∧v.sc then some (.und,h1.set id (.row rsh (xs.set i v) fz),[]) else none:=(rfl)
def iaS (xs:List PV):Option Nat→Option AV
 | some k=>(xs[k]?).map .vp
 | none=>none
theorem zka {sh:Sh}{xs:List PV}{i:AV}:tA sh (.p (.sl sh xs)) i h=iaS xs (BB i):=by
 unfold tA iaS;cases BB i <;> simp
theorem zjW {xs:List PV}{n:Nat}:iaS xs (some n)=(xs[n]?).map .vp:=(rfl)
def iaO (sh:Sh)(id g off len:Nat):Option Obj→Option Nat→Option AV
 | some (.row rsh xs _),some k=>if rsh=sh∧g=xs.length∧off+len≤xs.length∧k<len then some (.rref id g (off+k) 0) else none
 | _,_=>none
theorem zjZ {sh:Sh}{id g off len:Nat}{i:AV}:tA sh (.own id g off len) i h=iaO sh id g off len h[id]? (BB i):=by
 unfold tA iaO;cases BB i with
 | none=>dsimp only;cases h[id]? with
  | none=>rfl
  | some o=>cases o <;> rfl
 | some k=>dsimp only;cases h[id]? with
  | none=>rfl
  | some o=>cases o <;> rfl
theorem zjV {sh rsh:Sh}{id g off len k fz:Nat}{xs:List PV}:iaO sh id g off len (some (.row rsh xs fz)) (some k)=if rsh=sh∧g=xs.length∧off+len≤xs.length∧k<len then some (.rref id g (off+k) 0) else none:=(rfl)
theorem zkf {i:AV}:YE (.p (.str sa)) i=(BB i).bind fun n=>(sa[n]?).map fun b=>.p (.int .u8 b.toNat):=by
 unfold YE;cases BB i <;> rfl
end
theorem z1U {z:List AV}{k:AV→bA→Esc→Prop}:alK z h k=k (.ref h.length 0) (h++[.box z]) []:=(rfl)
theorem z7x {sh:Sh}{k:AV→bA→Esc→Prop}:nwK sh h k=k (.own h.length 0 0 0) (h++[.row sh [] 0]) []:=(rfl)
theorem z7p {k:AV→bA→Esc→Prop}:mmK h k=k (.mp h.length) (h++[.amap [] 0]) []:=(rfl)
theorem znr {h:bA}:IB [] h=([],h):=(rfl)
theorem zns {h:bA}{s:Sh}{r:List AV}:IB (.sl0 s::r) h=(.own h.length 0 0 0::(IB r (h++[.row s [] 0])).1,(IB r (h++[.row s [] 0])).2):=(rfl)
attribute [go_sem] znr zns
def ldAr (sh:Sh)(off g:Nat):Option Obj→Option AV
 | some (.arow rsh cs)=>if g*lA rsh=cs.length then cut sh off cs else none
 | _=>none
theorem zlY {sh:Sh}{off id g:Nat}:eA sh (.bt 4 off id g) h=ldAr sh off g h[id]?:=by
 show ldA sh 4 off id g h=_
 unfold ldA ldAr;rfl
theorem zlF {sh rsh:Sh}{off g:Nat}{cs:List AV}:ldAr sh off g (some (.arow rsh cs))=if g*lA rsh=cs.length then cut sh off cs else none:=(rfl)
def stAr (sh:Sh)(off id g:Nat)(x:AV)(h:bA):Option Obj→Option (List AV)→Option (AV×bA×Esc)
 | some (.arow rsh cs),some vs=>if g*lA rsh=cs.length∧vs.length=lA sh∧off+vs.length≤cs.length then some (.und,h.set id (.arow rsh (splice cs off vs)),WB id x) else none
 | _,_=>none
theorem zpj {sh:Sh}{off id g:Nat}{x:AV}:OA sh (.bt 4 off id g) x h=stAr sh off id g x h h[id]? x.cells:=by
 show stA sh 4 off id g x h=_
 unfold stA stAr;rfl
theorem zoV {sh rsh:Sh}{off id g:Nat}{x:AV}{cs vs:List AV}:stAr sh off id g x h (some (.arow rsh cs)) (some vs)=if g*lA rsh=cs.length∧vs.length=lA sh∧off+vs.length≤cs.length then some (.und,h.set id (.arow rsh (splice cs off vs)),WB id x) else none:=(rfl)
def iaAr (sh:Sh)(id g:Nat):Option Obj→Option Nat→Option AV
 | some (.arow rsh cs),some i=>if rsh=sh∧g*lA rsh=cs.length∧i<g then some (.bt 4 (i*lA sh) id g) else none
 | _,_=>none
theorem zjX {sh:Sh}{t id g:Nat}{i:AV}:tA sh (.bt 3 t id g) i h=iaAr sh id g h[id]? (BB i):=by
 unfold tA iaAr;cases BB i with
 | none=>cases h[id]? with
  | none=>rfl
  | some o=>cases o <;> rfl
 | some k=>
  show iaA sh 3 id g k h=_
  unfold iaA;cases h[id]? with
  | none=>rfl
  | some o=>cases o <;> rfl
theorem zjU {sh rsh:Sh}{id g i:Nat}{cs:List AV}:iaAr sh id g (some (.arow rsh cs)) (some i)=if rsh=sh∧g*lA rsh=cs.length∧i<g then some (.bt 4 (i*lA sh) id g) else none:=(rfl)
theorem zjz {off o id g:Nat}{sh:Sh}:mA off sh (.bt 4 o id g)=some (.bt 4 (o+off) id g):=(rfl)
theorem zlI {t id g:Nat}:xA (.bt 3 t id g)=some (.p (.int .i64 g)):=(rfl)
theorem zmz {o id g:Nat}:nB (.bt 4 o id g)=some (.bt 4 o id g):=(rfl)
def apAr (sh:Sh)(h:bA)(t id g g':Nat):Option Obj→Option Obj→Option (AV×bA×Esc)
 | some (.arow rsh cs),some (.arow rsh' ds)=>if rsh=sh∧rsh'=sh∧g*lA sh=cs.length∧g'*lA sh=ds.length∧g+g'≤WA then
  some (.bt 3 t id (g+g'),h.set id (.arow sh (cs++ds)),bif decide (id<AV.tops ds) then [(id,AV.tops ds)] else []) else none
 | _,_=>none
theorem zc2 {sh:Sh}{t id g t' id' g':Nat}:apA sh h (.bt 3 t id g) (.bt 3 t' id' g')=apAr sh h t id g g' h[id]? h[id']?:=by
 show(match h[id]?,h[id']? with|_,_=>_)=_
 unfold apAr;rfl
theorem zc4 {sh rsh rsh':Sh}{t id g g':Nat}{cs ds:List AV}:apAr sh h t id g g' (some (.arow rsh cs)) (some (.arow rsh' ds))=if rsh=sh∧rsh'=sh∧g*lA sh=cs.length∧g'*lA sh=ds.length∧g+g'≤WA then
 some (.bt 3 t id (g+g'),h.set id (.arow sh (cs++ds)),bif decide (id<AV.tops ds) then [(id,AV.tops ds)] else []) else none:=(rfl)
theorem znq {h:bA}{k t i g:Nat}{r:List AV}:IB (.bt k t i g::r) h=(.bt 3 t h.length 0::(IB r (h++[.arow (bD t) []])).1,(IB r (h++[.arow (bD t) []])).2):=(rfl)
theorem zeY {n:Nat}:bD (n+1)=some n:=(rfl)
attribute [go_sem] zlY zlF zpj zoV zjX zjU zjz zlI zmz zc2 zc4 znq zeY
attribute [go_sem] z8E z8F z2m z2o z2n zbp z7F z7E z9h z9f zmE zpN z6y z6v z6x z6w z6u z6q z6t z6r z6s z6p z6l z6o z6m z6n zcE zcQ zcK zcN zcO zcF zcL zcJ zcI zcH zcG zcP zpn zpo zpt zps zpr zpq zpJ convI zm2 zm3 zmK zlL zlK zlO ext_t zj1 zj2 zj3 zma z7d z7e zlG z6X zpl zoW zpm zpb zpa zoX zoY zoZ zjp zko zkp zkm zkn zka zjW zjZ zjV zkf z1U z7x z7p KE z87 upcB neqB lenB n64 z5k strB appB rds rd dB BC kN jB mN oEqa vX LH CN z73 NG TD z74 MD rR GE zF uX LC z7y oClr oMx oMn ZA kB OK NK z71 wX wB uB
attribute [go_sem ↓] z7F z7E z9h z9f z6y z6v z6x z6w z6u z6q z6t z6r z6s z6p z6l z6o z6m z6n z3f z3e z8E z8F z2m z2o z2n z1U z7x z7p z7g z7f z7h z8D z5Z z6a
attribute [go_sem low] zjJ zjH zjF
attribute [congr] zbo zbn zmD zpM zjK zjI zjG
end Go.Am
end
section
/- The abstract machine,part X: the library's functions that have no Go text: comparing strings,finding a byte. -/
set_option linter.unusedSimpArgs false
set_option linter.unusedVariables false
namespace Go.Am
variable {P:Program}
structure ExtRow (P:Program) (f:Nat) (e:Array Value→Sem Value):Prop where
 row:∃fn,P.funcs[f]?=some fn∧fn.name ≠ "runtime.NumGoroutine" ∧ fn.body=none∧Extern.findNext fn=none∧Extern.find fn=some e
theorem ExtRow.run {f:Nat}{e:Array Value→Sem Value}(R:ExtRow P f e){us:Array Value}{w w':World}{x:Value}(he:(e us).run P w = .ok x w'):(callFunc f us).run P w = .ok (.value x) w':=by
 obtain⟨fn,h1,h2,h3,h4,h5⟩:=R.row;unfold callFunc;simp [h1,h2,h3,h4,h5,he]
theorem zr4 {f:Nat}{e:Array Value→Sem Value}(h:(match P.funcs[f]? with | some fn=>fn.name != "runtime.NumGoroutine" && fn.body.isNone&&(Extern.findNext fn).isNone | none=>false)=true)(h2:(P.funcs[f]?).bind Extern.find=some e):ExtRow P f e:=by
 cases hf:P.funcs[f]? with
 | none=>rw[hf]at h;cases h
 | some fn=>
  rw[hf]at h h2;simp only[Bool.and_eq_true,bne_iff_ne,ne_eq,Option.isNone_iff_eq_none]at h;exact⟨⟨fn,hf,h.1.1,h.1.2,h.2,h2⟩⟩
def xF (s:List UInt8)(c:UInt8):Int:=if s.findIdx (· == c)<s.length then(s.findIdx (· == c):Int) else -1
def vA:List UInt8→List UInt8→Int
 | [],[]=>0
 | [],_::_=>-1
 | _::_,[]=>1
 | a::asv,b::bs=>if a<b then -1 else if b<a then 1 else vA asv bs
theorem z2i (s:List UInt8)(i:Nat):(⟨s.toArray⟩:ByteArray)[i]! = s.getD i 0:=by
 by_cases h:i<s.length
 ·rw[getElem!_pos (⟨s.toArray⟩:ByteArray) i h]
  show s.toArray[i]=_
  simp [h]
 ·rw[getElem!_neg (⟨s.toArray⟩:ByteArray) i h]
  simp [Nat.not_lt.1 h];rfl
theorem zj9 (s:List UInt8)(c:UInt8):(match (List.range (⟨s.toArray⟩:ByteArray).size).find? fun i=>(⟨s.toArray⟩:ByteArray)[i]! == c with
 | some i=>(i:Int)
 | none=>-1)=xF s c:=by
 have hsz:(⟨s.toArray⟩:ByteArray).size=s.length:=rfl
 have hget:∀i,i<s.length→(⟨s.toArray⟩:ByteArray)[i]! = s.getD i 0:=by
  intro i hi;exact z2i s i
 unfold xF;rw[hsz];by_cases h:s.findIdx (· == c)<s.length
 ·rw[if_pos h]
  have hf:(List.range s.length).find? (fun i=>(⟨s.toArray⟩:ByteArray)[i]! == c)=some (s.findIdx (· == c)):=by
   rw[List.find?_eq_some_iff_getElem];refine⟨?_,s.findIdx (· == c),by simpa using h,by simp,fun j hj=>?_⟩
   ·rw[hget _ h]
    have:=List.findIdx_getElem (w:=h);simpa [h] using this
   ·simp only[List.getElem_range]
    have hj':j<s.length:=by omega
    rw[hget _ hj'];have:=List.not_of_lt_findIdx hj;simpa [hj'] using this
  rw[hf]
 ·rw[if_neg h]
  have hf:(List.range s.length).find? (fun i=>(⟨s.toArray⟩:ByteArray)[i]! == c)=none:=by
   rw[List.find?_eq_none];intro i hi;rw[List.mem_range]at hi;rw[hget _ hi];intro hc;exact h (List.findIdx_lt_length_of_exists ⟨s[i],List.getElem_mem hi,by simpa [hi] using hc⟩)
  rw[hf]
theorem zeK:∀ (a b:List UInt8),Extern.BytealgCompare.cmp ⟨a.toArray⟩ ⟨b.toArray⟩=vA a b:=by
 have key:∀(a b:List UInt8),(match (List.range (min a.length b.length)).find? fun i=>a.getD i 0 != b.getD i 0 with
  | some i=>if a.getD i 0<b.getD i 0 then(-1:Int) else 1
  | none=>if a.length<b.length then -1 else if a.length>b.length then 1 else 0)=vA a b:=by
  intro a;induction a with
  | nil=>intro b;cases b <;> simp [vA]
  | cons x a ih=>
   intro b;cases b with
   | nil=>simp [vA]
   | cons y b=>
    have hm:min (x::a).length (y::b).length=min a.length b.length+1:=by simp only[List.length_cons];omega
    rw[hm,List.range_succ_eq_map,List.find?_cons];simp only[List.getD_cons_zero];by_cases hxy:x=y
    ·subst hxy
     have hlt:¬x<x:=UInt8.lt_irrefl x
     simp only[bne_self_eq_false,List.find?_map,vA,hlt,if_false];rw[←ih b];have hc:((fun i=>(x::a).getD i 0 != (x::b).getD i 0) ∘ Nat.succ)=fun i=>a.getD i 0 != b.getD i 0:=by
      funext i;simp
     rw[hc];cases (List.range (min a.length b.length)).find? fun i=>a.getD i 0 != b.getD i 0 with
     | none=>simp
     | some i=>simp
    ·have:(x != y)=true:=by simpa using hxy
     rw[this];simp only[vA,List.getD_cons_zero];by_cases h1:x<y
     ·simp [h1]
     ·have h2:y<x:=by
       rcases UInt8.lt_or_lt_of_ne (a:=x) (b:=y) hxy with h|h
       ·exact absurd h h1
       ·exact h
      simp [h1,h2]
 intro a b;rw[←key a b];unfold Extern.BytealgCompare.cmp;have sa:(⟨a.toArray⟩:ByteArray).size=a.length:=rfl
 have sb:(⟨b.toArray⟩:ByteArray).size=b.length:=rfl
 simp only[sa,sb,z2i];generalize List.find? _ _=q;cases q <;> rfl
def lI (fi fc:Nat)(f:Nat)(vs:List PV):Option PV:=
 bif Nat.beq f fi then(match vs with
  | [.str s,.int .u8 c]=>some (.int .i64 (xF s (UInt8.ofNat c.toNat)))
  | _=>none)
 else bif Nat.beq f fc then(match vs with
  | [.str a,.str b]=>some (.int .i64 (vA a b))
  | _=>none)
 else none
theorem extF_ok {fi fc:Nat}(h1:ExtRow P fi Extern.BytealgIndexByte.indexByte)(h2:ExtRow P fc Extern.BytealgCompare.compare){f:Nat}{vs:List PV}{r:PV}(h:lI fi fc f vs=some r):YZ P f vs r:=by
 intro M w us hM hl hr;unfold lI at h;cases e1:Nat.beq f fi with
 | true=>
  rw[e1]at h;have e:=Nat.eq_of_beq_eq_true e1
  subst e;simp only[cond_true]at h;split at h
  ·rename_i s c
   injection h with h
   subst h;match us,hl with
   | [u,v],_=>
    have q1:=hr 0 _ u rfl rfl
    have q2:=hr 1 _ v rfl rfl
    cases q1;cases q2
    refine⟨.int .i64 (xF s (UInt8.ofNat c.toNat)),w,h1.run ?_,WExt.refl w,.int _ _⟩;rw[←zj9];show(match (List.range (⟨s.toArray⟩:ByteArray).size).find? fun i=>(⟨s.toArray⟩:ByteArray)[i]! == UInt8.ofNat c.toNat with|some i=>(pure (goInt i):Sem Value)|none=>pure (goInt (-1))).run P w=_
    generalize List.find? _ _=q;cases q <;> rfl
  ·cases h
 | false=>
  rw[e1]at h;simp only[cond_false]at h;cases e2:Nat.beq f fc with
  | true=>
   rw[e2]at h;have e:=Nat.eq_of_beq_eq_true e2
   subst e;simp only[cond_true]at h;split at h
   ·rename_i a b
    injection h with h
    subst h;match us,hl with
    | [u,v],_=>
     have q1:=hr 0 _ u rfl rfl
     have q2:=hr 1 _ v rfl rfl
     cases q1;cases q2
     refine⟨.int .i64 (vA a b),w,h2.run ?_,WExt.refl w,.int _ _⟩;rw[←zeK];rfl
   ·cases h
  | false=>rw[e2]at h;cases h
theorem z5F {X:Ctx}{f:Nat}{asv:List AV}{vs:List PV}{h h1:bA}{r:PV}{K:nA}(hf:X.fn f=none)(h2:X.ex2 f asv h=none)(hp:AA h asv=some (vs.map .p,h1))(hu:unp (vs.map AV.p)=some vs)(hx:X.ext f vs=some r):kA X f asv h K=K (.p r) h1 []:=by
 refine propext (kA.eq (kA.fold ?_) K);unfold uC;simp only[hf,h2,hp,hu,hx];exact⟨trivial,trivial,trivial⟩
structure GrowRow (P:Program) (f:Nat) (sh:Sh):Prop where
 enter:∀us w,(callFunc f us).run P w = .ok (.enter f us) w
 room:∀a w,Calls P f #[.slice a 0 0,.int .i64 0] w fun e w'=>e = .returned (.slice a 0 0)∧w'=w
 grow:∀a (n:Nat) w,0<n→n≤1048576→Calls P f #[.slice a 0 0,.int .i64 n] w fun e w'=>∃G cs E,e = .returned (.slice (some ⟨w.heap.size,0,none⟩) 0 G)∧cs.size=G*lA sh∧w'=w.drew.alloc (.cells cs E)
def DK:List (Nat × Sh)→Nat→List AV→bA→Option (AV×bA×Esc)
 | [],_,_,_=>none
 | (g,sh)::r,f,asv,h=>bif Nat.beq f g then(match asv with
  | [.sl0 _,.p (.int .i64 n)]=>bif decide (0≤n)&&decide (n≤1048576) then some (.own h.length 0 0 0,h++[.row sh [] 0],[]) else none
  | _=>none) else DK r f asv h
theorem z6A {gl:Nat→Option PV}:∀(gs:List (Nat×Sh)),(∀g sh,(g,sh)∈gs→GrowRow P g sh)→∀{f:Nat} {asv:List AV} {h:bA} {v:AV} {h':bA} {x:Esc},DK gs f asv h=some (v,h',x) →
 QC P gl f asv h fun v1 h1 x1=>v1=v∧h1=h'∧x1=x
 | [],_,f,asv,h,v,h',x,H=>by cases H
 | (g,sh)::r,hg,f,asv,h,v,h',x,H=>by
  unfold DK at H;cases e1:Nat.beq f g with
  | false=>
   rw[e1]at H;exact z6A r (fun g sh hm=>hg g sh (by simp [hm])) H
  | true=>
   rw[e1]at H;have e:=Nat.eq_of_beq_eq_true e1
   subst e;have R:=hg f sh (by simp)
   simp only[cond_true]at H;split at H
   ·rename_i sh' n
    cases hb:(decide (0≤n)&&decide (n≤1048576)) with
    | false=>rw[hb]at H;cases H
    | true=>
     rw[hb]at H;simp only[cond_true,Option.some.injEq,Prod.mk.injEq]at H;obtain⟨rfl,rfl,rfl⟩:=H;simp only[Bool.and_eq_true,decide_eq_true_eq]at hb;intro μ w vs Hh Hg hl hr;match vs,hl with
     | [u1,u2],_=>
      have q1:=hr 0 _ u1 rfl rfl
      have q2:=(hr 1 _ u2 rfl rfl).p_inv
      cases q1;cases q2
      obtain⟨m,hm⟩:=Int.eq_ofNat_of_zero_le hb.1;subst hm;refine .inl ⟨R.enter _,?_⟩;rcases Nat.eq_zero_or_pos m with h0|h0
      ·subst h0
       refine(R.room _ w).mono fun e w' he=>?_
       obtain⟨rfl,rfl⟩:=he;obtain⟨n1,n2⟩:=oR Hh sh;refine⟨_,_,_,_,⟨rfl,rfl,rfl⟩,?_,n1,n2,DA.push (by simp [Obj.top])⟩
       exact .own h.length 0 0 0 _ 0 sh [] 0 none (Nat.le_refl _) (by simp) (by rw[←Hh.len];simp) (by simp) (by simp) (fun _=>rfl)
      ·refine(R.grow _ m w h0 (by omega)).mono fun e w' he=>?_
       obtain⟨G,cs,E,rfl,hcs,rfl⟩:=he;have hw:WExt w (w.drew.alloc (.cells cs E)):=(WExt.drew w _).trans (WExt.push _ _)
       obtain⟨n1,n2⟩:=RI (sh:=sh) (xs:=[]) Hh hw (b:=w.heap.size) (n:=cs.size) (Nat.le_refl _) (by show w.heap.size<(w.heap.push _).size;simp) (c:=cs) (qB.push (w:=w.drew) cs E) (by simp) (by simp) (by simp)
       refine⟨_,_,_,_,⟨rfl,rfl,rfl⟩,?_,n1,n2,DA.push (by simp [Obj.top])⟩
       refine .own h.length 0 0 0 _ G sh [] 0 (some (w.heap.size,cs.size)) (Nat.zero_le _) (by simp) (by rw[←Hh.len];simp) (by simp) (by simp) (fun _=>?_)
       exact .inr ⟨by simp,by simp [hcs]⟩
   ·cases H
end Go.Am
end
section
/- Short words for the printed code. -/
set_option linter.all false
namespace Go.Am
instance {n:Nat}:OfNat Opd n:=⟨.t n⟩
abbrev GL:=Nat→Option PV
abbrev KT:=Ex→St→Prop
def cI (n:Int):Opd:=.c (.p (.int .i64 n))
def cT:Opd:=.c (.p (.bool true))
def cF:Opd:=.c (.p (.bool false))
def cS (s:List UInt8):Opd:=.c (.p (.str s))
def uO (d:Nat)(o:AO):AOp:=⟨some d,none,o⟩
def wO (o:AO):AOp:=⟨none,none,o⟩
def gD (d g:Nat)(b:Bool)(o:AO):AOp:=⟨some d,some (g,b),o⟩
def mV (d:Nat)(x:Opd):AOp:=⟨some d,none,.mv x⟩
def bN (d:Nat)(b:BinOp)(x y:Opd):AOp:=⟨some d,none,.bin b x y⟩
def cL (d f:Nat)(l:List Opd):AOp:=⟨some d,none,.call f l⟩
def lD (d:Nat)(s:Sh)(x:Opd):AOp:=⟨some d,none,.load s x⟩
def iA (d:Nat)(s:Sh)(x y:Opd):AOp:=⟨some d,none,.iaddr s x y⟩
def fA (d o:Nat)(s:Sh)(x:Opd):AOp:=⟨some d,none,.faddr o s x⟩
def lN (d:Nat)(x:Opd):AOp:=⟨some d,none,.len x⟩
def eX (d:Nat)(x:Opd)(i:Nat):AOp:=⟨some d,none,.ext x i⟩
def dF (o:AOp)(l:List Nat):DOp:=⟨o,l,false,[],[]⟩
def dT (o:AOp)(l:List Nat):DOp:=⟨o,l,true,[],[]⟩
def dA (o:AOp)(l:List Nat)(e:Bool)(a b:List Nat):DOp:=⟨o,l,e,a,b⟩
def rg (l:List AOp)(k:List Nat):ACode:=.reg l (some k)
def dr (l:List DOp)(k:List Nat):ACode:=.draw l (some k)
end Go.Am
end
section
/- The functions asv abstract code,and asv formulas over their values: printed by program out of the translation. -/
set_option linter.unusedVariables false
set_option maxRecDepth 100000
namespace Go.Am
def UX:ACode:=.pr [4,5,6,7,8,9,10,11,12,13,14,15,16,17,18] (.seq (rg [lD 69 (some 3) 4,
mV 70 5,
cL 71 xE [69,70],
mV 72 14,
bN 73 .eql 71 72,
mV 74 73,
gD 75 74 true (.mv 7),
gD 76 74 true (.mv 14),
gD 77 74 true (.bin .eql 75 76),
uO 78 (.pick 74 77 cF),
mV 79 78,
gD 80 79 true (.mv 6),
gD 81 79 true (.mv 15),
gD 82 79 true (.call DI [80,81]),
uO 83 (.pick 79 82 cF),
mV 84 83,
gD 85 84 true (.mv 9),
gD 86 84 true (.mv 14),
gD 87 84 true (.bin .eql 85 86),
uO 88 (.pick 84 87 cF),
mV 89 88,
gD 90 89 true (.mv 8),
gD 91 89 true (.mv 16),
gD 92 89 true (.call vF [90,91]),
uO 93 (.pick 89 92 cF),
mV 94 93,
gD 95 94 true (.mv 11),
gD 96 94 true (.mv 14),
gD 97 94 true (.bin .eql 95 96),
uO 98 (.pick 94 97 cF),
mV 99 98,
gD 100 99 true (.mv 10),
gD 101 99 true (.mv 17),
gD 102 99 true (.call vF [100,101]),
uO 103 (.pick 99 102 cF),
mV 104 103,
gD 105 104 true (.mv 13),
gD 106 104 true (.load (some 3) 4),
gD 107 104 true (.call YF [106]),
gD 108 104 true (.bin .eql 105 107),
uO 109 (.pick 104 108 cF),
mV 110 109,
gD 111 110 true (.mv 12),
gD 112 110 true (.mv 18),
gD 113 110 true (.call vF [111,112]),
uO 114 (.pick 110 113 cF),
mV 115 114,
gD 116 115 true (.call vI []),
uO 117 (.pick 115 116 cF),
mV 2 117] [2])
.ret)
def z3O (C:Hd)(gl:GL)(v4 v5 v6 v7 v8 v9 v10 v11 v12 v13 v14 v15 v16 v17 v18:AV)(h:bA)(x:Esc)(K:KT):Prop:=
 pK (eA (some 3) v4 h) fun t1=>
 C xE [t1,v5] h fun t2 h3 y4=>
 pK (jA .eql t2 v14) fun t5=>
 gM t5 true v7 h3 fun t6 h7 y8=>
 gM t5 true v14 h7 fun t9 h10 y11=>
 gP t5 true (jA .eql t6 t9) h10 fun t12 h13 y14=>
 pK (MA t5 t12 (AB false)) fun t15=>
 gM t15 true v6 h13 fun t16 h17 y18=>
 gM t15 true v15 h17 fun t19 h20 y21=>
 gV t15 true h20 (C DI [t16,t19] h20) fun t22 h23 y24=>
 pK (MA t15 t22 (AB false)) fun t25=>
 gM t25 true v9 h23 fun t26 h27 y28=>
 gM t25 true v14 h27 fun t29 h30 y31=>
 gP t25 true (jA .eql t26 t29) h30 fun t32 h33 y34=>
 pK (MA t25 t32 (AB false)) fun t35=>
 gM t35 true v8 h33 fun t36 h37 y38=>
 gM t35 true v16 h37 fun t39 h40 y41=>
 gV t35 true h40 (C vF [t36,t39] h40) fun t42 h43 y44=>
 pK (MA t35 t42 (AB false)) fun t45=>
 gM t45 true v11 h43 fun t46 h47 y48=>
 gM t45 true v14 h47 fun t49 h50 y51=>
 gP t45 true (jA .eql t46 t49) h50 fun t52 h53 y54=>
 pK (MA t45 t52 (AB false)) fun t55=>
 gM t55 true v10 h53 fun t56 h57 y58=>
 gM t55 true v17 h57 fun t59 h60 y61=>
 gV t55 true h60 (C vF [t56,t59] h60) fun t62 h63 y64=>
 pK (MA t55 t62 (AB false)) fun t65=>
 gM t65 true v13 h63 fun t66 h67 y68=>
 gP t65 true (eA (some 3) v4 h67) h67 fun t69 h70 y71=>
 gV t65 true h70 (C YF [t69] h70) fun t72 h73 y74=>
 gP t65 true (jA .eql t66 t72) h73 fun t75 h76 y77=>
 pK (MA t65 t75 (AB false)) fun t78=>
 gM t78 true v12 h76 fun t79 h80 y81=>
 gM t78 true v18 h80 fun t82 h83 y84=>
 gV t78 true h83 (C vF [t79,t82] h83) fun t85 h86 y87=>
 pK (MA t78 t85 (AB false)) fun t88=>
 gV t88 true h86 (C vI [] h86) fun t89 h90 y91=>
 pK (MA t88 t89 (AB false)) fun t92=>
 K .ret ⟨[(2,t92)],h90,(y91++(y87++(y84++(y81++(y77++(y74++(y71++(y68++(y64++(y61++(y58++(y54++(y51++(y48++(y44++(y41++(y38++(y34++(y31++(y28++(y24++(y21++(y18++(y14++(y11++(y8++(y4++x)))))))))))))))))))))))))))⟩
theorem zgz {C gl e h x K}:NW C gl UX ⟨e,h,x⟩ K=z3O C gl (aA e 4) (aA e 5) (aA e 6) (aA e 7) (aA e 8) (aA e 9) (aA e 10) (aA e 11) (aA e 12) (aA e 13) (aA e 14) (aA e 15) (aA e 16) (aA e 17) (aA e 18) h x K:=by kernel_rfl
def z08 (q1:ACode):ACode:=.pr [4,5,6,7,8,9,10,11,12,13,14,15,16,17,18] (.seq (.seq (rg [lD 64 (some 3) 4,
cL 65 YF [64],
bN 66 .eql 65 (cI 0)] [4,5,6,7,8,9,10,11,12,13,14,15,16,17,18,66])
(.cond 66 (rg [lD 67 (some 3) 4,
cL 68 jK [67],
mV 18 68] [4,5,6,7,8,9,10,11,12,13,14,15,16,17,18])
.skip))
q1)
def GR:ACode:=z08 UX
def BV (C:Hd)(gl:GL)(q1:ACode)(v4 v5 v6 v7 v8 v9 v10 v11 v12 v13 v14 v15 v16 v17 v18:AV)(h:bA)(x:Esc)(K:KT):Prop:=
 pK (eA (some 3) v4 h) fun t1=>
 C YF [t1] h fun t2 h3 y4=>
 pK (jA .eql t2 (AI 0)) fun t5=>
 oA t5 (pK (eA (some 3) v4 h3) fun t6=>
 C jK [t6] h3 fun t7 h8 y9=>
 NW C gl q1 ⟨[(4,v4),(5,v5),(6,v6),(7,v7),(8,v8),(9,v9),(10,v10),(11,v11),(12,v12),(13,v13),(14,v14),(15,v15),(16,v16),(17,v17),(18,t7)],h8,(y9++(y4++x))⟩ K)
 (NW C gl q1 ⟨[(4,v4),(5,v5),(6,v6),(7,v7),(8,v8),(9,v9),(10,v10),(11,v11),(12,v12),(13,v13),(14,v14),(15,v15),(16,v16),(17,v17),(18,v18),(66,t5)],h3,(y4++x)⟩ K)
theorem z9X {C gl q1 e h x K}:NW C gl (z08 q1) ⟨e,h,x⟩ K=BV C gl q1 (aA e 4) (aA e 5) (aA e 6) (aA e 7) (aA e 8) (aA e 9) (aA e 10) (aA e 11) (aA e 12) (aA e 13) (aA e 14) (aA e 15) (aA e 16) (aA e 17) (aA e 18) h x K:=by kernel_rfl
theorem zg0 {C gl e h x K}:NW C gl GR ⟨e,h,x⟩ K=BV C gl UX (aA e 4) (aA e 5) (aA e 6) (aA e 7) (aA e 8) (aA e 9) (aA e 10) (aA e 11) (aA e 12) (aA e 13) (aA e 14) (aA e 15) (aA e 16) (aA e 17) (aA e 18) h x K:=z9X
def z07 (q2:ACode):ACode:=(.seq (rg [mV 2 cF] [0])
(.seq (rg [mV 19 0,
uO 20 (.build [.sl0 none,.p (.int .i64 0)] [(0,1,19)]),
uO 21 (.box 20),
mV 3 21] [3])
(.seq (rg [mV 22 3,
cL 23 YJ [22],
uO 4 (.alloc [.sl0 (some 2),.sl0 (some 3),.sl0 (some 2)]),
wO (.store (some 3) 4 23)] [3,4])
(.seq (rg [mV 24 3,
lD 25 (some 3) 4,
cL 26 ZJ [24,25],
mV 5 26] [4,5])
(.seq (rg [lD 28 (some 3) 4,
mV 29 5,
cL 30 rH [28,29],
mV 27 30,
eX 31 27 0,
eX 32 27 1,
mV 6 31,
mV 7 32] [4,5,6,7])
(.seq (rg [lD 34 (some 3) 4,
mV 35 5,
cL 36 PJ [34,35],
mV 33 36,
eX 37 33 0,
eX 38 33 1,
mV 8 37,
mV 9 38] [4,5,6,7,8,9])
(.seq (rg [lD 40 (some 3) 4,
mV 41 5,
cL 42 QJ [40,41],
mV 39 42,
eX 43 39 0,
eX 44 39 1,
mV 10 43,
mV 11 44] [4,5,6,7,8,9,10,11])
(.seq (rg [lD 46 (some 3) 4,
cL 47 TJ [46],
mV 45 47,
eX 48 45 0,
eX 49 45 1,
mV 12 48,
mV 13 49] [4,5,6,7,8,9,10,11,12,13])
(.seq (rg [lD 50 (some 3) 4,
mV 51 5,
cL 52 cK [50,51],
mV 14 52] [4,5,6,7,8,9,10,11,12,13,14])
(.seq (rg [mV 15 (.c (.p (.sl none [])))] [4,5,6,7,8,9,10,11,12,13,14,15])
(.seq (rg [mV 16 (.c (.p (.sl none []))),
mV 17 (.c (.p (.sl none []))),
mV 18 (.c (.p (.sl none [])))] [4,5,6,7,8,9,10,11,12,13,14,15,16,17,18])
(.seq (.seq (rg [mV 53 14,
bN 54 .eql 53 (cI 0)] [4,5,6,7,8,9,10,11,12,13,14,15,16,17,18,54])
(.cond 54 (dr [dF (lD 55 (some 3) 4) [4],
dF (mV 56 5) [5],
dT (cL 57 iK [55,56]) [55,56],
dA (lD 58 (some 3) 4) [4] false [2] [],
dF (mV 59 5) [5],
dT (cL 60 dK [58,59]) [58,59],
dA (lD 61 (some 3) 4) [4] false [2,5] [],
dF (mV 62 5) [5],
dT (cL 63 eK [61,62]) [61,62],
dF (mV 15 57) [57],
dF (mV 16 60) [60],
dF (mV 17 63) [63]] [4,5,6,7,8,9,10,11,12,13,14,15,16,17,18])
.skip))
q2))))))))))))
def xT:AFun:=⟨1,[.t 2],z07 GR,false,false⟩
def CJ (C:Hd)(gl:GL)(q2:ACode)(v0:AV)(h:bA)(x:Esc)(K:KT):Prop:=
 pK (BC [.sl0 none,.p (.int .i64 0)] [(0,1,v0)]) fun t1=>
 wK (dB t1 h) fun t2 h3 y4=>
 C YJ [t2] h3 fun t5 h6 y7=>
 alK [.sl0 (some 2),.sl0 (some 3),.sl0 (some 2)] h6 fun t8 h9 y10=>
 wK (OA (some 3) t8 t5 h9) fun t11 h12 y13=>
 pK (eA (some 3) t8 h12) fun t14=>
 C ZJ [t2,t14] h12 fun t15 h16 y17=>
 pK (eA (some 3) t8 h16) fun t18=>
 C rH [t18,t15] h16 fun t19 h20 y21=>
 pK (iC t19 0) fun t22=>
 pK (iC t19 1) fun t23=>
 pK (eA (some 3) t8 h20) fun t24=>
 C PJ [t24,t15] h20 fun t25 h26 y27=>
 pK (iC t25 0) fun t28=>
 pK (iC t25 1) fun t29=>
 pK (eA (some 3) t8 h26) fun t30=>
 C QJ [t30,t15] h26 fun t31 h32 y33=>
 pK (iC t31 0) fun t34=>
 pK (iC t31 1) fun t35=>
 pK (eA (some 3) t8 h32) fun t36=>
 C TJ [t36] h32 fun t37 h38 y39=>
 pK (iC t37 0) fun t40=>
 pK (iC t37 1) fun t41=>
 pK (eA (some 3) t8 h38) fun t42=>
 C cK [t42,t15] h38 fun t43 h44 y45=>
 pK (jA .eql t43 (AI 0)) fun t46=>
 oA t46 (pK (eA (some 3) t8 h44) fun t47=>
 DB C iK [t47,t15] h44 fun t48 h49 y50=>
 pK (eA (some 3) t8 h49) fun t51=>
 (pK (eA (some 3) t8 h44) fun v=>(fun u (g1:bA) (y1:Esc)=>u=t51∧g1=h44∧y1=[]) v h44 [])∧(DB C dK [t51,t15] h49 fun t52 h53 y54=>
 pK (eA (some 3) t8 h53) fun t55=>
 (pK (eA (some 3) t8 h44) fun v=>(fun u (g1:bA) (y1:Esc)=>u=t55∧g1=h44∧y1=[]) v h44 [])∧((pK (eA (some 3) t8 h49) fun v=>(fun u (g1:bA) (y1:Esc)=>u=t55∧g1=h49∧y1=[]) v h49 [])∧(DB C eK [t55,t15] h53 fun t56 h57 y58=>
 NW C gl q2 ⟨[(4,t8),(5,t15),(6,t22),(7,t23),(8,t28),(9,t29),(10,t34),(11,t35),(12,t40),(13,t41),(14,t43),(15,t48),(16,t52),(17,t56),(18,(.p (.sl none [])))],h57,(y58++(y54++(y50++(y45++(y39++(y33++(y27++(y21++(y17++(y13++(y10++(y7++(y4++x)))))))))))))⟩ K))))
 (NW C gl q2 ⟨[(4,t8),(5,t15),(6,t22),(7,t23),(8,t28),(9,t29),(10,t34),(11,t35),(12,t40),(13,t41),(14,t43),(15,(.p (.sl none []))),(16,(.p (.sl none []))),(17,(.p (.sl none []))),(18,(.p (.sl none []))),(54,t46)],h44,(y45++(y39++(y33++(y27++(y21++(y17++(y13++(y10++(y7++(y4++x))))))))))⟩ K)
theorem z9W {C gl q2 v0 h x K}:NW C gl (z07 q2) ⟨enter [v0],h,x⟩ K=CJ C gl q2 v0 h x K:=by kernel_rfl
theorem zgy {C gl v0 h x K}:NW C gl xT.body ⟨enter [v0],h,x⟩ K=CJ C gl GR v0 h x K:=z9W
def VX:ACode:=.pr [0,2,3,16,17,18] (rg [bN 34 .add 18 (cI 1),
mV 18 34] [0,2,3,16,17,18])
def z3Q (C:Hd)(gl:GL)(v0 v2 v3 v16 v17 v18:AV)(h:bA)(x:Esc)(K:KT):Prop:=
 pK (jA .add v18 (AI 1)) fun t1=>
 K .normal ⟨[(0,v0),(2,v2),(3,v3),(16,v16),(17,v17),(18,t1)],h,x⟩
theorem zg4 {C gl e h x K}:NW C gl VX ⟨e,h,x⟩ K=z3Q C gl (aA e 0) (aA e 2) (aA e 3) (aA e 16) (aA e 17) (aA e 18) h x K:=by kernel_rfl
def z0G (q1:ACode):ACode:=.pr [0,2,3,16,17,18] (.seq (rg [bN 19 .lss 18 17] [0,2,3,16,17,18,19])
(.seq (.cond 19 .skip
(.exit 0))
(.seq (.block 1 (.seq (rg [iA 20 none 16 18,
lD 21 none 20,
mV 5 21] [0,2,3,5,16,17,18])
(.seq (rg [mV 22 0,
cL 23 xC [22,(cI 6)],
uO 24 (.un .not 23)] [0,2,3,5,16,17,18,24])
(.cond 24 (dr [dF (fA 25 0 none 3) [3],
dF (lD 26 none 25) [25],
dF (mV 27 5) [5],
dF (mV 28 0) [0],
dA (cL 29 wI [28]) [28] true [] [1],
dF (uO 30 (.build [.p (.str []),.sl0 (some 4)] [(0,1,27),(1,1,29)])) [27,29],
dA (uO 31 (.uns 9 3 [30])) [30] true [] [1],
dT (uO 32 (.uns 11 3 [26,31])) [26,31],
dF (fA 33 0 none 3) [3],
dT (wO (.store none 33 32)) [33,32]] [0,2,3,16,17,18])
.skip))))
q1)))
def TI:ACode:=z0G VX
def EV (C:Hd)(gl:GL)(q1:ACode)(v0 v2 v3 v16 v17 v18:AV)(h:bA)(x:Esc)(K:KT):Prop:=
 pK (jA .lss v18 v17) fun t1=>
 oA t1 (pK (tA none v16 v18 h) fun t2=>
 pK (eA none t2 h) fun t3=>
 C xC [v0,(AI 6)] h fun t4 h5 y6=>
 pK (oUn .not t4) fun t7=>
 oA t7 (pK (mA 0 none v3) fun t8=>
 pK (eA none t8 h5) fun t9=>
 DB C wI [v0] h5 fun t10 h11 y12=>
 (pK (eA none t8 h11) fun v=>(fun u (g1:bA) (y1:Esc)=>u=t9∧g1=h11∧y1=[]) v h11 [])∧(pK (BC [.p (.str []),.sl0 (some 4)] [(0,1,t3),(1,1,t10)]) fun t13=>
 wK (KE 9 3 [t13] h11) fun t14 h15 y16=>
 (pK (eA none t8 h15) fun v=>(fun u (g1:bA) (y1:Esc)=>u=t9∧g1=h15∧y1=[]) v h15 [])∧(wK (KE 11 3 [t9,t14] h15) fun t17 h18 y19=>
 pK (mA 0 none v3) fun t20=>
 wK (OA none t20 t17 h18) fun t21 h22 y23=>
 NW C gl q1 ⟨[(0,v0),(2,v2),(3,v3),(16,v16),(17,v17),(18,v18)],h22,(y23++(y19++(y16++(y12++(y6++x)))))⟩ K)))
 (NW C gl q1 ⟨[(0,v0),(2,v2),(3,v3),(5,t3),(16,v16),(17,v17),(18,v18),(24,t7)],h5,(y6++x)⟩ K))
 (K (.exit 0) ⟨[(0,v0),(2,v2),(3,v3),(16,v16),(17,v17),(18,v18),(19,t1)],h,x⟩)
theorem zaf {C gl q1 e h x K}:NW C gl (z0G q1) ⟨e,h,x⟩ K=EV C gl q1 (aA e 0) (aA e 2) (aA e 3) (aA e 16) (aA e 17) (aA e 18) h x K:=by kernel_rfl
theorem zg6 {C gl e h x K}:NW C gl TI ⟨e,h,x⟩ K=EV C gl VX (aA e 0) (aA e 2) (aA e 3) (aA e 16) (aA e 17) (aA e 18) h x K:=zaf
theorem zkT {C gl e h x K}:NW C gl (.loop (.scope TI)) ⟨e,h,x⟩ K=GA C gl (.scope TI) K [(0,aA e 0),(2,aA e 2),(3,aA e 3),(16,aA e 16),(17,aA e 17),(18,aA e 18)] h x:=vB
def WX:ACode:=.pr [0,2,3,6,8,36,37,38,43,44,45] (rg [bN 67 .add 45 (cI 1),
mV 45 67] [0,2,3,6,8,36,37,38,43,44,45])
def z3R (C:Hd)(gl:GL)(v0 v2 v3 v6 v8 v36 v37 v38 v43 v44 v45:AV)(h:bA)(x:Esc)(K:KT):Prop:=
 pK (jA .add v45 (AI 1)) fun t1=>
 K .normal ⟨[(0,v0),(2,v2),(3,v3),(6,v6),(8,v8),(36,v36),(37,v37),(38,v38),(43,v43),(44,v44),(45,t1)],h,x⟩
theorem zg7 {C gl e h x K}:NW C gl WX ⟨e,h,x⟩ K=z3R C gl (aA e 0) (aA e 2) (aA e 3) (aA e 6) (aA e 8) (aA e 36) (aA e 37) (aA e 38) (aA e 43) (aA e 44) (aA e 45) h x K:=by kernel_rfl
def z0H (q3:ACode):ACode:=.pr [0,2,3,6,8,36,37,38,43,44,45] (.seq (rg [bN 46 .lss 45 44] [0,2,3,6,8,36,37,38,43,44,45,46])
(.seq (.cond 46 .skip
(.exit 4))
(.seq (.block 5 (.seq (rg [iA 47 (some 4) 43 45,
lD 48 (some 4) 47,
uO 10 (.alloc [.p (.int .i64 0),.p (.str []),.p (.int .i64 0),.p (.int .i64 0)]),
wO (.store (some 4) 10 48)] [0,2,3,6,8,10,36,37,38,43,44,45])
(.seq (rg [fA 49 0 none 8,
lD 50 none 49,
fA 51 1 none 10,
lD 52 none 51,
uO 53 (.build [.p (.str []),.p (.str [])] [(0,1,50),(1,1,52)]),
uO 11 (.alloc [.p (.str []),.p (.str [])]),
wO (.store (some 2) 11 53)] [0,2,3,6,8,10,11,36,37,38,43,44,45])
(.seq (rg [fA 54 1 none 10,
lD 55 none 54,
bN 56 .neq 55 (cS []),
mV 57 56,
gD 58 57 true (.mv 6),
gD 59 57 true (.load (some 2) 11),
gD 60 57 true (.call sK [58,59]),
gD 61 57 true (.un .not 60),
uO 62 (.pick 57 61 cF)] [0,2,3,6,8,11,36,37,38,43,44,45,62])
(.cond 62 (rg [mV 63 6,
lD 64 (some 2) 11,
uO 65 (.bsl false (some 2) 1 (.agg [.str [],.str []]) [(0,64)]),
uO 66 (.app (some 2) 63 65),
mV 6 66] [0,2,3,6,8,36,37,38,43,44,45])
.skip)))))
q3)))
def kL:ACode:=z0H WX
def aQ (C:Hd)(gl:GL)(q3:ACode)(v0 v2 v3 v6 v8 v36 v37 v38 v43 v44 v45:AV)(h:bA)(x:Esc)(K:KT):Prop:=
 pK (jA .lss v45 v44) fun t1=>
 oA t1 (pK (tA (some 4) v43 v45 h) fun t2=>
 pK (eA (some 4) t2 h) fun t3=>
 alK [.p (.int .i64 0),.p (.str []),.p (.int .i64 0),.p (.int .i64 0)] h fun t4 h5 y6=>
 wK (OA (some 4) t4 t3 h5) fun t7 h8 y9=>
 pK (mA 0 none v8) fun t10=>
 pK (eA none t10 h8) fun t11=>
 pK (mA 1 none t4) fun t12=>
 pK (eA none t12 h8) fun t13=>
 pK (BC [.p (.str []),.p (.str [])] [(0,1,t11),(1,1,t13)]) fun t14=>
 alK [.p (.str []),.p (.str [])] h8 fun t15 h16 y17=>
 wK (OA (some 2) t15 t14 h16) fun t18 h19 y20=>
 pK (mA 1 none t4) fun t21=>
 pK (eA none t21 h19) fun t22=>
 pK (jA .neq t22 (.p (.str []))) fun t23=>
 gM t23 true v6 h19 fun t24 h25 y26=>
 gP t23 true (eA (some 2) t15 h25) h25 fun t27 h28 y29=>
 gV t23 true h28 (C sK [t24,t27] h28) fun t30 h31 y32=>
 gP t23 true (oUn .not t30) h31 fun t33 h34 y35=>
 pK (MA t23 t33 (AB false)) fun t36=>
 oA t36 (pK (eA (some 2) t15 h34) fun t37=>
 wK (jB false (some 2) 1 (.agg [.str [],.str []]) [(0,t37)] h34) fun t38 h39 y40=>
 wK (LC (some 2) v6 t38 h39) fun t41 h42 y43=>
 NW C gl q3 ⟨[(0,v0),(2,v2),(3,v3),(6,t41),(8,v8),(36,v36),(37,v37),(38,v38),(43,v43),(44,v44),(45,v45)],h42,(y43++(y40++(y35++(y32++(y29++(y26++(y20++(y17++(y9++(y6++x))))))))))⟩ K)
 (NW C gl q3 ⟨[(0,v0),(2,v2),(3,v3),(6,v6),(8,v8),(11,t15),(36,v36),(37,v37),(38,v38),(43,v43),(44,v44),(45,v45),(62,t36)],h34,(y35++(y32++(y29++(y26++(y20++(y17++(y9++(y6++x))))))))⟩ K))
 (K (.exit 4) ⟨[(0,v0),(2,v2),(3,v3),(6,v6),(8,v8),(36,v36),(37,v37),(38,v38),(43,v43),(44,v44),(45,v45),(46,t1)],h,x⟩)
theorem zag {C gl q3 e h x K}:NW C gl (z0H q3) ⟨e,h,x⟩ K=aQ C gl q3 (aA e 0) (aA e 2) (aA e 3) (aA e 6) (aA e 8) (aA e 36) (aA e 37) (aA e 38) (aA e 43) (aA e 44) (aA e 45) h x K:=by kernel_rfl
theorem z5v {C gl e h x K}:NW C gl kL ⟨e,h,x⟩ K=aQ C gl WX (aA e 0) (aA e 2) (aA e 3) (aA e 6) (aA e 8) (aA e 36) (aA e 37) (aA e 38) (aA e 43) (aA e 44) (aA e 45) h x K:=zag
theorem zkU {C gl e h x K}:NW C gl (.loop (.scope kL)) ⟨e,h,x⟩ K=GA C gl (.scope kL) K [(0,aA e 0),(2,aA e 2),(3,aA e 3),(6,aA e 6),(8,aA e 8),(36,aA e 36),(37,aA e 37),(38,aA e 38),(43,aA e 43),(44,aA e 44),(45,aA e 45)] h x:=vB
def XX:ACode:=.pr [0,2,3,6,36,37,38] (rg [bN 68 .add 38 (cI 1),
mV 38 68] [0,2,3,6,36,37,38])
def z3S (C:Hd)(gl:GL)(v0 v2 v3 v6 v36 v37 v38:AV)(h:bA)(x:Esc)(K:KT):Prop:=
 pK (jA .add v38 (AI 1)) fun t1=>
 K .normal ⟨[(0,v0),(2,v2),(3,v3),(6,v6),(36,v36),(37,v37),(38,t1)],h,x⟩
theorem zg8 {C gl e h x K}:NW C gl XX ⟨e,h,x⟩ K=z3S C gl (aA e 0) (aA e 2) (aA e 3) (aA e 6) (aA e 36) (aA e 37) (aA e 38) h x K:=by kernel_rfl
def z0I (q4 q5:ACode):ACode:=.pr [0,2,3,6,36,37,38] (.seq (rg [bN 39 .lss 38 37] [0,2,3,6,36,37,38,39])
(.seq (.cond 39 .skip
(.exit 2))
(.seq (.block 3 (.seq (rg [iA 40 (some 2) 36 38,
lD 41 (some 2) 40,
uO 8 (.alloc [.p (.str []),.sl0 (some 4)]),
wO (.store (some 2) 8 41)] [0,2,3,6,8,36,37,38])
(.seq (rg [fA 42 1 none 8,
lD 43 none 42,
lN 44 43,
mV 45 (cI 0)] [0,2,3,6,8,36,37,38,43,44,45])
(.block 4 (.loop (.scope q4))))))
q5)))
def lL:ACode:=z0I kL XX
def FV (C:Hd)(gl:GL)(q4 q5:ACode)(v0 v2 v3 v6 v36 v37 v38:AV)(h:bA)(x:Esc)(K:KT):Prop:=
 pK (jA .lss v38 v37) fun t1=>
 oA t1 (pK (tA (some 2) v36 v38 h) fun t2=>
 pK (eA (some 2) t2 h) fun t3=>
 alK [.p (.str []),.sl0 (some 4)] h fun t4 h5 y6=>
 wK (OA (some 2) t4 t3 h5) fun t7 h8 y9=>
 pK (mA 1 none t4) fun t10=>
 pK (eA none t10 h8) fun t11=>
 pK (xA t11) fun t12=>
 NW C gl (.loop (.scope q4)) ⟨[(0,v0),(2,v2),(3,v3),(6,v6),(8,t4),(36,v36),(37,v37),(38,v38),(43,t11),(44,t12),(45,(AI 0))],h8,(y9++(y6++x))⟩ (wA 4 (wA 3 (QA C gl q5 K))))
 (K (.exit 2) ⟨[(0,v0),(2,v2),(3,v3),(6,v6),(36,v36),(37,v37),(38,v38),(39,t1)],h,x⟩)
theorem zah {C gl q4 q5 e h x K}:NW C gl (z0I q4 q5) ⟨e,h,x⟩ K=FV C gl q4 q5 (aA e 0) (aA e 2) (aA e 3) (aA e 6) (aA e 36) (aA e 37) (aA e 38) h x K:=by kernel_rfl
theorem zg9 {C gl e h x K}:NW C gl lL ⟨e,h,x⟩ K=FV C gl kL XX (aA e 0) (aA e 2) (aA e 3) (aA e 6) (aA e 36) (aA e 37) (aA e 38) h x K:=zah
theorem zkV {C gl e h x K}:NW C gl (.loop (.scope lL)) ⟨e,h,x⟩ K=GA C gl (.scope lL) K [(0,aA e 0),(2,aA e 2),(3,aA e 3),(6,aA e 6),(36,aA e 36),(37,aA e 37),(38,aA e 38)] h x:=vB
def YX:ACode:=.pr [0,2,3,69,70,71] (rg [bN 91 .add 71 (cI 1),
mV 71 91] [0,2,3,69,70,71])
def z3T (C:Hd)(gl:GL)(v0 v2 v3 v69 v70 v71:AV)(h:bA)(x:Esc)(K:KT):Prop:=
 pK (jA .add v71 (AI 1)) fun t1=>
 K .normal ⟨[(0,v0),(2,v2),(3,v3),(69,v69),(70,v70),(71,t1)],h,x⟩
theorem zgA {C gl e h x K}:NW C gl YX ⟨e,h,x⟩ K=z3T C gl (aA e 0) (aA e 2) (aA e 3) (aA e 69) (aA e 70) (aA e 71) h x K:=by kernel_rfl
def z0J (q7:ACode):ACode:=.pr [0,2,3,69,70,71] (.seq (rg [bN 72 .lss 71 70] [0,2,3,69,70,71,72])
(.seq (.cond 72 .skip
(.exit 6))
(.seq (.block 7 (.seq (rg [iA 73 (some 2) 69 71,
lD 74 (some 2) 73,
uO 13 (.alloc [.p (.str []),.p (.str [])]),
wO (.store (some 2) 13 74)] [0,2,3,13,69,70,71])
(.seq (rg [mV 75 0,
cL 76 xC [75,(cI 5)],
uO 77 (.un .not 76)] [0,2,3,13,69,70,71,77])
(.cond 77 (dr [dF (fA 78 1 none 3) [3],
dF (lD 79 none 78) [78],
dF (mV 80 0) [0],
dF (uO 81 (.bsl false none 4 (.str []) [(0,(cS [110,49])),(1,(cS [110,49])),(2,(cS [110,50])),(3,(cS [110,51]))])) [],
dA (cL 82 IC [80,81]) [80,81] true [] [1],
dF (uO 83 (.iaddra 2 none 13 (cI 0))) [13],
dA (lD 84 none 83) [83] false [4] [],
dF (uO 85 (.iaddra 2 none 13 (cI 1))) [13],
dA (lD 86 none 85) [85] false [4] [],
dF (uO 87 (.build [.p (.str []),.p (.str []),.p (.str [])] [(0,1,82),(1,1,84),(2,1,86)])) [82,84,86],
dF (uO 88 (.bsl false (some 3) 1 (.agg [.str [],.str [],.str []]) [(0,87)])) [87],
dT (uO 89 (.app (some 3) 79 88)) [79,88],
dF (fA 90 1 none 3) [3],
dT (wO (.store none 90 89)) [90,89]] [0,2,3,69,70,71])
.skip))))
q7)))
def mL:ACode:=z0J YX
def GV (C:Hd)(gl:GL)(q7:ACode)(v0 v2 v3 v69 v70 v71:AV)(h:bA)(x:Esc)(K:KT):Prop:=
 pK (jA .lss v71 v70) fun t1=>
 oA t1 (pK (tA (some 2) v69 v71 h) fun t2=>
 pK (eA (some 2) t2 h) fun t3=>
 alK [.p (.str []),.p (.str [])] h fun t4 h5 y6=>
 wK (OA (some 2) t4 t3 h5) fun t7 h8 y9=>
 C xC [v0,(AI 5)] h8 fun t10 h11 y12=>
 pK (oUn .not t10) fun t13=>
 oA t13 (pK (mA 1 none v3) fun t14=>
 pK (eA none t14 h11) fun t15=>
 wK (jB false none 4 (.str []) [(0,(.p (.str [110,49]))),(1,(.p (.str [110,49]))),(2,(.p (.str [110,50]))),(3,(.p (.str [110,51])))] h11) fun t16 h17 y18=>
 (h17=h11∧y18=[])∧(DB C IC [v0,t16] h17 fun t19 h20 y21=>
 (pK (eA none t14 h20) fun v=>(fun u (g1:bA) (y1:Esc)=>u=t15∧g1=h20∧y1=[]) v h20 [])∧(pK (zF 2 none t4 (AI 0)) fun t22=>
 pK (eA none t22 h20) fun t23=>
 (pK (eA none t22 h17) fun v=>(fun u (g1:bA) (y1:Esc)=>u=t23∧g1=h17∧y1=[]) v h17 [])∧(pK (zF 2 none t4 (AI 1)) fun t24=>
 pK (eA none t24 h20) fun t25=>
 (pK (eA none t24 h17) fun v=>(fun u (g1:bA) (y1:Esc)=>u=t25∧g1=h17∧y1=[]) v h17 [])∧(pK (BC [.p (.str []),.p (.str []),.p (.str [])] [(0,1,t19),(1,1,t23),(2,1,t25)]) fun t26=>
 wK (jB false (some 3) 1 (.agg [.str [],.str [],.str []]) [(0,t26)] h20) fun t27 h28 y29=>
 (h28=h20∧y29=[])∧(wK (LC (some 3) t15 t27 h28) fun t30 h31 y32=>
 pK (mA 1 none v3) fun t33=>
 wK (OA none t33 t30 h31) fun t34 h35 y36=>
 NW C gl q7 ⟨[(0,v0),(2,v2),(3,v3),(69,v69),(70,v70),(71,v71)],h35,(y36++(y32++(y29++(y21++(y18++(y12++(y9++(y6++x))))))))⟩ K))))))
 (NW C gl q7 ⟨[(0,v0),(2,v2),(3,v3),(13,t4),(69,v69),(70,v70),(71,v71),(77,t13)],h11,(y12++(y9++(y6++x)))⟩ K))
 (K (.exit 6) ⟨[(0,v0),(2,v2),(3,v3),(69,v69),(70,v70),(71,v71),(72,t1)],h,x⟩)
theorem zai {C gl q7 e h x K}:NW C gl (z0J q7) ⟨e,h,x⟩ K=GV C gl q7 (aA e 0) (aA e 2) (aA e 3) (aA e 69) (aA e 70) (aA e 71) h x K:=by kernel_rfl
theorem zgB {C gl e h x K}:NW C gl mL ⟨e,h,x⟩ K=GV C gl YX (aA e 0) (aA e 2) (aA e 3) (aA e 69) (aA e 70) (aA e 71) h x K:=zai
theorem zkW {C gl e h x K}:NW C gl (.loop (.scope mL)) ⟨e,h,x⟩ K=GA C gl (.scope mL) K [(0,aA e 0),(2,aA e 2),(3,aA e 3),(69,aA e 69),(70,aA e 70),(71,aA e 71)] h x:=vB
def ZX:ACode:=.pr [0,2,3,96,97,98] (rg [bN 113 .add 98 (cI 1),
mV 98 113] [0,2,3,96,97,98])
def z3U (C:Hd)(gl:GL)(v0 v2 v3 v96 v97 v98:AV)(h:bA)(x:Esc)(K:KT):Prop:=
 pK (jA .add v98 (AI 1)) fun t1=>
 K .normal ⟨[(0,v0),(2,v2),(3,v3),(96,v96),(97,v97),(98,t1)],h,x⟩
theorem zgC {C gl e h x K}:NW C gl ZX ⟨e,h,x⟩ K=z3U C gl (aA e 0) (aA e 2) (aA e 3) (aA e 96) (aA e 97) (aA e 98) h x K:=by kernel_rfl
def z0B (q9:ACode):ACode:=.pr [0,2,3,96,97,98] (.seq (rg [bN 99 .lss 98 97] [0,2,3,96,97,98,99])
(.seq (.cond 99 .skip
(.exit 8))
(.seq (.block 9 (.seq (rg [iA 100 none 96 98,
lD 101 none 100,
mV 15 101] [0,2,3,15,96,97,98])
(.seq (rg [mV 102 0,
cL 103 xC [102,(cI 4)]] [0,2,3,15,96,97,98,103])
(.cond 103 (dr [dF (fA 104 2 none 3) [3],
dF (lD 105 none 104) [104],
dF (mV 106 15) [15],
dF (mV 107 0) [0],
dA (cL 108 QB [107,(cI 2)]) [107] true [] [1],
dF (uO 109 (.build [.p (.str []),.p (.int .i64 0)] [(0,1,106),(1,1,108)])) [106,108],
dF (uO 110 (.bsl false (some 2) 1 (.agg [.str [],.int .i64 0]) [(0,109)])) [109],
dT (uO 111 (.app (some 2) 105 110)) [105,110],
dF (fA 112 2 none 3) [3],
dT (wO (.store none 112 111)) [112,111]] [0,2,3,96,97,98])
.skip))))
q9)))
def jL:ACode:=z0B ZX
def CV (C:Hd)(gl:GL)(q9:ACode)(v0 v2 v3 v96 v97 v98:AV)(h:bA)(x:Esc)(K:KT):Prop:=
 pK (jA .lss v98 v97) fun t1=>
 oA t1 (pK (tA none v96 v98 h) fun t2=>
 pK (eA none t2 h) fun t3=>
 C xC [v0,(AI 4)] h fun t4 h5 y6=>
 oA t4 (pK (mA 2 none v3) fun t7=>
 pK (eA none t7 h5) fun t8=>
 DB C QB [v0,(AI 2)] h5 fun t9 h10 y11=>
 (pK (eA none t7 h10) fun v=>(fun u (g1:bA) (y1:Esc)=>u=t8∧g1=h10∧y1=[]) v h10 [])∧(pK (BC [.p (.str []),.p (.int .i64 0)] [(0,1,t3),(1,1,t9)]) fun t12=>
 wK (jB false (some 2) 1 (.agg [.str [],.int .i64 0]) [(0,t12)] h10) fun t13 h14 y15=>
 (h14=h10∧y15=[])∧(wK (LC (some 2) t8 t13 h14) fun t16 h17 y18=>
 pK (mA 2 none v3) fun t19=>
 wK (OA none t19 t16 h17) fun t20 h21 y22=>
 NW C gl q9 ⟨[(0,v0),(2,v2),(3,v3),(96,v96),(97,v97),(98,v98)],h21,(y22++(y18++(y15++(y11++(y6++x)))))⟩ K)))
 (NW C gl q9 ⟨[(0,v0),(2,v2),(3,v3),(15,t3),(96,v96),(97,v97),(98,v98),(103,t4)],h5,(y6++x)⟩ K))
 (K (.exit 8) ⟨[(0,v0),(2,v2),(3,v3),(96,v96),(97,v97),(98,v98),(99,t1)],h,x⟩)
theorem zaa {C gl q9 e h x K}:NW C gl (z0B q9) ⟨e,h,x⟩ K=CV C gl q9 (aA e 0) (aA e 2) (aA e 3) (aA e 96) (aA e 97) (aA e 98) h x K:=by kernel_rfl
theorem zg5 {C gl e h x K}:NW C gl jL ⟨e,h,x⟩ K=CV C gl ZX (aA e 0) (aA e 2) (aA e 3) (aA e 96) (aA e 97) (aA e 98) h x K:=zaa
theorem zkS {C gl e h x K}:NW C gl (.loop (.scope jL)) ⟨e,h,x⟩ K=GA C gl (.scope jL) K [(0,aA e 0),(2,aA e 2),(3,aA e 3),(96,aA e 96),(97,aA e 97),(98,aA e 98)] h x:=vB
def IR:ACode:=.pr [2,3] (.seq (rg [lD 118 (some 3) 3,
wO (.store (some 3) 2 118)] [2])
.ret)
def OM (C:Hd)(gl:GL)(v2 v3:AV)(h:bA)(x:Esc)(K:KT):Prop:=
 pK (eA (some 3) v3 h) fun t1=>
 wK (OA (some 3) v2 t1 h) fun t2 h3 y4=>
 K .ret ⟨[(2,v2)],h3,(y4++x)⟩
theorem MQ {C gl e h x K}:NW C gl IR ⟨e,h,x⟩ K=OM C gl (aA e 2) (aA e 3) h x K:=by kernel_rfl
def z0C (q11:ACode):ACode:=.pr [0,2,3] (.seq (.seq (rg [mV 114 0,
cL 115 xC [114,(cI 8)]] [0,2,3,115])
(.cond 115 (rg [mV 116 0,
cL 117 sF [116,3]] [2,3])
.skip))
q11)
def JR:ACode:=z0C IR
def kI (C:Hd)(gl:GL)(q11:ACode)(v0 v2 v3:AV)(h:bA)(x:Esc)(K:KT):Prop:=
 C xC [v0,(AI 8)] h fun t1 h2 y3=>
 oA t1 (C sF [v0,v3] h2 fun t4 h5 y6=>
 NW C gl q11 ⟨[(2,v2),(3,v3)],h5,(y6++(y3++x))⟩ K)
 (NW C gl q11 ⟨[(0,v0),(2,v2),(3,v3),(115,t1)],h2,(y3++x)⟩ K)
theorem zab {C gl q11 e h x K}:NW C gl (z0C q11) ⟨e,h,x⟩ K=kI C gl q11 (aA e 0) (aA e 2) (aA e 3) h x K:=by kernel_rfl
theorem NQ {C gl e h x K}:NW C gl JR ⟨e,h,x⟩ K=kI C gl IR (aA e 0) (aA e 2) (aA e 3) h x K:=zab
def z0D (q10 q12:ACode):ACode:=.pr [0,2,3] (.seq (rg [fA 92 1 none 3,
lD 93 none 92,
cL 94 II [93,(.f wH)]] [0,2,3])
(.seq (.seq (rg [lD 95 (some 3) 3,
cL 96 AE [95],
lN 97 96,
mV 98 (cI 0)] [0,2,3,96,97,98])
(.block 8 (.loop (.scope q10))))
q12))
def KR:ACode:=z0D jL JR
def DJ (C:Hd)(gl:GL)(q10 q12:ACode)(v0 v2 v3:AV)(h:bA)(x:Esc)(K:KT):Prop:=
 pK (mA 1 none v3) fun t1=>
 pK (eA none t1 h) fun t2=>
 C II [t2,(.fn wH [])] h fun t3 h4 y5=>
 pK (eA (some 3) v3 h4) fun t6=>
 C AE [t6] h4 fun t7 h8 y9=>
 pK (xA t7) fun t10=>
 NW C gl (.loop (.scope q10)) ⟨[(0,v0),(2,v2),(3,v3),(96,t7),(97,t10),(98,(AI 0))],h8,(y9++(y5++x))⟩ (wA 8 (QA C gl q12 K))
theorem zac {C gl q10 q12 e h x K}:NW C gl (z0D q10 q12) ⟨e,h,x⟩ K=DJ C gl q10 q12 (aA e 0) (aA e 2) (aA e 3) h x K:=by kernel_rfl
theorem OQ {C gl e h x K}:NW C gl KR ⟨e,h,x⟩ K=DJ C gl jL JR (aA e 0) (aA e 2) (aA e 3) h x K:=zac
def z0E (q8 q13:ACode):ACode:=.pr [0,2,3,6] (.seq (.seq (rg [mV 69 6,
lN 70 69,
mV 71 (cI 0)] [0,2,3,69,70,71])
(.block 6 (.loop (.scope q8))))
q13)
def LR:ACode:=z0E mL KR
def EJ (C:Hd)(gl:GL)(q8 q13:ACode)(v0 v2 v3 v6:AV)(h:bA)(x:Esc)(K:KT):Prop:=
 pK (xA v6) fun t1=>
 NW C gl (.loop (.scope q8)) ⟨[(0,v0),(2,v2),(3,v3),(69,v6),(70,t1),(71,(AI 0))],h,x⟩ (wA 6 (QA C gl q13 K))
theorem zad {C gl q8 q13 e h x K}:NW C gl (z0E q8 q13) ⟨e,h,x⟩ K=EJ C gl q8 q13 (aA e 0) (aA e 2) (aA e 3) (aA e 6) h x K:=by kernel_rfl
theorem PQ {C gl e h x K}:NW C gl LR ⟨e,h,x⟩ K=EJ C gl mL KR (aA e 0) (aA e 2) (aA e 3) (aA e 6) h x K:=zad
def z0F (q6 q14:ACode):ACode:=.pr [0,2,3] (.seq (rg [uO 6 (.new0 (some 2))] [0,2,3,6])
(.seq (.seq (rg [fA 35 0 none 3,
lD 36 none 35,
lN 37 36,
mV 38 (cI 0)] [0,2,3,6,36,37,38])
(.block 2 (.loop (.scope q6))))
q14))
def SN:ACode:=z0F lL LR
def FJ (C:Hd)(gl:GL)(q6 q14:ACode)(v0 v2 v3:AV)(h:bA)(x:Esc)(K:KT):Prop:=
 nwK (some 2) h fun t1 h2 y3=>
 pK (mA 0 none v3) fun t4=>
 pK (eA none t4 h2) fun t5=>
 pK (xA t5) fun t6=>
 NW C gl (.loop (.scope q6)) ⟨[(0,v0),(2,v2),(3,v3),(6,t1),(36,t5),(37,t6),(38,(AI 0))],h2,(y3++x)⟩ (wA 2 (QA C gl q14 K))
theorem zae {C gl q6 q14 e h x K}:NW C gl (z0F q6 q14) ⟨e,h,x⟩ K=FJ C gl q6 q14 (aA e 0) (aA e 2) (aA e 3) h x K:=by kernel_rfl
theorem QQ {C gl e h x K}:NW C gl SN ⟨e,h,x⟩ K=FJ C gl lL LR (aA e 0) (aA e 2) (aA e 3) h x K:=zae
def z0A (q2 q15:ACode):ACode:=(.seq (rg [uO 2 (.uns 8 0 [(.c (.bt 3 3 0 0)),(.c (.sl0 (some 3))),(.c (.sl0 (some 2)))])] [0,2])
(.seq (rg [uO 3 (.uns 8 0 [(.c (.bt 3 3 0 0)),(.c (.sl0 (some 3))),(.c (.sl0 (some 2)))])] [0,2,3])
(.seq (.seq (rg [uO 16 (.bsl false none 3 (.str []) [(0,(cS [117])),(1,(cS [118])),(2,(cS [119]))]),
lN 17 16,
mV 18 (cI 0)] [0,2,3,16,17,18])
(.block 0 (.loop (.scope q2))))
q15)))
def zT:AFun:=⟨1,[.cell 2 (some 3)],z0A TI SN,false,false⟩
def ZP (C:Hd)(gl:GL)(q2 q15:ACode)(v0:AV)(h:bA)(x:Esc)(K:KT):Prop:=
 wK (KE 8 0 [.bt 3 3 0 0,.sl0 (some 3),.sl0 (some 2)] h) fun t1 h2 y3=>
 wK (KE 8 0 [.bt 3 3 0 0,.sl0 (some 3),.sl0 (some 2)] h2) fun t4 h5 y6=>
 wK (jB false none 3 (.str []) [(0,(.p (.str [117]))),(1,(.p (.str [118]))),(2,(.p (.str [119])))] h5) fun t7 h8 y9=>
 pK (xA t7) fun t10=>
 NW C gl (.loop (.scope q2)) ⟨[(0,v0),(2,t1),(3,t4),(16,t7),(17,t10),(18,(AI 0))],h8,(y9++(y6++(y3++x)))⟩ (wA 0 (QA C gl q15 K))
theorem z9Z {C gl q2 q15 v0 h x K}:NW C gl (z0A q2 q15) ⟨enter [v0],h,x⟩ K=ZP C gl q2 q15 v0 h x K:=by kernel_rfl
theorem zg3 {C gl v0 h x K}:NW C gl zT.body ⟨enter [v0],h,x⟩ K=ZP C gl TI SN v0 h x K:=z9Z
def nL:ACode:=.pr [0,5,8,10,11,12,18,19] (.seq (rg [bN 20 .lss 19 18] [0,5,8,10,11,12,18,19,20])
(.seq (.cond 20 .skip
(.exit 2))
(.seq (.block 3 (rg [mV 21 8,
mV 22 0,
uO 23 (.bsl false none 2 (.str []) [(0,(cS [48])),(1,(cS [49]))]),
cL 24 IC [22,23],
bN 25 .add 21 24,
mV 8 25] [0,5,8,10,11,12,18,19]))
(rg [bN 26 .add 19 (cI 1),
mV 19 26] [0,5,8,10,11,12,18,19]))))
def z3V (C:Hd)(gl:GL)(v0 v5 v8 v10 v11 v12 v18 v19:AV)(h:bA)(x:Esc)(K:KT):Prop:=
 pK (jA .lss v19 v18) fun t1=>
 oA t1 (wK (jB false none 2 (.str []) [(0,(.p (.str [48]))),(1,(.p (.str [49])))] h) fun t2 h3 y4=>
 C IC [v0,t2] h3 fun t5 h6 y7=>
 pK (jA .add v8 t5) fun t8=>
 pK (jA .add v19 (AI 1)) fun t9=>
 K .normal ⟨[(0,v0),(5,v5),(8,t8),(10,v10),(11,v11),(12,v12),(18,v18),(19,t9)],h6,(y7++(y4++x))⟩)
 (K (.exit 2) ⟨[(0,v0),(5,v5),(8,v8),(10,v10),(11,v11),(12,v12),(18,v18),(19,v19),(20,t1)],h,x⟩)
theorem zgF {C gl e h x K}:NW C gl nL ⟨e,h,x⟩ K=z3V C gl (aA e 0) (aA e 5) (aA e 8) (aA e 10) (aA e 11) (aA e 12) (aA e 18) (aA e 19) h x K:=by kernel_rfl
theorem zkX {C gl e h x K}:NW C gl (.loop nL) ⟨e,h,x⟩ K=GA C gl nL K [(0,aA e 0),(5,aA e 5),(8,aA e 8),(10,aA e 10),(11,aA e 11),(12,aA e 12),(18,aA e 18),(19,aA e 19)] h x:=jC
def aY:ACode:=.pr [0,5,8,10,11,12] (rg [mV 27 5,
mV 28 8,
uO 29 (.bsl false none 1 (.str []) [(0,28)]),
uO 30 (.app none 27 29),
mV 5 30] [0,5,10,11,12])
def z3W (C:Hd)(gl:GL)(v0 v5 v8 v10 v11 v12:AV)(h:bA)(x:Esc)(K:KT):Prop:=
 wK (jB false none 1 (.str []) [(0,v8)] h) fun t1 h2 y3=>
 wK (LC none v5 t1 h2) fun t4 h5 y6=>
 K .normal ⟨[(0,v0),(5,t4),(10,v10),(11,v11),(12,v12)],h5,(y6++(y3++x))⟩
theorem zgG {C gl e h x K}:NW C gl aY ⟨e,h,x⟩ K=z3W C gl (aA e 0) (aA e 5) (aA e 8) (aA e 10) (aA e 11) (aA e 12) h x K:=by kernel_rfl
def bY:ACode:=.pr [0,5,10,11,12] (rg [bN 31 .add 12 (cI 1),
mV 12 31] [0,5,10,11,12])
def z3X (C:Hd)(gl:GL)(v0 v5 v10 v11 v12:AV)(h:bA)(x:Esc)(K:KT):Prop:=
 pK (jA .add v12 (AI 1)) fun t1=>
 K .normal ⟨[(0,v0),(5,v5),(10,v10),(11,v11),(12,t1)],h,x⟩
theorem zgH {C gl e h x K}:NW C gl bY ⟨e,h,x⟩ K=z3X C gl (aA e 0) (aA e 5) (aA e 10) (aA e 11) (aA e 12) h x K:=by kernel_rfl
def z0L (q1 q2 q3:ACode):ACode:=.pr [0,5,10,11,12] (.seq (rg [bN 13 .lss 12 11] [0,5,10,11,12,13])
(.seq (.cond 13 .skip
(.exit 0))
(.seq (.block 1 (.seq (rg [iA 14 (some 2) 10 12,
lD 15 (some 2) 14,
uO 7 (.alloc [.p (.str []),.sl0 (some 4)]),
wO (.store (some 2) 7 15)] [0,5,7,10,11,12])
(.seq (rg [mV 8 (cS [])] [0,5,7,8,10,11,12])
(.seq (.seq (rg [fA 16 1 none 7,
lD 17 none 16,
lN 18 17,
mV 19 (cI 0)] [0,5,8,10,11,12,18,19])
(.block 2 (.loop q1)))
q2))))
q3)))
def oL:ACode:=z0L nL aY bY
def IV (C:Hd)(gl:GL)(q1 q2 q3:ACode)(v0 v5 v10 v11 v12:AV)(h:bA)(x:Esc)(K:KT):Prop:=
 pK (jA .lss v12 v11) fun t1=>
 oA t1 (pK (tA (some 2) v10 v12 h) fun t2=>
 pK (eA (some 2) t2 h) fun t3=>
 alK [.p (.str []),.sl0 (some 4)] h fun t4 h5 y6=>
 wK (OA (some 2) t4 t3 h5) fun t7 h8 y9=>
 pK (mA 1 none t4) fun t10=>
 pK (eA none t10 h8) fun t11=>
 pK (xA t11) fun t12=>
 NW C gl (.loop q1) ⟨[(0,v0),(5,v5),(8,(.p (.str []))),(10,v10),(11,v11),(12,v12),(18,t12),(19,(AI 0))],h8,(y9++(y6++x))⟩ (wA 2 (QA C gl q2 (wA 1 (QA C gl q3 K)))))
 (K (.exit 0) ⟨[(0,v0),(5,v5),(10,v10),(11,v11),(12,v12),(13,t1)],h,x⟩)
theorem zak {C gl q1 q2 q3 e h x K}:NW C gl (z0L q1 q2 q3) ⟨e,h,x⟩ K=IV C gl q1 q2 q3 (aA e 0) (aA e 5) (aA e 10) (aA e 11) (aA e 12) h x K:=by kernel_rfl
theorem zgI {C gl e h x K}:NW C gl oL ⟨e,h,x⟩ K=IV C gl nL aY bY (aA e 0) (aA e 5) (aA e 10) (aA e 11) (aA e 12) h x K:=zak
theorem zkY {C gl e h x K}:NW C gl (.loop (.scope oL)) ⟨e,h,x⟩ K=GA C gl (.scope oL) K [(0,aA e 0),(5,aA e 5),(10,aA e 10),(11,aA e 11),(12,aA e 12)] h x:=vB
def cY:ACode:=.pr [5] (.seq (rg [mV 56 5,
mV 4 56] [4])
.ret)
def z3Y (C:Hd)(gl:GL)(v5:AV)(h:bA)(x:Esc)(K:KT):Prop:=
 K .ret ⟨[(4,v5)],h,x⟩
theorem zgJ {C gl e h x K}:NW C gl cY ⟨e,h,x⟩ K=z3Y C gl (aA e 5) h x K:=by kernel_rfl
def z0M (q5:ACode):ACode:=.pr [0,5] (.seq (.seq (rg [mV 32 0,
cL 33 xC [32,(cI 15)]] [0,5,33])
(.cond 33 (.seq (rg [mV 34 5,
lN 35 34,
bN 36 .gtr 35 (cI 0),
mV 37 36,
gD 38 37 true (.mv 0),
gD 39 37 true (.call xC [38,(cI 2)]),
uO 40 (.pick 37 39 cF)] [0,5,40])
(.cond 40 (dr [dF (mV 41 5) [5],
dF (mV 42 0) [0],
dF (mV 43 5) [5],
dF (lN 44 43) [43],
dT (cL 45 QB [42,44]) [42,44],
dF (iA 46 none 41 45) [41,45],
dF (lD 47 none 46) [46],
dF (mV 48 0) [0],
dA (uO 49 (.bsl false none 2 (.str []) [(0,(cS [48])),(1,(cS [120]))])) [] false [4] [],
dA (cL 50 IC [48,49]) [48,49] true [] [5,6],
dF (bN 51 .add 47 50) [47,50],
dF (iA 52 none 41 45) [41,45],
dT (wO (.store none 52 51)) [52,51]] [5])
(rg [mV 53 5,
uO 54 (.bsl false none 1 (.str []) [(0,(cS []))]),
uO 55 (.app none 53 54),
mV 5 55] [5])))
.skip))
q5)
def MR:ACode:=z0M cY
def kH (C:Hd)(gl:GL)(q5:ACode)(v0 v5:AV)(h:bA)(x:Esc)(K:KT):Prop:=
 C xC [v0,(AI 15)] h fun t1 h2 y3=>
 oA t1 (pK (xA v5) fun t4=>
 pK (jA .gtr t4 (AI 0)) fun t5=>
 gM t5 true v0 h2 fun t6 h7 y8=>
 gV t5 true h7 (C xC [t6,(AI 2)] h7) fun t9 h10 y11=>
 pK (MA t5 t9 (AB false)) fun t12=>
 oA t12 (pK (xA v5) fun t13=>
 DB C QB [v0,t13] h10 fun t14 h15 y16=>
 pK (tA none v5 t14 h15) fun t17=>
 pK (eA none t17 h15) fun t18=>
 wK (jB false none 2 (.str []) [(0,(.p (.str [48]))),(1,(.p (.str [120])))] h15) fun t19 h20 y21=>
 (h20=h15∧y21=[])∧((wK (jB false none 2 (.str []) [(0,(.p (.str [48]))),(1,(.p (.str [120])))] h10) (fun u (g1:bA) (y1:Esc)=>u=t19∧g1=h10∧y1=[]))∧(DB C IC [v0,t19] h20 fun t22 h23 y24=>
 (pK (tA none v5 t14 h23) fun v=>(fun u (g1:bA) (y1:Esc)=>u=t17∧g1=h23∧y1=[]) v h23 [])∧((pK (eA none t17 h23) fun v=>(fun u (g1:bA) (y1:Esc)=>u=t18∧g1=h23∧y1=[]) v h23 [])∧(pK (jA .add t18 t22) fun t25=>
 pK (tA none v5 t14 h23) fun t26=>
 wK (OA none t26 t25 h23) fun t27 h28 y29=>
 NW C gl q5 ⟨[(5,v5)],h28,(y29++(y24++(y21++(y16++(y11++(y8++(y3++x)))))))⟩ K)))))
 (wK (jB false none 1 (.str []) [(0,(.p (.str [])))] h10) fun t30 h31 y32=>
 wK (LC none v5 t30 h31) fun t33 h34 y35=>
 NW C gl q5 ⟨[(5,t33)],h34,(y35++(y32++(y11++(y8++(y3++x)))))⟩ K))
 (NW C gl q5 ⟨[(0,v0),(5,v5),(33,t1)],h2,(y3++x)⟩ K)
theorem zal {C gl q5 e h x K}:NW C gl (z0M q5) ⟨e,h,x⟩ K=kH C gl q5 (aA e 0) (aA e 5) h x K:=by kernel_rfl
theorem DW {C gl e h x K}:NW C gl MR ⟨e,h,x⟩ K=kH C gl cY (aA e 0) (aA e 5) h x K:=zal
def z0K (q4 q6:ACode):ACode:=(.seq (rg [uO 3 (.box 1),
mV 4 (.c (.p (.sl none [])))] [0,3])
(.seq (rg [uO 5 (.new0 none)] [0,3,5])
(.seq (.seq (rg [fA 9 0 none 3,
lD 10 none 9,
lN 11 10,
mV 12 (cI 0)] [0,5,10,11,12])
(.block 0 (.loop (.scope q4))))
q6)))
def BT:AFun:=⟨2,[.t 4],z0K oL MR,false,false⟩
def bQ (C:Hd)(gl:GL)(q4 q6:ACode)(v0 v1:AV)(h:bA)(x:Esc)(K:KT):Prop:=
 wK (dB v1 h) fun t1 h2 y3=>
 nwK none h2 fun t4 h5 y6=>
 pK (mA 0 none t1) fun t7=>
 pK (eA none t7 h5) fun t8=>
 pK (xA t8) fun t9=>
 NW C gl (.loop (.scope q4)) ⟨[(0,v0),(5,t4),(10,t8),(11,t9),(12,(AI 0))],h5,(y6++(y3++x))⟩ (wA 0 (QA C gl q6 K))
theorem zaj {C gl q4 q6 v0 v1 h x K}:NW C gl (z0K q4 q6) ⟨enter [v0,v1],h,x⟩ K=bQ C gl q4 q6 v0 v1 h x K:=by kernel_rfl
theorem zgE {C gl v0 v1 h x K}:NW C gl BT.body ⟨enter [v0,v1],h,x⟩ K=bQ C gl oL MR v0 v1 h x K:=zaj
def VK:ACode:=.pr [7,8,21,22,23] (.seq (rg [bN 24 .lss 23 22] [7,8,21,22,23,24])
(.seq (.cond 24 .skip
(.exit 0))
(.seq (.block 1 (.seq (rg [iA 25 none 21 23,
lD 26 none 25,
mV 10 26] [7,8,10,21,22,23])
(rg [mV 27 8,
mV 28 7,
mV 29 10,
uO 30 (.look (none,[2]) false (AI 0) 28 29),
uO 31 (.bsl false none 1 (.int .i64 0) [(0,30)]),
uO 32 (.app none 27 31),
mV 8 32] [7,8,21,22,23])))
(rg [bN 33 .add 23 (cI 1),
mV 23 33] [7,8,21,22,23]))))
def z3v (C:Hd)(gl:GL)(v7 v8 v21 v22 v23:AV)(h:bA)(x:Esc)(K:KT):Prop:=
 pK (jA .lss v23 v22) fun t1=>
 oA t1 (pK (tA none v21 v23 h) fun t2=>
 pK (eA none t2 h) fun t3=>
 pK (ZA (none,[2]) false (AI 0) v7 t3 h) fun t4=>
 wK (jB false none 1 (.int .i64 0) [(0,t4)] h) fun t5 h6 y7=>
 wK (LC none v8 t5 h6) fun t8 h9 y10=>
 pK (jA .add v23 (AI 1)) fun t11=>
 K .normal ⟨[(7,v7),(8,t8),(21,v21),(22,v22),(23,t11)],h9,(y10++(y7++x))⟩)
 (K (.exit 0) ⟨[(7,v7),(8,v8),(21,v21),(22,v22),(23,v23),(24,t1)],h,x⟩)
theorem zfz {C gl e h x K}:NW C gl VK ⟨e,h,x⟩ K=z3v C gl (aA e 7) (aA e 8) (aA e 21) (aA e 22) (aA e 23) h x K:=by kernel_rfl
theorem zkB {C gl e h x K}:NW C gl (.loop (.scope VK)) ⟨e,h,x⟩ K=GA C gl (.scope VK) K [(7,aA e 7),(8,aA e 8),(21,aA e 21),(22,aA e 22),(23,aA e 23)] h x:=vB
def xR:ACode:=.pr [8] (.seq (rg [mV 34 8,
mV 4 34,
mV 5 (cI 0)] [4,5])
.ret)
def z3w (C:Hd)(gl:GL)(v8:AV)(h:bA)(x:Esc)(K:KT):Prop:=
 K .ret ⟨[(4,v8),(5,(AI 0))],h,x⟩
theorem zf0 {C gl e h x K}:NW C gl xR ⟨e,h,x⟩ K=z3w C gl (aA e 8) h x K:=by kernel_rfl
def z0j (q1 q2:ACode):ACode:=(.seq (rg [uO 2 (.box 0),
mV 4 (.c (.p (.sl none []))),
mV 5 (cI 0)] [1,2])
(.seq (.seq (rg [lD 11 (some 3) 2,
mV 12 1,
cL 13 xE [11,12],
mV 6 13] [1,2,6])
(.seq (rg [mV 14 6,
bN 15 .neq 14 (cI 0)] [1,2,6,15])
(.cond 15 (.seq (rg [mV 16 6,
mV 4 (.c (.p (.sl none []))),
mV 5 16] [4,5])
.ret)
.skip)))
(.seq (rg [lD 17 (some 3) 2,
mV 18 1,
cL 19 SE [17,18],
mV 7 19] [2,7])
(.seq (rg [uO 8 (.new0 none)] [2,7,8])
(.seq (.seq (rg [lD 20 (some 3) 2,
cL 21 zE [20],
lN 22 21,
mV 23 (cI 0)] [7,8,21,22,23])
(.block 0 (.loop (.scope q1))))
q2)))))
def MO:AFun:=⟨2,[.t 4,.t 5],z0j VK xR,false,false⟩
def HM (C:Hd)(gl:GL)(q1 q2:ACode)(v0 v1:AV)(h:bA)(x:Esc)(K:KT):Prop:=
 wK (dB v0 h) fun t1 h2 y3=>
 pK (eA (some 3) t1 h2) fun t4=>
 C xE [t4,v1] h2 fun t5 h6 y7=>
 pK (jA .neq t5 (AI 0)) fun t8=>
 oA t8 (K .ret ⟨[(4,(.p (.sl none []))),(5,t5)],h6,(y7++(y3++x))⟩)
 (pK (eA (some 3) t1 h6) fun t9=>
 C SE [t9,v1] h6 fun t10 h11 y12=>
 nwK none h11 fun t13 h14 y15=>
 pK (eA (some 3) t1 h14) fun t16=>
 C zE [t16] h14 fun t17 h18 y19=>
 pK (xA t17) fun t20=>
 NW C gl (.loop (.scope q1)) ⟨[(7,t10),(8,t13),(21,t17),(22,t20),(23,(AI 0))],h18,(y19++(y15++(y12++(y7++(y3++x)))))⟩ (wA 0 (QA C gl q2 K)))
theorem z98 {C gl q1 q2 v0 v1 h x K}:NW C gl (z0j q1 q2) ⟨enter [v0,v1],h,x⟩ K=HM C gl q1 q2 v0 v1 h x K:=by kernel_rfl
theorem zfy {C gl v0 v1 h x K}:NW C gl MO.body ⟨enter [v0,v1],h,x⟩ K=HM C gl VK xR v0 v1 h x K:=z98
def BX:ACode:=.pr [1,7,8,9,11,12,29,30,31,42,43,44] (rg [bN 81 .add 44 (cI 1),
mV 44 81] [1,7,8,9,11,12,29,30,31,42,43,44])
def z3m (C:Hd)(gl:GL)(v1 v7 v8 v9 v11 v12 v29 v30 v31 v42 v43 v44:AV)(h:bA)(x:Esc)(K:KT):Prop:=
 pK (jA .add v44 (AI 1)) fun t1=>
 K .normal ⟨[(1,v1),(7,v7),(8,v8),(9,v9),(11,v11),(12,v12),(29,v29),(30,v30),(31,v31),(42,v42),(43,v43),(44,t1)],h,x⟩
theorem zfk {C gl e h x K}:NW C gl BX ⟨e,h,x⟩ K=z3m C gl (aA e 1) (aA e 7) (aA e 8) (aA e 9) (aA e 11) (aA e 12) (aA e 29) (aA e 30) (aA e 31) (aA e 42) (aA e 43) (aA e 44) h x K:=by kernel_rfl
def z0e (q1:ACode):ACode:=.pr [1,7,8,9,11,12,29,30,31,42,43,44] (.seq (rg [bN 45 .lss 44 43] [1,7,8,9,11,12,29,30,31,42,43,44,45])
(.seq (.cond 45 .skip
(.exit 2))
(.seq (.block 3 (.seq (rg [mV 46 44,
iA 47 (some 4) 42 44,
lD 48 (some 4) 47,
uO 14 (.alloc [.p (.int .i64 0),.p (.str []),.p (.int .i64 0),.p (.int .i64 0)]),
mV 13 46,
wO (.store (some 4) 14 48)] [1,7,8,9,11,12,13,14,29,30,31,42,43,44])
(.seq (.seq (rg [fA 49 0 none 14,
lD 50 none 49,
bN 51 .neq 50 (cI 1)] [1,7,8,9,11,12,13,14,29,30,31,42,43,44,51])
(.cond 51 (.exit 3)
.skip))
(.seq (rg [mV 52 12,
mV 53 13,
iA 54 none 52 53,
wO (.store none 54 (.c (.p (.int .u8 49))))] [1,7,8,9,11,12,13,14,29,30,31,42,43,44])
(.seq (rg [mV 56 8,
fA 57 0 none 11,
lD 58 none 57,
fA 59 1 none 14,
lD 60 none 59,
uO 61 (.build [.p (.str []),.p (.str [])] [(0,1,58),(1,1,60)]),
uO 62 (.look ((some 2),[2,2]) true (.p (.str [])) 56 61),
mV 55 62,
eX 63 55 0,
eX 64 55 1,
mV 15 63,
mV 16 64] [1,7,8,9,11,12,13,15,16,29,30,31,42,43,44])
(.seq (rg [mV 65 16,
mV 66 65,
gD 67 66 true (.mv 7),
gD 68 66 true (.mv 15),
gD 69 66 true (.look (none,[2]) false (AI 0) 67 68),
gD 70 66 true (.bin .neq 69 (cI 1)),
uO 71 (.pick 66 70 cF),
mV 72 71,
gD 73 72 true (.mv 7),
gD 74 72 true (.mv 15),
gD 75 72 true (.look (none,[2]) false (AI 0) 73 74),
gD 76 72 true (.bin .neq 75 (cI 2)),
uO 77 (.pick 72 76 cF)] [1,7,8,9,11,12,13,29,30,31,42,43,44,77])
(.cond 77 (rg [mV 78 12,
mV 79 13,
iA 80 none 78 79,
wO (.store none 80 (.c (.p (.int .u8 48))))] [1,7,8,9,11,12,29,30,31,42,43,44])
.skip)))))))
q1)))
def RK:ACode:=z0e BX
def fV (C:Hd)(gl:GL)(q1:ACode)(v1 v7 v8 v9 v11 v12 v29 v30 v31 v42 v43 v44:AV)(h:bA)(x:Esc)(K:KT):Prop:=
 pK (jA .lss v44 v43) fun t1=>
 oA t1 (pK (tA (some 4) v42 v44 h) fun t2=>
 pK (eA (some 4) t2 h) fun t3=>
 alK [.p (.int .i64 0),.p (.str []),.p (.int .i64 0),.p (.int .i64 0)] h fun t4 h5 y6=>
 wK (OA (some 4) t4 t3 h5) fun t7 h8 y9=>
 pK (mA 0 none t4) fun t10=>
 pK (eA none t10 h8) fun t11=>
 pK (jA .neq t11 (AI 1)) fun t12=>
 oA t12 (NW C gl q1 ⟨[(1,v1),(7,v7),(8,v8),(9,v9),(11,v11),(12,v12),(13,v44),(14,t4),(29,v29),(30,v30),(31,v31),(42,v42),(43,v43),(44,v44),(51,t12)],h8,(y9++(y6++x))⟩ K)
 (pK (tA none v12 v44 h8) fun t13=>
 wK (OA none t13 (.p (.int .u8 49)) h8) fun t14 h15 y16=>
 pK (mA 0 none v11) fun t17=>
 pK (eA none t17 h15) fun t18=>
 pK (mA 1 none t4) fun t19=>
 pK (eA none t19 h15) fun t20=>
 pK (BC [.p (.str []),.p (.str [])] [(0,1,t18),(1,1,t20)]) fun t21=>
 pK (ZA ((some 2),[2,2]) true (.p (.str [])) v8 t21 h15) fun t22=>
 pK (iC t22 0) fun t23=>
 pK (iC t22 1) fun t24=>
 gM t24 true v7 h15 fun t25 h26 y27=>
 gM t24 true t23 h26 fun t28 h29 y30=>
 gP t24 true (ZA (none,[2]) false (AI 0) t25 t28 h29) h29 fun t31 h32 y33=>
 gP t24 true (jA .neq t31 (AI 1)) h32 fun t34 h35 y36=>
 pK (MA t24 t34 (AB false)) fun t37=>
 gM t37 true v7 h35 fun t38 h39 y40=>
 gM t37 true t23 h39 fun t41 h42 y43=>
 gP t37 true (ZA (none,[2]) false (AI 0) t38 t41 h42) h42 fun t44 h45 y46=>
 gP t37 true (jA .neq t44 (AI 2)) h45 fun t47 h48 y49=>
 pK (MA t37 t47 (AB false)) fun t50=>
 oA t50 (pK (tA none v12 v44 h48) fun t51=>
 wK (OA none t51 (.p (.int .u8 48)) h48) fun t52 h53 y54=>
 NW C gl q1 ⟨[(1,v1),(7,v7),(8,v8),(9,v9),(11,v11),(12,v12),(29,v29),(30,v30),(31,v31),(42,v42),(43,v43),(44,v44)],h53,(y54++(y49++(y46++(y43++(y40++(y36++(y33++(y30++(y27++(y16++(y9++(y6++x))))))))))))⟩ K)
 (NW C gl q1 ⟨[(1,v1),(7,v7),(8,v8),(9,v9),(11,v11),(12,v12),(13,v44),(29,v29),(30,v30),(31,v31),(42,v42),(43,v43),(44,v44),(77,t50)],h48,(y49++(y46++(y43++(y40++(y36++(y33++(y30++(y27++(y16++(y9++(y6++x)))))))))))⟩ K)))
 (K (.exit 2) ⟨[(1,v1),(7,v7),(8,v8),(9,v9),(11,v11),(12,v12),(29,v29),(30,v30),(31,v31),(42,v42),(43,v43),(44,v44),(45,t1)],h,x⟩)
theorem z93 {C gl q1 e h x K}:NW C gl (z0e q1) ⟨e,h,x⟩ K=fV C gl q1 (aA e 1) (aA e 7) (aA e 8) (aA e 9) (aA e 11) (aA e 12) (aA e 29) (aA e 30) (aA e 31) (aA e 42) (aA e 43) (aA e 44) h x K:=by kernel_rfl
theorem zfl {C gl e h x K}:NW C gl RK ⟨e,h,x⟩ K=fV C gl BX (aA e 1) (aA e 7) (aA e 8) (aA e 9) (aA e 11) (aA e 12) (aA e 29) (aA e 30) (aA e 31) (aA e 42) (aA e 43) (aA e 44) h x K:=z93
theorem zk6 {C gl e h x K}:NW C gl (.loop (.scope RK)) ⟨e,h,x⟩ K=GA C gl (.scope RK) K [(1,aA e 1),(7,aA e 7),(8,aA e 8),(9,aA e 9),(11,aA e 11),(12,aA e 12),(29,aA e 29),(30,aA e 30),(31,aA e 31),(42,aA e 42),(43,aA e 43),(44,aA e 44)] h x:=vB
def DX:ACode:=.pr [1,7,8,9,12,29,30,31] (rg [mV 82 9,
mV 83 12,
uO 84 (.conv .b2s 83),
uO 85 (.bsl false none 1 (.str []) [(0,84)]),
uO 86 (.app none 82 85),
mV 9 86] [1,7,8,9,29,30,31])
def z3n (C:Hd)(gl:GL)(v1 v7 v8 v9 v12 v29 v30 v31:AV)(h:bA)(x:Esc)(K:KT):Prop:=
 wK (TD .b2s v12 h) fun t1 h2 y3=>
 wK (jB false none 1 (.str []) [(0,t1)] h2) fun t4 h5 y6=>
 wK (LC none v9 t4 h5) fun t7 h8 y9=>
 K .normal ⟨[(1,v1),(7,v7),(8,v8),(9,t7),(29,v29),(30,v30),(31,v31)],h8,(y9++(y6++(y3++x)))⟩
theorem zfm {C gl e h x K}:NW C gl DX ⟨e,h,x⟩ K=z3n C gl (aA e 1) (aA e 7) (aA e 8) (aA e 9) (aA e 12) (aA e 29) (aA e 30) (aA e 31) h x K:=by kernel_rfl
def EX:ACode:=.pr [1,7,8,9,29,30,31] (rg [bN 87 .add 31 (cI 1),
mV 31 87] [1,7,8,9,29,30,31])
def z3o (C:Hd)(gl:GL)(v1 v7 v8 v9 v29 v30 v31:AV)(h:bA)(x:Esc)(K:KT):Prop:=
 pK (jA .add v31 (AI 1)) fun t1=>
 K .normal ⟨[(1,v1),(7,v7),(8,v8),(9,v9),(29,v29),(30,v30),(31,t1)],h,x⟩
theorem zfn {C gl e h x K}:NW C gl EX ⟨e,h,x⟩ K=z3o C gl (aA e 1) (aA e 7) (aA e 8) (aA e 9) (aA e 29) (aA e 30) (aA e 31) h x K:=by kernel_rfl
def z0f (q2 q3 q4:ACode):ACode:=.pr [1,7,8,9,29,30,31] (.seq (rg [bN 32 .lss 31 30] [1,7,8,9,29,30,31,32])
(.seq (.cond 32 .skip
(.exit 0))
(.seq (.block 1 (.seq (rg [mV 33 31,
iA 34 (some 2) 29 31,
lD 35 (some 2) 34,
uO 11 (.alloc [.p (.str []),.sl0 (some 4)]),
mV 10 33,
wO (.store (some 2) 11 35)] [1,7,8,9,10,11,29,30,31])
(.seq (rg [mV 36 1,
mV 37 10,
iA 38 none 36 37,
lD 39 none 38,
uO 40 (.conv .s2b 39),
mV 12 40] [1,7,8,9,11,12,29,30,31])
(.seq (.seq (rg [fA 41 1 none 11,
lD 42 none 41,
lN 43 42,
mV 44 (cI 0)] [1,7,8,9,11,12,29,30,31,42,43,44])
(.block 2 (.loop (.scope q2))))
q3))))
q4)))
def SK:ACode:=z0f RK DX EX
def IP (C:Hd)(gl:GL)(q2 q3 q4:ACode)(v1 v7 v8 v9 v29 v30 v31:AV)(h:bA)(x:Esc)(K:KT):Prop:=
 pK (jA .lss v31 v30) fun t1=>
 oA t1 (pK (tA (some 2) v29 v31 h) fun t2=>
 pK (eA (some 2) t2 h) fun t3=>
 alK [.p (.str []),.sl0 (some 4)] h fun t4 h5 y6=>
 wK (OA (some 2) t4 t3 h5) fun t7 h8 y9=>
 pK (tA none v1 v31 h8) fun t10=>
 pK (eA none t10 h8) fun t11=>
 wK (TD .s2b t11 h8) fun t12 h13 y14=>
 pK (mA 1 none t4) fun t15=>
 pK (eA none t15 h13) fun t16=>
 pK (xA t16) fun t17=>
 NW C gl (.loop (.scope q2)) ⟨[(1,v1),(7,v7),(8,v8),(9,v9),(11,t4),(12,t12),(29,v29),(30,v30),(31,v31),(42,t16),(43,t17),(44,(AI 0))],h13,(y14++(y9++(y6++x)))⟩ (wA 2 (QA C gl q3 (wA 1 (QA C gl q4 K)))))
 (K (.exit 0) ⟨[(1,v1),(7,v7),(8,v8),(9,v9),(29,v29),(30,v30),(31,v31),(32,t1)],h,x⟩)
theorem z94 {C gl q2 q3 q4 e h x K}:NW C gl (z0f q2 q3 q4) ⟨e,h,x⟩ K=IP C gl q2 q3 q4 (aA e 1) (aA e 7) (aA e 8) (aA e 9) (aA e 29) (aA e 30) (aA e 31) h x K:=by kernel_rfl
theorem z5t {C gl e h x K}:NW C gl SK ⟨e,h,x⟩ K=IP C gl RK DX EX (aA e 1) (aA e 7) (aA e 8) (aA e 9) (aA e 29) (aA e 30) (aA e 31) h x K:=z94
theorem zk7 {C gl e h x K}:NW C gl (.loop (.scope SK)) ⟨e,h,x⟩ K=GA C gl (.scope SK) K [(1,aA e 1),(7,aA e 7),(8,aA e 8),(9,aA e 9),(29,aA e 29),(30,aA e 30),(31,aA e 31)] h x:=vB
def vR:ACode:=.pr [9] (.seq (rg [mV 88 9,
mV 4 88,
mV 5 (cI 0)] [4,5])
.ret)
def z3p (C:Hd)(gl:GL)(v9:AV)(h:bA)(x:Esc)(K:KT):Prop:=
 K .ret ⟨[(4,v9),(5,(AI 0))],h,x⟩
theorem zfo {C gl e h x K}:NW C gl vR ⟨e,h,x⟩ K=z3p C gl (aA e 9) h x K:=by kernel_rfl
def z0d (q5 q6:ACode):ACode:=(.seq (rg [uO 2 (.box 0),
mV 4 (.c (.p (.sl none []))),
mV 5 (cI 0)] [1,2])
(.seq (.seq (rg [lD 17 (some 3) 2,
mV 18 1,
cL 19 xE [17,18],
mV 6 19] [1,2,6])
(.seq (rg [mV 20 6,
bN 21 .neq 20 (cI 0)] [1,2,6,21])
(.cond 21 (.seq (rg [mV 22 6,
mV 4 (.c (.p (.sl none []))),
mV 5 22] [4,5])
.ret)
.skip)))
(.seq (dr [dF (lD 23 (some 3) 2) [2],
dF (mV 24 1) [1],
dT (cL 25 SE [23,24]) [23,24],
dA (lD 26 (some 3) 2) [2] false [2] [],
dT (cL 27 CG [26]) [26],
dF (mV 7 25) [25],
dF (mV 8 27) [27]] [1,2,7,8])
(.seq (rg [uO 9 (.new0 none)] [1,2,7,8,9])
(.seq (.seq (rg [fA 28 0 none 2,
lD 29 none 28,
lN 30 29,
mV 31 (cI 0)] [1,7,8,9,29,30,31])
(.block 0 (.loop (.scope q5))))
q6)))))
def mT:AFun:=⟨2,[.t 4,.t 5],z0d SK vR,false,false⟩
def FM (C:Hd)(gl:GL)(q5 q6:ACode)(v0 v1:AV)(h:bA)(x:Esc)(K:KT):Prop:=
 wK (dB v0 h) fun t1 h2 y3=>
 pK (eA (some 3) t1 h2) fun t4=>
 C xE [t4,v1] h2 fun t5 h6 y7=>
 pK (jA .neq t5 (AI 0)) fun t8=>
 oA t8 (K .ret ⟨[(4,(.p (.sl none []))),(5,t5)],h6,(y7++(y3++x))⟩)
 (pK (eA (some 3) t1 h6) fun t9=>
 DB C SE [t9,v1] h6 fun t10 h11 y12=>
 pK (eA (some 3) t1 h11) fun t13=>
 (pK (eA (some 3) t1 h6) fun v=>(fun u (g1:bA) (y1:Esc)=>u=t13∧g1=h6∧y1=[]) v h6 [])∧(DB C CG [t13] h11 fun t14 h15 y16=>
 nwK none h15 fun t17 h18 y19=>
 pK (mA 0 none t1) fun t20=>
 pK (eA none t20 h18) fun t21=>
 pK (xA t21) fun t22=>
 NW C gl (.loop (.scope q5)) ⟨[(1,v1),(7,t10),(8,t14),(9,t17),(29,t21),(30,t22),(31,(AI 0))],h18,(y19++(y16++(y12++(y7++(y3++x)))))⟩ (wA 0 (QA C gl q6 K))))
theorem z92 {C gl q5 q6 v0 v1 h x K}:NW C gl (z0d q5 q6) ⟨enter [v0,v1],h,x⟩ K=FM C gl q5 q6 v0 v1 h x K:=by kernel_rfl
theorem zfj {C gl v0 v1 h x K}:NW C gl mT.body ⟨enter [v0,v1],h,x⟩ K=FM C gl SK vR v0 v1 h x K:=z92
def zbs:ACode:=(.seq (rg [uO 2 (.box 0),
mV 4 (.c (.p (.sl none []))),
mV 5 (cI 0)] [1,2])
(.seq (.seq (rg [lD 8 (some 3) 2,
mV 9 1,
cL 10 xE [8,9],
mV 6 10] [1,2,6])
(.seq (rg [mV 11 6,
bN 12 .neq 11 (cI 0)] [1,2,6,12])
(.cond 12 (.seq (rg [mV 13 6,
mV 4 (.c (.p (.sl none []))),
mV 5 13] [4,5])
.ret)
.skip)))
(.seq (rg [lD 14 (some 3) 2,
mV 15 1,
cL 16 SE [14,15],
uO 7 (.alloc [.nilm]),
wO (.store none 7 16)] [2,7])
(.seq (rg [lD 17 (some 3) 2,
cL 18 zE [17],
uO 19 (.mkfn RJ [7]),
cL 20 DH [18,19],
mV 4 20,
mV 5 (cI 0)] [4,5])
.ret))))
def nT:AFun:=⟨2,[.t 4,.t 5],zbs,false,false⟩
def JP (C:Hd)(gl:GL)(v0 v1:AV)(h:bA)(x:Esc)(K:KT):Prop:=
 wK (dB v0 h) fun t1 h2 y3=>
 pK (eA (some 3) t1 h2) fun t4=>
 C xE [t4,v1] h2 fun t5 h6 y7=>
 pK (jA .neq t5 (AI 0)) fun t8=>
 oA t8 (K .ret ⟨[(4,(.p (.sl none []))),(5,t5)],h6,(y7++(y3++x))⟩)
 (pK (eA (some 3) t1 h6) fun t9=>
 C SE [t9,v1] h6 fun t10 h11 y12=>
 alK [.nilm] h11 fun t13 h14 y15=>
 wK (OA none t13 t10 h14) fun t16 h17 y18=>
 pK (eA (some 3) t1 h17) fun t19=>
 C zE [t19] h17 fun t20 h21 y22=>
 C DH [t20,(.fn RJ [t13])] h21 fun t23 h24 y25=>
 K .ret ⟨[(4,t23),(5,(AI 0))],h24,(y25++(y22++(y18++(y15++(y12++(y7++(y3++x)))))))⟩)
theorem zfw {C gl v0 v1 h x K}:NW C gl nT.body ⟨enter [v0,v1],h,x⟩ K=JP C gl v0 v1 h x K:=by kernel_rfl
def WK:ACode:=.pr [5,14,15,16] (.seq (rg [bN 17 .lss 16 15] [5,14,15,16,17])
(.seq (.cond 17 .skip
(.exit 0))
(.seq (.block 1 (.seq (rg [iA 18 (some 2) 14 16,
lD 19 (some 2) 18,
uO 7 (.alloc [.p (.str []),.sl0 (some 4)]),
wO (.store (some 2) 7 19)] [5,7,14,15,16])
(rg [mV 20 5,
lD 21 (some 2) 7,
cL 22 UJ [21],
uO 23 (.conv .b2s 22),
uO 24 (.bsl false none 1 (.str []) [(0,23)]),
uO 25 (.app none 20 24),
mV 5 25] [5,14,15,16])))
(rg [bN 26 .add 16 (cI 1),
mV 16 26] [5,14,15,16]))))
def z3x (C:Hd)(gl:GL)(v5 v14 v15 v16:AV)(h:bA)(x:Esc)(K:KT):Prop:=
 pK (jA .lss v16 v15) fun t1=>
 oA t1 (pK (tA (some 2) v14 v16 h) fun t2=>
 pK (eA (some 2) t2 h) fun t3=>
 alK [.p (.str []),.sl0 (some 4)] h fun t4 h5 y6=>
 wK (OA (some 2) t4 t3 h5) fun t7 h8 y9=>
 pK (eA (some 2) t4 h8) fun t10=>
 C UJ [t10] h8 fun t11 h12 y13=>
 wK (TD .b2s t11 h12) fun t14 h15 y16=>
 wK (jB false none 1 (.str []) [(0,t14)] h15) fun t17 h18 y19=>
 wK (LC none v5 t17 h18) fun t20 h21 y22=>
 pK (jA .add v16 (AI 1)) fun t23=>
 K .normal ⟨[(5,t20),(14,v14),(15,v15),(16,t23)],h21,(y22++(y19++(y16++(y13++(y9++(y6++x))))))⟩)
 (K (.exit 0) ⟨[(5,v5),(14,v14),(15,v15),(16,v16),(17,t1)],h,x⟩)
theorem zf2 {C gl e h x K}:NW C gl WK ⟨e,h,x⟩ K=z3x C gl (aA e 5) (aA e 14) (aA e 15) (aA e 16) h x K:=by kernel_rfl
theorem zkC {C gl e h x K}:NW C gl (.loop (.scope WK)) ⟨e,h,x⟩ K=GA C gl (.scope WK) K [(5,aA e 5),(14,aA e 14),(15,aA e 15),(16,aA e 16)] h x:=vB
def yR:ACode:=.pr [5] (.seq (rg [mV 27 5,
mV 2 27,
mV 3 (cI 0)] [2,3])
.ret)
def z3y (C:Hd)(gl:GL)(v5:AV)(h:bA)(x:Esc)(K:KT):Prop:=
 K .ret ⟨[(2,v5),(3,(AI 0))],h,x⟩
theorem zf3 {C gl e h x K}:NW C gl yR ⟨e,h,x⟩ K=z3y C gl (aA e 5) h x K:=by kernel_rfl
def z0k (q1 q2:ACode):ACode:=(.seq (rg [uO 1 (.box 0),
mV 2 (.c (.p (.sl none []))),
mV 3 (cI 0)] [1])
(.seq (.seq (rg [lD 8 (some 3) 1,
cL 9 BG [8],
mV 4 9] [1,4])
(.seq (rg [mV 10 4,
bN 11 .neq 10 (cI 0)] [1,4,11])
(.cond 11 (.seq (rg [mV 12 4,
mV 2 (.c (.p (.sl none []))),
mV 3 12] [2,3])
.ret)
.skip)))
(.seq (rg [uO 5 (.new0 none)] [1,5])
(.seq (.seq (rg [fA 13 0 none 1,
lD 14 none 13,
lN 15 14,
mV 16 (cI 0)] [5,14,15,16])
(.block 0 (.loop (.scope q1))))
q2))))
def pT:AFun:=⟨1,[.t 2,.t 3],z0k WK yR,false,false⟩
def IM (C:Hd)(gl:GL)(q1 q2:ACode)(v0:AV)(h:bA)(x:Esc)(K:KT):Prop:=
 wK (dB v0 h) fun t1 h2 y3=>
 pK (eA (some 3) t1 h2) fun t4=>
 C BG [t4] h2 fun t5 h6 y7=>
 pK (jA .neq t5 (AI 0)) fun t8=>
 oA t8 (K .ret ⟨[(2,(.p (.sl none []))),(3,t5)],h6,(y7++(y3++x))⟩)
 (nwK none h6 fun t9 h10 y11=>
 pK (mA 0 none t1) fun t12=>
 pK (eA none t12 h10) fun t13=>
 pK (xA t13) fun t14=>
 NW C gl (.loop (.scope q1)) ⟨[(5,t9),(14,t13),(15,t14),(16,(AI 0))],h10,(y11++(y7++(y3++x)))⟩ (wA 0 (QA C gl q2 K)))
theorem z99 {C gl q1 q2 v0 h x K}:NW C gl (z0k q1 q2) ⟨enter [v0],h,x⟩ K=IM C gl q1 q2 v0 h x K:=by kernel_rfl
theorem zf1 {C gl v0 h x K}:NW C gl pT.body ⟨enter [v0],h,x⟩ K=IM C gl WK yR v0 h x K:=z99
def rL:ACode:=.pr [2,19,20,21] (.seq (rg [bN 22 .lss 21 20] [2,19,20,21,22])
(.seq (.cond 22 .skip
(.exit 0))
(.seq (.block 1 (.seq (rg [mV 23 21,
iA 24 none 19 21,
lD 25 none 24,
mV 6 23,
mV 7 25] [2,6,7,19,20,21])
(.seq (rg [mV 26 7,
cL 27 bK [26],
uO 28 (.un .not 27),
mV 29 28,
gD 30 29 false (.mv 7),
gD 31 29 false (.lens 30),
gD 32 29 false (.faddr 0 none 2),
gD 33 29 false (.load none 32),
gD 34 29 false (.mv 6),
gD 35 29 false (.iaddr (some 2) 33 34),
gD 36 29 false (.faddr 1 none 35),
gD 37 29 false (.load none 36),
gD 38 29 false (.len 37),
gD 39 29 false (.bin .neq 31 38),
uO 40 (.pick 29 cT 39)] [2,19,20,21,40])
(.cond 40 (.seq (rg [mV 4 (cI 3)] [4])
.ret)
.skip))))
(rg [bN 41 .add 21 (cI 1),
mV 21 41] [2,19,20,21]))))
def z4f (C:Hd)(gl:GL)(v2 v19 v20 v21:AV)(h:bA)(x:Esc)(K:KT):Prop:=
 pK (jA .lss v21 v20) fun t1=>
 oA t1 (pK (tA none v19 v21 h) fun t2=>
 pK (eA none t2 h) fun t3=>
 C bK [t3] h fun t4 h5 y6=>
 pK (oUn .not t4) fun t7=>
 gM t7 false t3 h5 fun t8 h9 y10=>
 gP t7 false (MG t8) h9 fun t11 h12 y13=>
 gP t7 false (mA 0 none v2) h12 fun t14 h15 y16=>
 gP t7 false (eA none t14 h15) h15 fun t17 h18 y19=>
 gM t7 false v21 h18 fun t20 h21 y22=>
 gP t7 false (tA (some 2) t17 t20 h21) h21 fun t23 h24 y25=>
 gP t7 false (mA 1 none t23) h24 fun t26 h27 y28=>
 gP t7 false (eA none t26 h27) h27 fun t29 h30 y31=>
 gP t7 false (xA t29) h30 fun t32 h33 y34=>
 gP t7 false (jA .neq t11 t32) h33 fun t35 h36 y37=>
 pK (MA t7 (AB true) t35) fun t38=>
 oA t38 (K .ret ⟨[(4,(AI 3))],h36,(y37++(y34++(y31++(y28++(y25++(y22++(y19++(y16++(y13++(y10++(y6++x)))))))))))⟩)
 (pK (jA .add v21 (AI 1)) fun t39=>
 K .normal ⟨[(2,v2),(19,v19),(20,v20),(21,t39)],h36,(y37++(y34++(y31++(y28++(y25++(y22++(y19++(y16++(y13++(y10++(y6++x)))))))))))⟩))
 (K (.exit 0) ⟨[(2,v2),(19,v19),(20,v20),(21,v21),(22,t1)],h,x⟩)
theorem zhe {C gl e h x K}:NW C gl rL ⟨e,h,x⟩ K=z4f C gl (aA e 2) (aA e 19) (aA e 20) (aA e 21) h x K:=by kernel_rfl
theorem zlc {C gl e h x K}:NW C gl (.loop rL) ⟨e,h,x⟩ K=GA C gl rL K [(2,aA e 2),(19,aA e 19),(20,aA e 20),(21,aA e 21)] h x:=jC
def PR:ACode:=.pr [] (.seq (rg [mV 4 (cI 0)] [4])
.ret)
def z4g (C:Hd)(gl:GL)(h:bA)(x:Esc)(K:KT):Prop:=
 K .ret ⟨[(4,(AI 0))],h,x⟩
theorem zhf {C gl e h x K}:NW C gl PR ⟨e,h,x⟩ K=z4g C gl h x K:=by kernel_rfl
def z0U (q1 q2:ACode):ACode:=(.seq (rg [uO 2 (.box 0),
mV 4 (cI 0)] [1,2])
(.seq (.seq (rg [lD 8 (some 3) 2,
cL 9 YF [8],
mV 5 9] [1,2,5])
(.seq (rg [mV 10 5,
bN 11 .neq 10 (cI 0)] [1,2,5,11])
(.cond 11 (.seq (rg [mV 12 5,
mV 4 12] [4])
.ret)
.skip)))
(.seq (.seq (rg [mV 13 1,
lN 14 13,
fA 15 0 none 2,
lD 16 none 15,
lN 17 16,
bN 18 .neq 14 17] [1,2,18])
(.cond 18 (.seq (rg [mV 4 (cI 3)] [4])
.ret)
.skip))
(.seq (.seq (rg [mV 19 1,
lN 20 19,
mV 21 (cI 0)] [2,19,20,21])
(.block 0 (.loop q1)))
q2))))
def OT:AFun:=⟨2,[.t 4],z0U rL PR,false,false⟩
def HJ (C:Hd)(gl:GL)(q1 q2:ACode)(v0 v1:AV)(h:bA)(x:Esc)(K:KT):Prop:=
 wK (dB v0 h) fun t1 h2 y3=>
 pK (eA (some 3) t1 h2) fun t4=>
 C YF [t4] h2 fun t5 h6 y7=>
 pK (jA .neq t5 (AI 0)) fun t8=>
 oA t8 (K .ret ⟨[(4,t5)],h6,(y7++(y3++x))⟩)
 (pK (xA v1) fun t9=>
 pK (mA 0 none t1) fun t10=>
 pK (eA none t10 h6) fun t11=>
 pK (xA t11) fun t12=>
 pK (jA .neq t9 t12) fun t13=>
 oA t13 (K .ret ⟨[(4,(AI 3))],h6,(y7++(y3++x))⟩)
 (pK (xA v1) fun t14=>
 NW C gl (.loop q1) ⟨[(2,t1),(19,v1),(20,t14),(21,(AI 0))],h6,(y7++(y3++x))⟩ (wA 0 (QA C gl q2 K))))
theorem zat {C gl q1 q2 v0 v1 h x K}:NW C gl (z0U q1 q2) ⟨enter [v0,v1],h,x⟩ K=HJ C gl q1 q2 v0 v1 h x K:=by kernel_rfl
theorem zhd {C gl v0 v1 h x K}:NW C gl OT.body ⟨enter [v0,v1],h,x⟩ K=HJ C gl rL PR v0 v1 h x K:=zat
def vL:ACode:=.pr [1,2,5,9,10,11] (.seq (rg [bN 12 .lss 11 10] [1,2,5,9,10,11,12])
(.seq (.cond 12 .skip
(.exit 0))
(.seq (.block 1 (.seq (rg [iA 13 none 9 11,
lD 14 none 13,
mV 7 14] [1,2,5,7,9,10,11])
(rg [mV 15 5,
lD 16 (some 3) 2,
mV 17 1,
mV 18 7,
cL 19 uF [16,17,18],
uO 20 (.bsl false none 1 (.int .i64 0) [(0,19)]),
uO 21 (.app none 15 20),
mV 5 21] [1,2,5,9,10,11])))
(rg [bN 22 .add 11 (cI 1),
mV 11 22] [1,2,5,9,10,11]))))
def z4q (C:Hd)(gl:GL)(v1 v2 v5 v9 v10 v11:AV)(h:bA)(x:Esc)(K:KT):Prop:=
 pK (jA .lss v11 v10) fun t1=>
 oA t1 (pK (tA none v9 v11 h) fun t2=>
 pK (eA none t2 h) fun t3=>
 pK (eA (some 3) v2 h) fun t4=>
 C uF [t4,v1,t3] h fun t5 h6 y7=>
 wK (jB false none 1 (.int .i64 0) [(0,t5)] h6) fun t8 h9 y10=>
 wK (LC none v5 t8 h9) fun t11 h12 y13=>
 pK (jA .add v11 (AI 1)) fun t14=>
 K .normal ⟨[(1,v1),(2,v2),(5,t11),(9,v9),(10,v10),(11,t14)],h12,(y13++(y10++(y7++x)))⟩)
 (K (.exit 0) ⟨[(1,v1),(2,v2),(5,v5),(9,v9),(10,v10),(11,v11),(12,t1)],h,x⟩)
theorem zhx {C gl e h x K}:NW C gl vL ⟨e,h,x⟩ K=z4q C gl (aA e 1) (aA e 2) (aA e 5) (aA e 9) (aA e 10) (aA e 11) h x K:=by kernel_rfl
theorem zlj {C gl e h x K}:NW C gl (.loop (.scope vL)) ⟨e,h,x⟩ K=GA C gl (.scope vL) K [(1,aA e 1),(2,aA e 2),(5,aA e 5),(9,aA e 9),(10,aA e 10),(11,aA e 11)] h x:=vB
def UR:ACode:=.pr [5] (.seq (rg [mV 23 5,
mV 4 23] [4])
.ret)
def z4r (C:Hd)(gl:GL)(v5:AV)(h:bA)(x:Esc)(K:KT):Prop:=
 K .ret ⟨[(4,v5)],h,x⟩
theorem zhy {C gl e h x K}:NW C gl UR ⟨e,h,x⟩ K=z4r C gl (aA e 5) h x K:=by kernel_rfl
def z1c (q1 q2:ACode):ACode:=(.seq (rg [uO 2 (.box 0),
mV 4 (.c (.p (.sl none [])))] [1,2])
(.seq (rg [uO 5 (.new0 none)] [1,2,5])
(.seq (.seq (rg [lD 8 (some 3) 2,
cL 9 AE [8],
lN 10 9,
mV 11 (cI 0)] [1,2,5,9,10,11])
(.block 0 (.loop (.scope q1))))
q2)))
def VT:AFun:=⟨2,[.t 4],z1c vL UR,false,false⟩
def mQ (C:Hd)(gl:GL)(q1 q2:ACode)(v0 v1:AV)(h:bA)(x:Esc)(K:KT):Prop:=
 wK (dB v0 h) fun t1 h2 y3=>
 nwK none h2 fun t4 h5 y6=>
 pK (eA (some 3) t1 h5) fun t7=>
 C AE [t7] h5 fun t8 h9 y10=>
 pK (xA t8) fun t11=>
 NW C gl (.loop (.scope q1)) ⟨[(1,v1),(2,t1),(5,t4),(9,t8),(10,t11),(11,(AI 0))],h9,(y10++(y6++(y3++x)))⟩ (wA 0 (QA C gl q2 K))
theorem za1 {C gl q1 q2 v0 v1 h x K}:NW C gl (z1c q1 q2) ⟨enter [v0,v1],h,x⟩ K=mQ C gl q1 q2 v0 v1 h x K:=by kernel_rfl
theorem zhw {C gl v0 v1 h x K}:NW C gl VT.body ⟨enter [v0,v1],h,x⟩ K=mQ C gl vL UR v0 v1 h x K:=za1
end Go.Am
end
