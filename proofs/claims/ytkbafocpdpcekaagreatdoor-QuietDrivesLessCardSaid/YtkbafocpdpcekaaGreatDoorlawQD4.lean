/- Texts of the proof, laid together: Am30, Am31, AmX, AmS, CodesA. -/
import GoSem.Extern.Table
import Derived.Laws.World
import Derived.KernelRfl
import Derived.Test.YtkbafocpdpcekaaGreatDoorlawQD3
set_option linter.all false
section
/- The abstract machine,part 30: the meaning of code in the new spelling,and that it is the old one. -/
set_option linter.unusedSimpArgs false
set_option linter.unusedVariables false
namespace Go.Am
def gV (v:AV)(b:Bool)(h:aA)(A:(AV→aA→Esc→Prop)→Prop)(k:AV→aA→Esc→Prop):Prop:=JD v b (A k) (k .skp h [])
def gP (v:AV)(b:Bool)(o:Option AV)(h:aA)(k:AV→aA→Esc→Prop):Prop:=gV v b h (fun k=>pK o fun u=>k u h []) k
def gM (v:AV)(b:Bool)(u:AV)(h:aA)(k:AV→aA→Esc→Prop):Prop:=gV v b h (fun k=>k u h []) k
def upB (b:Bool):Bool:=(fun(_:AV→Bool→Option AV→aA→(AV→aA→Esc→Prop)→Prop)=>b) gP
def gK (g:Option (Nat × Bool))(e:List (Nat × AV))(h:aA)(A:(AV→aA→Esc→Prop)→Prop)(k:AV→aA→Esc→Prop):Prop:=match g with
 | none=>A k
 | some (t,b)=>gV (bA e t) b h A k
def opC (C:Hd)(o:AO)(ev:Opd→AV)(h:aA)(k:AV→aA→Esc→Prop):Prop:=match o with
 | .call f args=>C f (ev1 ev args) h k
 | .callv f args=>vF C (ev f) (ev1 ev args) h k
 | .mnext sh xs=>match TG h sh (ev1 ev xs) with
  | some l=>l≠[]∧∀y∈l,k y.1 y.2 []
  | none=>False
 | o=>opN o ev h k
def bK (C:Hd)(gl:Nat→Option PV):List AOp→List (Nat×AV)→aA→Esc→(List (Nat×AV)→aA→Esc→Prop)→Prop
 | [],e,h,x,L=>L e h x
 | o::r,e,h,x,L=>gK o.guard e h (opC C o.op (Opd.ev gl e) h) fun v h' x'=>bK C gl r (put o.dst v e) h' (x'++x) L
variable {C:Hd} {gl:Nat→Option PV}
theorem z2N {o:AO}{d:Option Nat}{r:List AOp}{e:List (Nat × AV)}{h:aA}{x:Esc}{L:List (Nat × AV)→aA→Esc→Prop} :
 TA C gl (⟨d,none,o⟩::r) e h x L=opC C o (Opd.ev gl e) h (iI C gl r d e x L):=by
 cases hp:o.plain with
 | true=>
  rw[z48 hp,z2P hp];cases o <;> first|rfl|cases hp
 | false=>
  cases o <;> first|(cases hp;done)|skip
  all_goals first
   | (rw[bV,AF];rfl)
   | (rw[cV,AF];rfl)
   | (unfold TA opC;simp only[wanted,AF];rfl)
theorem lV:∀ (ops:List AOp)(e:List (Nat × AV))(h:aA)(x:Esc)(L:List (Nat × AV)→aA→Esc→Prop),TA C gl ops e h x L=bK C gl ops e h x L
 | [],e,h,x,L=>rfl
 | ⟨d,g,o⟩::r,e,h,x,L=>by
  have ih:(fun(v:AV) (h':aA) (x':Esc)=>bK C gl r (put d v e) h' (x'++x) L)=iI C gl r d e x L:=by
   funext v h' x';rw[←lV r];rfl
  show _=gK g e h (opC C o (Opd.ev gl e) h) fun v h' x'=>bK C gl r (put d v e) h' (x'++x) L
  rw[ih];cases g with
  | none=>exact z2N
  | some tb=>
   obtain⟨t,b⟩:=tb;rw[eV,z2N];rfl
def opE (C:Hd)(o:AO)(ev:Opd→AV)(h:aA)(k:AV→aA→Esc→Prop):Prop:=match o with
 | .call f args=>FB C f (ev1 ev args) h k
 | .callv f args=>ZH C (ev f) (ev1 ev args) h k
 | .mnext _ _=>False
 | o=>opN o ev h k
def effN (still eff:Bool)(h h':aA)(y:Esc)(Q:Prop):Prop:=match upB eff with
 | true=>Q
 | false=>match still with
  | true=>Q
  | false=>(h'=h∧y=[])∧Q
def DU (C:Hd)(gl:Nat→Option PV)(q:AOp × List (Nat × AV) × AV)(g:aA):Prop:=
 gK q.1.guard q.2.1 g (opE C q.1.op (Opd.ev gl q.2.1) g) fun v1 h1 x1=>v1=q.2.2∧h1=g∧x1=[]
def VF (C:Hd)(gl:Nat→Option PV)(h:aA)(dn:tD)(Q:Prop):List Nat→Prop
 | []=>Q
 | j::r=>(match dn[j]? with|some q=>DU C gl q h|none=>False)∧VF C gl h dn Q r
def fG (C:Hd)(gl:Nat→Option PV)(o:AOp)(e:List (Nat × AV))(v:AV)(hs:List aA)(Q:Prop):List Nat→Prop
 | []=>Q
 | k::r=>(match hs[k]? with|some g=>DU C gl (o,e,v) g|none=>False)∧fG C gl o e v hs Q r
def OH (C:Hd)(gl:Nat→Option PV):List DOp→tD→List aA→List (Nat×AV)→aA→Esc→(List (Nat×AV)→aA→Esc→Prop)→Prop
 | [],_,_,e,h,x,L=>L e h x
 | o::r,dn,hs,e,h,x,L=>gK o.op.guard (OA (some o.rd) e) h (opE C o.op.op (Opd.ev gl (OA (some o.rd) e)) h) fun v h' y=>
  effN o.op.op.still o.eff h h' y (fG C gl o.op (OA (some o.rd) e) v hs (VF C gl h' dn (OH C gl r (dn++[(o.op,OA (some o.rd) e,v)]) (hs++[h]) (put o.op.dst v e) h' (y++x) L) o.again) o.early)
theorem z2O {o:AO}{d:Option Nat}{e:List (Nat × AV)}{h:aA}{R:AV→aA→Esc→Prop}:doK C gl ⟨d,none,o⟩ e h R=opE C o (Opd.ev gl e) h R:=by
 cases hp:o.plain with
 | true=>
  rw[zbD hp,z2P hp];cases o <;> first|rfl|cases hp
 | false=>
  cases o <;> first|(cases hp;done)|skip
  all_goals first
   | (rw[SZ,AF];rfl)
   | (rw[TZ,AF];rfl)
   | (unfold doK ADo opE;simp [wanted])
theorem z1C {o:AOp}{e:List (Nat × AV)}{h:aA}{R:AV→aA→Esc→Prop}:doK C gl o e h R=gK o.guard e h (opE C o.op (Opd.ev gl e) h) R:=by
 obtain⟨d,g,op⟩:=o;cases g with
 | none=>exact z2O
 | some tb=>
  obtain⟨t,b⟩:=tb;rw[UZ,z2O];rfl
theorem z3K {q:AOp × List (Nat × AV) × AV}{g:aA}:doS C gl q g=DU C gl q g:=by
 obtain⟨⟨d,gd,op⟩,e,v⟩:=q;rw[VZ,z1C];rfl
theorem VW {h:aA}{dn:tD}{Q:Prop}:∀{l:List Nat},VF C gl h dn Q l=(agK C gl h dn l∧Q)
 | []=>by simp [VF,agK]
 | j::r=>by
  unfold VF agK;rw[VW (l:=r)];cases dn[j]? with
  | none=>simp
  | some q=>simp only[z3K,and_assoc]
theorem z0c {o:AOp}{e:List (Nat × AV)}{v:AV}{hs:List aA}{Q:Prop}:∀{l:List Nat},fG C gl o e v hs Q l=(eaK C gl o e v hs l∧Q)
 | []=>by simp [fG,eaK]
 | j::r=>by
  unfold fG eaK;rw[z0c (l:=r)];cases hs[j]? with
  | none=>simp
  | some q=>simp only[z3K,and_assoc]
theorem zbE {o:AOp}(hs:o.op.still=true){e:List (Nat × AV)}{h:aA}{R:AV→aA→Esc→Prop}:doK C gl o e h (fun v h' y=>(h'=h∧y=[])∧R v h' y)=doK C gl o e h R:=by
 unfold doK;refine propext ⟨fun⟨v,h',y,H,_,r⟩=>⟨v,h',y,H,r⟩,fun⟨v,h',y,H,r⟩=>⟨v,h',y,H,z44 hs H,r⟩⟩
theorem kV:∀ (ds:List DOp)(dn:tD)(hs:List aA)(e:List (Nat × AV))(h:aA)(x:Esc)(L:List (Nat × AV)→aA→Esc→Prop),IC C gl ds dn hs e h x L=OH C gl ds dn hs e h x L
 | [],dn,hs,e,h,x,L=>rfl
 | ⟨o,rd,eff,early,again⟩::r,dn,hs,e,h,x,L=>by
  rw[XU];show _=gK o.guard (OA (some rd) e) h (opE C o.op (Opd.ev gl (OA (some rd) e)) h) fun v h' y=>
   effN o.op.still eff h h' y (fG C gl o (OA (some rd) e) v hs (VF C gl h' dn (OH C gl r (dn++[(o,OA (some rd) e,v)]) (hs++[h]) (put o.dst v e) h' (y++x) L) again) early)
  rw[←z1C];have e1:FN C gl ⟨o,rd,eff,early,again⟩ r dn hs e h x L=fun v h' y=>(effK eff h h' y∧fG C gl o (OA (some rd) e) v hs (VF C gl h' dn (OH C gl r (dn++[(o,OA (some rd) e,v)]) (hs++[h]) (put o.dst v e) h' (y++x) L) again) early):=by
   funext v h' y
   rw[XZ,z0c,VW,←kV r]
  rw[e1];cases eff with
  | true=>
   congr 1;funext v h' y
   simp [effK,effN,upB]
  | false=>
   cases hs':o.op.still with
   | true=>
    have:=zbE (C:=C) (gl:=gl) (o:=o) hs' (e:=OA (some rd) e) (h:=h) (R:=fun v h' y=>fG C gl o (OA (some rd) e) v hs (VF C gl h' dn (OH C gl r (dn++[(o,OA (some rd) e,v)]) (hs++[h]) (put o.dst v e) h' (y++x) L) again) early)
    exact this
   | false=>rfl
def NW (C:Hd)(gl:Nat→Option PV):ACode→St→(Ex→St→Prop)→Prop
 | .skip,s,K=>K .normal s
 | .reg ops keep,s,K=>bK C gl ops s.env s.h s.esc fun e h x=>K .normal ⟨OA keep e,h,x⟩
 | .draw ds keep,s,K=>OH C gl ds [] [] s.env s.h s.esc fun e h x=>K .normal ⟨OA keep e,h,x⟩
 | .seq a b,s,K=>NW C gl a s fun e s'=>match e with
  | .normal=>NW C gl b s' K
  | .exit i=>K (.exit i) s'
  | .ret=>K .ret s'
 | .cond c a b,s,K=>oA (Opd.ev gl s.env c) (NW C gl a s K) (NW C gl b s K)
 | .condu c a b,s,K=>oY (Opd.ev gl s.env c) (NW C gl a s K) (NW C gl b s K)
 | .det b,s,K=>NW C gl b s K
 | .block id b,s,K=>NW C gl b s fun e s'=>match e with
  | .normal=>K .normal s'
  | .exit i=>bif Nat.beq i id then K .normal s' else K (.exit i) s'
  | .ret=>K .ret s'
 | .loop b,s,K=>ALoop (NW C gl b) K s
 | .scope b,s,K=>NW C gl b ⟨s.env,s.h,[]⟩ fun e s'=>K e (nE s.h.length s.esc s')
 | .pr l b,s,K=>NW C gl b ⟨OA (some l) s.env,s.h,s.esc⟩ K
 | .exit id,s,K=>K (.exit id) s
 | .ret,s,K=>K .ret s
 | .bad,_,_=>False
theorem vD:∀ (c:ACode)(s:St)(K:Ex→St→Prop),AW C gl c s K=NW C gl c s K
 | .skip,s,K=>rfl
 | .reg ops keep,s,K=>lV _ _ _ _ _
 | .draw ds keep,s,K=>kV _ _ _ _ _ _ _
 | .seq a b,s,K=>by
  unfold AW NW;rw[vD a];congr 1;funext e s'
  cases e with
  | normal=>exact vD b s' K
  | _=>rfl
 | .cond c a b,s,K=>by
  unfold AW NW oA;rw[←vD a,←vD b];rfl
 | .condu c a b,s,K=>by
  unfold AW NW oY;rw[←vD a,←vD b];rfl
 | .det b,s,K=>vD b s K
 | .block id b,s,K=>by
  unfold AW NW;rw[vD b];congr 1;funext e s'
  cases e with
  | exit i=>
   dsimp only;by_cases hi:i=id
   ·subst hi;simp
   ·rw[if_neg hi]
    have:Nat.beq i id=false:=by cases h:Nat.beq i id with|false=>rfl|true=>exact absurd (Nat.eq_of_beq_eq_true h) hi
    rw[this];rfl
  | _=>rfl
 | .loop b,s,K=>by
  show ALoop (AW C gl b) K s=ALoop (NW C gl b) K s
  rw[show AW C gl b=NW C gl b from funext fun s=>funext fun K=>vD b s K]
 | .scope b,s,K=>vD b _ _
 | .pr l b,s,K=>vD b _ _
 | .exit id,s,K=>rfl
 | .ret,s,K=>rfl
 | .bad,s,K=>rfl
end Go.Am
end
section
/- The abstract machine,part 31: words in which a function's code is printed,and the rules of computing over them. -/
set_option linter.unusedSimpArgs false
set_option linter.unusedVariables false
namespace Go.Am
variable {C:Hd} {gl:Nat→Option PV} {e:List (Nat × AV)} {h:aA} {x:Esc} {K:Ex→St→Prop} {s:St}
abbrev AI (n:Int):AV:=.p (.int .i64 n)
abbrev AB (b:Bool):AV:=.p (.bool b)
def RA (C:Hd)(gl:Nat→Option PV)(b:ACode)(K:Ex→St→Prop)(e:Ex)(s:St):Prop:=match e with
 | .normal=>NW C gl b s K
 | .exit i=>K (.exit i) s
 | .ret=>K .ret s
def yA (id:Nat)(K:Ex→St→Prop)(e:Ex)(s:St):Prop:=match e with
 | .normal=>K .normal s
 | .exit i=>bif Nat.beq i id then K .normal s else K (.exit i) s
 | .ret=>K .ret s
def nqK (sh:Option Sh)(l:List AV)(h:aA)(k:AV→aA→Esc→Prop):Prop:=match TG h sh l with
 | some l=>l≠[]∧∀y∈l,k y.1 y.2 []
 | none=>False
def gv (gl:Nat→Option PV)(n:Nat):AV:=match gl n with|some v=>.vp v|none=>.und
theorem z3Q {b:ACode}:RA C gl b K .normal s=NW C gl b s K:=(rfl)
theorem z3R {b:ACode}:RA C gl b K .ret s=K .ret s:=(rfl)
theorem rX {i:Nat}:yA i K .normal s=K .normal s:=(rfl)
theorem uX {i:Nat}:yA i K (.exit i) s=K .normal s:=by simp [yA]
theorem tX {i:Nat}:yA i K .ret s=K .ret s:=(rfl)
theorem z5W {b:ACode}:NW C gl (.scope b) ⟨e,h,x⟩ K=NW C gl b ⟨e,h,[]⟩ (z3O h.length x K):=(rfl)
theorem z5V {c:ACode}{s s':St}(hs:s=s'):NW C gl c s K=NW C gl c s' K:=by rw[hs]
def LA (C:Hd)(gl:Nat→Option PV)(b:ACode)(K:Ex→St→Prop)(e:List (Nat × AV))(h:aA)(x:Esc):Prop:=ALoop (NW C gl b) K ⟨e,h,x⟩
theorem gC {l:List Nat}{b:ACode}:NW C gl (.loop (.pr l b)) ⟨e,h,x⟩ K=LA C gl (.pr l b) K (OA (some l) e) h x:=by
 show ALoop _ _ _=ALoop _ _ _
 exact aV (funext fun R=>by show NW C gl b _ R=NW C gl b _ R;dsimp only;rw[z3b])
theorem MB {l:List Nat}{b:ACode}:NW C gl (.loop (.scope (.pr l b))) ⟨e,h,x⟩ K=LA C gl (.scope (.pr l b)) K (OA (some l) e) h x:=by
 show ALoop _ _ _=ALoop _ _ _
 exact aV (funext fun R=>by show NW C gl b _ _=NW C gl b _ _;dsimp only;rw[z3b])
theorem z5U {b:ACode}{e e':List (Nat × AV)}{h h':aA}{x x':Esc}(h1:e=e')(h2:h=h')(h3:x=x'):LA C gl b K e h x=LA C gl b K e' h' x':=by rw[h1,h2,h3]
theorem UA {σ:Type}{b:ACode}(S:σ→St)(P:σ→Prop)(m:σ→Nat)(t0:σ)(hs:(⟨e,h,x⟩:St)=S t0)(h0:P t0)(hr:∀ t,P t→NW C gl b (S t) (eO S P m K t)):LA C gl b K e h x:=by
 show ALoop (NW C gl b) K _
 rw[hs];have key:∀n t,m t<n→P t→ALoop (NW C gl b) K (S t):=by
  intro n;induction n with
  | zero=>intro t h;omega
  | succ n ih=>
   intro t hm hp;refine .mk _ _ (hr t hp) (fun s' h'=>?_) (fun i s' h'=>h') (fun s' h'=>h')
   obtain⟨u,rfl,hu,hlt⟩:=h';exact ih u (by omega) hu
 exact key _ t0 (Nat.lt_succ_self _) h0
theorem PA {X:Ctx}{f:Nat}{F:AFun}{a asv:List AV}{h h1:aA}{P:mA}(hf:X.fn f=some F)(hr:F.byref=false)(hp:zA h a=some (asv,h1))(hl:asv.length=F.nparams)(hd:F.isDet=false:=by rfl) :
 kA X f a h P=NW (kA X) X.gl F.body ⟨enter asv,h1,[]⟩ (wA F.results F.keep h.length P):=by
 rw[zlf hf hr hp hl hd,vD]
theorem zbm {X:Ctx}{f:Nat}{F:AFun}{a asv:List AV}{h h1:aA}{P:mA}(hf:X.fn f=some F)(hr:F.byref=false)(hp:zA h a=some (asv,h1))(hl:asv.length=F.nparams)(hd:F.isDet=true:=by rfl) :
 kA X f a h P = ∃v h' x,P v h' x∧NW (kA X) X.gl F.body ⟨enter asv,h1,[]⟩ (wA F.results F.keep h.length fun v1 h1 x1=>v1=v∧h1=h'∧x1=x):=by
 rw[zlg hf hr hp hl hd];simp only[vD]
theorem LC {X:Ctx}{f:Nat}{F:AFun}{asv:List AV}{h:aA}{P:mA}(hf:X.fn f=some F)(hr:F.byref=true)(hl:asv.length=F.nparams)(hd:F.isDet=false:=by rfl) :
 kA X f asv h P=NW (kA X) X.gl F.body ⟨enter asv,h,[]⟩ (wA F.results F.keep h.length P):=by
 rw[zld hf hr hl hd,vD]
theorem z2V {v:AV}{k:AV→Prop}:pK (some v) k=k v:=(rfl)
theorem z2U {k:AV→Prop}:pK none k=False:=(rfl)
theorem z4r {v:AV}{h:aA}{x:Esc}{k:AV→aA→Esc→Prop}:wK (some (v,h,x)) k=k v h x:=(rfl)
theorem z4p {k:AV→aA→Esc→Prop}:wK none k=False:=(rfl)
theorem zh3 {p:Prop}[Decidable p]{a b:Option AV}{k:AV→Prop}:pK (if p then a else b) k=if p then pK a k else pK b k:=by split <;> rfl
theorem zlK {p:Prop}[Decidable p]{a b:Option (AV × aA × Esc)}{k:AV→aA→Esc→Prop}:wK (if p then a else b) k=if p then wK a k else wK b k:=by split <;> rfl
theorem zh2 {o o':Option AV}{k:AV→Prop}(h:o=o'):pK o k=pK o' k:=by rw[h]
theorem zlJ {o o':Option (AV × aA × Esc)}{k:AV→aA→Esc→Prop}(h:o=o'):wK o k=wK o' k:=by rw[h]
theorem zfd {v v':AV}{b:Bool}{h:aA}{A:(AV→aA→Esc→Prop)→Prop}{k:AV→aA→Esc→Prop}(h1:v=v'):gV v b h A k=gV v' b h A k:=by rw[h1]
theorem zfb {v v':AV}{b:Bool}{o:Option AV}{h:aA}{k:AV→aA→Esc→Prop}(h1:v=v'):gP v b o h k=gP v' b o h k:=by rw[h1]
theorem zeZ {v v':AV}{b:Bool}{u:AV}{h:aA}{k:AV→aA→Esc→Prop}(h1:v=v'):gM v b u h k=gM v' b u h k:=by rw[h1]
section
variable {A:(AV→aA→Esc→Prop)→Prop} {o:Option AV} {u:AV} {k:AV→aA→Esc→Prop} {t b:Bool}
theorem z1O:gV (.p (.bool true)) true h A k=A k:=(rfl)
theorem z1N:gV (.p (.bool false)) true h A k=k .skp h []:=(rfl)
theorem zfc:gV (.p (.bool t)) b h A k=JD (.p (.bool t)) b (A k) (k .skp h []):=(rfl)
theorem z1M:gP (.p (.bool true)) true o h k=pK o fun v=>k v h []:=(rfl)
theorem z1I:gP (.p (.bool false)) false o h k=pK o fun v=>k v h []:=(rfl)
theorem z1L:gP (.p (.bool true)) false o h k=k .skp h []:=(rfl)
theorem z1J:gP (.p (.bool false)) true o h k=k .skp h []:=(rfl)
theorem z1K:gP .skp b o h k=k .skp h []:=(rfl)
theorem zfa:gP (.p (.bool t)) b o h k=JD (.p (.bool t)) b (pK o fun v=>k v h []) (k .skp h []):=(rfl)
theorem z1H:gM (.p (.bool true)) true u h k=k u h []:=(rfl)
theorem z1D:gM (.p (.bool false)) false u h k=k u h []:=(rfl)
theorem z1G:gM (.p (.bool true)) false u h k=k .skp h []:=(rfl)
theorem z1E:gM (.p (.bool false)) true u h k=k .skp h []:=(rfl)
theorem z1F:gM .skp b u h k=k .skp h []:=(rfl)
theorem zeY:gM (.p (.bool t)) b u h k=JD (.p (.bool t)) b (k u h []) (k .skp h []):=(rfl)
end
section
variable {k k':IntKind} {a b:Int} {sa sb:List UInt8}
theorem z9J:eA .add (.p (.int k a)) (.p (.int k b))=some (.p (.int k (k.wrap (a+b)))):=by simp [eA,EB,TC]
theorem z9V:eA .sub (.p (.int k a)) (.p (.int k b))=some (.p (.int k (k.wrap (a-b)))):=by simp [eA,EB,TC]
theorem z9P:eA .mul (.p (.int k a)) (.p (.int k b))=some (.p (.int k (k.wrap (a*b)))):=by simp [eA,EB,TC]
theorem z9S:eA .quo (.p (.int k a)) (.p (.int k b))=if b=0 then none else some (.p (.int k (k.wrap (a.tdiv b)))):=by simp [eA,EB,TC] <;> split <;> rfl
theorem z9T:eA .rem (.p (.int k a)) (.p (.int k b))=if b=0 then none else some (.p (.int k (a.tmod b))):=by simp [eA,EB,TC] <;> split <;> rfl
theorem z9K:eA .eql (.p (.int k a)) (.p (.int k b))=some (.p (.bool (decide (a=b)))):=by simp [eA,EB,TC]
theorem z9Q:eA .neq (.p (.int k a)) (.p (.int k b))=some (.p (.bool (!decide (a=b)))):=by simp [eA,EB,TC]
theorem z9O:eA .lss (.p (.int k a)) (.p (.int k b))=some (.p (.bool (decide (a<b)))):=by simp [eA,EB,TC]
theorem z9N:eA .leq (.p (.int k a)) (.p (.int k b))=some (.p (.bool (decide (a≤b)))):=by simp [eA,EB,TC]
theorem z9M:eA .gtr (.p (.int k a)) (.p (.int k b))=some (.p (.bool (decide (b<a)))):=by simp [eA,EB,TC]
theorem z9L:eA .geq (.p (.int k a)) (.p (.int k b))=some (.p (.bool (decide (b≤a)))):=by simp [eA,EB,TC]
theorem z9U:eA .shr (.p (.int k a)) (.p (.int k' b))=if b<0 then none else some (.p (.int k (XI k a b))):=by simp [eA,EB] <;> split <;> rfl
theorem zlo:eA .add (.p (.str sa)) (.p (.str sb))=if sa.length+sb.length≤WK then some (.p (.str (sa++sb))) else none:=by simp [eA,EB,NE] <;> split <;> rfl
theorem zlp:eA .eql (.p (.str sa)) (.p (.str sb))=some (.p (.bool (decide (sa=sb)))):=by simp [eA,EB,NE]
theorem zlu:eA .neq (.p (.str sa)) (.p (.str sb))=some (.p (.bool (!decide (sa=sb)))):=by simp [eA,EB,NE]
theorem zlt:eA .lss (.p (.str sa)) (.p (.str sb))=some (.p (.bool (Op.bytesLess sa sb))):=by simp [eA,EB,NE]
theorem zls:eA .leq (.p (.str sa)) (.p (.str sb))=some (.p (.bool (Op.bytesLess sa sb||decide (sa=sb)))):=by simp [eA,EB,NE]
theorem zlr:eA .gtr (.p (.str sa)) (.p (.str sb))=some (.p (.bool (!(Op.bytesLess sa sb||decide (sa=sb))))):=by simp [eA,EB,NE]
theorem zlF {t:Bool}:oUn .not (.p (.bool t))=some (.p (.bool !t)):=(rfl)
theorem convI {k':IntKind}:ED k (.p (.int k' a))=some (.p (.int k (k.wrap a))):=(rfl)
theorem zhq {i j:Nat}:VA (.ref i j)=some (.ref i j):=(rfl)
theorem zhr {i j m n:Nat}:VA (.rref i j m n)=some (.rref i j m n):=(rfl)
theorem zji {t:Bool}{u v:AV}:MA (.p (.bool t)) u v=some (bif t then u else v):=(rfl)
theorem zgG {sh:Sh}{xs:List PV}:AA (.p (.sl sh xs))=some (.p (.int .i64 xs.length)):=(rfl)
theorem zgF {i g o l:Nat}:AA (.own i g o l)=some (.p (.int .i64 l)):=(rfl)
theorem zgJ:vG (.p (.str sa))=some (.p (.int .i64 sa.length)):=(rfl)
theorem ext_t {vs:List AV}{i:Nat}:DC (.tup vs) i=vs[i]?:=(rfl)
theorem zeK {off i j:Nat}{sh:Sh}:nA off sh (.ref i j)=some (.ref i (j+off)):=(rfl)
theorem zeL {off i j m n:Nat}{sh:Sh}:nA off sh (.rref i j m n)=some (.rref i j m (n+off)):=(rfl)
theorem zeM {off:Nat}{sh:Sh}{v:PV}:nA off sh (.vp v)=(IA sh off v).map .vp:=(rfl)
def ldB (sh:Sh)(off:Nat):Option Obj→Option AV
 | some (.box cs)=>cut sh off cs
 | _=>none
def ldR (sh:Sh)(g i off:Nat):Option Obj→Option AV
 | some (.row _ xs _)=>if g=xs.length then((xs[i]?).bind (IA sh off)).map .p else none
 | _=>none
theorem zgP {sh:Sh}{i j:Nat}:lA sh (.ref i j) h=ldB sh j h[i]?:=by unfold lA ldB;rfl
theorem z2w {sh:Sh}{i g m n:Nat}:lA sh (.rref i g m n) h=ldR sh g m n h[i]?:=by unfold lA ldR;rfl
theorem z2x {sh:Sh}{v:PV}:lA sh (.vp v) h=(IA sh 0 v).map .p:=(rfl)
theorem zgB {sh:Sh}{off:Nat}{cs:List AV}:ldB sh off (some (.box cs))=cut sh off cs:=(rfl)
theorem z2r {sh sh':Sh}{g i off fz:Nat}{xs:List PV}:ldR sh g i off (some (.row sh' xs fz))=if g=xs.length then((xs[i]?).bind (IA sh off)).map .p else none:=(rfl)
def stB (sh:Sh)(id off:Nat)(v:AV)(h:aA):Option Obj→Option (List AV)→Option (AV×aA×Esc)
 | some (.box cs),some vs=>if vs.length=jA sh∧off+vs.length≤cs.length then some (.und,h.set id (.box (splice cs off vs)),gG id cs v) else none
 | _,_=>none
theorem zlm {sh:Sh}{i j:Nat}{v:AV}:NA sh (.ref i j) v h=stB sh i j v h h[i]? v.cells:=by unfold NA stB;rfl
theorem zkY {sh:Sh}{id off:Nat}{v:AV}{cs vs:List AV}:stB sh id off v h (some (.box cs)) (some vs)=if vs.length=jA sh∧off+vs.length≤cs.length then some (.und,h.set id (.box (splice cs off vs)),gG id cs v) else none:=(rfl)
theorem ze8 {id:Nat}{cs:List AV}{v:AV}(h:sH cs=false):gG id cs v=RB id v:=by
 unfold gG;rw[h];rfl
theorem zf5 {a:AV}{v:PV}:sH [a,.p v]=false:=(rfl)
theorem zf6 {a:AV}{s:Sh}:sH [a,.sl0 s]=false:=(rfl)
theorem zf4 {a b c:AV}{l:List AV}:sH (a::b::c::l)=false:=by unfold sH;split <;> first|rfl|(rename_i h;simp at h)
def stE (sh:Sh)(id i off fz:Nat)(rsh:Sh)(xs:List PV)(v:PV)(h1:aA):Option PV→Option (AV×aA×Esc)
 | some (.agg cs)=>if off+v.cells.length≤cs.length then some (.und,h1.set id (.row rsh (xs.set i (.agg (splice cs off v.cells))) fz),[]) else none
 | some _=>if off=0∧v.sc then some (.und,h1.set id (.row rsh (xs.set i v) fz),[]) else none
 | none=>none
def stO (sh:Sh)(id g i off:Nat)(v:PV)(h1:aA):Option Obj→Option (AV×aA×Esc)
 | some (.row rsh xs fz)=>if g=xs.length∧fz≤i∧v.cells.length=jA sh∧v.cells.all PV.sc then stE sh id i off fz rsh xs v h1 xs[i]? else none
 | _=>none
def stR (sh:Sh)(id g i off:Nat):Option (PV×aA)→Option (AV×aA×Esc)
 | some y=>stO sh id g i off y.1 y.2 y.2[id]?
 | none=>none
theorem zln {sh:Sh}{id g i off:Nat}{x:AV}:NA sh (.rref id g i off) x h=stR sh id g i off (pur h x):=by
 unfold NA stR;cases pur h x with
 | none=>rfl
 | some y=>
  obtain⟨v,h1⟩:=y;dsimp only;unfold stO;cases h1[id]? with
  | none=>rfl
  | some o=>cases o <;> rfl
theorem zlc {sh:Sh}{id g i off:Nat}{v:PV}{h1:aA}:stR sh id g i off (some (v,h1))=stO sh id g i off v h1 h1[id]?:=(rfl)
theorem zlb {sh rsh:Sh}{id g i off fz:Nat}{v:PV}{h1:aA}{xs:List PV}:stO sh id g i off v h1 (some (.row rsh xs fz))=if g=xs.length∧fz≤i∧v.cells.length=jA sh∧v.cells.all PV.sc then stE sh id i off fz rsh xs v h1 xs[i]? else none:=(rfl)
theorem zkZ {sh rsh:Sh}{id i off fz:Nat}{v:PV}{h1:aA}{xs cs:List PV}:stE sh id i off fz rsh xs v h1 (some (.agg cs))=if off+v.cells.length≤cs.length then some (.und,h1.set id (.row rsh (xs.set i (.agg (splice cs off v.cells))) fz),[]) else none:=(rfl)
theorem zla {sh rsh:Sh}{id i off fz:Nat}{v:PV}{h1:aA}{xs:List PV}{k:IntKind}{n:Int}:stE sh id i off fz rsh xs v h1 (some (.int k n))=if off=0∧v.sc then some (.und,h1.set id (.row rsh (xs.set i v) fz),[]) else none:=(rfl)
def iaS (xs:List PV):Option Nat→Option AV
 | some k=>(xs[k]?).map .vp
 | none=>none
theorem zft {sh:Sh}{xs:List PV}{i:AV}:uA sh (.p (.sl sh xs)) i h=iaS xs (gB i):=by
 unfold uA iaS;cases gB i <;> simp
theorem zfp {xs:List PV}{n:Nat}:iaS xs (some n)=(xs[n]?).map .vp:=(rfl)
def iaO (sh:Sh)(id g off len:Nat):Option Obj→Option Nat→Option AV
 | some (.row rsh xs _),some k=>if rsh=sh∧g=xs.length∧off+len≤xs.length∧k<len then some (.rref id g (off+k) 0) else none
 | _,_=>none
theorem zfs {sh:Sh}{id g off len:Nat}{i:AV}:uA sh (.own id g off len) i h=iaO sh id g off len h[id]? (gB i):=by
 unfold uA iaO;cases gB i with
 | none=>dsimp only;cases h[id]? with
  | none=>rfl
  | some o=>cases o <;> rfl
 | some k=>dsimp only;cases h[id]? with
  | none=>rfl
  | some o=>cases o <;> rfl
theorem zfo {sh rsh:Sh}{id g off len k fz:Nat}{xs:List PV}:iaO sh id g off len (some (.row rsh xs fz)) (some k)=if rsh=sh∧g=xs.length∧off+len≤xs.length∧k<len then some (.rref id g (off+k) 0) else none:=(rfl)
theorem zfy {i:AV}:zE (.p (.str sa)) i=(gB i).bind fun n=>(sa[n]?).map fun b=>.p (.int .u8 b.toNat):=by
 unfold zE;cases gB i <;> rfl
end
theorem WW {z:List AV}{k:AV→aA→Esc→Prop}:alK z h k=k (.ref h.length 0) (h++[.box z]) []:=(rfl)
theorem z2G {sh:Sh}{k:AV→aA→Esc→Prop}:nwK sh h k=k (.own h.length 0 0 0) (h++[.row sh [] 0]) []:=(rfl)
theorem z28 {k:AV→aA→Esc→Prop}:mmK h k=k (.mp h.length) (h++[.amap [] 0]) []:=(rfl)
theorem zjH {h:aA}:qB [] h=([],h):=(rfl)
theorem zjI {h:aA}{s:Sh}{r:List AV}:qB (.sl0 s::r) h=(.own h.length 0 0 0::(qB r (h++[.row s [] 0])).1,(qB r (h++[.row s [] 0])).2):=(rfl)
attribute [go_sem] zjH zjI
def ldAr (sh:Sh)(off g:Nat):Option Obj→Option AV
 | some (.arow rsh cs)=>if g*jA rsh=cs.length then cut sh off cs else none
 | _=>none
theorem zgN {sh:Sh}{off id g:Nat}:lA sh (.bt 4 off id g) h=ldAr sh off g h[id]?:=by
 show ldA sh 4 off id g h=_
 unfold ldA ldAr;rfl
theorem zgA {sh rsh:Sh}{off g:Nat}{cs:List AV}:ldAr sh off g (some (.arow rsh cs))=if g*jA rsh=cs.length then cut sh off cs else none:=(rfl)
def stAr (sh:Sh)(off id g:Nat)(x:AV)(h:aA):Option Obj→Option (List AV)→Option (AV×aA×Esc)
 | some (.arow rsh cs),some vs=>if g*jA rsh=cs.length∧vs.length=jA sh∧off+vs.length≤cs.length then some (.und,h.set id (.arow rsh (splice cs off vs)),RB id x) else none
 | _,_=>none
theorem zlk {sh:Sh}{off id g:Nat}{x:AV}:NA sh (.bt 4 off id g) x h=stAr sh off id g x h h[id]? x.cells:=by
 show stA sh 4 off id g x h=_
 unfold stA stAr;rfl
theorem zkX {sh rsh:Sh}{off id g:Nat}{x:AV}{cs vs:List AV}:stAr sh off id g x h (some (.arow rsh cs)) (some vs)=if g*jA rsh=cs.length∧vs.length=jA sh∧off+vs.length≤cs.length then some (.und,h.set id (.arow rsh (splice cs off vs)),RB id x) else none:=(rfl)
def iaAr (sh:Sh)(id g:Nat):Option Obj→Option Nat→Option AV
 | some (.arow rsh cs),some i=>if rsh=sh∧g*jA rsh=cs.length∧i<g then some (.bt 4 (i*jA sh) id g) else none
 | _,_=>none
theorem zfq {sh:Sh}{t id g:Nat}{i:AV}:uA sh (.bt 3 t id g) i h=iaAr sh id g h[id]? (gB i):=by
 unfold uA iaAr;cases gB i with
 | none=>cases h[id]? with
  | none=>rfl
  | some o=>cases o <;> rfl
 | some k=>
  show iaA sh 3 id g k h=_
  unfold iaA;cases h[id]? with
  | none=>rfl
  | some o=>cases o <;> rfl
theorem zfn {sh rsh:Sh}{id g i:Nat}{cs:List AV}:iaAr sh id g (some (.arow rsh cs)) (some i)=if rsh=sh∧g*jA rsh=cs.length∧i<g then some (.bt 4 (i*jA sh) id g) else none:=(rfl)
theorem zeI {off o id g:Nat}{sh:Sh}:nA off sh (.bt 4 o id g)=some (.bt 4 (o+off) id g):=(rfl)
theorem zgD {t id g:Nat}:AA (.bt 3 t id g)=some (.p (.int .i64 g)):=(rfl)
theorem zhn {o id g:Nat}:VA (.bt 4 o id g)=some (.bt 4 o id g):=(rfl)
def apAr (sh:Sh)(h:aA)(t id g g':Nat):Option Obj→Option Obj→Option (AV×aA×Esc)
 | some (.arow rsh cs),some (.arow rsh' ds)=>if rsh=sh∧rsh'=sh∧g*jA sh=cs.length∧g'*jA sh=ds.length∧g+g'≤XA then
  some (.bt 3 t id (g+g'),h.set id (.arow sh (cs++ds)),bif decide (id<AV.tops ds) then [(id,AV.tops ds)] else []) else none
 | _,_=>none
theorem z95 {sh:Sh}{t id g t' id' g':Nat}:apA sh h (.bt 3 t id g) (.bt 3 t' id' g')=apAr sh h t id g g' h[id]? h[id']?:=by
 show(match h[id]?,h[id']? with|_,_=>_)=_
 unfold apAr;rfl
theorem z97 {sh rsh rsh':Sh}{t id g g':Nat}{cs ds:List AV}:apAr sh h t id g g' (some (.arow rsh cs)) (some (.arow rsh' ds))=if rsh=sh∧rsh'=sh∧g*jA sh=cs.length∧g'*jA sh=ds.length∧g+g'≤XA then
 some (.bt 3 t id (g+g'),h.set id (.arow sh (cs++ds)),bif decide (id<AV.tops ds) then [(id,AV.tops ds)] else []) else none:=(rfl)
theorem zjG {h:aA}{k t i g:Nat}{r:List AV}:qB (.bt k t i g::r) h=(.bt 3 t h.length 0::(qB r (h++[.arow (vC t) []])).1,(qB r (h++[.arow (vC t) []])).2):=(rfl)
theorem zbC {n:Nat}:vC (n+1)=some n:=(rfl)
attribute [go_sem] zgN zgA zlk zkX zfq zfn zeI zgD zhn z95 z97 zjG zbC
attribute [go_sem] z3Q z3R rX uX tX z5W z2V z2U z4r z4p zh3 zlK z1O z1N z1M z1I z1L z1J z1K z1H z1D z1G z1E z1F z9J z9V z9P z9S z9T z9K z9Q z9O z9N z9M z9L z9U zlo zlp zlu zlt zls zlr zlF convI zhq zhr zji zgG zgF zgJ ext_t zeK zeL zeM zgP z2w z2x zgB z2r zlm zkY zln zlc zlb zkZ zla ze8 zf5 zf6 zf4 zft zfp zfs zfo zfy WW z2G z28 ID z3J upcB neqB lenB n64 RZ strB appB rds rd uB vB LK ZA NK oEqa fT uG aL z2K KF jF z2L fD lO jE yH bT DD z2H oClr oMx oMn kB BB fJ eJ z2J gT YB XB
attribute [go_sem ↓] z2V z2U z4r z4p z1O z1N z1M z1I z1L z1J z1K z1H z1D z1G z1E z1F nY mY z3Q z3R rX uX tX WW z2G z28 z22 z2z z23 z3P z12 z13
attribute [go_sem low] zfc zfa zeY
attribute [congr] z5V z5U zh2 zlJ zfd zfb zeZ
end Go.Am
end
section
/- The abstract machine,part X: the library's functions that have no Go text: comparing strings,finding a byte. -/
set_option linter.unusedSimpArgs false
set_option linter.unusedVariables false
namespace Go.Am
variable {P:Program}
structure ExtRow (P:Program) (f:Nat) (e:Array Value→Sem Value):Prop where
 row:∃fn,P.funcs[f]?=some fn∧fn.name ≠ "runtime.NumGoroutine" ∧ fn.body=none∧Extern.findNext fn=none∧Extern.find fn=some e
theorem ExtRow.run {f:Nat}{e:Array Value→Sem Value}(R:ExtRow P f e){us:Array Value}{w w':World}{x:Value}(he:(e us).run P w = .ok x w'):(callFunc f us).run P w = .ok (.value x) w':=by
 obtain⟨fn,h1,h2,h3,h4,h5⟩:=R.row;unfold callFunc;simp [h1,h2,h3,h4,h5,he]
theorem znc {f:Nat}{e:Array Value→Sem Value}(h:(match P.funcs[f]? with | some fn=>fn.name != "runtime.NumGoroutine" && fn.body.isNone&&(Extern.findNext fn).isNone | none=>false)=true)(h2:(P.funcs[f]?).bind Extern.find=some e):ExtRow P f e:=by
 cases hf:P.funcs[f]? with
 | none=>rw[hf]at h;cases h
 | some fn=>
  rw[hf]at h h2;simp only[Bool.and_eq_true,bne_iff_ne,ne_eq,Option.isNone_iff_eq_none]at h;exact⟨⟨fn,hf,h.1.1,h.1.2,h.2,h2⟩⟩
def yE (s:List UInt8)(c:UInt8):Int:=if s.findIdx (· == c)<s.length then(s.findIdx (· == c):Int) else -1
def rA:List UInt8→List UInt8→Int
 | [],[]=>0
 | [],_::_=>-1
 | _::_,[]=>1
 | a::asv,b::bs=>if a<b then -1 else if b<a then 1 else rA asv bs
theorem mX (s:List UInt8)(i:Nat):(⟨s.toArray⟩:ByteArray)[i]! = s.getD i 0:=by
 by_cases h:i<s.length
 ·rw[getElem!_pos (⟨s.toArray⟩:ByteArray) i h]
  show s.toArray[i]=_
  simp [h]
 ·rw[getElem!_neg (⟨s.toArray⟩:ByteArray) i h]
  simp [Nat.not_lt.1 h];rfl
theorem zeT (s:List UInt8)(c:UInt8):(match (List.range (⟨s.toArray⟩:ByteArray).size).find? fun i=>(⟨s.toArray⟩:ByteArray)[i]! == c with
 | some i=>(i:Int)
 | none=>-1)=yE s c:=by
 have hsz:(⟨s.toArray⟩:ByteArray).size=s.length:=rfl
 have hget:∀i,i<s.length→(⟨s.toArray⟩:ByteArray)[i]! = s.getD i 0:=by
  intro i hi;exact mX s i
 unfold yE;rw[hsz];by_cases h:s.findIdx (· == c)<s.length
 ·rw[if_pos h]
  have hf:(List.range s.length).find? (fun i=>(⟨s.toArray⟩:ByteArray)[i]! == c)=some (s.findIdx (· == c)):=by
   rw[List.find?_eq_some_iff_getElem];refine⟨?_,s.findIdx (· == c),by simpa using h,by simp,fun j hj=>?_⟩
   ·rw[hget _ h]
    have:=List.findIdx_getElem (w:=h);simpa [h] using this
   ·simp only[List.getElem_range]
    have hj':j<s.length:=by omega
    rw[hget _ hj'];have:=List.not_of_lt_findIdx hj;simpa [hj'] using this
  rw[hf]
 ·rw[if_neg h]
  have hf:(List.range s.length).find? (fun i=>(⟨s.toArray⟩:ByteArray)[i]! == c)=none:=by
   rw[List.find?_eq_none];intro i hi;rw[List.mem_range]at hi;rw[hget _ hi];intro hc;exact h (List.findIdx_lt_length_of_exists ⟨s[i],List.getElem_mem hi,by simpa [hi] using hc⟩)
  rw[hf]
theorem zbx:∀ (a b:List UInt8),Extern.BytealgCompare.cmp ⟨a.toArray⟩ ⟨b.toArray⟩=rA a b:=by
 have key:∀(a b:List UInt8),(match (List.range (min a.length b.length)).find? fun i=>a.getD i 0 != b.getD i 0 with
  | some i=>if a.getD i 0<b.getD i 0 then(-1:Int) else 1
  | none=>if a.length<b.length then -1 else if a.length>b.length then 1 else 0)=rA a b:=by
  intro a;induction a with
  | nil=>intro b;cases b <;> simp [rA]
  | cons x a ih=>
   intro b;cases b with
   | nil=>simp [rA]
   | cons y b=>
    have hm:min (x::a).length (y::b).length=min a.length b.length+1:=by simp only[List.length_cons];omega
    rw[hm,List.range_succ_eq_map,List.find?_cons];simp only[List.getD_cons_zero];by_cases hxy:x=y
    ·subst hxy
     have hlt:¬x<x:=UInt8.lt_irrefl x
     simp only[bne_self_eq_false,List.find?_map,rA,hlt,if_false];rw[←ih b];have hc:((fun i=>(x::a).getD i 0 != (x::b).getD i 0) ∘ Nat.succ)=fun i=>a.getD i 0 != b.getD i 0:=by
      funext i;simp
     rw[hc];cases (List.range (min a.length b.length)).find? fun i=>a.getD i 0 != b.getD i 0 with
     | none=>simp
     | some i=>simp
    ·have:(x != y)=true:=by simpa using hxy
     rw[this];simp only[rA,List.getD_cons_zero];by_cases h1:x<y
     ·simp [h1]
     ·have h2:y<x:=by
       rcases UInt8.lt_or_lt_of_ne (a:=x) (b:=y) hxy with h|h
       ·exact absurd h h1
       ·exact h
      simp [h1,h2]
 intro a b;rw[←key a b];unfold Extern.BytealgCompare.cmp;have sa:(⟨a.toArray⟩:ByteArray).size=a.length:=rfl
 have sb:(⟨b.toArray⟩:ByteArray).size=b.length:=rfl
 simp only[sa,sb,mX];generalize List.find? _ _=q;cases q <;> rfl
def VG (fi fc:Nat)(f:Nat)(vs:List PV):Option PV:=
 bif Nat.beq f fi then(match vs with
  | [.str s,.int .u8 c]=>some (.int .i64 (yE s (UInt8.ofNat c.toNat)))
  | _=>none)
 else bif Nat.beq f fc then(match vs with
  | [.str a,.str b]=>some (.int .i64 (rA a b))
  | _=>none)
 else none
theorem extF_ok {fi fc:Nat}(h1:ExtRow P fi Extern.BytealgIndexByte.indexByte)(h2:ExtRow P fc Extern.BytealgCompare.compare){f:Nat}{vs:List PV}{r:PV}(h:VG fi fc f vs=some r):iV P f vs r:=by
 intro M w us hM hl hr;unfold VG at h;cases e1:Nat.beq f fi with
 | true=>
  rw[e1]at h;have e:=Nat.eq_of_beq_eq_true e1
  subst e;simp only[cond_true]at h;split at h
  ·rename_i s c
   injection h with h
   subst h;match us,hl with
   | [u,v],_=>
    have q1:=hr 0 _ u rfl rfl
    have q2:=hr 1 _ v rfl rfl
    cases q1;cases q2
    refine⟨.int .i64 (yE s (UInt8.ofNat c.toNat)),w,h1.run ?_,WExt.refl w,.int _ _⟩;rw[←zeT];show(match (List.range (⟨s.toArray⟩:ByteArray).size).find? fun i=>(⟨s.toArray⟩:ByteArray)[i]! == UInt8.ofNat c.toNat with|some i=>(pure (goInt i):Sem Value)|none=>pure (goInt (-1))).run P w=_
    generalize List.find? _ _=q;cases q <;> rfl
  ·cases h
 | false=>
  rw[e1]at h;simp only[cond_false]at h;cases e2:Nat.beq f fc with
  | true=>
   rw[e2]at h;have e:=Nat.eq_of_beq_eq_true e2
   subst e;simp only[cond_true]at h;split at h
   ·rename_i a b
    injection h with h
    subst h;match us,hl with
    | [u,v],_=>
     have q1:=hr 0 _ u rfl rfl
     have q2:=hr 1 _ v rfl rfl
     cases q1;cases q2
     refine⟨.int .i64 (rA a b),w,h2.run ?_,WExt.refl w,.int _ _⟩;rw[←zbx];rfl
   ·cases h
  | false=>rw[e2]at h;cases h
theorem z0r {X:Ctx}{f:Nat}{asv:List AV}{vs:List PV}{h h1:aA}{r:PV}{K:mA}(hf:X.fn f=none)(h2:X.ex2 f asv h=none)(hp:zA h asv=some (vs.map .p,h1))(hu:unp (vs.map AV.p)=some vs)(hx:X.ext f vs=some r):kA X f asv h K=K (.p r) h1 []:=by
 refine propext (kA.eq (kA.fold ?_) K);unfold ZB;simp only[hf,h2,hp,hu,hx];exact⟨trivial,trivial,trivial⟩
structure GrowRow (P:Program) (f:Nat) (sh:Sh):Prop where
 enter:∀us w,(callFunc f us).run P w = .ok (.enter f us) w
 room:∀a w,Calls P f #[.slice a 0 0,.int .i64 0] w fun e w'=>e = .returned (.slice a 0 0)∧w'=w
 grow:∀a (n:Nat) w,0<n→n≤1048576→Calls P f #[.slice a 0 0,.int .i64 n] w fun e w'=>∃G cs E,e = .returned (.slice (some ⟨w.heap.size,0,none⟩) 0 G)∧cs.size=G*jA sh∧w'=w.drew.alloc (.cells cs E)
def WI:List (Nat × Sh)→Nat→List AV→aA→Option (AV×aA×Esc)
 | [],_,_,_=>none
 | (g,sh)::r,f,asv,h=>bif Nat.beq f g then(match asv with
  | [.sl0 _,.p (.int .i64 n)]=>bif decide (0≤n)&&decide (n≤1048576) then some (.own h.length 0 0 0,h++[.row sh [] 0],[]) else none
  | _=>none) else WI r f asv h
theorem z1Y {gl:Nat→Option PV}:∀(gs:List (Nat×Sh)),(∀g sh,(g,sh)∈gs→GrowRow P g sh)→∀{f:Nat} {asv:List AV} {h:aA} {v:AV} {h':aA} {x:Esc},WI gs f asv h=some (v,h',x) →
 kC P gl f asv h fun v1 h1 x1=>v1=v∧h1=h'∧x1=x
 | [],_,f,asv,h,v,h',x,H=>by cases H
 | (g,sh)::r,hg,f,asv,h,v,h',x,H=>by
  unfold WI at H;cases e1:Nat.beq f g with
  | false=>
   rw[e1]at H;exact z1Y r (fun g sh hm=>hg g sh (by simp [hm])) H
  | true=>
   rw[e1]at H;have e:=Nat.eq_of_beq_eq_true e1
   subst e;have R:=hg f sh (by simp)
   simp only[cond_true]at H;split at H
   ·rename_i sh' n
    cases hb:(decide (0≤n)&&decide (n≤1048576)) with
    | false=>rw[hb]at H;cases H
    | true=>
     rw[hb]at H;simp only[cond_true,Option.some.injEq,Prod.mk.injEq]at H;obtain⟨rfl,rfl,rfl⟩:=H;simp only[Bool.and_eq_true,decide_eq_true_eq]at hb;intro μ w vs Hh Hg hl hr;match vs,hl with
     | [u1,u2],_=>
      have q1:=hr 0 _ u1 rfl rfl
      have q2:=(hr 1 _ u2 rfl rfl).p_inv
      cases q1;cases q2
      obtain⟨m,hm⟩:=Int.eq_ofNat_of_zero_le hb.1;subst hm;refine .inl ⟨R.enter _,?_⟩;rcases Nat.eq_zero_or_pos m with h0|h0
      ·subst h0
       refine(R.room _ w).mono fun e w' he=>?_
       obtain⟨rfl,rfl⟩:=he;obtain⟨n1,n2⟩:=ZK Hh sh;refine⟨_,_,_,_,⟨rfl,rfl,rfl⟩,?_,n1,n2,tA.push (by simp [Obj.top])⟩
       exact .own h.length 0 0 0 _ 0 sh [] 0 none (Nat.le_refl _) (by simp) (by rw[←Hh.len];simp) (by simp) (by simp) (fun _=>rfl)
      ·refine(R.grow _ m w h0 (by omega)).mono fun e w' he=>?_
       obtain⟨G,cs,E,rfl,hcs,rfl⟩:=he;have hw:WExt w (w.drew.alloc (.cells cs E)):=(WExt.drew w _).trans (WExt.push _ _)
       obtain⟨n1,n2⟩:=xH (sh:=sh) (xs:=[]) Hh hw (b:=w.heap.size) (n:=cs.size) (Nat.le_refl _) (by show w.heap.size<(w.heap.push _).size;simp) (c:=cs) (WA.push (w:=w.drew) cs E) (by simp) (by simp) (by simp)
       refine⟨_,_,_,_,⟨rfl,rfl,rfl⟩,?_,n1,n2,tA.push (by simp [Obj.top])⟩
       refine .own h.length 0 0 0 _ G sh [] 0 (some (w.heap.size,cs.size)) (Nat.zero_le _) (by simp) (by rw[←Hh.len];simp) (by simp) (by simp) (fun _=>?_)
       exact .inr ⟨by simp,by simp [hcs]⟩
   ·cases H
end Go.Am
end
section
/- Short words for the printed code. -/
set_option linter.all false
namespace Go.Am
instance {n:Nat}:OfNat Opd n:=⟨.t n⟩
abbrev GL:=Nat→Option PV
abbrev KT:=Ex→St→Prop
def cI (n:Int):Opd:=.c (.p (.int .i64 n))
def cT:Opd:=.c (.p (.bool true))
def cF:Opd:=.c (.p (.bool false))
def cS (s:List UInt8):Opd:=.c (.p (.str s))
def uO (d:Nat)(o:AO):AOp:=⟨some d,none,o⟩
def wO (o:AO):AOp:=⟨none,none,o⟩
def gD (d g:Nat)(b:Bool)(o:AO):AOp:=⟨some d,some (g,b),o⟩
def mV (d:Nat)(x:Opd):AOp:=⟨some d,none,.mv x⟩
def bN (d:Nat)(b:BinOp)(x y:Opd):AOp:=⟨some d,none,.bin b x y⟩
def cL (d f:Nat)(l:List Opd):AOp:=⟨some d,none,.call f l⟩
def lD (d:Nat)(s:Sh)(x:Opd):AOp:=⟨some d,none,.load s x⟩
def iA (d:Nat)(s:Sh)(x y:Opd):AOp:=⟨some d,none,.iaddr s x y⟩
def fA (d o:Nat)(s:Sh)(x:Opd):AOp:=⟨some d,none,.faddr o s x⟩
def lN (d:Nat)(x:Opd):AOp:=⟨some d,none,.len x⟩
def eX (d:Nat)(x:Opd)(i:Nat):AOp:=⟨some d,none,.ext x i⟩
def dF (o:AOp)(l:List Nat):DOp:=⟨o,l,false,[],[]⟩
def dT (o:AOp)(l:List Nat):DOp:=⟨o,l,true,[],[]⟩
def dA (o:AOp)(l:List Nat)(e:Bool)(a b:List Nat):DOp:=⟨o,l,e,a,b⟩
def rg (l:List AOp)(k:List Nat):ACode:=.reg l (some k)
def dr (l:List DOp)(k:List Nat):ACode:=.draw l (some k)
end Go.Am
end
section
/- The functions asv abstract code,and asv formulas over their values: printed by program out of the translation. -/
set_option linter.unusedVariables false
set_option maxRecDepth 100000
namespace Go.Am
def tT:ACode:=.pr [5,7,8,9,10,11,12,36,37,38,53,54,55,61,62,63] (rg [bN 91 .add 63 (cI 1),
mV 63 91] [5,7,8,9,10,11,12,36,37,38,53,54,55,61,62,63])
def OY (C:Hd)(gl:GL)(v5 v7 v8 v9 v10 v11 v12 v36 v37 v38 v53 v54 v55 v61 v62 v63:AV)(h:aA)(x:Esc)(K:KT):Prop:=
 pK (eA .add v63 (AI 1)) fun t1=>
 K .normal ⟨[(5,v5),(7,v7),(8,v8),(9,v9),(10,v10),(11,v11),(12,v12),(36,v36),(37,v37),(38,v38),(53,v53),(54,v54),(55,v55),(61,v61),(62,v62),(63,t1)],h,x⟩
theorem zc5 {C gl e h x K}:NW C gl tT ⟨e,h,x⟩ K=OY C gl (bA e 5) (bA e 7) (bA e 8) (bA e 9) (bA e 10) (bA e 11) (bA e 12) (bA e 36) (bA e 37) (bA e 38) (bA e 53) (bA e 54) (bA e 55) (bA e 61) (bA e 62) (bA e 63) h x K:=by kernel_rfl
def GV (q1:ACode):ACode:=.pr [5,7,8,9,10,11,12,36,37,38,53,54,55,61,62,63] (.seq (rg [bN 64 .lss 63 62] [5,7,8,9,10,11,12,36,37,38,53,54,55,61,62,63,64])
(.seq (.cond 64 .skip
(.exit 4))
(.seq (.block 5 (.seq (rg [iA 65 (some 4) 61 63,
lD 66 (some 4) 65,
uO 14 (.alloc [.p (.int .i64 0),.p (.str []),.p (.int .i64 0),.p (.int .i64 0)]),
wO (.store (some 4) 14 66)] [5,7,8,9,10,11,12,14,36,37,38,53,54,55,61,62,63])
(.seq (rg [fA 67 0 none 14,
lD 68 none 67,
bN 69 .eql 68 (cI 2),
mV 70 69,
gD 71 70 true (.faddr 2 none 14),
gD 72 70 true (.load none 71),
gD 73 70 true (.mv 9),
gD 74 70 true (.bin .eql 72 73),
uO 75 (.pick 70 74 cF)] [5,7,8,9,10,11,12,14,36,37,38,53,54,55,61,62,63,75])
(.cond 75 (.seq (dr [dF (fA 76 3 none 14) [14],
dF (lD 77 none 76) [76],
dF (mV 78 5) [5],
dF (mV 79 7) [7],
dF (iA 80 none 78 79) [78,79],
dF (lD 81 none 80) [80],
dF (mV 82 9) [9],
dF (uO 83 (.idxs 81 82)) [81,82],
dF (bN 84 .sub 83 (.c (.p (.int .u8 48)))) [83],
dF (uO 85 (.conv (.i .i64) 84)) [84],
dF (bN 86 .eql 77 85) [77,85]] [5,7,8,9,10,11,12,36,37,38,53,54,55,61,62,63,86])
(.cond 86 (rg [mV 87 11,
bN 88 .add 87 (cI 1),
mV 11 88] [5,7,8,9,10,11,12,36,37,38,53,54,55,61,62,63])
(rg [mV 89 12,
bN 90 .add 89 (cI 1),
mV 12 90] [5,7,8,9,10,11,12,36,37,38,53,54,55,61,62,63])))
.skip))))
q1)))
def pJ:ACode:=GV tT
def mR (C:Hd)(gl:GL)(q1:ACode)(v5 v7 v8 v9 v10 v11 v12 v36 v37 v38 v53 v54 v55 v61 v62 v63:AV)(h:aA)(x:Esc)(K:KT):Prop:=
 pK (eA .lss v63 v62) fun t1=>
 oA t1 (pK (uA (some 4) v61 v63 h) fun t2=>
 pK (lA (some 4) t2 h) fun t3=>
 alK [.p (.int .i64 0),.p (.str []),.p (.int .i64 0),.p (.int .i64 0)] h fun t4 h5 y6=>
 wK (NA (some 4) t4 t3 h5) fun t7 h8 y9=>
 pK (nA 0 none t4) fun t10=>
 pK (lA none t10 h8) fun t11=>
 pK (eA .eql t11 (AI 2)) fun t12=>
 gP t12 true (nA 2 none t4) h8 fun t13 h14 y15=>
 gP t12 true (lA none t13 h14) h14 fun t16 h17 y18=>
 gM t12 true v9 h17 fun t19 h20 y21=>
 gP t12 true (eA .eql t16 t19) h20 fun t22 h23 y24=>
 pK (MA t12 t22 (AB false)) fun t25=>
 oA t25 (pK (nA 3 none t4) fun t26=>
 pK (lA none t26 h23) fun t27=>
 pK (uA none v5 v7 h23) fun t28=>
 pK (lA none t28 h23) fun t29=>
 pK (zE t29 v9) fun t30=>
 pK (eA .sub t30 (.p (.int .u8 48))) fun t31=>
 pK (ED .i64 t31) fun t32=>
 (h23=h23∧([]:Esc)=[])∧(pK (eA .eql t27 t32) fun t33=>
 oA t33 (pK (eA .add v11 (AI 1)) fun t34=>
 NW C gl q1 ⟨[(5,v5),(7,v7),(8,v8),(9,v9),(10,v10),(11,t34),(12,v12),(36,v36),(37,v37),(38,v38),(53,v53),(54,v54),(55,v55),(61,v61),(62,v62),(63,v63)],h23,(y24++(y21++(y18++(y15++(y9++(y6++x))))))⟩ K)
 (pK (eA .add v12 (AI 1)) fun t35=>
 NW C gl q1 ⟨[(5,v5),(7,v7),(8,v8),(9,v9),(10,v10),(11,v11),(12,t35),(36,v36),(37,v37),(38,v38),(53,v53),(54,v54),(55,v55),(61,v61),(62,v62),(63,v63)],h23,(y24++(y21++(y18++(y15++(y9++(y6++x))))))⟩ K)))
 (NW C gl q1 ⟨[(5,v5),(7,v7),(8,v8),(9,v9),(10,v10),(11,v11),(12,v12),(14,t4),(36,v36),(37,v37),(38,v38),(53,v53),(54,v54),(55,v55),(61,v61),(62,v62),(63,v63),(75,t25)],h23,(y24++(y21++(y18++(y15++(y9++(y6++x))))))⟩ K))
 (K (.exit 4) ⟨[(5,v5),(7,v7),(8,v8),(9,v9),(10,v10),(11,v11),(12,v12),(36,v36),(37,v37),(38,v38),(53,v53),(54,v54),(55,v55),(61,v61),(62,v62),(63,v63),(64,t1)],h,x⟩)
theorem z4W {C gl q1 e h x K}:NW C gl (GV q1) ⟨e,h,x⟩ K=mR C gl q1 (bA e 5) (bA e 7) (bA e 8) (bA e 9) (bA e 10) (bA e 11) (bA e 12) (bA e 36) (bA e 37) (bA e 38) (bA e 53) (bA e 54) (bA e 55) (bA e 61) (bA e 62) (bA e 63) h x K:=by kernel_rfl
theorem zc6 {C gl e h x K}:NW C gl pJ ⟨e,h,x⟩ K=mR C gl tT (bA e 5) (bA e 7) (bA e 8) (bA e 9) (bA e 10) (bA e 11) (bA e 12) (bA e 36) (bA e 37) (bA e 38) (bA e 53) (bA e 54) (bA e 55) (bA e 61) (bA e 62) (bA e 63) h x K:=z4W
theorem zfZ {C gl e h x K}:NW C gl (.loop (.scope pJ)) ⟨e,h,x⟩ K=LA C gl (.scope pJ) K [(5,bA e 5),(7,bA e 7),(8,bA e 8),(9,bA e 9),(10,bA e 10),(11,bA e 11),(12,bA e 12),(36,bA e 36),(37,bA e 37),(38,bA e 38),(53,bA e 53),(54,bA e 54),(55,bA e 55),(61,bA e 61),(62,bA e 62),(63,bA e 63)] h x:=MB
def uT:ACode:=.pr [5,7,8,9,10,11,12,36,37,38,53,54,55] (.seq (rg [mV 92 11,
mV 93 12,
bN 94 .lss 92 93,
mV 95 94,
gD 96 95 false (.faddr 0 none 10),
gD 97 95 false (.load none 96),
gD 98 95 false (.bin .neq 97 (cI 3)),
gD 99 95 false (.mv 98),
gD 100 99 true (.mv 5),
gD 101 99 true (.mv 7),
gD 102 99 true (.iaddr none 100 101),
gD 103 99 true (.load none 102),
gD 104 99 true (.mv 9),
gD 105 99 true (.idxs 103 104),
gD 106 99 true (.bin .neq 105 (.c (.p (.int .u8 48)))),
gD 107 95 false (.pick 99 106 cF),
uO 108 (.pick 95 cT 107)] [5,7,8,36,37,38,53,54,55,108])
(.cond 108 (.seq (rg [mV 2 cF] [2])
.ret)
.skip))
def uK (C:Hd)(gl:GL)(v5 v7 v8 v9 v10 v11 v12 v36 v37 v38 v53 v54 v55:AV)(h:aA)(x:Esc)(K:KT):Prop:=
 pK (eA .lss v11 v12) fun t1=>
 gP t1 false (nA 0 none v10) h fun t2 h3 y4=>
 gP t1 false (lA none t2 h3) h3 fun t5 h6 y7=>
 gP t1 false (eA .neq t5 (AI 3)) h6 fun t8 h9 y10=>
 gM t1 false t8 h9 fun t11 h12 y13=>
 gM t11 true v5 h12 fun t14 h15 y16=>
 gM t11 true v7 h15 fun t17 h18 y19=>
 gP t11 true (uA none t14 t17 h18) h18 fun t20 h21 y22=>
 gP t11 true (lA none t20 h21) h21 fun t23 h24 y25=>
 gM t11 true v9 h24 fun t26 h27 y28=>
 gP t11 true (zE t23 t26) h27 fun t29 h30 y31=>
 gP t11 true (eA .neq t29 (.p (.int .u8 48))) h30 fun t32 h33 y34=>
 gP t1 false (MA t11 t32 (AB false)) h33 fun t35 h36 y37=>
 pK (MA t1 (AB true) t35) fun t38=>
 oA t38 (K .ret ⟨[(2,(AB false))],h36,(y37++(y34++(y31++(y28++(y25++(y22++(y19++(y16++(y13++(y10++(y7++(y4++x))))))))))))⟩)
 (K .normal ⟨[(5,v5),(7,v7),(8,v8),(36,v36),(37,v37),(38,v38),(53,v53),(54,v54),(55,v55),(108,t38)],h36,(y37++(y34++(y31++(y28++(y25++(y22++(y19++(y16++(y13++(y10++(y7++(y4++x))))))))))))⟩)
theorem dS {C gl e h x K}:NW C gl uT ⟨e,h,x⟩ K=uK C gl (bA e 5) (bA e 7) (bA e 8) (bA e 9) (bA e 10) (bA e 11) (bA e 12) (bA e 36) (bA e 37) (bA e 38) (bA e 53) (bA e 54) (bA e 55) h x K:=by kernel_rfl
def vT:ACode:=.pr [5,7,8,36,37,38,53,54,55] (rg [bN 109 .add 55 (cI 1),
mV 55 109] [5,7,8,36,37,38,53,54,55])
def PY (C:Hd)(gl:GL)(v5 v7 v8 v36 v37 v38 v53 v54 v55:AV)(h:aA)(x:Esc)(K:KT):Prop:=
 pK (eA .add v55 (AI 1)) fun t1=>
 K .normal ⟨[(5,v5),(7,v7),(8,v8),(36,v36),(37,v37),(38,v38),(53,v53),(54,v54),(55,t1)],h,x⟩
theorem zc7 {C gl e h x K}:NW C gl vT ⟨e,h,x⟩ K=PY C gl (bA e 5) (bA e 7) (bA e 8) (bA e 36) (bA e 37) (bA e 38) (bA e 53) (bA e 54) (bA e 55) h x K:=by kernel_rfl
def HV (q2 q3 q4:ACode):ACode:=.pr [5,7,8,36,37,38,53,54,55] (.seq (rg [bN 56 .lss 55 54] [5,7,8,36,37,38,53,54,55,56])
(.seq (.cond 56 .skip
(.exit 2))
(.seq (.block 3 (.seq (rg [mV 57 55,
iA 58 (some 4) 53 55,
lD 59 (some 4) 58,
uO 10 (.alloc [.p (.int .i64 0),.p (.str []),.p (.int .i64 0),.p (.int .i64 0)]),
mV 9 57,
wO (.store (some 4) 10 59)] [5,7,8,9,10,36,37,38,53,54,55])
(.seq (rg [mV 11 (cI 0),
mV 12 (cI 0)] [5,7,8,9,10,11,12,36,37,38,53,54,55])
(.seq (.seq (rg [fA 60 1 none 8,
lD 61 none 60,
lN 62 61,
mV 63 (cI 0)] [5,7,8,9,10,11,12,36,37,38,53,54,55,61,62,63])
(.block 4 (.loop (.scope q2))))
q3))))
q4)))
def qJ:ACode:=HV pJ uT vT
def aN (C:Hd)(gl:GL)(q2 q3 q4:ACode)(v5 v7 v8 v36 v37 v38 v53 v54 v55:AV)(h:aA)(x:Esc)(K:KT):Prop:=
 pK (eA .lss v55 v54) fun t1=>
 oA t1 (pK (uA (some 4) v53 v55 h) fun t2=>
 pK (lA (some 4) t2 h) fun t3=>
 alK [.p (.int .i64 0),.p (.str []),.p (.int .i64 0),.p (.int .i64 0)] h fun t4 h5 y6=>
 wK (NA (some 4) t4 t3 h5) fun t7 h8 y9=>
 pK (nA 1 none v8) fun t10=>
 pK (lA none t10 h8) fun t11=>
 pK (AA t11) fun t12=>
 NW C gl (.loop (.scope q2)) ⟨[(5,v5),(7,v7),(8,v8),(9,v55),(10,t4),(11,(AI 0)),(12,(AI 0)),(36,v36),(37,v37),(38,v38),(53,v53),(54,v54),(55,v55),(61,t11),(62,t12),(63,(AI 0))],h8,(y9++(y6++x))⟩ (yA 4 (RA C gl q3 (yA 3 (RA C gl q4 K)))))
 (K (.exit 2) ⟨[(5,v5),(7,v7),(8,v8),(36,v36),(37,v37),(38,v38),(53,v53),(54,v54),(55,v55),(56,t1)],h,x⟩)
theorem z4X {C gl q2 q3 q4 e h x K}:NW C gl (HV q2 q3 q4) ⟨e,h,x⟩ K=aN C gl q2 q3 q4 (bA e 5) (bA e 7) (bA e 8) (bA e 36) (bA e 37) (bA e 38) (bA e 53) (bA e 54) (bA e 55) h x K:=by kernel_rfl
theorem ZZ {C gl e h x K}:NW C gl qJ ⟨e,h,x⟩ K=aN C gl pJ uT vT (bA e 5) (bA e 7) (bA e 8) (bA e 36) (bA e 37) (bA e 38) (bA e 53) (bA e 54) (bA e 55) h x K:=z4X
theorem zga {C gl e h x K}:NW C gl (.loop (.scope qJ)) ⟨e,h,x⟩ K=LA C gl (.scope qJ) K [(5,bA e 5),(7,bA e 7),(8,bA e 8),(36,bA e 36),(37,bA e 37),(38,bA e 38),(53,bA e 53),(54,bA e 54),(55,bA e 55)] h x:=MB
def wT:ACode:=.pr [5,36,37,38] (rg [bN 110 .add 38 (cI 1),
mV 38 110] [5,36,37,38])
def QY (C:Hd)(gl:GL)(v5 v36 v37 v38:AV)(h:aA)(x:Esc)(K:KT):Prop:=
 pK (eA .add v38 (AI 1)) fun t1=>
 K .normal ⟨[(5,v5),(36,v36),(37,v37),(38,t1)],h,x⟩
theorem zc8 {C gl e h x K}:NW C gl wT ⟨e,h,x⟩ K=QY C gl (bA e 5) (bA e 36) (bA e 37) (bA e 38) h x K:=by kernel_rfl
def IV (q5 q6:ACode):ACode:=.pr [5,36,37,38] (.seq (rg [bN 39 .lss 38 37] [5,36,37,38,39])
(.seq (.cond 39 .skip
(.exit 0))
(.seq (.block 1 (.seq (rg [mV 40 38,
iA 41 (some 2) 36 38,
lD 42 (some 2) 41,
uO 8 (.alloc [.p (.str []),.sl0 (some 4)]),
mV 7 40,
wO (.store (some 2) 8 42)] [5,7,8,36,37,38])
(.seq (.seq (dr [dF (mV 43 5) [5],
dF (mV 44 7) [7],
dF (iA 45 none 43 44) [43,44],
dF (lD 46 none 45) [45],
dF (uO 47 (.lens 46)) [46],
dF (fA 48 1 none 8) [8],
dF (lD 49 none 48) [48],
dF (lN 50 49) [49],
dF (bN 51 .neq 47 50) [47,50]] [5,7,8,36,37,38,51])
(.cond 51 (.seq (rg [mV 2 cF] [2])
.ret)
.skip))
(.seq (rg [fA 52 1 none 8,
lD 53 none 52,
lN 54 53,
mV 55 (cI 0)] [5,7,8,36,37,38,53,54,55])
(.block 2 (.loop (.scope q5)))))))
q6)))
def AH:ACode:=IV qJ wT
def nR (C:Hd)(gl:GL)(q5 q6:ACode)(v5 v36 v37 v38:AV)(h:aA)(x:Esc)(K:KT):Prop:=
 pK (eA .lss v38 v37) fun t1=>
 oA t1 (pK (uA (some 2) v36 v38 h) fun t2=>
 pK (lA (some 2) t2 h) fun t3=>
 alK [.p (.str []),.sl0 (some 4)] h fun t4 h5 y6=>
 wK (NA (some 2) t4 t3 h5) fun t7 h8 y9=>
 pK (uA none v5 v38 h8) fun t10=>
 pK (lA none t10 h8) fun t11=>
 pK (vG t11) fun t12=>
 pK (nA 1 none t4) fun t13=>
 pK (lA none t13 h8) fun t14=>
 pK (AA t14) fun t15=>
 pK (eA .neq t12 t15) fun t16=>
 oA t16 (K .ret ⟨[(2,(AB false))],h8,(y9++(y6++x))⟩)
 (pK (nA 1 none t4) fun t17=>
 pK (lA none t17 h8) fun t18=>
 pK (AA t18) fun t19=>
 NW C gl (.loop (.scope q5)) ⟨[(5,v5),(7,v38),(8,t4),(36,v36),(37,v37),(38,v38),(53,t18),(54,t19),(55,(AI 0))],h8,(y9++(y6++x))⟩ (yA 2 (yA 1 (RA C gl q6 K)))))
 (K (.exit 0) ⟨[(5,v5),(36,v36),(37,v37),(38,v38),(39,t1)],h,x⟩)
theorem z4Y {C gl q5 q6 e h x K}:NW C gl (IV q5 q6) ⟨e,h,x⟩ K=nR C gl q5 q6 (bA e 5) (bA e 36) (bA e 37) (bA e 38) h x K:=by kernel_rfl
theorem zc9 {C gl e h x K}:NW C gl AH ⟨e,h,x⟩ K=nR C gl qJ wT (bA e 5) (bA e 36) (bA e 37) (bA e 38) h x K:=z4Y
theorem zgb {C gl e h x K}:NW C gl (.loop (.scope AH)) ⟨e,h,x⟩ K=LA C gl (.scope AH) K [(5,bA e 5),(36,bA e 36),(37,bA e 37),(38,bA e 38)] h x:=MB
def tO:ACode:=.pr [] (.seq (rg [cL 111 eH [],
mV 2 111] [2])
.ret)
def cN (C:Hd)(gl:GL)(h:aA)(x:Esc)(K:KT):Prop:=
 C eH [] h fun t1 h2 y3=>
 K .ret ⟨[(2,t1)],h2,(y3++x)⟩
theorem fS {C gl e h x K}:NW C gl tO ⟨e,h,x⟩ K=cN C gl h x K:=by kernel_rfl
def FV (q7 q8:ACode):ACode:=(.seq (rg [mV 2 cF] [0])
(.seq (rg [mV 15 0,
uO 16 (.build [.sl0 none,.p (.int .i64 0)] [(0,1,15)]),
uO 17 (.box 16),
mV 3 17] [3])
(.seq (rg [mV 18 3,
cL 19 DI [18],
uO 4 (.alloc [.sl0 (some 2),.sl0 (some 3),.sl0 (some 2)]),
wO (.store (some 3) 4 19)] [4])
(.seq (rg [lD 21 (some 3) 4,
cL 22 vI [21],
mV 20 22,
eX 23 20 0,
eX 24 20 1,
mV 5 23,
mV 6 24] [4,5,6])
(.seq (.seq (rg [mV 25 6,
bN 26 .neq 25 (cI 0),
mV 27 26,
gD 28 27 false (.mv 5),
gD 29 27 false (.len 28),
gD 30 27 false (.faddr 0 none 4),
gD 31 27 false (.load none 30),
gD 32 27 false (.len 31),
gD 33 27 false (.bin .neq 29 32),
uO 34 (.pick 27 cT 33)] [4,5,34])
(.cond 34 (.seq (rg [mV 2 cF] [2])
.ret)
.skip))
(.seq (.seq (rg [fA 35 0 none 4,
lD 36 none 35,
lN 37 36,
mV 38 (cI 0)] [5,36,37,38])
(.block 0 (.loop (.scope q7))))
q8))))))
def PP:AFun:=⟨1,[.t 2],FV AH tO,false,false⟩
def ZM (C:Hd)(gl:GL)(q7 q8:ACode)(v0:AV)(h:aA)(x:Esc)(K:KT):Prop:=
 pK (vB [.sl0 none,.p (.int .i64 0)] [(0,1,v0)]) fun t1=>
 wK (uB t1 h) fun t2 h3 y4=>
 C DI [t2] h3 fun t5 h6 y7=>
 alK [.sl0 (some 2),.sl0 (some 3),.sl0 (some 2)] h6 fun t8 h9 y10=>
 wK (NA (some 3) t8 t5 h9) fun t11 h12 y13=>
 pK (lA (some 3) t8 h12) fun t14=>
 C vI [t14] h12 fun t15 h16 y17=>
 pK (DC t15 0) fun t18=>
 pK (DC t15 1) fun t19=>
 pK (eA .neq t19 (AI 0)) fun t20=>
 gM t20 false t18 h16 fun t21 h22 y23=>
 gP t20 false (AA t21) h22 fun t24 h25 y26=>
 gP t20 false (nA 0 none t8) h25 fun t27 h28 y29=>
 gP t20 false (lA none t27 h28) h28 fun t30 h31 y32=>
 gP t20 false (AA t30) h31 fun t33 h34 y35=>
 gP t20 false (eA .neq t24 t33) h34 fun t36 h37 y38=>
 pK (MA t20 (AB true) t36) fun t39=>
 oA t39 (K .ret ⟨[(2,(AB false))],h37,(y38++(y35++(y32++(y29++(y26++(y23++(y17++(y13++(y10++(y7++(y4++x)))))))))))⟩)
 (pK (nA 0 none t8) fun t40=>
 pK (lA none t40 h37) fun t41=>
 pK (AA t41) fun t42=>
 NW C gl (.loop (.scope q7)) ⟨[(5,t18),(36,t41),(37,t42),(38,(AI 0))],h37,(y38++(y35++(y32++(y29++(y26++(y23++(y17++(y13++(y10++(y7++(y4++x)))))))))))⟩ (yA 0 (RA C gl q8 K)))
theorem z4V {C gl q7 q8 v0 h x K}:NW C gl (FV q7 q8) ⟨enter [v0],h,x⟩ K=ZM C gl q7 q8 v0 h x K:=by kernel_rfl
theorem zc4 {C gl v0 h x K}:NW C gl PP.body ⟨enter [v0],h,x⟩ K=ZM C gl AH tO v0 h x K:=z4V
def vJ:ACode:=.pr [0,2,4] (.seq (rg [bN 5 .lss 4 (cI 6)] [0,2,4,5])
(.seq (.cond 5 .skip
(.exit 0))
(.seq (.block 1 (.seq (rg [mV 6 0,
cL 7 BI [6],
uO 3 (.alloc [.sl0 (some 2),.sl0 (some 3),.sl0 (some 2)]),
wO (.store (some 3) 3 7)] [0,2,3,4])
(.seq (rg [lD 8 (some 3) 3,
cL 9 EI [8],
bN 10 .eql 9 (cI 0)] [0,2,3,4,10])
(.cond 10 (.seq (rg [lD 11 (some 3) 3,
wO (.store (some 3) 2 11)] [2])
.ret)
.skip))))
(rg [bN 12 .add 4 (cI 1),
mV 4 12] [0,2,4]))))
def XY (C:Hd)(gl:GL)(v0 v2 v4:AV)(h:aA)(x:Esc)(K:KT):Prop:=
 pK (eA .lss v4 (AI 6)) fun t1=>
 oA t1 (C BI [v0] h fun t2 h3 y4=>
 alK [.sl0 (some 2),.sl0 (some 3),.sl0 (some 2)] h3 fun t5 h6 y7=>
 wK (NA (some 3) t5 t2 h6) fun t8 h9 y10=>
 pK (lA (some 3) t5 h9) fun t11=>
 C EI [t11] h9 fun t12 h13 y14=>
 pK (eA .eql t12 (AI 0)) fun t15=>
 oA t15 (pK (lA (some 3) t5 h13) fun t16=>
 wK (NA (some 3) v2 t16 h13) fun t17 h18 y19=>
 K .ret ⟨[(2,v2)],h18,(y19++(y14++(y10++(y7++(y4++x)))))⟩)
 (pK (eA .add v4 (AI 1)) fun t20=>
 K .normal ⟨[(0,v0),(2,v2),(4,t20)],h13,(y14++(y10++(y7++(y4++x))))⟩))
 (K (.exit 0) ⟨[(0,v0),(2,v2),(4,v4),(5,t1)],h,x⟩)
theorem zcT {C gl e h x K}:NW C gl vJ ⟨e,h,x⟩ K=XY C gl (bA e 0) (bA e 2) (bA e 4) h x K:=by kernel_rfl
theorem zgh {C gl e h x K}:NW C gl (.loop (.scope vJ)) ⟨e,h,x⟩ K=LA C gl (.scope vJ) K [(0,bA e 0),(2,bA e 2),(4,bA e 4)] h x:=MB
def CO:ACode:=.pr [2] (.seq (rg [uO 13 (.build [.p (.str []),.sl0 (some 4)] [(0,1,(cS [117]))]),
uO 14 (.bsl false (some 2) 1 (.agg [.str [],.sl (some 4) []]) [(0,13)]),
uO 15 (.build [.sl0 (some 2),.sl0 (some 3),.sl0 (some 2)] [(0,1,14)]),
wO (.store (some 3) 2 15)] [2])
.ret)
def kN (C:Hd)(gl:GL)(v2:AV)(h:aA)(x:Esc)(K:KT):Prop:=
 pK (vB [.p (.str []),.sl0 (some 4)] [(0,1,(.p (.str [117])))]) fun t1=>
 wK (ZA false (some 2) 1 (.agg [.str [],.sl (some 4) []]) [(0,t1)] h) fun t2 h3 y4=>
 pK (vB [.sl0 (some 2),.sl0 (some 3),.sl0 (some 2)] [(0,1,t2)]) fun t5=>
 wK (NA (some 3) v2 t5 h3) fun t6 h7 y8=>
 K .ret ⟨[(2,v2)],h7,(y8++(y4++x))⟩
theorem gS {C gl e h x K}:NW C gl CO ⟨e,h,x⟩ K=kN C gl (bA e 2) h x K:=by kernel_rfl
def VV (q1 q2:ACode):ACode:=(.seq (rg [uO 2 (.alloc [.sl0 (some 2),.sl0 (some 3),.sl0 (some 2)])] [0,2])
(.seq (.seq (rg [mV 4 (cI 0)] [0,2,4])
(.block 0 (.loop (.scope q1))))
q2))
def ZP:AFun:=⟨1,[.cell 2 (some 3)],VV vJ CO,false,false⟩
def jN (C:Hd)(gl:GL)(q1 q2:ACode)(v0:AV)(h:aA)(x:Esc)(K:KT):Prop:=
 alK [.sl0 (some 2),.sl0 (some 3),.sl0 (some 2)] h fun t1 h2 y3=>
 NW C gl (.loop (.scope q1)) ⟨[(0,v0),(2,t1),(4,(AI 0))],h2,(y3++x)⟩ (yA 0 (RA C gl q2 K))
theorem z5k {C gl q1 q2 v0 h x K}:NW C gl (VV q1 q2) ⟨enter [v0],h,x⟩ K=jN C gl q1 q2 v0 h x K:=by kernel_rfl
theorem zcS {C gl v0 h x K}:NW C gl ZP.body ⟨enter [v0],h,x⟩ K=jN C gl vJ CO v0 h x K:=z5k
def jJ:ACode:=.pr [5,14,15,16] (.seq (rg [bN 17 .lss 16 15] [5,14,15,16,17])
(.seq (.cond 17 .skip
(.exit 0))
(.seq (.block 1 (.seq (rg [iA 18 (some 2) 14 16,
lD 19 (some 2) 18,
uO 7 (.alloc [.p (.str []),.sl0 (some 4)]),
wO (.store (some 2) 7 19)] [5,7,14,15,16])
(rg [mV 20 5,
lD 21 (some 2) 7,
cL 22 wI [21],
uO 23 (.conv .b2s 22),
uO 24 (.bsl false none 1 (.str []) [(0,23)]),
uO 25 (.app none 20 24),
mV 5 25] [5,14,15,16])))
(rg [bN 26 .add 16 (cI 1),
mV 16 26] [5,14,15,16]))))
def xY (C:Hd)(gl:GL)(v5 v14 v15 v16:AV)(h:aA)(x:Esc)(K:KT):Prop:=
 pK (eA .lss v16 v15) fun t1=>
 oA t1 (pK (uA (some 2) v14 v16 h) fun t2=>
 pK (lA (some 2) t2 h) fun t3=>
 alK [.p (.str []),.sl0 (some 4)] h fun t4 h5 y6=>
 wK (NA (some 2) t4 t3 h5) fun t7 h8 y9=>
 pK (lA (some 2) t4 h8) fun t10=>
 C wI [t10] h8 fun t11 h12 y13=>
 wK (jF .b2s t11 h12) fun t14 h15 y16=>
 wK (ZA false none 1 (.str []) [(0,t14)] h15) fun t17 h18 y19=>
 wK (DD none v5 t17 h18) fun t20 h21 y22=>
 pK (eA .add v16 (AI 1)) fun t23=>
 K .normal ⟨[(5,t20),(14,v14),(15,v15),(16,t23)],h21,(y22++(y19++(y16++(y13++(y9++(y6++x))))))⟩)
 (K (.exit 0) ⟨[(5,v5),(14,v14),(15,v15),(16,v16),(17,t1)],h,x⟩)
theorem zbP {C gl e h x K}:NW C gl jJ ⟨e,h,x⟩ K=xY C gl (bA e 5) (bA e 14) (bA e 15) (bA e 16) h x K:=by kernel_rfl
theorem zfQ {C gl e h x K}:NW C gl (.loop (.scope jJ)) ⟨e,h,x⟩ K=LA C gl (.scope jJ) K [(5,bA e 5),(14,bA e 14),(15,bA e 15),(16,bA e 16)] h x:=MB
def oO:ACode:=.pr [5] (.seq (rg [mV 27 5,
mV 2 27,
mV 3 (cI 0)] [2,3])
.ret)
def yY (C:Hd)(gl:GL)(v5:AV)(h:aA)(x:Esc)(K:KT):Prop:=
 K .ret ⟨[(2,v5),(3,(AI 0))],h,x⟩
theorem zbQ {C gl e h x K}:NW C gl oO ⟨e,h,x⟩ K=yY C gl (bA e 5) h x K:=by kernel_rfl
def qV (q1 q2:ACode):ACode:=(.seq (rg [uO 1 (.box 0),
mV 2 (.c (.p (.sl none []))),
mV 3 (cI 0)] [1])
(.seq (.seq (rg [lD 8 (some 3) 1,
cL 9 iG [8],
mV 4 9] [1,4])
(.seq (rg [mV 10 4,
bN 11 .neq 10 (cI 0)] [1,4,11])
(.cond 11 (.seq (rg [mV 12 4,
mV 2 (.c (.p (.sl none []))),
mV 3 12] [2,3])
.ret)
.skip)))
(.seq (rg [uO 5 (.new0 none)] [1,5])
(.seq (.seq (rg [fA 13 0 none 1,
lD 14 none 13,
lN 15 14,
mV 16 (cI 0)] [5,14,15,16])
(.block 0 (.loop (.scope q1))))
q2))))
def GP:AFun:=⟨1,[.t 2,.t 3],qV jJ oO,false,false⟩
def oK (C:Hd)(gl:GL)(q1 q2:ACode)(v0:AV)(h:aA)(x:Esc)(K:KT):Prop:=
 wK (uB v0 h) fun t1 h2 y3=>
 pK (lA (some 3) t1 h2) fun t4=>
 C iG [t4] h2 fun t5 h6 y7=>
 pK (eA .neq t5 (AI 0)) fun t8=>
 oA t8 (K .ret ⟨[(2,(.p (.sl none []))),(3,t5)],h6,(y7++(y3++x))⟩)
 (nwK none h6 fun t9 h10 y11=>
 pK (nA 0 none t1) fun t12=>
 pK (lA none t12 h10) fun t13=>
 pK (AA t13) fun t14=>
 NW C gl (.loop (.scope q1)) ⟨[(5,t9),(14,t13),(15,t14),(16,(AI 0))],h10,(y11++(y7++(y3++x)))⟩ (yA 0 (RA C gl q2 K)))
theorem z4H {C gl q1 q2 v0 h x K}:NW C gl (qV q1 q2) ⟨enter [v0],h,x⟩ K=oK C gl q1 q2 v0 h x K:=by kernel_rfl
theorem zbO {C gl v0 h x K}:NW C gl GP.body ⟨enter [v0],h,x⟩ K=oK C gl jJ oO v0 h x K:=z4H
def xT:ACode:=.pr [0,2,3,16,17,18] (rg [bN 34 .add 18 (cI 1),
mV 18 34] [0,2,3,16,17,18])
def SY (C:Hd)(gl:GL)(v0 v2 v3 v16 v17 v18:AV)(h:aA)(x:Esc)(K:KT):Prop:=
 pK (eA .add v18 (AI 1)) fun t1=>
 K .normal ⟨[(0,v0),(2,v2),(3,v3),(16,v16),(17,v17),(18,t1)],h,x⟩
theorem zcD {C gl e h x K}:NW C gl xT ⟨e,h,x⟩ K=SY C gl (bA e 0) (bA e 2) (bA e 3) (bA e 16) (bA e 17) (bA e 18) h x K:=by kernel_rfl
def RV (q1:ACode):ACode:=.pr [0,2,3,16,17,18] (.seq (rg [bN 19 .lss 18 17] [0,2,3,16,17,18,19])
(.seq (.cond 19 .skip
(.exit 0))
(.seq (.block 1 (.seq (rg [iA 20 none 16 18,
lD 21 none 20,
mV 5 21] [0,2,3,5,16,17,18])
(.seq (rg [mV 22 0,
cL 23 rC [22,(cI 6)],
uO 24 (.un .not 23)] [0,2,3,5,16,17,18,24])
(.cond 24 (dr [dF (fA 25 0 none 3) [3],
dF (lD 26 none 25) [25],
dF (mV 27 5) [5],
dF (mV 28 0) [0],
dA (cL 29 fH [28]) [28] true [] [1],
dF (uO 30 (.build [.p (.str []),.sl0 (some 4)] [(0,1,27),(1,1,29)])) [27,29],
dA (uO 31 (.uns 9 3 [30])) [30] true [] [1],
dT (uO 32 (.uns 11 3 [26,31])) [26,31],
dF (fA 33 0 none 3) [3],
dT (wO (.store none 33 32)) [33,32]] [0,2,3,16,17,18])
.skip))))
q1)))
def CH:ACode:=RV xT
def pR (C:Hd)(gl:GL)(q1:ACode)(v0 v2 v3 v16 v17 v18:AV)(h:aA)(x:Esc)(K:KT):Prop:=
 pK (eA .lss v18 v17) fun t1=>
 oA t1 (pK (uA none v16 v18 h) fun t2=>
 pK (lA none t2 h) fun t3=>
 C rC [v0,(AI 6)] h fun t4 h5 y6=>
 pK (oUn .not t4) fun t7=>
 oA t7 (pK (nA 0 none v3) fun t8=>
 pK (lA none t8 h5) fun t9=>
 FB C fH [v0] h5 fun t10 h11 y12=>
 (pK (lA none t8 h11) fun v=>(fun u (g1:aA) (y1:Esc)=>u=t9∧g1=h11∧y1=[]) v h11 [])∧(pK (vB [.p (.str []),.sl0 (some 4)] [(0,1,t3),(1,1,t10)]) fun t13=>
 wK (ID 9 3 [t13] h11) fun t14 h15 y16=>
 (pK (lA none t8 h15) fun v=>(fun u (g1:aA) (y1:Esc)=>u=t9∧g1=h15∧y1=[]) v h15 [])∧(wK (ID 11 3 [t9,t14] h15) fun t17 h18 y19=>
 pK (nA 0 none v3) fun t20=>
 wK (NA none t20 t17 h18) fun t21 h22 y23=>
 NW C gl q1 ⟨[(0,v0),(2,v2),(3,v3),(16,v16),(17,v17),(18,v18)],h22,(y23++(y19++(y16++(y12++(y6++x)))))⟩ K)))
 (NW C gl q1 ⟨[(0,v0),(2,v2),(3,v3),(5,t3),(16,v16),(17,v17),(18,v18),(24,t7)],h5,(y6++x)⟩ K))
 (K (.exit 0) ⟨[(0,v0),(2,v2),(3,v3),(16,v16),(17,v17),(18,v18),(19,t1)],h,x⟩)
theorem z5g {C gl q1 e h x K}:NW C gl (RV q1) ⟨e,h,x⟩ K=pR C gl q1 (bA e 0) (bA e 2) (bA e 3) (bA e 16) (bA e 17) (bA e 18) h x K:=by kernel_rfl
theorem zcF {C gl e h x K}:NW C gl CH ⟨e,h,x⟩ K=pR C gl xT (bA e 0) (bA e 2) (bA e 3) (bA e 16) (bA e 17) (bA e 18) h x K:=z5g
theorem zgd {C gl e h x K}:NW C gl (.loop (.scope CH)) ⟨e,h,x⟩ K=LA C gl (.scope CH) K [(0,bA e 0),(2,bA e 2),(3,bA e 3),(16,bA e 16),(17,bA e 17),(18,bA e 18)] h x:=MB
def yT:ACode:=.pr [0,2,3,6,8,36,37,38,43,44,45] (rg [bN 67 .add 45 (cI 1),
mV 45 67] [0,2,3,6,8,36,37,38,43,44,45])
def TY (C:Hd)(gl:GL)(v0 v2 v3 v6 v8 v36 v37 v38 v43 v44 v45:AV)(h:aA)(x:Esc)(K:KT):Prop:=
 pK (eA .add v45 (AI 1)) fun t1=>
 K .normal ⟨[(0,v0),(2,v2),(3,v3),(6,v6),(8,v8),(36,v36),(37,v37),(38,v38),(43,v43),(44,v44),(45,t1)],h,x⟩
theorem zcG {C gl e h x K}:NW C gl yT ⟨e,h,x⟩ K=TY C gl (bA e 0) (bA e 2) (bA e 3) (bA e 6) (bA e 8) (bA e 36) (bA e 37) (bA e 38) (bA e 43) (bA e 44) (bA e 45) h x K:=by kernel_rfl
def SV (q3:ACode):ACode:=.pr [0,2,3,6,8,36,37,38,43,44,45] (.seq (rg [bN 46 .lss 45 44] [0,2,3,6,8,36,37,38,43,44,45,46])
(.seq (.cond 46 .skip
(.exit 4))
(.seq (.block 5 (.seq (rg [iA 47 (some 4) 43 45,
lD 48 (some 4) 47,
uO 10 (.alloc [.p (.int .i64 0),.p (.str []),.p (.int .i64 0),.p (.int .i64 0)]),
wO (.store (some 4) 10 48)] [0,2,3,6,8,10,36,37,38,43,44,45])
(.seq (rg [fA 49 0 none 8,
lD 50 none 49,
fA 51 1 none 10,
lD 52 none 51,
uO 53 (.build [.p (.str []),.p (.str [])] [(0,1,50),(1,1,52)]),
uO 11 (.alloc [.p (.str []),.p (.str [])]),
wO (.store (some 2) 11 53)] [0,2,3,6,8,10,11,36,37,38,43,44,45])
(.seq (rg [fA 54 1 none 10,
lD 55 none 54,
bN 56 .neq 55 (cS []),
mV 57 56,
gD 58 57 true (.mv 6),
gD 59 57 true (.load (some 2) 11),
gD 60 57 true (.call LI [58,59]),
gD 61 57 true (.un .not 60),
uO 62 (.pick 57 61 cF)] [0,2,3,6,8,11,36,37,38,43,44,45,62])
(.cond 62 (rg [mV 63 6,
lD 64 (some 2) 11,
uO 65 (.bsl false (some 2) 1 (.agg [.str [],.str []]) [(0,64)]),
uO 66 (.app (some 2) 63 65),
mV 6 66] [0,2,3,6,8,36,37,38,43,44,45])
.skip)))))
q3)))
def sJ:ACode:=SV yT
def fN (C:Hd)(gl:GL)(q3:ACode)(v0 v2 v3 v6 v8 v36 v37 v38 v43 v44 v45:AV)(h:aA)(x:Esc)(K:KT):Prop:=
 pK (eA .lss v45 v44) fun t1=>
 oA t1 (pK (uA (some 4) v43 v45 h) fun t2=>
 pK (lA (some 4) t2 h) fun t3=>
 alK [.p (.int .i64 0),.p (.str []),.p (.int .i64 0),.p (.int .i64 0)] h fun t4 h5 y6=>
 wK (NA (some 4) t4 t3 h5) fun t7 h8 y9=>
 pK (nA 0 none v8) fun t10=>
 pK (lA none t10 h8) fun t11=>
 pK (nA 1 none t4) fun t12=>
 pK (lA none t12 h8) fun t13=>
 pK (vB [.p (.str []),.p (.str [])] [(0,1,t11),(1,1,t13)]) fun t14=>
 alK [.p (.str []),.p (.str [])] h8 fun t15 h16 y17=>
 wK (NA (some 2) t15 t14 h16) fun t18 h19 y20=>
 pK (nA 1 none t4) fun t21=>
 pK (lA none t21 h19) fun t22=>
 pK (eA .neq t22 (.p (.str []))) fun t23=>
 gM t23 true v6 h19 fun t24 h25 y26=>
 gP t23 true (lA (some 2) t15 h25) h25 fun t27 h28 y29=>
 gV t23 true h28 (C LI [t24,t27] h28) fun t30 h31 y32=>
 gP t23 true (oUn .not t30) h31 fun t33 h34 y35=>
 pK (MA t23 t33 (AB false)) fun t36=>
 oA t36 (pK (lA (some 2) t15 h34) fun t37=>
 wK (ZA false (some 2) 1 (.agg [.str [],.str []]) [(0,t37)] h34) fun t38 h39 y40=>
 wK (DD (some 2) v6 t38 h39) fun t41 h42 y43=>
 NW C gl q3 ⟨[(0,v0),(2,v2),(3,v3),(6,t41),(8,v8),(36,v36),(37,v37),(38,v38),(43,v43),(44,v44),(45,v45)],h42,(y43++(y40++(y35++(y32++(y29++(y26++(y20++(y17++(y9++(y6++x))))))))))⟩ K)
 (NW C gl q3 ⟨[(0,v0),(2,v2),(3,v3),(6,v6),(8,v8),(11,t15),(36,v36),(37,v37),(38,v38),(43,v43),(44,v44),(45,v45),(62,t36)],h34,(y35++(y32++(y29++(y26++(y20++(y17++(y9++(y6++x))))))))⟩ K))
 (K (.exit 4) ⟨[(0,v0),(2,v2),(3,v3),(6,v6),(8,v8),(36,v36),(37,v37),(38,v38),(43,v43),(44,v44),(45,v45),(46,t1)],h,x⟩)
theorem z5h {C gl q3 e h x K}:NW C gl (SV q3) ⟨e,h,x⟩ K=fN C gl q3 (bA e 0) (bA e 2) (bA e 3) (bA e 6) (bA e 8) (bA e 36) (bA e 37) (bA e 38) (bA e 43) (bA e 44) (bA e 45) h x K:=by kernel_rfl
theorem z0a {C gl e h x K}:NW C gl sJ ⟨e,h,x⟩ K=fN C gl yT (bA e 0) (bA e 2) (bA e 3) (bA e 6) (bA e 8) (bA e 36) (bA e 37) (bA e 38) (bA e 43) (bA e 44) (bA e 45) h x K:=z5h
theorem zge {C gl e h x K}:NW C gl (.loop (.scope sJ)) ⟨e,h,x⟩ K=LA C gl (.scope sJ) K [(0,bA e 0),(2,bA e 2),(3,bA e 3),(6,bA e 6),(8,bA e 8),(36,bA e 36),(37,bA e 37),(38,bA e 38),(43,bA e 43),(44,bA e 44),(45,bA e 45)] h x:=MB
def zT:ACode:=.pr [0,2,3,6,36,37,38] (rg [bN 68 .add 38 (cI 1),
mV 38 68] [0,2,3,6,36,37,38])
def UY (C:Hd)(gl:GL)(v0 v2 v3 v6 v36 v37 v38:AV)(h:aA)(x:Esc)(K:KT):Prop:=
 pK (eA .add v38 (AI 1)) fun t1=>
 K .normal ⟨[(0,v0),(2,v2),(3,v3),(6,v6),(36,v36),(37,v37),(38,t1)],h,x⟩
theorem zcH {C gl e h x K}:NW C gl zT ⟨e,h,x⟩ K=UY C gl (bA e 0) (bA e 2) (bA e 3) (bA e 6) (bA e 36) (bA e 37) (bA e 38) h x K:=by kernel_rfl
def TV (q4 q5:ACode):ACode:=.pr [0,2,3,6,36,37,38] (.seq (rg [bN 39 .lss 38 37] [0,2,3,6,36,37,38,39])
(.seq (.cond 39 .skip
(.exit 2))
(.seq (.block 3 (.seq (rg [iA 40 (some 2) 36 38,
lD 41 (some 2) 40,
uO 8 (.alloc [.p (.str []),.sl0 (some 4)]),
wO (.store (some 2) 8 41)] [0,2,3,6,8,36,37,38])
(.seq (rg [fA 42 1 none 8,
lD 43 none 42,
lN 44 43,
mV 45 (cI 0)] [0,2,3,6,8,36,37,38,43,44,45])
(.block 4 (.loop (.scope q4))))))
q5)))
def tJ:ACode:=TV sJ zT
def qR (C:Hd)(gl:GL)(q4 q5:ACode)(v0 v2 v3 v6 v36 v37 v38:AV)(h:aA)(x:Esc)(K:KT):Prop:=
 pK (eA .lss v38 v37) fun t1=>
 oA t1 (pK (uA (some 2) v36 v38 h) fun t2=>
 pK (lA (some 2) t2 h) fun t3=>
 alK [.p (.str []),.sl0 (some 4)] h fun t4 h5 y6=>
 wK (NA (some 2) t4 t3 h5) fun t7 h8 y9=>
 pK (nA 1 none t4) fun t10=>
 pK (lA none t10 h8) fun t11=>
 pK (AA t11) fun t12=>
 NW C gl (.loop (.scope q4)) ⟨[(0,v0),(2,v2),(3,v3),(6,v6),(8,t4),(36,v36),(37,v37),(38,v38),(43,t11),(44,t12),(45,(AI 0))],h8,(y9++(y6++x))⟩ (yA 4 (yA 3 (RA C gl q5 K))))
 (K (.exit 2) ⟨[(0,v0),(2,v2),(3,v3),(6,v6),(36,v36),(37,v37),(38,v38),(39,t1)],h,x⟩)
theorem z5i {C gl q4 q5 e h x K}:NW C gl (TV q4 q5) ⟨e,h,x⟩ K=qR C gl q4 q5 (bA e 0) (bA e 2) (bA e 3) (bA e 6) (bA e 36) (bA e 37) (bA e 38) h x K:=by kernel_rfl
theorem zcI {C gl e h x K}:NW C gl tJ ⟨e,h,x⟩ K=qR C gl sJ zT (bA e 0) (bA e 2) (bA e 3) (bA e 6) (bA e 36) (bA e 37) (bA e 38) h x K:=z5i
theorem zgf {C gl e h x K}:NW C gl (.loop (.scope tJ)) ⟨e,h,x⟩ K=LA C gl (.scope tJ) K [(0,bA e 0),(2,bA e 2),(3,bA e 3),(6,bA e 6),(36,bA e 36),(37,bA e 37),(38,bA e 38)] h x:=MB
def AT:ACode:=.pr [0,2,3,69,70,71] (rg [bN 91 .add 71 (cI 1),
mV 71 91] [0,2,3,69,70,71])
def VY (C:Hd)(gl:GL)(v0 v2 v3 v69 v70 v71:AV)(h:aA)(x:Esc)(K:KT):Prop:=
 pK (eA .add v71 (AI 1)) fun t1=>
 K .normal ⟨[(0,v0),(2,v2),(3,v3),(69,v69),(70,v70),(71,t1)],h,x⟩
theorem zcJ {C gl e h x K}:NW C gl AT ⟨e,h,x⟩ K=VY C gl (bA e 0) (bA e 2) (bA e 3) (bA e 69) (bA e 70) (bA e 71) h x K:=by kernel_rfl
def UV (q7:ACode):ACode:=.pr [0,2,3,69,70,71] (.seq (rg [bN 72 .lss 71 70] [0,2,3,69,70,71,72])
(.seq (.cond 72 .skip
(.exit 6))
(.seq (.block 7 (.seq (rg [iA 73 (some 2) 69 71,
lD 74 (some 2) 73,
uO 13 (.alloc [.p (.str []),.p (.str [])]),
wO (.store (some 2) 13 74)] [0,2,3,13,69,70,71])
(.seq (rg [mV 75 0,
cL 76 rC [75,(cI 5)],
uO 77 (.un .not 76)] [0,2,3,13,69,70,71,77])
(.cond 77 (dr [dF (fA 78 1 none 3) [3],
dF (lD 79 none 78) [78],
dF (mV 80 0) [0],
dF (uO 81 (.bsl false none 4 (.str []) [(0,(cS [110,49])),(1,(cS [110,49])),(2,(cS [110,50])),(3,(cS [110,51]))])) [],
dA (cL 82 wC [80,81]) [80,81] true [] [1],
dF (uO 83 (.iaddra 2 none 13 (cI 0))) [13],
dA (lD 84 none 83) [83] false [4] [],
dF (uO 85 (.iaddra 2 none 13 (cI 1))) [13],
dA (lD 86 none 85) [85] false [4] [],
dF (uO 87 (.build [.p (.str []),.p (.str []),.p (.str [])] [(0,1,82),(1,1,84),(2,1,86)])) [82,84,86],
dF (uO 88 (.bsl false (some 3) 1 (.agg [.str [],.str [],.str []]) [(0,87)])) [87],
dT (uO 89 (.app (some 3) 79 88)) [79,88],
dF (fA 90 1 none 3) [3],
dT (wO (.store none 90 89)) [90,89]] [0,2,3,69,70,71])
.skip))))
q7)))
def uJ:ACode:=UV AT
def rR (C:Hd)(gl:GL)(q7:ACode)(v0 v2 v3 v69 v70 v71:AV)(h:aA)(x:Esc)(K:KT):Prop:=
 pK (eA .lss v71 v70) fun t1=>
 oA t1 (pK (uA (some 2) v69 v71 h) fun t2=>
 pK (lA (some 2) t2 h) fun t3=>
 alK [.p (.str []),.p (.str [])] h fun t4 h5 y6=>
 wK (NA (some 2) t4 t3 h5) fun t7 h8 y9=>
 C rC [v0,(AI 5)] h8 fun t10 h11 y12=>
 pK (oUn .not t10) fun t13=>
 oA t13 (pK (nA 1 none v3) fun t14=>
 pK (lA none t14 h11) fun t15=>
 wK (ZA false none 4 (.str []) [(0,(.p (.str [110,49]))),(1,(.p (.str [110,49]))),(2,(.p (.str [110,50]))),(3,(.p (.str [110,51])))] h11) fun t16 h17 y18=>
 (h17=h11∧y18=[])∧(FB C wC [v0,t16] h17 fun t19 h20 y21=>
 (pK (lA none t14 h20) fun v=>(fun u (g1:aA) (y1:Esc)=>u=t15∧g1=h20∧y1=[]) v h20 [])∧(pK (yH 2 none t4 (AI 0)) fun t22=>
 pK (lA none t22 h20) fun t23=>
 (pK (lA none t22 h17) fun v=>(fun u (g1:aA) (y1:Esc)=>u=t23∧g1=h17∧y1=[]) v h17 [])∧(pK (yH 2 none t4 (AI 1)) fun t24=>
 pK (lA none t24 h20) fun t25=>
 (pK (lA none t24 h17) fun v=>(fun u (g1:aA) (y1:Esc)=>u=t25∧g1=h17∧y1=[]) v h17 [])∧(pK (vB [.p (.str []),.p (.str []),.p (.str [])] [(0,1,t19),(1,1,t23),(2,1,t25)]) fun t26=>
 wK (ZA false (some 3) 1 (.agg [.str [],.str [],.str []]) [(0,t26)] h20) fun t27 h28 y29=>
 (h28=h20∧y29=[])∧(wK (DD (some 3) t15 t27 h28) fun t30 h31 y32=>
 pK (nA 1 none v3) fun t33=>
 wK (NA none t33 t30 h31) fun t34 h35 y36=>
 NW C gl q7 ⟨[(0,v0),(2,v2),(3,v3),(69,v69),(70,v70),(71,v71)],h35,(y36++(y32++(y29++(y21++(y18++(y12++(y9++(y6++x))))))))⟩ K))))))
 (NW C gl q7 ⟨[(0,v0),(2,v2),(3,v3),(13,t4),(69,v69),(70,v70),(71,v71),(77,t13)],h11,(y12++(y9++(y6++x)))⟩ K))
 (K (.exit 6) ⟨[(0,v0),(2,v2),(3,v3),(69,v69),(70,v70),(71,v71),(72,t1)],h,x⟩)
theorem z5j {C gl q7 e h x K}:NW C gl (UV q7) ⟨e,h,x⟩ K=rR C gl q7 (bA e 0) (bA e 2) (bA e 3) (bA e 69) (bA e 70) (bA e 71) h x K:=by kernel_rfl
theorem zcK {C gl e h x K}:NW C gl uJ ⟨e,h,x⟩ K=rR C gl AT (bA e 0) (bA e 2) (bA e 3) (bA e 69) (bA e 70) (bA e 71) h x K:=z5j
theorem zgg {C gl e h x K}:NW C gl (.loop (.scope uJ)) ⟨e,h,x⟩ K=LA C gl (.scope uJ) K [(0,bA e 0),(2,bA e 2),(3,bA e 3),(69,bA e 69),(70,bA e 70),(71,bA e 71)] h x:=MB
def BT:ACode:=.pr [0,2,3,96,97,98] (rg [bN 113 .add 98 (cI 1),
mV 98 113] [0,2,3,96,97,98])
def WY (C:Hd)(gl:GL)(v0 v2 v3 v96 v97 v98:AV)(h:aA)(x:Esc)(K:KT):Prop:=
 pK (eA .add v98 (AI 1)) fun t1=>
 K .normal ⟨[(0,v0),(2,v2),(3,v3),(96,v96),(97,v97),(98,t1)],h,x⟩
theorem zcL {C gl e h x K}:NW C gl BT ⟨e,h,x⟩ K=WY C gl (bA e 0) (bA e 2) (bA e 3) (bA e 96) (bA e 97) (bA e 98) h x K:=by kernel_rfl
def LV (q9:ACode):ACode:=.pr [0,2,3,96,97,98] (.seq (rg [bN 99 .lss 98 97] [0,2,3,96,97,98,99])
(.seq (.cond 99 .skip
(.exit 8))
(.seq (.block 9 (.seq (rg [iA 100 none 96 98,
lD 101 none 100,
mV 15 101] [0,2,3,15,96,97,98])
(.seq (rg [mV 102 0,
cL 103 rC [102,(cI 4)]] [0,2,3,15,96,97,98,103])
(.cond 103 (dr [dF (fA 104 2 none 3) [3],
dF (lD 105 none 104) [104],
dF (mV 106 15) [15],
dF (mV 107 0) [0],
dA (cL 108 zB [107,(cI 2)]) [107] true [] [1],
dF (uO 109 (.build [.p (.str []),.p (.int .i64 0)] [(0,1,106),(1,1,108)])) [106,108],
dF (uO 110 (.bsl false (some 2) 1 (.agg [.str [],.int .i64 0]) [(0,109)])) [109],
dT (uO 111 (.app (some 2) 105 110)) [105,110],
dF (fA 112 2 none 3) [3],
dT (wO (.store none 112 111)) [112,111]] [0,2,3,96,97,98])
.skip))))
q9)))
def rJ:ACode:=LV BT
def oR (C:Hd)(gl:GL)(q9:ACode)(v0 v2 v3 v96 v97 v98:AV)(h:aA)(x:Esc)(K:KT):Prop:=
 pK (eA .lss v98 v97) fun t1=>
 oA t1 (pK (uA none v96 v98 h) fun t2=>
 pK (lA none t2 h) fun t3=>
 C rC [v0,(AI 4)] h fun t4 h5 y6=>
 oA t4 (pK (nA 2 none v3) fun t7=>
 pK (lA none t7 h5) fun t8=>
 FB C zB [v0,(AI 2)] h5 fun t9 h10 y11=>
 (pK (lA none t7 h10) fun v=>(fun u (g1:aA) (y1:Esc)=>u=t8∧g1=h10∧y1=[]) v h10 [])∧(pK (vB [.p (.str []),.p (.int .i64 0)] [(0,1,t3),(1,1,t9)]) fun t12=>
 wK (ZA false (some 2) 1 (.agg [.str [],.int .i64 0]) [(0,t12)] h10) fun t13 h14 y15=>
 (h14=h10∧y15=[])∧(wK (DD (some 2) t8 t13 h14) fun t16 h17 y18=>
 pK (nA 2 none v3) fun t19=>
 wK (NA none t19 t16 h17) fun t20 h21 y22=>
 NW C gl q9 ⟨[(0,v0),(2,v2),(3,v3),(96,v96),(97,v97),(98,v98)],h21,(y22++(y18++(y15++(y11++(y6++x)))))⟩ K)))
 (NW C gl q9 ⟨[(0,v0),(2,v2),(3,v3),(15,t3),(96,v96),(97,v97),(98,v98),(103,t4)],h5,(y6++x)⟩ K))
 (K (.exit 8) ⟨[(0,v0),(2,v2),(3,v3),(96,v96),(97,v97),(98,v98),(99,t1)],h,x⟩)
theorem z5b {C gl q9 e h x K}:NW C gl (LV q9) ⟨e,h,x⟩ K=oR C gl q9 (bA e 0) (bA e 2) (bA e 3) (bA e 96) (bA e 97) (bA e 98) h x K:=by kernel_rfl
theorem zcE {C gl e h x K}:NW C gl rJ ⟨e,h,x⟩ K=oR C gl BT (bA e 0) (bA e 2) (bA e 3) (bA e 96) (bA e 97) (bA e 98) h x K:=z5b
theorem zgc {C gl e h x K}:NW C gl (.loop (.scope rJ)) ⟨e,h,x⟩ K=LA C gl (.scope rJ) K [(0,bA e 0),(2,bA e 2),(3,bA e 3),(96,bA e 96),(97,bA e 97),(98,bA e 98)] h x:=MB
def xO:ACode:=.pr [2,3] (.seq (rg [lD 118 (some 3) 3,
wO (.store (some 3) 2 118)] [2])
.ret)
def vK (C:Hd)(gl:GL)(v2 v3:AV)(h:aA)(x:Esc)(K:KT):Prop:=
 pK (lA (some 3) v3 h) fun t1=>
 wK (NA (some 3) v2 t1 h) fun t2 h3 y4=>
 K .ret ⟨[(2,v2)],h3,(y4++x)⟩
theorem HN {C gl e h x K}:NW C gl xO ⟨e,h,x⟩ K=vK C gl (bA e 2) (bA e 3) h x K:=by kernel_rfl
def MV (q11:ACode):ACode:=.pr [0,2,3] (.seq (.seq (rg [mV 114 0,
cL 115 rC [114,(cI 8)]] [0,2,3,115])
(.cond 115 (rg [mV 116 0,
cL 117 wE [116,3]] [2,3])
.skip))
q11)
def yO:ACode:=MV xO
def UG (C:Hd)(gl:GL)(q11:ACode)(v0 v2 v3:AV)(h:aA)(x:Esc)(K:KT):Prop:=
 C rC [v0,(AI 8)] h fun t1 h2 y3=>
 oA t1 (C wE [v0,v3] h2 fun t4 h5 y6=>
 NW C gl q11 ⟨[(2,v2),(3,v3)],h5,(y6++(y3++x))⟩ K)
 (NW C gl q11 ⟨[(0,v0),(2,v2),(3,v3),(115,t1)],h2,(y3++x)⟩ K)
theorem z5c {C gl q11 e h x K}:NW C gl (MV q11) ⟨e,h,x⟩ K=UG C gl q11 (bA e 0) (bA e 2) (bA e 3) h x K:=by kernel_rfl
theorem IN {C gl e h x K}:NW C gl yO ⟨e,h,x⟩ K=UG C gl xO (bA e 0) (bA e 2) (bA e 3) h x K:=z5c
def NV (q10 q12:ACode):ACode:=.pr [0,2,3] (.seq (rg [fA 92 1 none 3,
lD 93 none 92,
cL 94 nH [93,(.f nG)]] [0,2,3])
(.seq (.seq (rg [lD 95 (some 3) 3,
cL 96 DF [95],
lN 97 96,
mV 98 (cI 0)] [0,2,3,96,97,98])
(.block 8 (.loop (.scope q10))))
q12))
def zO:ACode:=NV rJ yO
def lI (C:Hd)(gl:GL)(q10 q12:ACode)(v0 v2 v3:AV)(h:aA)(x:Esc)(K:KT):Prop:=
 pK (nA 1 none v3) fun t1=>
 pK (lA none t1 h) fun t2=>
 C nH [t2,(.fn nG [])] h fun t3 h4 y5=>
 pK (lA (some 3) v3 h4) fun t6=>
 C DF [t6] h4 fun t7 h8 y9=>
 pK (AA t7) fun t10=>
 NW C gl (.loop (.scope q10)) ⟨[(0,v0),(2,v2),(3,v3),(96,t7),(97,t10),(98,(AI 0))],h8,(y9++(y5++x))⟩ (yA 8 (RA C gl q12 K))
theorem z5d {C gl q10 q12 e h x K}:NW C gl (NV q10 q12) ⟨e,h,x⟩ K=lI C gl q10 q12 (bA e 0) (bA e 2) (bA e 3) h x K:=by kernel_rfl
theorem JN {C gl e h x K}:NW C gl zO ⟨e,h,x⟩ K=lI C gl rJ yO (bA e 0) (bA e 2) (bA e 3) h x K:=z5d
def OV (q8 q13:ACode):ACode:=.pr [0,2,3,6] (.seq (.seq (rg [mV 69 6,
lN 70 69,
mV 71 (cI 0)] [0,2,3,69,70,71])
(.block 6 (.loop (.scope q8))))
q13)
def BO:ACode:=OV uJ zO
def mI (C:Hd)(gl:GL)(q8 q13:ACode)(v0 v2 v3 v6:AV)(h:aA)(x:Esc)(K:KT):Prop:=
 pK (AA v6) fun t1=>
 NW C gl (.loop (.scope q8)) ⟨[(0,v0),(2,v2),(3,v3),(69,v6),(70,t1),(71,(AI 0))],h,x⟩ (yA 6 (RA C gl q13 K))
theorem z5e {C gl q8 q13 e h x K}:NW C gl (OV q8 q13) ⟨e,h,x⟩ K=mI C gl q8 q13 (bA e 0) (bA e 2) (bA e 3) (bA e 6) h x K:=by kernel_rfl
theorem KN {C gl e h x K}:NW C gl BO ⟨e,h,x⟩ K=mI C gl uJ zO (bA e 0) (bA e 2) (bA e 3) (bA e 6) h x K:=z5e
def QV (q6 q14:ACode):ACode:=.pr [0,2,3] (.seq (rg [uO 6 (.new0 (some 2))] [0,2,3,6])
(.seq (.seq (rg [fA 35 0 none 3,
lD 36 none 35,
lN 37 36,
mV 38 (cI 0)] [0,2,3,6,36,37,38])
(.block 2 (.loop (.scope q6))))
q14))
def lL:ACode:=QV tJ BO
def nI (C:Hd)(gl:GL)(q6 q14:ACode)(v0 v2 v3:AV)(h:aA)(x:Esc)(K:KT):Prop:=
 nwK (some 2) h fun t1 h2 y3=>
 pK (nA 0 none v3) fun t4=>
 pK (lA none t4 h2) fun t5=>
 pK (AA t5) fun t6=>
 NW C gl (.loop (.scope q6)) ⟨[(0,v0),(2,v2),(3,v3),(6,t1),(36,t5),(37,t6),(38,(AI 0))],h2,(y3++x)⟩ (yA 2 (RA C gl q14 K))
theorem z5f {C gl q6 q14 e h x K}:NW C gl (QV q6 q14) ⟨e,h,x⟩ K=nI C gl q6 q14 (bA e 0) (bA e 2) (bA e 3) h x K:=by kernel_rfl
theorem LN {C gl e h x K}:NW C gl lL ⟨e,h,x⟩ K=nI C gl tJ BO (bA e 0) (bA e 2) (bA e 3) h x K:=z5f
def KV (q2 q15:ACode):ACode:=(.seq (rg [uO 2 (.uns 8 0 [(.c (.bt 3 3 0 0)),(.c (.sl0 (some 3))),(.c (.sl0 (some 2)))])] [0,2])
(.seq (rg [uO 3 (.uns 8 0 [(.c (.bt 3 3 0 0)),(.c (.sl0 (some 3))),(.c (.sl0 (some 2)))])] [0,2,3])
(.seq (.seq (rg [uO 16 (.bsl false none 3 (.str []) [(0,(cS [117])),(1,(cS [118])),(2,(cS [119]))]),
lN 17 16,
mV 18 (cI 0)] [0,2,3,16,17,18])
(.block 0 (.loop (.scope q2))))
q15)))
def RP:AFun:=⟨1,[.cell 2 (some 3)],KV CH lL,false,false⟩
def eN (C:Hd)(gl:GL)(q2 q15:ACode)(v0:AV)(h:aA)(x:Esc)(K:KT):Prop:=
 wK (ID 8 0 [.bt 3 3 0 0,.sl0 (some 3),.sl0 (some 2)] h) fun t1 h2 y3=>
 wK (ID 8 0 [.bt 3 3 0 0,.sl0 (some 3),.sl0 (some 2)] h2) fun t4 h5 y6=>
 wK (ZA false none 3 (.str []) [(0,(.p (.str [117]))),(1,(.p (.str [118]))),(2,(.p (.str [119])))] h5) fun t7 h8 y9=>
 pK (AA t7) fun t10=>
 NW C gl (.loop (.scope q2)) ⟨[(0,v0),(2,t1),(3,t4),(16,t7),(17,t10),(18,(AI 0))],h8,(y9++(y6++(y3++x)))⟩ (yA 0 (RA C gl q15 K))
theorem z5a {C gl q2 q15 v0 h x K}:NW C gl (KV q2 q15) ⟨enter [v0],h,x⟩ K=eN C gl q2 q15 v0 h x K:=by kernel_rfl
theorem zcC {C gl v0 h x K}:NW C gl RP.body ⟨enter [v0],h,x⟩ K=eN C gl CH lL v0 h x K:=z5a
def yJ:ACode:=.pr [1,3,19,20,21] (.seq (rg [bN 22 .lss 21 20] [1,3,19,20,21,22])
(.seq (.cond 22 .skip
(.exit 0))
(.seq (.block 1 (.seq (rg [iA 23 (some 2) 19 21,
lD 24 (some 2) 23,
uO 5 (.alloc [.p (.str []),.sl0 (some 4)]),
wO (.store (some 2) 5 24)] [1,3,5,19,20,21])
(.seq (.block 2 (.seq (rg [fA 26 0 none 5,
lD 27 none 26,
cL 28 WE [27],
uO 29 (.un .not 28),
mV 25 29] [1,3,5,19,20,21,25])
(.cond 25 (.seq (rg [mV 2 (cI 5)] [2])
.ret)
(.seq (rg [fA 31 0 none 5,
lD 32 none 31,
mV 33 3,
bN 34 .leq 32 33,
mV 30 34] [1,5,19,20,21,30])
(.cond 30 (.seq (rg [mV 2 (cI 7)] [2])
.ret)
.skip)))))
(.seq (.seq (rg [lD 35 (some 2) 5,
cL 36 JI [35],
mV 6 36] [1,5,6,19,20,21])
(.seq (rg [mV 37 6,
bN 38 .neq 37 (cI 0)] [1,5,6,19,20,21,38])
(.cond 38 (.seq (rg [mV 39 6,
mV 2 39] [2])
.ret)
.skip)))
(rg [fA 40 0 none 5,
lD 41 none 40,
mV 3 41] [1,3,19,20,21])))))
(rg [bN 42 .add 21 (cI 1),
mV 21 42] [1,3,19,20,21]))))
def eZ (C:Hd)(gl:GL)(v1 v3 v19 v20 v21:AV)(h:aA)(x:Esc)(K:KT):Prop:=
 pK (eA .lss v21 v20) fun t1=>
 oA t1 (pK (uA (some 2) v19 v21 h) fun t2=>
 pK (lA (some 2) t2 h) fun t3=>
 alK [.p (.str []),.sl0 (some 4)] h fun t4 h5 y6=>
 wK (NA (some 2) t4 t3 h5) fun t7 h8 y9=>
 pK (nA 0 none t4) fun t10=>
 pK (lA none t10 h8) fun t11=>
 C WE [t11] h8 fun t12 h13 y14=>
 pK (oUn .not t12) fun t15=>
 oA t15 (K .ret ⟨[(2,(AI 5))],h13,(y14++(y9++(y6++x)))⟩)
 (pK (nA 0 none t4) fun t16=>
 pK (lA none t16 h13) fun t17=>
 pK (eA .leq t17 v3) fun t18=>
 oA t18 (K .ret ⟨[(2,(AI 7))],h13,(y14++(y9++(y6++x)))⟩)
 (pK (lA (some 2) t4 h13) fun t19=>
 C JI [t19] h13 fun t20 h21 y22=>
 pK (eA .neq t20 (AI 0)) fun t23=>
 oA t23 (K .ret ⟨[(2,t20)],h21,(y22++(y14++(y9++(y6++x))))⟩)
 (pK (nA 0 none t4) fun t24=>
 pK (lA none t24 h21) fun t25=>
 pK (eA .add v21 (AI 1)) fun t26=>
 K .normal ⟨[(1,v1),(3,t25),(19,v19),(20,v20),(21,t26)],h21,(y22++(y14++(y9++(y6++x))))⟩))))
 (K (.exit 0) ⟨[(1,v1),(3,v3),(19,v19),(20,v20),(21,v21),(22,t1)],h,x⟩)
theorem zdi {C gl e h x K}:NW C gl yJ ⟨e,h,x⟩ K=eZ C gl (bA e 1) (bA e 3) (bA e 19) (bA e 20) (bA e 21) h x K:=by kernel_rfl
theorem zgl {C gl e h x K}:NW C gl (.loop (.scope yJ)) ⟨e,h,x⟩ K=LA C gl (.scope yJ) K [(1,bA e 1),(3,bA e 3),(19,bA e 19),(20,bA e 20),(21,bA e 21)] h x:=MB
def mL:ACode:=.pr [1,48,49,50] (.seq (rg [bN 51 .lss 50 49] [1,48,49,50,51])
(.seq (.cond 51 .skip
(.exit 3))
(.seq (.block 4 (.seq (rg [mV 52 50,
iA 53 (some 3) 48 50,
lD 54 (some 3) 53,
uO 8 (.alloc [.p (.str []),.p (.str []),.p (.str [])]),
mV 7 52,
wO (.store (some 3) 8 54)] [1,7,8,48,49,50])
(.block 5 (.seq (rg [fA 56 0 none 8,
lD 57 none 56,
cL 58 WE [57],
uO 59 (.un .not 58),
mV 55 59] [1,7,8,48,49,50,55])
(.cond 55 (.seq (rg [mV 2 (cI 5)] [2])
.ret)
(.seq (rg [lD 61 (some 3) 1,
fA 62 1 none 8,
lD 63 none 62,
fA 64 2 none 8,
lD 65 none 64,
cL 66 II [61,63,65],
uO 67 (.un .not 66),
mV 60 67] [1,7,8,48,49,50,60])
(.cond 60 (.seq (rg [mV 2 (cI 8)] [2])
.ret)
(.seq (dr [dF (mV 69 7) [7],
dF (bN 70 .gtr 69 (cI 0)) [69],
dF (mV 71 70) [70],
dF (gD 72 71 true (.faddr 1 none 1)) [1,71],
dF (gD 73 71 true (.load none 72)) [72,71],
dF (gD 74 71 true (.mv 7)) [7,71],
dF (gD 75 71 true (.bin .sub 74 (cI 1))) [74,71],
dF (gD 76 71 true (.iaddr (some 3) 73 75)) [73,75,71],
dF (gD 77 71 true (.faddr 0 none 76)) [76,71],
dF (gD 78 71 true (.load none 77)) [77,71],
dF (gD 79 71 true (.faddr 1 none 1)) [1,71],
dF (gD 80 71 true (.load none 79)) [79,71],
dF (gD 81 71 true (.mv 7)) [7,71],
dF (gD 82 71 true (.bin .sub 81 (cI 1))) [81,71],
dF (gD 83 71 true (.iaddr (some 3) 80 82)) [80,82,71],
dF (gD 84 71 true (.faddr 1 none 83)) [83,71],
dF (gD 85 71 true (.load none 84)) [84,71],
dF (gD 86 71 true (.faddr 1 none 1)) [1,71],
dF (gD 87 71 true (.load none 86)) [86,71],
dF (gD 88 71 true (.mv 7)) [7,71],
dF (gD 89 71 true (.bin .sub 88 (cI 1))) [88,71],
dF (gD 90 71 true (.iaddr (some 3) 87 89)) [87,89,71],
dF (gD 91 71 true (.faddr 2 none 90)) [90,71],
dF (gD 92 71 true (.load none 91)) [91,71],
dF (gD 93 71 true (.bsl false none 3 (.str []) [(0,78),(1,85),(2,92)])) [78,85,92,71],
dF (gD 94 71 true (.faddr 0 none 8)) [8,71],
dF (gD 95 71 true (.load none 94)) [94,71],
dF (gD 96 71 true (.faddr 1 none 8)) [8,71],
dF (gD 97 71 true (.load none 96)) [96,71],
dF (gD 98 71 true (.faddr 2 none 8)) [8,71],
dF (gD 99 71 true (.load none 98)) [98,71],
dF (gD 100 71 true (.bsl false none 3 (.str []) [(0,95),(1,97),(2,99)])) [95,97,99,71],
dT (gD 101 71 true (.call qG [93,100])) [93,100,71],
dF (gD 102 71 true (.bin .geq 101 (cI 0))) [101,71],
dF (uO 103 (.pick 71 102 cF)) [71,102],
dF (mV 68 103) [103]] [1,48,49,50,68])
(.cond 68 (.seq (rg [mV 2 (cI 7)] [2])
.ret)
.skip)))))))))
(rg [bN 104 .add 50 (cI 1),
mV 50 104] [1,48,49,50]))))
def fZ (C:Hd)(gl:GL)(v1 v48 v49 v50:AV)(h:aA)(x:Esc)(K:KT):Prop:=
 pK (eA .lss v50 v49) fun t1=>
 oA t1 (pK (uA (some 3) v48 v50 h) fun t2=>
 pK (lA (some 3) t2 h) fun t3=>
 alK [.p (.str []),.p (.str []),.p (.str [])] h fun t4 h5 y6=>
 wK (NA (some 3) t4 t3 h5) fun t7 h8 y9=>
 pK (nA 0 none t4) fun t10=>
 pK (lA none t10 h8) fun t11=>
 C WE [t11] h8 fun t12 h13 y14=>
 pK (oUn .not t12) fun t15=>
 oA t15 (K .ret ⟨[(2,(AI 5))],h13,(y14++(y9++(y6++x)))⟩)
 (pK (lA (some 3) v1 h13) fun t16=>
 pK (nA 1 none t4) fun t17=>
 pK (lA none t17 h13) fun t18=>
 pK (nA 2 none t4) fun t19=>
 pK (lA none t19 h13) fun t20=>
 C II [t16,t18,t20] h13 fun t21 h22 y23=>
 pK (oUn .not t21) fun t24=>
 oA t24 (K .ret ⟨[(2,(AI 8))],h22,(y23++(y14++(y9++(y6++x))))⟩)
 (pK (eA .gtr v50 (AI 0)) fun t25=>
 gP t25 true (nA 1 none v1) h22 fun t26 h27 y28=>
 gP t25 true (lA none t26 h27) h27 fun t29 h30 y31=>
 gM t25 true v50 h30 fun t32 h33 y34=>
 gP t25 true (eA .sub t32 (AI 1)) h33 fun t35 h36 y37=>
 gP t25 true (uA (some 3) t29 t35 h36) h36 fun t38 h39 y40=>
 gP t25 true (nA 0 none t38) h39 fun t41 h42 y43=>
 gP t25 true (lA none t41 h42) h42 fun t44 h45 y46=>
 gP t25 true (nA 1 none v1) h45 fun t47 h48 y49=>
 gP t25 true (lA none t47 h48) h48 fun t50 h51 y52=>
 gM t25 true v50 h51 fun t53 h54 y55=>
 gP t25 true (eA .sub t53 (AI 1)) h54 fun t56 h57 y58=>
 gP t25 true (uA (some 3) t50 t56 h57) h57 fun t59 h60 y61=>
 gP t25 true (nA 1 none t59) h60 fun t62 h63 y64=>
 gP t25 true (lA none t62 h63) h63 fun t65 h66 y67=>
 gP t25 true (nA 1 none v1) h66 fun t68 h69 y70=>
 gP t25 true (lA none t68 h69) h69 fun t71 h72 y73=>
 gM t25 true v50 h72 fun t74 h75 y76=>
 gP t25 true (eA .sub t74 (AI 1)) h75 fun t77 h78 y79=>
 gP t25 true (uA (some 3) t71 t77 h78) h78 fun t80 h81 y82=>
 gP t25 true (nA 2 none t80) h81 fun t83 h84 y85=>
 gP t25 true (lA none t83 h84) h84 fun t86 h87 y88=>
 gV t25 true h87 (wK (ZA false none 3 (.str []) [(0,t44),(1,t65),(2,t86)] h87)) fun t89 h90 y91=>
 (h90=h87∧y91=[])∧(gP t25 true (nA 0 none t4) h90 fun t92 h93 y94=>
 gP t25 true (lA none t92 h93) h93 fun t95 h96 y97=>
 gP t25 true (nA 1 none t4) h96 fun t98 h99 y100=>
 gP t25 true (lA none t98 h99) h99 fun t101 h102 y103=>
 gP t25 true (nA 2 none t4) h102 fun t104 h105 y106=>
 gP t25 true (lA none t104 h105) h105 fun t107 h108 y109=>
 gV t25 true h108 (wK (ZA false none 3 (.str []) [(0,t95),(1,t101),(2,t107)] h108)) fun t110 h111 y112=>
 (h111=h108∧y112=[])∧(gV t25 true h111 (FB C qG [t89,t110] h111) fun t113 h114 y115=>
 gP t25 true (eA .geq t113 (AI 0)) h114 fun t116 h117 y118=>
 pK (MA t25 t116 (AB false)) fun t119=>
 oA t119 (K .ret ⟨[(2,(AI 7))],h117,(y118++(y115++(y112++(y109++(y106++(y103++(y100++(y97++(y94++(y91++(y88++(y85++(y82++(y79++(y76++(y73++(y70++(y67++(y64++(y61++(y58++(y55++(y52++(y49++(y46++(y43++(y40++(y37++(y34++(y31++(y28++(y23++(y14++(y9++(y6++x)))))))))))))))))))))))))))))))))))⟩)
 (pK (eA .add v50 (AI 1)) fun t120=>
 K .normal ⟨[(1,v1),(48,v48),(49,v49),(50,t120)],h117,(y118++(y115++(y112++(y109++(y106++(y103++(y100++(y97++(y94++(y91++(y88++(y85++(y82++(y79++(y76++(y73++(y70++(y67++(y64++(y61++(y58++(y55++(y52++(y49++(y46++(y43++(y40++(y37++(y34++(y31++(y28++(y23++(y14++(y9++(y6++x)))))))))))))))))))))))))))))))))))⟩))))))
 (K (.exit 3) ⟨[(1,v1),(48,v48),(49,v49),(50,v50),(51,t1)],h,x⟩)
theorem zdj {C gl e h x K}:NW C gl mL ⟨e,h,x⟩ K=fZ C gl (bA e 1) (bA e 48) (bA e 49) (bA e 50) h x K:=by kernel_rfl
theorem zgm {C gl e h x K}:NW C gl (.loop (.scope mL)) ⟨e,h,x⟩ K=LA C gl (.scope mL) K [(1,bA e 1),(48,bA e 48),(49,bA e 49),(50,bA e 50)] h x:=MB
def nL:ACode:=.pr [1,106,107,108] (.seq (rg [bN 109 .lss 108 107] [1,106,107,108,109])
(.seq (.cond 109 .skip
(.exit 6))
(.seq (.block 7 (.seq (rg [mV 110 108,
iA 111 (some 3) 106 108,
lD 112 (some 3) 111,
uO 10 (.alloc [.p (.str []),.p (.str []),.p (.str [])]),
mV 9 110,
wO (.store (some 3) 10 112)] [1,9,10,106,107,108])
(.seq (rg [fA 113 1 none 1,
lD 114 none 113,
mV 115 9,
uO 116 (.slice (some 3) 114 none (some 115) none),
uO 117 (.mkfn iH [10]),
cL 118 KI [116,117]] [1,106,107,108,118])
(.cond 118 (.seq (rg [mV 2 (cI 6)] [2])
.ret)
.skip))))
(rg [bN 119 .add 108 (cI 1),
mV 108 119] [1,106,107,108]))))
def gZ (C:Hd)(gl:GL)(v1 v106 v107 v108:AV)(h:aA)(x:Esc)(K:KT):Prop:=
 pK (eA .lss v108 v107) fun t1=>
 oA t1 (pK (uA (some 3) v106 v108 h) fun t2=>
 pK (lA (some 3) t2 h) fun t3=>
 alK [.p (.str []),.p (.str []),.p (.str [])] h fun t4 h5 y6=>
 wK (NA (some 3) t4 t3 h5) fun t7 h8 y9=>
 pK (nA 1 none v1) fun t10=>
 pK (lA none t10 h8) fun t11=>
 pK (jE (some 3) t11 none (some v108) none h8) fun t12=>
 C KI [t12,(.fn iH [t4])] h8 fun t13 h14 y15=>
 oA t13 (K .ret ⟨[(2,(AI 6))],h14,(y15++(y9++(y6++x)))⟩)
 (pK (eA .add v108 (AI 1)) fun t16=>
 K .normal ⟨[(1,v1),(106,v106),(107,v107),(108,t16)],h14,(y15++(y9++(y6++x)))⟩))
 (K (.exit 6) ⟨[(1,v1),(106,v106),(107,v107),(108,v108),(109,t1)],h,x⟩)
theorem zdk {C gl e h x K}:NW C gl nL ⟨e,h,x⟩ K=gZ C gl (bA e 1) (bA e 106) (bA e 107) (bA e 108) h x K:=by kernel_rfl
theorem zgn {C gl e h x K}:NW C gl (.loop (.scope nL)) ⟨e,h,x⟩ K=LA C gl (.scope nL) K [(1,bA e 1),(106,bA e 106),(107,bA e 107),(108,bA e 108)] h x:=MB
def oL:ACode:=.pr [3,11,126,127,128] (.seq (rg [bN 129 .lss 128 127] [3,11,126,127,128,129])
(.seq (.cond 129 .skip
(.exit 8))
(.seq (.block 9 (.seq (rg [iA 130 (some 2) 126 128,
lD 131 (some 2) 130,
uO 13 (.alloc [.p (.str []),.p (.int .i64 0)]),
wO (.store (some 2) 13 131)] [3,11,13,126,127,128])
(.seq (.block 10 (.seq (rg [mV 133 11,
fA 134 0 none 13,
lD 135 none 134,
cL 136 YE [133,135],
uO 137 (.un .not 136),
mV 132 137] [3,11,13,126,127,128,132])
(.cond 132 (.seq (rg [mV 2 (cI 8)] [2])
.ret)
(.seq (rg [fA 139 1 none 13,
lD 140 none 139,
cL 141 kD [140,(cI 0),(cI 1)],
uO 142 (.un .not 141),
mV 138 142] [3,11,13,126,127,128,138])
(.cond 138 (.seq (rg [mV 2 (cI 1)] [2])
.ret)
(.seq (rg [fA 144 0 none 13,
lD 145 none 144,
mV 146 3,
bN 147 .leq 145 146,
mV 143 147] [11,13,126,127,128,143])
(.cond 143 (.seq (rg [mV 2 (cI 7)] [2])
.ret)
.skip)))))))
(rg [fA 148 0 none 13,
lD 149 none 148,
mV 3 149] [3,11,126,127,128]))))
(rg [bN 150 .add 128 (cI 1),
mV 128 150] [3,11,126,127,128]))))
def hZ (C:Hd)(gl:GL)(v3 v11 v126 v127 v128:AV)(h:aA)(x:Esc)(K:KT):Prop:=
 pK (eA .lss v128 v127) fun t1=>
 oA t1 (pK (uA (some 2) v126 v128 h) fun t2=>
 pK (lA (some 2) t2 h) fun t3=>
 alK [.p (.str []),.p (.int .i64 0)] h fun t4 h5 y6=>
 wK (NA (some 2) t4 t3 h5) fun t7 h8 y9=>
 pK (nA 0 none t4) fun t10=>
 pK (lA none t10 h8) fun t11=>
 C YE [v11,t11] h8 fun t12 h13 y14=>
 pK (oUn .not t12) fun t15=>
 oA t15 (K .ret ⟨[(2,(AI 8))],h13,(y14++(y9++(y6++x)))⟩)
 (pK (nA 1 none t4) fun t16=>
 pK (lA none t16 h13) fun t17=>
 C kD [t17,(AI 0),(AI 1)] h13 fun t18 h19 y20=>
 pK (oUn .not t18) fun t21=>
 oA t21 (K .ret ⟨[(2,(AI 1))],h19,(y20++(y14++(y9++(y6++x))))⟩)
 (pK (nA 0 none t4) fun t22=>
 pK (lA none t22 h19) fun t23=>
 pK (eA .leq t23 v3) fun t24=>
 oA t24 (K .ret ⟨[(2,(AI 7))],h19,(y20++(y14++(y9++(y6++x))))⟩)
 (pK (nA 0 none t4) fun t25=>
 pK (lA none t25 h19) fun t26=>
 pK (eA .add v128 (AI 1)) fun t27=>
 K .normal ⟨[(3,t26),(11,v11),(126,v126),(127,v127),(128,t27)],h19,(y20++(y14++(y9++(y6++x))))⟩))))
 (K (.exit 8) ⟨[(3,v3),(11,v11),(126,v126),(127,v127),(128,v128),(129,t1)],h,x⟩)
theorem zdl {C gl e h x K}:NW C gl oL ⟨e,h,x⟩ K=hZ C gl (bA e 3) (bA e 11) (bA e 126) (bA e 127) (bA e 128) h x K:=by kernel_rfl
theorem zgo {C gl e h x K}:NW C gl (.loop (.scope oL)) ⟨e,h,x⟩ K=LA C gl (.scope oL) K [(3,bA e 3),(11,bA e 11),(126,bA e 126),(127,bA e 127),(128,bA e 128)] h x:=MB
def LT:ACode:=.pr [] (.seq (rg [mV 2 (cI 0)] [2])
.ret)
def iZ (C:Hd)(gl:GL)(h:aA)(x:Esc)(K:KT):Prop:=
 K .ret ⟨[(2,(AI 0))],h,x⟩
theorem zdm {C gl e h x K}:NW C gl LT ⟨e,h,x⟩ K=iZ C gl h x K:=by kernel_rfl
def eW (q4 q5:ACode):ACode:=.pr [1] (.seq (rg [lD 120 (some 3) 1,
cL 121 DF [120],
mV 11 121] [1,11])
(.seq (.seq (rg [mV 122 11,
lN 123 122,
bN 124 .gtr 123 (cI 100)] [1,11,124])
(.cond 124 (.seq (rg [mV 2 (cI 2)] [2])
.ret)
.skip))
(.seq (rg [mV 3 (cS [])] [1,3,11])
(.seq (.seq (rg [fA 125 2 none 1,
lD 126 none 125,
lN 127 126,
mV 128 (cI 0)] [3,11,126,127,128])
(.block 8 (.loop (.scope q4))))
q5))))
def FO:ACode:=eW oL LT
def cG (C:Hd)(gl:GL)(q4 q5:ACode)(v1:AV)(h:aA)(x:Esc)(K:KT):Prop:=
 pK (lA (some 3) v1 h) fun t1=>
 C DF [t1] h fun t2 h3 y4=>
 pK (AA t2) fun t5=>
 pK (eA .gtr t5 (AI 100)) fun t6=>
 oA t6 (K .ret ⟨[(2,(AI 2))],h3,(y4++x)⟩)
 (pK (nA 2 none v1) fun t7=>
 pK (lA none t7 h3) fun t8=>
 pK (AA t8) fun t9=>
 NW C gl (.loop (.scope q4)) ⟨[(3,(.p (.str []))),(11,t2),(126,t8),(127,t9),(128,(AI 0))],h3,(y4++x)⟩ (yA 8 (RA C gl q5 K)))
theorem z5t {C gl q4 q5 e h x K}:NW C gl (eW q4 q5) ⟨e,h,x⟩ K=cG C gl q4 q5 (bA e 1) h x K:=by kernel_rfl
theorem qI {C gl e h x K}:NW C gl FO ⟨e,h,x⟩ K=cG C gl oL LT (bA e 1) h x K:=z5t
def fW (q3 q6:ACode):ACode:=.pr [1] (.seq (.seq (rg [fA 105 1 none 1,
lD 106 none 105,
lN 107 106,
mV 108 (cI 0)] [1,106,107,108])
(.block 6 (.loop (.scope q3))))
q6)
def GO:ACode:=fW nL FO
def dG (C:Hd)(gl:GL)(q3 q6:ACode)(v1:AV)(h:aA)(x:Esc)(K:KT):Prop:=
 pK (nA 1 none v1) fun t1=>
 pK (lA none t1 h) fun t2=>
 pK (AA t2) fun t3=>
 NW C gl (.loop (.scope q3)) ⟨[(1,v1),(106,t2),(107,t3),(108,(AI 0))],h,x⟩ (yA 6 (RA C gl q6 K))
theorem z5u {C gl q3 q6 e h x K}:NW C gl (fW q3 q6) ⟨e,h,x⟩ K=dG C gl q3 q6 (bA e 1) h x K:=by kernel_rfl
theorem rI {C gl e h x K}:NW C gl GO ⟨e,h,x⟩ K=dG C gl nL FO (bA e 1) h x K:=z5u
def gW (q2 q7:ACode):ACode:=.pr [1] (.seq (.seq (rg [fA 43 1 none 1,
lD 44 none 43,
lN 45 44,
bN 46 .gtr 45 (cI 1000)] [1,46])
(.cond 46 (.seq (rg [mV 2 (cI 2)] [2])
.ret)
.skip))
(.seq (.seq (rg [fA 47 1 none 1,
lD 48 none 47,
lN 49 48,
mV 50 (cI 0)] [1,48,49,50])
(.block 3 (.loop (.scope q2))))
q7))
def pL:ACode:=gW mL GO
def eG (C:Hd)(gl:GL)(q2 q7:ACode)(v1:AV)(h:aA)(x:Esc)(K:KT):Prop:=
 pK (nA 1 none v1) fun t1=>
 pK (lA none t1 h) fun t2=>
 pK (AA t2) fun t3=>
 pK (eA .gtr t3 (AI 1000)) fun t4=>
 oA t4 (K .ret ⟨[(2,(AI 2))],h,x⟩)
 (pK (nA 1 none v1) fun t5=>
 pK (lA none t5 h) fun t6=>
 pK (AA t6) fun t7=>
 NW C gl (.loop (.scope q2)) ⟨[(1,v1),(48,t6),(49,t7),(50,(AI 0))],h,x⟩ (yA 3 (RA C gl q7 K)))
theorem z5v {C gl q2 q7 e h x K}:NW C gl (gW q2 q7) ⟨e,h,x⟩ K=eG C gl q2 q7 (bA e 1) h x K:=by kernel_rfl
theorem sI {C gl e h x K}:NW C gl pL ⟨e,h,x⟩ K=eG C gl mL GO (bA e 1) h x K:=z5v
def dW (q1 q8:ACode):ACode:=(.seq (rg [uO 1 (.box 0),
mV 2 (cI 0)] [1])
(.seq (.seq (rg [fA 14 0 none 1,
lD 15 none 14,
lN 16 15,
bN 17 .gtr 16 (cI 40)] [1,17])
(.cond 17 (.seq (rg [mV 2 (cI 2)] [2])
.ret)
.skip))
(.seq (rg [mV 3 (cS [])] [1,3])
(.seq (.seq (rg [fA 18 0 none 1,
lD 19 none 18,
lN 20 19,
mV 21 (cI 0)] [1,3,19,20,21])
(.block 0 (.loop (.scope q1))))
q8))))
def fQ:AFun:=⟨1,[.t 2],dW yJ pL,false,false⟩
def zK (C:Hd)(gl:GL)(q1 q8:ACode)(v0:AV)(h:aA)(x:Esc)(K:KT):Prop:=
 wK (uB v0 h) fun t1 h2 y3=>
 pK (nA 0 none t1) fun t4=>
 pK (lA none t4 h2) fun t5=>
 pK (AA t5) fun t6=>
 pK (eA .gtr t6 (AI 40)) fun t7=>
 oA t7 (K .ret ⟨[(2,(AI 2))],h2,(y3++x)⟩)
 (pK (nA 0 none t1) fun t8=>
 pK (lA none t8 h2) fun t9=>
 pK (AA t9) fun t10=>
 NW C gl (.loop (.scope q1)) ⟨[(1,t1),(3,(.p (.str []))),(19,t9),(20,t10),(21,(AI 0))],h2,(y3++x)⟩ (yA 0 (RA C gl q8 K)))
theorem z5s {C gl q1 q8 v0 h x K}:NW C gl (dW q1 q8) ⟨enter [v0],h,x⟩ K=zK C gl q1 q8 v0 h x K:=by kernel_rfl
theorem zdh {C gl v0 h x K}:NW C gl fQ.body ⟨enter [v0],h,x⟩ K=zK C gl yJ pL v0 h x K:=z5s
def iJ:ACode:=.pr [1,15,16,17] (.seq (rg [bN 18 .lss 17 16] [1,15,16,17,18])
(.seq (.cond 18 .skip
(.exit 0))
(.seq (.block 1 (.seq (rg [mV 19 17,
iA 20 (some 2) 15 17,
lD 21 (some 2) 20,
uO 4 (.alloc [.p (.str []),.sl0 (some 4)]),
mV 3 19,
wO (.store (some 2) 4 21)] [1,3,4,15,16,17])
(.seq (.block 2 (.seq (rg [fA 23 0 none 4,
lD 24 none 23,
cL 25 NC [24],
uO 26 (.un .not 25),
mV 22 26] [1,3,4,15,16,17,22])
(.cond 22 (.seq (rg [mV 2 (cI 5)] [2])
.ret)
(.seq (dr [dF (mV 28 3) [3],
dF (bN 29 .gtr 28 (cI 0)) [28],
dF (mV 30 29) [29],
dF (gD 31 30 true (.faddr 0 none 4)) [4,30],
dF (gD 32 30 true (.load none 31)) [31,30],
dF (gD 33 30 true (.faddr 0 none 1)) [1,30],
dF (gD 34 30 true (.load none 33)) [33,30],
dF (gD 35 30 true (.mv 3)) [3,30],
dF (gD 36 30 true (.bin .sub 35 (cI 1))) [35,30],
dF (gD 37 30 true (.iaddr (some 2) 34 36)) [34,36,30],
dF (gD 38 30 true (.faddr 0 none 37)) [37,30],
dF (gD 39 30 true (.load none 38)) [38,30],
dF (gD 40 30 true (.bin .leq 32 39)) [32,39,30],
dF (uO 41 (.pick 30 40 cF)) [30,40],
dF (mV 27 41) [41]] [1,4,15,16,17,27])
(.cond 27 (.seq (rg [mV 2 (cI 7)] [2])
.ret)
.skip)))))
(.seq (rg [lD 42 (some 2) 4,
cL 43 ZG [42],
mV 5 43] [1,5,15,16,17])
(.seq (rg [mV 44 5,
bN 45 .neq 44 (cI 0)] [1,5,15,16,17,45])
(.cond 45 (.seq (rg [mV 46 5,
mV 2 46] [2])
.ret)
.skip))))))
(rg [bN 47 .add 17 (cI 1),
mV 17 47] [1,15,16,17]))))
def uY (C:Hd)(gl:GL)(v1 v15 v16 v17:AV)(h:aA)(x:Esc)(K:KT):Prop:=
 pK (eA .lss v17 v16) fun t1=>
 oA t1 (pK (uA (some 2) v15 v17 h) fun t2=>
 pK (lA (some 2) t2 h) fun t3=>
 alK [.p (.str []),.sl0 (some 4)] h fun t4 h5 y6=>
 wK (NA (some 2) t4 t3 h5) fun t7 h8 y9=>
 pK (nA 0 none t4) fun t10=>
 pK (lA none t10 h8) fun t11=>
 C NC [t11] h8 fun t12 h13 y14=>
 pK (oUn .not t12) fun t15=>
 oA t15 (K .ret ⟨[(2,(AI 5))],h13,(y14++(y9++(y6++x)))⟩)
 (pK (eA .gtr v17 (AI 0)) fun t16=>
 gP t16 true (nA 0 none t4) h13 fun t17 h18 y19=>
 gP t16 true (lA none t17 h18) h18 fun t20 h21 y22=>
 gP t16 true (nA 0 none v1) h21 fun t23 h24 y25=>
 gP t16 true (lA none t23 h24) h24 fun t26 h27 y28=>
 gM t16 true v17 h27 fun t29 h30 y31=>
 gP t16 true (eA .sub t29 (AI 1)) h30 fun t32 h33 y34=>
 gP t16 true (uA (some 2) t26 t32 h33) h33 fun t35 h36 y37=>
 gP t16 true (nA 0 none t35) h36 fun t38 h39 y40=>
 gP t16 true (lA none t38 h39) h39 fun t41 h42 y43=>
 gP t16 true (eA .leq t20 t41) h42 fun t44 h45 y46=>
 pK (MA t16 t44 (AB false)) fun t47=>
 oA t47 (K .ret ⟨[(2,(AI 7))],h45,(y46++(y43++(y40++(y37++(y34++(y31++(y28++(y25++(y22++(y19++(y14++(y9++(y6++x)))))))))))))⟩)
 (pK (lA (some 2) t4 h45) fun t48=>
 C ZG [t48] h45 fun t49 h50 y51=>
 pK (eA .neq t49 (AI 0)) fun t52=>
 oA t52 (K .ret ⟨[(2,t49)],h50,(y51++(y46++(y43++(y40++(y37++(y34++(y31++(y28++(y25++(y22++(y19++(y14++(y9++(y6++x))))))))))))))⟩)
 (pK (eA .add v17 (AI 1)) fun t53=>
 K .normal ⟨[(1,v1),(15,v15),(16,v16),(17,t53)],h50,(y51++(y46++(y43++(y40++(y37++(y34++(y31++(y28++(y25++(y22++(y19++(y14++(y9++(y6++x))))))))))))))⟩))))
 (K (.exit 0) ⟨[(1,v1),(15,v15),(16,v16),(17,v17),(18,t1)],h,x⟩)
theorem zbL {C gl e h x K}:NW C gl iJ ⟨e,h,x⟩ K=uY C gl (bA e 1) (bA e 15) (bA e 16) (bA e 17) h x K:=by kernel_rfl
theorem zfO {C gl e h x K}:NW C gl (.loop (.scope iJ)) ⟨e,h,x⟩ K=LA C gl (.scope iJ) K [(1,bA e 1),(15,bA e 15),(16,bA e 16),(17,bA e 17)] h x:=MB
def dL:ACode:=.pr [1,7,59,60,61] (.seq (rg [bN 62 .lss 61 60] [1,7,59,60,61,62])
(.seq (.cond 62 .skip
(.exit 3))
(.seq (.block 4 (.seq (rg [mV 63 61,
iA 64 (some 2) 59 61,
lD 65 (some 2) 64,
uO 9 (.alloc [.p (.str []),.p (.int .i64 0)]),
mV 8 63,
wO (.store (some 2) 9 65)] [1,7,8,9,59,60,61])
(.block 5 (.seq (rg [mV 67 7,
fA 68 0 none 9,
lD 69 none 68,
cL 70 YE [67,69],
uO 71 (.un .not 70),
mV 66 71] [1,7,8,9,59,60,61,66])
(.cond 66 (.seq (rg [mV 2 (cI 8)] [2])
.ret)
(.seq (rg [fA 73 1 none 9,
lD 74 none 73,
cL 75 LB [74,(cI 0),(cI 1)],
mV 72 75] [1,7,8,9,59,60,61,72])
(.cond 72 (.seq (rg [mV 2 (cI 1)] [2])
.ret)
(.seq (dr [dF (mV 77 8) [8],
dF (bN 78 .gtr 77 (cI 0)) [77],
dF (mV 79 78) [78],
dF (gD 80 79 true (.faddr 0 none 9)) [9,79],
dF (gD 81 79 true (.load none 80)) [80,79],
dF (gD 82 79 true (.faddr 2 none 1)) [1,79],
dF (gD 83 79 true (.load none 82)) [82,79],
dF (gD 84 79 true (.mv 8)) [8,79],
dF (gD 85 79 true (.bin .sub 84 (cI 1))) [84,79],
dF (gD 86 79 true (.iaddr (some 2) 83 85)) [83,85,79],
dF (gD 87 79 true (.faddr 0 none 86)) [86,79],
dF (gD 88 79 true (.load none 87)) [87,79],
dF (gD 89 79 true (.bin .leq 81 88)) [81,88,79],
dF (uO 90 (.pick 79 89 cF)) [79,89],
dF (mV 76 90) [90]] [1,7,59,60,61,76])
(.cond 76 (.seq (rg [mV 2 (cI 7)] [2])
.ret)
.skip)))))))))
(rg [bN 91 .add 61 (cI 1),
mV 61 91] [1,7,59,60,61]))))
def vY (C:Hd)(gl:GL)(v1 v7 v59 v60 v61:AV)(h:aA)(x:Esc)(K:KT):Prop:=
 pK (eA .lss v61 v60) fun t1=>
 oA t1 (pK (uA (some 2) v59 v61 h) fun t2=>
 pK (lA (some 2) t2 h) fun t3=>
 alK [.p (.str []),.p (.int .i64 0)] h fun t4 h5 y6=>
 wK (NA (some 2) t4 t3 h5) fun t7 h8 y9=>
 pK (nA 0 none t4) fun t10=>
 pK (lA none t10 h8) fun t11=>
 C YE [v7,t11] h8 fun t12 h13 y14=>
 pK (oUn .not t12) fun t15=>
 oA t15 (K .ret ⟨[(2,(AI 8))],h13,(y14++(y9++(y6++x)))⟩)
 (pK (nA 1 none t4) fun t16=>
 pK (lA none t16 h13) fun t17=>
 C LB [t17,(AI 0),(AI 1)] h13 fun t18 h19 y20=>
 oA t18 (K .ret ⟨[(2,(AI 1))],h19,(y20++(y14++(y9++(y6++x))))⟩)
 (pK (eA .gtr v61 (AI 0)) fun t21=>
 gP t21 true (nA 0 none t4) h19 fun t22 h23 y24=>
 gP t21 true (lA none t22 h23) h23 fun t25 h26 y27=>
 gP t21 true (nA 2 none v1) h26 fun t28 h29 y30=>
 gP t21 true (lA none t28 h29) h29 fun t31 h32 y33=>
 gM t21 true v61 h32 fun t34 h35 y36=>
 gP t21 true (eA .sub t34 (AI 1)) h35 fun t37 h38 y39=>
 gP t21 true (uA (some 2) t31 t37 h38) h38 fun t40 h41 y42=>
 gP t21 true (nA 0 none t40) h41 fun t43 h44 y45=>
 gP t21 true (lA none t43 h44) h44 fun t46 h47 y48=>
 gP t21 true (eA .leq t25 t46) h47 fun t49 h50 y51=>
 pK (MA t21 t49 (AB false)) fun t52=>
 oA t52 (K .ret ⟨[(2,(AI 7))],h50,(y51++(y48++(y45++(y42++(y39++(y36++(y33++(y30++(y27++(y24++(y20++(y14++(y9++(y6++x))))))))))))))⟩)
 (pK (eA .add v61 (AI 1)) fun t53=>
 K .normal ⟨[(1,v1),(7,v7),(59,v59),(60,v60),(61,t53)],h50,(y51++(y48++(y45++(y42++(y39++(y36++(y33++(y30++(y27++(y24++(y20++(y14++(y9++(y6++x))))))))))))))⟩))))
 (K (.exit 3) ⟨[(1,v1),(7,v7),(59,v59),(60,v60),(61,v61),(62,t1)],h,x⟩)
theorem zbM {C gl e h x K}:NW C gl dL ⟨e,h,x⟩ K=vY C gl (bA e 1) (bA e 7) (bA e 59) (bA e 60) (bA e 61) h x K:=by kernel_rfl
theorem zfP {C gl e h x K}:NW C gl (.loop (.scope dL)) ⟨e,h,x⟩ K=LA C gl (.scope dL) K [(1,bA e 1),(7,bA e 7),(59,bA e 59),(60,bA e 60),(61,bA e 61)] h x:=MB
def lT:ACode:=.pr [] (.seq (rg [mV 2 (cI 0)] [2])
.ret)
def wY (C:Hd)(gl:GL)(h:aA)(x:Esc)(K:KT):Prop:=
 K .ret ⟨[(2,(AI 0))],h,x⟩
theorem zbN {C gl e h x K}:NW C gl lT ⟨e,h,x⟩ K=wY C gl h x K:=by kernel_rfl
def pV (q2 q3:ACode):ACode:=.pr [1] (.seq (.seq (rg [lD 48 (some 3) 1,
cL 49 bH [48],
mV 6 49] [1,6])
(.seq (rg [mV 50 6,
bN 51 .neq 50 (cI 0)] [1,6,51])
(.cond 51 (.seq (rg [mV 52 6,
mV 2 52] [2])
.ret)
.skip)))
(.seq (rg [lD 53 (some 3) 1,
cL 54 BF [53],
mV 7 54] [1,7])
(.seq (.seq (rg [mV 55 7,
lN 56 55,
bN 57 .gtr 56 (cI 100)] [1,7,57])
(.cond 57 (.seq (rg [mV 2 (cI 2)] [2])
.ret)
.skip))
(.seq (.seq (rg [fA 58 2 none 1,
lD 59 none 58,
lN 60 59,
mV 61 (cI 0)] [1,7,59,60,61])
(.block 3 (.loop (.scope q2))))
q3))))
def eL:ACode:=pV dL lT
def jI (C:Hd)(gl:GL)(q2 q3:ACode)(v1:AV)(h:aA)(x:Esc)(K:KT):Prop:=
 pK (lA (some 3) v1 h) fun t1=>
 C bH [t1] h fun t2 h3 y4=>
 pK (eA .neq t2 (AI 0)) fun t5=>
 oA t5 (K .ret ⟨[(2,t2)],h3,(y4++x)⟩)
 (pK (lA (some 3) v1 h3) fun t6=>
 C BF [t6] h3 fun t7 h8 y9=>
 pK (AA t7) fun t10=>
 pK (eA .gtr t10 (AI 100)) fun t11=>
 oA t11 (K .ret ⟨[(2,(AI 2))],h8,(y9++(y4++x))⟩)
 (pK (nA 2 none v1) fun t12=>
 pK (lA none t12 h8) fun t13=>
 pK (AA t13) fun t14=>
 NW C gl (.loop (.scope q2)) ⟨[(1,v1),(7,t7),(59,t13),(60,t14),(61,(AI 0))],h8,(y9++(y4++x))⟩ (yA 3 (RA C gl q3 K))))
theorem z4G {C gl q2 q3 e h x K}:NW C gl (pV q2 q3) ⟨e,h,x⟩ K=jI C gl q2 q3 (bA e 1) h x K:=by kernel_rfl
theorem aS {C gl e h x K}:NW C gl eL ⟨e,h,x⟩ K=jI C gl dL lT (bA e 1) h x K:=z4G
def oV (q1 q4:ACode):ACode:=(.seq (rg [uO 1 (.box 0),
mV 2 (cI 0)] [1])
(.seq (.seq (rg [fA 10 0 none 1,
lD 11 none 10,
lN 12 11,
bN 13 .gtr 12 (cI 40)] [1,13])
(.cond 13 (.seq (rg [mV 2 (cI 2)] [2])
.ret)
.skip))
(.seq (.seq (rg [fA 14 0 none 1,
lD 15 none 14,
lN 16 15,
mV 17 (cI 0)] [1,15,16,17])
(.block 0 (.loop (.scope q1))))
q4)))
def aM:AFun:=⟨1,[.t 2],oV iJ eL,false,false⟩
def nK (C:Hd)(gl:GL)(q1 q4:ACode)(v0:AV)(h:aA)(x:Esc)(K:KT):Prop:=
 wK (uB v0 h) fun t1 h2 y3=>
 pK (nA 0 none t1) fun t4=>
 pK (lA none t4 h2) fun t5=>
 pK (AA t5) fun t6=>
 pK (eA .gtr t6 (AI 40)) fun t7=>
 oA t7 (K .ret ⟨[(2,(AI 2))],h2,(y3++x)⟩)
 (pK (nA 0 none t1) fun t8=>
 pK (lA none t8 h2) fun t9=>
 pK (AA t9) fun t10=>
 NW C gl (.loop (.scope q1)) ⟨[(1,t1),(15,t9),(16,t10),(17,(AI 0))],h2,(y3++x)⟩ (yA 0 (RA C gl q4 K)))
theorem z4F {C gl q1 q4 v0 h x K}:NW C gl (oV q1 q4) ⟨enter [v0],h,x⟩ K=nK C gl q1 q4 v0 h x K:=by kernel_rfl
theorem zbK {C gl v0 h x K}:NW C gl aM.body ⟨enter [v0],h,x⟩ K=nK C gl iJ eL v0 h x K:=z4F
end Go.Am
end
