/- Texts of the proof, laid together: Am30, Am31, AmX, AmS, CodesA, CodesB. -/
import GoSem.Extern.Table
import Derived.Laws.World
import Derived.KernelRfl
import Derived.Test.YtddfpebjibeclaaGreatDoorlawCS3
set_option linter.all false
section
/- The abstract machine,part 30: the meaning of code in the new spelling,and that it is the old one. -/
set_option linter.unusedSimpArgs false
set_option linter.unusedVariables false
namespace Go.Am
def gV (v:AV)(b:Bool)(h:bA)(A:(AV→bA→Esc→Prop)→Prop)(k:AV→bA→Esc→Prop):Prop:=tE v b (A k) (k .skp h [])
def gP (v:AV)(b:Bool)(o:Option AV)(h:bA)(k:AV→bA→Esc→Prop):Prop:=gV v b h (fun k=>pK o fun u=>k u h []) k
def gM (v:AV)(b:Bool)(u:AV)(h:bA)(k:AV→bA→Esc→Prop):Prop:=gV v b h (fun k=>k u h []) k
def upB (b:Bool):Bool:=(fun(_:AV→Bool→Option AV→bA→(AV→bA→Esc→Prop)→Prop)=>b) gP
def gK (g:Option (Nat × Bool))(e:List (Nat × AV))(h:bA)(A:(AV→bA→Esc→Prop)→Prop)(k:AV→bA→Esc→Prop):Prop:=match g with
 | none=>A k
 | some (t,b)=>gV (aA e t) b h A k
def opC (C:Hd)(o:AO)(ev:Opd→AV)(h:bA)(k:AV→bA→Esc→Prop):Prop:=match o with
 | .call f args=>C f (ev1 ev args) h k
 | .callv f args=>bF C (ev f) (ev1 ev args) h k
 | .mnext sh xs=>match dI h sh (ev1 ev xs) with
  | some l=>l≠[]∧∀y∈l,k y.1 y.2 []
  | none=>False
 | o=>opN o ev h k
def UL (C:Hd)(gl:Nat→Option PV):List AOp→List (Nat×AV)→bA→Esc→(List (Nat×AV)→bA→Esc→Prop)→Prop
 | [],e,h,x,L=>L e h x
 | o::r,e,h,x,L=>gK o.guard e h (opC C o.op (Opd.ev gl e) h) fun v h' x'=>UL C gl r (put o.dst v e) h' (x'++x) L
variable {C:Hd} {gl:Nat→Option PV}
theorem z7u {o:AO}{d:Option Nat}{r:List AOp}{e:List (Nat × AV)}{h:bA}{x:Esc}{L:List (Nat × AV)→bA→Esc→Prop} :
 gB C gl (⟨d,none,o⟩::r) e h x L=opC C o (Opd.ev gl e) h (tJ C gl r d e x L):=by
 cases hp:o.plain with
 | true=>
  rw[z9l hp,z7w hp];cases o <;> first|rfl|cases hp
 | false=>
  cases o <;> first|(cases hp;done)|skip
  all_goals first
   | (rw[vZ,BG];rfl)
   | (rw[wZ,BG];rfl)
   | (unfold gB opC;simp only[wanted,BG];rfl)
theorem CZ:∀ (ops:List AOp)(e:List (Nat × AV))(h:bA)(x:Esc)(L:List (Nat × AV)→bA→Esc→Prop),gB C gl ops e h x L=UL C gl ops e h x L
 | [],e,h,x,L=>rfl
 | ⟨d,g,o⟩::r,e,h,x,L=>by
  have ih:(fun(v:AV) (h':bA) (x':Esc)=>UL C gl r (put d v e) h' (x'++x) L)=tJ C gl r d e x L:=by
   funext v h' x';rw[←CZ r];rfl
  show _=gK g e h (opC C o (Opd.ev gl e) h) fun v h' x'=>UL C gl r (put d v e) h' (x'++x) L
  rw[ih];cases g with
  | none=>exact z7u
  | some tb=>
   obtain⟨t,b⟩:=tb;rw[yZ,z7u];rfl
def opE (C:Hd)(o:AO)(ev:Opd→AV)(h:bA)(k:AV→bA→Esc→Prop):Prop:=match o with
 | .call f args=>GB C f (ev1 ev args) h k
 | .callv f args=>mJ C (ev f) (ev1 ev args) h k
 | .mnext _ _=>False
 | o=>opN o ev h k
def effN (still eff:Bool)(h h':bA)(y:Esc)(Q:Prop):Prop:=match upB eff with
 | true=>Q
 | false=>match still with
  | true=>Q
  | false=>(h'=h∧y=[])∧Q
def VY (C:Hd)(gl:Nat→Option PV)(q:AOp × List (Nat × AV) × AV)(g:bA):Prop:=
 gK q.1.guard q.2.1 g (opE C q.1.op (Opd.ev gl q.2.1) g) fun v1 h1 x1=>v1=q.2.2∧h1=g∧x1=[]
def XG (C:Hd)(gl:Nat→Option PV)(h:bA)(dn:fE)(Q:Prop):List Nat→Prop
 | []=>Q
 | j::r=>(match dn[j]? with|some q=>VY C gl q h|none=>False)∧XG C gl h dn Q r
def jH (C:Hd)(gl:Nat→Option PV)(o:AOp)(e:List (Nat × AV))(v:AV)(hs:List bA)(Q:Prop):List Nat→Prop
 | []=>Q
 | k::r=>(match hs[k]? with|some g=>VY C gl (o,e,v) g|none=>False)∧jH C gl o e v hs Q r
def cJ (C:Hd)(gl:Nat→Option PV):List DOp→fE→List bA→List (Nat×AV)→bA→Esc→(List (Nat×AV)→bA→Esc→Prop)→Prop
 | [],_,_,e,h,x,L=>L e h x
 | o::r,dn,hs,e,h,x,L=>gK o.op.guard (WA (some o.rd) e) h (opE C o.op.op (Opd.ev gl (WA (some o.rd) e)) h) fun v h' y=>
  effN o.op.op.still o.eff h h' y (jH C gl o.op (WA (some o.rd) e) v hs (XG C gl h' dn (cJ C gl r (dn++[(o.op,WA (some o.rd) e,v)]) (hs++[h]) (put o.op.dst v e) h' (y++x) L) o.again) o.early)
theorem z7v {o:AO}{d:Option Nat}{e:List (Nat × AV)}{h:bA}{R:AV→bA→Esc→Prop}:doK C gl ⟨d,none,o⟩ e h R=opE C o (Opd.ev gl e) h R:=by
 cases hp:o.plain with
 | true=>
  rw[zgQ hp,z7w hp];cases o <;> first|rfl|cases hp
 | false=>
  cases o <;> first|(cases hp;done)|skip
  all_goals first
   | (rw[z4z,BG];rfl)
   | (rw[z40,BG];rfl)
   | (unfold doK ADo opE;simp [wanted])
theorem z6f {o:AOp}{e:List (Nat × AV)}{h:bA}{R:AV→bA→Esc→Prop}:doK C gl o e h R=gK o.guard e h (opE C o.op (Opd.ev gl e) h) R:=by
 obtain⟨d,g,op⟩:=o;cases g with
 | none=>exact z7v
 | some tb=>
  obtain⟨t,b⟩:=tb;rw[z41,z7v];rfl
theorem z8t {q:AOp × List (Nat × AV) × AV}{g:bA}:doS C gl q g=VY C gl q g:=by
 obtain⟨⟨d,gd,op⟩,e,v⟩:=q;rw[z42,z6f];rfl
theorem z1v {h:bA}{dn:fE}{Q:Prop}:∀{l:List Nat},XG C gl h dn Q l=(agK C gl h dn l∧Q)
 | []=>by simp [XG,agK]
 | j::r=>by
  unfold XG agK;rw[z1v (l:=r)];cases dn[j]? with
  | none=>simp
  | some q=>simp only[z8t,and_assoc]
theorem z4B {o:AOp}{e:List (Nat × AV)}{v:AV}{hs:List bA}{Q:Prop}:∀{l:List Nat},jH C gl o e v hs Q l=(eaK C gl o e v hs l∧Q)
 | []=>by simp [jH,eaK]
 | j::r=>by
  unfold jH eaK;rw[z4B (l:=r)];cases hs[j]? with
  | none=>simp
  | some q=>simp only[z8t,and_assoc]
theorem zgR {o:AOp}(hs:o.op.still=true){e:List (Nat × AV)}{h:bA}{R:AV→bA→Esc→Prop}:doK C gl o e h (fun v h' y=>(h'=h∧y=[])∧R v h' y)=doK C gl o e h R:=by
 unfold doK;refine propext ⟨fun⟨v,h',y,H,_,r⟩=>⟨v,h',y,H,r⟩,fun⟨v,h',y,H,r⟩=>⟨v,h',y,H,z9i hs H,r⟩⟩
theorem BZ:∀ (ds:List DOp)(dn:fE)(hs:List bA)(e:List (Nat × AV))(h:bA)(x:Esc)(L:List (Nat × AV)→bA→Esc→Prop),rD C gl ds dn hs e h x L=cJ C gl ds dn hs e h x L
 | [],dn,hs,e,h,x,L=>rfl
 | ⟨o,rd,eff,early,again⟩::r,dn,hs,e,h,x,L=>by
  rw[rZ];show _=gK o.guard (WA (some rd) e) h (opE C o.op (Opd.ev gl (WA (some rd) e)) h) fun v h' y=>
   effN o.op.still eff h h' y (jH C gl o (WA (some rd) e) v hs (XG C gl h' dn (cJ C gl r (dn++[(o,WA (some rd) e,v)]) (hs++[h]) (put o.dst v e) h' (y++x) L) again) early)
  rw[←z6f];have e1:AQ C gl ⟨o,rd,eff,early,again⟩ r dn hs e h x L=fun v h' y=>(effK eff h h' y∧jH C gl o (WA (some rd) e) v hs (XG C gl h' dn (cJ C gl r (dn++[(o,WA (some rd) e,v)]) (hs++[h]) (put o.dst v e) h' (y++x) L) again) early):=by
   funext v h' y
   rw[z44,z4B,z1v,←BZ r]
  rw[e1];cases eff with
  | true=>
   congr 1;funext v h' y
   simp [effK,effN,upB]
  | false=>
   cases hs':o.op.still with
   | true=>
    have:=zgR (C:=C) (gl:=gl) (o:=o) hs' (e:=WA (some rd) e) (h:=h) (R:=fun v h' y=>jH C gl o (WA (some rd) e) v hs (XG C gl h' dn (cJ C gl r (dn++[(o,WA (some rd) e,v)]) (hs++[h]) (put o.dst v e) h' (y++x) L) again) early)
    exact this
   | false=>rfl
def NW (C:Hd)(gl:Nat→Option PV):ACode→St→(Ex→St→Prop)→Prop
 | .skip,s,K=>K .normal s
 | .reg ops keep,s,K=>UL C gl ops s.env s.h s.esc fun e h x=>K .normal ⟨WA keep e,h,x⟩
 | .draw ds keep,s,K=>cJ C gl ds [] [] s.env s.h s.esc fun e h x=>K .normal ⟨WA keep e,h,x⟩
 | .seq a b,s,K=>NW C gl a s fun e s'=>match e with
  | .normal=>NW C gl b s' K
  | .exit i=>K (.exit i) s'
  | .ret=>K .ret s'
 | .cond c a b,s,K=>nA (Opd.ev gl s.env c) (NW C gl a s K) (NW C gl b s K)
 | .condu c a b,s,K=>z27 (Opd.ev gl s.env c) (NW C gl a s K) (NW C gl b s K)
 | .det b,s,K=>NW C gl b s K
 | .block id b,s,K=>NW C gl b s fun e s'=>match e with
  | .normal=>K .normal s'
  | .exit i=>bif Nat.beq i id then K .normal s' else K (.exit i) s'
  | .ret=>K .ret s'
 | .loop b,s,K=>ALoop (NW C gl b) K s
 | .scope b,s,K=>NW C gl b ⟨s.env,s.h,[]⟩ fun e s'=>K e (bE s.h.length s.esc s')
 | .pr l b,s,K=>NW C gl b ⟨WA (some l) s.env,s.h,s.esc⟩ K
 | .exit id,s,K=>K (.exit id) s
 | .ret,s,K=>K .ret s
 | .bad,_,_=>False
theorem iE:∀ (c:ACode)(s:St)(K:Ex→St→Prop),AW C gl c s K=NW C gl c s K
 | .skip,s,K=>rfl
 | .reg ops keep,s,K=>CZ _ _ _ _ _
 | .draw ds keep,s,K=>BZ _ _ _ _ _ _ _
 | .seq a b,s,K=>by
  unfold AW NW;rw[iE a];congr 1;funext e s'
  cases e with
  | normal=>exact iE b s' K
  | _=>rfl
 | .cond c a b,s,K=>by
  unfold AW NW nA;rw[←iE a,←iE b];rfl
 | .condu c a b,s,K=>by
  unfold AW NW z27;rw[←iE a,←iE b];rfl
 | .det b,s,K=>iE b s K
 | .block id b,s,K=>by
  unfold AW NW;rw[iE b];congr 1;funext e s'
  cases e with
  | exit i=>
   dsimp only;by_cases hi:i=id
   ·subst hi;simp
   ·rw[if_neg hi]
    have:Nat.beq i id=false:=by cases h:Nat.beq i id with|false=>rfl|true=>exact absurd (Nat.eq_of_beq_eq_true h) hi
    rw[this];rfl
  | _=>rfl
 | .loop b,s,K=>by
  show ALoop (AW C gl b) K s=ALoop (NW C gl b) K s
  rw[show AW C gl b=NW C gl b from funext fun s=>funext fun K=>iE b s K]
 | .scope b,s,K=>iE b _ _
 | .pr l b,s,K=>iE b _ _
 | .exit id,s,K=>rfl
 | .ret,s,K=>rfl
 | .bad,s,K=>rfl
end Go.Am
end
section
/- The abstract machine,part 31: words in which a function's code is printed,and the rules of computing over them. -/
set_option linter.unusedSimpArgs false
set_option linter.unusedVariables false
namespace Go.Am
variable {C:Hd} {gl:Nat→Option PV} {e:List (Nat × AV)} {h:bA} {x:Esc} {K:Ex→St→Prop} {s:St}
abbrev AI (n:Int):AV:=.p (.int .i64 n)
abbrev AB (b:Bool):AV:=.p (.bool b)
def OA (C:Hd)(gl:Nat→Option PV)(b:ACode)(K:Ex→St→Prop)(e:Ex)(s:St):Prop:=match e with
 | .normal=>NW C gl b s K
 | .exit i=>K (.exit i) s
 | .ret=>K .ret s
def wA (id:Nat)(K:Ex→St→Prop)(e:Ex)(s:St):Prop:=match e with
 | .normal=>K .normal s
 | .exit i=>bif Nat.beq i id then K .normal s else K (.exit i) s
 | .ret=>K .ret s
def nqK (sh:Option Sh)(l:List AV)(h:bA)(k:AV→bA→Esc→Prop):Prop:=match dI h sh l with
 | some l=>l≠[]∧∀y∈l,k y.1 y.2 []
 | none=>False
def nxK (i:AV)(h:bA)(k:AV→bA→Esc→Prop):Prop:=match dN h i with
 | some l=>l≠[]∧∀y∈l,k y.1 y.2 []
 | none=>False
def gv (gl:Nat→Option PV)(n:Nat):AV:=match gl n with|some v=>.vp v|none=>.und
theorem z80 {b:ACode}:OA C gl b K .normal s=NW C gl b s K:=(rfl)
theorem z81 {b:ACode}:OA C gl b K .ret s=K .ret s:=(rfl)
theorem z1D {i:Nat}:wA i K .normal s=K .normal s:=(rfl)
theorem z1F {i:Nat}:wA i K (.exit i) s=K .normal s:=by simp [wA]
theorem z1E {i:Nat}:wA i K .ret s=K .ret s:=(rfl)
theorem zaW {b:ACode}:NW C gl (.scope b) ⟨e,h,x⟩ K=NW C gl b ⟨e,h,[]⟩ (z8x h.length x K):=(rfl)
theorem zaV {c:ACode}{s s':St}(hs:s=s'):NW C gl c s K=NW C gl c s' K:=by rw[hs]
def FA (C:Hd)(gl:Nat→Option PV)(b:ACode)(K:Ex→St→Prop)(e:List (Nat × AV))(h:bA)(x:Esc):Prop:=ALoop (NW C gl b) K ⟨e,h,x⟩
theorem NB {l:List Nat}{b:ACode}:NW C gl (.loop (.pr l b)) ⟨e,h,x⟩ K=FA C gl (.pr l b) K (WA (some l) e) h x:=by
 show ALoop _ _ _=ALoop _ _ _
 exact uZ (funext fun R=>by show NW C gl b _ R=NW C gl b _ R;dsimp only;rw[z78])
theorem RB {l:List Nat}{b:ACode}:NW C gl (.loop (.scope (.pr l b))) ⟨e,h,x⟩ K=FA C gl (.scope (.pr l b)) K (WA (some l) e) h x:=by
 show ALoop _ _ _=ALoop _ _ _
 exact uZ (funext fun R=>by show NW C gl b _ _=NW C gl b _ _;dsimp only;rw[z78])
theorem zaU {b:ACode}{e e':List (Nat × AV)}{h h':bA}{x x':Esc}(h1:e=e')(h2:h=h')(h3:x=x'):FA C gl b K e h x=FA C gl b K e' h' x':=by rw[h1,h2,h3]
theorem UA {σ:Type}{b:ACode}(S:σ→St)(P:σ→Prop)(m:σ→Nat)(t0:σ)(hs:(⟨e,h,x⟩:St)=S t0)(h0:P t0)(hr:∀ t,P t→NW C gl b (S t) (fR S P m K t)):FA C gl b K e h x:=by
 show ALoop (NW C gl b) K _
 rw[hs];have key:∀n t,m t<n→P t→ALoop (NW C gl b) K (S t):=by
  intro n;induction n with
  | zero=>intro t h;omega
  | succ n ih=>
   intro t hm hp;refine .mk _ _ (hr t hp) (fun s' h'=>?_) (fun i s' h'=>h') (fun s' h'=>h')
   obtain⟨u,rfl,hu,hlt⟩:=h';exact ih u (by omega) hu
 exact key _ t0 (Nat.lt_succ_self _) h0
theorem PA {X:Ctx}{f:Nat}{F:AFun}{a asv:List AV}{h h1:bA}{P:mA}(hf:X.fn f=some F)(hr:F.byref=false)(hp:zA h a=some (asv,h1))(hl:asv.length=F.nparams)(hd:F.isDet=false:=by rfl) :
 jA X f a h P=NW (jA X) X.gl F.body ⟨enter asv,h1,[]⟩ (xA F.results F.keep h.length P):=by
 rw[zrI hf hr hp hl hd,iE]
theorem z1V {X:Ctx}{f:Nat}{F:AFun}{a asv:List AV}{h h1:bA}{P:mA}(hf:X.fn f=some F)(hr:F.byref=false)(hp:zA h a=some (asv,h1))(hl:asv.length=F.nparams)(hd:F.isDet=true:=by rfl) :
 jA X f a h P = ∃v h' x,P v h' x∧NW (jA X) X.gl F.body ⟨enter asv,h1,[]⟩ (xA F.results F.keep h.length fun v1 h1 x1=>v1=v∧h1=h'∧x1=x):=by
 rw[zrJ hf hr hp hl hd];simp only[iE]
theorem TC {X:Ctx}{f:Nat}{F:AFun}{asv:List AV}{h:bA}{P:mA}(hf:X.fn f=some F)(hr:F.byref=true)(hl:asv.length=F.nparams)(hd:F.isDet=false:=by rfl) :
 jA X f asv h P=NW (jA X) X.gl F.body ⟨enter asv,h,[]⟩ (xA F.results F.keep h.length P):=by
 rw[zrG hf hr hl hd,iE]
theorem mN {v:AV}{k:AV→Prop}:pK (some v) k=k v:=(rfl)
theorem z72 {k:AV→Prop}:pK none k=False:=(rfl)
theorem z8W {v:AV}{h:bA}{x:Esc}{k:AV→bA→Esc→Prop}:wK (some (v,h,x)) k=k v h x:=(rfl)
theorem z8U {k:AV→bA→Esc→Prop}:wK none k=False:=(rfl)
theorem zon {p:Prop}[Decidable p]{a b:Option AV}{k:AV→Prop}:pK (if p then a else b) k=if p then pK a k else pK b k:=by split <;> rfl
theorem zs2 {p:Prop}[Decidable p]{a b:Option (AV × bA × Esc)}{k:AV→bA→Esc→Prop}:wK (if p then a else b) k=if p then wK a k else wK b k:=by split <;> rfl
theorem zom {o o':Option AV}{k:AV→Prop}(h:o=o'):pK o k=pK o' k:=by rw[h]
theorem zs1 {o o':Option (AV × bA × Esc)}{k:AV→bA→Esc→Prop}(h:o=o'):wK o k=wK o' k:=by rw[h]
theorem zlt {v v':AV}{b:Bool}{h:bA}{A:(AV→bA→Esc→Prop)→Prop}{k:AV→bA→Esc→Prop}(h1:v=v'):gV v b h A k=gV v' b h A k:=by rw[h1]
theorem zlr {v v':AV}{b:Bool}{o:Option AV}{h:bA}{k:AV→bA→Esc→Prop}(h1:v=v'):gP v b o h k=gP v' b o h k:=by rw[h1]
theorem zlp {v v':AV}{b:Bool}{u:AV}{h:bA}{k:AV→bA→Esc→Prop}(h1:v=v'):gM v b u h k=gM v' b u h k:=by rw[h1]
section
variable {A:(AV→bA→Esc→Prop)→Prop} {o:Option AV} {u:AV} {k:AV→bA→Esc→Prop} {t b:Bool}
theorem z6t:gV (.p (.bool true)) true h A k=A k:=(rfl)
theorem z6q:gV (.p (.bool false)) false h A k=A k:=(rfl)
theorem z6s:gV (.p (.bool true)) false h A k=k .skp h []:=(rfl)
theorem z6r:gV (.p (.bool false)) true h A k=k .skp h []:=(rfl)
theorem zls:gV (.p (.bool t)) b h A k=tE (.p (.bool t)) b (A k) (k .skp h []):=(rfl)
theorem z6p:gP (.p (.bool true)) true o h k=pK o fun v=>k v h []:=(rfl)
theorem z6l:gP (.p (.bool false)) false o h k=pK o fun v=>k v h []:=(rfl)
theorem z6o:gP (.p (.bool true)) false o h k=k .skp h []:=(rfl)
theorem z6m:gP (.p (.bool false)) true o h k=k .skp h []:=(rfl)
theorem z6n:gP .skp b o h k=k .skp h []:=(rfl)
theorem zlq:gP (.p (.bool t)) b o h k=tE (.p (.bool t)) b (pK o fun v=>k v h []) (k .skp h []):=(rfl)
theorem z6k:gM (.p (.bool true)) true u h k=k u h []:=(rfl)
theorem z6g:gM (.p (.bool false)) false u h k=k u h []:=(rfl)
theorem z6j:gM (.p (.bool true)) false u h k=k .skp h []:=(rfl)
theorem z6h:gM (.p (.bool false)) true u h k=k .skp h []:=(rfl)
theorem z6i:gM .skp b u h k=k .skp h []:=(rfl)
theorem zlo:gM (.p (.bool t)) b u h k=tE (.p (.bool t)) b (k u h []) (k .skp h []):=(rfl)
end
section
variable {k k':IntKind} {a b:Int} {sa sb:List UInt8}
theorem ze5:eA .add (.p (.int k a)) (.p (.int k b))=some (.p (.int k (k.wrap (a+b)))):=by simp [eA,YB,FD]
theorem zeH:eA .sub (.p (.int k a)) (.p (.int k b))=some (.p (.int k (k.wrap (a-b)))):=by simp [eA,YB,FD]
theorem zeB:eA .mul (.p (.int k a)) (.p (.int k b))=some (.p (.int k (k.wrap (a*b)))):=by simp [eA,YB,FD]
theorem zeE:eA .quo (.p (.int k a)) (.p (.int k b))=if b=0 then none else some (.p (.int k (k.wrap (a.tdiv b)))):=by simp [eA,YB,FD] <;> split <;> rfl
theorem zeF:eA .rem (.p (.int k a)) (.p (.int k b))=if b=0 then none else some (.p (.int k (a.tmod b))):=by simp [eA,YB,FD] <;> split <;> rfl
theorem ze6:eA .eql (.p (.int k a)) (.p (.int k b))=some (.p (.bool (decide (a=b)))):=by simp [eA,YB,FD]
theorem zeC:eA .neq (.p (.int k a)) (.p (.int k b))=some (.p (.bool (!decide (a=b)))):=by simp [eA,YB,FD]
theorem zeA:eA .lss (.p (.int k a)) (.p (.int k b))=some (.p (.bool (decide (a<b)))):=by simp [eA,YB,FD]
theorem ze9:eA .leq (.p (.int k a)) (.p (.int k b))=some (.p (.bool (decide (a≤b)))):=by simp [eA,YB,FD]
theorem ze8:eA .gtr (.p (.int k a)) (.p (.int k b))=some (.p (.bool (decide (b<a)))):=by simp [eA,YB,FD]
theorem ze7:eA .geq (.p (.int k a)) (.p (.int k b))=some (.p (.bool (decide (b≤a)))):=by simp [eA,YB,FD]
theorem zeG:eA .shr (.p (.int k a)) (.p (.int k' b))=if b<0 then none else some (.p (.int k (uK k a b))):=by simp [eA,YB] <;> split <;> rfl
theorem zrR:eA .add (.p (.str sa)) (.p (.str sb))=if sa.length+sb.length≤MG then some (.p (.str (sa++sb))) else none:=by simp [eA,YB,MF] <;> split <;> rfl
theorem zrS:eA .eql (.p (.str sa)) (.p (.str sb))=some (.p (.bool (decide (sa=sb)))):=by simp [eA,YB,MF]
theorem zrX:eA .neq (.p (.str sa)) (.p (.str sb))=some (.p (.bool (!decide (sa=sb)))):=by simp [eA,YB,MF]
theorem zrW:eA .lss (.p (.str sa)) (.p (.str sb))=some (.p (.bool (Op.bytesLess sa sb))):=by simp [eA,YB,MF]
theorem zrV:eA .leq (.p (.str sa)) (.p (.str sb))=some (.p (.bool (Op.bytesLess sa sb||decide (sa=sb)))):=by simp [eA,YB,MF]
theorem zrU:eA .gtr (.p (.str sa)) (.p (.str sb))=some (.p (.bool (!(Op.bytesLess sa sb||decide (sa=sb))))):=by simp [eA,YB,MF]
theorem zsx {t:Bool}:oUn .not (.p (.bool t))=some (.p (.bool !t)):=(rfl)
theorem convI {k':IntKind}:XC k (.p (.int k' a))=some (.p (.int k (k.wrap a))):=(rfl)
theorem znZ {i j:Nat}:jB (.ref i j)=some (.ref i j):=(rfl)
theorem zoa {i j m n:Nat}:jB (.rref i j m n)=some (.rref i j m n):=(rfl)
theorem zp6 {t:Bool}{u v:AV}:LA (.p (.bool t)) u v=some (bif t then u else v):=(rfl)
theorem znu {sh:Sh}{xs:List PV}:yA (.p (.sl sh xs))=some (.p (.int .i64 xs.length)):=(rfl)
theorem znt {i g o l:Nat}:yA (.own i g o l)=some (.p (.int .i64 l)):=(rfl)
theorem znx:CD (.p (.str sa))=some (.p (.int .i64 sa.length)):=(rfl)
theorem ext_t {vs:List AV}{i:Nat}:MB (.tup vs) i=vs[i]?:=(rfl)
theorem zla {off i j:Nat}{sh:Sh}:oA off sh (.ref i j)=some (.ref i (j+off)):=(rfl)
theorem zlb {off i j m n:Nat}{sh:Sh}:oA off sh (.rref i j m n)=some (.rref i j m (n+off)):=(rfl)
theorem zlc {off:Nat}{sh:Sh}{v:PV}:oA off sh (.vp v)=(QA sh off v).map .vp:=(rfl)
def ldB (sh:Sh)(off:Nat):Option Obj→Option AV
 | some (.box cs)=>cut sh off cs
 | _=>none
def ldR (sh:Sh)(g i off:Nat):Option Obj→Option AV
 | some (.row _ xs _)=>if g=xs.length then((xs[i]?).bind (QA sh off)).map .p else none
 | _=>none
theorem zn8 {sh:Sh}{i j:Nat}:kA sh (.ref i j) h=ldB sh j h[i]?:=by unfold kA ldB;rfl
theorem z6V {sh:Sh}{i g m n:Nat}:kA sh (.rref i g m n) h=ldR sh g m n h[i]?:=by unfold kA ldR;rfl
theorem z6W {sh:Sh}{v:PV}:kA sh (.vp v) h=(QA sh 0 v).map .p:=(rfl)
theorem znp {sh:Sh}{off:Nat}{cs:List AV}:ldB sh off (some (.box cs))=cut sh off cs:=(rfl)
theorem z6Q {sh sh':Sh}{g i off fz:Nat}{xs:List PV}:ldR sh g i off (some (.row sh' xs fz))=if g=xs.length then((xs[i]?).bind (QA sh off)).map .p else none:=(rfl)
def stB (sh:Sh)(id off:Nat)(v:AV)(h:bA):Option Obj→Option (List AV)→Option (AV×bA×Esc)
 | some (.box cs),some vs=>if vs.length=lA sh∧off+vs.length≤cs.length then some (.und,h.set id (.box (splice cs off vs)),kH id cs v) else none
 | _,_=>none
theorem zrP {sh:Sh}{i j:Nat}{v:AV}:RA sh (.ref i j) v h=stB sh i j v h h[i]? v.cells:=by unfold RA stB;rfl
theorem zrA {sh:Sh}{id off:Nat}{v:AV}{cs vs:List AV}:stB sh id off v h (some (.box cs)) (some vs)=if vs.length=lA sh∧off+vs.length≤cs.length then some (.und,h.set id (.box (splice cs off vs)),kH id cs v) else none:=(rfl)
theorem zkO {id:Nat}{cs:List AV}{v:AV}(h:yH cs=false):kH id cs v=TB id v:=by
 unfold kH;rw[h];rfl
theorem zlP {a:AV}{v:PV}:yH [a,.p v]=false:=(rfl)
theorem zlQ {a:AV}{s:Sh}:yH [a,.sl0 s]=false:=(rfl)
theorem zlN {a:AV}:yH [a]=false:=(rfl)
theorem zlO {a b c:AV}{l:List AV}:yH (a::b::c::l)=false:=by unfold yH;split <;> first|rfl|(rename_i h;simp at h)
def stE (sh:Sh)(id i off fz:Nat)(rsh:Sh)(xs:List PV)(v:PV)(h1:bA):Option PV→Option (AV×bA×Esc)
 | some (.agg cs)=>if off+v.cells.length≤cs.length then some (.und,h1.set id (.row rsh (xs.set i (.agg (splice cs off v.cells))) fz),[]) else none
 | some _=>if off=0∧v.sc then some (.und,h1.set id (.row rsh (xs.set i v) fz),[]) else none
 | none=>none
def stO (sh:Sh)(id g i off:Nat)(v:PV)(h1:bA):Option Obj→Option (AV×bA×Esc)
 | some (.row rsh xs fz)=>if g=xs.length∧fz≤i∧v.cells.length=lA sh∧v.cells.all PV.sc then stE sh id i off fz rsh xs v h1 xs[i]? else none
 | _=>none
def stR (sh:Sh)(id g i off:Nat):Option (PV×bA)→Option (AV×bA×Esc)
 | some y=>stO sh id g i off y.1 y.2 y.2[id]?
 | none=>none
theorem zrQ {sh:Sh}{id g i off:Nat}{x:AV}:RA sh (.rref id g i off) x h=stR sh id g i off (pur h x):=by
 unfold RA stR;cases pur h x with
 | none=>rfl
 | some y=>
  obtain⟨v,h1⟩:=y;dsimp only;unfold stO;cases h1[id]? with
  | none=>rfl
  | some o=>cases o <;> rfl
theorem zrF {sh:Sh}{id g i off:Nat}{v:PV}{h1:bA}:stR sh id g i off (some (v,h1))=stO sh id g i off v h1 h1[id]?:=(rfl)
theorem zrE {sh rsh:Sh}{id g i off fz:Nat}{v:PV}{h1:bA}{xs:List PV}:stO sh id g i off v h1 (some (.row rsh xs fz))=if g=xs.length∧fz≤i∧v.cells.length=lA sh∧v.cells.all PV.sc then stE sh id i off fz rsh xs v h1 xs[i]? else none:=(rfl)
theorem zrB {sh rsh:Sh}{id i off fz:Nat}{v:PV}{h1:bA}{xs cs:List PV}:stE sh id i off fz rsh xs v h1 (some (.agg cs))=if off+v.cells.length≤cs.length then some (.und,h1.set id (.row rsh (xs.set i (.agg (splice cs off v.cells))) fz),[]) else none:=(rfl)
theorem zrC {sh rsh:Sh}{id i off fz:Nat}{v:PV}{h1:bA}{xs:List PV}{k:IntKind}{n:Int}:stE sh id i off fz rsh xs v h1 (some (.int k n))=if off=0∧v.sc then some (.und,h1.set id (.row rsh (xs.set i v) fz),[]) else none:=(rfl)
theorem zrD {sh rsh:Sh}{id i off fz:Nat}{v:PV}{h1:bA}{xs:List PV}{s:List UInt8}:stE sh id i off fz rsh xs v h1 (some (.str s))=if off=0∧v.sc then some (.und,h1.set id (.row rsh (xs.set i v) fz),[]) else none:=(rfl)
def iaS (xs:List PV):Option Nat→Option AV
 | some k=>(xs[k]?).map .vp
 | none=>none
theorem zlB {sh:Sh}{xs:List PV}{i:AV}:uA sh (.p (.sl sh xs)) i h=iaS xs (vB i):=by
 unfold uA iaS;cases vB i <;> simp
theorem zl7 {xs:List PV}{n:Nat}:iaS xs (some n)=(xs[n]?).map .vp:=(rfl)
def iaO (sh:Sh)(id g off len:Nat):Option Obj→Option Nat→Option AV
 | some (.row rsh xs _),some k=>if rsh=sh∧g=xs.length∧off+len≤xs.length∧k<len then some (.rref id g (off+k) 0) else none
 | _,_=>none
theorem zlA {sh:Sh}{id g off len:Nat}{i:AV}:uA sh (.own id g off len) i h=iaO sh id g off len h[id]? (vB i):=by
 unfold uA iaO;cases vB i with
 | none=>dsimp only;cases h[id]? with
  | none=>rfl
  | some o=>cases o <;> rfl
 | some k=>dsimp only;cases h[id]? with
  | none=>rfl
  | some o=>cases o <;> rfl
theorem zl6 {sh rsh:Sh}{id g off len k fz:Nat}{xs:List PV}:iaO sh id g off len (some (.row rsh xs fz)) (some k)=if rsh=sh∧g=xs.length∧off+len≤xs.length∧k<len then some (.rref id g (off+k) 0) else none:=(rfl)
theorem zlF {i:AV}:BC (.p (.str sa)) i=(vB i).bind fun n=>(sa[n]?).map fun b=>.p (.int .u8 b.toNat):=by
 unfold BC;cases vB i <;> rfl
end
theorem z1w {z:List AV}{k:AV→bA→Esc→Prop}:alK z h k=k (.ref h.length 0) (h++[.box z]) []:=(rfl)
theorem z7o {sh:Sh}{k:AV→bA→Esc→Prop}:nwK sh h k=k (.own h.length 0 0 0) (h++[.row sh [] 0]) []:=(rfl)
theorem z7g {k:AV→bA→Esc→Prop}:mmK h k=k (.mp h.length) (h++[.amap [] 0]) []:=(rfl)
theorem zqe {h:bA}:CB [] h=([],h):=(rfl)
theorem zqf {h:bA}{s:Sh}{r:List AV}:CB (.sl0 s::r) h=(.own h.length 0 0 0::(CB r (h++[.row s [] 0])).1,(CB r (h++[.row s [] 0])).2):=(rfl)
attribute [go_sem] zqe zqf
def ldAr (sh:Sh)(off g:Nat):Option Obj→Option AV
 | some (.arow rsh cs)=>if g*lA rsh=cs.length then cut sh off cs else none
 | _=>none
theorem zn6 {sh:Sh}{off id g:Nat}:kA sh (.bt 4 off id g) h=ldAr sh off g h[id]?:=by
 show ldA sh 4 off id g h=_
 unfold ldA ldAr;rfl
theorem zno {sh rsh:Sh}{off g:Nat}{cs:List AV}:ldAr sh off g (some (.arow rsh cs))=if g*lA rsh=cs.length then cut sh off cs else none:=(rfl)
def stAr (sh:Sh)(off id g:Nat)(x:AV)(h:bA):Option Obj→Option (List AV)→Option (AV×bA×Esc)
 | some (.arow rsh cs),some vs=>if g*lA rsh=cs.length∧vs.length=lA sh∧off+vs.length≤cs.length then some (.und,h.set id (.arow rsh (splice cs off vs)),TB id x) else none
 | _,_=>none
theorem zrN {sh:Sh}{off id g:Nat}{x:AV}:RA sh (.bt 4 off id g) x h=stAr sh off id g x h h[id]? x.cells:=by
 show stA sh 4 off id g x h=_
 unfold stA stAr;rfl
theorem zr9 {sh rsh:Sh}{off id g:Nat}{x:AV}{cs vs:List AV}:stAr sh off id g x h (some (.arow rsh cs)) (some vs)=if g*lA rsh=cs.length∧vs.length=lA sh∧off+vs.length≤cs.length then some (.und,h.set id (.arow rsh (splice cs off vs)),TB id x) else none:=(rfl)
def iaAr (sh:Sh)(id g:Nat):Option Obj→Option Nat→Option AV
 | some (.arow rsh cs),some i=>if rsh=sh∧g*lA rsh=cs.length∧i<g then some (.bt 4 (i*lA sh) id g) else none
 | _,_=>none
theorem zl8 {sh:Sh}{t id g:Nat}{i:AV}:uA sh (.bt 3 t id g) i h=iaAr sh id g h[id]? (vB i):=by
 unfold uA iaAr;cases vB i with
 | none=>cases h[id]? with
  | none=>rfl
  | some o=>cases o <;> rfl
 | some k=>
  show iaA sh 3 id g k h=_
  unfold iaA;cases h[id]? with
  | none=>rfl
  | some o=>cases o <;> rfl
theorem zl5 {sh rsh:Sh}{id g i:Nat}{cs:List AV}:iaAr sh id g (some (.arow rsh cs)) (some i)=if rsh=sh∧g*lA rsh=cs.length∧i<g then some (.bt 4 (i*lA sh) id g) else none:=(rfl)
theorem zkY {off o id g:Nat}{sh:Sh}:oA off sh (.bt 4 o id g)=some (.bt 4 (o+off) id g):=(rfl)
theorem znr {t id g:Nat}:yA (.bt 3 t id g)=some (.p (.int .i64 g)):=(rfl)
theorem znW {o id g:Nat}:jB (.bt 4 o id g)=some (.bt 4 o id g):=(rfl)
def apAr (sh:Sh)(h:bA)(t id g g':Nat):Option Obj→Option Obj→Option (AV×bA×Esc)
 | some (.arow rsh cs),some (.arow rsh' ds)=>if rsh=sh∧rsh'=sh∧g*lA sh=cs.length∧g'*lA sh=ds.length∧g+g'≤XA then
  some (.bt 3 t id (g+g'),h.set id (.arow sh (cs++ds)),bif decide (id<AV.tops ds) then [(id,AV.tops ds)] else []) else none
 | _,_=>none
theorem zeq {sh:Sh}{t id g t' id' g':Nat}:apA sh h (.bt 3 t id g) (.bt 3 t' id' g')=apAr sh h t id g g' h[id]? h[id']?:=by
 show(match h[id]?,h[id']? with|_,_=>_)=_
 unfold apAr;rfl
theorem zes {sh rsh rsh':Sh}{t id g g':Nat}{cs ds:List AV}:apAr sh h t id g g' (some (.arow rsh cs)) (some (.arow rsh' ds))=if rsh=sh∧rsh'=sh∧g*lA sh=cs.length∧g'*lA sh=ds.length∧g+g'≤XA then
 some (.bt 3 t id (g+g'),h.set id (.arow sh (cs++ds)),bif decide (id<AV.tops ds) then [(id,AV.tops ds)] else []) else none:=(rfl)
theorem zqd {h:bA}{k t i g:Nat}{r:List AV}:CB (.bt k t i g::r) h=(.bt 3 t h.length 0::(CB r (h++[.arow (VC t) []])).1,(CB r (h++[.arow (VC t) []])).2):=(rfl)
theorem zgP {n:Nat}:VC (n+1)=some n:=(rfl)
attribute [go_sem] zn6 zno zrN zr9 zl8 zl5 zkY znr znW zeq zes zqd zgP
attribute [go_sem] z80 z81 z1D z1F z1E zaW mN z72 z8W z8U zon zs2 z6t z6q z6s z6r z6p z6l z6o z6m z6n z6k z6g z6j z6h z6i ze5 zeH zeB zeE zeF ze6 zeC zeA ze9 ze8 ze7 zeG zrR zrS zrX zrW zrV zrU zsx convI znZ zoa zp6 znu znt znx ext_t zla zlb zlc zn8 z6V z6W znp z6Q zrP zrA zrQ zrF zrE zrB zrC zrD zkO zlP zlQ zlN zlO zlB zl7 zlA zl6 zlF z1w z7o z7g sE z8s upcB neqB lenB n64 z4y strB appB rds rd qB DB MM aB OM CK cX CH fN z7s DH uF z7t RD jG qE LI bX WC z7p oClr oMx oMn YA bB fX aX z7r dX EB BB
attribute [go_sem ↓] mN z72 z8W z8U z6t z6q z6s z6r z6p z6l z6o z6m z6n z6k z6g z6j z6h z6i z26 z25 z80 z81 z1D z1F z1E z1w z7o z7g z6Z z6Y z7a z8y z5V z5W
attribute [go_sem low] zls zlq zlo
attribute [congr] zaV zaU zom zs1 zlt zlr zlp
end Go.Am
end
section
/- The abstract machine,part X: the library's functions that have no Go text: comparing strings,finding a byte. -/
set_option linter.unusedSimpArgs false
set_option linter.unusedVariables false
namespace Go.Am
variable {P:Program}
structure ExtRow (P:Program) (f:Nat) (e:Array Value→Sem Value):Prop where
 row:∃fn,P.funcs[f]?=some fn∧fn.name ≠ "runtime.NumGoroutine" ∧ fn.body=none∧Extern.findNext fn=none∧Extern.find fn=some e
theorem ExtRow.run {f:Nat}{e:Array Value→Sem Value}(R:ExtRow P f e){us:Array Value}{w w':World}{x:Value}(he:(e us).run P w = .ok x w'):(callFunc f us).run P w = .ok (.value x) w':=by
 obtain⟨fn,h1,h2,h3,h4,h5⟩:=R.row;unfold callFunc;simp [h1,h2,h3,h4,h5,he]
theorem zuf {f:Nat}{e:Array Value→Sem Value}(h:(match P.funcs[f]? with | some fn=>fn.name != "runtime.NumGoroutine" && fn.body.isNone&&(Extern.findNext fn).isNone | none=>false)=true)(h2:(P.funcs[f]?).bind Extern.find=some e):ExtRow P f e:=by
 cases hf:P.funcs[f]? with
 | none=>rw[hf]at h;cases h
 | some fn=>
  rw[hf]at h h2;simp only[Bool.and_eq_true,bne_iff_ne,ne_eq,Option.isNone_iff_eq_none]at h;exact⟨⟨fn,hf,h.1.1,h.1.2,h.2,h2⟩⟩
def oD (s:List UInt8)(c:UInt8):Int:=if s.findIdx (· == c)<s.length then(s.findIdx (· == c):Int) else -1
def vA:List UInt8→List UInt8→Int
 | [],[]=>0
 | [],_::_=>-1
 | _::_,[]=>1
 | a::asv,b::bs=>if a<b then -1 else if b<a then 1 else vA asv bs
theorem z19 (s:List UInt8)(i:Nat):(⟨s.toArray⟩:ByteArray)[i]! = s.getD i 0:=by
 by_cases h:i<s.length
 ·rw[getElem!_pos (⟨s.toArray⟩:ByteArray) i h]
  show s.toArray[i]=_
  simp [h]
 ·rw[getElem!_neg (⟨s.toArray⟩:ByteArray) i h]
  simp [Nat.not_lt.1 h];rfl
theorem zlj (s:List UInt8)(c:UInt8):(match (List.range (⟨s.toArray⟩:ByteArray).size).find? fun i=>(⟨s.toArray⟩:ByteArray)[i]! == c with
 | some i=>(i:Int)
 | none=>-1)=oD s c:=by
 have hsz:(⟨s.toArray⟩:ByteArray).size=s.length:=rfl
 have hget:∀i,i<s.length→(⟨s.toArray⟩:ByteArray)[i]! = s.getD i 0:=by
  intro i hi;exact z19 s i
 unfold oD;rw[hsz];by_cases h:s.findIdx (· == c)<s.length
 ·rw[if_pos h]
  have hf:(List.range s.length).find? (fun i=>(⟨s.toArray⟩:ByteArray)[i]! == c)=some (s.findIdx (· == c)):=by
   rw[List.find?_eq_some_iff_getElem];refine⟨?_,s.findIdx (· == c),by simpa using h,by simp,fun j hj=>?_⟩
   ·rw[hget _ h]
    have:=List.findIdx_getElem (w:=h);simpa [h] using this
   ·simp only[List.getElem_range]
    have hj':j<s.length:=by omega
    rw[hget _ hj'];have:=List.not_of_lt_findIdx hj;simpa [hj'] using this
  rw[hf]
 ·rw[if_neg h]
  have hf:(List.range s.length).find? (fun i=>(⟨s.toArray⟩:ByteArray)[i]! == c)=none:=by
   rw[List.find?_eq_none];intro i hi;rw[List.mem_range]at hi;rw[hget _ hi];intro hc;exact h (List.findIdx_lt_length_of_exists ⟨s[i],List.getElem_mem hi,by simpa [hi] using hc⟩)
  rw[hf]
theorem zgA:∀ (a b:List UInt8),Extern.BytealgCompare.cmp ⟨a.toArray⟩ ⟨b.toArray⟩=vA a b:=by
 have key:∀(a b:List UInt8),(match (List.range (min a.length b.length)).find? fun i=>a.getD i 0 != b.getD i 0 with
  | some i=>if a.getD i 0<b.getD i 0 then(-1:Int) else 1
  | none=>if a.length<b.length then -1 else if a.length>b.length then 1 else 0)=vA a b:=by
  intro a;induction a with
  | nil=>intro b;cases b <;> simp [vA]
  | cons x a ih=>
   intro b;cases b with
   | nil=>simp [vA]
   | cons y b=>
    have hm:min (x::a).length (y::b).length=min a.length b.length+1:=by simp only[List.length_cons];omega
    rw[hm,List.range_succ_eq_map,List.find?_cons];simp only[List.getD_cons_zero];by_cases hxy:x=y
    ·subst hxy
     have hlt:¬x<x:=UInt8.lt_irrefl x
     simp only[bne_self_eq_false,List.find?_map,vA,hlt,if_false];rw[←ih b];have hc:((fun i=>(x::a).getD i 0 != (x::b).getD i 0) ∘ Nat.succ)=fun i=>a.getD i 0 != b.getD i 0:=by
      funext i;simp
     rw[hc];cases (List.range (min a.length b.length)).find? fun i=>a.getD i 0 != b.getD i 0 with
     | none=>simp
     | some i=>simp
    ·have:(x != y)=true:=by simpa using hxy
     rw[this];simp only[vA,List.getD_cons_zero];by_cases h1:x<y
     ·simp [h1]
     ·have h2:y<x:=by
       rcases UInt8.lt_or_lt_of_ne (a:=x) (b:=y) hxy with h|h
       ·exact absurd h h1
       ·exact h
      simp [h1,h2]
 intro a b;rw[←key a b];unfold Extern.BytealgCompare.cmp;have sa:(⟨a.toArray⟩:ByteArray).size=a.length:=rfl
 have sb:(⟨b.toArray⟩:ByteArray).size=b.length:=rfl
 simp only[sa,sb,z19];generalize List.find? _ _=q;cases q <;> rfl
def iI (fi fc:Nat)(f:Nat)(vs:List PV):Option PV:=
 bif Nat.beq f fi then(match vs with
  | [.str s,.int .u8 c]=>some (.int .i64 (oD s (UInt8.ofNat c.toNat)))
  | _=>none)
 else bif Nat.beq f fc then(match vs with
  | [.str a,.str b]=>some (.int .i64 (vA a b))
  | _=>none)
 else none
theorem extF_ok {fi fc:Nat}(h1:ExtRow P fi Extern.BytealgIndexByte.indexByte)(h2:ExtRow P fc Extern.BytealgCompare.compare){f:Nat}{vs:List PV}{r:PV}(h:iI fi fc f vs=some r):zZ P f vs r:=by
 intro M w us hM hl hr;unfold iI at h;cases e1:Nat.beq f fi with
 | true=>
  rw[e1]at h;have e:=Nat.eq_of_beq_eq_true e1
  subst e;simp only[cond_true]at h;split at h
  ·rename_i s c
   injection h with h
   subst h;match us,hl with
   | [u,v],_=>
    have q1:=hr 0 _ u rfl rfl
    have q2:=hr 1 _ v rfl rfl
    cases q1;cases q2
    refine⟨.int .i64 (oD s (UInt8.ofNat c.toNat)),w,h1.run ?_,WExt.refl w,.int _ _⟩;rw[←zlj];show(match (List.range (⟨s.toArray⟩:ByteArray).size).find? fun i=>(⟨s.toArray⟩:ByteArray)[i]! == UInt8.ofNat c.toNat with|some i=>(pure (goInt i):Sem Value)|none=>pure (goInt (-1))).run P w=_
    generalize List.find? _ _=q;cases q <;> rfl
  ·cases h
 | false=>
  rw[e1]at h;simp only[cond_false]at h;cases e2:Nat.beq f fc with
  | true=>
   rw[e2]at h;have e:=Nat.eq_of_beq_eq_true e2
   subst e;simp only[cond_true]at h;split at h
   ·rename_i a b
    injection h with h
    subst h;match us,hl with
    | [u,v],_=>
     have q1:=hr 0 _ u rfl rfl
     have q2:=hr 1 _ v rfl rfl
     cases q1;cases q2
     refine⟨.int .i64 (vA a b),w,h2.run ?_,WExt.refl w,.int _ _⟩;rw[←zgA];rfl
   ·cases h
  | false=>rw[e2]at h;cases h
theorem z4Q {X:Ctx}{f:Nat}{asv:List AV}{vs:List PV}{h h1:bA}{r:PV}{K:mA}(hf:X.fn f=none)(h2:X.ex2 f asv h=none)(hp:zA h asv=some (vs.map .p,h1))(hu:unp (vs.map AV.p)=some vs)(hx:X.ext f vs=some r):jA X f asv h K=K (.p r) h1 []:=by
 refine propext (jA.eq (jA.fold ?_) K);unfold nC;simp only[hf,h2,hp,hu,hx];exact⟨trivial,trivial,trivial⟩
structure GrowRow (P:Program) (f:Nat) (sh:Sh):Prop where
 enter:∀us w,(callFunc f us).run P w = .ok (.enter f us) w
 room:∀a w,Calls P f #[.slice a 0 0,.int .i64 0] w fun e w'=>e = .returned (.slice a 0 0)∧w'=w
 grow:∀a (n:Nat) w,0<n→n≤1048576→Calls P f #[.slice a 0 0,.int .i64 n] w fun e w'=>∃G cs E,e = .returned (.slice (some ⟨w.heap.size,0,none⟩) 0 G)∧cs.size=G*lA sh∧w'=w.drew.alloc (.cells cs E)
def tK:List (Nat × Sh)→Nat→List AV→bA→Option (AV×bA×Esc)
 | [],_,_,_=>none
 | (g,sh)::r,f,asv,h=>bif Nat.beq f g then(match asv with
  | [.sl0 _,.p (.int .i64 n)]=>bif decide (0≤n)&&decide (n≤1048576) then some (.own h.length 0 0 0,h++[.row sh [] 0],[]) else none
  | _=>none) else tK r f asv h
theorem z65 {gl:Nat→Option PV}:∀(gs:List (Nat×Sh)),(∀g sh,(g,sh)∈gs→GrowRow P g sh)→∀{f:Nat} {asv:List AV} {h:bA} {v:AV} {h':bA} {x:Esc},tK gs f asv h=some (v,h',x) →
 EC P gl f asv h fun v1 h1 x1=>v1=v∧h1=h'∧x1=x
 | [],_,f,asv,h,v,h',x,H=>by cases H
 | (g,sh)::r,hg,f,asv,h,v,h',x,H=>by
  unfold tK at H;cases e1:Nat.beq f g with
  | false=>
   rw[e1]at H;exact z65 r (fun g sh hm=>hg g sh (by simp [hm])) H
  | true=>
   rw[e1]at H;have e:=Nat.eq_of_beq_eq_true e1
   subst e;have R:=hg f sh (by simp)
   simp only[cond_true]at H;split at H
   ·rename_i sh' n
    cases hb:(decide (0≤n)&&decide (n≤1048576)) with
    | false=>rw[hb]at H;cases H
    | true=>
     rw[hb]at H;simp only[cond_true,Option.some.injEq,Prod.mk.injEq]at H;obtain⟨rfl,rfl,rfl⟩:=H;simp only[Bool.and_eq_true,decide_eq_true_eq]at hb;intro μ w vs Hh Hg hl hr;match vs,hl with
     | [u1,u2],_=>
      have q1:=hr 0 _ u1 rfl rfl
      have q2:=(hr 1 _ u2 rfl rfl).p_inv
      cases q1;cases q2
      obtain⟨m,hm⟩:=Int.eq_ofNat_of_zero_le hb.1;subst hm;refine .inl ⟨R.enter _,?_⟩;rcases Nat.eq_zero_or_pos m with h0|h0
      ·subst h0
       refine(R.room _ w).mono fun e w' he=>?_
       obtain⟨rfl,rfl⟩:=he;obtain⟨n1,n2⟩:=eN Hh sh;refine⟨_,_,_,_,⟨rfl,rfl,rfl⟩,?_,n1,n2,CA.push (by simp [Obj.top])⟩
       exact .own h.length 0 0 0 _ 0 sh [] 0 none (Nat.le_refl _) (by simp) (by rw[←Hh.len];simp) (by simp) (by simp) (fun _=>rfl)
      ·refine(R.grow _ m w h0 (by omega)).mono fun e w' he=>?_
       obtain⟨G,cs,E,rfl,hcs,rfl⟩:=he;have hw:WExt w (w.drew.alloc (.cells cs E)):=(WExt.drew w _).trans (WExt.push _ _)
       obtain⟨n1,n2⟩:=KI (sh:=sh) (xs:=[]) Hh hw (b:=w.heap.size) (n:=cs.size) (Nat.le_refl _) (by show w.heap.size<(w.heap.push _).size;simp) (c:=cs) (mB.push (w:=w.drew) cs E) (by simp) (by simp) (by simp)
       refine⟨_,_,_,_,⟨rfl,rfl,rfl⟩,?_,n1,n2,CA.push (by simp [Obj.top])⟩
       refine .own h.length 0 0 0 _ G sh [] 0 (some (w.heap.size,cs.size)) (Nat.zero_le _) (by simp) (by rw[←Hh.len];simp) (by simp) (by simp) (fun _=>?_)
       exact .inr ⟨by simp,by simp [hcs]⟩
   ·cases H
end Go.Am
end
section
/- Short words for the printed code. -/
set_option linter.all false
namespace Go.Am
instance {n:Nat}:OfNat Opd n:=⟨.t n⟩
abbrev GL:=Nat→Option PV
abbrev KT:=Ex→St→Prop
def cI (n:Int):Opd:=.c (.p (.int .i64 n))
def cT:Opd:=.c (.p (.bool true))
def cF:Opd:=.c (.p (.bool false))
def cS (s:List UInt8):Opd:=.c (.p (.str s))
def uO (d:Nat)(o:AO):AOp:=⟨some d,none,o⟩
def wO (o:AO):AOp:=⟨none,none,o⟩
def gD (d g:Nat)(b:Bool)(o:AO):AOp:=⟨some d,some (g,b),o⟩
def mV (d:Nat)(x:Opd):AOp:=⟨some d,none,.mv x⟩
def bN (d:Nat)(b:BinOp)(x y:Opd):AOp:=⟨some d,none,.bin b x y⟩
def cL (d f:Nat)(l:List Opd):AOp:=⟨some d,none,.call f l⟩
def lD (d:Nat)(s:Sh)(x:Opd):AOp:=⟨some d,none,.load s x⟩
def iA (d:Nat)(s:Sh)(x y:Opd):AOp:=⟨some d,none,.iaddr s x y⟩
def fA (d o:Nat)(s:Sh)(x:Opd):AOp:=⟨some d,none,.faddr o s x⟩
def lN (d:Nat)(x:Opd):AOp:=⟨some d,none,.len x⟩
def eX (d:Nat)(x:Opd)(i:Nat):AOp:=⟨some d,none,.ext x i⟩
def dF (o:AOp)(l:List Nat):DOp:=⟨o,l,false,[],[]⟩
def dT (o:AOp)(l:List Nat):DOp:=⟨o,l,true,[],[]⟩
def dA (o:AOp)(l:List Nat)(e:Bool)(a b:List Nat):DOp:=⟨o,l,e,a,b⟩
def rg (l:List AOp)(k:List Nat):ACode:=.reg l (some k)
def dr (l:List DOp)(k:List Nat):ACode:=.draw l (some k)
end Go.Am
end
section
/- The functions asv abstract code,and asv formulas over their values: printed by program out of the translation. -/
set_option linter.unusedVariables false
set_option maxRecDepth 100000
namespace Go.Am
def PI:ACode:=.pr [4,6,10,14,84,85,86] (.seq (rg [bN 87 .lss 86 85] [4,6,10,14,84,85,86,87])
(.seq (.cond 87 .skip
(.exit 0))
(.seq (.block 1 (.seq (rg [mV 88 86,
iA 89 none 84 86,
lD 90 none 89,
mV 16 88,
mV 17 90] [4,6,10,14,16,17,84,85,86])
(.seq (rg [lD 92 (some 3) 4,
mV 93 6,
mV 94 17,
cL 95 MJ [92,93,94],
mV 91 95,
eX 96 91 0,
eX 97 91 1,
mV 18 96,
mV 19 97] [4,6,10,14,16,17,18,19,84,85,86])
(.seq (.seq (dr [dF (mV 98 19) [19],
dF (bN 99 .neq 98 (cI 0)) [98],
dF (mV 100 99) [99],
dF (gD 101 100 false (.mv 18)) [18,100],
dT (gD 102 100 false (.call wH [101,(cS [48])])) [101,100],
dF (gD 103 100 false (.mv 102)) [102,100],
dF (gD 104 103 true (.mv 18)) [18,103],
dT (gD 105 103 true (.call wH [104,(cS [49])])) [104,103],
dF (gD 106 100 false (.pick 103 105 cF)) [103,105,100],
dF (uO 107 (.pick 100 cT 106)) [100,106],
dF (mV 108 107) [107],
dF (gD 109 108 false (.mv 14)) [14,108],
dF (gD 110 108 false (.mv 17)) [17,108],
dT (gD 111 108 false (.call nE [109,110])) [109,110,108],
dF (gD 112 108 false (.mv 10)) [10,108],
dF (gD 113 108 false (.mv 16)) [16,108],
dA (gD 114 108 false (.iaddr none 112 113)) [112,113,108] false [13] [],
dA (gD 115 108 false (.load none 114)) [114,108] false [13] [],
dF (gD 116 108 false (.bin .eql 115 (cI 3))) [115,108],
dF (gD 117 108 false (.eqa [] true 111 116)) [111,116,108],
dF (uO 118 (.pick 108 cT 117)) [108,117]] [4,6,10,14,16,18,84,85,86,118])
(.cond 118 (.seq (rg [mV 2 cF] [2])
.ret)
.skip))
(.seq (rg [mV 119 10,
mV 120 16,
iA 121 none 119 120,
lD 122 none 121,
bN 123 .eql 122 (cI 1),
mV 124 123,
gD 125 124 false (.mv 10),
gD 126 124 false (.mv 16),
gD 127 124 false (.iaddr none 125 126),
gD 128 124 false (.load none 127),
gD 129 124 false (.bin .eql 128 (cI 2)),
uO 130 (.pick 124 cT 129),
mV 20 130] [4,6,10,14,18,20,84,85,86])
(.seq (rg [mV 131 18,
bN 132 .neq 131 (cS []),
mV 133 132,
gD 134 133 true (.mv 18),
gD 135 133 true (.idxs 134 (cI 0)),
gD 136 133 true (.bin .eql 135 (.c (.p (.int .u8 49)))),
gD 137 133 true (.mv 20),
gD 138 133 true (.eqa [] true 136 137),
uO 139 (.pick 133 138 cF)] [4,6,10,14,84,85,86,139])
(.cond 139 (.seq (rg [mV 2 cF] [2])
.ret)
.skip)))))))
(rg [bN 140 .add 86 (cI 1),
mV 86 140] [4,6,10,14,84,85,86]))))
def z3u (C:Hd)(gl:GL)(v4 v6 v10 v14 v84 v85 v86:AV)(h:bA)(x:Esc)(K:KT):Prop:=
 pK (eA .lss v86 v85) fun t1=>
 nA t1 (pK (uA none v84 v86 h) fun t2=>
 pK (kA none t2 h) fun t3=>
 pK (kA (some 3) v4 h) fun t4=>
 C MJ [t4,v6,t3] h fun t5 h6 y7=>
 pK (MB t5 0) fun t8=>
 pK (MB t5 1) fun t9=>
 pK (eA .neq t9 (AI 0)) fun t10=>
 gM t10 false t8 h6 fun t11 h12 y13=>
 gV t10 false h12 (GB C wH [t11,(.p (.str [48]))] h12) fun t14 h15 y16=>
 gM t10 false t14 h15 fun t17 h18 y19=>
 gM t17 true t8 h18 fun t20 h21 y22=>
 gV t17 true h21 (GB C wH [t20,(.p (.str [49]))] h21) fun t23 h24 y25=>
 gP t10 false (LA t17 t23 (AB false)) h24 fun t26 h27 y28=>
 pK (LA t10 (AB true) t26) fun t29=>
 gM t29 false v14 h27 fun t30 h31 y32=>
 gM t29 false t3 h31 fun t33 h34 y35=>
 gV t29 false h34 (GB C nE [t30,t33] h34) fun t36 h37 y38=>
 gM t29 false v10 h37 fun t39 h40 y41=>
 gM t29 false v86 h40 fun t42 h43 y44=>
 gP t29 false (uA none t39 t42 h43) h43 fun t45 h46 y47=>
 (gV t29 false h34 (fun kk=>pK (uA none t39 t42 h34) fun v=>(kk) v h34 []) (fun u (g1:bA) (y1:Esc)=>u=t45∧g1=h34∧y1=[]))∧(gP t29 false (kA none t45 h46) h46 fun t48 h49 y50=>
 (gV t29 false h34 (fun kk=>pK (kA none t45 h34) fun v=>(kk) v h34 []) (fun u (g1:bA) (y1:Esc)=>u=t48∧g1=h34∧y1=[]))∧(gP t29 false (eA .eql t48 (AI 3)) h49 fun t51 h52 y53=>
 gP t29 false (CK [] true t36 t51) h52 fun t54 h55 y56=>
 pK (LA t29 (AB true) t54) fun t57=>
 nA t57 (K .ret ⟨[(2,(AB false))],h55,(y56++(y53++(y50++(y47++(y44++(y41++(y38++(y35++(y32++(y28++(y25++(y22++(y19++(y16++(y13++(y7++x))))))))))))))))⟩)
 (pK (uA none v10 v86 h55) fun t58=>
 pK (kA none t58 h55) fun t59=>
 pK (eA .eql t59 (AI 1)) fun t60=>
 gM t60 false v10 h55 fun t61 h62 y63=>
 gM t60 false v86 h62 fun t64 h65 y66=>
 gP t60 false (uA none t61 t64 h65) h65 fun t67 h68 y69=>
 gP t60 false (kA none t67 h68) h68 fun t70 h71 y72=>
 gP t60 false (eA .eql t70 (AI 2)) h71 fun t73 h74 y75=>
 pK (LA t60 (AB true) t73) fun t76=>
 pK (eA .neq t8 (.p (.str []))) fun t77=>
 gM t77 true t8 h74 fun t78 h79 y80=>
 gP t77 true (BC t78 (AI 0)) h79 fun t81 h82 y83=>
 gP t77 true (eA .eql t81 (.p (.int .u8 49))) h82 fun t84 h85 y86=>
 gM t77 true t76 h85 fun t87 h88 y89=>
 gP t77 true (CK [] true t84 t87) h88 fun t90 h91 y92=>
 pK (LA t77 t90 (AB false)) fun t93=>
 nA t93 (K .ret ⟨[(2,(AB false))],h91,(y92++(y89++(y86++(y83++(y80++(y75++(y72++(y69++(y66++(y63++(y56++(y53++(y50++(y47++(y44++(y41++(y38++(y35++(y32++(y28++(y25++(y22++(y19++(y16++(y13++(y7++x))))))))))))))))))))))))))⟩)
 (pK (eA .add v86 (AI 1)) fun t94=>
 K .normal ⟨[(4,v4),(6,v6),(10,v10),(14,v14),(84,v84),(85,v85),(86,t94)],h91,(y92++(y89++(y86++(y83++(y80++(y75++(y72++(y69++(y66++(y63++(y56++(y53++(y50++(y47++(y44++(y41++(y38++(y35++(y32++(y28++(y25++(y22++(y19++(y16++(y13++(y7++x))))))))))))))))))))))))))⟩)))))
 (K (.exit 0) ⟨[(4,v4),(6,v6),(10,v10),(14,v14),(84,v84),(85,v85),(86,v86),(87,t1)],h,x⟩)
theorem zi1 {C gl e h x K}:NW C gl PI ⟨e,h,x⟩ K=z3u C gl (aA e 4) (aA e 6) (aA e 10) (aA e 14) (aA e 84) (aA e 85) (aA e 86) h x K:=by kernel_rfl
theorem zm8 {C gl e h x K}:NW C gl (.loop PI) ⟨e,h,x⟩ K=FA C gl PI K [(4,aA e 4),(6,aA e 6),(10,aA e 10),(14,aA e 14),(84,aA e 84),(85,aA e 85),(86,aA e 86)] h x:=NB
def BR:ACode:=.pr [] (.seq (rg [cL 141 FG [],
mV 2 141] [2])
.ret)
def RP (C:Hd)(gl:GL)(h:bA)(x:Esc)(K:KT):Prop:=
 C FG [] h fun t1 h2 y3=>
 K .ret ⟨[(2,t1)],h2,(y3++x)⟩
theorem iW {C gl e h x K}:NW C gl BR ⟨e,h,x⟩ K=RP C gl h x K:=by kernel_rfl
def z0m (q1 q2:ACode):ACode:=(.seq (rg [mV 2 cF] [0])
(.seq (rg [mV 21 0,
uO 22 (.build [.sl0 none,.p (.int .i64 0)] [(0,1,21)]),
uO 23 (.box 22),
mV 3 23] [3])
(.seq (rg [mV 24 3,
cL 25 UJ [24],
uO 4 (.alloc [.sl0 (some 2),.sl0 (some 3),.sl0 (some 2)]),
wO (.store (some 3) 4 25)] [3,4])
(.seq (rg [mV 26 3,
lD 27 (some 3) 4,
cL 28 RJ [26,27],
mV 5 28] [4,5])
(.seq (.seq (rg [lD 29 (some 3) 4,
mV 30 5,
cL 31 WJ [29,30],
bN 32 .neq 31 (cI 0)] [4,5,32])
(.cond 32 (.seq (rg [cL 33 FG [],
mV 2 33] [2])
.ret)
.skip))
(.seq (rg [lD 35 (some 3) 4,
mV 36 5,
cL 37 lH [35,36],
mV 34 37,
eX 38 34 0,
eX 39 34 1,
mV 6 38,
mV 7 39] [4,5,6,7])
(.seq (rg [lD 41 (some 3) 4,
mV 42 6,
cL 43 lH [41,42],
mV 40 43,
eX 44 40 0,
eX 45 40 1,
mV 8 44,
mV 9 45] [4,5,6,7,8,9])
(.seq (rg [lD 47 (some 3) 4,
mV 48 5,
cL 49 mH [47,48],
mV 46 49,
eX 50 46 0,
eX 51 46 1,
mV 10 50,
mV 11 51] [4,5,6,7,8,9,10,11])
(.seq (rg [lD 53 (some 3) 4,
cL 54 LJ [53],
mV 52 54,
eX 55 52 0,
eX 56 52 1,
mV 12 55,
mV 13 56] [4,5,6,7,8,9,10,11,12,13])
(.seq (rg [lD 58 (some 3) 4,
mV 59 5,
cL 60 JJ [58,59],
mV 57 60,
eX 61 57 0,
eX 62 57 1,
mV 14 61,
mV 15 62] [4,6,7,8,9,10,11,12,13,14,15])
(.seq (.seq (rg [mV 63 7,
mV 64 9,
mV 65 11,
mV 66 13,
mV 67 15,
uO 68 (.bsl false none 5 (.int .i64 0) [(0,63),(1,64),(2,65),(3,66),(4,67)]),
cL 69 EG [68],
bN 70 .neq 69 (cI 0),
mV 71 70,
gD 72 71 false (.mv 6),
gD 73 71 false (.mv 8),
gD 74 71 false (.call eK [72,73]),
gD 75 71 false (.un .not 74),
uO 76 (.pick 71 cT 75),
mV 77 76,
gD 78 77 false (.mv 10),
gD 79 77 false (.len 78),
gD 80 77 false (.mv 12),
gD 81 77 false (.len 80),
gD 82 77 false (.bin .neq 79 81),
uO 83 (.pick 77 cT 82)] [4,6,10,12,14,83])
(.cond 83 (.seq (rg [mV 2 cF] [2])
.ret)
.skip))
(.seq (.seq (rg [mV 84 12,
lN 85 84,
mV 86 (cI 0)] [4,6,10,14,84,85,86])
(.block 0 (.loop q1)))
q2))))))))))))
def qT:AFun:=⟨1,[.t 2],z0m PI BR,false,false⟩
def rM (C:Hd)(gl:GL)(q1 q2:ACode)(v0:AV)(h:bA)(x:Esc)(K:KT):Prop:=
 pK (DB [.sl0 none,.p (.int .i64 0)] [(0,1,v0)]) fun t1=>
 wK (qB t1 h) fun t2 h3 y4=>
 C UJ [t2] h3 fun t5 h6 y7=>
 alK [.sl0 (some 2),.sl0 (some 3),.sl0 (some 2)] h6 fun t8 h9 y10=>
 wK (RA (some 3) t8 t5 h9) fun t11 h12 y13=>
 pK (kA (some 3) t8 h12) fun t14=>
 C RJ [t2,t14] h12 fun t15 h16 y17=>
 pK (kA (some 3) t8 h16) fun t18=>
 C WJ [t18,t15] h16 fun t19 h20 y21=>
 pK (eA .neq t19 (AI 0)) fun t22=>
 nA t22 (C FG [] h20 fun t23 h24 y25=>
 K .ret ⟨[(2,t23)],h24,(y25++(y21++(y17++(y13++(y10++(y7++(y4++x)))))))⟩)
 (pK (kA (some 3) t8 h20) fun t26=>
 C lH [t26,t15] h20 fun t27 h28 y29=>
 pK (MB t27 0) fun t30=>
 pK (MB t27 1) fun t31=>
 pK (kA (some 3) t8 h28) fun t32=>
 C lH [t32,t30] h28 fun t33 h34 y35=>
 pK (MB t33 0) fun t36=>
 pK (MB t33 1) fun t37=>
 pK (kA (some 3) t8 h34) fun t38=>
 C mH [t38,t15] h34 fun t39 h40 y41=>
 pK (MB t39 0) fun t42=>
 pK (MB t39 1) fun t43=>
 pK (kA (some 3) t8 h40) fun t44=>
 C LJ [t44] h40 fun t45 h46 y47=>
 pK (MB t45 0) fun t48=>
 pK (MB t45 1) fun t49=>
 pK (kA (some 3) t8 h46) fun t50=>
 C JJ [t50,t15] h46 fun t51 h52 y53=>
 pK (MB t51 0) fun t54=>
 pK (MB t51 1) fun t55=>
 wK (aB false none 5 (.int .i64 0) [(0,t31),(1,t37),(2,t43),(3,t49),(4,t55)] h52) fun t56 h57 y58=>
 C EG [t56] h57 fun t59 h60 y61=>
 pK (eA .neq t59 (AI 0)) fun t62=>
 gM t62 false t30 h60 fun t63 h64 y65=>
 gM t62 false t36 h64 fun t66 h67 y68=>
 gV t62 false h67 (C eK [t63,t66] h67) fun t69 h70 y71=>
 gP t62 false (oUn .not t69) h70 fun t72 h73 y74=>
 pK (LA t62 (AB true) t72) fun t75=>
 gM t75 false t42 h73 fun t76 h77 y78=>
 gP t75 false (yA t76) h77 fun t79 h80 y81=>
 gM t75 false t48 h80 fun t82 h83 y84=>
 gP t75 false (yA t82) h83 fun t85 h86 y87=>
 gP t75 false (eA .neq t79 t85) h86 fun t88 h89 y90=>
 pK (LA t75 (AB true) t88) fun t91=>
 nA t91 (K .ret ⟨[(2,(AB false))],h89,(y90++(y87++(y84++(y81++(y78++(y74++(y71++(y68++(y65++(y61++(y58++(y53++(y47++(y41++(y35++(y29++(y21++(y17++(y13++(y10++(y7++(y4++x))))))))))))))))))))))⟩)
 (pK (yA t48) fun t92=>
 NW C gl (.loop q1) ⟨[(4,t8),(6,t30),(10,t42),(14,t54),(84,t48),(85,t92),(86,(AI 0))],h89,(y90++(y87++(y84++(y81++(y78++(y74++(y71++(y68++(y65++(y61++(y58++(y53++(y47++(y41++(y35++(y29++(y21++(y17++(y13++(y10++(y7++(y4++x))))))))))))))))))))))⟩ (wA 0 (OA C gl q2 K))))
theorem z9Q {C gl q1 q2 v0 h x K}:NW C gl (z0m q1 q2) ⟨enter [v0],h,x⟩ K=rM C gl q1 q2 v0 h x K:=by kernel_rfl
theorem zi0 {C gl v0 h x K}:NW C gl qT.body ⟨enter [v0],h,x⟩ K=rM C gl PI BR v0 h x K:=z9Q
def eL:ACode:=.pr [0,2,4] (.seq (rg [bN 5 .lss 4 (cI 6)] [0,2,4,5])
(.seq (.cond 5 .skip
(.exit 0))
(.seq (.block 1 (.seq (rg [mV 6 0,
cL 7 QJ [6],
uO 3 (.alloc [.sl0 (some 2),.sl0 (some 3),.sl0 (some 2)]),
wO (.store (some 3) 3 7)] [0,2,3,4])
(.seq (rg [lD 8 (some 3) 3,
cL 9 sH [8],
bN 10 .eql 9 (cI 0)] [0,2,3,4,10])
(.cond 10 (.seq (rg [lD 11 (some 3) 3,
wO (.store (some 3) 2 11)] [2])
.ret)
.skip))))
(rg [bN 12 .add 4 (cI 1),
mV 4 12] [0,2,4]))))
def z37 (C:Hd)(gl:GL)(v0 v2 v4:AV)(h:bA)(x:Esc)(K:KT):Prop:=
 pK (eA .lss v4 (AI 6)) fun t1=>
 nA t1 (C QJ [v0] h fun t2 h3 y4=>
 alK [.sl0 (some 2),.sl0 (some 3),.sl0 (some 2)] h3 fun t5 h6 y7=>
 wK (RA (some 3) t5 t2 h6) fun t8 h9 y10=>
 pK (kA (some 3) t5 h9) fun t11=>
 C sH [t11] h9 fun t12 h13 y14=>
 pK (eA .eql t12 (AI 0)) fun t15=>
 nA t15 (pK (kA (some 3) t5 h13) fun t16=>
 wK (RA (some 3) v2 t16 h13) fun t17 h18 y19=>
 K .ret ⟨[(2,v2)],h18,(y19++(y14++(y10++(y7++(y4++x)))))⟩)
 (pK (eA .add v4 (AI 1)) fun t20=>
 K .normal ⟨[(0,v0),(2,v2),(4,t20)],h13,(y14++(y10++(y7++(y4++x))))⟩))
 (K (.exit 0) ⟨[(0,v0),(2,v2),(4,v4),(5,t1)],h,x⟩)
theorem ziU {C gl e h x K}:NW C gl eL ⟨e,h,x⟩ K=z37 C gl (aA e 0) (aA e 2) (aA e 4) h x K:=by kernel_rfl
theorem zmH {C gl e h x K}:NW C gl (.loop (.scope eL)) ⟨e,h,x⟩ K=FA C gl (.scope eL) K [(0,aA e 0),(2,aA e 2),(4,aA e 4)] h x:=RB
def KR:ACode:=.pr [2] (.seq (rg [uO 13 (.build [.p (.str []),.sl0 (some 4)] [(0,1,(cS [117]))]),
uO 14 (.bsl false (some 2) 1 (.agg [.str [],.sl (some 4) []]) [(0,13)]),
uO 15 (.build [.sl0 (some 2),.sl0 (some 3),.sl0 (some 2)] [(0,1,14)]),
wO (.store (some 3) 2 15)] [2])
.ret)
def bQ (C:Hd)(gl:GL)(v2:AV)(h:bA)(x:Esc)(K:KT):Prop:=
 pK (DB [.p (.str []),.sl0 (some 4)] [(0,1,(.p (.str [117])))]) fun t1=>
 wK (aB false (some 2) 1 (.agg [.str [],.sl (some 4) []]) [(0,t1)] h) fun t2 h3 y4=>
 pK (DB [.sl0 (some 2),.sl0 (some 3),.sl0 (some 2)] [(0,1,t2)]) fun t5=>
 wK (RA (some 3) v2 t5 h3) fun t6 h7 y8=>
 K .ret ⟨[(2,v2)],h7,(y8++(y4++x))⟩
theorem kW {C gl e h x K}:NW C gl KR ⟨e,h,x⟩ K=bQ C gl (aA e 2) h x K:=by kernel_rfl
def z02 (q1 q2:ACode):ACode:=(.seq (rg [uO 2 (.alloc [.sl0 (some 2),.sl0 (some 3),.sl0 (some 2)])] [0,2])
(.seq (.seq (rg [mV 4 (cI 0)] [0,2,4])
(.block 0 (.loop (.scope q1))))
q2))
def AT:AFun:=⟨1,[.cell 2 (some 3)],z02 eL KR,false,false⟩
def aQ (C:Hd)(gl:GL)(q1 q2:ACode)(v0:AV)(h:bA)(x:Esc)(K:KT):Prop:=
 alK [.sl0 (some 2),.sl0 (some 3),.sl0 (some 2)] h fun t1 h2 y3=>
 NW C gl (.loop (.scope q1)) ⟨[(0,v0),(2,t1),(4,(AI 0))],h2,(y3++x)⟩ (wA 0 (OA C gl q2 K))
theorem zag {C gl q1 q2 v0 h x K}:NW C gl (z02 q1 q2) ⟨enter [v0],h,x⟩ K=aQ C gl q1 q2 v0 h x K:=by kernel_rfl
theorem ziT {C gl v0 h x K}:NW C gl AT.body ⟨enter [v0],h,x⟩ K=aQ C gl eL KR v0 h x K:=zag
def bL:ACode:=.pr [0,5,8,10,11,12,18,19] (.seq (rg [bN 20 .lss 19 18] [0,5,8,10,11,12,18,19,20])
(.seq (.cond 20 .skip
(.exit 2))
(.seq (.block 3 (rg [mV 21 8,
mV 22 0,
uO 23 (.bsl false none 2 (.str []) [(0,(cS [48])),(1,(cS [49]))]),
cL 24 wC [22,23],
bN 25 .add 21 24,
mV 8 25] [0,5,8,10,11,12,18,19]))
(rg [bN 26 .add 19 (cI 1),
mV 19 26] [0,5,8,10,11,12,18,19]))))
def z33 (C:Hd)(gl:GL)(v0 v5 v8 v10 v11 v12 v18 v19:AV)(h:bA)(x:Esc)(K:KT):Prop:=
 pK (eA .lss v19 v18) fun t1=>
 nA t1 (wK (aB false none 2 (.str []) [(0,(.p (.str [48]))),(1,(.p (.str [49])))] h) fun t2 h3 y4=>
 C wC [v0,t2] h3 fun t5 h6 y7=>
 pK (eA .add v8 t5) fun t8=>
 pK (eA .add v19 (AI 1)) fun t9=>
 K .normal ⟨[(0,v0),(5,v5),(8,t8),(10,v10),(11,v11),(12,v12),(18,v18),(19,t9)],h6,(y7++(y4++x))⟩)
 (K (.exit 2) ⟨[(0,v0),(5,v5),(8,v8),(10,v10),(11,v11),(12,v12),(18,v18),(19,v19),(20,t1)],h,x⟩)
theorem ziJ {C gl e h x K}:NW C gl bL ⟨e,h,x⟩ K=z33 C gl (aA e 0) (aA e 5) (aA e 8) (aA e 10) (aA e 11) (aA e 12) (aA e 18) (aA e 19) h x K:=by kernel_rfl
theorem zmF {C gl e h x K}:NW C gl (.loop bL) ⟨e,h,x⟩ K=FA C gl bL K [(0,aA e 0),(5,aA e 5),(8,aA e 8),(10,aA e 10),(11,aA e 11),(12,aA e 12),(18,aA e 18),(19,aA e 19)] h x:=NB
def NX:ACode:=.pr [0,5,8,10,11,12] (rg [mV 27 5,
mV 28 8,
uO 29 (.bsl false none 1 (.str []) [(0,28)]),
uO 30 (.app none 27 29),
mV 5 30] [0,5,10,11,12])
def z34 (C:Hd)(gl:GL)(v0 v5 v8 v10 v11 v12:AV)(h:bA)(x:Esc)(K:KT):Prop:=
 wK (aB false none 1 (.str []) [(0,v8)] h) fun t1 h2 y3=>
 wK (WC none v5 t1 h2) fun t4 h5 y6=>
 K .normal ⟨[(0,v0),(5,t4),(10,v10),(11,v11),(12,v12)],h5,(y6++(y3++x))⟩
theorem ziK {C gl e h x K}:NW C gl NX ⟨e,h,x⟩ K=z34 C gl (aA e 0) (aA e 5) (aA e 8) (aA e 10) (aA e 11) (aA e 12) h x K:=by kernel_rfl
def OX:ACode:=.pr [0,5,10,11,12] (rg [bN 31 .add 12 (cI 1),
mV 12 31] [0,5,10,11,12])
def z35 (C:Hd)(gl:GL)(v0 v5 v10 v11 v12:AV)(h:bA)(x:Esc)(K:KT):Prop:=
 pK (eA .add v12 (AI 1)) fun t1=>
 K .normal ⟨[(0,v0),(5,v5),(10,v10),(11,v11),(12,t1)],h,x⟩
theorem ziL {C gl e h x K}:NW C gl OX ⟨e,h,x⟩ K=z35 C gl (aA e 0) (aA e 5) (aA e 10) (aA e 11) (aA e 12) h x K:=by kernel_rfl
def z00 (q1 q2 q3:ACode):ACode:=.pr [0,5,10,11,12] (.seq (rg [bN 13 .lss 12 11] [0,5,10,11,12,13])
(.seq (.cond 13 .skip
(.exit 0))
(.seq (.block 1 (.seq (rg [iA 14 (some 2) 10 12,
lD 15 (some 2) 14,
uO 7 (.alloc [.p (.str []),.sl0 (some 4)]),
wO (.store (some 2) 7 15)] [0,5,7,10,11,12])
(.seq (rg [mV 8 (cS [])] [0,5,7,8,10,11,12])
(.seq (.seq (rg [fA 16 1 none 7,
lD 17 none 16,
lN 18 17,
mV 19 (cI 0)] [0,5,8,10,11,12,18,19])
(.block 2 (.loop q1)))
q2))))
q3)))
def dL:ACode:=z00 bL NX OX
def sV (C:Hd)(gl:GL)(q1 q2 q3:ACode)(v0 v5 v10 v11 v12:AV)(h:bA)(x:Esc)(K:KT):Prop:=
 pK (eA .lss v12 v11) fun t1=>
 nA t1 (pK (uA (some 2) v10 v12 h) fun t2=>
 pK (kA (some 2) t2 h) fun t3=>
 alK [.p (.str []),.sl0 (some 4)] h fun t4 h5 y6=>
 wK (RA (some 2) t4 t3 h5) fun t7 h8 y9=>
 pK (oA 1 none t4) fun t10=>
 pK (kA none t10 h8) fun t11=>
 pK (yA t11) fun t12=>
 NW C gl (.loop q1) ⟨[(0,v0),(5,v5),(8,(.p (.str []))),(10,v10),(11,v11),(12,v12),(18,t12),(19,(AI 0))],h8,(y9++(y6++x))⟩ (wA 2 (OA C gl q2 (wA 1 (OA C gl q3 K)))))
 (K (.exit 0) ⟨[(0,v0),(5,v5),(10,v10),(11,v11),(12,v12),(13,t1)],h,x⟩)
theorem zae {C gl q1 q2 q3 e h x K}:NW C gl (z00 q1 q2 q3) ⟨e,h,x⟩ K=sV C gl q1 q2 q3 (aA e 0) (aA e 5) (aA e 10) (aA e 11) (aA e 12) h x K:=by kernel_rfl
theorem ziM {C gl e h x K}:NW C gl dL ⟨e,h,x⟩ K=sV C gl bL NX OX (aA e 0) (aA e 5) (aA e 10) (aA e 11) (aA e 12) h x K:=zae
theorem zmG {C gl e h x K}:NW C gl (.loop (.scope dL)) ⟨e,h,x⟩ K=FA C gl (.scope dL) K [(0,aA e 0),(5,aA e 5),(10,aA e 10),(11,aA e 11),(12,aA e 12)] h x:=RB
def PX:ACode:=.pr [5] (.seq (rg [mV 56 5,
mV 4 56] [4])
.ret)
def z36 (C:Hd)(gl:GL)(v5:AV)(h:bA)(x:Esc)(K:KT):Prop:=
 K .ret ⟨[(4,v5)],h,x⟩
theorem ziN {C gl e h x K}:NW C gl PX ⟨e,h,x⟩ K=z36 C gl (aA e 5) h x K:=by kernel_rfl
def z01 (q5:ACode):ACode:=.pr [0,5] (.seq (.seq (rg [mV 32 0,
cL 33 pC [32,(cI 15)]] [0,5,33])
(.cond 33 (.seq (rg [mV 34 5,
lN 35 34,
bN 36 .gtr 35 (cI 0),
mV 37 36,
gD 38 37 true (.mv 0),
gD 39 37 true (.call pC [38,(cI 2)]),
uO 40 (.pick 37 39 cF)] [0,5,40])
(.cond 40 (dr [dF (mV 41 5) [5],
dF (mV 42 0) [0],
dF (mV 43 5) [5],
dF (lN 44 43) [43],
dT (cL 45 LB [42,44]) [42,44],
dF (iA 46 none 41 45) [41,45],
dF (lD 47 none 46) [46],
dF (mV 48 0) [0],
dA (uO 49 (.bsl false none 2 (.str []) [(0,(cS [48])),(1,(cS [120]))])) [] false [4] [],
dA (cL 50 wC [48,49]) [48,49] true [] [5,6],
dF (bN 51 .add 47 50) [47,50],
dF (iA 52 none 41 45) [41,45],
dT (wO (.store none 52 51)) [52,51]] [5])
(rg [mV 53 5,
uO 54 (.bsl false none 1 (.str []) [(0,(cS []))]),
uO 55 (.app none 53 54),
mV 5 55] [5])))
.skip))
q5)
def JR:ACode:=z01 PX
def eH (C:Hd)(gl:GL)(q5:ACode)(v0 v5:AV)(h:bA)(x:Esc)(K:KT):Prop:=
 C pC [v0,(AI 15)] h fun t1 h2 y3=>
 nA t1 (pK (yA v5) fun t4=>
 pK (eA .gtr t4 (AI 0)) fun t5=>
 gM t5 true v0 h2 fun t6 h7 y8=>
 gV t5 true h7 (C pC [t6,(AI 2)] h7) fun t9 h10 y11=>
 pK (LA t5 t9 (AB false)) fun t12=>
 nA t12 (pK (yA v5) fun t13=>
 GB C LB [v0,t13] h10 fun t14 h15 y16=>
 pK (uA none v5 t14 h15) fun t17=>
 pK (kA none t17 h15) fun t18=>
 wK (aB false none 2 (.str []) [(0,(.p (.str [48]))),(1,(.p (.str [120])))] h15) fun t19 h20 y21=>
 (h20=h15∧y21=[])∧((wK (aB false none 2 (.str []) [(0,(.p (.str [48]))),(1,(.p (.str [120])))] h10) (fun u (g1:bA) (y1:Esc)=>u=t19∧g1=h10∧y1=[]))∧(GB C wC [v0,t19] h20 fun t22 h23 y24=>
 (pK (uA none v5 t14 h23) fun v=>(fun u (g1:bA) (y1:Esc)=>u=t17∧g1=h23∧y1=[]) v h23 [])∧((pK (kA none t17 h23) fun v=>(fun u (g1:bA) (y1:Esc)=>u=t18∧g1=h23∧y1=[]) v h23 [])∧(pK (eA .add t18 t22) fun t25=>
 pK (uA none v5 t14 h23) fun t26=>
 wK (RA none t26 t25 h23) fun t27 h28 y29=>
 NW C gl q5 ⟨[(5,v5)],h28,(y29++(y24++(y21++(y16++(y11++(y8++(y3++x)))))))⟩ K)))))
 (wK (aB false none 1 (.str []) [(0,(.p (.str [])))] h10) fun t30 h31 y32=>
 wK (WC none v5 t30 h31) fun t33 h34 y35=>
 NW C gl q5 ⟨[(5,t33)],h34,(y35++(y32++(y11++(y8++(y3++x)))))⟩ K))
 (NW C gl q5 ⟨[(0,v0),(5,v5),(33,t1)],h2,(y3++x)⟩ K)
theorem zaf {C gl q5 e h x K}:NW C gl (z01 q5) ⟨e,h,x⟩ K=eH C gl q5 (aA e 0) (aA e 5) h x K:=by kernel_rfl
theorem jW {C gl e h x K}:NW C gl JR ⟨e,h,x⟩ K=eH C gl PX (aA e 0) (aA e 5) h x K:=zaf
def z0z (q4 q6:ACode):ACode:=(.seq (rg [uO 3 (.box 1),
mV 4 (.c (.p (.sl none [])))] [0,3])
(.seq (rg [uO 5 (.new0 none)] [0,3,5])
(.seq (.seq (rg [fA 9 0 none 3,
lD 10 none 9,
lN 11 10,
mV 12 (cI 0)] [0,5,10,11,12])
(.block 0 (.loop (.scope q4))))
q6)))
def uT:AFun:=⟨2,[.t 4],z0z dL JR,false,false⟩
def XP (C:Hd)(gl:GL)(q4 q6:ACode)(v0 v1:AV)(h:bA)(x:Esc)(K:KT):Prop:=
 wK (qB v1 h) fun t1 h2 y3=>
 nwK none h2 fun t4 h5 y6=>
 pK (oA 0 none t1) fun t7=>
 pK (kA none t7 h5) fun t8=>
 pK (yA t8) fun t9=>
 NW C gl (.loop (.scope q4)) ⟨[(0,v0),(5,t4),(10,t8),(11,t9),(12,(AI 0))],h5,(y6++(y3++x))⟩ (wA 0 (OA C gl q6 K))
theorem zad {C gl q4 q6 v0 v1 h x K}:NW C gl (z0z q4 q6) ⟨enter [v0,v1],h,x⟩ K=XP C gl q4 q6 v0 v1 h x K:=by kernel_rfl
theorem ziI {C gl v0 v1 h x K}:NW C gl uT.body ⟨enter [v0,v1],h,x⟩ K=XP C gl dL JR v0 v1 h x K:=zad
def iL:ACode:=.pr [2,19,20,21] (.seq (rg [bN 22 .lss 21 20] [2,19,20,21,22])
(.seq (.cond 22 .skip
(.exit 0))
(.seq (.block 1 (.seq (rg [mV 23 21,
iA 24 none 19 21,
lD 25 none 24,
mV 6 23,
mV 7 25] [2,6,7,19,20,21])
(.seq (rg [mV 26 7,
cL 27 VJ [26],
uO 28 (.un .not 27),
mV 29 28,
gD 30 29 false (.mv 7),
gD 31 29 false (.lens 30),
gD 32 29 false (.faddr 0 none 2),
gD 33 29 false (.load none 32),
gD 34 29 false (.mv 6),
gD 35 29 false (.iaddr (some 2) 33 34),
gD 36 29 false (.faddr 1 none 35),
gD 37 29 false (.load none 36),
gD 38 29 false (.len 37),
gD 39 29 false (.bin .neq 31 38),
uO 40 (.pick 29 cT 39)] [2,19,20,21,40])
(.cond 40 (.seq (rg [mV 4 (cI 3)] [4])
.ret)
.skip))))
(rg [bN 41 .add 21 (cI 1),
mV 21 41] [2,19,20,21]))))
def z3E (C:Hd)(gl:GL)(v2 v19 v20 v21:AV)(h:bA)(x:Esc)(K:KT):Prop:=
 pK (eA .lss v21 v20) fun t1=>
 nA t1 (pK (uA none v19 v21 h) fun t2=>
 pK (kA none t2 h) fun t3=>
 C VJ [t3] h fun t4 h5 y6=>
 pK (oUn .not t4) fun t7=>
 gM t7 false t3 h5 fun t8 h9 y10=>
 gP t7 false (CD t8) h9 fun t11 h12 y13=>
 gP t7 false (oA 0 none v2) h12 fun t14 h15 y16=>
 gP t7 false (kA none t14 h15) h15 fun t17 h18 y19=>
 gM t7 false v21 h18 fun t20 h21 y22=>
 gP t7 false (uA (some 2) t17 t20 h21) h21 fun t23 h24 y25=>
 gP t7 false (oA 1 none t23) h24 fun t26 h27 y28=>
 gP t7 false (kA none t26 h27) h27 fun t29 h30 y31=>
 gP t7 false (yA t29) h30 fun t32 h33 y34=>
 gP t7 false (eA .neq t11 t32) h33 fun t35 h36 y37=>
 pK (LA t7 (AB true) t35) fun t38=>
 nA t38 (K .ret ⟨[(4,(AI 3))],h36,(y37++(y34++(y31++(y28++(y25++(y22++(y19++(y16++(y13++(y10++(y6++x)))))))))))⟩)
 (pK (eA .add v21 (AI 1)) fun t39=>
 K .normal ⟨[(2,v2),(19,v19),(20,v20),(21,t39)],h36,(y37++(y34++(y31++(y28++(y25++(y22++(y19++(y16++(y13++(y10++(y6++x)))))))))))⟩))
 (K (.exit 0) ⟨[(2,v2),(19,v19),(20,v20),(21,v21),(22,t1)],h,x⟩)
theorem zjk {C gl e h x K}:NW C gl iL ⟨e,h,x⟩ K=z3E C gl (aA e 2) (aA e 19) (aA e 20) (aA e 21) h x K:=by kernel_rfl
theorem zmL {C gl e h x K}:NW C gl (.loop iL) ⟨e,h,x⟩ K=FA C gl iL K [(2,aA e 2),(19,aA e 19),(20,aA e 20),(21,aA e 21)] h x:=NB
def NR:ACode:=.pr [] (.seq (rg [mV 4 (cI 0)] [4])
.ret)
def z3F (C:Hd)(gl:GL)(h:bA)(x:Esc)(K:KT):Prop:=
 K .ret ⟨[(4,(AI 0))],h,x⟩
theorem zjl {C gl e h x K}:NW C gl NR ⟨e,h,x⟩ K=z3F C gl h x K:=by kernel_rfl
def z0A (q1 q2:ACode):ACode:=(.seq (rg [uO 2 (.box 0),
mV 4 (cI 0)] [1,2])
(.seq (.seq (rg [lD 8 (some 3) 2,
cL 9 sH [8],
mV 5 9] [1,2,5])
(.seq (rg [mV 10 5,
bN 11 .neq 10 (cI 0)] [1,2,5,11])
(.cond 11 (.seq (rg [mV 12 5,
mV 4 12] [4])
.ret)
.skip)))
(.seq (.seq (rg [mV 13 1,
lN 14 13,
fA 15 0 none 2,
lD 16 none 15,
lN 17 16,
bN 18 .neq 14 17] [1,2,18])
(.cond 18 (.seq (rg [mV 4 (cI 3)] [4])
.ret)
.skip))
(.seq (.seq (rg [mV 19 1,
lN 20 19,
mV 21 (cI 0)] [2,19,20,21])
(.block 0 (.loop q1)))
q2))))
def HT:AFun:=⟨2,[.t 4],z0A iL NR,false,false⟩
def CJ (C:Hd)(gl:GL)(q1 q2:ACode)(v0 v1:AV)(h:bA)(x:Esc)(K:KT):Prop:=
 wK (qB v0 h) fun t1 h2 y3=>
 pK (kA (some 3) t1 h2) fun t4=>
 C sH [t4] h2 fun t5 h6 y7=>
 pK (eA .neq t5 (AI 0)) fun t8=>
 nA t8 (K .ret ⟨[(4,t5)],h6,(y7++(y3++x))⟩)
 (pK (yA v1) fun t9=>
 pK (oA 0 none t1) fun t10=>
 pK (kA none t10 h6) fun t11=>
 pK (yA t11) fun t12=>
 pK (eA .neq t9 t12) fun t13=>
 nA t13 (K .ret ⟨[(4,(AI 3))],h6,(y7++(y3++x))⟩)
 (pK (yA v1) fun t14=>
 NW C gl (.loop q1) ⟨[(2,t1),(19,v1),(20,t14),(21,(AI 0))],h6,(y7++(y3++x))⟩ (wA 0 (OA C gl q2 K))))
theorem zao {C gl q1 q2 v0 v1 h x K}:NW C gl (z0A q1 q2) ⟨enter [v0,v1],h,x⟩ K=CJ C gl q1 q2 v0 v1 h x K:=by kernel_rfl
theorem zjj {C gl v0 v1 h x K}:NW C gl HT.body ⟨enter [v0,v1],h,x⟩ K=CJ C gl iL NR v0 v1 h x K:=zao
def lX:ACode:=.pr [1,7,8,9,11,12,29,30,31,42,43,44] (rg [bN 81 .add 44 (cI 1),
mV 44 81] [1,7,8,9,11,12,29,30,31,42,43,44])
def z2D (C:Hd)(gl:GL)(v1 v7 v8 v9 v11 v12 v29 v30 v31 v42 v43 v44:AV)(h:bA)(x:Esc)(K:KT):Prop:=
 pK (eA .add v44 (AI 1)) fun t1=>
 K .normal ⟨[(1,v1),(7,v7),(8,v8),(9,v9),(11,v11),(12,v12),(29,v29),(30,v30),(31,v31),(42,v42),(43,v43),(44,t1)],h,x⟩
theorem zhb {C gl e h x K}:NW C gl lX ⟨e,h,x⟩ K=z2D C gl (aA e 1) (aA e 7) (aA e 8) (aA e 9) (aA e 11) (aA e 12) (aA e 29) (aA e 30) (aA e 31) (aA e 42) (aA e 43) (aA e 44) h x K:=by kernel_rfl
def FZ (q1:ACode):ACode:=.pr [1,7,8,9,11,12,29,30,31,42,43,44] (.seq (rg [bN 45 .lss 44 43] [1,7,8,9,11,12,29,30,31,42,43,44,45])
(.seq (.cond 45 .skip
(.exit 2))
(.seq (.block 3 (.seq (rg [mV 46 44,
iA 47 (some 4) 42 44,
lD 48 (some 4) 47,
uO 14 (.alloc [.p (.int .i64 0),.p (.str []),.p (.int .i64 0),.p (.int .i64 0)]),
mV 13 46,
wO (.store (some 4) 14 48)] [1,7,8,9,11,12,13,14,29,30,31,42,43,44])
(.seq (.seq (rg [fA 49 0 none 14,
lD 50 none 49,
bN 51 .neq 50 (cI 1)] [1,7,8,9,11,12,13,14,29,30,31,42,43,44,51])
(.cond 51 (.exit 3)
.skip))
(.seq (rg [mV 52 12,
mV 53 13,
iA 54 none 52 53,
wO (.store none 54 (.c (.p (.int .u8 49))))] [1,7,8,9,11,12,13,14,29,30,31,42,43,44])
(.seq (rg [mV 56 8,
fA 57 0 none 11,
lD 58 none 57,
fA 59 1 none 14,
lD 60 none 59,
uO 61 (.build [.p (.str []),.p (.str [])] [(0,1,58),(1,1,60)]),
uO 62 (.look ((some 2),[2,2]) true (.p (.str [])) 56 61),
mV 55 62,
eX 63 55 0,
eX 64 55 1,
mV 15 63,
mV 16 64] [1,7,8,9,11,12,13,15,16,29,30,31,42,43,44])
(.seq (rg [mV 65 16,
mV 66 65,
gD 67 66 true (.mv 7),
gD 68 66 true (.mv 15),
gD 69 66 true (.look (none,[2]) false (AI 0) 67 68),
gD 70 66 true (.bin .neq 69 (cI 1)),
uO 71 (.pick 66 70 cF),
mV 72 71,
gD 73 72 true (.mv 7),
gD 74 72 true (.mv 15),
gD 75 72 true (.look (none,[2]) false (AI 0) 73 74),
gD 76 72 true (.bin .neq 75 (cI 2)),
uO 77 (.pick 72 76 cF)] [1,7,8,9,11,12,13,29,30,31,42,43,44,77])
(.cond 77 (rg [mV 78 12,
mV 79 13,
iA 80 none 78 79,
wO (.store none 80 (.c (.p (.int .u8 48))))] [1,7,8,9,11,12,29,30,31,42,43,44])
.skip)))))))
q1)))
def EK:ACode:=FZ lX
def PU (C:Hd)(gl:GL)(q1:ACode)(v1 v7 v8 v9 v11 v12 v29 v30 v31 v42 v43 v44:AV)(h:bA)(x:Esc)(K:KT):Prop:=
 pK (eA .lss v44 v43) fun t1=>
 nA t1 (pK (uA (some 4) v42 v44 h) fun t2=>
 pK (kA (some 4) t2 h) fun t3=>
 alK [.p (.int .i64 0),.p (.str []),.p (.int .i64 0),.p (.int .i64 0)] h fun t4 h5 y6=>
 wK (RA (some 4) t4 t3 h5) fun t7 h8 y9=>
 pK (oA 0 none t4) fun t10=>
 pK (kA none t10 h8) fun t11=>
 pK (eA .neq t11 (AI 1)) fun t12=>
 nA t12 (NW C gl q1 ⟨[(1,v1),(7,v7),(8,v8),(9,v9),(11,v11),(12,v12),(13,v44),(14,t4),(29,v29),(30,v30),(31,v31),(42,v42),(43,v43),(44,v44),(51,t12)],h8,(y9++(y6++x))⟩ K)
 (pK (uA none v12 v44 h8) fun t13=>
 wK (RA none t13 (.p (.int .u8 49)) h8) fun t14 h15 y16=>
 pK (oA 0 none v11) fun t17=>
 pK (kA none t17 h15) fun t18=>
 pK (oA 1 none t4) fun t19=>
 pK (kA none t19 h15) fun t20=>
 pK (DB [.p (.str []),.p (.str [])] [(0,1,t18),(1,1,t20)]) fun t21=>
 pK (YA ((some 2),[2,2]) true (.p (.str [])) v8 t21 h15) fun t22=>
 pK (MB t22 0) fun t23=>
 pK (MB t22 1) fun t24=>
 gM t24 true v7 h15 fun t25 h26 y27=>
 gM t24 true t23 h26 fun t28 h29 y30=>
 gP t24 true (YA (none,[2]) false (AI 0) t25 t28 h29) h29 fun t31 h32 y33=>
 gP t24 true (eA .neq t31 (AI 1)) h32 fun t34 h35 y36=>
 pK (LA t24 t34 (AB false)) fun t37=>
 gM t37 true v7 h35 fun t38 h39 y40=>
 gM t37 true t23 h39 fun t41 h42 y43=>
 gP t37 true (YA (none,[2]) false (AI 0) t38 t41 h42) h42 fun t44 h45 y46=>
 gP t37 true (eA .neq t44 (AI 2)) h45 fun t47 h48 y49=>
 pK (LA t37 t47 (AB false)) fun t50=>
 nA t50 (pK (uA none v12 v44 h48) fun t51=>
 wK (RA none t51 (.p (.int .u8 48)) h48) fun t52 h53 y54=>
 NW C gl q1 ⟨[(1,v1),(7,v7),(8,v8),(9,v9),(11,v11),(12,v12),(29,v29),(30,v30),(31,v31),(42,v42),(43,v43),(44,v44)],h53,(y54++(y49++(y46++(y43++(y40++(y36++(y33++(y30++(y27++(y16++(y9++(y6++x))))))))))))⟩ K)
 (NW C gl q1 ⟨[(1,v1),(7,v7),(8,v8),(9,v9),(11,v11),(12,v12),(13,v44),(29,v29),(30,v30),(31,v31),(42,v42),(43,v43),(44,v44),(77,t50)],h48,(y49++(y46++(y43++(y40++(y36++(y33++(y30++(y27++(y16++(y9++(y6++x)))))))))))⟩ K)))
 (K (.exit 2) ⟨[(1,v1),(7,v7),(8,v8),(9,v9),(11,v11),(12,v12),(29,v29),(30,v30),(31,v31),(42,v42),(43,v43),(44,v44),(45,t1)],h,x⟩)
theorem z9u {C gl q1 e h x K}:NW C gl (FZ q1) ⟨e,h,x⟩ K=PU C gl q1 (aA e 1) (aA e 7) (aA e 8) (aA e 9) (aA e 11) (aA e 12) (aA e 29) (aA e 30) (aA e 31) (aA e 42) (aA e 43) (aA e 44) h x K:=by kernel_rfl
theorem zhc {C gl e h x K}:NW C gl EK ⟨e,h,x⟩ K=PU C gl lX (aA e 1) (aA e 7) (aA e 8) (aA e 9) (aA e 11) (aA e 12) (aA e 29) (aA e 30) (aA e 31) (aA e 42) (aA e 43) (aA e 44) h x K:=z9u
theorem zmj {C gl e h x K}:NW C gl (.loop (.scope EK)) ⟨e,h,x⟩ K=FA C gl (.scope EK) K [(1,aA e 1),(7,aA e 7),(8,aA e 8),(9,aA e 9),(11,aA e 11),(12,aA e 12),(29,aA e 29),(30,aA e 30),(31,aA e 31),(42,aA e 42),(43,aA e 43),(44,aA e 44)] h x:=RB
def mX:ACode:=.pr [1,7,8,9,12,29,30,31] (rg [mV 82 9,
mV 83 12,
uO 84 (.conv .b2s 83),
uO 85 (.bsl false none 1 (.str []) [(0,84)]),
uO 86 (.app none 82 85),
mV 9 86] [1,7,8,9,29,30,31])
def z2E (C:Hd)(gl:GL)(v1 v7 v8 v9 v12 v29 v30 v31:AV)(h:bA)(x:Esc)(K:KT):Prop:=
 wK (uF .b2s v12 h) fun t1 h2 y3=>
 wK (aB false none 1 (.str []) [(0,t1)] h2) fun t4 h5 y6=>
 wK (WC none v9 t4 h5) fun t7 h8 y9=>
 K .normal ⟨[(1,v1),(7,v7),(8,v8),(9,t7),(29,v29),(30,v30),(31,v31)],h8,(y9++(y6++(y3++x)))⟩
theorem zhd {C gl e h x K}:NW C gl mX ⟨e,h,x⟩ K=z2E C gl (aA e 1) (aA e 7) (aA e 8) (aA e 9) (aA e 12) (aA e 29) (aA e 30) (aA e 31) h x K:=by kernel_rfl
def nX:ACode:=.pr [1,7,8,9,29,30,31] (rg [bN 87 .add 31 (cI 1),
mV 31 87] [1,7,8,9,29,30,31])
def z2F (C:Hd)(gl:GL)(v1 v7 v8 v9 v29 v30 v31:AV)(h:bA)(x:Esc)(K:KT):Prop:=
 pK (eA .add v31 (AI 1)) fun t1=>
 K .normal ⟨[(1,v1),(7,v7),(8,v8),(9,v9),(29,v29),(30,v30),(31,t1)],h,x⟩
theorem zhe {C gl e h x K}:NW C gl nX ⟨e,h,x⟩ K=z2F C gl (aA e 1) (aA e 7) (aA e 8) (aA e 9) (aA e 29) (aA e 30) (aA e 31) h x K:=by kernel_rfl
def GZ (q2 q3 q4:ACode):ACode:=.pr [1,7,8,9,29,30,31] (.seq (rg [bN 32 .lss 31 30] [1,7,8,9,29,30,31,32])
(.seq (.cond 32 .skip
(.exit 0))
(.seq (.block 1 (.seq (rg [mV 33 31,
iA 34 (some 2) 29 31,
lD 35 (some 2) 34,
uO 11 (.alloc [.p (.str []),.sl0 (some 4)]),
mV 10 33,
wO (.store (some 2) 11 35)] [1,7,8,9,10,11,29,30,31])
(.seq (rg [mV 36 1,
mV 37 10,
iA 38 none 36 37,
lD 39 none 38,
uO 40 (.conv .s2b 39),
mV 12 40] [1,7,8,9,11,12,29,30,31])
(.seq (.seq (rg [fA 41 1 none 11,
lD 42 none 41,
lN 43 42,
mV 44 (cI 0)] [1,7,8,9,11,12,29,30,31,42,43,44])
(.block 2 (.loop (.scope q2))))
q3))))
q4)))
def FK:ACode:=GZ EK mX nX
def xP (C:Hd)(gl:GL)(q2 q3 q4:ACode)(v1 v7 v8 v9 v29 v30 v31:AV)(h:bA)(x:Esc)(K:KT):Prop:=
 pK (eA .lss v31 v30) fun t1=>
 nA t1 (pK (uA (some 2) v29 v31 h) fun t2=>
 pK (kA (some 2) t2 h) fun t3=>
 alK [.p (.str []),.sl0 (some 4)] h fun t4 h5 y6=>
 wK (RA (some 2) t4 t3 h5) fun t7 h8 y9=>
 pK (uA none v1 v31 h8) fun t10=>
 pK (kA none t10 h8) fun t11=>
 wK (uF .s2b t11 h8) fun t12 h13 y14=>
 pK (oA 1 none t4) fun t15=>
 pK (kA none t15 h13) fun t16=>
 pK (yA t16) fun t17=>
 NW C gl (.loop (.scope q2)) ⟨[(1,v1),(7,v7),(8,v8),(9,v9),(11,t4),(12,t12),(29,v29),(30,v30),(31,v31),(42,t16),(43,t17),(44,(AI 0))],h13,(y14++(y9++(y6++x)))⟩ (wA 2 (OA C gl q3 (wA 1 (OA C gl q4 K)))))
 (K (.exit 0) ⟨[(1,v1),(7,v7),(8,v8),(9,v9),(29,v29),(30,v30),(31,v31),(32,t1)],h,x⟩)
theorem z9v {C gl q2 q3 q4 e h x K}:NW C gl (GZ q2 q3 q4) ⟨e,h,x⟩ K=xP C gl q2 q3 q4 (aA e 1) (aA e 7) (aA e 8) (aA e 9) (aA e 29) (aA e 30) (aA e 31) h x K:=by kernel_rfl
theorem z47 {C gl e h x K}:NW C gl FK ⟨e,h,x⟩ K=xP C gl EK mX nX (aA e 1) (aA e 7) (aA e 8) (aA e 9) (aA e 29) (aA e 30) (aA e 31) h x K:=z9v
theorem zmk {C gl e h x K}:NW C gl (.loop (.scope FK)) ⟨e,h,x⟩ K=FA C gl (.scope FK) K [(1,aA e 1),(7,aA e 7),(8,aA e 8),(9,aA e 9),(29,aA e 29),(30,aA e 30),(31,aA e 31)] h x:=RB
def oR:ACode:=.pr [9] (.seq (rg [mV 88 9,
mV 4 88,
mV 5 (cI 0)] [4,5])
.ret)
def z2G (C:Hd)(gl:GL)(v9:AV)(h:bA)(x:Esc)(K:KT):Prop:=
 K .ret ⟨[(4,v9),(5,(AI 0))],h,x⟩
theorem zhf {C gl e h x K}:NW C gl oR ⟨e,h,x⟩ K=z2G C gl (aA e 9) h x K:=by kernel_rfl
def EZ (q5 q6:ACode):ACode:=(.seq (rg [uO 2 (.box 0),
mV 4 (.c (.p (.sl none []))),
mV 5 (cI 0)] [1,2])
(.seq (.seq (rg [lD 17 (some 3) 2,
mV 18 1,
cL 19 AE [17,18],
mV 6 19] [1,2,6])
(.seq (rg [mV 20 6,
bN 21 .neq 20 (cI 0)] [1,2,6,21])
(.cond 21 (.seq (rg [mV 22 6,
mV 4 (.c (.p (.sl none []))),
mV 5 22] [4,5])
.ret)
.skip)))
(.seq (dr [dF (lD 23 (some 3) 2) [2],
dF (mV 24 1) [1],
dT (cL 25 OE [23,24]) [23,24],
dA (lD 26 (some 3) 2) [2] false [2] [],
dT (cL 27 DG [26]) [26],
dF (mV 7 25) [25],
dF (mV 8 27) [27]] [1,2,7,8])
(.seq (rg [uO 9 (.new0 none)] [1,2,7,8,9])
(.seq (.seq (rg [fA 28 0 none 2,
lD 29 none 28,
lN 30 29,
mV 31 (cI 0)] [1,7,8,9,29,30,31])
(.block 0 (.loop (.scope q5))))
q6)))))
def XS:AFun:=⟨2,[.t 4,.t 5],EZ FK oR,false,false⟩
def jM (C:Hd)(gl:GL)(q5 q6:ACode)(v0 v1:AV)(h:bA)(x:Esc)(K:KT):Prop:=
 wK (qB v0 h) fun t1 h2 y3=>
 pK (kA (some 3) t1 h2) fun t4=>
 C AE [t4,v1] h2 fun t5 h6 y7=>
 pK (eA .neq t5 (AI 0)) fun t8=>
 nA t8 (K .ret ⟨[(4,(.p (.sl none []))),(5,t5)],h6,(y7++(y3++x))⟩)
 (pK (kA (some 3) t1 h6) fun t9=>
 GB C OE [t9,v1] h6 fun t10 h11 y12=>
 pK (kA (some 3) t1 h11) fun t13=>
 (pK (kA (some 3) t1 h6) fun v=>(fun u (g1:bA) (y1:Esc)=>u=t13∧g1=h6∧y1=[]) v h6 [])∧(GB C DG [t13] h11 fun t14 h15 y16=>
 nwK none h15 fun t17 h18 y19=>
 pK (oA 0 none t1) fun t20=>
 pK (kA none t20 h18) fun t21=>
 pK (yA t21) fun t22=>
 NW C gl (.loop (.scope q5)) ⟨[(1,v1),(7,t10),(8,t14),(9,t17),(29,t21),(30,t22),(31,(AI 0))],h18,(y19++(y16++(y12++(y7++(y3++x)))))⟩ (wA 0 (OA C gl q6 K))))
theorem z9t {C gl q5 q6 v0 v1 h x K}:NW C gl (EZ q5 q6) ⟨enter [v0,v1],h,x⟩ K=jM C gl q5 q6 v0 v1 h x K:=by kernel_rfl
theorem zha {C gl v0 v1 h x K}:NW C gl XS.body ⟨enter [v0,v1],h,x⟩ K=jM C gl FK oR v0 v1 h x K:=z9t
def IK:ACode:=.pr [7,8,21,22,23] (.seq (rg [bN 24 .lss 23 22] [7,8,21,22,23,24])
(.seq (.cond 24 .skip
(.exit 0))
(.seq (.block 1 (.seq (rg [iA 25 none 21 23,
lD 26 none 25,
mV 10 26] [7,8,10,21,22,23])
(rg [mV 27 8,
mV 28 7,
mV 29 10,
uO 30 (.look (none,[2]) false (AI 0) 28 29),
uO 31 (.bsl false none 1 (.int .i64 0) [(0,30)]),
uO 32 (.app none 27 31),
mV 8 32] [7,8,21,22,23])))
(rg [bN 33 .add 23 (cI 1),
mV 23 33] [7,8,21,22,23]))))
def z2M (C:Hd)(gl:GL)(v7 v8 v21 v22 v23:AV)(h:bA)(x:Esc)(K:KT):Prop:=
 pK (eA .lss v23 v22) fun t1=>
 nA t1 (pK (uA none v21 v23 h) fun t2=>
 pK (kA none t2 h) fun t3=>
 pK (YA (none,[2]) false (AI 0) v7 t3 h) fun t4=>
 wK (aB false none 1 (.int .i64 0) [(0,t4)] h) fun t5 h6 y7=>
 wK (WC none v8 t5 h6) fun t8 h9 y10=>
 pK (eA .add v23 (AI 1)) fun t11=>
 K .normal ⟨[(7,v7),(8,t8),(21,v21),(22,v22),(23,t11)],h9,(y10++(y7++x))⟩)
 (K (.exit 0) ⟨[(7,v7),(8,v8),(21,v21),(22,v22),(23,v23),(24,t1)],h,x⟩)
theorem zhq {C gl e h x K}:NW C gl IK ⟨e,h,x⟩ K=z2M C gl (aA e 7) (aA e 8) (aA e 21) (aA e 22) (aA e 23) h x K:=by kernel_rfl
theorem zmo {C gl e h x K}:NW C gl (.loop (.scope IK)) ⟨e,h,x⟩ K=FA C gl (.scope IK) K [(7,aA e 7),(8,aA e 8),(21,aA e 21),(22,aA e 22),(23,aA e 23)] h x:=RB
def qR:ACode:=.pr [8] (.seq (rg [mV 34 8,
mV 4 34,
mV 5 (cI 0)] [4,5])
.ret)
def z2N (C:Hd)(gl:GL)(v8:AV)(h:bA)(x:Esc)(K:KT):Prop:=
 K .ret ⟨[(4,v8),(5,(AI 0))],h,x⟩
theorem zhr {C gl e h x K}:NW C gl qR ⟨e,h,x⟩ K=z2N C gl (aA e 8) h x K:=by kernel_rfl
def LZ (q1 q2:ACode):ACode:=(.seq (rg [uO 2 (.box 0),
mV 4 (.c (.p (.sl none []))),
mV 5 (cI 0)] [1,2])
(.seq (.seq (rg [lD 11 (some 3) 2,
mV 12 1,
cL 13 AE [11,12],
mV 6 13] [1,2,6])
(.seq (rg [mV 14 6,
bN 15 .neq 14 (cI 0)] [1,2,6,15])
(.cond 15 (.seq (rg [mV 16 6,
mV 4 (.c (.p (.sl none []))),
mV 5 16] [4,5])
.ret)
.skip)))
(.seq (rg [lD 17 (some 3) 2,
mV 18 1,
cL 19 OE [17,18],
mV 7 19] [2,7])
(.seq (rg [uO 8 (.new0 none)] [2,7,8])
(.seq (.seq (rg [lD 20 (some 3) 2,
cL 21 xD [20],
lN 22 21,
mV 23 (cI 0)] [7,8,21,22,23])
(.block 0 (.loop (.scope q1))))
q2)))))
def zO:AFun:=⟨2,[.t 4,.t 5],LZ IK qR,false,false⟩
def mM (C:Hd)(gl:GL)(q1 q2:ACode)(v0 v1:AV)(h:bA)(x:Esc)(K:KT):Prop:=
 wK (qB v0 h) fun t1 h2 y3=>
 pK (kA (some 3) t1 h2) fun t4=>
 C AE [t4,v1] h2 fun t5 h6 y7=>
 pK (eA .neq t5 (AI 0)) fun t8=>
 nA t8 (K .ret ⟨[(4,(.p (.sl none []))),(5,t5)],h6,(y7++(y3++x))⟩)
 (pK (kA (some 3) t1 h6) fun t9=>
 C OE [t9,v1] h6 fun t10 h11 y12=>
 nwK none h11 fun t13 h14 y15=>
 pK (kA (some 3) t1 h14) fun t16=>
 C xD [t16] h14 fun t17 h18 y19=>
 pK (yA t17) fun t20=>
 NW C gl (.loop (.scope q1)) ⟨[(7,t10),(8,t13),(21,t17),(22,t20),(23,(AI 0))],h18,(y19++(y15++(y12++(y7++(y3++x)))))⟩ (wA 0 (OA C gl q2 K)))
theorem z9z {C gl q1 q2 v0 v1 h x K}:NW C gl (LZ q1 q2) ⟨enter [v0,v1],h,x⟩ K=mM C gl q1 q2 v0 v1 h x K:=by kernel_rfl
theorem zhp {C gl v0 v1 h x K}:NW C gl zO.body ⟨enter [v0,v1],h,x⟩ K=mM C gl IK qR v0 v1 h x K:=z9z
def zbf:ACode:=(.seq (rg [uO 1 (.box 0),
mV 2 (.c (.p (.sl none []))),
mV 3 (cI 0)] [1])
(.seq (.seq (rg [lD 5 (some 3) 1,
cL 6 CG [5],
mV 4 6] [1,4])
(.seq (rg [mV 7 4,
bN 8 .neq 7 (cI 0)] [1,4,8])
(.cond 8 (.seq (rg [mV 9 4,
mV 2 (.c (.p (.sl none []))),
mV 3 9] [2,3])
.ret)
.skip)))
(.seq (rg [lD 10 (some 3) 1,
cL 11 xD [10],
mV 2 11,
mV 3 (cI 0)] [2,3])
.ret)))
def aT:AFun:=⟨1,[.t 2,.t 3],zbf,false,false⟩
def RU (C:Hd)(gl:GL)(v0:AV)(h:bA)(x:Esc)(K:KT):Prop:=
 wK (qB v0 h) fun t1 h2 y3=>
 pK (kA (some 3) t1 h2) fun t4=>
 C CG [t4] h2 fun t5 h6 y7=>
 pK (eA .neq t5 (AI 0)) fun t8=>
 nA t8 (K .ret ⟨[(2,(.p (.sl none []))),(3,t5)],h6,(y7++(y3++x))⟩)
 (pK (kA (some 3) t1 h6) fun t9=>
 C xD [t9] h6 fun t10 h11 y12=>
 K .ret ⟨[(2,t10),(3,(AI 0))],h11,(y12++(y7++(y3++x)))⟩)
theorem zhs {C gl v0 h x K}:NW C gl aT.body ⟨enter [v0],h,x⟩ K=RU C gl v0 h x K:=by kernel_rfl
def zbd:ACode:=(.seq (rg [uO 2 (.box 0),
mV 4 (.c (.p (.sl none []))),
mV 5 (cI 0)] [1,2])
(.seq (.seq (rg [lD 8 (some 3) 2,
mV 9 1,
cL 10 AE [8,9],
mV 6 10] [1,2,6])
(.seq (rg [mV 11 6,
bN 12 .neq 11 (cI 0)] [1,2,6,12])
(.cond 12 (.seq (rg [mV 13 6,
mV 4 (.c (.p (.sl none []))),
mV 5 13] [4,5])
.ret)
.skip)))
(.seq (rg [lD 14 (some 3) 2,
mV 15 1,
cL 16 OE [14,15],
uO 7 (.alloc [.nilm]),
wO (.store none 7 16)] [2,7])
(.seq (rg [lD 17 (some 3) 2,
cL 18 xD [17],
uO 19 (.mkfn KJ [7]),
cL 20 dK [18,19],
mV 4 20,
mV 5 (cI 0)] [4,5])
.ret))))
def YS:AFun:=⟨2,[.t 4,.t 5],zbd,false,false⟩
def yP (C:Hd)(gl:GL)(v0 v1:AV)(h:bA)(x:Esc)(K:KT):Prop:=
 wK (qB v0 h) fun t1 h2 y3=>
 pK (kA (some 3) t1 h2) fun t4=>
 C AE [t4,v1] h2 fun t5 h6 y7=>
 pK (eA .neq t5 (AI 0)) fun t8=>
 nA t8 (K .ret ⟨[(4,(.p (.sl none []))),(5,t5)],h6,(y7++(y3++x))⟩)
 (pK (kA (some 3) t1 h6) fun t9=>
 C OE [t9,v1] h6 fun t10 h11 y12=>
 alK [.nilm] h11 fun t13 h14 y15=>
 wK (RA none t13 t10 h14) fun t16 h17 y18=>
 pK (kA (some 3) t1 h17) fun t19=>
 C xD [t19] h17 fun t20 h21 y22=>
 C dK [t20,(.fn KJ [t13])] h21 fun t23 h24 y25=>
 K .ret ⟨[(4,t23),(5,(AI 0))],h24,(y25++(y22++(y18++(y15++(y12++(y7++(y3++x)))))))⟩)
theorem zhn {C gl v0 v1 h x K}:NW C gl YS.body ⟨enter [v0,v1],h,x⟩ K=yP C gl v0 v1 h x K:=by kernel_rfl
def WK:ACode:=.pr [5,6,7] (.seq (rg [bN 8 .lss 7 6] [5,6,7,8])
(.seq (.cond 8 .skip
(.exit 0))
(.seq (.block 1 (.seq (rg [iA 9 none 5 7,
lD 10 none 9,
mV 4 10] [4,5,6,7])
(.seq (rg [mV 11 4,
bN 12 .neq 11 (cI 0)] [4,5,6,7,12])
(.cond 12 (.seq (rg [mV 13 4,
mV 2 13] [2])
.ret)
.skip))))
(rg [bN 14 .add 7 (cI 1),
mV 7 14] [5,6,7]))))
def z3v (C:Hd)(gl:GL)(v5 v6 v7:AV)(h:bA)(x:Esc)(K:KT):Prop:=
 pK (eA .lss v7 v6) fun t1=>
 nA t1 (pK (uA none v5 v7 h) fun t2=>
 pK (kA none t2 h) fun t3=>
 pK (eA .neq t3 (AI 0)) fun t4=>
 nA t4 (K .ret ⟨[(2,t3)],h,x⟩)
 (pK (eA .add v7 (AI 1)) fun t5=>
 K .normal ⟨[(5,v5),(6,v6),(7,t5)],h,x⟩))
 (K (.exit 0) ⟨[(5,v5),(6,v6),(7,v7),(8,t1)],h,x⟩)
theorem zi3 {C gl e h x K}:NW C gl WK ⟨e,h,x⟩ K=z3v C gl (aA e 5) (aA e 6) (aA e 7) h x K:=by kernel_rfl
theorem zm9 {C gl e h x K}:NW C gl (.loop WK) ⟨e,h,x⟩ K=FA C gl WK K [(5,aA e 5),(6,aA e 6),(7,aA e 7)] h x:=NB
def CR:ACode:=.pr [] (.seq (rg [mV 2 (cI 0)] [2])
.ret)
def z3w (C:Hd)(gl:GL)(h:bA)(x:Esc)(K:KT):Prop:=
 K .ret ⟨[(2,(AI 0))],h,x⟩
theorem zi4 {C gl e h x K}:NW C gl CR ⟨e,h,x⟩ K=z3w C gl h x K:=by kernel_rfl
def z0n (q1 q2:ACode):ACode:=(.seq (rg [mV 2 (cI 0)] [0])
(.seq (.seq (rg [mV 5 0,
lN 6 5,
mV 7 (cI 0)] [5,6,7])
(.block 0 (.loop q1)))
q2))
def UO:AFun:=⟨1,[.t 2],z0n WK CR,false,false⟩
def TP (C:Hd)(gl:GL)(q1 q2:ACode)(v0:AV)(h:bA)(x:Esc)(K:KT):Prop:=
 pK (yA v0) fun t1=>
 NW C gl (.loop q1) ⟨[(5,v0),(6,t1),(7,(AI 0))],h,x⟩ (wA 0 (OA C gl q2 K))
theorem z9R {C gl q1 q2 v0 h x K}:NW C gl (z0n q1 q2) ⟨enter [v0],h,x⟩ K=TP C gl q1 q2 v0 h x K:=by kernel_rfl
theorem zi2 {C gl v0 h x K}:NW C gl UO.body ⟨enter [v0],h,x⟩ K=TP C gl WK CR v0 h x K:=z9R
def rL:ACode:=.pr [0,1,12,13] (.seq (rg [bN 14 .lss 13 12] [0,1,12,13,14])
(.seq (.cond 14 .skip
(.exit 0))
(.seq (.block 1 (.seq (rg [mV 15 13,
mV 5 15] [0,1,5,12,13])
(.seq (dr [dF (mV 16 0) [0],
dF (mV 17 5) [5],
dF (iA 18 none 16 17) [16,17],
dF (lD 19 none 18) [18],
dF (mV 20 1) [1],
dF (mV 21 5) [5],
dF (iA 22 none 20 21) [20,21],
dF (lD 23 none 22) [22],
dF (bN 24 .neq 19 23) [19,23]] [0,1,12,13,24])
(.cond 24 (.seq (rg [mV 4 cF] [4])
.ret)
.skip))))
(rg [bN 25 .add 13 (cI 1),
mV 13 25] [0,1,12,13]))))
def z4c (C:Hd)(gl:GL)(v0 v1 v12 v13:AV)(h:bA)(x:Esc)(K:KT):Prop:=
 pK (eA .lss v13 v12) fun t1=>
 nA t1 (pK (uA none v0 v13 h) fun t2=>
 pK (kA none t2 h) fun t3=>
 pK (uA none v1 v13 h) fun t4=>
 pK (kA none t4 h) fun t5=>
 pK (eA .neq t3 t5) fun t6=>
 nA t6 (K .ret ⟨[(4,(AB false))],h,x⟩)
 (pK (eA .add v13 (AI 1)) fun t7=>
 K .normal ⟨[(0,v0),(1,v1),(12,v12),(13,t7)],h,x⟩))
 (K (.exit 0) ⟨[(0,v0),(1,v1),(12,v12),(13,v13),(14,t1)],h,x⟩)
theorem zjX {C gl e h x K}:NW C gl rL ⟨e,h,x⟩ K=z4c C gl (aA e 0) (aA e 1) (aA e 12) (aA e 13) h x K:=by kernel_rfl
theorem zmZ {C gl e h x K}:NW C gl (.loop rL) ⟨e,h,x⟩ K=FA C gl rL K [(0,aA e 0),(1,aA e 1),(12,aA e 12),(13,aA e 13)] h x:=NB
def XR:ACode:=.pr [] (.seq (rg [mV 4 cT] [4])
.ret)
def z4d (C:Hd)(gl:GL)(h:bA)(x:Esc)(K:KT):Prop:=
 K .ret ⟨[(4,(AB true))],h,x⟩
theorem zjY {C gl e h x K}:NW C gl XR ⟨e,h,x⟩ K=z4d C gl h x K:=by kernel_rfl
def z0Q (q1 q2:ACode):ACode:=(.seq (rg [mV 4 cF] [0,1])
(.seq (.seq (rg [mV 6 0,
lN 7 6,
mV 8 1,
lN 9 8,
bN 10 .neq 7 9] [0,1,10])
(.cond 10 (.seq (rg [mV 4 cF] [4])
.ret)
.skip))
(.seq (.seq (rg [mV 11 0,
lN 12 11,
mV 13 (cI 0)] [0,1,12,13])
(.block 0 (.loop q1)))
q2)))
def bU:AFun:=⟨2,[.t 4],z0Q rL XR,false,false⟩
def oQ (C:Hd)(gl:GL)(q1 q2:ACode)(v0 v1:AV)(h:bA)(x:Esc)(K:KT):Prop:=
 pK (yA v0) fun t1=>
 pK (yA v1) fun t2=>
 pK (eA .neq t1 t2) fun t3=>
 nA t3 (K .ret ⟨[(4,(AB false))],h,x⟩)
 (pK (yA v0) fun t4=>
 NW C gl (.loop q1) ⟨[(0,v0),(1,v1),(12,t4),(13,(AI 0))],h,x⟩ (wA 0 (OA C gl q2 K)))
theorem za4 {C gl q1 q2 v0 v1 h x K}:NW C gl (z0Q q1 q2) ⟨enter [v0,v1],h,x⟩ K=oQ C gl q1 q2 v0 v1 h x K:=by kernel_rfl
theorem zjW {C gl v0 v1 h x K}:NW C gl bU.body ⟨enter [v0,v1],h,x⟩ K=oQ C gl rL XR v0 v1 h x K:=za4
def OI:ACode:=.pr [1,9,26,27,28] (.seq (rg [bN 29 .lss 28 27] [1,9,26,27,28,29])
(.seq (.cond 29 .skip
(.exit 0))
(.seq (.block 1 (.seq (rg [iA 30 (some 2) 26 28,
lD 31 (some 2) 30,
uO 11 (.alloc [.p (.int .i64 0),.p (.int .i64 0)]),
wO (.store (some 2) 11 31)] [1,9,11,26,27,28])
(dr [dF (mV 32 9) [9],
dF (mV 33 1) [1],
dF (fA 34 0 none 11) [11],
dF (lD 35 none 34) [34],
dF (iA 36 none 33 35) [33,35],
dF (lD 37 none 36) [36],
dF (fA 38 1 none 11) [11],
dF (lD 39 none 38) [38],
dF (uO 40 (.idxs 37 39)) [37,39],
dF (uO 41 (.bsl false none 1 (.int .u8 0) [(0,40)])) [40],
dT (uO 42 (.app none 32 41)) [32,41],
dF (mV 9 42) [42]] [1,9,26,27,28])))
(rg [bN 43 .add 28 (cI 1),
mV 28 43] [1,9,26,27,28]))))
def z2O (C:Hd)(gl:GL)(v1 v9 v26 v27 v28:AV)(h:bA)(x:Esc)(K:KT):Prop:=
 pK (eA .lss v28 v27) fun t1=>
 nA t1 (pK (uA (some 2) v26 v28 h) fun t2=>
 pK (kA (some 2) t2 h) fun t3=>
 alK [.p (.int .i64 0),.p (.int .i64 0)] h fun t4 h5 y6=>
 wK (RA (some 2) t4 t3 h5) fun t7 h8 y9=>
 pK (oA 0 none t4) fun t10=>
 pK (kA none t10 h8) fun t11=>
 pK (uA none v1 t11 h8) fun t12=>
 pK (kA none t12 h8) fun t13=>
 pK (oA 1 none t4) fun t14=>
 pK (kA none t14 h8) fun t15=>
 pK (BC t13 t15) fun t16=>
 wK (aB false none 1 (.int .u8 0) [(0,t16)] h8) fun t17 h18 y19=>
 (h18=h8∧y19=[])∧(wK (WC none v9 t17 h18) fun t20 h21 y22=>
 pK (eA .add v28 (AI 1)) fun t23=>
 K .normal ⟨[(1,v1),(9,t20),(26,v26),(27,v27),(28,t23)],h21,(y22++(y19++(y9++(y6++x))))⟩))
 (K (.exit 0) ⟨[(1,v1),(9,v9),(26,v26),(27,v27),(28,v28),(29,t1)],h,x⟩)
theorem zhu {C gl e h x K}:NW C gl OI ⟨e,h,x⟩ K=z2O C gl (aA e 1) (aA e 9) (aA e 26) (aA e 27) (aA e 28) h x K:=by kernel_rfl
theorem zmp {C gl e h x K}:NW C gl (.loop (.scope OI)) ⟨e,h,x⟩ K=FA C gl (.scope OI) K [(1,aA e 1),(9,aA e 9),(26,aA e 26),(27,aA e 27),(28,aA e 28)] h x:=RB
def pN:ACode:=.pr [9] (.seq (rg [mV 44 9,
uO 45 (.conv .b2s 44),
mV 6 45,
mV 7 (cI 0)] [6,7])
.ret)
def AP (C:Hd)(gl:GL)(v9:AV)(h:bA)(x:Esc)(K:KT):Prop:=
 wK (uF .b2s v9 h) fun t1 h2 y3=>
 K .ret ⟨[(6,t1),(7,(AI 0))],h2,(y3++x)⟩
theorem fW {C gl e h x K}:NW C gl pN ⟨e,h,x⟩ K=AP C gl (aA e 9) h x K:=by kernel_rfl
def MZ (q1 q2:ACode):ACode:=(.seq (rg [uO 3 (.box 0),
mV 6 (cS []),
mV 7 (cI 0)] [1,2,3])
(.seq (.seq (rg [lD 12 (some 3) 3,
mV 13 1,
cL 14 AE [12,13],
mV 8 14] [1,2,3,8])
(.seq (rg [mV 15 8,
bN 16 .neq 15 (cI 0)] [1,2,3,8,16])
(.cond 16 (.seq (rg [mV 17 8,
mV 6 (cS []),
mV 7 17] [6,7])
.ret)
.skip)))
(.seq (.seq (rg [lD 18 (some 3) 3,
cL 19 xD [18],
mV 20 2,
cL 21 nE [19,20],
uO 22 (.un .not 21)] [1,2,3,22])
(.cond 22 (.seq (rg [mV 6 (cS []),
mV 7 (cI 8)] [6,7])
.ret)
.skip))
(.seq (rg [uO 9 (.new0 none)] [1,2,3,9])
(.seq (.seq (rg [lD 23 (some 3) 3,
cL 24 UF [23,(cI 1)],
mV 25 2,
uO 26 (.look (none,[2]) false (.sl0 (some 2)) 24 25),
lN 27 26,
mV 28 (cI 0)] [1,9,26,27,28])
(.block 0 (.loop (.scope q1))))
q2)))))
def bT:AFun:=⟨3,[.t 6,.t 7],MZ OI pN,false,false⟩
def zP (C:Hd)(gl:GL)(q1 q2:ACode)(v0 v1 v2:AV)(h:bA)(x:Esc)(K:KT):Prop:=
 wK (qB v0 h) fun t1 h2 y3=>
 pK (kA (some 3) t1 h2) fun t4=>
 C AE [t4,v1] h2 fun t5 h6 y7=>
 pK (eA .neq t5 (AI 0)) fun t8=>
 nA t8 (K .ret ⟨[(6,(.p (.str []))),(7,t5)],h6,(y7++(y3++x))⟩)
 (pK (kA (some 3) t1 h6) fun t9=>
 C xD [t9] h6 fun t10 h11 y12=>
 C nE [t10,v2] h11 fun t13 h14 y15=>
 pK (oUn .not t13) fun t16=>
 nA t16 (K .ret ⟨[(6,(.p (.str []))),(7,(AI 8))],h14,(y15++(y12++(y7++(y3++x))))⟩)
 (nwK none h14 fun t17 h18 y19=>
 pK (kA (some 3) t1 h18) fun t20=>
 C UF [t20,(AI 1)] h18 fun t21 h22 y23=>
 pK (YA (none,[2]) false (.sl0 (some 2)) t21 v2 h22) fun t24=>
 pK (yA t24) fun t25=>
 NW C gl (.loop (.scope q1)) ⟨[(1,v1),(9,t17),(26,t24),(27,t25),(28,(AI 0))],h22,(y23++(y19++(y15++(y12++(y7++(y3++x))))))⟩ (wA 0 (OA C gl q2 K))))
theorem z90 {C gl q1 q2 v0 v1 v2 h x K}:NW C gl (MZ q1 q2) ⟨enter [v0,v1,v2],h,x⟩ K=zP C gl q1 q2 v0 v1 v2 h x K:=by kernel_rfl
theorem zht {C gl v0 v1 v2 h x K}:NW C gl bT.body ⟨enter [v0,v1,v2],h,x⟩ K=zP C gl OI pN v0 v1 v2 h x K:=z90
def zc9:ACode:=(.seq (rg [mV 4 cF] [0,1])
(.seq (rg [mV 5 0,
mV 6 1,
cL 7 nK [5,6],
bN 8 .geq 7 (cI 0),
mV 4 8] [4])
.ret))
def nU:AFun:=⟨2,[.t 4],zc9,false,false⟩
def YV (C:Hd)(gl:GL)(v0 v1:AV)(h:bA)(x:Esc)(K:KT):Prop:=
 C nK [v0,v1] h fun t1 h2 y3=>
 pK (eA .geq t1 (AI 0)) fun t4=>
 K .ret ⟨[(4,t4)],h2,(y3++x)⟩
theorem zkC {C gl v0 v1 h x K}:NW C gl nU.body ⟨enter [v0,v1],h,x⟩ K=YV C gl v0 v1 h x K:=by kernel_rfl
def zci:ACode:=(.seq (rg [mV 4 cF] [0,1])
(.seq (rg [mV 5 0,
mV 6 1,
cL 7 vH [5,6],
bN 8 .geq 7 (cI 0),
mV 4 8] [4])
.ret))
def ZO:AFun:=⟨2,[.t 4],zci,true,false⟩
def KV (C:Hd)(gl:GL)(v0 v1:AV)(h:bA)(x:Esc)(K:KT):Prop:=
 C vH [v0,v1] h fun t1 h2 y3=>
 pK (eA .geq t1 (AI 0)) fun t4=>
 K .ret ⟨[(4,t4)],h2,(y3++x)⟩
theorem zjR {C gl v0 v1 h x K}:NW C gl ZO.body ⟨enter [v0,v1],h,x⟩ K=KV C gl v0 v1 h x K:=by kernel_rfl
end Go.Am
end
section
/- The functions asv abstract code,and asv formulas over their values: printed by program out of the translation. -/
set_option linter.unusedVariables false
set_option maxRecDepth 100000
namespace Go.Am
def GX:ACode:=.pr [0,2,3,16,17,18] (rg [bN 34 .add 18 (cI 1),
mV 18 34] [0,2,3,16,17,18])
def z3y (C:Hd)(gl:GL)(v0 v2 v3 v16 v17 v18:AV)(h:bA)(x:Esc)(K:KT):Prop:=
 pK (eA .add v18 (AI 1)) fun t1=>
 K .normal ⟨[(0,v0),(2,v2),(3,v3),(16,v16),(17,v17),(18,t1)],h,x⟩
theorem zi8 {C gl e h x K}:NW C gl GX ⟨e,h,x⟩ K=z3y C gl (aA e 0) (aA e 2) (aA e 3) (aA e 16) (aA e 17) (aA e 18) h x K:=by kernel_rfl
def z0v (q1:ACode):ACode:=.pr [0,2,3,16,17,18] (.seq (rg [bN 19 .lss 18 17] [0,2,3,16,17,18,19])
(.seq (.cond 19 .skip
(.exit 0))
(.seq (.block 1 (.seq (rg [iA 20 none 16 18,
lD 21 none 20,
mV 5 21] [0,2,3,5,16,17,18])
(.seq (rg [mV 22 0,
cL 23 pC [22,(cI 6)],
uO 24 (.un .not 23)] [0,2,3,5,16,17,18,24])
(.cond 24 (dr [dF (fA 25 0 none 3) [3],
dF (lD 26 none 25) [25],
dF (mV 27 5) [5],
dF (mV 28 0) [0],
dA (cL 29 qI [28]) [28] true [] [1],
dF (uO 30 (.build [.p (.str []),.sl0 (some 4)] [(0,1,27),(1,1,29)])) [27,29],
dA (uO 31 (.uns 9 3 [30])) [30] true [] [1],
dT (uO 32 (.uns 11 3 [26,31])) [26,31],
dF (fA 33 0 none 3) [3],
dT (wO (.store none 33 32)) [33,32]] [0,2,3,16,17,18])
.skip))))
q1)))
def QI:ACode:=z0v GX
def oV (C:Hd)(gl:GL)(q1:ACode)(v0 v2 v3 v16 v17 v18:AV)(h:bA)(x:Esc)(K:KT):Prop:=
 pK (eA .lss v18 v17) fun t1=>
 nA t1 (pK (uA none v16 v18 h) fun t2=>
 pK (kA none t2 h) fun t3=>
 C pC [v0,(AI 6)] h fun t4 h5 y6=>
 pK (oUn .not t4) fun t7=>
 nA t7 (pK (oA 0 none v3) fun t8=>
 pK (kA none t8 h5) fun t9=>
 GB C qI [v0] h5 fun t10 h11 y12=>
 (pK (kA none t8 h11) fun v=>(fun u (g1:bA) (y1:Esc)=>u=t9∧g1=h11∧y1=[]) v h11 [])∧(pK (DB [.p (.str []),.sl0 (some 4)] [(0,1,t3),(1,1,t10)]) fun t13=>
 wK (sE 9 3 [t13] h11) fun t14 h15 y16=>
 (pK (kA none t8 h15) fun v=>(fun u (g1:bA) (y1:Esc)=>u=t9∧g1=h15∧y1=[]) v h15 [])∧(wK (sE 11 3 [t9,t14] h15) fun t17 h18 y19=>
 pK (oA 0 none v3) fun t20=>
 wK (RA none t20 t17 h18) fun t21 h22 y23=>
 NW C gl q1 ⟨[(0,v0),(2,v2),(3,v3),(16,v16),(17,v17),(18,v18)],h22,(y23++(y19++(y16++(y12++(y6++x)))))⟩ K)))
 (NW C gl q1 ⟨[(0,v0),(2,v2),(3,v3),(5,t3),(16,v16),(17,v17),(18,v18),(24,t7)],h5,(y6++x)⟩ K))
 (K (.exit 0) ⟨[(0,v0),(2,v2),(3,v3),(16,v16),(17,v17),(18,v18),(19,t1)],h,x⟩)
theorem z9Z {C gl q1 e h x K}:NW C gl (z0v q1) ⟨e,h,x⟩ K=oV C gl q1 (aA e 0) (aA e 2) (aA e 3) (aA e 16) (aA e 17) (aA e 18) h x K:=by kernel_rfl
theorem ziA {C gl e h x K}:NW C gl QI ⟨e,h,x⟩ K=oV C gl GX (aA e 0) (aA e 2) (aA e 3) (aA e 16) (aA e 17) (aA e 18) h x K:=z9Z
theorem zmB {C gl e h x K}:NW C gl (.loop (.scope QI)) ⟨e,h,x⟩ K=FA C gl (.scope QI) K [(0,aA e 0),(2,aA e 2),(3,aA e 3),(16,aA e 16),(17,aA e 17),(18,aA e 18)] h x:=RB
def JX:ACode:=.pr [0,2,3,6,8,36,37,38,43,44,45] (rg [bN 67 .add 45 (cI 1),
mV 45 67] [0,2,3,6,8,36,37,38,43,44,45])
def z3z (C:Hd)(gl:GL)(v0 v2 v3 v6 v8 v36 v37 v38 v43 v44 v45:AV)(h:bA)(x:Esc)(K:KT):Prop:=
 pK (eA .add v45 (AI 1)) fun t1=>
 K .normal ⟨[(0,v0),(2,v2),(3,v3),(6,v6),(8,v8),(36,v36),(37,v37),(38,v38),(43,v43),(44,v44),(45,t1)],h,x⟩
theorem ziB {C gl e h x K}:NW C gl JX ⟨e,h,x⟩ K=z3z C gl (aA e 0) (aA e 2) (aA e 3) (aA e 6) (aA e 8) (aA e 36) (aA e 37) (aA e 38) (aA e 43) (aA e 44) (aA e 45) h x K:=by kernel_rfl
def z0w (q3:ACode):ACode:=.pr [0,2,3,6,8,36,37,38,43,44,45] (.seq (rg [bN 46 .lss 45 44] [0,2,3,6,8,36,37,38,43,44,45,46])
(.seq (.cond 46 .skip
(.exit 4))
(.seq (.block 5 (.seq (rg [iA 47 (some 4) 43 45,
lD 48 (some 4) 47,
uO 10 (.alloc [.p (.int .i64 0),.p (.str []),.p (.int .i64 0),.p (.int .i64 0)]),
wO (.store (some 4) 10 48)] [0,2,3,6,8,10,36,37,38,43,44,45])
(.seq (rg [fA 49 0 none 8,
lD 50 none 49,
fA 51 1 none 10,
lD 52 none 51,
uO 53 (.build [.p (.str []),.p (.str [])] [(0,1,50),(1,1,52)]),
uO 11 (.alloc [.p (.str []),.p (.str [])]),
wO (.store (some 2) 11 53)] [0,2,3,6,8,10,11,36,37,38,43,44,45])
(.seq (rg [fA 54 1 none 10,
lD 55 none 54,
bN 56 .neq 55 (cS []),
mV 57 56,
gD 58 57 true (.mv 6),
gD 59 57 true (.load (some 2) 11),
gD 60 57 true (.call cK [58,59]),
gD 61 57 true (.un .not 60),
uO 62 (.pick 57 61 cF)] [0,2,3,6,8,11,36,37,38,43,44,45,62])
(.cond 62 (rg [mV 63 6,
lD 64 (some 2) 11,
uO 65 (.bsl false (some 2) 1 (.agg [.str [],.str []]) [(0,64)]),
uO 66 (.app (some 2) 63 65),
mV 6 66] [0,2,3,6,8,36,37,38,43,44,45])
.skip)))))
q3)))
def YK:ACode:=z0w JX
def WP (C:Hd)(gl:GL)(q3:ACode)(v0 v2 v3 v6 v8 v36 v37 v38 v43 v44 v45:AV)(h:bA)(x:Esc)(K:KT):Prop:=
 pK (eA .lss v45 v44) fun t1=>
 nA t1 (pK (uA (some 4) v43 v45 h) fun t2=>
 pK (kA (some 4) t2 h) fun t3=>
 alK [.p (.int .i64 0),.p (.str []),.p (.int .i64 0),.p (.int .i64 0)] h fun t4 h5 y6=>
 wK (RA (some 4) t4 t3 h5) fun t7 h8 y9=>
 pK (oA 0 none v8) fun t10=>
 pK (kA none t10 h8) fun t11=>
 pK (oA 1 none t4) fun t12=>
 pK (kA none t12 h8) fun t13=>
 pK (DB [.p (.str []),.p (.str [])] [(0,1,t11),(1,1,t13)]) fun t14=>
 alK [.p (.str []),.p (.str [])] h8 fun t15 h16 y17=>
 wK (RA (some 2) t15 t14 h16) fun t18 h19 y20=>
 pK (oA 1 none t4) fun t21=>
 pK (kA none t21 h19) fun t22=>
 pK (eA .neq t22 (.p (.str []))) fun t23=>
 gM t23 true v6 h19 fun t24 h25 y26=>
 gP t23 true (kA (some 2) t15 h25) h25 fun t27 h28 y29=>
 gV t23 true h28 (C cK [t24,t27] h28) fun t30 h31 y32=>
 gP t23 true (oUn .not t30) h31 fun t33 h34 y35=>
 pK (LA t23 t33 (AB false)) fun t36=>
 nA t36 (pK (kA (some 2) t15 h34) fun t37=>
 wK (aB false (some 2) 1 (.agg [.str [],.str []]) [(0,t37)] h34) fun t38 h39 y40=>
 wK (WC (some 2) v6 t38 h39) fun t41 h42 y43=>
 NW C gl q3 ⟨[(0,v0),(2,v2),(3,v3),(6,t41),(8,v8),(36,v36),(37,v37),(38,v38),(43,v43),(44,v44),(45,v45)],h42,(y43++(y40++(y35++(y32++(y29++(y26++(y20++(y17++(y9++(y6++x))))))))))⟩ K)
 (NW C gl q3 ⟨[(0,v0),(2,v2),(3,v3),(6,v6),(8,v8),(11,t15),(36,v36),(37,v37),(38,v38),(43,v43),(44,v44),(45,v45),(62,t36)],h34,(y35++(y32++(y29++(y26++(y20++(y17++(y9++(y6++x))))))))⟩ K))
 (K (.exit 4) ⟨[(0,v0),(2,v2),(3,v3),(6,v6),(8,v8),(36,v36),(37,v37),(38,v38),(43,v43),(44,v44),(45,v45),(46,t1)],h,x⟩)
theorem zaa {C gl q3 e h x K}:NW C gl (z0w q3) ⟨e,h,x⟩ K=WP C gl q3 (aA e 0) (aA e 2) (aA e 3) (aA e 6) (aA e 8) (aA e 36) (aA e 37) (aA e 38) (aA e 43) (aA e 44) (aA e 45) h x K:=by kernel_rfl
theorem z49 {C gl e h x K}:NW C gl YK ⟨e,h,x⟩ K=WP C gl JX (aA e 0) (aA e 2) (aA e 3) (aA e 6) (aA e 8) (aA e 36) (aA e 37) (aA e 38) (aA e 43) (aA e 44) (aA e 45) h x K:=zaa
theorem zmC {C gl e h x K}:NW C gl (.loop (.scope YK)) ⟨e,h,x⟩ K=FA C gl (.scope YK) K [(0,aA e 0),(2,aA e 2),(3,aA e 3),(6,aA e 6),(8,aA e 8),(36,aA e 36),(37,aA e 37),(38,aA e 38),(43,aA e 43),(44,aA e 44),(45,aA e 45)] h x:=RB
def KX:ACode:=.pr [0,2,3,6,36,37,38] (rg [bN 68 .add 38 (cI 1),
mV 38 68] [0,2,3,6,36,37,38])
def z30 (C:Hd)(gl:GL)(v0 v2 v3 v6 v36 v37 v38:AV)(h:bA)(x:Esc)(K:KT):Prop:=
 pK (eA .add v38 (AI 1)) fun t1=>
 K .normal ⟨[(0,v0),(2,v2),(3,v3),(6,v6),(36,v36),(37,v37),(38,t1)],h,x⟩
theorem ziC {C gl e h x K}:NW C gl KX ⟨e,h,x⟩ K=z30 C gl (aA e 0) (aA e 2) (aA e 3) (aA e 6) (aA e 36) (aA e 37) (aA e 38) h x K:=by kernel_rfl
def z0x (q4 q5:ACode):ACode:=.pr [0,2,3,6,36,37,38] (.seq (rg [bN 39 .lss 38 37] [0,2,3,6,36,37,38,39])
(.seq (.cond 39 .skip
(.exit 2))
(.seq (.block 3 (.seq (rg [iA 40 (some 2) 36 38,
lD 41 (some 2) 40,
uO 8 (.alloc [.p (.str []),.sl0 (some 4)]),
wO (.store (some 2) 8 41)] [0,2,3,6,8,36,37,38])
(.seq (rg [fA 42 1 none 8,
lD 43 none 42,
lN 44 43,
mV 45 (cI 0)] [0,2,3,6,8,36,37,38,43,44,45])
(.block 4 (.loop (.scope q4))))))
q5)))
def ZK:ACode:=z0x YK KX
def pV (C:Hd)(gl:GL)(q4 q5:ACode)(v0 v2 v3 v6 v36 v37 v38:AV)(h:bA)(x:Esc)(K:KT):Prop:=
 pK (eA .lss v38 v37) fun t1=>
 nA t1 (pK (uA (some 2) v36 v38 h) fun t2=>
 pK (kA (some 2) t2 h) fun t3=>
 alK [.p (.str []),.sl0 (some 4)] h fun t4 h5 y6=>
 wK (RA (some 2) t4 t3 h5) fun t7 h8 y9=>
 pK (oA 1 none t4) fun t10=>
 pK (kA none t10 h8) fun t11=>
 pK (yA t11) fun t12=>
 NW C gl (.loop (.scope q4)) ⟨[(0,v0),(2,v2),(3,v3),(6,v6),(8,t4),(36,v36),(37,v37),(38,v38),(43,t11),(44,t12),(45,(AI 0))],h8,(y9++(y6++x))⟩ (wA 4 (wA 3 (OA C gl q5 K))))
 (K (.exit 2) ⟨[(0,v0),(2,v2),(3,v3),(6,v6),(36,v36),(37,v37),(38,v38),(39,t1)],h,x⟩)
theorem zab {C gl q4 q5 e h x K}:NW C gl (z0x q4 q5) ⟨e,h,x⟩ K=pV C gl q4 q5 (aA e 0) (aA e 2) (aA e 3) (aA e 6) (aA e 36) (aA e 37) (aA e 38) h x K:=by kernel_rfl
theorem ziD {C gl e h x K}:NW C gl ZK ⟨e,h,x⟩ K=pV C gl YK KX (aA e 0) (aA e 2) (aA e 3) (aA e 6) (aA e 36) (aA e 37) (aA e 38) h x K:=zab
theorem zmD {C gl e h x K}:NW C gl (.loop (.scope ZK)) ⟨e,h,x⟩ K=FA C gl (.scope ZK) K [(0,aA e 0),(2,aA e 2),(3,aA e 3),(6,aA e 6),(36,aA e 36),(37,aA e 37),(38,aA e 38)] h x:=RB
def LX:ACode:=.pr [0,2,3,69,70,71] (rg [bN 91 .add 71 (cI 1),
mV 71 91] [0,2,3,69,70,71])
def z31 (C:Hd)(gl:GL)(v0 v2 v3 v69 v70 v71:AV)(h:bA)(x:Esc)(K:KT):Prop:=
 pK (eA .add v71 (AI 1)) fun t1=>
 K .normal ⟨[(0,v0),(2,v2),(3,v3),(69,v69),(70,v70),(71,t1)],h,x⟩
theorem ziE {C gl e h x K}:NW C gl LX ⟨e,h,x⟩ K=z31 C gl (aA e 0) (aA e 2) (aA e 3) (aA e 69) (aA e 70) (aA e 71) h x K:=by kernel_rfl
def z0y (q7:ACode):ACode:=.pr [0,2,3,69,70,71] (.seq (rg [bN 72 .lss 71 70] [0,2,3,69,70,71,72])
(.seq (.cond 72 .skip
(.exit 6))
(.seq (.block 7 (.seq (rg [iA 73 (some 2) 69 71,
lD 74 (some 2) 73,
uO 13 (.alloc [.p (.str []),.p (.str [])]),
wO (.store (some 2) 13 74)] [0,2,3,13,69,70,71])
(.seq (rg [mV 75 0,
cL 76 pC [75,(cI 5)],
uO 77 (.un .not 76)] [0,2,3,13,69,70,71,77])
(.cond 77 (dr [dF (fA 78 1 none 3) [3],
dF (lD 79 none 78) [78],
dF (mV 80 0) [0],
dF (uO 81 (.bsl false none 4 (.str []) [(0,(cS [110,49])),(1,(cS [110,49])),(2,(cS [110,50])),(3,(cS [110,51]))])) [],
dA (cL 82 wC [80,81]) [80,81] true [] [1],
dF (uO 83 (.iaddra 2 none 13 (cI 0))) [13],
dA (lD 84 none 83) [83] false [4] [],
dF (uO 85 (.iaddra 2 none 13 (cI 1))) [13],
dA (lD 86 none 85) [85] false [4] [],
dF (uO 87 (.build [.p (.str []),.p (.str []),.p (.str [])] [(0,1,82),(1,1,84),(2,1,86)])) [82,84,86],
dF (uO 88 (.bsl false (some 3) 1 (.agg [.str [],.str [],.str []]) [(0,87)])) [87],
dT (uO 89 (.app (some 3) 79 88)) [79,88],
dF (fA 90 1 none 3) [3],
dT (wO (.store none 90 89)) [90,89]] [0,2,3,69,70,71])
.skip))))
q7)))
def aL:ACode:=z0y LX
def qV (C:Hd)(gl:GL)(q7:ACode)(v0 v2 v3 v69 v70 v71:AV)(h:bA)(x:Esc)(K:KT):Prop:=
 pK (eA .lss v71 v70) fun t1=>
 nA t1 (pK (uA (some 2) v69 v71 h) fun t2=>
 pK (kA (some 2) t2 h) fun t3=>
 alK [.p (.str []),.p (.str [])] h fun t4 h5 y6=>
 wK (RA (some 2) t4 t3 h5) fun t7 h8 y9=>
 C pC [v0,(AI 5)] h8 fun t10 h11 y12=>
 pK (oUn .not t10) fun t13=>
 nA t13 (pK (oA 1 none v3) fun t14=>
 pK (kA none t14 h11) fun t15=>
 wK (aB false none 4 (.str []) [(0,(.p (.str [110,49]))),(1,(.p (.str [110,49]))),(2,(.p (.str [110,50]))),(3,(.p (.str [110,51])))] h11) fun t16 h17 y18=>
 (h17=h11∧y18=[])∧(GB C wC [v0,t16] h17 fun t19 h20 y21=>
 (pK (kA none t14 h20) fun v=>(fun u (g1:bA) (y1:Esc)=>u=t15∧g1=h20∧y1=[]) v h20 [])∧(pK (LI 2 none t4 (AI 0)) fun t22=>
 pK (kA none t22 h20) fun t23=>
 (pK (kA none t22 h17) fun v=>(fun u (g1:bA) (y1:Esc)=>u=t23∧g1=h17∧y1=[]) v h17 [])∧(pK (LI 2 none t4 (AI 1)) fun t24=>
 pK (kA none t24 h20) fun t25=>
 (pK (kA none t24 h17) fun v=>(fun u (g1:bA) (y1:Esc)=>u=t25∧g1=h17∧y1=[]) v h17 [])∧(pK (DB [.p (.str []),.p (.str []),.p (.str [])] [(0,1,t19),(1,1,t23),(2,1,t25)]) fun t26=>
 wK (aB false (some 3) 1 (.agg [.str [],.str [],.str []]) [(0,t26)] h20) fun t27 h28 y29=>
 (h28=h20∧y29=[])∧(wK (WC (some 3) t15 t27 h28) fun t30 h31 y32=>
 pK (oA 1 none v3) fun t33=>
 wK (RA none t33 t30 h31) fun t34 h35 y36=>
 NW C gl q7 ⟨[(0,v0),(2,v2),(3,v3),(69,v69),(70,v70),(71,v71)],h35,(y36++(y32++(y29++(y21++(y18++(y12++(y9++(y6++x))))))))⟩ K))))))
 (NW C gl q7 ⟨[(0,v0),(2,v2),(3,v3),(13,t4),(69,v69),(70,v70),(71,v71),(77,t13)],h11,(y12++(y9++(y6++x)))⟩ K))
 (K (.exit 6) ⟨[(0,v0),(2,v2),(3,v3),(69,v69),(70,v70),(71,v71),(72,t1)],h,x⟩)
theorem zac {C gl q7 e h x K}:NW C gl (z0y q7) ⟨e,h,x⟩ K=qV C gl q7 (aA e 0) (aA e 2) (aA e 3) (aA e 69) (aA e 70) (aA e 71) h x K:=by kernel_rfl
theorem ziF {C gl e h x K}:NW C gl aL ⟨e,h,x⟩ K=qV C gl LX (aA e 0) (aA e 2) (aA e 3) (aA e 69) (aA e 70) (aA e 71) h x K:=zac
theorem zmE {C gl e h x K}:NW C gl (.loop (.scope aL)) ⟨e,h,x⟩ K=FA C gl (.scope aL) K [(0,aA e 0),(2,aA e 2),(3,aA e 3),(69,aA e 69),(70,aA e 70),(71,aA e 71)] h x:=RB
def MX:ACode:=.pr [0,2,3,96,97,98] (rg [bN 113 .add 98 (cI 1),
mV 98 113] [0,2,3,96,97,98])
def z32 (C:Hd)(gl:GL)(v0 v2 v3 v96 v97 v98:AV)(h:bA)(x:Esc)(K:KT):Prop:=
 pK (eA .add v98 (AI 1)) fun t1=>
 K .normal ⟨[(0,v0),(2,v2),(3,v3),(96,v96),(97,v97),(98,t1)],h,x⟩
theorem ziG {C gl e h x K}:NW C gl MX ⟨e,h,x⟩ K=z32 C gl (aA e 0) (aA e 2) (aA e 3) (aA e 96) (aA e 97) (aA e 98) h x K:=by kernel_rfl
def z0q (q9:ACode):ACode:=.pr [0,2,3,96,97,98] (.seq (rg [bN 99 .lss 98 97] [0,2,3,96,97,98,99])
(.seq (.cond 99 .skip
(.exit 8))
(.seq (.block 9 (.seq (rg [iA 100 none 96 98,
lD 101 none 100,
mV 15 101] [0,2,3,15,96,97,98])
(.seq (rg [mV 102 0,
cL 103 pC [102,(cI 4)]] [0,2,3,15,96,97,98,103])
(.cond 103 (dr [dF (fA 104 2 none 3) [3],
dF (lD 105 none 104) [104],
dF (mV 106 15) [15],
dF (mV 107 0) [0],
dA (cL 108 LB [107,(cI 2)]) [107] true [] [1],
dF (uO 109 (.build [.p (.str []),.p (.int .i64 0)] [(0,1,106),(1,1,108)])) [106,108],
dF (uO 110 (.bsl false (some 2) 1 (.agg [.str [],.int .i64 0]) [(0,109)])) [109],
dT (uO 111 (.app (some 2) 105 110)) [105,110],
dF (fA 112 2 none 3) [3],
dT (wO (.store none 112 111)) [112,111]] [0,2,3,96,97,98])
.skip))))
q9)))
def XK:ACode:=z0q MX
def nV (C:Hd)(gl:GL)(q9:ACode)(v0 v2 v3 v96 v97 v98:AV)(h:bA)(x:Esc)(K:KT):Prop:=
 pK (eA .lss v98 v97) fun t1=>
 nA t1 (pK (uA none v96 v98 h) fun t2=>
 pK (kA none t2 h) fun t3=>
 C pC [v0,(AI 4)] h fun t4 h5 y6=>
 nA t4 (pK (oA 2 none v3) fun t7=>
 pK (kA none t7 h5) fun t8=>
 GB C LB [v0,(AI 2)] h5 fun t9 h10 y11=>
 (pK (kA none t7 h10) fun v=>(fun u (g1:bA) (y1:Esc)=>u=t8∧g1=h10∧y1=[]) v h10 [])∧(pK (DB [.p (.str []),.p (.int .i64 0)] [(0,1,t3),(1,1,t9)]) fun t12=>
 wK (aB false (some 2) 1 (.agg [.str [],.int .i64 0]) [(0,t12)] h10) fun t13 h14 y15=>
 (h14=h10∧y15=[])∧(wK (WC (some 2) t8 t13 h14) fun t16 h17 y18=>
 pK (oA 2 none v3) fun t19=>
 wK (RA none t19 t16 h17) fun t20 h21 y22=>
 NW C gl q9 ⟨[(0,v0),(2,v2),(3,v3),(96,v96),(97,v97),(98,v98)],h21,(y22++(y18++(y15++(y11++(y6++x)))))⟩ K)))
 (NW C gl q9 ⟨[(0,v0),(2,v2),(3,v3),(15,t3),(96,v96),(97,v97),(98,v98),(103,t4)],h5,(y6++x)⟩ K))
 (K (.exit 8) ⟨[(0,v0),(2,v2),(3,v3),(96,v96),(97,v97),(98,v98),(99,t1)],h,x⟩)
theorem z9U {C gl q9 e h x K}:NW C gl (z0q q9) ⟨e,h,x⟩ K=nV C gl q9 (aA e 0) (aA e 2) (aA e 3) (aA e 96) (aA e 97) (aA e 98) h x K:=by kernel_rfl
theorem zi9 {C gl e h x K}:NW C gl XK ⟨e,h,x⟩ K=nV C gl MX (aA e 0) (aA e 2) (aA e 3) (aA e 96) (aA e 97) (aA e 98) h x K:=z9U
theorem zmA {C gl e h x K}:NW C gl (.loop (.scope XK)) ⟨e,h,x⟩ K=FA C gl (.scope XK) K [(0,aA e 0),(2,aA e 2),(3,aA e 3),(96,aA e 96),(97,aA e 97),(98,aA e 98)] h x:=RB
def FR:ACode:=.pr [2,3] (.seq (rg [lD 118 (some 3) 3,
wO (.store (some 3) 2 118)] [2])
.ret)
def sM (C:Hd)(gl:GL)(v2 v3:AV)(h:bA)(x:Esc)(K:KT):Prop:=
 pK (kA (some 3) v3 h) fun t1=>
 wK (RA (some 3) v2 t1 h) fun t2 h3 y4=>
 K .ret ⟨[(2,v2)],h3,(y4++x)⟩
theorem DQ {C gl e h x K}:NW C gl FR ⟨e,h,x⟩ K=sM C gl (aA e 2) (aA e 3) h x K:=by kernel_rfl
def z0r (q11:ACode):ACode:=.pr [0,2,3] (.seq (.seq (rg [mV 114 0,
cL 115 pC [114,(cI 8)]] [0,2,3,115])
(.cond 115 (rg [mV 116 0,
cL 117 mF [116,3]] [2,3])
.skip))
q11)
def GR:ACode:=z0r FR
def fI (C:Hd)(gl:GL)(q11:ACode)(v0 v2 v3:AV)(h:bA)(x:Esc)(K:KT):Prop:=
 C pC [v0,(AI 8)] h fun t1 h2 y3=>
 nA t1 (C mF [v0,v3] h2 fun t4 h5 y6=>
 NW C gl q11 ⟨[(2,v2),(3,v3)],h5,(y6++(y3++x))⟩ K)
 (NW C gl q11 ⟨[(0,v0),(2,v2),(3,v3),(115,t1)],h2,(y3++x)⟩ K)
theorem z9V {C gl q11 e h x K}:NW C gl (z0r q11) ⟨e,h,x⟩ K=fI C gl q11 (aA e 0) (aA e 2) (aA e 3) h x K:=by kernel_rfl
theorem FQ {C gl e h x K}:NW C gl GR ⟨e,h,x⟩ K=fI C gl FR (aA e 0) (aA e 2) (aA e 3) h x K:=z9V
def z0s (q10 q12:ACode):ACode:=.pr [0,2,3] (.seq (rg [fA 92 1 none 3,
lD 93 none 92,
cL 94 xI [93,(.f rH)]] [0,2,3])
(.seq (.seq (rg [lD 95 (some 3) 3,
cL 96 GG [95],
lN 97 96,
mV 98 (cI 0)] [0,2,3,96,97,98])
(.block 8 (.loop (.scope q10))))
q12))
def HR:ACode:=z0s XK GR
def yJ (C:Hd)(gl:GL)(q10 q12:ACode)(v0 v2 v3:AV)(h:bA)(x:Esc)(K:KT):Prop:=
 pK (oA 1 none v3) fun t1=>
 pK (kA none t1 h) fun t2=>
 C xI [t2,(.fn rH [])] h fun t3 h4 y5=>
 pK (kA (some 3) v3 h4) fun t6=>
 C GG [t6] h4 fun t7 h8 y9=>
 pK (yA t7) fun t10=>
 NW C gl (.loop (.scope q10)) ⟨[(0,v0),(2,v2),(3,v3),(96,t7),(97,t10),(98,(AI 0))],h8,(y9++(y5++x))⟩ (wA 8 (OA C gl q12 K))
theorem z9W {C gl q10 q12 e h x K}:NW C gl (z0s q10 q12) ⟨e,h,x⟩ K=yJ C gl q10 q12 (aA e 0) (aA e 2) (aA e 3) h x K:=by kernel_rfl
theorem GQ {C gl e h x K}:NW C gl HR ⟨e,h,x⟩ K=yJ C gl XK GR (aA e 0) (aA e 2) (aA e 3) h x K:=z9W
def z0t (q8 q13:ACode):ACode:=.pr [0,2,3,6] (.seq (.seq (rg [mV 69 6,
lN 70 69,
mV 71 (cI 0)] [0,2,3,69,70,71])
(.block 6 (.loop (.scope q8))))
q13)
def IR:ACode:=z0t aL HR
def zJ (C:Hd)(gl:GL)(q8 q13:ACode)(v0 v2 v3 v6:AV)(h:bA)(x:Esc)(K:KT):Prop:=
 pK (yA v6) fun t1=>
 NW C gl (.loop (.scope q8)) ⟨[(0,v0),(2,v2),(3,v3),(69,v6),(70,t1),(71,(AI 0))],h,x⟩ (wA 6 (OA C gl q13 K))
theorem z9X {C gl q8 q13 e h x K}:NW C gl (z0t q8 q13) ⟨e,h,x⟩ K=zJ C gl q8 q13 (aA e 0) (aA e 2) (aA e 3) (aA e 6) h x K:=by kernel_rfl
theorem HQ {C gl e h x K}:NW C gl IR ⟨e,h,x⟩ K=zJ C gl aL HR (aA e 0) (aA e 2) (aA e 3) (aA e 6) h x K:=z9X
def z0u (q6 q14:ACode):ACode:=.pr [0,2,3] (.seq (rg [uO 6 (.new0 (some 2))] [0,2,3,6])
(.seq (.seq (rg [fA 35 0 none 3,
lD 36 none 35,
lN 37 36,
mV 38 (cI 0)] [0,2,3,6,36,37,38])
(.block 2 (.loop (.scope q6))))
q14))
def yN:ACode:=z0u ZK IR
def AJ (C:Hd)(gl:GL)(q6 q14:ACode)(v0 v2 v3:AV)(h:bA)(x:Esc)(K:KT):Prop:=
 nwK (some 2) h fun t1 h2 y3=>
 pK (oA 0 none v3) fun t4=>
 pK (kA none t4 h2) fun t5=>
 pK (yA t5) fun t6=>
 NW C gl (.loop (.scope q6)) ⟨[(0,v0),(2,v2),(3,v3),(6,t1),(36,t5),(37,t6),(38,(AI 0))],h2,(y3++x)⟩ (wA 2 (OA C gl q14 K))
theorem z9Y {C gl q6 q14 e h x K}:NW C gl (z0u q6 q14) ⟨e,h,x⟩ K=AJ C gl q6 q14 (aA e 0) (aA e 2) (aA e 3) h x K:=by kernel_rfl
theorem IQ {C gl e h x K}:NW C gl yN ⟨e,h,x⟩ K=AJ C gl ZK IR (aA e 0) (aA e 2) (aA e 3) h x K:=z9Y
def z0p (q2 q15:ACode):ACode:=(.seq (rg [uO 2 (.uns 8 0 [(.c (.bt 3 3 0 0)),(.c (.sl0 (some 3))),(.c (.sl0 (some 2)))])] [0,2])
(.seq (rg [uO 3 (.uns 8 0 [(.c (.bt 3 3 0 0)),(.c (.sl0 (some 3))),(.c (.sl0 (some 2)))])] [0,2,3])
(.seq (.seq (rg [uO 16 (.bsl false none 3 (.str []) [(0,(cS [117])),(1,(cS [118])),(2,(cS [119]))]),
lN 17 16,
mV 18 (cI 0)] [0,2,3,16,17,18])
(.block 0 (.loop (.scope q2))))
q15)))
def sT:AFun:=⟨1,[.cell 2 (some 3)],z0p QI yN,false,false⟩
def VP (C:Hd)(gl:GL)(q2 q15:ACode)(v0:AV)(h:bA)(x:Esc)(K:KT):Prop:=
 wK (sE 8 0 [.bt 3 3 0 0,.sl0 (some 3),.sl0 (some 2)] h) fun t1 h2 y3=>
 wK (sE 8 0 [.bt 3 3 0 0,.sl0 (some 3),.sl0 (some 2)] h2) fun t4 h5 y6=>
 wK (aB false none 3 (.str []) [(0,(.p (.str [117]))),(1,(.p (.str [118]))),(2,(.p (.str [119])))] h5) fun t7 h8 y9=>
 pK (yA t7) fun t10=>
 NW C gl (.loop (.scope q2)) ⟨[(0,v0),(2,t1),(3,t4),(16,t7),(17,t10),(18,(AI 0))],h8,(y9++(y6++(y3++x)))⟩ (wA 0 (OA C gl q15 K))
theorem z9T {C gl q2 q15 v0 h x K}:NW C gl (z0p q2 q15) ⟨enter [v0],h,x⟩ K=VP C gl q2 q15 v0 h x K:=by kernel_rfl
theorem zi7 {C gl v0 h x K}:NW C gl sT.body ⟨enter [v0],h,x⟩ K=VP C gl QI yN v0 h x K:=z9T
def jL:ACode:=.pr [1,3,19,20,21] (.seq (rg [bN 22 .lss 21 20] [1,3,19,20,21,22])
(.seq (.cond 22 .skip
(.exit 0))
(.seq (.block 1 (.seq (rg [iA 23 (some 2) 19 21,
lD 24 (some 2) 23,
uO 5 (.alloc [.p (.str []),.sl0 (some 4)]),
wO (.store (some 2) 5 24)] [1,3,5,19,20,21])
(.seq (.block 2 (.seq (rg [fA 26 0 none 5,
lD 27 none 26,
cL 28 YF [27],
uO 29 (.un .not 28),
mV 25 29] [1,3,5,19,20,21,25])
(.cond 25 (.seq (rg [mV 2 (cI 5)] [2])
.ret)
(.seq (rg [fA 31 0 none 5,
lD 32 none 31,
mV 33 3,
bN 34 .leq 32 33,
mV 30 34] [1,5,19,20,21,30])
(.cond 30 (.seq (rg [mV 2 (cI 7)] [2])
.ret)
.skip)))))
(.seq (.seq (rg [lD 35 (some 2) 5,
cL 36 aK [35],
mV 6 36] [1,5,6,19,20,21])
(.seq (rg [mV 37 6,
bN 38 .neq 37 (cI 0)] [1,5,6,19,20,21,38])
(.cond 38 (.seq (rg [mV 39 6,
mV 2 39] [2])
.ret)
.skip)))
(rg [fA 40 0 none 5,
lD 41 none 40,
mV 3 41] [1,3,19,20,21])))))
(rg [bN 42 .add 21 (cI 1),
mV 21 42] [1,3,19,20,21]))))
def z3G (C:Hd)(gl:GL)(v1 v3 v19 v20 v21:AV)(h:bA)(x:Esc)(K:KT):Prop:=
 pK (eA .lss v21 v20) fun t1=>
 nA t1 (pK (uA (some 2) v19 v21 h) fun t2=>
 pK (kA (some 2) t2 h) fun t3=>
 alK [.p (.str []),.sl0 (some 4)] h fun t4 h5 y6=>
 wK (RA (some 2) t4 t3 h5) fun t7 h8 y9=>
 pK (oA 0 none t4) fun t10=>
 pK (kA none t10 h8) fun t11=>
 C YF [t11] h8 fun t12 h13 y14=>
 pK (oUn .not t12) fun t15=>
 nA t15 (K .ret ⟨[(2,(AI 5))],h13,(y14++(y9++(y6++x)))⟩)
 (pK (oA 0 none t4) fun t16=>
 pK (kA none t16 h13) fun t17=>
 pK (eA .leq t17 v3) fun t18=>
 nA t18 (K .ret ⟨[(2,(AI 7))],h13,(y14++(y9++(y6++x)))⟩)
 (pK (kA (some 2) t4 h13) fun t19=>
 C aK [t19] h13 fun t20 h21 y22=>
 pK (eA .neq t20 (AI 0)) fun t23=>
 nA t23 (K .ret ⟨[(2,t20)],h21,(y22++(y14++(y9++(y6++x))))⟩)
 (pK (oA 0 none t4) fun t24=>
 pK (kA none t24 h21) fun t25=>
 pK (eA .add v21 (AI 1)) fun t26=>
 K .normal ⟨[(1,v1),(3,t25),(19,v19),(20,v20),(21,t26)],h21,(y22++(y14++(y9++(y6++x))))⟩))))
 (K (.exit 0) ⟨[(1,v1),(3,v3),(19,v19),(20,v20),(21,v21),(22,t1)],h,x⟩)
theorem zjn {C gl e h x K}:NW C gl jL ⟨e,h,x⟩ K=z3G C gl (aA e 1) (aA e 3) (aA e 19) (aA e 20) (aA e 21) h x K:=by kernel_rfl
theorem zmM {C gl e h x K}:NW C gl (.loop (.scope jL)) ⟨e,h,x⟩ K=FA C gl (.scope jL) K [(1,aA e 1),(3,aA e 3),(19,aA e 19),(20,aA e 20),(21,aA e 21)] h x:=RB
def zN:ACode:=.pr [1,48,49,50] (.seq (rg [bN 51 .lss 50 49] [1,48,49,50,51])
(.seq (.cond 51 .skip
(.exit 3))
(.seq (.block 4 (.seq (rg [mV 52 50,
iA 53 (some 3) 48 50,
lD 54 (some 3) 53,
uO 8 (.alloc [.p (.str []),.p (.str []),.p (.str [])]),
mV 7 52,
wO (.store (some 3) 8 54)] [1,7,8,48,49,50])
(.block 5 (.seq (rg [fA 56 0 none 8,
lD 57 none 56,
cL 58 YF [57],
uO 59 (.un .not 58),
mV 55 59] [1,7,8,48,49,50,55])
(.cond 55 (.seq (rg [mV 2 (cI 5)] [2])
.ret)
(.seq (rg [lD 61 (some 3) 1,
fA 62 1 none 8,
lD 63 none 62,
fA 64 2 none 8,
lD 65 none 64,
cL 66 ZJ [61,63,65],
uO 67 (.un .not 66),
mV 60 67] [1,7,8,48,49,50,60])
(.cond 60 (.seq (rg [mV 2 (cI 8)] [2])
.ret)
(.seq (dr [dF (mV 69 7) [7],
dF (bN 70 .gtr 69 (cI 0)) [69],
dF (mV 71 70) [70],
dF (gD 72 71 true (.faddr 1 none 1)) [1,71],
dF (gD 73 71 true (.load none 72)) [72,71],
dF (gD 74 71 true (.mv 7)) [7,71],
dF (gD 75 71 true (.bin .sub 74 (cI 1))) [74,71],
dF (gD 76 71 true (.iaddr (some 3) 73 75)) [73,75,71],
dF (gD 77 71 true (.faddr 0 none 76)) [76,71],
dF (gD 78 71 true (.load none 77)) [77,71],
dF (gD 79 71 true (.faddr 1 none 1)) [1,71],
dF (gD 80 71 true (.load none 79)) [79,71],
dF (gD 81 71 true (.mv 7)) [7,71],
dF (gD 82 71 true (.bin .sub 81 (cI 1))) [81,71],
dF (gD 83 71 true (.iaddr (some 3) 80 82)) [80,82,71],
dF (gD 84 71 true (.faddr 1 none 83)) [83,71],
dF (gD 85 71 true (.load none 84)) [84,71],
dF (gD 86 71 true (.faddr 1 none 1)) [1,71],
dF (gD 87 71 true (.load none 86)) [86,71],
dF (gD 88 71 true (.mv 7)) [7,71],
dF (gD 89 71 true (.bin .sub 88 (cI 1))) [88,71],
dF (gD 90 71 true (.iaddr (some 3) 87 89)) [87,89,71],
dF (gD 91 71 true (.faddr 2 none 90)) [90,71],
dF (gD 92 71 true (.load none 91)) [91,71],
dF (gD 93 71 true (.bsl false none 3 (.str []) [(0,78),(1,85),(2,92)])) [78,85,92,71],
dF (gD 94 71 true (.faddr 0 none 8)) [8,71],
dF (gD 95 71 true (.load none 94)) [94,71],
dF (gD 96 71 true (.faddr 1 none 8)) [8,71],
dF (gD 97 71 true (.load none 96)) [96,71],
dF (gD 98 71 true (.faddr 2 none 8)) [8,71],
dF (gD 99 71 true (.load none 98)) [98,71],
dF (gD 100 71 true (.bsl false none 3 (.str []) [(0,95),(1,97),(2,99)])) [95,97,99,71],
dT (gD 101 71 true (.call uH [93,100])) [93,100,71],
dF (gD 102 71 true (.bin .geq 101 (cI 0))) [101,71],
dF (uO 103 (.pick 71 102 cF)) [71,102],
dF (mV 68 103) [103]] [1,48,49,50,68])
(.cond 68 (.seq (rg [mV 2 (cI 7)] [2])
.ret)
.skip)))))))))
(rg [bN 104 .add 50 (cI 1),
mV 50 104] [1,48,49,50]))))
def z3H (C:Hd)(gl:GL)(v1 v48 v49 v50:AV)(h:bA)(x:Esc)(K:KT):Prop:=
 pK (eA .lss v50 v49) fun t1=>
 nA t1 (pK (uA (some 3) v48 v50 h) fun t2=>
 pK (kA (some 3) t2 h) fun t3=>
 alK [.p (.str []),.p (.str []),.p (.str [])] h fun t4 h5 y6=>
 wK (RA (some 3) t4 t3 h5) fun t7 h8 y9=>
 pK (oA 0 none t4) fun t10=>
 pK (kA none t10 h8) fun t11=>
 C YF [t11] h8 fun t12 h13 y14=>
 pK (oUn .not t12) fun t15=>
 nA t15 (K .ret ⟨[(2,(AI 5))],h13,(y14++(y9++(y6++x)))⟩)
 (pK (kA (some 3) v1 h13) fun t16=>
 pK (oA 1 none t4) fun t17=>
 pK (kA none t17 h13) fun t18=>
 pK (oA 2 none t4) fun t19=>
 pK (kA none t19 h13) fun t20=>
 C ZJ [t16,t18,t20] h13 fun t21 h22 y23=>
 pK (oUn .not t21) fun t24=>
 nA t24 (K .ret ⟨[(2,(AI 8))],h22,(y23++(y14++(y9++(y6++x))))⟩)
 (pK (eA .gtr v50 (AI 0)) fun t25=>
 gP t25 true (oA 1 none v1) h22 fun t26 h27 y28=>
 gP t25 true (kA none t26 h27) h27 fun t29 h30 y31=>
 gM t25 true v50 h30 fun t32 h33 y34=>
 gP t25 true (eA .sub t32 (AI 1)) h33 fun t35 h36 y37=>
 gP t25 true (uA (some 3) t29 t35 h36) h36 fun t38 h39 y40=>
 gP t25 true (oA 0 none t38) h39 fun t41 h42 y43=>
 gP t25 true (kA none t41 h42) h42 fun t44 h45 y46=>
 gP t25 true (oA 1 none v1) h45 fun t47 h48 y49=>
 gP t25 true (kA none t47 h48) h48 fun t50 h51 y52=>
 gM t25 true v50 h51 fun t53 h54 y55=>
 gP t25 true (eA .sub t53 (AI 1)) h54 fun t56 h57 y58=>
 gP t25 true (uA (some 3) t50 t56 h57) h57 fun t59 h60 y61=>
 gP t25 true (oA 1 none t59) h60 fun t62 h63 y64=>
 gP t25 true (kA none t62 h63) h63 fun t65 h66 y67=>
 gP t25 true (oA 1 none v1) h66 fun t68 h69 y70=>
 gP t25 true (kA none t68 h69) h69 fun t71 h72 y73=>
 gM t25 true v50 h72 fun t74 h75 y76=>
 gP t25 true (eA .sub t74 (AI 1)) h75 fun t77 h78 y79=>
 gP t25 true (uA (some 3) t71 t77 h78) h78 fun t80 h81 y82=>
 gP t25 true (oA 2 none t80) h81 fun t83 h84 y85=>
 gP t25 true (kA none t83 h84) h84 fun t86 h87 y88=>
 gV t25 true h87 (wK (aB false none 3 (.str []) [(0,t44),(1,t65),(2,t86)] h87)) fun t89 h90 y91=>
 (h90=h87∧y91=[])∧(gP t25 true (oA 0 none t4) h90 fun t92 h93 y94=>
 gP t25 true (kA none t92 h93) h93 fun t95 h96 y97=>
 gP t25 true (oA 1 none t4) h96 fun t98 h99 y100=>
 gP t25 true (kA none t98 h99) h99 fun t101 h102 y103=>
 gP t25 true (oA 2 none t4) h102 fun t104 h105 y106=>
 gP t25 true (kA none t104 h105) h105 fun t107 h108 y109=>
 gV t25 true h108 (wK (aB false none 3 (.str []) [(0,t95),(1,t101),(2,t107)] h108)) fun t110 h111 y112=>
 (h111=h108∧y112=[])∧(gV t25 true h111 (GB C uH [t89,t110] h111) fun t113 h114 y115=>
 gP t25 true (eA .geq t113 (AI 0)) h114 fun t116 h117 y118=>
 pK (LA t25 t116 (AB false)) fun t119=>
 nA t119 (K .ret ⟨[(2,(AI 7))],h117,(y118++(y115++(y112++(y109++(y106++(y103++(y100++(y97++(y94++(y91++(y88++(y85++(y82++(y79++(y76++(y73++(y70++(y67++(y64++(y61++(y58++(y55++(y52++(y49++(y46++(y43++(y40++(y37++(y34++(y31++(y28++(y23++(y14++(y9++(y6++x)))))))))))))))))))))))))))))))))))⟩)
 (pK (eA .add v50 (AI 1)) fun t120=>
 K .normal ⟨[(1,v1),(48,v48),(49,v49),(50,t120)],h117,(y118++(y115++(y112++(y109++(y106++(y103++(y100++(y97++(y94++(y91++(y88++(y85++(y82++(y79++(y76++(y73++(y70++(y67++(y64++(y61++(y58++(y55++(y52++(y49++(y46++(y43++(y40++(y37++(y34++(y31++(y28++(y23++(y14++(y9++(y6++x)))))))))))))))))))))))))))))))))))⟩))))))
 (K (.exit 3) ⟨[(1,v1),(48,v48),(49,v49),(50,v50),(51,t1)],h,x⟩)
theorem zjo {C gl e h x K}:NW C gl zN ⟨e,h,x⟩ K=z3H C gl (aA e 1) (aA e 48) (aA e 49) (aA e 50) h x K:=by kernel_rfl
theorem zmN {C gl e h x K}:NW C gl (.loop (.scope zN)) ⟨e,h,x⟩ K=FA C gl (.scope zN) K [(1,aA e 1),(48,aA e 48),(49,aA e 49),(50,aA e 50)] h x:=RB
def AN:ACode:=.pr [1,106,107,108] (.seq (rg [bN 109 .lss 108 107] [1,106,107,108,109])
(.seq (.cond 109 .skip
(.exit 6))
(.seq (.block 7 (.seq (rg [mV 110 108,
iA 111 (some 3) 106 108,
lD 112 (some 3) 111,
uO 10 (.alloc [.p (.str []),.p (.str []),.p (.str [])]),
mV 9 110,
wO (.store (some 3) 10 112)] [1,9,10,106,107,108])
(.seq (rg [fA 113 1 none 1,
lD 114 none 113,
mV 115 9,
uO 116 (.slice (some 3) 114 none (some 115) none),
uO 117 (.mkfn sI [10]),
cL 118 bK [116,117]] [1,106,107,108,118])
(.cond 118 (.seq (rg [mV 2 (cI 6)] [2])
.ret)
.skip))))
(rg [bN 119 .add 108 (cI 1),
mV 108 119] [1,106,107,108]))))
def z3I (C:Hd)(gl:GL)(v1 v106 v107 v108:AV)(h:bA)(x:Esc)(K:KT):Prop:=
 pK (eA .lss v108 v107) fun t1=>
 nA t1 (pK (uA (some 3) v106 v108 h) fun t2=>
 pK (kA (some 3) t2 h) fun t3=>
 alK [.p (.str []),.p (.str []),.p (.str [])] h fun t4 h5 y6=>
 wK (RA (some 3) t4 t3 h5) fun t7 h8 y9=>
 pK (oA 1 none v1) fun t10=>
 pK (kA none t10 h8) fun t11=>
 pK (qE (some 3) t11 none (some v108) none h8) fun t12=>
 C bK [t12,(.fn sI [t4])] h8 fun t13 h14 y15=>
 nA t13 (K .ret ⟨[(2,(AI 6))],h14,(y15++(y9++(y6++x)))⟩)
 (pK (eA .add v108 (AI 1)) fun t16=>
 K .normal ⟨[(1,v1),(106,v106),(107,v107),(108,t16)],h14,(y15++(y9++(y6++x)))⟩))
 (K (.exit 6) ⟨[(1,v1),(106,v106),(107,v107),(108,v108),(109,t1)],h,x⟩)
theorem zjp {C gl e h x K}:NW C gl AN ⟨e,h,x⟩ K=z3I C gl (aA e 1) (aA e 106) (aA e 107) (aA e 108) h x K:=by kernel_rfl
theorem zmO {C gl e h x K}:NW C gl (.loop (.scope AN)) ⟨e,h,x⟩ K=FA C gl (.scope AN) K [(1,aA e 1),(106,aA e 106),(107,aA e 107),(108,aA e 108)] h x:=RB
def CN:ACode:=.pr [3,11,126,127,128] (.seq (rg [bN 129 .lss 128 127] [3,11,126,127,128,129])
(.seq (.cond 129 .skip
(.exit 8))
(.seq (.block 9 (.seq (rg [iA 130 (some 2) 126 128,
lD 131 (some 2) 130,
uO 13 (.alloc [.p (.str []),.p (.int .i64 0)]),
wO (.store (some 2) 13 131)] [3,11,13,126,127,128])
(.seq (.block 10 (.seq (rg [mV 133 11,
fA 134 0 none 13,
lD 135 none 134,
cL 136 nE [133,135],
uO 137 (.un .not 136),
mV 132 137] [3,11,13,126,127,128,132])
(.cond 132 (.seq (rg [mV 2 (cI 8)] [2])
.ret)
(.seq (rg [fA 139 1 none 13,
lD 140 none 139,
cL 141 UD [140,(cI 0),(cI 1)],
uO 142 (.un .not 141),
mV 138 142] [3,11,13,126,127,128,138])
(.cond 138 (.seq (rg [mV 2 (cI 1)] [2])
.ret)
(.seq (rg [fA 144 0 none 13,
lD 145 none 144,
mV 146 3,
bN 147 .leq 145 146,
mV 143 147] [11,13,126,127,128,143])
(.cond 143 (.seq (rg [mV 2 (cI 7)] [2])
.ret)
.skip)))))))
(rg [fA 148 0 none 13,
lD 149 none 148,
mV 3 149] [3,11,126,127,128]))))
(rg [bN 150 .add 128 (cI 1),
mV 128 150] [3,11,126,127,128]))))
def z3J (C:Hd)(gl:GL)(v3 v11 v126 v127 v128:AV)(h:bA)(x:Esc)(K:KT):Prop:=
 pK (eA .lss v128 v127) fun t1=>
 nA t1 (pK (uA (some 2) v126 v128 h) fun t2=>
 pK (kA (some 2) t2 h) fun t3=>
 alK [.p (.str []),.p (.int .i64 0)] h fun t4 h5 y6=>
 wK (RA (some 2) t4 t3 h5) fun t7 h8 y9=>
 pK (oA 0 none t4) fun t10=>
 pK (kA none t10 h8) fun t11=>
 C nE [v11,t11] h8 fun t12 h13 y14=>
 pK (oUn .not t12) fun t15=>
 nA t15 (K .ret ⟨[(2,(AI 8))],h13,(y14++(y9++(y6++x)))⟩)
 (pK (oA 1 none t4) fun t16=>
 pK (kA none t16 h13) fun t17=>
 C UD [t17,(AI 0),(AI 1)] h13 fun t18 h19 y20=>
 pK (oUn .not t18) fun t21=>
 nA t21 (K .ret ⟨[(2,(AI 1))],h19,(y20++(y14++(y9++(y6++x))))⟩)
 (pK (oA 0 none t4) fun t22=>
 pK (kA none t22 h19) fun t23=>
 pK (eA .leq t23 v3) fun t24=>
 nA t24 (K .ret ⟨[(2,(AI 7))],h19,(y20++(y14++(y9++(y6++x))))⟩)
 (pK (oA 0 none t4) fun t25=>
 pK (kA none t25 h19) fun t26=>
 pK (eA .add v128 (AI 1)) fun t27=>
 K .normal ⟨[(3,t26),(11,v11),(126,v126),(127,v127),(128,t27)],h19,(y20++(y14++(y9++(y6++x))))⟩))))
 (K (.exit 8) ⟨[(3,v3),(11,v11),(126,v126),(127,v127),(128,v128),(129,t1)],h,x⟩)
theorem zjq {C gl e h x K}:NW C gl CN ⟨e,h,x⟩ K=z3J C gl (aA e 3) (aA e 11) (aA e 126) (aA e 127) (aA e 128) h x K:=by kernel_rfl
theorem zmP {C gl e h x K}:NW C gl (.loop (.scope CN)) ⟨e,h,x⟩ K=FA C gl (.scope CN) K [(3,aA e 3),(11,aA e 11),(126,aA e 126),(127,aA e 127),(128,aA e 128)] h x:=RB
def XX:ACode:=.pr [] (.seq (rg [mV 2 (cI 0)] [2])
.ret)
def z3K (C:Hd)(gl:GL)(h:bA)(x:Esc)(K:KT):Prop:=
 K .ret ⟨[(2,(AI 0))],h,x⟩
theorem zjr {C gl e h x K}:NW C gl XX ⟨e,h,x⟩ K=z3K C gl h x K:=by kernel_rfl
def z0C (q4 q5:ACode):ACode:=.pr [1] (.seq (rg [lD 120 (some 3) 1,
cL 121 GG [120],
mV 11 121] [1,11])
(.seq (.seq (rg [mV 122 11,
lN 123 122,
bN 124 .gtr 123 (cI 100)] [1,11,124])
(.cond 124 (.seq (rg [mV 2 (cI 2)] [2])
.ret)
.skip))
(.seq (rg [mV 3 (cS [])] [1,3,11])
(.seq (.seq (rg [fA 125 2 none 1,
lD 126 none 125,
lN 127 126,
mV 128 (cI 0)] [3,11,126,127,128])
(.block 8 (.loop (.scope q4))))
q5))))
def OR:ACode:=z0C CN XX
def fH (C:Hd)(gl:GL)(q4 q5:ACode)(v1:AV)(h:bA)(x:Esc)(K:KT):Prop:=
 pK (kA (some 3) v1 h) fun t1=>
 C GG [t1] h fun t2 h3 y4=>
 pK (yA t2) fun t5=>
 pK (eA .gtr t5 (AI 100)) fun t6=>
 nA t6 (K .ret ⟨[(2,(AI 2))],h3,(y4++x)⟩)
 (pK (oA 2 none v1) fun t7=>
 pK (kA none t7 h3) fun t8=>
 pK (yA t8) fun t9=>
 NW C gl (.loop (.scope q4)) ⟨[(3,(.p (.str []))),(11,t2),(126,t8),(127,t9),(128,(AI 0))],h3,(y4++x)⟩ (wA 8 (OA C gl q5 K)))
theorem zaq {C gl q4 q5 e h x K}:NW C gl (z0C q4 q5) ⟨e,h,x⟩ K=fH C gl q4 q5 (aA e 1) h x K:=by kernel_rfl
theorem EJ {C gl e h x K}:NW C gl OR ⟨e,h,x⟩ K=fH C gl CN XX (aA e 1) h x K:=zaq
def z0D (q3 q6:ACode):ACode:=.pr [1] (.seq (.seq (rg [fA 105 1 none 1,
lD 106 none 105,
lN 107 106,
mV 108 (cI 0)] [1,106,107,108])
(.block 6 (.loop (.scope q3))))
q6)
def PR:ACode:=z0D AN OR
def gH (C:Hd)(gl:GL)(q3 q6:ACode)(v1:AV)(h:bA)(x:Esc)(K:KT):Prop:=
 pK (oA 1 none v1) fun t1=>
 pK (kA none t1 h) fun t2=>
 pK (yA t2) fun t3=>
 NW C gl (.loop (.scope q3)) ⟨[(1,v1),(106,t2),(107,t3),(108,(AI 0))],h,x⟩ (wA 6 (OA C gl q6 K))
theorem zar {C gl q3 q6 e h x K}:NW C gl (z0D q3 q6) ⟨e,h,x⟩ K=gH C gl q3 q6 (aA e 1) h x K:=by kernel_rfl
theorem FJ {C gl e h x K}:NW C gl PR ⟨e,h,x⟩ K=gH C gl AN OR (aA e 1) h x K:=zar
def z0E (q2 q7:ACode):ACode:=.pr [1] (.seq (.seq (rg [fA 43 1 none 1,
lD 44 none 43,
lN 45 44,
bN 46 .gtr 45 (cI 1000)] [1,46])
(.cond 46 (.seq (rg [mV 2 (cI 2)] [2])
.ret)
.skip))
(.seq (.seq (rg [fA 47 1 none 1,
lD 48 none 47,
lN 49 48,
mV 50 (cI 0)] [1,48,49,50])
(.block 3 (.loop (.scope q2))))
q7))
def DN:ACode:=z0E zN PR
def iH (C:Hd)(gl:GL)(q2 q7:ACode)(v1:AV)(h:bA)(x:Esc)(K:KT):Prop:=
 pK (oA 1 none v1) fun t1=>
 pK (kA none t1 h) fun t2=>
 pK (yA t2) fun t3=>
 pK (eA .gtr t3 (AI 1000)) fun t4=>
 nA t4 (K .ret ⟨[(2,(AI 2))],h,x⟩)
 (pK (oA 1 none v1) fun t5=>
 pK (kA none t5 h) fun t6=>
 pK (yA t6) fun t7=>
 NW C gl (.loop (.scope q2)) ⟨[(1,v1),(48,t6),(49,t7),(50,(AI 0))],h,x⟩ (wA 3 (OA C gl q7 K)))
theorem zas {C gl q2 q7 e h x K}:NW C gl (z0E q2 q7) ⟨e,h,x⟩ K=iH C gl q2 q7 (aA e 1) h x K:=by kernel_rfl
theorem GJ {C gl e h x K}:NW C gl DN ⟨e,h,x⟩ K=iH C gl zN PR (aA e 1) h x K:=zas
def z0B (q1 q8:ACode):ACode:=(.seq (rg [uO 1 (.box 0),
mV 2 (cI 0)] [1])
(.seq (.seq (rg [fA 14 0 none 1,
lD 15 none 14,
lN 16 15,
bN 17 .gtr 16 (cI 40)] [1,17])
(.cond 17 (.seq (rg [mV 2 (cI 2)] [2])
.ret)
.skip))
(.seq (rg [mV 3 (cS [])] [1,3])
(.seq (.seq (rg [fA 18 0 none 1,
lD 19 none 18,
lN 20 19,
mV 21 (cI 0)] [1,3,19,20,21])
(.block 0 (.loop (.scope q1))))
q8))))
def IT:AFun:=⟨1,[.t 2],z0B jL DN,false,false⟩
def vM (C:Hd)(gl:GL)(q1 q8:ACode)(v0:AV)(h:bA)(x:Esc)(K:KT):Prop:=
 wK (qB v0 h) fun t1 h2 y3=>
 pK (oA 0 none t1) fun t4=>
 pK (kA none t4 h2) fun t5=>
 pK (yA t5) fun t6=>
 pK (eA .gtr t6 (AI 40)) fun t7=>
 nA t7 (K .ret ⟨[(2,(AI 2))],h2,(y3++x)⟩)
 (pK (oA 0 none t1) fun t8=>
 pK (kA none t8 h2) fun t9=>
 pK (yA t9) fun t10=>
 NW C gl (.loop (.scope q1)) ⟨[(1,t1),(3,(.p (.str []))),(19,t9),(20,t10),(21,(AI 0))],h2,(y3++x)⟩ (wA 0 (OA C gl q8 K)))
theorem zap {C gl q1 q8 v0 h x K}:NW C gl (z0B q1 q8) ⟨enter [v0],h,x⟩ K=vM C gl q1 q8 v0 h x K:=by kernel_rfl
theorem zjm {C gl v0 h x K}:NW C gl IT.body ⟨enter [v0],h,x⟩ K=vM C gl jL DN v0 h x K:=zap
def zbQ:ACode:=(.seq (rg [mV 4 (cS [])] [0,1])
(.seq (rg [mV 5 1,
mV 6 0,
mV 7 1,
lN 8 7,
cL 9 LB [6,8],
iA 10 none 5 9,
lD 11 none 10,
mV 4 11] [4])
.ret))
def BT:AFun:=⟨2,[.t 4],zbQ,false,false⟩
def wV (C:Hd)(gl:GL)(v0 v1:AV)(h:bA)(x:Esc)(K:KT):Prop:=
 pK (yA v1) fun t1=>
 C LB [v0,t1] h fun t2 h3 y4=>
 pK (uA none v1 t2 h3) fun t5=>
 pK (kA none t5 h3) fun t6=>
 K .ret ⟨[(4,t6)],h3,(y4++x)⟩
theorem ziV {C gl v0 v1 h x K}:NW C gl BT.body ⟨enter [v0,v1],h,x⟩ K=wV C gl v0 v1 h x K:=by kernel_rfl
def zbL:ACode:=(.seq (rg [mV 4 cF] [0,1])
(.seq (rg [mV 5 0,
mV 6 1,
cL 7 LB [5,6],
bN 8 .eql 7 (cI 0),
mV 4 8] [4])
.ret))
def vT:AFun:=⟨2,[.t 4],zbL,false,false⟩
def tV (C:Hd)(gl:GL)(v0 v1:AV)(h:bA)(x:Esc)(K:KT):Prop:=
 C LB [v0,v1] h fun t1 h2 y3=>
 pK (eA .eql t1 (AI 0)) fun t4=>
 K .ret ⟨[(4,t4)],h2,(y3++x)⟩
theorem ziO {C gl v0 v1 h x K}:NW C gl vT.body ⟨enter [v0,v1],h,x⟩ K=tV C gl v0 v1 h x K:=by kernel_rfl
def zbM:ACode:=(.seq (rg [mV 4 (cI 0)] [0,1])
(.seq (rg [mV 7 0,
uO 8 (.nilchk 7),
fA 9 1 none 8,
lD 10 none 9,
bN 11 .add 10 (cI 1),
uO 12 (.nilchk 7),
fA 13 1 none 12,
wO (.store none 13 11)] [0,1])
(.seq (.seq (rg [mV 14 0,
uO 15 (.nilchk 14),
fA 16 0 none 15,
lD 17 none 16,
lN 18 17,
bN 19 .eql 18 (cI 0)] [0,1,19])
(.cond 19 (.seq (rg [mV 20 0,
uO 21 (.nilchk 20),
fA 22 1 none 21,
lD 23 none 22,
bN 24 .mul 23 (cI 7919),
mV 25 1,
cL 26 WF [24,25],
mV 4 26] [4])
.ret)
.skip))
(.seq (dr [dF (mV 27 0) [0],
dF (uO 28 (.nilchk 27)) [27],
dF (fA 29 1 none 28) [28],
dF (lD 30 none 29) [29],
dF (bN 31 .sub 30 (cI 1)) [30],
dF (mV 32 0) [0],
dF (uO 33 (.nilchk 32)) [32],
dF (fA 34 0 none 33) [33],
dF (lD 35 none 34) [34],
dF (lN 36 35) [35],
dF (bN 37 .rem 31 36) [31,36],
dF (mV 5 37) [37]] [0,1,5])
(.seq (dr [dF (mV 38 0) [0],
dF (uO 39 (.nilchk 38)) [38],
dF (fA 40 1 none 39) [39],
dF (lD 41 none 40) [40],
dF (bN 42 .sub 41 (cI 1)) [41],
dF (mV 43 0) [0],
dF (uO 44 (.nilchk 43)) [43],
dF (fA 45 0 none 44) [44],
dF (lD 46 none 45) [45],
dF (lN 47 46) [46],
dF (bN 48 .quo 42 47) [42,47],
dF (mV 6 48) [48]] [0,1,5,6])
(.seq (rg [mV 49 0,
uO 50 (.nilchk 49),
fA 51 0 none 50,
lD 52 none 51,
mV 53 5,
iA 54 none 52 53,
lD 55 none 54,
cL 56 WF [55,(cI 1073741824)],
mV 57 6,
mV 58 5,
bN 59 .add (cI 7919) 58,
bN 60 .mul 57 59,
bN 61 .add 56 60,
mV 62 1,
cL 63 WF [61,62],
mV 4 63] [4])
.ret))))))
def wT:AFun:=⟨2,[.t 4],zbM,false,false⟩
def YP (C:Hd)(gl:GL)(v0 v1:AV)(h:bA)(x:Esc)(K:KT):Prop:=
 pK (jB v0) fun t1=>
 pK (oA 1 none t1) fun t2=>
 pK (kA none t2 h) fun t3=>
 pK (eA .add t3 (AI 1)) fun t4=>
 pK (jB v0) fun t5=>
 pK (oA 1 none t5) fun t6=>
 wK (RA none t6 t4 h) fun t7 h8 y9=>
 pK (jB v0) fun t10=>
 pK (oA 0 none t10) fun t11=>
 pK (kA none t11 h8) fun t12=>
 pK (yA t12) fun t13=>
 pK (eA .eql t13 (AI 0)) fun t14=>
 nA t14 (pK (jB v0) fun t15=>
 pK (oA 1 none t15) fun t16=>
 pK (kA none t16 h8) fun t17=>
 pK (eA .mul t17 (AI 7919)) fun t18=>
 C WF [t18,v1] h8 fun t19 h20 y21=>
 K .ret ⟨[(4,t19)],h20,(y21++(y9++x))⟩)
 (pK (jB v0) fun t22=>
 pK (oA 1 none t22) fun t23=>
 pK (kA none t23 h8) fun t24=>
 pK (eA .sub t24 (AI 1)) fun t25=>
 pK (jB v0) fun t26=>
 pK (oA 0 none t26) fun t27=>
 pK (kA none t27 h8) fun t28=>
 pK (yA t28) fun t29=>
 pK (eA .rem t25 t29) fun t30=>
 pK (jB v0) fun t31=>
 pK (oA 1 none t31) fun t32=>
 pK (kA none t32 h8) fun t33=>
 pK (eA .sub t33 (AI 1)) fun t34=>
 pK (jB v0) fun t35=>
 pK (oA 0 none t35) fun t36=>
 pK (kA none t36 h8) fun t37=>
 pK (yA t37) fun t38=>
 pK (eA .quo t34 t38) fun t39=>
 pK (jB v0) fun t40=>
 pK (oA 0 none t40) fun t41=>
 pK (kA none t41 h8) fun t42=>
 pK (uA none t42 t30 h8) fun t43=>
 pK (kA none t43 h8) fun t44=>
 C WF [t44,(AI 1073741824)] h8 fun t45 h46 y47=>
 pK (eA .add (AI 7919) t30) fun t48=>
 pK (eA .mul t39 t48) fun t49=>
 pK (eA .add t45 t49) fun t50=>
 C WF [t50,v1] h46 fun t51 h52 y53=>
 K .ret ⟨[(4,t51)],h52,(y53++(y47++(y9++x)))⟩)
theorem ziP {C gl v0 v1 h x K}:NW C gl wT.body ⟨enter [v0,v1],h,x⟩ K=YP C gl v0 v1 h x K:=by kernel_rfl
def zbT:ACode:=(.seq (rg [mV 2 cF] [0])
(.seq (rg [mV 3 0,
cL 4 ZF [3,(cS [48,49])],
mV 2 4] [2])
.ret))
def GT:AFun:=⟨1,[.t 2],zbT,false,false⟩
def BV (C:Hd)(gl:GL)(v0:AV)(h:bA)(x:Esc)(K:KT):Prop:=
 C ZF [v0,(.p (.str [48,49]))] h fun t1 h2 y3=>
 K .ret ⟨[(2,t1)],h2,(y3++x)⟩
theorem zji {C gl v0 h x K}:NW C gl GT.body ⟨enter [v0],h,x⟩ K=BV C gl v0 h x K:=by kernel_rfl
def GK:ACode:=.pr [2,19,20,21] (.seq (rg [bN 22 .lss 21 20] [2,19,20,21,22])
(.seq (.cond 22 .skip
(.exit 0))
(.seq (.block 1 (.seq (rg [mV 23 21,
iA 24 none 19 21,
lD 25 none 24,
mV 6 23,
mV 7 25] [2,6,7,19,20,21])
(.seq (rg [mV 26 7,
uO 27 (.lens 26),
fA 28 0 none 2,
lD 29 none 28,
mV 30 6,
iA 31 (some 2) 29 30,
fA 32 1 none 31,
lD 33 none 32,
lN 34 33,
bN 35 .neq 27 34,
mV 36 35,
gD 37 36 false (.mv 7),
gD 38 36 false (.call NE [37]),
gD 39 36 false (.un .not 38),
uO 40 (.pick 36 cT 39)] [2,19,20,21,40])
(.cond 40 (.seq (rg [mV 4 (cI 3)] [4])
.ret)
.skip))))
(rg [bN 41 .add 21 (cI 1),
mV 21 41] [2,19,20,21]))))
def z2H (C:Hd)(gl:GL)(v2 v19 v20 v21:AV)(h:bA)(x:Esc)(K:KT):Prop:=
 pK (eA .lss v21 v20) fun t1=>
 nA t1 (pK (uA none v19 v21 h) fun t2=>
 pK (kA none t2 h) fun t3=>
 pK (CD t3) fun t4=>
 pK (oA 0 none v2) fun t5=>
 pK (kA none t5 h) fun t6=>
 pK (uA (some 2) t6 v21 h) fun t7=>
 pK (oA 1 none t7) fun t8=>
 pK (kA none t8 h) fun t9=>
 pK (yA t9) fun t10=>
 pK (eA .neq t4 t10) fun t11=>
 gM t11 false t3 h fun t12 h13 y14=>
 gV t11 false h13 (C NE [t12] h13) fun t15 h16 y17=>
 gP t11 false (oUn .not t15) h16 fun t18 h19 y20=>
 pK (LA t11 (AB true) t18) fun t21=>
 nA t21 (K .ret ⟨[(4,(AI 3))],h19,(y20++(y17++(y14++x)))⟩)
 (pK (eA .add v21 (AI 1)) fun t22=>
 K .normal ⟨[(2,v2),(19,v19),(20,v20),(21,t22)],h19,(y20++(y17++(y14++x)))⟩))
 (K (.exit 0) ⟨[(2,v2),(19,v19),(20,v20),(21,v21),(22,t1)],h,x⟩)
theorem zhh {C gl e h x K}:NW C gl GK ⟨e,h,x⟩ K=z2H C gl (aA e 2) (aA e 19) (aA e 20) (aA e 21) h x K:=by kernel_rfl
theorem zml {C gl e h x K}:NW C gl (.loop GK) ⟨e,h,x⟩ K=FA C gl GK K [(2,aA e 2),(19,aA e 19),(20,aA e 20),(21,aA e 21)] h x:=NB
def pR:ACode:=.pr [] (.seq (rg [mV 4 (cI 0)] [4])
.ret)
def z2I (C:Hd)(gl:GL)(h:bA)(x:Esc)(K:KT):Prop:=
 K .ret ⟨[(4,(AI 0))],h,x⟩
theorem zhi {C gl e h x K}:NW C gl pR ⟨e,h,x⟩ K=z2I C gl h x K:=by kernel_rfl
def IZ (q1 q2:ACode):ACode:=(.seq (rg [uO 2 (.box 0),
mV 4 (cI 0)] [1,2])
(.seq (.seq (rg [lD 8 (some 3) 2,
cL 9 CG [8],
mV 5 9] [1,2,5])
(.seq (rg [mV 10 5,
bN 11 .neq 10 (cI 0)] [1,2,5,11])
(.cond 11 (.seq (rg [mV 12 5,
mV 4 12] [4])
.ret)
.skip)))
(.seq (.seq (rg [mV 13 1,
lN 14 13,
fA 15 0 none 2,
lD 16 none 15,
lN 17 16,
bN 18 .neq 14 17] [1,2,18])
(.cond 18 (.seq (rg [mV 4 (cI 3)] [4])
.ret)
.skip))
(.seq (.seq (rg [mV 19 1,
lN 20 19,
mV 21 (cI 0)] [2,19,20,21])
(.block 0 (.loop q1)))
q2))))
def xO:AFun:=⟨2,[.t 4],IZ GK pR,false,false⟩
def uJ (C:Hd)(gl:GL)(q1 q2:ACode)(v0 v1:AV)(h:bA)(x:Esc)(K:KT):Prop:=
 wK (qB v0 h) fun t1 h2 y3=>
 pK (kA (some 3) t1 h2) fun t4=>
 C CG [t4] h2 fun t5 h6 y7=>
 pK (eA .neq t5 (AI 0)) fun t8=>
 nA t8 (K .ret ⟨[(4,t5)],h6,(y7++(y3++x))⟩)
 (pK (yA v1) fun t9=>
 pK (oA 0 none t1) fun t10=>
 pK (kA none t10 h6) fun t11=>
 pK (yA t11) fun t12=>
 pK (eA .neq t9 t12) fun t13=>
 nA t13 (K .ret ⟨[(4,(AI 3))],h6,(y7++(y3++x))⟩)
 (pK (yA v1) fun t14=>
 NW C gl (.loop q1) ⟨[(2,t1),(19,v1),(20,t14),(21,(AI 0))],h6,(y7++(y3++x))⟩ (wA 0 (OA C gl q2 K))))
theorem z9w {C gl q1 q2 v0 v1 h x K}:NW C gl (IZ q1 q2) ⟨enter [v0,v1],h,x⟩ K=uJ C gl q1 q2 v0 v1 h x K:=by kernel_rfl
theorem zhg {C gl v0 v1 h x K}:NW C gl xO.body ⟨enter [v0,v1],h,x⟩ K=uJ C gl GK pR v0 v1 h x K:=z9w
def OK:ACode:=.pr [1,2,5,20,21,22] (.seq (rg [bN 23 .lss 22 21] [1,2,5,20,21,22,23])
(.seq (.cond 23 .skip
(.exit 0))
(.seq (.block 1 (.seq (rg [iA 24 none 20 22,
lD 25 none 24,
mV 7 25] [1,2,5,7,20,21,22])
(rg [mV 26 5,
mV 27 7,
wO (.mupd (none,[2]) 26 27 (cI 2))] [1,2,5,20,21,22])))
(rg [bN 28 .add 22 (cI 1),
mV 22 28] [1,2,5,20,21,22]))))
def z2Y (C:Hd)(gl:GL)(v1 v2 v5 v20 v21 v22:AV)(h:bA)(x:Esc)(K:KT):Prop:=
 pK (eA .lss v22 v21) fun t1=>
 nA t1 (pK (uA none v20 v22 h) fun t2=>
 pK (kA none t2 h) fun t3=>
 wK (bB (none,[2]) v5 t3 (AI 2) h) fun t4 h5 y6=>
 pK (eA .add v22 (AI 1)) fun t7=>
 K .normal ⟨[(1,v1),(2,v2),(5,v5),(20,v20),(21,v21),(22,t7)],h5,(y6++x)⟩)
 (K (.exit 0) ⟨[(1,v1),(2,v2),(5,v5),(20,v20),(21,v21),(22,v22),(23,t1)],h,x⟩)
theorem zhF {C gl e h x K}:NW C gl OK ⟨e,h,x⟩ K=z2Y C gl (aA e 1) (aA e 2) (aA e 5) (aA e 20) (aA e 21) (aA e 22) h x K:=by kernel_rfl
theorem zmw {C gl e h x K}:NW C gl (.loop OK) ⟨e,h,x⟩ K=FA C gl OK K [(1,aA e 1),(2,aA e 2),(5,aA e 5),(20,aA e 20),(21,aA e 21),(22,aA e 22)] h x:=NB
def uN:ACode:=.pr [1,2,5,30,31,32] (.seq (rg [bN 33 .lss 32 31] [1,2,5,30,31,32,33])
(.seq (.cond 33 .skip
(.exit 2))
(.seq (.block 3 (.seq (rg [iA 34 (some 2) 30 32,
lD 35 (some 2) 34,
uO 9 (.alloc [.p (.str []),.p (.int .i64 0)]),
wO (.store (some 2) 9 35)] [1,2,5,9,30,31,32])
(rg [mV 36 5,
fA 37 0 none 9,
lD 38 none 37,
fA 39 1 none 9,
lD 40 none 39,
wO (.mupd (none,[2]) 36 38 40)] [1,2,5,30,31,32])))
(rg [bN 41 .add 32 (cI 1),
mV 32 41] [1,2,5,30,31,32]))))
def z2Z (C:Hd)(gl:GL)(v1 v2 v5 v30 v31 v32:AV)(h:bA)(x:Esc)(K:KT):Prop:=
 pK (eA .lss v32 v31) fun t1=>
 nA t1 (pK (uA (some 2) v30 v32 h) fun t2=>
 pK (kA (some 2) t2 h) fun t3=>
 alK [.p (.str []),.p (.int .i64 0)] h fun t4 h5 y6=>
 wK (RA (some 2) t4 t3 h5) fun t7 h8 y9=>
 pK (oA 0 none t4) fun t10=>
 pK (kA none t10 h8) fun t11=>
 pK (oA 1 none t4) fun t12=>
 pK (kA none t12 h8) fun t13=>
 wK (bB (none,[2]) v5 t11 t13 h8) fun t14 h15 y16=>
 pK (eA .add v32 (AI 1)) fun t17=>
 K .normal ⟨[(1,v1),(2,v2),(5,v5),(30,v30),(31,v31),(32,t17)],h15,(y16++(y9++(y6++x)))⟩)
 (K (.exit 2) ⟨[(1,v1),(2,v2),(5,v5),(30,v30),(31,v31),(32,v32),(33,t1)],h,x⟩)
theorem zhG {C gl e h x K}:NW C gl uN ⟨e,h,x⟩ K=z2Z C gl (aA e 1) (aA e 2) (aA e 5) (aA e 30) (aA e 31) (aA e 32) h x K:=by kernel_rfl
theorem zmx {C gl e h x K}:NW C gl (.loop (.scope uN)) ⟨e,h,x⟩ K=FA C gl (.scope uN) K [(1,aA e 1),(2,aA e 2),(5,aA e 5),(30,aA e 30),(31,aA e 31),(32,aA e 32)] h x:=RB
def uX:ACode:=.pr [1,2,5,10,17,44,50,51,52] (rg [mV 100 5,
mV 101 10,
mV 102 17,
wO (.mupd (none,[2]) 100 101 102),
mV 12 cT] [1,2,5,10,12,44,50,51,52])
def z3a (C:Hd)(gl:GL)(v1 v2 v5 v10 v17 v44 v50 v51 v52:AV)(h:bA)(x:Esc)(K:KT):Prop:=
 wK (bB (none,[2]) v5 v10 v17 h) fun t1 h2 y3=>
 K .normal ⟨[(1,v1),(2,v2),(5,v5),(10,v10),(12,(AB true)),(44,v44),(50,v50),(51,v51),(52,v52)],h2,(y3++x)⟩
theorem zhH {C gl e h x K}:NW C gl uX ⟨e,h,x⟩ K=z3a C gl (aA e 1) (aA e 2) (aA e 5) (aA e 10) (aA e 17) (aA e 44) (aA e 50) (aA e 51) (aA e 52) h x K:=by kernel_rfl
def vX:ACode:=.pr [1,2,5,10,12,44,50,51,52] (rg [bN 103 .add 52 (cI 1),
mV 52 103] [1,2,5,10,12,44,50,51,52])
def z3b (C:Hd)(gl:GL)(v1 v2 v5 v10 v12 v44 v50 v51 v52:AV)(h:bA)(x:Esc)(K:KT):Prop:=
 pK (eA .add v52 (AI 1)) fun t1=>
 K .normal ⟨[(1,v1),(2,v2),(5,v5),(10,v10),(12,v12),(44,v44),(50,v50),(51,v51),(52,t1)],h,x⟩
theorem zhI {C gl e h x K}:NW C gl vX ⟨e,h,x⟩ K=z3b C gl (aA e 1) (aA e 2) (aA e 5) (aA e 10) (aA e 12) (aA e 44) (aA e 50) (aA e 51) (aA e 52) h x K:=by kernel_rfl
def VZ (q3 q4:ACode):ACode:=.pr [1,2,5,10,12,44,50,51,52] (.seq (rg [bN 53 .lss 52 51] [1,2,5,10,12,44,50,51,52,53])
(.seq (.cond 53 .skip
(.exit 6))
(.seq (.block 7 (.seq (rg [iA 54 (some 2) 50 52,
lD 55 (some 2) 54,
uO 14 (.alloc [.p (.int .i64 0),.p (.int .i64 0)]),
wO (.store (some 2) 14 55)] [1,2,5,10,12,14,44,50,51,52])
(.seq (dr [dF (fA 56 0 none 2) [2],
dF (lD 57 none 56) [56],
dF (fA 58 0 none 14) [14],
dF (lD 59 none 58) [58],
dF (iA 60 (some 2) 57 59) [57,59],
dF (fA 61 1 none 60) [60],
dF (lD 62 none 61) [61],
dF (fA 63 1 none 14) [14],
dF (lD 64 none 63) [63],
dF (iA 65 (some 4) 62 64) [62,64],
dF (lD 66 (some 4) 65) [65],
dF (mV 67 1) [1],
dF (fA 68 0 none 14) [14],
dF (lD 69 none 68) [68],
dF (iA 70 none 67 69) [67,69],
dF (lD 71 none 70) [70],
dA (uO 15 (.alloc [.p (.int .i64 0),.p (.str []),.p (.int .i64 0),.p (.int .i64 0)])) [] true [] [1,3,4,6,8,9,10,13,14,15],
dA (wO (.store (some 4) 15 66)) [15,66] true [] [13,14,15],
dF (mV 16 71) [71]] [1,2,5,10,12,14,15,16,44,50,51,52])
(.seq (.seq (dr [dF (fA 72 2 none 15) [15],
dF (lD 73 none 72) [72],
dF (bN 74 .geq 73 (cI 0)) [73],
dF (mV 75 74) [74],
dF (gD 76 75 true (.mv 16)) [16,75],
dF (gD 77 75 true (.faddr 2 none 15)) [15,75],
dF (gD 78 75 true (.load none 77)) [77,75],
dF (gD 79 75 true (.idxs 76 78)) [76,78,75],
dF (gD 80 75 true (.bin .sub 79 (.c (.p (.int .u8 48))))) [79,75],
dF (gD 81 75 true (.conv (.i .i64) 80)) [80,75],
dF (gD 82 75 true (.faddr 3 none 15)) [15,75],
dF (gD 83 75 true (.load none 82)) [82,75],
dF (gD 84 75 true (.bin .eql 81 83)) [81,83,75],
dF (uO 85 (.pick 75 84 cF)) [75,84]] [1,2,5,10,12,14,16,44,50,51,52,85])
(.cond 85 (.exit 7)
.skip))
(.seq (rg [mV 86 16,
fA 87 1 none 14,
lD 88 none 87,
uO 89 (.idxs 86 88),
bN 90 .sub 89 (.c (.p (.int .u8 48))),
uO 91 (.conv (.i .i64) 90),
mV 17 91] [1,2,5,10,12,17,44,50,51,52])
(.seq (.seq (rg [mV 92 12,
mV 93 92,
gD 94 93 true (.mv 5),
gD 95 93 true (.mv 10),
gD 96 93 true (.look (none,[2]) false (AI 0) 94 95),
gD 97 93 true (.mv 17),
gD 98 93 true (.bin .neq 96 97),
uO 99 (.pick 93 98 cF)] [1,2,5,10,17,44,50,51,52,99])
(.cond 99 (rg [mV 17 (cI 3)] [1,2,5,10,17,44,50,51,52])
.skip))
q3))))))
q4)))
def PK:ACode:=VZ uX vX
def VU (C:Hd)(gl:GL)(q3 q4:ACode)(v1 v2 v5 v10 v12 v44 v50 v51 v52:AV)(h:bA)(x:Esc)(K:KT):Prop:=
 pK (eA .lss v52 v51) fun t1=>
 nA t1 (pK (uA (some 2) v50 v52 h) fun t2=>
 pK (kA (some 2) t2 h) fun t3=>
 alK [.p (.int .i64 0),.p (.int .i64 0)] h fun t4 h5 y6=>
 wK (RA (some 2) t4 t3 h5) fun t7 h8 y9=>
 pK (oA 0 none v2) fun t10=>
 pK (kA none t10 h8) fun t11=>
 pK (oA 0 none t4) fun t12=>
 pK (kA none t12 h8) fun t13=>
 pK (uA (some 2) t11 t13 h8) fun t14=>
 pK (oA 1 none t14) fun t15=>
 pK (kA none t15 h8) fun t16=>
 pK (oA 1 none t4) fun t17=>
 pK (kA none t17 h8) fun t18=>
 pK (uA (some 4) t16 t18 h8) fun t19=>
 pK (kA (some 4) t19 h8) fun t20=>
 pK (oA 0 none t4) fun t21=>
 pK (kA none t21 h8) fun t22=>
 pK (uA none v1 t22 h8) fun t23=>
 pK (kA none t23 h8) fun t24=>
 alK [.p (.int .i64 0),.p (.str []),.p (.int .i64 0),.p (.int .i64 0)] h8 fun t25 h26 y27=>
 (pK (kA none t10 h26) fun v=>(fun u (g1:bA) (y1:Esc)=>u=t11∧g1=h26∧y1=[]) v h26 [])∧((pK (kA none t12 h26) fun v=>(fun u (g1:bA) (y1:Esc)=>u=t13∧g1=h26∧y1=[]) v h26 [])∧((pK (uA (some 2) t11 t13 h26) fun v=>(fun u (g1:bA) (y1:Esc)=>u=t14∧g1=h26∧y1=[]) v h26 [])∧((pK (kA none t15 h26) fun v=>(fun u (g1:bA) (y1:Esc)=>u=t16∧g1=h26∧y1=[]) v h26 [])∧((pK (kA none t17 h26) fun v=>(fun u (g1:bA) (y1:Esc)=>u=t18∧g1=h26∧y1=[]) v h26 [])∧((pK (uA (some 4) t16 t18 h26) fun v=>(fun u (g1:bA) (y1:Esc)=>u=t19∧g1=h26∧y1=[]) v h26 [])∧((pK (kA (some 4) t19 h26) fun v=>(fun u (g1:bA) (y1:Esc)=>u=t20∧g1=h26∧y1=[]) v h26 [])∧((pK (kA none t21 h26) fun v=>(fun u (g1:bA) (y1:Esc)=>u=t22∧g1=h26∧y1=[]) v h26 [])∧((pK (uA none v1 t22 h26) fun v=>(fun u (g1:bA) (y1:Esc)=>u=t23∧g1=h26∧y1=[]) v h26 [])∧((pK (kA none t23 h26) fun v=>(fun u (g1:bA) (y1:Esc)=>u=t24∧g1=h26∧y1=[]) v h26 [])∧(wK (RA (some 4) t25 t20 h26) fun t28 h29 y30=>
 (pK (kA none t21 h29) fun v=>(fun u (g1:bA) (y1:Esc)=>u=t22∧g1=h29∧y1=[]) v h29 [])∧((pK (uA none v1 t22 h29) fun v=>(fun u (g1:bA) (y1:Esc)=>u=t23∧g1=h29∧y1=[]) v h29 [])∧((pK (kA none t23 h29) fun v=>(fun u (g1:bA) (y1:Esc)=>u=t24∧g1=h29∧y1=[]) v h29 [])∧(pK (oA 2 none t25) fun t31=>
 pK (kA none t31 h29) fun t32=>
 pK (eA .geq t32 (AI 0)) fun t33=>
 gM t33 true t24 h29 fun t34 h35 y36=>
 gP t33 true (oA 2 none t25) h35 fun t37 h38 y39=>
 gP t33 true (kA none t37 h38) h38 fun t40 h41 y42=>
 gP t33 true (BC t34 t40) h41 fun t43 h44 y45=>
 gP t33 true (eA .sub t43 (.p (.int .u8 48))) h44 fun t46 h47 y48=>
 gP t33 true (XC .i64 t46) h47 fun t49 h50 y51=>
 (h50=h47∧y51=[])∧(gP t33 true (oA 3 none t25) h50 fun t52 h53 y54=>
 gP t33 true (kA none t52 h53) h53 fun t55 h56 y57=>
 gP t33 true (eA .eql t49 t55) h56 fun t58 h59 y60=>
 pK (LA t33 t58 (AB false)) fun t61=>
 nA t61 (NW C gl q4 ⟨[(1,v1),(2,v2),(5,v5),(10,v10),(12,v12),(14,t4),(16,t24),(44,v44),(50,v50),(51,v51),(52,v52),(85,t61)],h59,(y60++(y57++(y54++(y51++(y48++(y45++(y42++(y39++(y36++(y30++(y27++(y9++(y6++x)))))))))))))⟩ K)
 (pK (oA 1 none t4) fun t62=>
 pK (kA none t62 h59) fun t63=>
 pK (BC t24 t63) fun t64=>
 pK (eA .sub t64 (.p (.int .u8 48))) fun t65=>
 pK (XC .i64 t65) fun t66=>
 gM v12 true v5 h59 fun t67 h68 y69=>
 gM v12 true v10 h68 fun t70 h71 y72=>
 gP v12 true (YA (none,[2]) false (AI 0) t67 t70 h71) h71 fun t73 h74 y75=>
 gM v12 true t66 h74 fun t76 h77 y78=>
 gP v12 true (eA .neq t73 t76) h77 fun t79 h80 y81=>
 pK (LA v12 t79 (AB false)) fun t82=>
 nA t82 (NW C gl q3 ⟨[(1,v1),(2,v2),(5,v5),(10,v10),(17,(AI 3)),(44,v44),(50,v50),(51,v51),(52,v52)],h80,(y81++(y78++(y75++(y72++(y69++(y60++(y57++(y54++(y51++(y48++(y45++(y42++(y39++(y36++(y30++(y27++(y9++(y6++x))))))))))))))))))⟩ (wA 7 (OA C gl q4 K)))
 (NW C gl q3 ⟨[(1,v1),(2,v2),(5,v5),(10,v10),(17,t66),(44,v44),(50,v50),(51,v51),(52,v52),(99,t82)],h80,(y81++(y78++(y75++(y72++(y69++(y60++(y57++(y54++(y51++(y48++(y45++(y42++(y39++(y36++(y30++(y27++(y9++(y6++x))))))))))))))))))⟩ (wA 7 (OA C gl q4 K)))))))))))))))))))
 (K (.exit 6) ⟨[(1,v1),(2,v2),(5,v5),(10,v10),(12,v12),(44,v44),(50,v50),(51,v51),(52,v52),(53,t1)],h,x⟩)
theorem z99 {C gl q3 q4 e h x K}:NW C gl (VZ q3 q4) ⟨e,h,x⟩ K=VU C gl q3 q4 (aA e 1) (aA e 2) (aA e 5) (aA e 10) (aA e 12) (aA e 44) (aA e 50) (aA e 51) (aA e 52) h x K:=by kernel_rfl
theorem zhJ {C gl e h x K}:NW C gl PK ⟨e,h,x⟩ K=VU C gl uX vX (aA e 1) (aA e 2) (aA e 5) (aA e 10) (aA e 12) (aA e 44) (aA e 50) (aA e 51) (aA e 52) h x K:=z99
theorem zmy {C gl e h x K}:NW C gl (.loop (.scope PK)) ⟨e,h,x⟩ K=FA C gl (.scope PK) K [(1,aA e 1),(2,aA e 2),(5,aA e 5),(10,aA e 10),(12,aA e 12),(44,aA e 44),(50,aA e 50),(51,aA e 51),(52,aA e 52)] h x:=RB
def WZ (q5:ACode):ACode:=.pr [1,2,5,44] (.seq (rg [uO 45 (.mnext none [44]),
eX 46 45 0] [1,2,5,44,46])
(.seq (.cond 46 .skip
(.exit 4))
(.block 5 (.seq (rg [uO 47 (.mentry 44),
eX 48 47 0,
eX 49 47 1,
mV 10 48,
mV 11 49] [1,2,5,10,11,44])
(.seq (rg [mV 12 cF] [1,2,5,10,11,12,44])
(.seq (rg [mV 50 11,
lN 51 50,
mV 52 (cI 0)] [1,2,5,10,12,44,50,51,52])
(.block 6 (.loop (.scope q5)))))))))
def vN:ACode:=WZ PK
def xJ (C:Hd)(gl:GL)(q5:ACode)(v1 v2 v5 v44:AV)(h:bA)(x:Esc)(K:KT):Prop:=
 nxK v44 h fun t1 h2 y3=>
 pK (MB t1 0) fun t4=>
 nA t4 (wK (BB v44 h2) fun t5 h6 y7=>
 pK (MB t5 0) fun t8=>
 pK (MB t5 1) fun t9=>
 pK (yA t9) fun t10=>
 NW C gl (.loop (.scope q5)) ⟨[(1,v1),(2,v2),(5,v5),(10,t8),(12,(AB false)),(44,v44),(50,t9),(51,t10),(52,(AI 0))],h6,(y7++(y3++x))⟩ (wA 6 (wA 5 K)))
 (K (.exit 4) ⟨[(1,v1),(2,v2),(5,v5),(44,v44),(46,t4)],h2,(y3++x)⟩)
theorem z9A {C gl q5 e h x K}:NW C gl (WZ q5) ⟨e,h,x⟩ K=xJ C gl q5 (aA e 1) (aA e 2) (aA e 5) (aA e 44) h x K:=by kernel_rfl
theorem CQ {C gl e h x K}:NW C gl vN ⟨e,h,x⟩ K=xJ C gl PK (aA e 1) (aA e 2) (aA e 5) (aA e 44) h x K:=z9A
theorem zmz {C gl e h x K}:NW C gl (.loop (.scope vN)) ⟨e,h,x⟩ K=FA C gl (.scope vN) K [(1,aA e 1),(2,aA e 2),(5,aA e 5),(44,aA e 44)] h x:=RB
def wX:ACode:=.pr [5] (.seq (rg [mV 104 5,
mV 4 104] [4])
.ret)
def z3c (C:Hd)(gl:GL)(v5:AV)(h:bA)(x:Esc)(K:KT):Prop:=
 K .ret ⟨[(4,v5)],h,x⟩
theorem zhK {C gl e h x K}:NW C gl wX ⟨e,h,x⟩ K=z3c C gl (aA e 5) h x K:=by kernel_rfl
def XZ (q6 q7:ACode):ACode:=.pr [1,2,5] (.seq (.seq (rg [lD 42 (some 3) 2,
cL 43 UF [42,(cI 2)],
uO 44 (.mrange 43)] [1,2,5,44])
(.block 4 (.loop (.scope q6))))
q7)
def xX:ACode:=XZ vN wX
def WU (C:Hd)(gl:GL)(q6 q7:ACode)(v1 v2 v5:AV)(h:bA)(x:Esc)(K:KT):Prop:=
 pK (kA (some 3) v2 h) fun t1=>
 C UF [t1,(AI 2)] h fun t2 h3 y4=>
 wK (EB t2 h3) fun t5 h6 y7=>
 NW C gl (.loop (.scope q6)) ⟨[(1,v1),(2,v2),(5,v5),(44,t5)],h6,(y7++(y4++x))⟩ (wA 4 (OA C gl q7 K))
theorem z9B {C gl q6 q7 e h x K}:NW C gl (XZ q6 q7) ⟨e,h,x⟩ K=WU C gl q6 q7 (aA e 1) (aA e 2) (aA e 5) h x K:=by kernel_rfl
theorem zhL {C gl e h x K}:NW C gl xX ⟨e,h,x⟩ K=WU C gl vN wX (aA e 1) (aA e 2) (aA e 5) h x K:=z9B
def YZ (q2 q8:ACode):ACode:=.pr [1,2,5] (.seq (.seq (rg [fA 29 2 none 2,
lD 30 none 29,
lN 31 30,
mV 32 (cI 0)] [1,2,5,30,31,32])
(.block 2 (.loop (.scope q2))))
q8)
def sR:ACode:=YZ uN xX
def XU (C:Hd)(gl:GL)(q2 q8:ACode)(v1 v2 v5:AV)(h:bA)(x:Esc)(K:KT):Prop:=
 pK (oA 2 none v2) fun t1=>
 pK (kA none t1 h) fun t2=>
 pK (yA t2) fun t3=>
 NW C gl (.loop (.scope q2)) ⟨[(1,v1),(2,v2),(5,v5),(30,t2),(31,t3),(32,(AI 0))],h,x⟩ (wA 2 (OA C gl q8 K))
theorem z9C {C gl q2 q8 e h x K}:NW C gl (YZ q2 q8) ⟨e,h,x⟩ K=XU C gl q2 q8 (aA e 1) (aA e 2) (aA e 5) h x K:=by kernel_rfl
theorem zhM {C gl e h x K}:NW C gl sR ⟨e,h,x⟩ K=XU C gl uN xX (aA e 1) (aA e 2) (aA e 5) h x K:=z9C
def UZ (q1 q9:ACode):ACode:=(.det (.seq (rg [uO 2 (.box 0),
mV 4 (.c (.nilm))] [1,2])
(.seq (rg [uO 18 (.mkmap),
mV 5 18] [1,2,5])
(.seq (.seq (rg [lD 19 (some 3) 2,
cL 20 xD [19],
lN 21 20,
mV 22 (cI 0)] [1,2,5,20,21,22])
(.block 0 (.loop q1)))
q9))))
def NO:AFun:=⟨2,[.t 4],UZ OK sR,false,false⟩
def IP (C:Hd)(gl:GL)(q1 q9:ACode)(v0 v1:AV)(h:bA)(x:Esc)(K:KT):Prop:=
 wK (qB v0 h) fun t1 h2 y3=>
 mmK h2 fun t4 h5 y6=>
 pK (kA (some 3) t1 h5) fun t7=>
 C xD [t7] h5 fun t8 h9 y10=>
 pK (yA t8) fun t11=>
 NW C gl (.loop q1) ⟨[(1,v1),(2,t1),(5,t4),(20,t8),(21,t11),(22,(AI 0))],h9,(y10++(y6++(y3++x)))⟩ (wA 0 (OA C gl q9 K))
theorem z98 {C gl q1 q9 v0 v1 h x K}:NW C gl (UZ q1 q9) ⟨enter [v0,v1],h,x⟩ K=IP C gl q1 q9 v0 v1 h x K:=by kernel_rfl
theorem zhE {C gl v0 v1 h x K}:NW C gl NO.body ⟨enter [v0,v1],h,x⟩ K=IP C gl OK sR v0 v1 h x K:=z98
def RK:ACode:=.pr [3,8,9,10] (.seq (rg [bN 11 .lss 10 9] [3,8,9,10,11])
(.seq (.cond 11 .skip
(.exit 0))
(.seq (.block 1 (.seq (rg [iA 12 (some 3) 8 10,
lD 13 (some 3) 12,
uO 5 (.alloc [.p (.str []),.p (.str []),.p (.str [])]),
wO (.store (some 3) 5 13)] [3,5,8,9,10])
(rg [mV 14 3,
fA 15 1 none 5,
lD 16 none 15,
fA 17 2 none 5,
lD 18 none 17,
uO 19 (.build [.p (.str []),.p (.str [])] [(0,1,16),(1,1,18)]),
fA 20 0 none 5,
lD 21 none 20,
wO (.mupd ((some 2),[2,2]) 14 19 21)] [3,8,9,10])))
(rg [bN 22 .add 10 (cI 1),
mV 10 22] [3,8,9,10]))))
def z3f (C:Hd)(gl:GL)(v3 v8 v9 v10:AV)(h:bA)(x:Esc)(K:KT):Prop:=
 pK (eA .lss v10 v9) fun t1=>
 nA t1 (pK (uA (some 3) v8 v10 h) fun t2=>
 pK (kA (some 3) t2 h) fun t3=>
 alK [.p (.str []),.p (.str []),.p (.str [])] h fun t4 h5 y6=>
 wK (RA (some 3) t4 t3 h5) fun t7 h8 y9=>
 pK (oA 1 none t4) fun t10=>
 pK (kA none t10 h8) fun t11=>
 pK (oA 2 none t4) fun t12=>
 pK (kA none t12 h8) fun t13=>
 pK (DB [.p (.str []),.p (.str [])] [(0,1,t11),(1,1,t13)]) fun t14=>
 pK (oA 0 none t4) fun t15=>
 pK (kA none t15 h8) fun t16=>
 wK (bB ((some 2),[2,2]) v3 t14 t16 h8) fun t17 h18 y19=>
 pK (eA .add v10 (AI 1)) fun t20=>
 K .normal ⟨[(3,v3),(8,v8),(9,v9),(10,t20)],h18,(y19++(y9++(y6++x)))⟩)
 (K (.exit 0) ⟨[(3,v3),(8,v8),(9,v9),(10,v10),(11,t1)],h,x⟩)
theorem zhR {C gl e h x K}:NW C gl RK ⟨e,h,x⟩ K=z3f C gl (aA e 3) (aA e 8) (aA e 9) (aA e 10) h x K:=by kernel_rfl
theorem zm1 {C gl e h x K}:NW C gl (.loop (.scope RK)) ⟨e,h,x⟩ K=FA C gl (.scope RK) K [(3,aA e 3),(8,aA e 8),(9,aA e 9),(10,aA e 10)] h x:=RB
def vR:ACode:=.pr [3] (.seq (rg [mV 23 3,
mV 2 23] [2])
.ret)
def z3g (C:Hd)(gl:GL)(v3:AV)(h:bA)(x:Esc)(K:KT):Prop:=
 K .ret ⟨[(2,v3)],h,x⟩
theorem zhS {C gl e h x K}:NW C gl vR ⟨e,h,x⟩ K=z3g C gl (aA e 3) h x K:=by kernel_rfl
def z0a (q1 q2:ACode):ACode:=(.seq (rg [uO 1 (.box 0),
mV 2 (.c (.nilm))] [1])
(.seq (rg [uO 6 (.mkmap),
mV 3 6] [1,3])
(.seq (.seq (rg [fA 7 1 none 1,
lD 8 none 7,
lN 9 8,
mV 10 (cI 0)] [3,8,9,10])
(.block 0 (.loop (.scope q1))))
q2)))
def PO:AFun:=⟨1,[.t 2],z0a RK vR,false,false⟩
def KP (C:Hd)(gl:GL)(q1 q2:ACode)(v0:AV)(h:bA)(x:Esc)(K:KT):Prop:=
 wK (qB v0 h) fun t1 h2 y3=>
 mmK h2 fun t4 h5 y6=>
 pK (oA 1 none t1) fun t7=>
 pK (kA none t7 h5) fun t8=>
 pK (yA t8) fun t9=>
 NW C gl (.loop (.scope q1)) ⟨[(3,t4),(8,t8),(9,t9),(10,(AI 0))],h5,(y6++(y3++x))⟩ (wA 0 (OA C gl q2 K))
theorem z9E {C gl q1 q2 v0 h x K}:NW C gl (z0a q1 q2) ⟨enter [v0],h,x⟩ K=KP C gl q1 q2 v0 h x K:=by kernel_rfl
theorem zhQ {C gl v0 h x K}:NW C gl PO.body ⟨enter [v0],h,x⟩ K=KP C gl RK vR v0 h x K:=z9E
def QK:ACode:=.pr [3,7,8,9] (.seq (rg [bN 10 .lss 9 8] [3,7,8,9,10])
(.seq (.cond 10 .skip
(.exit 0))
(.seq (.block 1 (.seq (rg [iA 11 (some 3) 7 9,
lD 12 (some 3) 11,
uO 5 (.alloc [.p (.str []),.p (.str []),.p (.str [])]),
wO (.store (some 3) 5 12)] [3,5,7,8,9])
(rg [mV 13 3,
fA 14 0 none 5,
lD 15 none 14,
uO 16 (.bsl false none 1 (.str []) [(0,15)]),
uO 17 (.app none 13 16),
mV 3 17] [3,7,8,9])))
(rg [bN 18 .add 9 (cI 1),
mV 9 18] [3,7,8,9]))))
def z3d (C:Hd)(gl:GL)(v3 v7 v8 v9:AV)(h:bA)(x:Esc)(K:KT):Prop:=
 pK (eA .lss v9 v8) fun t1=>
 nA t1 (pK (uA (some 3) v7 v9 h) fun t2=>
 pK (kA (some 3) t2 h) fun t3=>
 alK [.p (.str []),.p (.str []),.p (.str [])] h fun t4 h5 y6=>
 wK (RA (some 3) t4 t3 h5) fun t7 h8 y9=>
 pK (oA 0 none t4) fun t10=>
 pK (kA none t10 h8) fun t11=>
 wK (aB false none 1 (.str []) [(0,t11)] h8) fun t12 h13 y14=>
 wK (WC none v3 t12 h13) fun t15 h16 y17=>
 pK (eA .add v9 (AI 1)) fun t18=>
 K .normal ⟨[(3,t15),(7,v7),(8,v8),(9,t18)],h16,(y17++(y14++(y9++(y6++x))))⟩)
 (K (.exit 0) ⟨[(3,v3),(7,v7),(8,v8),(9,v9),(10,t1)],h,x⟩)
theorem zhO {C gl e h x K}:NW C gl QK ⟨e,h,x⟩ K=z3d C gl (aA e 3) (aA e 7) (aA e 8) (aA e 9) h x K:=by kernel_rfl
theorem zm0 {C gl e h x K}:NW C gl (.loop (.scope QK)) ⟨e,h,x⟩ K=FA C gl (.scope QK) K [(3,aA e 3),(7,aA e 7),(8,aA e 8),(9,aA e 9)] h x:=RB
def uR:ACode:=.pr [3] (.seq (rg [mV 19 3,
cL 20 aG [19],
mV 2 20] [2])
.ret)
def z3e (C:Hd)(gl:GL)(v3:AV)(h:bA)(x:Esc)(K:KT):Prop:=
 C aG [v3] h fun t1 h2 y3=>
 K .ret ⟨[(2,t1)],h2,(y3++x)⟩
theorem zhP {C gl e h x K}:NW C gl uR ⟨e,h,x⟩ K=z3e C gl (aA e 3) h x K:=by kernel_rfl
def ZZ (q1 q2:ACode):ACode:=(.seq (rg [uO 1 (.box 0),
mV 2 (.c (.p (.sl none [])))] [1])
(.seq (rg [uO 3 (.new0 none)] [1,3])
(.seq (.seq (rg [fA 6 1 none 1,
lD 7 none 6,
lN 8 7,
mV 9 (cI 0)] [3,7,8,9])
(.block 0 (.loop (.scope q1))))
q2)))
def OO:AFun:=⟨1,[.t 2],ZZ QK uR,false,true⟩
def JP (C:Hd)(gl:GL)(q1 q2:ACode)(v0:AV)(h:bA)(x:Esc)(K:KT):Prop:=
 wK (qB v0 h) fun t1 h2 y3=>
 nwK none h2 fun t4 h5 y6=>
 pK (oA 1 none t1) fun t7=>
 pK (kA none t7 h5) fun t8=>
 pK (yA t8) fun t9=>
 NW C gl (.loop (.scope q1)) ⟨[(3,t4),(7,t8),(8,t9),(9,(AI 0))],h5,(y6++(y3++x))⟩ (wA 0 (OA C gl q2 K))
theorem z9D {C gl q1 q2 v0 h x K}:NW C gl (ZZ q1 q2) ⟨enter [v0],h,x⟩ K=JP C gl q1 q2 v0 h x K:=by kernel_rfl
theorem zhN {C gl v0 h x K}:NW C gl OO.body ⟨enter [v0],h,x⟩ K=JP C gl QK uR v0 h x K:=z9D
end Go.Am
end
