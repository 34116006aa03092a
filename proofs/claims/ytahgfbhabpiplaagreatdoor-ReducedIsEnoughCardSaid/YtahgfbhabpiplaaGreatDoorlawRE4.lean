/- Texts of the proof, laid together: Am30, Am31, AmX, AmS, AmW, CodesA. -/
import GoSem.Extern.Table
import Derived.Laws.World
import Derived.KernelRfl
import Derived.Test.YtahgfbhabpiplaaGreatDoorlawRE3
set_option linter.all false
section
/- The abstract machine,part 30: the meaning of code in the new spelling,and that it is the old one. -/
set_option linter.unusedSimpArgs false
set_option linter.unusedVariables false
namespace Go.Am
def gV (v:AV)(b:Bool)(h:aA)(A:(AV→aA→Esc→Prop)→Prop)(k:AV→aA→Esc→Prop):Prop:=kH v b (A k) (k .skp h [])
def gP (v:AV)(b:Bool)(o:Option AV)(h:aA)(k:AV→aA→Esc→Prop):Prop:=gV v b h (fun k=>pK o fun u=>k u h []) k
def gM (v:AV)(b:Bool)(u:AV)(h:aA)(k:AV→aA→Esc→Prop):Prop:=gV v b h (fun k=>k u h []) k
def upB (b:Bool):Bool:=(fun(_:AV→Bool→Option AV→aA→(AV→aA→Esc→Prop)→Prop)=>b) gP
def gK (g:Option (Nat × Bool))(e:List (Nat × AV))(h:aA)(A:(AV→aA→Esc→Prop)→Prop)(k:AV→aA→Esc→Prop):Prop:=match g with
 | none=>A k
 | some (t,b)=>gV (bA e t) b h A k
def opC (C:Hd)(o:AO)(ev:Opd→AV)(h:aA)(k:AV→aA→Esc→Prop):Prop:=match o with
 | .call f args=>C f (ev1 ev args) h k
 | .callv f args=>uF C (ev f) (ev1 ev args) h k
 | .mnext sh xs=>match zG h sh (ev1 ev xs) with
  | some l=>l≠[]∧∀y∈l,k y.1 y.2 []
  | none=>False
 | o=>opN o ev h k
def GD (C:Hd)(gl:Nat→Option PV):List AOp→List (Nat×AV)→aA→Esc→(List (Nat×AV)→aA→Esc→Prop)→Prop
 | [],e,h,x,L=>L e h x
 | o::r,e,h,x,L=>gK o.guard e h (opC C o.op (Opd.ev gl e) h) fun v h' x'=>GD C gl r (put o.dst v e) h' (x'++x) L
variable {C:Hd} {gl:Nat→Option PV}
theorem z2w {o:AO}{d:Option Nat}{r:List AOp}{e:List (Nat × AV)}{h:aA}{x:Esc}{L:List (Nat × AV)→aA→Esc→Prop} :
 GA C gl (⟨d,none,o⟩::r) e h x L=opC C o (Opd.ev gl e) h (yH C gl r d e x L):=by
 cases hp:o.plain with
 | true=>
  rw[z4D hp,z2y hp];cases o <;> first|rfl|cases hp
 | false=>
  cases o <;> first|(cases hp;done)|skip
  all_goals first
   | (rw[BX,WE];rfl)
   | (rw[CX,WE];rfl)
   | (unfold GA opC;simp only[wanted,WE];rfl)
theorem IX:∀ (ops:List AOp) (e:List (Nat × AV)) (h:aA) (x:Esc) (L:List (Nat × AV)→aA→Esc→Prop),GA C gl ops e h x L=GD C gl ops e h x L
 | [],e,h,x,L=>rfl
 | ⟨d,g,o⟩::r,e,h,x,L=>by
  have ih:(fun(v:AV) (h':aA) (x':Esc)=>GD C gl r (put d v e) h' (x'++x) L)=yH C gl r d e x L:=by
   funext v h' x';rw[←IX r];rfl
  show _=gK g e h (opC C o (Opd.ev gl e) h) fun v h' x'=>GD C gl r (put d v e) h' (x'++x) L
  rw[ih];cases g with
  | none=>exact z2w
  | some tb=>
   obtain⟨t,b⟩:=tb;rw[EX,z2w];rfl
def opE (C:Hd)(o:AO)(ev:Opd→AV)(h:aA)(k:AV→aA→Esc→Prop):Prop:=match o with
 | .call f args=>KD C f (ev1 ev args) h k
 | .callv f args=>IJ C (ev f) (ev1 ev args) h k
 | .mnext _ _=>False
 | o=>opN o ev h k
def AF (still eff:Bool)(h h':aA)(y:Esc)(Q:Prop):Prop:=match upB eff with
 | true=>Q
 | false=>match still with
  | true=>Q
  | false=>(h'=h∧y=[])∧Q
def iH (C:Hd)(gl:Nat→Option PV)(q:AOp × List (Nat × AV) × AV)(g:aA):Prop:=
 gK q.1.guard q.2.1 g (opE C q.1.op (Opd.ev gl q.2.1) g) fun v1 h1 x1=>v1=q.2.2∧h1=g∧x1=[]
def wD (C:Hd)(gl:Nat→Option PV)(h:aA)(dn:aC)(Q:Prop):List Nat→Prop
 | []=>Q
 | j::r=>(match dn[j]? with|some q=>iH C gl q h|none=>False)∧wD C gl h dn Q r
def xD (C:Hd)(gl:Nat→Option PV)(o:AOp)(e:List (Nat × AV))(v:AV)(hs:List aA)(Q:Prop):List Nat→Prop
 | []=>Q
 | k::r=>(match hs[k]? with|some g=>iH C gl (o,e,v) g|none=>False)∧xD C gl o e v hs Q r
def uD (C:Hd)(gl:Nat→Option PV):List DOp→aC→List aA→List (Nat×AV)→aA→Esc→(List (Nat×AV)→aA→Esc→Prop)→Prop
 | [],_,_,e,h,x,L=>L e h x
 | o::r,dn,hs,e,h,x,L=>gK o.op.guard (zA (some o.rd) e) h (opE C o.op.op (Opd.ev gl (zA (some o.rd) e)) h) fun v h' y=>
  AF o.op.op.still o.eff h h' y (xD C gl o.op (zA (some o.rd) e) v hs (wD C gl h' dn (uD C gl r (dn++[(o.op,zA (some o.rd) e,v)]) (hs++[h]) (put o.op.dst v e) h' (y++x) L) o.again) o.early)
theorem z2x {o:AO}{d:Option Nat}{e:List (Nat × AV)}{h:aA}{R:AV→aA→Esc→Prop}:doK C gl ⟨d,none,o⟩ e h R=opE C o (Opd.ev gl e) h R:=by
 cases hp:o.plain with
 | true=>
  rw[z8W hp,z2y hp];cases o <;> first|rfl|cases hp
 | false=>
  cases o <;> first|(cases hp;done)|skip
  all_goals first
   | (rw[vZ,WE];rfl)
   | (rw[xZ,WE];rfl)
   | (unfold doK ADo opE;simp [wanted])
theorem z1s {o:AOp}{e:List (Nat × AV)}{h:aA}{R:AV→aA→Esc→Prop}:doK C gl o e h R=gK o.guard e h (opE C o.op (Opd.ev gl e) h) R:=by
 obtain⟨d,g,op⟩:=o;cases g with
 | none=>exact z2x
 | some tb=>
  obtain⟨t,b⟩:=tb;rw[yZ,z2x];rfl
theorem z34 {q:AOp × List (Nat × AV) × AV}{g:aA}:doS C gl q g=iH C gl q g:=by
 obtain⟨⟨d,gd,op⟩,e,v⟩:=q;rw[zZ,z1s];rfl
theorem fY {h:aA}{dn:aC}{Q:Prop}:∀{l:List Nat},wD C gl h dn Q l=(agK C gl h dn l∧Q)
 | []=>by simp [wD,agK]
 | j::r=>by
  unfold wD agK;rw[fY (l:=r)];cases dn[j]? with
  | none=>simp
  | some q=>simp only[z34,and_assoc]
theorem FZ {o:AOp}{e:List (Nat × AV)}{v:AV}{hs:List aA}{Q:Prop}:∀{l:List Nat},xD C gl o e v hs Q l=(eaK C gl o e v hs l∧Q)
 | []=>by simp [xD,eaK]
 | j::r=>by
  unfold xD eaK;rw[FZ (l:=r)];cases hs[j]? with
  | none=>simp
  | some q=>simp only[z34,and_assoc]
theorem z8X {o:AOp}(hs:o.op.still=true){e:List (Nat × AV)}{h:aA}{R:AV→aA→Esc→Prop}:doK C gl o e h (fun v h' y=>(h'=h∧y=[])∧R v h' y)=doK C gl o e h R:=by
 unfold doK;refine propext ⟨fun⟨v,h',y,H,_,r⟩=>⟨v,h',y,H,r⟩,fun⟨v,h',y,H,r⟩=>⟨v,h',y,H,z4A hs H,r⟩⟩
theorem GX:∀ (ds:List DOp) (dn:aC) (hs:List aA) (e:List (Nat × AV)) (h:aA) (x:Esc) (L:List (Nat × AV)→aA→Esc→Prop),pC C gl ds dn hs e h x L=uD C gl ds dn hs e h x L
 | [],dn,hs,e,h,x,L=>rfl
 | ⟨o,rd,eff,early,again⟩::r,dn,hs,e,h,x,L=>by
  rw[xX];show _=gK o.guard (zA (some rd) e) h (opE C o.op (Opd.ev gl (zA (some rd) e)) h) fun v h' y=>
   AF o.op.still eff h h' y (xD C gl o (zA (some rd) e) v hs (wD C gl h' dn (uD C gl r (dn++[(o,zA (some rd) e,v)]) (hs++[h]) (put o.dst v e) h' (y++x) L) again) early)
  rw[←z1s];have e1:qN C gl ⟨o,rd,eff,early,again⟩ r dn hs e h x L=fun v h' y=>(effK eff h h' y∧xD C gl o (zA (some rd) e) v hs (wD C gl h' dn (uD C gl r (dn++[(o,zA (some rd) e,v)]) (hs++[h]) (put o.dst v e) h' (y++x) L) again) early):=by
   funext v h' y
   rw[BZ,FZ,fY,←GX r]
  rw[e1];cases eff with
  | true=>
   congr 1;funext v h' y
   simp [effK,AF,upB]
  | false=>
   cases hs':o.op.still with
   | true=>
    have:=z8X (C:=C) (gl:=gl) (o:=o) hs' (e:=zA (some rd) e) (h:=h) (R:=fun v h' y=>xD C gl o (zA (some rd) e) v hs (wD C gl h' dn (uD C gl r (dn++[(o,zA (some rd) e,v)]) (hs++[h]) (put o.dst v e) h' (y++x) L) again) early)
    exact this
   | false=>rfl
def NW (C:Hd)(gl:Nat→Option PV):ACode→St→(Ex→St→Prop)→Prop
 | .skip,s,K=>K .normal s
 | .reg ops keep,s,K=>GD C gl ops s.env s.h s.esc fun e h x=>K .normal ⟨zA keep e,h,x⟩
 | .draw ds keep,s,K=>uD C gl ds [] [] s.env s.h s.esc fun e h x=>K .normal ⟨zA keep e,h,x⟩
 | .seq a b,s,K=>NW C gl a s fun e s'=>match e with
  | .normal=>NW C gl b s' K
  | .exit i=>K (.exit i) s'
  | .ret=>K .ret s'
 | .cond c a b,s,K=>NA (Opd.ev gl s.env c) (NW C gl a s K) (NW C gl b s K)
 | .condu c a b,s,K=>MJ (Opd.ev gl s.env c) (NW C gl a s K) (NW C gl b s K)
 | .det b,s,K=>NW C gl b s K
 | .block id b,s,K=>NW C gl b s fun e s'=>match e with
  | .normal=>K .normal s'
  | .exit i=>bif Nat.beq i id then K .normal s' else K (.exit i) s'
  | .ret=>K .ret s'
 | .loop b,s,K=>ALoop (NW C gl b) K s
 | .scope b,s,K=>NW C gl b ⟨s.env,s.h,[]⟩ fun e s'=>K e (WD s.h.length s.esc s')
 | .pr l b,s,K=>NW C gl b ⟨zA (some l) s.env,s.h,s.esc⟩ K
 | .exit id,s,K=>K (.exit id) s
 | .ret,s,K=>K .ret s
 | .bad,_,_=>False
theorem zC:∀ (c:ACode) (s:St) (K:Ex→St→Prop),AW C gl c s K=NW C gl c s K
 | .skip,s,K=>rfl
 | .reg ops keep,s,K=>IX _ _ _ _ _
 | .draw ds keep,s,K=>GX _ _ _ _ _ _ _
 | .seq a b,s,K=>by
  unfold AW NW;rw[zC a];congr 1;funext e s'
  cases e with
  | normal=>exact zC b s' K
  | _=>rfl
 | .cond c a b,s,K=>by
  unfold AW NW NA;rw[←zC a,←zC b];rfl
 | .condu c a b,s,K=>by
  unfold AW NW MJ;rw[←zC a,←zC b];rfl
 | .det b,s,K=>zC b s K
 | .block id b,s,K=>by
  unfold AW NW;rw[zC b];congr 1;funext e s'
  cases e with
  | exit i=>
   dsimp only;by_cases hi:i=id
   ·subst hi;simp
   ·rw[if_neg hi]
    have:Nat.beq i id=false:=by cases h:Nat.beq i id with|false=>rfl|true=>exact absurd (Nat.eq_of_beq_eq_true h) hi
    rw[this];rfl
  | _=>rfl
 | .loop b,s,K=>by
  show ALoop (AW C gl b) K s=ALoop (NW C gl b) K s
  rw[show AW C gl b=NW C gl b from funext fun s=>funext fun K=>zC b s K]
 | .scope b,s,K=>zC b _ _
 | .pr l b,s,K=>zC b _ _
 | .exit id,s,K=>rfl
 | .ret,s,K=>rfl
 | .bad,s,K=>rfl
end Go.Am
end
section
/- The abstract machine,part 31: words in which a function's code is printed,and the rules of computing over them. -/
set_option linter.unusedSimpArgs false
set_option linter.unusedVariables false
namespace Go.Am
variable {C:Hd} {gl:Nat→Option PV} {e:List (Nat × AV)} {h:aA} {x:Esc} {K:Ex→St→Prop} {s:St}
abbrev AI (n:Int):AV:=.p (.int .i64 n)
abbrev AB (b:Bool):AV:=.p (.bool b)
def TD (C:Hd)(gl:Nat→Option PV)(b:ACode)(K:Ex→St→Prop)(e:Ex)(s:St):Prop:=match e with
 | .normal=>NW C gl b s K
 | .exit i=>K (.exit i) s
 | .ret=>K .ret s
def eC (id:Nat)(K:Ex→St→Prop)(e:Ex)(s:St):Prop:=match e with
 | .normal=>K .normal s
 | .exit i=>bif Nat.beq i id then K .normal s else K (.exit i) s
 | .ret=>K .ret s
def nqK (sh:Option Sh)(l:List AV)(h:aA)(k:AV→aA→Esc→Prop):Prop:=match zG h sh l with
 | some l=>l≠[]∧∀y∈l,k y.1 y.2 []
 | none=>False
def nxK (i:AV)(h:aA)(k:AV→aA→Esc→Prop):Prop:=match VN h i with
 | some l=>l≠[]∧∀y∈l,k y.1 y.2 []
 | none=>False
def gv (gl:Nat→Option PV)(n:Nat):AV:=match gl n with|some v=>.vp v|none=>.und
theorem z3C {b:ACode}:TD C gl b K .normal s=NW C gl b s K:=(rfl)
theorem z3D {b:ACode}:TD C gl b K .ret s=K .ret s:=(rfl)
theorem wY {i:Nat}:eC i K .normal s=K .normal s:=(rfl)
theorem yY {i:Nat}:eC i K (.exit i) s=K .normal s:=by simp [eC]
theorem xY {i:Nat}:eC i K .ret s=K .ret s:=(rfl)
theorem qF {b:ACode}:NW C gl (.scope b) ⟨e,h,x⟩ K=NW C gl b ⟨e,h,[]⟩ (z39 h.length x K):=(rfl)
theorem z5f {c:ACode}{s s':St}(hs:s=s'):NW C gl c s K=NW C gl c s' K:=by rw[hs]
def EA (C:Hd)(gl:Nat→Option PV)(b:ACode)(K:Ex→St→Prop)(e:List (Nat × AV))(h:aA)(x:Esc):Prop:=ALoop (NW C gl b) K ⟨e,h,x⟩
theorem YA {l:List Nat}{b:ACode}:NW C gl (.loop (.pr l b)) ⟨e,h,x⟩ K=EA C gl (.pr l b) K (zA (some l) e) h x:=by
 show ALoop _ _ _=ALoop _ _ _
 exact AX (funext fun R=>by show NW C gl b _ R=NW C gl b _ R;dsimp only;rw[z2C])
theorem vD {l:List Nat}{b:ACode}:NW C gl (.loop (.scope (.pr l b))) ⟨e,h,x⟩ K=EA C gl (.scope (.pr l b)) K (zA (some l) e) h x:=by
 show ALoop _ _ _=ALoop _ _ _
 exact AX (funext fun R=>by show NW C gl b _ _=NW C gl b _ _;dsimp only;rw[z2C])
theorem z5e {b:ACode}{e e':List (Nat × AV)}{h h':aA}{x x':Esc}(h1:e=e')(h2:h=h')(h3:x=x'):EA C gl b K e h x=EA C gl b K e' h' x':=by rw[h1,h2,h3]
theorem LA {σ:Type}{b:ACode}(S:σ→St)(P:σ→Prop)(m:σ→Nat)(t0:σ)(hs:(⟨e,h,x⟩:St)=S t0)(h0:P t0)(hr:∀ t,P t→NW C gl b (S t) (TN S P m K t)):EA C gl b K e h x:=by
 show ALoop (NW C gl b) K _
 rw[hs];have key:∀n t,m t<n→P t→ALoop (NW C gl b) K (S t):=by
  intro n;induction n with
  | zero=>intro t h;omega
  | succ n ih=>
   intro t hm hp;refine .mk _ _ (hr t hp) (fun s' h'=>?_) (fun i s' h'=>h') (fun s' h'=>h')
   obtain⟨u,rfl,hu,hlt⟩:=h';exact ih u (by omega) hu
 exact key _ t0 (Nat.lt_succ_self _) h0
theorem DA {X:Ctx}{f:Nat}{F:AFun}{a asv:List AV}{h h1:aA}{P:jA}(hf:X.fn f=some F)(hr:F.byref=false)(hp:nA h a=some (asv,h1))(hl:asv.length=F.nparams)(hd:F.isDet=false:=by rfl)(hO:mC F.results=false:=by rfl) :
 eA X f a h P=NW (eA X) X.gl F.body ⟨enter asv,h1,[]⟩ (oA F.results F.keep h.length P):=by
 rw[zj2 hf hr hp hl hd hO,zC]
theorem HJ {X:Ctx}{f:Nat}{F:AFun}{a asv:List AV}{h h1:aA}{P:jA}(hf:X.fn f=some F)(hr:F.byref=false)(hp:nA h a=some (asv,h1))(hl:asv.length=F.nparams)(hd:F.isDet=true:=by rfl)(hO:mC F.results=false:=by rfl) :
 eA X f a h P = ∃v h' x,P v h' x∧NW (eA X) X.gl F.body ⟨enter asv,h1,[]⟩ (oA F.results F.keep h.length fun v1 h1 x1=>v1=v∧h1=h'∧x1=x):=by
 rw[zj4 hf hr hp hl hd hO];simp only[zC]
theorem AC {X:Ctx}{f:Nat}{F:AFun}{asv:List AV}{h:aA}{P:jA}(hf:X.fn f=some F)(hr:F.byref=true)(hl:asv.length=F.nparams)(hd:F.isDet=false:=by rfl)(hO:mC F.results=false:=by rfl) :
 eA X f asv h P=NW (eA X) X.gl F.body ⟨enter asv,h,[]⟩ (oA F.results F.keep h.length P):=by
 rw[zj0 hf hr hl hd hO,zC]
theorem FY {X:Ctx}{f:Nat}{F:AFun}{a asv:List AV}{h h1:aA}{P:jA}(hf:X.fn f=some F)(hr:F.byref=false)(hp:nA h a=some (asv,h1))(hl:asv.length=F.nparams)(hd:F.isDet=false:=by rfl)(hO:mC F.results=true:=by rfl) :
 eA X f a h P=NW (eA X) X.gl F.body ⟨enter asv,h1,[]⟩ (OK F.results h.length P):=by
 rw[zj3 hf hr hp hl hd hO,zC]
theorem GY {X:Ctx}{f:Nat}{F:AFun}{a asv:List AV}{h h1:aA}{P:jA}(hf:X.fn f=some F)(hr:F.byref=false)(hp:nA h a=some (asv,h1))(hl:asv.length=F.nparams)(hd:F.isDet=true:=by rfl)(hO:mC F.results=true:=by rfl) :
 eA X f a h P = ∃v h' x,P v h' x∧NW (eA X) X.gl F.body ⟨enter asv,h1,[]⟩ (OK F.results h.length fun v1 h1 x1=>v1=v∧h1=h'∧x1=x):=by
 rw[zj5 hf hr hp hl hd hO];simp only[zC]
theorem z26 {v:AV}{k:AV→Prop}:pK (some v) k=k v:=(rfl)
theorem z25 {k:AV→Prop}:pK none k=False:=(rfl)
theorem z4q {v:AV}{h:aA}{x:Esc}{k:AV→aA→Esc→Prop}:wK (some (v,h,x)) k=k v h x:=(rfl)
theorem z4o {k:AV→aA→Esc→Prop}:wK none k=False:=(rfl)
theorem zfg {p:Prop}[Decidable p]{a b:Option AV}{k:AV→Prop}:pK (if p then a else b) k=if p then pK a k else pK b k:=by split <;> rfl
theorem zkl {p:Prop}[Decidable p]{a b:Option (AV × aA × Esc)}{k:AV→aA→Esc→Prop}:wK (if p then a else b) k=if p then wK a k else wK b k:=by split <;> rfl
theorem zff {o o':Option AV}{k:AV→Prop}(h:o=o'):pK o k=pK o' k:=by rw[h]
theorem zkk {o o':Option (AV × aA × Esc)}{k:AV→aA→Esc→Prop}(h:o=o'):wK o k=wK o' k:=by rw[h]
theorem zcL {v v':AV}{b:Bool}{h:aA}{A:(AV→aA→Esc→Prop)→Prop}{k:AV→aA→Esc→Prop}(h1:v=v'):gV v b h A k=gV v' b h A k:=by rw[h1]
theorem zcK {v v':AV}{b:Bool}{o:Option AV}{h:aA}{k:AV→aA→Esc→Prop}(h1:v=v'):gP v b o h k=gP v' b o h k:=by rw[h1]
theorem zcJ {v v':AV}{b:Bool}{u:AV}{h:aA}{k:AV→aA→Esc→Prop}(h1:v=v'):gM v b u h k=gM v' b u h k:=by rw[h1]
section
variable {A:(AV→aA→Esc→Prop)→Prop} {o:Option AV} {u:AV} {k:AV→aA→Esc→Prop} {t b:Bool}
theorem z15:gV (.p (.bool true)) true h A k=A k:=(rfl)
theorem z13:gV (.p (.bool false)) false h A k=A k:=(rfl)
theorem z14:gV (.p (.bool false)) true h A k=k .skp h []:=(rfl)
theorem z12:gP (.p (.bool true)) true o h k=pK o fun v=>k v h []:=(rfl)
theorem z1y:gP (.p (.bool false)) false o h k=pK o fun v=>k v h []:=(rfl)
theorem z11:gP (.p (.bool true)) false o h k=k .skp h []:=(rfl)
theorem z1z:gP (.p (.bool false)) true o h k=k .skp h []:=(rfl)
theorem z10:gP .skp b o h k=k .skp h []:=(rfl)
theorem z1x:gM (.p (.bool true)) true u h k=k u h []:=(rfl)
theorem z1t:gM (.p (.bool false)) false u h k=k u h []:=(rfl)
theorem z1w:gM (.p (.bool true)) false u h k=k .skp h []:=(rfl)
theorem z1u:gM (.p (.bool false)) true u h k=k .skp h []:=(rfl)
theorem z1v:gM .skp b u h k=k .skp h []:=(rfl)
end
section
variable {k k':IntKind} {a b:Int} {sa sb:List UInt8}
theorem z6S:qA .add (.p (.int k a)) (.p (.int k b))=some (.p (.int k (k.wrap (a+b)))):=by simp [qA,iB,cC]
theorem z7i:qA .sub (.p (.int k a)) (.p (.int k b))=some (.p (.int k (k.wrap (a-b)))):=by simp [qA,iB,cC]
theorem z7a:qA .mul (.p (.int k a)) (.p (.int k b))=some (.p (.int k (k.wrap (a*b)))):=by simp [qA,iB,cC]
theorem z7e:qA .quo (.p (.int k a)) (.p (.int k b))=if b=0 then none else some (.p (.int k (k.wrap (a.tdiv b)))):=by simp [qA,iB,cC] <;> split <;> rfl
theorem z7f:qA .rem (.p (.int k a)) (.p (.int k b))=if b=0 then none else some (.p (.int k (a.tmod b))):=by simp [qA,iB,cC] <;> split <;> rfl
theorem z6T:qA .and (.p (.int k a)) (.p (.int k b))=some (.p (.int k (XC k a b))):=by simp [qA,iB,cC]
theorem z7d:qA .or (.p (.int k a)) (.p (.int k b))=some (.p (.int k (ior k a b))):=by simp [qA,iB,cC]
theorem z7j:qA .xor (.p (.int k a)) (.p (.int k b))=some (.p (.int k (WG k a b))):=by simp [qA,iB,cC]
theorem z6U:qA .andNot (.p (.int k a)) (.p (.int k b))=some (.p (.int k (UG k a b))):=by simp [qA,iB,cC]
theorem z6V:qA .eql (.p (.int k a)) (.p (.int k b))=some (.p (.bool (decide (a=b)))):=by simp [qA,iB,cC]
theorem z7b:qA .neq (.p (.int k a)) (.p (.int k b))=some (.p (.bool (!decide (a=b)))):=by simp [qA,iB,cC]
theorem z6Z:qA .lss (.p (.int k a)) (.p (.int k b))=some (.p (.bool (decide (a<b)))):=by simp [qA,iB,cC]
theorem z6Y:qA .leq (.p (.int k a)) (.p (.int k b))=some (.p (.bool (decide (a≤b)))):=by simp [qA,iB,cC]
theorem z6X:qA .gtr (.p (.int k a)) (.p (.int k b))=some (.p (.bool (decide (b<a)))):=by simp [qA,iB,cC]
theorem z6W:qA .geq (.p (.int k a)) (.p (.int k b))=some (.p (.bool (decide (b≤a)))):=by simp [qA,iB,cC]
theorem z7g:qA .shl (.p (.int k a)) (.p (.int k' b))=if b<0 then none else some (.p (.int k (NF k a b))):=by simp [qA,iB] <;> split <;> rfl
theorem z7h:qA .shr (.p (.int k a)) (.p (.int k' b))=if b<0 then none else some (.p (.int k (yD k a b))):=by simp [qA,iB] <;> split <;> rfl
theorem zjC:qA .add (.p (.str sa)) (.p (.str sb))=if sa.length+sb.length≤zD then some (.p (.str (sa++sb))) else none:=by simp [qA,iB,qH] <;> split <;> rfl
theorem zjD:qA .eql (.p (.str sa)) (.p (.str sb))=some (.p (.bool (decide (sa=sb)))):=by simp [qA,iB,qH]
theorem zke:oUn .neg (.p (.int k a))=some (.p (.int k (k.wrap (-a)))):=by simp [oUn,aun]
theorem zkf {t:Bool}:oUn .not (.p (.bool t))=some (.p (.bool !t)):=(rfl)
theorem convI {k':IntKind}:gI k (.p (.int k' a))=some (.p (.int k (k.wrap a))):=(rfl)
theorem zeS {i j:Nat}:eL (.ref i j)=some (.ref i j):=(rfl)
theorem zhY {t:Bool}{u v:AV}:TF (.p (.bool t)) u v=some (bif t then u else v):=(rfl)
theorem zes {sh:Sh}{xs:List PV}:YB (.p (.sl sh xs))=some (.p (.int .i64 xs.length)):=(rfl)
theorem zer {i g o l:Nat}:YB (.own i g o l)=some (.p (.int .i64 l)):=(rfl)
theorem zev:aL (.p (.str sa))=some (.p (.int .i64 sa.length)):=(rfl)
theorem ext_t {vs:List AV}{i:Nat}:aH (.tup vs) i=vs[i]?:=(rfl)
theorem zc7 {off i j:Nat}{sh:Sh}:RA off sh (.ref i j)=some (.ref i (j+off)):=(rfl)
def ldB (sh:Sh)(off:Nat):Option Obj→Option AV
 | some (.box cs)=>cut sh off cs
 | _=>none
def ldR (sh:Sh)(g i off:Nat):Option Obj→Option AV
 | some (.row _ xs _)=>if g=xs.length then((xs[i]?).bind (qB sh off)).map .p else none
 | _=>none
theorem ze2 {sh:Sh}{i j:Nat}:BA sh (.ref i j) h=ldB sh j h[i]?:=by unfold BA ldB;rfl
theorem z2a {sh:Sh}{i g m n:Nat}:BA sh (.rref i g m n) h=ldR sh g m n h[i]?:=by unfold BA ldR;rfl
theorem z2b {sh:Sh}{v:PV}:BA sh (.vp v) h=(qB sh 0 v).map .p:=(rfl)
theorem zeo {sh:Sh}{off:Nat}{cs:List AV}:ldB sh off (some (.box cs))=cut sh off cs:=(rfl)
theorem z1V {sh sh':Sh}{g i off fz:Nat}{xs:List PV}:ldR sh g i off (some (.row sh' xs fz))=if g=xs.length then((xs[i]?).bind (qB sh off)).map .p else none:=(rfl)
def stB (sh:Sh)(id off:Nat)(v:AV)(h:aA):Option Obj→Option (List AV)→Option (AV×aA×Esc)
 | some (.box cs),some vs=>if vs.length=gA sh∧off+vs.length≤cs.length then some (.und,h.set id (.box (splice cs off vs)),BF id cs v) else none
 | _,_=>none
theorem zjA {sh:Sh}{i j:Nat}{v:AV}:FC sh (.ref i j) v h=stB sh i j v h h[i]? v.cells:=by unfold FC stB;rfl
theorem zjv {sh:Sh}{id off:Nat}{v:AV}{cs vs:List AV}:stB sh id off v h (some (.box cs)) (some vs)=if vs.length=gA sh∧off+vs.length≤cs.length then some (.und,h.set id (.box (splice cs off vs)),BF id cs v) else none:=(rfl)
theorem zck {id:Nat}{cs:List AV}{v:AV}(h:MF cs=false):BF id cs v=GB id v:=by
 unfold BF;rw[h];rfl
theorem zdu {a:AV}{v:PV}:MF [a,.p v]=false:=(rfl)
theorem zdv {a:AV}{s:Sh}:MF [a,.sl0 s]=false:=(rfl)
theorem zdt {a:AV}{i j k l:Nat}:MF [a,.own i j k l]=false:=(rfl)
theorem zds {a b c:AV}{l:List AV}:MF (a::b::c::l)=false:=by unfold MF;split <;> first|rfl|(rename_i h;simp at h)
def stE (sh:Sh)(id i off fz:Nat)(rsh:Sh)(xs:List PV)(v:PV)(h1:aA):Option PV→Option (AV×aA×Esc)
 | some (.agg cs)=>if off+v.cells.length≤cs.length then some (.und,h1.set id (.row rsh (xs.set i (.agg (splice cs off v.cells))) fz),[]) else none
 | some _=>if off=0∧v.sc then some (.und,h1.set id (.row rsh (xs.set i v) fz),[]) else none
 | none=>none
def stO (sh:Sh)(id g i off:Nat)(v:PV)(h1:aA):Option Obj→Option (AV×aA×Esc)
 | some (.row rsh xs fz)=>if g=xs.length∧fz≤i∧v.cells.length=gA sh∧v.cells.all PV.sc then stE sh id i off fz rsh xs v h1 xs[i]? else none
 | _=>none
def stR (sh:Sh)(id g i off:Nat):Option (PV×aA)→Option (AV×aA×Esc)
 | some y=>stO sh id g i off y.1 y.2 y.2[id]?
 | none=>none
theorem zjB {sh:Sh}{id g i off:Nat}{x:AV}:FC sh (.rref id g i off) x h=stR sh id g i off (pur h x):=by
 unfold FC stR;cases pur h x with
 | none=>rfl
 | some y=>
  obtain⟨v,h1⟩:=y;dsimp only;unfold stO;cases h1[id]? with
  | none=>rfl
  | some o=>cases o <;> rfl
theorem zjz {sh:Sh}{id g i off:Nat}{v:PV}{h1:aA}:stR sh id g i off (some (v,h1))=stO sh id g i off v h1 h1[id]?:=(rfl)
theorem zjy {sh rsh:Sh}{id g i off fz:Nat}{v:PV}{h1:aA}{xs:List PV}:stO sh id g i off v h1 (some (.row rsh xs fz))=if g=xs.length∧fz≤i∧v.cells.length=gA sh∧v.cells.all PV.sc then stE sh id i off fz rsh xs v h1 xs[i]? else none:=(rfl)
theorem zjw {sh rsh:Sh}{id i off fz:Nat}{v:PV}{h1:aA}{xs:List PV}{k:IntKind}{n:Int}:stE sh id i off fz rsh xs v h1 (some (.int k n))=if off=0∧v.sc then some (.und,h1.set id (.row rsh (xs.set i v) fz),[]) else none:=(rfl)
theorem zjx {sh rsh:Sh}{id i off fz:Nat}{v:PV}{h1:aA}{xs:List PV}{s:List UInt8}:stE sh id i off fz rsh xs v h1 (some (.str s))=if off=0∧v.sc then some (.und,h1.set id (.row rsh (xs.set i v) fz),[]) else none:=(rfl)
def iaS (xs:List PV):Option Nat→Option AV
 | some k=>(xs[k]?).map .vp
 | none=>none
theorem zdf {sh:Sh}{xs:List PV}{i:AV}:vB sh (.p (.sl sh xs)) i h=iaS xs (WA i):=by
 unfold vB iaS;cases WA i <;> simp
theorem zdc {xs:List PV}{n:Nat}:iaS xs (some n)=(xs[n]?).map .vp:=(rfl)
def iaO (sh:Sh)(id g off len:Nat):Option Obj→Option Nat→Option AV
 | some (.row rsh xs _),some k=>if rsh=sh∧g=xs.length∧off+len≤xs.length∧k<len then some (.rref id g (off+k) 0) else none
 | _,_=>none
theorem zde {sh:Sh}{id g off len:Nat}{i:AV}:vB sh (.own id g off len) i h=iaO sh id g off len h[id]? (WA i):=by
 unfold vB iaO;cases WA i with
 | none=>dsimp only;cases h[id]? with
  | none=>rfl
  | some o=>cases o <;> rfl
 | some k=>dsimp only;cases h[id]? with
  | none=>rfl
  | some o=>cases o <;> rfl
theorem zdb {sh rsh:Sh}{id g off len k fz:Nat}{xs:List PV}:iaO sh id g off len (some (.row rsh xs fz)) (some k)=if rsh=sh∧g=xs.length∧off+len≤xs.length∧k<len then some (.rref id g (off+k) 0) else none:=(rfl)
theorem zdm {i:AV}:iI (.p (.str sa)) i=(WA i).bind fun n=>(sa[n]?).map fun b=>.p (.int .u8 b.toNat):=by
 unfold iI;cases WA i <;> rfl
end
theorem gY {z:List AV}{k:AV→aA→Esc→Prop}:alK z h k=k (.ref h.length 0) (h++[.box z]) []:=(rfl)
theorem z2u {sh:Sh}{k:AV→aA→Esc→Prop}:nwK sh h k=k (.own h.length 0 0 0) (h++[.row sh [] 0]) []:=(rfl)
theorem z2l {k:AV→aA→Esc→Prop}:mmK h k=k (.mp h.length) (h++[.amap [] 0]) []:=(rfl)
theorem z8N {A B:Prop}:MJ (.p (.bool false)) A B=B:=(rfl)
theorem z8M {A B:Prop}:MJ .anyb A B=(A∧B):=(rfl)
attribute [go_sem] z3C z3D wY yY xY qF z26 z25 z4q z4o zfg zkl z15 z13 z14 z12 z1y z11 z1z z10 z1x z1t z1w z1u z1v z6S z7i z7a z7e z7f z6T z7d z7j z6U z6V z7b z6Z z6Y z6X z6W z7g z7h zjC zjD zke zkf convI zeS zhY zes zer zev ext_t zc7 ze2 z2a z2b zeo z1V zjA zjv zjB zjz zjy zjw zjx zck zdu zdv zdt zds zdf zdc zde zdb zdm gY z2u z2l nF z33 upcB neqB lenB n64 sZ strB appB rds rd SF OB MK gE NK ZG YK RF z8N z8M VK dO VF oD eO OC fL OD bH XK WK YN oClr oMx oMn BD BE cO ZN bO ZK dL bL
attribute [go_sem ↓] z26 z25 z4q z4o z15 z13 z14 z12 z1y z11 z1z z10 z1x z1t z1w z1u z1v cZ bZ z3C z3D wY yY xY gY z2u z2l z2f z2e z2g z3A z0W z0X
attribute [congr] z5f z5e zff zkk zcL zcK zcJ
end Go.Am
end
section
/- The abstract machine,part X: the library's functions that have no Go text: comparing strings,finding a byte. -/
set_option linter.unusedSimpArgs false
set_option linter.unusedVariables false
namespace Go.Am
variable {P:Program}
structure ExtRow (P:Program) (f:Nat) (e:Array Value→Sem Value):Prop where
 row:∃fn,P.funcs[f]?=some fn∧fn.name ≠ "runtime.NumGoroutine" ∧ fn.body=none∧Extern.findNext fn=none∧Extern.find fn=some e
theorem ExtRow.run {f:Nat}{e:Array Value→Sem Value}(R:ExtRow P f e){us:Array Value}{w w':World}{x:Value}(he:(e us).run P w = .ok x w'):(callFunc f us).run P w = .ok (.value x) w':=by
 obtain⟨fn,h1,h2,h3,h4,h5⟩:=R.row;unfold callFunc;simp [h1,h2,h3,h4,h5,he]
theorem zl0 {f:Nat}{e:Array Value→Sem Value}(h:(match P.funcs[f]? with | some fn=>fn.name != "runtime.NumGoroutine" && fn.body.isNone&&(Extern.findNext fn).isNone | none=>false)=true)(h2:(P.funcs[f]?).bind Extern.find=some e):ExtRow P f e:=by
 cases hf:P.funcs[f]? with
 | none=>rw[hf]at h;cases h
 | some fn=>
  rw[hf]at h h2;simp only[Bool.and_eq_true,bne_iff_ne,ne_eq,Option.isNone_iff_eq_none]at h;exact⟨⟨fn,hf,h.1.1,h.1.2,h.2,h2⟩⟩
def eE (s:List UInt8)(c:UInt8):Int:=if s.findIdx (· == c)<s.length then(s.findIdx (· == c):Int) else -1
def TE:List UInt8→List UInt8→Int
 | [],[]=>0
 | [],_::_=>-1
 | _::_,[]=>1
 | a::asv,b::bs=>if a<b then -1 else if b<a then 1 else TE asv bs
theorem sY (s:List UInt8)(i:Nat):(⟨s.toArray⟩:ByteArray)[i]! = s.getD i 0:=by
 by_cases h:i<s.length
 ·rw[getElem!_pos (⟨s.toArray⟩:ByteArray) i h]
  show s.toArray[i]=_
  simp [h]
 ·rw[getElem!_neg (⟨s.toArray⟩:ByteArray) i h]
  simp [Nat.not_lt.1 h];rfl
theorem zcD (s:List UInt8)(c:UInt8):(match (List.range (⟨s.toArray⟩:ByteArray).size).find? fun i=>(⟨s.toArray⟩:ByteArray)[i]! == c with
 | some i=>(i:Int)
 | none=>-1)=eE s c:=by
 have hsz:(⟨s.toArray⟩:ByteArray).size=s.length:=rfl
 have hget:∀i,i<s.length→(⟨s.toArray⟩:ByteArray)[i]! = s.getD i 0:=by
  intro i hi;exact sY s i
 unfold eE;rw[hsz];by_cases h:s.findIdx (· == c)<s.length
 ·rw[if_pos h]
  have hf:(List.range s.length).find? (fun i=>(⟨s.toArray⟩:ByteArray)[i]! == c)=some (s.findIdx (· == c)):=by
   rw[List.find?_eq_some_iff_getElem];refine⟨?_,s.findIdx (· == c),by simpa using h,by simp,fun j hj=>?_⟩
   ·rw[hget _ h]
    have:=List.findIdx_getElem (w:=h);simpa [h] using this
   ·simp only[List.getElem_range]
    have hj':j<s.length:=by omega
    rw[hget _ hj'];have:=List.not_of_lt_findIdx hj;simpa [hj'] using this
  rw[hf]
 ·rw[if_neg h]
  have hf:(List.range s.length).find? (fun i=>(⟨s.toArray⟩:ByteArray)[i]! == c)=none:=by
   rw[List.find?_eq_none];intro i hi;rw[List.mem_range]at hi;rw[hget _ hi];intro hc;exact h (List.findIdx_lt_length_of_exists ⟨s[i],List.getElem_mem hi,by simpa [hi] using hc⟩)
  rw[hf]
theorem z8E:∀ (a b:List UInt8),Extern.BytealgCompare.cmp ⟨a.toArray⟩ ⟨b.toArray⟩=TE a b:=by
 have key:∀(a b:List UInt8),(match (List.range (min a.length b.length)).find? fun i=>a.getD i 0 != b.getD i 0 with
  | some i=>if a.getD i 0<b.getD i 0 then(-1:Int) else 1
  | none=>if a.length<b.length then -1 else if a.length>b.length then 1 else 0)=TE a b:=by
  intro a;induction a with
  | nil=>intro b;cases b <;> simp [TE]
  | cons x a ih=>
   intro b;cases b with
   | nil=>simp [TE]
   | cons y b=>
    have hm:min (x::a).length (y::b).length=min a.length b.length+1:=by simp only[List.length_cons];omega
    rw[hm,List.range_succ_eq_map,List.find?_cons];simp only[List.getD_cons_zero];by_cases hxy:x=y
    ·subst hxy
     have hlt:¬x<x:=UInt8.lt_irrefl x
     simp only[bne_self_eq_false,List.find?_map,TE,hlt,if_false];rw[←ih b];have hc:((fun i=>(x::a).getD i 0 != (x::b).getD i 0) ∘ Nat.succ)=fun i=>a.getD i 0 != b.getD i 0:=by
      funext i;simp
     rw[hc];cases (List.range (min a.length b.length)).find? fun i=>a.getD i 0 != b.getD i 0 with
     | none=>simp
     | some i=>simp
    ·have:(x != y)=true:=by simpa using hxy
     rw[this];simp only[TE,List.getD_cons_zero];by_cases h1:x<y
     ·simp [h1]
     ·have h2:y<x:=by
       rcases UInt8.lt_or_lt_of_ne (a:=x) (b:=y) hxy with h|h
       ·exact absurd h h1
       ·exact h
      simp [h1,h2]
 intro a b;rw[←key a b];unfold Extern.BytealgCompare.cmp;have sa:(⟨a.toArray⟩:ByteArray).size=a.length:=rfl
 have sb:(⟨b.toArray⟩:ByteArray).size=b.length:=rfl
 simp only[sa,sb,sY];generalize List.find? _ _=q;cases q <;> rfl
def HH (fi fc:Nat)(f:Nat)(vs:List PV):Option PV:=
 bif Nat.beq f fi then(match vs with
  | [.str s,.int .u8 c]=>some (.int .i64 (eE s (UInt8.ofNat c.toNat)))
  | _=>none)
 else bif Nat.beq f fc then(match vs with
  | [.str a,.str b]=>some (.int .i64 (TE a b))
  | _=>none)
 else none
theorem extF_ok {fi fc:Nat}(h1:ExtRow P fi Extern.BytealgIndexByte.indexByte)(h2:ExtRow P fc Extern.BytealgCompare.compare){f:Nat}{vs:List PV}{r:PV}(h:HH fi fc f vs=some r):FX P f vs r:=by
 intro M w us hM hl hr;unfold HH at h;cases e1:Nat.beq f fi with
 | true=>
  rw[e1]at h;have e:=Nat.eq_of_beq_eq_true e1
  subst e;simp only[cond_true]at h;split at h
  ·rename_i s c
   injection h with h
   subst h;match us,hl with
   | [u,v],_=>
    have q1:=hr 0 _ u rfl rfl
    have q2:=hr 1 _ v rfl rfl
    cases q1;cases q2
    refine⟨.int .i64 (eE s (UInt8.ofNat c.toNat)),w,h1.run ?_,WExt.refl w,.int _ _⟩;rw[←zcD];show(match (List.range (⟨s.toArray⟩:ByteArray).size).find? fun i=>(⟨s.toArray⟩:ByteArray)[i]! == UInt8.ofNat c.toNat with|some i=>(pure (goInt i):Sem Value)|none=>pure (goInt (-1))).run P w=_
    generalize List.find? _ _=q;cases q <;> rfl
  ·cases h
 | false=>
  rw[e1]at h;simp only[cond_false]at h;cases e2:Nat.beq f fc with
  | true=>
   rw[e2]at h;have e:=Nat.eq_of_beq_eq_true e2
   subst e;simp only[cond_true]at h;split at h
   ·rename_i a b
    injection h with h
    subst h;match us,hl with
    | [u,v],_=>
     have q1:=hr 0 _ u rfl rfl
     have q2:=hr 1 _ v rfl rfl
     cases q1;cases q2
     refine⟨.int .i64 (TE a b),w,h2.run ?_,WExt.refl w,.int _ _⟩;rw[←z8E];rfl
   ·cases h
  | false=>rw[e2]at h;cases h
theorem zco {X:Ctx}{f:Nat}{asv:List AV}{vs:List PV}{h h1:aA}{r:PV}{K:jA}(hf:X.fn f=none)(h2:X.ex2 f asv h=none)(hp:nA h asv=some (vs.map .p,h1))(hu:unp (vs.map AV.p)=some vs)(hx:X.ext f vs=some r):eA X f asv h K=K (.p r) h1 []:=by
 refine propext (eA.eq (eA.fold ?_) K);unfold IB;simp only[hf,h2,hp,hu,hx];exact⟨trivial,trivial,trivial⟩
structure GrowRow (P:Program) (f:Nat) (sh:Sh):Prop where
 enter:∀us w,(callFunc f us).run P w = .ok (.enter f us) w
 room:∀a w,Calls P f #[.slice a 0 0,.int .i64 0] w fun e w'=>e = .returned (.slice a 0 0)∧w'=w
 grow:∀a (n:Nat) w,0<n→n≤1048576→Calls P f #[.slice a 0 0,.int .i64 n] w fun e w'=>∃G cs E,e = .returned (.slice (some ⟨w.heap.size,0,none⟩) 0 G)∧cs.size=G*gA sh∧w'=w.drew.alloc (.cells cs E)
def YH:List (Nat × Sh)→Nat→List AV→aA→Option (AV × aA × Esc)
 | [],_,_,_=>none
 | (g,sh)::r,f,asv,h=>bif Nat.beq f g then(match asv with
  | [.sl0 _,.p (.int .i64 n)]=>bif decide (0≤n)&&decide (n≤1048576) then some (.own h.length 0 0 0,h++[.row sh [] 0],[]) else none
  | _=>none) else YH r f asv h
theorem z1F {gl:Nat→Option PV}:∀(gs:List (Nat×Sh)),(∀g sh,(g,sh)∈gs→GrowRow P g sh)→∀{f:Nat} {asv:List AV} {h:aA} {v:AV} {h':aA} {x:Esc},YH gs f asv h=some (v,h',x) →
 EB P gl f asv h fun v1 h1 x1=>v1=v∧h1=h'∧x1=x
 | [],_,f,asv,h,v,h',x,H=>by cases H
 | (g,sh)::r,hg,f,asv,h,v,h',x,H=>by
  unfold YH at H;cases e1:Nat.beq f g with
  | false=>
   rw[e1]at H;exact z1F r (fun g sh hm=>hg g sh (by simp [hm])) H
  | true=>
   rw[e1]at H;have e:=Nat.eq_of_beq_eq_true e1
   subst e;have R:=hg f sh (by simp)
   simp only[cond_true]at H;split at H
   ·rename_i sh' n
    cases hb:(decide (0≤n)&&decide (n≤1048576)) with
    | false=>rw[hb]at H;cases H
    | true=>
     rw[hb]at H;simp only[cond_true,Option.some.injEq,Prod.mk.injEq]at H;obtain⟨rfl,rfl,rfl⟩:=H;simp only[Bool.and_eq_true,decide_eq_true_eq]at hb;intro μ w vs Hh Hg hl hr;match vs,hl with
     | [u1,u2],_=>
      have q1:=hr 0 _ u1 rfl rfl
      have q2:=(hr 1 _ u2 rfl rfl).p_inv
      cases q1;cases q2
      obtain⟨m,hm⟩:=Int.eq_ofNat_of_zero_le hb.1;subst hm;refine .inl ⟨R.enter _,?_⟩;rcases Nat.eq_zero_or_pos m with h0|h0
      ·subst h0
       refine(R.room _ w).mono fun e w' he=>?_
       obtain⟨rfl,rfl⟩:=he;obtain⟨n1,n2⟩:=UK Hh sh;refine⟨_,_,_,_,⟨rfl,rfl,rfl⟩,?_,n1,n2,mA.push (by simp [Obj.top])⟩
       exact .own h.length 0 0 0 _ 0 sh [] 0 none (Nat.le_refl _) (by simp) (by rw[←Hh.len];simp) (by simp) (by simp) (fun _=>rfl)
      ·refine(R.grow _ m w h0 (by omega)).mono fun e w' he=>?_
       obtain⟨G,cs,E,rfl,hcs,rfl⟩:=he;have hw:WExt w (w.drew.alloc (.cells cs E)):=(WExt.drew w _).trans (WExt.push _ _)
       obtain⟨n1,n2⟩:=QF (sh:=sh) (xs:=[]) Hh hw (b:=w.heap.size) (n:=cs.size) (Nat.le_refl _) (by show w.heap.size<(w.heap.push _).size;simp) (c:=cs) (QA.push (w:=w.drew) cs E) (by simp) (by simp) (by simp)
       refine⟨_,_,_,_,⟨rfl,rfl,rfl⟩,?_,n1,n2,mA.push (by simp [Obj.top])⟩
       refine .own h.length 0 0 0 _ G sh [] 0 (some (w.heap.size,cs.size)) (Nat.zero_le _) (by simp) (by rw[←Hh.len];simp) (by simp) (by simp) (fun _=>?_)
       exact .inr ⟨by simp,by simp [hcs]⟩
   ·cases H
end Go.Am
end
section
/- Short words for the printed code. -/
set_option linter.all false
namespace Go.Am
instance {n:Nat}:OfNat Opd n:=⟨.t n⟩
abbrev GL:=Nat→Option PV
abbrev KT:=Ex→St→Prop
def cI (n:Int):Opd:=.c (.p (.int .i64 n))
def cT:Opd:=.c (.p (.bool true))
def cF:Opd:=.c (.p (.bool false))
def cS (s:List UInt8):Opd:=.c (.p (.str s))
def uO (d:Nat)(o:AO):AOp:=⟨some d,none,o⟩
def wO (o:AO):AOp:=⟨none,none,o⟩
def gD (d g:Nat)(b:Bool)(o:AO):AOp:=⟨some d,some (g,b),o⟩
def mV (d:Nat)(x:Opd):AOp:=⟨some d,none,.mv x⟩
def bN (d:Nat)(b:BinOp)(x y:Opd):AOp:=⟨some d,none,.bin b x y⟩
def cL (d f:Nat)(l:List Opd):AOp:=⟨some d,none,.call f l⟩
def lD (d:Nat)(s:Sh)(x:Opd):AOp:=⟨some d,none,.load s x⟩
def iA (d:Nat)(s:Sh)(x y:Opd):AOp:=⟨some d,none,.iaddr s x y⟩
def fA (d o:Nat)(s:Sh)(x:Opd):AOp:=⟨some d,none,.faddr o s x⟩
def sT (d:Nat)(s:Sh)(x y:Opd):AOp:=⟨some d,none,.store s x y⟩
def lN (d:Nat)(x:Opd):AOp:=⟨some d,none,.len x⟩
def eX (d:Nat)(x:Opd)(i:Nat):AOp:=⟨some d,none,.ext x i⟩
def dF (o:AOp)(l:List Nat):DOp:=⟨o,l,false,[],[]⟩
def dT (o:AOp)(l:List Nat):DOp:=⟨o,l,true,[],[]⟩
def dA (o:AOp)(l:List Nat)(e:Bool)(a b:List Nat):DOp:=⟨o,l,e,a,b⟩
def rg (l:List AOp)(k:List Nat):ACode:=.reg l (some k)
def dr (l:List DOp)(k:List Nat):ACode:=.draw l (some k)
end Go.Am
end
section
/- A function's formula,computed out of its code. -/
set_option linter.all false
namespace Go.Am
abbrev En:=List (Nat × AV)
variable {C:Hd} {gl:Nat→Option PV} {e:En} {h h':aA} {x y:Esc} {K:Ex→St→Prop} {s:St} {L:En→aA→Esc→Prop} {k:AV→aA→Esc→Prop} {ev:Opd→AV} {r:List AOp} {q:List DOp} {dn:aC} {hs:List aA} {Q:Prop}
abbrev Sf (C:Hd)(gl:Nat→Option PV)(c:ACode)(e:En)(h:aA)(x:Esc)(K:Ex→St→Prop):Type:={P:Prop // NW C gl c ⟨e,h,x⟩ K=P}
def gO (G:AO→(Opd→AV)→aA→(AV→aA→Esc→Prop)→Prop)(t:AV)(g:Bool)(o:AO)(ev:Opd→AV)(h:aA)(k:AV→aA→Esc→Prop):Prop:=gV t g h (G o ev h) k
theorem agetB {e:En}{n m:Nat}{v:AV}:bA ((n,v)::e) m=match Nat.beq n m with|true=>v|false=>bA e m:=by
 show(if n=m then v else bA e m)=_
 cases hb:Nat.beq n m with
 | true=>rw[if_pos (Nat.eq_of_beq_eq_true hb)]
 | false=>rw[if_neg (Nat.ne_of_beq_eq_false hb)]
theorem wA:(∀ {C:Hd} {gl:GL} {e:En} {h:aA} {x:Esc} {K:KT} {l:List Nat} {b:ACode},NW C gl (.pr l b) ⟨e,h,x⟩ K=NW C gl b ⟨zA (some l) e,h,x⟩ K) ∧
 (∀{C:Hd} {gl:GL} {K:KT} {s:St} {a b:ACode},NW C gl (.seq a b) s K=NW C gl a s (TD C gl b K)) ∧
 (∀{C:Hd} {gl:GL} {K:KT} {s:St} {i:Nat} {b:ACode},NW C gl (.block i b) s K=NW C gl b s (eC i K)) ∧
 (∀{C:Hd} {gl:GL} {e:En} {h:aA} {x:Esc} {K:KT} {c:Opd} {a b:ACode},NW C gl (.cond c a b) ⟨e,h,x⟩ K=NA (Opd.ev gl e c) (NW C gl a ⟨e,h,x⟩ K) (NW C gl b ⟨e,h,x⟩ K)) ∧
 (∀{C:Hd} {gl:GL} {e:En} {h:aA} {x:Esc} {K:KT} {c:Opd} {a b:ACode},NW C gl (.condu c a b) ⟨e,h,x⟩ K=MJ (Opd.ev gl e c) (NW C gl a ⟨e,h,x⟩ K) (NW C gl b ⟨e,h,x⟩ K)) ∧
 (∀{C:Hd} {gl:GL} {K:KT} {s:St} {b:ACode},NW C gl (.det b) s K=NW C gl b s K) ∧
 (∀{C:Hd} {gl:GL} {K:KT} {s:St},NW C gl .skip s K=K .normal s) ∧
 (∀{C:Hd} {gl:GL} {K:KT} {s:St} {i:Nat},NW C gl (.exit i) s K=K (.exit i) s) ∧
 (∀{C:Hd} {gl:GL} {K:KT} {s:St},NW C gl .ret s K=K .ret s) ∧
 (∀{C:Hd} {gl:GL} {K:KT} {s:St},NW C gl .bad s K=False) ∧
 (∀{C:Hd} {gl:GL} {e:En} {h:aA} {x:Esc} {K:KT} {l:List AOp} {o:List Nat},NW C gl (.reg l (some o)) ⟨e,h,x⟩ K=GD C gl l e h x fun e h x=>K .normal ⟨zA (some o) e,h,x⟩) ∧
 (∀{C:Hd} {gl:GL} {e:En} {h:aA} {x:Esc} {K:KT} {l:List AOp},NW C gl (.reg l none) ⟨e,h,x⟩ K=GD C gl l e h x fun e h x=>K .normal ⟨e,h,x⟩) ∧
 (∀{C:Hd} {gl:GL} {e:En} {h:aA} {x:Esc} {K:KT} {l:List DOp} {o:List Nat},NW C gl (.draw l (some o)) ⟨e,h,x⟩ K=uD C gl l [] [] e h x fun e h x=>K .normal ⟨zA (some o) e,h,x⟩) ∧
 (∀{C:Hd} {gl:GL} {e:En} {h:aA} {x:Esc} {K:KT} {l:List DOp},NW C gl (.draw l none) ⟨e,h,x⟩ K=uD C gl l [] [] e h x fun e h x=>K .normal ⟨e,h,x⟩) ∧
 (∀{C:Hd} {gl:GL} {e:En} {h:aA} {x:Esc} {L:En→aA→Esc→Prop},GD C gl [] e h x L=L e h x) ∧
 (∀{C:Hd} {gl:GL} {e:En} {h:aA} {x:Esc} {L:En→aA→Esc→Prop} {r:List AOp} {d:Option Nat} {o:AO},GD C gl (⟨d,none,o⟩::r) e h x L=opC C o (Opd.ev gl e) h fun v h' x'=>GD C gl r (put d v e) h' (x'++x) L) ∧
 (∀{C:Hd} {gl:GL} {e:En} {h:aA} {x:Esc} {L:En→aA→Esc→Prop} {r:List AOp} {d:Option Nat} {t:Nat} {b:Bool} {o:AO},GD C gl (⟨d,some (t,b),o⟩::r) e h x L=gO (opC C) (bA e t) b o (Opd.ev gl e) h fun v h' x'=>GD C gl r (put d v e) h' (x'++x) L) ∧
 (∀{C:Hd} {gl:GL} {e:En} {h:aA} {x:Esc} {L:En→aA→Esc→Prop} {dn:aC} {hs:List aA},uD C gl [] dn hs e h x L=L e h x) ∧
 (∀{C:Hd} {gl:GL} {e:En} {h:aA} {x:Esc} {L:En→aA→Esc→Prop} {q:List DOp} {dn:aC} {hs:List aA} {d:Option Nat} {o:AO} {rd a b:List Nat} {f:Bool},uD C gl (⟨⟨d,none,o⟩,rd,f,a,b⟩::q) dn hs e h x L=opE C o (Opd.ev gl (zA (some rd) e)) h fun v h' y=>
  AF o.still f h h' y (xD C gl ⟨d,none,o⟩ (zA (some rd) e) v hs (wD C gl h' dn (uD C gl q (dn++[(⟨d,none,o⟩,zA (some rd) e,v)]) (hs++[h]) (put d v e) h' (y++x) L) b) a)) ∧
 (∀{C:Hd} {gl:GL} {e:En} {h:aA} {x:Esc} {L:En→aA→Esc→Prop} {q:List DOp} {dn:aC} {hs:List aA} {d:Option Nat} {t:Nat} {g:Bool} {o:AO} {rd a b:List Nat} {f:Bool},uD C gl (⟨⟨d,some (t,g),o⟩,rd,f,a,b⟩::q) dn hs e h x L=gO (opE C) (bA (zA (some rd) e) t) g o (Opd.ev gl (zA (some rd) e)) h fun v h' y=>
  AF o.still f h h' y (xD C gl ⟨d,some (t,g),o⟩ (zA (some rd) e) v hs (wD C gl h' dn (uD C gl q (dn++[(⟨d,some (t,g),o⟩,zA (some rd) e,v)]) (hs++[h]) (put d v e) h' (y++x) L) b) a)) ∧
 (∀{h':aA} {h:aA} {y:Esc} {Q:Prop} {b:Bool},AF b true h h' y Q=Q) ∧
 (∀{h':aA} {h:aA} {y:Esc} {Q:Prop},AF true false h h' y Q=Q) ∧
 (∀{h':aA} {h:aA} {y:Esc} {Q:Prop},AF false false h h' y Q=((h'=h∧y=[])∧Q)) ∧
 (∀{C:Hd} {gl:GL} {h:aA} {dn:aC} {Q:Prop},wD C gl h dn Q []=Q) ∧
 (∀{C:Hd} {gl:GL} {h:aA} {dn:aC} {Q:Prop} {j:Nat} {l:List Nat},wD C gl h dn Q (j::l)=((match dn[j]? with|some q=>iH C gl q h|none=>False)∧wD C gl h dn Q l)) ∧
 (∀{C:Hd} {gl:GL} {e:En} {hs:List aA} {Q:Prop} {o:AOp} {v:AV},xD C gl o e v hs Q []=Q) ∧
 (∀{C:Hd} {gl:GL} {e:En} {hs:List aA} {Q:Prop} {o:AOp} {v:AV} {j:Nat} {l:List Nat},xD C gl o e v hs Q (j::l)=((match hs[j]? with|some g=>iH C gl (o,e,v) g|none=>False)∧xD C gl o e v hs Q l)) ∧
 (∀{C:Hd} {gl:GL} {e:En} {d:Option Nat} {o:AO} {v:AV} {g:aA},iH C gl (⟨d,none,o⟩,e,v) g=opE C o (Opd.ev gl e) g fun v1 h1 x1=>v1=v∧h1=g∧x1=[]) ∧
 (∀{C:Hd} {gl:GL} {e:En} {d:Option Nat} {t:Nat} {b:Bool} {o:AO} {v:AV} {g:aA},iH C gl (⟨d,some (t,b),o⟩,e,v) g=gO (opE C) (bA e t) b o (Opd.ev gl e) g fun v1 h1 x1=>v1=v∧h1=g∧x1=[]) ∧
 (∀{e:En} {d:Nat} {v:AV},put (some d) v e=(d,v)::e) ∧
 (∀{e:En} {v:AV},put none v e=e) ∧
 (∀{e:En} {n:Nat} {l:List Nat},zA (some (n::l)) e=(n,bA e n)::zA (some l) e) ∧
 (∀{e:En},zA (some []) e=[]) ∧
 (∀{e:En} {n m:Nat} {v:AV},bA ((n,v)::e) m=match Nat.beq n m with|true=>v|false=>bA e m) ∧
 (∀{gl:GL} {e:En} {n:Nat},Opd.ev gl e (.t n)=bA e n) ∧
 (∀{gl:GL} {e:En} {v:AV},Opd.ev gl e (.c v)=v) ∧
 (∀{gl:GL} {e:En} {n:Nat},Opd.ev gl e (.f n) = .fn n []) ∧
 (∀{gl:GL} {e:En} {n:Nat},Opd.ev gl e (.g n)=gv gl n) ∧
 (∀{n:Nat},(OfNat.ofNat n:Opd) = .t n) ∧
 (∀{C:Hd} {h:aA} {k:AV→aA→Esc→Prop} {ev:Opd→AV} {a:Opd},opC C (.mnext none [a]) ev h k=nxK (ev a) h k) ∧
 (∀{C:Hd} {h:aA} {k:AV→aA→Esc→Prop} {ev:Opd→AV} {sh:Sh} {l:List Opd},opC C (.mnext (some sh) l) ev h k=nqK (some sh) (ev1 ev l) h k) ∧
 (∀{C:Hd} {h:aA} {k:AV→aA→Esc→Prop} {ev:Opd→AV} {f:Nat} {a:List Opd},opC C (.call f a) ev h k=C f (ev1 ev a) h k) ∧
 (∀{C:Hd} {h:aA} {k:AV→aA→Esc→Prop} {ev:Opd→AV} {f:Opd} {a:List Opd},opC C (.callv f a) ev h k=uF C (ev f) (ev1 ev a) h k) ∧
 (∀{C:Hd} {h:aA} {k:AV→aA→Esc→Prop} {ev:Opd→AV} {f:Nat} {a:List Opd},opE C (.call f a) ev h k=KD C f (ev1 ev a) h k) ∧
 (∀{C:Hd} {h:aA} {k:AV→aA→Esc→Prop} {ev:Opd→AV} {f:Opd} {a:List Opd},opE C (.callv f a) ev h k=IJ C (ev f) (ev1 ev a) h k) ∧
 (∀{ev:Opd→AV},ev1 ev []=[]) ∧
 (∀{ev:Opd→AV} {a:Opd} {l:List Opd},ev1 ev (a::l)=ev a::ev1 ev l) ∧
 (∀{ev:Opd→AV},ev2 ev []=[]) ∧
 (∀{ev:Opd→AV} {n:Nat} {a:Opd} {l:List (Nat×Opd)},ev2 ev ((n,a)::l)=(n,ev a)::ev2 ev l) ∧
 (∀{ev:Opd→AV},ev3 ev []=[]) ∧
 (∀{ev:Opd→AV} {n m:Nat} {a:Opd} {l:List (Nat×Nat×Opd)},ev3 ev ((n,m,a)::l)=(n,m,ev a)::ev3 ev l) ∧
 (∀{ev:Opd→AV},evO ev none=none) ∧
 (∀{ev:Opd→AV} {a:Opd},evO ev (some a)=some (ev a)):=
 ⟨(by intros;rfl),(by intros;rfl),(by intros;rfl),(by intros;rfl),(by intros;rfl),(by intros;rfl),(by intros;rfl),(by intros;rfl),(by intros;rfl),(by intros;rfl),(by intros;rfl),(by intros;rfl),(by intros;rfl),(by intros;rfl),(by intros;rfl),(by intros;rfl),(by intros;rfl),(by intros;rfl),(by intros;rfl),(by intros;rfl),(by intros;rfl),(by intros;rfl),(by intros;rfl),(by intros;rfl),(by intros;rfl),(by intros;rfl),(by intros;rfl),(by intros;rfl),(by intros;rfl),(by intros;rfl),(by intros;rfl),(by intros;rfl),(by intros;rfl),(by intro e n m v;exact agetB),(by intros;rfl),(by intros;rfl),(by intros;rfl),(by intros;rfl),(by intros;rfl),(by intros;rfl),(by intros;rfl),(by intros;rfl),(by intros;rfl),(by intros;rfl),(by intros;rfl),(by intros;rfl),(by intros;rfl),(by intros;rfl),(by intros;rfl),(by intros;rfl),(by intros;rfl),(by intros;rfl),(by intros;rfl)⟩
abbrev OpW (G:AO→(Opd→AV)→aA→(AV→aA→Esc→Prop)→Prop):Prop:=∀{ev:Opd→AV} {h:aA} {k:AV→aA→Esc→Prop},
 (∀{x},G (.mv x) ev h k=k (ev x) h [])∧(∀{c a b},G (.pick c a b) ev h k=pK (TF (ev c) (ev a) (ev b)) fun v=>k v h [])∧(∀{z},G (.alloc z) ev h k=alK z h k) ∧
 (∀{x},G (.box x) ev h k=wK (SF (ev x) h) k)∧(∀{z ps},G (.build z ps) ev h k=pK (OB z (ev3 ev ps)) fun v=>k v h [])∧(∀{o sh n z ps},G (.bsl o sh n z ps) ev h k=wK (gE o sh n z (ev2 ev ps) h) k) ∧
 (∀{sh a},G (.load sh a) ev h k=pK (BA sh (ev a) h) fun v=>k v h [])∧(∀{sh a x},G (.store sh a x) ev h k=wK (FC sh (ev a) (ev x) h) k)∧(∀{x},G (.nilchk x) ev h k=pK (eL (ev x)) fun v=>k v h []) ∧
 (∀{o x y},G (.bin o x y) ev h k=pK (qA o (ev x) (ev y)) fun v=>k v h [])∧(∀{l n x y},G (.eqa l n x y) ev h k=pK (ZG l n (ev x) (ev y)) fun v=>k v h [])∧(∀{n b x},G (.isnil n b x) ev h k=pK (YK n b (ev x)) fun v=>k v h []) ∧
 (∀{x},G (.mkif x) ev h k=pK (dO (ev x)) fun v=>k v h [])∧(∀{o x},G (.un o x) ev h k=pK (oUn o (ev x)) fun v=>k v h [])∧(∀{c x},G (.conv (.i c) x) ev h k=pK (gI c (ev x)) fun v=>k v h []) ∧
 (∀{f l},G (.mkfn f l) ev h k=k (.fn f (ev1 ev l)) h [])∧(∀{sh x a b c},G (.slice sh x a b c) ev h k=pK (OD sh (ev x) (evO ev a) (evO ev b) (evO ev c) h) fun v=>k v h [])∧(∀{x a b},G (.slstr x a b) ev h k=pK (fL (ev x) (evO ev a) (evO ev b)) fun v=>k v h []) ∧
 (∀{sh z a b},G (.mksl sh z a b) ev h k=wK (eO sh z (ev a) (ev b) h) k)∧(∀{o sh x},G (.faddr o sh x) ev h k=pK (RA o sh (ev x)) fun v=>k v h [])∧(∀{o sh x},G (.field o sh x) ev h k=pK (aO o sh (ev x)) fun v=>k v h []) ∧
 (∀{sh x i},G (.iaddr sh x i) ev h k=pK (vB sh (ev x) (ev i) h) fun v=>k v h [])∧(∀{n sh x i},G (.iaddra n sh x i) ev h k=pK (bH n sh (ev x) (ev i)) fun v=>k v h [])∧(∀{n sh x i},G (.idxa n sh x i) ev h k=pK (XK n sh (ev x) (ev i)) fun v=>k v h []) ∧
 (∀{x i},G (.idxs x i) ev h k=pK (iI (ev x) (ev i)) fun v=>k v h [])∧(∀{x i},G (.ext x i) ev h k=pK (aH (ev x) i) fun v=>k v h [])∧(∀{x},G (.len x) ev h k=pK (YB (ev x)) fun v=>k v h [])∧(∀{x},G (.lens x) ev h k=pK (aL (ev x)) fun v=>k v h []) ∧
 (∀{sh a x},G (.app sh a x) ev h k=wK (WK sh (ev a) (ev x) h) k)∧(∀{sh a x},G (.copy sh a x) ev h k=wK (YN sh (ev a) (ev x) h) k)∧(∀{m t l},G (.uns m t l) ev h k=wK (nF m t (ev1 ev l) h) k)∧(∀{sh z x},G (.clr sh z x) ev h k=wK (oClr sh z (ev x) h) k) ∧
 (∀{l},G (.mx l) ev h k=pK (oMx (ev1 ev l)) fun v=>k v h [])∧(∀{l},G (.mn l) ev h k=pK (oMn (ev1 ev l)) fun v=>k v h [])∧(∀{sh},G (.new0 sh) ev h k=nwK sh h k)∧(∀{x},G (.conv .s2b x) ev h k=wK (oD .s2b (ev x) h) k)∧(∀{x},G (.conv .b2s x) ev h k=wK (oD .b2s (ev x) h) k) ∧
 (∀{x},G (.conv .r2s x) ev h k=wK (oD .r2s (ev x) h) k)∧(∀{x},G (.conv .same x) ev h k=wK (oD .same (ev x) h) k)∧(G .mkmap ev h k=mmK h k)∧(∀{n o z x y},G (.look n o z x y) ev h k=pK (BD n o z (ev x) (ev y) h) fun v=>k v h [])∧(∀{n m y x},G (.mupd n m y x) ev h k=wK (BE n (ev m) (ev y) (ev x) h) k) ∧
 (∀{n z m y},G (.ment n z m y) ev h k=wK (cO n z (ev m) (ev y) h) k)∧(∀{m a x},G (.estore m a x) ev h k=wK (ZN (ev m) (ev a) (ev x) h) k)∧(∀{n m y},G (.mdel n m y) ev h k=wK (bO n (ev m) (ev y) h) k)∧(∀{x},G (.lenm x) ev h k=pK (ZK (ev x) h) fun v=>k v h []) ∧
 (∀{x},G (.mrange x) ev h k=wK (dL (ev x) h) k)∧(∀{i},G (.mentry i) ev h k=wK (bL (ev i) h) k)
theorem w_op:∀ G,(G=opC C∨G=opE C)→OpW G:=by
 rintro G (rfl|rfl) <;> refine fun {_ _ _}=>⟨?_,?_,?_,?_,?_,?_,?_,?_,?_,?_,?_,?_,?_,?_,?_,?_,?_,?_,?_,?_,?_,?_,?_,?_,?_,?_,?_,?_,?_,?_,?_,?_,?_,?_,?_,?_,?_,?_,?_,?_,?_,?_,?_,?_,?_,?_,?_,?_⟩ <;> intros <;> rfl
theorem w_oc:OpW (opC C):=w_op _ (.inl rfl)
theorem w_oe:OpW (opE C):=w_op _ (.inr rfl)
abbrev OpG (G:AO→(Opd→AV)→aA→(AV→aA→Esc→Prop)→Prop):Prop:=∀{t:AV} {g:Bool} {ev:Opd→AV} {h:aA} {k:AV→aA→Esc→Prop},
 (∀{x},gO G t g (.mv x) ev h k=gM t g (ev x) h k) ∧
 (∀{c a b},gO G t g (.pick c a b) ev h k=gP t g (TF (ev c) (ev a) (ev b)) h k) ∧
 (∀{z},gO G t g (.alloc z) ev h k=gV t g h (fun k=>alK z h k) k) ∧
 (∀{x},gO G t g (.box x) ev h k=gV t g h (fun k=>wK (SF (ev x) h) k) k) ∧
 (∀{z ps},gO G t g (.build z ps) ev h k=gP t g (OB z (ev3 ev ps)) h k) ∧
 (∀{o sh n z ps},gO G t g (.bsl o sh n z ps) ev h k=gV t g h (fun k=>wK (gE o sh n z (ev2 ev ps) h) k) k) ∧
 (∀{sh a},gO G t g (.load sh a) ev h k=gP t g (BA sh (ev a) h) h k) ∧
 (∀{sh a x},gO G t g (.store sh a x) ev h k=gV t g h (fun k=>wK (FC sh (ev a) (ev x) h) k) k) ∧
 (∀{x},gO G t g (.nilchk x) ev h k=gP t g (eL (ev x)) h k) ∧
 (∀{o x y},gO G t g (.bin o x y) ev h k=gP t g (qA o (ev x) (ev y)) h k) ∧
 (∀{l n x y},gO G t g (.eqa l n x y) ev h k=gP t g (ZG l n (ev x) (ev y)) h k) ∧
 (∀{n b x},gO G t g (.isnil n b x) ev h k=gP t g (YK n b (ev x)) h k) ∧
 (∀{x},gO G t g (.mkif x) ev h k=gP t g (dO (ev x)) h k) ∧
 (∀{o x},gO G t g (.un o x) ev h k=gP t g (oUn o (ev x)) h k) ∧
 (∀{c x},gO G t g (.conv (.i c) x) ev h k=gP t g (gI c (ev x)) h k) ∧
 (∀{f l},gO G t g (.mkfn f l) ev h k=gM t g (.fn f (ev1 ev l)) h k) ∧
 (∀{sh x a b c},gO G t g (.slice sh x a b c) ev h k=gP t g (OD sh (ev x) (evO ev a) (evO ev b) (evO ev c) h) h k) ∧
 (∀{x a b},gO G t g (.slstr x a b) ev h k=gP t g (fL (ev x) (evO ev a) (evO ev b)) h k) ∧
 (∀{sh z a b},gO G t g (.mksl sh z a b) ev h k=gV t g h (fun k=>wK (eO sh z (ev a) (ev b) h) k) k) ∧
 (∀{o sh x},gO G t g (.faddr o sh x) ev h k=gP t g (RA o sh (ev x)) h k) ∧
 (∀{o sh x},gO G t g (.field o sh x) ev h k=gP t g (aO o sh (ev x)) h k) ∧
 (∀{sh x i},gO G t g (.iaddr sh x i) ev h k=gP t g (vB sh (ev x) (ev i) h) h k) ∧
 (∀{n sh x i},gO G t g (.iaddra n sh x i) ev h k=gP t g (bH n sh (ev x) (ev i)) h k) ∧
 (∀{n sh x i},gO G t g (.idxa n sh x i) ev h k=gP t g (XK n sh (ev x) (ev i)) h k) ∧
 (∀{x i},gO G t g (.idxs x i) ev h k=gP t g (iI (ev x) (ev i)) h k) ∧
 (∀{x i},gO G t g (.ext x i) ev h k=gP t g (aH (ev x) i) h k) ∧
 (∀{x},gO G t g (.len x) ev h k=gP t g (YB (ev x)) h k) ∧
 (∀{x},gO G t g (.lens x) ev h k=gP t g (aL (ev x)) h k) ∧
 (∀{sh a x},gO G t g (.app sh a x) ev h k=gV t g h (fun k=>wK (WK sh (ev a) (ev x) h) k) k) ∧
 (∀{sh a x},gO G t g (.copy sh a x) ev h k=gV t g h (fun k=>wK (YN sh (ev a) (ev x) h) k) k) ∧
 (∀{m t2 l},gO G t g (.uns m t2 l) ev h k=gV t g h (fun k=>wK (nF m t2 (ev1 ev l) h) k) k) ∧
 (∀{sh z x},gO G t g (.clr sh z x) ev h k=gV t g h (fun k=>wK (oClr sh z (ev x) h) k) k) ∧
 (∀{l},gO G t g (.mx l) ev h k=gP t g (oMx (ev1 ev l)) h k) ∧
 (∀{l},gO G t g (.mn l) ev h k=gP t g (oMn (ev1 ev l)) h k) ∧
 (∀{sh},gO G t g (.new0 sh) ev h k=gV t g h (fun k=>nwK sh h k) k) ∧
 (∀{x},gO G t g (.conv .s2b x) ev h k=gV t g h (fun k=>wK (oD .s2b (ev x) h) k) k) ∧
 (∀{x},gO G t g (.conv .b2s x) ev h k=gV t g h (fun k=>wK (oD .b2s (ev x) h) k) k) ∧
 (∀{x},gO G t g (.conv .r2s x) ev h k=gV t g h (fun k=>wK (oD .r2s (ev x) h) k) k) ∧
 (∀{x},gO G t g (.conv .same x) ev h k=gV t g h (fun k=>wK (oD .same (ev x) h) k) k) ∧
 (gO G t g .mkmap ev h k=gV t g h (fun k=>mmK h k) k) ∧
 (∀{n o z x y},gO G t g (.look n o z x y) ev h k=gP t g (BD n o z (ev x) (ev y) h) h k) ∧
 (∀{n m y x},gO G t g (.mupd n m y x) ev h k=gV t g h (fun k=>wK (BE n (ev m) (ev y) (ev x) h) k) k) ∧
 (∀{n z m y},gO G t g (.ment n z m y) ev h k=gV t g h (fun k=>wK (cO n z (ev m) (ev y) h) k) k) ∧
 (∀{m a x},gO G t g (.estore m a x) ev h k=gV t g h (fun k=>wK (ZN (ev m) (ev a) (ev x) h) k) k) ∧
 (∀{n m y},gO G t g (.mdel n m y) ev h k=gV t g h (fun k=>wK (bO n (ev m) (ev y) h) k) k) ∧
 (∀{x},gO G t g (.lenm x) ev h k=gP t g (ZK (ev x) h) h k) ∧
 (∀{x},gO G t g (.mrange x) ev h k=gV t g h (fun k=>wK (dL (ev x) h) k) k) ∧
 (∀{i},gO G t g (.mentry i) ev h k=gV t g h (fun k=>wK (bL (ev i) h) k) k)
theorem w_og:∀ G,(G=opC C∨G=opE C)→OpG G:=by
 rintro G (rfl|rfl) <;> refine fun {_ _ _ _ _}=>⟨?_,?_,?_,?_,?_,?_,?_,?_,?_,?_,?_,?_,?_,?_,?_,?_,?_,?_,?_,?_,?_,?_,?_,?_,?_,?_,?_,?_,?_,?_,?_,?_,?_,?_,?_,?_,?_,?_,?_,?_,?_,?_,?_,?_,?_,?_,?_,?_⟩ <;> intros <;> rfl
theorem w_gc:OpG (opC C):=w_og _ (.inl rfl)
theorem w_ge:OpG (opE C):=w_og _ (.inr rfl)
theorem wG:(∀ {C:Hd} {t:AV} {g:Bool} {f:Nat} {a:List Opd} {ev:Opd→AV} {h:aA} {k:AV→aA→Esc→Prop},gO (opC C) t g (.call f a) ev h k=gV t g h (C f (ev1 ev a) h) k)∧(∀ {C:Hd} {t:AV} {g:Bool} {f:Opd} {a:List Opd} {ev:Opd→AV} {h:aA} {k:AV→aA→Esc→Prop},gO (opC C) t g (.callv f a) ev h k=gV t g h (uF C (ev f) (ev1 ev a) h) k) ∧
 (∀{C:Hd} {t:AV} {g:Bool} {f:Nat} {a:List Opd} {ev:Opd→AV} {h:aA} {k:AV→aA→Esc→Prop},gO (opE C) t g (.call f a) ev h k=gV t g h (KD C f (ev1 ev a) h) k)∧(∀{C:Hd} {t:AV} {g:Bool} {f:Opd} {a:List Opd} {ev:Opd→AV} {h:aA} {k:AV→aA→Esc→Prop},gO (opE C) t g (.callv f a) ev h k=gV t g h (IJ C (ev f) (ev1 ev a) h) k):=⟨rfl,rfl,rfl,rfl⟩
theorem wB:(∀ {α:Type} {l:List α},[]++l=l)∧(∀ {α:Type} {a:α} {l m:List α},a::l++m=a::(l++m))∧(∀ {α:Type} {a:α} {l:List α},(a::l)[0]?=some a)∧(∀ {α:Type} {a:α} {l:List α} {i:Nat},(a::l)[i+1]?=l[i]?) ∧
 (∀{C:Hd} {gl:GL} {b:ACode} {K:KT} {s:St},TD C gl b K .normal s=NW C gl b s K)∧(∀{C:Hd} {gl:GL} {b:ACode} {K:KT} {s:St} {i:Nat},TD C gl b K (.exit i) s=K (.exit i) s)∧(∀{C:Hd} {gl:GL} {b:ACode} {K:KT} {s:St},TD C gl b K .ret s=K .ret s) ∧
 (∀{i:Nat} {K:KT} {s:St},eC i K .normal s=K .normal s)∧(∀{i j:Nat} {K:KT} {s:St},eC i K (.exit j) s=match Nat.beq j i with|true=>K .normal s|false=>K (.exit j) s)∧(∀{i:Nat} {K:KT} {s:St},eC i K .ret s=K .ret s):=
 ⟨by intros;rfl,by intros;rfl,by intros;rfl,by intros;rfl,by intros;rfl,by intros;rfl,by intros;rfl,by intros;rfl,by intro i j K s;show(bif Nat.beq j i then _ else _)=_;cases Nat.beq j i <;> rfl,by intros;rfl⟩
theorem wS:(∀ {n:Int},cI n = .c (.p (.int .i64 n)))∧(cT = .c (.p (.bool true)))∧(cF = .c (.p (.bool false)))∧(∀ {l:List UInt8},cS l = .c (.p (.str l)))∧(∀ {d:Nat} {o:AO},uO d o=⟨some d,none,o⟩)∧(∀ {o:AO},wO o=⟨none,none,o⟩)∧(∀ {d g:Nat} {b:Bool} {o:AO},gD d g b o=⟨some d,some (g,b),o⟩)∧(∀ {d:Nat} {x:Opd},mV d x=⟨some d,none,.mv x⟩) ∧
 (∀{d:Nat} {b:BinOp} {x y:Opd},bN d b x y=⟨some d,none,.bin b x y⟩)∧(∀{d f:Nat} {l:List Opd},cL d f l=⟨some d,none,.call f l⟩)∧(∀{d:Nat} {s:Sh} {x:Opd},lD d s x=⟨some d,none,.load s x⟩)∧(∀{d:Nat} {s:Sh} {x y:Opd},iA d s x y=⟨some d,none,.iaddr s x y⟩)∧(∀{d o:Nat} {s:Sh} {x:Opd},fA d o s x=⟨some d,none,.faddr o s x⟩) ∧
 (∀{d:Nat} {s:Sh} {x y:Opd},sT d s x y=⟨some d,none,.store s x y⟩)∧(∀{d:Nat} {x:Opd},lN d x=⟨some d,none,.len x⟩)∧(∀{d:Nat} {x:Opd} {i:Nat},eX d x i=⟨some d,none,.ext x i⟩)∧(∀{o:AOp} {l:List Nat},dF o l=⟨o,l,false,[],[]⟩)∧(∀{o:AOp} {l:List Nat},dT o l=⟨o,l,true,[],[]⟩)∧(∀{o:AOp} {l:List Nat} {e:Bool} {a b:List Nat},dA o l e a b=⟨o,l,e,a,b⟩) ∧
 (∀{l:List AOp} {k:List Nat},rg l k = .reg l (some k))∧(∀{l:List DOp} {k:List Nat},dr l k = .draw l (some k)):=
 ⟨rfl,rfl,rfl,rfl,rfl,rfl,rfl,rfl,rfl,rfl,rfl,rfl,rfl,rfl,rfl,rfl,rfl,rfl,rfl,rfl,rfl⟩
def wZ:=And.intro wA (And.intro wB (And.intro @w_oc (And.intro @w_oe (And.intro @w_gc (And.intro @w_ge (And.intro wG wS))))))
end Go.Am
end
section
/- The functions asv abstract code,and asv formulas over their values: printed by program out of the translation. -/
set_option linter.all false
set_option maxRecDepth 100000
namespace Go.Am
def zI:ACode:=.pr [4,5,10,12,108,109,110] (.seq (rg [bN 111 .lss 110 109] [4,5,10,12,108,109,110,111])
(.seq (.cond 111 .skip
(.exit 0))
(.seq (.block 1 (.seq (rg [iA 112 none 108 110,
lD 113 none 112,
mV 17 113] [4,5,10,12,17,108,109,110])
(.seq (rg [mV 114 10,
mV 115 17,
cL 116 cE [114,115],
uO 117 (.un .not 116)] [4,5,10,12,108,109,110,117])
(.cond 117 (.seq (rg [mV 2 cF] [2])
.ret)
.skip))))
(rg [bN 118 .add 110 (cI 1),
mV 110 118] [4,5,10,12,108,109,110]))))
def QS (C:Hd)(gl:GL)(e:En)(h:aA)(x:Esc)(K:KT):Sf C gl zI e h x K:=⟨_,by simp only[zI,↓wZ,AO.still];rfl⟩
theorem zap {C gl e h x K}:NW C gl zI ⟨e,h,x⟩ K=(QS C gl e h x K).1:=(QS C gl e h x K).2
theorem zdJ {C gl e h x K}:NW C gl (.loop zI) ⟨e,h,x⟩ K=EA C gl zI K [(4,bA e 4),(5,bA e 5),(10,bA e 10),(12,bA e 12),(108,bA e 108),(109,bA e 109),(110,bA e 110)] h x:=YA
def BI:ACode:=.pr [5,10,12,18,20,21,119,120,121,125,126,127] (.seq (rg [bN 128 .lss 127 126] [5,10,12,18,20,21,119,120,121,125,126,127,128])
(.seq (.cond 128 .skip
(.exit 4))
(.seq (.block 5 (.seq (rg [iA 129 none 125 127,
lD 130 none 129,
mV 23 130] [5,10,12,18,20,21,23,119,120,121,125,126,127])
(.seq (.seq (rg [mV 131 23,
bN 132 .lss 131 (cI 0),
mV 133 132,
gD 134 133 false (.mv 23),
gD 135 133 false (.mv 20),
gD 136 133 false (.lens 135),
gD 137 133 false (.bin .geq 134 136),
uO 138 (.pick 133 cT 137)] [5,10,12,18,20,21,23,119,120,121,125,126,127,138])
(.cond 138 (.seq (rg [mV 2 cF] [2])
.ret)
.skip))
(rg [mV 139 21,
mV 140 20,
mV 141 23,
mV 142 23,
bN 143 .add 142 (cI 1),
uO 144 (.slstr 140 (some 141) (some 143)),
bN 145 .add 139 144,
mV 21 145] [5,10,12,18,20,21,119,120,121,125,126,127]))))
(rg [bN 146 .add 127 (cI 1),
mV 127 146] [5,10,12,18,20,21,119,120,121,125,126,127]))))
def RS (C:Hd)(gl:GL)(e:En)(h:aA)(x:Esc)(K:KT):Sf C gl BI e h x K:=⟨_,by simp only[BI,↓wZ,AO.still];rfl⟩
theorem zaq {C gl e h x K}:NW C gl BI ⟨e,h,x⟩ K=(RS C gl e h x K).1:=(RS C gl e h x K).2
theorem zdK {C gl e h x K}:NW C gl (.loop BI) ⟨e,h,x⟩ K=EA C gl BI K [(5,bA e 5),(10,bA e 10),(12,bA e 12),(18,bA e 18),(20,bA e 20),(21,bA e 21),(119,bA e 119),(120,bA e 120),(121,bA e 121),(125,bA e 125),(126,bA e 126),(127,bA e 127)] h x:=YA
def RO:ACode:=.pr [5,10,12,18,21,119,120,121] (rg [mV 147 18,
mV 148 21,
uO 149 (.bsl false none 1 (.str []) [(0,148)]),
uO 150 (.app none 147 149),
mV 18 150] [5,10,12,18,119,120,121])
def SS (C:Hd)(gl:GL)(e:En)(h:aA)(x:Esc)(K:KT):Sf C gl RO e h x K:=⟨_,by simp only[RO,↓wZ,AO.still];rfl⟩
theorem zar {C gl e h x K}:NW C gl RO ⟨e,h,x⟩ K=(SS C gl e h x K).1:=(SS C gl e h x K).2
def SO:ACode:=.pr [5,10,12,18,119,120,121] (rg [bN 151 .add 121 (cI 1),
mV 121 151] [5,10,12,18,119,120,121])
def TS (C:Hd)(gl:GL)(e:En)(h:aA)(x:Esc)(K:KT):Sf C gl SO e h x K:=⟨_,by simp only[SO,↓wZ,AO.still];rfl⟩
theorem zas {C gl e h x K}:NW C gl SO ⟨e,h,x⟩ K=(TS C gl e h x K).1:=(TS C gl e h x K).2
def DI:ACode:=.pr [5,10,12,18,119,120,121] (.seq (rg [bN 122 .lss 121 120] [5,10,12,18,119,120,121,122])
(.seq (.cond 122 .skip
(.exit 2))
(.seq (.block 3 (.seq (rg [iA 123 none 119 121,
lD 124 none 123,
mV 20 124] [5,10,12,18,20,119,120,121])
(.seq (rg [mV 21 (cS [])] [5,10,12,18,20,21,119,120,121])
(.seq (.seq (rg [mV 125 10,
lN 126 125,
mV 127 (cI 0)] [5,10,12,18,20,21,119,120,121,125,126,127])
(.block 4 (.loop BI)))
RO))))
SO)))
def US (C:Hd)(gl:GL)(e:En)(h:aA)(x:Esc)(K:KT):Sf C gl DI e h x K:=⟨_,by simp only[DI,↓wZ,AO.still];rfl⟩
theorem zat {C gl e h x K}:NW C gl DI ⟨e,h,x⟩ K=(US C gl e h x K).1:=(US C gl e h x K).2
theorem zdL {C gl e h x K}:NW C gl (.loop (.scope DI)) ⟨e,h,x⟩ K=EA C gl (.scope DI) K [(5,bA e 5),(10,bA e 10),(12,bA e 12),(18,bA e 18),(119,bA e 119),(120,bA e 120),(121,bA e 121)] h x:=vD
def TO:ACode:=.pr [5,12,18] (.seq (rg [mV 153 18,
mV 154 5,
cL 155 EF [153,154],
mV 152 155,
eX 156 152 0,
eX 157 152 1,
mV 24 156,
mV 25 157] [12,24,25])
(.seq (rg [mV 158 25,
bN 159 .eql 158 (cI 0),
mV 160 159,
gD 161 160 true (.mv 24),
gD 162 160 true (.mv 12),
gD 163 160 true (.call QH [161,162]),
uO 164 (.pick 160 163 cF),
mV 165 164,
gD 166 165 true (.call KG []),
uO 167 (.pick 165 166 cF),
mV 2 167] [2])
.ret))
def VS (C:Hd)(gl:GL)(e:En)(h:aA)(x:Esc)(K:KT):Sf C gl TO e h x K:=⟨_,by simp only[TO,↓wZ,AO.still];rfl⟩
theorem zau {C gl e h x K}:NW C gl TO ⟨e,h,x⟩ K=(VS C gl e h x K).1:=(VS C gl e h x K).2
def UO:ACode:=.pr [4,5,10,12] (.seq (rg [uO 18 (.new0 none)] [4,5,10,12,18])
(.seq (.seq (rg [mV 119 4,
lN 120 119,
mV 121 (cI 0)] [5,10,12,18,119,120,121])
(.block 2 (.loop (.scope DI))))
TO))
def TJ (C:Hd)(gl:GL)(e:En)(h:aA)(x:Esc)(K:KT):Sf C gl UO e h x K:=⟨_,by simp only[UO,↓wZ,AO.still];rfl⟩
theorem lU {C gl e h x K}:NW C gl UO ⟨e,h,x⟩ K=(TJ C gl e h x K).1:=(TJ C gl e h x K).2
def BV:ACode:=(.seq (rg [mV 2 cF] [0])
(.seq (rg [mV 26 0,
uO 27 (.build [.sl0 none,.p (.int .i64 0)] [(0,1,26)]),
uO 28 (.box 27),
mV 3 28] [3])
(.seq (rg [mV 29 3,
cL 30 rK [29],
mV 4 30] [3,4])
(.seq (rg [mV 31 3,
mV 32 4,
lN 33 32,
cL 34 oK [31,33],
mV 5 34] [4,5])
(.seq (.seq (rg [mV 35 4,
iA 36 none 35 (cI 0),
lD 37 none 36,
uO 38 (.lens 37),
bN 39 .gtr 38 (cI 10)] [4,5,39])
(.cond 39 (.seq (rg [cL 40 KG [],
mV 2 40] [2])
.ret)
.skip))
(.seq (rg [mV 42 4,
mV 43 5,
cL 44 eK [42,43],
mV 41 44,
eX 45 41 0,
eX 46 41 1,
mV 6 45,
mV 7 46] [4,5,6,7])
(.seq (rg [mV 48 4,
mV 49 5,
cL 50 dK [48,49],
mV 47 50,
eX 51 47 0,
eX 52 47 1,
mV 8 51,
mV 9 52] [4,5,6,7,8,9])
(.seq (rg [mV 54 4,
mV 55 5,
cL 56 fK [54,55],
mV 53 56,
eX 57 53 0,
eX 58 53 1,
mV 10 57,
mV 11 58] [4,5,6,7,8,9,10,11])
(.seq (rg [mV 60 4,
mV 61 5,
cL 62 EF [60,61],
mV 59 62,
eX 63 59 0,
eX 64 59 1,
mV 12 63,
mV 13 64] [4,5,6,7,8,9,10,11,12,13])
(.seq (rg [mV 66 6,
mV 67 5,
cL 68 EF [66,67],
mV 65 68,
eX 69 65 0,
eX 70 65 1,
mV 14 69,
mV 15 70] [4,5,6,7,8,9,10,11,12,13,14,15])
(.seq (.seq (rg [mV 71 7,
mV 72 9,
mV 73 11,
mV 74 13,
mV 75 15,
uO 76 (.bsl false none 5 (.int .i64 0) [(0,71),(1,72),(2,73),(3,74),(4,75)]),
cL 77 JG [76],
bN 78 .neq 77 (cI 0),
mV 79 78,
gD 80 79 false (.mv 6),
gD 81 79 false (.len 80),
gD 82 79 false (.mv 4),
gD 83 79 false (.len 82),
gD 84 79 false (.bin .neq 81 83),
uO 85 (.pick 79 cT 84),
mV 86 85,
gD 87 86 false (.mv 12),
gD 88 86 false (.mv 14),
gD 89 86 false (.call QH [87,88]),
gD 90 86 false (.un .not 89),
uO 91 (.pick 86 cT 90),
mV 92 91,
gD 93 92 false (.mv 10),
gD 94 92 false (.len 93),
gD 95 92 false (.mv 6),
gD 96 92 false (.iaddr none 95 (cI 0)),
gD 97 92 false (.load none 96),
gD 98 92 false (.lens 97),
gD 99 92 false (.bin .gtr 94 98),
uO 100 (.pick 92 cT 99),
mV 101 100,
gD 102 101 false (.mv 8),
gD 103 101 false (.len 102),
gD 104 101 false (.mv 10),
gD 105 101 false (.len 104),
gD 106 101 false (.bin .gtr 103 105),
uO 107 (.pick 101 cT 106)] [4,5,8,10,12,107])
(.cond 107 (.seq (rg [mV 2 cF] [2])
.ret)
.skip))
(.seq (.seq (rg [mV 108 8,
lN 109 108,
mV 110 (cI 0)] [4,5,10,12,108,109,110])
(.block 0 (.loop zI)))
UO))))))))))))
def IQ:AFun:=⟨1,[.t 2],BV,false,false⟩
def SJ (C:Hd)(gl:GL)(e:En)(h:aA)(x:Esc)(K:KT):Sf C gl BV e h x K:=⟨_,by simp only[BV,↓wZ,AO.still];rfl⟩
theorem zao {C gl v0 h x K}:NW C gl IQ.body ⟨enter [v0],h,x⟩ K=(SJ C gl [(0,v0)] h x K).1:=(SJ C gl [(0,v0)] h x K).2
def FI:ACode:=.pr [0,3,4,5,11,12,14,15] (.seq (rg [bN 16 .lss 15 14] [0,3,4,5,11,12,14,15,16])
(.seq (.cond 16 .skip
(.exit 2))
(.seq (.block 3 (rg [mV 17 5,
mV 18 0,
uO 19 (.bsl false none 2 (.str []) [(0,(cS [48])),(1,(cS [49]))]),
cL 20 JF [18,19],
bN 21 .add 17 20,
mV 5 21] [0,3,4,5,11,12,14,15]))
(rg [bN 22 .add 15 (cI 1),
mV 15 22] [0,3,4,5,11,12,14,15]))))
def aT (C:Hd)(gl:GL)(e:En)(h:aA)(x:Esc)(K:KT):Sf C gl FI e h x K:=⟨_,by simp only[FI,↓wZ,AO.still];rfl⟩
theorem za5 {C gl e h x K}:NW C gl FI ⟨e,h,x⟩ K=(aT C gl e h x K).1:=(aT C gl e h x K).2
theorem zdN {C gl e h x K}:NW C gl (.loop FI) ⟨e,h,x⟩ K=EA C gl FI K [(0,bA e 0),(3,bA e 3),(4,bA e 4),(5,bA e 5),(11,bA e 11),(12,bA e 12),(14,bA e 14),(15,bA e 15)] h x:=YA
def ZO:ACode:=.pr [0,3,4,5,11,12] (rg [mV 23 3,
mV 24 5,
uO 25 (.bsl false none 1 (.str []) [(0,24)]),
uO 26 (.app none 23 25),
mV 3 26] [0,3,4,11,12])
def bT (C:Hd)(gl:GL)(e:En)(h:aA)(x:Esc)(K:KT):Sf C gl ZO e h x K:=⟨_,by simp only[ZO,↓wZ,AO.still];rfl⟩
theorem za6 {C gl e h x K}:NW C gl ZO ⟨e,h,x⟩ K=(bT C gl e h x K).1:=(bT C gl e h x K).2
def aP:ACode:=.pr [0,3,4,11,12] (rg [bN 27 .add 12 (cI 1),
mV 12 27] [0,3,4,11,12])
def eT (C:Hd)(gl:GL)(e:En)(h:aA)(x:Esc)(K:KT):Sf C gl aP e h x K:=⟨_,by simp only[aP,↓wZ,AO.still];rfl⟩
theorem za7 {C gl e h x K}:NW C gl aP ⟨e,h,x⟩ K=(eT C gl e h x K).1:=(eT C gl e h x K).2
def GI:ACode:=.pr [0,3,4,11,12] (.seq (rg [bN 13 .lss 12 11] [0,3,4,11,12,13])
(.seq (.cond 13 .skip
(.exit 0))
(.seq (.block 1 (.seq (rg [mV 5 (cS [])] [0,3,4,5,11,12])
(.seq (.seq (rg [mV 14 4,
mV 15 (cI 0)] [0,3,4,5,11,12,14,15])
(.block 2 (.loop FI)))
ZO)))
aP)))
def fT (C:Hd)(gl:GL)(e:En)(h:aA)(x:Esc)(K:KT):Sf C gl GI e h x K:=⟨_,by simp only[GI,↓wZ,AO.still];rfl⟩
theorem za8 {C gl e h x K}:NW C gl GI ⟨e,h,x⟩ K=(fT C gl e h x K).1:=(fT C gl e h x K).2
theorem zdO {C gl e h x K}:NW C gl (.loop (.scope GI)) ⟨e,h,x⟩ K=EA C gl (.scope GI) K [(0,bA e 0),(3,bA e 3),(4,bA e 4),(11,bA e 11),(12,bA e 12)] h x:=vD
def HI:ACode:=.pr [0,3,50,51] (.seq (rg [bN 52 .lss 51 50] [0,3,50,51,52])
(.seq (.cond 52 .skip
(.exit 5))
(.seq (.block 6 (.seq (rg [mV 53 51,
mV 6 53] [0,3,6,50,51])
(rg [mV 54 3,
mV 55 6,
mV 56 0,
uO 57 (.bsl false none 3 (.str []) [(0,(cS [48])),(1,(cS [49])),(2,(cS [48,49]))]),
cL 58 JF [56,57],
mV 59 0,
cL 60 UC [59,(cI 0),(cI 1)],
bN 61 .add (cI 32) 60,
cL 62 VH [58,61],
mV 63 0,
cL 64 UC [63,(cI 0),(cI 32)],
cL 65 VH [(cS [49]),64],
bN 66 .add 62 65,
iA 67 none 54 55,
wO (.store none 67 66)] [0,3,50,51])))
(rg [bN 68 .add 51 (cI 1),
mV 51 68] [0,3,50,51]))))
def gT (C:Hd)(gl:GL)(e:En)(h:aA)(x:Esc)(K:KT):Sf C gl HI e h x K:=⟨_,by simp only[HI,↓wZ,AO.still];rfl⟩
theorem za9 {C gl e h x K}:NW C gl HI ⟨e,h,x⟩ K=(gT C gl e h x K).1:=(gT C gl e h x K).2
theorem zdP {C gl e h x K}:NW C gl (.loop HI) ⟨e,h,x⟩ K=EA C gl HI K [(0,bA e 0),(3,bA e 3),(50,bA e 50),(51,bA e 51)] h x:=YA
def bP:ACode:=.pr [3] (.seq (rg [mV 69 3,
mV 2 69] [2])
.ret)
def iT (C:Hd)(gl:GL)(e:En)(h:aA)(x:Esc)(K:KT):Sf C gl bP e h x K:=⟨_,by simp only[bP,↓wZ,AO.still];rfl⟩
theorem zaA {C gl e h x K}:NW C gl bP ⟨e,h,x⟩ K=(iT C gl e h x K).1:=(iT C gl e h x K).2
def cP:ACode:=.pr [0,3] (.seq (.block 4 (.seq (rg [mV 29 0,
cL 30 MD [29,(cI 20)],
mV 28 30] [0,3,28])
(.cond 28 (dr [dF (mV 31 3) [3],
dF (mV 32 0) [0],
dF (mV 33 3) [3],
dF (lN 34 33) [33],
dT (cL 35 kD [32,34]) [32,34],
dF (iA 36 none 31 35) [31,35],
dF (lD 37 none 36) [36],
dF (mV 38 0) [0],
dA (uO 39 (.bsl false none 2 (.str []) [(0,(cS [48])),(1,(cS [120]))])) [] false [4] [],
dA (cL 40 JF [38,39]) [38,39] true [] [5,6],
dF (bN 41 .add 37 40) [37,40],
dF (iA 42 none 31 35) [31,35],
dT (wO (.store none 42 41)) [42,41]] [3])
(.seq (rg [mV 44 0,
cL 45 MD [44,(cI 40)],
mV 43 45] [0,3,43])
(.cond 43 (.seq (rg [mV 2 (.c (.p (.sl none [])))] [2])
.ret)
(.seq (rg [mV 47 0,
cL 48 MD [47,(cI 40)],
mV 46 48] [0,3,46])
(.cond 46 (.seq (rg [mV 49 3,
lN 50 49,
mV 51 (cI 0)] [0,3,50,51])
(.block 5 (.loop HI)))
.skip)))))))
bP)
def jT (C:Hd)(gl:GL)(e:En)(h:aA)(x:Esc)(K:KT):Sf C gl cP e h x K:=⟨_,by simp only[cP,↓wZ,AO.still];rfl⟩
theorem zaB {C gl e h x K}:NW C gl cP ⟨e,h,x⟩ K=(jT C gl e h x K).1:=(jT C gl e h x K).2
def FV:ACode:=(.seq (rg [mV 2 (.c (.p (.sl none [])))] [0])
(.seq (rg [uO 3 (.new0 none)] [0,3])
(.seq (rg [mV 7 0,
uO 8 (.bsl false none 6 (.int .i64 0) [(0,(cI 0)),(1,(cI 1)),(2,(cI 2)),(3,(cI 3)),(4,(cI 4)),(5,(cI 5))]),
cL 9 ND [7,8],
mV 4 9] [0,3,4])
(.seq (.seq (rg [mV 10 0,
cL 11 UC [10,(cI 1),(cI 5)],
mV 12 (cI 0)] [0,3,4,11,12])
(.block 0 (.loop (.scope GI))))
cP))))
def LQ:AFun:=⟨1,[.t 2],FV,false,false⟩
def EM (C:Hd)(gl:GL)(e:En)(h:aA)(x:Esc)(K:KT):Sf C gl FV e h x K:=⟨_,by simp only[FV,↓wZ,AO.still];rfl⟩
theorem za4 {C gl v0 h x K}:NW C gl LQ.body ⟨enter [v0],h,x⟩ K=(EM C gl [(0,v0)] h x K).1:=(EM C gl [(0,v0)] h x K).2
def II:ACode:=.pr [0,1,5,8,9] (.seq (rg [bN 10 .lss 9 8] [0,1,5,8,9,10])
(.seq (.cond 10 .skip
(.exit 0))
(.seq (.block 1 (.seq (rg [mV 11 0,
mV 12 1,
cL 13 lK [11,12],
uO 6 (.alloc [.p (.int .i64 0),.sl0 none]),
wO (.store (some 2) 6 13)] [0,1,5,6,8,9])
(.seq (rg [fA 14 1 none 6,
lD 15 none 14,
cL 16 xK [15],
fA 17 1 none 6,
wO (.store none 17 16)] [0,1,5,6,8,9])
(rg [mV 18 5,
lD 19 (some 2) 6,
uO 20 (.bsl false (some 2) 1 (.agg [.int .i64 0,.sl none []]) [(0,19)]),
uO 21 (.app (some 2) 18 20),
mV 5 21] [0,1,5,8,9]))))
(rg [bN 22 .add 9 (cI 1),
mV 9 22] [0,1,5,8,9]))))
def kT (C:Hd)(gl:GL)(e:En)(h:aA)(x:Esc)(K:KT):Sf C gl II e h x K:=⟨_,by simp only[II,↓wZ,AO.still];rfl⟩
theorem zaD {C gl e h x K}:NW C gl II ⟨e,h,x⟩ K=(kT C gl e h x K).1:=(kT C gl e h x K).2
theorem zdQ {C gl e h x K}:NW C gl (.loop (.scope II)) ⟨e,h,x⟩ K=EA C gl (.scope II) K [(0,bA e 0),(1,bA e 1),(5,bA e 5),(8,bA e 8),(9,bA e 9)] h x:=vD
def dP:ACode:=.pr [5] (.seq (rg [mV 23 5,
mV 4 23] [4])
.ret)
def lT (C:Hd)(gl:GL)(e:En)(h:aA)(x:Esc)(K:KT):Sf C gl dP e h x K:=⟨_,by simp only[dP,↓wZ,AO.still];rfl⟩
theorem zaE {C gl e h x K}:NW C gl dP ⟨e,h,x⟩ K=(lT C gl e h x K).1:=(lT C gl e h x K).2
def GV:ACode:=(.seq (rg [mV 4 (.c (.p (.sl (some 2) [])))] [0,1])
(.seq (rg [uO 5 (.new0 (some 2))] [0,1,5])
(.seq (.seq (rg [mV 7 0,
cL 8 UC [7,(cI 0),(cI 6)],
mV 9 (cI 0)] [0,1,5,8,9])
(.block 0 (.loop (.scope II))))
dP)))
def MQ:AFun:=⟨2,[.t 4],GV,false,true⟩
def FM (C:Hd)(gl:GL)(e:En)(h:aA)(x:Esc)(K:KT):Sf C gl GV e h x K:=⟨_,by simp only[GV,↓wZ,AO.still];rfl⟩
theorem zaC {C gl v0 v1 h x K}:NW C gl MQ.body ⟨enter [v0,v1],h,x⟩ K=(FM C gl [(0,v0),(1,v1)] h x K).1:=(FM C gl [(0,v0),(1,v1)] h x K).2
def mO:ACode:=.pr [0,7,20,21,22] (rg [bN 32 .add 22 (cI 1),
mV 22 32] [0,7,20,21,22])
def YR (C:Hd)(gl:GL)(e:En)(h:aA)(x:Esc)(K:KT):Sf C gl mO e h x K:=⟨_,by simp only[mO,↓wZ,AO.still];rfl⟩
theorem z9p {C gl e h x K}:NW C gl mO ⟨e,h,x⟩ K=(YR C gl e h x K).1:=(YR C gl e h x K).2
def mI:ACode:=.pr [0,7,20,21,22] (.seq (rg [bN 23 .lss 22 21] [0,7,20,21,22,23])
(.seq (.cond 23 .skip
(.exit 0))
(.seq (.block 1 (.seq (rg [iA 24 none 20 22,
lD 25 none 24,
mV 9 25] [0,7,9,20,21,22])
(.seq (rg [mV 26 9,
cL 27 IG [26],
bN 28 .eql 27 (cI 1)] [0,7,9,20,21,22,28])
(.cond 28 (rg [mV 29 7,
mV 30 9,
bN 31 .or 29 30,
mV 7 31] [0,7,20,21,22])
.skip))))
mO)))
def ZR (C:Hd)(gl:GL)(e:En)(h:aA)(x:Esc)(K:KT):Sf C gl mI e h x K:=⟨_,by simp only[mI,↓wZ,AO.still];rfl⟩
theorem z9q {C gl e h x K}:NW C gl mI ⟨e,h,x⟩ K=(ZR C gl e h x K).1:=(ZR C gl e h x K).2
theorem zd3 {C gl e h x K}:NW C gl (.loop mI) ⟨e,h,x⟩ K=EA C gl mI K [(0,bA e 0),(7,bA e 7),(20,bA e 20),(21,bA e 21),(22,bA e 22)] h x:=YA
def nO:ACode:=.pr [7,10,36,37] (rg [bN 49 .add 37 (cI 1),
mV 37 49] [7,10,36,37])
def aS (C:Hd)(gl:GL)(e:En)(h:aA)(x:Esc)(K:KT):Sf C gl nO e h x K:=⟨_,by simp only[nO,↓wZ,AO.still];rfl⟩
theorem z9r {C gl e h x K}:NW C gl nO ⟨e,h,x⟩ K=(aS C gl e h x K).1:=(aS C gl e h x K).2
def nI:ACode:=.pr [7,10,36,37] (.seq (rg [bN 38 .lss 37 36] [7,10,36,37,38])
(.seq (.cond 38 .skip
(.exit 2))
(.seq (.block 3 (.seq (rg [mV 39 37,
mV 11 39] [7,10,11,36,37])
(.seq (rg [mV 40 7,
mV 41 11,
bN 42 .shr 40 41,
bN 43 .and 42 (.c (.p (.int .u64 1))),
bN 44 .eql 43 (.c (.p (.int .u64 1)))] [7,10,11,36,37,44])
(.cond 44 (rg [mV 45 10,
mV 46 11,
uO 47 (.bsl false none 1 (.int .i64 0) [(0,46)]),
uO 48 (.app none 45 47),
mV 10 48] [7,10,36,37])
.skip))))
nO)))
def bS (C:Hd)(gl:GL)(e:En)(h:aA)(x:Esc)(K:KT):Sf C gl nI e h x K:=⟨_,by simp only[nI,↓wZ,AO.still];rfl⟩
theorem z9s {C gl e h x K}:NW C gl nI ⟨e,h,x⟩ K=(bS C gl e h x K).1:=(bS C gl e h x K).2
theorem zd4 {C gl e h x K}:NW C gl (.loop (.scope nI)) ⟨e,h,x⟩ K=EA C gl (.scope nI) K [(7,bA e 7),(10,bA e 10),(36,bA e 36),(37,bA e 37)] h x:=vD
def oO:ACode:=.pr [10] (.seq (rg [mV 50 10,
mV 4 50,
mV 5 (cI 0)] [4,5])
.ret)
def dS (C:Hd)(gl:GL)(e:En)(h:aA)(x:Esc)(K:KT):Sf C gl oO e h x K:=⟨_,by simp only[oO,↓wZ,AO.still];rfl⟩
theorem z9t {C gl e h x K}:NW C gl oO ⟨e,h,x⟩ K=(dS C gl e h x K).1:=(dS C gl e h x K).2
def pO:ACode:=.pr [0,7] (.seq (rg [uO 10 (.new0 none)] [0,7,10])
(.seq (.seq (rg [mV 33 0,
iA 34 none 33 (cI 0),
lD 35 none 34,
uO 36 (.lens 35),
mV 37 (cI 0)] [7,10,36,37])
(.block 2 (.loop (.scope nI))))
oO))
def eS (C:Hd)(gl:GL)(e:En)(h:aA)(x:Esc)(K:KT):Sf C gl pO e h x K:=⟨_,by simp only[pO,↓wZ,AO.still];rfl⟩
theorem z9u {C gl e h x K}:NW C gl pO ⟨e,h,x⟩ K=(eS C gl e h x K).1:=(eS C gl e h x K).2
def fV:ACode:=(.seq (rg [mV 4 (.c (.p (.sl none []))),
mV 5 (cI 0)] [0,1])
(.seq (.seq (rg [mV 12 0,
mV 13 1,
cL 14 GF [12,13],
mV 6 14] [0,1,6])
(.seq (rg [mV 15 6,
bN 16 .neq 15 (cI 0)] [0,1,6,16])
(.cond 16 (.seq (rg [mV 17 6,
mV 4 (.c (.p (.sl none []))),
mV 5 17] [4,5])
.ret)
.skip)))
(.seq (rg [mV 7 (.c (.p (.int .u64 0)))] [0,1,7])
(.seq (.seq (rg [mV 18 0,
mV 19 1,
cL 20 HF [18,19],
lN 21 20,
mV 22 (cI 0)] [0,7,20,21,22])
(.block 0 (.loop mI)))
pO))))
def wQ:AFun:=⟨2,[.t 4,.t 5],fV,false,false⟩
def NJ (C:Hd)(gl:GL)(e:En)(h:aA)(x:Esc)(K:KT):Sf C gl fV e h x K:=⟨_,by simp only[fV,↓wZ,AO.still];rfl⟩
theorem z9o {C gl v0 v1 h x K}:NW C gl wQ.body ⟨enter [v0,v1],h,x⟩ K=(NJ C gl [(0,v0),(1,v1)] h x K).1:=(NJ C gl [(0,v0),(1,v1)] h x K).2
def qO:ACode:=.pr [0,7,8,9] (rg [mV 37 9,
bN 38 .sub 37 (cI 1),
mV 9 38] [0,7,8,9])
def fS (C:Hd)(gl:GL)(e:En)(h:aA)(x:Esc)(K:KT):Sf C gl qO e h x K:=⟨_,by simp only[qO,↓wZ,AO.still];rfl⟩
theorem z9w {C gl e h x K}:NW C gl qO ⟨e,h,x⟩ K=(fS C gl e h x K).1:=(fS C gl e h x K).2
def oI:ACode:=.pr [0,7,8,9] (.seq (.seq (rg [mV 35 9,
bN 36 .geq 35 (cI 0)] [0,7,8,9,36])
(.cond 36 .skip
(.exit 0)))
(.seq (.block 1 (.seq (rg [mV 39 8,
mV 40 9,
bN 41 .shl (.c (.p (.int .u64 1))) 40,
bN 42 .andNot 39 41,
mV 10 42] [0,7,8,9,10])
(.seq (rg [mV 43 7,
mV 44 10,
cL 45 FF [43,44]] [0,7,8,9,10,45])
(.cond 45 (rg [mV 46 10,
mV 8 46] [0,7,8,9])
.skip))))
qO))
def gS (C:Hd)(gl:GL)(e:En)(h:aA)(x:Esc)(K:KT):Sf C gl oI e h x K:=⟨_,by simp only[oI,↓wZ,AO.still];rfl⟩
theorem z9x {C gl e h x K}:NW C gl oI ⟨e,h,x⟩ K=(gS C gl e h x K).1:=(gS C gl e h x K).2
theorem zd5 {C gl e h x K}:NW C gl (.loop oI) ⟨e,h,x⟩ K=EA C gl oI K [(0,bA e 0),(7,bA e 7),(8,bA e 8),(9,bA e 9)] h x:=YA
def rO:ACode:=.pr [8,11,13,14,47,48,49,54,55] (rg [bN 69 .add 55 (cI 1),
mV 55 69] [8,11,13,14,47,48,49,54,55])
def iS (C:Hd)(gl:GL)(e:En)(h:aA)(x:Esc)(K:KT):Sf C gl rO e h x K:=⟨_,by simp only[rO,↓wZ,AO.still];rfl⟩
theorem z9y {C gl e h x K}:NW C gl rO ⟨e,h,x⟩ K=(iS C gl e h x K).1:=(iS C gl e h x K).2
def pI:ACode:=.pr [8,11,13,14,47,48,49,54,55] (.seq (rg [bN 56 .lss 55 54] [8,11,13,14,47,48,49,54,55,56])
(.seq (.cond 56 .skip
(.exit 4))
(.seq (.block 5 (.seq (rg [mV 57 55,
mV 15 57] [8,11,13,14,15,47,48,49,54,55])
(.seq (rg [mV 58 8,
mV 59 15,
bN 60 .shr 58 59,
bN 61 .and 60 (.c (.p (.int .u64 1))),
bN 62 .eql 61 (.c (.p (.int .u64 1)))] [8,11,13,14,15,47,48,49,54,55,62])
(.cond 62 (rg [mV 63 14,
mV 64 13,
mV 65 15,
uO 66 (.idxs 64 65),
uO 67 (.bsl false none 1 (.int .u8 0) [(0,66)]),
uO 68 (.app none 63 67),
mV 14 68] [8,11,13,14,47,48,49,54,55])
.skip))))
rO)))
def jS (C:Hd)(gl:GL)(e:En)(h:aA)(x:Esc)(K:KT):Sf C gl pI e h x K:=⟨_,by simp only[pI,↓wZ,AO.still];rfl⟩
theorem z9z {C gl e h x K}:NW C gl pI ⟨e,h,x⟩ K=(jS C gl e h x K).1:=(jS C gl e h x K).2
theorem zd6 {C gl e h x K}:NW C gl (.loop (.scope pI)) ⟨e,h,x⟩ K=EA C gl (.scope pI) K [(8,bA e 8),(11,bA e 11),(13,bA e 13),(14,bA e 14),(47,bA e 47),(48,bA e 48),(49,bA e 49),(54,bA e 54),(55,bA e 55)] h x:=vD
def sO:ACode:=.pr [8,11,14,47,48,49] (rg [mV 70 11,
mV 71 14,
uO 72 (.conv .b2s 71),
uO 73 (.bsl false none 1 (.str []) [(0,72)]),
uO 74 (.app none 70 73),
mV 11 74] [8,11,47,48,49])
def kS (C:Hd)(gl:GL)(e:En)(h:aA)(x:Esc)(K:KT):Sf C gl sO e h x K:=⟨_,by simp only[sO,↓wZ,AO.still];rfl⟩
theorem z90 {C gl e h x K}:NW C gl sO ⟨e,h,x⟩ K=(kS C gl e h x K).1:=(kS C gl e h x K).2
def tO:ACode:=.pr [8,11,47,48,49] (rg [bN 75 .add 49 (cI 1),
mV 49 75] [8,11,47,48,49])
def lS (C:Hd)(gl:GL)(e:En)(h:aA)(x:Esc)(K:KT):Sf C gl tO e h x K:=⟨_,by simp only[tO,↓wZ,AO.still];rfl⟩
theorem z91 {C gl e h x K}:NW C gl tO ⟨e,h,x⟩ K=(lS C gl e h x K).1:=(lS C gl e h x K).2
def qI:ACode:=.pr [8,11,47,48,49] (.seq (rg [bN 50 .lss 49 48] [8,11,47,48,49,50])
(.seq (.cond 50 .skip
(.exit 2))
(.seq (.block 3 (.seq (rg [iA 51 none 47 49,
lD 52 none 51,
mV 13 52] [8,11,13,47,48,49])
(.seq (rg [uO 14 (.new0 none)] [8,11,13,14,47,48,49])
(.seq (.seq (rg [mV 53 13,
uO 54 (.lens 53),
mV 55 (cI 0)] [8,11,13,14,47,48,49,54,55])
(.block 4 (.loop (.scope pI))))
sO))))
tO)))
def mS (C:Hd)(gl:GL)(e:En)(h:aA)(x:Esc)(K:KT):Sf C gl qI e h x K:=⟨_,by simp only[qI,↓wZ,AO.still];rfl⟩
theorem z92 {C gl e h x K}:NW C gl qI ⟨e,h,x⟩ K=(mS C gl e h x K).1:=(mS C gl e h x K).2
theorem zd7 {C gl e h x K}:NW C gl (.loop (.scope qI)) ⟨e,h,x⟩ K=EA C gl (.scope qI) K [(8,bA e 8),(11,bA e 11),(47,bA e 47),(48,bA e 48),(49,bA e 49)] h x:=vD
def vO:ACode:=.pr [11] (.seq (rg [mV 76 11,
mV 4 76,
mV 5 (cI 0)] [4,5])
.ret)
def nS (C:Hd)(gl:GL)(e:En)(h:aA)(x:Esc)(K:KT):Sf C gl vO e h x K:=⟨_,by simp only[vO,↓wZ,AO.still];rfl⟩
theorem z93 {C gl e h x K}:NW C gl vO ⟨e,h,x⟩ K=(nS C gl e h x K).1:=(nS C gl e h x K).2
def xO:ACode:=.pr [0,8] (.seq (rg [uO 11 (.new0 none)] [0,8,11])
(.seq (.seq (rg [mV 47 0,
lN 48 47,
mV 49 (cI 0)] [8,11,47,48,49])
(.block 2 (.loop (.scope qI))))
vO))
def oS (C:Hd)(gl:GL)(e:En)(h:aA)(x:Esc)(K:KT):Sf C gl xO e h x K:=⟨_,by simp only[xO,↓wZ,AO.still];rfl⟩
theorem z94 {C gl e h x K}:NW C gl xO ⟨e,h,x⟩ K=(oS C gl e h x K).1:=(oS C gl e h x K).2
def iV:ACode:=(.seq (rg [mV 4 (.c (.p (.sl none []))),
mV 5 (cI 0)] [0,1])
(.seq (.seq (rg [mV 16 0,
mV 17 1,
cL 18 GF [16,17],
mV 6 18] [0,1,6])
(.seq (rg [mV 19 6,
bN 20 .neq 19 (cI 0)] [0,1,6,20])
(.cond 20 (.seq (rg [mV 21 6,
mV 4 (.c (.p (.sl none []))),
mV 5 21] [4,5])
.ret)
.skip)))
(.seq (rg [mV 22 0,
mV 23 1,
cL 24 HF [22,23],
mV 7 24] [0,7])
(.seq (rg [mV 25 0,
iA 26 none 25 (cI 0),
lD 27 none 26,
uO 28 (.lens 27),
cL 29 uE [28],
mV 8 29] [0,7,8])
(.seq (.seq (rg [mV 30 0,
iA 31 none 30 (cI 0),
lD 32 none 31,
uO 33 (.lens 32),
bN 34 .sub 33 (cI 1),
mV 9 34] [0,7,8,9])
(.block 0 (.loop oI)))
xO)))))
def xQ:AFun:=⟨2,[.t 4,.t 5],iV,false,false⟩
def OJ (C:Hd)(gl:GL)(e:En)(h:aA)(x:Esc)(K:KT):Sf C gl iV e h x K:=⟨_,by simp only[iV,↓wZ,AO.still];rfl⟩
theorem z9v {C gl v0 v1 h x K}:NW C gl xQ.body ⟨enter [v0,v1],h,x⟩ K=(OJ C gl [(0,v0),(1,v1)] h x K).1:=(OJ C gl [(0,v0),(1,v1)] h x K).2
def yO:ACode:=.pr [7,8,9,36,37] (rg [bN 67 .add 37 (.c (.p (.int .u64 1))),
mV 37 67] [7,8,9,36,37])
def pS (C:Hd)(gl:GL)(e:En)(h:aA)(x:Esc)(K:KT):Sf C gl yO e h x K:=⟨_,by simp only[yO,↓wZ,AO.still];rfl⟩
theorem z96 {C gl e h x K}:NW C gl yO ⟨e,h,x⟩ K=(pS C gl e h x K).1:=(pS C gl e h x K).2
def rI:ACode:=.pr [7,8,9,36,37] (.seq (rg [bN 38 .lss 37 36] [7,8,9,36,37,38])
(.seq (.cond 38 .skip
(.exit 0))
(.seq (.block 1 (.seq (rg [mV 39 37,
mV 10 39] [7,8,9,10,36,37])
(.seq (rg [mV 40 10,
cL 41 IG [40],
mV 42 9,
cL 43 IG [42],
bN 44 .sub 41 43,
mV 11 44] [7,8,9,10,11,36,37])
(.seq (.seq (rg [mV 45 10,
mV 46 9,
bN 47 .xor 45 46,
mV 12 47] [7,8,9,10,11,12,36,37])
(.seq (rg [mV 48 11,
bN 49 .gtr 48 (cI 0),
mV 50 49,
gD 51 50 false (.mv 11),
gD 52 50 false (.bin .eql 51 (cI 0)),
gD 53 50 false (.mv 52),
gD 54 53 true (.mv 10),
gD 55 53 true (.mv 12),
gD 56 53 true (.mv 12),
gD 57 53 true (.un .neg 56),
gD 58 53 true (.bin .and 55 57),
gD 59 53 true (.bin .and 54 58),
gD 60 53 true (.bin .eql 59 (.c (.p (.int .u64 0)))),
gD 61 50 false (.pick 53 60 cF),
uO 62 (.pick 50 cT 61)] [7,8,9,10,36,37,62])
(.cond 62 (.exit 1)
.skip)))
(.seq (rg [mV 63 8,
mV 64 10,
cL 65 FF [63,64]] [7,8,9,10,36,37,65])
(.cond 65 (rg [mV 66 10,
mV 9 66] [7,8,9,36,37])
.skip))))))
yO)))
def qS (C:Hd)(gl:GL)(e:En)(h:aA)(x:Esc)(K:KT):Sf C gl rI e h x K:=⟨_,by simp only[rI,↓wZ,AO.still];rfl⟩
theorem z97 {C gl e h x K}:NW C gl rI ⟨e,h,x⟩ K=(qS C gl e h x K).1:=(qS C gl e h x K).2
theorem zd8 {C gl e h x K}:NW C gl (.loop rI) ⟨e,h,x⟩ K=EA C gl rI K [(7,bA e 7),(8,bA e 8),(9,bA e 9),(36,bA e 36),(37,bA e 37)] h x:=YA
def zO:ACode:=.pr [9,13,68,69] (rg [bN 81 .add 69 (cI 1),
mV 69 81] [9,13,68,69])
def rS (C:Hd)(gl:GL)(e:En)(h:aA)(x:Esc)(K:KT):Sf C gl zO e h x K:=⟨_,by simp only[zO,↓wZ,AO.still];rfl⟩
theorem z98 {C gl e h x K}:NW C gl zO ⟨e,h,x⟩ K=(rS C gl e h x K).1:=(rS C gl e h x K).2
def sI:ACode:=.pr [9,13,68,69] (.seq (rg [bN 70 .lss 69 68] [9,13,68,69,70])
(.seq (.cond 70 .skip
(.exit 2))
(.seq (.block 3 (.seq (rg [mV 71 69,
mV 14 71] [9,13,14,68,69])
(.seq (rg [mV 72 9,
mV 73 14,
bN 74 .shr 72 73,
bN 75 .and 74 (.c (.p (.int .u64 1))),
bN 76 .eql 75 (.c (.p (.int .u64 1)))] [9,13,14,68,69,76])
(.cond 76 (rg [mV 77 13,
mV 78 14,
uO 79 (.bsl false none 1 (.int .i64 0) [(0,78)]),
uO 80 (.app none 77 79),
mV 13 80] [9,13,68,69])
.skip))))
zO)))
def sS (C:Hd)(gl:GL)(e:En)(h:aA)(x:Esc)(K:KT):Sf C gl sI e h x K:=⟨_,by simp only[sI,↓wZ,AO.still];rfl⟩
theorem z99 {C gl e h x K}:NW C gl sI ⟨e,h,x⟩ K=(sS C gl e h x K).1:=(sS C gl e h x K).2
theorem zd9 {C gl e h x K}:NW C gl (.loop (.scope sI)) ⟨e,h,x⟩ K=EA C gl (.scope sI) K [(9,bA e 9),(13,bA e 13),(68,bA e 68),(69,bA e 69)] h x:=vD
def BO:ACode:=.pr [13] (.seq (rg [mV 82 13,
mV 4 82,
mV 5 (cI 0)] [4,5])
.ret)
def tS (C:Hd)(gl:GL)(e:En)(h:aA)(x:Esc)(K:KT):Sf C gl BO e h x K:=⟨_,by simp only[BO,↓wZ,AO.still];rfl⟩
theorem z9A {C gl e h x K}:NW C gl BO ⟨e,h,x⟩ K=(tS C gl e h x K).1:=(tS C gl e h x K).2
def CO:ACode:=.pr [7,9] (.seq (rg [uO 13 (.new0 none)] [7,9,13])
(.seq (.seq (rg [mV 68 7,
mV 69 (cI 0)] [9,13,68,69])
(.block 2 (.loop (.scope sI))))
BO))
def uS (C:Hd)(gl:GL)(e:En)(h:aA)(x:Esc)(K:KT):Sf C gl CO e h x K:=⟨_,by simp only[CO,↓wZ,AO.still];rfl⟩
theorem z9B {C gl e h x K}:NW C gl CO ⟨e,h,x⟩ K=(uS C gl e h x K).1:=(uS C gl e h x K).2
def jV:ACode:=(.seq (rg [mV 4 (.c (.p (.sl none []))),
mV 5 (cI 0)] [0,1])
(.seq (.seq (rg [mV 15 0,
mV 16 1,
cL 17 GF [15,16],
mV 6 17] [0,1,6])
(.seq (rg [mV 18 6,
bN 19 .neq 18 (cI 0)] [0,1,6,19])
(.cond 19 (.seq (rg [mV 20 6,
mV 4 (.c (.p (.sl none []))),
mV 5 20] [4,5])
.ret)
.skip)))
(.seq (rg [mV 21 0,
iA 22 none 21 (cI 0),
lD 23 none 22,
uO 24 (.lens 23),
mV 7 24] [0,1,7])
(.seq (.seq (rg [mV 25 7,
bN 26 .gtr 25 (cI 14)] [0,1,7,26])
(.cond 26 (.seq (rg [mV 4 (.c (.p (.sl none []))),
mV 5 (cI 2)] [4,5])
.ret)
.skip))
(.seq (rg [mV 27 0,
mV 28 1,
cL 29 HF [27,28],
cL 30 GK [29],
cL 31 FK [30],
cL 32 zK [31],
mV 8 32] [7,8])
(.seq (rg [mV 33 7,
cL 34 uE [33],
mV 9 34] [7,8,9])
(.seq (.seq (rg [mV 35 7,
cL 36 uE [35],
mV 37 (.c (.p (.int .u64 0)))] [7,8,9,36,37])
(.block 0 (.loop rI)))
CO)))))))
def yQ:AFun:=⟨2,[.t 4,.t 5],jV,false,false⟩
def BH (C:Hd)(gl:GL)(e:En)(h:aA)(x:Esc)(K:KT):Sf C gl jV e h x K:=⟨_,by simp only[jV,↓wZ,AO.still];rfl⟩
theorem z95 {C gl v0 v1 h x K}:NW C gl yQ.body ⟨enter [v0,v1],h,x⟩ K=(BH C gl [(0,v0),(1,v1)] h x K).1:=(BH C gl [(0,v0),(1,v1)] h x K).2
def SI:ACode:=.pr [0,1,12,13] (.seq (rg [bN 14 .lss 13 12] [0,1,12,13,14])
(.seq (.cond 14 .skip
(.exit 0))
(.seq (.block 1 (.seq (rg [mV 15 13,
mV 5 15] [0,1,5,12,13])
(.seq (dr [dF (mV 16 0) [0],
dF (mV 17 5) [5],
dF (iA 18 none 16 17) [16,17],
dF (lD 19 none 18) [18],
dF (mV 20 1) [1],
dF (mV 21 5) [5],
dF (iA 22 none 20 21) [20,21],
dF (lD 23 none 22) [22],
dF (bN 24 .neq 19 23) [19,23]] [0,1,12,13,24])
(.cond 24 (.seq (rg [mV 4 cF] [4])
.ret)
.skip))))
(rg [bN 25 .add 13 (cI 1),
mV 13 25] [0,1,12,13]))))
def GT (C:Hd)(gl:GL)(e:En)(h:aA)(x:Esc)(K:KT):Sf C gl SI e h x K:=⟨_,by simp only[SI,↓wZ,AO.still];rfl⟩
theorem zb0 {C gl e h x K}:NW C gl SI ⟨e,h,x⟩ K=(GT C gl e h x K).1:=(GT C gl e h x K).2
theorem zea {C gl e h x K}:NW C gl (.loop SI) ⟨e,h,x⟩ K=EA C gl SI K [(0,bA e 0),(1,bA e 1),(12,bA e 12),(13,bA e 13)] h x:=YA
def sP:ACode:=.pr [] (.seq (rg [mV 4 cT] [4])
.ret)
def HT (C:Hd)(gl:GL)(e:En)(h:aA)(x:Esc)(K:KT):Sf C gl sP e h x K:=⟨_,by simp only[sP,↓wZ,AO.still];rfl⟩
theorem zb1 {C gl e h x K}:NW C gl sP ⟨e,h,x⟩ K=(HT C gl e h x K).1:=(HT C gl e h x K).2
def fW:ACode:=(.seq (rg [mV 4 cF] [0,1])
(.seq (.seq (rg [mV 6 0,
lN 7 6,
mV 8 1,
lN 9 8,
bN 10 .neq 7 9] [0,1,10])
(.cond 10 (.seq (rg [mV 4 cF] [4])
.ret)
.skip))
(.seq (.seq (rg [mV 11 0,
lN 12 11,
mV 13 (cI 0)] [0,1,12,13])
(.block 0 (.loop SI)))
sP)))
def lR:AFun:=⟨2,[.t 4],fW,false,false⟩
def XJ (C:Hd)(gl:GL)(e:En)(h:aA)(x:Esc)(K:KT):Sf C gl fW e h x K:=⟨_,by simp only[fW,↓wZ,AO.still];rfl⟩
theorem zbz {C gl v0 v1 h x K}:NW C gl lR.body ⟨enter [v0,v1],h,x⟩ K=(XJ C gl [(0,v0),(1,v1)] h x K).1:=(XJ C gl [(0,v0),(1,v1)] h x K).2
def LV:ACode:=(.seq (rg [mV 4 (cI 0)] [0,1])
(.seq (rg [mV 5 1,
mV 6 0,
mV 7 1,
lN 8 7,
cL 9 kD [6,8],
iA 10 none 5 9,
lD 11 none 10,
mV 4 11] [4])
.ret))
def RQ:AFun:=⟨2,[.t 4],LV,false,false⟩
def IM (C:Hd)(gl:GL)(e:En)(h:aA)(x:Esc)(K:KT):Sf C gl LV e h x K:=⟨_,by simp only[LV,↓wZ,AO.still];rfl⟩
theorem zaN {C gl v0 v1 h x K}:NW C gl RQ.body ⟨enter [v0,v1],h,x⟩ K=(IM C gl [(0,v0),(1,v1)] h x K).1:=(IM C gl [(0,v0),(1,v1)] h x K).2
def HV:ACode:=(.seq (rg [mV 4 cF] [0,1])
(.seq (rg [mV 5 0,
mV 6 1,
cL 7 kD [5,6],
bN 8 .eql 7 (cI 0),
mV 4 8] [4])
.ret))
def NQ:AFun:=⟨2,[.t 4],HV,false,false⟩
def GM (C:Hd)(gl:GL)(e:En)(h:aA)(x:Esc)(K:KT):Sf C gl HV e h x K:=⟨_,by simp only[HV,↓wZ,AO.still];rfl⟩
theorem zaF {C gl v0 v1 h x K}:NW C gl NQ.body ⟨enter [v0,v1],h,x⟩ K=(GM C gl [(0,v0),(1,v1)] h x K).1:=(GM C gl [(0,v0),(1,v1)] h x K).2
def MV:ACode:=(.seq (rg [mV 6 (cI 0)] [0,1,2])
(.seq (.seq (rg [mV 7 2,
mV 8 1,
bN 9 .lss 7 8] [0,1,2,9])
(.cond 9 (.seq (rg [mV 10 1,
mV 6 10] [6])
.ret)
.skip))
(.seq (rg [mV 11 1,
mV 12 0,
mV 13 2,
mV 14 1,
bN 15 .sub 13 14,
bN 16 .add 15 (cI 1),
cL 17 kD [12,16],
bN 18 .add 11 17,
mV 6 18] [6])
.ret)))
def SQ:AFun:=⟨3,[.t 6],MV,false,false⟩
def JM (C:Hd)(gl:GL)(e:En)(h:aA)(x:Esc)(K:KT):Sf C gl MV e h x K:=⟨_,by simp only[MV,↓wZ,AO.still];rfl⟩
theorem zaO {C gl v0 v1 v2 h x K}:NW C gl SQ.body ⟨enter [v0,v1,v2],h,x⟩ K=(JM C gl [(0,v0),(1,v1),(2,v2)] h x K).1:=(JM C gl [(0,v0),(1,v1),(2,v2)] h x K).2
def DO:ACode:=.pr [7,18,19,20] (rg [bN 31 .add 20 (cI 1),
mV 20 31] [7,18,19,20])
def vS (C:Hd)(gl:GL)(e:En)(h:aA)(x:Esc)(K:KT):Sf C gl DO e h x K:=⟨_,by simp only[DO,↓wZ,AO.still];rfl⟩
theorem z9D {C gl e h x K}:NW C gl DO ⟨e,h,x⟩ K=(vS C gl e h x K).1:=(vS C gl e h x K).2
def tI:ACode:=.pr [7,18,19,20] (.seq (rg [bN 21 .lss 20 19] [7,18,19,20,21])
(.seq (.cond 21 .skip
(.exit 0))
(.seq (.block 1 (.seq (rg [mV 22 20,
iA 23 none 18 20,
lD 24 none 23,
mV 8 22,
mV 9 24] [7,8,9,18,19,20])
(.seq (rg [mV 25 9,
bN 26 .eql 25 (.c (.p (.int .u64 0)))] [7,8,18,19,20,26])
(.cond 26 (rg [mV 27 7,
mV 28 8,
uO 29 (.bsl false none 1 (.int .i64 0) [(0,28)]),
uO 30 (.app none 27 29),
mV 7 30] [7,18,19,20])
.skip))))
DO)))
def xS (C:Hd)(gl:GL)(e:En)(h:aA)(x:Esc)(K:KT):Sf C gl tI e h x K:=⟨_,by simp only[tI,↓wZ,AO.still];rfl⟩
theorem z9E {C gl e h x K}:NW C gl tI ⟨e,h,x⟩ K=(xS C gl e h x K).1:=(xS C gl e h x K).2
theorem zdA {C gl e h x K}:NW C gl (.loop (.scope tI)) ⟨e,h,x⟩ K=EA C gl (.scope tI) K [(7,bA e 7),(18,bA e 18),(19,bA e 19),(20,bA e 20)] h x:=vD
def EO:ACode:=.pr [7] (.seq (rg [mV 32 7,
mV 4 32,
mV 5 (cI 0)] [4,5])
.ret)
def yS (C:Hd)(gl:GL)(e:En)(h:aA)(x:Esc)(K:KT):Sf C gl EO e h x K:=⟨_,by simp only[EO,↓wZ,AO.still];rfl⟩
theorem z9F {C gl e h x K}:NW C gl EO ⟨e,h,x⟩ K=(yS C gl e h x K).1:=(yS C gl e h x K).2
def kV:ACode:=(.seq (rg [mV 4 (.c (.p (.sl none []))),
mV 5 (cI 0)] [0,1])
(.seq (.seq (rg [mV 10 0,
mV 11 1,
cL 12 GF [10,11],
mV 6 12] [0,1,6])
(.seq (rg [mV 13 6,
bN 14 .neq 13 (cI 0)] [0,1,6,14])
(.cond 14 (.seq (rg [mV 15 6,
mV 4 (.c (.p (.sl none []))),
mV 5 15] [4,5])
.ret)
.skip)))
(.seq (rg [uO 7 (.new0 none)] [0,1,7])
(.seq (.seq (rg [mV 16 0,
mV 17 1,
cL 18 HF [16,17],
lN 19 18,
mV 20 (cI 0)] [7,18,19,20])
(.block 0 (.loop (.scope tI))))
EO))))
def zQ:AFun:=⟨2,[.t 4,.t 5],kV,false,false⟩
def PJ (C:Hd)(gl:GL)(e:En)(h:aA)(x:Esc)(K:KT):Sf C gl kV e h x K:=⟨_,by simp only[kV,↓wZ,AO.still];rfl⟩
theorem z9C {C gl v0 v1 h x K}:NW C gl zQ.body ⟨enter [v0,v1],h,x⟩ K=(PJ C gl [(0,v0),(1,v1)] h x K).1:=(PJ C gl [(0,v0),(1,v1)] h x K).2
def LI:ACode:=.pr [0,4] (.seq (rg [bN 5 .lss 4 (cI 6)] [0,4,5])
(.seq (.cond 5 .skip
(.exit 0))
(.seq (.block 1 (.seq (rg [mV 6 0,
cL 7 mK [6],
mV 3 7] [0,3,4])
(.seq (rg [mV 8 3,
cL 9 uK [8],
bN 10 .eql 9 (cI 0),
mV 11 10,
gD 12 11 true (.mv 3),
gD 13 11 true (.iaddr none 12 (cI 0)),
gD 14 11 true (.load none 13),
gD 15 11 true (.lens 14),
gD 16 11 true (.bin .lss 15 (cI 20)),
uO 17 (.pick 11 16 cF)] [0,3,4,17])
(.cond 17 (.seq (rg [mV 18 3,
mV 2 18] [2])
.ret)
.skip))))
(rg [bN 19 .add 4 (cI 1),
mV 4 19] [0,4]))))
def qT (C:Hd)(gl:GL)(e:En)(h:aA)(x:Esc)(K:KT):Sf C gl LI e h x K:=⟨_,by simp only[LI,↓wZ,AO.still];rfl⟩
theorem zaS {C gl e h x K}:NW C gl LI ⟨e,h,x⟩ K=(qT C gl e h x K).1:=(qT C gl e h x K).2
theorem zdT {C gl e h x K}:NW C gl (.loop LI) ⟨e,h,x⟩ K=EA C gl LI K [(0,bA e 0),(4,bA e 4)] h x:=YA
def hP:ACode:=.pr [] (.seq (rg [uO 20 (.bsl false none 2 (.str []) [(0,(cS [48,49])),(1,(cS [49,48]))]),
mV 2 20] [2])
.ret)
def rT (C:Hd)(gl:GL)(e:En)(h:aA)(x:Esc)(K:KT):Sf C gl hP e h x K:=⟨_,by simp only[hP,↓wZ,AO.still];rfl⟩
theorem zaT {C gl e h x K}:NW C gl hP ⟨e,h,x⟩ K=(rT C gl e h x K).1:=(rT C gl e h x K).2
def QV:ACode:=(.seq (rg [mV 2 (.c (.p (.sl none [])))] [0])
(.seq (.seq (rg [mV 4 (cI 0)] [0,4])
(.block 0 (.loop LI)))
hP))
def VQ:AFun:=⟨1,[.t 2],QV,false,false⟩
def MM (C:Hd)(gl:GL)(e:En)(h:aA)(x:Esc)(K:KT):Sf C gl QV e h x K:=⟨_,by simp only[QV,↓wZ,AO.still];rfl⟩
theorem zaR {C gl v0 h x K}:NW C gl VQ.body ⟨enter [v0],h,x⟩ K=(MM C gl [(0,v0)] h x K).1:=(MM C gl [(0,v0)] h x K).2
def NV:ACode:=(.seq (rg [uO 3 (.box 1),
mV 4 (.c (.p (.sl (some 2) [])))] [0,3])
(.seq (rg [mV 5 0,
lD 6 none 3,
cL 7 nK [5,6],
uO 8 (.mkfn qK [3]),
cL 9 BK [7,8],
mV 4 9] [4])
.ret))
def TQ:AFun:=⟨2,[.t 4],NV,false,false⟩
def KM (C:Hd)(gl:GL)(e:En)(h:aA)(x:Esc)(K:KT):Sf C gl NV e h x K:=⟨_,by simp only[NV,↓wZ,AO.still];rfl⟩
theorem zaP {C gl v0 v1 h x K}:NW C gl TQ.body ⟨enter [v0,v1],h,x⟩ K=(KM C gl [(0,v0),(1,v1)] h x K).1:=(KM C gl [(0,v0),(1,v1)] h x K).2
def EI:ACode:=.pr [5,6,7] (.seq (rg [bN 8 .lss 7 6] [5,6,7,8])
(.seq (.cond 8 .skip
(.exit 0))
(.seq (.block 1 (.seq (rg [iA 9 none 5 7,
lD 10 none 9,
mV 4 10] [4,5,6,7])
(.seq (rg [mV 11 4,
bN 12 .neq 11 (cI 0)] [4,5,6,7,12])
(.cond 12 (.seq (rg [mV 13 4,
mV 2 13] [2])
.ret)
.skip))))
(rg [bN 14 .add 7 (cI 1),
mV 7 14] [5,6,7]))))
def WS (C:Hd)(gl:GL)(e:En)(h:aA)(x:Esc)(K:KT):Sf C gl EI e h x K:=⟨_,by simp only[EI,↓wZ,AO.still];rfl⟩
theorem zaw {C gl e h x K}:NW C gl EI ⟨e,h,x⟩ K=(WS C gl e h x K).1:=(WS C gl e h x K).2
theorem zdM {C gl e h x K}:NW C gl (.loop EI) ⟨e,h,x⟩ K=EA C gl EI K [(5,bA e 5),(6,bA e 6),(7,bA e 7)] h x:=YA
def WO:ACode:=.pr [] (.seq (rg [mV 2 (cI 0)] [2])
.ret)
def XS (C:Hd)(gl:GL)(e:En)(h:aA)(x:Esc)(K:KT):Sf C gl WO e h x K:=⟨_,by simp only[WO,↓wZ,AO.still];rfl⟩
theorem zax {C gl e h x K}:NW C gl WO ⟨e,h,x⟩ K=(XS C gl e h x K).1:=(XS C gl e h x K).2
def CV:ACode:=(.seq (rg [mV 2 (cI 0)] [0])
(.seq (.seq (rg [mV 5 0,
lN 6 5,
mV 7 (cI 0)] [5,6,7])
(.block 0 (.loop EI)))
WO))
def PL:AFun:=⟨1,[.t 2],CV,false,false⟩
def CM (C:Hd)(gl:GL)(e:En)(h:aA)(x:Esc)(K:KT):Sf C gl CV e h x K:=⟨_,by simp only[CV,↓wZ,AO.still];rfl⟩
theorem zav {C gl v0 h x K}:NW C gl PL.body ⟨enter [v0],h,x⟩ K=(CM C gl [(0,v0)] h x K).1:=(CM C gl [(0,v0)] h x K).2
def dW:ACode:=(.seq (rg [mV 4 cF] [0,1])
(.seq (rg [mV 5 0,
mV 6 1,
cL 7 SH [5,6],
bN 8 .geq 7 (cI 0),
mV 4 8] [4])
.ret))
def RL:AFun:=⟨2,[.t 4],dW,true,false⟩
def XM (C:Hd)(gl:GL)(e:En)(h:aA)(x:Esc)(K:KT):Sf C gl dW e h x K:=⟨_,by simp only[dW,↓wZ,AO.still];rfl⟩
theorem zbu {C gl v0 v1 h x K}:NW C gl RL.body ⟨enter [v0,v1],h,x⟩ K=(XM C gl [(0,v0),(1,v1)] h x K).1:=(XM C gl [(0,v0),(1,v1)] h x K).2
def lW:ACode:=(.seq (rg [mV 3 0,
lN 4 3,
mV 2 4] [0,2])
(rg [mV 5 0,
mV 6 2,
mV 7 2,
uO 8 (.conv (.i .u64) 7),
cL 9 MH [8],
cL 10 NG [5,(cI 0),6,9]] []))
def oR:AFun:=⟨1,[],lW,true,false⟩
def eN (C:Hd)(gl:GL)(e:En)(h:aA)(x:Esc)(K:KT):Sf C gl lW e h x K:=⟨_,by simp only[lW,↓wZ,AO.still];rfl⟩
theorem zbE {C gl v0 h x K}:NW C gl oR.body ⟨enter [v0],h,x⟩ K=(eN C gl [(0,v0)] h x K).1:=(eN C gl [(0,v0)] h x K).2
def RV:ACode:=(.seq (rg [mV 4 (cS [])] [0,1])
(.seq (rg [mV 5 1,
mV 6 0,
mV 7 1,
lN 8 7,
cL 9 kD [6,8],
iA 10 none 5 9,
lD 11 none 10,
mV 4 11] [4])
.ret))
def WQ:AFun:=⟨2,[.t 4],RV,false,false⟩
def NM (C:Hd)(gl:GL)(e:En)(h:aA)(x:Esc)(K:KT):Sf C gl RV e h x K:=⟨_,by simp only[RV,↓wZ,AO.still];rfl⟩
theorem zaU {C gl v0 v1 h x K}:NW C gl WQ.body ⟨enter [v0,v1],h,x⟩ K=(NM C gl [(0,v0),(1,v1)] h x K).1:=(NM C gl [(0,v0),(1,v1)] h x K).2
def IV:ACode:=(.seq (rg [mV 4 (cI 0)] [0,1])
(.seq (rg [mV 7 0,
uO 8 (.nilchk 7),
fA 9 1 none 8,
lD 10 none 9,
bN 11 .add 10 (cI 1),
uO 12 (.nilchk 7),
fA 13 1 none 12,
wO (.store none 13 11)] [0,1])
(.seq (.seq (rg [mV 14 0,
uO 15 (.nilchk 14),
fA 16 0 none 15,
lD 17 none 16,
lN 18 17,
bN 19 .eql 18 (cI 0)] [0,1,19])
(.cond 19 (.seq (rg [mV 20 0,
uO 21 (.nilchk 20),
fA 22 1 none 21,
lD 23 none 22,
bN 24 .mul 23 (cI 7919),
mV 25 1,
cL 26 LG [24,25],
mV 4 26] [4])
.ret)
.skip))
(.seq (dr [dF (mV 27 0) [0],
dF (uO 28 (.nilchk 27)) [27],
dF (fA 29 1 none 28) [28],
dF (lD 30 none 29) [29],
dF (bN 31 .sub 30 (cI 1)) [30],
dF (mV 32 0) [0],
dF (uO 33 (.nilchk 32)) [32],
dF (fA 34 0 none 33) [33],
dF (lD 35 none 34) [34],
dF (lN 36 35) [35],
dF (bN 37 .rem 31 36) [31,36],
dF (mV 5 37) [37]] [0,1,5])
(.seq (dr [dF (mV 38 0) [0],
dF (uO 39 (.nilchk 38)) [38],
dF (fA 40 1 none 39) [39],
dF (lD 41 none 40) [40],
dF (bN 42 .sub 41 (cI 1)) [41],
dF (mV 43 0) [0],
dF (uO 44 (.nilchk 43)) [43],
dF (fA 45 0 none 44) [44],
dF (lD 46 none 45) [45],
dF (lN 47 46) [46],
dF (bN 48 .quo 42 47) [42,47],
dF (mV 6 48) [48]] [0,1,5,6])
(.seq (rg [mV 49 0,
uO 50 (.nilchk 49),
fA 51 0 none 50,
lD 52 none 51,
mV 53 5,
iA 54 none 52 53,
lD 55 none 54,
cL 56 LG [55,(cI 1073741824)],
mV 57 6,
mV 58 5,
bN 59 .add (cI 7919) 58,
bN 60 .mul 57 59,
bN 61 .add 56 60,
mV 62 1,
cL 63 LG [61,62],
mV 4 63] [4])
.ret))))))
def OQ:AFun:=⟨2,[.t 4],IV,false,false⟩
def UJ (C:Hd)(gl:GL)(e:En)(h:aA)(x:Esc)(K:KT):Sf C gl IV e h x K:=⟨_,by simp only[IV,↓wZ,AO.still];rfl⟩
theorem zaG {C gl v0 v1 h x K}:NW C gl OQ.body ⟨enter [v0,v1],h,x⟩ K=(UJ C gl [(0,v0),(1,v1)] h x K).1:=(UJ C gl [(0,v0),(1,v1)] h x K).2
def lL:ACode:=.pr [4,5] (.seq (rg [lD 76 (some 2) 5,
wO (.store (some 2) 4 76)] [4])
.ret)
def nZ (C:Hd)(gl:GL)(v4 v5:AV)(h:aA)(x:Esc)(K:KT):Prop:=
 pK (BA (some 2) v5 h) fun t1=>
 wK (FC (some 2) v4 t1 h) fun t2 h3 y4=>
 K .ret ⟨[(4,v4)],h3,(y4++x)⟩
theorem za1 {C gl e h x K}:NW C gl lL ⟨e,h,x⟩ K=nZ C gl (bA e 4) (bA e 5) h x K:=by kernel_rfl
def QX (q1:ACode):ACode:=.pr [0,1,4,5] (.seq (.seq (rg [mV 44 0,
cL 45 MD [44,(cI 30)]] [0,1,4,5,45])
(.cond 45 (.seq (rg [mV 46 0,
cL 47 kD [46,(cI 4)]] [0,1,4,5,47])
(.block 0 (.seq (rg [bN 54 .eql 47 (cI 0),
mV 53 54] [0,1,4,5,47,53])
(.cond 53 (rg [mV 55 0,
cL 56 NH [55,(cI 1),(cI 6)],
fA 57 0 none 5,
wO (.store none 57 56)] [4,5])
(.seq (rg [bN 59 .eql 47 (cI 1),
mV 58 59] [0,1,4,5,47,58])
(.cond 58 (dr [dF (fA 60 1 none 5) [5],
dF (lD 61 none 60) [60],
dF (mV 62 0) [0],
dF (mV 63 1) [1],
dF (fA 64 1 none 5) [5],
dF (lD 65 none 64) [64],
dF (iA 66 none 65 (cI 0)) [65],
dF (lD 67 none 66) [66],
dF (uO 68 (.bsl false none 5 (.int .i64 0) [(0,(cI 0)),(1,(cI 1)),(2,(cI (-1))),(3,63),(4,67)])) [63,67],
dA (cL 69 ND [62,68]) [62,68] true [] [1],
dF (uO 70 (.bsl false none 1 (.int .i64 0) [(0,69)])) [69],
dT (uO 71 (.app none 61 70)) [61,70],
dF (fA 72 1 none 5) [5],
dT (wO (.store none 72 71)) [72,71]] [4,5])
(.seq (rg [bN 74 .eql 47 (cI 2),
mV 73 74] [0,4,5,73])
(.cond 73 (rg [fA 75 1 none 5,
wO (.store none 75 (.c (.p (.sl none []))))] [4,5])
(rg [uO 48 (.bsl false none 7 (.int .i64 0) [(0,(cI 0)),(1,(cI 1)),(2,(cI 2)),(3,(cI 3)),(4,(cI 4)),(5,(cI 5)),(6,(cI 6))]),
mV 49 0,
cL 50 UC [49,(cI 5),(cI 7)],
uO 51 (.slice none 48 none (some 50) none),
fA 52 1 none 5,
wO (.store none 52 51)] [4,5])))))))))
.skip))
q1)
def EV:ACode:=QX lL
def LD (C:Hd)(gl:GL)(q1:ACode)(v0 v1 v4 v5:AV)(h:aA)(x:Esc)(K:KT):Prop:=
 C MD [v0,(AI 30)] h fun t1 h2 y3=>
 NA t1 (C kD [v0,(AI 4)] h2 fun t4 h5 y6=>
 pK (qA .eql t4 (AI 0)) fun t7=>
 NA t7 (C NH [v0,(AI 1),(AI 6)] h5 fun t8 h9 y10=>
 pK (RA 0 none v5) fun t11=>
 wK (FC none t11 t8 h9) fun t12 h13 y14=>
 NW C gl q1 ⟨[(4,v4),(5,v5)],h13,(y14++(y10++(y6++(y3++x))))⟩ K)
 (pK (qA .eql t4 (AI 1)) fun t15=>
 NA t15 (pK (RA 1 none v5) fun t16=>
 pK (BA none t16 h5) fun t17=>
 pK (RA 1 none v5) fun t18=>
 pK (BA none t18 h5) fun t19=>
 pK (vB none t19 (AI 0) h5) fun t20=>
 pK (BA none t20 h5) fun t21=>
 wK (gE false none 5 (.int .i64 0) [(0,(AI 0)),(1,(AI 1)),(2,(AI (-1))),(3,v1),(4,t21)] h5) fun t22 h23 y24=>
 (h23=h5∧y24=[])∧(KD C ND [v0,t22] h23 fun t25 h26 y27=>
 (pK (BA none t16 h26) fun v=>(fun u (g1:aA) (y1:Esc)=>u=t17∧g1=h26∧y1=[]) v h26 [])∧(wK (gE false none 1 (.int .i64 0) [(0,t25)] h26) fun t28 h29 y30=>
 (h29=h26∧y30=[])∧(wK (WK none t17 t28 h29) fun t31 h32 y33=>
 pK (RA 1 none v5) fun t34=>
 wK (FC none t34 t31 h32) fun t35 h36 y37=>
 NW C gl q1 ⟨[(4,v4),(5,v5)],h36,(y37++(y33++(y30++(y27++(y24++(y6++(y3++x)))))))⟩ K))))
 (pK (qA .eql t4 (AI 2)) fun t38=>
 NA t38 (pK (RA 1 none v5) fun t39=>
 wK (FC none t39 (.p (.sl none [])) h5) fun t40 h41 y42=>
 NW C gl q1 ⟨[(4,v4),(5,v5)],h41,(y42++(y6++(y3++x)))⟩ K)
 (wK (gE false none 7 (.int .i64 0) [(0,(AI 0)),(1,(AI 1)),(2,(AI 2)),(3,(AI 3)),(4,(AI 4)),(5,(AI 5)),(6,(AI 6))] h5) fun t43 h44 y45=>
 C UC [v0,(AI 5),(AI 7)] h44 fun t46 h47 y48=>
 pK (OD none t43 none (some t46) none h47) fun t49=>
 pK (RA 1 none v5) fun t50=>
 wK (FC none t50 t49 h47) fun t51 h52 y53=>
 NW C gl q1 ⟨[(4,v4),(5,v5)],h52,(y53++(y48++(y45++(y6++(y3++x)))))⟩ K))))
 (NW C gl q1 ⟨[(0,v0),(1,v1),(4,v4),(5,v5),(45,t1)],h2,(y3++x)⟩ K)
theorem z4T {C gl q1 e h x K}:NW C gl (QX q1) ⟨e,h,x⟩ K=LD C gl q1 (bA e 0) (bA e 1) (bA e 4) (bA e 5) h x K:=by kernel_rfl
theorem za2 {C gl e h x K}:NW C gl EV ⟨e,h,x⟩ K=LD C gl lL (bA e 0) (bA e 1) (bA e 4) (bA e 5) h x K:=z4T
def RX (q2:ACode):ACode:=.pr [0,1,4,5,6,7] (.seq (rg [mV 29 6,
mV 30 7,
mV 31 7,
uO 32 (.slice none 29 none (some 30) (some 31)),
fA 33 1 none 5,
wO (.store none 33 32)] [0,1,4,5])
(.seq (.seq (rg [fA 34 0 none 5,
lD 35 none 34,
bN 36 .eql 35 (cI 5)] [0,1,4,5,36])
(.cond 36 (rg [fA 37 1 none 5,
lD 38 none 37,
uO 39 (.slice none 38 (some (cI 1)) none none),
cL 40 wE [39]] [0,1,4,5])
(rg [fA 41 1 none 5,
lD 42 none 41,
cL 43 wE [42]] [0,1,4,5])))
q2))
def YO:ACode:=RX EV
def ZS (C:Hd)(gl:GL)(q2:ACode)(v0 v1 v4 v5 v6 v7:AV)(h:aA)(x:Esc)(K:KT):Prop:=
 pK (OD none v6 none (some v7) (some v7) h) fun t1=>
 pK (RA 1 none v5) fun t2=>
 wK (FC none t2 t1 h) fun t3 h4 y5=>
 pK (RA 0 none v5) fun t6=>
 pK (BA none t6 h4) fun t7=>
 pK (qA .eql t7 (AI 5)) fun t8=>
 NA t8 (pK (RA 1 none v5) fun t9=>
 pK (BA none t9 h4) fun t10=>
 pK (OD none t10 (some (AI 1)) none none h4) fun t11=>
 C wE [t11] h4 fun t12 h13 y14=>
 NW C gl q2 ⟨[(0,v0),(1,v1),(4,v4),(5,v5)],h13,(y14++(y5++x))⟩ K)
 (pK (RA 1 none v5) fun t15=>
 pK (BA none t15 h4) fun t16=>
 C wE [t16] h4 fun t17 h18 y19=>
 NW C gl q2 ⟨[(0,v0),(1,v1),(4,v4),(5,v5)],h18,(y19++(y5++x))⟩ K)
theorem z4U {C gl q2 e h x K}:NW C gl (RX q2) ⟨e,h,x⟩ K=ZS C gl q2 (bA e 0) (bA e 1) (bA e 4) (bA e 5) (bA e 6) (bA e 7) h x K:=by kernel_rfl
theorem za3 {C gl e h x K}:NW C gl YO ⟨e,h,x⟩ K=ZS C gl EV (bA e 0) (bA e 1) (bA e 4) (bA e 5) (bA e 6) (bA e 7) h x K:=z4U
def PX (q3:ACode):ACode:=(.seq (rg [uO 4 (.alloc [.p (.int .i64 0),.sl0 none])] [0,1,4])
(.seq (rg [mV 8 0,
cL 9 UC [8,(cI 1),(cI 6)],
uO 10 (.build [.p (.int .i64 0),.sl0 none] [(0,1,9)]),
uO 5 (.alloc [.p (.int .i64 0),.sl0 none]),
wO (.store (some 2) 5 10)] [0,1,4,5])
(.seq (rg [mV 11 0,
mV 12 1,
uO 13 (.mx [12,(cI 1)]),
cL 14 OH [11,13],
mV 6 14] [0,1,4,5,6])
(.seq (rg [mV 7 (cI 1)] [0,1,4,5,6,7])
(.seq (.seq (rg [fA 15 0 none 5,
lD 16 none 15,
bN 17 .geq 16 (cI 3),
mV 18 17,
gD 19 18 true (.faddr 0 none 5),
gD 20 18 true (.load none 19),
gD 21 18 true (.bin .leq 20 (cI 5)),
uO 22 (.pick 18 21 cF)] [0,1,4,5,6,7,22])
(.cond 22 (rg [mV 23 0,
uO 24 (.bsl false none 3 (.int .i64 0) [(0,(cI 2)),(1,(cI 2)),(2,(cI 3))]),
cL 25 ND [23,24],
mV 26 6,
lN 27 26,
uO 28 (.mn [25,27]),
mV 7 28] [0,1,4,5,6,7])
.skip))
q3)))))
def KQ:AFun:=⟨2,[.cell 4 (some 2)],PX YO,false,false⟩
def BG (C:Hd)(gl:GL)(q3:ACode)(v0 v1:AV)(h:aA)(x:Esc)(K:KT):Prop:=
 alK [.p (.int .i64 0),.sl0 none] h fun t1 h2 y3=>
 C UC [v0,(AI 1),(AI 6)] h2 fun t4 h5 y6=>
 pK (OB [.p (.int .i64 0),.sl0 none] [(0,1,t4)]) fun t7=>
 alK [.p (.int .i64 0),.sl0 none] h5 fun t8 h9 y10=>
 wK (FC (some 2) t8 t7 h9) fun t11 h12 y13=>
 pK (oMx [v1,(AI 1)]) fun t14=>
 C OH [v0,t14] h12 fun t15 h16 y17=>
 pK (RA 0 none t8) fun t18=>
 pK (BA none t18 h16) fun t19=>
 pK (qA .geq t19 (AI 3)) fun t20=>
 gP t20 true (RA 0 none t8) h16 fun t21 h22 y23=>
 gP t20 true (BA none t21 h22) h22 fun t24 h25 y26=>
 gP t20 true (qA .leq t24 (AI 5)) h25 fun t27 h28 y29=>
 pK (TF t20 t27 (AB false)) fun t30=>
 NA t30 (wK (gE false none 3 (.int .i64 0) [(0,(AI 2)),(1,(AI 2)),(2,(AI 3))] h28) fun t31 h32 y33=>
 C ND [v0,t31] h32 fun t34 h35 y36=>
 pK (YB t15) fun t37=>
 pK (oMn [t34,t37]) fun t38=>
 NW C gl q3 ⟨[(0,v0),(1,v1),(4,t1),(5,t8),(6,t15),(7,t38)],h35,(y36++(y33++(y29++(y26++(y23++(y17++(y13++(y10++(y6++(y3++x))))))))))⟩ K)
 (NW C gl q3 ⟨[(0,v0),(1,v1),(4,t1),(5,t8),(6,t15),(7,(AI 1)),(22,t30)],h28,(y29++(y26++(y23++(y17++(y13++(y10++(y6++(y3++x))))))))⟩ K)
theorem z4S {C gl q3 v0 v1 h x K}:NW C gl (PX q3) ⟨enter [v0,v1],h,x⟩ K=BG C gl q3 v0 v1 h x K:=by kernel_rfl
theorem za0 {C gl v0 v1 h x K}:NW C gl KQ.body ⟨enter [v0,v1],h,x⟩ K=BG C gl YO v0 v1 h x K:=z4S
def YV:ACode:=(.det (.seq (rg [mV 2 (.c (.p (.sl none [])))] [0])
(.seq (.seq (rg [mV 3 0,
uO 4 (.isnil 4 false 3)] [0,4])
(.condu 4 (.seq (rg [uO 2 (.new0 none)] [2])
.ret)
.skip))
(.seq (rg [uO 5 (.bsl true none 0 (.int .i64 0) []),
mV 6 0,
uO 7 (.app none 5 6),
mV 2 7] [2])
.ret))))
def fR:AFun:=⟨1,[.t 2],YV,false,true⟩
def TM (C:Hd)(gl:GL)(e:En)(h:aA)(x:Esc)(K:KT):Sf C gl YV e h x K:=⟨_,by simp only[YV,↓wZ,AO.still];rfl⟩
theorem zbj {C gl v0 h x K}:NW C gl fR.body ⟨enter [v0],h,x⟩ K=(TM C gl [(0,v0)] h x K).1:=(TM C gl [(0,v0)] h x K).2
def rV:ACode:=(.seq (rg [mV 4 (cI 0)] [0,1])
(.seq (.seq (rg [mV 6 0,
cL 7 DG [6],
mV 5 7] [0,1,5])
(.seq (rg [mV 8 5,
bN 9 .neq 8 (cI 0)] [0,1,5,9])
(.cond 9 (.seq (rg [mV 10 5,
mV 4 10] [4])
.ret)
.skip)))
(.seq (.seq (rg [mV 11 1,
lN 12 11,
bN 13 .gtr 12 (cI 20000)] [0,1,13])
(.cond 13 (.seq (rg [mV 4 (cI 2)] [4])
.ret)
.skip))
(.seq (rg [mV 14 0,
mV 15 1,
cL 16 FG [14,15],
mV 4 16] [4])
.ret))))
def BQ:AFun:=⟨2,[.t 4],rV,false,false⟩
def RJ (C:Hd)(gl:GL)(e:En)(h:aA)(x:Esc)(K:KT):Sf C gl rV e h x K:=⟨_,by simp only[rV,↓wZ,AO.still];rfl⟩
theorem z9P {C gl v0 v1 h x K}:NW C gl BQ.body ⟨enter [v0,v1],h,x⟩ K=(RJ C gl [(0,v0),(1,v1)] h x K).1:=(RJ C gl [(0,v0),(1,v1)] h x K).2
def wI:ACode:=.pr [0,5,6,11,12,13] (.seq (rg [bN 14 .lss 13 12] [0,5,6,11,12,13,14])
(.seq (.cond 14 .skip
(.exit 0))
(.seq (.block 1 (.seq (rg [iA 15 (some 2) 11 13,
lD 16 (some 2) 15,
uO 8 (.alloc [.p (.int .i64 0),.sl0 none]),
wO (.store (some 2) 8 16)] [0,5,6,8,11,12,13])
(dr [dF (mV 17 6) [6],
dF (mV 18 5) [5],
dF (lD 19 (some 2) 8) [8],
dF (mV 20 0) [0],
dF (iA 21 none 20 (cI 0)) [20],
dF (lD 22 none 21) [21],
dF (uO 23 (.lens 22)) [22],
dT (cL 24 EG [18,19,23]) [18,19,23],
dF (uO 25 (.bsl false none 1 (.int .u64 0) [(0,24)])) [24],
dT (uO 26 (.app none 17 25)) [17,25],
dF (mV 6 26) [26]] [0,5,6,11,12,13])))
(rg [bN 27 .add 13 (cI 1),
mV 13 27] [0,5,6,11,12,13]))))
def ES (C:Hd)(gl:GL)(e:En)(h:aA)(x:Esc)(K:KT):Sf C gl wI e h x K:=⟨_,by simp only[wI,↓wZ,AO.still];rfl⟩
theorem z9R {C gl e h x K}:NW C gl wI ⟨e,h,x⟩ K=(ES C gl e h x K).1:=(ES C gl e h x K).2
theorem zdD {C gl e h x K}:NW C gl (.loop (.scope wI)) ⟨e,h,x⟩ K=EA C gl (.scope wI) K [(0,bA e 0),(5,bA e 5),(6,bA e 6),(11,bA e 11),(12,bA e 12),(13,bA e 13)] h x:=vD
def HO:ACode:=.pr [6] (.seq (rg [mV 28 6,
mV 4 28] [4])
.ret)
def FS (C:Hd)(gl:GL)(e:En)(h:aA)(x:Esc)(K:KT):Sf C gl HO e h x K:=⟨_,by simp only[HO,↓wZ,AO.still];rfl⟩
theorem z9S {C gl e h x K}:NW C gl HO ⟨e,h,x⟩ K=(FS C gl e h x K).1:=(FS C gl e h x K).2
def sV:ACode:=(.seq (rg [mV 4 (.c (.p (.sl none [])))] [0,1])
(.seq (rg [mV 9 0,
cL 10 HG [9],
mV 5 10] [0,1,5])
(.seq (rg [uO 6 (.new0 none)] [0,1,5,6])
(.seq (.seq (rg [mV 11 1,
lN 12 11,
mV 13 (cI 0)] [0,5,6,11,12,13])
(.block 0 (.loop (.scope wI))))
HO))))
def CQ:AFun:=⟨2,[.t 4],sV,false,false⟩
def uM (C:Hd)(gl:GL)(e:En)(h:aA)(x:Esc)(K:KT):Sf C gl sV e h x K:=⟨_,by simp only[sV,↓wZ,AO.still];rfl⟩
theorem z9Q {C gl v0 v1 h x K}:NW C gl CQ.body ⟨enter [v0,v1],h,x⟩ K=(uM C gl [(0,v0),(1,v1)] h x K).1:=(uM C gl [(0,v0),(1,v1)] h x K).2
def zV:ACode:=(.seq (rg [mV 2 (cI 0)] [0])
(.seq (rg [mV 3 0,
bN 4 .shr 3 (.c (.p (.int .u64 1))),
bN 5 .and 4 (.c (.p (.int .u64 6148914691236517205))),
mV 6 0,
bN 7 .and 6 (.c (.p (.int .u64 6148914691236517205))),
bN 8 .add 5 7,
mV 0 8] [0])
(.seq (rg [mV 9 0,
bN 10 .shr 9 (.c (.p (.int .u64 2))),
bN 11 .and 10 (.c (.p (.int .u64 3689348814741910323))),
mV 12 0,
bN 13 .and 12 (.c (.p (.int .u64 3689348814741910323))),
bN 14 .add 11 13,
mV 0 14] [0])
(.seq (rg [mV 15 0,
bN 16 .shr 15 (.c (.p (.int .u64 4))),
mV 17 0,
bN 18 .add 16 17,
bN 19 .and 18 (.c (.p (.int .u64 1085102592571150095))),
mV 0 19] [0])
(.seq (rg [mV 20 0,
mV 21 0,
bN 22 .shr 21 (.c (.p (.int .u64 8))),
bN 23 .add 20 22,
mV 0 23] [0])
(.seq (rg [mV 24 0,
mV 25 0,
bN 26 .shr 25 (.c (.p (.int .u64 16))),
bN 27 .add 24 26,
mV 0 27] [0])
(.seq (rg [mV 28 0,
mV 29 0,
bN 30 .shr 29 (.c (.p (.int .u64 32))),
bN 31 .add 28 30,
mV 0 31] [0])
(.seq (rg [mV 32 0,
uO 33 (.conv (.i .i64) 32),
bN 34 .and 33 (cI 127),
mV 2 34] [2])
.ret))))))))
def HQ:AFun:=⟨1,[.t 2],zV,false,false⟩
def BM (C:Hd)(gl:GL)(e:En)(h:aA)(x:Esc)(K:KT):Sf C gl zV e h x K:=⟨_,by simp only[zV,↓wZ,AO.still];rfl⟩
theorem zan {C gl v0 h x K}:NW C gl HQ.body ⟨enter [v0],h,x⟩ K=(BM C gl [(0,v0)] h x K).1:=(BM C gl [(0,v0)] h x K).2
def vV:ACode:=(.seq (rg [mV 2 (.c (.p (.int .u64 0)))] [0])
(.seq (rg [mV 3 0,
bN 4 .shl (.c (.p (.int .u64 1))) 3,
bN 5 .sub 4 (.c (.p (.int .u64 1))),
mV 2 5] [2])
.ret))
def NL:AFun:=⟨1,[.t 2],vV,false,false⟩
def xM (C:Hd)(gl:GL)(e:En)(h:aA)(x:Esc)(K:KT):Sf C gl vV e h x K:=⟨_,by simp only[vV,↓wZ,AO.still];rfl⟩
theorem zaa {C gl v0 h x K}:NW C gl NL.body ⟨enter [v0],h,x⟩ K=(xM C gl [(0,v0)] h x K).1:=(xM C gl [(0,v0)] h x K).2
def nV:ACode:=(.seq (rg [uO 3 (.box 1),
mV 4 cF] [0,3])
(.seq (rg [mV 5 0,
uO 6 (.mkfn LH [3]),
cL 7 AK [5,6],
uO 8 (.un .not 7),
mV 4 8] [4])
.ret))
def JL:AFun:=⟨2,[.t 4],nV,false,false⟩
def sM (C:Hd)(gl:GL)(e:En)(h:aA)(x:Esc)(K:KT):Sf C gl nV e h x K:=⟨_,by simp only[nV,↓wZ,AO.still];rfl⟩
theorem z9J {C gl v0 v1 h x K}:NW C gl JL.body ⟨enter [v0,v1],h,x⟩ K=(sM C gl [(0,v0),(1,v1)] h x K).1:=(sM C gl [(0,v0),(1,v1)] h x K).2
end Go.Am
end
