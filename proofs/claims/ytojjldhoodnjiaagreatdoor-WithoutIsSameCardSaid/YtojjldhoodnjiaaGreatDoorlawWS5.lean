/- Texts of the proof, laid together: Am30, Am31, AmX, AmS, CodesA. -/
import GoSem.Extern.Table
import Derived.Laws.World
import Derived.KernelRfl
import Derived.Test.YtojjldhoodnjiaaGreatDoorlawWS4
set_option linter.all false
section
/- The abstract machine,part 30: the meaning of code in the new spelling,and that it is the old one. -/
set_option linter.unusedSimpArgs false
set_option linter.unusedVariables false
namespace Go.Am
def gV (v : AV) (b : Bool) (h : Heap) (A : (AV → Heap → Esc → Prop) → Prop) (k : AV → Heap → Esc → Prop) : Prop:=z2N v b (A k) (k .skp h [])
def gP (v : AV) (b : Bool) (o : Option AV) (h : Heap) (k : AV → Heap → Esc → Prop) : Prop:=gV v b h (fun k=>pK o fun u=>k u h []) k
def gM (v : AV) (b : Bool) (u : AV) (h : Heap) (k : AV → Heap → Esc → Prop) : Prop:=gV v b h (fun k=>k u h []) k
def upB (b : Bool) : Bool:=(fun (_ : AV → Bool → Option AV → Heap → (AV → Heap → Esc → Prop) → Prop)=>b) gP
def gK (g : Option (Nat × Bool)) (e : List (Nat × AV)) (h : Heap) (A : (AV → Heap → Esc → Prop) → Prop) (k : AV → Heap → Esc → Prop) : Prop:=match g with
 | none=>A k
 | some (t,b)=>gV (aget e t) b h A k
def opC (C : Hd) (o : AO) (ev : Opd → AV) (h : Heap) (k : AV → Heap → Esc → Prop) : Prop:=match o with
 | .call f args=>C f (ev1 ev args) h k
 | .callv f args=>z9i C (ev f) (ev1 ev args) h k
 | .mnext sh xs=>match z4Z h sh (ev1 ev xs) with
  | some l=>l ≠ [] ∧ ∀ y ∈ l,k y.1 y.2 []
  | none=>False
 | o=>opN o ev h k
def NReg (C : Hd) (gl : Nat → Option PV) : List AOp → List (Nat × AV) → Heap → Esc → (List (Nat × AV) → Heap → Esc → Prop) → Prop
 | [],e,h,x,L=>L e h x
 | o :: r,e,h,x,L=>gK o.guard e h (opC C o.op (Opd.ev gl e) h) fun v h' x'=>NReg C gl r (put o.dst v e) h' (x' ++ x) L
variable {C : Hd} {gl : Nat → Option PV}
theorem zfT {o : AO} {d : Option Nat} {r : List AOp} {e : List (Nat × AV)} {h : Heap} {x : Esc} {L : List (Nat × AV) → Heap → Esc → Prop} :
 AReg C gl (⟨d,none,o⟩ :: r) e h x L = opC C o (Opd.ev gl e) h (z0P C gl r d e x L):=by
 cases hp : o.plain with
 | true=>
  rw [z0u hp,zny hp]
  cases o <;> first | rfl | cases hp
 | false=>
  cases o <;> first | (cases hp; done) | skip
  all_goals first
   | (rw [zaY,z5v]; rfl)
   | (rw [z7j,z5v]; rfl)
   | (unfold AReg opC; simp only [wanted,z5v]; rfl)
theorem ziC : ∀ (ops : List AOp) (e : List (Nat × AV)) (h : Heap) (x : Esc) (L : List (Nat × AV) → Heap → Esc → Prop),AReg C gl ops e h x L = NReg C gl ops e h x L
 | [],e,h,x,L=>rfl
 | ⟨d,g,o⟩ :: r,e,h,x,L=>by
  have ih : (fun (v : AV) (h' : Heap) (x' : Esc)=>NReg C gl r (put d v e) h' (x' ++ x) L) = z0P C gl r d e x L:=by
   funext v h' x'; rw [← ziC r]; rfl
  show _ = gK g e h (opC C o (Opd.ev gl e) h) fun v h' x'=>NReg C gl r (put d v e) h' (x' ++ x) L
  rw [ih]
  cases g with
  | none=>exact zfT
  | some tb=>
   obtain ⟨t,b⟩:=tb
   rw [z9a,zfT]; rfl
def opE (C : Hd) (o : AO) (ev : Opd → AV) (h : Heap) (k : AV → Heap → Esc → Prop) : Prop:=match o with
 | .call f args=>z1p C f (ev1 ev args) h k
 | .callv f args=>z9h C (ev f) (ev1 ev args) h k
 | .mnext _ _=>False
 | o=>opN o ev h k
def effN (still eff : Bool) (h h' : Heap) (y : Esc) (Q : Prop) : Prop:=match upB eff with
 | true=>Q
 | false=>match still with
  | true=>Q
  | false=>(h' = h ∧ y = []) ∧ Q
def zwy (C : Hd) (gl : Nat → Option PV) (q : AOp × List (Nat × AV) × AV) (g : Heap) : Prop:=
 gK q.1.guard q.2.1 g (opE C q.1.op (Opd.ev gl q.2.1) g) fun v1 h1 x1=>v1 = q.2.2 ∧ h1 = g ∧ x1 = []
def z6A (C : Hd) (gl : Nat → Option PV) (h : Heap) (dn : Done) (Q : Prop) : List Nat → Prop
 | []=>Q
 | j :: r=>(match dn[j]? with | some q=>zwy C gl q h | none=>False) ∧ z6A C gl h dn Q r
def z6H (C : Hd) (gl : Nat → Option PV) (o : AOp) (e : List (Nat × AV)) (v : AV) (hs : List Heap) (Q : Prop) : List Nat → Prop
 | []=>Q
 | k :: r=>(match hs[k]? with | some g=>zwy C gl (o,e,v) g | none=>False) ∧ z6H C gl o e v hs Q r
def zgS (C : Hd) (gl : Nat → Option PV) : List DOp → Done → List Heap → List (Nat × AV) → Heap → Esc → (List (Nat × AV) → Heap → Esc → Prop) → Prop
 | [],_,_,e,h,x,L=>L e h x
 | o :: r,dn,hs,e,h,x,L=>gK o.op.guard (z0A (some o.rd) e) h (opE C o.op.op (Opd.ev gl (z0A (some o.rd) e)) h) fun v h' y=>
  effN o.op.op.still o.eff h h' y (z6H C gl o.op (z0A (some o.rd) e) v hs (z6A C gl h' dn (zgS C gl r (dn ++ [(o.op,z0A (some o.rd) e,v)]) (hs ++ [h]) (put o.op.dst v e) h' (y ++ x) L) o.again) o.early)
theorem znx {o : AO} {d : Option Nat} {e : List (Nat × AV)} {h : Heap} {R : AV → Heap → Esc → Prop} : doK C gl ⟨d,none,o⟩ e h R = opE C o (Opd.ev gl e) h R:=by
 cases hp : o.plain with
 | true=>
  rw [z09 hp,zny hp]
  cases o <;> first | rfl | cases hp
 | false=>
  cases o <;> first | (cases hp; done) | skip
  all_goals first
   | (rw [zfw,z5v]; rfl)
   | (rw [z9o,z5v]; rfl)
   | (unfold doK ADo opE; simp [wanted])
theorem zum {o : AOp} {e : List (Nat × AV)} {h : Heap} {R : AV → Heap → Esc → Prop} : doK C gl o e h R = gK o.guard e h (opE C o.op (Opd.ev gl e) h) R:=by
 obtain ⟨d,g,op⟩:=o
 cases g with
 | none=>exact znx
 | some tb=>
  obtain ⟨t,b⟩:=tb
  rw [zc7,znx]; rfl
theorem zgs {q : AOp × List (Nat × AV) × AV} {g : Heap} : doS C gl q g = zwy C gl q g:=by
 obtain ⟨⟨d,gd,op⟩,e,v⟩:=q
 rw [zto,zum]; rfl
theorem zbr {h : Heap} {dn : Done} {Q : Prop} : ∀ {l : List Nat},z6A C gl h dn Q l = (agK C gl h dn l ∧ Q)
 | []=>by simp [z6A,agK]
 | j :: r=>by
  unfold z6A agK
  rw [zbr (l:=r)]
  cases dn[j]? with
  | none=>simp
  | some q=>simp only [zgs,and_assoc]
theorem zc9 {o : AOp} {e : List (Nat × AV)} {v : AV} {hs : List Heap} {Q : Prop} : ∀ {l : List Nat},z6H C gl o e v hs Q l = (eaK C gl o e v hs l ∧ Q)
 | []=>by simp [z6H,eaK]
 | j :: r=>by
  unfold z6H eaK
  rw [zc9 (l:=r)]
  cases hs[j]? with
  | none=>simp
  | some q=>simp only [zgs,and_assoc]
theorem zkG {o : AOp} (hs : o.op.still = true) {e : List (Nat × AV)} {h : Heap} {R : AV → Heap → Esc → Prop} : doK C gl o e h (fun v h' y=>(h' = h ∧ y = []) ∧ R v h' y) = doK C gl o e h R:=by
 unfold doK
 refine propext ⟨fun ⟨v,h',y,H,_,r⟩=>⟨v,h',y,H,r⟩,fun ⟨v,h',y,H,r⟩=>⟨v,h',y,H,zia hs H,r⟩⟩
theorem ze4 : ∀ (ds : List DOp) (dn : Done) (hs : List Heap) (e : List (Nat × AV)) (h : Heap) (x : Esc) (L : List (Nat × AV) → Heap → Esc → Prop),z2f C gl ds dn hs e h x L = zgS C gl ds dn hs e h x L
 | [],dn,hs,e,h,x,L=>rfl
 | ⟨o,rd,eff,early,again⟩ :: r,dn,hs,e,h,x,L=>by
  rw [z8X]
  show _ = gK o.guard (z0A (some rd) e) h (opE C o.op (Opd.ev gl (z0A (some rd) e)) h) fun v h' y=>
   effN o.op.still eff h h' y (z6H C gl o (z0A (some rd) e) v hs (z6A C gl h' dn (zgS C gl r (dn ++ [(o,z0A (some rd) e,v)]) (hs ++ [h]) (put o.dst v e) h' (y ++ x) L) again) early)
  rw [← zum]
  have e1 : zqZ C gl ⟨o,rd,eff,early,again⟩ r dn hs e h x L = fun v h' y=>(effK eff h h' y ∧ z6H C gl o (z0A (some rd) e) v hs (z6A C gl h' dn (zgS C gl r (dn ++ [(o,z0A (some rd) e,v)]) (hs ++ [h]) (put o.dst v e) h' (y ++ x) L) again) early):=by
   funext v h' y
   rw [zc8,zc9,zbr,← ze4 r]
  rw [e1]
  cases eff with
  | true=>
   congr 1; funext v h' y
   simp [effK,effN,upB]
  | false=>
   cases hs' : o.op.still with
   | true=>
    have:=zkG (C:=C) (gl:=gl) (o:=o) hs' (e:=z0A (some rd) e) (h:=h) (R:=fun v h' y=>z6H C gl o (z0A (some rd) e) v hs (z6A C gl h' dn (zgS C gl r (dn ++ [(o,z0A (some rd) e,v)]) (hs ++ [h]) (put o.dst v e) h' (y ++ x) L) again) early)
    exact this
   | false=>rfl
def NW (C : Hd) (gl : Nat → Option PV) : ACode → St → (Ex → St → Prop) → Prop
 | .skip,s,K=>K .normal s
 | .reg ops keep,s,K=>NReg C gl ops s.env s.h s.esc fun e h x=>K .normal ⟨z0A keep e,h,x⟩
 | .draw ds keep,s,K=>zgS C gl ds [] [] s.env s.h s.esc fun e h x=>K .normal ⟨z0A keep e,h,x⟩
 | .seq a b,s,K=>NW C gl a s fun e s'=>match e with
  | .normal=>NW C gl b s' K
  | .exit i=>K (.exit i) s'
  | .ret=>K .ret s'
 | .cond c a b,s,K=>z0l (Opd.ev gl s.env c) (NW C gl a s K) (NW C gl b s K)
 | .condu c a b,s,K=>zkg (Opd.ev gl s.env c) (NW C gl a s K) (NW C gl b s K)
 | .det b,s,K=>NW C gl b s K
 | .block id b,s,K=>NW C gl b s fun e s'=>match e with
  | .normal=>K .normal s'
  | .exit i=>bif Nat.beq i id then K .normal s' else K (.exit i) s'
  | .ret=>K .ret s'
 | .loop b,s,K=>ALoop (NW C gl b) K s
 | .scope b,s,K=>NW C gl b ⟨s.env,s.h,[]⟩ fun e s'=>K e (z8W s.h.length s.esc s')
 | .pr l b,s,K=>NW C gl b ⟨z0A (some l) s.env,s.h,s.esc⟩ K
 | .exit id,s,K=>K (.exit id) s
 | .ret,s,K=>K .ret s
 | .bad,_,_=>False
theorem z5k : ∀ (c : ACode) (s : St) (K : Ex → St → Prop),AW C gl c s K = NW C gl c s K
 | .skip,s,K=>rfl
 | .reg ops keep,s,K=>ziC _ _ _ _ _
 | .draw ds keep,s,K=>ze4 _ _ _ _ _ _ _
 | .seq a b,s,K=>by
  unfold AW NW
  rw [z5k a]
  congr 1; funext e s'
  cases e with
  | normal=>exact z5k b s' K
  | _=>rfl
 | .cond c a b,s,K=>by
  unfold AW NW z0l
  rw [← z5k a,← z5k b]
  rfl
 | .condu c a b,s,K=>by
  unfold AW NW zkg
  rw [← z5k a,← z5k b]
  rfl
 | .det b,s,K=>z5k b s K
 | .block id b,s,K=>by
  unfold AW NW
  rw [z5k b]
  congr 1; funext e s'
  cases e with
  | exit i=>
   dsimp only
   by_cases hi : i = id
   ·subst hi; simp
   ·rw [if_neg hi]
    have : Nat.beq i id = false:=by cases h : Nat.beq i id with | false=>rfl | true=>exact absurd (Nat.eq_of_beq_eq_true h) hi
    rw [this]; rfl
  | _=>rfl
 | .loop b,s,K=>by
  show ALoop (AW C gl b) K s = ALoop (NW C gl b) K s
  rw [show AW C gl b = NW C gl b from funext fun s=>funext fun K=>z5k b s K]
 | .scope b,s,K=>z5k b _ _
 | .pr l b,s,K=>z5k b _ _
 | .exit id,s,K=>rfl
 | .ret,s,K=>rfl
 | .bad,s,K=>rfl
end Go.Am
end
section
/- The abstract machine,part 31: words in which a function's code is printed,and the rules of computing over them. -/
set_option linter.unusedSimpArgs false
set_option linter.unusedVariables false
namespace Go.Am
variable {C : Hd} {gl : Nat → Option PV} {e : List (Nat × AV)} {h : Heap} {x : Esc} {K : Ex → St → Prop} {s : St}
abbrev AI (n : Int) : AV:=.p (.int .i64 n)
abbrev AB (b : Bool) : AV:=.p (.bool b)
def seqN (C : Hd) (gl : Nat → Option PV) (b : ACode) (K : Ex → St → Prop) (e : Ex) (s : St) : Prop:=match e with
 | .normal=>NW C gl b s K
 | .exit i=>K (.exit i) s
 | .ret=>K .ret s
def z02 (id : Nat) (K : Ex → St → Prop) (e : Ex) (s : St) : Prop:=match e with
 | .normal=>K .normal s
 | .exit i=>bif Nat.beq i id then K .normal s else K (.exit i) s
 | .ret=>K .ret s
def nqK (sh : Option Sh) (l : List AV) (h : Heap) (k : AV → Heap → Esc → Prop) : Prop:=match z4Z h sh l with
 | some l=>l ≠ [] ∧ ∀ y ∈ l,k y.1 y.2 []
 | none=>False
theorem z8J {b : ACode} : seqN C gl b K .normal s = NW C gl b s K:=(rfl)
theorem zdw {b : ACode} {i : Nat} : seqN C gl b K (.exit i) s = K (.exit i) s:=(rfl)
theorem zgy {b : ACode} : seqN C gl b K .ret s = K .ret s:=(rfl)
theorem z5o {i : Nat} : z02 i K .normal s = K .normal s:=(rfl)
theorem z7r {i : Nat} : z02 i K (.exit i) s = K .normal s:=by simp [z02]
theorem zdL {i j : Nat} : z02 i K (.exit j) s = bif Nat.beq j i then K .normal s else K (.exit j) s:=(rfl)
theorem z9e {i : Nat} : z02 i K .ret s = K .ret s:=(rfl)
theorem zhM {b : ACode} {ex ex' : Ex} {s s' : St} (he : ex = ex') (hs : s = s') : seqN C gl b K ex s = seqN C gl b K ex' s':=by rw [he,hs]
theorem zbw {i : Nat} {ex ex' : Ex} {s s' : St} (he : ex = ex') (hs : s = s') : z02 i K ex s = z02 i K ex' s':=by rw [he,hs]
theorem zqw {b : ACode} : NW C gl (.scope b) ⟨e,h,x⟩ K = NW C gl b ⟨e,h,[]⟩ (zdt h.length x K):=(rfl)
theorem zqv {c : ACode} {s s' : St} (hs : s = s') : NW C gl c s K = NW C gl c s' K:=by rw [hs]
def z1z (C : Hd) (gl : Nat → Option PV) (b : ACode) (K : Ex → St → Prop) (e : List (Nat × AV)) (h : Heap) (x : Esc) : Prop:=ALoop (NW C gl b) K ⟨e,h,x⟩
theorem z1h {l : List Nat} {b : ACode} : NW C gl (.loop (.pr l b)) ⟨e,h,x⟩ K = z1z C gl (.pr l b) K (z0A (some l) e) h x:=by
 show ALoop _ _ _ = ALoop _ _ _
 exact z4y (funext fun R=>by show NW C gl b _ R = NW C gl b _ R; dsimp only; rw [z36])
theorem z1D {l : List Nat} {b : ACode} : NW C gl (.loop (.scope (.pr l b))) ⟨e,h,x⟩ K = z1z C gl (.scope (.pr l b)) K (z0A (some l) e) h x:=by
 show ALoop _ _ _ = ALoop _ _ _
 exact z4y (funext fun R=>by show NW C gl b _ _ = NW C gl b _ _; dsimp only; rw [z36])
theorem zdF {b : ACode} {e e' : List (Nat × AV)} {h h' : Heap} {x x' : Esc} (h1 : e = e') (h2 : h = h') (h3 : x = x') : z1z C gl b K e h x = z1z C gl b K e' h' x':=by rw [h1,h2,h3]
theorem z0Z {σ : Type} {b : ACode} (S : σ → St) (P : σ → Prop) (m : σ → Nat) (t0 : σ) (hs : (⟨e,h,x⟩ : St) = S t0) (h0 : P t0) (hr : ∀ t,P t → NW C gl b (S t) (zh2 S P m K t)) : z1z C gl b K e h x:=by
 show ALoop (NW C gl b) K _
 rw [hs]
 have key : ∀ n t,m t < n → P t → ALoop (NW C gl b) K (S t):=by
  intro n
  induction n with
  | zero=>intro t h; omega
  | succ n ih=>
   intro t hm hp
   refine .mk _ _ (hr t hp) (fun s' h'=>?_) (fun i s' h'=>h') (fun s' h'=>h')
   obtain ⟨u,rfl,hu,hlt⟩:=h'
   exact ih u (by omega) hu
 exact key _ t0 (Nat.lt_succ_self _) h0
theorem z0i {X : Ctx} {f : Nat} {F : AFun} {a asv : List AV} {h h1 : Heap} {P : Post} (hf : X.fn f = some F) (hr : F.byref = false) (hp : z0s h a = some (asv,h1)) (hl : asv.length = F.nparams) (hd : F.isDet = false:=by rfl) :
 z0c X f a h P = NW (z0c X) X.gl F.body ⟨enter asv,h1,[]⟩ (finR F.results F.keep h.length P):=by
 rw [zsx hf hr hp hl hd,z5k]
theorem z29 {X : Ctx} {f : Nat} {F : AFun} {a asv : List AV} {h h1 : Heap} {P : Post} (hf : X.fn f = some F) (hr : F.byref = false) (hp : z0s h a = some (asv,h1)) (hl : asv.length = F.nparams) (hd : F.isDet = true:=by rfl) :
 z0c X f a h P = ∃ v h' x,P v h' x ∧ NW (z0c X) X.gl F.body ⟨enter asv,h1,[]⟩ (finR F.results F.keep h.length fun v1 h1 x1=>v1 = v ∧ h1 = h' ∧ x1 = x):=by
 rw [zdy hf hr hp hl hd]
 simp only [z5k]
theorem zeV {X : Ctx} {f : Nat} {F : AFun} {asv : List AV} {h : Heap} {P : Post} (hf : X.fn f = some F) (hr : F.byref = true) (hl : asv.length = F.nparams) (hd : F.isDet = false:=by rfl) :
 z0c X f asv h P = NW (z0c X) X.gl F.body ⟨enter asv,h,[]⟩ (finR F.results F.keep h.length P):=by
 rw [zsw hf hr hl hd,z5k]
theorem zn3 {v : AV} {k : AV → Prop} : pK (some v) k = k v:=(rfl)
theorem zn2 {k : AV → Prop} : pK none k = False:=(rfl)
theorem zqf {v : AV} {h : Heap} {x : Esc} {k : AV → Heap → Esc → Prop} : wK (some (v,h,x)) k = k v h x:=(rfl)
theorem zqe {k : AV → Heap → Esc → Prop} : wK none k = False:=(rfl)
theorem pK_ite {p : Prop} [Decidable p] {a b : Option AV} {k : AV → Prop} : pK (if p then a else b) k = if p then pK a k else pK b k:=by split <;> rfl
theorem wK_ite {p : Prop} [Decidable p] {a b : Option (AV × Heap × Esc)} {k : AV → Heap → Esc → Prop} : wK (if p then a else b) k = if p then wK a k else wK b k:=by split <;> rfl
theorem zrC {o o' : Option AV} {k : AV → Prop} (h : o = o') : pK o k = pK o' k:=by rw [h]
theorem zsA {o o' : Option (AV × Heap × Esc)} {k : AV → Heap → Esc → Prop} (h : o = o') : wK o k = wK o' k:=by rw [h]
theorem zrp {v v' : AV} {b : Bool} {h : Heap} {A : (AV → Heap → Esc → Prop) → Prop} {k : AV → Heap → Esc → Prop} (h1 : v = v') : gV v b h A k = gV v' b h A k:=by rw [h1]
theorem zro {v v' : AV} {b : Bool} {o : Option AV} {h : Heap} {k : AV → Heap → Esc → Prop} (h1 : v = v') : gP v b o h k = gP v' b o h k:=by rw [h1]
theorem zrn {v v' : AV} {b : Bool} {u : AV} {h : Heap} {k : AV → Heap → Esc → Prop} (h1 : v = v') : gM v b u h k = gM v' b u h k:=by rw [h1]
section
variable {A : (AV → Heap → Esc → Prop) → Prop} {o : Option AV} {u : AV} {k : AV → Heap → Esc → Prop} {t b : Bool}
theorem gV_tt : gV (.p (.bool true)) true h A k = A k:=(rfl)
theorem gV_ff : gV (.p (.bool false)) false h A k = A k:=(rfl)
theorem gV_tf : gV (.p (.bool true)) false h A k = k .skp h []:=(rfl)
theorem gV_ft : gV (.p (.bool false)) true h A k = k .skp h []:=(rfl)
theorem zup : gV .skp b h A k = k .skp h []:=(rfl)
theorem gV_any : gV (.p (.bool t)) b h A k = z2N (.p (.bool t)) b (A k) (k .skp h []):=(rfl)
theorem gP_tt : gP (.p (.bool true)) true o h k = pK o fun v=>k v h []:=(rfl)
theorem gP_ff : gP (.p (.bool false)) false o h k = pK o fun v=>k v h []:=(rfl)
theorem gP_tf : gP (.p (.bool true)) false o h k = k .skp h []:=(rfl)
theorem gP_ft : gP (.p (.bool false)) true o h k = k .skp h []:=(rfl)
theorem zuo : gP .skp b o h k = k .skp h []:=(rfl)
theorem gP_any : gP (.p (.bool t)) b o h k = z2N (.p (.bool t)) b (pK o fun v=>k v h []) (k .skp h []):=(rfl)
theorem gM_tt : gM (.p (.bool true)) true u h k = k u h []:=(rfl)
theorem gM_ff : gM (.p (.bool false)) false u h k = k u h []:=(rfl)
theorem gM_tf : gM (.p (.bool true)) false u h k = k .skp h []:=(rfl)
theorem gM_ft : gM (.p (.bool false)) true u h k = k .skp h []:=(rfl)
theorem zun : gM .skp b u h k = k .skp h []:=(rfl)
theorem gM_any : gM (.p (.bool t)) b u h k = z2N (.p (.bool t)) b (k u h []) (k .skp h []):=(rfl)
end
section
variable {k k' : IntKind} {a b : Int} {sa sb : List UInt8}
theorem zuQ : oBin .add (.p (.int k a)) (.p (.int k b)) = some (.p (.int k (k.wrap (a + b)))):=by simp [oBin,abin,aint]
theorem zvd : oBin .sub (.p (.int k a)) (.p (.int k b)) = some (.p (.int k (k.wrap (a - b)))):=by simp [oBin,abin,aint]
theorem zuX : oBin .mul (.p (.int k a)) (.p (.int k b)) = some (.p (.int k (k.wrap (a * b)))):=by simp [oBin,abin,aint]
theorem zuZ : oBin .quo (.p (.int k a)) (.p (.int k b)) = if b = 0 then none else some (.p (.int k (k.wrap (a.tdiv b)))):=by simp [oBin,abin,aint] <;> split <;> rfl
theorem zva : oBin .rem (.p (.int k a)) (.p (.int k b)) = if b = 0 then none else some (.p (.int k (a.tmod b))):=by simp [oBin,abin,aint] <;> split <;> rfl
theorem zuR : oBin .and (.p (.int k a)) (.p (.int k b)) = some (.p (.int k (iand k a b))):=by simp [oBin,abin,aint]
theorem bin_or : oBin .or (.p (.int k a)) (.p (.int k b)) = some (.p (.int k (ior k a b))):=by simp [oBin,abin,aint]
theorem zve : oBin .xor (.p (.int k a)) (.p (.int k b)) = some (.p (.int k (ixor k a b))):=by simp [oBin,abin,aint]
theorem zgZ : oBin .andNot (.p (.int k a)) (.p (.int k b)) = some (.p (.int k (zhz k a b))):=by simp [oBin,abin,aint]
theorem zuS : oBin .eql (.p (.int k a)) (.p (.int k b)) = some (.p (.bool (decide (a = b)))):=by simp [oBin,abin,aint]
theorem zuY : oBin .neq (.p (.int k a)) (.p (.int k b)) = some (.p (.bool (!decide (a = b)))):=by simp [oBin,abin,aint]
theorem zuW : oBin .lss (.p (.int k a)) (.p (.int k b)) = some (.p (.bool (decide (a < b)))):=by simp [oBin,abin,aint]
theorem zuV : oBin .leq (.p (.int k a)) (.p (.int k b)) = some (.p (.bool (decide (a ≤ b)))):=by simp [oBin,abin,aint]
theorem zuU : oBin .gtr (.p (.int k a)) (.p (.int k b)) = some (.p (.bool (decide (b < a)))):=by simp [oBin,abin,aint]
theorem zuT : oBin .geq (.p (.int k a)) (.p (.int k b)) = some (.p (.bool (decide (b ≤ a)))):=by simp [oBin,abin,aint]
theorem zvb : oBin .shl (.p (.int k a)) (.p (.int k' b)) = if b < 0 then none else some (.p (.int k (ishl k a b))):=by simp [oBin,abin] <;> split <;> rfl
theorem zvc : oBin .shr (.p (.int k a)) (.p (.int k' b)) = if b < 0 then none else some (.p (.int k (ishr k a b))):=by simp [oBin,abin] <;> split <;> rfl
theorem zwC : oBin .add (.p (.str sa)) (.p (.str sb)) = if sa.length + sb.length ≤ z00 then some (.p (.str (sa ++ sb))) else none:=by simp [oBin,abin,astr] <;> split <;> rfl
theorem zwD : oBin .eql (.p (.str sa)) (.p (.str sb)) = some (.p (.bool (decide (sa = sb)))):=by simp [oBin,abin,astr]
theorem zwJ : oBin .neq (.p (.str sa)) (.p (.str sb)) = some (.p (.bool (!decide (sa = sb)))):=by simp [oBin,abin,astr]
theorem zwI : oBin .lss (.p (.str sa)) (.p (.str sb)) = some (.p (.bool (Op.bytesLess sa sb))):=by simp [oBin,abin,astr]
theorem zwH : oBin .leq (.p (.str sa)) (.p (.str sb)) = some (.p (.bool (Op.bytesLess sa sb || decide (sa = sb)))):=by simp [oBin,abin,astr]
theorem zwG : oBin .gtr (.p (.str sa)) (.p (.str sb)) = some (.p (.bool (!(Op.bytesLess sa sb || decide (sa = sb))))):=by simp [oBin,abin,astr]
theorem zwE : oBin .geq (.p (.str sa)) (.p (.str sb)) = some (.p (.bool (!Op.bytesLess sa sb))):=by simp [oBin,abin,astr]
theorem un_neg : oUn .neg (.p (.int k a)) = some (.p (.int k (k.wrap (-a)))):=by simp [oUn,aun]
theorem un_not {t : Bool} : oUn .not (.p (.bool t)) = some (.p (.bool !t)):=(rfl)
theorem convI {k' : IntKind} : zcT k (.p (.int k' a)) = some (.p (.int k (k.wrap a))):=(rfl)
theorem nilref {i j : Nat} : oNil (.ref i j) = some (.ref i j):=(rfl)
theorem zvX {i j m n : Nat} : oNil (.rref i j m n) = some (.rref i j m n):=(rfl)
theorem nilvp {v : PV} : oNil (.vp v) = some (.vp v):=(rfl)
theorem nilfn {f : Nat} {cs : List AV} : oNil (.fn f cs) = some (.fn f cs):=(rfl)
theorem pick_b {t : Bool} {u v : AV} : z1q (.p (.bool t)) u v = some (bif t then u else v):=(rfl)
theorem len_sl {sh : Sh} {xs : List PV} : oLen (.p (.sl sh xs)) = some (.p (.int .i64 xs.length)):=(rfl)
theorem zvI {sh : Sh} : oLen (.sl0 sh) = some (.p (.int .i64 0)):=(rfl)
theorem zvH {i g o l : Nat} : oLen (.own i g o l) = some (.p (.int .i64 l)):=(rfl)
theorem lens_s : z1j (.p (.str sa)) = some (.p (.int .i64 sa.length)):=(rfl)
theorem ext_t {vs : List AV} {i : Nat} : oExt (.tup vs) i = vs[i]?:=(rfl)
theorem zms {off i j : Nat} {sh : Sh} : z0e off sh (.ref i j) = some (.ref i (j + off)):=(rfl)
theorem zhn {off i j m n : Nat} {sh : Sh} : z0e off sh (.rref i j m n) = some (.rref i j m (n + off)):=(rfl)
theorem zri {off : Nat} {sh : Sh} {v : PV} : z0e off sh (.vp v) = (cutP sh off v).map .vp:=(rfl)
theorem zv1 {off : Nat} {sh : Sh} {cs : List PV} : z8h off sh (.p (.agg cs)) = (cutP sh off (.agg cs)).map .p:=(rfl)
theorem zv0 {off : Nat} {sh : Sh} {cs : List AV} : z8h off sh (.agg cs) = cut sh off cs:=(rfl)
def ldB (sh : Sh) (off : Nat) : Option Obj → Option AV
 | some (.box cs)=>cut sh off cs
 | _=>none
def ldR (sh : Sh) (g i off : Nat) : Option Obj → Option AV
 | some (.row _ xs _)=>if g = xs.length then ((xs[i]?).bind (cutP sh off)).map .p else none
 | _=>none
theorem zr2 {sh : Sh} {i j : Nat} : z0g sh (.ref i j) h = ldB sh j h[i]?:=by unfold z0g ldB; rfl
theorem znk {sh : Sh} {i g m n : Nat} : z0g sh (.rref i g m n) h = ldR sh g m n h[i]?:=by unfold z0g ldR; rfl
theorem znl {sh : Sh} {v : PV} : z0g sh (.vp v) h = (cutP sh 0 v).map .p:=(rfl)
theorem zvD {sh : Sh} {off : Nat} {cs : List AV} : ldB sh off (some (.box cs)) = cut sh off cs:=(rfl)
theorem zvE {sh sh' : Sh} {g i off fz : Nat} {xs : List PV} : ldR sh g i off (some (.row sh' xs fz)) = if g = xs.length then ((xs[i]?).bind (cutP sh off)).map .p else none:=(rfl)
def stB (sh : Sh) (id off : Nat) (v : AV) (h : Heap) : Option Obj → Option (List AV) → Option (AV × Heap × Esc)
 | some (.box cs),some vs=>if vs.length = z0a sh ∧ off + vs.length ≤ cs.length then some (.und,h.set id (.box (splice cs off vs)),escS id cs v) else none
 | _,_=>none
theorem zpT {sh : Sh} {i j : Nat} {v : AV} : z0n sh (.ref i j) v h = stB sh i j v h h[i]? v.cells:=by unfold z0n stB; rfl
theorem zw6 {sh : Sh} {id off : Nat} {v : AV} {cs vs : List AV} : stB sh id off v h (some (.box cs)) (some vs) = if vs.length = z0a sh ∧ off + vs.length ≤ cs.length then some (.und,h.set id (.box (splice cs off vs)),escS id cs v) else none:=(rfl)
theorem escS_p {id : Nat} {cs : List AV} {v : PV} : escS id cs (.p v) = []:=by
 unfold escS
 cases z60 cs && decide (AV.top (.p v) ≤ AV.tops cs) <;> rfl
theorem zrc {id : Nat} {cs : List AV} {v : AV} (h : z60 cs = false) : escS id cs v = z2V id v:=by
 unfold escS
 rw [h]
 rfl
theorem zvC {a : AV} {v : PV} : z60 [a,.p v] = false:=(rfl)
theorem zmF {a : AV} {s : Sh} : z60 [a,.sl0 s] = false:=(rfl)
theorem zmE {a : AV} {i j k l : Nat} : z60 [a,.own i j k l] = false:=(rfl)
theorem zh0 {a : AV} : z60 [a,.nilp] = false:=(rfl)
theorem zv9 : z60 [] = false:=(rfl)
theorem zvA {a : AV} : z60 [a] = false:=(rfl)
theorem zvB {a b c : AV} {l : List AV} : z60 (a :: b :: c :: l) = false:=by unfold z60; split <;> first | rfl | (rename_i h; simp at h)
theorem zmc {id t n m : Nat} {a : AV} : escS id [a,.bt 1 t (id + 1) n] (.ref id m) = []:=by
 unfold escS
 have e : decide (AV.top (.ref id m) ≤ AV.tops [a,.bt 1 t (id + 1) n]) = true:=by simp [AV.top,AV.tops]; omega
 rw [e]
 rfl
theorem zrd {id t t' i n n' : Nat} {a : AV} : escS id [a,.bt 1 t i n] (.bt 1 t' i n') = []:=by
 unfold escS
 have e : decide (AV.top (.bt 1 t' i n') ≤ AV.tops [a,.bt 1 t i n]) = true:=by simp [AV.top,AV.tops]; omega
 rw [e]
 rfl
def stE (sh : Sh) (id i off fz : Nat) (rsh : Sh) (xs : List PV) (v : PV) (h1 : Heap) : Option PV → Option (AV × Heap × Esc)
 | some (.agg cs)=>if off + v.cells.length ≤ cs.length then some (.und,h1.set id (.row rsh (xs.set i (.agg (splice cs off v.cells))) fz),[]) else none
 | some _=>if off = 0 ∧ v.sc then some (.und,h1.set id (.row rsh (xs.set i v) fz),[]) else none
 | none=>none
def stO (sh : Sh) (id g i off : Nat) (v : PV) (h1 : Heap) : Option Obj → Option (AV × Heap × Esc)
 | some (.row rsh xs fz)=>if g = xs.length ∧ fz ≤ i ∧ v.cells.length = z0a sh ∧ v.cells.all PV.sc then stE sh id i off fz rsh xs v h1 xs[i]? else none
 | _=>none
def stR (sh : Sh) (id g i off : Nat) : Option (PV × Heap) → Option (AV × Heap × Esc)
 | some y=>stO sh id g i off y.1 y.2 y.2[id]?
 | none=>none
theorem zhS {sh : Sh} {id g i off : Nat} {x : AV} : z0n sh (.rref id g i off) x h = stR sh id g i off (pur h x):=by
 unfold z0n stR
 cases pur h x with
 | none=>rfl
 | some y=>
  obtain ⟨v,h1⟩:=y
  dsimp only
  unfold stO
  cases h1[id]? with
  | none=>rfl
  | some o=>cases o <;> rfl
theorem zsv {sh : Sh} {id g i off : Nat} {v : PV} {h1 : Heap} : stR sh id g i off (some (v,h1)) = stO sh id g i off v h1 h1[id]?:=(rfl)
theorem zwA {sh rsh : Sh} {id g i off fz : Nat} {v : PV} {h1 : Heap} {xs : List PV} : stO sh id g i off v h1 (some (.row rsh xs fz)) = if g = xs.length ∧ fz ≤ i ∧ v.cells.length = z0a sh ∧ v.cells.all PV.sc then stE sh id i off fz rsh xs v h1 xs[i]? else none:=(rfl)
theorem zw7 {sh rsh : Sh} {id i off fz : Nat} {v : PV} {h1 : Heap} {xs cs : List PV} : stE sh id i off fz rsh xs v h1 (some (.agg cs)) = if off + v.cells.length ≤ cs.length then some (.und,h1.set id (.row rsh (xs.set i (.agg (splice cs off v.cells))) fz),[]) else none:=(rfl)
theorem zw8 {sh rsh : Sh} {id i off fz : Nat} {v : PV} {h1 : Heap} {xs : List PV} {k : IntKind} {n : Int} : stE sh id i off fz rsh xs v h1 (some (.int k n)) = if off = 0 ∧ v.sc then some (.und,h1.set id (.row rsh (xs.set i v) fz),[]) else none:=(rfl)
theorem zst {sh rsh : Sh} {id i off fz : Nat} {v : PV} {h1 : Heap} {xs : List PV} {t : Bool} : stE sh id i off fz rsh xs v h1 (some (.bool t)) = if off = 0 ∧ v.sc then some (.und,h1.set id (.row rsh (xs.set i v) fz),[]) else none:=(rfl)
theorem zw9 {sh rsh : Sh} {id i off fz : Nat} {v : PV} {h1 : Heap} {xs : List PV} {s : List UInt8} : stE sh id i off fz rsh xs v h1 (some (.str s)) = if off = 0 ∧ v.sc then some (.und,h1.set id (.row rsh (xs.set i v) fz),[]) else none:=(rfl)
theorem stE_sl {sh rsh : Sh} {id i off fz : Nat} {v : PV} {h1 : Heap} {xs : List PV} {sh' : Sh} {ys : List PV} : stE sh id i off fz rsh xs v h1 (some (.sl sh' ys)) = if off = 0 ∧ v.sc then some (.und,h1.set id (.row rsh (xs.set i v) fz),[]) else none:=(rfl)
theorem zsu {sh rsh : Sh} {id i off fz : Nat} {v : PV} {h1 : Heap} {xs : List PV}  : stE sh id i off fz rsh xs v h1 (some .nilp) = if off = 0 ∧ v.sc then some (.und,h1.set id (.row rsh (xs.set i v) fz),[]) else none:=(rfl)
theorem pur_p {v : PV} : pur h (.p v) = some (v,h):=(rfl)
def iaS (xs : List PV) : Option Nat → Option AV
 | some k=>(xs[k]?).map .vp
 | none=>none
theorem zrv {sh : Sh} {xs : List PV} {i : AV} : z0E sh (.p (.sl sh xs)) i h = iaS xs (z1f i):=by
 unfold z0E iaS; cases z1f i <;> simp
theorem zrs {xs : List PV} {n : Nat} : iaS xs (some n) = (xs[n]?).map .vp:=(rfl)
def iaO (sh : Sh) (id g off len : Nat) : Option Obj → Option Nat → Option AV
 | some (.row rsh xs _),some k=>if rsh = sh ∧ g = xs.length ∧ off + len ≤ xs.length ∧ k < len then some (.rref id g (off + k) 0) else none
 | _,_=>none
theorem zmA {sh : Sh} {id g off len : Nat} {i : AV} : z0E sh (.own id g off len) i h = iaO sh id g off len h[id]? (z1f i):=by
 unfold z0E iaO
 cases z1f i with
 | none=>dsimp only; cases h[id]? with
  | none=>rfl
  | some o=>cases o <;> rfl
 | some k=>dsimp only; cases h[id]? with
  | none=>rfl
  | some o=>cases o <;> rfl
theorem zv3 {sh rsh : Sh} {id g off len k fz : Nat} {xs : List PV} : iaO sh id g off len (some (.row rsh xs fz)) (some k) = if rsh = sh ∧ g = xs.length ∧ off + len ≤ xs.length ∧ k < len then some (.rref id g (off + k) 0) else none:=(rfl)
theorem idxs_s {i : AV} : z8j (.p (.str sa)) i = (z1f i).bind fun n=>(sa[n]?).map fun b=>.p (.int .u8 b.toNat):=by
 unfold z8j; cases z1f i <;> rfl
end
theorem ztf {z : List AV} {k : AV → Heap → Esc → Prop} : alK z h k = k (.ref h.length 0) (h ++ [.box z]) []:=(rfl)
theorem zut {sh : Sh} {k : AV → Heap → Esc → Prop} : nwK sh h k = k (.own h.length 0 0 0) (h ++ [.row sh [] 0]) []:=(rfl)
theorem zur {k : AV → Heap → Esc → Prop} : mmK h k = k (.mp h.length) (h ++ [.amap [] 0]) []:=(rfl)
theorem zhg {A B : Prop} : zkg (.p (.bool true)) A B = A:=(rfl)
theorem zdT {A B : Prop} : zkg (.p (.bool false)) A B = B:=(rfl)
theorem zkh {A B : Prop} : zkg .anyb A B = (A ∧ B):=(rfl)
theorem zhG {h : Heap} : z0C [] h = ([],h):=(rfl)
theorem zhH {h : Heap} {s : Sh} {r : List AV} : z0C (.sl0 s :: r) h = (.own h.length 0 0 0 :: (z0C r (h ++ [.row s [] 0])).1,(z0C r (h ++ [.row s [] 0])).2):=(rfl)
theorem zrX {h : Heap} {v : PV} {r : List AV} : z0C (.p v :: r) h = (.p v :: (z0C r h).1,(z0C r h).2):=(rfl)
attribute [go_sem] zhG zhH zrX
theorem zp2 {h : Heap} : z1b [] h = ([],h):=(rfl)
theorem zp5 {h : Heap} {s : Sh} {r : List AV} : z1b (.sl0 s :: r) h = (.own h.length 0 0 0 :: (z1b r (h ++ [.row s [] 0])).1,(z1b r (h ++ [.row s [] 0])).2):=(rfl)
theorem zwr {h : Heap} {v : PV} {r : List AV} : z1b (.p v :: r) h = (.p v :: (z1b r h).1,(z1b r h).2):=(rfl)
theorem zp4 {h : Heap} {i o : Nat} {r : List AV} : z1b (.ref i o :: r) h = (.ref i o :: (z1b r h).1,(z1b r h).2):=(rfl)
theorem zp3 {h : Heap} {i o g l : Nat} {r : List AV} : z1b (.own i o g l :: r) h = (.own i o g l :: (z1b r h).1,(z1b r h).2):=(rfl)
theorem zrW {h : Heap} {i : Nat} {r : List AV} : z1b (.mp i :: r) h = (.mp i :: (z1b r h).1,(z1b r h).2):=(rfl)
attribute [go_sem] zp2 zp5 zwr zp4 zp3 zrW
def ldAr (sh : Sh) (off g : Nat) : Option Obj → Option AV
 | some (.arow rsh cs)=>if g * z0a rsh = cs.length then cut sh off cs else none
 | _=>none
theorem zvL {sh : Sh} {off id g : Nat} : z0g sh (.bt 4 off id g) h = ldAr sh off g h[id]?:=by
 show ldA sh 4 off id g h = _
 unfold ldA ldAr
 rfl
theorem zni {sh rsh : Sh} {off g : Nat} {cs : List AV} : ldAr sh off g (some (.arow rsh cs)) = if g * z0a rsh = cs.length then cut sh off cs else none:=(rfl)
def stAr (sh : Sh) (off id g : Nat) (x : AV) (h : Heap) : Option Obj → Option (List AV) → Option (AV × Heap × Esc)
 | some (.arow rsh cs),some vs=>if g * z0a rsh = cs.length ∧ vs.length = z0a sh ∧ off + vs.length ≤ cs.length then some (.und,h.set id (.arow rsh (splice cs off vs)),z2V id x) else none
 | _,_=>none
theorem zsy {sh : Sh} {off id g : Nat} {x : AV} : z0n sh (.bt 4 off id g) x h = stAr sh off id g x h h[id]? x.cells:=by
 show stA sh 4 off id g x h = _
 unfold stA stAr
 rfl
theorem zpP {sh rsh : Sh} {off id g : Nat} {x : AV} {cs vs : List AV} : stAr sh off id g x h (some (.arow rsh cs)) (some vs) = if g * z0a rsh = cs.length ∧ vs.length = z0a sh ∧ off + vs.length ≤ cs.length then some (.und,h.set id (.arow rsh (splice cs off vs)),z2V id x) else none:=(rfl)
def iaAr (sh : Sh) (id g : Nat) : Option Obj → Option Nat → Option AV
 | some (.arow rsh cs),some i=>if rsh = sh ∧ g * z0a rsh = cs.length ∧ i < g then some (.bt 4 (i * z0a sh) id g) else none
 | _,_=>none
theorem zrt {sh : Sh} {t id g : Nat} {i : AV} : z0E sh (.bt 3 t id g) i h = iaAr sh id g h[id]? (z1f i):=by
 unfold z0E iaAr
 cases z1f i with
 | none=>cases h[id]? with
  | none=>rfl
  | some o=>cases o <;> rfl
 | some k=>
  show iaA sh 3 id g k h = _
  unfold iaA
  cases h[id]? with
  | none=>rfl
  | some o=>cases o <;> rfl
theorem zm9 {sh rsh : Sh} {id g i : Nat} {cs : List AV} : iaAr sh id g (some (.arow rsh cs)) (some i) = if rsh = sh ∧ g * z0a rsh = cs.length ∧ i < g then some (.bt 4 (i * z0a sh) id g) else none:=(rfl)
theorem zrg {off o id g : Nat} {sh : Sh} : z0e off sh (.bt 4 o id g) = some (.bt 4 (o + off) id g):=(rfl)
theorem len_bt {t id g : Nat} : oLen (.bt 3 t id g) = some (.p (.int .i64 g)):=(rfl)
theorem nil_bt {o id g : Nat} : oNil (.bt 4 o id g) = some (.bt 4 o id g):=(rfl)
def apAr (sh : Sh) (h : Heap) (t id g g' : Nat) : Option Obj → Option Obj → Option (AV × Heap × Esc)
 | some (.arow rsh cs),some (.arow rsh' ds)=>if rsh = sh ∧ rsh' = sh ∧ g * z0a sh = cs.length ∧ g' * z0a sh = ds.length ∧ g + g' ≤ z0F then
  some (.bt 3 t id (g + g'),h.set id (.arow sh (cs ++ ds)),bif decide (id < AV.tops ds) then [(id,AV.tops ds)] else []) else none
 | _,_=>none
theorem apA_bt {sh : Sh} {t id g t' id' g' : Nat} : apA sh h (.bt 3 t id g) (.bt 3 t' id' g') = apAr sh h t id g g' h[id]? h[id']?:=by
 show (match h[id]?,h[id']? with | _,_=>_) = _
 unfold apAr
 rfl
theorem zjJ {sh rsh rsh' : Sh} {t id g g' : Nat} {cs ds : List AV} : apAr sh h t id g g' (some (.arow rsh cs)) (some (.arow rsh' ds)) = if rsh = sh ∧ rsh' = sh ∧ g * z0a sh = cs.length ∧ g' * z0a sh = ds.length ∧ g + g' ≤ z0F then
 some (.bt 3 t id (g + g'),h.set id (.arow sh (cs ++ ds)),bif decide (id < AV.tops ds) then [(id,AV.tops ds)] else []) else none:=(rfl)
theorem zp6 {h : Heap} {k t i g : Nat} {r : List AV} : z0C (.bt k t i g :: r) h = (.bt 3 t h.length 0 :: (z0C r (h ++ [.arow (z2n t) []])).1,(z0C r (h ++ [.arow (z2n t) []])).2):=(rfl)
theorem zvo : z2n 0 = none:=(rfl)
theorem zvp {n : Nat} : z2n (n + 1) = some n:=(rfl)
attribute [go_sem] zvL zni zsy zpP zrt zm9 zrg len_bt nil_bt apA_bt zjJ zp6 zvo zvp
attribute [go_sem] z8J zdw zgy z5o z7r z9e zqw zn3 zn2 zqf zqe pK_ite wK_ite gV_tt gV_ff gV_tf gV_ft zup gP_tt gP_ff gP_tf gP_ft zuo gM_tt gM_ff gM_tf gM_ft zun zuQ zvd zuX zuZ zva zuR bin_or zve zgZ zuS zuY zuW zuV zuU zuT zvb zvc zwC zwD zwJ zwI zwH zwG zwE un_neg un_not convI nilref zvX nilvp nilfn pick_b len_sl zvI zvH lens_s ext_t zms zhn zri zv1 zv0 zr2 znk znl zvD zvE zpT zw6 zhS zsv zwA zw7 zw8 zst zw9 stE_sl zsu pur_p escS_p zrc zvC zmF zmE zh0 zv9 zvA zvB zmc zrd zrv zrs zmA zv3 idxs_s ztf zut zur z15 zwx upcB neqB lenB n64 zqH strB appB rds rd oBox z03 zmt oBsl zmu oEqa zcV z6Q zhg zdT zkh znt oMkif okIn za6 oMksl bndV znw z9E z8i zcU oApp oCopy oClr oMx oMn z6U za9 oMent znv oMdel zvZ za8 za7
attribute [go_sem ↓] zn3 zn2 zqf zqe gV_tt gV_ff gV_tf gV_ft zup gP_tt gP_ff gP_tf gP_ft zuo gM_tt gM_ff gM_tf gM_ft zun z9n z79 zg7 zg4 zg6 zg5 zd4 z8J zdw zgy z5o z7r z9e ztf zut zur z6P z9B zcP zdv z7Y zf8
attribute [go_sem low] gV_any gP_any gM_any zdL
attribute [congr] zhM zbw zqv zdF zrC zsA zrp zro zrn
end Go.Am
end
section
/- The abstract machine,part X: the library's functions that have no Go text: comparing strings,finding a byte. -/
set_option linter.unusedSimpArgs false
set_option linter.unusedVariables false
namespace Go.Am
variable {P : Program}
structure ExtRow (P : Program) (f : Nat) (e : Array Value → Sem Value) : Prop where
 row : ∃ fn,P.funcs[f]? = some fn ∧ fn.name ≠ "runtime.NumGoroutine" ∧ fn.body = none ∧ Extern.findNext fn = none ∧ Extern.find fn = some e
theorem ExtRow.run {f : Nat} {e : Array Value → Sem Value} (R : ExtRow P f e) {us : Array Value} {w w' : World} {x : Value} (he : (e us).run P w = .ok x w') : (callFunc f us).run P w = .ok (.value x) w':=by
 obtain ⟨fn,h1,h2,h3,h4,h5⟩:=R.row
 unfold callFunc
 simp [h1,h2,h3,h4,h5,he]
theorem extRow_of {f : Nat} {e : Array Value → Sem Value} (h : (match P.funcs[f]? with | some fn=>fn.name != "runtime.NumGoroutine" && fn.body.isNone && (Extern.findNext fn).isNone | none=>false) = true) (h2 : (P.funcs[f]?).bind Extern.find = some e) : ExtRow P f e:=by
 cases hf : P.funcs[f]? with
 | none=>rw [hf] at h; cases h
 | some fn=>
  rw [hf] at h h2
  simp only [Bool.and_eq_true,bne_iff_ne,ne_eq,Option.isNone_iff_eq_none] at h
  exact ⟨⟨fn,hf,h.1.1,h.1.2,h.2,h2⟩⟩
def idxB (s : List UInt8) (c : UInt8) : Int:=if s.findIdx (· == c) < s.length then (s.findIdx (· == c) : Int) else -1
def cmpL : List UInt8 → List UInt8 → Int
 | [],[]=>0
 | [],_ :: _=>-1
 | _ :: _,[]=>1
 | a :: asv,b :: bs=>if a < b then -1 else if b < a then 1 else cmpL asv bs
theorem zth (s : List UInt8) (i : Nat) : (⟨s.toArray⟩ : ByteArray)[i]! = s.getD i 0:=by
 by_cases h : i < s.length
 ·rw [getElem!_pos (⟨s.toArray⟩ : ByteArray) i h]
  show s.toArray[i] = _
  simp [h]
 ·rw [getElem!_neg (⟨s.toArray⟩ : ByteArray) i h]
  simp [Nat.not_lt.1 h]
  rfl
theorem zrk (s : List UInt8) (c : UInt8) : (match (List.range (⟨s.toArray⟩ : ByteArray).size).find? fun i=>(⟨s.toArray⟩ : ByteArray)[i]! == c with
 | some i=>(i : Int)
 | none=>-1) = idxB s c:=by
 have hsz : (⟨s.toArray⟩ : ByteArray).size = s.length:=rfl
 have hget : ∀ i,i < s.length → (⟨s.toArray⟩ : ByteArray)[i]! = s.getD i 0:=by
  intro i hi
  exact zth s i
 unfold idxB
 rw [hsz]
 by_cases h : s.findIdx (· == c) < s.length
 ·rw [if_pos h]
  have hf : (List.range s.length).find? (fun i=>(⟨s.toArray⟩ : ByteArray)[i]! == c) = some (s.findIdx (· == c)):=by
   rw [List.find?_eq_some_iff_getElem]
   refine ⟨?_,s.findIdx (· == c),by simpa using h,by simp,fun j hj=>?_⟩
   ·rw [hget _ h]
    have:=List.findIdx_getElem (w:=h)
    simpa [h] using this
   ·simp only [List.getElem_range]
    have hj' : j < s.length:=by omega
    rw [hget _ hj']
    have:=List.not_of_lt_findIdx hj
    simpa [hj'] using this
  rw [hf]
 ·rw [if_neg h]
  have hf : (List.range s.length).find? (fun i=>(⟨s.toArray⟩ : ByteArray)[i]! == c) = none:=by
   rw [List.find?_eq_none]
   intro i hi
   rw [List.mem_range] at hi
   rw [hget _ hi]
   intro hc
   exact h (List.findIdx_lt_length_of_exists ⟨s[i],List.getElem_mem hi,by simpa [hi] using hc⟩)
  rw [hf]
theorem zqC : ∀ (a b : List UInt8),Extern.BytealgCompare.cmp ⟨a.toArray⟩ ⟨b.toArray⟩ = cmpL a b:=by
 have key : ∀ (a b : List UInt8),(match (List.range (min a.length b.length)).find? fun i=>a.getD i 0 != b.getD i 0 with
  | some i=>if a.getD i 0 < b.getD i 0 then (-1 : Int) else 1
  | none=>if a.length < b.length then -1 else if a.length > b.length then 1 else 0) = cmpL a b:=by
  intro a
  induction a with
  | nil=>intro b; cases b <;> simp [cmpL]
  | cons x a ih=>
   intro b
   cases b with
   | nil=>simp [cmpL]
   | cons y b=>
    have hm : min (x :: a).length (y :: b).length = min a.length b.length + 1:=by simp only [List.length_cons]; omega
    rw [hm,List.range_succ_eq_map,List.find?_cons]
    simp only [List.getD_cons_zero]
    by_cases hxy : x = y
    ·subst hxy
     have hlt : ¬ x < x:=UInt8.lt_irrefl x
     simp only [bne_self_eq_false,List.find?_map,cmpL,hlt,if_false]
     rw [← ih b]
     have hc : ((fun i=>(x :: a).getD i 0 != (x :: b).getD i 0) ∘ Nat.succ) = fun i=>a.getD i 0 != b.getD i 0:=by
      funext i; simp
     rw [hc]
     cases (List.range (min a.length b.length)).find? fun i=>a.getD i 0 != b.getD i 0 with
     | none=>simp
     | some i=>simp
    ·have : (x != y) = true:=by simpa using hxy
     rw [this]
     simp only [cmpL,List.getD_cons_zero]
     by_cases h1 : x < y
     ·simp [h1]
     ·have h2 : y < x:=by
       rcases UInt8.lt_or_lt_of_ne (a:=x) (b:=y) hxy with h | h
       ·exact absurd h h1
       ·exact h
      simp [h1,h2]
 intro a b
 rw [← key a b]
 unfold Extern.BytealgCompare.cmp
 have sa : (⟨a.toArray⟩ : ByteArray).size = a.length:=rfl
 have sb : (⟨b.toArray⟩ : ByteArray).size = b.length:=rfl
 simp only [sa,sb,zth]
 generalize List.find? _ _ = q
 cases q <;> rfl
def extF (fi fc : Nat) (f : Nat) (vs : List PV) : Option PV:=
 bif Nat.beq f fi then (match vs with
  | [.str s,.int .u8 c]=>some (.int .i64 (idxB s (UInt8.ofNat c.toNat)))
  | _=>none)
 else bif Nat.beq f fc then (match vs with
  | [.str a,.str b]=>some (.int .i64 (cmpL a b))
  | _=>none)
 else none
theorem extF_ok {fi fc : Nat} (h1 : ExtRow P fi Extern.BytealgIndexByte.indexByte) (h2 : ExtRow P fc Extern.BytealgCompare.compare) {f : Nat} {vs : List PV} {r : PV} (h : extF fi fc f vs = some r) : ExtOk P f vs r:=by
 intro M w us hM hl hr
 unfold extF at h
 cases e1 : Nat.beq f fi with
 | true=>
  rw [e1] at h
  have e:=Nat.eq_of_beq_eq_true e1
  subst e
  simp only [cond_true] at h
  split at h
  ·rename_i s c
   injection h with h
   subst h
   match us,hl with
   | [u,v],_=>
    have q1:=hr 0 _ u rfl rfl
    have q2:=hr 1 _ v rfl rfl
    cases q1; cases q2
    refine ⟨.int .i64 (idxB s (UInt8.ofNat c.toNat)),w,h1.run ?_,WExt.refl w,.int _ _⟩
    rw [← zrk]
    show (match (List.range (⟨s.toArray⟩ : ByteArray).size).find? fun i=>(⟨s.toArray⟩ : ByteArray)[i]! == UInt8.ofNat c.toNat with | some i=>(pure (goInt i) : Sem Value) | none=>pure (goInt (-1))).run P w = _
    generalize List.find? _ _ = q
    cases q <;> rfl
  ·cases h
 | false=>
  rw [e1] at h
  simp only [cond_false] at h
  cases e2 : Nat.beq f fc with
  | true=>
   rw [e2] at h
   have e:=Nat.eq_of_beq_eq_true e2
   subst e
   simp only [cond_true] at h
   split at h
   ·rename_i a b
    injection h with h
    subst h
    match us,hl with
    | [u,v],_=>
     have q1:=hr 0 _ u rfl rfl
     have q2:=hr 1 _ v rfl rfl
     cases q1; cases q2
     refine ⟨.int .i64 (cmpL a b),w,h2.run ?_,WExt.refl w,.int _ _⟩
     rw [← zqC]
     rfl
   ·cases h
  | false=>rw [e2] at h; cases h
theorem zrf {X : Ctx} {f : Nat} {asv : List AV} {vs : List PV} {h h1 : Heap} {r : PV} {K : Post} (hf : X.fn f = none) (h2 : X.ex2 f asv h = none) (hp : z0s h asv = some (vs.map .p,h1)) (hu : unp (vs.map AV.p) = some vs) (hx : X.ext f vs = some r) : z0c X f asv h K = K (.p r) h1 []:=by
 refine propext (z0c.eq (z0c.fold ?_) K)
 unfold Step
 simp only [hf,h2,hp,hu,hx]
 exact ⟨trivial,trivial,trivial⟩
structure GrowRow (P : Program) (f : Nat) (sh : Sh) : Prop where
 enter : ∀ us w,(callFunc f us).run P w = .ok (.enter f us) w
 room : ∀ a w,Calls P f #[.slice a 0 0,.int .i64 0] w fun e w'=>e = .returned (.slice a 0 0) ∧ w' = w
 grow : ∀ a (n : Nat) w,0 < n → n ≤ 1048576 → Calls P f #[.slice a 0 0,.int .i64 n] w fun e w'=>∃ G cs E,e = .returned (.slice (some ⟨w.heap.size,0,none⟩) 0 G) ∧ cs.size = G * z0a sh ∧ w' = w.drew.alloc (.cells cs E)
def zhy : List (Nat × Sh) → Nat → List AV → Heap → Option (AV × Heap × Esc)
 | [],_,_,_=>none
 | (g,sh) :: r,f,asv,h=>bif Nat.beq f g then (match asv with
  | [.sl0 _,.p (.int .i64 n)]=>bif decide (0 ≤ n) && decide (n ≤ 1048576) then some (.own h.length 0 0 0,h ++ [.row sh [] 0],[]) else none
  | _=>none) else zhy r f asv h
theorem zfH {gl : Nat → Option PV} : ∀ (gs : List (Nat × Sh)),(∀ g sh,(g,sh) ∈ gs → GrowRow P g sh) → ∀ {f : Nat} {asv : List AV} {h : Heap} {v : AV} {h' : Heap} {x : Esc},zhy gs f asv h = some (v,h',x) →
 z1A P gl f asv h fun v1 h1 x1=>v1 = v ∧ h1 = h' ∧ x1 = x
 | [],_,f,asv,h,v,h',x,H=>by cases H
 | (g,sh) :: r,hg,f,asv,h,v,h',x,H=>by
  unfold zhy at H
  cases e1 : Nat.beq f g with
  | false=>
   rw [e1] at H
   exact zfH r (fun g sh hm=>hg g sh (by simp [hm])) H
  | true=>
   rw [e1] at H
   have e:=Nat.eq_of_beq_eq_true e1
   subst e
   have R:=hg f sh (by simp)
   simp only [cond_true] at H
   split at H
   ·rename_i sh' n
    cases hb : (decide (0 ≤ n) && decide (n ≤ 1048576)) with
    | false=>rw [hb] at H; cases H
    | true=>
     rw [hb] at H
     simp only [cond_true,Option.some.injEq,Prod.mk.injEq] at H
     obtain ⟨rfl,rfl,rfl⟩:=H
     simp only [Bool.and_eq_true,decide_eq_true_eq] at hb
     intro μ w vs Hh Hg hl hr
     match vs,hl with
     | [u1,u2],_=>
      have q1:=hr 0 _ u1 rfl rfl
      have q2:=(hr 1 _ u2 rfl rfl).p_inv
      cases q1
      cases q2
      obtain ⟨m,hm⟩:=Int.eq_ofNat_of_zero_le hb.1
      subst hm
      refine .inl ⟨R.enter _,?_⟩
      rcases Nat.eq_zero_or_pos m with h0 | h0
      ·subst h0
       refine (R.room _ w).mono fun e w' he=>?_
       obtain ⟨rfl,rfl⟩:=he
       obtain ⟨n1,n2⟩:=z9D Hh sh
       refine ⟨_,_,_,_,⟨rfl,rfl,rfl⟩,?_,n1,n2,z0h.push (by simp [Obj.top])⟩
       exact .own h.length 0 0 0 _ 0 sh [] 0 none (Nat.le_refl _) (by simp) (by rw [← Hh.len]; simp) (by simp) (by simp) (fun _=>rfl)
      ·refine (R.grow _ m w h0 (by omega)).mono fun e w' he=>?_
       obtain ⟨G,cs,E,rfl,hcs,rfl⟩:=he
       have hw : WExt w (w.drew.alloc (.cells cs E)):=(WExt.drew w _).trans (WExt.push _ _)
       obtain ⟨n1,n2⟩:=z5d (sh:=sh) (xs:=[]) Hh hw (b:=w.heap.size) (n:=cs.size) (Nat.le_refl _) (by show w.heap.size < (w.heap.push _).size; simp) (c:=cs) (z0Q.push (w:=w.drew) cs E) (by simp) (by simp) (by simp)
       refine ⟨_,_,_,_,⟨rfl,rfl,rfl⟩,?_,n1,n2,z0h.push (by simp [Obj.top])⟩
       refine .own h.length 0 0 0 _ G sh [] 0 (some (w.heap.size,cs.size)) (Nat.zero_le _) (by simp) (by rw [← Hh.len]; simp) (by simp) (by simp) (fun _=>?_)
       exact .inr ⟨by simp,by simp [hcs]⟩
   ·cases H
end Go.Am
end
section
/- Short words for the printed code. -/
set_option linter.all false
namespace Go.Am
instance {n : Nat} : OfNat Opd n:=⟨.t n⟩
abbrev GL:=Nat → Option PV
abbrev KT:=Ex → St → Prop
def cI (n : Int) : Opd:=.c (.p (.int .i64 n))
def cT : Opd:=.c (.p (.bool true))
def cF : Opd:=.c (.p (.bool false))
def cS (s : List UInt8) : Opd:=.c (.p (.str s))
def uO (d : Nat) (o : AO) : AOp:=⟨some d,none,o⟩
def wO (o : AO) : AOp:=⟨none,none,o⟩
def gD (d g : Nat) (b : Bool) (o : AO) : AOp:=⟨some d,some (g,b),o⟩
def mV (d : Nat) (x : Opd) : AOp:=⟨some d,none,.mv x⟩
def bN (d : Nat) (b : BinOp) (x y : Opd) : AOp:=⟨some d,none,.bin b x y⟩
def cL (d f : Nat) (l : List Opd) : AOp:=⟨some d,none,.call f l⟩
def lD (d : Nat) (s : Sh) (x : Opd) : AOp:=⟨some d,none,.load s x⟩
def iA (d : Nat) (s : Sh) (x y : Opd) : AOp:=⟨some d,none,.iaddr s x y⟩
def fA (d o : Nat) (s : Sh) (x : Opd) : AOp:=⟨some d,none,.faddr o s x⟩
def lN (d : Nat) (x : Opd) : AOp:=⟨some d,none,.len x⟩
def eX (d : Nat) (x : Opd) (i : Nat) : AOp:=⟨some d,none,.ext x i⟩
def dF (o : AOp) (l : List Nat) : DOp:=⟨o,l,false,[],[]⟩
def dT (o : AOp) (l : List Nat) : DOp:=⟨o,l,true,[],[]⟩
def dA (o : AOp) (l : List Nat) (e : Bool) (a b : List Nat) : DOp:=⟨o,l,e,a,b⟩
def rg (l : List AOp) (k : List Nat) : ACode:=.reg l (some k)
def dr (l : List DOp) (k : List Nat) : ACode:=.draw l (some k)
end Go.Am
end
section
/- The functions asv abstract code,and asv formulas over their values: printed by program out of the translation. -/
set_option linter.unusedVariables false
set_option maxRecDepth 100000
namespace Go.Am
def P_q02e : ACode:=(.seq (rg [mV 2 cF] [0])
(.seq (rg [mV 11 0,
uO 12 (.build [.sl0 none,.p (.int .i64 0)] [(0,1,11)]),
uO 13 (.box 12),
mV 3 13] [3])
(.seq (rg [mV 14 3,
mV 15 3,
cL 16 z3U [15,(cI 0),(cI 10)],
cL 17 z9s [14,16],
mV 4 17] [4])
(.seq (rg [mV 19 4,
cL 20 z6M [19],
mV 18 20,
eX 21 18 0,
eX 22 18 1,
mV 5 21,
mV 6 22] [4,5,6])
(.seq (rg [mV 24 4,
mV 25 5,
cL 26 z96 [24,25],
mV 23 26,
eX 27 23 0,
eX 28 23 1,
mV 7 27,
mV 8 28] [4,5,6,7,8])
(.seq (rg [mV 30 5,
cL 31 z6M [30],
mV 29 31,
eX 32 29 0,
eX 33 29 1,
mV 9 32,
mV 10 33] [4,5,6,7,8,9,10])
(.seq (rg [mV 34 6,
mV 35 8,
mV 36 10,
uO 37 (.bsl false none 3 (.int .i64 0) [(0,34),(1,35),(2,36)]),
cL 38 z6K [37],
bN 39 .eql 38 (cI 0),
mV 40 39,
gD 41 40 true (.mv 7),
uO 42 (.pick 40 41 cF),
mV 43 42,
gD 44 43 true (.mv 5),
gD 45 43 true (.len 44),
gD 46 43 true (.mv 4),
gD 47 43 true (.len 46),
gD 48 43 true (.bin .leq 45 47),
uO 49 (.pick 43 48 cF),
mV 50 49,
gD 51 50 true (.mv 9),
gD 52 50 true (.mv 5),
gD 53 50 true (.call z92 [51,52]),
uO 54 (.pick 50 53 cF),
mV 55 54,
gD 56 55 true (.call z7P []),
uO 57 (.pick 55 56 cF),
mV 2 57] [2])
.ret)))))))
def zjc : AFun:=⟨1,[.t 2],P_q02e,false,false⟩
def zkp (C : Hd) (gl : GL) (v0 : AV) (h : Heap) (x : Esc) (K : KT) : Prop:=
 pK (z03 [.sl0 none,.p (.int .i64 0)] [(0,1,v0)]) fun t1=>
 wK (oBox t1 h) fun t2 h3 y4=>
 C z3U [t2,(AI 0),(AI 10)] h3 fun t5 h6 y7=>
 C z9s [t2,t5] h6 fun t8 h9 y10=>
 C z6M [t8] h9 fun t11 h12 y13=>
 pK (oExt t11 0) fun t14=>
 pK (oExt t11 1) fun t15=>
 C z96 [t8,t14] h12 fun t16 h17 y18=>
 pK (oExt t16 0) fun t19=>
 pK (oExt t16 1) fun t20=>
 C z6M [t14] h17 fun t21 h22 y23=>
 pK (oExt t21 0) fun t24=>
 pK (oExt t21 1) fun t25=>
 wK (oBsl false none 3 (.int .i64 0) [(0,t15),(1,t20),(2,t25)] h22) fun t26 h27 y28=>
 C z6K [t26] h27 fun t29 h30 y31=>
 pK (oBin .eql t29 (AI 0)) fun t32=>
 gM t32 true t19 h30 fun t33 h34 y35=>
 pK (z1q t32 t33 (AB false)) fun t36=>
 gM t36 true t14 h34 fun t37 h38 y39=>
 gP t36 true (oLen t37) h38 fun t40 h41 y42=>
 gM t36 true t8 h41 fun t43 h44 y45=>
 gP t36 true (oLen t43) h44 fun t46 h47 y48=>
 gP t36 true (oBin .leq t40 t46) h47 fun t49 h50 y51=>
 pK (z1q t36 t49 (AB false)) fun t52=>
 gM t52 true t24 h50 fun t53 h54 y55=>
 gM t52 true t14 h54 fun t56 h57 y58=>
 gV t52 true h57 (C z92 [t53,t56] h57) fun t59 h60 y61=>
 pK (z1q t52 t59 (AB false)) fun t62=>
 gV t62 true h60 (C z7P [] h60) fun t63 h64 y65=>
 pK (z1q t62 t63 (AB false)) fun t66=>
 K .ret ⟨[(2,t66)],h64,(y65 ++ (y61 ++ (y58 ++ (y55 ++ (y51 ++ (y48 ++ (y45 ++ (y42 ++ (y39 ++ (y35 ++ (y31 ++ (y28 ++ (y23 ++ (y18 ++ (y13 ++ (y10 ++ (y7 ++ (y4 ++ x))))))))))))))))))⟩
theorem e_q02e {C gl v0 h x K} : NW C gl zjc.body ⟨enter [v0],h,x⟩ K = zkp C gl v0 h x K:=by kernel_rfl
def z3c : ACode:=.pr [0,1,6] (.seq (rg [bN 7 .lss 6 (cI 6)] [0,1,6,7])
(.seq (.cond 7 .skip
(.exit 0))
(.seq (.block 1 (.seq (rg [mV 8 0,
mV 9 1,
cL 10 z9r [8,9],
mV 5 10] [0,1,5,6])
(.seq (rg [mV 11 5,
cL 12 z7Q [11],
bN 13 .eql 12 (cI 0),
mV 14 13,
gD 15 14 true (.mv 5),
gD 16 14 true (.len 15),
gD 17 14 true (.mv 1),
gD 18 14 true (.bin .leq 16 17),
uO 19 (.pick 14 18 cF)] [0,1,5,6,19])
(.cond 19 (.seq (rg [mV 20 5,
mV 4 20] [4])
.ret)
.skip))))
(rg [bN 21 .add 6 (cI 1),
mV 6 21] [0,1,6]))))
def zbG (C : Hd) (gl : GL) (v0 v1 v6 : AV) (h : Heap) (x : Esc) (K : KT) : Prop:=
 pK (oBin .lss v6 (AI 6)) fun t1=>
 z0l t1 (C z9r [v0,v1] h fun t2 h3 y4=>
 C z7Q [t2] h3 fun t5 h6 y7=>
 pK (oBin .eql t5 (AI 0)) fun t8=>
 gM t8 true t2 h6 fun t9 h10 y11=>
 gP t8 true (oLen t9) h10 fun t12 h13 y14=>
 gM t8 true v1 h13 fun t15 h16 y17=>
 gP t8 true (oBin .leq t12 t15) h16 fun t18 h19 y20=>
 pK (z1q t8 t18 (AB false)) fun t21=>
 z0l t21 (K .ret ⟨[(4,t2)],h19,(y20 ++ (y17 ++ (y14 ++ (y11 ++ (y7 ++ (y4 ++ x))))))⟩)
 (pK (oBin .add v6 (AI 1)) fun t22=>
 K .normal ⟨[(0,v0),(1,v1),(6,t22)],h19,(y20 ++ (y17 ++ (y14 ++ (y11 ++ (y7 ++ (y4 ++ x))))))⟩))
 (K (.exit 0) ⟨[(0,v0),(1,v1),(6,v6),(7,t1)],h,x⟩)
theorem zkV {C gl e h x K} : NW C gl z3c ⟨e,h,x⟩ K = zbG C gl (aget e 0) (aget e 1) (aget e 6) h x K:=by kernel_rfl
theorem zmM {C gl e h x K} : NW C gl (.loop z3c) ⟨e,h,x⟩ K = z1z C gl z3c K [(0,aget e 0),(1,aget e 1),(6,aget e 6)] h x:=z1h
def z5D : ACode:=.pr [] (.seq (rg [mV 4 (.c (.p (.sl (some 6) [])))] [4])
.ret)
def zbH (C : Hd) (gl : GL) (h : Heap) (x : Esc) (K : KT) : Prop:=
 K .ret ⟨[(4,(.p (.sl (some 6) [])))],h,x⟩
theorem zkW {C gl e h x K} : NW C gl z5D ⟨e,h,x⟩ K = zbH C gl h x K:=by kernel_rfl
def zsH (q1 q2 : ACode) : ACode:=(.seq (rg [mV 4 (.c (.p (.sl (some 6) [])))] [0,1])
(.seq (.seq (rg [mV 6 (cI 0)] [0,1,6])
(.block 0 (.loop q1)))
q2))
def zjl : AFun:=⟨2,[.t 4],zsH z3c z5D,false,false⟩
def zfg (C : Hd) (gl : GL) (q1 q2 : ACode) (v0 v1 : AV) (h : Heap) (x : Esc) (K : KT) : Prop:=
 NW C gl (.loop q1) ⟨[(0,v0),(1,v1),(6,(AI 0))],h,x⟩ (z02 0 (seqN C gl q2 K))
theorem E_q02v {C gl q1 q2 v0 v1 h x K} : NW C gl (zsH q1 q2) ⟨enter [v0,v1],h,x⟩ K = zfg C gl q1 q2 v0 v1 h x K:=by kernel_rfl
theorem e_q02v {C gl v0 v1 h x K} : NW C gl zjl.body ⟨enter [v0,v1],h,x⟩ K = zfg C gl z3c z5D v0 v1 h x K:=E_q02v
def P_q02u : ACode:=(.seq (rg [mV 6 (cI 0)] [0,1,2])
(.seq (.seq (rg [mV 7 2,
mV 8 1,
bN 9 .lss 7 8] [0,1,2,9])
(.cond 9 (.seq (rg [mV 10 1,
mV 6 10] [6])
.ret)
.skip))
(.seq (rg [mV 11 1,
mV 12 0,
mV 13 2,
mV 14 1,
bN 15 .sub 13 14,
bN 16 .add 15 (cI 1),
cL 17 z1W [12,16],
bN 18 .add 11 17,
mV 6 18] [6])
.ret)))
def zjk : AFun:=⟨3,[.t 6],P_q02u,false,false⟩
def zks (C : Hd) (gl : GL) (v0 v1 v2 : AV) (h : Heap) (x : Esc) (K : KT) : Prop:=
 pK (oBin .lss v2 v1) fun t1=>
 z0l t1 (K .ret ⟨[(6,v1)],h,x⟩)
 (pK (oBin .sub v2 v1) fun t2=>
 pK (oBin .add t2 (AI 1)) fun t3=>
 C z1W [v0,t3] h fun t4 h5 y6=>
 pK (oBin .add v1 t4) fun t7=>
 K .ret ⟨[(6,t7)],h5,(y6 ++ x)⟩)
theorem e_q02u {C gl v0 v1 v2 h x K} : NW C gl zjk.body ⟨enter [v0,v1,v2],h,x⟩ K = zks C gl v0 v1 v2 h x K:=by kernel_rfl
def z8v : ACode:=.pr [0,5,6,15,16,17] (rg [bN 82 .add 17 (cI 1),
mV 17 82] [0,5,6,15,16,17])
def zco (C : Hd) (gl : GL) (v0 v5 v6 v15 v16 v17 : AV) (h : Heap) (x : Esc) (K : KT) : Prop:=
 pK (oBin .add v17 (AI 1)) fun t1=>
 K .normal ⟨[(0,v0),(5,v5),(6,v6),(15,v15),(16,v16),(17,t1)],h,x⟩
theorem zlA {C gl e h x K} : NW C gl z8v ⟨e,h,x⟩ K = zco C gl (aget e 0) (aget e 5) (aget e 6) (aget e 15) (aget e 16) (aget e 17) h x K:=by kernel_rfl
def zbk (q1 : ACode) : ACode:=.pr [0,5,6,15,16,17] (.seq (rg [bN 18 .lss 17 16] [0,5,6,15,16,17,18])
(.seq (.cond 18 .skip
(.exit 0))
(.seq (.block 1 (.seq (rg [mV 19 17,
iA 20 (some 6) 15 17,
lD 21 (some 6) 20,
uO 8 (.alloc [.p (.int .i64 0),.p (.int .i64 0),.p (.int .i64 0),.p (.str []),.p (.str []),.p (.str [])]),
mV 7 19,
wO (.store (some 6) 8 21)] [0,5,6,7,8,15,16,17])
(.seq (.seq (dr [dF (fA 22 0 none 8) [8],
dF (lD 23 none 22) [22],
dT (cL 24 z5y [23]) [23],
dF (mV 25 24) [24],
dF (gD 26 25 true (.load (some 6) 8)) [8,25],
dF (gD 27 25 true (.mv 0)) [0,25],
dF (gD 28 25 true (.mv 7)) [7,25],
dF (gD 29 25 true (.bin .add 28 (cI 1))) [28,25],
dF (gD 30 25 true (.slice (some 6) 27 (some 29) none none)) [27,29,25],
dT (gD 31 25 true (.call z97 [26,30])) [26,30,25],
dF (gD 32 25 true (.un .not 31)) [31,25],
dF (gD 33 25 true (.mv 32)) [32,25],
dF (gD 34 33 false (.mv 5)) [5,33],
dF (gD 35 33 false (.nilchk 34)) [34,33],
dF (gD 36 33 false (.faddr 0 (some 36) 35)) [35,33],
dF (gD 37 33 false (.faddr 0 none 8)) [8,33],
dF (gD 38 33 false (.load none 37)) [37,33],
dT (gD 39 33 false (.call z52 [36,38])) [36,38,33],
dF (gD 40 33 false (.nilchk 39)) [39,33],
dF (gD 41 33 false (.load (some 6) 40)) [40,33],
dA (gD 42 33 false (.load (some 6) 8)) [8,33] false [17] [],
dF (gD 43 33 false (.eqa [0,0,0,2,2,2] false 41 42)) [41,42,33],
dF (gD 44 25 true (.pick 33 cT 43)) [33,43,25],
dF (uO 45 (.pick 25 44 cF)) [25,44]] [0,5,6,8,15,16,17,45])
(.cond 45 (.exit 1)
.skip))
(.seq (.seq (dr [dF (fA 46 0 none 8) [8],
dF (lD 47 none 46) [46],
dF (bN 48 .eql 47 (cI 9)) [47],
dF (mV 49 48) [48],
dF (gD 50 49 true (.faddr 2 none 8)) [8,49],
dF (gD 51 49 true (.load none 50)) [50,49],
dF (gD 52 49 true (.bin .eql 51 (cI 0))) [51,49],
dF (uO 53 (.pick 49 52 cF)) [49,52],
dF (mV 54 53) [53],
dF (gD 55 54 true (.mv 5)) [5,54],
dF (gD 56 54 true (.nilchk 55)) [55,54],
dF (gD 57 54 true (.faddr 36 none 56)) [56,54],
dF (gD 58 54 true (.load none 57)) [57,54],
dF (gD 59 54 true (.bin .eql 58 (cI 1))) [58,54],
dF (uO 60 (.pick 54 59 cF)) [54,59],
dF (mV 61 60) [60],
dF (gD 62 61 false (.faddr 0 none 8)) [8,61],
dF (gD 63 61 false (.load none 62)) [62,61],
dF (gD 64 61 false (.bin .eql 63 (cI 10))) [63,61],
dF (gD 65 61 false (.mv 64)) [64,61],
dF (gD 66 65 true (.faddr 1 none 8)) [8,65],
dF (gD 67 65 true (.load none 66)) [66,65],
dF (gD 68 65 true (.mv 5)) [5,65],
dF (gD 69 65 true (.nilchk 68)) [68,65],
dF (gD 70 65 true (.faddr 36 none 69)) [69,65],
dF (gD 71 65 true (.load none 70)) [70,65],
dF (gD 72 65 true (.bin .eql 67 71)) [67,71,65],
dF (gD 73 61 false (.pick 65 72 cF)) [65,72,61],
dF (uO 74 (.pick 61 cT 73)) [61,73]] [0,5,6,8,15,16,17,74])
(.cond 74 (.exit 1)
.skip))
(.seq (rg [mV 75 5,
lD 76 (some 6) 8,
cL 77 z50 [75,76]] [0,5,6,8,15,16,17])
(rg [mV 78 6,
lD 79 (some 6) 8,
uO 80 (.bsl false (some 6) 1 (.agg [.int .i64 0,.int .i64 0,.int .i64 0,.str [],.str [],.str []]) [(0,79)]),
uO 81 (.app (some 6) 78 80),
mV 6 81] [0,5,6,15,16,17]))))))
q1)))
def z3q : ACode:=zbk z8v
def z7I (C : Hd) (gl : GL) (q1 : ACode) (v0 v5 v6 v15 v16 v17 : AV) (h : Heap) (x : Esc) (K : KT) : Prop:=
 pK (oBin .lss v17 v16) fun t1=>
 z0l t1 (pK (z0E (some 6) v15 v17 h) fun t2=>
 pK (z0g (some 6) t2 h) fun t3=>
 alK [.p (.int .i64 0),.p (.int .i64 0),.p (.int .i64 0),.p (.str []),.p (.str []),.p (.str [])] h fun t4 h5 y6=>
 wK (z0n (some 6) t4 t3 h5) fun t7 h8 y9=>
 pK (z0e 0 none t4) fun t10=>
 pK (z0g none t10 h8) fun t11=>
 z1p C z5y [t11] h8 fun t12 h13 y14=>
 gP t12 true (z0g (some 6) t4 h13) h13 fun t15 h16 y17=>
 gM t12 true v0 h16 fun t18 h19 y20=>
 gM t12 true v17 h19 fun t21 h22 y23=>
 gP t12 true (oBin .add t21 (AI 1)) h22 fun t24 h25 y26=>
 gP t12 true (z9E (some 6) t18 (some t24) none none h25) h25 fun t27 h28 y29=>
 gV t12 true h28 (z1p C z97 [t15,t27] h28) fun t30 h31 y32=>
 gP t12 true (oUn .not t30) h31 fun t33 h34 y35=>
 gM t12 true t33 h34 fun t36 h37 y38=>
 gM t36 false v5 h37 fun t39 h40 y41=>
 gP t36 false (oNil t39) h40 fun t42 h43 y44=>
 gP t36 false (z0e 0 (some 36) t42) h43 fun t45 h46 y47=>
 gP t36 false (z0e 0 none t4) h46 fun t48 h49 y50=>
 gP t36 false (z0g none t48 h49) h49 fun t51 h52 y53=>
 gV t36 false h52 (z1p C z52 [t45,t51] h52) fun t54 h55 y56=>
 gP t36 false (oNil t54) h55 fun t57 h58 y59=>
 gP t36 false (z0g (some 6) t57 h58) h58 fun t60 h61 y62=>
 gP t36 false (z0g (some 6) t4 h61) h61 fun t63 h64 y65=>
 (gV t36 false h52 (fun kk=>pK (z0g (some 6) t4 h52) fun v=>(kk) v h52 []) (fun u (g1 : Heap) (y1 : Esc)=>u = t63 ∧ g1 = h52 ∧ y1 = [])) ∧ (gP t36 false (oEqa [0,0,0,2,2,2] false t60 t63) h64 fun t66 h67 y68=>
 gP t12 true (z1q t36 (AB true) t66) h67 fun t69 h70 y71=>
 pK (z1q t12 t69 (AB false)) fun t72=>
 z0l t72 (NW C gl q1 ⟨[(0,v0),(5,v5),(6,v6),(8,t4),(15,v15),(16,v16),(17,v17),(45,t72)],h70,(y71 ++ (y68 ++ (y65 ++ (y62 ++ (y59 ++ (y56 ++ (y53 ++ (y50 ++ (y47 ++ (y44 ++ (y41 ++ (y38 ++ (y35 ++ (y32 ++ (y29 ++ (y26 ++ (y23 ++ (y20 ++ (y17 ++ (y14 ++ (y9 ++ (y6 ++ x))))))))))))))))))))))⟩ K)
 (pK (z0e 0 none t4) fun t73=>
 pK (z0g none t73 h70) fun t74=>
 pK (oBin .eql t74 (AI 9)) fun t75=>
 gP t75 true (z0e 2 none t4) h70 fun t76 h77 y78=>
 gP t75 true (z0g none t76 h77) h77 fun t79 h80 y81=>
 gP t75 true (oBin .eql t79 (AI 0)) h80 fun t82 h83 y84=>
 pK (z1q t75 t82 (AB false)) fun t85=>
 gM t85 true v5 h83 fun t86 h87 y88=>
 gP t85 true (oNil t86) h87 fun t89 h90 y91=>
 gP t85 true (z0e 36 none t89) h90 fun t92 h93 y94=>
 gP t85 true (z0g none t92 h93) h93 fun t95 h96 y97=>
 gP t85 true (oBin .eql t95 (AI 1)) h96 fun t98 h99 y100=>
 pK (z1q t85 t98 (AB false)) fun t101=>
 gP t101 false (z0e 0 none t4) h99 fun t102 h103 y104=>
 gP t101 false (z0g none t102 h103) h103 fun t105 h106 y107=>
 gP t101 false (oBin .eql t105 (AI 10)) h106 fun t108 h109 y110=>
 gM t101 false t108 h109 fun t111 h112 y113=>
 gP t111 true (z0e 1 none t4) h112 fun t114 h115 y116=>
 gP t111 true (z0g none t114 h115) h115 fun t117 h118 y119=>
 gM t111 true v5 h118 fun t120 h121 y122=>
 gP t111 true (oNil t120) h121 fun t123 h124 y125=>
 gP t111 true (z0e 36 none t123) h124 fun t126 h127 y128=>
 gP t111 true (z0g none t126 h127) h127 fun t129 h130 y131=>
 gP t111 true (oBin .eql t117 t129) h130 fun t132 h133 y134=>
 gP t101 false (z1q t111 t132 (AB false)) h133 fun t135 h136 y137=>
 pK (z1q t101 (AB true) t135) fun t138=>
 z0l t138 (NW C gl q1 ⟨[(0,v0),(5,v5),(6,v6),(8,t4),(15,v15),(16,v16),(17,v17),(74,t138)],h136,(y137 ++ (y134 ++ (y131 ++ (y128 ++ (y125 ++ (y122 ++ (y119 ++ (y116 ++ (y113 ++ (y110 ++ (y107 ++ (y104 ++ (y100 ++ (y97 ++ (y94 ++ (y91 ++ (y88 ++ (y84 ++ (y81 ++ (y78 ++ (y71 ++ (y68 ++ (y65 ++ (y62 ++ (y59 ++ (y56 ++ (y53 ++ (y50 ++ (y47 ++ (y44 ++ (y41 ++ (y38 ++ (y35 ++ (y32 ++ (y29 ++ (y26 ++ (y23 ++ (y20 ++ (y17 ++ (y14 ++ (y9 ++ (y6 ++ x))))))))))))))))))))))))))))))))))))))))))⟩ K)
 (pK (z0g (some 6) t4 h136) fun t139=>
 C z50 [v5,t139] h136 fun t140 h141 y142=>
 pK (z0g (some 6) t4 h141) fun t143=>
 wK (oBsl false (some 6) 1 (.agg [.int .i64 0,.int .i64 0,.int .i64 0,.str [],.str [],.str []]) [(0,t143)] h141) fun t144 h145 y146=>
 wK (oApp (some 6) v6 t144 h145) fun t147 h148 y149=>
 NW C gl q1 ⟨[(0,v0),(5,v5),(6,t147),(15,v15),(16,v16),(17,v17)],h148,(y149 ++ (y146 ++ (y142 ++ (y137 ++ (y134 ++ (y131 ++ (y128 ++ (y125 ++ (y122 ++ (y119 ++ (y116 ++ (y113 ++ (y110 ++ (y107 ++ (y104 ++ (y100 ++ (y97 ++ (y94 ++ (y91 ++ (y88 ++ (y84 ++ (y81 ++ (y78 ++ (y71 ++ (y68 ++ (y65 ++ (y62 ++ (y59 ++ (y56 ++ (y53 ++ (y50 ++ (y47 ++ (y44 ++ (y41 ++ (y38 ++ (y35 ++ (y32 ++ (y29 ++ (y26 ++ (y23 ++ (y20 ++ (y17 ++ (y14 ++ (y9 ++ (y6 ++ x)))))))))))))))))))))))))))))))))))))))))))))⟩ K))))
 (K (.exit 0) ⟨[(0,v0),(5,v5),(6,v6),(15,v15),(16,v16),(17,v17),(18,t1)],h,x⟩)
theorem zi7 {C gl q1 e h x K} : NW C gl (zbk q1) ⟨e,h,x⟩ K = z7I C gl q1 (aget e 0) (aget e 5) (aget e 6) (aget e 15) (aget e 16) (aget e 17) h x K:=by kernel_rfl
theorem zlB {C gl e h x K} : NW C gl z3q ⟨e,h,x⟩ K = z7I C gl z8v (aget e 0) (aget e 5) (aget e 6) (aget e 15) (aget e 16) (aget e 17) h x K:=zi7
theorem znc {C gl e h x K} : NW C gl (.loop (.scope z3q)) ⟨e,h,x⟩ K = z1z C gl (.scope z3q) K [(0,aget e 0),(5,aget e 5),(6,aget e 6),(15,aget e 15),(16,aget e 16),(17,aget e 17)] h x:=z1D
def z5U : ACode:=.pr [6] (.seq (rg [mV 83 6,
mV 2 83,
mV 3 (cI 0)] [2,3])
.ret)
def zcp (C : Hd) (gl : GL) (v6 : AV) (h : Heap) (x : Esc) (K : KT) : Prop:=
 K .ret ⟨[(2,v6),(3,(AI 0))],h,x⟩
theorem zlC {C gl e h x K} : NW C gl z5U ⟨e,h,x⟩ K = zcp C gl (aget e 6) h x K:=by kernel_rfl
def zsX (q2 q3 : ACode) : ACode:=(.seq (rg [mV 2 (.c (.p (.sl (some 6) []))),
mV 3 (cI 0)] [0])
(.seq (.seq (rg [mV 9 0,
cL 10 z2X [9],
mV 4 10] [0,4])
(.seq (rg [mV 11 4,
bN 12 .neq 11 (cI 0)] [0,4,12])
(.cond 12 (.seq (rg [mV 13 4,
mV 2 (.c (.p (.sl (some 6) []))),
mV 3 13] [2,3])
.ret)
.skip)))
(.seq (rg [cL 14 z2B [(.c (.p (.sl (some 6) []))),(.c (.nilp))],
mV 5 14] [0,5])
(.seq (rg [uO 6 (.new0 (some 6))] [0,5,6])
(.seq (.seq (rg [mV 15 0,
lN 16 15,
mV 17 (cI 0)] [0,5,6,15,16,17])
(.block 0 (.loop (.scope q2))))
q3)))))
def zj8 : AFun:=⟨1,[.t 2,.t 3],zsX z3q z5U,false,false⟩
def zfs (C : Hd) (gl : GL) (q2 q3 : ACode) (v0 : AV) (h : Heap) (x : Esc) (K : KT) : Prop:=
 C z2X [v0] h fun t1 h2 y3=>
 pK (oBin .neq t1 (AI 0)) fun t4=>
 z0l t4 (K .ret ⟨[(2,(.p (.sl (some 6) []))),(3,t1)],h2,(y3 ++ x)⟩)
 (C z2B [(.p (.sl (some 6) [])),(.nilp)] h2 fun t5 h6 y7=>
 nwK (some 6) h6 fun t8 h9 y10=>
 pK (oLen v0) fun t11=>
 NW C gl (.loop (.scope q2)) ⟨[(0,v0),(5,t5),(6,t8),(15,v0),(16,t11),(17,(AI 0))],h9,(y10 ++ (y7 ++ (y3 ++ x)))⟩ (z02 0 (seqN C gl q3 K)))
theorem E_q06a {C gl q2 q3 v0 h x K} : NW C gl (zsX q2 q3) ⟨enter [v0],h,x⟩ K = zfs C gl q2 q3 v0 h x K:=by kernel_rfl
theorem e_q06a {C gl v0 h x K} : NW C gl zj8.body ⟨enter [v0],h,x⟩ K = zfs C gl z3q z5U v0 h x K:=E_q06a
def P_q066 : ACode:=(.seq (rg [mV 4 cF,
mV 5 (cI 0)] [0,1])
(.seq (.seq (rg [mV 9 0,
cL 10 z2X [9],
mV 11 1,
cL 12 z2X [11],
uO 13 (.bsl false none 2 (.int .i64 0) [(0,10),(1,12)]),
cL 14 z6J [13],
mV 6 14] [0,1,6])
(.seq (rg [mV 15 6,
bN 16 .neq 15 (cI 0)] [0,1,6,16])
(.cond 16 (.seq (rg [mV 17 6,
mV 4 cF,
mV 5 17] [4,5])
.ret)
.skip)))
(.seq (rg [mV 18 0,
cL 19 z6O [18],
mV 20 1,
cL 21 z6O [20],
mV 7 19,
mV 8 21] [7,8])
(.seq (dr [dF (mV 22 7) [7],
dF (uO 23 (.nilchk 22)) [22],
dF (fA 24 42 none 23) [23],
dF (lD 25 none 24) [24],
dF (mV 26 8) [8],
dF (uO 27 (.nilchk 26)) [26],
dF (fA 28 42 none 27) [27],
dF (lD 29 none 28) [28],
dT (cL 30 z3I [25,29]) [25,29],
dF (mV 31 30) [30],
dF (gD 32 31 true (.mv 7)) [7,31],
dF (gD 33 31 true (.nilchk 32)) [32,31],
dF (gD 34 31 true (.faddr 43 none 33)) [33,31],
dF (gD 35 31 true (.load none 34)) [34,31],
dF (gD 36 31 true (.mv 8)) [8,31],
dF (gD 37 31 true (.nilchk 36)) [36,31],
dF (gD 38 31 true (.faddr 43 none 37)) [37,31],
dF (gD 39 31 true (.load none 38)) [38,31],
dT (gD 40 31 true (.call z3I [35,39])) [35,39,31],
dF (uO 41 (.pick 31 40 cF)) [31,40],
dF (mV 42 41) [41],
dF (gD 43 42 true (.mv 7)) [7,42],
dF (gD 44 42 true (.nilchk 43)) [43,42],
dF (gD 45 42 true (.faddr 44 none 44)) [44,42],
dF (gD 46 42 true (.load none 45)) [45,42],
dF (gD 47 42 true (.mv 8)) [8,42],
dF (gD 48 42 true (.nilchk 47)) [47,42],
dF (gD 49 42 true (.faddr 44 none 48)) [48,42],
dF (gD 50 42 true (.load none 49)) [49,42],
dT (gD 51 42 true (.call z3I [46,50])) [46,50,42],
dF (uO 52 (.pick 42 51 cF)) [42,51],
dF (mV 4 52) [52],
dF (mV 5 (cI 0)) []] [4,5])
.ret))))
def zj7 : AFun:=⟨2,[.t 4,.t 5],P_q066,false,false⟩
def zk3 (C : Hd) (gl : GL) (v0 v1 : AV) (h : Heap) (x : Esc) (K : KT) : Prop:=
 C z2X [v0] h fun t1 h2 y3=>
 C z2X [v1] h2 fun t4 h5 y6=>
 wK (oBsl false none 2 (.int .i64 0) [(0,t1),(1,t4)] h5) fun t7 h8 y9=>
 C z6J [t7] h8 fun t10 h11 y12=>
 pK (oBin .neq t10 (AI 0)) fun t13=>
 z0l t13 (K .ret ⟨[(4,(AB false)),(5,t10)],h11,(y12 ++ (y9 ++ (y6 ++ (y3 ++ x))))⟩)
 (C z6O [v0] h11 fun t14 h15 y16=>
 C z6O [v1] h15 fun t17 h18 y19=>
 pK (oNil t14) fun t20=>
 pK (z0e 42 none t20) fun t21=>
 pK (z0g none t21 h18) fun t22=>
 pK (oNil t17) fun t23=>
 pK (z0e 42 none t23) fun t24=>
 pK (z0g none t24 h18) fun t25=>
 z1p C z3I [t22,t25] h18 fun t26 h27 y28=>
 gM t26 true t14 h27 fun t29 h30 y31=>
 gP t26 true (oNil t29) h30 fun t32 h33 y34=>
 gP t26 true (z0e 43 none t32) h33 fun t35 h36 y37=>
 gP t26 true (z0g none t35 h36) h36 fun t38 h39 y40=>
 gM t26 true t17 h39 fun t41 h42 y43=>
 gP t26 true (oNil t41) h42 fun t44 h45 y46=>
 gP t26 true (z0e 43 none t44) h45 fun t47 h48 y49=>
 gP t26 true (z0g none t47 h48) h48 fun t50 h51 y52=>
 gV t26 true h51 (z1p C z3I [t38,t50] h51) fun t53 h54 y55=>
 pK (z1q t26 t53 (AB false)) fun t56=>
 gM t56 true t14 h54 fun t57 h58 y59=>
 gP t56 true (oNil t57) h58 fun t60 h61 y62=>
 gP t56 true (z0e 44 none t60) h61 fun t63 h64 y65=>
 gP t56 true (z0g none t63 h64) h64 fun t66 h67 y68=>
 gM t56 true t17 h67 fun t69 h70 y71=>
 gP t56 true (oNil t69) h70 fun t72 h73 y74=>
 gP t56 true (z0e 44 none t72) h73 fun t75 h76 y77=>
 gP t56 true (z0g none t75 h76) h76 fun t78 h79 y80=>
 gV t56 true h79 (z1p C z3I [t66,t78] h79) fun t81 h82 y83=>
 pK (z1q t56 t81 (AB false)) fun t84=>
 K .ret ⟨[(4,t84),(5,(AI 0))],h82,(y83 ++ (y80 ++ (y77 ++ (y74 ++ (y71 ++ (y68 ++ (y65 ++ (y62 ++ (y59 ++ (y55 ++ (y52 ++ (y49 ++ (y46 ++ (y43 ++ (y40 ++ (y37 ++ (y34 ++ (y31 ++ (y28 ++ (y19 ++ (y16 ++ (y12 ++ (y9 ++ (y6 ++ (y3 ++ x)))))))))))))))))))))))))⟩)
theorem e_q066 {C gl v0 v1 h x K} : NW C gl zj7.body ⟨enter [v0,v1],h,x⟩ K = zk3 C gl v0 v1 h x K:=by kernel_rfl
def z3a : ACode:=.pr [5,6,7] (.seq (rg [bN 8 .lss 7 6] [5,6,7,8])
(.seq (.cond 8 .skip
(.exit 0))
(.seq (.block 1 (.seq (rg [iA 9 none 5 7,
lD 10 none 9,
mV 4 10] [4,5,6,7])
(.seq (rg [mV 11 4,
bN 12 .neq 11 (cI 0)] [4,5,6,7,12])
(.cond 12 (.seq (rg [mV 13 4,
mV 2 13] [2])
.ret)
.skip))))
(rg [bN 14 .add 7 (cI 1),
mV 7 14] [5,6,7]))))
def zb8 (C : Hd) (gl : GL) (v5 v6 v7 : AV) (h : Heap) (x : Esc) (K : KT) : Prop:=
 pK (oBin .lss v7 v6) fun t1=>
 z0l t1 (pK (z0E none v5 v7 h) fun t2=>
 pK (z0g none t2 h) fun t3=>
 pK (oBin .neq t3 (AI 0)) fun t4=>
 z0l t4 (K .ret ⟨[(2,t3)],h,x⟩)
 (pK (oBin .add v7 (AI 1)) fun t5=>
 K .normal ⟨[(5,v5),(6,v6),(7,t5)],h,x⟩))
 (K (.exit 0) ⟨[(5,v5),(6,v6),(7,v7),(8,t1)],h,x⟩)
theorem zkK {C gl e h x K} : NW C gl z3a ⟨e,h,x⟩ K = zb8 C gl (aget e 5) (aget e 6) (aget e 7) h x K:=by kernel_rfl
theorem zmJ {C gl e h x K} : NW C gl (.loop z3a) ⟨e,h,x⟩ K = z1z C gl z3a K [(5,aget e 5),(6,aget e 6),(7,aget e 7)] h x:=z1h
def z58 : ACode:=.pr [] (.seq (rg [mV 2 (cI 0)] [2])
.ret)
def zb9 (C : Hd) (gl : GL) (h : Heap) (x : Esc) (K : KT) : Prop:=
 K .ret ⟨[(2,(AI 0))],h,x⟩
theorem zkL {C gl e h x K} : NW C gl z58 ⟨e,h,x⟩ K = zb9 C gl h x K:=by kernel_rfl
def zsD (q1 q2 : ACode) : ACode:=(.seq (rg [mV 2 (cI 0)] [0])
(.seq (.seq (rg [mV 5 0,
lN 6 5,
mV 7 (cI 0)] [5,6,7])
(.block 0 (.loop q1)))
q2))
def ze9 : AFun:=⟨1,[.t 2],zsD z3a z58,false,false⟩
def zfb (C : Hd) (gl : GL) (q1 q2 : ACode) (v0 : AV) (h : Heap) (x : Esc) (K : KT) : Prop:=
 pK (oLen v0) fun t1=>
 NW C gl (.loop q1) ⟨[(5,v0),(6,t1),(7,(AI 0))],h,x⟩ (z02 0 (seqN C gl q2 K))
theorem E_q02f {C gl q1 q2 v0 h x K} : NW C gl (zsD q1 q2) ⟨enter [v0],h,x⟩ K = zfb C gl q1 q2 v0 h x K:=by kernel_rfl
theorem e_q02f {C gl v0 h x K} : NW C gl ze9.body ⟨enter [v0],h,x⟩ K = zfb C gl z3a z58 v0 h x K:=E_q02f
def z3l : ACode:=.pr [0,1,12,13] (.seq (rg [bN 14 .lss 13 12] [0,1,12,13,14])
(.seq (.cond 14 .skip
(.exit 0))
(.seq (.block 1 (.seq (rg [mV 15 13,
mV 5 15] [0,1,5,12,13])
(.seq (dr [dF (mV 16 0) [0],
dF (mV 17 5) [5],
dF (iA 18 (some 6) 16 17) [16,17],
dF (lD 19 (some 6) 18) [18],
dF (mV 20 1) [1],
dF (mV 21 5) [5],
dF (iA 22 (some 6) 20 21) [20,21],
dF (lD 23 (some 6) 22) [22],
dF (uO 24 (.eqa [0,0,0,2,2,2] true 19 23)) [19,23]] [0,1,12,13,24])
(.cond 24 (.seq (rg [mV 4 cF] [4])
.ret)
.skip))))
(rg [bN 25 .add 13 (cI 1),
mV 13 25] [0,1,12,13]))))
def zcb (C : Hd) (gl : GL) (v0 v1 v12 v13 : AV) (h : Heap) (x : Esc) (K : KT) : Prop:=
 pK (oBin .lss v13 v12) fun t1=>
 z0l t1 (pK (z0E (some 6) v0 v13 h) fun t2=>
 pK (z0g (some 6) t2 h) fun t3=>
 pK (z0E (some 6) v1 v13 h) fun t4=>
 pK (z0g (some 6) t4 h) fun t5=>
 pK (oEqa [0,0,0,2,2,2] true t3 t5) fun t6=>
 z0l t6 (K .ret ⟨[(4,(AB false))],h,x⟩)
 (pK (oBin .add v13 (AI 1)) fun t7=>
 K .normal ⟨[(0,v0),(1,v1),(12,v12),(13,t7)],h,x⟩))
 (K (.exit 0) ⟨[(0,v0),(1,v1),(12,v12),(13,v13),(14,t1)],h,x⟩)
theorem zly {C gl e h x K} : NW C gl z3l ⟨e,h,x⟩ K = zcb C gl (aget e 0) (aget e 1) (aget e 12) (aget e 13) h x K:=by kernel_rfl
theorem zmW {C gl e h x K} : NW C gl (.loop z3l) ⟨e,h,x⟩ K = z1z C gl z3l K [(0,aget e 0),(1,aget e 1),(12,aget e 12),(13,aget e 13)] h x:=z1h
def z5P : ACode:=.pr [] (.seq (rg [mV 4 cT] [4])
.ret)
def zcc (C : Hd) (gl : GL) (h : Heap) (x : Esc) (K : KT) : Prop:=
 K .ret ⟨[(4,(AB true))],h,x⟩
theorem zlz {C gl e h x K} : NW C gl z5P ⟨e,h,x⟩ K = zcc C gl h x K:=by kernel_rfl
def zsS (q1 q2 : ACode) : ACode:=(.seq (rg [mV 4 cF] [0,1])
(.seq (.seq (rg [mV 6 0,
lN 7 6,
mV 8 1,
lN 9 8,
bN 10 .neq 7 9] [0,1,10])
(.cond 10 (.seq (rg [mV 4 cF] [4])
.ret)
.skip))
(.seq (.seq (rg [mV 11 0,
lN 12 11,
mV 13 (cI 0)] [0,1,12,13])
(.block 0 (.loop q1)))
q2)))
def zj2 : AFun:=⟨2,[.t 4],zsS z3l z5P,false,false⟩
def zca (C : Hd) (gl : GL) (q1 q2 : ACode) (v0 v1 : AV) (h : Heap) (x : Esc) (K : KT) : Prop:=
 pK (oLen v0) fun t1=>
 pK (oLen v1) fun t2=>
 pK (oBin .neq t1 t2) fun t3=>
 z0l t3 (K .ret ⟨[(4,(AB false))],h,x⟩)
 (pK (oLen v0) fun t4=>
 NW C gl (.loop q1) ⟨[(0,v0),(1,v1),(12,t4),(13,(AI 0))],h,x⟩ (z02 0 (seqN C gl q2 K)))
theorem E_q03z {C gl q1 q2 v0 v1 h x K} : NW C gl (zsS q1 q2) ⟨enter [v0,v1],h,x⟩ K = zca C gl q1 q2 v0 v1 h x K:=by kernel_rfl
theorem e_q03z {C gl v0 v1 h x K} : NW C gl zj2.body ⟨enter [v0,v1],h,x⟩ K = zca C gl z3l z5P v0 v1 h x K:=E_q03z
def z3f : ACode:=.pr [0,5,9,10,11] (.seq (rg [bN 12 .lss 11 10] [0,5,9,10,11,12])
(.seq (.cond 12 .skip
(.exit 0))
(.seq (.block 1 (.seq (rg [iA 13 none 9 11,
lD 14 none 13,
mV 7 14] [0,5,7,9,10,11])
(.seq (rg [mV 15 0,
mV 16 7,
bN 17 .sub 16 (.c (.p (.int .u8 48))),
uO 18 (.conv (.i .i64) 17),
cL 19 z9u [15,18],
mV 0 19] [0,5,9,10,11])
(rg [mV 20 5,
mV 21 0,
uO 22 (.bsl false none 1 (.int .i64 0) [(0,21)]),
uO 23 (.app none 20 22),
mV 5 23] [0,5,9,10,11]))))
(rg [bN 24 .add 11 (cI 1),
mV 11 24] [0,5,9,10,11]))))
def zbN (C : Hd) (gl : GL) (v0 v5 v9 v10 v11 : AV) (h : Heap) (x : Esc) (K : KT) : Prop:=
 pK (oBin .lss v11 v10) fun t1=>
 z0l t1 (pK (z0E none v9 v11 h) fun t2=>
 pK (z0g none t2 h) fun t3=>
 pK (oBin .sub t3 (.p (.int .u8 48))) fun t4=>
 pK (zcT .i64 t4) fun t5=>
 C z9u [v0,t5] h fun t6 h7 y8=>
 wK (oBsl false none 1 (.int .i64 0) [(0,t6)] h7) fun t9 h10 y11=>
 wK (oApp none v5 t9 h10) fun t12 h13 y14=>
 pK (oBin .add v11 (AI 1)) fun t15=>
 K .normal ⟨[(0,t6),(5,t12),(9,v9),(10,v10),(11,t15)],h13,(y14 ++ (y11 ++ (y8 ++ x)))⟩)
 (K (.exit 0) ⟨[(0,v0),(5,v5),(9,v9),(10,v10),(11,v11),(12,t1)],h,x⟩)
theorem zle {C gl e h x K} : NW C gl z3f ⟨e,h,x⟩ K = zbN C gl (aget e 0) (aget e 5) (aget e 9) (aget e 10) (aget e 11) h x K:=by kernel_rfl
theorem zmQ {C gl e h x K} : NW C gl (.loop (.scope z3f)) ⟨e,h,x⟩ K = z1z C gl (.scope z3f) K [(0,aget e 0),(5,aget e 5),(9,aget e 9),(10,aget e 10),(11,aget e 11)] h x:=z1D
def z5F : ACode:=.pr [5] (.seq (rg [mV 25 5,
mV 4 25] [4])
.ret)
def zbO (C : Hd) (gl : GL) (v5 : AV) (h : Heap) (x : Esc) (K : KT) : Prop:=
 K .ret ⟨[(4,v5)],h,x⟩
theorem zlf {C gl e h x K} : NW C gl z5F ⟨e,h,x⟩ K = zbO C gl (aget e 5) h x K:=by kernel_rfl
def zsK (q1 q2 : ACode) : ACode:=(.seq (rg [mV 4 (.c (.p (.sl none [])))] [0,1])
(.seq (rg [uO 5 (.new0 none)] [0,1,5])
(.seq (.seq (rg [mV 8 1,
uO 9 (.conv .s2b 8),
lN 10 9,
mV 11 (cI 0)] [0,5,9,10,11])
(.block 0 (.loop (.scope q1))))
q2)))
def zjp : AFun:=⟨2,[.t 4],zsK z3f z5F,false,false⟩
def zfj (C : Hd) (gl : GL) (q1 q2 : ACode) (v0 v1 : AV) (h : Heap) (x : Esc) (K : KT) : Prop:=
 nwK none h fun t1 h2 y3=>
 wK (za6 .s2b v1 h2) fun t4 h5 y6=>
 pK (oLen t4) fun t7=>
 NW C gl (.loop (.scope q1)) ⟨[(0,v0),(5,t1),(9,t4),(10,t7),(11,(AI 0))],h5,(y6 ++ (y3 ++ x))⟩ (z02 0 (seqN C gl q2 K))
theorem E_q02z {C gl q1 q2 v0 v1 h x K} : NW C gl (zsK q1 q2) ⟨enter [v0,v1],h,x⟩ K = zfj C gl q1 q2 v0 v1 h x K:=by kernel_rfl
theorem e_q02z {C gl v0 v1 h x K} : NW C gl zjp.body ⟨enter [v0,v1],h,x⟩ K = zfj C gl z3f z5F v0 v1 h x K:=E_q02z
def z3b : ACode:=.pr [0,5,6,7] (.seq (rg [bN 8 .lss 7 6] [0,5,6,7,8])
(.seq (.cond 8 .skip
(.exit 0))
(.seq (.block 1 (rg [mV 9 5,
mV 10 0,
cL 11 z9q [10],
uO 12 (.bsl false (some 6) 1 (.agg [.int .i64 0,.int .i64 0,.int .i64 0,.str [],.str [],.str []]) [(0,11)]),
uO 13 (.app (some 6) 9 12),
mV 5 13] [0,5,6,7]))
(rg [bN 14 .add 7 (cI 1),
mV 7 14] [0,5,6,7]))))
def zbD (C : Hd) (gl : GL) (v0 v5 v6 v7 : AV) (h : Heap) (x : Esc) (K : KT) : Prop:=
 pK (oBin .lss v7 v6) fun t1=>
 z0l t1 (C z9q [v0] h fun t2 h3 y4=>
 wK (oBsl false (some 6) 1 (.agg [.int .i64 0,.int .i64 0,.int .i64 0,.str [],.str [],.str []]) [(0,t2)] h3) fun t5 h6 y7=>
 wK (oApp (some 6) v5 t5 h6) fun t8 h9 y10=>
 pK (oBin .add v7 (AI 1)) fun t11=>
 K .normal ⟨[(0,v0),(5,t8),(6,v6),(7,t11)],h9,(y10 ++ (y7 ++ (y4 ++ x)))⟩)
 (K (.exit 0) ⟨[(0,v0),(5,v5),(6,v6),(7,v7),(8,t1)],h,x⟩)
theorem zkR {C gl e h x K} : NW C gl z3b ⟨e,h,x⟩ K = zbD C gl (aget e 0) (aget e 5) (aget e 6) (aget e 7) h x K:=by kernel_rfl
theorem zmK {C gl e h x K} : NW C gl (.loop (.scope z3b)) ⟨e,h,x⟩ K = z1z C gl (.scope z3b) K [(0,aget e 0),(5,aget e 5),(6,aget e 6),(7,aget e 7)] h x:=z1D
def z4g : ACode:=.pr [0,5,17] (.seq (rg [bN 18 .lss 17 (cI 11)] [0,5,17,18])
(.seq (.cond 18 .skip
(.exit 2))
(.seq (.block 3 (rg [mV 19 5,
mV 20 0,
uO 21 (.bsl false none 3 (.int .i64 0) [(0,(cI 1800)),(1,(cI 1830)),(2,(cI 2000))]),
cL 22 z1v [20,21],
cL 23 z1g [(cS [49]),22],
uO 24 (.build [.p (.int .i64 0),.p (.int .i64 0),.p (.int .i64 0),.p (.str []),.p (.str []),.p (.str [])] [(0,1,(cI 8)),(3,1,23)]),
uO 25 (.bsl false (some 6) 1 (.agg [.int .i64 0,.int .i64 0,.int .i64 0,.str [],.str [],.str []]) [(0,24)]),
uO 26 (.app (some 6) 19 25),
mV 5 26] [0,5,17]))
(rg [bN 27 .add 17 (cI 1),
mV 17 27] [0,5,17]))))
def zbE (C : Hd) (gl : GL) (v0 v5 v17 : AV) (h : Heap) (x : Esc) (K : KT) : Prop:=
 pK (oBin .lss v17 (AI 11)) fun t1=>
 z0l t1 (wK (oBsl false none 3 (.int .i64 0) [(0,(AI 1800)),(1,(AI 1830)),(2,(AI 2000))] h) fun t2 h3 y4=>
 C z1v [v0,t2] h3 fun t5 h6 y7=>
 C z1g [(.p (.str [49])),t5] h6 fun t8 h9 y10=>
 pK (z03 [.p (.int .i64 0),.p (.int .i64 0),.p (.int .i64 0),.p (.str []),.p (.str []),.p (.str [])] [(0,1,(AI 8)),(3,1,t8)]) fun t11=>
 wK (oBsl false (some 6) 1 (.agg [.int .i64 0,.int .i64 0,.int .i64 0,.str [],.str [],.str []]) [(0,t11)] h9) fun t12 h13 y14=>
 wK (oApp (some 6) v5 t12 h13) fun t15 h16 y17=>
 pK (oBin .add v17 (AI 1)) fun t18=>
 K .normal ⟨[(0,v0),(5,t15),(17,t18)],h16,(y17 ++ (y14 ++ (y10 ++ (y7 ++ (y4 ++ x)))))⟩)
 (K (.exit 2) ⟨[(0,v0),(5,v5),(17,v17),(18,t1)],h,x⟩)
theorem zkS {C gl e h x K} : NW C gl z4g ⟨e,h,x⟩ K = zbE C gl (aget e 0) (aget e 5) (aget e 17) h x K:=by kernel_rfl
theorem zmL {C gl e h x K} : NW C gl (.loop (.scope z4g)) ⟨e,h,x⟩ K = z1z C gl (.scope z4g) K [(0,aget e 0),(5,aget e 5),(17,aget e 17)] h x:=z1D
def z8m : ACode:=.pr [5] (.seq (rg [mV 28 5,
mV 4 28] [4])
.ret)
def zbF (C : Hd) (gl : GL) (v5 : AV) (h : Heap) (x : Esc) (K : KT) : Prop:=
 K .ret ⟨[(4,v5)],h,x⟩
theorem zkT {C gl e h x K} : NW C gl z8m ⟨e,h,x⟩ K = zbF C gl (aget e 5) h x K:=by kernel_rfl
def zbb (q2 q3 : ACode) : ACode:=.pr [0,5] (.seq (.seq (rg [mV 15 0,
cL 16 z2q [15,(cI 80)]] [0,5,16])
(.cond 16 (.seq (rg [mV 17 (cI 0)] [0,5,17])
(.block 2 (.loop (.scope q2))))
.skip))
q3)
def z5C : ACode:=zbb z4g z8m
def z7B (C : Hd) (gl : GL) (q2 q3 : ACode) (v0 v5 : AV) (h : Heap) (x : Esc) (K : KT) : Prop:=
 C z2q [v0,(AI 80)] h fun t1 h2 y3=>
 z0l t1 (NW C gl (.loop (.scope q2)) ⟨[(0,v0),(5,v5),(17,(AI 0))],h2,(y3 ++ x)⟩ (z02 2 (seqN C gl q3 K)))
 (NW C gl q3 ⟨[(0,v0),(5,v5),(16,t1)],h2,(y3 ++ x)⟩ K)
theorem ziy {C gl q2 q3 e h x K} : NW C gl (zbb q2 q3) ⟨e,h,x⟩ K = z7B C gl q2 q3 (aget e 0) (aget e 5) h x K:=by kernel_rfl
theorem zkU {C gl e h x K} : NW C gl z5C ⟨e,h,x⟩ K = z7B C gl z4g z8m (aget e 0) (aget e 5) h x K:=ziy
def zsG (q1 q4 : ACode) : ACode:=(.seq (rg [mV 4 (.c (.p (.sl (some 6) [])))] [0,1])
(.seq (rg [uO 5 (.new0 (some 6))] [0,1,5])
(.seq (.seq (rg [mV 6 1,
mV 7 (cI 0)] [0,5,6,7])
(.block 0 (.loop (.scope q1))))
q4)))
def zjf : AFun:=⟨2,[.t 4],zsG z3b z5C,false,false⟩
def zfd (C : Hd) (gl : GL) (q1 q4 : ACode) (v0 v1 : AV) (h : Heap) (x : Esc) (K : KT) : Prop:=
 nwK (some 6) h fun t1 h2 y3=>
 NW C gl (.loop (.scope q1)) ⟨[(0,v0),(5,t1),(6,v1),(7,(AI 0))],h2,(y3 ++ x)⟩ (z02 0 (seqN C gl q4 K))
theorem E_q02p {C gl q1 q4 v0 v1 h x K} : NW C gl (zsG q1 q4) ⟨enter [v0,v1],h,x⟩ K = zfd C gl q1 q4 v0 v1 h x K:=by kernel_rfl
theorem e_q02p {C gl v0 v1 h x K} : NW C gl zjf.body ⟨enter [v0,v1],h,x⟩ K = zfd C gl z3b z5C v0 v1 h x K:=E_q02p
def z3g : ACode:=.pr [0,12,13,14] (.seq (rg [bN 15 .lss 14 13] [0,12,13,14,15])
(.seq (.cond 15 .skip
(.exit 0))
(.seq (.block 1 (.seq (rg [iA 16 (some 6) 12 14,
lD 17 (some 6) 16,
uO 4 (.alloc [.p (.int .i64 0),.p (.int .i64 0),.p (.int .i64 0),.p (.str []),.p (.str []),.p (.str [])]),
wO (.store (some 6) 4 17)] [0,4,12,13,14])
(.seq (rg [lD 18 (some 6) 4,
cL 19 z9v [18],
mV 5 19] [0,5,12,13,14])
(.seq (rg [mV 20 5,
bN 21 .neq 20 (cI 0)] [0,5,12,13,14,21])
(.cond 21 (.seq (rg [mV 22 5,
mV 2 22] [2])
.ret)
.skip)))))
(rg [bN 23 .add 14 (cI 1),
mV 14 23] [0,12,13,14]))))
def zbQ (C : Hd) (gl : GL) (v0 v12 v13 v14 : AV) (h : Heap) (x : Esc) (K : KT) : Prop:=
 pK (oBin .lss v14 v13) fun t1=>
 z0l t1 (pK (z0E (some 6) v12 v14 h) fun t2=>
 pK (z0g (some 6) t2 h) fun t3=>
 alK [.p (.int .i64 0),.p (.int .i64 0),.p (.int .i64 0),.p (.str []),.p (.str []),.p (.str [])] h fun t4 h5 y6=>
 wK (z0n (some 6) t4 t3 h5) fun t7 h8 y9=>
 pK (z0g (some 6) t4 h8) fun t10=>
 C z9v [t10] h8 fun t11 h12 y13=>
 pK (oBin .neq t11 (AI 0)) fun t14=>
 z0l t14 (K .ret ⟨[(2,t11)],h12,(y13 ++ (y9 ++ (y6 ++ x)))⟩)
 (pK (oBin .add v14 (AI 1)) fun t15=>
 K .normal ⟨[(0,v0),(12,v12),(13,v13),(14,t15)],h12,(y13 ++ (y9 ++ (y6 ++ x)))⟩))
 (K (.exit 0) ⟨[(0,v0),(12,v12),(13,v13),(14,v14),(15,t1)],h,x⟩)
theorem zlg {C gl e h x K} : NW C gl z3g ⟨e,h,x⟩ K = zbQ C gl (aget e 0) (aget e 12) (aget e 13) (aget e 14) h x K:=by kernel_rfl
theorem zmR {C gl e h x K} : NW C gl (.loop (.scope z3g)) ⟨e,h,x⟩ K = z1z C gl (.scope z3g) K [(0,aget e 0),(12,aget e 12),(13,aget e 13),(14,aget e 14)] h x:=z1D
def z5G : ACode:=.pr [0] (.seq (.seq (rg [mV 25 0,
cL 26 z7R [25],
mV 24 26,
eX 27 24 0,
eX 28 24 1,
eX 29 24 2,
mV 6 27,
mV 7 28,
mV 8 29] [6])
(.seq (rg [mV 30 6,
uO 31 (.lens 30),
bN 32 .gtr 31 (cI 20000)] [32])
(.cond 32 (.seq (rg [mV 2 (cI 2)] [2])
.ret)
.skip)))
(.seq (rg [mV 2 (cI 0)] [2])
.ret))
def zbR (C : Hd) (gl : GL) (v0 : AV) (h : Heap) (x : Esc) (K : KT) : Prop:=
 C z7R [v0] h fun t1 h2 y3=>
 pK (oExt t1 0) fun t4=>
 pK (oExt t1 1) fun t5=>
 pK (oExt t1 2) fun t6=>
 pK (z1j t4) fun t7=>
 pK (oBin .gtr t7 (AI 20000)) fun t8=>
 z0l t8 (K .ret ⟨[(2,(AI 2))],h2,(y3 ++ x)⟩)
 (K .ret ⟨[(2,(AI 0))],h2,(y3 ++ x)⟩)
theorem zlh {C gl e h x K} : NW C gl z5G ⟨e,h,x⟩ K = zbR C gl (aget e 0) h x K:=by kernel_rfl
def zsL (q1 q2 : ACode) : ACode:=(.seq (rg [mV 2 (cI 0)] [0])
(.seq (.seq (rg [mV 9 0,
lN 10 9,
bN 11 .gtr 10 (cI 1000)] [0,11])
(.cond 11 (.seq (rg [mV 2 (cI 2)] [2])
.ret)
.skip))
(.seq (.seq (rg [mV 12 0,
lN 13 12,
mV 14 (cI 0)] [0,12,13,14])
(.block 0 (.loop (.scope q1))))
q2)))
def zjs : AFun:=⟨1,[.t 2],zsL z3g z5G,false,false⟩
def zbP (C : Hd) (gl : GL) (q1 q2 : ACode) (v0 : AV) (h : Heap) (x : Esc) (K : KT) : Prop:=
 pK (oLen v0) fun t1=>
 pK (oBin .gtr t1 (AI 1000)) fun t2=>
 z0l t2 (K .ret ⟨[(2,(AI 2))],h,x⟩)
 (pK (oLen v0) fun t3=>
 NW C gl (.loop (.scope q1)) ⟨[(0,v0),(12,v0),(13,t3),(14,(AI 0))],h,x⟩ (z02 0 (seqN C gl q2 K)))
theorem E_q033 {C gl q1 q2 v0 h x K} : NW C gl (zsL q1 q2) ⟨enter [v0],h,x⟩ K = zbP C gl q1 q2 v0 h x K:=by kernel_rfl
theorem e_q033 {C gl v0 h x K} : NW C gl zjs.body ⟨enter [v0],h,x⟩ K = zbP C gl z3g z5G v0 h x K:=E_q033
def P_q02r : ACode:=(.seq (rg [mV 4 (cI 0)] [0,1])
(.seq (rg [mV 7 0,
uO 8 (.nilchk 7),
fA 9 1 none 8,
lD 10 none 9,
bN 11 .add 10 (cI 1),
uO 12 (.nilchk 7),
fA 13 1 none 12,
wO (.store none 13 11)] [0,1])
(.seq (.seq (rg [mV 14 0,
uO 15 (.nilchk 14),
fA 16 0 none 15,
lD 17 none 16,
lN 18 17,
bN 19 .eql 18 (cI 0)] [0,1,19])
(.cond 19 (.seq (rg [mV 20 0,
uO 21 (.nilchk 20),
fA 22 1 none 21,
lD 23 none 22,
bN 24 .mul 23 (cI 7919),
mV 25 1,
cL 26 z4P [24,25],
mV 4 26] [4])
.ret)
.skip))
(.seq (dr [dF (mV 27 0) [0],
dF (uO 28 (.nilchk 27)) [27],
dF (fA 29 1 none 28) [28],
dF (lD 30 none 29) [29],
dF (bN 31 .sub 30 (cI 1)) [30],
dF (mV 32 0) [0],
dF (uO 33 (.nilchk 32)) [32],
dF (fA 34 0 none 33) [33],
dF (lD 35 none 34) [34],
dF (lN 36 35) [35],
dF (bN 37 .rem 31 36) [31,36],
dF (mV 5 37) [37]] [0,1,5])
(.seq (dr [dF (mV 38 0) [0],
dF (uO 39 (.nilchk 38)) [38],
dF (fA 40 1 none 39) [39],
dF (lD 41 none 40) [40],
dF (bN 42 .sub 41 (cI 1)) [41],
dF (mV 43 0) [0],
dF (uO 44 (.nilchk 43)) [43],
dF (fA 45 0 none 44) [44],
dF (lD 46 none 45) [45],
dF (lN 47 46) [46],
dF (bN 48 .quo 42 47) [42,47],
dF (mV 6 48) [48]] [0,1,5,6])
(.seq (rg [mV 49 0,
uO 50 (.nilchk 49),
fA 51 0 none 50,
lD 52 none 51,
mV 53 5,
iA 54 none 52 53,
lD 55 none 54,
cL 56 z4P [55,(cI 1073741824)],
mV 57 6,
mV 58 5,
bN 59 .add (cI 7919) 58,
bN 60 .mul 57 59,
bN 61 .add 56 60,
mV 62 1,
cL 63 z4P [61,62],
mV 4 63] [4])
.ret))))))
def zjh : AFun:=⟨2,[.t 4],P_q02r,false,false⟩
def zfe (C : Hd) (gl : GL) (v0 v1 : AV) (h : Heap) (x : Esc) (K : KT) : Prop:=
 pK (oNil v0) fun t1=>
 pK (z0e 1 none t1) fun t2=>
 pK (z0g none t2 h) fun t3=>
 pK (oBin .add t3 (AI 1)) fun t4=>
 pK (oNil v0) fun t5=>
 pK (z0e 1 none t5) fun t6=>
 wK (z0n none t6 t4 h) fun t7 h8 y9=>
 pK (oNil v0) fun t10=>
 pK (z0e 0 none t10) fun t11=>
 pK (z0g none t11 h8) fun t12=>
 pK (oLen t12) fun t13=>
 pK (oBin .eql t13 (AI 0)) fun t14=>
 z0l t14 (pK (oNil v0) fun t15=>
 pK (z0e 1 none t15) fun t16=>
 pK (z0g none t16 h8) fun t17=>
 pK (oBin .mul t17 (AI 7919)) fun t18=>
 C z4P [t18,v1] h8 fun t19 h20 y21=>
 K .ret ⟨[(4,t19)],h20,(y21 ++ (y9 ++ x))⟩)
 (pK (oNil v0) fun t22=>
 pK (z0e 1 none t22) fun t23=>
 pK (z0g none t23 h8) fun t24=>
 pK (oBin .sub t24 (AI 1)) fun t25=>
 pK (oNil v0) fun t26=>
 pK (z0e 0 none t26) fun t27=>
 pK (z0g none t27 h8) fun t28=>
 pK (oLen t28) fun t29=>
 pK (oBin .rem t25 t29) fun t30=>
 pK (oNil v0) fun t31=>
 pK (z0e 1 none t31) fun t32=>
 pK (z0g none t32 h8) fun t33=>
 pK (oBin .sub t33 (AI 1)) fun t34=>
 pK (oNil v0) fun t35=>
 pK (z0e 0 none t35) fun t36=>
 pK (z0g none t36 h8) fun t37=>
 pK (oLen t37) fun t38=>
 pK (oBin .quo t34 t38) fun t39=>
 pK (oNil v0) fun t40=>
 pK (z0e 0 none t40) fun t41=>
 pK (z0g none t41 h8) fun t42=>
 pK (z0E none t42 t30 h8) fun t43=>
 pK (z0g none t43 h8) fun t44=>
 C z4P [t44,(AI 1073741824)] h8 fun t45 h46 y47=>
 pK (oBin .add (AI 7919) t30) fun t48=>
 pK (oBin .mul t39 t48) fun t49=>
 pK (oBin .add t45 t49) fun t50=>
 C z4P [t50,v1] h46 fun t51 h52 y53=>
 K .ret ⟨[(4,t51)],h52,(y53 ++ (y47 ++ (y9 ++ x)))⟩)
theorem e_q02r {C gl v0 v1 h x K} : NW C gl zjh.body ⟨enter [v0,v1],h,x⟩ K = zfe C gl v0 v1 h x K:=by kernel_rfl
def z3p : ACode:=.pr [0,10,11,12] (.seq (rg [bN 13 .lss 12 11] [0,10,11,12,13])
(.seq (.cond 13 .skip
(.exit 0))
(.seq (.block 1 (.seq (rg [iA 14 (some 6) 10 12,
lD 15 (some 6) 14,
uO 4 (.alloc [.p (.int .i64 0),.p (.int .i64 0),.p (.int .i64 0),.p (.str []),.p (.str []),.p (.str [])]),
wO (.store (some 6) 4 15)] [0,4,10,11,12])
(.seq (.seq (rg [fA 16 0 none 4,
lD 17 none 16,
cL 18 z1d [17,(cI 1),(cI 10)]] [0,4,10,11,12,18])
(.cond 18 (.seq (rg [mV 2 (cI 4)] [2])
.ret)
.skip))
(.seq (rg [lD 20 (some 6) 4,
cL 21 z7U [20],
mV 19 21,
eX 22 19 0,
eX 23 19 1,
uO 5 (.alloc [.p (.int .i64 0),.p (.int .i64 0),.p (.int .i64 0),.p (.str []),.p (.str []),.p (.str [])]),
wO (.store (some 6) 5 22),
mV 6 23] [0,4,5,6,10,11,12])
(.block 2 (.seq (rg [mV 25 6,
bN 26 .neq 25 (cI 0),
mV 24 26] [0,4,5,6,10,11,12,24])
(.cond 24 (.seq (rg [mV 27 6,
mV 2 27] [2])
.ret)
(.seq (rg [lD 29 (some 6) 5,
fA 30 0 none 4,
lD 31 none 30,
uO 32 (.build [.p (.int .i64 0),.p (.int .i64 0),.p (.int .i64 0),.p (.str []),.p (.str []),.p (.str [])] [(0,1,31)]),
uO 33 (.eqa [0,0,0,2,2,2] true 29 32),
mV 28 33] [0,10,11,12,28])
(.cond 28 (.seq (rg [mV 2 (cI 3)] [2])
.ret)
.skip)))))))))
(rg [bN 34 .add 12 (cI 1),
mV 12 34] [0,10,11,12]))))
def zcm (C : Hd) (gl : GL) (v0 v10 v11 v12 : AV) (h : Heap) (x : Esc) (K : KT) : Prop:=
 pK (oBin .lss v12 v11) fun t1=>
 z0l t1 (pK (z0E (some 6) v10 v12 h) fun t2=>
 pK (z0g (some 6) t2 h) fun t3=>
 alK [.p (.int .i64 0),.p (.int .i64 0),.p (.int .i64 0),.p (.str []),.p (.str []),.p (.str [])] h fun t4 h5 y6=>
 wK (z0n (some 6) t4 t3 h5) fun t7 h8 y9=>
 pK (z0e 0 none t4) fun t10=>
 pK (z0g none t10 h8) fun t11=>
 C z1d [t11,(AI 1),(AI 10)] h8 fun t12 h13 y14=>
 z0l t12 (K .ret ⟨[(2,(AI 4))],h13,(y14 ++ (y9 ++ (y6 ++ x)))⟩)
 (pK (z0g (some 6) t4 h13) fun t15=>
 C z7U [t15] h13 fun t16 h17 y18=>
 pK (oExt t16 0) fun t19=>
 pK (oExt t16 1) fun t20=>
 alK [.p (.int .i64 0),.p (.int .i64 0),.p (.int .i64 0),.p (.str []),.p (.str []),.p (.str [])] h17 fun t21 h22 y23=>
 wK (z0n (some 6) t21 t19 h22) fun t24 h25 y26=>
 pK (oBin .neq t20 (AI 0)) fun t27=>
 z0l t27 (K .ret ⟨[(2,t20)],h25,(y26 ++ (y23 ++ (y18 ++ (y14 ++ (y9 ++ (y6 ++ x))))))⟩)
 (pK (z0g (some 6) t21 h25) fun t28=>
 pK (z0e 0 none t4) fun t29=>
 pK (z0g none t29 h25) fun t30=>
 pK (z03 [.p (.int .i64 0),.p (.int .i64 0),.p (.int .i64 0),.p (.str []),.p (.str []),.p (.str [])] [(0,1,t30)]) fun t31=>
 pK (oEqa [0,0,0,2,2,2] true t28 t31) fun t32=>
 z0l t32 (K .ret ⟨[(2,(AI 3))],h25,(y26 ++ (y23 ++ (y18 ++ (y14 ++ (y9 ++ (y6 ++ x))))))⟩)
 (pK (oBin .add v12 (AI 1)) fun t33=>
 K .normal ⟨[(0,v0),(10,v10),(11,v11),(12,t33)],h25,(y26 ++ (y23 ++ (y18 ++ (y14 ++ (y9 ++ (y6 ++ x))))))⟩))))
 (K (.exit 0) ⟨[(0,v0),(10,v10),(11,v11),(12,v12),(13,t1)],h,x⟩)
theorem zl8 {C gl e h x K} : NW C gl z3p ⟨e,h,x⟩ K = zcm C gl (aget e 0) (aget e 10) (aget e 11) (aget e 12) h x K:=by kernel_rfl
theorem znb {C gl e h x K} : NW C gl (.loop (.scope z3p)) ⟨e,h,x⟩ K = z1z C gl (.scope z3p) K [(0,aget e 0),(10,aget e 10),(11,aget e 11),(12,aget e 12)] h x:=z1D
def z5T : ACode:=.pr [0] (.seq (.seq (rg [mV 35 0,
cL 36 z2B [35,(.c (.nilp))],
uO 37 (.nilchk 36),
fA 38 37 none 37,
lD 39 none 38,
bN 40 .gtr 39 (cI 20000)] [40])
(.cond 40 (.seq (rg [mV 2 (cI 2)] [2])
.ret)
.skip))
(.seq (rg [mV 2 (cI 0)] [2])
.ret))
def zcn (C : Hd) (gl : GL) (v0 : AV) (h : Heap) (x : Esc) (K : KT) : Prop:=
 C z2B [v0,(.nilp)] h fun t1 h2 y3=>
 pK (oNil t1) fun t4=>
 pK (z0e 37 none t4) fun t5=>
 pK (z0g none t5 h2) fun t6=>
 pK (oBin .gtr t6 (AI 20000)) fun t7=>
 z0l t7 (K .ret ⟨[(2,(AI 2))],h2,(y3 ++ x)⟩)
 (K .ret ⟨[(2,(AI 0))],h2,(y3 ++ x)⟩)
theorem zl9 {C gl e h x K} : NW C gl z5T ⟨e,h,x⟩ K = zcn C gl (aget e 0) h x K:=by kernel_rfl
def zsW (q1 q2 : ACode) : ACode:=(.seq (rg [mV 2 (cI 0)] [0])
(.seq (.seq (rg [mV 7 0,
lN 8 7,
bN 9 .gtr 8 (cI 1000)] [0,9])
(.cond 9 (.seq (rg [mV 2 (cI 2)] [2])
.ret)
.skip))
(.seq (.seq (rg [mV 10 0,
lN 11 10,
mV 12 (cI 0)] [0,10,11,12])
(.block 0 (.loop (.scope q1))))
q2)))
def zeF : AFun:=⟨1,[.t 2],zsW z3p z5T,false,false⟩
def zcl (C : Hd) (gl : GL) (q1 q2 : ACode) (v0 : AV) (h : Heap) (x : Esc) (K : KT) : Prop:=
 pK (oLen v0) fun t1=>
 pK (oBin .gtr t1 (AI 1000)) fun t2=>
 z0l t2 (K .ret ⟨[(2,(AI 2))],h,x⟩)
 (pK (oLen v0) fun t3=>
 NW C gl (.loop (.scope q1)) ⟨[(0,v0),(10,v0),(11,t3),(12,(AI 0))],h,x⟩ (z02 0 (seqN C gl q2 K)))
theorem E_q062 {C gl q1 q2 v0 h x K} : NW C gl (zsW q1 q2) ⟨enter [v0],h,x⟩ K = zcl C gl q1 q2 v0 h x K:=by kernel_rfl
theorem e_q062 {C gl v0 h x K} : NW C gl zeF.body ⟨enter [v0],h,x⟩ K = zcl C gl z3p z5T v0 h x K:=E_q062
def z2u : ACode:=.pr [5,13,14,15] (.seq (rg [bN 16 .lss 15 14] [5,13,14,15,16])
(.seq (.cond 16 .skip
(.exit 0))
(.seq (.block 1 (.seq (rg [iA 17 (some 6) 13 15,
lD 18 (some 6) 17,
uO 7 (.alloc [.p (.int .i64 0),.p (.int .i64 0),.p (.int .i64 0),.p (.str []),.p (.str []),.p (.str [])]),
wO (.store (some 6) 7 18)] [5,7,13,14,15])
(.seq (.seq (rg [mV 19 5,
uO 20 (.nilchk 19),
fA 21 37 none 20,
lD 22 none 21,
bN 23 .gtr 22 (cI 20000)] [5,7,13,14,15,23])
(.cond 23 (.exit 0)
.skip))
(rg [mV 24 5,
lD 25 (some 6) 7,
cL 26 z50 [24,25]] [5,13,14,15]))))
(rg [bN 27 .add 15 (cI 1),
mV 15 27] [5,13,14,15]))))
def zcw (C : Hd) (gl : GL) (v5 v13 v14 v15 : AV) (h : Heap) (x : Esc) (K : KT) : Prop:=
 pK (oBin .lss v15 v14) fun t1=>
 z0l t1 (pK (z0E (some 6) v13 v15 h) fun t2=>
 pK (z0g (some 6) t2 h) fun t3=>
 alK [.p (.int .i64 0),.p (.int .i64 0),.p (.int .i64 0),.p (.str []),.p (.str []),.p (.str [])] h fun t4 h5 y6=>
 wK (z0n (some 6) t4 t3 h5) fun t7 h8 y9=>
 pK (oNil v5) fun t10=>
 pK (z0e 37 none t10) fun t11=>
 pK (z0g none t11 h8) fun t12=>
 pK (oBin .gtr t12 (AI 20000)) fun t13=>
 z0l t13 (K (.exit 0) ⟨[(5,v5),(7,t4),(13,v13),(14,v14),(15,v15),(23,t13)],h8,(y9 ++ (y6 ++ x))⟩)
 (pK (z0g (some 6) t4 h8) fun t14=>
 C z50 [v5,t14] h8 fun t15 h16 y17=>
 pK (oBin .add v15 (AI 1)) fun t18=>
 K .normal ⟨[(5,v5),(13,v13),(14,v14),(15,t18)],h16,(y17 ++ (y9 ++ (y6 ++ x)))⟩))
 (K (.exit 0) ⟨[(5,v5),(13,v13),(14,v14),(15,v15),(16,t1)],h,x⟩)
theorem zlG {C gl e h x K} : NW C gl z2u ⟨e,h,x⟩ K = zcw C gl (aget e 5) (aget e 13) (aget e 14) (aget e 15) h x K:=by kernel_rfl
theorem znd {C gl e h x K} : NW C gl (.loop (.scope z2u)) ⟨e,h,x⟩ K = z1z C gl (.scope z2u) K [(5,aget e 5),(13,aget e 13),(14,aget e 14),(15,aget e 15)] h x:=z1D
def z4j : ACode:=.pr [5] (.seq (rg [mV 28 5,
mV 4 28] [4])
.ret)
def zcx (C : Hd) (gl : GL) (v5 : AV) (h : Heap) (x : Esc) (K : KT) : Prop:=
 K .ret ⟨[(4,v5)],h,x⟩
theorem zlH {C gl e h x K} : NW C gl z4j ⟨e,h,x⟩ K = zcx C gl (aget e 5) h x K:=by kernel_rfl
def zta (q1 q2 : ACode) : ACode:=(.seq (rg [mV 4 (.c (.nilp))] [0,1])
(.seq (rg [cL 8 z7X [],
mV 9 1,
uO 10 (.isnil 0 true 9),
uO 11 (.build [.p (.int .i64 0),.p (.int .i64 0),.p (.int .i64 0),.p (.str []),.p (.str []),.p (.str []),.p (.int .i64 0),.p (.int .i64 0),.p (.int .i64 0),.p (.str []),.p (.str []),.p (.str []),.p (.int .i64 0),.p (.int .i64 0),.p (.int .i64 0),.p (.str []),.p (.str []),.p (.str []),.p (.int .i64 0),.p (.int .i64 0),.p (.int .i64 0),.p (.str []),.p (.str []),.p (.str []),.p (.int .i64 0),.p (.int .i64 0),.p (.int .i64 0),.p (.str []),.p (.str []),.p (.str []),.p (.int .i64 0),.p (.int .i64 0),.p (.int .i64 0),.p (.str []),.p (.str []),.p (.str []),.p (.int .i64 0),.p (.int .i64 0),.p (.int .i64 0),.p (.int .i64 0),.sl0 none,.sl0 none,.sl0 none,.sl0 none,.sl0 none,.p (.bool false)] [(0,36,8),(36,1,(cI 0)),(45,1,10)]),
uO 12 (.uns 12 0 [11]),
mV 5 12] [0,5])
(.seq (.seq (rg [mV 13 0,
lN 14 13,
mV 15 (cI 0)] [5,13,14,15])
(.block 0 (.loop (.scope q1))))
q2)))
def zeJ : AFun:=⟨2,[.t 4],zta z2u z4j,false,false⟩
def zcv (C : Hd) (gl : GL) (q1 q2 : ACode) (v0 v1 : AV) (h : Heap) (x : Esc) (K : KT) : Prop:=
 C z7X [] h fun t1 h2 y3=>
 pK (zcV 0 true v1) fun t4=>
 pK (z03 [.p (.int .i64 0),.p (.int .i64 0),.p (.int .i64 0),.p (.str []),.p (.str []),.p (.str []),.p (.int .i64 0),.p (.int .i64 0),.p (.int .i64 0),.p (.str []),.p (.str []),.p (.str []),.p (.int .i64 0),.p (.int .i64 0),.p (.int .i64 0),.p (.str []),.p (.str []),.p (.str []),.p (.int .i64 0),.p (.int .i64 0),.p (.int .i64 0),.p (.str []),.p (.str []),.p (.str []),.p (.int .i64 0),.p (.int .i64 0),.p (.int .i64 0),.p (.str []),.p (.str []),.p (.str []),.p (.int .i64 0),.p (.int .i64 0),.p (.int .i64 0),.p (.str []),.p (.str []),.p (.str []),.p (.int .i64 0),.p (.int .i64 0),.p (.int .i64 0),.p (.int .i64 0),.sl0 none,.sl0 none,.sl0 none,.sl0 none,.sl0 none,.p (.bool false)] [(0,36,t1),(36,1,(AI 0)),(45,1,t4)]) fun t5=>
 wK (z15 12 0 [t5] h2) fun t6 h7 y8=>
 pK (oLen v0) fun t9=>
 NW C gl (.loop (.scope q1)) ⟨[(5,t6),(13,v0),(14,t9),(15,(AI 0))],h7,(y8 ++ (y3 ++ x))⟩ (z02 0 (seqN C gl q2 K))
theorem E_q06h {C gl q1 q2 v0 v1 h x K} : NW C gl (zta q1 q2) ⟨enter [v0,v1],h,x⟩ K = zcv C gl q1 q2 v0 v1 h x K:=by kernel_rfl
theorem e_q06h {C gl v0 v1 h x K} : NW C gl zeJ.body ⟨enter [v0,v1],h,x⟩ K = zcv C gl z2u z4j v0 v1 h x K:=E_q06h
def P_q06d : ACode:=(.seq (rg [mV 2 cF] [0])
(.seq (rg [mV 3 0,
cL 4 z1d [3,(cI 1),(cI 6)],
uO 5 (.un .not 4),
mV 2 5] [2])
.ret))
def zeH : AFun:=⟨1,[.t 2],P_q06d,false,false⟩
def zct (C : Hd) (gl : GL) (v0 : AV) (h : Heap) (x : Esc) (K : KT) : Prop:=
 C z1d [v0,(AI 1),(AI 6)] h fun t1 h2 y3=>
 pK (oUn .not t1) fun t4=>
 K .ret ⟨[(2,t4)],h2,(y3 ++ x)⟩
theorem e_q06d {C gl v0 h x K} : NW C gl zeH.body ⟨enter [v0],h,x⟩ K = zct C gl v0 h x K:=by kernel_rfl
def z3s : ACode:=.pr [2,7,8,9] (.seq (rg [bN 10 .lss 9 8] [2,7,8,9,10])
(.seq (.cond 10 .skip
(.exit 0))
(.seq (.block 1 (.seq (rg [iA 11 (some 6) 7 9,
lD 12 (some 6) 11,
uO 6 (.alloc [.p (.int .i64 0),.p (.int .i64 0),.p (.int .i64 0),.p (.str []),.p (.str []),.p (.str [])]),
wO (.store (some 6) 6 12)] [2,6,7,8,9])
(.seq (.seq (rg [fA 13 0 none 6,
lD 14 none 13,
fA 15 0 none 2,
lD 16 none 15,
bN 17 .eql 14 16] [2,6,7,8,9,17])
(.cond 17 (.seq (rg [mV 4 cF] [4])
.ret)
.skip))
(.seq (dr [dF (fA 18 0 none 6) [6],
dF (lD 19 none 18) [18],
dT (cL 20 z3X [19]) [19],
dF (mV 21 20) [20],
dF (gD 22 21 true (.faddr 0 none 6)) [6,21],
dF (gD 23 21 true (.load none 22)) [22,21],
dT (gD 24 21 true (.call z6N [23])) [23,21],
dF (gD 25 21 true (.faddr 0 none 2)) [2,21],
dA (gD 26 21 true (.load none 25)) [25,21] false [6] [],
dT (gD 27 21 true (.call z6N [26])) [26,21],
dF (gD 28 21 true (.eqa [] false 24 27)) [24,27,21],
dF (uO 29 (.pick 21 28 cF)) [21,28]] [2,7,8,9,29])
(.cond 29 (.seq (rg [mV 4 cT] [4])
.ret)
.skip)))))
(rg [bN 30 .add 9 (cI 1),
mV 9 30] [2,7,8,9]))))
def zc5 (C : Hd) (gl : GL) (v2 v7 v8 v9 : AV) (h : Heap) (x : Esc) (K : KT) : Prop:=
 pK (oBin .lss v9 v8) fun t1=>
 z0l t1 (pK (z0E (some 6) v7 v9 h) fun t2=>
 pK (z0g (some 6) t2 h) fun t3=>
 alK [.p (.int .i64 0),.p (.int .i64 0),.p (.int .i64 0),.p (.str []),.p (.str []),.p (.str [])] h fun t4 h5 y6=>
 wK (z0n (some 6) t4 t3 h5) fun t7 h8 y9=>
 pK (z0e 0 none t4) fun t10=>
 pK (z0g none t10 h8) fun t11=>
 pK (z0e 0 none v2) fun t12=>
 pK (z0g none t12 h8) fun t13=>
 pK (oBin .eql t11 t13) fun t14=>
 z0l t14 (K .ret ⟨[(4,(AB false))],h8,(y9 ++ (y6 ++ x))⟩)
 (pK (z0e 0 none t4) fun t15=>
 pK (z0g none t15 h8) fun t16=>
 z1p C z3X [t16] h8 fun t17 h18 y19=>
 gP t17 true (z0e 0 none t4) h18 fun t20 h21 y22=>
 gP t17 true (z0g none t20 h21) h21 fun t23 h24 y25=>
 gV t17 true h24 (z1p C z6N [t23] h24) fun t26 h27 y28=>
 gP t17 true (z0e 0 none v2) h27 fun t29 h30 y31=>
 gP t17 true (z0g none t29 h30) h30 fun t32 h33 y34=>
 (gV t17 true h24 (fun kk=>pK (z0g none t29 h24) fun v=>(kk) v h24 []) (fun u (g1 : Heap) (y1 : Esc)=>u = t32 ∧ g1 = h24 ∧ y1 = [])) ∧ (gV t17 true h33 (z1p C z6N [t32] h33) fun t35 h36 y37=>
 gP t17 true (oEqa [] false t26 t35) h36 fun t38 h39 y40=>
 pK (z1q t17 t38 (AB false)) fun t41=>
 z0l t41 (K .ret ⟨[(4,(AB true))],h39,(y40 ++ (y37 ++ (y34 ++ (y31 ++ (y28 ++ (y25 ++ (y22 ++ (y19 ++ (y9 ++ (y6 ++ x))))))))))⟩)
 (pK (oBin .add v9 (AI 1)) fun t42=>
 K .normal ⟨[(2,v2),(7,v7),(8,v8),(9,t42)],h39,(y40 ++ (y37 ++ (y34 ++ (y31 ++ (y28 ++ (y25 ++ (y22 ++ (y19 ++ (y9 ++ (y6 ++ x))))))))))⟩))))
 (K (.exit 0) ⟨[(2,v2),(7,v7),(8,v8),(9,v9),(10,t1)],h,x⟩)
theorem zlT {C gl e h x K} : NW C gl z3s ⟨e,h,x⟩ K = zc5 C gl (aget e 2) (aget e 7) (aget e 8) (aget e 9) h x K:=by kernel_rfl
theorem znh {C gl e h x K} : NW C gl (.loop (.scope z3s)) ⟨e,h,x⟩ K = z1z C gl (.scope z3s) K [(2,aget e 2),(7,aget e 7),(8,aget e 8),(9,aget e 9)] h x:=z1D
def z6a : ACode:=.pr [] (.seq (rg [mV 4 cF] [4])
.ret)
def zc6 (C : Hd) (gl : GL) (h : Heap) (x : Esc) (K : KT) : Prop:=
 K .ret ⟨[(4,(AB false))],h,x⟩
theorem zlU {C gl e h x K} : NW C gl z6a ⟨e,h,x⟩ K = zc6 C gl h x K:=by kernel_rfl
def zte (q1 q2 : ACode) : ACode:=(.seq (rg [uO 2 (.box 0),
mV 4 cF] [1,2])
(.seq (.seq (rg [mV 7 1,
lN 8 7,
mV 9 (cI 0)] [2,7,8,9])
(.block 0 (.loop (.scope q1))))
q2))
def zjB : AFun:=⟨2,[.t 4],zte z3s z6a,false,false⟩
def zfv (C : Hd) (gl : GL) (q1 q2 : ACode) (v0 v1 : AV) (h : Heap) (x : Esc) (K : KT) : Prop:=
 wK (oBox v0 h) fun t1 h2 y3=>
 pK (oLen v1) fun t4=>
 NW C gl (.loop (.scope q1)) ⟨[(2,t1),(7,v1),(8,t4),(9,(AI 0))],h2,(y3 ++ x)⟩ (z02 0 (seqN C gl q2 K))
theorem E_q06t {C gl q1 q2 v0 v1 h x K} : NW C gl (zte q1 q2) ⟨enter [v0,v1],h,x⟩ K = zfv C gl q1 q2 v0 v1 h x K:=by kernel_rfl
theorem e_q06t {C gl v0 v1 h x K} : NW C gl zjB.body ⟨enter [v0,v1],h,x⟩ K = zfv C gl z3s z6a v0 v1 h x K:=E_q06t
def P_q06o : ACode:=(.seq (rg [mV 4 (.c (.nilp))] [0,1])
(.seq (.seq (rg [mV 5 1] [0,5])
(.block 0 (.seq (rg [bN 7 .eql 5 (cI 1),
mV 6 7] [0,5,6])
(.cond 6 (.seq (rg [mV 8 0,
uO 9 (.nilchk 8),
fA 10 0 (some 6) 9,
mV 4 10] [4])
.ret)
(.seq (rg [bN 12 .eql 5 (cI 2),
mV 11 12] [0,5,11])
(.cond 11 (.seq (rg [mV 13 0,
uO 14 (.nilchk 13),
fA 15 6 (some 6) 14,
mV 4 15] [4])
.ret)
(.seq (rg [bN 17 .eql 5 (cI 3),
mV 16 17] [0,5,16])
(.cond 16 (.seq (rg [mV 18 0,
uO 19 (.nilchk 18),
fA 20 12 (some 6) 19,
mV 4 20] [4])
.ret)
(.seq (rg [bN 22 .eql 5 (cI 4),
mV 21 22] [0,5,21])
(.cond 21 (.seq (rg [mV 23 0,
uO 24 (.nilchk 23),
fA 25 18 (some 6) 24,
mV 4 25] [4])
.ret)
(.seq (rg [bN 27 .eql 5 (cI 5),
mV 26 27] [0,26])
(.cond 26 (.seq (rg [mV 28 0,
uO 29 (.nilchk 28),
fA 30 24 (some 6) 29,
mV 4 30] [4])
.ret)
.skip))))))))))))
(.seq (rg [mV 31 0,
uO 32 (.nilchk 31),
fA 33 30 (some 6) 32,
mV 4 33] [4])
.ret)))
def zeP : AFun:=⟨2,[.t 4],P_q06o,false,false⟩
def z6G (C : Hd) (gl : GL) (v0 v1 : AV) (h : Heap) (x : Esc) (K : KT) : Prop:=
 pK (oBin .eql v1 (AI 1)) fun t1=>
 z0l t1 (pK (oNil v0) fun t2=>
 pK (z0e 0 (some 6) t2) fun t3=>
 K .ret ⟨[(4,t3)],h,x⟩)
 (pK (oBin .eql v1 (AI 2)) fun t4=>
 z0l t4 (pK (oNil v0) fun t5=>
 pK (z0e 6 (some 6) t5) fun t6=>
 K .ret ⟨[(4,t6)],h,x⟩)
 (pK (oBin .eql v1 (AI 3)) fun t7=>
 z0l t7 (pK (oNil v0) fun t8=>
 pK (z0e 12 (some 6) t8) fun t9=>
 K .ret ⟨[(4,t9)],h,x⟩)
 (pK (oBin .eql v1 (AI 4)) fun t10=>
 z0l t10 (pK (oNil v0) fun t11=>
 pK (z0e 18 (some 6) t11) fun t12=>
 K .ret ⟨[(4,t12)],h,x⟩)
 (pK (oBin .eql v1 (AI 5)) fun t13=>
 z0l t13 (pK (oNil v0) fun t14=>
 pK (z0e 24 (some 6) t14) fun t15=>
 K .ret ⟨[(4,t15)],h,x⟩)
 (pK (oNil v0) fun t16=>
 pK (z0e 30 (some 6) t16) fun t17=>
 K .ret ⟨[(4,t17)],h,x⟩)))))
theorem e_q06o {C gl v0 v1 h x K} : NW C gl zeP.body ⟨enter [v0,v1],h,x⟩ K = z6G C gl v0 v1 h x K:=by kernel_rfl
def z2v : ACode:=.pr [0,4,35,36] (.seq (rg [bN 37 .lss 36 35] [0,4,35,36,37])
(.seq (.cond 37 .skip
(.exit 1))
(.seq (.block 2 (rg [mV 38 0,
cL 39 z3Y [38,(.c (.p (.int .u8 48))),(.c (.p (.int .u8 48))),(.c (.p (.int .u8 120)))]] [0,4,35,36]))
(rg [bN 40 .add 36 (cI 1),
mV 36 40] [0,4,35,36]))))
def zc2 (C : Hd) (gl : GL) (v0 v4 v35 v36 : AV) (h : Heap) (x : Esc) (K : KT) : Prop:=
 pK (oBin .lss v36 v35) fun t1=>
 z0l t1 (C z3Y [v0,(.p (.int .u8 48)),(.p (.int .u8 48)),(.p (.int .u8 120))] h fun t2 h3 y4=>
 pK (oBin .add v36 (AI 1)) fun t5=>
 K .normal ⟨[(0,v0),(4,v4),(35,v35),(36,t5)],h3,(y4 ++ x)⟩)
 (K (.exit 1) ⟨[(0,v0),(4,v4),(35,v35),(36,v36),(37,t1)],h,x⟩)
theorem zlP {C gl e h x K} : NW C gl z2v ⟨e,h,x⟩ K = zc2 C gl (aget e 0) (aget e 4) (aget e 35) (aget e 36) h x K:=by kernel_rfl
theorem znf {C gl e h x K} : NW C gl (.loop z2v) ⟨e,h,x⟩ K = z1z C gl z2v K [(0,aget e 0),(4,aget e 4),(35,aget e 35),(36,aget e 36)] h x:=z1h
def z4l : ACode:=.pr [0,4] (.seq (dr [dF (mV 41 0) [0],
dF (mV 42 0) [0],
dF (uO 43 (.nilchk 42)) [42],
dF (fA 44 40 none 43) [43],
dF (lD 45 none 44) [44],
dF (mV 46 0) [0],
dF (uO 47 (.nilchk 46)) [46],
dF (fA 48 36 none 47) [47],
dF (lD 49 none 48) [48],
dF (uO 50 (.bsl false none 1 (.int .i64 0) [(0,49)])) [49],
dT (uO 51 (.app none 45 50)) [45,50],
dF (uO 52 (.nilchk 41)) [41],
dF (fA 53 40 none 52) [52],
dT (wO (.store none 53 51)) [53,51]] [0,4])
(rg [mV 54 0,
mV 55 0,
uO 56 (.nilchk 55),
fA 57 41 none 56,
lD 58 none 57,
mV 59 4,
uO 60 (.bsl false none 1 (.int .i64 0) [(0,59)]),
uO 61 (.app none 58 60),
uO 62 (.nilchk 54),
fA 63 41 none 62,
wO (.store none 63 61)] []))
def z3R (C : Hd) (gl : GL) (v0 v4 : AV) (h : Heap) (x : Esc) (K : KT) : Prop:=
 pK (oNil v0) fun t1=>
 pK (z0e 40 none t1) fun t2=>
 pK (z0g none t2 h) fun t3=>
 pK (oNil v0) fun t4=>
 pK (z0e 36 none t4) fun t5=>
 pK (z0g none t5 h) fun t6=>
 wK (oBsl false none 1 (.int .i64 0) [(0,t6)] h) fun t7 h8 y9=>
 (h8 = h ∧ y9 = []) ∧ (wK (oApp none t3 t7 h8) fun t10 h11 y12=>
 pK (oNil v0) fun t13=>
 pK (z0e 40 none t13) fun t14=>
 wK (z0n none t14 t10 h11) fun t15 h16 y17=>
 pK (oNil v0) fun t18=>
 pK (z0e 41 none t18) fun t19=>
 pK (z0g none t19 h16) fun t20=>
 wK (oBsl false none 1 (.int .i64 0) [(0,v4)] h16) fun t21 h22 y23=>
 wK (oApp none t20 t21 h22) fun t24 h25 y26=>
 pK (oNil v0) fun t27=>
 pK (z0e 41 none t27) fun t28=>
 wK (z0n none t28 t24 h25) fun t29 h30 y31=>
 K .normal ⟨[],h30,(y31 ++ (y26 ++ (y23 ++ (y17 ++ (y12 ++ (y9 ++ x))))))⟩)
theorem zlQ {C gl e h x K} : NW C gl z4l ⟨e,h,x⟩ K = z3R C gl (aget e 0) (aget e 4) h x K:=by kernel_rfl
def ztc (q1 q2 : ACode) : ACode:=(.seq (rg [uO 3 (.box 1)] [0,3])
(.seq (rg [mV 4 (cI 0)] [0,3,4])
(.seq (.block 0 (.seq (rg [fA 10 0 none 3,
lD 11 none 10,
cL 12 z5y [11],
mV 9 12] [0,3,4,9])
(.cond 9 (dr [dF (mV 13 0) [0],
dF (uO 14 (.nilchk 13)) [13],
dF (fA 15 0 (some 36) 14) [14],
dF (fA 16 0 none 3) [3],
dF (lD 17 none 16) [16],
dT (cL 18 z52 [15,17]) [15,17],
dA (lD 19 (some 6) 3) [3] false [5] [],
dF (uO 20 (.nilchk 18)) [18],
dT (wO (.store (some 6) 20 19)) [20,19]] [0,4])
(.seq (rg [fA 22 0 none 3,
lD 23 none 22,
cL 24 z3X [23],
mV 21 24] [0,3,4,21])
(.cond 21 (rg [mV 25 0,
lD 26 (some 6) 3,
cL 27 z5z [25,26],
mV 4 27] [0,4])
(.seq (rg [fA 29 0 none 3,
lD 30 none 29,
bN 31 .eql 30 (cI 9),
mV 28 31] [0,3,4,28])
(.cond 28 (.seq (rg [mV 32 0,
cL 33 z2Y [32,(cI 1)]] [0,3,4])
(.seq (rg [fA 34 2 none 3,
lD 35 none 34,
mV 36 (cI 0)] [0,4,35,36])
(.block 1 (.loop q1))))
(rg [mV 5 0,
fA 6 1 none 3,
lD 7 none 6,
cL 8 z2Y [5,7]] [0,4]))))))))
q2)))
def zeM : AFun:=⟨2,[],ztc z2v z4l,false,false⟩
def z2T (C : Hd) (gl : GL) (q1 q2 : ACode) (v0 v1 : AV) (h : Heap) (x : Esc) (K : KT) : Prop:=
 wK (oBox v1 h) fun t1 h2 y3=>
 pK (z0e 0 none t1) fun t4=>
 pK (z0g none t4 h2) fun t5=>
 C z5y [t5] h2 fun t6 h7 y8=>
 z0l t6 (pK (oNil v0) fun t9=>
 pK (z0e 0 (some 36) t9) fun t10=>
 pK (z0e 0 none t1) fun t11=>
 pK (z0g none t11 h7) fun t12=>
 z1p C z52 [t10,t12] h7 fun t13 h14 y15=>
 pK (z0g (some 6) t1 h14) fun t16=>
 (pK (z0g (some 6) t1 h7) fun v=>(fun u (g1 : Heap) (y1 : Esc)=>u = t16 ∧ g1 = h7 ∧ y1 = []) v h7 []) ∧ (pK (oNil t13) fun t17=>
 wK (z0n (some 6) t17 t16 h14) fun t18 h19 y20=>
 NW C gl q2 ⟨[(0,v0),(4,(AI 0))],h19,(y20 ++ (y15 ++ (y8 ++ (y3 ++ x))))⟩ K))
 (pK (z0e 0 none t1) fun t21=>
 pK (z0g none t21 h7) fun t22=>
 C z3X [t22] h7 fun t23 h24 y25=>
 z0l t23 (pK (z0g (some 6) t1 h24) fun t26=>
 C z5z [v0,t26] h24 fun t27 h28 y29=>
 NW C gl q2 ⟨[(0,v0),(4,t27)],h28,(y29 ++ (y25 ++ (y8 ++ (y3 ++ x))))⟩ K)
 (pK (z0e 0 none t1) fun t30=>
 pK (z0g none t30 h24) fun t31=>
 pK (oBin .eql t31 (AI 9)) fun t32=>
 z0l t32 (C z2Y [v0,(AI 1)] h24 fun t33 h34 y35=>
 pK (z0e 2 none t1) fun t36=>
 pK (z0g none t36 h34) fun t37=>
 NW C gl (.loop q1) ⟨[(0,v0),(4,(AI 0)),(35,t37),(36,(AI 0))],h34,(y35 ++ (y25 ++ (y8 ++ (y3 ++ x))))⟩ (z02 1 (z02 0 (seqN C gl q2 K))))
 (pK (z0e 1 none t1) fun t38=>
 pK (z0g none t38 h24) fun t39=>
 C z2Y [v0,t39] h24 fun t40 h41 y42=>
 NW C gl q2 ⟨[(0,v0),(4,(AI 0))],h41,(y42 ++ (y25 ++ (y8 ++ (y3 ++ x))))⟩ K)))
theorem E_q06l {C gl q1 q2 v0 v1 h x K} : NW C gl (ztc q1 q2) ⟨enter [v0,v1],h,x⟩ K = z2T C gl q1 q2 v0 v1 h x K:=by kernel_rfl
theorem e_q06l {C gl v0 v1 h x K} : NW C gl zeM.body ⟨enter [v0,v1],h,x⟩ K = z2T C gl z2v z4l v0 v1 h x K:=E_q06l
def z2Z : ACode:=.pr [5,6,7] (.seq (rg [bN 8 .lss 7 6] [5,6,7,8])
(.seq (.cond 8 .skip
(.exit 0))
(.seq (.block 1 (.seq (rg [iA 9 none 5 7,
lD 10 none 9,
mV 4 10] [4,5,6,7])
(.seq (rg [mV 11 4,
bN 12 .neq 11 (cI 0)] [4,5,6,7,12])
(.cond 12 (.seq (rg [mV 13 4,
mV 2 13] [2])
.ret)
.skip))))
(rg [bN 14 .add 7 (cI 1),
mV 7 14] [5,6,7]))))
def zb6 (C : Hd) (gl : GL) (v5 v6 v7 : AV) (h : Heap) (x : Esc) (K : KT) : Prop:=
 pK (oBin .lss v7 v6) fun t1=>
 z0l t1 (pK (z0E none v5 v7 h) fun t2=>
 pK (z0g none t2 h) fun t3=>
 pK (oBin .neq t3 (AI 0)) fun t4=>
 z0l t4 (K .ret ⟨[(2,t3)],h,x⟩)
 (pK (oBin .add v7 (AI 1)) fun t5=>
 K .normal ⟨[(5,v5),(6,v6),(7,t5)],h,x⟩))
 (K (.exit 0) ⟨[(5,v5),(6,v6),(7,v7),(8,t1)],h,x⟩)
theorem zkI {C gl e h x K} : NW C gl z2Z ⟨e,h,x⟩ K = zb6 C gl (aget e 5) (aget e 6) (aget e 7) h x K:=by kernel_rfl
theorem zmI {C gl e h x K} : NW C gl (.loop z2Z) ⟨e,h,x⟩ K = z1z C gl z2Z K [(5,aget e 5),(6,aget e 6),(7,aget e 7)] h x:=z1h
def z57 : ACode:=.pr [] (.seq (rg [mV 2 (cI 0)] [2])
.ret)
def zb7 (C : Hd) (gl : GL) (h : Heap) (x : Esc) (K : KT) : Prop:=
 K .ret ⟨[(2,(AI 0))],h,x⟩
theorem zkJ {C gl e h x K} : NW C gl z57 ⟨e,h,x⟩ K = zb7 C gl h x K:=by kernel_rfl
def zsC (q1 q2 : ACode) : ACode:=(.seq (rg [mV 2 (cI 0)] [0])
(.seq (.seq (rg [mV 5 0,
lN 6 5,
mV 7 (cI 0)] [5,6,7])
(.block 0 (.loop q1)))
q2))
def ze7 : AFun:=⟨1,[.t 2],zsC z2Z z57,false,false⟩
def zfa (C : Hd) (gl : GL) (q1 q2 : ACode) (v0 : AV) (h : Heap) (x : Esc) (K : KT) : Prop:=
 pK (oLen v0) fun t1=>
 NW C gl (.loop q1) ⟨[(5,v0),(6,t1),(7,(AI 0))],h,x⟩ (z02 0 (seqN C gl q2 K))
theorem E_q002 {C gl q1 q2 v0 h x K} : NW C gl (zsC q1 q2) ⟨enter [v0],h,x⟩ K = zfa C gl q1 q2 v0 h x K:=by kernel_rfl
theorem e_q002 {C gl v0 h x K} : NW C gl ze7.body ⟨enter [v0],h,x⟩ K = zfa C gl z2Z z57 v0 h x K:=E_q002
def P_q06p : ACode:=(.seq (rg [mV 2 (.c (.nilp))] [0])
(.seq (rg [uO 3 (.alloc [.p (.bool false)]),
wO (.store none 3 cT)] [0,3])
(.seq (rg [mV 4 0,
cL 5 z2B [4,3],
mV 2 5] [2])
.ret)))
def zjA : AFun:=⟨1,[.t 2],P_q06p,false,false⟩
def zk4 (C : Hd) (gl : GL) (v0 : AV) (h : Heap) (x : Esc) (K : KT) : Prop:=
 alK [.p (.bool false)] h fun t1 h2 y3=>
 wK (z0n none t1 (AB true) h2) fun t4 h5 y6=>
 C z2B [v0,t1] h5 fun t7 h8 y9=>
 K .ret ⟨[(2,t7)],h8,(y9 ++ (y6 ++ (y3 ++ x)))⟩
theorem e_q06p {C gl v0 h x K} : NW C gl zjA.body ⟨enter [v0],h,x⟩ K = zk4 C gl v0 h x K:=by kernel_rfl
def z3m : ACode:=.pr [0,1,12,13] (.seq (rg [bN 14 .lss 13 12] [0,1,12,13,14])
(.seq (.cond 14 .skip
(.exit 0))
(.seq (.block 1 (.seq (rg [mV 15 13,
mV 5 15] [0,1,5,12,13])
(.seq (dr [dF (mV 16 0) [0],
dF (mV 17 5) [5],
dF (iA 18 none 16 17) [16,17],
dF (lD 19 none 18) [18],
dF (mV 20 1) [1],
dF (mV 21 5) [5],
dF (iA 22 none 20 21) [20,21],
dF (lD 23 none 22) [22],
dF (bN 24 .neq 19 23) [19,23]] [0,1,12,13,24])
(.cond 24 (.seq (rg [mV 4 cF] [4])
.ret)
.skip))))
(rg [bN 25 .add 13 (cI 1),
mV 13 25] [0,1,12,13]))))
def zce (C : Hd) (gl : GL) (v0 v1 v12 v13 : AV) (h : Heap) (x : Esc) (K : KT) : Prop:=
 pK (oBin .lss v13 v12) fun t1=>
 z0l t1 (pK (z0E none v0 v13 h) fun t2=>
 pK (z0g none t2 h) fun t3=>
 pK (z0E none v1 v13 h) fun t4=>
 pK (z0g none t4 h) fun t5=>
 pK (oBin .neq t3 t5) fun t6=>
 z0l t6 (K .ret ⟨[(4,(AB false))],h,x⟩)
 (pK (oBin .add v13 (AI 1)) fun t7=>
 K .normal ⟨[(0,v0),(1,v1),(12,v12),(13,t7)],h,x⟩))
 (K (.exit 0) ⟨[(0,v0),(1,v1),(12,v12),(13,v13),(14,t1)],h,x⟩)
theorem zl0 {C gl e h x K} : NW C gl z3m ⟨e,h,x⟩ K = zce C gl (aget e 0) (aget e 1) (aget e 12) (aget e 13) h x K:=by kernel_rfl
theorem zmX {C gl e h x K} : NW C gl (.loop z3m) ⟨e,h,x⟩ K = z1z C gl z3m K [(0,aget e 0),(1,aget e 1),(12,aget e 12),(13,aget e 13)] h x:=z1h
def z5Q : ACode:=.pr [] (.seq (rg [mV 4 cT] [4])
.ret)
def zcf (C : Hd) (gl : GL) (h : Heap) (x : Esc) (K : KT) : Prop:=
 K .ret ⟨[(4,(AB true))],h,x⟩
theorem zl1 {C gl e h x K} : NW C gl z5Q ⟨e,h,x⟩ K = zcf C gl h x K:=by kernel_rfl
def zsT (q1 q2 : ACode) : ACode:=(.seq (rg [mV 4 cF] [0,1])
(.seq (.seq (rg [mV 6 0,
lN 7 6,
mV 8 1,
lN 9 8,
bN 10 .neq 7 9] [0,1,10])
(.cond 10 (.seq (rg [mV 4 cF] [4])
.ret)
.skip))
(.seq (.seq (rg [mV 11 0,
lN 12 11,
mV 13 (cI 0)] [0,1,12,13])
(.block 0 (.loop q1)))
q2)))
def zeB : AFun:=⟨2,[.t 4],zsT z3m z5Q,false,false⟩
def zcd (C : Hd) (gl : GL) (q1 q2 : ACode) (v0 v1 : AV) (h : Heap) (x : Esc) (K : KT) : Prop:=
 pK (oLen v0) fun t1=>
 pK (oLen v1) fun t2=>
 pK (oBin .neq t1 t2) fun t3=>
 z0l t3 (K .ret ⟨[(4,(AB false))],h,x⟩)
 (pK (oLen v0) fun t4=>
 NW C gl (.loop q1) ⟨[(0,v0),(1,v1),(12,t4),(13,(AI 0))],h,x⟩ (z02 0 (seqN C gl q2 K)))
theorem E_q040 {C gl q1 q2 v0 v1 h x K} : NW C gl (zsT q1 q2) ⟨enter [v0,v1],h,x⟩ K = zcd C gl q1 q2 v0 v1 h x K:=by kernel_rfl
theorem e_q040 {C gl v0 v1 h x K} : NW C gl zeB.body ⟨enter [v0,v1],h,x⟩ K = zcd C gl z3m z5Q v0 v1 h x K:=E_q040
end Go.Am
end
