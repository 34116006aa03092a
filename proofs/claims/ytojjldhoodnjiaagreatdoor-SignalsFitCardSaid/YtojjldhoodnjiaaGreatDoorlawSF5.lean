/- Texts of the proof, laid together: Am30, Am31, AmX, AmS, CodesA. -/
import GoSem.Extern.Table
import Derived.Laws.World
import Derived.KernelRfl
import Derived.Test.YtojjldhoodnjiaaGreatDoorlawSF4
set_option linter.all false
section
/- The abstract machine,part 30: the meaning of code in the new spelling,and that it is the old one. -/
set_option linter.unusedSimpArgs false
set_option linter.unusedVariables false
namespace Go.Am
def gV (v : AV) (b : Bool) (h : Heap) (A : (AV → Heap → Esc → Prop) → Prop) (k : AV → Heap → Esc → Prop) : Prop:=z2P v b (A k) (k .skp h [])
def gP (v : AV) (b : Bool) (o : Option AV) (h : Heap) (k : AV → Heap → Esc → Prop) : Prop:=gV v b h (fun k=>pK o fun u=>k u h []) k
def gM (v : AV) (b : Bool) (u : AV) (h : Heap) (k : AV → Heap → Esc → Prop) : Prop:=gV v b h (fun k=>k u h []) k
def upB (b : Bool) : Bool:=(fun (_ : AV → Bool → Option AV → Heap → (AV → Heap → Esc → Prop) → Prop)=>b) gP
def gK (g : Option (Nat × Bool)) (e : List (Nat × AV)) (h : Heap) (A : (AV → Heap → Esc → Prop) → Prop) (k : AV → Heap → Esc → Prop) : Prop:=match g with
 | none=>A k
 | some (t,b)=>gV (aget e t) b h A k
def opC (C : Hd) (o : AO) (ev : Opd → AV) (h : Heap) (k : AV → Heap → Esc → Prop) : Prop:=match o with
 | .call f args=>C f (ev1 ev args) h k
 | .callv f args=>z8O C (ev f) (ev1 ev args) h k
 | .mnext sh xs=>match z4L h sh (ev1 ev xs) with
  | some l=>l ≠ [] ∧ ∀ y ∈ l,k y.1 y.2 []
  | none=>False
 | o=>opN o ev h k
def NReg (C : Hd) (gl : Nat → Option PV) : List AOp → List (Nat × AV) → Heap → Esc → (List (Nat × AV) → Heap → Esc → Prop) → Prop
 | [],e,h,x,L=>L e h x
 | o :: r,e,h,x,L=>gK o.guard e h (opC C o.op (Opd.ev gl e) h) fun v h' x'=>NReg C gl r (put o.dst v e) h' (x' ++ x) L
variable {C : Hd} {gl : Nat → Option PV}
theorem zfk {o : AO} {d : Option Nat} {r : List AOp} {e : List (Nat × AV)} {h : Heap} {x : Esc} {L : List (Nat × AV) → Heap → Esc → Prop} :
 AReg C gl (⟨d,none,o⟩ :: r) e h x L = opC C o (Opd.ev gl e) h (z0O C gl r d e x L):=by
 cases hp : o.plain with
 | true=>
  rw [z0u hp,zms hp]
  cases o <;> first | rfl | cases hp
 | false=>
  cases o <;> first | (cases hp; done) | skip
  all_goals first
   | (rw [za9,z5i]; rfl)
   | (rw [z6N,z5i]; rfl)
   | (unfold AReg opC; simp only [wanted,z5i]; rfl)
theorem zhQ : ∀ (ops : List AOp) (e : List (Nat × AV)) (h : Heap) (x : Esc) (L : List (Nat × AV) → Heap → Esc → Prop),AReg C gl ops e h x L = NReg C gl ops e h x L
 | [],e,h,x,L=>rfl
 | ⟨d,g,o⟩ :: r,e,h,x,L=>by
  have ih : (fun (v : AV) (h' : Heap) (x' : Esc)=>NReg C gl r (put d v e) h' (x' ++ x) L) = z0O C gl r d e x L:=by
   funext v h' x'; rw [← zhQ r]; rfl
  show _ = gK g e h (opC C o (Opd.ev gl e) h) fun v h' x'=>NReg C gl r (put d v e) h' (x' ++ x) L
  rw [ih]
  cases g with
  | none=>exact zfk
  | some tb=>
   obtain ⟨t,b⟩:=tb
   rw [z8F,zfk]; rfl
def opE (C : Hd) (o : AO) (ev : Opd → AV) (h : Heap) (k : AV → Heap → Esc → Prop) : Prop:=match o with
 | .call f args=>z1L C f (ev1 ev args) h k
 | .callv f args=>z8N C (ev f) (ev1 ev args) h k
 | .mnext _ _=>False
 | o=>opN o ev h k
def effN (still eff : Bool) (h h' : Heap) (y : Esc) (Q : Prop) : Prop:=match upB eff with
 | true=>Q
 | false=>match still with
  | true=>Q
  | false=>(h' = h ∧ y = []) ∧ Q
def zvv (C : Hd) (gl : Nat → Option PV) (q : AOp × List (Nat × AV) × AV) (g : Heap) : Prop:=
 gK q.1.guard q.2.1 g (opE C q.1.op (Opd.ev gl q.2.1) g) fun v1 h1 x1=>v1 = q.2.2 ∧ h1 = g ∧ x1 = []
def z6r (C : Hd) (gl : Nat → Option PV) (h : Heap) (dn : Done) (Q : Prop) : List Nat → Prop
 | []=>Q
 | j :: r=>(match dn[j]? with | some q=>zvv C gl q h | none=>False) ∧ z6r C gl h dn Q r
def z6y (C : Hd) (gl : Nat → Option PV) (o : AOp) (e : List (Nat × AV)) (v : AV) (hs : List Heap) (Q : Prop) : List Nat → Prop
 | []=>Q
 | k :: r=>(match hs[k]? with | some g=>zvv C gl (o,e,v) g | none=>False) ∧ z6y C gl o e v hs Q r
def zgm (C : Hd) (gl : Nat → Option PV) : List DOp → Done → List Heap → List (Nat × AV) → Heap → Esc → (List (Nat × AV) → Heap → Esc → Prop) → Prop
 | [],_,_,e,h,x,L=>L e h x
 | o :: r,dn,hs,e,h,x,L=>gK o.op.guard (z0A (some o.rd) e) h (opE C o.op.op (Opd.ev gl (z0A (some o.rd) e)) h) fun v h' y=>
  effN o.op.op.still o.eff h h' y (z6y C gl o.op (z0A (some o.rd) e) v hs (z6r C gl h' dn (zgm C gl r (dn ++ [(o.op,z0A (some o.rd) e,v)]) (hs ++ [h]) (put o.op.dst v e) h' (y ++ x) L) o.again) o.early)
theorem zmr {o : AO} {d : Option Nat} {e : List (Nat × AV)} {h : Heap} {R : AV → Heap → Esc → Prop} : doK C gl ⟨d,none,o⟩ e h R = opE C o (Opd.ev gl e) h R:=by
 cases hp : o.plain with
 | true=>
  rw [z09 hp,zms hp]
  cases o <;> first | rfl | cases hp
 | false=>
  cases o <;> first | (cases hp; done) | skip
  all_goals first
   | (rw [zeD,z5i]; rfl)
   | (rw [z8V,z5i]; rfl)
   | (unfold doK ADo opE; simp [wanted])
theorem zts {o : AOp} {e : List (Nat × AV)} {h : Heap} {R : AV → Heap → Esc → Prop} : doK C gl o e h R = gK o.guard e h (opE C o.op (Opd.ev gl e) h) R:=by
 obtain ⟨d,g,op⟩:=o
 cases g with
 | none=>exact zmr
 | some tb=>
  obtain ⟨t,b⟩:=tb
  rw [zbW,zmr]; rfl
theorem zfB {q : AOp × List (Nat × AV) × AV} {g : Heap} : doS C gl q g = zvv C gl q g:=by
 obtain ⟨⟨d,gd,op⟩,e,v⟩:=q
 rw [zsu,zts]; rfl
theorem zaQ {h : Heap} {dn : Done} {Q : Prop} : ∀ {l : List Nat},z6r C gl h dn Q l = (agK C gl h dn l ∧ Q)
 | []=>by simp [z6r,agK]
 | j :: r=>by
  unfold z6r agK
  rw [zaQ (l:=r)]
  cases dn[j]? with
  | none=>simp
  | some q=>simp only [zfB,and_assoc]
theorem zbY {o : AOp} {e : List (Nat × AV)} {v : AV} {hs : List Heap} {Q : Prop} : ∀ {l : List Nat},z6y C gl o e v hs Q l = (eaK C gl o e v hs l ∧ Q)
 | []=>by simp [z6y,eaK]
 | j :: r=>by
  unfold z6y eaK
  rw [zbY (l:=r)]
  cases hs[j]? with
  | none=>simp
  | some q=>simp only [zfB,and_assoc]
theorem zjR {o : AOp} (hs : o.op.still = true) {e : List (Nat × AV)} {h : Heap} {R : AV → Heap → Esc → Prop} : doK C gl o e h (fun v h' y=>(h' = h ∧ y = []) ∧ R v h' y) = doK C gl o e h R:=by
 unfold doK
 refine propext ⟨fun ⟨v,h',y,H,_,r⟩=>⟨v,h',y,H,r⟩,fun ⟨v,h',y,H,r⟩=>⟨v,h',y,H,zhp hs H,r⟩⟩
theorem zdK : ∀ (ds : List DOp) (dn : Done) (hs : List Heap) (e : List (Nat × AV)) (h : Heap) (x : Esc) (L : List (Nat × AV) → Heap → Esc → Prop),z2g C gl ds dn hs e h x L = zgm C gl ds dn hs e h x L
 | [],dn,hs,e,h,x,L=>rfl
 | ⟨o,rd,eff,early,again⟩ :: r,dn,hs,e,h,x,L=>by
  rw [z8C]
  show _ = gK o.guard (z0A (some rd) e) h (opE C o.op (Opd.ev gl (z0A (some rd) e)) h) fun v h' y=>
   effN o.op.still eff h h' y (z6y C gl o (z0A (some rd) e) v hs (z6r C gl h' dn (zgm C gl r (dn ++ [(o,z0A (some rd) e,v)]) (hs ++ [h]) (put o.dst v e) h' (y ++ x) L) again) early)
  rw [← zts]
  have e1 : zqj C gl ⟨o,rd,eff,early,again⟩ r dn hs e h x L = fun v h' y=>(effK eff h h' y ∧ z6y C gl o (z0A (some rd) e) v hs (z6r C gl h' dn (zgm C gl r (dn ++ [(o,z0A (some rd) e,v)]) (hs ++ [h]) (put o.dst v e) h' (y ++ x) L) again) early):=by
   funext v h' y
   rw [zbX,zbY,zaQ,← zdK r]
  rw [e1]
  cases eff with
  | true=>
   congr 1; funext v h' y
   simp [effK,effN,upB]
  | false=>
   cases hs' : o.op.still with
   | true=>
    have:=zjR (C:=C) (gl:=gl) (o:=o) hs' (e:=z0A (some rd) e) (h:=h) (R:=fun v h' y=>z6y C gl o (z0A (some rd) e) v hs (z6r C gl h' dn (zgm C gl r (dn ++ [(o,z0A (some rd) e,v)]) (hs ++ [h]) (put o.dst v e) h' (y ++ x) L) again) early)
    exact this
   | false=>rfl
def NW (C : Hd) (gl : Nat → Option PV) : ACode → St → (Ex → St → Prop) → Prop
 | .skip,s,K=>K .normal s
 | .reg ops keep,s,K=>NReg C gl ops s.env s.h s.esc fun e h x=>K .normal ⟨z0A keep e,h,x⟩
 | .draw ds keep,s,K=>zgm C gl ds [] [] s.env s.h s.esc fun e h x=>K .normal ⟨z0A keep e,h,x⟩
 | .seq a b,s,K=>NW C gl a s fun e s'=>match e with
  | .normal=>NW C gl b s' K
  | .exit i=>K (.exit i) s'
  | .ret=>K .ret s'
 | .cond c a b,s,K=>z0m (Opd.ev gl s.env c) (NW C gl a s K) (NW C gl b s K)
 | .condu c a b,s,K=>zjs (Opd.ev gl s.env c) (NW C gl a s K) (NW C gl b s K)
 | .det b,s,K=>NW C gl b s K
 | .block id b,s,K=>NW C gl b s fun e s'=>match e with
  | .normal=>K .normal s'
  | .exit i=>bif Nat.beq i id then K .normal s' else K (.exit i) s'
  | .ret=>K .ret s'
 | .loop b,s,K=>ALoop (NW C gl b) K s
 | .scope b,s,K=>NW C gl b ⟨s.env,s.h,[]⟩ fun e s'=>K e (z8B s.h.length s.esc s')
 | .pr l b,s,K=>NW C gl b ⟨z0A (some l) s.env,s.h,s.esc⟩ K
 | .exit id,s,K=>K (.exit id) s
 | .ret,s,K=>K .ret s
 | .bad,_,_=>False
theorem z4X : ∀ (c : ACode) (s : St) (K : Ex → St → Prop),AW C gl c s K = NW C gl c s K
 | .skip,s,K=>rfl
 | .reg ops keep,s,K=>zhQ _ _ _ _ _
 | .draw ds keep,s,K=>zdK _ _ _ _ _ _ _
 | .seq a b,s,K=>by
  unfold AW NW
  rw [z4X a]
  congr 1; funext e s'
  cases e with
  | normal=>exact z4X b s' K
  | _=>rfl
 | .cond c a b,s,K=>by
  unfold AW NW z0m
  rw [← z4X a,← z4X b]
  rfl
 | .condu c a b,s,K=>by
  unfold AW NW zjs
  rw [← z4X a,← z4X b]
  rfl
 | .det b,s,K=>z4X b s K
 | .block id b,s,K=>by
  unfold AW NW
  rw [z4X b]
  congr 1; funext e s'
  cases e with
  | exit i=>
   dsimp only
   by_cases hi : i = id
   ·subst hi; simp
   ·rw [if_neg hi]
    have : Nat.beq i id = false:=by cases h : Nat.beq i id with | false=>rfl | true=>exact absurd (Nat.eq_of_beq_eq_true h) hi
    rw [this]; rfl
  | _=>rfl
 | .loop b,s,K=>by
  show ALoop (AW C gl b) K s = ALoop (NW C gl b) K s
  rw [show AW C gl b = NW C gl b from funext fun s=>funext fun K=>z4X b s K]
 | .scope b,s,K=>z4X b _ _
 | .pr l b,s,K=>z4X b _ _
 | .exit id,s,K=>rfl
 | .ret,s,K=>rfl
 | .bad,s,K=>rfl
end Go.Am
end
section
/- The abstract machine,part 31: words in which a function's code is printed,and the rules of computing over them. -/
set_option linter.unusedSimpArgs false
set_option linter.unusedVariables false
namespace Go.Am
variable {C : Hd} {gl : Nat → Option PV} {e : List (Nat × AV)} {h : Heap} {x : Esc} {K : Ex → St → Prop} {s : St}
abbrev AI (n : Int) : AV:=.p (.int .i64 n)
abbrev AB (b : Bool) : AV:=.p (.bool b)
def seqN (C : Hd) (gl : Nat → Option PV) (b : ACode) (K : Ex → St → Prop) (e : Ex) (s : St) : Prop:=match e with
 | .normal=>NW C gl b s K
 | .exit i=>K (.exit i) s
 | .ret=>K .ret s
def z05 (id : Nat) (K : Ex → St → Prop) (e : Ex) (s : St) : Prop:=match e with
 | .normal=>K .normal s
 | .exit i=>bif Nat.beq i id then K .normal s else K (.exit i) s
 | .ret=>K .ret s
def nqK (sh : Option Sh) (l : List AV) (h : Heap) (k : AV → Heap → Esc → Prop) : Prop:=match z4L h sh l with
 | some l=>l ≠ [] ∧ ∀ y ∈ l,k y.1 y.2 []
 | none=>False
theorem z8x {b : ACode} : seqN C gl b K .normal s = NW C gl b s K:=(rfl)
theorem zcJ {b : ACode} {i : Nat} : seqN C gl b K (.exit i) s = K (.exit i) s:=(rfl)
theorem zfH {b : ACode} : seqN C gl b K .ret s = K .ret s:=(rfl)
theorem z5b {i : Nat} : z05 i K .normal s = K .normal s:=(rfl)
theorem z6V {i : Nat} : z05 i K (.exit i) s = K .normal s:=by simp [z05]
theorem zdi {i j : Nat} : z05 i K (.exit j) s = bif Nat.beq j i then K .normal s else K (.exit j) s:=(rfl)
theorem z8K {i : Nat} : z05 i K .ret s = K .ret s:=(rfl)
theorem zhd {b : ACode} {ex ex' : Ex} {s s' : St} (he : ex = ex') (hs : s = s') : seqN C gl b K ex s = seqN C gl b K ex' s':=by rw [he,hs]
theorem zaV {i : Nat} {ex ex' : Ex} {s s' : St} (he : ex = ex') (hs : s = s') : z05 i K ex s = z05 i K ex' s':=by rw [he,hs]
theorem zp4 {b : ACode} : NW C gl (.scope b) ⟨e,h,x⟩ K = NW C gl b ⟨e,h,[]⟩ (zcG h.length x K):=(rfl)
theorem zp3 {c : ACode} {s s' : St} (hs : s = s') : NW C gl c s K = NW C gl c s' K:=by rw [hs]
def z14 (C : Hd) (gl : Nat → Option PV) (b : ACode) (K : Ex → St → Prop) (e : List (Nat × AV)) (h : Heap) (x : Esc) : Prop:=ALoop (NW C gl b) K ⟨e,h,x⟩
theorem z13 {l : List Nat} {b : ACode} : NW C gl (.loop (.pr l b)) ⟨e,h,x⟩ K = z14 C gl (.pr l b) K (z0A (some l) e) h x:=by
 show ALoop _ _ _ = ALoop _ _ _
 exact z4n (funext fun R=>by show NW C gl b _ R = NW C gl b _ R; dsimp only; rw [z3z])
theorem z1Q {l : List Nat} {b : ACode} : NW C gl (.loop (.scope (.pr l b))) ⟨e,h,x⟩ K = z14 C gl (.scope (.pr l b)) K (z0A (some l) e) h x:=by
 show ALoop _ _ _ = ALoop _ _ _
 exact z4n (funext fun R=>by show NW C gl b _ _ = NW C gl b _ _; dsimp only; rw [z3z])
theorem zdc {b : ACode} {e e' : List (Nat × AV)} {h h' : Heap} {x x' : Esc} (h1 : e = e') (h2 : h = h') (h3 : x = x') : z14 C gl b K e h x = z14 C gl b K e' h' x':=by rw [h1,h2,h3]
theorem z1m {σ : Type} {b : ACode} (S : σ → St) (P : σ → Prop) (m : σ → Nat) (t0 : σ) (hs : (⟨e,h,x⟩ : St) = S t0) (h0 : P t0) (hr : ∀ t,P t → NW C gl b (S t) (zgL S P m K t)) : z14 C gl b K e h x:=by
 show ALoop (NW C gl b) K _
 rw [hs]
 have key : ∀ n t,m t < n → P t → ALoop (NW C gl b) K (S t):=by
  intro n
  induction n with
  | zero=>intro t h; omega
  | succ n ih=>
   intro t hm hp
   refine .mk _ _ (hr t hp) (fun s' h'=>?_) (fun i s' h'=>h') (fun s' h'=>h')
   obtain ⟨u,rfl,hu,hlt⟩:=h'
   exact ih u (by omega) hu
 exact key _ t0 (Nat.lt_succ_self _) h0
theorem z0k {X : Ctx} {f : Nat} {F : AFun} {a asv : List AV} {h h1 : Heap} {P : Post} (hf : X.fn f = some F) (hr : F.byref = false) (hp : z00 h a = some (asv,h1)) (hl : asv.length = F.nparams) (hd : F.isDet = false:=by rfl) :
 z0d X f a h P = NW (z0d X) X.gl F.body ⟨enter asv,h1,[]⟩ (finR F.results F.keep h.length P):=by
 rw [zr8 hf hr hp hl hd,z4X]
theorem z6u {X : Ctx} {f : Nat} {F : AFun} {a asv : List AV} {h h1 : Heap} {P : Post} (hf : X.fn f = some F) (hr : F.byref = false) (hp : z00 h a = some (asv,h1)) (hl : asv.length = F.nparams) (hd : F.isDet = true:=by rfl) :
 z0d X f a h P = ∃ v h' x,P v h' x ∧ NW (z0d X) X.gl F.body ⟨enter asv,h1,[]⟩ (finR F.results F.keep h.length fun v1 h1 x1=>v1 = v ∧ h1 = h' ∧ x1 = x):=by
 rw [zcM hf hr hp hl hd]
 simp only [z4X]
theorem zel {X : Ctx} {f : Nat} {F : AFun} {asv : List AV} {h : Heap} {P : Post} (hf : X.fn f = some F) (hr : F.byref = true) (hl : asv.length = F.nparams) (hd : F.isDet = false:=by rfl) :
 z0d X f asv h P = NW (z0d X) X.gl F.body ⟨enter asv,h,[]⟩ (finR F.results F.keep h.length P):=by
 rw [zr7 hf hr hl hd,z4X]
theorem zmx {v : AV} {k : AV → Prop} : pK (some v) k = k v:=(rfl)
theorem zmw {k : AV → Prop} : pK none k = False:=(rfl)
theorem zpn {v : AV} {h : Heap} {x : Esc} {k : AV → Heap → Esc → Prop} : wK (some (v,h,x)) k = k v h x:=(rfl)
theorem zpm {k : AV → Heap → Esc → Prop} : wK none k = False:=(rfl)
theorem pK_ite {p : Prop} [Decidable p] {a b : Option AV} {k : AV → Prop} : pK (if p then a else b) k = if p then pK a k else pK b k:=by split <;> rfl
theorem wK_ite {p : Prop} [Decidable p] {a b : Option (AV × Heap × Esc)} {k : AV → Heap → Esc → Prop} : wK (if p then a else b) k = if p then wK a k else wK b k:=by split <;> rfl
theorem zqO {o o' : Option AV} {k : AV → Prop} (h : o = o') : pK o k = pK o' k:=by rw [h]
theorem zrL {o o' : Option (AV × Heap × Esc)} {k : AV → Heap → Esc → Prop} (h : o = o') : wK o k = wK o' k:=by rw [h]
theorem zqz {v v' : AV} {b : Bool} {h : Heap} {A : (AV → Heap → Esc → Prop) → Prop} {k : AV → Heap → Esc → Prop} (h1 : v = v') : gV v b h A k = gV v' b h A k:=by rw [h1]
theorem zqy {v v' : AV} {b : Bool} {o : Option AV} {h : Heap} {k : AV → Heap → Esc → Prop} (h1 : v = v') : gP v b o h k = gP v' b o h k:=by rw [h1]
theorem zqx {v v' : AV} {b : Bool} {u : AV} {h : Heap} {k : AV → Heap → Esc → Prop} (h1 : v = v') : gM v b u h k = gM v' b u h k:=by rw [h1]
section
variable {A : (AV → Heap → Esc → Prop) → Prop} {o : Option AV} {u : AV} {k : AV → Heap → Esc → Prop} {t b : Bool}
theorem gV_tt : gV (.p (.bool true)) true h A k = A k:=(rfl)
theorem gV_ff : gV (.p (.bool false)) false h A k = A k:=(rfl)
theorem gV_tf : gV (.p (.bool true)) false h A k = k .skp h []:=(rfl)
theorem gV_ft : gV (.p (.bool false)) true h A k = k .skp h []:=(rfl)
theorem ztv : gV .skp b h A k = k .skp h []:=(rfl)
theorem gV_any : gV (.p (.bool t)) b h A k = z2P (.p (.bool t)) b (A k) (k .skp h []):=(rfl)
theorem gP_tt : gP (.p (.bool true)) true o h k = pK o fun v=>k v h []:=(rfl)
theorem gP_ff : gP (.p (.bool false)) false o h k = pK o fun v=>k v h []:=(rfl)
theorem gP_tf : gP (.p (.bool true)) false o h k = k .skp h []:=(rfl)
theorem gP_ft : gP (.p (.bool false)) true o h k = k .skp h []:=(rfl)
theorem ztu : gP .skp b o h k = k .skp h []:=(rfl)
theorem gP_any : gP (.p (.bool t)) b o h k = z2P (.p (.bool t)) b (pK o fun v=>k v h []) (k .skp h []):=(rfl)
theorem gM_tt : gM (.p (.bool true)) true u h k = k u h []:=(rfl)
theorem gM_ff : gM (.p (.bool false)) false u h k = k u h []:=(rfl)
theorem gM_tf : gM (.p (.bool true)) false u h k = k .skp h []:=(rfl)
theorem gM_ft : gM (.p (.bool false)) true u h k = k .skp h []:=(rfl)
theorem ztt : gM .skp b u h k = k .skp h []:=(rfl)
theorem gM_any : gM (.p (.bool t)) b u h k = z2P (.p (.bool t)) b (k u h []) (k .skp h []):=(rfl)
end
section
variable {k k' : IntKind} {a b : Int} {sa sb : List UInt8}
theorem ztR : oBin .add (.p (.int k a)) (.p (.int k b)) = some (.p (.int k (k.wrap (a + b)))):=by simp [oBin,abin,aint]
theorem zue : oBin .sub (.p (.int k a)) (.p (.int k b)) = some (.p (.int k (k.wrap (a - b)))):=by simp [oBin,abin,aint]
theorem ztY : oBin .mul (.p (.int k a)) (.p (.int k b)) = some (.p (.int k (k.wrap (a * b)))):=by simp [oBin,abin,aint]
theorem zua : oBin .quo (.p (.int k a)) (.p (.int k b)) = if b = 0 then none else some (.p (.int k (k.wrap (a.tdiv b)))):=by simp [oBin,abin,aint] <;> split <;> rfl
theorem zub : oBin .rem (.p (.int k a)) (.p (.int k b)) = if b = 0 then none else some (.p (.int k (a.tmod b))):=by simp [oBin,abin,aint] <;> split <;> rfl
theorem ztS : oBin .and (.p (.int k a)) (.p (.int k b)) = some (.p (.int k (iand k a b))):=by simp [oBin,abin,aint]
theorem bin_or : oBin .or (.p (.int k a)) (.p (.int k b)) = some (.p (.int k (ior k a b))):=by simp [oBin,abin,aint]
theorem zuf : oBin .xor (.p (.int k a)) (.p (.int k b)) = some (.p (.int k (ixor k a b))):=by simp [oBin,abin,aint]
theorem zgt : oBin .andNot (.p (.int k a)) (.p (.int k b)) = some (.p (.int k (zgI k a b))):=by simp [oBin,abin,aint]
theorem ztT : oBin .eql (.p (.int k a)) (.p (.int k b)) = some (.p (.bool (decide (a = b)))):=by simp [oBin,abin,aint]
theorem ztZ : oBin .neq (.p (.int k a)) (.p (.int k b)) = some (.p (.bool (!decide (a = b)))):=by simp [oBin,abin,aint]
theorem ztX : oBin .lss (.p (.int k a)) (.p (.int k b)) = some (.p (.bool (decide (a < b)))):=by simp [oBin,abin,aint]
theorem ztW : oBin .leq (.p (.int k a)) (.p (.int k b)) = some (.p (.bool (decide (a ≤ b)))):=by simp [oBin,abin,aint]
theorem ztV : oBin .gtr (.p (.int k a)) (.p (.int k b)) = some (.p (.bool (decide (b < a)))):=by simp [oBin,abin,aint]
theorem ztU : oBin .geq (.p (.int k a)) (.p (.int k b)) = some (.p (.bool (decide (b ≤ a)))):=by simp [oBin,abin,aint]
theorem zuc : oBin .shl (.p (.int k a)) (.p (.int k' b)) = if b < 0 then none else some (.p (.int k (ishl k a b))):=by simp [oBin,abin] <;> split <;> rfl
theorem zud : oBin .shr (.p (.int k a)) (.p (.int k' b)) = if b < 0 then none else some (.p (.int k (ishr k a b))):=by simp [oBin,abin] <;> split <;> rfl
theorem zvA : oBin .add (.p (.str sa)) (.p (.str sb)) = if sa.length + sb.length ≤ z0z then some (.p (.str (sa ++ sb))) else none:=by simp [oBin,abin,astr] <;> split <;> rfl
theorem zvB : oBin .eql (.p (.str sa)) (.p (.str sb)) = some (.p (.bool (decide (sa = sb)))):=by simp [oBin,abin,astr]
theorem zvH : oBin .neq (.p (.str sa)) (.p (.str sb)) = some (.p (.bool (!decide (sa = sb)))):=by simp [oBin,abin,astr]
theorem zvG : oBin .lss (.p (.str sa)) (.p (.str sb)) = some (.p (.bool (Op.bytesLess sa sb))):=by simp [oBin,abin,astr]
theorem zvF : oBin .leq (.p (.str sa)) (.p (.str sb)) = some (.p (.bool (Op.bytesLess sa sb || decide (sa = sb)))):=by simp [oBin,abin,astr]
theorem zvE : oBin .gtr (.p (.str sa)) (.p (.str sb)) = some (.p (.bool (!(Op.bytesLess sa sb || decide (sa = sb))))):=by simp [oBin,abin,astr]
theorem zvC : oBin .geq (.p (.str sa)) (.p (.str sb)) = some (.p (.bool (!Op.bytesLess sa sb))):=by simp [oBin,abin,astr]
theorem un_neg : oUn .neg (.p (.int k a)) = some (.p (.int k (k.wrap (-a)))):=by simp [oUn,aun]
theorem un_not {t : Bool} : oUn .not (.p (.bool t)) = some (.p (.bool !t)):=(rfl)
theorem convI {k' : IntKind} : zcs k (.p (.int k' a)) = some (.p (.int k (k.wrap a))):=(rfl)
theorem nilref {i j : Nat} : oNil (.ref i j) = some (.ref i j):=(rfl)
theorem zuZ {i j m n : Nat} : oNil (.rref i j m n) = some (.rref i j m n):=(rfl)
theorem nilvp {v : PV} : oNil (.vp v) = some (.vp v):=(rfl)
theorem nilfn {f : Nat} {cs : List AV} : oNil (.fn f cs) = some (.fn f cs):=(rfl)
theorem pick_b {t : Bool} {u v : AV} : z18 (.p (.bool t)) u v = some (bif t then u else v):=(rfl)
theorem len_sl {sh : Sh} {xs : List PV} : oLen (.p (.sl sh xs)) = some (.p (.int .i64 xs.length)):=(rfl)
theorem zuK {sh : Sh} : oLen (.sl0 sh) = some (.p (.int .i64 0)):=(rfl)
theorem zuJ {i g o l : Nat} : oLen (.own i g o l) = some (.p (.int .i64 l)):=(rfl)
theorem lens_s : z1a (.p (.str sa)) = some (.p (.int .i64 sa.length)):=(rfl)
theorem ext_t {vs : List AV} {i : Nat} : oExt (.tup vs) i = vs[i]?:=(rfl)
theorem zlt {off i j : Nat} {sh : Sh} : z0e off sh (.ref i j) = some (.ref i (j + off)):=(rfl)
theorem zg6 {off i j m n : Nat} {sh : Sh} : z0e off sh (.rref i j m n) = some (.rref i j m (n + off)):=(rfl)
theorem zqs {off : Nat} {sh : Sh} {v : PV} : z0e off sh (.vp v) = (cutP sh off v).map .vp:=(rfl)
theorem zu3 {off : Nat} {sh : Sh} {cs : List PV} : z7M off sh (.p (.agg cs)) = (cutP sh off (.agg cs)).map .p:=(rfl)
theorem zu2 {off : Nat} {sh : Sh} {cs : List AV} : z7M off sh (.agg cs) = cut sh off cs:=(rfl)
def ldB (sh : Sh) (off : Nat) : Option Obj → Option AV
 | some (.box cs)=>cut sh off cs
 | _=>none
def ldR (sh : Sh) (g i off : Nat) : Option Obj → Option AV
 | some (.row _ xs _)=>if g = xs.length then ((xs[i]?).bind (cutP sh off)).map .p else none
 | _=>none
theorem zqD {sh : Sh} {i j : Nat} : z0g sh (.ref i j) h = ldB sh j h[i]?:=by unfold z0g ldB; rfl
theorem zme {sh : Sh} {i g m n : Nat} : z0g sh (.rref i g m n) h = ldR sh g m n h[i]?:=by unfold z0g ldR; rfl
theorem zmf {sh : Sh} {v : PV} : z0g sh (.vp v) h = (cutP sh 0 v).map .p:=(rfl)
theorem zuF {sh : Sh} {off : Nat} {cs : List AV} : ldB sh off (some (.box cs)) = cut sh off cs:=(rfl)
theorem zuG {sh sh' : Sh} {g i off fz : Nat} {xs : List PV} : ldR sh g i off (some (.row sh' xs fz)) = if g = xs.length then ((xs[i]?).bind (cutP sh off)).map .p else none:=(rfl)
def stB (sh : Sh) (id off : Nat) (v : AV) (h : Heap) : Option Obj → Option (List AV) → Option (AV × Heap × Esc)
 | some (.box cs),some vs=>if vs.length = z0a sh ∧ off + vs.length ≤ cs.length then some (.und,h.set id (.box (splice cs off vs)),escS id cs v) else none
 | _,_=>none
theorem zpb {sh : Sh} {i j : Nat} {v : AV} : z0n sh (.ref i j) v h = stB sh i j v h h[i]? v.cells:=by unfold z0n stB; rfl
theorem zv4 {sh : Sh} {id off : Nat} {v : AV} {cs vs : List AV} : stB sh id off v h (some (.box cs)) (some vs) = if vs.length = z0a sh ∧ off + vs.length ≤ cs.length then some (.und,h.set id (.box (splice cs off vs)),escS id cs v) else none:=(rfl)
theorem escS_p {id : Nat} {cs : List AV} {v : PV} : escS id cs (.p v) = []:=by
 unfold escS
 cases z6g cs && decide (AV.top (.p v) ≤ AV.tops cs) <;> rfl
theorem zqm {id : Nat} {cs : List AV} {v : AV} (h : z6g cs = false) : escS id cs v = z2X id v:=by
 unfold escS
 rw [h]
 rfl
theorem zuE {a : AV} {v : PV} : z6g [a,.p v] = false:=(rfl)
theorem zlD {a : AV} {s : Sh} : z6g [a,.sl0 s] = false:=(rfl)
theorem zlC {a : AV} {i j k l : Nat} : z6g [a,.own i j k l] = false:=(rfl)
theorem zgJ {a : AV} : z6g [a,.nilp] = false:=(rfl)
theorem zuB : z6g [] = false:=(rfl)
theorem zuC {a : AV} : z6g [a] = false:=(rfl)
theorem zuD {a b c : AV} {l : List AV} : z6g (a :: b :: c :: l) = false:=by unfold z6g; split <;> first | rfl | (rename_i h; simp at h)
theorem zlc {id t n m : Nat} {a : AV} : escS id [a,.bt 1 t (id + 1) n] (.ref id m) = []:=by
 unfold escS
 have e : decide (AV.top (.ref id m) ≤ AV.tops [a,.bt 1 t (id + 1) n]) = true:=by simp [AV.top,AV.tops]; omega
 rw [e]
 rfl
theorem zqn {id t t' i n n' : Nat} {a : AV} : escS id [a,.bt 1 t i n] (.bt 1 t' i n') = []:=by
 unfold escS
 have e : decide (AV.top (.bt 1 t' i n') ≤ AV.tops [a,.bt 1 t i n]) = true:=by simp [AV.top,AV.tops]; omega
 rw [e]
 rfl
def stE (sh : Sh) (id i off fz : Nat) (rsh : Sh) (xs : List PV) (v : PV) (h1 : Heap) : Option PV → Option (AV × Heap × Esc)
 | some (.agg cs)=>if off + v.cells.length ≤ cs.length then some (.und,h1.set id (.row rsh (xs.set i (.agg (splice cs off v.cells))) fz),[]) else none
 | some _=>if off = 0 ∧ v.sc then some (.und,h1.set id (.row rsh (xs.set i v) fz),[]) else none
 | none=>none
def stO (sh : Sh) (id g i off : Nat) (v : PV) (h1 : Heap) : Option Obj → Option (AV × Heap × Esc)
 | some (.row rsh xs fz)=>if g = xs.length ∧ fz ≤ i ∧ v.cells.length = z0a sh ∧ v.cells.all PV.sc then stE sh id i off fz rsh xs v h1 xs[i]? else none
 | _=>none
def stR (sh : Sh) (id g i off : Nat) : Option (PV × Heap) → Option (AV × Heap × Esc)
 | some y=>stO sh id g i off y.1 y.2 y.2[id]?
 | none=>none
theorem zhi {sh : Sh} {id g i off : Nat} {x : AV} : z0n sh (.rref id g i off) x h = stR sh id g i off (pur h x):=by
 unfold z0n stR
 cases pur h x with
 | none=>rfl
 | some y=>
  obtain ⟨v,h1⟩:=y
  dsimp only
  unfold stO
  cases h1[id]? with
  | none=>rfl
  | some o=>cases o <;> rfl
theorem zr6 {sh : Sh} {id g i off : Nat} {v : PV} {h1 : Heap} : stR sh id g i off (some (v,h1)) = stO sh id g i off v h1 h1[id]?:=(rfl)
theorem zv8 {sh rsh : Sh} {id g i off fz : Nat} {v : PV} {h1 : Heap} {xs : List PV} : stO sh id g i off v h1 (some (.row rsh xs fz)) = if g = xs.length ∧ fz ≤ i ∧ v.cells.length = z0a sh ∧ v.cells.all PV.sc then stE sh id i off fz rsh xs v h1 xs[i]? else none:=(rfl)
theorem zv5 {sh rsh : Sh} {id i off fz : Nat} {v : PV} {h1 : Heap} {xs cs : List PV} : stE sh id i off fz rsh xs v h1 (some (.agg cs)) = if off + v.cells.length ≤ cs.length then some (.und,h1.set id (.row rsh (xs.set i (.agg (splice cs off v.cells))) fz),[]) else none:=(rfl)
theorem zv6 {sh rsh : Sh} {id i off fz : Nat} {v : PV} {h1 : Heap} {xs : List PV} {k : IntKind} {n : Int} : stE sh id i off fz rsh xs v h1 (some (.int k n)) = if off = 0 ∧ v.sc then some (.und,h1.set id (.row rsh (xs.set i v) fz),[]) else none:=(rfl)
theorem zr4 {sh rsh : Sh} {id i off fz : Nat} {v : PV} {h1 : Heap} {xs : List PV} {t : Bool} : stE sh id i off fz rsh xs v h1 (some (.bool t)) = if off = 0 ∧ v.sc then some (.und,h1.set id (.row rsh (xs.set i v) fz),[]) else none:=(rfl)
theorem zv7 {sh rsh : Sh} {id i off fz : Nat} {v : PV} {h1 : Heap} {xs : List PV} {s : List UInt8} : stE sh id i off fz rsh xs v h1 (some (.str s)) = if off = 0 ∧ v.sc then some (.und,h1.set id (.row rsh (xs.set i v) fz),[]) else none:=(rfl)
theorem stE_sl {sh rsh : Sh} {id i off fz : Nat} {v : PV} {h1 : Heap} {xs : List PV} {sh' : Sh} {ys : List PV} : stE sh id i off fz rsh xs v h1 (some (.sl sh' ys)) = if off = 0 ∧ v.sc then some (.und,h1.set id (.row rsh (xs.set i v) fz),[]) else none:=(rfl)
theorem zr5 {sh rsh : Sh} {id i off fz : Nat} {v : PV} {h1 : Heap} {xs : List PV}  : stE sh id i off fz rsh xs v h1 (some .nilp) = if off = 0 ∧ v.sc then some (.und,h1.set id (.row rsh (xs.set i v) fz),[]) else none:=(rfl)
theorem pur_p {v : PV} : pur h (.p v) = some (v,h):=(rfl)
def iaS (xs : List PV) : Option Nat → Option AV
 | some k=>(xs[k]?).map .vp
 | none=>none
theorem zq5 {sh : Sh} {xs : List PV} {i : AV} : z0N sh (.p (.sl sh xs)) i h = iaS xs (z1g i):=by
 unfold z0N iaS; cases z1g i <;> simp
theorem zq2 {xs : List PV} {n : Nat} : iaS xs (some n) = (xs[n]?).map .vp:=(rfl)
def iaO (sh : Sh) (id g off len : Nat) : Option Obj → Option Nat → Option AV
 | some (.row rsh xs _),some k=>if rsh = sh ∧ g = xs.length ∧ off + len ≤ xs.length ∧ k < len then some (.rref id g (off + k) 0) else none
 | _,_=>none
theorem zl8 {sh : Sh} {id g off len : Nat} {i : AV} : z0N sh (.own id g off len) i h = iaO sh id g off len h[id]? (z1g i):=by
 unfold z0N iaO
 cases z1g i with
 | none=>dsimp only; cases h[id]? with
  | none=>rfl
  | some o=>cases o <;> rfl
 | some k=>dsimp only; cases h[id]? with
  | none=>rfl
  | some o=>cases o <;> rfl
theorem zu6 {sh rsh : Sh} {id g off len k fz : Nat} {xs : List PV} : iaO sh id g off len (some (.row rsh xs fz)) (some k) = if rsh = sh ∧ g = xs.length ∧ off + len ≤ xs.length ∧ k < len then some (.rref id g (off + k) 0) else none:=(rfl)
theorem idxs_s {i : AV} : z7O (.p (.str sa)) i = (z1g i).bind fun n=>(sa[n]?).map fun b=>.p (.int .u8 b.toNat):=by
 unfold z7O; cases z1g i <;> rfl
end
theorem zsl {z : List AV} {k : AV → Heap → Esc → Prop} : alK z h k = k (.ref h.length 0) (h ++ [.box z]) []:=(rfl)
theorem ztz {sh : Sh} {k : AV → Heap → Esc → Prop} : nwK sh h k = k (.own h.length 0 0 0) (h ++ [.row sh [] 0]) []:=(rfl)
theorem ztx {k : AV → Heap → Esc → Prop} : mmK h k = k (.mp h.length) (h ++ [.amap [] 0]) []:=(rfl)
theorem zgz {A B : Prop} : zjs (.p (.bool true)) A B = A:=(rfl)
theorem zdq {A B : Prop} : zjs (.p (.bool false)) A B = B:=(rfl)
theorem zjt {A B : Prop} : zjs .anyb A B = (A ∧ B):=(rfl)
theorem zgW {h : Heap} : z0D [] h = ([],h):=(rfl)
theorem zgX {h : Heap} {s : Sh} {r : List AV} : z0D (.sl0 s :: r) h = (.own h.length 0 0 0 :: (z0D r (h ++ [.row s [] 0])).1,(z0D r (h ++ [.row s [] 0])).2):=(rfl)
theorem zri {h : Heap} {v : PV} {r : List AV} : z0D (.p v :: r) h = (.p v :: (z0D r h).1,(z0D r h).2):=(rfl)
attribute [go_sem] zgW zgX zri
theorem zo6 {h : Heap} : z1b [] h = ([],h):=(rfl)
theorem zo9 {h : Heap} {s : Sh} {r : List AV} : z1b (.sl0 s :: r) h = (.own h.length 0 0 0 :: (z1b r (h ++ [.row s [] 0])).1,(z1b r (h ++ [.row s [] 0])).2):=(rfl)
theorem zvo {h : Heap} {v : PV} {r : List AV} : z1b (.p v :: r) h = (.p v :: (z1b r h).1,(z1b r h).2):=(rfl)
theorem zo8 {h : Heap} {i o : Nat} {r : List AV} : z1b (.ref i o :: r) h = (.ref i o :: (z1b r h).1,(z1b r h).2):=(rfl)
theorem zo7 {h : Heap} {i o g l : Nat} {r : List AV} : z1b (.own i o g l :: r) h = (.own i o g l :: (z1b r h).1,(z1b r h).2):=(rfl)
theorem zrh {h : Heap} {i : Nat} {r : List AV} : z1b (.mp i :: r) h = (.mp i :: (z1b r h).1,(z1b r h).2):=(rfl)
attribute [go_sem] zo6 zo9 zvo zo8 zo7 zrh
def ldAr (sh : Sh) (off g : Nat) : Option Obj → Option AV
 | some (.arow rsh cs)=>if g * z0a rsh = cs.length then cut sh off cs else none
 | _=>none
theorem zuN {sh : Sh} {off id g : Nat} : z0g sh (.bt 4 off id g) h = ldAr sh off g h[id]?:=by
 show ldA sh 4 off id g h = _
 unfold ldA ldAr
 rfl
theorem zmc {sh rsh : Sh} {off g : Nat} {cs : List AV} : ldAr sh off g (some (.arow rsh cs)) = if g * z0a rsh = cs.length then cut sh off cs else none:=(rfl)
def stAr (sh : Sh) (off id g : Nat) (x : AV) (h : Heap) : Option Obj → Option (List AV) → Option (AV × Heap × Esc)
 | some (.arow rsh cs),some vs=>if g * z0a rsh = cs.length ∧ vs.length = z0a sh ∧ off + vs.length ≤ cs.length then some (.und,h.set id (.arow rsh (splice cs off vs)),z2X id x) else none
 | _,_=>none
theorem zr9 {sh : Sh} {off id g : Nat} {x : AV} : z0n sh (.bt 4 off id g) x h = stAr sh off id g x h h[id]? x.cells:=by
 show stA sh 4 off id g x h = _
 unfold stA stAr
 rfl
theorem zoX {sh rsh : Sh} {off id g : Nat} {x : AV} {cs vs : List AV} : stAr sh off id g x h (some (.arow rsh cs)) (some vs) = if g * z0a rsh = cs.length ∧ vs.length = z0a sh ∧ off + vs.length ≤ cs.length then some (.und,h.set id (.arow rsh (splice cs off vs)),z2X id x) else none:=(rfl)
def iaAr (sh : Sh) (id g : Nat) : Option Obj → Option Nat → Option AV
 | some (.arow rsh cs),some i=>if rsh = sh ∧ g * z0a rsh = cs.length ∧ i < g then some (.bt 4 (i * z0a sh) id g) else none
 | _,_=>none
theorem zq3 {sh : Sh} {t id g : Nat} {i : AV} : z0N sh (.bt 3 t id g) i h = iaAr sh id g h[id]? (z1g i):=by
 unfold z0N iaAr
 cases z1g i with
 | none=>cases h[id]? with
  | none=>rfl
  | some o=>cases o <;> rfl
 | some k=>
  show iaA sh 3 id g k h = _
  unfold iaA
  cases h[id]? with
  | none=>rfl
  | some o=>cases o <;> rfl
theorem zl7 {sh rsh : Sh} {id g i : Nat} {cs : List AV} : iaAr sh id g (some (.arow rsh cs)) (some i) = if rsh = sh ∧ g * z0a rsh = cs.length ∧ i < g then some (.bt 4 (i * z0a sh) id g) else none:=(rfl)
theorem zqq {off o id g : Nat} {sh : Sh} : z0e off sh (.bt 4 o id g) = some (.bt 4 (o + off) id g):=(rfl)
theorem len_bt {t id g : Nat} : oLen (.bt 3 t id g) = some (.p (.int .i64 g)):=(rfl)
theorem nil_bt {o id g : Nat} : oNil (.bt 4 o id g) = some (.bt 4 o id g):=(rfl)
def apAr (sh : Sh) (h : Heap) (t id g g' : Nat) : Option Obj → Option Obj → Option (AV × Heap × Esc)
 | some (.arow rsh cs),some (.arow rsh' ds)=>if rsh = sh ∧ rsh' = sh ∧ g * z0a sh = cs.length ∧ g' * z0a sh = ds.length ∧ g + g' ≤ z0I then
  some (.bt 3 t id (g + g'),h.set id (.arow sh (cs ++ ds)),bif decide (id < AV.tops ds) then [(id,AV.tops ds)] else []) else none
 | _,_=>none
theorem apA_bt {sh : Sh} {t id g t' id' g' : Nat} : apA sh h (.bt 3 t id g) (.bt 3 t' id' g') = apAr sh h t id g g' h[id]? h[id']?:=by
 show (match h[id]?,h[id']? with | _,_=>_) = _
 unfold apAr
 rfl
theorem ziV {sh rsh rsh' : Sh} {t id g g' : Nat} {cs ds : List AV} : apAr sh h t id g g' (some (.arow rsh cs)) (some (.arow rsh' ds)) = if rsh = sh ∧ rsh' = sh ∧ g * z0a sh = cs.length ∧ g' * z0a sh = ds.length ∧ g + g' ≤ z0I then
 some (.bt 3 t id (g + g'),h.set id (.arow sh (cs ++ ds)),bif decide (id < AV.tops ds) then [(id,AV.tops ds)] else []) else none:=(rfl)
theorem zoA {h : Heap} {k t i g : Nat} {r : List AV} : z0D (.bt k t i g :: r) h = (.bt 3 t h.length 0 :: (z0D r (h ++ [.arow (z2o t) []])).1,(z0D r (h ++ [.arow (z2o t) []])).2):=(rfl)
theorem zup : z2o 0 = none:=(rfl)
theorem zuq {n : Nat} : z2o (n + 1) = some n:=(rfl)
attribute [go_sem] zuN zmc zr9 zoX zq3 zl7 zqq len_bt nil_bt apA_bt ziV zoA zup zuq
attribute [go_sem] z8x zcJ zfH z5b z6V z8K zp4 zmx zmw zpn zpm pK_ite wK_ite gV_tt gV_ff gV_tf gV_ft ztv gP_tt gP_ff gP_tf gP_ft ztu gM_tt gM_ff gM_tf gM_ft ztt ztR zue ztY zua zub ztS bin_or zuf zgt ztT ztZ ztX ztW ztV ztU zuc zud zvA zvB zvH zvG zvF zvE zvC un_neg un_not convI nilref zuZ nilvp nilfn pick_b len_sl zuK zuJ lens_s ext_t zlt zg6 zqs zu3 zu2 zqD zme zmf zuF zuG zpb zv4 zhi zr6 zv8 zv5 zv6 zr4 zv7 stE_sl zr5 pur_p escS_p zqm zuE zlD zlC zgJ zuB zuC zuD zlc zqn zq5 zq2 zl8 zu6 idxs_s zsl ztz ztx z12 zvu upcB neqB lenB n64 zpR strB appB rds rd oBox z02 zlu oBsl zlv oEqa zcu z65 zgz zdq zjt zmn oMkif okIn z67 oMksl bndV zmq zcv z7N zct oApp oCopy oClr oMx oMn z68 zap oMent zmp oMdel zvb zao zan
attribute [go_sem ↓] zmx zmw zpn zpm gV_tt gV_ff gV_tf gV_ft ztv gP_tt gP_ff gP_tf gP_ft ztu gM_tt gM_ff gM_tf gM_ft ztt z8T z7j zfS zfP zfR zfQ zcS z8x zcJ zfH z5b z6V z8K zsl ztz ztx z64 z9s zco zcI z7F zeP
attribute [go_sem low] gV_any gP_any gM_any zdi
attribute [congr] zhd zaV zp3 zdc zqO zrL zqz zqy zqx
end Go.Am
end
section
/- The abstract machine,part X: the library's functions that have no Go text: comparing strings,finding a byte. -/
set_option linter.unusedSimpArgs false
set_option linter.unusedVariables false
namespace Go.Am
variable {P : Program}
structure ExtRow (P : Program) (f : Nat) (e : Array Value → Sem Value) : Prop where
 row : ∃ fn,P.funcs[f]? = some fn ∧ fn.name ≠ "runtime.NumGoroutine" ∧ fn.body = none ∧ Extern.findNext fn = none ∧ Extern.find fn = some e
theorem ExtRow.run {f : Nat} {e : Array Value → Sem Value} (R : ExtRow P f e) {us : Array Value} {w w' : World} {x : Value} (he : (e us).run P w = .ok x w') : (callFunc f us).run P w = .ok (.value x) w':=by
 obtain ⟨fn,h1,h2,h3,h4,h5⟩:=R.row
 unfold callFunc
 simp [h1,h2,h3,h4,h5,he]
theorem extRow_of {f : Nat} {e : Array Value → Sem Value} (h : (match P.funcs[f]? with | some fn=>fn.name != "runtime.NumGoroutine" && fn.body.isNone && (Extern.findNext fn).isNone | none=>false) = true) (h2 : (P.funcs[f]?).bind Extern.find = some e) : ExtRow P f e:=by
 cases hf : P.funcs[f]? with
 | none=>rw [hf] at h; cases h
 | some fn=>
  rw [hf] at h h2
  simp only [Bool.and_eq_true,bne_iff_ne,ne_eq,Option.isNone_iff_eq_none] at h
  exact ⟨⟨fn,hf,h.1.1,h.1.2,h.2,h2⟩⟩
def idxB (s : List UInt8) (c : UInt8) : Int:=if s.findIdx (· == c) < s.length then (s.findIdx (· == c) : Int) else -1
def cmpL : List UInt8 → List UInt8 → Int
 | [],[]=>0
 | [],_ :: _=>-1
 | _ :: _,[]=>1
 | a :: asv,b :: bs=>if a < b then -1 else if b < a then 1 else cmpL asv bs
theorem zsn (s : List UInt8) (i : Nat) : (⟨s.toArray⟩ : ByteArray)[i]! = s.getD i 0:=by
 by_cases h : i < s.length
 ·rw [getElem!_pos (⟨s.toArray⟩ : ByteArray) i h]
  show s.toArray[i] = _
  simp [h]
 ·rw [getElem!_neg (⟨s.toArray⟩ : ByteArray) i h]
  simp [Nat.not_lt.1 h]
  rfl
theorem zqu (s : List UInt8) (c : UInt8) : (match (List.range (⟨s.toArray⟩ : ByteArray).size).find? fun i=>(⟨s.toArray⟩ : ByteArray)[i]! == c with
 | some i=>(i : Int)
 | none=>-1) = idxB s c:=by
 have hsz : (⟨s.toArray⟩ : ByteArray).size = s.length:=rfl
 have hget : ∀ i,i < s.length → (⟨s.toArray⟩ : ByteArray)[i]! = s.getD i 0:=by
  intro i hi
  exact zsn s i
 unfold idxB
 rw [hsz]
 by_cases h : s.findIdx (· == c) < s.length
 ·rw [if_pos h]
  have hf : (List.range s.length).find? (fun i=>(⟨s.toArray⟩ : ByteArray)[i]! == c) = some (s.findIdx (· == c)):=by
   rw [List.find?_eq_some_iff_getElem]
   refine ⟨?_,s.findIdx (· == c),by simpa using h,by simp,fun j hj=>?_⟩
   ·rw [hget _ h]
    have:=List.findIdx_getElem (w:=h)
    simpa [h] using this
   ·simp only [List.getElem_range]
    have hj' : j < s.length:=by omega
    rw [hget _ hj']
    have:=List.not_of_lt_findIdx hj
    simpa [hj'] using this
  rw [hf]
 ·rw [if_neg h]
  have hf : (List.range s.length).find? (fun i=>(⟨s.toArray⟩ : ByteArray)[i]! == c) = none:=by
   rw [List.find?_eq_none]
   intro i hi
   rw [List.mem_range] at hi
   rw [hget _ hi]
   intro hc
   exact h (List.findIdx_lt_length_of_exists ⟨s[i],List.getElem_mem hi,by simpa [hi] using hc⟩)
  rw [hf]
theorem zpM : ∀ (a b : List UInt8),Extern.BytealgCompare.cmp ⟨a.toArray⟩ ⟨b.toArray⟩ = cmpL a b:=by
 have key : ∀ (a b : List UInt8),(match (List.range (min a.length b.length)).find? fun i=>a.getD i 0 != b.getD i 0 with
  | some i=>if a.getD i 0 < b.getD i 0 then (-1 : Int) else 1
  | none=>if a.length < b.length then -1 else if a.length > b.length then 1 else 0) = cmpL a b:=by
  intro a
  induction a with
  | nil=>intro b; cases b <;> simp [cmpL]
  | cons x a ih=>
   intro b
   cases b with
   | nil=>simp [cmpL]
   | cons y b=>
    have hm : min (x :: a).length (y :: b).length = min a.length b.length + 1:=by simp only [List.length_cons]; omega
    rw [hm,List.range_succ_eq_map,List.find?_cons]
    simp only [List.getD_cons_zero]
    by_cases hxy : x = y
    ·subst hxy
     have hlt : ¬ x < x:=UInt8.lt_irrefl x
     simp only [bne_self_eq_false,List.find?_map,cmpL,hlt,if_false]
     rw [← ih b]
     have hc : ((fun i=>(x :: a).getD i 0 != (x :: b).getD i 0) ∘ Nat.succ) = fun i=>a.getD i 0 != b.getD i 0:=by
      funext i; simp
     rw [hc]
     cases (List.range (min a.length b.length)).find? fun i=>a.getD i 0 != b.getD i 0 with
     | none=>simp
     | some i=>simp
    ·have : (x != y) = true:=by simpa using hxy
     rw [this]
     simp only [cmpL,List.getD_cons_zero]
     by_cases h1 : x < y
     ·simp [h1]
     ·have h2 : y < x:=by
       rcases UInt8.lt_or_lt_of_ne (a:=x) (b:=y) hxy with h | h
       ·exact absurd h h1
       ·exact h
      simp [h1,h2]
 intro a b
 rw [← key a b]
 unfold Extern.BytealgCompare.cmp
 have sa : (⟨a.toArray⟩ : ByteArray).size = a.length:=rfl
 have sb : (⟨b.toArray⟩ : ByteArray).size = b.length:=rfl
 simp only [sa,sb,zsn]
 generalize List.find? _ _ = q
 cases q <;> rfl
def extF (fi fc : Nat) (f : Nat) (vs : List PV) : Option PV:=
 bif Nat.beq f fi then (match vs with
  | [.str s,.int .u8 c]=>some (.int .i64 (idxB s (UInt8.ofNat c.toNat)))
  | _=>none)
 else bif Nat.beq f fc then (match vs with
  | [.str a,.str b]=>some (.int .i64 (cmpL a b))
  | _=>none)
 else none
theorem extF_ok {fi fc : Nat} (h1 : ExtRow P fi Extern.BytealgIndexByte.indexByte) (h2 : ExtRow P fc Extern.BytealgCompare.compare) {f : Nat} {vs : List PV} {r : PV} (h : extF fi fc f vs = some r) : ExtOk P f vs r:=by
 intro M w us hM hl hr
 unfold extF at h
 cases e1 : Nat.beq f fi with
 | true=>
  rw [e1] at h
  have e:=Nat.eq_of_beq_eq_true e1
  subst e
  simp only [cond_true] at h
  split at h
  ·rename_i s c
   injection h with h
   subst h
   match us,hl with
   | [u,v],_=>
    have q1:=hr 0 _ u rfl rfl
    have q2:=hr 1 _ v rfl rfl
    cases q1; cases q2
    refine ⟨.int .i64 (idxB s (UInt8.ofNat c.toNat)),w,h1.run ?_,WExt.refl w,.int _ _⟩
    rw [← zqu]
    show (match (List.range (⟨s.toArray⟩ : ByteArray).size).find? fun i=>(⟨s.toArray⟩ : ByteArray)[i]! == UInt8.ofNat c.toNat with | some i=>(pure (goInt i) : Sem Value) | none=>pure (goInt (-1))).run P w = _
    generalize List.find? _ _ = q
    cases q <;> rfl
  ·cases h
 | false=>
  rw [e1] at h
  simp only [cond_false] at h
  cases e2 : Nat.beq f fc with
  | true=>
   rw [e2] at h
   have e:=Nat.eq_of_beq_eq_true e2
   subst e
   simp only [cond_true] at h
   split at h
   ·rename_i a b
    injection h with h
    subst h
    match us,hl with
    | [u,v],_=>
     have q1:=hr 0 _ u rfl rfl
     have q2:=hr 1 _ v rfl rfl
     cases q1; cases q2
     refine ⟨.int .i64 (cmpL a b),w,h2.run ?_,WExt.refl w,.int _ _⟩
     rw [← zpM]
     rfl
   ·cases h
  | false=>rw [e2] at h; cases h
theorem zqp {X : Ctx} {f : Nat} {asv : List AV} {vs : List PV} {h h1 : Heap} {r : PV} {K : Post} (hf : X.fn f = none) (h2 : X.ex2 f asv h = none) (hp : z00 h asv = some (vs.map .p,h1)) (hu : unp (vs.map AV.p) = some vs) (hx : X.ext f vs = some r) : z0d X f asv h K = K (.p r) h1 []:=by
 refine propext (z0d.eq (z0d.fold ?_) K)
 unfold Step
 simp only [hf,h2,hp,hu,hx]
 exact ⟨trivial,trivial,trivial⟩
structure GrowRow (P : Program) (f : Nat) (sh : Sh) : Prop where
 enter : ∀ us w,(callFunc f us).run P w = .ok (.enter f us) w
 room : ∀ a w,Calls P f #[.slice a 0 0,.int .i64 0] w fun e w'=>e = .returned (.slice a 0 0) ∧ w' = w
 grow : ∀ a (n : Nat) w,0 < n → n ≤ 1048576 → Calls P f #[.slice a 0 0,.int .i64 n] w fun e w'=>∃ G cs E,e = .returned (.slice (some ⟨w.heap.size,0,none⟩) 0 G) ∧ cs.size = G * z0a sh ∧ w' = w.drew.alloc (.cells cs E)
def zgH : List (Nat × Sh) → Nat → List AV → Heap → Option (AV × Heap × Esc)
 | [],_,_,_=>none
 | (g,sh) :: r,f,asv,h=>bif Nat.beq f g then (match asv with
  | [.sl0 _,.p (.int .i64 n)]=>bif decide (0 ≤ n) && decide (n ≤ 1048576) then some (.own h.length 0 0 0,h ++ [.row sh [] 0],[]) else none
  | _=>none) else zgH r f asv h
theorem zeY {gl : Nat → Option PV} : ∀ (gs : List (Nat × Sh)),(∀ g sh,(g,sh) ∈ gs → GrowRow P g sh) → ∀ {f : Nat} {asv : List AV} {h : Heap} {v : AV} {h' : Heap} {x : Esc},zgH gs f asv h = some (v,h',x) →
 z1A P gl f asv h fun v1 h1 x1=>v1 = v ∧ h1 = h' ∧ x1 = x
 | [],_,f,asv,h,v,h',x,H=>by cases H
 | (g,sh) :: r,hg,f,asv,h,v,h',x,H=>by
  unfold zgH at H
  cases e1 : Nat.beq f g with
  | false=>
   rw [e1] at H
   exact zeY r (fun g sh hm=>hg g sh (by simp [hm])) H
  | true=>
   rw [e1] at H
   have e:=Nat.eq_of_beq_eq_true e1
   subst e
   have R:=hg f sh (by simp)
   simp only [cond_true] at H
   split at H
   ·rename_i sh' n
    cases hb : (decide (0 ≤ n) && decide (n ≤ 1048576)) with
    | false=>rw [hb] at H; cases H
    | true=>
     rw [hb] at H
     simp only [cond_true,Option.some.injEq,Prod.mk.injEq] at H
     obtain ⟨rfl,rfl,rfl⟩:=H
     simp only [Bool.and_eq_true,decide_eq_true_eq] at hb
     intro μ w vs Hh Hg hl hr
     match vs,hl with
     | [u1,u2],_=>
      have q1:=hr 0 _ u1 rfl rfl
      have q2:=(hr 1 _ u2 rfl rfl).p_inv
      cases q1
      cases q2
      obtain ⟨m,hm⟩:=Int.eq_ofNat_of_zero_le hb.1
      subst hm
      refine .inl ⟨R.enter _,?_⟩
      rcases Nat.eq_zero_or_pos m with h0 | h0
      ·subst h0
       refine (R.room _ w).mono fun e w' he=>?_
       obtain ⟨rfl,rfl⟩:=he
       obtain ⟨n1,n2⟩:=z9v Hh sh
       refine ⟨_,_,_,_,⟨rfl,rfl,rfl⟩,?_,n1,n2,z0h.push (by simp [Obj.top])⟩
       exact .own h.length 0 0 0 _ 0 sh [] 0 none (Nat.le_refl _) (by simp) (by rw [← Hh.len]; simp) (by simp) (by simp) (fun _=>rfl)
      ·refine (R.grow _ m w h0 (by omega)).mono fun e w' he=>?_
       obtain ⟨G,cs,E,rfl,hcs,rfl⟩:=he
       have hw : WExt w (w.drew.alloc (.cells cs E)):=(WExt.drew w _).trans (WExt.push _ _)
       obtain ⟨n1,n2⟩:=z4Q (sh:=sh) (xs:=[]) Hh hw (b:=w.heap.size) (n:=cs.size) (Nat.le_refl _) (by show w.heap.size < (w.heap.push _).size; simp) (c:=cs) (z0P.push (w:=w.drew) cs E) (by simp) (by simp) (by simp)
       refine ⟨_,_,_,_,⟨rfl,rfl,rfl⟩,?_,n1,n2,z0h.push (by simp [Obj.top])⟩
       refine .own h.length 0 0 0 _ G sh [] 0 (some (w.heap.size,cs.size)) (Nat.zero_le _) (by simp) (by rw [← Hh.len]; simp) (by simp) (by simp) (fun _=>?_)
       exact .inr ⟨by simp,by simp [hcs]⟩
   ·cases H
end Go.Am
end
section
/- Short words for the printed code. -/
set_option linter.all false
namespace Go.Am
instance {n : Nat} : OfNat Opd n:=⟨.t n⟩
abbrev GL:=Nat → Option PV
abbrev KT:=Ex → St → Prop
def cI (n : Int) : Opd:=.c (.p (.int .i64 n))
def cT : Opd:=.c (.p (.bool true))
def cF : Opd:=.c (.p (.bool false))
def cS (s : List UInt8) : Opd:=.c (.p (.str s))
def uO (d : Nat) (o : AO) : AOp:=⟨some d,none,o⟩
def wO (o : AO) : AOp:=⟨none,none,o⟩
def gD (d g : Nat) (b : Bool) (o : AO) : AOp:=⟨some d,some (g,b),o⟩
def mV (d : Nat) (x : Opd) : AOp:=⟨some d,none,.mv x⟩
def bN (d : Nat) (b : BinOp) (x y : Opd) : AOp:=⟨some d,none,.bin b x y⟩
def cL (d f : Nat) (l : List Opd) : AOp:=⟨some d,none,.call f l⟩
def lD (d : Nat) (s : Sh) (x : Opd) : AOp:=⟨some d,none,.load s x⟩
def iA (d : Nat) (s : Sh) (x y : Opd) : AOp:=⟨some d,none,.iaddr s x y⟩
def fA (d o : Nat) (s : Sh) (x : Opd) : AOp:=⟨some d,none,.faddr o s x⟩
def lN (d : Nat) (x : Opd) : AOp:=⟨some d,none,.len x⟩
def eX (d : Nat) (x : Opd) (i : Nat) : AOp:=⟨some d,none,.ext x i⟩
def dF (o : AOp) (l : List Nat) : DOp:=⟨o,l,false,[],[]⟩
def dT (o : AOp) (l : List Nat) : DOp:=⟨o,l,true,[],[]⟩
def dA (o : AOp) (l : List Nat) (e : Bool) (a b : List Nat) : DOp:=⟨o,l,e,a,b⟩
def rg (l : List AOp) (k : List Nat) : ACode:=.reg l (some k)
def dr (l : List DOp) (k : List Nat) : ACode:=.draw l (some k)
end Go.Am
end
section
/- The functions asv abstract code,and asv formulas over their values: printed by program out of the translation. -/
set_option linter.unusedVariables false
set_option maxRecDepth 100000
namespace Go.Am
def z2v : ACode:=.pr [5,9,17,114,115,116] (.seq (rg [bN 117 .lss 116 115] [5,9,17,114,115,116,117])
(.seq (.cond 117 .skip
(.exit 0))
(.seq (.block 1 (.seq (rg [iA 118 (some 6) 114 116,
lD 119 (some 6) 118,
uO 19 (.alloc [.p (.int .i64 0),.p (.int .i64 0),.p (.int .i64 0),.p (.str []),.p (.str []),.p (.str [])]),
wO (.store (some 6) 19 119)] [5,9,17,19,114,115,116])
(rg [mV 120 17,
fA 121 5 none 19,
lD 122 none 121,
cL 123 z74 [122,(cS [49])],
bN 124 .add 120 123,
mV 17 124] [5,9,17,114,115,116])))
(rg [bN 125 .add 116 (cI 1),
mV 116 125] [5,9,17,114,115,116]))))
def zbh (C : Hd) (gl : GL) (v5 v9 v17 v114 v115 v116 : AV) (h : Heap) (x : Esc) (K : KT) : Prop:=
 pK (oBin .lss v116 v115) fun t1=>
 z0m t1 (pK (z0N (some 6) v114 v116 h) fun t2=>
 pK (z0g (some 6) t2 h) fun t3=>
 alK [.p (.int .i64 0),.p (.int .i64 0),.p (.int .i64 0),.p (.str []),.p (.str []),.p (.str [])] h fun t4 h5 y6=>
 wK (z0n (some 6) t4 t3 h5) fun t7 h8 y9=>
 pK (z0e 5 none t4) fun t10=>
 pK (z0g none t10 h8) fun t11=>
 C z74 [t11,(.p (.str [49]))] h8 fun t12 h13 y14=>
 pK (oBin .add v17 t12) fun t15=>
 pK (oBin .add v116 (AI 1)) fun t16=>
 K .normal ⟨[(5,v5),(9,v9),(17,t15),(114,v114),(115,v115),(116,t16)],h13,(y14 ++ (y9 ++ (y6 ++ x)))⟩)
 (K (.exit 0) ⟨[(5,v5),(9,v9),(17,v17),(114,v114),(115,v115),(116,v116),(117,t1)],h,x⟩)
theorem zjT {C gl e h x K} : NW C gl z2v ⟨e,h,x⟩ K = zbh C gl (aget e 5) (aget e 9) (aget e 17) (aget e 114) (aget e 115) (aget e 116) h x K:=by kernel_rfl
theorem zlG {C gl e h x K} : NW C gl (.loop (.scope z2v)) ⟨e,h,x⟩ K = z14 C gl (.scope z2v) K [(5,aget e 5),(9,aget e 9),(17,aget e 17),(114,aget e 114),(115,aget e 115),(116,aget e 116)] h x:=z1Q
def z3U : ACode:=.pr [5,9,17] (.seq (rg [mV 126 5,
mV 127 9,
cL 128 z74 [127,(cS [120])],
bN 129 .sub 126 128,
mV 130 17,
bN 131 .eql 129 130,
mV 132 131,
gD 133 132 true (.call z7y []),
uO 134 (.pick 132 133 cF),
mV 2 134] [2])
.ret)
def zbi (C : Hd) (gl : GL) (v5 v9 v17 : AV) (h : Heap) (x : Esc) (K : KT) : Prop:=
 C z74 [v9,(.p (.str [120]))] h fun t1 h2 y3=>
 pK (oBin .sub v5 t1) fun t4=>
 pK (oBin .eql t4 v17) fun t5=>
 gV t5 true h2 (C z7y [] h2) fun t6 h7 y8=>
 pK (z18 t5 t6 (AB false)) fun t9=>
 K .ret ⟨[(2,t9)],h7,(y8 ++ (y3 ++ x))⟩
theorem zjU {C gl e h x K} : NW C gl z3U ⟨e,h,x⟩ K = zbi C gl (aget e 5) (aget e 9) (aget e 17) h x K:=by kernel_rfl
def zrN (q1 q2 : ACode) : ACode:=(.seq (rg [mV 2 cF] [0])
(.seq (rg [mV 20 0,
uO 21 (.build [.sl0 none,.p (.int .i64 0)] [(0,1,20)]),
uO 22 (.box 21),
mV 3 22] [3])
(.seq (rg [mV 23 3,
mV 24 3,
cL 25 z3L [24,(cI 0),(cI 8)],
cL 26 z8Z [23,25],
mV 4 26] [4])
(.seq (rg [mV 28 4,
cL 29 z63 [28],
mV 27 29,
eX 30 27 0,
eX 31 27 1,
mV 5 30,
mV 6 31] [4,5,6])
(.seq (rg [mV 33 4,
cL 34 z9m [33],
mV 32 34,
eX 35 32 0,
eX 36 32 1,
eX 37 32 2,
eX 38 32 3,
mV 7 35,
mV 8 36,
mV 9 37,
mV 10 38] [4,5,6,7,8,9,10])
(.seq (rg [mV 40 4,
cL 41 z9n [40],
mV 39 41,
eX 42 39 0,
eX 43 39 1,
mV 11 42,
mV 12 43] [4,5,6,7,8,9,10,11,12])
(.seq (rg [mV 45 4,
cL 46 z9l [45],
mV 44 46,
eX 47 44 0,
eX 48 44 1,
eX 49 44 2,
mV 13 47,
mV 14 48,
mV 15 49] [4,5,6,7,8,9,10,11,12,13,14,15])
(.seq (.seq (rg [mV 50 6,
mV 51 10,
mV 52 12,
mV 53 15,
uO 54 (.bsl false none 4 (.int .i64 0) [(0,50),(1,51),(2,52),(3,53)]),
cL 55 z60 [54],
bN 56 .neq 55 (cI 0),
mV 57 56,
gD 58 57 false (.mv 7),
gD 59 57 false (.lens 58),
gD 60 57 false (.mv 5),
gD 61 57 false (.bin .neq 59 60),
uO 62 (.pick 57 cT 61),
mV 63 62,
gD 64 63 false (.mv 8),
gD 65 63 false (.lens 64),
gD 66 63 false (.mv 5),
gD 67 63 false (.bin .neq 65 66),
uO 68 (.pick 63 cT 67),
mV 69 68,
gD 70 69 false (.mv 9),
gD 71 69 false (.lens 70),
gD 72 69 false (.mv 5),
gD 73 69 false (.bin .neq 71 72),
uO 74 (.pick 69 cT 73),
mV 75 74,
gD 76 75 false (.mv 11),
gD 77 75 false (.len 76),
gD 78 75 false (.mv 4),
gD 79 75 false (.len 78),
gD 80 75 false (.bin .neq 77 79),
uO 81 (.pick 75 cT 80),
mV 82 81,
gD 83 82 false (.mv 13),
gD 84 82 false (.mv 14),
gD 85 82 false (.bin .add 83 84),
gD 86 82 false (.mv 5),
gD 87 82 false (.bin .gtr 85 86),
uO 88 (.pick 82 cT 87)] [4,5,7,9,11,88])
(.cond 88 (.seq (rg [mV 2 cF] [2])
.ret)
.skip))
(.seq (rg [mV 89 7,
cL 90 z62 [(cI 0),89],
mV 16 90] [4,5,9,11,16])
(.seq (.seq (dr [dF (mV 91 11) [11],
dF (lN 92 91) [91],
dF (bN 93 .gtr 92 (cI 0)) [92],
dF (mV 94 93) [93],
dF (gD 95 94 true (.mv 16)) [16,94],
dF (gD 96 94 true (.len 95)) [95,94],
dF (gD 97 94 true (.bin .gtr 96 (cI 0))) [96,94],
dF (uO 98 (.pick 94 97 cF)) [94,97],
dF (mV 99 98) [98],
dF (gD 100 99 true (.mv 11)) [11,99],
dF (gD 101 99 true (.mv 11)) [11,99],
dF (gD 102 99 true (.len 101)) [101,99],
dF (gD 103 99 true (.bin .sub 102 (cI 1))) [102,99],
dF (gD 104 99 true (.iaddr none 100 103)) [100,103,99],
dF (gD 105 99 true (.load none 104)) [104,99],
dF (gD 106 99 true (.mv 16)) [16,99],
dF (gD 107 99 true (.mv 16)) [16,99],
dF (gD 108 99 true (.len 107)) [107,99],
dF (gD 109 99 true (.bin .sub 108 (cI 1))) [108,99],
dF (gD 110 99 true (.iaddr none 106 109)) [106,109,99],
dF (gD 111 99 true (.load none 110)) [110,99],
dF (gD 112 99 true (.bin .neq 105 111)) [105,111,99],
dF (uO 113 (.pick 99 112 cF)) [99,112]] [4,5,9,113])
(.cond 113 (.seq (rg [mV 2 cF] [2])
.ret)
.skip))
(.seq (rg [mV 17 (cI 0)] [4,5,9,17])
(.seq (.seq (rg [mV 114 4,
lN 115 114,
mV 116 (cI 0)] [5,9,17,114,115,116])
(.block 0 (.loop (.scope q1))))
q2))))))))))))
def ziq : AFun:=⟨1,[.t 2],zrN z2v z3U,false,false⟩
def z8U (C : Hd) (gl : GL) (q1 q2 : ACode) (v0 : AV) (h : Heap) (x : Esc) (K : KT) : Prop:=
 pK (z02 [.sl0 none,.p (.int .i64 0)] [(0,1,v0)]) fun t1=>
 wK (oBox t1 h) fun t2 h3 y4=>
 C z3L [t2,(AI 0),(AI 8)] h3 fun t5 h6 y7=>
 C z8Z [t2,t5] h6 fun t8 h9 y10=>
 C z63 [t8] h9 fun t11 h12 y13=>
 pK (oExt t11 0) fun t14=>
 pK (oExt t11 1) fun t15=>
 C z9m [t8] h12 fun t16 h17 y18=>
 pK (oExt t16 0) fun t19=>
 pK (oExt t16 1) fun t20=>
 pK (oExt t16 2) fun t21=>
 pK (oExt t16 3) fun t22=>
 C z9n [t8] h17 fun t23 h24 y25=>
 pK (oExt t23 0) fun t26=>
 pK (oExt t23 1) fun t27=>
 C z9l [t8] h24 fun t28 h29 y30=>
 pK (oExt t28 0) fun t31=>
 pK (oExt t28 1) fun t32=>
 pK (oExt t28 2) fun t33=>
 wK (oBsl false none 4 (.int .i64 0) [(0,t15),(1,t22),(2,t27),(3,t33)] h29) fun t34 h35 y36=>
 C z60 [t34] h35 fun t37 h38 y39=>
 pK (oBin .neq t37 (AI 0)) fun t40=>
 gM t40 false t19 h38 fun t41 h42 y43=>
 gP t40 false (z1a t41) h42 fun t44 h45 y46=>
 gM t40 false t14 h45 fun t47 h48 y49=>
 gP t40 false (oBin .neq t44 t47) h48 fun t50 h51 y52=>
 pK (z18 t40 (AB true) t50) fun t53=>
 gM t53 false t20 h51 fun t54 h55 y56=>
 gP t53 false (z1a t54) h55 fun t57 h58 y59=>
 gM t53 false t14 h58 fun t60 h61 y62=>
 gP t53 false (oBin .neq t57 t60) h61 fun t63 h64 y65=>
 pK (z18 t53 (AB true) t63) fun t66=>
 gM t66 false t21 h64 fun t67 h68 y69=>
 gP t66 false (z1a t67) h68 fun t70 h71 y72=>
 gM t66 false t14 h71 fun t73 h74 y75=>
 gP t66 false (oBin .neq t70 t73) h74 fun t76 h77 y78=>
 pK (z18 t66 (AB true) t76) fun t79=>
 gM t79 false t26 h77 fun t80 h81 y82=>
 gP t79 false (oLen t80) h81 fun t83 h84 y85=>
 gM t79 false t8 h84 fun t86 h87 y88=>
 gP t79 false (oLen t86) h87 fun t89 h90 y91=>
 gP t79 false (oBin .neq t83 t89) h90 fun t92 h93 y94=>
 pK (z18 t79 (AB true) t92) fun t95=>
 gM t95 false t31 h93 fun t96 h97 y98=>
 gM t95 false t32 h97 fun t99 h100 y101=>
 gP t95 false (oBin .add t96 t99) h100 fun t102 h103 y104=>
 gM t95 false t14 h103 fun t105 h106 y107=>
 gP t95 false (oBin .gtr t102 t105) h106 fun t108 h109 y110=>
 pK (z18 t95 (AB true) t108) fun t111=>
 z0m t111 (K .ret ⟨[(2,(AB false))],h109,(y110 ++ (y107 ++ (y104 ++ (y101 ++ (y98 ++ (y94 ++ (y91 ++ (y88 ++ (y85 ++ (y82 ++ (y78 ++ (y75 ++ (y72 ++ (y69 ++ (y65 ++ (y62 ++ (y59 ++ (y56 ++ (y52 ++ (y49 ++ (y46 ++ (y43 ++ (y39 ++ (y36 ++ (y30 ++ (y25 ++ (y18 ++ (y13 ++ (y10 ++ (y7 ++ (y4 ++ x)))))))))))))))))))))))))))))))⟩)
 (C z62 [(AI 0),t19] h109 fun t112 h113 y114=>
 pK (oLen t26) fun t115=>
 pK (oBin .gtr t115 (AI 0)) fun t116=>
 gM t116 true t112 h113 fun t117 h118 y119=>
 gP t116 true (oLen t117) h118 fun t120 h121 y122=>
 gP t116 true (oBin .gtr t120 (AI 0)) h121 fun t123 h124 y125=>
 pK (z18 t116 t123 (AB false)) fun t126=>
 gM t126 true t26 h124 fun t127 h128 y129=>
 gM t126 true t26 h128 fun t130 h131 y132=>
 gP t126 true (oLen t130) h131 fun t133 h134 y135=>
 gP t126 true (oBin .sub t133 (AI 1)) h134 fun t136 h137 y138=>
 gP t126 true (z0N none t127 t136 h137) h137 fun t139 h140 y141=>
 gP t126 true (z0g none t139 h140) h140 fun t142 h143 y144=>
 gM t126 true t112 h143 fun t145 h146 y147=>
 gM t126 true t112 h146 fun t148 h149 y150=>
 gP t126 true (oLen t148) h149 fun t151 h152 y153=>
 gP t126 true (oBin .sub t151 (AI 1)) h152 fun t154 h155 y156=>
 gP t126 true (z0N none t145 t154 h155) h155 fun t157 h158 y159=>
 gP t126 true (z0g none t157 h158) h158 fun t160 h161 y162=>
 gP t126 true (oBin .neq t142 t160) h161 fun t163 h164 y165=>
 pK (z18 t126 t163 (AB false)) fun t166=>
 z0m t166 (K .ret ⟨[(2,(AB false))],h164,(y165 ++ (y162 ++ (y159 ++ (y156 ++ (y153 ++ (y150 ++ (y147 ++ (y144 ++ (y141 ++ (y138 ++ (y135 ++ (y132 ++ (y129 ++ (y125 ++ (y122 ++ (y119 ++ (y114 ++ (y110 ++ (y107 ++ (y104 ++ (y101 ++ (y98 ++ (y94 ++ (y91 ++ (y88 ++ (y85 ++ (y82 ++ (y78 ++ (y75 ++ (y72 ++ (y69 ++ (y65 ++ (y62 ++ (y59 ++ (y56 ++ (y52 ++ (y49 ++ (y46 ++ (y43 ++ (y39 ++ (y36 ++ (y30 ++ (y25 ++ (y18 ++ (y13 ++ (y10 ++ (y7 ++ (y4 ++ x))))))))))))))))))))))))))))))))))))))))))))))))⟩)
 (pK (oLen t8) fun t167=>
 NW C gl (.loop (.scope q1)) ⟨[(5,t14),(9,t21),(17,(AI 0)),(114,t8),(115,t167),(116,(AI 0))],h164,(y165 ++ (y162 ++ (y159 ++ (y156 ++ (y153 ++ (y150 ++ (y147 ++ (y144 ++ (y141 ++ (y138 ++ (y135 ++ (y132 ++ (y129 ++ (y125 ++ (y122 ++ (y119 ++ (y114 ++ (y110 ++ (y107 ++ (y104 ++ (y101 ++ (y98 ++ (y94 ++ (y91 ++ (y88 ++ (y85 ++ (y82 ++ (y78 ++ (y75 ++ (y72 ++ (y69 ++ (y65 ++ (y62 ++ (y59 ++ (y56 ++ (y52 ++ (y49 ++ (y46 ++ (y43 ++ (y39 ++ (y36 ++ (y30 ++ (y25 ++ (y18 ++ (y13 ++ (y10 ++ (y7 ++ (y4 ++ x))))))))))))))))))))))))))))))))))))))))))))))))⟩ (z05 0 (seqN C gl q2 K))))
theorem E_q02d {C gl q1 q2 v0 h x K} : NW C gl (zrN q1 q2) ⟨enter [v0],h,x⟩ K = z8U C gl q1 q2 v0 h x K:=by kernel_rfl
theorem e_q02d {C gl v0 h x K} : NW C gl ziq.body ⟨enter [v0],h,x⟩ K = z8U C gl z2v z3U v0 h x K:=E_q02d
def z3c : ACode:=.pr [0,1,6] (.seq (rg [bN 7 .lss 6 (cI 6)] [0,1,6,7])
(.seq (.cond 7 .skip
(.exit 0))
(.seq (.block 1 (.seq (rg [mV 8 0,
mV 9 1,
cL 10 z8Y [8,9],
mV 5 10] [0,1,5,6])
(.seq (rg [mV 11 5,
cL 12 z7z [11],
bN 13 .eql 12 (cI 0),
mV 14 13,
gD 15 14 true (.mv 5),
gD 16 14 true (.len 15),
gD 17 14 true (.mv 1),
gD 18 14 true (.bin .leq 16 17),
uO 19 (.pick 14 18 cF)] [0,1,5,6,19])
(.cond 19 (.seq (rg [mV 20 5,
mV 4 20] [4])
.ret)
.skip))))
(rg [bN 21 .add 6 (cI 1),
mV 6 21] [0,1,6]))))
def zbr (C : Hd) (gl : GL) (v0 v1 v6 : AV) (h : Heap) (x : Esc) (K : KT) : Prop:=
 pK (oBin .lss v6 (AI 6)) fun t1=>
 z0m t1 (C z8Y [v0,v1] h fun t2 h3 y4=>
 C z7z [t2] h3 fun t5 h6 y7=>
 pK (oBin .eql t5 (AI 0)) fun t8=>
 gM t8 true t2 h6 fun t9 h10 y11=>
 gP t8 true (oLen t9) h10 fun t12 h13 y14=>
 gM t8 true v1 h13 fun t15 h16 y17=>
 gP t8 true (oBin .leq t12 t15) h16 fun t18 h19 y20=>
 pK (z18 t8 t18 (AB false)) fun t21=>
 z0m t21 (K .ret ⟨[(4,t2)],h19,(y20 ++ (y17 ++ (y14 ++ (y11 ++ (y7 ++ (y4 ++ x))))))⟩)
 (pK (oBin .add v6 (AI 1)) fun t22=>
 K .normal ⟨[(0,v0),(1,v1),(6,t22)],h19,(y20 ++ (y17 ++ (y14 ++ (y11 ++ (y7 ++ (y4 ++ x))))))⟩))
 (K (.exit 0) ⟨[(0,v0),(1,v1),(6,v6),(7,t1)],h,x⟩)
theorem zkg {C gl e h x K} : NW C gl z3c ⟨e,h,x⟩ K = zbr C gl (aget e 0) (aget e 1) (aget e 6) h x K:=by kernel_rfl
theorem zlK {C gl e h x K} : NW C gl (.loop z3c) ⟨e,h,x⟩ K = z14 C gl z3c K [(0,aget e 0),(1,aget e 1),(6,aget e 6)] h x:=z13
def z5x : ACode:=.pr [] (.seq (rg [mV 4 (.c (.p (.sl (some 6) [])))] [4])
.ret)
def zbs (C : Hd) (gl : GL) (h : Heap) (x : Esc) (K : KT) : Prop:=
 K .ret ⟨[(4,(.p (.sl (some 6) [])))],h,x⟩
theorem zkh {C gl e h x K} : NW C gl z5x ⟨e,h,x⟩ K = zbs C gl h x K:=by kernel_rfl
def zrS (q1 q2 : ACode) : ACode:=(.seq (rg [mV 4 (.c (.p (.sl (some 6) [])))] [0,1])
(.seq (.seq (rg [mV 6 (cI 0)] [0,1,6])
(.block 0 (.loop q1)))
q2))
def ziz : AFun:=⟨2,[.t 4],zrS z3c z5x,false,false⟩
def zev (C : Hd) (gl : GL) (q1 q2 : ACode) (v0 v1 : AV) (h : Heap) (x : Esc) (K : KT) : Prop:=
 NW C gl (.loop q1) ⟨[(0,v0),(1,v1),(6,(AI 0))],h,x⟩ (z05 0 (seqN C gl q2 K))
theorem E_q02v {C gl q1 q2 v0 v1 h x K} : NW C gl (zrS q1 q2) ⟨enter [v0,v1],h,x⟩ K = zev C gl q1 q2 v0 v1 h x K:=by kernel_rfl
theorem e_q02v {C gl v0 v1 h x K} : NW C gl ziz.body ⟨enter [v0,v1],h,x⟩ K = zev C gl z3c z5x v0 v1 h x K:=E_q02v
def P_q02u : ACode:=(.seq (rg [mV 6 (cI 0)] [0,1,2])
(.seq (.seq (rg [mV 7 2,
mV 8 1,
bN 9 .lss 7 8] [0,1,2,9])
(.cond 9 (.seq (rg [mV 10 1,
mV 6 10] [6])
.ret)
.skip))
(.seq (rg [mV 11 1,
mV 12 0,
mV 13 2,
mV 14 1,
bN 15 .sub 13 14,
bN 16 .add 15 (cI 1),
cL 17 z1Y [12,16],
bN 18 .add 11 17,
mV 6 18] [6])
.ret)))
def ziy : AFun:=⟨3,[.t 6],P_q02u,false,false⟩
def zj4 (C : Hd) (gl : GL) (v0 v1 v2 : AV) (h : Heap) (x : Esc) (K : KT) : Prop:=
 pK (oBin .lss v2 v1) fun t1=>
 z0m t1 (K .ret ⟨[(6,v1)],h,x⟩)
 (pK (oBin .sub v2 v1) fun t2=>
 pK (oBin .add t2 (AI 1)) fun t3=>
 C z1Y [v0,t3] h fun t4 h5 y6=>
 pK (oBin .add v1 t4) fun t7=>
 K .ret ⟨[(6,t7)],h5,(y6 ++ x)⟩)
theorem e_q02u {C gl v0 v1 v2 h x K} : NW C gl ziy.body ⟨enter [v0,v1,v2],h,x⟩ K = zj4 C gl v0 v1 v2 h x K:=by kernel_rfl
def z3a : ACode:=.pr [5,6,7] (.seq (rg [bN 8 .lss 7 6] [5,6,7,8])
(.seq (.cond 8 .skip
(.exit 0))
(.seq (.block 1 (.seq (rg [iA 9 none 5 7,
lD 10 none 9,
mV 4 10] [4,5,6,7])
(.seq (rg [mV 11 4,
bN 12 .neq 11 (cI 0)] [4,5,6,7,12])
(.cond 12 (.seq (rg [mV 13 4,
mV 2 13] [2])
.ret)
.skip))))
(rg [bN 14 .add 7 (cI 1),
mV 7 14] [5,6,7]))))
def zbj (C : Hd) (gl : GL) (v5 v6 v7 : AV) (h : Heap) (x : Esc) (K : KT) : Prop:=
 pK (oBin .lss v7 v6) fun t1=>
 z0m t1 (pK (z0N none v5 v7 h) fun t2=>
 pK (z0g none t2 h) fun t3=>
 pK (oBin .neq t3 (AI 0)) fun t4=>
 z0m t4 (K .ret ⟨[(2,t3)],h,x⟩)
 (pK (oBin .add v7 (AI 1)) fun t5=>
 K .normal ⟨[(5,v5),(6,v6),(7,t5)],h,x⟩))
 (K (.exit 0) ⟨[(5,v5),(6,v6),(7,v7),(8,t1)],h,x⟩)
theorem zjV {C gl e h x K} : NW C gl z3a ⟨e,h,x⟩ K = zbj C gl (aget e 5) (aget e 6) (aget e 7) h x K:=by kernel_rfl
theorem zlH {C gl e h x K} : NW C gl (.loop z3a) ⟨e,h,x⟩ K = z14 C gl z3a K [(5,aget e 5),(6,aget e 6),(7,aget e 7)] h x:=z13
def z5s : ACode:=.pr [] (.seq (rg [mV 2 (cI 0)] [2])
.ret)
def zbk (C : Hd) (gl : GL) (h : Heap) (x : Esc) (K : KT) : Prop:=
 K .ret ⟨[(2,(AI 0))],h,x⟩
theorem zjW {C gl e h x K} : NW C gl z5s ⟨e,h,x⟩ K = zbk C gl h x K:=by kernel_rfl
def zrO (q1 q2 : ACode) : ACode:=(.seq (rg [mV 2 (cI 0)] [0])
(.seq (.seq (rg [mV 5 0,
lN 6 5,
mV 7 (cI 0)] [5,6,7])
(.block 0 (.loop q1)))
q2))
def zdO : AFun:=⟨1,[.t 2],zrO z3a z5s,false,false⟩
def zeq (C : Hd) (gl : GL) (q1 q2 : ACode) (v0 : AV) (h : Heap) (x : Esc) (K : KT) : Prop:=
 pK (oLen v0) fun t1=>
 NW C gl (.loop q1) ⟨[(5,v0),(6,t1),(7,(AI 0))],h,x⟩ (z05 0 (seqN C gl q2 K))
theorem E_q02f {C gl q1 q2 v0 h x K} : NW C gl (zrO q1 q2) ⟨enter [v0],h,x⟩ K = zeq C gl q1 q2 v0 h x K:=by kernel_rfl
theorem e_q02f {C gl v0 h x K} : NW C gl zdO.body ⟨enter [v0],h,x⟩ K = zeq C gl z3a z5s v0 h x K:=E_q02f
def P_q063 : ACode:=(.seq (rg [mV 2 (cI 0),
mV 3 (cI 0)] [0])
(.seq (.seq (rg [mV 5 0,
cL 6 z2B [5],
mV 4 6] [0,4])
(.seq (rg [mV 7 4,
bN 8 .neq 7 (cI 0)] [0,4,8])
(.cond 8 (.seq (rg [mV 9 4,
mV 2 (cI 0),
mV 3 9] [2,3])
.ret)
.skip)))
(.seq (rg [mV 10 0,
cL 11 z1Z [10,(.c (.nilp))],
uO 12 (.nilchk 11),
fA 13 37 none 12,
lD 14 none 13,
mV 2 14,
mV 3 (cI 0)] [2,3])
.ret)))
def zdU : AFun:=⟨1,[.t 2,.t 3],P_q063,false,false⟩
def ze8 (C : Hd) (gl : GL) (v0 : AV) (h : Heap) (x : Esc) (K : KT) : Prop:=
 C z2B [v0] h fun t1 h2 y3=>
 pK (oBin .neq t1 (AI 0)) fun t4=>
 z0m t4 (K .ret ⟨[(2,(AI 0)),(3,t1)],h2,(y3 ++ x)⟩)
 (C z1Z [v0,(.nilp)] h2 fun t5 h6 y7=>
 pK (oNil t5) fun t8=>
 pK (z0e 37 none t8) fun t9=>
 pK (z0g none t9 h6) fun t10=>
 K .ret ⟨[(2,t10),(3,(AI 0))],h6,(y7 ++ (y3 ++ x))⟩)
theorem e_q063 {C gl v0 h x K} : NW C gl zdU.body ⟨enter [v0],h,x⟩ K = ze8 C gl v0 h x K:=by kernel_rfl
def P_q067 : ACode:=(.seq (rg [mV 2 (cS []),
mV 3 (cS []),
mV 4 (cS []),
mV 5 (cI 0)] [0])
(.seq (.seq (rg [mV 8 0,
cL 9 z2B [8],
mV 6 9] [0,6])
(.seq (rg [mV 10 6,
bN 11 .neq 10 (cI 0)] [0,6,11])
(.cond 11 (.seq (rg [mV 12 6,
mV 2 (cS []),
mV 3 (cS []),
mV 4 (cS []),
mV 5 12] [2,3,4,5])
.ret)
.skip)))
(.seq (rg [mV 13 0,
cL 14 z9o [13],
mV 7 14] [7])
(.seq (dr [dF (mV 15 7) [7],
dF (uO 16 (.nilchk 15)) [15],
dF (fA 17 42 none 16) [16],
dF (lD 18 none 17) [17],
dF (uO 19 (.conv .b2s 18)) [18],
dF (mV 20 7) [7],
dF (uO 21 (.nilchk 20)) [20],
dF (fA 22 43 none 21) [21],
dF (lD 23 none 22) [22],
dF (uO 24 (.conv .b2s 23)) [23],
dF (mV 25 7) [7],
dF (uO 26 (.nilchk 25)) [25],
dF (fA 27 44 none 26) [26],
dF (lD 28 none 27) [27],
dF (uO 29 (.conv .b2s 28)) [28],
dF (mV 2 19) [19],
dF (mV 3 24) [24],
dF (mV 4 29) [29],
dF (mV 5 (cI 0)) []] [2,3,4,5])
.ret))))
def ziL : AFun:=⟨1,[.t 2,.t 3,.t 4,.t 5],P_q067,false,false⟩
def ze9 (C : Hd) (gl : GL) (v0 : AV) (h : Heap) (x : Esc) (K : KT) : Prop:=
 C z2B [v0] h fun t1 h2 y3=>
 pK (oBin .neq t1 (AI 0)) fun t4=>
 z0m t4 (K .ret ⟨[(2,(.p (.str []))),(3,(.p (.str []))),(4,(.p (.str []))),(5,t1)],h2,(y3 ++ x)⟩)
 (C z9o [v0] h2 fun t5 h6 y7=>
 pK (oNil t5) fun t8=>
 pK (z0e 42 none t8) fun t9=>
 pK (z0g none t9 h6) fun t10=>
 wK (z67 .b2s t10 h6) fun t11 h12 y13=>
 (h12 = h6 ∧ y13 = []) ∧ (pK (oNil t5) fun t14=>
 pK (z0e 43 none t14) fun t15=>
 pK (z0g none t15 h12) fun t16=>
 wK (z67 .b2s t16 h12) fun t17 h18 y19=>
 (h18 = h12 ∧ y19 = []) ∧ (pK (oNil t5) fun t20=>
 pK (z0e 44 none t20) fun t21=>
 pK (z0g none t21 h18) fun t22=>
 wK (z67 .b2s t22 h18) fun t23 h24 y25=>
 (h24 = h18 ∧ y25 = []) ∧ (K .ret ⟨[(2,t11),(3,t17),(4,t23),(5,(AI 0))],h24,(y25 ++ (y19 ++ (y13 ++ (y7 ++ (y3 ++ x)))))⟩))))
theorem e_q067 {C gl v0 h x K} : NW C gl ziL.body ⟨enter [v0],h,x⟩ K = ze9 C gl v0 h x K:=by kernel_rfl
def P_q068 : ACode:=(.seq (rg [mV 2 (.c (.p (.sl none []))),
mV 3 (cI 0)] [0])
(.seq (.seq (rg [mV 5 0,
cL 6 z2B [5],
mV 4 6] [0,4])
(.seq (rg [mV 7 4,
bN 8 .neq 7 (cI 0)] [0,4,8])
(.cond 8 (.seq (rg [mV 9 4,
mV 2 (.c (.p (.sl none []))),
mV 3 9] [2,3])
.ret)
.skip)))
(.seq (rg [mV 10 0,
cL 11 z1Z [10,(.c (.nilp))],
uO 12 (.nilchk 11),
fA 13 40 none 12,
lD 14 none 13,
mV 2 14,
mV 3 (cI 0)] [2,3])
.ret)))
def ziM : AFun:=⟨1,[.t 2,.t 3],P_q068,false,false⟩
def zeA (C : Hd) (gl : GL) (v0 : AV) (h : Heap) (x : Esc) (K : KT) : Prop:=
 C z2B [v0] h fun t1 h2 y3=>
 pK (oBin .neq t1 (AI 0)) fun t4=>
 z0m t4 (K .ret ⟨[(2,(.p (.sl none []))),(3,t1)],h2,(y3 ++ x)⟩)
 (C z1Z [v0,(.nilp)] h2 fun t5 h6 y7=>
 pK (oNil t5) fun t8=>
 pK (z0e 40 none t8) fun t9=>
 pK (z0g none t9 h6) fun t10=>
 K .ret ⟨[(2,t10),(3,(AI 0))],h6,(y7 ++ (y3 ++ x))⟩)
theorem e_q068 {C gl v0 h x K} : NW C gl ziM.body ⟨enter [v0],h,x⟩ K = zeA C gl v0 h x K:=by kernel_rfl
def P_q061 : ACode:=(.seq (rg [mV 2 (cI 0),
mV 3 (cI 0),
mV 4 (cI 0)] [0])
(.seq (.seq (rg [mV 7 0,
cL 8 z2B [7],
mV 5 8] [0,5])
(.seq (rg [mV 9 5,
bN 10 .neq 9 (cI 0)] [0,5,10])
(.cond 10 (.seq (rg [mV 11 5,
mV 2 (cI 0),
mV 3 (cI 0),
mV 4 11] [2,3,4])
.ret)
.skip)))
(.seq (rg [mV 12 0,
cL 13 z1Z [12,(.c (.nilp))],
mV 6 13] [6])
(.seq (dr [dF (mV 14 6) [6],
dF (uO 15 (.nilchk 14)) [14],
dF (fA 16 38 none 15) [15],
dF (lD 17 none 16) [16],
dF (mV 18 6) [6],
dF (uO 19 (.nilchk 18)) [18],
dF (fA 20 39 none 19) [19],
dF (lD 21 none 20) [20],
dF (mV 2 17) [17],
dF (mV 3 21) [21],
dF (mV 4 (cI 0)) []] [2,3,4])
.ret))))
def ziK : AFun:=⟨1,[.t 2,.t 3,.t 4],P_q061,false,false⟩
def ze7 (C : Hd) (gl : GL) (v0 : AV) (h : Heap) (x : Esc) (K : KT) : Prop:=
 C z2B [v0] h fun t1 h2 y3=>
 pK (oBin .neq t1 (AI 0)) fun t4=>
 z0m t4 (K .ret ⟨[(2,(AI 0)),(3,(AI 0)),(4,t1)],h2,(y3 ++ x)⟩)
 (C z1Z [v0,(.nilp)] h2 fun t5 h6 y7=>
 pK (oNil t5) fun t8=>
 pK (z0e 38 none t8) fun t9=>
 pK (z0g none t9 h6) fun t10=>
 pK (oNil t5) fun t11=>
 pK (z0e 39 none t11) fun t12=>
 pK (z0g none t12 h6) fun t13=>
 K .ret ⟨[(2,t10),(3,t13),(4,(AI 0))],h6,(y7 ++ (y3 ++ x))⟩)
theorem e_q061 {C gl v0 h x K} : NW C gl ziK.body ⟨enter [v0],h,x⟩ K = ze7 C gl v0 h x K:=by kernel_rfl
def z3f : ACode:=.pr [0,5,9,10,11] (.seq (rg [bN 12 .lss 11 10] [0,5,9,10,11,12])
(.seq (.cond 12 .skip
(.exit 0))
(.seq (.block 1 (.seq (rg [iA 13 none 9 11,
lD 14 none 13,
mV 7 14] [0,5,7,9,10,11])
(.seq (rg [mV 15 0,
mV 16 7,
bN 17 .sub 16 (.c (.p (.int .u8 48))),
uO 18 (.conv (.i .i64) 17),
cL 19 z9a [15,18],
mV 0 19] [0,5,9,10,11])
(rg [mV 20 5,
mV 21 0,
uO 22 (.bsl false none 1 (.int .i64 0) [(0,21)]),
uO 23 (.app none 20 22),
mV 5 23] [0,5,9,10,11]))))
(rg [bN 24 .add 11 (cI 1),
mV 11 24] [0,5,9,10,11]))))
def zby (C : Hd) (gl : GL) (v0 v5 v9 v10 v11 : AV) (h : Heap) (x : Esc) (K : KT) : Prop:=
 pK (oBin .lss v11 v10) fun t1=>
 z0m t1 (pK (z0N none v9 v11 h) fun t2=>
 pK (z0g none t2 h) fun t3=>
 pK (oBin .sub t3 (.p (.int .u8 48))) fun t4=>
 pK (zcs .i64 t4) fun t5=>
 C z9a [v0,t5] h fun t6 h7 y8=>
 wK (oBsl false none 1 (.int .i64 0) [(0,t6)] h7) fun t9 h10 y11=>
 wK (oApp none v5 t9 h10) fun t12 h13 y14=>
 pK (oBin .add v11 (AI 1)) fun t15=>
 K .normal ⟨[(0,t6),(5,t12),(9,v9),(10,v10),(11,t15)],h13,(y14 ++ (y11 ++ (y8 ++ x)))⟩)
 (K (.exit 0) ⟨[(0,v0),(5,v5),(9,v9),(10,v10),(11,v11),(12,t1)],h,x⟩)
theorem zkp {C gl e h x K} : NW C gl z3f ⟨e,h,x⟩ K = zby C gl (aget e 0) (aget e 5) (aget e 9) (aget e 10) (aget e 11) h x K:=by kernel_rfl
theorem zlO {C gl e h x K} : NW C gl (.loop (.scope z3f)) ⟨e,h,x⟩ K = z14 C gl (.scope z3f) K [(0,aget e 0),(5,aget e 5),(9,aget e 9),(10,aget e 10),(11,aget e 11)] h x:=z1Q
def z5z : ACode:=.pr [5] (.seq (rg [mV 25 5,
mV 4 25] [4])
.ret)
def zbz (C : Hd) (gl : GL) (v5 : AV) (h : Heap) (x : Esc) (K : KT) : Prop:=
 K .ret ⟨[(4,v5)],h,x⟩
theorem zkq {C gl e h x K} : NW C gl z5z ⟨e,h,x⟩ K = zbz C gl (aget e 5) h x K:=by kernel_rfl
def zrV (q1 q2 : ACode) : ACode:=(.seq (rg [mV 4 (.c (.p (.sl none [])))] [0,1])
(.seq (rg [uO 5 (.new0 none)] [0,1,5])
(.seq (.seq (rg [mV 8 1,
uO 9 (.conv .s2b 8),
lN 10 9,
mV 11 (cI 0)] [0,5,9,10,11])
(.block 0 (.loop (.scope q1))))
q2)))
def zi3 : AFun:=⟨2,[.t 4],zrV z3f z5z,false,false⟩
def zey (C : Hd) (gl : GL) (q1 q2 : ACode) (v0 v1 : AV) (h : Heap) (x : Esc) (K : KT) : Prop:=
 nwK none h fun t1 h2 y3=>
 wK (z67 .s2b v1 h2) fun t4 h5 y6=>
 pK (oLen t4) fun t7=>
 NW C gl (.loop (.scope q1)) ⟨[(0,v0),(5,t1),(9,t4),(10,t7),(11,(AI 0))],h5,(y6 ++ (y3 ++ x))⟩ (z05 0 (seqN C gl q2 K))
theorem E_q02z {C gl q1 q2 v0 v1 h x K} : NW C gl (zrV q1 q2) ⟨enter [v0,v1],h,x⟩ K = zey C gl q1 q2 v0 v1 h x K:=by kernel_rfl
theorem e_q02z {C gl v0 v1 h x K} : NW C gl zi3.body ⟨enter [v0,v1],h,x⟩ K = zey C gl z3f z5z v0 v1 h x K:=E_q02z
def z3b : ACode:=.pr [0,5,6,7] (.seq (rg [bN 8 .lss 7 6] [0,5,6,7,8])
(.seq (.cond 8 .skip
(.exit 0))
(.seq (.block 1 (rg [mV 9 5,
mV 10 0,
cL 11 z8X [10],
uO 12 (.bsl false (some 6) 1 (.agg [.int .i64 0,.int .i64 0,.int .i64 0,.str [],.str [],.str []]) [(0,11)]),
uO 13 (.app (some 6) 9 12),
mV 5 13] [0,5,6,7]))
(rg [bN 14 .add 7 (cI 1),
mV 7 14] [0,5,6,7]))))
def zbo (C : Hd) (gl : GL) (v0 v5 v6 v7 : AV) (h : Heap) (x : Esc) (K : KT) : Prop:=
 pK (oBin .lss v7 v6) fun t1=>
 z0m t1 (C z8X [v0] h fun t2 h3 y4=>
 wK (oBsl false (some 6) 1 (.agg [.int .i64 0,.int .i64 0,.int .i64 0,.str [],.str [],.str []]) [(0,t2)] h3) fun t5 h6 y7=>
 wK (oApp (some 6) v5 t5 h6) fun t8 h9 y10=>
 pK (oBin .add v7 (AI 1)) fun t11=>
 K .normal ⟨[(0,v0),(5,t8),(6,v6),(7,t11)],h9,(y10 ++ (y7 ++ (y4 ++ x)))⟩)
 (K (.exit 0) ⟨[(0,v0),(5,v5),(6,v6),(7,v7),(8,t1)],h,x⟩)
theorem zkc {C gl e h x K} : NW C gl z3b ⟨e,h,x⟩ K = zbo C gl (aget e 0) (aget e 5) (aget e 6) (aget e 7) h x K:=by kernel_rfl
theorem zlI {C gl e h x K} : NW C gl (.loop (.scope z3b)) ⟨e,h,x⟩ K = z14 C gl (.scope z3b) K [(0,aget e 0),(5,aget e 5),(6,aget e 6),(7,aget e 7)] h x:=z1Q
def z3W : ACode:=.pr [0,5,17] (.seq (rg [bN 18 .lss 17 (cI 11)] [0,5,17,18])
(.seq (.cond 18 .skip
(.exit 2))
(.seq (.block 3 (rg [mV 19 5,
mV 20 0,
uO 21 (.bsl false none 3 (.int .i64 0) [(0,(cI 1800)),(1,(cI 1830)),(2,(cI 2000))]),
cL 22 z1s [20,21],
cL 23 z1h [(cS [49]),22],
uO 24 (.build [.p (.int .i64 0),.p (.int .i64 0),.p (.int .i64 0),.p (.str []),.p (.str []),.p (.str [])] [(0,1,(cI 8)),(3,1,23)]),
uO 25 (.bsl false (some 6) 1 (.agg [.int .i64 0,.int .i64 0,.int .i64 0,.str [],.str [],.str []]) [(0,24)]),
uO 26 (.app (some 6) 19 25),
mV 5 26] [0,5,17]))
(rg [bN 27 .add 17 (cI 1),
mV 17 27] [0,5,17]))))
def zbp (C : Hd) (gl : GL) (v0 v5 v17 : AV) (h : Heap) (x : Esc) (K : KT) : Prop:=
 pK (oBin .lss v17 (AI 11)) fun t1=>
 z0m t1 (wK (oBsl false none 3 (.int .i64 0) [(0,(AI 1800)),(1,(AI 1830)),(2,(AI 2000))] h) fun t2 h3 y4=>
 C z1s [v0,t2] h3 fun t5 h6 y7=>
 C z1h [(.p (.str [49])),t5] h6 fun t8 h9 y10=>
 pK (z02 [.p (.int .i64 0),.p (.int .i64 0),.p (.int .i64 0),.p (.str []),.p (.str []),.p (.str [])] [(0,1,(AI 8)),(3,1,t8)]) fun t11=>
 wK (oBsl false (some 6) 1 (.agg [.int .i64 0,.int .i64 0,.int .i64 0,.str [],.str [],.str []]) [(0,t11)] h9) fun t12 h13 y14=>
 wK (oApp (some 6) v5 t12 h13) fun t15 h16 y17=>
 pK (oBin .add v17 (AI 1)) fun t18=>
 K .normal ⟨[(0,v0),(5,t15),(17,t18)],h16,(y17 ++ (y14 ++ (y10 ++ (y7 ++ (y4 ++ x)))))⟩)
 (K (.exit 2) ⟨[(0,v0),(5,v5),(17,v17),(18,t1)],h,x⟩)
theorem zkd {C gl e h x K} : NW C gl z3W ⟨e,h,x⟩ K = zbp C gl (aget e 0) (aget e 5) (aget e 17) h x K:=by kernel_rfl
theorem zlJ {C gl e h x K} : NW C gl (.loop (.scope z3W)) ⟨e,h,x⟩ K = z14 C gl (.scope z3W) K [(0,aget e 0),(5,aget e 5),(17,aget e 17)] h x:=z1Q
def z7R : ACode:=.pr [5] (.seq (rg [mV 28 5,
mV 4 28] [4])
.ret)
def zbq (C : Hd) (gl : GL) (v5 : AV) (h : Heap) (x : Esc) (K : KT) : Prop:=
 K .ret ⟨[(4,v5)],h,x⟩
theorem zke {C gl e h x K} : NW C gl z7R ⟨e,h,x⟩ K = zbq C gl (aget e 5) h x K:=by kernel_rfl
def zaC (q2 q3 : ACode) : ACode:=.pr [0,5] (.seq (.seq (rg [mV 15 0,
cL 16 z2q [15,(cI 80)]] [0,5,16])
(.cond 16 (.seq (rg [mV 17 (cI 0)] [0,5,17])
(.block 2 (.loop (.scope q2))))
.skip))
q3)
def z5w : ACode:=zaC z3W z7R
def z7l (C : Hd) (gl : GL) (q2 q3 : ACode) (v0 v5 : AV) (h : Heap) (x : Esc) (K : KT) : Prop:=
 C z2q [v0,(AI 80)] h fun t1 h2 y3=>
 z0m t1 (NW C gl (.loop (.scope q2)) ⟨[(0,v0),(5,v5),(17,(AI 0))],h2,(y3 ++ x)⟩ (z05 2 (seqN C gl q3 K)))
 (NW C gl q3 ⟨[(0,v0),(5,v5),(16,t1)],h2,(y3 ++ x)⟩ K)
theorem zhD {C gl q2 q3 e h x K} : NW C gl (zaC q2 q3) ⟨e,h,x⟩ K = z7l C gl q2 q3 (aget e 0) (aget e 5) h x K:=by kernel_rfl
theorem zkf {C gl e h x K} : NW C gl z5w ⟨e,h,x⟩ K = z7l C gl z3W z7R (aget e 0) (aget e 5) h x K:=zhD
def zrR (q1 q4 : ACode) : ACode:=(.seq (rg [mV 4 (.c (.p (.sl (some 6) [])))] [0,1])
(.seq (rg [uO 5 (.new0 (some 6))] [0,1,5])
(.seq (.seq (rg [mV 6 1,
mV 7 (cI 0)] [0,5,6,7])
(.block 0 (.loop (.scope q1))))
q4)))
def zit : AFun:=⟨2,[.t 4],zrR z3b z5w,false,false⟩
def zes (C : Hd) (gl : GL) (q1 q4 : ACode) (v0 v1 : AV) (h : Heap) (x : Esc) (K : KT) : Prop:=
 nwK (some 6) h fun t1 h2 y3=>
 NW C gl (.loop (.scope q1)) ⟨[(0,v0),(5,t1),(6,v1),(7,(AI 0))],h2,(y3 ++ x)⟩ (z05 0 (seqN C gl q4 K))
theorem E_q02p {C gl q1 q4 v0 v1 h x K} : NW C gl (zrR q1 q4) ⟨enter [v0,v1],h,x⟩ K = zes C gl q1 q4 v0 v1 h x K:=by kernel_rfl
theorem e_q02p {C gl v0 v1 h x K} : NW C gl zit.body ⟨enter [v0,v1],h,x⟩ K = zes C gl z3b z5w v0 v1 h x K:=E_q02p
def z3g : ACode:=.pr [0,12,13,14] (.seq (rg [bN 15 .lss 14 13] [0,12,13,14,15])
(.seq (.cond 15 .skip
(.exit 0))
(.seq (.block 1 (.seq (rg [iA 16 (some 6) 12 14,
lD 17 (some 6) 16,
uO 4 (.alloc [.p (.int .i64 0),.p (.int .i64 0),.p (.int .i64 0),.p (.str []),.p (.str []),.p (.str [])]),
wO (.store (some 6) 4 17)] [0,4,12,13,14])
(.seq (rg [lD 18 (some 6) 4,
cL 19 z9b [18],
mV 5 19] [0,5,12,13,14])
(.seq (rg [mV 20 5,
bN 21 .neq 20 (cI 0)] [0,5,12,13,14,21])
(.cond 21 (.seq (rg [mV 22 5,
mV 2 22] [2])
.ret)
.skip)))))
(rg [bN 23 .add 14 (cI 1),
mV 14 23] [0,12,13,14]))))
def zb1 (C : Hd) (gl : GL) (v0 v12 v13 v14 : AV) (h : Heap) (x : Esc) (K : KT) : Prop:=
 pK (oBin .lss v14 v13) fun t1=>
 z0m t1 (pK (z0N (some 6) v12 v14 h) fun t2=>
 pK (z0g (some 6) t2 h) fun t3=>
 alK [.p (.int .i64 0),.p (.int .i64 0),.p (.int .i64 0),.p (.str []),.p (.str []),.p (.str [])] h fun t4 h5 y6=>
 wK (z0n (some 6) t4 t3 h5) fun t7 h8 y9=>
 pK (z0g (some 6) t4 h8) fun t10=>
 C z9b [t10] h8 fun t11 h12 y13=>
 pK (oBin .neq t11 (AI 0)) fun t14=>
 z0m t14 (K .ret ⟨[(2,t11)],h12,(y13 ++ (y9 ++ (y6 ++ x)))⟩)
 (pK (oBin .add v14 (AI 1)) fun t15=>
 K .normal ⟨[(0,v0),(12,v12),(13,v13),(14,t15)],h12,(y13 ++ (y9 ++ (y6 ++ x)))⟩))
 (K (.exit 0) ⟨[(0,v0),(12,v12),(13,v13),(14,v14),(15,t1)],h,x⟩)
theorem zkr {C gl e h x K} : NW C gl z3g ⟨e,h,x⟩ K = zb1 C gl (aget e 0) (aget e 12) (aget e 13) (aget e 14) h x K:=by kernel_rfl
theorem zlP {C gl e h x K} : NW C gl (.loop (.scope z3g)) ⟨e,h,x⟩ K = z14 C gl (.scope z3g) K [(0,aget e 0),(12,aget e 12),(13,aget e 13),(14,aget e 14)] h x:=z1Q
def z50 : ACode:=.pr [0] (.seq (.seq (rg [mV 25 0,
cL 26 z71 [25],
mV 24 26,
eX 27 24 0,
eX 28 24 1,
eX 29 24 2,
mV 6 27,
mV 7 28,
mV 8 29] [6])
(.seq (rg [mV 30 6,
uO 31 (.lens 30),
bN 32 .gtr 31 (cI 20000)] [32])
(.cond 32 (.seq (rg [mV 2 (cI 2)] [2])
.ret)
.skip)))
(.seq (rg [mV 2 (cI 0)] [2])
.ret))
def zb2 (C : Hd) (gl : GL) (v0 : AV) (h : Heap) (x : Esc) (K : KT) : Prop:=
 C z71 [v0] h fun t1 h2 y3=>
 pK (oExt t1 0) fun t4=>
 pK (oExt t1 1) fun t5=>
 pK (oExt t1 2) fun t6=>
 pK (z1a t4) fun t7=>
 pK (oBin .gtr t7 (AI 20000)) fun t8=>
 z0m t8 (K .ret ⟨[(2,(AI 2))],h2,(y3 ++ x)⟩)
 (K .ret ⟨[(2,(AI 0))],h2,(y3 ++ x)⟩)
theorem zks {C gl e h x K} : NW C gl z50 ⟨e,h,x⟩ K = zb2 C gl (aget e 0) h x K:=by kernel_rfl
def zrW (q1 q2 : ACode) : ACode:=(.seq (rg [mV 2 (cI 0)] [0])
(.seq (.seq (rg [mV 9 0,
lN 10 9,
bN 11 .gtr 10 (cI 1000)] [0,11])
(.cond 11 (.seq (rg [mV 2 (cI 2)] [2])
.ret)
.skip))
(.seq (.seq (rg [mV 12 0,
lN 13 12,
mV 14 (cI 0)] [0,12,13,14])
(.block 0 (.loop (.scope q1))))
q2)))
def zi6 : AFun:=⟨1,[.t 2],zrW z3g z50,false,false⟩
def zb0 (C : Hd) (gl : GL) (q1 q2 : ACode) (v0 : AV) (h : Heap) (x : Esc) (K : KT) : Prop:=
 pK (oLen v0) fun t1=>
 pK (oBin .gtr t1 (AI 1000)) fun t2=>
 z0m t2 (K .ret ⟨[(2,(AI 2))],h,x⟩)
 (pK (oLen v0) fun t3=>
 NW C gl (.loop (.scope q1)) ⟨[(0,v0),(12,v0),(13,t3),(14,(AI 0))],h,x⟩ (z05 0 (seqN C gl q2 K)))
theorem E_q033 {C gl q1 q2 v0 h x K} : NW C gl (zrW q1 q2) ⟨enter [v0],h,x⟩ K = zb0 C gl q1 q2 v0 h x K:=by kernel_rfl
theorem e_q033 {C gl v0 h x K} : NW C gl zi6.body ⟨enter [v0],h,x⟩ K = zb0 C gl z3g z50 v0 h x K:=E_q033
def P_q02r : ACode:=(.seq (rg [mV 4 (cI 0)] [0,1])
(.seq (rg [mV 7 0,
uO 8 (.nilchk 7),
fA 9 1 none 8,
lD 10 none 9,
bN 11 .add 10 (cI 1),
uO 12 (.nilchk 7),
fA 13 1 none 12,
wO (.store none 13 11)] [0,1])
(.seq (.seq (rg [mV 14 0,
uO 15 (.nilchk 14),
fA 16 0 none 15,
lD 17 none 16,
lN 18 17,
bN 19 .eql 18 (cI 0)] [0,1,19])
(.cond 19 (.seq (rg [mV 20 0,
uO 21 (.nilchk 20),
fA 22 1 none 21,
lD 23 none 22,
bN 24 .mul 23 (cI 7919),
mV 25 1,
cL 26 z4D [24,25],
mV 4 26] [4])
.ret)
.skip))
(.seq (dr [dF (mV 27 0) [0],
dF (uO 28 (.nilchk 27)) [27],
dF (fA 29 1 none 28) [28],
dF (lD 30 none 29) [29],
dF (bN 31 .sub 30 (cI 1)) [30],
dF (mV 32 0) [0],
dF (uO 33 (.nilchk 32)) [32],
dF (fA 34 0 none 33) [33],
dF (lD 35 none 34) [34],
dF (lN 36 35) [35],
dF (bN 37 .rem 31 36) [31,36],
dF (mV 5 37) [37]] [0,1,5])
(.seq (dr [dF (mV 38 0) [0],
dF (uO 39 (.nilchk 38)) [38],
dF (fA 40 1 none 39) [39],
dF (lD 41 none 40) [40],
dF (bN 42 .sub 41 (cI 1)) [41],
dF (mV 43 0) [0],
dF (uO 44 (.nilchk 43)) [43],
dF (fA 45 0 none 44) [44],
dF (lD 46 none 45) [45],
dF (lN 47 46) [46],
dF (bN 48 .quo 42 47) [42,47],
dF (mV 6 48) [48]] [0,1,5,6])
(.seq (rg [mV 49 0,
uO 50 (.nilchk 49),
fA 51 0 none 50,
lD 52 none 51,
mV 53 5,
iA 54 none 52 53,
lD 55 none 54,
cL 56 z4D [55,(cI 1073741824)],
mV 57 6,
mV 58 5,
bN 59 .add (cI 7919) 58,
bN 60 .mul 57 59,
bN 61 .add 56 60,
mV 62 1,
cL 63 z4D [61,62],
mV 4 63] [4])
.ret))))))
def ziv : AFun:=⟨2,[.t 4],P_q02r,false,false⟩
def zet (C : Hd) (gl : GL) (v0 v1 : AV) (h : Heap) (x : Esc) (K : KT) : Prop:=
 pK (oNil v0) fun t1=>
 pK (z0e 1 none t1) fun t2=>
 pK (z0g none t2 h) fun t3=>
 pK (oBin .add t3 (AI 1)) fun t4=>
 pK (oNil v0) fun t5=>
 pK (z0e 1 none t5) fun t6=>
 wK (z0n none t6 t4 h) fun t7 h8 y9=>
 pK (oNil v0) fun t10=>
 pK (z0e 0 none t10) fun t11=>
 pK (z0g none t11 h8) fun t12=>
 pK (oLen t12) fun t13=>
 pK (oBin .eql t13 (AI 0)) fun t14=>
 z0m t14 (pK (oNil v0) fun t15=>
 pK (z0e 1 none t15) fun t16=>
 pK (z0g none t16 h8) fun t17=>
 pK (oBin .mul t17 (AI 7919)) fun t18=>
 C z4D [t18,v1] h8 fun t19 h20 y21=>
 K .ret ⟨[(4,t19)],h20,(y21 ++ (y9 ++ x))⟩)
 (pK (oNil v0) fun t22=>
 pK (z0e 1 none t22) fun t23=>
 pK (z0g none t23 h8) fun t24=>
 pK (oBin .sub t24 (AI 1)) fun t25=>
 pK (oNil v0) fun t26=>
 pK (z0e 0 none t26) fun t27=>
 pK (z0g none t27 h8) fun t28=>
 pK (oLen t28) fun t29=>
 pK (oBin .rem t25 t29) fun t30=>
 pK (oNil v0) fun t31=>
 pK (z0e 1 none t31) fun t32=>
 pK (z0g none t32 h8) fun t33=>
 pK (oBin .sub t33 (AI 1)) fun t34=>
 pK (oNil v0) fun t35=>
 pK (z0e 0 none t35) fun t36=>
 pK (z0g none t36 h8) fun t37=>
 pK (oLen t37) fun t38=>
 pK (oBin .quo t34 t38) fun t39=>
 pK (oNil v0) fun t40=>
 pK (z0e 0 none t40) fun t41=>
 pK (z0g none t41 h8) fun t42=>
 pK (z0N none t42 t30 h8) fun t43=>
 pK (z0g none t43 h8) fun t44=>
 C z4D [t44,(AI 1073741824)] h8 fun t45 h46 y47=>
 pK (oBin .add (AI 7919) t30) fun t48=>
 pK (oBin .mul t39 t48) fun t49=>
 pK (oBin .add t45 t49) fun t50=>
 C z4D [t50,v1] h46 fun t51 h52 y53=>
 K .ret ⟨[(4,t51)],h52,(y53 ++ (y47 ++ (y9 ++ x)))⟩)
theorem e_q02r {C gl v0 v1 h x K} : NW C gl ziv.body ⟨enter [v0,v1],h,x⟩ K = zet C gl v0 v1 h x K:=by kernel_rfl
def z3n : ACode:=.pr [0,10,11,12] (.seq (rg [bN 13 .lss 12 11] [0,10,11,12,13])
(.seq (.cond 13 .skip
(.exit 0))
(.seq (.block 1 (.seq (rg [iA 14 (some 6) 10 12,
lD 15 (some 6) 14,
uO 4 (.alloc [.p (.int .i64 0),.p (.int .i64 0),.p (.int .i64 0),.p (.str []),.p (.str []),.p (.str [])]),
wO (.store (some 6) 4 15)] [0,4,10,11,12])
(.seq (.seq (rg [fA 16 0 none 4,
lD 17 none 16,
cL 18 z1d [17,(cI 1),(cI 10)]] [0,4,10,11,12,18])
(.cond 18 (.seq (rg [mV 2 (cI 4)] [2])
.ret)
.skip))
(.seq (rg [lD 20 (some 6) 4,
cL 21 z79 [20],
mV 19 21,
eX 22 19 0,
eX 23 19 1,
uO 5 (.alloc [.p (.int .i64 0),.p (.int .i64 0),.p (.int .i64 0),.p (.str []),.p (.str []),.p (.str [])]),
wO (.store (some 6) 5 22),
mV 6 23] [0,4,5,6,10,11,12])
(.block 2 (.seq (rg [mV 25 6,
bN 26 .neq 25 (cI 0),
mV 24 26] [0,4,5,6,10,11,12,24])
(.cond 24 (.seq (rg [mV 27 6,
mV 2 27] [2])
.ret)
(.seq (rg [lD 29 (some 6) 5,
fA 30 0 none 4,
lD 31 none 30,
uO 32 (.build [.p (.int .i64 0),.p (.int .i64 0),.p (.int .i64 0),.p (.str []),.p (.str []),.p (.str [])] [(0,1,31)]),
uO 33 (.eqa [0,0,0,2,2,2] true 29 32),
mV 28 33] [0,10,11,12,28])
(.cond 28 (.seq (rg [mV 2 (cI 3)] [2])
.ret)
.skip)))))))))
(rg [bN 34 .add 12 (cI 1),
mV 12 34] [0,10,11,12]))))
def zbH (C : Hd) (gl : GL) (v0 v10 v11 v12 : AV) (h : Heap) (x : Esc) (K : KT) : Prop:=
 pK (oBin .lss v12 v11) fun t1=>
 z0m t1 (pK (z0N (some 6) v10 v12 h) fun t2=>
 pK (z0g (some 6) t2 h) fun t3=>
 alK [.p (.int .i64 0),.p (.int .i64 0),.p (.int .i64 0),.p (.str []),.p (.str []),.p (.str [])] h fun t4 h5 y6=>
 wK (z0n (some 6) t4 t3 h5) fun t7 h8 y9=>
 pK (z0e 0 none t4) fun t10=>
 pK (z0g none t10 h8) fun t11=>
 C z1d [t11,(AI 1),(AI 10)] h8 fun t12 h13 y14=>
 z0m t12 (K .ret ⟨[(2,(AI 4))],h13,(y14 ++ (y9 ++ (y6 ++ x)))⟩)
 (pK (z0g (some 6) t4 h13) fun t15=>
 C z79 [t15] h13 fun t16 h17 y18=>
 pK (oExt t16 0) fun t19=>
 pK (oExt t16 1) fun t20=>
 alK [.p (.int .i64 0),.p (.int .i64 0),.p (.int .i64 0),.p (.str []),.p (.str []),.p (.str [])] h17 fun t21 h22 y23=>
 wK (z0n (some 6) t21 t19 h22) fun t24 h25 y26=>
 pK (oBin .neq t20 (AI 0)) fun t27=>
 z0m t27 (K .ret ⟨[(2,t20)],h25,(y26 ++ (y23 ++ (y18 ++ (y14 ++ (y9 ++ (y6 ++ x))))))⟩)
 (pK (z0g (some 6) t21 h25) fun t28=>
 pK (z0e 0 none t4) fun t29=>
 pK (z0g none t29 h25) fun t30=>
 pK (z02 [.p (.int .i64 0),.p (.int .i64 0),.p (.int .i64 0),.p (.str []),.p (.str []),.p (.str [])] [(0,1,t30)]) fun t31=>
 pK (oEqa [0,0,0,2,2,2] true t28 t31) fun t32=>
 z0m t32 (K .ret ⟨[(2,(AI 3))],h25,(y26 ++ (y23 ++ (y18 ++ (y14 ++ (y9 ++ (y6 ++ x))))))⟩)
 (pK (oBin .add v12 (AI 1)) fun t33=>
 K .normal ⟨[(0,v0),(10,v10),(11,v11),(12,t33)],h25,(y26 ++ (y23 ++ (y18 ++ (y14 ++ (y9 ++ (y6 ++ x))))))⟩))))
 (K (.exit 0) ⟨[(0,v0),(10,v10),(11,v11),(12,v12),(13,t1)],h,x⟩)
theorem zkF {C gl e h x K} : NW C gl z3n ⟨e,h,x⟩ K = zbH C gl (aget e 0) (aget e 10) (aget e 11) (aget e 12) h x K:=by kernel_rfl
theorem zlX {C gl e h x K} : NW C gl (.loop (.scope z3n)) ⟨e,h,x⟩ K = z14 C gl (.scope z3n) K [(0,aget e 0),(10,aget e 10),(11,aget e 11),(12,aget e 12)] h x:=z1Q
def z5D : ACode:=.pr [0] (.seq (.seq (rg [mV 35 0,
cL 36 z1Z [35,(.c (.nilp))],
uO 37 (.nilchk 36),
fA 38 37 none 37,
lD 39 none 38,
bN 40 .gtr 39 (cI 20000)] [40])
(.cond 40 (.seq (rg [mV 2 (cI 2)] [2])
.ret)
.skip))
(.seq (rg [mV 2 (cI 0)] [2])
.ret))
def zbI (C : Hd) (gl : GL) (v0 : AV) (h : Heap) (x : Esc) (K : KT) : Prop:=
 C z1Z [v0,(.nilp)] h fun t1 h2 y3=>
 pK (oNil t1) fun t4=>
 pK (z0e 37 none t4) fun t5=>
 pK (z0g none t5 h2) fun t6=>
 pK (oBin .gtr t6 (AI 20000)) fun t7=>
 z0m t7 (K .ret ⟨[(2,(AI 2))],h2,(y3 ++ x)⟩)
 (K .ret ⟨[(2,(AI 0))],h2,(y3 ++ x)⟩)
theorem zkG {C gl e h x K} : NW C gl z5D ⟨e,h,x⟩ K = zbI C gl (aget e 0) h x K:=by kernel_rfl
def zsf (q1 q2 : ACode) : ACode:=(.seq (rg [mV 2 (cI 0)] [0])
(.seq (.seq (rg [mV 7 0,
lN 8 7,
bN 9 .gtr 8 (cI 1000)] [0,9])
(.cond 9 (.seq (rg [mV 2 (cI 2)] [2])
.ret)
.skip))
(.seq (.seq (rg [mV 10 0,
lN 11 10,
mV 12 (cI 0)] [0,10,11,12])
(.block 0 (.loop (.scope q1))))
q2)))
def zdT : AFun:=⟨1,[.t 2],zsf z3n z5D,false,false⟩
def zbG (C : Hd) (gl : GL) (q1 q2 : ACode) (v0 : AV) (h : Heap) (x : Esc) (K : KT) : Prop:=
 pK (oLen v0) fun t1=>
 pK (oBin .gtr t1 (AI 1000)) fun t2=>
 z0m t2 (K .ret ⟨[(2,(AI 2))],h,x⟩)
 (pK (oLen v0) fun t3=>
 NW C gl (.loop (.scope q1)) ⟨[(0,v0),(10,v0),(11,t3),(12,(AI 0))],h,x⟩ (z05 0 (seqN C gl q2 K)))
theorem E_q062 {C gl q1 q2 v0 h x K} : NW C gl (zsf q1 q2) ⟨enter [v0],h,x⟩ K = zbG C gl q1 q2 v0 h x K:=by kernel_rfl
theorem e_q062 {C gl v0 h x K} : NW C gl zdT.body ⟨enter [v0],h,x⟩ K = zbG C gl z3n z5D v0 h x K:=E_q062
def z2w : ACode:=.pr [5,13,14,15] (.seq (rg [bN 16 .lss 15 14] [5,13,14,15,16])
(.seq (.cond 16 .skip
(.exit 0))
(.seq (.block 1 (.seq (rg [iA 17 (some 6) 13 15,
lD 18 (some 6) 17,
uO 7 (.alloc [.p (.int .i64 0),.p (.int .i64 0),.p (.int .i64 0),.p (.str []),.p (.str []),.p (.str [])]),
wO (.store (some 6) 7 18)] [5,7,13,14,15])
(.seq (.seq (rg [mV 19 5,
uO 20 (.nilchk 19),
fA 21 37 none 20,
lD 22 none 21,
bN 23 .gtr 22 (cI 20000)] [5,7,13,14,15,23])
(.cond 23 (.exit 0)
.skip))
(rg [mV 24 5,
lD 25 (some 6) 7,
cL 26 z7A [24,25]] [5,13,14,15]))))
(rg [bN 27 .add 15 (cI 1),
mV 15 27] [5,13,14,15]))))
def zbN (C : Hd) (gl : GL) (v5 v13 v14 v15 : AV) (h : Heap) (x : Esc) (K : KT) : Prop:=
 pK (oBin .lss v15 v14) fun t1=>
 z0m t1 (pK (z0N (some 6) v13 v15 h) fun t2=>
 pK (z0g (some 6) t2 h) fun t3=>
 alK [.p (.int .i64 0),.p (.int .i64 0),.p (.int .i64 0),.p (.str []),.p (.str []),.p (.str [])] h fun t4 h5 y6=>
 wK (z0n (some 6) t4 t3 h5) fun t7 h8 y9=>
 pK (oNil v5) fun t10=>
 pK (z0e 37 none t10) fun t11=>
 pK (z0g none t11 h8) fun t12=>
 pK (oBin .gtr t12 (AI 20000)) fun t13=>
 z0m t13 (K (.exit 0) ⟨[(5,v5),(7,t4),(13,v13),(14,v14),(15,v15),(23,t13)],h8,(y9 ++ (y6 ++ x))⟩)
 (pK (z0g (some 6) t4 h8) fun t14=>
 C z7A [v5,t14] h8 fun t15 h16 y17=>
 pK (oBin .add v15 (AI 1)) fun t18=>
 K .normal ⟨[(5,v5),(13,v13),(14,v14),(15,t18)],h16,(y17 ++ (y9 ++ (y6 ++ x)))⟩))
 (K (.exit 0) ⟨[(5,v5),(13,v13),(14,v14),(15,v15),(16,t1)],h,x⟩)
theorem zkI {C gl e h x K} : NW C gl z2w ⟨e,h,x⟩ K = zbN C gl (aget e 5) (aget e 13) (aget e 14) (aget e 15) h x K:=by kernel_rfl
theorem zlY {C gl e h x K} : NW C gl (.loop (.scope z2w)) ⟨e,h,x⟩ K = z14 C gl (.scope z2w) K [(5,aget e 5),(13,aget e 13),(14,aget e 14),(15,aget e 15)] h x:=z1Q
def z3Z : ACode:=.pr [5] (.seq (rg [mV 28 5,
mV 4 28] [4])
.ret)
def zbO (C : Hd) (gl : GL) (v5 : AV) (h : Heap) (x : Esc) (K : KT) : Prop:=
 K .ret ⟨[(4,v5)],h,x⟩
theorem zkJ {C gl e h x K} : NW C gl z3Z ⟨e,h,x⟩ K = zbO C gl (aget e 5) h x K:=by kernel_rfl
def zsh (q1 q2 : ACode) : ACode:=(.seq (rg [mV 4 (.c (.nilp))] [0,1])
(.seq (rg [cL 8 z7E [],
mV 9 1,
uO 10 (.isnil 0 true 9),
uO 11 (.build [.p (.int .i64 0),.p (.int .i64 0),.p (.int .i64 0),.p (.str []),.p (.str []),.p (.str []),.p (.int .i64 0),.p (.int .i64 0),.p (.int .i64 0),.p (.str []),.p (.str []),.p (.str []),.p (.int .i64 0),.p (.int .i64 0),.p (.int .i64 0),.p (.str []),.p (.str []),.p (.str []),.p (.int .i64 0),.p (.int .i64 0),.p (.int .i64 0),.p (.str []),.p (.str []),.p (.str []),.p (.int .i64 0),.p (.int .i64 0),.p (.int .i64 0),.p (.str []),.p (.str []),.p (.str []),.p (.int .i64 0),.p (.int .i64 0),.p (.int .i64 0),.p (.str []),.p (.str []),.p (.str []),.p (.int .i64 0),.p (.int .i64 0),.p (.int .i64 0),.p (.int .i64 0),.sl0 none,.sl0 none,.sl0 none,.sl0 none,.sl0 none,.p (.bool false)] [(0,36,8),(36,1,(cI 0)),(45,1,10)]),
uO 12 (.uns 12 0 [11]),
mV 5 12] [0,5])
(.seq (.seq (rg [mV 13 0,
lN 14 13,
mV 15 (cI 0)] [5,13,14,15])
(.block 0 (.loop (.scope q1))))
q2)))
def zdY : AFun:=⟨2,[.t 4],zsh z2w z3Z,false,false⟩
def zbM (C : Hd) (gl : GL) (q1 q2 : ACode) (v0 v1 : AV) (h : Heap) (x : Esc) (K : KT) : Prop:=
 C z7E [] h fun t1 h2 y3=>
 pK (zcu 0 true v1) fun t4=>
 pK (z02 [.p (.int .i64 0),.p (.int .i64 0),.p (.int .i64 0),.p (.str []),.p (.str []),.p (.str []),.p (.int .i64 0),.p (.int .i64 0),.p (.int .i64 0),.p (.str []),.p (.str []),.p (.str []),.p (.int .i64 0),.p (.int .i64 0),.p (.int .i64 0),.p (.str []),.p (.str []),.p (.str []),.p (.int .i64 0),.p (.int .i64 0),.p (.int .i64 0),.p (.str []),.p (.str []),.p (.str []),.p (.int .i64 0),.p (.int .i64 0),.p (.int .i64 0),.p (.str []),.p (.str []),.p (.str []),.p (.int .i64 0),.p (.int .i64 0),.p (.int .i64 0),.p (.str []),.p (.str []),.p (.str []),.p (.int .i64 0),.p (.int .i64 0),.p (.int .i64 0),.p (.int .i64 0),.sl0 none,.sl0 none,.sl0 none,.sl0 none,.sl0 none,.p (.bool false)] [(0,36,t1),(36,1,(AI 0)),(45,1,t4)]) fun t5=>
 wK (z12 12 0 [t5] h2) fun t6 h7 y8=>
 pK (oLen v0) fun t9=>
 NW C gl (.loop (.scope q1)) ⟨[(5,t6),(13,v0),(14,t9),(15,(AI 0))],h7,(y8 ++ (y3 ++ x))⟩ (z05 0 (seqN C gl q2 K))
theorem E_q06h {C gl q1 q2 v0 v1 h x K} : NW C gl (zsh q1 q2) ⟨enter [v0,v1],h,x⟩ K = zbM C gl q1 q2 v0 v1 h x K:=by kernel_rfl
theorem e_q06h {C gl v0 v1 h x K} : NW C gl zdY.body ⟨enter [v0,v1],h,x⟩ K = zbM C gl z2w z3Z v0 v1 h x K:=E_q06h
def P_q06d : ACode:=(.seq (rg [mV 2 cF] [0])
(.seq (rg [mV 3 0,
cL 4 z1d [3,(cI 1),(cI 6)],
uO 5 (.un .not 4),
mV 2 5] [2])
.ret))
def zdW : AFun:=⟨1,[.t 2],P_q06d,false,false⟩
def zbK (C : Hd) (gl : GL) (v0 : AV) (h : Heap) (x : Esc) (K : KT) : Prop:=
 C z1d [v0,(AI 1),(AI 6)] h fun t1 h2 y3=>
 pK (oUn .not t1) fun t4=>
 K .ret ⟨[(2,t4)],h2,(y3 ++ x)⟩
theorem e_q06d {C gl v0 h x K} : NW C gl zdW.body ⟨enter [v0],h,x⟩ K = zbK C gl v0 h x K:=by kernel_rfl
def P_q06o : ACode:=(.seq (rg [mV 4 (.c (.nilp))] [0,1])
(.seq (.seq (rg [mV 5 1] [0,5])
(.block 0 (.seq (rg [bN 7 .eql 5 (cI 1),
mV 6 7] [0,5,6])
(.cond 6 (.seq (rg [mV 8 0,
uO 9 (.nilchk 8),
fA 10 0 (some 6) 9,
mV 4 10] [4])
.ret)
(.seq (rg [bN 12 .eql 5 (cI 2),
mV 11 12] [0,5,11])
(.cond 11 (.seq (rg [mV 13 0,
uO 14 (.nilchk 13),
fA 15 6 (some 6) 14,
mV 4 15] [4])
.ret)
(.seq (rg [bN 17 .eql 5 (cI 3),
mV 16 17] [0,5,16])
(.cond 16 (.seq (rg [mV 18 0,
uO 19 (.nilchk 18),
fA 20 12 (some 6) 19,
mV 4 20] [4])
.ret)
(.seq (rg [bN 22 .eql 5 (cI 4),
mV 21 22] [0,5,21])
(.cond 21 (.seq (rg [mV 23 0,
uO 24 (.nilchk 23),
fA 25 18 (some 6) 24,
mV 4 25] [4])
.ret)
(.seq (rg [bN 27 .eql 5 (cI 5),
mV 26 27] [0,26])
(.cond 26 (.seq (rg [mV 28 0,
uO 29 (.nilchk 28),
fA 30 24 (some 6) 29,
mV 4 30] [4])
.ret)
.skip))))))))))))
(.seq (rg [mV 31 0,
uO 32 (.nilchk 31),
fA 33 30 (some 6) 32,
mV 4 33] [4])
.ret)))
def zef : AFun:=⟨2,[.t 4],P_q06o,false,false⟩
def z6x (C : Hd) (gl : GL) (v0 v1 : AV) (h : Heap) (x : Esc) (K : KT) : Prop:=
 pK (oBin .eql v1 (AI 1)) fun t1=>
 z0m t1 (pK (oNil v0) fun t2=>
 pK (z0e 0 (some 6) t2) fun t3=>
 K .ret ⟨[(4,t3)],h,x⟩)
 (pK (oBin .eql v1 (AI 2)) fun t4=>
 z0m t4 (pK (oNil v0) fun t5=>
 pK (z0e 6 (some 6) t5) fun t6=>
 K .ret ⟨[(4,t6)],h,x⟩)
 (pK (oBin .eql v1 (AI 3)) fun t7=>
 z0m t7 (pK (oNil v0) fun t8=>
 pK (z0e 12 (some 6) t8) fun t9=>
 K .ret ⟨[(4,t9)],h,x⟩)
 (pK (oBin .eql v1 (AI 4)) fun t10=>
 z0m t10 (pK (oNil v0) fun t11=>
 pK (z0e 18 (some 6) t11) fun t12=>
 K .ret ⟨[(4,t12)],h,x⟩)
 (pK (oBin .eql v1 (AI 5)) fun t13=>
 z0m t13 (pK (oNil v0) fun t14=>
 pK (z0e 24 (some 6) t14) fun t15=>
 K .ret ⟨[(4,t15)],h,x⟩)
 (pK (oNil v0) fun t16=>
 pK (z0e 30 (some 6) t16) fun t17=>
 K .ret ⟨[(4,t17)],h,x⟩)))))
theorem e_q06o {C gl v0 v1 h x K} : NW C gl zef.body ⟨enter [v0,v1],h,x⟩ K = z6x C gl v0 v1 h x K:=by kernel_rfl
def z2x : ACode:=.pr [0,4,35,36] (.seq (rg [bN 37 .lss 36 35] [0,4,35,36,37])
(.seq (.cond 37 .skip
(.exit 1))
(.seq (.block 2 (rg [mV 38 0,
cL 39 z3O [38,(.c (.p (.int .u8 48))),(.c (.p (.int .u8 48))),(.c (.p (.int .u8 120)))]] [0,4,35,36]))
(rg [bN 40 .add 36 (cI 1),
mV 36 40] [0,4,35,36]))))
def zbT (C : Hd) (gl : GL) (v0 v4 v35 v36 : AV) (h : Heap) (x : Esc) (K : KT) : Prop:=
 pK (oBin .lss v36 v35) fun t1=>
 z0m t1 (C z3O [v0,(.p (.int .u8 48)),(.p (.int .u8 48)),(.p (.int .u8 120))] h fun t2 h3 y4=>
 pK (oBin .add v36 (AI 1)) fun t5=>
 K .normal ⟨[(0,v0),(4,v4),(35,v35),(36,t5)],h3,(y4 ++ x)⟩)
 (K (.exit 1) ⟨[(0,v0),(4,v4),(35,v35),(36,v36),(37,t1)],h,x⟩)
theorem zkR {C gl e h x K} : NW C gl z2x ⟨e,h,x⟩ K = zbT C gl (aget e 0) (aget e 4) (aget e 35) (aget e 36) h x K:=by kernel_rfl
theorem zma {C gl e h x K} : NW C gl (.loop z2x) ⟨e,h,x⟩ K = z14 C gl z2x K [(0,aget e 0),(4,aget e 4),(35,aget e 35),(36,aget e 36)] h x:=z13
def z4b : ACode:=.pr [0,4] (.seq (dr [dF (mV 41 0) [0],
dF (mV 42 0) [0],
dF (uO 43 (.nilchk 42)) [42],
dF (fA 44 40 none 43) [43],
dF (lD 45 none 44) [44],
dF (mV 46 0) [0],
dF (uO 47 (.nilchk 46)) [46],
dF (fA 48 36 none 47) [47],
dF (lD 49 none 48) [48],
dF (uO 50 (.bsl false none 1 (.int .i64 0) [(0,49)])) [49],
dT (uO 51 (.app none 45 50)) [45,50],
dF (uO 52 (.nilchk 41)) [41],
dF (fA 53 40 none 52) [52],
dT (wO (.store none 53 51)) [53,51]] [0,4])
(rg [mV 54 0,
mV 55 0,
uO 56 (.nilchk 55),
fA 57 41 none 56,
lD 58 none 57,
mV 59 4,
uO 60 (.bsl false none 1 (.int .i64 0) [(0,59)]),
uO 61 (.app none 58 60),
uO 62 (.nilchk 54),
fA 63 41 none 62,
wO (.store none 63 61)] []))
def z3I (C : Hd) (gl : GL) (v0 v4 : AV) (h : Heap) (x : Esc) (K : KT) : Prop:=
 pK (oNil v0) fun t1=>
 pK (z0e 40 none t1) fun t2=>
 pK (z0g none t2 h) fun t3=>
 pK (oNil v0) fun t4=>
 pK (z0e 36 none t4) fun t5=>
 pK (z0g none t5 h) fun t6=>
 wK (oBsl false none 1 (.int .i64 0) [(0,t6)] h) fun t7 h8 y9=>
 (h8 = h ∧ y9 = []) ∧ (wK (oApp none t3 t7 h8) fun t10 h11 y12=>
 pK (oNil v0) fun t13=>
 pK (z0e 40 none t13) fun t14=>
 wK (z0n none t14 t10 h11) fun t15 h16 y17=>
 pK (oNil v0) fun t18=>
 pK (z0e 41 none t18) fun t19=>
 pK (z0g none t19 h16) fun t20=>
 wK (oBsl false none 1 (.int .i64 0) [(0,v4)] h16) fun t21 h22 y23=>
 wK (oApp none t20 t21 h22) fun t24 h25 y26=>
 pK (oNil v0) fun t27=>
 pK (z0e 41 none t27) fun t28=>
 wK (z0n none t28 t24 h25) fun t29 h30 y31=>
 K .normal ⟨[],h30,(y31 ++ (y26 ++ (y23 ++ (y17 ++ (y12 ++ (y9 ++ x))))))⟩)
theorem zkS {C gl e h x K} : NW C gl z4b ⟨e,h,x⟩ K = z3I C gl (aget e 0) (aget e 4) h x K:=by kernel_rfl
def zsj (q1 q2 : ACode) : ACode:=(.seq (rg [uO 3 (.box 1)] [0,3])
(.seq (rg [mV 4 (cI 0)] [0,3,4])
(.seq (.block 0 (.seq (rg [fA 10 0 none 3,
lD 11 none 10,
cL 12 z78 [11],
mV 9 12] [0,3,4,9])
(.cond 9 (dr [dF (mV 13 0) [0],
dF (uO 14 (.nilchk 13)) [13],
dF (fA 15 0 (some 36) 14) [14],
dF (fA 16 0 none 3) [3],
dF (lD 17 none 16) [16],
dT (cL 18 z7C [15,17]) [15,17],
dA (lD 19 (some 6) 3) [3] false [5] [],
dF (uO 20 (.nilchk 18)) [18],
dT (wO (.store (some 6) 20 19)) [20,19]] [0,4])
(.seq (rg [fA 22 0 none 3,
lD 23 none 22,
cL 24 z5l [23],
mV 21 24] [0,3,4,21])
(.cond 21 (rg [mV 25 0,
lD 26 (some 6) 3,
cL 27 z5m [25,26],
mV 4 27] [0,4])
(.seq (rg [fA 29 0 none 3,
lD 30 none 29,
bN 31 .eql 30 (cI 9),
mV 28 31] [0,3,4,28])
(.cond 28 (.seq (rg [mV 32 0,
cL 33 z2Z [32,(cI 1)]] [0,3,4])
(.seq (rg [fA 34 2 none 3,
lD 35 none 34,
mV 36 (cI 0)] [0,4,35,36])
(.block 1 (.loop q1))))
(rg [mV 5 0,
fA 6 1 none 3,
lD 7 none 6,
cL 8 z2Z [5,7]] [0,4]))))))))
q2)))
def zeb : AFun:=⟨2,[],zsj z2x z4b,false,false⟩
def z2V (C : Hd) (gl : GL) (q1 q2 : ACode) (v0 v1 : AV) (h : Heap) (x : Esc) (K : KT) : Prop:=
 wK (oBox v1 h) fun t1 h2 y3=>
 pK (z0e 0 none t1) fun t4=>
 pK (z0g none t4 h2) fun t5=>
 C z78 [t5] h2 fun t6 h7 y8=>
 z0m t6 (pK (oNil v0) fun t9=>
 pK (z0e 0 (some 36) t9) fun t10=>
 pK (z0e 0 none t1) fun t11=>
 pK (z0g none t11 h7) fun t12=>
 z1L C z7C [t10,t12] h7 fun t13 h14 y15=>
 pK (z0g (some 6) t1 h14) fun t16=>
 (pK (z0g (some 6) t1 h7) fun v=>(fun u (g1 : Heap) (y1 : Esc)=>u = t16 ∧ g1 = h7 ∧ y1 = []) v h7 []) ∧ (pK (oNil t13) fun t17=>
 wK (z0n (some 6) t17 t16 h14) fun t18 h19 y20=>
 NW C gl q2 ⟨[(0,v0),(4,(AI 0))],h19,(y20 ++ (y15 ++ (y8 ++ (y3 ++ x))))⟩ K))
 (pK (z0e 0 none t1) fun t21=>
 pK (z0g none t21 h7) fun t22=>
 C z5l [t22] h7 fun t23 h24 y25=>
 z0m t23 (pK (z0g (some 6) t1 h24) fun t26=>
 C z5m [v0,t26] h24 fun t27 h28 y29=>
 NW C gl q2 ⟨[(0,v0),(4,t27)],h28,(y29 ++ (y25 ++ (y8 ++ (y3 ++ x))))⟩ K)
 (pK (z0e 0 none t1) fun t30=>
 pK (z0g none t30 h24) fun t31=>
 pK (oBin .eql t31 (AI 9)) fun t32=>
 z0m t32 (C z2Z [v0,(AI 1)] h24 fun t33 h34 y35=>
 pK (z0e 2 none t1) fun t36=>
 pK (z0g none t36 h34) fun t37=>
 NW C gl (.loop q1) ⟨[(0,v0),(4,(AI 0)),(35,t37),(36,(AI 0))],h34,(y35 ++ (y25 ++ (y8 ++ (y3 ++ x))))⟩ (z05 1 (z05 0 (seqN C gl q2 K))))
 (pK (z0e 1 none t1) fun t38=>
 pK (z0g none t38 h24) fun t39=>
 C z2Z [v0,t39] h24 fun t40 h41 y42=>
 NW C gl q2 ⟨[(0,v0),(4,(AI 0))],h41,(y42 ++ (y25 ++ (y8 ++ (y3 ++ x))))⟩ K)))
theorem E_q06l {C gl q1 q2 v0 v1 h x K} : NW C gl (zsj q1 q2) ⟨enter [v0,v1],h,x⟩ K = z2V C gl q1 q2 v0 v1 h x K:=by kernel_rfl
theorem e_q06l {C gl v0 v1 h x K} : NW C gl zeb.body ⟨enter [v0,v1],h,x⟩ K = z2V C gl z2x z4b v0 v1 h x K:=E_q06l
def P_q06p : ACode:=(.seq (rg [mV 2 (.c (.nilp))] [0])
(.seq (rg [uO 3 (.alloc [.p (.bool false)]),
wO (.store none 3 cT)] [0,3])
(.seq (rg [mV 4 0,
cL 5 z1Z [4,3],
mV 2 5] [2])
.ret)))
def ziN : AFun:=⟨1,[.t 2],P_q06p,false,false⟩
def zjF (C : Hd) (gl : GL) (v0 : AV) (h : Heap) (x : Esc) (K : KT) : Prop:=
 alK [.p (.bool false)] h fun t1 h2 y3=>
 wK (z0n none t1 (AB true) h2) fun t4 h5 y6=>
 C z1Z [v0,t1] h5 fun t7 h8 y9=>
 K .ret ⟨[(2,t7)],h8,(y9 ++ (y6 ++ (y3 ++ x)))⟩
theorem e_q06p {C gl v0 h x K} : NW C gl ziN.body ⟨enter [v0],h,x⟩ K = zjF C gl v0 h x K:=by kernel_rfl
def P_q030 : ACode:=(.seq (rg [mV 4 (cI 0)] [0,1])
(.seq (rg [uO 5 (.build [.p (.int .i64 0),.p (.int .i64 0)] [(0,1,(cI 1)),(1,1,(cI 0))]),
uO 6 (.build [.p (.int .i64 0),.p (.int .i64 0)] [(0,1,(cI 1)),(1,1,(cI 2))]),
uO 7 (.build [.p (.int .i64 0),.p (.int .i64 0)] [(0,1,(cI 3)),(1,1,(cI 9))]),
uO 8 (.build [.p (.int .i64 0),.p (.int .i64 0)] [(0,1,(cI 4)),(1,1,(cI 5))]),
uO 9 (.build [.p (.int .i64 0),.p (.int .i64 0)] [(0,1,(cI 4)),(1,1,(cI 5))]),
uO 10 (.build [.p (.int .i64 0),.p (.int .i64 0)] [(0,1,(cI 6)),(1,1,(cI 8))]),
uO 11 (.build [.p (.int .i64 0),.p (.int .i64 0)] [(0,1,(cI 6)),(1,1,(cI 7))]),
uO 12 (.build [.p (.int .i64 0),.p (.int .i64 0)] [(0,1,(cI 4)),(1,1,(cI 8))]),
uO 13 (.build [.p (.int .i64 0),.p (.int .i64 0)] [(0,1,(cI 1)),(1,1,(cI 2))]),
uO 14 (.build [.p (.int .i64 0),.p (.int .i64 0)] [(0,1,(cI 10)),(1,1,(cI 0))]),
uO 15 (.build [.p (.int .i64 0),.p (.int .i64 0)] [(0,1,(cI 11)),(1,1,(cI 12))]),
uO 16 (.build [.p (.int .i64 0),.p (.int .i64 0)] [(0,1,(cI 11)),(1,1,(cI 12))]),
uO 17 (.build [.p (.int .i64 0),.p (.int .i64 0)] [(0,1,(cI 13)),(1,1,(cI 15))]),
uO 18 (.build [.p (.int .i64 0),.p (.int .i64 0)] [(0,1,(cI 13)),(1,1,(cI 14))]),
uO 19 (.build [.p (.int .i64 0),.p (.int .i64 0)] [(0,1,(cI 11)),(1,1,(cI 15))]),
uO 20 (.build [.p (.int .i64 0),.p (.int .i64 0)] [(0,1,(cI 1)),(1,1,(cI 2))]),
uO 21 (.build [.p (.int .i64 0),.p (.int .i64 0),.p (.int .i64 0),.p (.int .i64 0),.p (.int .i64 0),.p (.int .i64 0),.p (.int .i64 0),.p (.int .i64 0),.p (.int .i64 0),.p (.int .i64 0),.p (.int .i64 0),.p (.int .i64 0),.p (.int .i64 0),.p (.int .i64 0),.p (.int .i64 0),.p (.int .i64 0),.p (.int .i64 0),.p (.int .i64 0),.p (.int .i64 0),.p (.int .i64 0),.p (.int .i64 0),.p (.int .i64 0),.p (.int .i64 0),.p (.int .i64 0),.p (.int .i64 0),.p (.int .i64 0),.p (.int .i64 0),.p (.int .i64 0),.p (.int .i64 0),.p (.int .i64 0),.p (.int .i64 0),.p (.int .i64 0)] [(0,2,5),(2,2,6),(4,2,7),(6,2,8),(8,2,9),(10,2,10),(12,2,11),(14,2,12),(16,2,13),(18,2,14),(20,2,15),(22,2,16),(24,2,17),(26,2,18),(28,2,19),(30,2,20)]),
mV 22 0,
uO 23 (.idxa 16 (some 2) 21 22),
mV 24 1,
uO 25 (.idxa 2 none 23 24),
mV 4 25] [4])
.ret))
def zi4 : AFun:=⟨2,[.t 4],P_q030,false,false⟩
def zj6 (C : Hd) (gl : GL) (v0 v1 : AV) (h : Heap) (x : Esc) (K : KT) : Prop:=
 pK (z02 [.p (.int .i64 0),.p (.int .i64 0)] [(0,1,(AI 1)),(1,1,(AI 0))]) fun t1=>
 pK (z02 [.p (.int .i64 0),.p (.int .i64 0)] [(0,1,(AI 1)),(1,1,(AI 2))]) fun t2=>
 pK (z02 [.p (.int .i64 0),.p (.int .i64 0)] [(0,1,(AI 3)),(1,1,(AI 9))]) fun t3=>
 pK (z02 [.p (.int .i64 0),.p (.int .i64 0)] [(0,1,(AI 4)),(1,1,(AI 5))]) fun t4=>
 pK (z02 [.p (.int .i64 0),.p (.int .i64 0)] [(0,1,(AI 4)),(1,1,(AI 5))]) fun t5=>
 pK (z02 [.p (.int .i64 0),.p (.int .i64 0)] [(0,1,(AI 6)),(1,1,(AI 8))]) fun t6=>
 pK (z02 [.p (.int .i64 0),.p (.int .i64 0)] [(0,1,(AI 6)),(1,1,(AI 7))]) fun t7=>
 pK (z02 [.p (.int .i64 0),.p (.int .i64 0)] [(0,1,(AI 4)),(1,1,(AI 8))]) fun t8=>
 pK (z02 [.p (.int .i64 0),.p (.int .i64 0)] [(0,1,(AI 1)),(1,1,(AI 2))]) fun t9=>
 pK (z02 [.p (.int .i64 0),.p (.int .i64 0)] [(0,1,(AI 10)),(1,1,(AI 0))]) fun t10=>
 pK (z02 [.p (.int .i64 0),.p (.int .i64 0)] [(0,1,(AI 11)),(1,1,(AI 12))]) fun t11=>
 pK (z02 [.p (.int .i64 0),.p (.int .i64 0)] [(0,1,(AI 11)),(1,1,(AI 12))]) fun t12=>
 pK (z02 [.p (.int .i64 0),.p (.int .i64 0)] [(0,1,(AI 13)),(1,1,(AI 15))]) fun t13=>
 pK (z02 [.p (.int .i64 0),.p (.int .i64 0)] [(0,1,(AI 13)),(1,1,(AI 14))]) fun t14=>
 pK (z02 [.p (.int .i64 0),.p (.int .i64 0)] [(0,1,(AI 11)),(1,1,(AI 15))]) fun t15=>
 pK (z02 [.p (.int .i64 0),.p (.int .i64 0)] [(0,1,(AI 1)),(1,1,(AI 2))]) fun t16=>
 pK (z02 [.p (.int .i64 0),.p (.int .i64 0),.p (.int .i64 0),.p (.int .i64 0),.p (.int .i64 0),.p (.int .i64 0),.p (.int .i64 0),.p (.int .i64 0),.p (.int .i64 0),.p (.int .i64 0),.p (.int .i64 0),.p (.int .i64 0),.p (.int .i64 0),.p (.int .i64 0),.p (.int .i64 0),.p (.int .i64 0),.p (.int .i64 0),.p (.int .i64 0),.p (.int .i64 0),.p (.int .i64 0),.p (.int .i64 0),.p (.int .i64 0),.p (.int .i64 0),.p (.int .i64 0),.p (.int .i64 0),.p (.int .i64 0),.p (.int .i64 0),.p (.int .i64 0),.p (.int .i64 0),.p (.int .i64 0),.p (.int .i64 0),.p (.int .i64 0)] [(0,2,t1),(2,2,t2),(4,2,t3),(6,2,t4),(8,2,t5),(10,2,t6),(12,2,t7),(14,2,t8),(16,2,t9),(18,2,t10),(20,2,t11),(22,2,t12),(24,2,t13),(26,2,t14),(28,2,t15),(30,2,t16)]) fun t17=>
 pK (zct 16 (some 2) t17 v0) fun t18=>
 pK (zct 2 none t18 v1) fun t19=>
 K .ret ⟨[(4,t19)],h,x⟩
theorem e_q030 {C gl v0 v1 h x K} : NW C gl zi4.body ⟨enter [v0,v1],h,x⟩ K = zj6 C gl v0 v1 h x K:=by kernel_rfl
end Go.Am
end
