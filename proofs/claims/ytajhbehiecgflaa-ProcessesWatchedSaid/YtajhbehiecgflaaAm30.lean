/- The abstract machine, part 30: the meaning of code in the new spelling, and that it is the old one. -/
import Derived.Test.YtajhbehiecgflaaAm29
set_option linter.unusedSimpArgs false
set_option linter.unusedVariables false
namespace Go.Am

def gV (v : AV) (b : Bool) (h : Heap) (A : (AV → Heap → Esc → Prop) → Prop) (k : AV → Heap → Esc → Prop) : Prop := wantK v b (A k) (k .skp h [])
/-- A guarded operation. -/
def gK (g : Option (Nat × Bool)) (e : List (Nat × AV)) (h : Heap) (A : (AV → Heap → Esc → Prop) → Prop) (k : AV → Heap → Esc → Prop) : Prop := match g with
  | none => A k
  | some (t, b) => gV (aget e t) b h A k

def opC (C : Hd) (o : AO) (ev : Opd → AV) (h : Heap) (k : AV → Heap → Esc → Prop) : Prop := match o with
  | .call f args => C f (ev1 ev args) h k
  | .callv f args => callvK C (ev f) (ev1 ev args) h k
  | .mnext i => match mnexts h (ev i) with
    | some l => l ≠ [] ∧ ∀ y ∈ l, k y.1 y.2 []
    | none => False
  | o => opN o ev h k

def NReg (C : Hd) (gl : Nat → Option PV) : List AOp → List (Nat × AV) → Heap → Esc → (List (Nat × AV) → Heap → Esc → Prop) → Prop
  | [], e, h, x, L => L e h x
  | o :: r, e, h, x, L => gK o.guard e h (opC C o.op (Opd.ev gl e) h) fun v h' x' => NReg C gl r (put o.dst v e) h' (x' ++ x) L

variable {C : Hd} {gl : Nat → Option PV}

theorem opC_AReg {o : AO} {d : Option Nat} {r : List AOp} {e : List (Nat × AV)} {h : Heap} {x : Esc} {L : List (Nat × AV) → Heap → Esc → Prop} :
    AReg C gl (⟨d, none, o⟩ :: r) e h x L = opC C o (Opd.ev gl e) h (contR C gl r d e x L) := by
  cases hp : o.plain with
  | true =>
    rw [AReg_op hp, opN_aop hp]
    cases o <;> first | rfl | cases hp
  | false =>
    cases o <;> first | (cases hp; done) | skip
    all_goals first
      | (rw [AReg_call, ev1_eq]; rfl)
      | (rw [AReg_callvK, ev1_eq]; rfl)
      | rfl

theorem NReg_eq : ∀ (ops : List AOp) (e : List (Nat × AV)) (h : Heap) (x : Esc) (L : List (Nat × AV) → Heap → Esc → Prop), AReg C gl ops e h x L = NReg C gl ops e h x L
  | [], e, h, x, L => rfl
  | ⟨d, g, o⟩ :: r, e, h, x, L => by
    have ih : (fun (v : AV) (h' : Heap) (x' : Esc) => NReg C gl r (put d v e) h' (x' ++ x) L) = contR C gl r d e x L := by
      funext v h' x'; rw [← NReg_eq r]; rfl
    show _ = gK g e h (opC C o (Opd.ev gl e) h) fun v h' x' => NReg C gl r (put d v e) h' (x' ++ x) L
    rw [ih]
    cases g with
    | none => exact opC_AReg
    | some tb =>
      obtain ⟨t, b⟩ := tb
      rw [AReg_guard, opC_AReg]; rfl

/-! ### drawn regions -/
def opE (C : Hd) (o : AO) (ev : Opd → AV) (h : Heap) (k : AV → Heap → Esc → Prop) : Prop := match o with
  | .call f args => callE C f (ev1 ev args) h k
  | .callv f args => callvE C (ev f) (ev1 ev args) h k
  | .mnext i => False
  | o => opN o ev h k
def effN (still eff : Bool) (h h' : Heap) (y : Esc) (Q : Prop) : Prop := match eff with
  | true => Q
  | false => match still with
    | true => Q
    | false => (h' = h ∧ y = []) ∧ Q
/-- An operation of before, once more. -/
def sameN (C : Hd) (gl : Nat → Option PV) (q : AOp × List (Nat × AV) × AV) (g : Heap) : Prop :=
  gK q.1.guard q.2.1 g (opE C q.1.op (Opd.ev gl q.2.1) g) fun v1 h1 x1 => v1 = q.2.2 ∧ h1 = g ∧ x1 = []
def againN (C : Hd) (gl : Nat → Option PV) (h : Heap) (dn : Done) (Q : Prop) : List Nat → Prop
  | [] => Q
  | j :: r => (match dn[j]? with | some q => sameN C gl q h | none => False) ∧ againN C gl h dn Q r
def earlyN (C : Hd) (gl : Nat → Option PV) (o : AOp) (e : List (Nat × AV)) (v : AV) (hs : List Heap) (Q : Prop) : List Nat → Prop
  | [] => Q
  | k :: r => (match hs[k]? with | some g => sameN C gl (o, e, v) g | none => False) ∧ earlyN C gl o e v hs Q r

def NDraw (C : Hd) (gl : Nat → Option PV) : List DOp → Done → List Heap → List (Nat × AV) → Heap → Esc → (List (Nat × AV) → Heap → Esc → Prop) → Prop
  | [], _, _, e, h, x, L => L e h x
  | o :: r, dn, hs, e, h, x, L => gK o.op.guard (prune (some o.rd) e) h (opE C o.op.op (Opd.ev gl (prune (some o.rd) e)) h) fun v h' y =>
      effN o.op.op.still o.eff h h' y (earlyN C gl o.op (prune (some o.rd) e) v hs (againN C gl h' dn (NDraw C gl r (dn ++ [(o.op, prune (some o.rd) e, v)]) (hs ++ [h]) (put o.op.dst v e) h' (y ++ x) L) o.again) o.early)

theorem opE_doK {o : AO} {d : Option Nat} {e : List (Nat × AV)} {h : Heap} {R : AV → Heap → Esc → Prop} : doK C gl ⟨d, none, o⟩ e h R = opE C o (Opd.ev gl e) h R := by
  cases hp : o.plain with
  | true =>
    rw [doK_op hp, opN_aop hp]
    cases o <;> first | rfl | cases hp
  | false =>
    cases o <;> first | (cases hp; done) | skip
    all_goals first
      | (rw [doK_call, ev1_eq]; rfl)
      | (rw [doK_callvK, ev1_eq]; rfl)
      | (unfold doK ADo opE; simp [wanted])
theorem gK_doK {o : AOp} {e : List (Nat × AV)} {h : Heap} {R : AV → Heap → Esc → Prop} : doK C gl o e h R = gK o.guard e h (opE C o.op (Opd.ev gl e) h) R := by
  obtain ⟨d, g, op⟩ := o
  cases g with
  | none => exact opE_doK
  | some tb =>
    obtain ⟨t, b⟩ := tb
    rw [doK_guard, opE_doK]; rfl
theorem sameN_eq {q : AOp × List (Nat × AV) × AV} {g : Heap} : doS C gl q g = sameN C gl q g := by
  obtain ⟨⟨d, gd, op⟩, e, v⟩ := q
  rw [doS_mk, gK_doK]; rfl
theorem againN_eq {h : Heap} {dn : Done} {Q : Prop} : ∀ {l : List Nat}, againN C gl h dn Q l = (agK C gl h dn l ∧ Q)
  | [] => by simp [againN, agK]
  | j :: r => by
    unfold againN agK
    rw [againN_eq (l := r)]
    cases dn[j]? with
    | none => simp
    | some q => simp only [sameN_eq, and_assoc]
theorem earlyN_eq {o : AOp} {e : List (Nat × AV)} {v : AV} {hs : List Heap} {Q : Prop} : ∀ {l : List Nat}, earlyN C gl o e v hs Q l = (eaK C gl o e v hs l ∧ Q)
  | [] => by simp [earlyN, eaK]
  | j :: r => by
    unfold earlyN eaK
    rw [earlyN_eq (l := r)]
    cases hs[j]? with
    | none => simp
    | some q => simp only [sameN_eq, and_assoc]

theorem gK_mono {g : Option (Nat × Bool)} {e : List (Nat × AV)} {h : Heap} {A : (AV → Heap → Esc → Prop) → Prop} {k k' : AV → Heap → Esc → Prop} (h1 : A k = A k') (h2 : k .skp h [] = k' .skp h []) : gK g e h A k = gK g e h A k' := by
  cases g with
  | none => exact h1
  | some tb => obtain ⟨t, b⟩ := tb; simp only [gK, gV, h1, h2]

/-- A step that leaves the heap needs no check that it does. -/
theorem doK_still {o : AOp} (hs : o.op.still = true) {e : List (Nat × AV)} {h : Heap} {R : AV → Heap → Esc → Prop} : doK C gl o e h (fun v h' y => (h' = h ∧ y = []) ∧ R v h' y) = doK C gl o e h R := by
  unfold doK
  refine propext ⟨fun ⟨v, h', y, H, _, r⟩ => ⟨v, h', y, H, r⟩, fun ⟨v, h', y, H, r⟩ => ⟨v, h', y, H, ADo_still hs H, r⟩⟩

theorem NDraw_eq : ∀ (ds : List DOp) (dn : Done) (hs : List Heap) (e : List (Nat × AV)) (h : Heap) (x : Esc) (L : List (Nat × AV) → Heap → Esc → Prop), ADraw C gl ds dn hs e h x L = NDraw C gl ds dn hs e h x L
  | [], dn, hs, e, h, x, L => rfl
  | ⟨o, rd, eff, early, again⟩ :: r, dn, hs, e, h, x, L => by
    rw [ADraw_cons]
    show _ = gK o.guard (prune (some rd) e) h (opE C o.op (Opd.ev gl (prune (some rd) e)) h) fun v h' y =>
      effN o.op.still eff h h' y (earlyN C gl o (prune (some rd) e) v hs (againN C gl h' dn (NDraw C gl r (dn ++ [(o, prune (some rd) e, v)]) (hs ++ [h]) (put o.dst v e) h' (y ++ x) L) again) early)
    rw [← gK_doK]
    have e1 : drawK C gl ⟨o, rd, eff, early, again⟩ r dn hs e h x L = fun v h' y => (effK eff h h' y ∧ earlyN C gl o (prune (some rd) e) v hs (againN C gl h' dn (NDraw C gl r (dn ++ [(o, prune (some rd) e, v)]) (hs ++ [h]) (put o.dst v e) h' (y ++ x) L) again) early) := by
      funext v h' y
      rw [drawK_all, earlyN_eq, againN_eq, ← NDraw_eq r]
    rw [e1]
    cases eff with
    | true =>
      congr 1; funext v h' y
      simp [effK, effN]
    | false =>
      cases hs' : o.op.still with
      | true =>
        have := doK_still (C := C) (gl := gl) (o := o) hs' (e := prune (some rd) e) (h := h) (R := fun v h' y => earlyN C gl o (prune (some rd) e) v hs (againN C gl h' dn (NDraw C gl r (dn ++ [(o, prune (some rd) e, v)]) (hs ++ [h]) (put o.dst v e) h' (y ++ x) L) again) early)
        exact this
      | false => rfl

/-! ### code -/
def NW (C : Hd) (gl : Nat → Option PV) : ACode → St → (Ex → St → Prop) → Prop
  | .skip, s, K => K .normal s
  | .reg ops keep, s, K => NReg C gl ops s.env s.h s.esc fun e h x => K .normal ⟨prune keep e, h, x⟩
  | .draw ds keep, s, K => NDraw C gl ds [] [] s.env s.h s.esc fun e h x => K .normal ⟨prune keep e, h, x⟩
  | .seq a b, s, K => NW C gl a s fun e s' => match e with
    | .normal => NW C gl b s' K
    | .exit i => K (.exit i) s'
    | .ret => K .ret s'
  | .cond c a b, s, K => condB (Opd.ev gl s.env c) (NW C gl a s K) (NW C gl b s K)
  | .block id b, s, K => NW C gl b s fun e s' => match e with
    | .normal => K .normal s'
    | .exit i => bif Nat.beq i id then K .normal s' else K (.exit i) s'
    | .ret => K .ret s'
  | .loop b, s, K => ALoop (NW C gl b) K s
  | .scope b, s, K => NW C gl b ⟨s.env, s.h, []⟩ fun e s' => K e (trunc s.h.length s.esc s')
  | .pr l b, s, K => NW C gl b ⟨prune (some l) s.env, s.h, s.esc⟩ K
  | .exit id, s, K => K (.exit id) s
  | .ret, s, K => K .ret s
  | .bad, _, _ => False

theorem NW_eq : ∀ (c : ACode) (s : St) (K : Ex → St → Prop), AW C gl c s K = NW C gl c s K
  | .skip, s, K => rfl
  | .reg ops keep, s, K => NReg_eq _ _ _ _ _
  | .draw ds keep, s, K => NDraw_eq _ _ _ _ _ _ _
  | .seq a b, s, K => by
    unfold AW NW
    rw [NW_eq a]
    congr 1; funext e s'
    cases e with
    | normal => exact NW_eq b s' K
    | _ => rfl
  | .cond c a b, s, K => by
    unfold AW NW condB
    rw [← NW_eq a, ← NW_eq b]
    rfl
  | .block id b, s, K => by
    unfold AW NW
    rw [NW_eq b]
    congr 1; funext e s'
    cases e with
    | exit i =>
      dsimp only
      by_cases hi : i = id
      · subst hi; simp
      · rw [if_neg hi]
        have : Nat.beq i id = false := by cases h : Nat.beq i id with | false => rfl | true => exact absurd (Nat.eq_of_beq_eq_true h) hi
        rw [this]; rfl
    | _ => rfl
  | .loop b, s, K => by
    show ALoop (AW C gl b) K s = ALoop (NW C gl b) K s
    rw [show AW C gl b = NW C gl b from funext fun s => funext fun K => NW_eq b s K]
  | .scope b, s, K => NW_eq b _ _
  | .pr l b, s, K => NW_eq b _ _
  | .exit id, s, K => rfl
  | .ret, s, K => rfl
  | .bad, s, K => rfl

end Go.Am
