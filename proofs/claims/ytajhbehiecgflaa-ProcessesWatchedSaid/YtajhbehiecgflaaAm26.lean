/- The abstract machine, part 26: closed calls are computed. -/
import Derived.Test.YtajhbehiecgflaaAm25
set_option linter.unusedSimpArgs false
set_option linter.unusedVariables false
namespace Go.Am

mutual
def PV.same : PV → PV → Bool
  | .int k a, .int k' b => decide (k = k') && decide (a = b)
  | .bool a, .bool b => decide (a = b)
  | .str a, .str b => decide (a = b)
  | .sl s xs, .sl t ys => decide (s = t) && PV.sames xs ys
  | .agg xs, .agg ys => PV.sames xs ys
  | .nilp, .nilp => true
  | _, _ => false
def PV.sames : List PV → List PV → Bool
  | [], [] => true
  | a :: as, b :: bs => PV.same a b && PV.sames as bs
  | _, _ => false
end

mutual
theorem PV.same_eq : ∀ (a b : PV), PV.same a b = true → a = b
  | .int k a, b, h => by
    cases b <;> simp [PV.same] at h
    obtain ⟨h1, h2⟩ := h; subst h1; subst h2; rfl
  | .bool a, b, h => by cases b <;> simp [PV.same] at h; subst h; rfl
  | .str a, b, h => by cases b <;> simp [PV.same] at h; subst h; rfl
  | .sl s xs, b, h => by
    cases b <;> simp [PV.same] at h
    obtain ⟨h1, h2⟩ := h; subst h1; rw [PV.sames_eq _ _ h2]
  | .agg xs, b, h => by
    cases b <;> simp [PV.same] at h
    rw [PV.sames_eq _ _ h]
  | .nilp, b, h => by cases b <;> simp [PV.same] at h; rfl
theorem PV.sames_eq : ∀ (a b : List PV), PV.sames a b = true → a = b
  | [], b, h => by cases b <;> simp [PV.sames] at h; rfl
  | x :: xs, b, h => by
    cases b <;> simp [PV.sames] at h
    rw [PV.same_eq _ _ h.1, PV.sames_eq _ _ h.2]
end

mutual
def AV.same : AV → AV → Bool
  | .p a, .p b => PV.same a b
  | .own a b c d, .own a' b' c' d' => decide (a = a') && decide (b = b') && decide (c = c') && decide (d = d')
  | .sl0 a, .sl0 b => decide (a = b)
  | .ref a b, .ref a' b' => decide (a = a') && decide (b = b')
  | .rref a b c d, .rref a' b' c' d' => decide (a = a') && decide (b = b') && decide (c = c') && decide (d = d')
  | .vp a, .vp b => PV.same a b
  | .nilp, .nilp => true
  | .nilm, .nilm => true
  | .nilf, .nilf => true
  | .nili, .nili => true
  | .ifc, .ifc => true
  | .mp a, .mp b => decide (a = b)
  | .it a, .it b => decide (a = b)
  | .fn a b, .fn a' b' => decide (a = a') && AV.sames b b'
  | .agg a, .agg b => AV.sames a b
  | .tup a, .tup b => AV.sames a b
  | .skp, .skp => true
  | .und, .und => true
  | _, _ => false
def AV.sames : List AV → List AV → Bool
  | [], [] => true
  | a :: as, b :: bs => AV.same a b && AV.sames as bs
  | _, _ => false
end

mutual
theorem AV.same_eq : ∀ (a b : AV), AV.same a b = true → a = b
  | .p a, b, h => by cases b <;> simp [AV.same] at h; rw [PV.same_eq _ _ h]
  | .own _ _ _ _, b, h => by cases b <;> simp [AV.same] at h; simp [h]
  | .sl0 _, b, h => by cases b <;> simp [AV.same] at h; simp [h]
  | .ref _ _, b, h => by cases b <;> simp [AV.same] at h; simp [h]
  | .rref _ _ _ _, b, h => by cases b <;> simp [AV.same] at h; simp [h]
  | .vp a, b, h => by cases b <;> simp [AV.same] at h; rw [PV.same_eq _ _ h]
  | .nilp, b, h => by cases b <;> simp [AV.same] at h; rfl
  | .nilm, b, h => by cases b <;> simp [AV.same] at h; rfl
  | .nilf, b, h => by cases b <;> simp [AV.same] at h; rfl
  | .nili, b, h => by cases b <;> simp [AV.same] at h; rfl
  | .ifc, b, h => by cases b <;> simp [AV.same] at h; rfl
  | .mp _, b, h => by cases b <;> simp [AV.same] at h; simp [h]
  | .it _, b, h => by cases b <;> simp [AV.same] at h; simp [h]
  | .fn _ cs, b, h => by cases b <;> simp [AV.same] at h; rw [h.1, AV.sames_eq _ _ h.2]
  | .agg cs, b, h => by cases b <;> simp [AV.same] at h; rw [AV.sames_eq _ _ h]
  | .tup cs, b, h => by cases b <;> simp [AV.same] at h; rw [AV.sames_eq _ _ h]
  | .skp, b, h => by cases b <;> simp [AV.same] at h; rfl
  | .und, b, h => by cases b <;> simp [AV.same] at h; rfl
theorem AV.sames_eq : ∀ (a b : List AV), AV.sames a b = true → a = b
  | [], b, h => by cases b <;> simp [AV.sames] at h; rfl
  | x :: xs, b, h => by
    cases b <;> simp [AV.sames] at h
    rw [AV.same_eq _ _ h.1, AV.sames_eq _ _ h.2]
end

abbrev EvC := Nat → List AV → Heap → Option (AV × Heap × Esc)

def evDo (C : EvC) (gl : Nat → Option PV) (o : AOp) (e : List (Nat × AV)) (h : Heap) : Option (AV × Heap × Esc) := match wanted o.guard e with
  | some true => match o.op with
    | .call f args => C f (args.map (Opd.ev gl e)) h
    | .callv f args => match Opd.ev gl e f with
      | .fn g caps => C g (args.map (Opd.ev gl e) ++ caps) h
      | _ => none
    | .mnext _ => none
    | op => aop op (Opd.ev gl e) h
  | some false => some (.skp, h, [])
  | none => none

def evReg (C : EvC) (gl : Nat → Option PV) : List AOp → List (Nat × AV) → Heap → Esc → Option (List (Nat × AV) × Heap × Esc)
  | [], e, h, x => some (e, h, x)
  | o :: r, e, h, x => match evDo C gl o e h with
    | some (v, h', x') => evReg C gl r (put o.dst v e) h' (x' ++ x)
    | none => none

/-- Does this operation yield the same value elsewhere? -/
def evSame (C : EvC) (gl : Nat → Option PV) (o : AOp) (e : List (Nat × AV)) (g : Heap) (v : AV) : Bool := match evDo C gl o e g with
  | some (v', _, y) => AV.same v' v && y.isEmpty
  | none => false

/-- Operations that leave any heap as it is. -/
def AO.still : AO → Bool
  | .mv _ | .pick _ _ _ | .build _ _ | .load _ _ | .nilchk _ | .bin _ _ _ | .eqa _ _ _ _ | .isnil _ _ _ | .mkif _ | .un _ _ | .mkfn _ _ | .slice _ _ _ _ _ | .slstr _ _ _ | .faddr _ _ _ | .field _ _ _ | .iaddr _ _ _
  | .iaddra _ _ _ _ | .idxa _ _ _ _ | .idxs _ _ | .look _ _ _ _ | .ext _ _ | .len _ | .lens _ | .lenm _ | .mx _ | .mn _ => true
  | _ => false

def evDraw (C : EvC) (gl : Nat → Option PV) : List DOp → Done → List Heap → List (Nat × AV) → Heap → Esc → Option (List (Nat × AV) × Heap × Esc)
  | [], _, _, e, h, x => some (e, h, x)
  | o :: r, dn, hs, e, h, x => match evDo C gl o.op (prune (some o.rd) e) h with
    | some (v, h', y) =>
      if (o.eff || o.op.op.still) && (o.early.isEmpty || o.op.op.still && o.early.all fun k => match hs[k]? with | some g => evSame C gl o.op (prune (some o.rd) e) g v | none => false)
        && (o.again.all fun j => match dn[j]? with | some q => q.1.op.still && evSame C gl q.1 q.2.1 h' q.2.2 | none => false) then
        evDraw C gl r (dn ++ [(o.op, prune (some o.rd) e, v)]) (hs ++ [h]) (put o.op.dst v e) h' (y ++ x)
      else none
    | none => none

def evLoop (T : St → Option (Ex × St)) : Nat → St → Option (Ex × St)
  | 0, _ => none
  | n + 1, s => match T s with
    | some (.normal, s') => evLoop T n s'
    | r => r

def evCode (C : EvC) (gl : Nat → Option PV) (n : Nat) : ACode → St → Option (Ex × St)
  | .skip, s => some (.normal, s)
  | .reg ops keep, s => match evReg C gl ops s.env s.h s.esc with
    | some (e, h, x) => some (.normal, ⟨prune keep e, h, x⟩)
    | none => none
  | .draw ds keep, s => match evDraw C gl ds [] [] s.env s.h s.esc with
    | some (e, h, x) => some (.normal, ⟨prune keep e, h, x⟩)
    | none => none
  | .seq a b, s => match evCode C gl n a s with
    | some (.normal, s') => evCode C gl n b s'
    | r => r
  | .cond c a b, s => match Opd.ev gl s.env c with
    | .p (.bool t) => match t with
      | true => evCode C gl n a s
      | false => evCode C gl n b s
    | _ => none
  | .block id b, s => match evCode C gl n b s with
    | some (.exit i, s') => if i = id then some (.normal, s') else some (.exit i, s')
    | r => r
  | .loop b, s => evLoop (evCode C gl n b) n s
  | .scope b, s => match evCode C gl n b ⟨s.env, s.h, []⟩ with
    | some (e, s') => some (e, trunc s.h.length s.esc s')
    | none => none
  | .pr l b, s => evCode C gl n b ⟨prune (some l) s.env, s.h, s.esc⟩
  | .exit id, s => some (.exit id, s)
  | .ret, s => some (.ret, s)
  | .bad, _ => none

def evFin (F : AFun) (b : Nat) (s : St) : Option (AV × Heap × Esc) := match aresAll s F.results with
  | some vs => match F.keep with
    | true =>
      let n := close s.esc.length s.esc (max b (oneOf vs).top)
      if closed s.esc n then some (oneOf vs, s.h.take n, s.esc.filter fun y => decide (y.1 < n)) else some (oneOf vs, s.h, s.esc)
    | false => match reif b s.h (oneOf vs) with
      | some v0 =>
        let n := close s.esc.length s.esc (max b v0.top)
        if closed s.esc n then match reif n s.h (oneOf vs) with
          | some v => if v.top ≤ n then some (v, s.h.take n, s.esc.filter fun y => decide (y.1 < n)) else none
          | none => none
        else some (oneOf vs, s.h, s.esc)
      | none => none
  | none => none

def evBody (C : EvC) (gl : Nat → Option PV) (n : Nat) (F : AFun) (args : List AV) (h : Heap) : Option (AV × Heap × Esc) :=
  match (if F.byref then some (args, h) else puras h args) with
  | some (as, h1) => if as.length = F.nparams then match evCode C gl n F.body ⟨enter as, h1, []⟩ with
    | some (.exit _, _) => none
    | some (_, s) => evFin F h.length s
    | none => none
    else none
  | none => none

def evCall (X : Ctx) (n : Nat) : Nat → EvC
  | 0, _, _, _ => none
  | d + 1, f, a, h => match X.fn f with
    | some F => evBody (evCall X n d) X.gl n F a h
    | none => match puras h a with
      | some (as, h1) => match unp as with
        | some vs => match X.ext f vs with
          | some r => some (.p r, h1, [])
          | none => none
        | none => none
      | none => none

def EvOk (C' : EvC) (C : Hd) : Prop := ∀ f a h v h' x (K : Post), C' f a h = some (v, h', x) → K v h' x → C f a h K

variable {C' : EvC} {C : Hd} {gl : Nat → Option PV}

theorem evDo_ok (hC : EvOk C' C) {o : AOp} {e : List (Nat × AV)} {h h' : Heap} {v : AV} {x : Esc} (H : evDo C' gl o e h = some (v, h', x)) : ADo C gl o e h v h' x := by
  unfold evDo at H
  unfold ADo
  split at H
  · rename_i hw
    simp only [hw]
    obtain ⟨dst, guard, op⟩ := o
    cases op
    case call f args => exact hC _ _ _ _ _ _ _ H ⟨rfl, rfl, rfl⟩
    case callv f args =>
      dsimp only at H ⊢
      split at H
      · rename_i hf
        simp only [hf]
        exact hC _ _ _ _ _ _ _ H ⟨rfl, rfl, rfl⟩
      · cases H
    case mnext i => cases H
    all_goals exact H
  · rename_i hw
    simp only [hw]
    injection H with H
    injection H with h1 H
    injection H with h2 h3
    exact ⟨h1.symm, h2.symm, h3.symm⟩
  · cases H

theorem evReg_ok (hC : EvOk C' C) : ∀ (ops : List AOp) e h x e' h' x' (K : List (Nat × AV) → Heap → Esc → Prop), evReg C' gl ops e h x = some (e', h', x') → K e' h' x' → AReg C gl ops e h x K
  | [], e, h, x, e', h', x', K, H, hK => by
    simp only [evReg, Option.some.injEq, Prod.mk.injEq] at H
    obtain ⟨rfl, rfl, rfl⟩ := H
    exact hK
  | o :: r, e, h, x, e', h', x', K, H, hK => by
    unfold evReg at H
    split at H
    · rename_i v h1 x1 hd
      have ih := evReg_ok hC r _ _ _ _ _ _ K H hK
      unfold evDo at hd
      unfold AReg
      split at hd
      · rename_i hw
        simp only [hw]
        obtain ⟨dst, guard, op⟩ := o
        cases op
        case call f args => exact hC _ _ _ _ _ _ _ hd ih
        case callv f args =>
          dsimp only at hd ⊢
          split at hd
          · rename_i hf
            simp only [hf]
            exact hC _ _ _ _ _ _ _ hd ih
          · cases hd
        case mnext i => cases hd
        all_goals
          dsimp only at hd ⊢
          rw [hd]
          exact ih
      · rename_i hw
        simp only [hw]
        injection hd with hd
        injection hd with h1 hd
        injection hd with h2 h3
        subst h1; subst h2; subst h3
        exact ih
      · cases hd
    · cases H

theorem aop_still {o : AO} (hs : o.still = true) {ev : Opd → AV} {h h' : Heap} {v : AV} {x : Esc} (H : aop o ev h = some (v, h', x)) : h' = h ∧ x = [] := by
  cases o <;> first | (cases hs; done) | skip
  all_goals
    unfold aop at H
    dsimp only at H
    repeat' split at H
    all_goals first
      | (cases H; done)
      | (simp only [Option.some.injEq, Prod.mk.injEq] at H; obtain ⟨_, rfl, rfl⟩ := H; exact ⟨rfl, rfl⟩)
      | (simp only [Option.map_eq_some_iff, Prod.mk.injEq] at H; obtain ⟨_, _, _, rfl, rfl⟩ := H; exact ⟨rfl, rfl⟩)

theorem ADo_still {o : AOp} (hs : o.op.still = true) {e : List (Nat × AV)} {h h' : Heap} {v : AV} {x : Esc} (H : ADo C gl o e h v h' x) : h' = h ∧ x = [] := by
  unfold ADo at H
  split at H
  · obtain ⟨dst, guard, op⟩ := o
    cases op <;> first | (cases hs; done) | exact aop_still hs H
  · exact H.2
  · exact H.elim

theorem evSame_ok (hC : EvOk C' C) {o : AOp} (hs : o.op.still = true) {e : List (Nat × AV)} {g : Heap} {v : AV} (H : evSame C' gl o e g v = true) : ADo C gl o e g v g [] := by
  unfold evSame at H
  split at H
  · rename_i v' g' y hd
    simp only [Bool.and_eq_true] at H
    have h1 := AV.same_eq _ _ H.1
    have := evDo_ok (C := C) hC hd
    obtain ⟨e1, e2⟩ := ADo_still hs this
    subst e1; subst e2; subst h1
    exact this
  · cases H

theorem evDraw_ok (hC : EvOk C' C) : ∀ (ds : List DOp) dn hs e h x e' h' x' (K : List (Nat × AV) → Heap → Esc → Prop), evDraw C' gl ds dn hs e h x = some (e', h', x') → K e' h' x' → ADraw C gl ds dn hs e h x K
  | [], dn, hs, e, h, x, e', h', x', K, H, hK => by
    simp only [evDraw, Option.some.injEq, Prod.mk.injEq] at H
    obtain ⟨rfl, rfl, rfl⟩ := H
    exact hK
  | o :: r, dn, hs, e, h, x, e', h', x', K, H, hK => by
    unfold evDraw at H
    split at H
    · rename_i v h1 y hd
      split at H
      · rename_i hc
        simp only [Bool.and_eq_true, Bool.or_eq_true, List.all_eq_true] at hc
        obtain ⟨⟨c1, c2⟩, c3⟩ := hc
        have hdo := evDo_ok (C := C) hC hd
        refine ⟨v, h1, y, hdo, fun he => ?_, fun k hk => ?_, fun j hj => ?_, evDraw_ok hC r _ _ _ _ _ _ _ _ K H hK⟩
        · rcases c1 with c1 | c1
          · rw [c1] at he; cases he
          · exact ADo_still c1 hdo
        · rcases c2 with c2 | ⟨c2, c2'⟩
          · rw [List.isEmpty_iff] at c2; rw [c2] at hk; cases hk
          · have := c2' k hk
            split at this
            · rename_i g hg
              exact ⟨g, hg, evSame_ok hC c2 this⟩
            · cases this
        · have := c3 j hj
          split at this
          · rename_i q hq
            simp only [Bool.and_eq_true] at this
            exact ⟨q, hq, evSame_ok hC this.1 this.2⟩
          · cases this
      · cases H
    · cases H

theorem evLoop_ok {T' : St → Option (Ex × St)} {T : St → (Ex → St → Prop) → Prop} (hT : ∀ s e s' K, T' s = some (e, s') → K e s' → T s K) : ∀ n s e s' K, evLoop T' n s = some (e, s') → K e s' → ALoop T K s
  | 0, s, e, s', K, H, hK => by cases H
  | n + 1, s, e, s', K, H, hK => by
    unfold evLoop at H
    split at H
    · rename_i s1 h1
      refine .mk s (fun e2 s2 => e2 = .normal ∧ s2 = s1) (hT _ _ _ _ h1 ⟨rfl, rfl⟩) (fun s2 ⟨_, h2⟩ => ?_) (fun i s2 ⟨h2, _⟩ => by cases h2) (fun s2 ⟨h2, _⟩ => by cases h2)
      subst h2
      exact evLoop_ok hT n _ _ _ K H hK
    · rename_i hne
      have hne' : e ≠ .normal := fun he => by subst he; exact hne _ H
      refine .mk s (fun e2 s2 => e2 = e ∧ s2 = s') (hT _ _ _ _ H ⟨rfl, rfl⟩) (fun s2 ⟨h2, _⟩ => (hne' h2.symm).elim) (fun i s2 ⟨h2, h3⟩ => by subst h3; rw [h2]; exact hK) (fun s2 ⟨h2, h3⟩ => by subst h3; rw [h2]; exact hK)

theorem evCode_ok (hC : EvOk C' C) (n : Nat) : ∀ (c : ACode) s e s' (K : Ex → St → Prop), evCode C' gl n c s = some (e, s') → K e s' → AW C gl c s K
  | .skip, s, e, s', K, H, hK => by
    simp only [evCode, Option.some.injEq, Prod.mk.injEq] at H
    obtain ⟨rfl, rfl⟩ := H; exact hK
  | .reg ops keep, s, e, s', K, H, hK => by
    unfold evCode at H
    split at H
    · rename_i h1
      simp only [Option.some.injEq, Prod.mk.injEq] at H
      obtain ⟨rfl, rfl⟩ := H
      exact evReg_ok hC _ _ _ _ _ _ _ _ h1 hK
    · cases H
  | .draw ds keep, s, e, s', K, H, hK => by
    unfold evCode at H
    split at H
    · rename_i h1
      simp only [Option.some.injEq, Prod.mk.injEq] at H
      obtain ⟨rfl, rfl⟩ := H
      exact evDraw_ok hC _ _ _ _ _ _ _ _ _ _ h1 hK
    · cases H
  | .seq a b, s, e, s', K, H, hK => by
    unfold evCode at H
    unfold AW
    split at H
    · rename_i s1 h1
      exact evCode_ok hC n a s _ _ _ h1 (evCode_ok hC n b _ _ _ K H hK)
    · rename_i hne
      have hne' : e ≠ .normal := fun he => by subst he; exact hne _ H
      refine evCode_ok hC n a s _ _ _ H ?_
      cases e with
      | normal => exact (hne' rfl).elim
      | exit i => exact hK
      | ret => exact hK
  | .cond c a b, s, e, s', K, H, hK => by
    unfold evCode at H
    unfold AW
    split at H
    · rename_i t ht
      simp only [ht]
      split at H
      · exact evCode_ok hC n a s _ _ _ H hK
      · exact evCode_ok hC n b s _ _ _ H hK
    · cases H
  | .block id b, s, e, s', K, H, hK => by
    unfold evCode at H
    unfold AW
    split at H
    · rename_i i s1 h1
      refine evCode_ok hC n b s _ _ _ h1 ?_
      dsimp only
      split at H
      · rw [if_pos ‹_›]
        simp only [Option.some.injEq, Prod.mk.injEq] at H
        obtain ⟨rfl, rfl⟩ := H; exact hK
      · rw [if_neg ‹_›]
        simp only [Option.some.injEq, Prod.mk.injEq] at H
        obtain ⟨rfl, rfl⟩ := H; exact hK
    · rename_i hne
      refine evCode_ok hC n b s _ _ _ H ?_
      cases e with
      | normal => exact hK
      | exit i => exact (hne _ _ H).elim
      | ret => exact hK
  | .loop b, s, e, s', K, H, hK => by
    unfold evCode at H
    unfold AW
    exact evLoop_ok (fun s e s' K h k => evCode_ok hC n b s e s' K h k) n s e s' K H hK
  | .scope b, s, e, s', K, H, hK => by
    unfold evCode at H
    unfold AW
    split at H
    · rename_i e1 s1 h1
      simp only [Option.some.injEq, Prod.mk.injEq] at H
      obtain ⟨rfl, rfl⟩ := H
      exact evCode_ok hC n b _ _ _ _ h1 hK
    · cases H
  | .pr l b, s, e, s', K, H, hK => by
    unfold evCode at H
    unfold AW
    exact evCode_ok hC n b _ _ _ K H hK
  | .exit id, s, e, s', K, H, hK => by
    simp only [evCode, Option.some.injEq, Prod.mk.injEq] at H
    obtain ⟨rfl, rfl⟩ := H; exact hK
  | .ret, s, e, s', K, H, hK => by
    simp only [evCode, Option.some.injEq, Prod.mk.injEq] at H
    obtain ⟨rfl, rfl⟩ := H; exact hK
  | .bad, s, e, s', K, H, hK => by simp only [evCode] at H; cases H

theorem evFin_ok {F : AFun} {b : Nat} {s : St} {v : AV} {h : Heap} {x : Esc} {K : Post} (H : evFin F b s = some (v, h, x)) (hK : K v h x) : fin F b s K := by
  unfold evFin at H
  unfold fin
  split at H
  · rename_i h1
    simp only [h1]
    split at H
    · rename_i h2
      simp only [h2]
      dsimp only at H ⊢
      split at H
      · rw [if_pos ‹_›]; simp only [Option.some.injEq, Prod.mk.injEq] at H; obtain ⟨rfl, rfl, rfl⟩ := H; exact hK
      · rw [if_neg ‹_›]; simp only [Option.some.injEq, Prod.mk.injEq] at H; obtain ⟨rfl, rfl, rfl⟩ := H; exact hK
    · rename_i h2
      simp only [h2]
      split at H
      · rename_i h3
        simp only [h3]
        dsimp only at H ⊢
        split at H
        · rw [if_pos ‹_›]
          split at H
          · rename_i h4
            simp only [h4]
            split at H
            · simp only [Option.some.injEq, Prod.mk.injEq] at H; obtain ⟨rfl, rfl, rfl⟩ := H; exact ⟨‹_›, hK⟩
            · cases H
          · cases H
        · rw [if_neg ‹_›]; simp only [Option.some.injEq, Prod.mk.injEq] at H; obtain ⟨rfl, rfl, rfl⟩ := H; exact hK
      · cases H
  · cases H

theorem evBody_ok (hC : EvOk C' C) {n : Nat} {F : AFun} {a : List AV} {h : Heap} {v : AV} {h' : Heap} {x : Esc} {K : Post} (H : evBody C' gl n F a h = some (v, h', x)) (hK : K v h' x) : abody C gl F a h K := by
  unfold evBody at H
  unfold abody
  split at H
  · rename_i as h1 hp
    simp only [hp]
    split at H
    · rename_i hl
      refine ⟨hl, ?_⟩
      cases he : evCode C' gl n F.body ⟨enter as, h1, []⟩ with
      | none => rw [he] at H; cases H
      | some y =>
        obtain ⟨e, s⟩ := y
        rw [he] at H
        refine evCode_ok hC n _ _ _ _ _ he ?_
        cases e with
        | exit i => cases H
        | normal => exact evFin_ok H hK
        | ret => exact evFin_ok H hK
    · cases H
  · cases H

theorem evCall_ok (X : Ctx) (n : Nat) : ∀ d, EvOk (evCall X n d) (ACall X)
  | 0, f, a, h, v, h', x, K, H, hK => by cases H
  | d + 1, f, a, h, v, h', x, K, H, hK => by
    refine ACall.fold ?_
    unfold evCall at H
    unfold Step
    split at H
    · rename_i F hF
      simp only [hF]
      exact evBody_ok (evCall_ok X n d) H hK
    · rename_i hF
      simp only [hF]
      split at H
      · rename_i hp
        simp only [hp]
        split at H
        · rename_i hu
          simp only [hu]
          split at H
          · rename_i hx
            simp only [hx]
            simp only [Option.some.injEq, Prod.mk.injEq] at H
            obtain ⟨rfl, rfl, rfl⟩ := H; exact hK
          · cases H
        · cases H
      · cases H

/-- A closed call, computed. -/
theorem ACall_ev {X : Ctx} {f : Nat} {a : List AV} {h : Heap} {v : AV} {h' : Heap} {x : Esc} (n d : Nat) (H : evCall X n d f a h = some (v, h', x)) (K : Post) : ACall X f a h K ↔ K v h' x :=
  ACall.eq (evCall_ok X n d _ _ _ _ _ _ _ H ⟨rfl, rfl, rfl⟩) K

end Go.Am
