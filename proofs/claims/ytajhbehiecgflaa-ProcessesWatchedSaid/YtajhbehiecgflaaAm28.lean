/- The abstract machine, part 28: where no map is ranged over, a call that ends well ends in one way. -/
import Derived.Test.YtajhbehiecgflaaAm27
set_option linter.unusedSimpArgs false
set_option linter.unusedVariables false
namespace Go.Am

def AO.noNext : AO → Bool
  | .mnext _ => false
  | _ => true

def ACode.noNext : ACode → Bool
  | .reg ops _ => ops.all fun o => o.op.noNext
  | .seq a b => a.noNext && b.noNext
  | .cond _ a b => a.noNext && b.noNext
  | .block _ b => b.noNext
  | .loop b => b.noNext
  | .scope b => b.noNext
  | .pr _ b => b.noNext
  | _ => true

def Dt (C D : Hd) : Prop := ∀ f a h K, C f a h K → ∃ v h' x, K v h' x ∧ D f a h fun v1 h1 x1 => v1 = v ∧ h1 = h' ∧ x1 = x

variable {C D : Hd} {gl : Nat → Option PV}

theorem AReg_det (hD : D.Mono) (hC : Dt C D) : ∀ (ops : List AOp) e h x K, (ops.all fun o => o.op.noNext) = true → AReg C gl ops e h x K → ∃ e' h' x', K e' h' x' ∧ AReg D gl ops e h x fun e1 h1 x1 => e1 = e' ∧ h1 = h' ∧ x1 = x'
  | [], e, h, x, K, _, H => ⟨e, h, x, H, rfl, rfl, rfl⟩
  | o :: r, e, h, x, K, hn, H => by
    obtain ⟨dst, guard, op⟩ := o
    simp only [List.all_cons, Bool.and_eq_true] at hn
    obtain ⟨hn1, hn2⟩ := hn
    unfold AReg at H
    dsimp only at H
    split at H
    · rename_i hw
      cases op
      case call f args =>
        obtain ⟨v, h', x', H', G'⟩ := hC _ _ _ _ H
        obtain ⟨e2, h2, x2, k2, g2⟩ := AReg_det hD hC r _ _ _ K hn2 H'
        refine ⟨e2, h2, x2, k2, ?_⟩
        unfold AReg; simp only [hw]
        exact hD _ _ _ _ _ (fun v1 h1 x1 ⟨a1, a2, a3⟩ => by subst a1; subst a2; subst a3; exact g2) G'
      case callv f args =>
        dsimp only at H
        split at H
        · rename_i hf
          obtain ⟨v, h', x', H', G'⟩ := hC _ _ _ _ H
          obtain ⟨e2, h2, x2, k2, g2⟩ := AReg_det hD hC r _ _ _ K hn2 H'
          refine ⟨e2, h2, x2, k2, ?_⟩
          unfold AReg; simp only [hw, hf]
          exact hD _ _ _ _ _ (fun v1 h1 x1 ⟨a1, a2, a3⟩ => by subst a1; subst a2; subst a3; exact g2) G'
        · exact H.elim
      case mnext i => simp [AO.noNext] at hn1
      all_goals
        dsimp only at H
        split at H
        · rename_i ha
          obtain ⟨e2, h2, x2, k2, g2⟩ := AReg_det hD hC r _ _ _ K hn2 H
          refine ⟨e2, h2, x2, k2, ?_⟩
          unfold AReg; simp only [hw, ha]
          exact g2
        · exact H.elim
    · rename_i hw
      obtain ⟨e2, h2, x2, k2, g2⟩ := AReg_det hD hC r _ _ _ K hn2 H
      refine ⟨e2, h2, x2, k2, ?_⟩
      unfold AReg; simp only [hw]
      exact g2
    · exact H.elim

theorem ADo_of_det (hD : D.Mono) (hC : Dt C D) {o : AOp} {e : List (Nat × AV)} {h h' : Heap} {v : AV} {x : Esc} (H : ADo C gl o e h v h' x) : ADo D gl o e h v h' x := by
  have key : ∀ f a h, C f a h (fun v1 h1 x1 => v1 = v ∧ h1 = h' ∧ x1 = x) → D f a h (fun v1 h1 x1 => v1 = v ∧ h1 = h' ∧ x1 = x) := fun f a h hc => by
    obtain ⟨v2, h2, x2, ⟨e1, e2, e3⟩, hd⟩ := hC _ _ _ _ hc
    subst e1; subst e2; subst e3
    exact hd
  unfold ADo at H ⊢
  split at H
  · split at H
    · exact key _ _ _ H
    · split at H
      · exact key _ _ _ H
      · exact H.elim
    · exact H.elim
    · exact H
  · exact H
  · exact H.elim

theorem ADraw_det (hD : D.Mono) (hC : Dt C D) : ∀ (ds : List DOp) dn hs e h x K, ADraw C gl ds dn hs e h x K → ∃ e' h' x', K e' h' x' ∧ ADraw D gl ds dn hs e h x fun e1 h1 x1 => e1 = e' ∧ h1 = h' ∧ x1 = x'
  | [], dn, hs, e, h, x, K, H => ⟨e, h, x, H, rfl, rfl, rfl⟩
  | o :: r, dn, hs, e, h, x, K, H => by
    obtain ⟨v, h', y, h1, h2, h3, h4, h5⟩ := H
    obtain ⟨e2, q2, x2, k2, g2⟩ := ADraw_det hD hC r _ _ _ _ _ K h5
    exact ⟨e2, q2, x2, k2, v, h', y, ADo_of_det hD hC h1, h2, fun k hk => by obtain ⟨g, a1, a2⟩ := h3 k hk; exact ⟨g, a1, ADo_of_det hD hC a2⟩,
      fun j hj => by obtain ⟨q, a1, a2⟩ := h4 j hj; exact ⟨q, a1, ADo_of_det hD hC a2⟩, g2⟩

theorem ALoop_det {T U : St → (Ex → St → Prop) → Prop} (hT : ∀ s K, T s K → ∃ e s', K e s' ∧ U s fun e1 s1 => e1 = e ∧ s1 = s') {K : Ex → St → Prop} {s : St} (H : ALoop T K s) : ∃ e s', K e s' ∧ ALoop U (fun e1 s1 => e1 = e ∧ s1 = s') s := by
  induction H with
  | mk s R h hn he hr ih =>
    obtain ⟨e, s', hR, hU⟩ := hT _ _ h
    cases e with
    | normal =>
      obtain ⟨e2, s2, k2, g2⟩ := ih s' hR
      exact ⟨e2, s2, k2, .mk _ _ hU (fun s1 ⟨_, h1⟩ => by subst h1; exact g2) (fun i s1 ⟨h1, _⟩ => by cases h1) (fun s1 ⟨h1, _⟩ => by cases h1)⟩
    | exit i => exact ⟨_, _, he i s' hR, .mk _ _ hU (fun s1 ⟨h1, _⟩ => by cases h1) (fun j s1 h1 => h1) (fun s1 ⟨h1, _⟩ => by cases h1)⟩
    | ret => exact ⟨_, _, hr s' hR, .mk _ _ hU (fun s1 ⟨h1, _⟩ => by cases h1) (fun j s1 ⟨h1, _⟩ => by cases h1) (fun s1 h1 => h1)⟩

theorem AW_det (hD : D.Mono) (hC : Dt C D) : ∀ (c : ACode), c.noNext = true → ∀ s K, AW C gl c s K → ∃ e s', K e s' ∧ AW D gl c s fun e1 s1 => e1 = e ∧ s1 = s'
  | .skip, _, s, K, H => ⟨_, _, H, rfl, rfl⟩
  | .reg ops keep, hn, s, K, H => by
    obtain ⟨e, h, x, h1, h2⟩ := AReg_det hD hC ops _ _ _ _ hn H
    refine ⟨_, _, h1, ?_⟩
    show AReg D gl ops s.env s.h s.esc fun e1 h1 x1 => _
    exact AReg_mono (C := D) (C' := D) (fun f a h K K' hK h => hD _ _ _ _ _ hK h) ops _ _ _ _ _ (fun e1 h1 x1 ⟨a1, a2, a3⟩ => by subst a1; subst a2; subst a3; exact ⟨rfl, rfl⟩) h2
  | .draw ds keep, _, s, K, H => by
    obtain ⟨e, h, x, h1, h2⟩ := ADraw_det hD hC ds _ _ _ _ _ _ H
    refine ⟨_, _, h1, ?_⟩
    show ADraw D gl ds [] [] s.env s.h s.esc fun e1 h1 x1 => _
    exact ADraw_mono (C := D) (C' := D) (fun f a h K K' hK h => hD _ _ _ _ _ hK h) ds _ _ _ _ _ _ _ (fun e1 h1 x1 ⟨a1, a2, a3⟩ => by subst a1; subst a2; subst a3; exact ⟨rfl, rfl⟩) h2
  | .seq a b, hn, s, K, H => by
    simp only [ACode.noNext, Bool.and_eq_true] at hn
    obtain ⟨e, s', h1, h2⟩ := AW_det hD hC a hn.1 _ _ H
    have mono := fun (K K' : Ex → St → Prop) (hK : ∀ e s, K e s → K' e s) => AW_mono (C := D) (C' := D) (gl := gl) (fun f a h K K' hK h => hD _ _ _ _ _ hK h) a s K K' hK
    cases e with
    | normal =>
      obtain ⟨e2, s2, k2, g2⟩ := AW_det hD hC b hn.2 _ _ h1
      refine ⟨e2, s2, k2, mono _ _ (fun e1 s1 ⟨a1, a2⟩ => ?_) h2⟩
      subst a1; subst a2; exact g2
    | exit i => exact ⟨_, _, h1, mono _ _ (fun e1 s1 ⟨a1, a2⟩ => by subst a1; subst a2; exact ⟨rfl, rfl⟩) h2⟩
    | ret => exact ⟨_, _, h1, mono _ _ (fun e1 s1 ⟨a1, a2⟩ => by subst a1; subst a2; exact ⟨rfl, rfl⟩) h2⟩
  | .cond c a b, hn, s, K, H => by
    simp only [ACode.noNext, Bool.and_eq_true] at hn
    unfold AW at H
    split at H
    · rename_i t ht
      split at H
      · obtain ⟨e, s', h1, h2⟩ := AW_det hD hC a hn.1 _ _ H
        refine ⟨e, s', h1, ?_⟩
        unfold AW; simp only [ht]; exact h2
      · obtain ⟨e, s', h1, h2⟩ := AW_det hD hC b hn.2 _ _ H
        refine ⟨e, s', h1, ?_⟩
        unfold AW; simp only [ht]; exact h2
    · exact H.elim
  | .block id b, hn, s, K, H => by
    obtain ⟨e, s', h1, h2⟩ := AW_det hD hC b hn _ _ H
    have mono := fun (K K' : Ex → St → Prop) (hK : ∀ e s, K e s → K' e s) => AW_mono (C := D) (C' := D) (gl := gl) (fun f a h K K' hK h => hD _ _ _ _ _ hK h) b s K K' hK
    cases e with
    | normal => exact ⟨_, _, h1, mono _ _ (fun e1 s1 ⟨a1, a2⟩ => by subst a1; subst a2; exact ⟨rfl, rfl⟩) h2⟩
    | exit i =>
      dsimp only at h1
      split at h1
      · rename_i hi
        exact ⟨_, _, h1, mono _ _ (fun e1 s1 ⟨a1, a2⟩ => by subst a1; subst a2; dsimp only; rw [if_pos hi]; exact ⟨rfl, rfl⟩) h2⟩
      · rename_i hi
        exact ⟨_, _, h1, mono _ _ (fun e1 s1 ⟨a1, a2⟩ => by subst a1; subst a2; dsimp only; rw [if_neg hi]; exact ⟨rfl, rfl⟩) h2⟩
    | ret => exact ⟨_, _, h1, mono _ _ (fun e1 s1 ⟨a1, a2⟩ => by subst a1; subst a2; exact ⟨rfl, rfl⟩) h2⟩
  | .loop b, hn, s, K, H => ALoop_det (fun s K h => AW_det hD hC b hn s K h) H
  | .scope b, hn, s, K, H => by
    obtain ⟨e, s', h1, h2⟩ := AW_det hD hC b hn _ _ H
    exact ⟨_, _, h1, AW_mono (C := D) (C' := D) (gl := gl) (fun f a h K K' hK h => hD _ _ _ _ _ hK h) b _ _ _ (fun e1 s1 ⟨a1, a2⟩ => by subst a1; subst a2; exact ⟨rfl, rfl⟩) h2⟩
  | .pr l b, hn, s, K, H => AW_det hD hC b hn _ K H
  | .exit id, _, s, K, H => ⟨_, _, H, rfl, rfl⟩
  | .ret, _, s, K, H => ⟨_, _, H, rfl, rfl⟩
  | .bad, _, s, K, H => H.elim

theorem fin_det {F : AFun} {b : Nat} {s : St} {K : Post} (H : fin F b s K) : ∃ v h x, K v h x ∧ fin F b s fun v1 h1 x1 => v1 = v ∧ h1 = h ∧ x1 = x := by
  unfold fin at H
  cases h1 : aresAll s F.results with
  | none => rw [h1] at H; exact H.elim
  | some vs =>
    rw [h1] at H
    dsimp only at H
    cases h2 : F.keep with
    | true =>
      rw [h2] at H
      dsimp only at H
      by_cases h3 : closed s.esc (close (List.length s.esc) s.esc (max b (oneOf vs).top)) = true
      · rw [if_pos h3] at H
        exact ⟨_, _, _, H, by unfold fin; rw [h1]; dsimp only; rw [h2]; dsimp only; rw [if_pos h3]; exact ⟨rfl, rfl, rfl⟩⟩
      · rw [if_neg h3] at H
        exact ⟨_, _, _, H, by unfold fin; rw [h1]; dsimp only; rw [h2]; dsimp only; rw [if_neg h3]; exact ⟨rfl, rfl, rfl⟩⟩
    | false =>
      rw [h2] at H
      dsimp only at H
      cases h4 : reif b s.h (oneOf vs) with
      | none => rw [h4] at H; exact H.elim
      | some v0 =>
        rw [h4] at H
        dsimp only at H
        by_cases h3 : closed s.esc (close (List.length s.esc) s.esc (max b v0.top)) = true
        · rw [if_pos h3] at H
          cases h5 : reif (close (List.length s.esc) s.esc (max b v0.top)) s.h (oneOf vs) with
          | none => rw [h5] at H; exact H.elim
          | some v =>
            rw [h5] at H
            exact ⟨_, _, _, H.2, by unfold fin; rw [h1]; dsimp only; rw [h2]; dsimp only; rw [h4]; dsimp only; rw [if_pos h3, h5]; exact ⟨H.1, rfl, rfl, rfl⟩⟩
        · rw [if_neg h3] at H
          exact ⟨_, _, _, H, by unfold fin; rw [h1]; dsimp only; rw [h2]; dsimp only; rw [h4]; dsimp only; rw [if_neg h3]; exact ⟨rfl, rfl, rfl⟩⟩

def Ctx.NoNext (X : Ctx) : Prop := ∀ f F, X.fn f = some F → F.body.noNext = true

theorem ACall_det {X : Ctx} (hX : X.NoNext) : Dt (ACall X) (ACall X) := by
  intro f a h K H
  refine H (fun f a h K => ∃ v h' x, K v h' x ∧ ACall X f a h fun v1 h1 x1 => v1 = v ∧ h1 = h' ∧ x1 = x) ?_ ?_
  · intro f a h K K' hK ⟨v, h', x, k, g⟩
    exact ⟨v, h', x, hK _ _ _ k, g⟩
  · intro f a h K H
    have hC : Dt (fun f a h K => ∃ v h' x, K v h' x ∧ ACall X f a h fun v1 h1 x1 => v1 = v ∧ h1 = h' ∧ x1 = x) (ACall X) := fun f a h K H => H
    have hD := ACall.mono X
    unfold Step at H
    split at H
    · rename_i F hF
      unfold abody at H
      split at H
      · rename_i as h1 hp
        obtain ⟨hl, H⟩ := H
        obtain ⟨e, s', k1, g1⟩ := AW_det hD hC _ (hX f F hF) _ _ H
        have fold : ∀ K' : Post, AW (ACall X) X.gl F.body ⟨enter as, h1, []⟩ (fun e s => match e with | .exit _ => False | _ => fin F h.length s K') → ACall X f a h K' := fun K' hk => by
          refine ACall.fold ?_
          unfold Step; simp only [hF]
          unfold abody; simp only [hp]
          exact ⟨hl, hk⟩
        have mono := fun (K K' : Ex → St → Prop) (hK : ∀ e s, K e s → K' e s) => AW_mono (C := ACall X) (C' := ACall X) (gl := X.gl) (fun f a h K K' hK h => hD _ _ _ _ _ hK h) F.body ⟨enter as, h1, []⟩ K K' hK
        cases e with
        | exit i => exact k1.elim
        | normal =>
          obtain ⟨v, h', x, k2, g2⟩ := fin_det k1
          exact ⟨v, h', x, k2, fold _ (mono _ _ (fun e1 s1 ⟨a1, a2⟩ => by subst a1; subst a2; exact g2) g1)⟩
        | ret =>
          obtain ⟨v, h', x, k2, g2⟩ := fin_det k1
          exact ⟨v, h', x, k2, fold _ (mono _ _ (fun e1 s1 ⟨a1, a2⟩ => by subst a1; subst a2; exact g2) g1)⟩
      · exact H.elim
    · rename_i hF
      split at H
      · rename_i hp
        split at H
        · rename_i hu
          split at H
          · rename_i hx
            refine ⟨_, _, _, H, ACall.fold ?_⟩
            unfold Step; simp only [hF, hp, hu, hx]
            exact ⟨trivial, trivial, trivial⟩
          · exact H.elim
        · exact H.elim
      · exact H.elim

/-- What is known of a call's end names its one end. -/
theorem ACall.one {X : Ctx} (hX : X.NoNext) {f : Nat} {a : List AV} {h : Heap} {Q : Post} (H : ACall X f a h Q) : ∃ v h' x, Q v h' x ∧ ∀ K : Post, ACall X f a h K = K v h' x := by
  obtain ⟨v, h', x, k, g⟩ := ACall_det hX _ _ _ _ H
  exact ⟨v, h', x, k, fun K => rule g⟩

end Go.Am
