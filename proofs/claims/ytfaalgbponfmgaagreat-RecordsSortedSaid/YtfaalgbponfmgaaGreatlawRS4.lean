/- Texts of the proof, laid together: Am28, Am29, Am30, Am31, AmX. -/
import GoSem.Extern.Table
import Derived.Laws.World
import Derived.Test.YtfaalgbponfmgaaGreatlawRS3
set_option linter.all false
section
/- The abstract machine, part 28: where no map is ranged over, a call that ends well ends in one way. -/
set_option linter.unusedSimpArgs false
set_option linter.unusedVariables false
namespace Go.Am
def AO.noNext : AO → Bool
  | .mnext _ => false
  | _ => true
def ACode.noNext : ACode → Bool
  | .reg ops _ => ops.all fun o => o.op.noNext
  | .seq a b => a.noNext && b.noNext
  | .cond _ a b => a.noNext && b.noNext
  | .condu _ _ _ => false
  | .det _ => true
  | .block _ b => b.noNext
  | .loop b => b.noNext
  | .scope b => b.noNext
  | .pr _ b => b.noNext
  | _ => true
def Dt (C D : Hd) : Prop := ∀ f a h K, C f a h K → ∃ v h' x, K v h' x ∧ D f a h fun v1 h1 x1 => v1 = v ∧ h1 = h' ∧ x1 = x
variable {C D : Hd} {gl : Nat → Option PV}
theorem AReg_det (hD : D.Mono) (hC : Dt C D) : ∀ (ops : List AOp) e h x K, (ops.all fun o => o.op.noNext) = true → AReg C gl ops e h x K → ∃ e' h' x', K e' h' x' ∧ AReg D gl ops e h x fun e1 h1 x1 => e1 = e' ∧ h1 = h' ∧ x1 = x'
  | [], e, h, x, K, _, H => ⟨e, h, x, H, rfl, rfl, rfl⟩
  | o :: r, e, h, x, K, hn, H => by
    obtain ⟨dst, guard, op⟩ := o
    simp only [List.all_cons, Bool.and_eq_true] at hn
    obtain ⟨hn1, hn2⟩ := hn
    unfold AReg at H
    dsimp only at H
    split at H
    · rename_i hw
      cases op
      case call f args =>
        obtain ⟨v, h', x', H', G'⟩ := hC _ _ _ _ H
        obtain ⟨e2, h2, x2, k2, g2⟩ := AReg_det hD hC r _ _ _ K hn2 H'
        refine ⟨e2, h2, x2, k2, ?_⟩
        unfold AReg; simp only [hw]
        exact hD _ _ _ _ _ (fun v1 h1 x1 ⟨a1, a2, a3⟩ => by subst a1; subst a2; subst a3; exact g2) G'
      case callv f args =>
        dsimp only at H
        split at H
        · rename_i hf
          obtain ⟨v, h', x', H', G'⟩ := hC _ _ _ _ H
          obtain ⟨e2, h2, x2, k2, g2⟩ := AReg_det hD hC r _ _ _ K hn2 H'
          refine ⟨e2, h2, x2, k2, ?_⟩
          unfold AReg; simp only [hw, hf]
          exact hD _ _ _ _ _ (fun v1 h1 x1 ⟨a1, a2, a3⟩ => by subst a1; subst a2; subst a3; exact g2) G'
        · exact H.elim
      case mnext i => simp [AO.noNext] at hn1
      all_goals
        dsimp only at H
        split at H
        · rename_i ha
          obtain ⟨e2, h2, x2, k2, g2⟩ := AReg_det hD hC r _ _ _ K hn2 H
          refine ⟨e2, h2, x2, k2, ?_⟩
          unfold AReg; simp only [hw, ha]
          exact g2
        · exact H.elim
    · rename_i hw
      obtain ⟨e2, h2, x2, k2, g2⟩ := AReg_det hD hC r _ _ _ K hn2 H
      refine ⟨e2, h2, x2, k2, ?_⟩
      unfold AReg; simp only [hw]
      exact g2
    · exact H.elim
theorem ADo_of_det (hD : D.Mono) (hC : Dt C D) {o : AOp} {e : List (Nat × AV)} {h h' : Heap} {v : AV} {x : Esc} (H : ADo C gl o e h v h' x) : ADo D gl o e h v h' x := by
  have key : ∀ f a h, C f a h (fun v1 h1 x1 => v1 = v ∧ h1 = h' ∧ x1 = x) → D f a h (fun v1 h1 x1 => v1 = v ∧ h1 = h' ∧ x1 = x) := fun f a h hc => by
    obtain ⟨v2, h2, x2, ⟨e1, e2, e3⟩, hd⟩ := hC _ _ _ _ hc
    subst e1; subst e2; subst e3
    exact hd
  unfold ADo at H ⊢
  split at H
  · split at H
    · exact key _ _ _ H
    · split at H
      · exact key _ _ _ H
      · exact H.elim
    · exact H.elim
    · exact H
  · exact H
  · exact H.elim
theorem ADraw_det (hD : D.Mono) (hC : Dt C D) : ∀ (ds : List DOp) dn hs e h x K, ADraw C gl ds dn hs e h x K → ∃ e' h' x', K e' h' x' ∧ ADraw D gl ds dn hs e h x fun e1 h1 x1 => e1 = e' ∧ h1 = h' ∧ x1 = x'
  | [], dn, hs, e, h, x, K, H => ⟨e, h, x, H, rfl, rfl, rfl⟩
  | o :: r, dn, hs, e, h, x, K, H => by
    obtain ⟨v, h', y, h1, h2, h3, h4, h5⟩ := H
    obtain ⟨e2, q2, x2, k2, g2⟩ := ADraw_det hD hC r _ _ _ _ _ K h5
    exact ⟨e2, q2, x2, k2, v, h', y, ADo_of_det hD hC h1, h2, fun k hk => by obtain ⟨g, a1, a2⟩ := h3 k hk; exact ⟨g, a1, ADo_of_det hD hC a2⟩,
      fun j hj => by obtain ⟨q, a1, a2⟩ := h4 j hj; exact ⟨q, a1, ADo_of_det hD hC a2⟩, g2⟩
theorem ALoop_det {T U : St → (Ex → St → Prop) → Prop} (hT : ∀ s K, T s K → ∃ e s', K e s' ∧ U s fun e1 s1 => e1 = e ∧ s1 = s') {K : Ex → St → Prop} {s : St} (H : ALoop T K s) : ∃ e s', K e s' ∧ ALoop U (fun e1 s1 => e1 = e ∧ s1 = s') s := by
  induction H with
  | mk s R h hn he hr ih =>
    obtain ⟨e, s', hR, hU⟩ := hT _ _ h
    cases e with
    | normal =>
      obtain ⟨e2, s2, k2, g2⟩ := ih s' hR
      exact ⟨e2, s2, k2, .mk _ _ hU (fun s1 ⟨_, h1⟩ => by subst h1; exact g2) (fun i s1 ⟨h1, _⟩ => by cases h1) (fun s1 ⟨h1, _⟩ => by cases h1)⟩
    | exit i => exact ⟨_, _, he i s' hR, .mk _ _ hU (fun s1 ⟨h1, _⟩ => by cases h1) (fun j s1 h1 => h1) (fun s1 ⟨h1, _⟩ => by cases h1)⟩
    | ret => exact ⟨_, _, hr s' hR, .mk _ _ hU (fun s1 ⟨h1, _⟩ => by cases h1) (fun j s1 ⟨h1, _⟩ => by cases h1) (fun s1 h1 => h1)⟩
theorem AW_det (hD : D.Mono) (hC : Dt C D) : ∀ (c : ACode), c.noNext = true → ∀ s K, AW C gl c s K → ∃ e s', K e s' ∧ AW D gl c s fun e1 s1 => e1 = e ∧ s1 = s'
  | .skip, _, s, K, H => ⟨_, _, H, rfl, rfl⟩
  | .reg ops keep, hn, s, K, H => by
    obtain ⟨e, h, x, h1, h2⟩ := AReg_det hD hC ops _ _ _ _ hn H
    refine ⟨_, _, h1, ?_⟩
    show AReg D gl ops s.env s.h s.esc fun e1 h1 x1 => _
    exact AReg_mono (C := D) (C' := D) (fun f a h K K' hK h => hD _ _ _ _ _ hK h) ops _ _ _ _ _ (fun e1 h1 x1 ⟨a1, a2, a3⟩ => by subst a1; subst a2; subst a3; exact ⟨rfl, rfl⟩) h2
  | .draw ds keep, _, s, K, H => by
    obtain ⟨e, h, x, h1, h2⟩ := ADraw_det hD hC ds _ _ _ _ _ _ H
    refine ⟨_, _, h1, ?_⟩
    show ADraw D gl ds [] [] s.env s.h s.esc fun e1 h1 x1 => _
    exact ADraw_mono (C := D) (C' := D) (fun f a h K K' hK h => hD _ _ _ _ _ hK h) ds _ _ _ _ _ _ _ (fun e1 h1 x1 ⟨a1, a2, a3⟩ => by subst a1; subst a2; subst a3; exact ⟨rfl, rfl⟩) h2
  | .seq a b, hn, s, K, H => by
    simp only [ACode.noNext, Bool.and_eq_true] at hn
    obtain ⟨e, s', h1, h2⟩ := AW_det hD hC a hn.1 _ _ H
    have mono := fun (K K' : Ex → St → Prop) (hK : ∀ e s, K e s → K' e s) => AW_mono (C := D) (C' := D) (gl := gl) (fun f a h K K' hK h => hD _ _ _ _ _ hK h) a s K K' hK
    cases e with
    | normal =>
      obtain ⟨e2, s2, k2, g2⟩ := AW_det hD hC b hn.2 _ _ h1
      refine ⟨e2, s2, k2, mono _ _ (fun e1 s1 ⟨a1, a2⟩ => ?_) h2⟩
      subst a1; subst a2; exact g2
    | exit i => exact ⟨_, _, h1, mono _ _ (fun e1 s1 ⟨a1, a2⟩ => by subst a1; subst a2; exact ⟨rfl, rfl⟩) h2⟩
    | ret => exact ⟨_, _, h1, mono _ _ (fun e1 s1 ⟨a1, a2⟩ => by subst a1; subst a2; exact ⟨rfl, rfl⟩) h2⟩
  | .condu c a b, hn, s, K, H => by cases hn
  | .det b, hn, s, K, H => by
    obtain ⟨e, s', k, h1⟩ := H
    refine ⟨e, s', k, e, s', ⟨rfl, rfl⟩, AW_mono (fun f a h K K' hK h => ?_) b s _ _ (fun _ _ h => h) h1⟩
    obtain ⟨v, h', x, q1, q2⟩ := hC _ _ _ _ h
    exact hD _ _ _ _ _ (fun v1 h1 x1 hv => by obtain ⟨rfl, rfl, rfl⟩ := hv; exact hK _ _ _ q1) q2
  | .cond c a b, hn, s, K, H => by
    simp only [ACode.noNext, Bool.and_eq_true] at hn
    unfold AW at H
    split at H
    · rename_i t ht
      split at H
      · obtain ⟨e, s', h1, h2⟩ := AW_det hD hC a hn.1 _ _ H
        refine ⟨e, s', h1, ?_⟩
        unfold AW; simp only [ht]; exact h2
      · obtain ⟨e, s', h1, h2⟩ := AW_det hD hC b hn.2 _ _ H
        refine ⟨e, s', h1, ?_⟩
        unfold AW; simp only [ht]; exact h2
    · exact H.elim
  | .block id b, hn, s, K, H => by
    obtain ⟨e, s', h1, h2⟩ := AW_det hD hC b hn _ _ H
    have mono := fun (K K' : Ex → St → Prop) (hK : ∀ e s, K e s → K' e s) => AW_mono (C := D) (C' := D) (gl := gl) (fun f a h K K' hK h => hD _ _ _ _ _ hK h) b s K K' hK
    cases e with
    | normal => exact ⟨_, _, h1, mono _ _ (fun e1 s1 ⟨a1, a2⟩ => by subst a1; subst a2; exact ⟨rfl, rfl⟩) h2⟩
    | exit i =>
      dsimp only at h1
      split at h1
      · rename_i hi
        exact ⟨_, _, h1, mono _ _ (fun e1 s1 ⟨a1, a2⟩ => by subst a1; subst a2; dsimp only; rw [if_pos hi]; exact ⟨rfl, rfl⟩) h2⟩
      · rename_i hi
        exact ⟨_, _, h1, mono _ _ (fun e1 s1 ⟨a1, a2⟩ => by subst a1; subst a2; dsimp only; rw [if_neg hi]; exact ⟨rfl, rfl⟩) h2⟩
    | ret => exact ⟨_, _, h1, mono _ _ (fun e1 s1 ⟨a1, a2⟩ => by subst a1; subst a2; exact ⟨rfl, rfl⟩) h2⟩
  | .loop b, hn, s, K, H => ALoop_det (fun s K h => AW_det hD hC b hn s K h) H
  | .scope b, hn, s, K, H => by
    obtain ⟨e, s', h1, h2⟩ := AW_det hD hC b hn _ _ H
    exact ⟨_, _, h1, AW_mono (C := D) (C' := D) (gl := gl) (fun f a h K K' hK h => hD _ _ _ _ _ hK h) b _ _ _ (fun e1 s1 ⟨a1, a2⟩ => by subst a1; subst a2; exact ⟨rfl, rfl⟩) h2⟩
  | .pr l b, hn, s, K, H => AW_det hD hC b hn _ K H
  | .exit id, _, s, K, H => ⟨_, _, H, rfl, rfl⟩
  | .ret, _, s, K, H => ⟨_, _, H, rfl, rfl⟩
  | .bad, _, s, K, H => H.elim
theorem fin_det {F : AFun} {b : Nat} {s : St} {K : Post} (H : fin F b s K) : ∃ v h x, K v h x ∧ fin F b s fun v1 h1 x1 => v1 = v ∧ h1 = h ∧ x1 = x := by
  unfold fin at H
  cases h1 : aresAll s F.results with
  | none => rw [h1] at H; exact H.elim
  | some vs =>
    rw [h1] at H
    dsimp only at H
    cases h2 : F.keep with
    | true =>
      rw [h2] at H
      dsimp only at H
      by_cases h3 : closed s.esc (close (List.length s.esc) s.esc (max b (oneOf vs).top)) = true
      · rw [if_pos h3] at H
        exact ⟨_, _, _, H, by unfold fin; rw [h1]; dsimp only; rw [h2]; dsimp only; rw [if_pos h3]; exact ⟨rfl, rfl, rfl⟩⟩
      · rw [if_neg h3] at H
        exact ⟨_, _, _, H, by unfold fin; rw [h1]; dsimp only; rw [h2]; dsimp only; rw [if_neg h3]; exact ⟨rfl, rfl, rfl⟩⟩
    | false =>
      rw [h2] at H
      dsimp only at H
      cases h4 : reif b s.h (oneOf vs) with
      | none => rw [h4] at H; exact H.elim
      | some v0 =>
        rw [h4] at H
        dsimp only at H
        by_cases h3 : closed s.esc (close (List.length s.esc) s.esc (max b v0.top)) = true
        · rw [if_pos h3] at H
          cases h5 : reif (close (List.length s.esc) s.esc (max b v0.top)) s.h (oneOf vs) with
          | none => rw [h5] at H; exact H.elim
          | some v =>
            rw [h5] at H
            exact ⟨_, _, _, H.2, by unfold fin; rw [h1]; dsimp only; rw [h2]; dsimp only; rw [h4]; dsimp only; rw [if_pos h3, h5]; exact ⟨H.1, rfl, rfl, rfl⟩⟩
        · rw [if_neg h3] at H
          exact ⟨_, _, _, H, by unfold fin; rw [h1]; dsimp only; rw [h2]; dsimp only; rw [h4]; dsimp only; rw [if_neg h3]; exact ⟨rfl, rfl, rfl⟩⟩
def Ctx.NoNext (X : Ctx) : Prop := ∀ f F, X.fn f = some F → F.body.noNext = true
theorem ACall_det {X : Ctx} (hX : X.NoNext) : Dt (ACall X) (ACall X) := by
  intro f a h K H
  refine H (fun f a h K => ∃ v h' x, K v h' x ∧ ACall X f a h fun v1 h1 x1 => v1 = v ∧ h1 = h' ∧ x1 = x) ?_ ?_
  · intro f a h K K' hK ⟨v, h', x, k, g⟩
    exact ⟨v, h', x, hK _ _ _ k, g⟩
  · intro f a h K H
    have hC : Dt (fun f a h K => ∃ v h' x, K v h' x ∧ ACall X f a h fun v1 h1 x1 => v1 = v ∧ h1 = h' ∧ x1 = x) (ACall X) := fun f a h K H => H
    have hD := ACall.mono X
    unfold Step at H
    split at H
    · rename_i F hF
      unfold abody at H
      split at H
      · rename_i as h1 hp
        obtain ⟨hl, H⟩ := H
        obtain ⟨e, s', k1, g1⟩ := AW_det hD hC _ (hX f F hF) _ _ H
        have fold : ∀ K' : Post, AW (ACall X) X.gl F.body ⟨enter as, h1, []⟩ (fun e s => match e with | .exit _ => False | _ => fin F h.length s K') → ACall X f a h K' := fun K' hk => by
          refine ACall.fold ?_
          unfold Step; simp only [hF]
          unfold abody; simp only [hp]
          exact ⟨hl, hk⟩
        have mono := fun (K K' : Ex → St → Prop) (hK : ∀ e s, K e s → K' e s) => AW_mono (C := ACall X) (C' := ACall X) (gl := X.gl) (fun f a h K K' hK h => hD _ _ _ _ _ hK h) F.body ⟨enter as, h1, []⟩ K K' hK
        cases e with
        | exit i => exact k1.elim
        | normal =>
          obtain ⟨v, h', x, k2, g2⟩ := fin_det k1
          exact ⟨v, h', x, k2, fold _ (mono _ _ (fun e1 s1 ⟨a1, a2⟩ => by subst a1; subst a2; exact g2) g1)⟩
        | ret =>
          obtain ⟨v, h', x, k2, g2⟩ := fin_det k1
          exact ⟨v, h', x, k2, fold _ (mono _ _ (fun e1 s1 ⟨a1, a2⟩ => by subst a1; subst a2; exact g2) g1)⟩
      · exact H.elim
    · rename_i hF
      split at H
      · rename_i hx2
        refine ⟨_, _, _, H, ACall.fold ?_⟩
        unfold Step; simp only [hF, hx2]
        exact ⟨trivial, trivial, trivial⟩
      · rename_i hx2
        split at H
        · rename_i hp
          split at H
          · rename_i hu
            split at H
            · rename_i hx
              refine ⟨_, _, _, H, ACall.fold ?_⟩
              unfold Step; simp only [hF, hx2, hp, hu, hx]
              exact ⟨trivial, trivial, trivial⟩
            · exact H.elim
          · exact H.elim
        · exact H.elim
/-- What is known of a call's end names its one end. -/
theorem ACall.one {X : Ctx} (hX : X.NoNext) {f : Nat} {a : List AV} {h : Heap} {Q : Post} (H : ACall X f a h Q) : ∃ v h' x, Q v h' x ∧ ∀ K : Post, ACall X f a h K = K v h' x := by
  obtain ⟨v, h', x, k, g⟩ := ACall_det hX _ _ _ _ H
  exact ⟨v, h', x, k, fun K => rule g⟩
end Go.Am
end
section
/- The abstract machine, part 29: its meaning once more, spelt so that a function's code can be printed as a formula over its values (shallow), equal to the deep one by computing. -/
set_option linter.unusedSimpArgs false
set_option linter.unusedVariables false
namespace Go.Am
def pK (o : Option AV) (k : AV → Prop) : Prop := match o with
  | some v => k v
  | none => False
def wK (o : Option (AV × Heap × Esc)) (k : AV → Heap → Esc → Prop) : Prop := match o with
  | some y => k y.1 y.2.1 y.2.2
  | none => False
/-! ### the operations as functions of values -/
def oPick (c a b : AV) : Option AV := match c with
  | .p (.bool t) => some (bif t then a else b)
  | _ => none
def oBox (x : AV) (h : Heap) : Option (AV × Heap × Esc) := match x.cells with
  | some cs => some (.ref h.length 0, h ++ [.box cs], [])
  | none => none
def fillV : List (Nat × Nat × AV) → List AV → Option (List AV)
  | [], cs => some cs
  | (off, n, x) :: r, cs => match x.cells with
    | some vs => if vs.length = n ∧ off + n ≤ cs.length then fillV r (splice cs off vs) else none
    | none => none
def oBuild (z : List AV) (ps : List (Nat × Nat × AV)) : Option AV := (fillV ps z).map mkA
def fillW (sh : Sh) : List (Nat × AV) → Heap → List PV → Option (List PV × Heap)
  | [], h, xs => some (xs, h)
  | (i, x) :: r, h, xs => match pur h x with
    | some (v, h') => if v.shp sh ∧ i < xs.length then fillW sh r h' (xs.set i v) else none
    | none => none
def oBsl (own : Bool) (sh : Sh) (n : Nat) (z : PV) (ps : List (Nat × AV)) (h : Heap) : Option (AV × Heap × Esc) := match fillW sh ps h (List.replicate n z) with
  | some (xs, h') => if !z.shp sh then none else some (bif own then (.own h'.length n 0 n, h' ++ [.row sh xs 0], []) else (.p (.sl sh xs), h', []))
  | none => none
def oLoad (sh : Sh) (a : AV) (h : Heap) : Option AV := match a with
  | .ref id off => match h[id]? with
    | some (.box cs) => cut sh off cs
    | _ => none
  | .rref id g i off => match h[id]? with
    | some (.row _ xs _) => if g = xs.length then ((xs[i]?).bind (cutP sh off)).map .p else none
    | _ => none
  | .vp v => (cutP sh 0 v).map .p
  | _ => none
def oStore (sh : Sh) (a x : AV) (h : Heap) : Option (AV × Heap × Esc) := match a with
  | .ref id off => match h[id]?, x.cells with
    | some (.box cs), some vs => if vs.length = shSize sh ∧ off + vs.length ≤ cs.length then some (.und, h.set id (.box (splice cs off vs)), escOf id x) else none
    | _, _ => none
  | .rref id g i off => match pur h x with
    | some (v, h1) => match h1[id]? with
      | some (.row rsh xs fz) => if g = xs.length ∧ fz ≤ i ∧ v.cells.length = shSize sh ∧ v.cells.all PV.sc then match xs[i]? with
        | some (.agg cs) => if off + v.cells.length ≤ cs.length then some (.und, h1.set id (.row rsh (xs.set i (.agg (splice cs off v.cells))) fz), []) else none
        | some _ => if off = 0 ∧ v.sc then some (.und, h1.set id (.row rsh (xs.set i v) fz), []) else none
        | none => none
        else none
      | _ => none
    | none => none
  | _ => none
def oNil (x : AV) : Option AV := match x with
  | .ref _ _ | .rref _ _ _ _ | .vp _ | .fn _ _ => some x
  | _ => none
def oBin (op : BinOp) (x y : AV) : Option AV := match x, y with
  | .p a, .p b => (abin op a b).map .p
  | _, _ => none
def oEqa (ks : List Nat) (neg : Bool) (x y : AV) : Option AV := match x, y with
  | .p (.agg as), .p (.agg bs) => if as.map PV.kind = ks ∧ bs.map PV.kind = ks ∧ ks ≠ [] then (eqs as bs).map fun t => pbool (bif neg then !t else t) else none
  | .p (.bool a), .p (.bool b) => if ks = [] then some (pbool (bif neg then !decide (a = b) else decide (a = b))) else none
  | _, _ => none
def oIsnil (k : Nat) (neg : Bool) (x : AV) : Option AV := bif nilAny k x then some .anyb else (nilOf k x).map fun r => pbool (bif neg then !r else r)
def oMkif (x : AV) : Option AV := if okIn x then some .ifc else none
def oUn (op : UnOp) (x : AV) : Option AV := match x with
  | .p a => (aun op a).map .p
  | _ => none
def oConv (c : Cv) (x : AV) (h : Heap) : Option (AV × Heap × Esc) := (aconv h c x).map fun y => (y.1, y.2, [])
def oConvI (k : IntKind) (x : AV) : Option AV := match x with
  | .p (.int _ n) => some (.p (.int k (k.wrap n)))
  | _ => none
def oMksl (sh : Sh) (z : PV) (len cap : AV) (h : Heap) : Option (AV × Heap × Esc) := match natOf len, natOf cap with
  | some n, some m => if n ≤ m ∧ m ≤ maxSl ∧ z.shp sh then some (.own h.length n 0 n, h ++ [.row sh (List.replicate n z) 0], []) else none
  | _, _ => none
def bndV (d : Nat) : Option AV → Option Nat
  | none => some d
  | some x => natOf x
def oSlstr (x : AV) (lo hi : Option AV) : Option AV := match x with
  | .p (.str s) => match bndV 0 lo, bndV s.length hi with
    | some l, some r => if l ≤ r ∧ r ≤ s.length then some (.p (.str (win s l (r - l)))) else none
    | _, _ => none
  | _ => none
def oSlice (sh : Sh) (x : AV) (lo hi mx : Option AV) (h : Heap) : Option AV := match x with
  | .p (.sl sh' xs) => match bndV 0 lo, bndV xs.length hi, bndV xs.length mx with
    | some l, some r, some m => if sh' = sh ∧ l ≤ r ∧ r ≤ m ∧ m ≤ xs.length then some (if mx.isSome ∧ m = l then .sl0 sh else .p (.sl sh (win xs l (r - l)))) else none
    | _, _, _ => none
  | .sl0 sh' => match bndV 0 lo, bndV 0 hi, bndV 0 mx with
    | some l, some r, some m => if l = 0 ∧ r = 0 ∧ m = 0 then some (.sl0 sh') else none
    | _, _, _ => none
  | .own id g off len => match h[id]? with
    | some (.row rsh xs _) => match bndV 0 lo, bndV len hi, bndV len mx with
      | some l, some r, some m => if rsh = sh ∧ g = xs.length ∧ off + len ≤ xs.length ∧ l ≤ r ∧ r ≤ m ∧ m ≤ len then some (if mx.isSome ∧ m = l then .sl0 sh else .own id g (off + l) (r - l)) else none
      | _, _, _ => none
    | _ => none
  | _ => none
def oFaddr (off : Nat) (sh : Sh) (x : AV) : Option AV := match x with
  | .ref id o => some (.ref id (o + off))
  | .rref id g i o => some (.rref id g i (o + off))
  | .vp v => (cutP sh off v).map .vp
  | _ => none
def oField (off : Nat) (sh : Sh) (x : AV) : Option AV := match x with
  | .p v => match v with
    | .agg _ => (cutP sh off v).map .p
    | _ => none
  | .agg cs => cut sh off cs
  | _ => none
def oIaddr (sh : Sh) (x i : AV) (h : Heap) : Option AV := match x, natOf i with
  | .p (.sl sh' xs), some k => if sh' = sh then (xs[k]?).map .vp else none
  | .own id g off len, some k => match h[id]? with
    | some (.row rsh xs _) => if rsh = sh ∧ g = xs.length ∧ off + len ≤ xs.length ∧ k < len then some (.rref id g (off + k) 0) else none
    | _ => none
  | _, _ => none
def oIaddra (n : Nat) (sh : Sh) (x i : AV) : Option AV := match x, natOf i with
  | .ref id o, some k => if k < n then some (.ref id (o + k * shSize sh)) else none
  | .rref id g j o, some k => if k < n then some (.rref id g j (o + k * shSize sh)) else none
  | .vp v, some k => if k < n then (cutP sh (k * shSize sh) v).map .vp else none
  | _, _ => none
def oIdxa (n : Nat) (sh : Sh) (x i : AV) : Option AV := match x, natOf i with
  | .p (.agg cs), some k => if k < n then (cutP sh (k * shSize sh) (.agg cs)).map .p else none
  | _, _ => none
def oIdxs (x i : AV) : Option AV := match x, natOf i with
  | .p (.str s), some k => (s[k]?).map fun b => .p (.int .u8 b.toNat)
  | _, _ => none
def oExt (x : AV) (i : Nat) : Option AV := match x with
  | .tup vs => vs[i]?
  | _ => none
def oLen (x : AV) : Option AV := match x with
  | .p (.sl _ xs) => some (pint xs.length)
  | .sl0 _ => some (pint 0)
  | .own _ _ _ len => some (pint len)
  | _ => none
def oLens (x : AV) : Option AV := match x with
  | .p (.str s) => some (pint s.length)
  | _ => none
def oApp (sh : Sh) (s x : AV) (h : Heap) : Option (AV × Heap × Esc) := match rds h x with
  | some (sh', ys) => if sh' = sh then match s with
    | .sl0 _ => if ys.length ≤ maxSl then some (.own h.length ys.length 0 ys.length, h ++ [.row sh ys 0], []) else none
    | .own id g off len => match h[id]? with
      | some (.row rsh xs fz) => if rsh = sh ∧ g = xs.length ∧ off = 0 ∧ len = xs.length ∧ len + ys.length ≤ maxSl then some (.own id (g + ys.length) off (len + ys.length), h.set id (.row sh (xs ++ ys) fz), []) else none
      | _ => none
    | _ => none
    else none
  | none => none
def oCopy (sh : Sh) (d s : AV) (h : Heap) : Option (AV × Heap × Esc) := match d, rds h s with
  | .own id g off len, some (sh', ys) => match h[id]? with
    | some (.row rsh xs fz) => if rsh = sh ∧ sh' = sh ∧ g = xs.length ∧ off + len ≤ xs.length ∧ fz ≤ off then
        some (pint (min ys.length len), h.set id (.row sh (splice xs off (ys.take (min ys.length len))) fz), [])
      else none
    | _ => none
  | _, _ => none
def oClr (sh : Sh) (z : PV) (x : AV) (h : Heap) : Option (AV × Heap × Esc) := match x with
  | .sl0 _ => some (.tup [], h, [])
  | .own id g off len => match h[id]? with
    | some (.row rsh xs fz) => if rsh = sh ∧ g = xs.length ∧ off + len ≤ xs.length ∧ fz ≤ off then
        some (.tup [], h.set id (.row sh (splice xs off (List.replicate len z)) fz), [])
      else none
    | _ => none
  | _ => none
def oMx (xs : List AV) : Option AV := match xs with
  | .p a :: r => ((unp r).bind fun l => l.foldlM amax2 a).map .p
  | _ => none
def oMn (xs : List AV) : Option AV := match xs with
  | .p a :: r => ((unp r).bind fun l => l.foldlM amin2 a).map .p
  | _ => none
def oLook (kk : Sh × List Nat) (ok : Bool) (z x k : AV) (h : Heap) : Option AV := match keyOf kk k with
  | some key => match (match x with | .nilm => some [] | m => (mget h m).map fun y => y.2.1) with
    | some es => match mfind key es with
      | some r =>
        let v := ((r.bind (es[·]?)).map ME.val)
        some (bif ok then .tup [v.getD z, pbool v.isSome] else v.getD z)
      | none => none
    | none => none
  | none => none
def oMupd (kk : Sh × List Nat) (m k x : AV) (h : Heap) : Option (AV × Heap × Esc) := match keyOf kk k, mget h m, okIn x with
  | some key, some (id, es, c), true => match mfind key es with
    | some (some i) => some (.und, h.set id (.amap (es.modify i fun e => { e with val := x }) c), escOf id x)
    | some none => some (.und, h.set id (.amap (es ++ [⟨key, x, c⟩]) (c + 1)), escOf id x)
    | none => none
  | _, _, _ => none
def oMent (kk : Sh × List Nat) (z m k : AV) (h : Heap) : Option (AV × Heap × Esc) := match keyOf kk k, mget h m with
  | some key, some (id, es, c) => match mfind key es with
    | some (some i) => (es[i]?).map fun e => (.tup [e.val, pint e.born], h, [])
    | some none => some (.tup [z, pint c], h.set id (.amap (es ++ [⟨key, z, c⟩]) (c + 1)), [])
    | none => none
  | _, _ => none
def oEstore (m s x : AV) (h : Heap) : Option (AV × Heap × Esc) := match mget h m, natOf s, okIn x with
  | some (id, es, c), some b, true => match es.findIdx? (fun e => e.born == b) with
    | some i => some (.und, h.set id (.amap (es.modify i fun e => { e with val := x }) c), escOf id x)
    | none => none
  | _, _, _ => none
def oMdel (kk : Sh × List Nat) (m k : AV) (h : Heap) : Option (AV × Heap × Esc) := match keyOf kk k, mget h m with
  | some key, some (id, es, c) => match mfind key es with
    | some (some i) => some (.und, h.set id (.amap (es.eraseIdx i) c), [])
    | some none => some (.und, h, [])
    | none => none
  | _, _ => none
def oLenm (x : AV) (h : Heap) : Option AV := match x with
  | .nilm => some (pint 0)
  | .mp id => (mget h (.mp id)).map fun y => pint y.2.1.length
  | _ => none
def oMrange (x : AV) (h : Heap) : Option (AV × Heap × Esc) := match mget h x with
  | some (id, _, c) => some (.it h.length, h ++ [.iter (some id) c [] c], [])
  | none => match x with
    | .nilm => some (.it h.length, h ++ [.iter none 0 [] 0], [])
    | _ => none
def oMentry (i : AV) (h : Heap) : Option (AV × Heap × Esc) := match i with
  | .it id => match h[id]? with
    | some (.iter (some m) _ seen last) => match mget h (.mp m), seen.getLast? with
      | some (_, es, c), some b => if c = last then (es.find? (fun e => e.born == b)).map fun e => (.tup [.p e.key, e.val], h, []) else none
      | _, _ => none
    | _ => none
  | _ => none
def alK (z : List AV) (h : Heap) (k : AV → Heap → Esc → Prop) : Prop := k (.ref h.length 0) (h ++ [.box z]) []
def nwK (sh : Sh) (h : Heap) (k : AV → Heap → Esc → Prop) : Prop := k (.own h.length 0 0 0) (h ++ [.row sh [] 0]) []
def mmK (h : Heap) (k : AV → Heap → Esc → Prop) : Prop := k (.mp h.length) (h ++ [.amap [] 0]) []
def ev3 (ev : Opd → AV) : List (Nat × Nat × Opd) → List (Nat × Nat × AV)
  | [] => []
  | (a, b, x) :: r => (a, b, ev x) :: ev3 ev r
def ev2 (ev : Opd → AV) : List (Nat × Opd) → List (Nat × AV)
  | [] => []
  | (a, x) :: r => (a, ev x) :: ev2 ev r
def evO (ev : Opd → AV) : Option Opd → Option AV
  | none => none
  | some x => some (ev x)
def ev1 (ev : Opd → AV) : List Opd → List AV
  | [] => []
  | x :: r => ev x :: ev1 ev r
/-- An operation that is no call, with what follows it. -/
def opN (o : AO) (ev : Opd → AV) (h : Heap) (k : AV → Heap → Esc → Prop) : Prop := match o with
  | .mv x => k (ev x) h []
  | .pick c a b => pK (oPick (ev c) (ev a) (ev b)) fun v => k v h []
  | .alloc z => alK z h k
  | .box x => wK (oBox (ev x) h) k
  | .build z ps => pK (oBuild z (ev3 ev ps)) fun v => k v h []
  | .bsl own sh n z ps => wK (oBsl own sh n z (ev2 ev ps) h) k
  | .load sh a => pK (oLoad sh (ev a) h) fun v => k v h []
  | .store sh a x => wK (oStore sh (ev a) (ev x) h) k
  | .nilchk x => pK (oNil (ev x)) fun v => k v h []
  | .bin op x y => pK (oBin op (ev x) (ev y)) fun v => k v h []
  | .eqa ks neg x y => pK (oEqa ks neg (ev x) (ev y)) fun v => k v h []
  | .isnil n neg x => pK (oIsnil n neg (ev x)) fun v => k v h []
  | .mkif x => pK (oMkif (ev x)) fun v => k v h []
  | .un op x => pK (oUn op (ev x)) fun v => k v h []
  | .conv (.i c) x => pK (oConvI c (ev x)) fun v => k v h []
  | .mkfn f caps => k (.fn f (ev1 ev caps)) h []
  | .slice sh x lo hi mx => pK (oSlice sh (ev x) (evO ev lo) (evO ev hi) (evO ev mx) h) fun v => k v h []
  | .slstr x lo hi => pK (oSlstr (ev x) (evO ev lo) (evO ev hi)) fun v => k v h []
  | .mksl sh z len cap => wK (oMksl sh z (ev len) (ev cap) h) k
  | .faddr off sh x => pK (oFaddr off sh (ev x)) fun v => k v h []
  | .field off sh x => pK (oField off sh (ev x)) fun v => k v h []
  | .iaddr sh x i => pK (oIaddr sh (ev x) (ev i) h) fun v => k v h []
  | .iaddra n sh x i => pK (oIaddra n sh (ev x) (ev i)) fun v => k v h []
  | .idxa n sh x i => pK (oIdxa n sh (ev x) (ev i)) fun v => k v h []
  | .idxs x i => pK (oIdxs (ev x) (ev i)) fun v => k v h []
  | .ext x i => pK (oExt (ev x) i) fun v => k v h []
  | .len x => pK (oLen (ev x)) fun v => k v h []
  | .lens x => pK (oLens (ev x)) fun v => k v h []
  | .app sh s x => wK (oApp sh (ev s) (ev x) h) k
  | .copy sh d s => wK (oCopy sh (ev d) (ev s) h) k
  | .clr sh z x => wK (oClr sh z (ev x) h) k
  | .mx xs => pK (oMx (ev1 ev xs)) fun v => k v h []
  | .mn xs => pK (oMn (ev1 ev xs)) fun v => k v h []
  | .new0 sh => nwK sh h k
  | .conv .s2b x => wK (oConv .s2b (ev x) h) k
  | .conv .b2s x => wK (oConv .b2s (ev x) h) k
  | .conv .r2s x => wK (oConv .r2s (ev x) h) k
  | .conv .same x => wK (oConv .same (ev x) h) k
  | .mkmap => mmK h k
  | .look kk ok z x key => pK (oLook kk ok z (ev x) (ev key) h) fun v => k v h []
  | .mupd kk m key x => wK (oMupd kk (ev m) (ev key) (ev x) h) k
  | .ment kk z m key => wK (oMent kk z (ev m) (ev key) h) k
  | .estore m s x => wK (oEstore (ev m) (ev s) (ev x) h) k
  | .mdel kk m key => wK (oMdel kk (ev m) (ev key) h) k
  | .lenm x => pK (oLenm (ev x) h) fun v => k v h []
  | .mrange x => wK (oMrange (ev x) h) k
  | .mentry i => wK (oMentry (ev i) h) k
  | .call _ _ | .callv _ _ | .mnext _ => False
theorem wK_opt {o : Option (AV × Heap × Esc)} {k : AV → Heap → Esc → Prop} : optK o k = wK o k := rfl
theorem pK_map {o : Option AV} {h : Heap} {k : AV → Heap → Esc → Prop} : wK (o.map fun v => (v, h, [])) k = pK o fun v => k v h [] := by cases o <;> rfl
theorem fillA_eq (ev : Opd → AV) : ∀ (ps : List (Nat × Nat × Opd)) (z : List AV), fillA ev ps z = fillV (ev3 ev ps) z
  | [], z => rfl
  | (off, n, x) :: r, z => by
    simp only [fillA, ev3, fillV]
    cases (ev x).cells with
    | none => rfl
    | some vs => simp only [fillA_eq ev r]
theorem fillP_eq (ev : Opd → AV) (sh : Sh) : ∀ (ps : List (Nat × Opd)) (h : Heap) (z : List PV), fillP ev sh ps h z = fillW sh (ev2 ev ps) h z
  | [], h, z => rfl
  | (i, x) :: r, h, z => by
    simp only [fillP, ev2, fillW]
    cases pur h (ev x) with
    | none => rfl
    | some y => simp only [fillP_eq ev sh r]
theorem bnd_eq (ev : Opd → AV) (d : Nat) (o : Option Opd) : bnd ev d o = bndV d (evO ev o) := by cases o <;> rfl
theorem evO_some (ev : Opd → AV) (o : Option Opd) : (evO ev o).isSome = o.isSome := by cases o <;> rfl
theorem ev1_eq (ev : Opd → AV) (l : List Opd) : l.map ev = ev1 ev l := by
  induction l with
  | nil => rfl
  | cons x r ih => simp only [List.map_cons, ev1, ih]
theorem asl_eq (sh : Sh) (ev : Opd → AV) (h : Heap) (x : AV) (lo hi mx : Option Opd) : asl sh ev h x lo hi mx = oSlice sh x (evO ev lo) (evO ev hi) (evO ev mx) h := by
  unfold asl oSlice
  simp only [bnd_eq, evO_some]
  rfl
theorem wpK_ite {p : Prop} [Decidable p] {a : AV} {h : Heap} {k : AV → Heap → Esc → Prop} : wK (if p then some (a, h, []) else none) k = pK (if p then some a else none) fun v => k v h [] := by split <;> rfl
theorem wpK_map {α : Type} {o : Option α} {f : α → AV} {h : Heap} {k : AV → Heap → Esc → Prop} : wK (o.map fun v => (f v, h, [])) k = pK (o.map f) fun v => k v h [] := by cases o <;> rfl
theorem wpK_ite_map {α : Type} {p : Prop} [Decidable p] {o : Option α} {f : α → AV} {h : Heap} {k : AV → Heap → Esc → Prop} : wK (if p then o.map (fun v => (f v, h, [])) else none) k = pK (if p then o.map f else none) fun v => k v h [] := by
  split
  · exact wpK_map
  · rfl
theorem opN_aop {o : AO} (hp : o.plain = true) {ev : Opd → AV} {h : Heap} {k : AV → Heap → Esc → Prop} : optK (aop o ev h) k = opN o ev h k := by
  rw [wK_opt]
  cases o <;> first | (cases hp; done) | skip
  case mv => rfl
  case pick c a b =>
    simp only [aop, opN, oPick]
    generalize ev c = v
    cases v <;> try rfl
    rename_i p; cases p <;> rfl
  case alloc => rfl
  case box => rfl
  case build z ps => simp only [aop, opN]; rw [← pK_map, oBuild, fillA_eq, Option.map_map]; rfl
  case bsl => simp only [aop, opN, oBsl, fillP_eq]; rfl
  case load sh a =>
    simp only [aop, opN, oLoad]
    generalize ev a = v
    cases v with
    | ref id off => dsimp only; cases h[id]? with
      | none => rfl
      | some o => cases o <;> first | rfl | exact pK_map
    | rref id g i off => dsimp only; cases h[id]? with
      | none => rfl
      | some o => cases o <;> first | rfl | exact wpK_ite_map
    | vp v => exact wpK_map
    | p v => cases v <;> rfl
    | _ => rfl
  case store => simp only [aop, opN]; rfl
  case nilchk x =>
    simp only [aop, opN, oNil]
    generalize ev x = v
    cases v <;> rfl
  case bin op x y =>
    simp only [aop, opN, oBin]
    generalize ev x = v
    generalize ev y = u
    cases v <;> try rfl
    cases u <;> try rfl
    exact wpK_map
  case eqa ks neg x y =>
    simp only [aop, opN, oEqa]
    generalize ev x = v
    generalize ev y = u
    cases v <;> try rfl
    rename_i p
    cases p <;> try rfl
    all_goals (cases u <;> try rfl)
    all_goals (rename_i q; cases q <;> try rfl)
    · exact wpK_ite
    · exact wpK_ite_map
  case isnil k neg p =>
    simp only [aop, opN, oIsnil]
    cases nilAny k (ev p) with
    | true => rfl
    | false => exact wpK_map
  case mkif => exact wpK_ite
  case un op x =>
    simp only [aop, opN, oUn]
    generalize ev x = v
    cases v <;> try rfl
    exact wpK_map
  case conv c x =>
    cases c
    case i k' =>
      simp only [aop, opN, oConvI, aconv]
      generalize ev x = v
      cases v <;> try rfl
      rename_i p; cases p <;> rfl
    all_goals rfl
  case mkfn f caps => simp only [aop, opN, ev1_eq]; rfl
  case slice => simp only [aop, opN, asl_eq]; exact pK_map
  case slstr x lo hi =>
    simp only [aop, opN, oSlstr, bnd_eq]
    generalize ev x = v
    cases v <;> try rfl
    rename_i p; cases p <;> try rfl
    rename_i s
    dsimp only
    generalize bndV 0 _ = o1
    generalize bndV s.length _ = o2
    cases o1 <;> try rfl
    cases o2 <;> try rfl
    exact wpK_ite
  case mksl => simp only [aop, opN]; rfl
  case faddr off sh x =>
    simp only [aop, opN, oFaddr]
    generalize ev x = v
    cases v <;> try rfl
    exact wpK_map
  case field off sh x =>
    simp only [aop, opN, oField]
    generalize ev x = v
    cases v <;> try rfl
    · rename_i p; cases p <;> try rfl
      exact wpK_map
    · exact pK_map
  case iaddr sh x i =>
    simp only [aop, opN, oIaddr]
    generalize ev x = v
    generalize natOf (ev i) = n
    cases v <;> try rfl
    · rename_i p; cases p <;> try rfl
      cases n <;> try rfl
      exact wpK_ite_map
    · cases n <;> try rfl
      rename_i id g off len k
      dsimp only
      cases h[id]? with
      | none => rfl
      | some o => cases o <;> first | rfl | exact wpK_ite
  case iaddra m sh x i =>
    simp only [aop, opN, oIaddra]
    generalize ev x = v
    generalize natOf (ev i) = n
    cases v <;> try rfl
    all_goals (cases n <;> try rfl)
    · exact wpK_ite
    · exact wpK_ite
    · exact wpK_ite_map
  case idxa m sh x i =>
    simp only [aop, opN, oIdxa]
    generalize ev x = v
    generalize natOf (ev i) = n
    cases v <;> try rfl
    rename_i p; cases p <;> try rfl
    cases n <;> try rfl
    exact wpK_ite_map
  case idxs x i =>
    simp only [aop, opN, oIdxs]
    generalize ev x = v
    generalize natOf (ev i) = n
    cases v <;> try rfl
    rename_i p; cases p <;> try rfl
    cases n <;> try rfl
    exact wpK_map
  case ext x i =>
    simp only [aop, opN, oExt]
    generalize ev x = v
    cases v <;> try rfl
    exact pK_map
  case len x =>
    simp only [aop, opN, oLen]
    generalize ev x = v
    cases v <;> try rfl
    rename_i p; cases p <;> rfl
  case lens x =>
    simp only [aop, opN, oLens]
    generalize ev x = v
    cases v <;> try rfl
    rename_i p; cases p <;> rfl
  case app => simp only [aop, opN]; rfl
  case copy => simp only [aop, opN]; rfl
  case clr => simp only [aop, opN]; rfl
  case mx xs =>
    simp only [aop, opN, ev1_eq, oMx]
    generalize ev1 ev xs = l
    cases l <;> try rfl
    rename_i v r
    cases v <;> try rfl
    exact wpK_map
  case mn xs =>
    simp only [aop, opN, ev1_eq, oMn]
    generalize ev1 ev xs = l
    cases l <;> try rfl
    rename_i v r
    cases v <;> try rfl
    exact wpK_map
  case new0 => rfl
  case look kk ok z x key =>
    simp only [aop, opN, oLook]
    cases keyOf kk (ev key) <;> try rfl
    rename_i kk
    generalize ev x = v
    cases v <;> try rfl
    rename_i id
    dsimp only
    cases mget h (.mp id) <;> try rfl
    rename_i y
    dsimp only [Option.map_some]
    cases mfind kk y.2.1 <;> rfl
  case lenm x =>
    simp only [aop, opN, oLenm]
    generalize ev x = v
    cases v <;> try rfl
    exact wpK_map
  all_goals rfl
end Go.Am
end
section
/- The abstract machine, part 30: the meaning of code in the new spelling, and that it is the old one. -/
set_option linter.unusedSimpArgs false
set_option linter.unusedVariables false
namespace Go.Am
def gV (v : AV) (b : Bool) (h : Heap) (A : (AV → Heap → Esc → Prop) → Prop) (k : AV → Heap → Esc → Prop) : Prop := wantK v b (A k) (k .skp h [])
def gP (v : AV) (b : Bool) (o : Option AV) (h : Heap) (k : AV → Heap → Esc → Prop) : Prop := gV v b h (fun k => pK o fun u => k u h []) k
def gM (v : AV) (b : Bool) (u : AV) (h : Heap) (k : AV → Heap → Esc → Prop) : Prop := gV v b h (fun k => k u h []) k
/-- A truth value; its definition stands above the words of the print, so that the kernel unfolds code ahead of them. -/
def upB (b : Bool) : Bool := (fun (_ : AV → Bool → Option AV → Heap → (AV → Heap → Esc → Prop) → Prop) => b) gP
/-- A guarded operation. -/
def gK (g : Option (Nat × Bool)) (e : List (Nat × AV)) (h : Heap) (A : (AV → Heap → Esc → Prop) → Prop) (k : AV → Heap → Esc → Prop) : Prop := match g with
  | none => A k
  | some (t, b) => gV (aget e t) b h A k
def opC (C : Hd) (o : AO) (ev : Opd → AV) (h : Heap) (k : AV → Heap → Esc → Prop) : Prop := match o with
  | .call f args => C f (ev1 ev args) h k
  | .callv f args => callvK C (ev f) (ev1 ev args) h k
  | .mnext i => match mnexts h (ev i) with
    | some l => l ≠ [] ∧ ∀ y ∈ l, k y.1 y.2 []
    | none => False
  | o => opN o ev h k
def NReg (C : Hd) (gl : Nat → Option PV) : List AOp → List (Nat × AV) → Heap → Esc → (List (Nat × AV) → Heap → Esc → Prop) → Prop
  | [], e, h, x, L => L e h x
  | o :: r, e, h, x, L => gK o.guard e h (opC C o.op (Opd.ev gl e) h) fun v h' x' => NReg C gl r (put o.dst v e) h' (x' ++ x) L
variable {C : Hd} {gl : Nat → Option PV}
theorem opC_AReg {o : AO} {d : Option Nat} {r : List AOp} {e : List (Nat × AV)} {h : Heap} {x : Esc} {L : List (Nat × AV) → Heap → Esc → Prop} :
    AReg C gl (⟨d, none, o⟩ :: r) e h x L = opC C o (Opd.ev gl e) h (contR C gl r d e x L) := by
  cases hp : o.plain with
  | true =>
    rw [AReg_op hp, opN_aop hp]
    cases o <;> first | rfl | cases hp
  | false =>
    cases o <;> first | (cases hp; done) | skip
    all_goals first
      | (rw [AReg_call, ev1_eq]; rfl)
      | (rw [AReg_callvK, ev1_eq]; rfl)
      | rfl
theorem NReg_eq : ∀ (ops : List AOp) (e : List (Nat × AV)) (h : Heap) (x : Esc) (L : List (Nat × AV) → Heap → Esc → Prop), AReg C gl ops e h x L = NReg C gl ops e h x L
  | [], e, h, x, L => rfl
  | ⟨d, g, o⟩ :: r, e, h, x, L => by
    have ih : (fun (v : AV) (h' : Heap) (x' : Esc) => NReg C gl r (put d v e) h' (x' ++ x) L) = contR C gl r d e x L := by
      funext v h' x'; rw [← NReg_eq r]; rfl
    show _ = gK g e h (opC C o (Opd.ev gl e) h) fun v h' x' => NReg C gl r (put d v e) h' (x' ++ x) L
    rw [ih]
    cases g with
    | none => exact opC_AReg
    | some tb =>
      obtain ⟨t, b⟩ := tb
      rw [AReg_guard, opC_AReg]; rfl
/-! ### drawn regions -/
def opE (C : Hd) (o : AO) (ev : Opd → AV) (h : Heap) (k : AV → Heap → Esc → Prop) : Prop := match o with
  | .call f args => callE C f (ev1 ev args) h k
  | .callv f args => callvE C (ev f) (ev1 ev args) h k
  | .mnext i => False
  | o => opN o ev h k
def effN (still eff : Bool) (h h' : Heap) (y : Esc) (Q : Prop) : Prop := match upB eff with
  | true => Q
  | false => match still with
    | true => Q
    | false => (h' = h ∧ y = []) ∧ Q
/-- An operation of before, once more. -/
def sameN (C : Hd) (gl : Nat → Option PV) (q : AOp × List (Nat × AV) × AV) (g : Heap) : Prop :=
  gK q.1.guard q.2.1 g (opE C q.1.op (Opd.ev gl q.2.1) g) fun v1 h1 x1 => v1 = q.2.2 ∧ h1 = g ∧ x1 = []
def againN (C : Hd) (gl : Nat → Option PV) (h : Heap) (dn : Done) (Q : Prop) : List Nat → Prop
  | [] => Q
  | j :: r => (match dn[j]? with | some q => sameN C gl q h | none => False) ∧ againN C gl h dn Q r
def earlyN (C : Hd) (gl : Nat → Option PV) (o : AOp) (e : List (Nat × AV)) (v : AV) (hs : List Heap) (Q : Prop) : List Nat → Prop
  | [] => Q
  | k :: r => (match hs[k]? with | some g => sameN C gl (o, e, v) g | none => False) ∧ earlyN C gl o e v hs Q r
def NDraw (C : Hd) (gl : Nat → Option PV) : List DOp → Done → List Heap → List (Nat × AV) → Heap → Esc → (List (Nat × AV) → Heap → Esc → Prop) → Prop
  | [], _, _, e, h, x, L => L e h x
  | o :: r, dn, hs, e, h, x, L => gK o.op.guard (prune (some o.rd) e) h (opE C o.op.op (Opd.ev gl (prune (some o.rd) e)) h) fun v h' y =>
      effN o.op.op.still o.eff h h' y (earlyN C gl o.op (prune (some o.rd) e) v hs (againN C gl h' dn (NDraw C gl r (dn ++ [(o.op, prune (some o.rd) e, v)]) (hs ++ [h]) (put o.op.dst v e) h' (y ++ x) L) o.again) o.early)
theorem opE_doK {o : AO} {d : Option Nat} {e : List (Nat × AV)} {h : Heap} {R : AV → Heap → Esc → Prop} : doK C gl ⟨d, none, o⟩ e h R = opE C o (Opd.ev gl e) h R := by
  cases hp : o.plain with
  | true =>
    rw [doK_op hp, opN_aop hp]
    cases o <;> first | rfl | cases hp
  | false =>
    cases o <;> first | (cases hp; done) | skip
    all_goals first
      | (rw [doK_call, ev1_eq]; rfl)
      | (rw [doK_callvK, ev1_eq]; rfl)
      | (unfold doK ADo opE; simp [wanted])
theorem gK_doK {o : AOp} {e : List (Nat × AV)} {h : Heap} {R : AV → Heap → Esc → Prop} : doK C gl o e h R = gK o.guard e h (opE C o.op (Opd.ev gl e) h) R := by
  obtain ⟨d, g, op⟩ := o
  cases g with
  | none => exact opE_doK
  | some tb =>
    obtain ⟨t, b⟩ := tb
    rw [doK_guard, opE_doK]; rfl
theorem sameN_eq {q : AOp × List (Nat × AV) × AV} {g : Heap} : doS C gl q g = sameN C gl q g := by
  obtain ⟨⟨d, gd, op⟩, e, v⟩ := q
  rw [doS_mk, gK_doK]; rfl
theorem againN_eq {h : Heap} {dn : Done} {Q : Prop} : ∀ {l : List Nat}, againN C gl h dn Q l = (agK C gl h dn l ∧ Q)
  | [] => by simp [againN, agK]
  | j :: r => by
    unfold againN agK
    rw [againN_eq (l := r)]
    cases dn[j]? with
    | none => simp
    | some q => simp only [sameN_eq, and_assoc]
theorem earlyN_eq {o : AOp} {e : List (Nat × AV)} {v : AV} {hs : List Heap} {Q : Prop} : ∀ {l : List Nat}, earlyN C gl o e v hs Q l = (eaK C gl o e v hs l ∧ Q)
  | [] => by simp [earlyN, eaK]
  | j :: r => by
    unfold earlyN eaK
    rw [earlyN_eq (l := r)]
    cases hs[j]? with
    | none => simp
    | some q => simp only [sameN_eq, and_assoc]
theorem gK_mono {g : Option (Nat × Bool)} {e : List (Nat × AV)} {h : Heap} {A : (AV → Heap → Esc → Prop) → Prop} {k k' : AV → Heap → Esc → Prop} (h1 : A k = A k') (h2 : k .skp h [] = k' .skp h []) : gK g e h A k = gK g e h A k' := by
  cases g with
  | none => exact h1
  | some tb => obtain ⟨t, b⟩ := tb; simp only [gK, gV, h1, h2]
/-- A step that leaves the heap needs no check that it does. -/
theorem doK_still {o : AOp} (hs : o.op.still = true) {e : List (Nat × AV)} {h : Heap} {R : AV → Heap → Esc → Prop} : doK C gl o e h (fun v h' y => (h' = h ∧ y = []) ∧ R v h' y) = doK C gl o e h R := by
  unfold doK
  refine propext ⟨fun ⟨v, h', y, H, _, r⟩ => ⟨v, h', y, H, r⟩, fun ⟨v, h', y, H, r⟩ => ⟨v, h', y, H, ADo_still hs H, r⟩⟩
theorem NDraw_eq : ∀ (ds : List DOp) (dn : Done) (hs : List Heap) (e : List (Nat × AV)) (h : Heap) (x : Esc) (L : List (Nat × AV) → Heap → Esc → Prop), ADraw C gl ds dn hs e h x L = NDraw C gl ds dn hs e h x L
  | [], dn, hs, e, h, x, L => rfl
  | ⟨o, rd, eff, early, again⟩ :: r, dn, hs, e, h, x, L => by
    rw [ADraw_cons]
    show _ = gK o.guard (prune (some rd) e) h (opE C o.op (Opd.ev gl (prune (some rd) e)) h) fun v h' y =>
      effN o.op.still eff h h' y (earlyN C gl o (prune (some rd) e) v hs (againN C gl h' dn (NDraw C gl r (dn ++ [(o, prune (some rd) e, v)]) (hs ++ [h]) (put o.dst v e) h' (y ++ x) L) again) early)
    rw [← gK_doK]
    have e1 : drawK C gl ⟨o, rd, eff, early, again⟩ r dn hs e h x L = fun v h' y => (effK eff h h' y ∧ earlyN C gl o (prune (some rd) e) v hs (againN C gl h' dn (NDraw C gl r (dn ++ [(o, prune (some rd) e, v)]) (hs ++ [h]) (put o.dst v e) h' (y ++ x) L) again) early) := by
      funext v h' y
      rw [drawK_all, earlyN_eq, againN_eq, ← NDraw_eq r]
    rw [e1]
    cases eff with
    | true =>
      congr 1; funext v h' y
      simp [effK, effN, upB]
    | false =>
      cases hs' : o.op.still with
      | true =>
        have := doK_still (C := C) (gl := gl) (o := o) hs' (e := prune (some rd) e) (h := h) (R := fun v h' y => earlyN C gl o (prune (some rd) e) v hs (againN C gl h' dn (NDraw C gl r (dn ++ [(o, prune (some rd) e, v)]) (hs ++ [h]) (put o.dst v e) h' (y ++ x) L) again) early)
        exact this
      | false => rfl
/-! ### code -/
def NW (C : Hd) (gl : Nat → Option PV) : ACode → St → (Ex → St → Prop) → Prop
  | .skip, s, K => K .normal s
  | .reg ops keep, s, K => NReg C gl ops s.env s.h s.esc fun e h x => K .normal ⟨prune keep e, h, x⟩
  | .draw ds keep, s, K => NDraw C gl ds [] [] s.env s.h s.esc fun e h x => K .normal ⟨prune keep e, h, x⟩
  | .seq a b, s, K => NW C gl a s fun e s' => match e with
    | .normal => NW C gl b s' K
    | .exit i => K (.exit i) s'
    | .ret => K .ret s'
  | .cond c a b, s, K => condB (Opd.ev gl s.env c) (NW C gl a s K) (NW C gl b s K)
  | .condu c a b, s, K => condU (Opd.ev gl s.env c) (NW C gl a s K) (NW C gl b s K)
  | .det b, s, K => detK (fun K => NW C gl b s K) K
  | .block id b, s, K => NW C gl b s fun e s' => match e with
    | .normal => K .normal s'
    | .exit i => bif Nat.beq i id then K .normal s' else K (.exit i) s'
    | .ret => K .ret s'
  | .loop b, s, K => ALoop (NW C gl b) K s
  | .scope b, s, K => NW C gl b ⟨s.env, s.h, []⟩ fun e s' => K e (trunc s.h.length s.esc s')
  | .pr l b, s, K => NW C gl b ⟨prune (some l) s.env, s.h, s.esc⟩ K
  | .exit id, s, K => K (.exit id) s
  | .ret, s, K => K .ret s
  | .bad, _, _ => False
theorem NW_eq : ∀ (c : ACode) (s : St) (K : Ex → St → Prop), AW C gl c s K = NW C gl c s K
  | .skip, s, K => rfl
  | .reg ops keep, s, K => NReg_eq _ _ _ _ _
  | .draw ds keep, s, K => NDraw_eq _ _ _ _ _ _ _
  | .seq a b, s, K => by
    unfold AW NW
    rw [NW_eq a]
    congr 1; funext e s'
    cases e with
    | normal => exact NW_eq b s' K
    | _ => rfl
  | .cond c a b, s, K => by
    unfold AW NW condB
    rw [← NW_eq a, ← NW_eq b]
    rfl
  | .condu c a b, s, K => by
    unfold AW NW condU
    rw [← NW_eq a, ← NW_eq b]
    rfl
  | .det b, s, K => by
    unfold AW NW detK
    simp only [← NW_eq b]
  | .block id b, s, K => by
    unfold AW NW
    rw [NW_eq b]
    congr 1; funext e s'
    cases e with
    | exit i =>
      dsimp only
      by_cases hi : i = id
      · subst hi; simp
      · rw [if_neg hi]
        have : Nat.beq i id = false := by cases h : Nat.beq i id with | false => rfl | true => exact absurd (Nat.eq_of_beq_eq_true h) hi
        rw [this]; rfl
    | _ => rfl
  | .loop b, s, K => by
    show ALoop (AW C gl b) K s = ALoop (NW C gl b) K s
    rw [show AW C gl b = NW C gl b from funext fun s => funext fun K => NW_eq b s K]
  | .scope b, s, K => NW_eq b _ _
  | .pr l b, s, K => NW_eq b _ _
  | .exit id, s, K => rfl
  | .ret, s, K => rfl
  | .bad, s, K => rfl
end Go.Am
end
section
/- The abstract machine, part 31: words in which a function's code is printed, and the rules of computing over them. -/
set_option linter.unusedSimpArgs false
set_option linter.unusedVariables false
namespace Go.Am
variable {C : Hd} {gl : Nat → Option PV} {e : List (Nat × AV)} {h : Heap} {x : Esc} {K : Ex → St → Prop} {s : St}
def seqN (C : Hd) (gl : Nat → Option PV) (b : ACode) (K : Ex → St → Prop) (e : Ex) (s : St) : Prop := match e with
  | .normal => NW C gl b s K
  | .exit i => K (.exit i) s
  | .ret => K .ret s
def blockN (id : Nat) (K : Ex → St → Prop) (e : Ex) (s : St) : Prop := match e with
  | .normal => K .normal s
  | .exit i => bif Nat.beq i id then K .normal s else K (.exit i) s
  | .ret => K .ret s
def nxK (i : AV) (h : Heap) (k : AV → Heap → Esc → Prop) : Prop := match mnexts h i with
    | some l => l ≠ [] ∧ ∀ y ∈ l, k y.1 y.2 []
    | none => False
def gv (gl : Nat → Option PV) (n : Nat) : AV := match gl n with | some v => .vp v | none => .und
theorem seqN_normal {b : ACode} : seqN C gl b K .normal s = NW C gl b s K := (rfl)
theorem seqN_exit {b : ACode} {i : Nat} : seqN C gl b K (.exit i) s = K (.exit i) s := (rfl)
theorem seqN_ret {b : ACode} : seqN C gl b K .ret s = K .ret s := (rfl)
theorem blockN_normal {i : Nat} : blockN i K .normal s = K .normal s := (rfl)
theorem blockN_same {i : Nat} : blockN i K (.exit i) s = K .normal s := by simp [blockN]
theorem blockN_exit {i j : Nat} : blockN i K (.exit j) s = bif Nat.beq j i then K .normal s else K (.exit j) s := (rfl)
theorem blockN_ret {i : Nat} : blockN i K .ret s = K .ret s := (rfl)
theorem seqN_congr {b : ACode} {ex ex' : Ex} {s s' : St} (he : ex = ex') (hs : s = s') : seqN C gl b K ex s = seqN C gl b K ex' s' := by rw [he, hs]
theorem blockN_congr {i : Nat} {ex ex' : Ex} {s s' : St} (he : ex = ex') (hs : s = s') : blockN i K ex s = blockN i K ex' s' := by rw [he, hs]
theorem NW_scope {b : ACode} : NW C gl (.scope b) ⟨e, h, x⟩ K = NW C gl b ⟨e, h, []⟩ (scopeK h.length x K) := (rfl)
theorem NW_congr {c : ACode} {s s' : St} (hs : s = s') : NW C gl c s K = NW C gl c s' K := by rw [hs]
def NLoop (C : Hd) (gl : Nat → Option PV) (b : ACode) (K : Ex → St → Prop) (e : List (Nat × AV)) (h : Heap) (x : Esc) : Prop := ALoop (NW C gl b) K ⟨e, h, x⟩
theorem NLoop_pr {l : List Nat} {b : ACode} : NW C gl (.loop (.pr l b)) ⟨e, h, x⟩ K = NLoop C gl (.pr l b) K (prune (some l) e) h x := by
  show ALoop _ _ _ = ALoop _ _ _
  exact ALoop_same (funext fun R => by show NW C gl b _ R = NW C gl b _ R; dsimp only; rw [prune_prune])
theorem NLoop_sc {l : List Nat} {b : ACode} : NW C gl (.loop (.scope (.pr l b))) ⟨e, h, x⟩ K = NLoop C gl (.scope (.pr l b)) K (prune (some l) e) h x := by
  show ALoop _ _ _ = ALoop _ _ _
  exact ALoop_same (funext fun R => by show NW C gl b _ _ = NW C gl b _ _; dsimp only; rw [prune_prune])
theorem NLoop_congr {b : ACode} {e e' : List (Nat × AV)} {h h' : Heap} {x x' : Esc} (h1 : e = e') (h2 : h = h') (h3 : x = x') : NLoop C gl b K e h x = NLoop C gl b K e' h' x' := by rw [h1, h2, h3]
/-- The loop rule: a shape of the states at its head, what holds there, what falls. -/
theorem N_loop {σ : Type} {b : ACode} (S : σ → St) (P : σ → Prop) (m : σ → Nat) (t0 : σ) (hs : (⟨e, h, x⟩ : St) = S t0) (h0 : P t0) (hr : ∀ t, P t → NW C gl b (S t) (loopK S P m K t)) : NLoop C gl b K e h x := by
  show ALoop (NW C gl b) K _
  rw [hs]
  have key : ∀ n t, m t < n → P t → ALoop (NW C gl b) K (S t) := by
    intro n
    induction n with
    | zero => intro t h; omega
    | succ n ih =>
      intro t hm hp
      refine .mk _ _ (hr t hp) (fun s' h' => ?_) (fun i s' h' => h') (fun s' h' => h')
      obtain ⟨u, rfl, hu, hlt⟩ := h'
      exact ih u (by omega) hu
  exact key _ t0 (Nat.lt_succ_self _) h0
theorem call_val {X : Ctx} {f : Nat} {F : AFun} {a as : List AV} {h h1 : Heap} {P : Post} (hf : X.fn f = some F) (hr : F.byref = false) (hp : puras h a = some (as, h1)) (hl : as.length = F.nparams) :
    ACall X f a h P = NW (ACall X) X.gl F.body ⟨enter as, h1, []⟩ (finR F.results F.keep h.length P) := by
  rw [step_val hf hr hp hl, NW_eq]
theorem call_ref {X : Ctx} {f : Nat} {F : AFun} {as : List AV} {h : Heap} {P : Post} (hf : X.fn f = some F) (hr : F.byref = true) (hl : as.length = F.nparams) :
    ACall X f as h P = NW (ACall X) X.gl F.body ⟨enter as, h, []⟩ (finR F.results F.keep h.length P) := by
  rw [step_ref hf hr hl, NW_eq]
/-! ### rules -/
theorem pK_some {v : AV} {k : AV → Prop} : pK (some v) k = k v := (rfl)
theorem pK_none {k : AV → Prop} : pK none k = False := (rfl)
theorem wK_some {v : AV} {h : Heap} {x : Esc} {k : AV → Heap → Esc → Prop} : wK (some (v, h, x)) k = k v h x := (rfl)
theorem wK_none {k : AV → Heap → Esc → Prop} : wK none k = False := (rfl)
theorem pK_ite {p : Prop} [Decidable p] {a b : Option AV} {k : AV → Prop} : pK (if p then a else b) k = if p then pK a k else pK b k := by split <;> rfl
theorem wK_ite {p : Prop} [Decidable p] {a b : Option (AV × Heap × Esc)} {k : AV → Heap → Esc → Prop} : wK (if p then a else b) k = if p then wK a k else wK b k := by split <;> rfl
theorem pK_congr {o o' : Option AV} {k : AV → Prop} (h : o = o') : pK o k = pK o' k := by rw [h]
theorem wK_congr {o o' : Option (AV × Heap × Esc)} {k : AV → Heap → Esc → Prop} (h : o = o') : wK o k = wK o' k := by rw [h]
theorem gV_congr {v v' : AV} {b : Bool} {h : Heap} {A : (AV → Heap → Esc → Prop) → Prop} {k : AV → Heap → Esc → Prop} (h1 : v = v') : gV v b h A k = gV v' b h A k := by rw [h1]
theorem gP_congr {v v' : AV} {b : Bool} {o : Option AV} {h : Heap} {k : AV → Heap → Esc → Prop} (h1 : v = v') : gP v b o h k = gP v' b o h k := by rw [h1]
theorem gM_congr {v v' : AV} {b : Bool} {u : AV} {h : Heap} {k : AV → Heap → Esc → Prop} (h1 : v = v') : gM v b u h k = gM v' b u h k := by rw [h1]
section
variable {A : (AV → Heap → Esc → Prop) → Prop} {o : Option AV} {u : AV} {k : AV → Heap → Esc → Prop} {t b : Bool}
theorem gV_tt : gV (.p (.bool true)) true h A k = A k := (rfl)
theorem gV_ff : gV (.p (.bool false)) false h A k = A k := (rfl)
theorem gV_tf : gV (.p (.bool true)) false h A k = k .skp h [] := (rfl)
theorem gV_ft : gV (.p (.bool false)) true h A k = k .skp h [] := (rfl)
theorem gV_skp : gV .skp b h A k = k .skp h [] := (rfl)
theorem gV_any : gV (.p (.bool t)) b h A k = wantK (.p (.bool t)) b (A k) (k .skp h []) := (rfl)
theorem gP_tt : gP (.p (.bool true)) true o h k = pK o fun v => k v h [] := (rfl)
theorem gP_ff : gP (.p (.bool false)) false o h k = pK o fun v => k v h [] := (rfl)
theorem gP_tf : gP (.p (.bool true)) false o h k = k .skp h [] := (rfl)
theorem gP_ft : gP (.p (.bool false)) true o h k = k .skp h [] := (rfl)
theorem gP_skp : gP .skp b o h k = k .skp h [] := (rfl)
theorem gP_any : gP (.p (.bool t)) b o h k = wantK (.p (.bool t)) b (pK o fun v => k v h []) (k .skp h []) := (rfl)
theorem gM_tt : gM (.p (.bool true)) true u h k = k u h [] := (rfl)
theorem gM_ff : gM (.p (.bool false)) false u h k = k u h [] := (rfl)
theorem gM_tf : gM (.p (.bool true)) false u h k = k .skp h [] := (rfl)
theorem gM_ft : gM (.p (.bool false)) true u h k = k .skp h [] := (rfl)
theorem gM_skp : gM .skp b u h k = k .skp h [] := (rfl)
theorem gM_any : gM (.p (.bool t)) b u h k = wantK (.p (.bool t)) b (k u h []) (k .skp h []) := (rfl)
end
/-! operations on whole numbers, strings -/
section
variable {k k' : IntKind} {a b : Int} {sa sb : List UInt8}
theorem bin_add : oBin .add (.p (.int k a)) (.p (.int k b)) = some (.p (.int k (k.wrap (a + b)))) := by simp [oBin, abin, aint]
theorem bin_sub : oBin .sub (.p (.int k a)) (.p (.int k b)) = some (.p (.int k (k.wrap (a - b)))) := by simp [oBin, abin, aint]
theorem bin_mul : oBin .mul (.p (.int k a)) (.p (.int k b)) = some (.p (.int k (k.wrap (a * b)))) := by simp [oBin, abin, aint]
theorem bin_quo : oBin .quo (.p (.int k a)) (.p (.int k b)) = if b = 0 then none else some (.p (.int k (k.wrap (a.tdiv b)))) := by simp [oBin, abin, aint] <;> split <;> rfl
theorem bin_rem : oBin .rem (.p (.int k a)) (.p (.int k b)) = if b = 0 then none else some (.p (.int k (a.tmod b))) := by simp [oBin, abin, aint] <;> split <;> rfl
theorem bin_and : oBin .and (.p (.int k a)) (.p (.int k b)) = some (.p (.int k (iand k a b))) := by simp [oBin, abin, aint]
theorem bin_or : oBin .or (.p (.int k a)) (.p (.int k b)) = some (.p (.int k (ior k a b))) := by simp [oBin, abin, aint]
theorem bin_xor : oBin .xor (.p (.int k a)) (.p (.int k b)) = some (.p (.int k (ixor k a b))) := by simp [oBin, abin, aint]
theorem bin_andNot : oBin .andNot (.p (.int k a)) (.p (.int k b)) = some (.p (.int k (iandn k a b))) := by simp [oBin, abin, aint]
theorem bin_eql : oBin .eql (.p (.int k a)) (.p (.int k b)) = some (.p (.bool (decide (a = b)))) := by simp [oBin, abin, aint]
theorem bin_neq : oBin .neq (.p (.int k a)) (.p (.int k b)) = some (.p (.bool (!decide (a = b)))) := by simp [oBin, abin, aint]
theorem bin_lss : oBin .lss (.p (.int k a)) (.p (.int k b)) = some (.p (.bool (decide (a < b)))) := by simp [oBin, abin, aint]
theorem bin_leq : oBin .leq (.p (.int k a)) (.p (.int k b)) = some (.p (.bool (decide (a ≤ b)))) := by simp [oBin, abin, aint]
theorem bin_gtr : oBin .gtr (.p (.int k a)) (.p (.int k b)) = some (.p (.bool (decide (b < a)))) := by simp [oBin, abin, aint]
theorem bin_geq : oBin .geq (.p (.int k a)) (.p (.int k b)) = some (.p (.bool (decide (b ≤ a)))) := by simp [oBin, abin, aint]
theorem bin_shl : oBin .shl (.p (.int k a)) (.p (.int k' b)) = if b < 0 then none else some (.p (.int k (ishl k a b))) := by simp [oBin, abin] <;> split <;> rfl
theorem bin_shr : oBin .shr (.p (.int k a)) (.p (.int k' b)) = if b < 0 then none else some (.p (.int k (ishr k a b))) := by simp [oBin, abin] <;> split <;> rfl
theorem str_add : oBin .add (.p (.str sa)) (.p (.str sb)) = if sa.length + sb.length ≤ maxStr then some (.p (.str (sa ++ sb))) else none := by simp [oBin, abin, astr] <;> split <;> rfl
theorem str_eql : oBin .eql (.p (.str sa)) (.p (.str sb)) = some (.p (.bool (decide (sa = sb)))) := by simp [oBin, abin, astr]
theorem str_neq : oBin .neq (.p (.str sa)) (.p (.str sb)) = some (.p (.bool (!decide (sa = sb)))) := by simp [oBin, abin, astr]
theorem str_lss : oBin .lss (.p (.str sa)) (.p (.str sb)) = some (.p (.bool (Op.bytesLess sa sb))) := by simp [oBin, abin, astr]
theorem str_leq : oBin .leq (.p (.str sa)) (.p (.str sb)) = some (.p (.bool (Op.bytesLess sa sb || decide (sa = sb)))) := by simp [oBin, abin, astr]
theorem str_gtr : oBin .gtr (.p (.str sa)) (.p (.str sb)) = some (.p (.bool (!(Op.bytesLess sa sb || decide (sa = sb))))) := by simp [oBin, abin, astr]
theorem str_geq : oBin .geq (.p (.str sa)) (.p (.str sb)) = some (.p (.bool (!Op.bytesLess sa sb))) := by simp [oBin, abin, astr]
theorem un_neg : oUn .neg (.p (.int k a)) = some (.p (.int k (k.wrap (-a)))) := by simp [oUn, aun]
theorem un_not {t : Bool} : oUn .not (.p (.bool t)) = some (.p (.bool !t)) := (rfl)
theorem convI {k' : IntKind} : oConvI k (.p (.int k' a)) = some (.p (.int k (k.wrap a))) := (rfl)
theorem nilref {i j : Nat} : oNil (.ref i j) = some (.ref i j) := (rfl)
theorem nilrref {i j m n : Nat} : oNil (.rref i j m n) = some (.rref i j m n) := (rfl)
theorem nilvp {v : PV} : oNil (.vp v) = some (.vp v) := (rfl)
theorem nilfn {f : Nat} {cs : List AV} : oNil (.fn f cs) = some (.fn f cs) := (rfl)
theorem pick_b {t : Bool} {u v : AV} : oPick (.p (.bool t)) u v = some (bif t then u else v) := (rfl)
theorem len_sl {sh : Sh} {xs : List PV} : oLen (.p (.sl sh xs)) = some (.p (.int .i64 xs.length)) := (rfl)
theorem len_sl0 {sh : Sh} : oLen (.sl0 sh) = some (.p (.int .i64 0)) := (rfl)
theorem len_own {i g o l : Nat} : oLen (.own i g o l) = some (.p (.int .i64 l)) := (rfl)
theorem lens_s : oLens (.p (.str sa)) = some (.p (.int .i64 sa.length)) := (rfl)
theorem ext_t {vs : List AV} {i : Nat} : oExt (.tup vs) i = vs[i]? := (rfl)
theorem faddr_ref {off i j : Nat} {sh : Sh} : oFaddr off sh (.ref i j) = some (.ref i (j + off)) := (rfl)
theorem faddr_rref {off i j m n : Nat} {sh : Sh} : oFaddr off sh (.rref i j m n) = some (.rref i j m (n + off)) := (rfl)
theorem faddr_vp {off : Nat} {sh : Sh} {v : PV} : oFaddr off sh (.vp v) = (cutP sh off v).map .vp := (rfl)
theorem field_p {off : Nat} {sh : Sh} {cs : List PV} : oField off sh (.p (.agg cs)) = (cutP sh off (.agg cs)).map .p := (rfl)
theorem field_a {off : Nat} {sh : Sh} {cs : List AV} : oField off sh (.agg cs) = cut sh off cs := (rfl)
def ldB (sh : Sh) (off : Nat) : Option Obj → Option AV
  | some (.box cs) => cut sh off cs
  | _ => none
def ldR (sh : Sh) (g i off : Nat) : Option Obj → Option AV
  | some (.row _ xs _) => if g = xs.length then ((xs[i]?).bind (cutP sh off)).map .p else none
  | _ => none
theorem load_ref {sh : Sh} {i j : Nat} : oLoad sh (.ref i j) h = ldB sh j h[i]? := by unfold oLoad ldB; rfl
theorem load_rref {sh : Sh} {i g m n : Nat} : oLoad sh (.rref i g m n) h = ldR sh g m n h[i]? := by unfold oLoad ldR; rfl
theorem load_vp {sh : Sh} {v : PV} : oLoad sh (.vp v) h = (cutP sh 0 v).map .p := (rfl)
theorem ldB_box {sh : Sh} {off : Nat} {cs : List AV} : ldB sh off (some (.box cs)) = cut sh off cs := (rfl)
theorem ldR_row {sh sh' : Sh} {g i off fz : Nat} {xs : List PV} : ldR sh g i off (some (.row sh' xs fz)) = if g = xs.length then ((xs[i]?).bind (cutP sh off)).map .p else none := (rfl)
def stB (sh : Sh) (id off : Nat) (v : AV) (h : Heap) : Option Obj → Option (List AV) → Option (AV × Heap × Esc)
  | some (.box cs), some vs => if vs.length = shSize sh ∧ off + vs.length ≤ cs.length then some (.und, h.set id (.box (splice cs off vs)), escOf id v) else none
  | _, _ => none
theorem store_ref {sh : Sh} {i j : Nat} {v : AV} : oStore sh (.ref i j) v h = stB sh i j v h h[i]? v.cells := by unfold oStore stB; rfl
theorem stB_box {sh : Sh} {id off : Nat} {v : AV} {cs vs : List AV} : stB sh id off v h (some (.box cs)) (some vs) = if vs.length = shSize sh ∧ off + vs.length ≤ cs.length then some (.und, h.set id (.box (splice cs off vs)), escOf id v) else none := (rfl)
def stE (sh : Sh) (id i off fz : Nat) (rsh : Sh) (xs : List PV) (v : PV) (h1 : Heap) : Option PV → Option (AV × Heap × Esc)
  | some (.agg cs) => if off + v.cells.length ≤ cs.length then some (.und, h1.set id (.row rsh (xs.set i (.agg (splice cs off v.cells))) fz), []) else none
  | some _ => if off = 0 ∧ v.sc then some (.und, h1.set id (.row rsh (xs.set i v) fz), []) else none
  | none => none
def stO (sh : Sh) (id g i off : Nat) (v : PV) (h1 : Heap) : Option Obj → Option (AV × Heap × Esc)
  | some (.row rsh xs fz) => if g = xs.length ∧ fz ≤ i ∧ v.cells.length = shSize sh ∧ v.cells.all PV.sc then stE sh id i off fz rsh xs v h1 xs[i]? else none
  | _ => none
def stR (sh : Sh) (id g i off : Nat) : Option (PV × Heap) → Option (AV × Heap × Esc)
  | some y => stO sh id g i off y.1 y.2 y.2[id]?
  | none => none
theorem store_rref {sh : Sh} {id g i off : Nat} {x : AV} : oStore sh (.rref id g i off) x h = stR sh id g i off (pur h x) := by
  unfold oStore stR
  cases pur h x with
  | none => rfl
  | some y =>
    obtain ⟨v, h1⟩ := y
    dsimp only
    unfold stO
    cases h1[id]? with
    | none => rfl
    | some o => cases o <;> rfl
theorem stR_some {sh : Sh} {id g i off : Nat} {v : PV} {h1 : Heap} : stR sh id g i off (some (v, h1)) = stO sh id g i off v h1 h1[id]? := (rfl)
theorem stO_row {sh rsh : Sh} {id g i off fz : Nat} {v : PV} {h1 : Heap} {xs : List PV} : stO sh id g i off v h1 (some (.row rsh xs fz)) = if g = xs.length ∧ fz ≤ i ∧ v.cells.length = shSize sh ∧ v.cells.all PV.sc then stE sh id i off fz rsh xs v h1 xs[i]? else none := (rfl)
theorem stE_agg {sh rsh : Sh} {id i off fz : Nat} {v : PV} {h1 : Heap} {xs cs : List PV} : stE sh id i off fz rsh xs v h1 (some (.agg cs)) = if off + v.cells.length ≤ cs.length then some (.und, h1.set id (.row rsh (xs.set i (.agg (splice cs off v.cells))) fz), []) else none := (rfl)
theorem stE_int {sh rsh : Sh} {id i off fz : Nat} {v : PV} {h1 : Heap} {xs : List PV} {k : IntKind} {n : Int} : stE sh id i off fz rsh xs v h1 (some (.int k n)) = if off = 0 ∧ v.sc then some (.und, h1.set id (.row rsh (xs.set i v) fz), []) else none := (rfl)
theorem stE_bool {sh rsh : Sh} {id i off fz : Nat} {v : PV} {h1 : Heap} {xs : List PV} {t : Bool} : stE sh id i off fz rsh xs v h1 (some (.bool t)) = if off = 0 ∧ v.sc then some (.und, h1.set id (.row rsh (xs.set i v) fz), []) else none := (rfl)
theorem stE_str {sh rsh : Sh} {id i off fz : Nat} {v : PV} {h1 : Heap} {xs : List PV} {s : List UInt8} : stE sh id i off fz rsh xs v h1 (some (.str s)) = if off = 0 ∧ v.sc then some (.und, h1.set id (.row rsh (xs.set i v) fz), []) else none := (rfl)
theorem stE_sl {sh rsh : Sh} {id i off fz : Nat} {v : PV} {h1 : Heap} {xs : List PV} {sh' : Sh} {ys : List PV} : stE sh id i off fz rsh xs v h1 (some (.sl sh' ys)) = if off = 0 ∧ v.sc then some (.und, h1.set id (.row rsh (xs.set i v) fz), []) else none := (rfl)
theorem stE_nilp {sh rsh : Sh} {id i off fz : Nat} {v : PV} {h1 : Heap} {xs : List PV}  : stE sh id i off fz rsh xs v h1 (some .nilp) = if off = 0 ∧ v.sc then some (.und, h1.set id (.row rsh (xs.set i v) fz), []) else none := (rfl)
theorem pur_p {v : PV} : pur h (.p v) = some (v, h) := (rfl)
def iaS (xs : List PV) : Option Nat → Option AV
  | some k => (xs[k]?).map .vp
  | none => none
theorem iaddr_sl {sh : Sh} {xs : List PV} {i : AV} : oIaddr sh (.p (.sl sh xs)) i h = iaS xs (natOf i) := by
  unfold oIaddr iaS; cases natOf i <;> simp
theorem iaS_some {xs : List PV} {n : Nat} : iaS xs (some n) = (xs[n]?).map .vp := (rfl)
def iaO (sh : Sh) (id g off len : Nat) : Option Obj → Option Nat → Option AV
  | some (.row rsh xs _), some k => if rsh = sh ∧ g = xs.length ∧ off + len ≤ xs.length ∧ k < len then some (.rref id g (off + k) 0) else none
  | _, _ => none
theorem iaddr_own {sh : Sh} {id g off len : Nat} {i : AV} : oIaddr sh (.own id g off len) i h = iaO sh id g off len h[id]? (natOf i) := by
  unfold oIaddr iaO
  cases natOf i with
  | none => dsimp only; cases h[id]? with
    | none => rfl
    | some o => cases o <;> rfl
  | some k => dsimp only; cases h[id]? with
    | none => rfl
    | some o => cases o <;> rfl
theorem iaO_row {sh rsh : Sh} {id g off len k fz : Nat} {xs : List PV} : iaO sh id g off len (some (.row rsh xs fz)) (some k) = if rsh = sh ∧ g = xs.length ∧ off + len ≤ xs.length ∧ k < len then some (.rref id g (off + k) 0) else none := (rfl)
theorem idxs_s {i : AV} : oIdxs (.p (.str sa)) i = (natOf i).bind fun n => (sa[n]?).map fun b => .p (.int .u8 b.toNat) := by
  unfold oIdxs; cases natOf i <;> rfl
end
theorem alK_eq {z : List AV} {k : AV → Heap → Esc → Prop} : alK z h k = k (.ref h.length 0) (h ++ [.box z]) [] := (rfl)
theorem nwK_eq {sh : Sh} {k : AV → Heap → Esc → Prop} : nwK sh h k = k (.own h.length 0 0 0) (h ++ [.row sh [] 0]) [] := (rfl)
theorem mmK_eq {k : AV → Heap → Esc → Prop} : mmK h k = k (.mp h.length) (h ++ [.amap [] 0]) [] := (rfl)
theorem condU_true {A B : Prop} : condU (.p (.bool true)) A B = A := (rfl)
theorem condU_false {A B : Prop} : condU (.p (.bool false)) A B = B := (rfl)
theorem condU_any {A B : Prop} : condU .anyb A B = (A ∧ B) := (rfl)
theorem detK_eq {A : (Ex → St → Prop) → Prop} {K : Ex → St → Prop} : detK A K = ∃ e s, K e s ∧ A fun e1 s1 => e1 = e ∧ s1 = s := (rfl)
theorem detK_of {A : (Ex → St → Prop) → Prop} {K : Ex → St → Prop} {e : Ex} {s : St} (h : A fun e1 s1 => e1 = e ∧ s1 = s) (k : K e s) : detK A K := ⟨e, s, k, h⟩
attribute [go_sem] seqN_normal seqN_exit seqN_ret blockN_normal blockN_same blockN_ret NW_scope
  pK_some pK_none wK_some wK_none pK_ite wK_ite gV_tt gV_ff gV_tf gV_ft gV_skp gP_tt gP_ff gP_tf gP_ft gP_skp gM_tt gM_ff gM_tf gM_ft gM_skp
  bin_add bin_sub bin_mul bin_quo bin_rem bin_and bin_or bin_xor bin_andNot bin_eql bin_neq bin_lss bin_leq bin_gtr bin_geq bin_shl bin_shr str_add str_eql str_neq str_lss str_leq str_gtr str_geq un_neg un_not convI nilref nilrref nilvp nilfn
  pick_b len_sl len_sl0 len_own lens_s ext_t faddr_ref faddr_rref faddr_vp field_p field_a load_ref load_rref load_vp ldB_box ldR_row store_ref stB_box store_rref stR_some stO_row stE_agg stE_int stE_bool stE_str stE_sl stE_nilp pur_p iaddr_sl iaS_some iaddr_own iaO_row idxs_s alK_eq nwK_eq mmK_eq
  oBox oBuild fillV oBsl fillW oEqa oIsnil nilAny condU_true condU_false condU_any nilOf oMkif okIn oConv oMksl bndV oSlstr oSlice oIaddra oIdxa oApp oCopy oClr oMx oMn oLook oMupd oMent oEstore oMdel oLenm oMrange oMentry
attribute [go_sem ↓] pK_some pK_none wK_some wK_none gV_tt gV_ff gV_tf gV_ft gV_skp gP_tt gP_ff gP_tf gP_ft gP_skp gM_tt gM_ff gM_tf gM_ft gM_skp condB_true condB_false wantK_tt wantK_ff wantK_tf wantK_ft wantK_skp seqN_normal seqN_exit seqN_ret blockN_normal blockN_same blockN_ret alK_eq nwK_eq mmK_eq loopK_normal loopK_exit loopK_ret scopeK_eq finR_normal finR_ret
attribute [go_sem low] gV_any gP_any gM_any blockN_exit
attribute [congr] seqN_congr blockN_congr NW_congr NLoop_congr pK_congr wK_congr gV_congr gP_congr gM_congr
end Go.Am
end
section
/- The abstract machine, part X: the library's functions that have no Go text: comparing strings, finding a byte. -/
set_option linter.unusedSimpArgs false
set_option linter.unusedVariables false
namespace Go.Am
variable {P : Program}
structure ExtRow (P : Program) (f : Nat) (e : Array Value → Sem Value) : Prop where
  row : ∃ fn, P.funcs[f]? = some fn ∧ fn.name ≠ "runtime.NumGoroutine" ∧ fn.body = none ∧ Extern.findNext fn = none ∧ Extern.find fn = some e
theorem ExtRow.run {f : Nat} {e : Array Value → Sem Value} (R : ExtRow P f e) {us : Array Value} {w w' : World} {x : Value} (he : (e us).run P w = .ok x w') : (callFunc f us).run P w = .ok (.value x) w' := by
  obtain ⟨fn, h1, h2, h3, h4, h5⟩ := R.row
  unfold callFunc
  simp [h1, h2, h3, h4, h5, he]
theorem extRow_of {f : Nat} {e : Array Value → Sem Value} (h : (match P.funcs[f]? with | some fn => fn.name != "runtime.NumGoroutine" && fn.body.isNone && (Extern.findNext fn).isNone | none => false) = true) (h2 : (P.funcs[f]?).bind Extern.find = some e) : ExtRow P f e := by
  cases hf : P.funcs[f]? with
  | none => rw [hf] at h; cases h
  | some fn =>
    rw [hf] at h h2
    simp only [Bool.and_eq_true, bne_iff_ne, ne_eq, Option.isNone_iff_eq_none] at h
    exact ⟨⟨fn, hf, h.1.1, h.1.2, h.2, h2⟩⟩
/-! ### what they yield -/
def idxB (s : List UInt8) (c : UInt8) : Int := if s.findIdx (· == c) < s.length then (s.findIdx (· == c) : Int) else -1
def cmpL : List UInt8 → List UInt8 → Int
  | [], [] => 0
  | [], _ :: _ => -1
  | _ :: _, [] => 1
  | a :: as, b :: bs => if a < b then -1 else if b < a then 1 else cmpL as bs
theorem ba_get (s : List UInt8) (i : Nat) : (⟨s.toArray⟩ : ByteArray)[i]! = s.getD i 0 := by
  by_cases h : i < s.length
  · rw [getElem!_pos (⟨s.toArray⟩ : ByteArray) i h]
    show s.toArray[i] = _
    simp [h]
  · rw [getElem!_neg (⟨s.toArray⟩ : ByteArray) i h]
    simp [Nat.not_lt.1 h]
    rfl
theorem find_idx (s : List UInt8) (c : UInt8) : (match (List.range (⟨s.toArray⟩ : ByteArray).size).find? fun i => (⟨s.toArray⟩ : ByteArray)[i]! == c with
    | some i => (i : Int)
    | none => -1) = idxB s c := by
  have hsz : (⟨s.toArray⟩ : ByteArray).size = s.length := rfl
  have hget : ∀ i, i < s.length → (⟨s.toArray⟩ : ByteArray)[i]! = s.getD i 0 := by
    intro i hi
    exact ba_get s i
  unfold idxB
  rw [hsz]
  by_cases h : s.findIdx (· == c) < s.length
  · rw [if_pos h]
    have hf : (List.range s.length).find? (fun i => (⟨s.toArray⟩ : ByteArray)[i]! == c) = some (s.findIdx (· == c)) := by
      rw [List.find?_eq_some_iff_getElem]
      refine ⟨?_, s.findIdx (· == c), by simpa using h, by simp, fun j hj => ?_⟩
      · rw [hget _ h]
        have := List.findIdx_getElem (w := h)
        simpa [h] using this
      · simp only [List.getElem_range]
        have hj' : j < s.length := by omega
        rw [hget _ hj']
        have := List.not_of_lt_findIdx hj
        simpa [hj'] using this
    rw [hf]
  · rw [if_neg h]
    have hf : (List.range s.length).find? (fun i => (⟨s.toArray⟩ : ByteArray)[i]! == c) = none := by
      rw [List.find?_eq_none]
      intro i hi
      rw [List.mem_range] at hi
      rw [hget _ hi]
      intro hc
      exact h (List.findIdx_lt_length_of_exists ⟨s[i], List.getElem_mem hi, by simpa [hi] using hc⟩)
    rw [hf]
theorem cmp_cmpL : ∀ (a b : List UInt8), Extern.BytealgCompare.cmp ⟨a.toArray⟩ ⟨b.toArray⟩ = cmpL a b := by
  have key : ∀ (a b : List UInt8), (match (List.range (min a.length b.length)).find? fun i => a.getD i 0 != b.getD i 0 with
      | some i => if a.getD i 0 < b.getD i 0 then (-1 : Int) else 1
      | none => if a.length < b.length then -1 else if a.length > b.length then 1 else 0) = cmpL a b := by
    intro a
    induction a with
    | nil => intro b; cases b <;> simp [cmpL]
    | cons x a ih =>
      intro b
      cases b with
      | nil => simp [cmpL]
      | cons y b =>
        have hm : min (x :: a).length (y :: b).length = min a.length b.length + 1 := by simp only [List.length_cons]; omega
        rw [hm, List.range_succ_eq_map, List.find?_cons]
        simp only [List.getD_cons_zero]
        by_cases hxy : x = y
        · subst hxy
          have hlt : ¬ x < x := UInt8.lt_irrefl x
          simp only [bne_self_eq_false, List.find?_map, cmpL, hlt, if_false]
          rw [← ih b]
          have hc : ((fun i => (x :: a).getD i 0 != (x :: b).getD i 0) ∘ Nat.succ) = fun i => a.getD i 0 != b.getD i 0 := by
            funext i; simp
          rw [hc]
          cases (List.range (min a.length b.length)).find? fun i => a.getD i 0 != b.getD i 0 with
          | none => simp
          | some i => simp
        · have : (x != y) = true := by simpa using hxy
          rw [this]
          simp only [cmpL, List.getD_cons_zero]
          by_cases h1 : x < y
          · simp [h1]
          · have h2 : y < x := by
              rcases UInt8.lt_or_lt_of_ne (a := x) (b := y) hxy with h | h
              · exact absurd h h1
              · exact h
            simp [h1, h2]
  intro a b
  rw [← key a b]
  unfold Extern.BytealgCompare.cmp
  have sa : (⟨a.toArray⟩ : ByteArray).size = a.length := rfl
  have sb : (⟨b.toArray⟩ : ByteArray).size = b.length := rfl
  simp only [sa, sb, ba_get]
  generalize List.find? _ _ = q
  cases q <;> rfl
/-- The two of them, at their numbers. -/
def extF (fi fc : Nat) (f : Nat) (vs : List PV) : Option PV :=
  bif Nat.beq f fi then (match vs with
    | [.str s, .int .u8 c] => some (.int .i64 (idxB s (UInt8.ofNat c.toNat)))
    | _ => none)
  else bif Nat.beq f fc then (match vs with
    | [.str a, .str b] => some (.int .i64 (cmpL a b))
    | _ => none)
  else none
theorem extF_ok {fi fc : Nat} (h1 : ExtRow P fi Extern.BytealgIndexByte.indexByte) (h2 : ExtRow P fc Extern.BytealgCompare.compare) {f : Nat} {vs : List PV} {r : PV} (h : extF fi fc f vs = some r) : ExtOk P f vs r := by
  intro M w us hM hl hr
  unfold extF at h
  cases e1 : Nat.beq f fi with
  | true =>
    rw [e1] at h
    have e := Nat.eq_of_beq_eq_true e1
    subst e
    simp only [cond_true] at h
    split at h
    · rename_i s c
      injection h with h
      subst h
      match us, hl with
      | [u, v], _ =>
        have q1 := hr 0 _ u rfl rfl
        have q2 := hr 1 _ v rfl rfl
        cases q1; cases q2
        refine ⟨.int .i64 (idxB s (UInt8.ofNat c.toNat)), w, h1.run ?_, WExt.refl w, .int _ _⟩
        rw [← find_idx]
        show (match (List.range (⟨s.toArray⟩ : ByteArray).size).find? fun i => (⟨s.toArray⟩ : ByteArray)[i]! == UInt8.ofNat c.toNat with | some i => (pure (goInt i) : Sem Value) | none => pure (goInt (-1))).run P w = _
        generalize List.find? _ _ = q
        cases q <;> rfl
    · cases h
  | false =>
    rw [e1] at h
    simp only [cond_false] at h
    cases e2 : Nat.beq f fc with
    | true =>
      rw [e2] at h
      have e := Nat.eq_of_beq_eq_true e2
      subst e
      simp only [cond_true] at h
      split at h
      · rename_i a b
        injection h with h
        subst h
        match us, hl with
        | [u, v], _ =>
          have q1 := hr 0 _ u rfl rfl
          have q2 := hr 1 _ v rfl rfl
          cases q1; cases q2
          refine ⟨.int .i64 (cmpL a b), w, h2.run ?_, WExt.refl w, .int _ _⟩
          rw [← cmp_cmpL]
          rfl
      · cases h
    | false => rw [e2] at h; cases h
theorem ext_none {fi fc : Nat} {f : Nat} {vs : List PV} {r : PV} {F : Nat → Option AFun} (h : extF fi fc f vs = some r) (h1 : F fi = none) (h2 : F fc = none) : F f = none := by
  unfold extF at h
  cases e1 : Nat.beq f fi with
  | true => rw [Nat.eq_of_beq_eq_true e1]; exact h1
  | false =>
    rw [e1] at h
    cases e2 : Nat.beq f fc with
    | true => rw [Nat.eq_of_beq_eq_true e2]; exact h2
    | false => rw [e2] at h; cases h
theorem ext_call {X : Ctx} {f : Nat} {as : List AV} {vs : List PV} {h h1 : Heap} {r : PV} {K : Post} (hf : X.fn f = none) (h2 : X.ex2 f as h = none) (hp : puras h as = some (vs.map .p, h1)) (hu : unp (vs.map AV.p) = some vs) (hx : X.ext f vs = some r) : ACall X f as h K = K (.p r) h1 [] := by
  refine propext (ACall.eq (ACall.fold ?_) K)
  unfold Step
  simp only [hf, h2, hp, hu, hx]
  exact ⟨trivial, trivial, trivial⟩
theorem ACall.lift {X Y : Ctx} (hf : ∀ f F, X.fn f = some F → Y.fn f = some F) (hg : X.gl = Y.gl) (hx : ∀ f vs r, X.ext f vs = some r → Y.fn f = none ∧ Y.ext f vs = some r) (hx2 : ∀ f, X.fn f = none → X.ex2 f = Y.ex2 f ∧ ((∃ a h, (X.ex2 f a h).isSome = true) → Y.fn f = none)) {f : Nat} {a : List AV} {h : Heap} {K : Post} (H : ACall X f a h K) : ACall Y f a h K := by
  refine H (ACall Y) (ACall.mono Y) (fun f a h K hs => ACall.fold ?_)
  unfold Step at hs ⊢
  cases hX : X.fn f with
  | some F => rw [hX] at hs; rw [hf f F hX, ← hg]; exact hs
  | none =>
    obtain ⟨g1, g2⟩ := hx2 f hX
    rw [hX] at hs
    dsimp only at hs
    split at hs
    · rename_i v h1 x hv
      have q := g2 ⟨a, h, by rw [hv]; rfl⟩
      rw [g1] at hv
      simp only [q, hv]
      exact hs
    · rename_i hv
      rw [g1] at hv
      split at hs
      · rename_i as h1 hp
        split at hs
        · rename_i vs hu
          split at hs
          · rename_i r hr
            obtain ⟨q1, q2⟩ := hx f vs r hr
            simp only [q1, hv, hp, hu, q2]
            exact hs
          · exact hs.elim
        · exact hs.elim
      · exact hs.elim
/-! ### slices.Grow behind an empty slice -/
/-- What the function does that bears slices.Grow, at elements of the shape sh. -/
structure GrowRow (P : Program) (f : Nat) (sh : Sh) : Prop where
  enter : ∀ us w, (callFunc f us).run P w = .ok (.enter f us) w
  room : ∀ a w, Calls P f #[.slice a 0 0, .int .i64 0] w fun e w' => e = .returned (.slice a 0 0) ∧ w' = w
  grow : ∀ a (n : Nat) w, 0 < n → n ≤ 1048576 → Calls P f #[.slice a 0 0, .int .i64 n] w fun e w' => ∃ G cs E, e = .returned (.slice (some ⟨w.heap.size, 0, none⟩) 0 G) ∧ cs.size = G * shSize sh ∧ w' = w.drew.alloc (.cells cs E)
def growF : List (Nat × Sh) → Nat → List AV → Heap → Option (AV × Heap × Esc)
  | [], _, _, _ => none
  | (g, sh) :: r, f, as, h => bif Nat.beq f g then (match as with
    | [.sl0 _, .p (.int .i64 n)] => bif decide (0 ≤ n) && decide (n ≤ 1048576) then some (.own h.length 0 0 0, h ++ [.row sh [] 0], []) else none
    | _ => none) else growF r f as h
theorem growF_none {F : Nat → Option AFun} : ∀ {gs : List (Nat × Sh)}, (gs.all fun g => (F g.1).isNone) = true → ∀ (f : Nat) {a : List AV} {h : Heap}, (growF gs f a h).isSome = true → F f = none
  | [], _, f, a, h, H => by cases H
  | (g, sh) :: r, ha, f, a, h, H => by
    simp only [List.all_cons, Bool.and_eq_true] at ha
    unfold growF at H
    cases e1 : Nat.beq f g with
    | true => have e := Nat.eq_of_beq_eq_true e1; subst e; exact Option.isNone_iff_eq_none.1 ha.1
    | false => rw [e1] at H; exact growF_none ha.2 f H
theorem growF_ok {gl : Nat → Option PV} : ∀ (gs : List (Nat × Sh)), (∀ g sh, (g, sh) ∈ gs → GrowRow P g sh) → ∀ {f : Nat} {as : List AV} {h : Heap} {v : AV} {h' : Heap} {x : Esc}, growF gs f as h = some (v, h', x) →
    CallOk P gl f as h fun v1 h1 x1 => v1 = v ∧ h1 = h' ∧ x1 = x
  | [], _, f, as, h, v, h', x, H => by cases H
  | (g, sh) :: r, hg, f, as, h, v, h', x, H => by
    unfold growF at H
    cases e1 : Nat.beq f g with
    | false =>
      rw [e1] at H
      exact growF_ok r (fun g sh hm => hg g sh (by simp [hm])) H
    | true =>
      rw [e1] at H
      have e := Nat.eq_of_beq_eq_true e1
      subst e
      have R := hg f sh (by simp)
      simp only [cond_true] at H
      split at H
      · rename_i sh' n
        cases hb : (decide (0 ≤ n) && decide (n ≤ 1048576)) with
        | false => rw [hb] at H; cases H
        | true =>
          rw [hb] at H
          simp only [cond_true, Option.some.injEq, Prod.mk.injEq] at H
          obtain ⟨rfl, rfl, rfl⟩ := H
          simp only [Bool.and_eq_true, decide_eq_true_eq] at hb
          intro μ w vs Hh Hg hl hr
          match vs, hl with
          | [u1, u2], _ =>
            have q1 := hr 0 _ u1 rfl rfl
            have q2 := (hr 1 _ u2 rfl rfl).p_inv
            cases q1
            cases q2
            obtain ⟨m, hm⟩ := Int.eq_ofNat_of_zero_le hb.1
            subst hm
            refine .inl ⟨R.enter _, ?_⟩
            rcases Nat.eq_zero_or_pos m with h0 | h0
            · subst h0
              refine (R.room _ w).mono fun e w' he => ?_
              obtain ⟨rfl, rfl⟩ := he
              obtain ⟨n1, n2⟩ := newNil Hh sh
              refine ⟨_, _, _, _, ⟨rfl, rfl, rfl⟩, ?_, n1, n2, EscInv.push (by simp [Obj.top])⟩
              exact .own h.length 0 0 0 _ 0 sh [] 0 none (Nat.le_refl _) (by simp) (by rw [← Hh.len]; simp) (by simp) (by simp) (fun _ => rfl)
            · refine (R.grow _ m w h0 (by omega)).mono fun e w' he => ?_
              obtain ⟨G, cs, E, rfl, hcs, rfl⟩ := he
              have hw : WExt w (w.drew.alloc (.cells cs E)) := (WExt.drew w _).trans (WExt.push _ _)
              obtain ⟨n1, n2⟩ := newRow' (sh := sh) (xs := []) Hh hw (b := w.heap.size) (n := cs.size) (Nat.le_refl _) (by show w.heap.size < (w.heap.push _).size; simp) (c := cs) (Block.push (w := w.drew) cs E) (by simp) (by simp) (by simp)
              refine ⟨_, _, _, _, ⟨rfl, rfl, rfl⟩, ?_, n1, n2, EscInv.push (by simp [Obj.top])⟩
              refine .own h.length 0 0 0 _ G sh [] 0 (some (w.heap.size, cs.size)) (Nat.zero_le _) (by simp) (by rw [← Hh.len]; simp) (by simp) (by simp) (fun _ => ?_)
              exact .inr ⟨by simp, by simp [hcs]⟩
      · cases H
end Go.Am
end
