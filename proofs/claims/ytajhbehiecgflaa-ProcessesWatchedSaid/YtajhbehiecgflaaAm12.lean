/- The abstract machine, part 12: slices, lengths, comparisons, functions, new rows. -/
import Derived.Test.YtajhbehiecgflaaAm11
import Derived.Laws.MakeOwn
set_option linter.unusedSimpArgs false
set_option linter.unusedVariables false
namespace Go.Am

variable {h h' : Heap} {μ μ' : Mu} {w w' : World} {P : Program} {M : Mem}

/-! ### slices of slices and strings -/

def oOpdOk : Option Opd → Option Operand → Bool
  | none, none => true
  | some x, some y => opdOk x y
  | _, _ => false

theorem run_bound {ev : Opd → AV} {ρ : Operand → Value} {x : Opd} {y : Operand} {k : Nat} {m : Nat} {code : BoundsCode} (R : OpdRel M h μ ev ρ) (ho : opdOk x y = true) (hk : natOf (ev x) = some k) (hm : k ≤ m) :
    (Instr.sliceBound (ρ y) m code).run P w = .ok k w := by
  obtain ⟨kk, hr⟩ := rav_nat hk (R x y ho)
  rw [hr]
  unfold Instr.sliceBound
  simp only [asIntOf, Sem.run_bind, Sem.run_pure, Result.andThen_ok]
  rw [if_pos (by omega)]
  simp

theorem run_bounds {ev : Opd → AV} {ρ : Operand → Value} (R : OpdRel M h μ ev ρ) {lo hi mx : Option Opd} {lo' hi' mx' : Option Operand} (h1 : oOpdOk lo lo' = true) (h2 : oOpdOk hi hi' = true) (h3 : oOpdOk mx mx' = true)
    {isS : Bool} {len cap l r m : Nat} (hl : bnd ev 0 lo = some l) (hr : bnd ev len hi = some r) (hm : ∀ x, mx = some x → natOf (ev x) = some m) (hlr : l ≤ r) (hrm : r ≤ m) (hmc : m ≤ cap) (hmx : mx.isSome = true → hi.isSome = true)
    (hn : mx = none → m = len) (hrc : len ≤ cap) :
    (Instr.sliceBounds isS len cap (lo'.map ρ) (hi'.map ρ) (mx'.map ρ)).run P w = .ok (l, r, if mx.isSome then m else cap) w := by
  unfold Instr.sliceBounds
  cases mx with
  | none =>
    cases mx' with
    | some _ => simp [oOpdOk] at h3
    | none =>
      have := hn rfl; subst this
      simp only [Option.map_none, Option.isSome_none, Bool.false_eq_true, if_false]
      cases hi with
      | none =>
        cases hi' with
        | some _ => simp [oOpdOk] at h2
        | none =>
          simp [bnd] at hr; subst hr
          cases lo with
          | none => cases lo' with
            | some _ => simp [oOpdOk] at h1
            | none => simp [bnd] at hl; subst hl; simp
          | some x => cases lo' with
            | none => simp [oOpdOk] at h1
            | some y => simp [run_bound R h1 hl hlr]
      | some x =>
        cases hi' with
        | none => simp [oOpdOk] at h2
        | some y =>
          have hb := fun code => run_bound (P := P) (w := w) (code := code) (m := cap) R h2 hr (by omega)
          cases lo with
          | none => cases lo' with
            | some _ => simp [oOpdOk] at h1
            | none => simp [bnd] at hl; subst hl; simp [hb]
          | some x => cases lo' with
            | none => simp [oOpdOk] at h1
            | some y => simp [hb, run_bound R h1 hl hlr]
  | some z =>
    cases mx' with
    | none => simp [oOpdOk] at h3
    | some zz =>
      have hz := fun code => run_bound (P := P) (w := w) (code := code) (m := cap) R h3 (hm z rfl) hmc
      cases hi with
      | none => simp at hmx
      | some x =>
        cases hi' with
        | none => simp [oOpdOk] at h2
        | some y =>
          have hb := fun code => run_bound (P := P) (w := w) (code := code) (m := m) R h2 hr hrm
          cases lo with
          | none => cases lo' with
            | some _ => simp [oOpdOk] at h1
            | none => simp [bnd] at hl; subst hl; simp [hb, hz]
          | some x => cases lo' with
            | none => simp [oOpdOk] at h1
            | some y => simp [hb, hz, run_bound R h1 hl hlr]

theorem flat_win {xs : List PV} {sh : Sh} (he : ∀ x ∈ xs, x.shp sh = true) {l n j : Nat} {y : PV} (hj : ((win xs l n).flatMap PV.cells)[j]? = some y) : (xs.flatMap PV.cells)[l * shSize sh + j]? = some y := by
  have he' : ∀ x ∈ win xs l n, x.cells.length = shSize sh := fun x hx => shp_cells (he x (win_mem hx))
  obtain ⟨x, h1, h2, h3, h4⟩ := flat_split he' hj
  have h5 := (win_get h1).2
  have := flat_get (fun x hx => shp_cells (he x hx)) (l + j / shSize sh) (j % shSize sh) h3
  rw [h5] at this
  rw [show (l + j / shSize sh) * shSize sh + j % shSize sh = l * shSize sh + j by rw [Nat.add_mul]; omega] at this
  rw [this]
  exact h2

/-- A window of a list that is read. -/
theorem sl_win {sh : Sh} {xs : List PV} {a : Option Addr} {cap l r : Nat} (R : RPV M (.sl sh xs) (.slice a xs.length cap)) (hlr : l ≤ r) (hr : r ≤ xs.length) {a' : Option Addr} (ha : l < r → a' = a.map (·.add (l * shSize sh))) {cap' : Nat} (hc : r - l ≤ cap') :
    RPV M (.sl sh (win xs l (r - l))) (.slice a' (r - l) cap') := by
  by_cases e : l = r
  · subst e
    simp [win]
    exact .nils _ _ _
  · have hlen : (win xs l (r - l)).length = r - l := win_length (by omega)
    cases R with
    | nils => simp at hr; omega
    | sl _ _ b o cap f hne hcap he hm hr' =>
      rw [ha (by omega)]
      simp only [Option.map_some, add_at]
      have hw : win xs l (r - l) ≠ [] := by
        intro e'; rw [e'] at hlen; simp at hlen; omega
      have := RPV.sl (M := M) sh (win xs l (r - l)) b (o + l * shSize sh) cap' (fun j => f (l * shSize sh + j)) hw (by omega) (fun x hx => he x (win_mem hx))
        (fun j y hy => by rw [Nat.add_assoc]; exact hm _ y (flat_win he hy)) (fun j y hy => hr' _ y (flat_win he hy))
      rwa [hlen] at this

theorem sl_inv {sh : Sh} {xs : List PV} {y : Value} (R : RPV M (.sl sh xs) y) : ∃ a cap, y = .slice a xs.length cap ∧ xs.length ≤ cap := by
  cases R with
  | nils _ a cap => exact ⟨a, cap, rfl, Nat.zero_le _⟩
  | sl _ _ b o cap f hne hc he hm hr => exact ⟨_, cap, rfl, hc⟩

theorem own_inv {id g off len : Nat} {x : Value} (R : RAV M h μ (.own id g off len) x) : ∃ a cap sh xs fz m, x = .slice a len cap ∧ len ≤ cap ∧ h[id]? = some (.row sh xs fz) ∧ μ[id]? = some m ∧ g ≤ xs.length ∧ off + len ≤ g ∧ (g = xs.length → OwnAt m (shSize sh) off a cap) := by
  cases R with | own _ _ _ _ a cap sh xs fz m hl ho hm hg hgl hv => exact ⟨a, cap, sh, xs, fz, m, rfl, hl, ho, hm, hg, hgl, hv⟩

theorem sl0_inv {sh : Sh} {x : Value} (R : RAV M h μ (.sl0 sh) x) : ∃ a, x = .slice a 0 0 := by
  cases R with | sl0 _ a => exact ⟨a, rfl⟩

theorem slice_ok {t : TypeId} {sh : Sh} (hc : chkSlice P t sh = true) {ev : Opd → AV} {ρ : Operand → Value} {p : Opd} {q : Operand} {lo hi mx : Option Opd} {lo' hi' mx' : Option Operand} {v : AV} {h1 : Heap} {e : Esc} (H : HeapRel h μ w)
    (R : OpdRel (imm h μ w) h μ ev ρ) (hp : opdOk p q = true) (g1 : oOpdOk lo lo' = true) (g2 : oOpdOk hi hi' = true) (g3 : oOpdOk mx mx' = true) (g4 : mx.isSome = true → hi.isSome = true)
    (he : aop (.slice sh p lo hi mx) ev h = some (v, h1, e)) : OpOk P (do pure (.value (← Instr.sliceAt t (ρ q) (lo'.map ρ) (hi'.map ρ) (mx'.map ρ)))) h μ w v h1 e := by
  have Rp := R p q hp
  simp only [aop, Option.map_eq_some_iff, Prod.mk.injEq] at he
  obtain ⟨v', hv, rfl, rfl, rfl⟩ := he
  have slc : ∀ {a : Option Addr} {len cap : Nat} {l r m : Nat}, ρ q = .slice a len cap → bnd ev 0 lo = some l → bnd ev len hi = some r → bnd ev len mx = some m → l ≤ r → r ≤ m → m ≤ len → len ≤ cap →
      (Instr.sliceAt t (ρ q) (lo'.map ρ) (hi'.map ρ) (mx'.map ρ)).run P w = .ok (.slice (if (if mx.isSome then m else cap) = l then a else a.map (·.add (l * shSize sh))) (r - l) ((if mx.isSome then m else cap) - l)) w := by
    intro a len cap l r m hq b1 b2 b3 hlr hrm hml hlc
    unfold chkSlice at hc
    split at hc
    · rename_i el hu
      simp only [beq_iff_eq] at hc
      unfold Instr.sliceAt
      rw [Sem.run_bind, run_underlying_of hu]
      simp only [Result.andThen_ok]
      unfold Instr.slice
      rw [Sem.run_bind, run_underlying_of hu, hq]
      simp only [Result.andThen_ok, Sem.run_bind]
      rw [run_bounds R g1 g2 g3 b1 b2 (m := m) (cap := cap) (fun x hx => by rw [hx] at b3; exact b3) hlr hrm (by omega) g4 (fun hx => by rw [hx] at b3; simpa [bnd] using b3.symm) hlc]
      simp only [Result.andThen_ok, run_sizeOf_of hc, Sem.run_pure]
    · cases hc
  unfold asl at hv
  split at hv
  · rename_i sh' xs hx
    rw [hx] at Rp
    split at hv
    · rename_i l r m b1 b2 b3
      split at hv
      · rename_i hb
        obtain ⟨rfl, c1, c2, c3⟩ := hb
        simp at hv
        have Ri := Rp.p_inv
        obtain ⟨a, cap, hq, hcap⟩ := sl_inv Ri
        refine OpOk.pure H (run_v (slc hq b1 b2 b3 c1 c2 c3 hcap)) ?_
        by_cases hmm : mx.isSome = true ∧ m = l
        · rw [if_pos hmm] at hv
          subst hv
          have hrl : r = l := by omega
          subst hrl
          rw [hmm.1]
          simp [hmm.2]
          exact .sl0 _ _
        · rw [if_neg hmm] at hv
          subst hv
          have hcm : r ≤ (if mx.isSome = true then m else cap) := by split <;> omega
          generalize hM : (if mx.isSome = true then m else cap) = M' at *
          exact .p _ _ (sl_win (hq ▸ Ri) c1 (by omega) (fun hlr => by rw [if_neg (by omega)]) (by omega))
      · cases hv
    · cases hv
  · rename_i sh' hx
    rw [hx] at Rp
    split at hv
    · rename_i l r m b1 b2 b3
      split at hv
      · rename_i hb
        obtain ⟨rfl, rfl, rfl⟩ := hb
        simp at hv
        subst hv
        obtain ⟨a, hq⟩ := sl0_inv Rp
        refine OpOk.pure H (run_v (slc hq b1 b2 b3 (Nat.le_refl _) (Nat.le_refl _) (Nat.le_refl _) (Nat.le_refl _))) ?_
        simp
        exact .sl0 _ _
      · cases hv
    · cases hv
  · rename_i id g off len hx
    rw [hx] at Rp
    split at hv
    · rename_i rsh xs fz ho
      split at hv
      · rename_i l r m b1 b2 b3
        split at hv
        · rename_i hb
          obtain ⟨rfl, c1, c2, c3, c4, c5⟩ := hb
          simp at hv
          obtain ⟨a, cap, sh2, xs2, fz2, mm, hq, hl, ho2, hm2, hgx, hgl, hval⟩ := own_inv Rp
          rw [ho] at ho2; injection ho2 with ho2; injection ho2 with e1 e2 e3
          subst e1; subst e2; subst e3
          refine OpOk.pure H (run_v (slc hq b1 b2 b3 c3 c4 c5 hl)) ?_
          by_cases hmm : mx.isSome = true ∧ m = l
          · rw [if_pos hmm] at hv
            subst hv
            have hrl : r = l := by omega
            subst hrl
            rw [hmm.1]
            simp [hmm.2]
            exact .sl0 _ _
          · rw [if_neg hmm] at hv
            subst hv
            have hcm : l ≤ (if mx.isSome = true then m else cap) ∧ r ≤ (if mx.isSome = true then m else cap) ∧ (if mx.isSome = true then m else cap) ≤ cap := by split <;> omega
            generalize hM : (if mx.isSome = true then m else cap) = M' at *
            refine .own id g (off + l) (r - l) _ _ rsh xs fz mm (by omega) ho hm2 hgx (by omega) (fun hge => ?_)
            have hv2 := hval hge
            unfold OwnAt at hv2 ⊢
            split at hv2
            · omega
            · rename_i b n
              rcases hv2 with hv2 | ⟨rfl, hv2⟩
              · left; omega
              · by_cases hMl : M' = l
                · left; omega
                · right
                  rw [if_neg hMl]
                  simp only [Option.map_some, add_at, Option.some.injEq, Addr.mk.injEq, true_and, and_true]
                  refine ⟨by rw [Nat.add_mul], ?_⟩
                  have : (off + l + (M' - l)) * shSize rsh ≤ (off + cap) * shSize rsh := Nat.mul_le_mul_right _ (by omega)
                  omega
        · cases hv
      · cases hv
    · cases hv
  · cases hv

theorem slstr_ok {t : TypeId} (hc : chkStr P t = true) {ev : Opd → AV} {ρ : Operand → Value} {p : Opd} {q : Operand} {lo hi : Option Opd} {lo' hi' : Option Operand} {v : AV} {h1 : Heap} {e : Esc} (H : HeapRel h μ w)
    (R : OpdRel (imm h μ w) h μ ev ρ) (hp : opdOk p q = true) (g1 : oOpdOk lo lo' = true) (g2 : oOpdOk hi hi' = true)
    (he : aop (.slstr p lo hi) ev h = some (v, h1, e)) : OpOk P (do pure (.value (← Instr.sliceAt t (ρ q) (lo'.map ρ) (hi'.map ρ) none))) h μ w v h1 e := by
  have Rp := R p q hp
  simp only [aop] at he
  split at he
  · rename_i s hx
    rw [hx] at Rp
    split at he
    · rename_i l r b1 b2
      split at he
      · rename_i hb
        simp at he
        obtain ⟨rfl, rfl, rfl⟩ := he
        rw [Rp.p_str]
        unfold chkStr at hc
        split at hc
        · rename_i hu
          refine OpOk.pure H (run_v (u := .string ⟨(win s l (r - l)).toArray⟩) ?_) (.p _ _ (.str _))
          unfold Instr.sliceAt
          rw [Sem.run_bind, run_underlying_of hu]
          simp only [Result.andThen_ok]
          unfold Instr.slice
          rw [Sem.run_bind, run_underlying_of hu]
          have hsz : (⟨s.toArray⟩ : ByteArray).size = s.length := by simp [ByteArray.size]
          have := run_bounds (P := P) (w := w) (isS := false) R g1 g2 (mx := none) (mx' := none) rfl (len := s.length) (cap := s.length) b1 b2 (m := s.length) (by simp) hb.1 hb.2 (Nat.le_refl _) (by simp) (fun _ => rfl) (Nat.le_refl _)
          simp only [Option.map_none] at this
          simp only [Result.andThen_ok, Option.isSome_none, Bool.false_eq_true, if_false, Sem.run_bind, Sem.run_pure, hsz, this]
          congr 2
          apply ByteArray.ext
          simp [ByteArray.data_extract, win, List.extract_eq_take_drop]
        · cases hc
      · cases he
    · cases he
  · cases he

end Go.Am
