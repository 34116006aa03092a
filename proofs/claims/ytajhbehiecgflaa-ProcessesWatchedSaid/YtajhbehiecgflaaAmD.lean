/- The abstract machine, part D: regions whose order is left open. -/
import Derived.Test.YtajhbehiecgflaaAm20
import Derived.Orders
set_option linter.unusedSimpArgs false
set_option linter.unusedVariables false
set_option maxHeartbeats 1000000
namespace Go.Am

variable {h h' : Heap} {μ μ' : Mu} {w w' : World} {P : Program} {M M' : Mem}
variable {gl : Nat → Option PV} {nt : Nat} {M0 : Mem} {h0 : Heap} {μ0 : Mu} {e : List (Nat × AV)} {x : Esc} {a : Act}

/-- One operation done in the model. -/
theorem do_sound {C : Hd} (hC : ∀ f a h K, C f a h K → CallOk P gl f a h K) {ops : Array Oper} {Q : Exit → Act → World → Prop} {o : AOp} {p : Oper} {i : Nat} (hp : ops[i]? = some p) (hc : chkAOp P nt ops o p = true)
    {g g' : Heap} {v : AV} {y : Esc} (R : Rel gl nt M0 h0 μ0 e g x a w μ) (H : ADo C gl o e g v g' y) {K : Act → World → Prop}
    (hK : ∀ a' w' μ' u, a' = a.put p.dst u → HeapRel g' μ' w' → Evo (imm g μ w) g μ (imm g' μ' w') g' μ' → EscInv g g' y → RAV (imm g' μ' w') g' μ' v u → K a' w') : wpOp P ops Q i K a w := by
  unfold wpOp
  rw [hp]
  dsimp only
  obtain ⟨dst, guard, op⟩ := o
  unfold chkAOp at hc
  simp only [Bool.and_eq_true, beq_iff_eq] at hc
  obtain ⟨⟨⟨d1, d2⟩, d3⟩, d4⟩ := hc
  subst d1
  unfold ADo at H
  dsimp only at H
  split at H
  · rename_i hw
    rw [if_pos (wanted_ok R d3 hw)]
    left
    have call : ∀ (f : Nat) (as : List AV) (gg : Operand) (ys : List Operand) (caps : List AV) (cvs : List Value), callOf p.op = some (gg, ys) → a.eval gg = .func (.func f) #[] cvs.toArray → caps.length = cvs.length →
        (∀ (j : Nat) (y : AV) (v : Value), caps[j]? = some y → cvs[j]? = some v → RAV (imm g μ w) g μ y v) → as.length = ys.length →
        (∀ (j : Nat) (y : AV) (v : Value), as[j]? = some y → (ys.map a.eval)[j]? = some v → RAV (imm g μ w) g μ y v) →
        C f (as ++ caps) g (fun v1 h1 x1 => v1 = v ∧ h1 = g' ∧ x1 = y) → p.wp P a w K Q := by
      intro f as gg ys caps cvs hcall hg hcl hcr hal har HC
      have hco := hC _ _ _ _ HC μ w (ys.map a.eval ++ cvs) R.heap R.glob (by simp [hal, hcl]) (fun j y v hy hv => by
        rcases Nat.lt_or_ge j as.length with q | q
        · rw [List.getElem?_append_left q] at hy
          rw [List.getElem?_append_left (by simpa [← hal] using q)] at hv
          exact har j y v hy hv
        · rw [List.getElem?_append_right q] at hy
          rw [List.getElem?_append_right (by simpa [← hal] using q)] at hv
          exact hcr _ y v hy (by simpa [← hal] using hv))
      obtain ⟨q1, q2⟩ := hco
      unfold Oper.wp
      have harr : (ys.map a.eval ++ cvs).toArray = (ys.map a.eval).toArray ++ cvs.toArray := by simp
      rw [run_call hcall hg, ← harr, q1 w]
      rw [Oper.upon_enter]
      refine q2.mono fun en w' he => ?_
      cases en with
      | returned u =>
        obtain ⟨v1, h1, x1, μ', ⟨rfl, rfl, rfl⟩, k2, k3, k4, k5⟩ := he
        exact hK _ _ μ' u rfl k3 k4 k5 k2
      | panicked _ => exact he.elim
      | outgrown => exact he.elim
    cases op
    case call f args =>
      dsimp only at H d4
      split at d4
      · rename_i gg ys hcall
        simp only [Bool.and_eq_true] at d4
        have hg := R.opds _ _ d4.1
        have hgv : a.eval gg = .func (.func f) #[] #[] := by
          simp only [Opd.ev] at hg
          generalize a.eval gg = z at hg
          cases hg with
          | fn _ _ vs hl hr =>
            have : vs = [] := List.length_eq_zero_iff.1 (by simpa using hl.symm)
            subst this; rfl
        exact call f _ gg ys [] [] hcall hgv rfl (fun j y v h1 h2 => by simp at h1) (by simp [opds_len d4.2]) (opds_rel R.opds d4.2) (by simpa using H)
      · cases d4
    case callv f args =>
      dsimp only at H d4
      split at d4
      · rename_i gg ys hcall
        simp only [Bool.and_eq_true] at d4
        split at H
        · rename_i fn caps hf
          have hg := R.opds _ _ d4.1
          rw [hf] at hg
          generalize hz : a.eval gg = z at hg
          cases hg with
          | fn _ _ vs hl hr => exact call fn _ gg ys caps vs hcall hz hl hr (by simp [opds_len d4.2]) (opds_rel R.opds d4.2) H
        · exact H.elim
      · cases d4
    case mnext i => cases d4
    all_goals
      dsimp only at H d4
      obtain ⟨nx, w', μ', r1, r2, r3, r4, r5⟩ := op_sound (o := p) d4 (fun _ => rfl) R.heap R.opds H
      unfold Oper.wp
      rw [r1]
      rcases r2 with ⟨u, rfl, hu⟩ | ⟨rfl, hv⟩
      · rw [Oper.upon_value]
        exact hK _ _ μ' u rfl r3 r4 r5 hu
      · rw [Oper.upon_skip]
        exact hK _ _ μ' undef rfl r3 r4 r5 (hv ▸ .und _)
  · rename_i hw
    obtain ⟨rfl, rfl, rfl⟩ := H
    rw [if_neg (by rw [wanted_ok R d3 hw]; simp)]
    exact hK _ _ μ undef rfl R.heap (Evo.refl _ _ _) (EscInv.refl _ _) .skp
  · exact H.elim

/-! ### operations that do not look at the heap -/

def AO.hfree : AO → Bool
  | .mv _ | .pick _ _ _ | .build _ _ | .nilchk _ | .bin _ _ _ | .eqa _ _ _ _ | .isnil _ _ _ | .mkif _ | .un _ _ | .mkfn _ _ | .slstr _ _ _ | .faddr _ _ _ | .field _ _ _ | .iaddra _ _ _ _ | .idxa _ _ _ _ | .idxs _ _ | .ext _ _ | .len _ | .lens _ | .mx _ | .mn _ => true
  | _ => false

theorem mapc {α : Type} {F : α → AV} {X : Option α} {h h1 g : Heap} {v : AV} {y : Esc} (H : Option.map (fun v => (F v, h, ([] : Esc))) X = some (v, h1, y)) : Option.map (fun v => (F v, g, ([] : Esc))) X = some (v, g, []) := by
  cases X with
  | none => cases H
  | some z => simp at H ⊢; exact H.1

theorem hfree_ok {op : AO} (hf : op.hfree = true) {ev : Opd → AV} {v : AV} {h1 : Heap} {y : Esc} (H : aop op ev h = some (v, h1, y)) (g : Heap) : aop op ev g = some (v, g, []) := by
  cases op <;> first
    | (cases hf; done)
    | (simp only [aop] at H ⊢; simp_all; done)
    | (simp only [aop] at H ⊢; exact mapc H)
    | (simp only [aop] at H ⊢; split at H <;> first | (simp_all; done) | exact mapc H | (split at H <;> first | (simp_all; done) | exact mapc H | (rw [if_pos ‹_›]; exact mapc H) | (split at H <;> first | (simp_all; done) | exact mapc H | (rw [if_pos ‹_›]; exact mapc H))))

/-! ### what a run in one order tells -/

structure Tr (C : Hd) (gl : Nat → Option PV) (ds : List DOp) (m : Nat) (dn : Done) (hs : List Heap) (E : Nat → List (Nat × AV)) (H : Nat → Heap) (V : Nat → AV) (X Y : Nat → Esc) (i : Nat) (o : DOp) : Prop where
  run : ADo C gl o.op (prune (some o.rd) (E (m + i))) (H (m + i)) (V (m + i)) (H (m + i + 1)) (Y (m + i))
  env : E (m + i + 1) = put o.op.dst (V (m + i)) (E (m + i))
  esc : X (m + i + 1) = Y (m + i) ++ X (m + i)
  still : o.eff = false → H (m + i + 1) = H (m + i) ∧ Y (m + i) = []
  early : ∀ k ∈ o.early, ∃ g, (k < m ∧ hs[k]? = some g ∨ m ≤ k ∧ k < m + i ∧ g = H k) ∧ ADo C gl o.op (prune (some o.rd) (E (m + i))) g (V (m + i)) g []
  again : ∀ j ∈ o.again, (∃ q, j < m ∧ dn[j]? = some q ∧ ADo C gl q.1 q.2.1 (H (m + i + 1)) q.2.2 (H (m + i + 1)) []) ∨
    (m ≤ j ∧ ∃ q, ds[j - m]? = some q ∧ ADo C gl q.op (prune (some q.rd) (E j)) (H (m + i + 1)) (V j) (H (m + i + 1)) [])

end Go.Am
