/- The abstract machine, part E: regions whose order is left open: from one order to all. -/
import Derived.Test.YtajhbehiecgflaaAmD
set_option linter.unusedSimpArgs false
set_option linter.unusedVariables false
set_option maxHeartbeats 1000000
namespace Go.Am

variable {h h' : Heap} {μ μ' : Mu} {w w' : World} {P : Program} {M M' : Mem}
variable {gl : Nat → Option PV} {nt : Nat} {M0 : Mem} {h0 : Heap} {μ0 : Mu} {e : List (Nat × AV)} {x : Esc} {a : Act}

theorem trace {C : Hd} : ∀ (ds : List DOp) (m : Nat) (dn : Done) (hs : List Heap) (e : List (Nat × AV)) (h : Heap) (x : Esc) (K : List (Nat × AV) → Heap → Esc → Prop), ADraw C gl ds dn hs e h x K → dn.length = m → hs.length = m →
    ∃ E H V X Y, E m = e ∧ H m = h ∧ X m = x ∧ (∀ i o, ds[i]? = some o → Tr C gl ds m dn hs E H V X Y i o) ∧ K (E (m + ds.length)) (H (m + ds.length)) (X (m + ds.length))
  | [], m, dn, hs, e, h, x, K, HD, h1, h2 => ⟨fun _ => e, fun _ => h, fun _ => .und, fun _ => x, fun _ => [], rfl, rfl, rfl, fun i o ho => by simp at ho, HD⟩
  | o :: r, m, dn, hs, e, h, x, K, HD, h1, h2 => by
    obtain ⟨v, h', y, d1, d2, d3, d4, d5⟩ := HD
    obtain ⟨E, H, V, X, Y, e1, e2, e3, e4, e5⟩ := trace r (m + 1) _ _ _ _ _ K d5 (by simp [h1]) (by simp [h2])
    refine ⟨fun i => if i = m then e else E i, fun i => if i = m then h else H i, fun i => if i = m then v else V i, fun i => if i = m then x else X i, fun i => if i = m then y else Y i, by simp, by simp, by simp, ?_, ?_⟩
    · intro i o' ho'
      cases i with
      | zero =>
        simp only [List.getElem?_cons_zero, Option.some.injEq] at ho'
        subst ho'
        refine ⟨?_, ?_, ?_, fun hf => ?_, fun k hk => ?_, fun j hj => ?_⟩
        · simp only [Nat.add_zero, if_true, Nat.succ_ne_self, if_false, e2]; exact d1
        · simp only [Nat.add_zero, if_true, Nat.succ_ne_self, if_false, e1]
        · simp only [Nat.add_zero, if_true, Nat.succ_ne_self, if_false, e3]
        · simp only [Nat.add_zero, if_true, Nat.succ_ne_self, if_false, e2]; exact d2 hf
        · obtain ⟨g, q1, q2⟩ := d3 k hk
          refine ⟨g, .inl ⟨by rw [← h2]; exact lt_of_get q1, q1⟩, ?_⟩
          simp only [Nat.add_zero, if_true]
          exact q2
        · obtain ⟨q, q1, q2⟩ := d4 j hj
          refine .inl ⟨q, by rw [← h1]; exact lt_of_get q1, q1, ?_⟩
          simp only [Nat.add_zero, Nat.succ_ne_self, if_false, e2]
          exact q2
      | succ i =>
        simp only [List.getElem?_cons_succ] at ho'
        have T := e4 i o' ho'
        have hm2 : m + (i + 1) = m + 1 + i := by omega
        have hm3 : ¬ (m + 1 + i = m) := by omega
        have hm4 : ¬ (m + 1 + i + 1 = m) := by omega
        refine ⟨?_, ?_, ?_, fun hf => ?_, fun k hk => ?_, fun j hj => ?_⟩
        · simp only [hm2, hm3, hm4, if_false]; exact T.run
        · simp only [hm2, hm3, hm4, if_false]; exact T.env
        · simp only [hm2, hm3, hm4, if_false]; exact T.esc
        · simp only [hm2, hm3, hm4, if_false]; exact T.still hf
        · obtain ⟨g, q1, q2⟩ := T.early k hk
          refine ⟨g, ?_, by simp only [hm2, hm3, if_false]; exact q2⟩
          rcases q1 with ⟨q1, q3⟩ | ⟨q1, q3, q4⟩
          · rcases Nat.lt_or_ge k m with q5 | q5
            · left
              rw [List.getElem?_append_left (by omega)] at q3
              exact ⟨q5, q3⟩
            · have : k = m := by omega
              subst this
              right
              rw [List.getElem?_append_right (by omega), h2, Nat.sub_self] at q3
              simp at q3
              exact ⟨Nat.le_refl _, by omega, by simp [q3]⟩
          · right
            exact ⟨by omega, by omega, by rw [if_neg (by omega)]; exact q4⟩
        · rcases T.again j hj with ⟨q, q1, q2, q3⟩ | ⟨q1, q, q2, q3⟩
          · rcases Nat.lt_or_ge j m with q5 | q5
            · left
              rw [List.getElem?_append_left (by omega)] at q2
              exact ⟨q, q5, q2, by simp only [hm2, hm4, if_false]; exact q3⟩
            · have : j = m := by omega
              subst this
              right
              rw [List.getElem?_append_right (by omega), h1, Nat.sub_self] at q2
              simp at q2
              subst q2
              exact ⟨Nat.le_refl _, o, by simp, by simp only [hm2, hm4, if_false, if_true]; exact q3⟩
          · right
            refine ⟨by omega, q, ?_, ?_⟩
            · rw [show j - m = (j - (m + 1)) + 1 by omega]
              simpa using q2
            · simp only [hm2, hm4, if_false]
              rw [if_neg (by omega), if_neg (by omega)]
              exact q3
    · dsimp only
      rw [if_neg (by simp), if_neg (by simp), if_neg (by simp)]
      rw [show m + (o :: r).length = m + 1 + r.length by simp; omega]
      exact e5

/-! ### what a slot holds behind some of the operations -/

def lk (dst : Nat → Option Nat) (V : Nat → AV) (e : List (Nat × AV)) (sel : Nat → Bool) : Nat → Nat → AV
  | 0, t => aget e t
  | m + 1, t => if sel m = true ∧ dst m = some t then V m else lk dst V e sel m t

theorem lk_congr {dst : Nat → Option Nat} {V : Nat → AV} {e : List (Nat × AV)} {s s' : Nat → Bool} {t : Nat} : ∀ (n : Nat), (∀ j, j < n → dst j = some t → s j = s' j) → lk dst V e s n t = lk dst V e s' n t
  | 0, _ => rfl
  | n + 1, h => by
    simp only [lk]
    rw [lk_congr n (fun j hj => h j (by omega))]
    by_cases hd : dst n = some t
    · rw [h n (by omega) hd]
    · simp [hd]

theorem lk_none {dst : Nat → Option Nat} {V : Nat → AV} {e : List (Nat × AV)} {s : Nat → Bool} {t : Nat} {i : Nat} : ∀ (n : Nat), i ≤ n → (∀ j, i ≤ j → j < n → dst j = some t → s j = false) → lk dst V e s n t = lk dst V e s i t
  | 0, hi, _ => by have : i = 0 := by omega
                   subst this; rfl
  | n + 1, hi, h => by
    rcases Nat.lt_or_ge n i with q | q
    · have : i = n + 1 := by omega
      subst this; rfl
    · simp only [lk]
      rw [if_neg, lk_none n q (fun j h1 h2 => h j h1 (by omega))]
      rintro ⟨h1, h2⟩
      rw [h n q (by omega) h2] at h1
      cases h1

end Go.Am
