/- Signals: the package. -/
import Derived.Test.YtajhbehiecgflaaSpLotE
open Go
namespace Go.Am
variable {h : Heap} {K : Post}

def prevS (s : Nat → Int) : Nat → Int
  | 0 => 0
  | i + 1 => s i
def prevM (s : Nat → Int) : Nat → Nat
  | 0 => 0
  | i + 1 => runAt s i
theorem run_prev (s : Nat → Int) (k : Nat) : runAt s k = if s k = prevS s k then prevM s k + 1 else 1 := by
  cases k with
  | zero => simp [runAt, prevM]
  | succ i => rfl
theorem runAt_le (s : Nat → Int) : ∀ k, runAt s k ≤ k + 1
  | 0 => Nat.le_refl _
  | k + 1 => by have := runAt_le s k; simp only [runAt]; split <;> omega
theorem sign_mul_n (x : Int) {n : Int} (hn : 0 < n) : (x * n).sign = x.sign := sign_mul_pos x n hn
theorem sign_lt {x : Int} : x.sign < 0 ↔ x < 0 := Int.sign_neg_iff
theorem sign_gt {x : Int} : 0 < x.sign ↔ 0 < x := Int.sign_pos_iff
theorem sumAt_bd {l : List Int} (hm : Meas l) {n : Nat} (hn2 : n ≤ 10) (k : Nat) : -1000000 ≤ sumAt l n k ∧ sumAt l n k ≤ 1000000 := by
  have h1 := sum_bd' (N := 10) (B := 100000) (ch_meas hm n k).bd (by simp [ch]; omega) (by omega)
  unfold sumAt; omega

/-- What a mean is, held against the three lines of a chart. -/
theorem lines {l : List Int} (hm : Meas l) {n : Nat} (hn : 2 ≤ n) (hn2 : n ≤ 10) (hl : n ≤ l.length) (k : Nat) :
    (∀ h K, ACall X f_base_Compare [.p (.agg [eI (sumAt l n k), eI n]), .p (.agg [eI (low (totS l n) (kN l n * n)).1, eI (low (totS l n) (kN l n * n)).2])] h K = K (AI (sideAt l n k)) h []) ∧
    (∃ a : Int, (a < 0 ↔ farAt l n k < -(farB l n)) ∧ ∀ h K, ACall X f_base_Compare [.p (.agg [eI (sumAt l n k), eI n]), .p (.agg [eI (low (totS l n * 100 - farB l n) (kN l n * n * 100)).1, eI (low (totS l n * 100 - farB l n) (kN l n * n * 100)).2])] h K = K (AI a) h []) ∧
    (∃ a : Int, (0 < a ↔ farB l n < farAt l n k) ∧ ∀ h K, ACall X f_base_Compare [.p (.agg [eI (sumAt l n k), eI n]), .p (.agg [eI (low (totS l n * 100 + farB l n) (kN l n * n * 100)).1, eI (low (totS l n * 100 + farB l n) (kN l n * n * 100)).2])] h K = K (AI a) h []) := by
  obtain ⟨bk, bkn, bs, br, bf, brf, bb⟩ := chart_bd hm hn hn2 hl
  have sb := sumAt_bd hm hn2 k
  have hp1 : (0 : Int) < kN l n * n := by omega
  have hp2 : (0 : Int) < kN l n * n * 100 := by omega
  have c0 : ∀ a b : Int, 0 < b → b ≤ 1000000 → -10000000000000 ≤ a → a ≤ 10000000000000 → ∀ h K, ACall X f_base_Compare [.p (.agg [eI (sumAt l n k), eI n]), .p (.agg [eI (low a b).1, eI (low a b).2])] h K = K (AI (sumAt l n k * b - a * n).sign) h [] := by
    intro a b hb hb2 ha ha2 h K
    have d1 := low_den_pos a b hb
    have d2 := low_den_le a b hb
    have d3 := low_abs a b hb
    rw [s_Compare _ _ _ _ (by omega) (by omega) (by omega) (by omega), sign_low _ _ _ _ hb]
  have e1 : sumAt l n k * (kN l n * n) - totS l n * n = (sumAt l n k * kN l n - totS l n) * n := by rw [Int.sub_mul, Int.mul_assoc]
  have e2 : ∀ B : Int, sumAt l n k * (kN l n * n * 100) - (totS l n * 100 + B) * n = (farAt l n k - B) * n := by
    intro B
    unfold farAt
    simp only [Int.sub_mul, Int.add_mul, Int.mul_sub]
    have q1 : sumAt l n k * (kN l n * n * 100) = 100 * (sumAt l n k * kN l n) * n := by
      rw [Int.mul_comm (kN l n * n : Int) 100, Int.mul_left_comm, ← Int.mul_assoc (sumAt l n k), Int.mul_assoc 100]
    have q2 : totS l n * 100 * n = 100 * totS l n * n := by rw [Int.mul_comm (totS l n) 100]
    rw [q1, q2]; omega
  have hnp : (0 : Int) < n := by omega
  refine ⟨fun h K => ?_, ⟨_, ?_, c0 _ _ hp2 (by omega) (by omega) (by omega)⟩, ⟨_, ?_, c0 _ _ hp2 (by omega) (by omega) (by omega)⟩⟩
  · rw [c0 _ _ hp1 (by omega) (by omega) (by omega), e1, sign_mul_n _ hnp]; rfl
  · rw [show totS l n * 100 - farB l n = totS l n * 100 + -(farB l n) by omega, e2, sign_mul_n _ hnp, sign_lt]; omega
  · rw [e2, sign_mul_n _ hnp, sign_gt]; omega

theorem sums_get {l : List Int} {n k m : Nat} (h : k < m) : ((sumsL l n m).map eI)[k]? = some (eI (sumAt l n k)) := by
  simp [sumsL, h]

set_option maxHeartbeats 2000000 in
theorem Signals_ok (l : List Int) (hm : Meas l) (n : Nat) (hn : 2 ≤ n) (hn2 : n ≤ 10) (hl : n ≤ l.length) (hf : chartFault l n = 0) : ACall X f_lot_Signals [AL l, AI n] h K = K (.tup [AL (sigs l n (kN l n)), AI 0]) h [] := by
  refine rule ?_
  rw [c_lot_Signals rfl]
  have h3 := hm.len
  have vf := fun h K => s_chartFault (h := h) (K := K) l n (by omega)
  rw [hf] at vf
  have c := fun h K => chart_ok (h := h) (K := K) l hm n hn hn2 hl
  simp only [chartP] at c
  have g := fun h K => groups_ok (h := h) (K := K) l hm n hn
  rw [show l.length / n = kN l n from rfl] at g
  obtain ⟨bk, bkn, bs, br, bf, brf, bb⟩ := chart_bd hm hn hn2 hl
  simp only [d_lot_Signals, go_sem, vf, c, g, sumsL_len]
  refine N_loop (fun k : Nat => ⟨[(1, AI n), (7, .ref h.length 0), (10, AI (prevS (sideAt l n) k)), (11, AI (prevM (sideAt l n) k)), (12, .own (h.length + 1) (sigs l n k).length 0 (sigs l n k).length), (32, AL (sumsL l n (kN l n))), (33, AI (kN l n)), (34, AI k)],
    h ++ [.box [AI (low (totS l n) (kN l n * n)).1, AI (low (totS l n) (kN l n * n)).2, AI (low (totR l n) (kN l n)).1, AI (low (totR l n) (kN l n)).2, AI (low (totS l n * 100 - farB l n) (kN l n * n * 100)).1, AI (low (totS l n * 100 - farB l n) (kN l n * n * 100)).2,
      AI (low (totS l n * 100 + farB l n) (kN l n * n * 100)).1, AI (low (totS l n * 100 + farB l n) (kN l n * n * 100)).2], .row none ((sigs l n k).map eI) 0], []⟩) (fun k => k ≤ kN l n) (fun k => kN l n - k) 0 rfl (by simp) ?_
  intro k hk
  rcases Nat.lt_or_ge k (kN l n) with hlt | hge
  · obtain ⟨L1, ⟨a2, b2, L2⟩, ⟨a3, b3, L3⟩⟩ := lines hm hn hn2 hl k
    have hg := sums_get (l := l) (n := n) hlt
    have hrun := run_prev (sideAt l n) k
    have hrl := runAt_le (sideAt l n) k
    have hsl := sigs_len l n k
    have hmx : (sigs l n k).length + 1 ≤ maxSl := by unfold maxSl; omega
    have wk : IntKind.i64.wrap ((k : Int) + 1) = ((k + 1 : Nat) : Int) := i64_wrap _ (by omega) (by omega)
    have hrow := rowAt_run l n k
    have hout : outAt l n k = (decide (a2 < 0) || decide (0 < a3)) := by
      unfold outAt; rw [Bool.eq_iff_iff]; simp only [decide_eq_true_eq, Bool.or_eq_true, b2, b3]; omega
    have hss := sigs_succ l n k
    have nextS : prevS (sideAt l n) (k + 1) = sideAt l n k := rfl
    have nextM : prevM (sideAt l n) (k + 1) = runAt (sideAt l n) k := rfl
    by_cases he : sideAt l n k = prevS (sideAt l n) k
    · rw [if_pos he] at hrun
      have w1 : IntKind.i64.wrap ((prevM (sideAt l n) k : Int) + 1) = ((runAt (sideAt l n) k : Nat) : Int) := by rw [hrun]; exact i64_wrap _ (by omega) (by omega)
      rw [← he]
      by_cases c1 : a2 < 0
      · skip
        have hor : (outAt l n k || rowAt l n k) = true := by rw [hout, hrow]; simp [c1]
        rw [hor] at hss
        have hs1 : sigs l n (k + 1) = sigs l n k ++ [(k : Int)] := by rw [hss]; simp
        simp only [go_sem, hlt, hg, L1, L2, L3, w1, wk, hmx, c1]
        exact ⟨k + 1, by simp only [nextS, nextM, hs1, List.length_append, List.length_singleton, List.map_append, List.map_cons, List.map_nil], by omega, by omega⟩
      by_cases c2 : 0 < a3
      · skip
        have hor : (outAt l n k || rowAt l n k) = true := by rw [hout, hrow]; simp [c1, c2]
        rw [hor] at hss
        have hs1 : sigs l n (k + 1) = sigs l n k ++ [(k : Int)] := by rw [hss]; simp
        simp only [go_sem, hlt, hg, L1, L2, L3, w1, wk, hmx, c1, c2]
        exact ⟨k + 1, by simp only [nextS, nextM, hs1, List.length_append, List.length_singleton, List.map_append, List.map_cons, List.map_nil], by omega, by omega⟩
      by_cases c3 : sideAt l n k = 0
      · have c3t := eq_true c3
        have hor : (outAt l n k || rowAt l n k) = false := by rw [hout, hrow]; simp [c1, c2, c3]
        rw [hor] at hss
        have hs1 : sigs l n (k + 1) = sigs l n k := by rw [hss]; simp
        simp only [go_sem, hlt, hg, L1, L2, L3, w1, wk, hmx, c1, c2, c3t]
        exact ⟨k + 1, by simp only [nextS, nextM, hs1, List.length_append, List.length_singleton, List.map_append, List.map_cons, List.map_nil], by omega, by omega⟩
      by_cases c4 : (8 : Int) ≤ (runAt (sideAt l n) k : Int)
      · have c4' : 8 ≤ runAt (sideAt l n) k := by omega
        have hor : (outAt l n k || rowAt l n k) = true := by rw [hout, hrow]; simp [c1, c2, c3, c4']
        rw [hor] at hss
        have hs1 : sigs l n (k + 1) = sigs l n k ++ [(k : Int)] := by rw [hss]; simp
        simp only [go_sem, hlt, hg, L1, L2, L3, w1, wk, hmx, c1, c2, c3, c4]
        exact ⟨k + 1, by simp only [nextS, nextM, hs1, List.length_append, List.length_singleton, List.map_append, List.map_cons, List.map_nil], by omega, by omega⟩
      · have c4' : ¬ 8 ≤ runAt (sideAt l n) k := by omega
        have hor : (outAt l n k || rowAt l n k) = false := by rw [hout, hrow]; simp [c1, c2, c3, c4']
        rw [hor] at hss
        have hs1 : sigs l n (k + 1) = sigs l n k := by rw [hss]; simp
        simp only [go_sem, hlt, hg, L1, L2, L3, w1, wk, hmx, c1, c2, c3, c4]
        exact ⟨k + 1, by simp only [nextS, nextM, hs1, List.length_append, List.length_singleton, List.map_append, List.map_cons, List.map_nil], by omega, by omega⟩
    · rw [if_neg he] at hrun
      have w1 : IntKind.i64.wrap (0 + 1) = ((runAt (sideAt l n) k : Nat) : Int) := by rw [hrun]; exact i64_wrap _ (by omega) (by omega)
      simp only [Int.zero_add] at w1
      by_cases c1 : a2 < 0
      · skip
        have hor : (outAt l n k || rowAt l n k) = true := by rw [hout, hrow]; simp [c1]
        rw [hor] at hss
        have hs1 : sigs l n (k + 1) = sigs l n k ++ [(k : Int)] := by rw [hss]; simp
        simp only [go_sem, hlt, hg, L1, L2, L3, he, w1, Int.zero_add, wk, hmx, c1]
        exact ⟨k + 1, by simp only [nextS, nextM, hs1, List.length_append, List.length_singleton, List.map_append, List.map_cons, List.map_nil], by omega, by omega⟩
      by_cases c2 : 0 < a3
      · skip
        have hor : (outAt l n k || rowAt l n k) = true := by rw [hout, hrow]; simp [c1, c2]
        rw [hor] at hss
        have hs1 : sigs l n (k + 1) = sigs l n k ++ [(k : Int)] := by rw [hss]; simp
        simp only [go_sem, hlt, hg, L1, L2, L3, he, w1, Int.zero_add, wk, hmx, c1, c2]
        exact ⟨k + 1, by simp only [nextS, nextM, hs1, List.length_append, List.length_singleton, List.map_append, List.map_cons, List.map_nil], by omega, by omega⟩
      by_cases c3 : sideAt l n k = 0
      · have c3t := eq_true c3
        have hor : (outAt l n k || rowAt l n k) = false := by rw [hout, hrow]; simp [c1, c2, c3]
        rw [hor] at hss
        have hs1 : sigs l n (k + 1) = sigs l n k := by rw [hss]; simp
        simp only [go_sem, hlt, hg, L1, L2, L3, he, w1, Int.zero_add, wk, hmx, c1, c2, c3t]
        exact ⟨k + 1, by simp only [nextS, nextM, hs1, List.length_append, List.length_singleton, List.map_append, List.map_cons, List.map_nil], by omega, by omega⟩
      by_cases c4 : (8 : Int) ≤ (runAt (sideAt l n) k : Int)
      · have c4' : 8 ≤ runAt (sideAt l n) k := by omega
        have hor : (outAt l n k || rowAt l n k) = true := by rw [hout, hrow]; simp [c1, c2, c3, c4']
        rw [hor] at hss
        have hs1 : sigs l n (k + 1) = sigs l n k ++ [(k : Int)] := by rw [hss]; simp
        simp only [go_sem, hlt, hg, L1, L2, L3, he, w1, Int.zero_add, wk, hmx, c1, c2, c3, c4]
        exact ⟨k + 1, by simp only [nextS, nextM, hs1, List.length_append, List.length_singleton, List.map_append, List.map_cons, List.map_nil], by omega, by omega⟩
      · have c4' : ¬ 8 ≤ runAt (sideAt l n) k := by omega
        have hor : (outAt l n k || rowAt l n k) = false := by rw [hout, hrow]; simp [c1, c2, c3, c4']
        rw [hor] at hss
        have hs1 : sigs l n (k + 1) = sigs l n k := by rw [hss]; simp
        simp only [go_sem, hlt, hg, L1, L2, L3, he, w1, Int.zero_add, wk, hmx, c1, c2, c3, c4]
        exact ⟨k + 1, by simp only [nextS, nextM, hs1, List.length_append, List.length_singleton, List.map_append, List.map_cons, List.map_nil], by omega, by omega⟩
  · have e2 : k = kN l n := by omega
    subst e2
    simp only [go_sem, Nat.lt_irrefl]
    rw [win_full (by simp)]
end Go.Am
