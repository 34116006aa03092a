/- Subgroups: their sums and ranges. -/
import Derived.Test.YtajhbehiecgflaaSpLotC
open Go
namespace Go.Am
variable {h : Heap} {K : Post}

/-- The k-th subgroup of n values. -/
def ch (l : List Int) (n k : Nat) : List Int := (l.drop (k * n)).take n
def sumAt (l : List Int) (n k : Nat) : Int := (ch l n k).sum
def rngAt (l : List Int) (n k : Nat) : Int := maxL (ch l n k) - minL (ch l n k)
def sumsL (l : List Int) (n k : Nat) : List Int := (List.range k).map (sumAt l n)
def rngsL (l : List Int) (n k : Nat) : List Int := (List.range k).map (rngAt l n)
theorem ch_1 (l : List Int) (n k : Nat) : win (l.drop (k * n)) 0 n = ch l n k := by simp [win, ch]
theorem ch_2 (l : List Int) (n k : Nat) : win l (k * n) n = ch l n k := rfl
theorem ch_len {l : List Int} {n k : Nat} (h : k * n + n ≤ l.length) : (ch l n k).length = n := by simp [ch]; omega
theorem ch_mem {l : List Int} {n k : Nat} {x : Int} (h : x ∈ ch l n k) : x ∈ l := List.mem_of_mem_drop (List.mem_of_mem_take h)
theorem sumsL_succ (l : List Int) (n k : Nat) : sumsL l n (k + 1) = sumsL l n k ++ [sumAt l n k] := by simp [sumsL, List.range_succ]
theorem rngsL_succ (l : List Int) (n k : Nat) : rngsL l n (k + 1) = rngsL l n k ++ [rngAt l n k] := by simp [rngsL, List.range_succ]
theorem sumsL_len (l : List Int) (n k : Nat) : (sumsL l n k).length = k := by simp [sumsL]
theorem rngsL_len (l : List Int) (n k : Nat) : (rngsL l n k).length = k := by simp [rngsL]
theorem rng_bd {l : List Int} (hm : Meas l) {n k : Nat} (hn : 1 ≤ n) (h : k * n + n ≤ l.length) : (-100000 ≤ maxL (ch l n k) ∧ maxL (ch l n k) ≤ 100000) ∧ (-100000 ≤ minL (ch l n k) ∧ minL (ch l n k) ≤ 100000) := by
  have hne : ch l n k ≠ [] := by intro e; have := ch_len h; rw [e] at this; simp at this; omega
  exact ⟨hm.bd _ (ch_mem (maxL_mem hne)), hm.bd _ (ch_mem (minL_mem hne))⟩
theorem ch_meas {l : List Int} (hm : Meas l) (n k : Nat) : Meas (ch l n k) := ⟨by have := hm.len; simp [ch]; omega, fun x hx => hm.bd x (ch_mem hx)⟩
theorem div_le {a n k : Nat} (hn : 1 ≤ n) : k * n + n ≤ a ↔ k < a / n := by
  rw [Nat.lt_iff_add_one_le, Nat.le_div_iff_mul_le (by omega), Nat.add_mul, Nat.one_mul]

theorem groups_ok (l : List Int) (hm : Meas l) (n : Nat) (hn : 2 ≤ n) : ACall X f_lot_groups [AL l, AI n] h K = K (.tup [AL (sumsL l n (l.length / n)), AL (rngsL l n (l.length / n))]) h [] := by
  refine rule ?_
  rw [c_lot_groups rfl]
  simp only [d_lot_groups, go_sem]
  have h3 := hm.len
  refine N_loop (fun k : Nat => ⟨[(0, AL (l.drop (k * n))), (1, AI n), (4, .own h.length k 0 k), (5, .own (h.length + 1) k 0 k)], h ++ [.row none ((sumsL l n k).map eI) 0, .row none ((rngsL l n k).map eI) 0], []⟩) (fun k => k * n ≤ l.length) (fun k => l.length - k * n) 0 (by simp [sumsL, rngsL]) (by simp) ?_
  intro k hk
  have hdl : (l.drop (k * n)).length = l.length - k * n := by simp
  by_cases hlt : k * n + n ≤ l.length
  · have c1 := ch_1 l n k
    have hcl := ch_len hlt
    have hcm := ch_meas hm n k
    have hle : n ≤ l.length - k * n := by omega
    have hmx : k + 1 ≤ maxSl := by
      have : k ≤ k * n := Nat.le_mul_of_pos_right k (by omega)
      unfold maxSl; omega
    have hwd : win (l.drop (k * n)) n (l.length - k * n - n) = l.drop ((k + 1) * n) := by
      simp only [win, List.drop_drop]
      rw [show k * n + n = (k + 1) * n by rw [Nat.add_mul]; omega, List.take_of_length_le]
      simp only [List.length_drop, Nat.add_mul]; omega
    simp only [go_sem, hdl, hle, win_map, c1]
    refine N_loop (fun j : Nat => ⟨[(0, AL (l.drop (k * n))), (1, AI n), (4, .own h.length k 0 k), (5, .own (h.length + 1) k 0 k), (6, AI ((ch l n k).take j).sum), (15, AL (ch l n k)), (16, AI (ch l n k).length), (17, AI j)], h ++ [.row none ((sumsL l n k).map eI) 0, .row none ((rngsL l n k).map eI) 0], []⟩) (fun j => j ≤ (ch l n k).length) (fun j => (ch l n k).length - j) 0 rfl (by simp) ?_
    intro j hj
    rcases Nat.lt_or_ge j (ch l n k).length with hjl | hjg
    · have hg := map_get eI hjl
      have e1 := sum_take_succ _ j hjl
      have b1 := hcm.sum (j + 1)
      have hl5 := hcm.len
      have w1 : IntKind.i64.wrap (((ch l n k).take j).sum + (ch l n k)[j]) = ((ch l n k).take (j + 1)).sum := by rw [← e1]; exact i64_wrap _ (by omega) (by omega)
      have w4 : IntKind.i64.wrap ((j : Int) + 1) = ((j + 1 : Nat) : Int) := i64_wrap _ (by omega) (by omega)
      simp only [go_sem, hjl, hg, w1, w4]
      exact ⟨j + 1, rfl, by omega, by omega⟩
    · have : j = (ch l n k).length := by omega
      subst this
      have r := rng_bd hm (by omega) hlt
      have w1 : IntKind.i64.wrap (maxL (ch l n k) - minL (ch l n k)) = rngAt l n k := i64_wrap _ (by omega) (by omega)
      have sM := fun h K => s_Max (h := h) (K := K) (ch l n k) (by omega) (by omega)
      have sm := fun h K => s_Min (h := h) (K := K) (ch l n k) (by omega) (by omega)
      simp only [go_sem, Nat.lt_irrefl, List.take_length, hdl, hle, win_map, c1, hmx, sumsL_len, rngsL_len, sM, sm, w1, hwd]
      refine ⟨k + 1, ?_, ?_, ?_⟩
      · simp only [sumsL_succ, rngsL_succ, List.map_append, List.map_cons, List.map_nil]
        rfl
      · rw [Nat.add_mul]; omega
      · rw [Nat.add_mul]; omega
  · have e1 : ((n : Int) ≤ ((l.length - k * n : Nat) : Int)) = False := by simp only [eq_iff_iff, iff_false]; omega
    have e2 : k = l.length / n := by
      have h1 := div_le (a := l.length) (k := k) (show 1 ≤ n by omega)
      have h2 : k ≤ l.length / n := (Nat.le_div_iff_mul_le (by omega)).2 hk
      omega
    have hle : ¬ n ≤ l.length - k * n := by omega
    simp only [go_sem, hdl, hle, sumsL_len, rngsL_len]
    rw [win_full (by simp [sumsL_len]), win_full (by simp [rngsL_len]), e2]
end Go.Am
