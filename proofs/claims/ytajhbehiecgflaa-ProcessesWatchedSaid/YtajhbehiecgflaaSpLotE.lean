/- Charts: both ways. -/
import Derived.Test.YtajhbehiecgflaaSpLotD
open Go
namespace Go.Am
variable {h : Heap} {K : Post}

theorem sumsQ_ok (l : List Int) (hm : Meas l) (n : Nat) (hn : 2 ≤ n) (hn2 : n ≤ 10) : ACall X f_scanref2_sums [AL l, AI n] h K = K (.tup [AL (sumsL l n (l.length / n)), AL (rngsL l n (l.length / n))]) h [] := by
  refine rule ?_
  rw [c_scanref2_sums rfl]
  simp only [d_scanref2_sums, go_sem]
  have h3 := hm.len
  refine N_loop (fun k : Nat => ⟨[(0, AL l), (1, AI n), (6, .own h.length k 0 k), (7, .own (h.length + 1) k 0 k), (8, AI ((k * n : Nat) : Int))], h ++ [.row none ((sumsL l n k).map eI) 0, .row none ((rngsL l n k).map eI) 0], []⟩) (fun k => k * n ≤ l.length) (fun k => l.length - k * n) 0 (by simp [sumsL, rngsL]) (by simp) ?_
  intro k hk
  have w0 : IntKind.i64.wrap (((k * n : Nat) : Int) + n) = ((k * n + n : Nat) : Int) := i64_wrap _ (by omega) (by omega)
  by_cases hlt : k * n + n ≤ l.length
  · have c1 : win l (k * n) n = ch l n k := rfl
    have hcl := ch_len hlt
    have hcm := ch_meas hm n k
    have e0 : k * n + n - k * n = n := by omega
    have hle : k * n ≤ k * n + n := by omega
    have hmx : k + 1 ≤ maxSl := by
      have : k ≤ k * n := Nat.le_mul_of_pos_right k (by omega)
      unfold maxSl; omega
    simp only [go_sem, w0, hlt, hle, win_map, e0, c1]
    refine N_loop (fun j : Nat => ⟨[(0, AL l), (1, AI n), (6, .own h.length k 0 k), (7, .own (h.length + 1) k 0 k), (8, AI ((k * n : Nat) : Int)), (9, AI ((ch l n k).take j).sum), (26, AL (ch l n k)), (27, AI (ch l n k).length), (28, AI j)], h ++ [.row none ((sumsL l n k).map eI) 0, .row none ((rngsL l n k).map eI) 0], []⟩) (fun j => j ≤ (ch l n k).length) (fun j => (ch l n k).length - j) 0 rfl (by simp) ?_
    intro j hj
    rcases Nat.lt_or_ge j (ch l n k).length with hjl | hjg
    · have hg := map_get eI hjl
      have e1 := sum_take_succ _ j hjl
      have b1 := hcm.sum (j + 1)
      have hl5 := hcm.len
      have w1 : IntKind.i64.wrap (((ch l n k).take j).sum + (ch l n k)[j]) = ((ch l n k).take (j + 1)).sum := by rw [← e1]; exact i64_wrap _ (by omega) (by omega)
      have w4 : IntKind.i64.wrap ((j : Int) + 1) = ((j + 1 : Nat) : Int) := i64_wrap _ (by omega) (by omega)
      simp only [go_sem, hjl, hg, w1, w4]
      exact ⟨j + 1, rfl, by omega, by omega⟩
    · have : j = (ch l n k).length := by omega
      subst this
      have r := rng_bd hm (by omega) hlt
      have w1 : IntKind.i64.wrap (maxL (ch l n k) - minL (ch l n k)) = rngAt l n k := i64_wrap _ (by omega) (by omega)
      have sM := fun h K => s_Max (h := h) (K := K) (ch l n k) (by omega) (by omega)
      have sm := fun h K => s_Min (h := h) (K := K) (ch l n k) (by omega) (by omega)
      simp only [go_sem, Nat.lt_irrefl, List.take_length, w0, hlt, hle, win_map, e0, c1, hmx, sumsL_len, rngsL_len, sM, sm, w1]
      refine ⟨k + 1, ?_, ?_, ?_⟩
      · simp only [sumsL_succ, rngsL_succ, List.map_append, List.map_cons, List.map_nil, Nat.add_mul, Nat.one_mul]
        rfl
      · rw [Nat.add_mul]; omega
      · rw [Nat.add_mul]; omega
  · have e1 : (((k * n + n : Nat) : Int) ≤ (l.length : Int)) = False := by simp only [eq_iff_iff, iff_false]; omega
    have e2 : k = l.length / n := by
      have h1 := div_le (a := l.length) (k := k) (show 1 ≤ n by omega)
      have h2 : k ≤ l.length / n := (Nat.le_div_iff_mul_le (by omega)).2 hk
      omega
    simp only [go_sem, w0, hlt, sumsL_len, rngsL_len]
    rw [win_full (by simp [sumsL_len]), win_full (by simp [rngsL_len]), e2]

/-! ### the chart -/
section
variable (l : List Int) (n : Nat)
def kN : Nat := l.length / n
def totS : Int := (sumsL l n (kN l n)).sum
def totR : Int := (rngsL l n (kN l n)).sum
def farB : Int := totR l n * factorV n * n
def chartP : PV := .agg [eI (low (totS l n) (kN l n * n)).1, eI (low (totS l n) (kN l n * n)).2, eI (low (totR l n) (kN l n)).1, eI (low (totR l n) (kN l n)).2,
  eI (low (totS l n * 100 - farB l n) (kN l n * n * 100)).1, eI (low (totS l n * 100 - farB l n) (kN l n * n * 100)).2, eI (low (totS l n * 100 + farB l n) (kN l n * n * 100)).1, eI (low (totS l n * 100 + farB l n) (kN l n * n * 100)).2]
end
theorem sumsL_mem {l : List Int} (hm : Meas l) {n k : Nat} (hn2 : n ≤ 10) : ∀ x ∈ sumsL l n k, -1000000 ≤ x ∧ x ≤ 1000000 := by
  intro x hx
  obtain ⟨i, _, rfl⟩ := List.mem_map.1 hx
  have h1 := sum_bd' (N := 10) (B := 100000) (ch_meas hm n i).bd (by simp [ch]; omega) (by omega)
  unfold sumAt; omega
theorem rngsL_mem {l : List Int} (hm : Meas l) {n k : Nat} (hn : 1 ≤ n) (hk : k ≤ l.length / n) : ∀ x ∈ rngsL l n k, -200000 ≤ x ∧ x ≤ 200000 := by
  intro x hx
  obtain ⟨i, hi, rfl⟩ := List.mem_map.1 hx
  simp only [List.mem_range] at hi
  have := rng_bd hm hn ((div_le hn).2 (show i < l.length / n by omega))
  unfold rngAt; omega
structure ChartBd (l : List Int) (n : Nat) : Prop where
  k : 1 ≤ kN l n ∧ kN l n ≤ 2500
  kn : 1 ≤ kN l n * n ∧ kN l n * n ≤ 5000
  s : -5000000000 ≤ totS l n ∧ totS l n ≤ 5000000000
  r : -500000000 ≤ totR l n ∧ totR l n ≤ 500000000
  f : 0 ≤ factorV n ∧ factorV n ≤ 188
  rf : -94000000000 ≤ totR l n * factorV n ∧ totR l n * factorV n ≤ 94000000000
  b : -940000000000 ≤ farB l n ∧ farB l n ≤ 940000000000
theorem abs_bd {a b A B : Int} (h1 : -A ≤ a ∧ a ≤ A) (h2 : 0 ≤ b ∧ b ≤ B) : -(A * B) ≤ a * b ∧ a * b ≤ A * B := by
  have q1 : a * b ≤ A * b := Int.mul_le_mul_of_nonneg_right h1.2 h2.1
  have q2 : -A * b ≤ a * b := Int.mul_le_mul_of_nonneg_right h1.1 h2.1
  have q3 : A * b ≤ A * B := Int.mul_le_mul_of_nonneg_left h2.2 (by omega)
  rw [Int.neg_mul] at q2
  omega
theorem chart_bd {l : List Int} (hm : Meas l) {n : Nat} (hn : 2 ≤ n) (hn2 : n ≤ 10) (hl : n ≤ l.length) : ChartBd l n := by
  have h3 := hm.len
  have k1 : 1 ≤ kN l n := (Nat.le_div_iff_mul_le (by omega)).2 (by omega)
  have k2 : kN l n * n ≤ l.length := Nat.div_mul_le_self _ _
  have k3 : kN l n * 2 ≤ kN l n * n := Nat.mul_le_mul_left _ hn
  have s1 := sum_bd' (N := 2500) (B := 1000000) (sumsL_mem hm (k := kN l n) hn2) (by rw [sumsL_len]; omega) (by omega)
  have r1 := sum_bd' (N := 2500) (B := 200000) (rngsL_mem hm (k := kN l n) (show 1 ≤ n by omega) (Nat.le_refl _)) (by rw [rngsL_len]; omega) (by omega)
  have f1 := factorV_bd (size := n) (by omega)
  have r2 : -500000000 ≤ totR l n ∧ totR l n ≤ 500000000 := by unfold totR; omega
  have rf := abs_bd (A := 500000000) (B := 188) (by omega) f1 (a := totR l n)
  have bb := abs_bd (A := 94000000000) (B := 10) (a := totR l n * factorV n) (b := n) (by omega) (by omega)
  exact ⟨by omega, by omega, by unfold totS; omega, r2, f1, by omega, by unfold farB; omega⟩

set_option maxHeartbeats 1000000 in
theorem chart_ok (l : List Int) (hm : Meas l) (n : Nat) (hn : 2 ≤ n) (hn2 : n ≤ 10) (hl : n ≤ l.length) : ACall X f_lot_chart [AL l, AI n] h K = K (.p (chartP l n)) h [] := by
  refine rule ?_
  rw [c_lot_chart rfl]
  have B := chart_bd hm hn hn2 hl
  obtain ⟨bk, bkn, bs, br, bf, brf, bb⟩ := B
  have g := fun h K => groups_ok (h := h) (K := K) l hm n hn
  have t1 := fun h K => s_total (h := h) (K := K) (sumsL l n (l.length / n)) (by rw [sumsL_len]; show kN l n ≤ _; omega) (fun x hx => by have := sumsL_mem hm hn2 x hx; omega)
  have t2 := fun h K => s_total (h := h) (K := K) (rngsL l n (l.length / n)) (by rw [rngsL_len]; show kN l n ≤ _; omega) (fun x hx => by have := rngsL_mem hm (show 1 ≤ n by omega) (Nat.le_refl _) x hx; omega)
  have f1 := fun h K => s_factor (h := h) (K := K) n (by omega)
  rw [show l.length / n = kN l n from rfl] at g t1 t2
  rw [show (sumsL l n (kN l n)).sum = totS l n from rfl] at t1
  rw [show (rngsL l n (kN l n)).sum = totR l n from rfl] at t2
  have w1 : IntKind.i64.wrap (totR l n * factorV n) = totR l n * factorV n := i64_wrap _ (by omega) (by omega)
  have w2 : IntKind.i64.wrap ((kN l n : Int) * n) = kN l n * n := i64_wrap _ (by omega) (by omega)
  have w3 : IntKind.i64.wrap ((kN l n : Int) * n * 100) = kN l n * n * 100 := i64_wrap _ (by omega) (by omega)
  have w4 : IntKind.i64.wrap (totS l n * 100) = totS l n * 100 := i64_wrap _ (by omega) (by omega)
  have w5 : IntKind.i64.wrap (totR l n * factorV n * n) = farB l n := i64_wrap (farB l n) (by omega) (by omega)
  have w6 : IntKind.i64.wrap (totS l n * 100 - farB l n) = totS l n * 100 - farB l n := i64_wrap _ (by omega) (by omega)
  have w7 : IntKind.i64.wrap (totS l n * 100 + farB l n) = totS l n * 100 + farB l n := i64_wrap _ (by omega) (by omega)
  have F1 := fun h K => s_Fraction (h := h) (K := K) (totS l n) (kN l n * n) (by omega) (by omega)
  have F2 := fun h K => s_Fraction (h := h) (K := K) (totR l n) (kN l n) (by omega) (by omega)
  have F3 := fun h K => s_Fraction (h := h) (K := K) (totS l n * 100 - farB l n) (kN l n * n * 100) (by omega) (by omega)
  have F4 := fun h K => s_Fraction (h := h) (K := K) (totS l n * 100 + farB l n) (kN l n * n * 100) (by omega) (by omega)
  simp only [d_lot_chart, go_sem, g, t1, t2, f1, sumsL_len, w1, w2, w3, w4, w5, w6, w7, F1, F2, F3, F4]
  rfl

set_option maxHeartbeats 1000000 in
theorem ChartOf_ok (l : List Int) (hm : Meas l) (n : Nat) (hn : 2 ≤ n) (hn2 : n ≤ 10) (hl : n ≤ l.length) : ACall X f_scanref2_ChartOf [AL l, AI n] h K = K (.p (chartP l n)) h [] := by
  refine rule ?_
  rw [c_scanref2_ChartOf rfl]
  have B := chart_bd hm hn hn2 hl
  obtain ⟨bk, bkn, bs, br, bf, brf, bb⟩ := B
  have g := fun h K => sumsQ_ok (h := h) (K := K) l hm n hn hn2
  have t1 := fun h K => s_totalQ (h := h) (K := K) (sumsL l n (l.length / n)) (by rw [sumsL_len]; show kN l n ≤ _; omega) (fun x hx => by have := sumsL_mem hm hn2 x hx; omega)
  have t2 := fun h K => s_totalQ (h := h) (K := K) (rngsL l n (l.length / n)) (by rw [rngsL_len]; show kN l n ≤ _; omega) (fun x hx => by have := rngsL_mem hm (show 1 ≤ n by omega) (Nat.le_refl _) x hx; omega)
  have f1 := fun h K => s_hundredths (h := h) (K := K) n (by omega)
  rw [show l.length / n = kN l n from rfl] at g t1 t2
  rw [show (sumsL l n (kN l n)).sum = totS l n from rfl] at t1
  rw [show (rngsL l n (kN l n)).sum = totR l n from rfl] at t2
  have fn := abs_bd (A := 188) (B := 10) (a := factorV n) (b := n) (by omega) (by omega)
  have eb : factorV n * n * totR l n = farB l n := by unfold farB; rw [Int.mul_comm, ← Int.mul_assoc]
  have w0 : IntKind.i64.wrap (100 * (n : Int)) = 100 * n := i64_wrap _ (by omega) (by omega)
  have ek : 100 * (n : Int) * kN l n = kN l n * n * 100 := by rw [Int.mul_comm, Int.mul_comm 100, Int.mul_assoc]
  have w2 : IntKind.i64.wrap (100 * (n : Int) * kN l n) = kN l n * n * 100 := by rw [ek]; exact i64_wrap _ (by omega) (by omega)
  have w3 : IntKind.i64.wrap (factorV n * n) = factorV n * n := i64_wrap _ (by omega) (by omega)
  have w4 : IntKind.i64.wrap (100 * totS l n) = totS l n * 100 := by rw [Int.mul_comm]; exact i64_wrap _ (by omega) (by omega)
  have w5 : IntKind.i64.wrap (factorV n * n * totR l n) = farB l n := by rw [eb]; exact i64_wrap (farB l n) (by omega) (by omega)
  have w6 : IntKind.i64.wrap (totS l n * 100 - farB l n) = totS l n * 100 - farB l n := i64_wrap _ (by omega) (by omega)
  have w7 : IntKind.i64.wrap (totS l n * 100 + farB l n) = totS l n * 100 + farB l n := i64_wrap _ (by omega) (by omega)
  have F1 := fun h K => s_refLowest (h := h) (K := K) (totS l n * 100) (kN l n * n * 100) (by omega) (by omega)
  have F2 := fun h K => s_refLowest (h := h) (K := K) (totR l n) (kN l n) (by omega) (by omega)
  have F3 := fun h K => s_refLowest (h := h) (K := K) (totS l n * 100 - farB l n) (kN l n * n * 100) (by omega) (by omega)
  have F4 := fun h K => s_refLowest (h := h) (K := K) (totS l n * 100 + farB l n) (kN l n * n * 100) (by omega) (by omega)
  have el : low (totS l n * 100) (kN l n * n * 100) = low (totS l n) (kN l n * n) := by rw [Int.mul_comm _ 100, Int.mul_comm (kN l n * n : Int) 100, low_scale 100 _ _ (by omega)]
  rw [el] at F1
  simp only [d_scanref2_ChartOf, go_sem, g, t1, t2, f1, sumsL_len, w0, w2, w3, w4, w5, w6, w7, F1, F2, F3, F4]
  rfl

def chartFault (l : List Int) (size : Int) : Int := if 2 ≤ size ∧ size ≤ 10 then measFault l size else 1
theorem chartFault_ok {l : List Int} {size : Int} (h : chartFault l size = 0) : Meas l ∧ ∃ n : Nat, size = n ∧ 2 ≤ n ∧ n ≤ 10 ∧ n ≤ l.length := by
  unfold chartFault at h
  split at h
  · obtain ⟨hm, h2⟩ := measFault_ok h
    exact ⟨hm, size.toNat, by omega, by omega, by omega, by omega⟩
  · cases h
theorem s_chartFault (l : List Int) (size : Int) (hl : l.length ≤ 1000000000) : ACall X f_lot_chartFault [AL l, AI size] h K = K (AI (chartFault l size)) h [] := by
  refine rule ?_
  rw [c_lot_chartFault rfl]
  have vf := fun h K => s_valuesFault (h := h) (K := K) l size hl
  unfold chartFault
  by_cases h1 : 2 ≤ size ∧ size ≤ 10
  · have e : (decide (size < 2) || decide (10 < size)) = false := by simp; omega
    simp only [d_lot_chartFault, go_sem, s_Out, e, vf, h1]
  · have e : (decide (size < 2) || decide (10 < size)) = true := by simp; omega
    simp only [d_lot_chartFault, go_sem, s_Out, e, h1]
theorem s_SizeFault (l : List Int) (size : Int) (hl : l.length ≤ 1000000000) : ACall X f_scanref2_SizeFault [AL l, AI size] h K = K (AI (chartFault l size)) h [] := by
  refine rule ?_
  rw [c_scanref2_SizeFault rfl]
  have vf := fun h K => s_MeasuresFault (h := h) (K := K) l size hl
  unfold chartFault
  by_cases h1 : 2 ≤ size ∧ size ≤ 10
  · have e : (decide (2 ≤ size) && decide (size ≤ 10)) = true := by simp; omega
    simp only [d_scanref2_SizeFault, go_sem, s_in, e, vf, h1]
  · have e : (decide (2 ≤ size) && decide (size ≤ 10)) = false := by simp; omega
    simp only [d_scanref2_SizeFault, go_sem, s_in, e, h1]

def noChart : PV := .agg [eI 0, eI 0, eI 0, eI 0, eI 0, eI 0, eI 0, eI 0]
def chartV (l : List Int) (size : Int) : AV := if chartFault l size = 0 then .tup [.p (chartP l size.toNat), AI 0] else .tup [.p noChart, AI (chartFault l size)]
theorem s_Chart (l : List Int) (size : Int) (hl : l.length ≤ 1000000000) : ACall X f_lot_Chart [AL l, AI size] h K = K (chartV l size) h [] := by
  refine rule ?_
  rw [c_lot_Chart rfl]
  have vf := fun h K => s_chartFault (h := h) (K := K) l size hl
  unfold chartV
  by_cases hf : chartFault l size = 0
  · obtain ⟨hm, n, rfl, a1, a2, a3⟩ := chartFault_ok hf
    rw [hf] at vf
    have c := fun h K => chart_ok (h := h) (K := K) l hm n a1 a2 a3
    simp only [chartP] at c
    simp only [d_lot_Chart, go_sem, vf, hf, c]
    rfl
  · simp only [d_lot_Chart, go_sem, vf, hf]
    rfl

/-! ### which subgroups signal -/
section
variable (l : List Int) (n : Nat)
def sideAt (i : Nat) : Int := (sumAt l n i * kN l n - totS l n).sign
def farAt (i : Nat) : Int := 100 * (sumAt l n i * kN l n - totS l n)
def outAt (i : Nat) : Bool := decide (farB l n < max (farAt l n i) (-(farAt l n i)))
def rowAt (i : Nat) : Bool := decide (7 ≤ i) && !decide (sideAt l n i = 0) && (List.range i).all fun j => decide (j + 7 < i) || decide (sideAt l n j = sideAt l n i)
def sigs (m : Nat) : List Int := ((List.range m).filter fun i => outAt l n i || rowAt l n i).map fun (i : Nat) => (i : Int)
end
theorem sigs_succ (l : List Int) (n m : Nat) : sigs l n (m + 1) = sigs l n m ++ if outAt l n m || rowAt l n m then [(m : Int)] else [] := by
  simp only [sigs, List.range_succ, List.filter_append, List.map_append]
  congr 1
  cases h : (outAt l n m || rowAt l n m) <;> simp [List.filter_cons, h]
theorem sigs_len (l : List Int) (n m : Nat) : (sigs l n m).length ≤ m := by
  simp only [sigs, List.length_map]
  have := List.length_filter_le (fun i => outAt l n i || rowAt l n i) (List.range m)
  simpa using this
/-- How many subgroups lie on one side, up to this one. -/
def runAt (s : Nat → Int) : Nat → Nat
  | 0 => 1
  | i + 1 => if s (i + 1) = s i then runAt s i + 1 else 1
theorem runAt_ge (s : Nat → Int) : ∀ (i m : Nat), m + 1 ≤ runAt s i ↔ m ≤ i ∧ ∀ j, i < j + m + 1 → j < i → s j = s i
  | 0, m => by
    simp only [runAt]
    exact ⟨fun h => ⟨by omega, fun j _ h2 => by omega⟩, fun h => by omega⟩
  | i + 1, m => by
    simp only [runAt]
    split
    · rename_i he
      cases m with
      | zero => exact ⟨fun _ => ⟨by omega, fun j h1 h2 => by omega⟩, fun _ => by omega⟩
      | succ m =>
        have ih := runAt_ge s i m
        constructor
        · intro h
          obtain ⟨a, b⟩ := ih.1 (by omega)
          refine ⟨by omega, fun j h1 h2 => ?_⟩
          rw [he]
          rcases Nat.lt_or_ge j i with h3 | h3
          · exact b j (by omega) h3
          · rw [show j = i by omega]
        · rintro ⟨a, b⟩
          have := ih.2 ⟨by omega, fun j h1 h2 => by rw [← he]; exact b j (by omega) (by omega)⟩
          omega
    · rename_i he
      constructor
      · intro h
        exact ⟨by omega, fun j h1 h2 => by omega⟩
      · rintro ⟨a, b⟩
        rcases Nat.eq_zero_or_pos m with h | h
        · omega
        · exact absurd (b i (by omega) (by omega)).symm he
theorem rowAt_run (l : List Int) (n i : Nat) : rowAt l n i = (!decide (sideAt l n i = 0) && decide (8 ≤ runAt (sideAt l n) i)) := by
  have h := runAt_ge (sideAt l n) i 7
  unfold rowAt
  rw [Bool.eq_iff_iff]
  simp only [Bool.and_eq_true, decide_eq_true_eq, List.all_eq_true, List.mem_range, Bool.or_eq_true, Bool.not_eq_true']
  constructor
  · rintro ⟨⟨a, b⟩, c⟩
    exact ⟨b, h.2 ⟨a, fun j h1 h2 => by rcases c j h2 with h3 | h3 <;> first | omega | exact h3⟩⟩
  · rintro ⟨a, b⟩
    obtain ⟨c, d⟩ := h.1 (by omega)
    exact ⟨⟨c, a⟩, fun j hj => by
      by_cases h3 : j + 7 < i
      · exact .inl h3
      · exact .inr (d j (by omega) hj)⟩
end Go.Am
