/- Signals: the reference. -/
import Derived.Test.YtajhbehiecgflaaSpLotE
open Go
namespace Go.Am
variable {h : Heap} {K : Post}

theorem sums_get' {l : List Int} {n k m : Nat} (h : k < m) : ((sumsL l n m).map eI)[k]? = some (eI (sumAt l n k)) := by
  simp [sumsL, h]

theorem side_ok {l : List Int} (hm : Meas l) {n : Nat} (hn : 2 ≤ n) (hn2 : n ≤ 10) (hl : n ≤ l.length) {i1 i2 : Nat} {k : Nat} (hk : k < kN l n)
    (g1 : h[i1]? = some (.box [AL (sumsL l n (kN l n))])) (g2 : h[i2]? = some (.box [AI (kN l n)])) : ACall X f_scanref2_SignalsIn_1 [AI k, .ref i1 0, .ref i2 0] h K = K (AI (sideAt l n k)) h [] := by
  refine rule ?_
  rw [c_scanref2_SignalsIn_1 rfl]
  obtain ⟨bk, bkn, bs, br, bf, brf, bb⟩ := chart_bd hm hn hn2 hl
  have t1 := fun h K => s_totalQ (h := h) (K := K) (sumsL l n (kN l n)) (by rw [sumsL_len]; omega) (fun x hx => by have := sumsL_mem hm hn2 x hx; omega)
  rw [show (sumsL l n (kN l n)).sum = totS l n from rfl] at t1
  have hg := sums_get' (l := l) (n := n) hk
  have sb := sum_bd' (N := 10) (B := 100000) (ch_meas hm n k).bd (by simp [ch]; omega) (by omega)
  have ab := abs_bd (A := 1000000) (B := 2500) (a := sumAt l n k) (b := kN l n) (by unfold sumAt; omega) (by omega)
  have w1 : IntKind.i64.wrap (sumAt l n k * kN l n) = sumAt l n k * kN l n := i64_wrap _ (by omega) (by omega)
  have w2 : IntKind.i64.wrap (sumAt l n k * kN l n - totS l n) = sumAt l n k * kN l n - totS l n := i64_wrap _ (by omega) (by omega)
  simp only [d_scanref2_SignalsIn_1, go_sem, g1, g2, hg, t1, w1, w2, s_sign]
  rfl

set_option maxHeartbeats 2000000 in
theorem SignalsIn_ok (l : List Int) (hm : Meas l) (n : Nat) (hn : 2 ≤ n) (hn2 : n ≤ 10) (hl : n ≤ l.length) : ACall X f_scanref2_SignalsIn [AL l, AI n] h K = K (AL (sigs l n (kN l n))) h [] := by
  refine rule ?_
  rw [c_scanref2_SignalsIn rfl]
  have h3 := hm.len
  have g := fun h K => sumsQ_ok (h := h) (K := K) l hm n hn hn2
  rw [show l.length / n = kN l n from rfl] at g
  obtain ⟨bk, bkn, bs, br, bf, brf, bb⟩ := chart_bd hm hn hn2 hl
  simp only [d_scanref2_SignalsIn, go_sem, g, sumsL_len]
  refine N_loop (fun k : Nat => ⟨[(1, AI n), (5, .ref h.length 0), (6, AL (rngsL l n (kN l n))), (7, .ref (h.length + 1) 0), (8, .fn f_scanref2_SignalsIn_1 [.ref h.length 0, .ref (h.length + 1) 0]), (9, .own (h.length + 2) (sigs l n k).length 0 (sigs l n k).length), (25, AI (kN l n)), (26, AI k)],
    h ++ [.box [AL (sumsL l n (kN l n))], .box [AI (kN l n)], .row none ((sigs l n k).map eI) 0], []⟩) (fun k => k ≤ kN l n) (fun k => kN l n - k) 0 rfl (by simp) ?_
  intro k hk
  rcases Nat.lt_or_ge k (kN l n) with hlt | hge
  · have hg := sums_get' (l := l) (n := n) hlt
    have hsl := sigs_len l n k
    have hmx : (sigs l n k).length + 1 ≤ maxSl := by unfold maxSl; omega
    have wk : IntKind.i64.wrap ((k : Int) + 1) = ((k + 1 : Nat) : Int) := i64_wrap _ (by omega) (by omega)
    have w7 : IntKind.i64.wrap ((k : Int) - 7) = (k : Int) - 7 := i64_wrap _ (by omega) (by omega)
    have hss := sigs_succ l n k
    have t1 := fun h K => s_totalQ (h := h) (K := K) (sumsL l n (kN l n)) (by rw [sumsL_len]; omega) (fun x hx => by have := sumsL_mem hm hn2 x hx; omega)
    have t2 := fun h K => s_totalQ (h := h) (K := K) (rngsL l n (kN l n)) (by rw [rngsL_len]; omega) (fun x hx => by have := rngsL_mem hm (show 1 ≤ n by omega) (Nat.le_refl _) x hx; omega)
    rw [show (sumsL l n (kN l n)).sum = totS l n from rfl] at t1
    rw [show (rngsL l n (kN l n)).sum = totR l n from rfl] at t2
    have f1 := fun h K => s_hundredths (h := h) (K := K) n (by omega)
    have fn := abs_bd (A := 188) (B := 10) (a := factorV n) (b := n) (by omega) (by omega)
    have eb : factorV n * n * totR l n = farB l n := by unfold farB; rw [Int.mul_comm, ← Int.mul_assoc]
    have sb := sum_bd' (N := 10) (B := 100000) (ch_meas hm n k).bd (by simp [ch]; omega) (by omega)
    have ab := abs_bd (A := 1000000) (B := 2500) (a := sumAt l n k) (b := kN l n) (by unfold sumAt; omega) (by omega)
    have w1 : IntKind.i64.wrap (sumAt l n k * kN l n) = sumAt l n k * kN l n := i64_wrap _ (by omega) (by omega)
    have w2 : IntKind.i64.wrap (sumAt l n k * kN l n - totS l n) = sumAt l n k * kN l n - totS l n := i64_wrap _ (by omega) (by omega)
    have w3 : IntKind.i64.wrap (100 * (sumAt l n k * kN l n - totS l n)) = farAt l n k := i64_wrap (farAt l n k) (by unfold farAt; omega) (by unfold farAt; omega)
    have w4 : IntKind.i64.wrap (-(farAt l n k)) = -(farAt l n k) := i64_wrap _ (by unfold farAt; omega) (by unfold farAt; omega)
    have w5 : IntKind.i64.wrap (factorV n * n) = factorV n * n := i64_wrap _ (by omega) (by omega)
    have w6 : IntKind.i64.wrap (factorV n * n * totR l n) = farB l n := by rw [eb]; exact i64_wrap (farB l n) (by omega) (by omega)
    -- the side of a subgroup, asked at any heap that begins so
    have sd : ∀ j, j < kN l n → ∀ (r : List Obj) (K : Post), ACall X f_scanref2_SignalsIn_1 [AI j, .ref h.length 0, .ref (h.length + 1) 0] (h ++ .box [AL (sumsL l n (kN l n))] :: .box [AI (kN l n)] :: r) K = K (AI (sideAt l n j)) (h ++ .box [AL (sumsL l n (kN l n))] :: .box [AI (kN l n)] :: r) [] :=
      fun j hj r K => side_ok hm hn hn2 hl hj (by rw [app_get0]; rfl) (by rw [app_get]; rfl)
    have sdk := sd k hlt
    have hmax : max 0 ((k : Int) - 7) = ((k - 7 : Nat) : Int) := by omega
    -- the inner loop, for what the first test said
    have inner : ∀ (r0 : Bool) (K' : Ex → St → Prop), r0 = (decide (7 ≤ k) && !decide (sideAt l n k = 0)) →
        NW (ACall X) X.gl p_scanref2_SignalsIn_k2 ⟨[(1, AI n), (5, .ref h.length 0), (6, AL (rngsL l n (kN l n))), (7, .ref (h.length + 1) 0), (8, .fn f_scanref2_SignalsIn_1 [.ref h.length 0, .ref (h.length + 1) 0]), (9, .own (h.length + 2) (sigs l n k).length 0 (sigs l n k).length), (10, AI k), (12, AB (outAt l n k)), (13, AB (rowAt l n k)), (14, AI k), (25, AI (kN l n)), (26, AI k), (64, AB false)],
          h ++ [.box [AL (sumsL l n (kN l n))], .box [AI (kN l n)], .row none ((sigs l n k).map eI) 0], []⟩ K' →
        NLoop (ACall X) X.gl p_scanref2_SignalsIn_k1 (blockN 2 (seqN (ACall X) X.gl p_scanref2_SignalsIn_k2 K')) [(1, AI n), (5, .ref h.length 0), (6, AL (rngsL l n (kN l n))), (7, .ref (h.length + 1) 0), (8, .fn f_scanref2_SignalsIn_1 [.ref h.length 0, .ref (h.length + 1) 0]), (9, .own (h.length + 2) (sigs l n k).length 0 (sigs l n k).length), (10, AI k), (12, AB (outAt l n k)), (13, AB r0), (14, AI ((k - 7 : Nat) : Int)), (25, AI (kN l n)), (26, AI k)]
          (h ++ [.box [AL (sumsL l n (kN l n))], .box [AI (kN l n)], .row none ((sigs l n k).map eI) 0]) [] := by
      intro r0 K' hr0 hK
      refine N_loop (fun j : Nat => ⟨[(1, AI n), (5, .ref h.length 0), (6, AL (rngsL l n (kN l n))), (7, .ref (h.length + 1) 0), (8, .fn f_scanref2_SignalsIn_1 [.ref h.length 0, .ref (h.length + 1) 0]), (9, .own (h.length + 2) (sigs l n k).length 0 (sigs l n k).length), (10, AI k), (12, AB (outAt l n k)),
          (13, AB (r0 && (List.range j).all fun i => decide (i + 7 < k) || decide (sideAt l n i = sideAt l n k))), (14, AI j), (25, AI (kN l n)), (26, AI k)],
        h ++ [.box [AL (sumsL l n (kN l n))], .box [AI (kN l n)], .row none ((sigs l n k).map eI) 0], []⟩) (fun j => k - 7 ≤ j ∧ j ≤ k) (fun j => k - j) (k - 7) ?_ (by omega) ?_
      · have : ((List.range (k - 7)).all fun i => decide (i + 7 < k) || decide (sideAt l n i = sideAt l n k)) = true := by
          rw [List.all_eq_true]; intro i hi
          simp only [List.mem_range] at hi
          have : i + 7 < k := by omega
          simp [this]
        rw [this, Bool.and_true]
      · rintro j ⟨hj1, hj2⟩
        rcases Nat.lt_or_ge j k with hjl | hjg
        · have wj : IntKind.i64.wrap ((j : Int) + 1) = ((j + 1 : Nat) : Int) := i64_wrap _ (by omega) (by omega)
          have sdj := sd j (by omega)
          have e7 : decide (j + 7 < k) = false := by simp; omega
          have hall : (r0 && (List.range (j + 1)).all fun i => decide (i + 7 < k) || decide (sideAt l n i = sideAt l n k)) = ((r0 && (List.range j).all fun i => decide (i + 7 < k) || decide (sideAt l n i = sideAt l n k)) && decide (sideAt l n j = sideAt l n k)) := by
            rw [List.range_succ, List.all_append, Bool.and_assoc]; simp [e7]
          cases hb : (r0 && (List.range j).all fun i => decide (i + 7 < k) || decide (sideAt l n i = sideAt l n k)) with
          | true =>
            rw [hb, Bool.true_and] at hall
            simp only [go_sem, hjl, wj, sdj, sdk]
            exact ⟨j + 1, by rw [hall], by omega, by omega⟩
          | false =>
            rw [hb, Bool.false_and] at hall
            simp only [go_sem, hjl, wj]
            exact ⟨j + 1, by rw [hall], by omega, by omega⟩
        · have e2 : j = k := by omega
          subst e2
          have hr : (r0 && (List.range j).all fun i => decide (i + 7 < j) || decide (sideAt l n i = sideAt l n j)) = rowAt l n j := by rw [hr0]; rfl
          rw [hr]
          simp only [go_sem, Nat.lt_irrefl]
          simp only [go_sem] at hK
          exact hK
    have e7 : ((7 : Int) ≤ k) = (7 ≤ k) := by simp only [eq_iff_iff]; omega
    by_cases c7 : (7 : Int) ≤ k
    · have c7' : 7 ≤ k := by omega
      by_cases hs0 : sideAt l n k = 0
      · simp only [go_sem, hlt, hg, t1, t2, f1, w1, w2, w3, w4, w5, w6, w7, c7, sdk, hs0, hmax]
        refine inner _ _ (by simp [hs0]) ?_
        cases ho : outAt l n k <;> cases hw : rowAt l n k
        all_goals
          rw [ho, hw] at hss
          simp only [go_sem, hmx, wk]
          exact ⟨k + 1, by simp [hss], by omega, by omega⟩
      · simp only [go_sem, hlt, hg, t1, t2, f1, w1, w2, w3, w4, w5, w6, w7, c7, sdk, hs0, hmax]
        refine inner _ _ (by simp [hs0, c7']) ?_
        cases ho : outAt l n k <;> cases hw : rowAt l n k
        all_goals
          rw [ho, hw] at hss
          simp only [go_sem, hmx, wk]
          exact ⟨k + 1, by simp [hss], by omega, by omega⟩
    · have c7' : ¬ 7 ≤ k := by omega
      simp only [go_sem, hlt, hg, t1, t2, f1, w1, w2, w3, w4, w5, w6, w7, c7, hmax]
      refine inner _ _ (by simp [c7']) ?_
      cases ho : outAt l n k <;> cases hw : rowAt l n k
      all_goals
        rw [ho, hw] at hss
        simp only [go_sem, hmx, wk]
        exact ⟨k + 1, by simp [hss], by omega, by omega⟩
  · have e2 : k = kN l n := by omega
    subst e2
    simp only [go_sem, Nat.lt_irrefl]
    rw [win_full (by simp)]
end Go.Am
