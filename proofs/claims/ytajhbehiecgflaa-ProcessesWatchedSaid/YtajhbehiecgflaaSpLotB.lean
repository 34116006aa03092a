/- Package lot: is a process able? Spreads of the reference. -/
import Derived.Test.YtajhbehiecgflaaSpLotA
open Go
namespace Go.Am
variable {h : Heap} {K : Post}

theorem s_SpreadOf (l : List Int) (hm : Meas l) (hl : 1 ≤ l.length) : ACall X f_scanref2_SpreadOf [AL l] h K = K (.tup [.p (fracP (low l.sum l.length)), .p (fracP (low (spreadN l) (l.length * l.length)))]) h [] := by
  refine rule ?_
  rw [c_scanref2_SpreadOf rfl]
  simp only [d_scanref2_SpreadOf, go_sem]
  have h3 := hm.len
  refine N_loop (fun k : Nat => ⟨[(0, AL l), (2, .ref h.length 0), (3, .ref (h.length + 1) 0), (4, AI l.length), (5, AI (l.take k).sum), (13, AL l), (14, AI l.length), (15, AI k)], h ++ [.box [AI 0, AI 0], .box [AI 0, AI 0]], []⟩) (fun k => k ≤ l.length) (fun k => l.length - k) 0 rfl (by simp) ?_
  intro k hk
  have w4 : IntKind.i64.wrap ((k : Int) + 1) = ((k + 1 : Nat) : Int) := i64_wrap _ (by omega) (by omega)
  rcases Nat.lt_or_ge k l.length with hlt | hge
  · have hg := map_get eI hlt
    have e1 := sum_take_succ l k hlt
    have b1 := hm.sum (k + 1)
    have w1 : IntKind.i64.wrap ((l.take k).sum + l[k]) = (l.take (k + 1)).sum := by rw [← e1]; exact i64_wrap _ (by omega) (by omega)
    simp only [go_sem, hlt, hg, w1, w4]
    exact ⟨k + 1, rfl, by omega, by omega⟩
  · have : k = l.length := by omega
    subst this
    simp only [go_sem, Nat.lt_irrefl, List.take_length]
    refine N_loop (fun k : Nat => ⟨[(2, .ref h.length 0), (3, .ref (h.length + 1) 0), (4, AI l.length), (5, AI l.sum), (8, AI (sqs (l.take k))), (23, AL l), (24, AI l.length), (25, AI k)], h ++ [.box [AI 0, AI 0], .box [AI 0, AI 0]], []⟩) (fun k => k ≤ l.length) (fun k => l.length - k) 0 rfl (by simp) ?_
    intro k hk
    have w4 : IntKind.i64.wrap ((k : Int) + 1) = ((k + 1 : Nat) : Int) := i64_wrap _ (by omega) (by omega)
    rcases Nat.lt_or_ge k l.length with hlt | hge
    · have hg := map_get eI hlt
      have e2 := sqs_take_succ l k hlt
      have b2 := sqs_bd hm (k + 1)
      have b3 := sq_bd (hm.bd _ (List.getElem_mem hlt))
      have w2 : IntKind.i64.wrap (l[k] * l[k]) = l[k] * l[k] := i64_wrap _ (by omega) (by omega)
      have w3 : IntKind.i64.wrap (sqs (l.take k) + l[k] * l[k]) = sqs (l.take (k + 1)) := by rw [← e2]; exact i64_wrap _ (by omega) (by omega)
      simp only [go_sem, hlt, hg, w2, w3, w4]
      exact ⟨k + 1, rfl, by omega, by omega⟩
    · have : k = l.length := by omega
      subst this
      have b1 := hm.sum l.length
      rw [List.take_length] at b1
      have b2 := spreadN_bd hm
      have b3 := mul_bd (show 0 ≤ (l.length : Int) by omega) (show (l.length : Int) ≤ 5000 by omega) (show 0 ≤ (l.length : Int) by omega) (show (l.length : Int) ≤ 5000 by omega)
      have b4 : 0 < (l.length : Int) * l.length := Int.mul_pos (by omega) (by omega)
      have w : IntKind.i64.wrap (l.length * l.length) = l.length * l.length := i64_wrap _ (by omega) (by omega)
      obtain ⟨⟨c1, c2⟩, c3, c4⟩ := spread_bds hm
      have w1 : IntKind.i64.wrap (l.length * sqs l) = l.length * sqs l := i64_wrap _ (by omega) (by omega)
      have w2 : IntKind.i64.wrap (l.sum * l.sum) = l.sum * l.sum := i64_wrap _ (by omega) (by omega)
      have w3 : IntKind.i64.wrap (l.length * sqs l - l.sum * l.sum) = spreadN l := i64_wrap _ (by omega) (by omega)
      simp only [go_sem, Nat.lt_irrefl, List.take_length, w, w1, w2, w3, s_refLowest l.sum l.length (by omega) (by omega), s_refLowest (spreadN l) (l.length * l.length) (by omega) (by omega)]
      rfl

/-! ### able -/
def okRoom (s p q r : Int) : Bool := decide (0 ≤ r) && decide (9 * p * p * (s % 18446744073709551616) ≤ r * r * (q * q))
def rooms (l : List Int) (u v : Int) : List Int := [l.sum - l.length * u, l.length * v - l.sum]
def ableB (l : List Int) (u v p q : Int) : Bool := (rooms l u v).all (okRoom (spreadN l) p q)
def ableFault (u v p q : Int) : Int :=
  if (decide (-100000 ≤ u) && decide (u ≤ v)) = false then 1 else if 100000 < v then 1 else if p < 0 then 3 else if q < 1 then 3 else if Int.gcd p q = 1 then (if 100 < p then 1 else if 100 < q then 1 else 0) else 3
theorem ableFault_ok {u v p q : Int} (h : ableFault u v p q = 0) : (-100000 ≤ u ∧ u ≤ v ∧ v ≤ 100000) ∧ (0 ≤ p ∧ p ≤ 100) ∧ (1 ≤ q ∧ q ≤ 100) := by
  unfold ableFault at h
  repeat' split at h
  all_goals first | (cases h; done) | skip
  rename_i h1 h2 h3 h4 h5 h6 h7
  simp at h1
  omega

set_option maxHeartbeats 1000000 in
theorem s_AbleFault (u v p q : Int) (hp : -1 ≤ p ∧ p ≤ 4611686018427387904) (hq : 0 ≤ q ∧ q ≤ 101) : ACall X f_scanref2_AbleFault [AI u, AI v, .p (.agg [eI p, eI q])] h K = K (AI (ableFault u v p q)) h [] := by
  refine rule ?_
  rw [c_scanref2_AbleFault rfl]
  have dv := fun h K => s_divisor (h := h) (K := K) p q (by omega) (by omega)
  unfold ableFault
  cases h1 : (decide (-100000 ≤ u) && decide (u ≤ v)) with
  | false => simp only [d_scanref2_AbleFault, go_sem, s_in, h1]
  | true =>
    by_cases h2 : 100000 < v
    · simp only [d_scanref2_AbleFault, go_sem, s_in, h1, h2]
    by_cases h3 : p < 0
    · simp only [d_scanref2_AbleFault, go_sem, s_in, h1, h2, h3]
    by_cases h4 : q < 1
    · simp only [d_scanref2_AbleFault, go_sem, s_in, h1, h2, h3, h4]
    by_cases h5 : Int.gcd p q = 1
    · by_cases h6 : 100 < p
      · simp only [d_scanref2_AbleFault, go_sem, s_in, h1, h2, h3, h4, dv, h5, h6]
      by_cases h7 : 100 < q
      · simp only [d_scanref2_AbleFault, go_sem, s_in, h1, h2, h3, h4, dv, h5, h6, h7]
      · simp only [d_scanref2_AbleFault, go_sem, s_in, h1, h2, h3, h4, dv, h5, h6, h7]
    · have e : ((Int.gcd p q : Int) = 1) = False := by simp only [eq_iff_iff, iff_false]; omega
      simp only [d_scanref2_AbleFault, go_sem, s_in, h1, h2, h3, h4, dv, e, h5]

def ableV (l : List Int) (u v p q : Int) : AV :=
  if measFault l 1 = 0 then if ableFault u v p q = 0 then .tup [AB (ableB l u v p q), AI 0] else .tup [AB false, AI (ableFault u v p q)] else .tup [AB false, AI (measFault l 1)]
theorem rooms_bd {l : List Int} (hm : Meas l) {u v : Int} (h : -100000 ≤ u ∧ u ≤ v ∧ v ≤ 100000) : (-500000000 ≤ l.length * u ∧ l.length * u ≤ 500000000) ∧ (-500000000 ≤ l.length * v ∧ l.length * v ≤ 500000000) ∧ ∀ r ∈ rooms l u v, -1000000000 ≤ r ∧ r ≤ 1000000000 := by
  have h3 := hm.len
  have b1 := hm.sum l.length
  rw [List.take_length] at b1
  have key : ∀ x : Int, -100000 ≤ x → x ≤ 100000 → -500000000 ≤ l.length * x ∧ l.length * x ≤ 500000000 := by
    intro x h1 h2
    have q1 : (l.length : Int) * x ≤ l.length * 100000 := Int.mul_le_mul_of_nonneg_left h2 (by omega)
    have q2 : (l.length : Int) * -100000 ≤ l.length * x := Int.mul_le_mul_of_nonneg_left h1 (by omega)
    omega
  have c1 := key u (by omega) (by omega)
  have c2 := key v (by omega) (by omega)
  refine ⟨c1, c2, fun r hr => ?_⟩
  simp only [rooms, List.mem_cons, List.not_mem_nil, or_false] at hr
  rcases hr with rfl | rfl <;> omega

set_option maxHeartbeats 2000000 in
theorem s_Able (l : List Int) (hl : l.length ≤ 1000000000) (u v p q : Int) (hp : -1 ≤ p ∧ p ≤ 4611686018427387904) (hq : 0 ≤ q ∧ q ≤ 101) : ACall X f_lot_Able [AL l, AI u, AI v, .p (.agg [eI p, eI q])] h K = K (ableV l u v p q) h [] := by
  refine rule ?_
  rw [c_lot_Able rfl]
  have vf := fun h K => s_valuesFault (h := h) (K := K) l 1 hl
  unfold ableV
  by_cases hf : measFault l 1 = 0
  · rw [hf] at vf
    rw [if_pos hf]
    have hO : ∀ h K, ACall X f_base_Out [AI u, AI (-100000), AI v] h K = K (AB (!(decide (-100000 ≤ u) && decide (u ≤ v)))) h [] := fun h K => by rw [s_Out, out_eq]
    by_cases ha : ableFault u v p q = 0
    · obtain ⟨c1, c2, c3⟩ := ableFault_ok ha
      have hL := fun h K => s_baseLowest (h := h) (K := K) p q (by omega) (by omega) (by omega) (by omega)
      rw [if_pos ha]
      unfold ableFault at ha
      repeat' split at ha
      all_goals first | (cases ha; done) | skip
      rename_i h1 h2 h3 h4 h5 h6 h7
      rw [Bool.not_eq_false] at h1
      obtain ⟨hm, hn⟩ := measFault_ok hf
      obtain ⟨d1, d2, d3⟩ := rooms_bd hm c1
      have r1 := d3 _ (show l.sum - l.length * u ∈ rooms l u v by simp [rooms])
      have r2 := d3 _ (show l.length * v - l.sum ∈ rooms l u v by simp [rooms])
      have w1 : IntKind.i64.wrap (l.length * u) = l.length * u := i64_wrap _ (by omega) (by omega)
      have w2 : IntKind.i64.wrap (l.sum - l.length * u) = l.sum - l.length * u := i64_wrap _ (by omega) (by omega)
      have w3 : IntKind.i64.wrap (l.length * v) = l.length * v := i64_wrap _ (by omega) (by omega)
      have w4 : IntKind.i64.wrap (l.length * v - l.sum) = l.length * v - l.sum := i64_wrap _ (by omega) (by omega)
      simp only [d_lot_Able, go_sem, vf, hO, h1, h2, h3, h4, hL, h5, h6, h7, s_sums l hm, w1, w2, w3, w4]
      have w5 : IntKind.i64.wrap (q * q) = q * q := i64_wrap _ (by have := mul_bd (a := q) (b := q) (A := 100) (B := 100) (by omega) (by omega) (by omega) (by omega); omega) (by have := mul_bd (a := q) (b := q) (A := 100) (B := 100) (by omega) (by omega) (by omega) (by omega); omega)
      have w6 : IntKind.i64.wrap (9 * p) = 9 * p := i64_wrap _ (by omega) (by omega)
      have bq := mul_bd (a := q) (b := q) (A := 100) (B := 100) (by omega) (by omega) (by omega) (by omega)
      have bp := mul_bd (a := 9 * p) (b := p) (A := 900) (B := 100) (by omega) (by omega) (by omega) (by omega)
      have w7 : IntKind.i64.wrap (9 * p * p) = 9 * p * p := i64_wrap _ (by omega) (by omega)
      have hb : ∀ n ∈ rooms l u v, -1000000000 ≤ n ∧ n ≤ 1000000000 := d3
      have hlen : (rooms l u v).length = 2 := rfl
      refine N_loop (fun k : Nat => ⟨[(7, .ref h.length 0), (12, AI (spreadN l)), (69, AL (rooms l u v)), (70, AI 2), (71, AI k)], h ++ [.box [AI p, AI q]], []⟩) (fun k => k ≤ 2 ∧ ((rooms l u v).take k).all (okRoom (spreadN l) p q) = true) (fun k => 2 - k) 0 rfl (by simp) ?_
      rintro k ⟨hk, hok⟩
      rcases Nat.lt_or_ge k 2 with hlt | hge
      · have hlt' : k < (rooms l u v).length := by omega
        have hg := map_get eI hlt'
        have hbk := hb _ (List.getElem_mem hlt')
        have bs := sq_bd hbk
        have wk : IntKind.i64.wrap ((k : Int) + 1) = ((k + 1 : Nat) : Int) := i64_wrap _ (by omega) (by omega)
        have ek : ((k : Int) < 2) = True := by simp only [eq_iff_iff, iff_true]; omega
        have key : okRoom (spreadN l) p q (rooms l u v)[k] = true → ((rooms l u v).take (k + 1)).all (okRoom (spreadN l) p q) = true := by
          intro hr
          rw [List.take_succ_eq_append_getElem hlt', List.all_append, hok, List.all_cons, hr]; rfl
        have key2 : okRoom (spreadN l) p q (rooms l u v)[k] = false → ableB l u v p q = false := by
          intro hr
          unfold ableB
          rw [List.all_eq_false]
          exact ⟨_, List.getElem_mem hlt', by simp [hr]⟩
        generalize (rooms l u v)[k] = r at *
        have w8 : IntKind.i64.wrap (r * r) = r * r := i64_wrap _ (by omega) (by omega)
        by_cases hr0 : r < 0
        · have := key2 (by unfold okRoom; simp; intro; omega)
          simp only [go_sem, ek, hg, hr0, this]
        · have m1 : r * r % 18446744073709551616 = r * r := by omega
          have m2 : q * q % 18446744073709551616 = q * q := by omega
          have m3 : 9 * p * p % 18446744073709551616 = 9 * p * p := by omega
          by_cases hc : r * r * (q * q) < 9 * p * p * (spreadN l % 18446744073709551616)
          · have := key2 (by unfold okRoom; simp; intro; omega)
            have hcc : (cmp3 (r * r * (q * q)) (9 * p * p * (spreadN l % 18446744073709551616)) < 0) = True := by
              simp only [eq_iff_iff, iff_true]; unfold cmp3; rw [if_pos hc]; omega
            simp only [go_sem, ek, hg, hr0, w5, w6, w7, w8, s_CompareProducts, m1, m2, m3, hcc, this]
          · have hk2 := key (by unfold okRoom; simp; omega)
            have hcc : (cmp3 (r * r * (q * q)) (9 * p * p * (spreadN l % 18446744073709551616)) < 0) = False := by
              simp only [eq_iff_iff, iff_false]; unfold cmp3; rw [if_neg hc]; split <;> omega
            simp only [go_sem, ek, hg, hr0, w5, w6, w7, w8, s_CompareProducts, m1, m2, m3, hcc, wk]
            exact ⟨k + 1, rfl, ⟨by omega, hk2⟩, by omega⟩
      · have e2 : k = 2 := by omega
        subst e2
        rw [show (rooms l u v).take 2 = rooms l u v from rfl] at hok
        have : ableB l u v p q = true := hok
        simp only [go_sem, Int.lt_irrefl, this]
    · rw [if_neg ha]
      unfold ableFault at ha ⊢
      cases h1 : (decide (-100000 ≤ u) && decide (u ≤ v)) with
      | false => simp only [d_lot_Able, go_sem, vf, hO, h1]
      | true =>
        rw [h1] at ha
        by_cases h2 : 100000 < v
        · simp only [d_lot_Able, go_sem, vf, hO, h1, h2]
        by_cases h3 : p < 0
        · simp only [d_lot_Able, go_sem, vf, hO, h1, h2, h3]
        by_cases h4 : q < 1
        · simp only [d_lot_Able, go_sem, vf, hO, h1, h2, h3, h4]
        have hL := fun h K => s_baseLowest (h := h) (K := K) p q (by omega) (by omega) (by omega) (by omega)
        by_cases h5 : Int.gcd p q = 1
        · by_cases h6 : 100 < p
          · simp only [d_lot_Able, go_sem, vf, hO, h1, h2, h3, h4, hL, h5, h6]
          by_cases h7 : 100 < q
          · simp only [d_lot_Able, go_sem, vf, hO, h1, h2, h3, h4, hL, h5, h6, h7]
          · simp [h2, h3, h4, h5, h6, h7] at ha
        · simp only [d_lot_Able, go_sem, vf, hO, h1, h2, h3, h4, hL, h5]
  · simp only [d_lot_Able, go_sem, vf, hf]
end Go.Am
