/- The reference on able; charts. -/
import Derived.Test.YtajhbehiecgflaaSpLotB
open Go
namespace Go.Am
variable {h : Heap} {K : Post}

set_option maxHeartbeats 1000000 in
theorem s_AbleOf (l : List Int) (hm : Meas l) (u v p q : Int) (c1 : -100000 ≤ u ∧ u ≤ v ∧ v ≤ 100000) (c2 : 0 ≤ p ∧ p ≤ 100) (c3 : 1 ≤ q ∧ q ≤ 100) :
    ACall X f_scanref2_AbleOf [AL l, AI u, AI v, .p (.agg [eI p, eI q])] h K = K (AB (ableB l u v p q)) h [] := by
  refine rule ?_
  rw [c_scanref2_AbleOf rfl]
  simp only [d_scanref2_AbleOf, go_sem]
  have h3 := hm.len
  refine N_loop (fun k : Nat => ⟨[(1, AI u), (2, AI v), (7, .ref h.length 0), (9, AI l.length), (10, AI (l.take k).sum), (11, AI (sqs (l.take k))), (24, AL l), (25, AI l.length), (26, AI k)], h ++ [.box [AI p, AI q]], []⟩) (fun k => k ≤ l.length) (fun k => l.length - k) 0 rfl (by simp) ?_
  intro k hk
  have w4 : IntKind.i64.wrap ((k : Int) + 1) = ((k + 1 : Nat) : Int) := i64_wrap _ (by omega) (by omega)
  rcases Nat.lt_or_ge k l.length with hlt | hge
  · have hg := map_get eI hlt
    have e1 := sum_take_succ l k hlt
    have e2 := sqs_take_succ l k hlt
    have b1 := hm.sum (k + 1)
    have b2 := sqs_bd hm (k + 1)
    have b3 := sq_bd (hm.bd _ (List.getElem_mem hlt))
    have w1 : IntKind.i64.wrap ((l.take k).sum + l[k]) = (l.take (k + 1)).sum := by rw [← e1]; exact i64_wrap _ (by omega) (by omega)
    have w2 : IntKind.i64.wrap (l[k] * l[k]) = l[k] * l[k] := i64_wrap _ (by omega) (by omega)
    have w3 : IntKind.i64.wrap (sqs (l.take k) + l[k] * l[k]) = sqs (l.take (k + 1)) := by rw [← e2]; exact i64_wrap _ (by omega) (by omega)
    simp only [go_sem, hlt, hg, w1, w2, w3, w4]
    exact ⟨k + 1, rfl, by omega, by omega⟩
  · have : k = l.length := by omega
    subst this
    obtain ⟨⟨b1, b2⟩, b3, b4⟩ := spread_bds hm
    have sb := spreadN_bd hm
    have w1 : IntKind.i64.wrap (l.length * sqs l) = l.length * sqs l := i64_wrap _ (by omega) (by omega)
    have w2 : IntKind.i64.wrap (l.sum * l.sum) = l.sum * l.sum := i64_wrap _ (by omega) (by omega)
    have w3 : IntKind.i64.wrap (l.length * sqs l - l.sum * l.sum) = spreadN l := i64_wrap _ (by omega) (by omega)
    obtain ⟨d1, d2, d3⟩ := rooms_bd hm c1
    have r1 := d3 _ (show l.sum - l.length * u ∈ rooms l u v by simp [rooms])
    have r2 := d3 _ (show l.length * v - l.sum ∈ rooms l u v by simp [rooms])
    have w1' : IntKind.i64.wrap (l.length * u) = l.length * u := i64_wrap _ (by omega) (by omega)
    have w2' : IntKind.i64.wrap (l.sum - l.length * u) = l.sum - l.length * u := i64_wrap _ (by omega) (by omega)
    have w3' : IntKind.i64.wrap (l.length * v) = l.length * v := i64_wrap _ (by omega) (by omega)
    have w4' : IntKind.i64.wrap (l.length * v - l.sum) = l.length * v - l.sum := i64_wrap _ (by omega) (by omega)
    simp only [go_sem, Nat.lt_irrefl, List.take_length, w1, w2, w3, w1', w2', w3', w4']
    clear w1 w2 w3 w4 w1' w2' w3' w4'
    have w6 : IntKind.i64.wrap (9 * p) = 9 * p := i64_wrap _ (by omega) (by omega)
    have bq := mul_bd (a := q) (b := q) (A := 100) (B := 100) (by omega) (by omega) (by omega) (by omega)
    have bp := mul_bd (a := 9 * p) (b := p) (A := 900) (B := 100) (by omega) (by omega) (by omega) (by omega)
    have w7 : IntKind.i64.wrap (9 * p * p) = 9 * p * p := i64_wrap _ (by omega) (by omega)
    have m3 : 9 * p * p % 18446744073709551616 = 9 * p * p := by omega
    refine N_loop (fun k : Nat => ⟨[(7, .ref h.length 0), (14, AI (spreadN l)), (56, AL (rooms l u v)), (57, AI 2), (58, AI k)], h ++ [.box [AI p, AI q]], []⟩) (fun k => k ≤ 2 ∧ ((rooms l u v).take k).all (okRoom (spreadN l) p q) = true) (fun k => 2 - k) 0 rfl (by simp) ?_
    rintro k ⟨hk, hok⟩
    have hlen : (rooms l u v).length = 2 := rfl
    rcases Nat.lt_or_ge k 2 with hlt | hge
    · have hlt' : k < (rooms l u v).length := by omega
      have hg := map_get eI hlt'
      have hbk := d3 _ (List.getElem_mem hlt')
      have wk : IntKind.i64.wrap ((k : Int) + 1) = ((k + 1 : Nat) : Int) := i64_wrap _ (by omega) (by omega)
      have ek : ((k : Int) < 2) = True := by simp only [eq_iff_iff, iff_true]; omega
      have key : okRoom (spreadN l) p q (rooms l u v)[k] = true → ((rooms l u v).take (k + 1)).all (okRoom (spreadN l) p q) = true := by
        intro hr
        rw [List.take_succ_eq_append_getElem hlt', List.all_append, hok, List.all_cons, hr]; rfl
      have key2 : okRoom (spreadN l) p q (rooms l u v)[k] = false → ableB l u v p q = false := by
        intro hr
        unfold ableB
        rw [List.all_eq_false]
        exact ⟨_, List.getElem_mem hlt', by simp [hr]⟩
      generalize (rooms l u v)[k] = r at *
      by_cases hr0 : r < 0
      · have := key2 (by unfold okRoom; simp; intro; omega)
        simp only [go_sem, ek, hg, hr0, this]
      · have br := mul_bd (a := r) (b := q) (A := 1000000000) (B := 100) (by omega) (by omega) (by omega) (by omega)
        have w8 : IntKind.i64.wrap (r * q) = r * q := i64_wrap _ (by omega) (by omega)
        have w9 : IntKind.u64.wrap (r * q) = r * q := u64_wrap _ (by omega) (by omega)
        have w10 : IntKind.u64.wrap (9 * p * p) = 9 * p * p := u64_wrap _ (by omega) (by omega)
        have e5 : r * q * (r * q) = r * r * (q * q) := by rw [Int.mul_assoc, Int.mul_left_comm q, ← Int.mul_assoc]
        have m1 := fun h K => s_Mul64 (h := h) (K := K) (r * q) (r * q) (by omega) (by omega) (by omega) (by omega)
        have m2 := fun h K => s_Mul64 (h := h) (K := K) (spreadN l % 18446744073709551616) (9 * p * p) (by omega) (by omega) (by omega) (by omega)
        rw [e5] at m1
        rw [Int.mul_comm (spreadN l % 18446744073709551616) (9 * p * p)] at m2
        by_cases hc : r * r * (q * q) < 9 * p * p * (spreadN l % 18446744073709551616)
        · have := key2 (by unfold okRoom; simp; intro; omega)
          generalize r * r * (q * q) = A at *
          generalize 9 * p * p * (spreadN l % 18446744073709551616) = B at *
          by_cases h1 : A / 18446744073709551616 < B / 18446744073709551616
          · simp only [go_sem, ek, hg, hr0, w6, w7, w8, w9, w10, u64_mod, m1, m2, h1, this]
          · have h2 : A / 18446744073709551616 = B / 18446744073709551616 := by omega
            have h3 : A % 18446744073709551616 < B % 18446744073709551616 := by omega
            simp only [go_sem, ek, hg, hr0, w6, w7, w8, w9, w10, u64_mod, m1, m2, h2, h3, Int.lt_irrefl, this]
        · have hk2 := key (by unfold okRoom; simp; omega)
          generalize r * r * (q * q) = A at *
          generalize 9 * p * p * (spreadN l % 18446744073709551616) = B at *
          have h1 : ¬ A / 18446744073709551616 < B / 18446744073709551616 := by omega
          by_cases h2 : A / 18446744073709551616 = B / 18446744073709551616
          · have h3 : ¬ A % 18446744073709551616 < B % 18446744073709551616 := by omega
            simp only [go_sem, ek, hg, hr0, w6, w7, w8, w9, w10, u64_mod, m1, m2, h2, h3, Int.lt_irrefl, wk]
            exact ⟨k + 1, rfl, ⟨by omega, hk2⟩, by omega⟩
          · simp only [go_sem, ek, hg, hr0, w6, w7, w8, w9, w10, u64_mod, m1, m2, h1, h2, wk]
            exact ⟨k + 1, rfl, ⟨by omega, hk2⟩, by omega⟩
    · have e2 : k = 2 := by omega
      subst e2
      rw [show (rooms l u v).take 2 = rooms l u v from rfl] at hok
      have : ableB l u v p q = true := hok
      simp only [go_sem, Int.lt_irrefl, this]

/-! ### charts -/
def factors : List Int := [188, 102, 73, 58, 48, 42, 37, 34, 31]
def factorV (size : Int) : Int := factors.getD (size - 2).toNat 0
theorem factorV_bd {size : Int} (h : 2 ≤ size ∧ size ≤ 10) : 0 ≤ factorV size ∧ factorV size ≤ 188 := by
  have : size = 2 ∨ size = 3 ∨ size = 4 ∨ size = 5 ∨ size = 6 ∨ size = 7 ∨ size = 8 ∨ size = 9 ∨ size = 10 := by omega
  rcases this with rfl | rfl | rfl | rfl | rfl | rfl | rfl | rfl | rfl <;> decide
theorem s_factor (size : Int) (hs : 2 ≤ size ∧ size ≤ 10) : ACall X f_lot_factor [AI size] h K = K (AI (factorV size)) h [] := by
  refine rule ?_
  rw [c_lot_factor rfl]
  have : size = 2 ∨ size = 3 ∨ size = 4 ∨ size = 5 ∨ size = 6 ∨ size = 7 ∨ size = 8 ∨ size = 9 ∨ size = 10 := by omega
  rcases this with rfl | rfl | rfl | rfl | rfl | rfl | rfl | rfl | rfl
  all_goals
    simp only [d_lot_factor, go_sem, i64_wrap]
    rfl
theorem s_hundredths (size : Int) (hs : 2 ≤ size ∧ size ≤ 10) : ACall X f_scanref2_hundredths [AI size] h K = K (AI (factorV size)) h [] := by
  refine rule ?_
  rw [c_scanref2_hundredths rfl]
  have w : IntKind.i64.wrap (size - 2) = size - 2 := i64_wrap _ (by omega) (by omega)
  have e4 := natOf_int (k := .i64) (show 0 ≤ size - 2 by omega)
  have e5 : [eI 188, eI 102, eI 73, eI 58, eI 48, eI 42, eI 37, eI 34, eI 31][(size - 2).toNat]? = some (eI (factorV size)) := by
    have hl : (size - 2).toNat < factors.length := by simp [factors]; omega
    have := map_get eI hl
    rw [show [eI 188, eI 102, eI 73, eI 58, eI 48, eI 42, eI 37, eI 34, eI 31] = factors.map eI from rfl, this]
    simp [factorV, List.getD, List.getElem?_eq_getElem hl]
  simp only [d_scanref2_hundredths, go_sem, w, e4, e5]
end Go.Am
