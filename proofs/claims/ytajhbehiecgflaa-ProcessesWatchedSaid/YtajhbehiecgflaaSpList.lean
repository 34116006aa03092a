/- Functions of lists. -/
import Derived.Test.YtajhbehiecgflaaSpBase
open Go
namespace Go.Am
variable {h : Heap} {K : Post}

theorem s_isNaN (a : Int) : ACall X f_cmp_isNaN_int [AI a] h K = K (AB false) h [] := by
  refine rule ?_
  rw [c_cmp_isNaN_int rfl]
  simp only [d_cmp_isNaN_int, go_sem]
theorem s_cmpCompare (a b : Int) : ACall X f_cmp_Compare_int [AI a, AI b] h K = K (AI (cmp3 a b)) h [] := by
  refine rule ?_
  rw [c_cmp_Compare_int rfl]
  unfold cmp3
  by_cases h1 : a < b
  · simp only [d_cmp_Compare_int, go_sem, s_isNaN, h1]
  · by_cases h2 : b < a
    · simp only [d_cmp_Compare_int, go_sem, s_isNaN, h1, h2, show ¬ a = b by omega]
    · simp only [d_cmp_Compare_int, go_sem, s_isNaN, h1, h2, show a = b by omega, Int.lt_irrefl]

theorem s_Compare0 (a b c d : Int) (ha : -9223372036854775808 < a ∧ a ≤ 9223372036854775807) (hb : 0 < b ∧ b ≤ 9223372036854775807) (hc : -9223372036854775808 < c ∧ c ≤ 9223372036854775807) (hd : 0 < d ∧ d ≤ 9223372036854775807) (hn : ¬ (a < 0 ∧ c < 0)) :
    ACall X f_base_Compare [.p (.agg [eI a, eI b]), .p (.agg [eI c, eI d])] h K = K (AI (cmp3 (a * d) (c * b))) h [] := by
  refine rule ?_
  rw [c_base_Compare rfl]
  by_cases h1 : a < 0
  · have h2 : ¬ c < 0 := by omega
    have e : cmp3 a c = cmp3 (a * d) (c * b) := by
      have q1 : a * d < 0 := Int.mul_neg_of_neg_of_pos h1 hd.1
      have q2 : 0 ≤ c * b := Int.mul_nonneg (by omega) (by omega)
      unfold cmp3; rw [if_pos (by omega), if_pos (by omega)]
    simp only [d_base_Compare, go_sem, h1, h2, s_cmpCompare, e]
  · by_cases h2 : c < 0
    · have e : cmp3 a c = cmp3 (a * d) (c * b) := by
        have q1 : c * b < 0 := Int.mul_neg_of_neg_of_pos h2 hb.1
        have q2 : 0 ≤ a * d := Int.mul_nonneg (by omega) (by omega)
        unfold cmp3; rw [if_neg (by omega), if_neg (by omega), if_neg (by omega), if_neg (by omega)]
      simp only [d_base_Compare, go_sem, h1, h2, s_cmpCompare, e]
    · have e1 : a % 18446744073709551616 = a := by omega
      have e2 : b % 18446744073709551616 = b := by omega
      have e3 : c % 18446744073709551616 = c := by omega
      have e4 : d % 18446744073709551616 = d := by omega
      simp only [d_base_Compare, go_sem, h1, h2, s_CompareProducts, e1, e2, e3, e4]

/-- Two fractions, compared. -/
theorem s_Compare (a b c d : Int) (ha : -9223372036854775808 < a ∧ a ≤ 9223372036854775807) (hb : 0 < b ∧ b ≤ 9223372036854775807) (hc : -9223372036854775808 < c ∧ c ≤ 9223372036854775807) (hd : 0 < d ∧ d ≤ 9223372036854775807) :
    ACall X f_base_Compare [.p (.agg [eI a, eI b]), .p (.agg [eI c, eI d])] h K = K (AI (a * d - c * b).sign) h [] := by
  rw [← cmp3_sign]
  by_cases hn : a < 0 ∧ c < 0
  · refine rule ?_
    rw [c_base_Compare rfl]
    have w1 : IntKind.i64.wrap (-a) = -a := i64_wrap _ (by omega) (by omega)
    have w2 : IntKind.i64.wrap (-c) = -c := i64_wrap _ (by omega) (by omega)
    have e : cmp3 (-c * b) (-a * d) = cmp3 (a * d) (c * b) := by
      rw [Int.neg_mul, Int.neg_mul]; unfold cmp3
      rcases Int.lt_trichotomy (a * d) (c * b) with h | h | h
      · rw [if_pos (by omega), if_pos (by omega)]
      · rw [if_neg (by omega), if_pos (by omega), if_neg (by omega), if_pos (by omega)]
      · rw [if_neg (by omega), if_neg (by omega), if_neg (by omega), if_neg (by omega)]
    simp only [d_base_Compare, go_sem, hn.1, hn.2, w1, w2, s_Compare0 (-c) d (-a) b (by omega) hd (by omega) hb (by omega), e]
  · exact s_Compare0 a b c d ha hb hc hd hn

/-! ### sums, greatest, least -/
theorem sum_take_succ (l : List Int) (k : Nat) (hk : k < l.length) : (l.take (k + 1)).sum = (l.take k).sum + l[k] := by
  rw [List.take_succ_eq_append_getElem hk, List.sum_append]; simp
theorem sum_bd (l : List Int) (a b : Int) (hv : ∀ n ∈ l, a ≤ n ∧ n ≤ b) : (l.length : Int) * a ≤ l.sum ∧ l.sum ≤ (l.length : Int) * b := by
  induction l with
  | nil => simp
  | cons x r ih =>
    obtain ⟨i1, i2⟩ := ih (fun n hn => hv n (by simp [hn]))
    obtain ⟨x1, x2⟩ := hv x (by simp)
    simp only [List.length_cons, List.sum_cons, Int.natCast_add, Int.add_mul]
    omega
theorem sum_bd' {l : List Int} {B : Int} (hv : ∀ n ∈ l, -B ≤ n ∧ n ≤ B) {N : Nat} (hl : l.length ≤ N) (hB : 0 ≤ B) : -(N * B) ≤ l.sum ∧ l.sum ≤ N * B := by
  obtain ⟨h1, h2⟩ := sum_bd l (-B) B hv
  have : (l.length : Int) * B ≤ N * B := Int.mul_le_mul_of_nonneg_right (by omega) hB
  rw [Int.mul_neg] at h1
  omega
theorem sum_bd_take {l : List Int} {B : Int} (hv : ∀ n ∈ l, -B ≤ n ∧ n ≤ B) {N : Nat} (hl : l.length ≤ N) (hB : 0 ≤ B) (k : Nat) : -(N * B) ≤ (l.take k).sum ∧ (l.take k).sum ≤ N * B :=
  sum_bd' (fun n hn => hv n (List.mem_of_mem_take hn)) (by simp; omega) hB

theorem total_of {f : Nat} (hf : X.fn f = some a_lot_total) (l : List Int) (hl : l.length ≤ 1000000) (hv : ∀ n ∈ l, -1000000000000 ≤ n ∧ n ≤ 1000000000000) : ACall X f [AL l] h K = K (AI l.sum) h [] := by
  refine rule ?_
  rw [call_val (F := a_lot_total) hf rfl rfl rfl]
  show NW _ _ a_lot_total.body ⟨enter [AL l], h, []⟩ (finR [.t 2] false h.length _)
  rw [e_lot_total]
  simp only [d_lot_total, go_sem]
  refine N_loop (fun k : Nat => ⟨[(3, AI (l.take k).sum), (6, AL l), (7, AI l.length), (8, AI k)], h, []⟩) (fun k => k ≤ l.length) (fun k => l.length - k) 0 rfl (by simp) ?_
  intro k hk
  rcases Nat.lt_or_ge k l.length with hlt | hge
  · have b := sum_bd_take hv hl (by omega) (k + 1)
    have e := sum_take_succ l k hlt
    have hg := map_get eI hlt
    have w1 : IntKind.i64.wrap ((l.take k).sum + l[k]) = (l.take (k + 1)).sum := by rw [← e]; exact i64_wrap _ (by omega) (by omega)
    have w2 : IntKind.i64.wrap ((k : Int) + 1) = ((k + 1 : Nat) : Int) := i64_wrap _ (by omega) (by omega)
    simp only [go_sem, hlt, hg, w1, w2]
    exact ⟨k + 1, rfl, by omega, by omega⟩
  · have : k = l.length := by omega
    subst this
    simp only [go_sem, Nat.lt_irrefl, List.take_length]
theorem s_total (l : List Int) (hl : l.length ≤ 1000000) (hv : ∀ n ∈ l, -1000000000000 ≤ n ∧ n ≤ 1000000000000) : ACall X f_lot_total [AL l] h K = K (AI l.sum) h [] := total_of (by kernel_rfl) l hl hv
theorem s_totalQ (l : List Int) (hl : l.length ≤ 1000000) (hv : ∀ n ∈ l, -1000000000000 ≤ n ∧ n ≤ 1000000000000) : ACall X f_scanref2_total [AL l] h K = K (AI l.sum) h [] := total_of (by kernel_rfl) l hl hv

def maxL (l : List Int) : Int := l.tail.foldl max (l.headD 0)
def minL (l : List Int) : Int := l.tail.foldl min (l.headD 0)
theorem foldl_bd {f : Int → Int → Int} (hf : ∀ a b, f a b = a ∨ f a b = b) : ∀ (l : List Int) (x : Int), l.foldl f x = x ∨ l.foldl f x ∈ l
  | [], x => .inl rfl
  | y :: r, x => by
    simp only [List.foldl_cons, List.mem_cons]
    rcases foldl_bd hf r (f x y) with h | h
    · rcases hf x y with h2 | h2
      · rw [h2] at h ⊢; exact .inl h
      · rw [h2] at h ⊢; exact .inr (.inl h)
    · exact .inr (.inr h)
theorem maxL_mem {l : List Int} (hl : l ≠ []) : maxL l ∈ l := by
  cases l with
  | nil => exact absurd rfl hl
  | cons x r =>
    unfold maxL
    rcases foldl_bd (f := max) (fun a b => by omega) r x with h | h
    · simp only [List.tail_cons, List.headD_cons]; rw [h]; simp
    · simp only [List.tail_cons, List.headD_cons]; exact List.mem_cons_of_mem _ h
theorem minL_mem {l : List Int} (hl : l ≠ []) : minL l ∈ l := by
  cases l with
  | nil => exact absurd rfl hl
  | cons x r =>
    unfold minL
    rcases foldl_bd (f := min) (fun a b => by omega) r x with h | h
    · simp only [List.tail_cons, List.headD_cons]; rw [h]; simp
    · simp only [List.tail_cons, List.headD_cons]; exact List.mem_cons_of_mem _ h

theorem s_Max (l : List Int) (hl : 1 ≤ l.length) (hl2 : l.length ≤ 1000000000) : ACall X f_slices_Max_int_int [AL l] h K = K (AI (maxL l)) h [] := by
  refine rule ?_
  rw [c_slices_Max_int_int rfl]
  have h1 : ((l.length : Int) < 1) = False := by simp only [eq_iff_iff, iff_false]; omega
  have h2 := map_get eI (show 0 < l.length by omega)
  simp only [d_slices_Max_int_int, go_sem, h1, h2]
  refine N_loop (fun k : Nat => ⟨[(0, AL l), (3, AI ((l.take (k + 1)).tail.foldl max (l.headD 0))), (4, AI ((k + 1 : Nat) : Int))], h, []⟩) (fun k => k + 1 ≤ l.length) (fun k => l.length - (k + 1)) 0 ?_ (by omega) ?_
  · cases l with
    | nil => simp at hl
    | cons x r => simp
  intro k hk
  rcases Nat.lt_or_ge (k + 1) l.length with hlt | hge
  · have e : (l.take (k + 1 + 1)).tail.foldl max (l.headD 0) = max ((l.take (k + 1)).tail.foldl max (l.headD 0)) l[k + 1] := by
      cases l with
      | nil => simp at hlt
      | cons x r =>
        simp only [List.take_succ_cons, List.tail_cons, List.headD_cons, List.getElem_cons_succ]
        rw [List.take_succ_eq_append_getElem (by simpa using hlt), List.foldl_append]; rfl
    have hg := map_get eI hlt
    have w2 : IntKind.i64.wrap (((k + 1 : Nat) : Int) + 1) = ((k + 1 + 1 : Nat) : Int) := i64_wrap _ (by omega) (by omega)
    simp only [go_sem, hlt, hg, w2]
    exact ⟨k + 1, by rw [e], by omega, by omega⟩
  · have : k + 1 = l.length := by omega
    rw [this]
    simp only [go_sem, Nat.lt_irrefl, List.take_length]
    rfl
theorem s_Min (l : List Int) (hl : 1 ≤ l.length) (hl2 : l.length ≤ 1000000000) : ACall X f_slices_Min_int_int [AL l] h K = K (AI (minL l)) h [] := by
  refine rule ?_
  rw [c_slices_Min_int_int rfl]
  have h1 : ((l.length : Int) < 1) = False := by simp only [eq_iff_iff, iff_false]; omega
  have h2 := map_get eI (show 0 < l.length by omega)
  simp only [d_slices_Min_int_int, go_sem, h1, h2]
  refine N_loop (fun k : Nat => ⟨[(0, AL l), (3, AI ((l.take (k + 1)).tail.foldl min (l.headD 0))), (4, AI ((k + 1 : Nat) : Int))], h, []⟩) (fun k => k + 1 ≤ l.length) (fun k => l.length - (k + 1)) 0 ?_ (by omega) ?_
  · cases l with
    | nil => simp at hl
    | cons x r => simp
  intro k hk
  rcases Nat.lt_or_ge (k + 1) l.length with hlt | hge
  · have e : (l.take (k + 1 + 1)).tail.foldl min (l.headD 0) = min ((l.take (k + 1)).tail.foldl min (l.headD 0)) l[k + 1] := by
      cases l with
      | nil => simp at hlt
      | cons x r =>
        simp only [List.take_succ_cons, List.tail_cons, List.headD_cons, List.getElem_cons_succ]
        rw [List.take_succ_eq_append_getElem (by simpa using hlt), List.foldl_append]; rfl
    have hg := map_get eI hlt
    have w2 : IntKind.i64.wrap (((k + 1 : Nat) : Int) + 1) = ((k + 1 + 1 : Nat) : Int) := i64_wrap _ (by omega) (by omega)
    simp only [go_sem, hlt, hg, w2]
    exact ⟨k + 1, by rw [e], by omega, by omega⟩
  · have : k + 1 = l.length := by omega
    rw [this]
    simp only [go_sem, Nat.lt_irrefl, List.take_length]
    rfl

/-! ### equality, finding -/
theorem s_EqualI (l m : List Int) (hl : l.length ≤ 1000000000) : ACall X f_slices_Equal_int_int [AL l, AL m] h K = K (AB (decide (l = m))) h [] := by
  refine rule ?_
  rw [c_slices_Equal_int_int rfl]
  by_cases hlen : l.length = m.length
  · simp only [d_slices_Equal_int_int, go_sem, hlen]
    refine N_loop (fun k : Nat => ⟨[(0, AL l), (1, AL m), (12, AI m.length), (13, AI k)], h, []⟩) (fun k => k ≤ m.length ∧ l.take k = m.take k) (fun k => m.length - k) 0 rfl (by simp) ?_
    rintro k ⟨hk, hp⟩
    rcases Nat.lt_or_ge k m.length with hlt | hge
    · have hg1 := map_get eI (show k < l.length by omega)
      have hg2 := map_get eI hlt
      have w2 : IntKind.i64.wrap ((k : Int) + 1) = ((k + 1 : Nat) : Int) := i64_wrap _ (by omega) (by omega)
      by_cases he : l[k] = m[k]
      · simp only [go_sem, hlt, hg1, hg2, w2, he]
        exact ⟨k + 1, rfl, ⟨by omega, by rw [List.take_succ_eq_append_getElem (by omega), List.take_succ_eq_append_getElem hlt, hp, he]⟩, by omega⟩
      · simp only [go_sem, hlt, hg1, hg2, w2, he]
        have : ¬ l = m := fun h => he (by simp only [h])
        simp [this]
    · have e1 : k = m.length := by omega
      have e2 : l = m := by rw [← List.take_length (l := l), ← List.take_length (l := m), hlen, ← e1, hp]
      subst e1
      simp only [go_sem, Nat.lt_irrefl]
      simp [e2]
  · have e1 : ((l.length : Int) = m.length) = False := by simp only [eq_iff_iff, iff_false]; omega
    simp only [d_slices_Equal_int_int, go_sem, e1]
    have : ¬ l = m := fun h => hlen (by rw [h])
    simp [this]

/-- A function value that tells of a value whether it has a property. -/
def Tells (g : Nat) (caps : List AV) (p : PV → Bool) (xs : List PV) (h : Heap) : Prop := ∀ x ∈ xs, ∀ K : Post, ACall X g (.p x :: caps) h K = K (AB (p x)) h []
def idxP (p : PV → Bool) (xs : List PV) : Int := if xs.findIdx p < xs.length then (xs.findIdx p : Int) else -1
theorem idxP_any (p : PV → Bool) (xs : List PV) : decide (0 ≤ idxP p xs) = xs.any p := by
  unfold idxP
  rw [Bool.eq_iff_iff]
  by_cases h : xs.findIdx p < xs.length
  · rw [if_pos h]; simp only [decide_eq_true_eq, List.any_eq_true]
    exact ⟨fun _ => ⟨_, List.getElem_mem h, List.findIdx_getElem⟩, fun _ => by omega⟩
  · rw [if_neg h]; simp only [decide_eq_true_eq, List.any_eq_true]
    refine ⟨fun h => by omega, fun ⟨x, hx, hp⟩ => absurd (List.findIdx_lt_length_of_exists ⟨x, hx, hp⟩) h⟩

theorem IndexFunc_int {g : Nat} {caps : List AV} {p : PV → Bool} {xs : List PV} (hp : Tells g caps p xs h) (hsc : xs.all PV.sc = true) (hl : xs.length ≤ 1000000000) :
    ACall X f_slices_IndexFunc_int_int [.p (.sl none xs), .fn g caps] h K = K (AI (idxP p xs)) h [] := by
  refine rule ?_
  rw [c_slices_IndexFunc_int_int rfl]
  simp only [d_slices_IndexFunc_int_int, go_sem]
  refine N_loop (fun k : Nat => ⟨[(0, .p (.sl none xs)), (1, .fn g caps), (7, AI xs.length), (8, AI k)], h, []⟩) (fun k => k ≤ xs.length ∧ ∀ x ∈ xs.take k, p x = false) (fun k => xs.length - k) 0 rfl (by simp) ?_
  rintro k ⟨hk, hn⟩
  rcases Nat.lt_or_ge k xs.length with hlt | hge
  · have hg : xs[k]? = some xs[k] := List.getElem?_eq_getElem hlt
    have hs : PV.sc xs[k] = true := List.all_eq_true.1 hsc _ (List.getElem_mem hlt)
    have w2 : IntKind.i64.wrap ((k : Int) + 1) = ((k + 1 : Nat) : Int) := i64_wrap _ (by omega) (by omega)
    have hc := cutP_sc hs
    have ht := hp _ (List.getElem_mem hlt)
    cases hpk : p xs[k] with
    | true =>
      have hf : xs.findIdx p = k := by
        rw [List.findIdx_eq hlt]
        refine ⟨hpk, fun j hj => ?_⟩
        have := hn xs[j] (by rw [List.mem_take_iff_getElem]; exact ⟨j, by omega, rfl⟩)
        simpa using this
      simp only [go_sem, hlt, hg, hc, ht, hpk, w2]
      simp only [idxP, hf, hlt, if_true]
    | false =>
      simp only [go_sem, hlt, hg, hc, ht, hpk, w2]
      refine ⟨k + 1, rfl, ⟨by omega, fun x hx => ?_⟩, by omega⟩
      rw [List.take_succ_eq_append_getElem hlt, List.mem_append, List.mem_singleton] at hx
      rcases hx with hx | hx
      · exact hn x hx
      · rw [hx]; exact hpk
  · have e1 : k = xs.length := by omega
    subst e1
    simp only [go_sem, Nat.lt_irrefl]
    rw [List.take_length] at hn
    have : ¬ xs.findIdx p < xs.length := by
      rw [Nat.not_lt, Nat.le_iff_lt_or_eq]; right
      exact (List.findIdx_eq_length.2 (fun x hx => by simp [hn x hx])).symm
    simp [idxP, this]

theorem ContainsFunc_int {g : Nat} {caps : List AV} {p : PV → Bool} {xs : List PV} (hp : Tells g caps p xs h) (hsc : xs.all PV.sc = true) (hl : xs.length ≤ 1000000000) :
    ACall X f_slices_ContainsFunc_int_int [.p (.sl none xs), .fn g caps] h K = K (AB (xs.any p)) h [] := by
  refine rule ?_
  rw [c_slices_ContainsFunc_int_int rfl]
  simp only [d_slices_ContainsFunc_int_int, go_sem, IndexFunc_int hp hsc hl, idxP_any]

def firstErr : List Int → Int
  | [] => 0
  | e :: r => if e = 0 then firstErr r else e
theorem s_errs (l : List Int) (hl : l.length ≤ 1000) : ACall X f_scanlaw2_errs [AL l] h K = K (AI (firstErr l)) h [] := by
  refine rule ?_
  rw [c_scanlaw2_errs rfl]
  simp only [d_scanlaw2_errs, go_sem]
  refine N_loop (fun k : Nat => ⟨[(5, AL l), (6, AI l.length), (7, AI k)], h, []⟩) (fun k => k ≤ l.length ∧ firstErr (l.drop k) = firstErr l) (fun k => l.length - k) 0 rfl (by simp) ?_
  rintro k ⟨hk, hp⟩
  rcases Nat.lt_or_ge k l.length with hlt | hge
  · have hg := map_get eI hlt
    have w2 : IntKind.i64.wrap ((k : Int) + 1) = ((k + 1 : Nat) : Int) := i64_wrap _ (by omega) (by omega)
    rw [List.drop_eq_getElem_cons hlt, firstErr] at hp
    by_cases he : l[k] = 0
    · rw [if_pos he] at hp
      simp only [go_sem, hlt, hg, w2, he]
      exact ⟨k + 1, rfl, ⟨by omega, hp⟩, by omega⟩
    · rw [if_neg he] at hp
      simp only [go_sem, hlt, hg, w2, he]
      rw [hp]
  · have e1 : k = l.length := by omega
    subst e1
    simp only [go_sem, Nat.lt_irrefl]
    rw [List.drop_length] at hp
    rw [← hp]; rfl
end Go.Am
