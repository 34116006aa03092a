/- Small functions of numbers and of lists of numbers. -/
import Derived.Test.YtajhbehiecgflaaSpStream
import Derived.Test.YtajhbehiecgflaaMathFrac
open Go
namespace Go.Am
variable {h : Heap} {K : Post}

theorem s_Out (n a b : Int) : ACall X f_base_Out [AI n, AI a, AI b] h K = K (AB (decide (n < a) || decide (b < n))) h [] := by
  refine rule ?_
  rw [c_base_Out rfl]
  by_cases h1 : n < a <;> simp only [d_base_Out, go_sem, h1]
theorem s_in (n a b : Int) : ACall X f_scanref2_in [AI n, AI a, AI b] h K = K (AB (decide (a ≤ n) && decide (n ≤ b))) h [] := by
  refine rule ?_
  rw [c_scanref2_in rfl]
  by_cases h1 : a ≤ n <;> simp only [d_scanref2_in, go_sem, h1]
theorem out_eq (n a b : Int) : (decide (n < a) || decide (b < n)) = !(decide (a ≤ n) && decide (n ≤ b)) := by
  rw [Bool.eq_iff_iff]; simp
theorem s_sign (n : Int) : ACall X f_scanref2_sign [AI n] h K = K (AI n.sign) h [] := by
  refine rule ?_
  rw [c_scanref2_sign rfl]
  rcases Int.lt_trichotomy n 0 with h1 | h1 | h1
  · simp only [d_scanref2_sign, go_sem, h1, Int.sign_eq_neg_one_of_neg h1]
  · subst h1; simp only [d_scanref2_sign, go_sem, Int.sign_zero]
  · simp only [d_scanref2_sign, go_sem, show ¬ n < 0 by omega, h1, Int.sign_eq_one_of_pos h1]

/-! ### greatest common divisors -/
theorem gcd_step (a b : Int) : Int.gcd b (a.tmod b) = Int.gcd a b := by
  unfold Int.gcd
  rw [Int.natAbs_tmod, Nat.gcd_comm, ← Nat.gcd_rec, Nat.gcd_comm]

theorem s_Gcd (a b : Int) (ha : 0 ≤ a) (hb : 0 ≤ b) : ACall X f_base_Gcd [AI a, AI b] h K = K (AI (Int.gcd a b)) h [] := by
  refine rule ?_
  rw [c_base_Gcd rfl]
  simp only [d_base_Gcd, go_sem]
  refine N_loop (fun t : Int × Int => ⟨[(0, AI t.1), (1, AI t.2)], h, []⟩) (fun t => 0 ≤ t.1 ∧ 0 ≤ t.2 ∧ Int.gcd t.1 t.2 = Int.gcd a b) (fun t => t.2.toNat) (a, b) rfl ⟨ha, hb, rfl⟩ ?_
  rintro ⟨u, v⟩ ⟨h1, h2, h3⟩
  dsimp only at h1 h2 h3
  by_cases hv : v = 0
  · subst hv
    simp only [go_sem]
    rw [← h3]; simp; omega
  · simp only [go_sem, hv]
    exact ⟨(v, u.tmod v), rfl, ⟨h2, Int.tmod_nonneg _ h1, by rw [gcd_step]; exact h3⟩, by have := Int.tmod_lt_of_pos u (show 0 < v by omega); dsimp only; omega⟩

theorem s_divisor (a b : Int) (ha : -9223372036854775807 ≤ a ∧ a ≤ 9223372036854775807) (hb : -9223372036854775807 ≤ b ∧ b ≤ 9223372036854775807) : ACall X f_scanref2_divisor [AI a, AI b] h K = K (AI (Int.gcd a b)) h [] := by
  refine rule ?_
  rw [c_scanref2_divisor rfl]
  simp only [d_scanref2_divisor, go_sem]
  refine N_loop (fun t : Int × Int => ⟨[(0, AI t.1), (1, AI t.2)], h, []⟩) (fun t => (-9223372036854775807 ≤ t.1 ∧ t.1 ≤ 9223372036854775807) ∧ (-9223372036854775807 ≤ t.2 ∧ t.2 ≤ 9223372036854775807) ∧ Int.gcd t.1 t.2 = Int.gcd a b) (fun t => t.2.natAbs) (a, b) rfl ⟨ha, hb, rfl⟩ ?_
  rintro ⟨u, v⟩ ⟨h1, h2, h3⟩
  dsimp only at h1 h2 h3
  by_cases hv : v = 0
  · subst hv
    have w : IntKind.i64.wrap (-u) = -u := i64_wrap _ (by omega) (by omega)
    simp only [go_sem, w]
    rw [← h3]; simp; omega
  · simp only [go_sem, hv]
    have hl : (u.tmod v).natAbs < v.natAbs := by rw [Int.natAbs_tmod]; exact Nat.mod_lt _ (by omega)
    exact ⟨(v, u.tmod v), rfl, ⟨h2, by dsimp only; omega, by rw [gcd_step]; exact h3⟩, hl⟩

theorem s_baseLowest (a b : Int) (ha : 0 ≤ a) (ha2 : a < 9223372036854775808) (hb : 0 ≤ b) (hb2 : b < 9223372036854775808) : ACall X f_base_Lowest [.p (.agg [eI a, eI b])] h K = K (AB (decide (Int.gcd a b = 1))) h [] := by
  refine rule ?_
  rw [c_base_Lowest rfl]
  have w1 : IntKind.u64.wrap a = a := by simp [IntKind.wrap, IntKind.bits, IntKind.signed]; omega
  have w2 : IntKind.u64.wrap b = b := by simp [IntKind.wrap, IntKind.bits, IntKind.signed]; omega
  simp only [d_base_Lowest, go_sem, w1, w2, show ¬ a < 0 by omega]
  refine N_loop (fun t : Int × Int => ⟨[(3, .p (.int .u64 t.1)), (4, .p (.int .u64 t.2))], h ++ [.box [AI a, AI b]], []⟩) (fun t => 0 ≤ t.1 ∧ 0 ≤ t.2 ∧ Int.gcd t.1 t.2 = Int.gcd a b) (fun t => t.2.toNat) (a, b) rfl ⟨ha, hb, rfl⟩ ?_
  rintro ⟨u, v⟩ ⟨h1, h2, h3⟩
  dsimp only at h1 h2 h3
  by_cases hv : v = 0
  · subst hv
    simp only [go_sem]
    rw [← h3]; simp; omega
  · simp only [go_sem, hv]
    exact ⟨(v, u.tmod v), rfl, ⟨h2, Int.tmod_nonneg _ h1, by rw [gcd_step]; exact h3⟩, by have := Int.tmod_lt_of_pos u (show 0 < v by omega); dsimp only; omega⟩

theorem s_Fraction (a b : Int) (ha : -9223372036854775807 ≤ a ∧ a ≤ 9223372036854775807) (hb : 0 < b ∧ b ≤ 9223372036854775807) : ACall X f_base_Fraction [AI a, AI b] h K = K (.p (.agg [eI (low a b).1, eI (low a b).2])) h [] := by
  refine rule ?_
  rw [c_base_Fraction rfl]
  have w : IntKind.i64.wrap (-a) = -a := i64_wrap _ (by omega) (by omega)
  have e : Int.gcd (max a (-a)) b = Int.gcd a b := by
    rcases Int.le_total 0 a with h | h
    · rw [show max a (-a) = a by omega]
    · rw [show max a (-a) = -a by omega, Int.neg_gcd]
  have hg := gcd_pos a b hb.1
  have hd := low_den_le a b hb.1
  have hp := low_den_pos a b hb.1
  have hn := low_abs a b hb.1
  have w1 : IntKind.i64.wrap (a.tdiv (Int.gcd a b)) = (low a b).1 := i64_wrap (low a b).1 (by omega) (by omega)
  have w2 : IntKind.i64.wrap (b.tdiv (Int.gcd a b)) = (low a b).2 := i64_wrap (low a b).2 (by omega) (by omega)
  have e0 : ((Int.gcd a b : Int) = 0) = False := by simp only [eq_iff_iff, iff_false]; omega
  simp only [d_base_Fraction, go_sem, w, s_Gcd (max a (-a)) b (by omega) (by omega), e, e0, w1, w2]
theorem s_refLowest (a b : Int) (ha : -9223372036854775807 ≤ a ∧ a ≤ 9223372036854775807) (hb : 0 < b ∧ b ≤ 9223372036854775807) : ACall X f_scanref2_Lowest [AI a, AI b] h K = K (.p (.agg [eI (low a b).1, eI (low a b).2])) h [] := by
  refine rule ?_
  rw [c_scanref2_Lowest rfl]
  have hg := gcd_pos a b hb.1
  have hd := low_den_le a b hb.1
  have hp := low_den_pos a b hb.1
  have hn := low_abs a b hb.1
  have w1 : IntKind.i64.wrap (a.tdiv (Int.gcd a b)) = (low a b).1 := i64_wrap (low a b).1 (by omega) (by omega)
  have w2 : IntKind.i64.wrap (b.tdiv (Int.gcd a b)) = (low a b).2 := i64_wrap (low a b).2 (by omega) (by omega)
  have e0 : ((Int.gcd a b : Int) = 0) = False := by simp only [eq_iff_iff, iff_false]; omega
  simp only [d_scanref2_Lowest, go_sem, s_divisor a b ha (by omega), e0, w1, w2]

/-! ### products of 128 bits -/
theorem u64_wrap (n : Int) (h1 : 0 ≤ n) (h2 : n < 18446744073709551616) : IntKind.u64.wrap n = n := by
  simp [IntKind.wrap, IntKind.bits, IntKind.signed]; omega
theorem u64_mod (n : Int) : IntKind.u64.wrap n = n % 18446744073709551616 := by
  simp [IntKind.wrap, IntKind.bits, IntKind.signed]
theorem u64_lo (a : Int) (h1 : 0 ≤ a) (h2 : a < 18446744073709551616) : iand .u64 a 4294967295 = a % 4294967296 := by
  obtain ⟨n, rfl⟩ := Int.eq_ofNat_of_zero_le h1
  have e : (BitVec.ofInt IntKind.u64.bits (n : Int) &&& BitVec.ofInt IntKind.u64.bits 4294967295).toNat = n % 4294967296 := by
    rw [BitVec.toNat_and]
    have e1 : (BitVec.ofInt IntKind.u64.bits (n : Int)).toNat = n := by
      show (BitVec.ofInt 64 (n : Int)).toNat = n
      rw [BitVec.toNat_ofInt]; omega
    have e2 : (BitVec.ofInt IntKind.u64.bits (4294967295 : Int)).toNat = 2 ^ 32 - 1 := by decide
    rw [e1, e2, Nat.and_two_pow_sub_one_eq_mod]
  unfold iand
  rw [e, u64_wrap _ (by omega) (by omega)]
  omega
theorem u64_hi (a : Int) : ishr .u64 a 32 = a / 4294967296 := by
  unfold ishr
  rw [show (2 : Int) ^ (min (32 : Int).toNat IntKind.u64.bits) = 4294967296 by decide, Int.fdiv_eq_ediv_of_nonneg _ (by omega)]

abbrev AU (n : Int) : AV := .p (.int .u64 n)
theorem mul_bd {a b A B : Int} (h1 : 0 ≤ a) (h2 : a ≤ A) (h3 : 0 ≤ b) (h4 : b ≤ B) : 0 ≤ a * b ∧ a * b ≤ A * B :=
  ⟨Int.mul_nonneg h1 h3, Int.mul_le_mul h2 h4 h3 (by omega)⟩

theorem s_Mul64 (x y : Int) (hx : 0 ≤ x) (hx2 : x < 18446744073709551616) (hy : 0 ≤ y) (hy2 : y < 18446744073709551616) : ACall X f_math_bits_Mul64 [AU x, AU y] h K = K (.tup [AU (x * y / 18446744073709551616), AU (x * y % 18446744073709551616)]) h [] := by
  refine rule ?_
  rw [c_math_bits_Mul64 rfl]
  have b1 := mul_bd (show 0 ≤ x % 4294967296 by omega) (show x % 4294967296 ≤ 4294967295 by omega) (show 0 ≤ y % 4294967296 by omega) (show y % 4294967296 ≤ 4294967295 by omega)
  have b2 := mul_bd (show 0 ≤ x / 4294967296 by omega) (show x / 4294967296 ≤ 4294967295 by omega) (show 0 ≤ y % 4294967296 by omega) (show y % 4294967296 ≤ 4294967295 by omega)
  have b3 := mul_bd (show 0 ≤ x % 4294967296 by omega) (show x % 4294967296 ≤ 4294967295 by omega) (show 0 ≤ y / 4294967296 by omega) (show y / 4294967296 ≤ 4294967295 by omega)
  have b4 := mul_bd (show 0 ≤ x / 4294967296 by omega) (show x / 4294967296 ≤ 4294967295 by omega) (show 0 ≤ y / 4294967296 by omega) (show y / 4294967296 ≤ 4294967295 by omega)
  have e : x * y = (x / 4294967296 * (y / 4294967296)) * 18446744073709551616 + (x / 4294967296 * (y % 4294967296) + x % 4294967296 * (y / 4294967296)) * 4294967296 + x % 4294967296 * (y % 4294967296) := by
    have hx' := Int.mul_ediv_add_emod x 4294967296
    have hy' := Int.mul_ediv_add_emod y 4294967296
    generalize x / 4294967296 = x1 at *
    generalize y / 4294967296 = y1 at *
    generalize x % 4294967296 = x0 at *
    generalize y % 4294967296 = y0 at *
    subst hx'; subst hy'
    simp only [Int.add_mul, Int.mul_add]
    have q1 : 4294967296 * x1 * (4294967296 * y1) = x1 * y1 * 18446744073709551616 := by rw [Int.mul_assoc, Int.mul_left_comm x1, ← Int.mul_assoc, Int.mul_comm]; simp only [Int.reduceMul]
    have q2 : 4294967296 * x1 * y0 = x1 * y0 * 4294967296 := by rw [Int.mul_assoc, Int.mul_comm]
    have q3 : x0 * (4294967296 * y1) = x0 * y1 * 4294967296 := by rw [← Int.mul_assoc, Int.mul_comm x0, Int.mul_assoc, Int.mul_comm]
    rw [q1, q2, q3]
    omega
  simp only [d_math_bits_Mul64, go_sem, u64_hi]
  rw [u64_lo x hx hx2, u64_lo y hy hy2]
  generalize x / 4294967296 = x1 at *
  generalize y / 4294967296 = y1 at *
  generalize x % 4294967296 = x0 at *
  generalize y % 4294967296 = y0 at *
  generalize x0 * y0 = p00 at *
  generalize x1 * y0 = p10 at *
  generalize x0 * y1 = p01 at *
  generalize x1 * y1 = p11 at *
  rw [u64_wrap p00 (by omega) (by omega), u64_wrap p10 (by omega) (by omega), u64_wrap p01 (by omega) (by omega), u64_wrap p11 (by omega) (by omega),
    u64_wrap (p10 + p00 / 4294967296) (by omega) (by omega), u64_lo (p10 + p00 / 4294967296) (by omega) (by omega), u64_wrap ((p10 + p00 / 4294967296) % 4294967296 + p01) (by omega) (by omega),
    u64_wrap (p11 + (p10 + p00 / 4294967296) / 4294967296) (by omega) (by omega), u64_wrap (p11 + (p10 + p00 / 4294967296) / 4294967296 + ((p10 + p00 / 4294967296) % 4294967296 + p01) / 4294967296) (by omega) (by omega), u64_mod]
  simp only [AV.tup.injEq, List.cons.injEq, AV.p.injEq, PV.int.injEq, and_true, true_and]
  omega

def cmp3 (x y : Int) : Int := if x < y then -1 else if x = y then 0 else 1
theorem cmp3_sign (x y : Int) : cmp3 x y = (x - y).sign := by
  unfold cmp3
  rcases Int.lt_trichotomy x y with h | h | h
  · rw [if_pos h, Int.sign_eq_neg_one_of_neg (by omega)]
  · rw [if_neg (by omega), if_pos h, h]; simp
  · rw [if_neg (by omega), if_neg (by omega), Int.sign_eq_one_of_pos (by omega)]

theorem s_CompareProducts (a b c d : Int) : ACall X f_base_CompareProducts [AI a, AI b, AI c, AI d] h K = K (AI (cmp3 ((a % 18446744073709551616) * (b % 18446744073709551616)) ((c % 18446744073709551616) * (d % 18446744073709551616)))) h [] := by
  refine rule ?_
  rw [c_base_CompareProducts rfl]
  have m1 := fun h K => s_Mul64 (h := h) (K := K) (a % 18446744073709551616) (b % 18446744073709551616) (by omega) (by omega) (by omega) (by omega)
  have m2 := fun h K => s_Mul64 (h := h) (K := K) (c % 18446744073709551616) (d % 18446744073709551616) (by omega) (by omega) (by omega) (by omega)
  generalize (a % 18446744073709551616) * (b % 18446744073709551616) = p at *
  generalize (c % 18446744073709551616) * (d % 18446744073709551616) = q at *
  have hp := Int.mul_ediv_add_emod p 18446744073709551616
  have hq := Int.mul_ediv_add_emod q 18446744073709551616
  by_cases h1 : p / 18446744073709551616 = q / 18446744073709551616
  · by_cases h2 : p % 18446744073709551616 < q % 18446744073709551616
    · simp only [d_base_CompareProducts, go_sem, u64_mod, m1, m2, h1, h2]
      unfold cmp3; rw [if_pos (by omega)]
    · by_cases h3 : p % 18446744073709551616 = q % 18446744073709551616
      · simp only [d_base_CompareProducts, go_sem, u64_mod, m1, m2, h1, h3, Int.lt_irrefl]
        unfold cmp3; rw [if_neg (by omega), if_pos (by omega)]
      · simp only [d_base_CompareProducts, go_sem, u64_mod, m1, m2, h1, h2, h3]
        unfold cmp3; rw [if_neg (by omega), if_neg (by omega)]
  · by_cases h2 : p / 18446744073709551616 < q / 18446744073709551616
    · simp only [d_base_CompareProducts, go_sem, u64_mod, m1, m2, h1, h2]
      unfold cmp3; rw [if_pos (by omega)]
    · simp only [d_base_CompareProducts, go_sem, u64_mod, m1, m2, h1, h2]
      unfold cmp3; rw [if_neg (by omega), if_neg (by omega)]
end Go.Am
