/- Plain laws of fractions in lowest terms. -/
namespace Go.Am

/-- In lowest terms. -/
def low (a b : Int) : Int × Int := (a.tdiv (Int.gcd a b), b.tdiv (Int.gcd a b))

theorem low_scale (c a b : Int) (hc : 0 < c) : low (c * a) (c * b) = low a b := by
  unfold low
  have hg : (Int.gcd (c * a) (c * b) : Int) = c * (Int.gcd a b : Int) := by
    rw [Int.gcd_mul_left]
    simp only [Int.natCast_mul]
    rw [Int.natAbs_of_nonneg (by omega)]
  rw [hg]
  rw [Int.mul_tdiv_mul_of_pos _ _ hc, Int.mul_tdiv_mul_of_pos _ _ hc]

theorem gcd_pos (a b : Int) (hb : 0 < b) : 0 < (Int.gcd a b : Int) := by
  have : Int.gcd a b ≠ 0 := by
    intro h
    have := (Int.gcd_eq_zero_iff.1 h).2
    omega
  omega

theorem low_num (a b : Int) : (low a b).1 * (Int.gcd a b : Int) = a := by
  unfold low
  exact Int.tdiv_mul_cancel (Int.gcd_dvd_left ..)

theorem low_den (a b : Int) : (low a b).2 * (Int.gcd a b : Int) = b := by
  unfold low
  exact Int.tdiv_mul_cancel (Int.gcd_dvd_right ..)

theorem low_den_pos (a b : Int) (hb : 0 < b) : 0 < (low a b).2 := by
  have h1 := low_den a b
  have h2 := gcd_pos a b hb
  rcases Int.lt_trichotomy (low a b).2 0 with h | h | h
  · have := Int.mul_neg_of_neg_of_pos h h2; omega
  · rw [h] at h1; omega
  · exact h

theorem low_den_le (a b : Int) (hb : 0 < b) : (low a b).2 ≤ b := by
  have h1 := low_den a b
  have h2 := gcd_pos a b hb
  have h3 := low_den_pos a b hb
  have : (low a b).2 * 1 ≤ (low a b).2 * (Int.gcd a b : Int) := Int.mul_le_mul_of_nonneg_left (by omega) (by omega)
  omega

theorem sign_mul_pos (x c : Int) (hc : 0 < c) : (x * c).sign = x.sign := by
  rw [Int.sign_mul, Int.sign_eq_one_of_pos hc, Int.mul_one]

/-- Comparing with what is in lowest terms. -/
theorem sign_low (s z a b : Int) (hb : 0 < b) : (s * (low a b).2 - (low a b).1 * z).sign = (s * b - a * z).sign := by
  have h1 := low_num a b
  have h2 := low_den a b
  have h3 := gcd_pos a b hb
  rw [← sign_mul_pos (s * (low a b).2 - (low a b).1 * z) (Int.gcd a b : Int) h3]
  congr 1
  rw [Int.sub_mul, Int.mul_assoc, h2, Int.mul_assoc, Int.mul_comm z, ← Int.mul_assoc, h1]

theorem low_abs (a b : Int) (hb : 0 < b) : (low a b).1.natAbs ≤ a.natAbs := by
  have h1 := low_num a b
  have h2 := gcd_pos a b hb
  have h3 : ((low a b).1 * (Int.gcd a b : Int)).natAbs = a.natAbs := by rw [h1]
  rw [Int.natAbs_mul] at h3
  rw [← h3]
  exact Nat.le_mul_of_pos_right _ (by omega)

end Go.Am
