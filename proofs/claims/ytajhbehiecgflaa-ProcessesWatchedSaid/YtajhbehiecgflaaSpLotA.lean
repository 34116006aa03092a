/- Package lot on measured values, and what the reference says of them. -/
import Derived.Test.YtajhbehiecgflaaSpList
open Go
namespace Go.Am
variable {h : Heap} {K : Post}

def isM (n : Int) : Bool := decide (-100000 ≤ n) && decide (n ≤ 100000)
def measFault (l : List Int) (least : Int) : Int := if (l.length : Int) < least then 8 else if 5000 < (l.length : Int) then 2 else if l.all isM then 0 else 1

theorem all_eI {l : List Int} : (l.map eI).all PV.sc = true := by simp [PV.sc]
theorem any_eI (l : List Int) (f : Int → Bool) : (l.map eI).any (fun x => match x with | .int _ n => f n | _ => false) = l.any f := by
  rw [List.any_map]; rfl

theorem s_isMeasure (n : Int) : ACall X f_lot_isMeasure [AI n] h K = K (AB (isM n)) h [] := by
  refine rule ?_
  rw [c_lot_isMeasure rfl]
  simp only [d_lot_isMeasure, go_sem, s_Out, out_eq, Bool.not_not]
  rfl
theorem s_vf1 (n : Int) : ACall X f_lot_valuesFault_1 [AI n] h K = K (AB (!isM n)) h [] := by
  refine rule ?_
  rw [c_lot_valuesFault_1 rfl]
  simp only [d_lot_valuesFault_1, go_sem, s_isMeasure]
theorem s_mf1 (n : Int) : ACall X f_scanref2_MeasuresFault_1 [AI n] h K = K (AB (!isM n)) h [] := by
  refine rule ?_
  rw [c_scanref2_MeasuresFault_1 rfl]
  simp only [d_scanref2_MeasuresFault_1, go_sem, s_in]
  rfl
def noM : PV → Bool := fun x => match x with | .int _ n => !isM n | _ => false
theorem any_noM (l : List Int) : (l.map eI).any noM = !l.all isM := by
  induction l with
  | nil => rfl
  | cons x r ih => simp only [List.map_cons, List.any_cons, List.all_cons, ih, Bool.not_and]; rfl

theorem s_valuesFault (l : List Int) (n : Int) (hl : l.length ≤ 1000000000) : ACall X f_lot_valuesFault [AL l, AI n] h K = K (AI (measFault l n)) h [] := by
  refine rule ?_
  rw [c_lot_valuesFault rfl]
  have c := fun K => ContainsFunc_int (h := h) (K := K) (g := f_lot_valuesFault_1) (caps := []) (p := noM) (xs := l.map eI) (fun x hx K => by obtain ⟨n, _, rfl⟩ := List.mem_map.1 hx; exact s_vf1 n) all_eI (by simpa using hl)
  rw [any_noM] at c
  unfold measFault
  by_cases h1 : (l.length : Int) < n
  · simp only [d_lot_valuesFault, go_sem, h1]
  · by_cases h2 : (5000 : Int) < l.length
    · simp only [d_lot_valuesFault, go_sem, h1, h2]
    · cases h3 : l.all isM <;> simp only [d_lot_valuesFault, go_sem, h1, h2, c, h3]
theorem s_MeasuresFault (l : List Int) (n : Int) (hl : l.length ≤ 1000000000) : ACall X f_scanref2_MeasuresFault [AL l, AI n] h K = K (AI (measFault l n)) h [] := by
  refine rule ?_
  rw [c_scanref2_MeasuresFault rfl]
  have c := fun K => ContainsFunc_int (h := h) (K := K) (g := f_scanref2_MeasuresFault_1) (caps := []) (p := noM) (xs := l.map eI) (fun x hx K => by obtain ⟨n, _, rfl⟩ := List.mem_map.1 hx; exact s_mf1 n) all_eI (by simpa using hl)
  rw [any_noM] at c
  unfold measFault
  by_cases h1 : (l.length : Int) < n
  · simp only [d_scanref2_MeasuresFault, go_sem, h1]
  · by_cases h2 : (5000 : Int) < l.length
    · simp only [d_scanref2_MeasuresFault, go_sem, h1, h2]
    · cases h3 : l.all isM <;> simp only [d_scanref2_MeasuresFault, go_sem, h1, h2, c, h3]

/-- Right values. -/
structure Meas (l : List Int) : Prop where
  len : l.length ≤ 5000
  bd : ∀ n ∈ l, -100000 ≤ n ∧ n ≤ 100000
theorem measFault_ok {l : List Int} {n : Int} (h : measFault l n = 0) : Meas l ∧ n ≤ l.length := by
  unfold measFault at h
  split at h
  · cases h
  · split at h
    · cases h
    · split at h
      · rename_i h1 h2 h3
        refine ⟨⟨by omega, fun x hx => ?_⟩, by omega⟩
        have := List.all_eq_true.1 h3 x hx
        simpa [isM] using this
      · cases h

def sqs (l : List Int) : Int := (l.map fun n => n * n).sum
theorem sqs_take_succ (l : List Int) (k : Nat) (hk : k < l.length) : sqs (l.take (k + 1)) = sqs (l.take k) + l[k] * l[k] := by
  unfold sqs; rw [List.take_succ_eq_append_getElem hk, List.map_append, List.sum_append]; simp
theorem sq_bd {n B : Int} (h : -B ≤ n ∧ n ≤ B) : 0 ≤ n * n ∧ n * n ≤ B * B := by
  have h1 : n.natAbs * n.natAbs ≤ B.natAbs * B.natAbs := Nat.mul_le_mul (by omega) (by omega)
  have e1 := Int.natAbs_mul_self (a := n)
  have e2 := Int.natAbs_mul_self (a := B)
  have h2 : ((n.natAbs * n.natAbs : Nat) : Int) ≤ ((B.natAbs * B.natAbs : Nat) : Int) := by exact_mod_cast h1
  exact ⟨by rw [← e1]; omega, by rw [← e1, ← e2]; exact h2⟩
theorem sqs_bd {l : List Int} (hm : Meas l) (k : Nat) : 0 ≤ sqs (l.take k) ∧ sqs (l.take k) ≤ 50000000000000 := by
  have h1 : ∀ n ∈ (l.take k).map (fun n => n * n), 0 ≤ n ∧ n ≤ 10000000000 := by
    intro n hn
    obtain ⟨x, hx, rfl⟩ := List.mem_map.1 hn
    have := sq_bd (hm.bd x (List.mem_of_mem_take hx))
    omega
  have h2 := sum_bd _ _ _ h1
  have h3 := hm.len
  simp only [List.length_map, List.length_take] at h2
  unfold sqs
  omega
theorem Meas.sum {l : List Int} (hm : Meas l) (k : Nat) : -500000000 ≤ (l.take k).sum ∧ (l.take k).sum ≤ 500000000 := by
  have := sum_bd_take hm.bd hm.len (by omega) k
  omega
def spreadN (l : List Int) : Int := l.length * sqs l - l.sum * l.sum
theorem spread_bds {l : List Int} (hm : Meas l) : (0 ≤ l.length * sqs l ∧ l.length * sqs l ≤ 250000000000000000) ∧ (0 ≤ l.sum * l.sum ∧ l.sum * l.sum ≤ 250000000000000000) := by
  have h1 := sqs_bd hm l.length
  have h2 := hm.sum l.length
  rw [List.take_length] at h1 h2
  have h3 := hm.len
  exact ⟨mul_bd (by omega) (show (l.length : Int) ≤ 5000 by omega) h1.1 h1.2, sq_bd h2⟩

theorem s_sums (l : List Int) (hm : Meas l) : ACall X f_lot_sums [AL l] h K = K (.tup [AI l.sum, AI (spreadN l)]) h [] := by
  refine rule ?_
  rw [c_lot_sums rfl]
  simp only [d_lot_sums, go_sem]
  refine N_loop (fun k : Nat => ⟨[(0, AL l), (2, AI (l.take k).sum), (4, AI (sqs (l.take k))), (7, AL l), (8, AI l.length), (9, AI k)], h, []⟩) (fun k => k ≤ l.length) (fun k => l.length - k) 0 rfl (by simp) ?_
  intro k hk
  have h3 := hm.len
  rcases Nat.lt_or_ge k l.length with hlt | hge
  · have hg := map_get eI hlt
    have e1 := sum_take_succ l k hlt
    have e2 := sqs_take_succ l k hlt
    have b1 := hm.sum (k + 1)
    have b2 := sqs_bd hm (k + 1)
    have b3 := sq_bd (hm.bd _ (List.getElem_mem hlt))
    have w1 : IntKind.i64.wrap ((l.take k).sum + l[k]) = (l.take (k + 1)).sum := by rw [← e1]; exact i64_wrap _ (by omega) (by omega)
    have w2 : IntKind.i64.wrap (l[k] * l[k]) = l[k] * l[k] := i64_wrap _ (by omega) (by omega)
    have w3 : IntKind.i64.wrap (sqs (l.take k) + l[k] * l[k]) = sqs (l.take (k + 1)) := by rw [← e2]; exact i64_wrap _ (by omega) (by omega)
    have w4 : IntKind.i64.wrap ((k : Int) + 1) = ((k + 1 : Nat) : Int) := i64_wrap _ (by omega) (by omega)
    simp only [go_sem, hlt, hg, w1, w2, w3, w4]
    exact ⟨k + 1, rfl, by omega, by omega⟩
  · have : k = l.length := by omega
    subst this
    obtain ⟨⟨b1, b2⟩, b3, b4⟩ := spread_bds hm
    have w1 : IntKind.i64.wrap (l.length * sqs l) = l.length * sqs l := i64_wrap _ (by omega) (by omega)
    have w2 : IntKind.i64.wrap (l.sum * l.sum) = l.sum * l.sum := i64_wrap _ (by omega) (by omega)
    have w3 : IntKind.i64.wrap (l.length * sqs l - l.sum * l.sum) = spreadN l := i64_wrap _ (by omega) (by omega)
    simp only [go_sem, Nat.lt_irrefl, List.take_length, w1, w2, w3]

def fracP (x : Int × Int) : PV := .agg [eI x.1, eI x.2]
theorem spreadN_bd {l : List Int} (hm : Meas l) : -250000000000000000 ≤ spreadN l ∧ spreadN l ≤ 250000000000000000 := by
  obtain ⟨⟨b1, b2⟩, b3, b4⟩ := spread_bds hm
  unfold spreadN; omega
def spreadV (l : List Int) : AV := if measFault l 1 = 0 then .tup [.p (fracP (low l.sum l.length)), .p (fracP (low (spreadN l) (l.length * l.length))), AI 0] else .tup [.p (fracP (0, 0)), .p (fracP (0, 0)), AI (measFault l 1)]
theorem s_Spread (l : List Int) (hl : l.length ≤ 1000000000) : ACall X f_lot_Spread [AL l] h K = K (spreadV l) h [] := by
  refine rule ?_
  rw [c_lot_Spread rfl]
  have vf := fun h K => s_valuesFault (h := h) (K := K) l 1 hl
  unfold spreadV
  by_cases hf : measFault l 1 = 0
  · obtain ⟨hm, hn⟩ := measFault_ok hf
    have h3 := hm.len
    have b1 := hm.sum l.length
    rw [List.take_length] at b1
    have b2 := spreadN_bd hm
    have b3 := mul_bd (show 0 ≤ (l.length : Int) by omega) (show (l.length : Int) ≤ 5000 by omega) (show 0 ≤ (l.length : Int) by omega) (show (l.length : Int) ≤ 5000 by omega)
    have b4 : 0 < (l.length : Int) * l.length := Int.mul_pos (by omega) (by omega)
    have w : IntKind.i64.wrap (l.length * l.length) = l.length * l.length := i64_wrap _ (by omega) (by omega)
    rw [hf] at vf
    simp only [d_lot_Spread, go_sem, vf, hf, s_sums l hm, s_Fraction l.sum l.length (by omega) (by omega), w, s_Fraction (spreadN l) (l.length * l.length) (by omega) (by omega)]
    rfl
  · simp only [d_lot_Spread, go_sem, vf, hf]
    rfl
end Go.Am
