/- What is drawn: numbers, measured values. -/
import Derived.Test.YtajhbehiecgflaaSpStream
open Go
namespace Go.Am
variable {L : List Int} {a : Int}

theorem g_Odd (hp : posN 14 a) (u v : Int) (huv : u ≤ v) (hu : -1000000000000 ≤ u) (hv : v ≤ 1000000000000) : ∃ k a2 : Int, a ≤ a2 ∧ a2 ≤ a + 2 ∧ -1099511627776 ≤ k ∧ k ≤ 1099511627776 ∧
    Gen f_scanmake_Stream_Odd [AI u, AI v] L a a2 (AI k) := by
  have w1 : IntKind.i64.wrap (u - 1) = u - 1 := i64_wrap _ (by omega) (by omega)
  have w2 : IntKind.i64.wrap (v + 1) = v + 1 := i64_wrap _ (by omega) (by omega)
  by_cases hf : nextV L a 12 = 0
  · have hm := pickV_mem (L := L) (a := a + 1) (l := [u - 1, v + 1, u, v, -1099511627776, 1099511627776]) (by simp) (by simp)
    simp only [List.mem_cons, List.not_mem_nil, or_false] at hm
    refine ⟨pickV [u - 1, v + 1, u, v, -1099511627776, 1099511627776] L (a + 1), a + 1 + 1, by omega, by omega, by omega, by omega, Gen.of fun h id hid => ?_⟩
    rw [c_scanmake_Stream_Odd rfl]
    simp only [d_scanmake_Stream_Odd, go_sem, hid, posAll hp, hf, w1, w2]
  · have hm := rangeV_bd L (a + 1) huv (by omega)
    refine ⟨rangeV u v L (a + 1), a + 1 + 1, by omega, by omega, by omega, by omega, Gen.of fun h id hid => ?_⟩
    rw [c_scanmake_Stream_Odd rfl]
    simp only [d_scanmake_Stream_Odd, go_sem, hid, posAll hp, hf, w1, w2, huv, show -1152921504606846976 ≤ u by omega, show v ≤ 1152921504606846976 by omega]

theorem g_Values (hp : posN 60 a) (n : Int) (hn : 0 ≤ n) (hn2 : n ≤ 40) : GenE f_scanmake_Stream_Values [AI n] L a (fun v a2 => a ≤ a2 ∧ a2 ≤ a + 60 ∧ ∃ vs : List Int, vs.length ≤ 40 ∧ v = AL vs) := by
  refine GenE.of fun h id hid => ?_
  have hid' : id ≤ h.length := by omega
  rw [c_scanmake_Stream_Values rfl]
  have P := posAll (posN_le hp (Int.le_refl a) (by omega))
  simp only [d_scanmake_Stream_Values, go_sem, hid, P]
  refine N_loop (fun t : List Int × Int × Int => ⟨[(0, .ref id 0), (5, .own h.length t.1.length 0 t.1.length), (6, AI (pickV [0, 5, -20, 99990] L a)), (10, AI n), (11, AI t.2.1)], h.set id (strm L t.2.2) ++ [.row none (t.1.map eI) 0], []⟩)
    (fun t => t.1.length = t.2.1 ∧ t.2.1 ≤ n ∧ t.2.2 = a + 1 + t.2.1) (fun t => (n - t.2.1).toNat) ([], 0, a + 1) rfl ⟨by simp, by simpa using hn, by simp⟩ ?_
  rintro ⟨ys, k, b⟩ ⟨q1, q2, q3⟩
  dsimp only at q1 q2 q3
  by_cases hk : k < n
  · have hmx : ys.length + 1 ≤ maxSl := by unfold maxSl; omega
    have w1 : IntKind.i64.wrap (k + 1) = k + 1 := i64_wrap _ (by omega) (by omega)
    have hpb : posN 0 b := posN_le hp (by omega) (by omega)
    have := pickV_mem (L := L) (a := a) (l := [0, 5, -20, 99990]) (by simp) (by simp)
    have := pickV_mem (L := L) (a := b) (l := [0, 1, 2, 3, 5, 9, -4]) (by simp) (by simp)
    simp only [List.mem_cons, List.not_mem_nil, or_false] at this
    simp only [go_sem, hid, hid', hpb, hk, hmx, w1]
    refine ⟨(ys ++ [IntKind.i64.wrap (pickV [0, 5, -20, 99990] L a + pickV [0, 1, 2, 3, 5, 9, -4] L b)], k + 1, b + 1), by simp, ⟨?_, ?_, ?_⟩, ?_⟩
    · simp; omega
    · dsimp only; omega
    · dsimp only; omega
    · dsimp only; omega
  · have PB := posAll (posN_le hp (show a ≤ b by omega) (by omega))
    by_cases hy : ys.length = 0
    · have : ys = [] := List.length_eq_zero_iff.1 hy
      subst this
      simp only [go_sem, hid, hid', hk, PB]
      exact ⟨b, ⟨by omega, by omega, [], by simp, rfl⟩, rfl⟩
    · have hy' : (0 : Int) < ys.length := by omega
      by_cases hf : nextV L b 15 = 0
      · obtain ⟨n1, n2⟩ := nextV_bd L (b + 1) ys.length (by omega) (by omega)
        have e4 := natOf_int (k := .i64) n1
        have e5 : (nextV L (b + 1) ys.length).toNat < ys.length := by omega
        have e6 := map_get eI e5
        simp only [go_sem, hid, hid', hk, hy', PB, hf, e4, e5, e6]
        refine ⟨b + 1 + 1 + 1, ⟨by omega, by omega, ys.set (nextV L (b + 1) ys.length).toNat (pickV [100000, -100000, 100001, 4611686018427387904, -9223372036854775808] L (b + 1 + 1)), by simp; omega, ?_⟩, rfl⟩
        rw [win_full (by simp)]
        simp only [AL, List.map_set]
      · simp only [go_sem, hid, hid', hk, hy', PB, hf]
        exact ⟨b + 1, ⟨by omega, by omega, ys, by omega, by rw [win_full (by simp)]⟩, rfl⟩

theorem need1 (j : Nat) (hj : j < 6) : ∃ p q : Int, -1 ≤ p ∧ p ≤ 4611686018427387904 ∧ 0 ≤ q ∧ q ≤ 101 ∧ [PV.agg [eI 1, eI 1], .agg [eI 4, eI 3], .agg [eI 1, eI 2], .agg [eI 0, eI 1], .agg [eI 100, eI 1], .agg [eI 1, eI 100]][j]? = some (.agg [eI p, eI q]) := by
  rcases j with _ | _ | _ | _ | _ | _ | j
  all_goals first | omega | exact ⟨_, _, by decide, by decide, by decide, by decide, rfl⟩
theorem need2 (j : Nat) (hj : j < 6) : ∃ p q : Int, -1 ≤ p ∧ p ≤ 4611686018427387904 ∧ 0 ≤ q ∧ q ≤ 101 ∧ [PV.agg [eI 2, eI 2], .agg [eI (-1), eI 1], .agg [eI 1, eI 0], .agg [eI 101, eI 1], .agg [eI 1, eI 101], .agg [eI 4611686018427387904, eI 1]][j]? = some (.agg [eI p, eI q]) := by
  rcases j with _ | _ | _ | _ | _ | _ | j
  all_goals first | omega | exact ⟨_, _, by decide, by decide, by decide, by decide, rfl⟩

theorem g_ANeed (hp : posN 60 a) : GenE f_scanmake_Stream_ANeed [] L a (fun v a2 => a ≤ a2 ∧ a2 ≤ a + 3 ∧ ∃ p q : Int, -1 ≤ p ∧ p ≤ 4611686018427387904 ∧ 0 ≤ q ∧ q ≤ 101 ∧ v = .p (.agg [eI p, eI q])) := by
  refine GenE.of fun h id hid => ?_
  rw [c_scanmake_Stream_ANeed rfl]
  have P := posAll (posN_le hp (Int.le_refl a) (by omega))
  obtain ⟨n1, n2⟩ := nextV_bd L a 6 (by omega) (by omega)
  obtain ⟨m1, m2⟩ := nextV_bd L (a + 1 + 1) 6 (by omega) (by omega)
  have e1 := natOf_int (k := .i64) n1
  have e2 := natOf_int (k := .i64) m1
  obtain ⟨p, q, b1, b2, b3, b4, e3⟩ := need1 (nextV L a 6).toNat (by omega)
  obtain ⟨p2, q2, d1, d2, d3, d4, e4⟩ := need2 (nextV L (a + 1 + 1) 6).toNat (by omega)
  by_cases hf : nextV L (a + 1) 12 = 0
  · simp only [d_scanmake_Stream_ANeed, go_sem, hid, P, e1, e2, e3, e4, hf]
    exact ⟨_, ⟨by omega, by omega, p2, q2, d1, d2, d3, d4, rfl⟩, rfl⟩
  · simp only [d_scanmake_Stream_ANeed, go_sem, hid, P, e1, e2, e3, e4, hf]
    exact ⟨_, ⟨by omega, by omega, p, q, b1, b2, b3, b4, rfl⟩, rfl⟩
end Go.Am
