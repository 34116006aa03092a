/- ProcessesWatched returns true. -/
import Derived.Test.YtajhbehiecgflaaSpLotF
import Derived.Test.YtajhbehiecgflaaSpLotG
import Derived.Test.YtajhbehiecgflaaSpGenA
open Go
set_option linter.unusedSimpArgs false
namespace Go.Am
variable {h : Heap} {K : Post}

def signalsV (l : List Int) (size : Int) : AV := if chartFault l size = 0 then .tup [AL (sigs l size.toNat (kN l size.toNat)), AI 0] else .tup [AL [], AI (chartFault l size)]
theorem s_Signals (l : List Int) (size : Int) (hl : l.length ≤ 1000000000) : ACall X f_lot_Signals [AL l, AI size] h K = K (signalsV l size) h [] := by
  unfold signalsV
  by_cases hf : chartFault l size = 0
  · obtain ⟨hm, n, rfl, a1, a2, a3⟩ := chartFault_ok hf
    rw [if_pos hf]
    exact Signals_ok l hm n a1 a2 a3 hf
  · rw [if_neg hf]
    refine rule ?_
    rw [c_lot_Signals rfl]
    have vf := fun h K => s_chartFault (h := h) (K := K) l size hl
    simp only [d_lot_Signals, go_sem, ↓vf, vf, hf]
    rfl

theorem spread13 : spreadV [1, 3] = .tup [.p (.agg [eI 2, eI 1]), .p (.agg [eI 1, eI 1]), AI 0] := by kernel_rfl
theorem s_binned : ACall X f_scanlaw2_binned [] h K = K (AB true) h [] := by
  refine rule ?_
  rw [c_scanlaw2_binned rfl]
  have s1 := fun h K => s_Spread (h := h) (K := K) [1, 3] (by simp)
  rw [spread13] at s1
  simp only [AL, List.map_cons, List.map_nil] at s1
  simp only [d_scanlaw2_binned, go_sem, ↓s1, s1]


set_option maxHeartbeats 4000000 in
theorem law_k4 (vs : List Int) (hv : vs.length ≤ 40) (lo hi p q size : Int) (hp : -1 ≤ p ∧ p ≤ 4611686018427387904) (hq : 0 ≤ q ∧ q ≤ 101) (o0 : Obj) (K : Ex → St → Prop) (hK : ∀ l, K .ret ⟨[(2, AB true)], l, []⟩) :
    d_scanlaw2_ProcessesWatched_k4 (ACall X) X.gl p_scanlaw2_ProcessesWatched_k3 (AL vs) (AI lo) (AI hi) (.ref 1 0) (AI size) [o0, .box [AI p, AI q]] [] K := by
  have S1 := fun h K => s_Spread (h := h) (K := K) vs (by omega)
  have A1 := fun h K => s_Able (h := h) (K := K) vs (by omega) lo hi p q hp hq
  have C1 := fun h K => s_Chart (h := h) (K := K) vs size (by omega)
  have G1 := fun h K => s_Signals (h := h) (K := K) vs size (by omega)
  have MF := fun h K => s_MeasuresFault (h := h) (K := K) vs 1 (by omega)
  have AF := fun h K => s_AbleFault (h := h) (K := K) lo hi p q hp hq
  have EE := fun h K => s_errs (h := h) (K := K) [measFault vs 1, ableFault lo hi p q] (by simp)
  have SZ := fun h K => s_SizeFault (h := h) (K := K) vs size (by omega)
  have EQ := fun l (hl : l.length ≤ 1000000000) h K => s_EqualI (h := h) (K := K) l l hl
  simp only [AL, List.map_cons, List.map_nil, firstErr] at EE
  unfold spreadV at S1
  unfold ableV at A1
  unfold chartV at C1
  unfold signalsV at G1
  by_cases cf : chartFault vs size = 0
  · obtain ⟨cm, n, rfl, n1, n2, n3⟩ := chartFault_ok cf
    have C2 := fun h K => ChartOf_ok (h := h) (K := K) vs cm n n1 n2 n3
    have G2 := fun h K => SignalsIn_ok (h := h) (K := K) vs cm n n1 n2 n3
    have EQ' := fun h K => s_EqualI (h := h) (K := K) (sigs vs n (kN vs n)) (sigs vs n (kN vs n)) (by have := sigs_len vs n (kN vs n); have := Nat.div_le_self vs.length n; unfold kN at *; omega)
    simp only [cf, if_true, Int.toNat_natCast, chartP] at C1 G1 C2 SZ
    by_cases f1 : measFault vs 1 = 0
    · obtain ⟨hm, m1⟩ := measFault_ok f1
      have S2 := fun h K => s_SpreadOf (h := h) (K := K) vs hm (by omega)
      simp only [f1, if_true, fracP] at S1 A1 MF S2 EE
      by_cases af : ableFault lo hi p q = 0
      · obtain ⟨c1, c2, c3⟩ := ableFault_ok af
        have A2 := fun h K => s_AbleOf (h := h) (K := K) vs hm lo hi p q c1 c2 c3
        simp only [af, if_true] at A1 AF EE
        simp only [go_sem, ↓S1, S1, ↓A1, A1, ↓C1, C1, ↓G1, G1, ↓MF, MF, ↓AF, AF, ↓EE, EE, ↓SZ, SZ, ↓S2, S2, ↓A2, A2, ↓C2, C2, ↓G2, G2, ↓EQ', EQ', ↓s_binned, s_binned]
        exact hK _
      · simp only [af, if_false] at A1 AF EE
        simp only [go_sem, ↓S1, S1, ↓A1, A1, ↓C1, C1, ↓G1, G1, ↓MF, MF, ↓AF, AF, ↓EE, EE, ↓SZ, SZ, ↓S2, S2, ↓C2, C2, ↓G2, G2, ↓EQ', EQ', ↓s_binned, s_binned, af]
        exact hK _
    · simp only [f1, if_false, fracP] at S1 A1 MF EE
      simp only [go_sem, ↓S1, S1, ↓A1, A1, ↓C1, C1, ↓G1, G1, ↓MF, MF, ↓AF, AF, ↓EE, EE, ↓SZ, SZ, ↓C2, C2, ↓G2, G2, ↓EQ', EQ', ↓s_binned, s_binned, f1]
      exact hK _
  · have EQ' := fun h K => s_EqualI (h := h) (K := K) [] [] (by simp)
    simp only [AL, List.map_nil] at EQ'
    simp only [cf, if_false, noChart, AL, List.map_nil] at C1 G1
    by_cases f1 : measFault vs 1 = 0
    · obtain ⟨hm, m1⟩ := measFault_ok f1
      have S2 := fun h K => s_SpreadOf (h := h) (K := K) vs hm (by omega)
      simp only [f1, if_true, fracP] at S1 A1 MF S2 EE
      by_cases af : ableFault lo hi p q = 0
      · obtain ⟨c1, c2, c3⟩ := ableFault_ok af
        have A2 := fun h K => s_AbleOf (h := h) (K := K) vs hm lo hi p q c1 c2 c3
        simp only [af, if_true] at A1 AF EE
        simp only [go_sem, ↓S1, S1, ↓A1, A1, ↓C1, C1, ↓G1, G1, ↓MF, MF, ↓AF, AF, ↓EE, EE, ↓SZ, SZ, ↓S2, S2, ↓A2, A2, ↓EQ', EQ', ↓s_binned, s_binned, cf]
        exact hK _
      · simp only [af, if_false] at A1 AF EE
        simp only [go_sem, ↓S1, S1, ↓A1, A1, ↓C1, C1, ↓G1, G1, ↓MF, MF, ↓AF, AF, ↓EE, EE, ↓SZ, SZ, ↓S2, S2, ↓EQ', EQ', ↓s_binned, s_binned, af, cf]
        exact hK _
    · simp only [f1, if_false, fracP] at S1 A1 MF EE
      simp only [go_sem, ↓S1, S1, ↓A1, A1, ↓C1, C1, ↓G1, G1, ↓MF, MF, ↓AF, AF, ↓EE, EE, ↓SZ, SZ, ↓EQ', EQ', ↓s_binned, s_binned, f1, cf]
      exact hK _

end Go.Am
