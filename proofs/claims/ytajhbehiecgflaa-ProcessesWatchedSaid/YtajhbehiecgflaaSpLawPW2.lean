/- ProcessesWatched returns true: what is drawn. -/
import Derived.Test.YtajhbehiecgflaaSpLawPW
open Go
set_option linter.unusedSimpArgs false
namespace Go.Am
attribute [-go_sem] e_scanlaw2_ProcessesWatched_k4
theorem law_PW (L : List Int) {K : Post} : ACall X f_scanlaw2_ProcessesWatched [AL L] [] K = K (AB true) [] [] := by
  refine rule ?_
  rw [c_scanlaw2_ProcessesWatched rfl]
  have P0 := posAll (a := 0) (by unfold posN; omega)
  have hm1 := pickV_mem (L := L) (a := 0) (l := [0, 1, 2, 5, 12, 40]) (by simp) (by simp)
  simp only [List.mem_cons, List.not_mem_nil, or_false] at hm1
  obtain ⟨_, a1, ⟨b1, b2, vs, hvs, rfl⟩, V⟩ := (g_Values (L := L) (a := 0 + 1) (by unfold posN; omega) (pickV [0, 1, 2, 5, 12, 40] L 0) (by omega) (by omega)).hd (l := [])
  have P1 := posAll (a := a1) (by unfold posN; omega)
  obtain ⟨_, a2, ⟨b3, b4, p, q, hp1, hp2, hq1, hq2, rfl⟩, N⟩ := (g_ANeed (L := L) (a := a1 + 1 + 1) (by unfold posN; omega)).hd (l := [])
  obtain ⟨sz, a3, b5, b6, _, _, O⟩ := g_Odd (L := L) (a := a2) (by unfold posN; omega) 2 10 (by omega) (by omega) (by omega)
  have O' := fun K => O.hd (l := []) (K := K)
  have P3 := posAll (a := a3) (by unfold posN; omega)
  simp only [Int.zero_add] at V P0
  have key := fun size o0 K hK => law_k4 vs hvs (pickV [-30, 0, -100000, -100001] L a1) (pickV [10, 40, 100000, -40, 100001] L (a1 + 1)) p q size ⟨hp1, hp2⟩ ⟨hq1, hq2⟩ o0 K hK
  have e4 := @e_scanlaw2_ProcessesWatched_k4
  by_cases hf : nextV L a3 2 = 0
  · simp only [d_scanlaw2_ProcessesWatched, go_sem, P0, P1, P3, ↓V, V, ↓N, N, ↓O', O', hf]
    rw [e4]
    simp only [aget, Nat.reduceEqDiff, if_true, if_false]
    refine key _ _ _ (fun l => ?_)
    simp only [go_sem]
  · simp only [d_scanlaw2_ProcessesWatched, go_sem, P0, P1, P3, ↓V, V, ↓N, N, ↓O', O', hf]
    rw [e4]
    simp only [aget, Nat.reduceEqDiff, if_true, if_false]
    refine key _ _ _ (fun l => ?_)
    simp only [go_sem]
end Go.Am
