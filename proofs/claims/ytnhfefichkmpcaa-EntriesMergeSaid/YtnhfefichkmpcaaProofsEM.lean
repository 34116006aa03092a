/- EntriesMerge returns true at every input, and the input reads behind the call as it read before. Conditions: none. -/
import Derived.Test.YtnhfefichkmpcaaRows
import Derived.Test.YtnhfefichkmpcaalawEM8
import Derived.ProofKit
import Derived.Shelf.Spec.SlicesGrow
set_option linter.unusedVariables false
namespace Go.Proofs.Ytnhfefichkmpcaa
open Go.ChangeShapes Go.WideShapes Go.ChangeAt Go.RowKit

theorem own : ownKnob Try.prog.godebug = none := by kernel_rfl
theorem laidOut : laidOutB Try.prog = true := by kernel_rfl
theorem cellsInt : Try.prog.cellsOf 3 = 1 := by kernel_rfl
theorem allChecked : (Go.Am.fns.all fun p => Go.Am.dS Try.prog p.1 p.2) = true := by kernel_rfl
theorem ext1 : Go.Am.ExtRow Try.prog Go.Am.CF Go.Extern.BytealgIndexByte.indexByte := Go.Am.zl5 (by kernel_rfl) (by kernel_rfl)
theorem ext2 : Go.Am.ExtRow Try.prog Go.Am.DF Go.Extern.BytealgCompare.compare := Go.Am.zl5 (by kernel_rfl) (by kernel_rfl)
end Go.Proofs.Ytnhfefichkmpcaa
namespace Go.Am
variable {P : Program}
/-- The kit's contract for slices.Grow gives the row. -/
theorem growRow_of {ρ : Go.Shelf.Ren} (L : Go.Proofs.Lays8.n4 P ρ) (i0 : TypeInfo) (z : Value) (sh : Sh) (hi0 : P.info? (ρ.t 25) = some i0) (hz0 : i0.zero = some z) (hs : i0.size = gA sh) (hs0 : 0 < i0.size) (hb : i0.bytes ≤ 1048576) (hz : z.cells.size = i0.size)
    (he : ∀ us w, (callFunc (ρ.f 4) us).run P w = .ok (.enter (ρ.f 4) us) w) : GrowRow P (ρ.f 4) sh where
  enter := he
  room a w := by
    have := Go.Proofs.Any8.slices_Grow_room L a 0 0 0 w (Nat.le_refl _) (by omega) (by omega) (by omega)
    exact this
  grow a n w h0 h1 := by
    have hbig : (0 + n) * i0.bytes ≤ 140737488355328 := by
      rw [Nat.zero_add]
      exact Nat.le_trans (Nat.mul_le_mul h1 hb) (by decide)
    refine (Go.Proofs.Any8.slices_Grow_grow L i0 z hi0 hz0 hs0 a 0 0 n [] w (Nat.le_refl _) (by omega) hbig (by omega) (by simp) (fun _ => rfl) (by simp)).mono fun e w' he => ?_
    obtain ⟨rfl, rfl⟩ := he
    refine ⟨_, _, _, rfl, ?_, rfl⟩
    have hge : 0 + n ≤ grownCap w (0 + n) 0 (ρ.t 25) := grownCap_ge w _ _ _
    simp only [Array.size_append, List.size_toArray, List.length_nil, size_zeroCells, hz, hs]
    rw [Nat.zero_add, ← Nat.right_distrib]
    congr 1
    omega
end Go.Am
namespace Go.Proofs.Ytnhfefichkmpcaa
open Go.Shelf Go.ChangeShapes Go.WideShapes Go.ChangeAt Go.RowKit
def Try.grow0_ren : Go.Shelf.Ren := ⟨fun | 4 => 62 | n => n, fun | 22 => 30 | 25 => 37 | 3 => 3 | 4 => 4 | 9 => 9 | 20 => 20 | 0 => 0 | n => n, fun | n => n⟩
theorem Try.grow0 : Go.Proofs.Lays8.n4 Try.prog Try.grow0_ren := {
  mixed := by kernel_rfl
  f4 := ⟨Try.f62.name, by decide, Try.func62.trans (congrArg some (by kernel_rfl))⟩
  t0 := Try.underlying0
  a0 := Try.isAgg0
  z0 := Try.sizeOf0
  v0 := Try.zeroValue0
  t3 := Try.underlying3
  a3 := Try.isAgg3
  z3 := Try.sizeOf3
  v3 := Try.zeroValue3
  t4 := Try.underlying4
  a4 := Try.isAgg4
  z4 := Try.sizeOf4
  v4 := Try.zeroValue4
  t9 := Try.underlying9
  a9 := Try.isAgg9
  z9 := Try.sizeOf9
  v9 := Try.zeroValue9
  t20 := Try.underlying20
  a20 := Try.isAgg20
  z20 := Try.sizeOf20
  v20 := Try.zeroValue20
  t22 := Try.underlying30
  a22 := Try.isAgg30
  z22 := Try.sizeOf30
  v22 := Try.zeroValue30 }
theorem growRow0 : Go.Am.GrowRow Try.prog 62 (some 8) :=
  Go.Am.growRow_of (ρ := Try.grow0_ren) Try.grow0 ((Try.prog.info? (Try.grow0_ren.t 25)).getD default) ((((Try.prog.info? (Try.grow0_ren.t 25)).getD default).zero).getD default) (some 8) (by kernel_rfl) (by kernel_rfl) (by kernel_rfl) (of_decide_eq_true (by kernel_rfl)) (of_decide_eq_true (by kernel_rfl)) (by kernel_rfl) (fun us w => Go.Am.zl4 (by kernel_rfl) us w)
def Try.grow1_ren : Go.Shelf.Ren := ⟨fun | 4 => 58 | n => n, fun | 22 => 26 | 25 => 9 | 3 => 3 | 4 => 4 | 9 => 9 | 20 => 20 | 0 => 0 | n => n, fun | n => n⟩
theorem Try.grow1 : Go.Proofs.Lays8.n4 Try.prog Try.grow1_ren := {
  mixed := by kernel_rfl
  f4 := ⟨Try.f58.name, by decide, Try.func58.trans (congrArg some (by kernel_rfl))⟩
  t0 := Try.underlying0
  a0 := Try.isAgg0
  z0 := Try.sizeOf0
  v0 := Try.zeroValue0
  t3 := Try.underlying3
  a3 := Try.isAgg3
  z3 := Try.sizeOf3
  v3 := Try.zeroValue3
  t4 := Try.underlying4
  a4 := Try.isAgg4
  z4 := Try.sizeOf4
  v4 := Try.zeroValue4
  t9 := Try.underlying9
  a9 := Try.isAgg9
  z9 := Try.sizeOf9
  v9 := Try.zeroValue9
  t20 := Try.underlying20
  a20 := Try.isAgg20
  z20 := Try.sizeOf20
  v20 := Try.zeroValue20
  t22 := Try.underlying26
  a22 := Try.isAgg26
  z22 := Try.sizeOf26
  v22 := Try.zeroValue26 }
theorem growRow1 : Go.Am.GrowRow Try.prog 58 none :=
  Go.Am.growRow_of (ρ := Try.grow1_ren) Try.grow1 ((Try.prog.info? (Try.grow1_ren.t 25)).getD default) ((((Try.prog.info? (Try.grow1_ren.t 25)).getD default).zero).getD default) none (by kernel_rfl) (by kernel_rfl) (by kernel_rfl) (of_decide_eq_true (by kernel_rfl)) (of_decide_eq_true (by kernel_rfl)) (by kernel_rfl) (fun us w => Go.Am.zl4 (by kernel_rfl) us w)
theorem allChecked0 : (Go.Am.fns0.all fun p => Go.Am.dS Try.prog p.1 p.2) = true := by kernel_rfl
theorem fits0 : Go.Am.Fits Try.prog Go.Am.X0 := ⟨by kernel_rfl, fun f F h => Go.Am.z1x (p := fun f F => Go.Am.dS Try.prog f F) Go.Am.fns0 allChecked0 f F h, fun f vs r _ h => Go.Am.extF_ok ext1 ext2 h, fun f us h v h1 x _ hx => Go.Am.libF_ok (gs := Go.Am.GRL) (ps := Go.Am.PRL0) (fun g s hm => by
      simp only [Go.Am.GRL, List.mem_cons, List.not_mem_nil, or_false, Prod.mk.injEq] at hm
      rcases hm with ⟨rfl, rfl⟩ | ⟨rfl, rfl⟩
      · exact growRow0
      · exact growRow1) (fun g s hm => by cases hm) hx⟩
theorem pureRow0 : Go.Am.PureRow Try.prog Go.Am.X.gl 26 Go.Am.RV :=
  Go.Am.zl7 fits0 Go.Am.zl8 (fun us w => Go.Am.zl4 (by kernel_rfl) us w)
theorem fits : Go.Am.Fits Try.prog Go.Am.X := ⟨by kernel_rfl, fun f F h => Go.Am.z1x (p := fun f F => Go.Am.dS Try.prog f F) Go.Am.fns allChecked f F h, fun f vs r _ h => Go.Am.extF_ok ext1 ext2 h, fun f us h v h1 x _ hx => Go.Am.libF_ok (gs := Go.Am.GRL) (ps := Go.Am.PRL) (fun g s hm => by
      simp only [Go.Am.GRL, List.mem_cons, List.not_mem_nil, or_false, Prod.mk.injEq] at hm
      rcases hm with ⟨rfl, rfl⟩ | ⟨rfl, rfl⟩
      · exact growRow0
      · exact growRow1) (fun g s hm => by
      simp only [Go.Am.PRL, List.mem_cons, List.not_mem_nil, or_false, Prod.mk.injEq] at hm
      obtain ⟨rfl, rfl⟩ := hm
      exact pureRow0) hx⟩

set_option maxRecDepth 100000 in
theorem law_lifted (os : Os) (started : os.Started) (H : Type) (enc : TypeId × Value → H) :
    ReturnsInHanded {} Try.checked os 3 .any (Rows.entriesMergeSpec.pre6 enc Try.prog Try.f3 Rows.entriesMergeRow.domain false) (Rows.entriesMergeSpec.post enc Try.prog Try.f3 false true false false) := by
  refine returnsInHanded_of_change (C := Try.checked) own started (by kernel_rfl) Try.func3
    (ChangeSpec.witness6 (enc := enc) (C := Try.checked) false ⟨#[], #[.slice none 0 0], []⟩ 8 (by kernel_rfl) (by kernel_rfl) (by kernel_rfl) (by kernel_rfl)) ?_
  intro W base args ds gs before hval0 hW _ _
  have hval : ∀ (j : Nat) t v, Try.f3.params[j]? = some t → args[j]? = some v → Value.okWide Try.prog W .any base t v := hval0
  have hW' := hW
  obtain ⟨p, q, hA0, hV, rfl, _, _⟩ := hW
  have hA : DataW.TrodAll enc Try.prog W 0 (fun _ => true) true Try.f3.params.toList args.toList ds p := hA0
  rw [Try.params3] at hA hval
  obtain ⟨v0, d0, rfl, rfl, h0⟩ := trodAll_one hA
  obtain ⟨rfl, rfl⟩ := trodVars_none hV
  have h0k := h0
  obtain ⟨fuel, hf⟩ := h0
  clear hA0 hval0
  simp only [List.append_nil] at hW'
  have hlt : ∀ x ∈ p, x.block < W.heap.size := fun x hx => by simpa using hW'.lt x hx
  have law : ∀ L : List Int, Go.Am.cA Go.Am.X 3 [Go.Am.eQ L] [] fun v _ _ => v = .p (.bool true) := fun L => by
    have := Go.Am.law_EM L (K := fun v _ _ => v = .p (.bool true))
    exact this.symm ▸ rfl
  have key : Calls Try.prog 3 #[v0] W fun e W' => e = .returned (.bool true) ∧ Below W.heap.size W W' := by
    obtain ⟨a0, len, cap, rfl⟩ := okWide_slice Try.underlying22 (hval 0 22 v0 rfl rfl)
    rcases open_ints Try.underlying22 Try.underlying3 cellsInt hf with ⟨hcs, hx⟩ | ⟨a, len', cap', zs, hcs, _, hl, hm, hz, hx, hcell, hwz⟩
    · simp [Value.cells] at hcs
      obtain ⟨rfl, rfl, rfl⟩ := hcs
      exact Go.Am.law_nil fits Go.Am.zk7 law W Go.Am.zl6
    · simp [Value.cells] at hcs
      obtain ⟨rfl, rfl, rfl⟩ := hcs
      have hzl : len ≤ zs.length := by rw [hz]; split <;> omega
      exact Go.Am.law_ints fits Go.Am.zk7 law Go.Am.zl6 hl hzl hcell
  refine key.mono fun e W' ⟨he, hb⟩ => ?_
  subst he
  have hargs : DataW.Trod enc Try.prog W' 0 (fun b => decide (b < W.heap.size)) true 22 v0 d0 p :=
    Below.trod laidOut (by kernel_rfl) (of_decide_eq_true (by kernel_rfl)) h0k hb hlt
  exact ⟨_, rfl, ⟨_, _, _, [], _, [], hW', trodAll_mk1 (shut_bool Try.underlying4 _), trodAll_mk1 hargs, rfl, hb.frame _, fun h => by cases h⟩⟩

theorem entriesMerge_holds : Rows.EntriesMergeSaid :=
  OpenClaim.holds_of_wide 3 Try.f3 rfl rfl rfl rfl rfl rfl rfl ⟨rfl, rfl, rfl, rfl, rfl⟩ rfl rfl rfl rfl rfl (by kernel_rfl) Try.func3 (by kernel_rfl)
    (of_decide_eq_true (by kernel_rfl)) (by unfold Func.isWrapper; rw [if_neg (by decide +kernel)]; exact ⟨rfl, rfl⟩)
    (fun os started H enc _ => law_lifted os started H enc)

end Go.Proofs.Ytnhfefichkmpcaa
