/- UndoneIsNothing returns true at every input, and the input reads behind the call as it read before. Conditions: the listed package-level variables hold what the program's text lays in them (the card ties them to the text). -/
import Derived.Test.YtklljiofechahaaGreatDoorRows
import Derived.Test.YtklljiofechahaaGreatDoorlawUN8
import Derived.Test.YtklljiofechahaaGreatDoorTie
import Derived.Test.YtklljiofechahaaGreatDoorCards
import Derived.ProofKit
import Derived.Handy
import Derived.Lay
import Derived.SevenTiedAt
import Derived.Stop.LaidErr
import Derived.Ground.NamesProg
set_option linter.unusedVariables false
namespace Go.Proofs.YtklljiofechahaaGreatDoor
open Go.ChangeShapes Go.WideShapes Go.ChangeAt Go.RowKit

theorem own : ownKnob Tryz.prog.godebug = none := by kernel_rfl
theorem laidOut : laidOutB Tryz.prog = true := by kernel_rfl
theorem cellsInt : Tryz.prog.cellsOf 3 = 1 := by kernel_rfl
theorem allChecked : (Go.Am.fns.all fun p => Go.Am.ziS Tryz.prog p.1 p.2) = true := by kernel_rfl
theorem ext1 : Go.Am.ExtRow Tryz.prog Go.Am.z0h Go.Extern.BytealgIndexByte.indexByte := Go.Am.extRow_of (by kernel_rfl) (by kernel_rfl)
theorem ext2 : Go.Am.ExtRow Tryz.prog Go.Am.z0g Go.Extern.BytealgCompare.compare := Go.Am.extRow_of (by kernel_rfl) (by kernel_rfl)
open Go.Shelf Go.ChangeShapes Go.WideShapes Go.ChangeAt Go.RowKit
def Tryz.trimL_ren : Go.Shelf.Ren := ⟨fun | 160 => 274 | 232 => 333 | 231 => 332 | 227 => 334 | 234 => 336 | 233 => 335 | 236 => 338 | 235 => 337 | 228 => 360 | 271 => 362 | 151 => 361 | 197 => 317 | 120 => 370 | 152 => 369 | 260 => 353 | 137 => 209 | 119 => 372 | 224 => 320 | 225 => 319 | 217 => 265 | 266 => 322 | n => n, fun | 9 => 9 | 4 => 4 | 3 => 3 | 5 => 5 | 117 => 370 | 116 => 369 | 0 => 0 | 124 => 373 | 21 => 21 | 105 => 354 | 46 => 238 | 119 => 397 | 139 => 400 | 138 => 399 | n => n, fun | 3 => 6 | 4 => 7 | n => n⟩
theorem Tryz.trimL : Go.Proofs.Lays.n160 Tryz.prog Tryz.trimL_ren := {
  mixed := by kernel_rfl
  f119 := Tryz.func372.trans (congrArg some (by kernel_rfl))
  f120 := Tryz.func370.trans (congrArg some (by kernel_rfl))
  f137 := Tryz.func209.trans (congrArg some (by kernel_rfl))
  f151 := Tryz.func361.trans (congrArg some (by kernel_rfl))
  f152 := Tryz.func369.trans (congrArg some (by kernel_rfl))
  f160 := Tryz.func274.trans (congrArg some (by kernel_rfl))
  f197 := Tryz.func317.trans (congrArg some (by kernel_rfl))
  f217 := Tryz.func265.trans (congrArg some (by kernel_rfl))
  f224 := Tryz.func320.trans (congrArg some (by kernel_rfl))
  f225 := Tryz.func319.trans (congrArg some (by kernel_rfl))
  f227 := Tryz.func334.trans (congrArg some (by kernel_rfl))
  f228 := Tryz.func360.trans (congrArg some (by kernel_rfl))
  f231 := Tryz.func332.trans (congrArg some (by kernel_rfl))
  f232 := Tryz.func333.trans (congrArg some (by kernel_rfl))
  f233 := Tryz.func335.trans (congrArg some (by kernel_rfl))
  f234 := Tryz.func336.trans (congrArg some (by kernel_rfl))
  f235 := Tryz.func337.trans (congrArg some (by kernel_rfl))
  f236 := Tryz.func338.trans (congrArg some (by kernel_rfl))
  f260 := Tryz.func353.trans (congrArg some (by kernel_rfl))
  f266 := Tryz.func322.trans (congrArg some (by kernel_rfl))
  f271 := Tryz.func362.trans (congrArg some (by kernel_rfl))
  t0 := Tryz.underlying0
  a0 := Tryz.isAgg0
  z0 := Tryz.sizeOf0
  v0 := Tryz.zeroValue0
  t3 := Tryz.underlying3
  a3 := Tryz.isAgg3
  z3 := Tryz.sizeOf3
  v3 := Tryz.zeroValue3
  t4 := Tryz.underlying4
  a4 := Tryz.isAgg4
  z4 := Tryz.sizeOf4
  v4 := Tryz.zeroValue4
  t5 := Tryz.underlying5
  a5 := Tryz.isAgg5
  z5 := Tryz.sizeOf5
  v5 := Tryz.zeroValue5
  t9 := Tryz.underlying9
  a9 := Tryz.isAgg9
  z9 := Tryz.sizeOf9
  v9 := Tryz.zeroValue9
  t21 := Tryz.underlying21
  a21 := Tryz.isAgg21
  z21 := Tryz.sizeOf21
  v21 := Tryz.zeroValue21
  t46 := Tryz.underlying238
  a46 := Tryz.isAgg238
  z46 := Tryz.sizeOf238
  v46 := Tryz.zeroValue238
  t105 := Tryz.underlying354
  a105 := Tryz.isAgg354
  z105 := Tryz.sizeOf354
  v105 := Tryz.zeroValue354
  t116 := Tryz.underlying369
  a116 := Tryz.isAgg369
  z116 := Tryz.sizeOf369
  t117 := Tryz.underlying370
  a117 := Tryz.isAgg370
  z117 := Tryz.sizeOf370
  v117 := Tryz.zeroValue370
  t119 := Tryz.underlying397
  a119 := Tryz.isAgg397
  z119 := Tryz.sizeOf397
  t124 := Tryz.underlying373
  a124 := Tryz.isAgg373
  z124 := Tryz.sizeOf373
  v124 := Tryz.zeroValue373
  t138 := Tryz.underlying399
  a138 := Tryz.isAgg399
  z138 := Tryz.sizeOf399
  v138 := Tryz.zeroValue399
  t139 := Tryz.underlying400
  a139 := Tryz.isAgg400
  z139 := Tryz.sizeOf400
  v139 := Tryz.zeroValue400
  g3 := by kernel_rfl
  g4 := by kernel_rfl }
theorem pureRow0 : Go.Am.PureRow Tryz.prog Go.Am.X.gl 274 Go.Am.trimS :=
  Go.Am.trimRow (ρ := Tryz.trimL_ren) Tryz.trimL (by kernel_rfl) (fun us w => Go.Am.zvl (by kernel_rfl) us w)
theorem allChecked0 : (Go.Am.fns0.all fun p => Go.Am.ziS Tryz.prog p.1 p.2) = true := by kernel_rfl
theorem fits0 : Go.Am.Fits Tryz.prog Go.Am.X0 := ⟨by kernel_rfl, fun f F h => Go.Am.zfa (p := fun f F => Go.Am.ziS Tryz.prog f F) Go.Am.fns0 allChecked0 f F h, fun f vs r _ h => Go.Am.extF_ok ext1 ext2 h, fun f us h v h1 x _ hx => Go.Am.libF_ok (gs := Go.Am.GRL) (ps := Go.Am.PRL0) (fun g s hm => by cases hm) (fun g s hm => by
      simp only [Go.Am.PRL0, List.mem_cons, List.not_mem_nil, or_false, Prod.mk.injEq] at hm
      obtain ⟨rfl, rfl⟩ := hm
      exact pureRow0) hx⟩
theorem pureRow1 : Go.Am.PureRow Tryz.prog Go.Am.X.gl 25 Go.Am.zvf :=
  Go.Am.zoK fits0 Go.Am.zvm (fun us w => Go.Am.zvl (by kernel_rfl) us w)
theorem fits : Go.Am.Fits Tryz.prog Go.Am.X := ⟨by kernel_rfl, fun f F h => Go.Am.zfa (p := fun f F => Go.Am.ziS Tryz.prog f F) Go.Am.fns allChecked f F h, fun f vs r _ h => Go.Am.extF_ok ext1 ext2 h, fun f us h v h1 x _ hx => Go.Am.libF_ok (gs := Go.Am.GRL) (ps := Go.Am.PRL) (fun g s hm => by cases hm) (fun g s hm => by
      simp only [Go.Am.PRL, List.mem_cons, List.not_mem_nil, or_false, Prod.mk.injEq] at hm
      rcases hm with ⟨rfl, rfl⟩ | ⟨rfl, rfl⟩
      · exact pureRow0
      · exact pureRow1) hx⟩
theorem of_laid {W : World} (_ : laidMetH Tryz.prog Rows.undoneIsNothingRow.laid W) : Go.Am.GInv Go.Am.X.gl (Go.Am.imm [] [] W) := Go.Am.ginv_none

set_option maxRecDepth 100000 in
theorem law_lifted (os : Os) (started : os.Started) (H : Type) (enc : TypeId × Value → H) :
    ReturnsInHanded {} Tryz.checked os 4 .any (fun w args => (Rows.undoneIsNothingSpec.pre enc Tryz.prog Tryz.f4 [] false w args ∧ laidMetH Tryz.prog Rows.undoneIsNothingRow.laid w) ∧ sizedMet enc Tryz.prog Tryz.f4 (OpenSpec.ofChange Rows.undoneIsNothingSpec) false w args)
      (Rows.undoneIsNothingSpec.post enc Tryz.prog Tryz.f4 false true false false) := by
  refine returnsInHanded_of_change_and (C := Tryz.checked) (X := fun w _ => laidMetH Tryz.prog Rows.undoneIsNothingRow.laid w) (fun _ _ _ hh h => h.of_heap hh) own started (by kernel_rfl) Tryz.func4
    (ChangeSpec.witness_shaped (enc := enc) (C := Tryz.checked) (os := os) (X := fun w _ => laidMetH Tryz.prog Rows.undoneIsNothingRow.laid w) false (World.laidAll Tryz.prog os Rows.undoneIsNothingRow.laid) #[.slice none 0 0] 8 (World.laidAll_os _ _ _)
      (World.shaped_of_ZipB (by kernel_rfl) (by kernel_rfl)) (by kernel_rfl) (by kernel_rfl) (by kernel_rfl)
      (by rw [MakeChecks.laidMetH_plain _ _ _ (by kernel_rfl)]; exact laidMet_laidAll _ (by kernel_rfl) (by kernel_rfl))) ?_
  intro W base args ds gs before hval0 hW _ _ hL _
  have hval : ∀ (j : Nat) t v, Tryz.f4.params[j]? = some t → args[j]? = some v → Value.okWide Tryz.prog W .any base t v := hval0
  have hW' := hW
  obtain ⟨p, q, hA0, hV, rfl, _, _⟩ := hW
  have hA : DataW.TrodAll enc Tryz.prog W 0 (fun _ => true) true Tryz.f4.params.toList args.toList ds p := hA0
  rw [Tryz.params4] at hA hval
  obtain ⟨v0, d0, rfl, rfl, h0⟩ := trodAll_one hA
  obtain ⟨rfl, rfl⟩ := trodVars_none hV
  have h0k := h0
  obtain ⟨fuel, hf⟩ := h0
  clear hA0 hval0
  simp only [List.append_nil] at hW'
  have hlt : ∀ x ∈ p, x.block < W.heap.size := fun x hx => by simpa using hW'.lt x hx
  have hG := of_laid hL
  have law : ∀ L : List Int, Go.Am.z0c Go.Am.X 4 [Go.Am.zqy L] [] fun v _ _ => v = .p (.bool true) := fun L => by
    have := Go.Am.law_UN L (K := fun v _ _ => v = .p (.bool true))
    exact this.symm ▸ rfl
  have key : Calls Tryz.prog 4 #[v0] W fun e W' => e = .returned (.bool true) ∧ Below W.heap.size W W' := by
    obtain ⟨a0, len, cap, rfl⟩ := okWide_slice Tryz.underlying22 (hval 0 22 v0 rfl rfl)
    rcases open_ints Tryz.underlying22 Tryz.underlying3 cellsInt hf with ⟨hcs, hx⟩ | ⟨a, len', cap', zs, hcs, _, hl, hm, hz, hx, hcell, hwz⟩
    · simp [Value.cells] at hcs
      obtain ⟨rfl, rfl, rfl⟩ := hcs
      exact Go.Am.law_nil fits Go.Am.x_q02v law W hG
    · simp [Value.cells] at hcs
      obtain ⟨rfl, rfl, rfl⟩ := hcs
      have hzl : len ≤ zs.length := by rw [hz]; split <;> omega
      exact Go.Am.law_ints fits Go.Am.x_q02v law hG hl hzl hcell
  refine key.mono fun e W' ⟨he, hb⟩ => ?_
  subst he
  have hargs : DataW.Trod enc Tryz.prog W' 0 (fun b => decide (b < W.heap.size)) true 22 v0 d0 p :=
    Below.trod laidOut (by kernel_rfl) (of_decide_eq_true (by kernel_rfl)) h0k hb hlt
  exact ⟨_, rfl, ⟨_, _, _, [], _, [], hW', trodAll_mk1 (shut_bool Tryz.underlying4 _), trodAll_mk1 hargs, rfl, hb.frame _, fun h => by cases h⟩⟩

theorem zNamed : Tryz.prog.funcNamed "scanchain/scankeep2.UndoneIsNothing" = some 4 := by kernel_rfl
theorem zJoin : joinedFacts Tryz.pinned.checked.prog 4 Tryz.f4 Rows.undoneIsNothingSpec Rows.undoneIsNothingRow = true := by kernel_rfl
theorem zInst : Tryz.f4.isInstance Tryz.pinned.checked.prog Rows.undoneIsNothingRow.origin Rows.undoneIsNothingRow.targs := of_decide_eq_true (by kernel_rfl)
theorem zWrap : Tryz.f4.isWrapper Tryz.pinned.checked.prog Rows.undoneIsNothingRow.wrapper Rows.undoneIsNothingRow.mainSum := by unfold Func.isWrapper; rw [if_neg (by decide +kernel)]; exact ⟨rfl, rfl⟩
theorem undoneIsNothing_holds : Rows.UndoneIsNothingSaid :=
  OpenClaim.holds_of_wide 4 Tryz.f4 rfl rfl rfl rfl rfl rfl rfl ⟨rfl, rfl, rfl, rfl, rfl⟩ rfl rfl rfl rfl rfl zNamed Tryz.func4 zJoin zInst zWrap
    (fun os started H enc _ => law_lifted os started H enc)
theorem zText : Rows.undoneIsNothingRow.wfByText (OpenSpec.ofChange Rows.undoneIsNothingSpec) = true := by kernel_rfl
theorem zMain : Tryz.pinned.checked.prog.mainIs = some (true, "a29c9b36726a8570161b97bb9f3f0da3d4d08bebb0297b9e2477692a01d26730".toList) := by kernel_rfl
theorem zLooks : true = Tryz.pinned.checked.prog.looks [] := by kernel_rfl
theorem zStand : ([22].all fun u => !Tryz.prog.wantsStandIn u) = true := by kernel_rfl
theorem zGoes : false = Rows.undoneIsNothingRow.goesBy Tryz.pinned.checked.prog := by kernel_rfl
theorem undoneIsNothing_card_holds : Rows.UndoneIsNothingCardSaid :=
  Claim7.holds_tied_plain_at .later [] [.data, .pinned] true (true, "a29c9b36726a8570161b97bb9f3f0da3d4d08bebb0297b9e2477692a01d26730") true undoneIsNothing_holds (fun _ h => by cases h) zText (fun _ h => by cases h) undoneIsNothing_row_tie rfl ⟨rfl, rfl⟩ zMain rfl
    (fun f fn hf hfn => by
      obtain rfl : f = 4 := Option.some.inj (zNamed.symm.trans hf) |>.symm
      obtain rfl : fn = Tryz.f4 := (Option.some.inj (Tryz.func4.symm.trans hfn)).symm
      exact ⟨zLooks, fun j t ht => by
        rw [Tryz.params4] at ht
        have hm : t ∈ [22] := by simpa using Array.mem_of_getElem? ht
        exact (show Tryz.prog.wantsStandIn t = false by simpa using List.all_eq_true.1 zStand t hm)⟩)
    zGoes

end Go.Proofs.YtklljiofechahaaGreatDoor
