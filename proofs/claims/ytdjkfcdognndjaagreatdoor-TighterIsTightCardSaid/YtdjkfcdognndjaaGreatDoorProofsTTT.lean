/- TighterIsTight returns true at every input, and the input reads behind the call as it read before. Conditions: the listed package-level variables hold what the program's text lays in them (the card ties them to the text). -/
import Derived.Test.YtdjkfcdognndjaaGreatDoorRows
import Derived.Test.YtdjkfcdognndjaaGreatDoorlawTT8
import Derived.Test.YtdjkfcdognndjaaGreatDoorTie
import Derived.Test.YtdjkfcdognndjaaGreatDoorCards
import Derived.ProofKit
import Derived.Handy
import Derived.Lay
import Derived.SevenTiedAt
import Derived.Stop.LaidErr
set_option linter.unusedVariables false
namespace Go.Proofs.YtdjkfcdognndjaaGreatDoor
open Go.ChangeShapes Go.WideShapes Go.ChangeAt Go.RowKit

theorem own : ownKnob Tryz.prog.godebug = none := by kernel_rfl
theorem laidOut : laidOutB Tryz.prog = true := by kernel_rfl
theorem cellsInt : Tryz.prog.cellsOf 3 = 1 := by kernel_rfl
theorem allChecked : (Go.Am.fns.all fun p => Go.Am.chkFun Tryz.prog p.1 p.2) = true := by kernel_rfl
theorem ext1 : Go.Am.ExtRow Tryz.prog Go.Am.f_internal_bytealg_IndexByteString Go.Extern.BytealgIndexByte.indexByte := Go.Am.extRow_of (by kernel_rfl) (by kernel_rfl)
theorem ext2 : Go.Am.ExtRow Tryz.prog Go.Am.f_internal_bytealg_abigen_runtime_cmpstring Go.Extern.BytealgCompare.compare := Go.Am.extRow_of (by kernel_rfl) (by kernel_rfl)
theorem allChecked0 : (Go.Am.fns0.all fun p => Go.Am.chkFun Tryz.prog p.1 p.2) = true := by kernel_rfl
theorem fits0 : Go.Am.Fits Tryz.prog Go.Am.X0 := ⟨by kernel_rfl, fun f F h => Go.Am.fnOf_all (p := fun f F => Go.Am.chkFun Tryz.prog f F) Go.Am.fns0 allChecked0 f F h, fun f vs r _ h => Go.Am.extF_ok ext1 ext2 h, fun f us h v h1 x _ hx => Go.Am.libF_ok (gs := Go.Am.GRL) (ps := Go.Am.PRL0) (fun g s hm => by cases hm) (fun g s hm => by cases hm) hx⟩
theorem pureRow0 : Go.Am.PureRow Tryz.prog Go.Am.X.gl 15 Go.Am.trueS :=
  Go.Am.pureRow_closed fits0 Go.Am.ready_true (fun us w => Go.Am.enters_chk (by kernel_rfl) us w)
theorem fits : Go.Am.Fits Tryz.prog Go.Am.X := ⟨by kernel_rfl, fun f F h => Go.Am.fnOf_all (p := fun f F => Go.Am.chkFun Tryz.prog f F) Go.Am.fns allChecked f F h, fun f vs r _ h => Go.Am.extF_ok ext1 ext2 h, fun f us h v h1 x _ hx => Go.Am.libF_ok (gs := Go.Am.GRL) (ps := Go.Am.PRL) (fun g s hm => by cases hm) (fun g s hm => by
      simp only [Go.Am.PRL, List.mem_cons, List.not_mem_nil, or_false, Prod.mk.injEq] at hm
      obtain ⟨rfl, rfl⟩ := hm
      exact pureRow0) hx⟩
theorem of_laid {W : World} (_ : laidMetH Tryz.prog Rows.tighterIsTightRow.laid W) : Go.Am.GInv Go.Am.X.gl (Go.Am.imm [] [] W) := Go.Am.ginv_none

set_option maxRecDepth 100000 in
theorem law_lifted (os : Os) (started : os.Started) (H : Type) (enc : TypeId × Value → H) :
    ReturnsInHanded {} Tryz.checked os 6 .any (fun w args => (Rows.tighterIsTightSpec.pre enc Tryz.prog Tryz.f6 [] false w args ∧ laidMetH Tryz.prog Rows.tighterIsTightRow.laid w) ∧ sizedMet enc Tryz.prog Tryz.f6 (OpenSpec.ofChange Rows.tighterIsTightSpec) false w args)
      (Rows.tighterIsTightSpec.post enc Tryz.prog Tryz.f6 false true false false) := by
  refine returnsInHanded_of_change_and (C := Tryz.checked) (X := fun w _ => laidMetH Tryz.prog Rows.tighterIsTightRow.laid w) (fun _ _ _ hh h => h.of_heap hh) own started (by kernel_rfl) Tryz.func6
    (ChangeSpec.witness_shaped (enc := enc) (C := Tryz.checked) (os := os) (X := fun w _ => laidMetH Tryz.prog Rows.tighterIsTightRow.laid w) false (World.laidAll Tryz.prog os Rows.tighterIsTightRow.laid) #[.slice none 0 0] 8 (World.laidAll_os _ _ _)
      (World.shaped_of_ZipB (by kernel_rfl) (by kernel_rfl)) (by kernel_rfl) (by kernel_rfl) (by kernel_rfl)
      (by rw [MakeChecks.laidMetH_plain _ _ _ (by kernel_rfl)]; exact laidMet_laidAll _ (by kernel_rfl) (by kernel_rfl))) ?_
  intro W base args ds gs before hval0 hW _ _ hL _
  have hval : ∀ (j : Nat) t v, Tryz.f6.params[j]? = some t → args[j]? = some v → Value.okWide Tryz.prog W .any base t v := hval0
  have hW' := hW
  obtain ⟨p, q, hA0, hV, rfl, _, _⟩ := hW
  have hA : DataW.TrodAll enc Tryz.prog W 0 (fun _ => true) true Tryz.f6.params.toList args.toList ds p := hA0
  rw [Tryz.params6] at hA hval
  obtain ⟨v0, d0, rfl, rfl, h0⟩ := trodAll_one hA
  obtain ⟨rfl, rfl⟩ := trodVars_none hV
  have h0k := h0
  obtain ⟨fuel, hf⟩ := h0
  clear hA0 hval0
  simp only [List.append_nil] at hW'
  have hlt : ∀ x ∈ p, x.block < W.heap.size := fun x hx => by simpa using hW'.lt x hx
  have hG := of_laid hL
  have law : ∀ L : List Int, Go.Am.ACall Go.Am.X 6 [Go.Am.pints L] [] fun v _ _ => v = .p (.bool true) := fun L => by
    have := Go.Am.law_TT L (K := fun v _ _ => v = .p (.bool true))
    exact this.symm ▸ rfl
  have key : Calls Tryz.prog 6 #[v0] W fun e W' => e = .returned (.bool true) ∧ Below W.heap.size W W' := by
    obtain ⟨a0, len, cap, rfl⟩ := okWide_slice Tryz.underlying22 (hval 0 22 v0 rfl rfl)
    rcases open_ints Tryz.underlying22 Tryz.underlying3 cellsInt hf with ⟨hcs, hx⟩ | ⟨a, len', cap', zs, hcs, _, hl, hm, hz, hx, hcell, hwz⟩
    · simp [Value.cells] at hcs
      obtain ⟨rfl, rfl, rfl⟩ := hcs
      exact Go.Am.law_nil fits Go.Am.x_q03k law W hG
    · simp [Value.cells] at hcs
      obtain ⟨rfl, rfl, rfl⟩ := hcs
      have hzl : len ≤ zs.length := by rw [hz]; split <;> omega
      exact Go.Am.law_ints fits Go.Am.x_q03k law hG hl hzl hcell
  refine key.mono fun e W' ⟨he, hb⟩ => ?_
  subst he
  have hargs : DataW.Trod enc Tryz.prog W' 0 (fun b => decide (b < W.heap.size)) true 22 v0 d0 p :=
    Below.trod laidOut (by kernel_rfl) (of_decide_eq_true (by kernel_rfl)) h0k hb hlt
  exact ⟨_, rfl, ⟨_, _, _, [], _, [], hW', trodAll_mk1 (shut_bool Tryz.underlying4 _), trodAll_mk1 hargs, rfl, hb.frame _, fun h => by cases h⟩⟩

theorem zNamed : Tryz.prog.funcNamed "scanchain/scankeep2.TighterIsTight" = some 6 := by kernel_rfl
theorem zJoin : joinedFacts Tryz.pinned.checked.prog 6 Tryz.f6 Rows.tighterIsTightSpec Rows.tighterIsTightRow = true := by kernel_rfl
theorem zInst : Tryz.f6.isInstance Tryz.pinned.checked.prog Rows.tighterIsTightRow.origin Rows.tighterIsTightRow.targs := of_decide_eq_true (by kernel_rfl)
theorem zWrap : Tryz.f6.isWrapper Tryz.pinned.checked.prog Rows.tighterIsTightRow.wrapper Rows.tighterIsTightRow.mainSum := by unfold Func.isWrapper; rw [if_neg (by decide +kernel)]; exact ⟨rfl, rfl⟩
theorem tighterIsTight_holds : Rows.TighterIsTightSaid :=
  OpenClaim.holds_of_wide 6 Tryz.f6 rfl rfl rfl rfl rfl rfl rfl ⟨rfl, rfl, rfl, rfl, rfl⟩ rfl rfl rfl rfl rfl zNamed Tryz.func6 zJoin zInst zWrap
    (fun os started H enc _ => law_lifted os started H enc)
theorem zText : Rows.tighterIsTightRow.wfByText (OpenSpec.ofChange Rows.tighterIsTightSpec) = true := by kernel_rfl
theorem zMain : Tryz.pinned.checked.prog.mainIs = some (true, "96a35c81a2d94282b8eb20dc71480946b99b398fda04ec45baaa1f2fa1bc80e8".toList) := by kernel_rfl
theorem zLooks : true = Tryz.pinned.checked.prog.looks [] := by kernel_rfl
theorem zStand : ([22].all fun u => !Tryz.prog.wantsStandIn u) = true := by kernel_rfl
theorem zGoes : false = Rows.tighterIsTightRow.goesBy Tryz.pinned.checked.prog := by kernel_rfl
theorem tighterIsTight_card_holds : Rows.TighterIsTightCardSaid :=
  Claim7.holds_tied_plain_at .later [] [.data, .pinned] true (true, "96a35c81a2d94282b8eb20dc71480946b99b398fda04ec45baaa1f2fa1bc80e8") true tighterIsTight_holds (fun _ h => by cases h) zText (fun _ h => by cases h) tighterIsTight_row_tie rfl ⟨rfl, rfl⟩ zMain rfl
    (fun f fn hf hfn => by
      obtain rfl : f = 6 := Option.some.inj (zNamed.symm.trans hf) |>.symm
      obtain rfl : fn = Tryz.f6 := (Option.some.inj (Tryz.func6.symm.trans hfn)).symm
      exact ⟨zLooks, fun j t ht => by
        rw [Tryz.params6] at ht
        have hm : t ∈ [22] := by simpa using Array.mem_of_getElem? ht
        exact (show Tryz.prog.wantsStandIn t = false by simpa using List.all_eq_true.1 zStand t hm)⟩)
    zGoes

end Go.Proofs.YtdjkfcdognndjaaGreatDoor
