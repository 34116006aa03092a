/- TopLotIsStation returns true at every input, and the input reads behind the call as it read before. Conditions: the listed package-level variables hold what the program's text lays in them (the card ties them to the text). -/
import Derived.Test.YtcfpflfpinmmmaaGreatDoorRows
import Derived.Test.YtcfpflfpinmmmaaGreatDoorlawTL8
import Derived.Test.YtcfpflfpinmmmaaGreatDoorTie
import Derived.Test.YtcfpflfpinmmmaaGreatDoorCards
import Derived.ProofKit
import Derived.Handy
import Derived.Lay
import Derived.SevenTiedAt
import Derived.Stop.LaidErr
import Derived.Ground.NamesProg
set_option linter.unusedVariables false
namespace Go.Proofs.YtcfpflfpinmmmaaGreatDoor
open Go.ChangeShapes Go.WideShapes Go.ChangeAt Go.RowKit

theorem own : ownKnob Tryz.prog.godebug = none := by kernel_rfl
theorem laidOut : laidOutB Tryz.prog = true := by kernel_rfl
theorem cellsInt : Tryz.prog.cellsOf 3 = 1 := by kernel_rfl
theorem allChecked : (Go.Am.fns.all fun p => Go.Am.fU Tryz.prog p.1 p.2) = true := by kernel_rfl
theorem ext1 : Go.Am.ExtRow Tryz.prog Go.Am.gG Go.Extern.BytealgIndexByte.indexByte := Go.Am.zme (by kernel_rfl) (by kernel_rfl)
theorem ext2 : Go.Am.ExtRow Tryz.prog Go.Am.iG Go.Extern.BytealgCompare.compare := Go.Am.zme (by kernel_rfl) (by kernel_rfl)
open Go.Shelf Go.ChangeShapes Go.WideShapes Go.ChangeAt Go.RowKit
def Tryz.trimL_ren : Go.Shelf.Ren := ⟨fun | 160 => 138 | 232 => 149 | 231 => 148 | 227 => 150 | 234 => 152 | 233 => 151 | 236 => 154 | 235 => 153 | 228 => 158 | 271 => 161 | 151 => 160 | 197 => 159 | 120 => 165 | 152 => 164 | 260 => 163 | 137 => 105 | 119 => 166 | 224 => 167 | 225 => 168 | 217 => 124 | 266 => 140 | n => n, fun | 9 => 9 | 4 => 4 | 3 => 3 | 5 => 5 | 117 => 199 | 116 => 198 | 0 => 0 | 124 => 202 | 21 => 21 | 105 => 207 | 46 => 166 | 119 => 214 | 139 => 217 | 138 => 216 | n => n, fun | 3 => 1 | 4 => 2 | n => n⟩
theorem Tryz.trimL : Go.Proofs.Lays.n160 Tryz.prog Tryz.trimL_ren := {
  mixed := by kernel_rfl
  f119 := Tryz.func166.trans (congrArg some (by kernel_rfl))
  f120 := Tryz.func165.trans (congrArg some (by kernel_rfl))
  f137 := Tryz.func105.trans (congrArg some (by kernel_rfl))
  f151 := Tryz.func160.trans (congrArg some (by kernel_rfl))
  f152 := Tryz.func164.trans (congrArg some (by kernel_rfl))
  f160 := Tryz.func138.trans (congrArg some (by kernel_rfl))
  f197 := Tryz.func159.trans (congrArg some (by kernel_rfl))
  f217 := Tryz.func124.trans (congrArg some (by kernel_rfl))
  f224 := Tryz.func167.trans (congrArg some (by kernel_rfl))
  f225 := Tryz.func168.trans (congrArg some (by kernel_rfl))
  f227 := Tryz.func150.trans (congrArg some (by kernel_rfl))
  f228 := Tryz.func158.trans (congrArg some (by kernel_rfl))
  f231 := Tryz.func148.trans (congrArg some (by kernel_rfl))
  f232 := Tryz.func149.trans (congrArg some (by kernel_rfl))
  f233 := Tryz.func151.trans (congrArg some (by kernel_rfl))
  f234 := Tryz.func152.trans (congrArg some (by kernel_rfl))
  f235 := Tryz.func153.trans (congrArg some (by kernel_rfl))
  f236 := Tryz.func154.trans (congrArg some (by kernel_rfl))
  f260 := Tryz.func163.trans (congrArg some (by kernel_rfl))
  f266 := Tryz.func140.trans (congrArg some (by kernel_rfl))
  f271 := Tryz.func161.trans (congrArg some (by kernel_rfl))
  t0 := Tryz.underlying0
  a0 := Tryz.isAgg0
  z0 := Tryz.sizeOf0
  v0 := Tryz.zeroValue0
  t3 := Tryz.underlying3
  a3 := Tryz.isAgg3
  z3 := Tryz.sizeOf3
  v3 := Tryz.zeroValue3
  t4 := Tryz.underlying4
  a4 := Tryz.isAgg4
  z4 := Tryz.sizeOf4
  v4 := Tryz.zeroValue4
  t5 := Tryz.underlying5
  a5 := Tryz.isAgg5
  z5 := Tryz.sizeOf5
  v5 := Tryz.zeroValue5
  t9 := Tryz.underlying9
  a9 := Tryz.isAgg9
  z9 := Tryz.sizeOf9
  v9 := Tryz.zeroValue9
  t21 := Tryz.underlying21
  a21 := Tryz.isAgg21
  z21 := Tryz.sizeOf21
  v21 := Tryz.zeroValue21
  t46 := Tryz.underlying166
  a46 := Tryz.isAgg166
  z46 := Tryz.sizeOf166
  v46 := Tryz.zeroValue166
  t105 := Tryz.underlying207
  a105 := Tryz.isAgg207
  z105 := Tryz.sizeOf207
  v105 := Tryz.zeroValue207
  t116 := Tryz.underlying198
  a116 := Tryz.isAgg198
  z116 := Tryz.sizeOf198
  t117 := Tryz.underlying199
  a117 := Tryz.isAgg199
  z117 := Tryz.sizeOf199
  v117 := Tryz.zeroValue199
  t119 := Tryz.underlying214
  a119 := Tryz.isAgg214
  z119 := Tryz.sizeOf214
  t124 := Tryz.underlying202
  a124 := Tryz.isAgg202
  z124 := Tryz.sizeOf202
  v124 := Tryz.zeroValue202
  t138 := Tryz.underlying216
  a138 := Tryz.isAgg216
  z138 := Tryz.sizeOf216
  v138 := Tryz.zeroValue216
  t139 := Tryz.underlying217
  a139 := Tryz.isAgg217
  z139 := Tryz.sizeOf217
  v139 := Tryz.zeroValue217
  g3 := by kernel_rfl
  g4 := by kernel_rfl }
theorem pureRow0 : Go.Am.PureRow Tryz.prog Go.Am.X.gl 138 Go.Am.trimS :=
  Go.Am.trimRow (ρ := Tryz.trimL_ren) Tryz.trimL (by kernel_rfl) (fun us w => Go.Am.zmd (by kernel_rfl) us w)
theorem allChecked0 : (Go.Am.fns0.all fun p => Go.Am.fU Tryz.prog p.1 p.2) = true := by kernel_rfl
theorem fits0 : Go.Am.Fits Tryz.prog Go.Am.X0 := ⟨by kernel_rfl, fun f F h => Go.Am.z3k (p := fun f F => Go.Am.fU Tryz.prog f F) Go.Am.fns0 allChecked0 f F h, fun f vs r _ h => Go.Am.extF_ok ext1 ext2 h, fun f us h v h1 x _ hx => Go.Am.libF_ok (gs := Go.Am.GRL) (ps := Go.Am.PRL0) (fun g s hm => by cases hm) (fun g s hm => by
      simp only [Go.Am.PRL0, List.mem_cons, List.not_mem_nil, or_false, Prod.mk.injEq] at hm
      obtain ⟨rfl, rfl⟩ := hm
      exact pureRow0) hx⟩
theorem pureRow1 : Go.Am.PureRow Tryz.prog Go.Am.X.gl 13 Go.Am.YZ :=
  Go.Am.zmh fits0 Go.Am.zmf (fun us w => Go.Am.zmd (by kernel_rfl) us w)
theorem fits : Go.Am.Fits Tryz.prog Go.Am.X := ⟨by kernel_rfl, fun f F h => Go.Am.z3k (p := fun f F => Go.Am.fU Tryz.prog f F) Go.Am.fns allChecked f F h, fun f vs r _ h => Go.Am.extF_ok ext1 ext2 h, fun f us h v h1 x _ hx => Go.Am.libF_ok (gs := Go.Am.GRL) (ps := Go.Am.PRL) (fun g s hm => by cases hm) (fun g s hm => by
      simp only [Go.Am.PRL, List.mem_cons, List.not_mem_nil, or_false, Prod.mk.injEq] at hm
      rcases hm with ⟨rfl, rfl⟩ | ⟨rfl, rfl⟩
      · exact pureRow0
      · exact pureRow1) hx⟩
theorem of_laid {W : World} (_ : laidMetH Tryz.prog Rows.topLotIsStationRow.laid W) : Go.Am.LD Go.Am.X.gl (Go.Am.imm [] [] W) := Go.Am.zmg

set_option maxRecDepth 100000 in
theorem law_lifted (os : Os) (started : os.Started) (H : Type) (enc : TypeId × Value → H) :
    ReturnsInHanded {} Tryz.checked os 3 .any (fun w args => (Rows.topLotIsStationSpec.pre enc Tryz.prog Tryz.f3 [] false w args ∧ laidMetH Tryz.prog Rows.topLotIsStationRow.laid w) ∧ sizedMet enc Tryz.prog Tryz.f3 (OpenSpec.ofChange Rows.topLotIsStationSpec) false w args)
      (Rows.topLotIsStationSpec.post enc Tryz.prog Tryz.f3 false true false false) := by
  refine returnsInHanded_of_change_and (C := Tryz.checked) (X := fun w _ => laidMetH Tryz.prog Rows.topLotIsStationRow.laid w) (fun _ _ _ hh h => h.of_heap hh) own started (by kernel_rfl) Tryz.func3
    (ChangeSpec.witness_shaped (enc := enc) (C := Tryz.checked) (os := os) (X := fun w _ => laidMetH Tryz.prog Rows.topLotIsStationRow.laid w) false (World.laidAll Tryz.prog os Rows.topLotIsStationRow.laid) #[.slice none 0 0] 8 (World.laidAll_os _ _ _)
      (World.shaped_of_ZipB (by kernel_rfl) (by kernel_rfl)) (by kernel_rfl) (by kernel_rfl) (by kernel_rfl)
      (by rw [MakeChecks.laidMetH_plain _ _ _ (by kernel_rfl)]; exact laidMet_laidAll _ (by kernel_rfl) (by kernel_rfl))) ?_
  intro W base args ds gs before hval0 hW _ _ hL _
  have hval : ∀ (j : Nat) t v, Tryz.f3.params[j]? = some t → args[j]? = some v → Value.okWide Tryz.prog W .any base t v := hval0
  have hW' := hW
  obtain ⟨p, q, hA0, hV, rfl, _, _⟩ := hW
  have hA : DataW.TrodAll enc Tryz.prog W 0 (fun _ => true) true Tryz.f3.params.toList args.toList ds p := hA0
  rw [Tryz.params3] at hA hval
  obtain ⟨v0, d0, rfl, rfl, h0⟩ := trodAll_one hA
  obtain ⟨rfl, rfl⟩ := trodVars_none hV
  have h0k := h0
  obtain ⟨fuel, hf⟩ := h0
  clear hA0 hval0
  simp only [List.append_nil] at hW'
  have hlt : ∀ x ∈ p, x.block < W.heap.size := fun x hx => by simpa using hW'.lt x hx
  have hG := of_laid hL
  have law : ∀ L : List Int, Go.Am.bA Go.Am.X 3 [Go.Am.IR L] [] fun v _ _ => v = .p (.bool true) := fun L => by
    have := Go.Am.law_TL L (K := fun v _ _ => v = .p (.bool true))
    exact this.symm ▸ rfl
  have key : Calls Tryz.prog 3 #[v0] W fun e W' => e = .returned (.bool true) ∧ Below W.heap.size W W' := by
    obtain ⟨a0, len, cap, rfl⟩ := okWide_slice Tryz.underlying22 (hval 0 22 v0 rfl rfl)
    rcases open_ints Tryz.underlying22 Tryz.underlying3 cellsInt hf with ⟨hcs, hx⟩ | ⟨a, len', cap', zs, hcs, _, hl, hm, hz, hx, hcell, hwz⟩
    · simp [Value.cells] at hcs
      obtain ⟨rfl, rfl, rfl⟩ := hcs
      exact Go.Am.law_nil fits Go.Am.zl6 law W hG
    · simp [Value.cells] at hcs
      obtain ⟨rfl, rfl, rfl⟩ := hcs
      have hzl : len ≤ zs.length := by rw [hz]; split <;> omega
      exact Go.Am.law_ints fits Go.Am.zl6 law hG hl hzl hcell
  refine key.mono fun e W' ⟨he, hb⟩ => ?_
  subst he
  have hargs : DataW.Trod enc Tryz.prog W' 0 (fun b => decide (b < W.heap.size)) true 22 v0 d0 p :=
    Below.trod laidOut (by kernel_rfl) (of_decide_eq_true (by kernel_rfl)) h0k hb hlt
  exact ⟨_, rfl, ⟨_, _, _, [], _, [], hW', trodAll_mk1 (shut_bool Tryz.underlying4 _), trodAll_mk1 hargs, rfl, hb.frame _, fun h => by cases h⟩⟩

theorem zNamed : Tryz.prog.funcNamed "scanchain/scantop.TopLotIsStation" = some 3 := by kernel_rfl
theorem zJoin : joinedFacts Tryz.pinned.checked.prog 3 Tryz.f3 Rows.topLotIsStationSpec Rows.topLotIsStationRow = true := by kernel_rfl
theorem zInst : Tryz.f3.isInstance Tryz.pinned.checked.prog Rows.topLotIsStationRow.origin Rows.topLotIsStationRow.targs := of_decide_eq_true (by kernel_rfl)
theorem zWrap : Tryz.f3.isWrapper Tryz.pinned.checked.prog Rows.topLotIsStationRow.wrapper Rows.topLotIsStationRow.mainSum := by unfold Func.isWrapper; rw [if_neg (by decide +kernel)]; exact ⟨rfl, rfl⟩
theorem topLotIsStation_holds : Rows.TopLotIsStationSaid :=
  OpenClaim.holds_of_wide 3 Tryz.f3 rfl rfl rfl rfl rfl rfl rfl ⟨rfl, rfl, rfl, rfl, rfl⟩ rfl rfl rfl rfl rfl zNamed Tryz.func3 zJoin zInst zWrap
    (fun os started H enc _ => law_lifted os started H enc)
theorem zText : Rows.topLotIsStationRow.wfByText (OpenSpec.ofChange Rows.topLotIsStationSpec) = true := by kernel_rfl
theorem zMain : Tryz.pinned.checked.prog.mainIs = some (true, "2b370238a244b9dd0ed81977c4ea0e83543efab71c2b7443d4c890c39956b4d7".toList) := by kernel_rfl
theorem zLooks : false = Tryz.pinned.checked.prog.looks [] := by kernel_rfl
theorem zStand : ([22].all fun u => !Tryz.prog.wantsStandIn u) = true := by kernel_rfl
theorem zGoes : false = Rows.topLotIsStationRow.goesBy Tryz.pinned.checked.prog := by kernel_rfl
theorem topLotIsStation_card_holds : Rows.TopLotIsStationCardSaid :=
  Claim7.holds_tied_plain_at .later [] [.data, .pinned] true (true, "2b370238a244b9dd0ed81977c4ea0e83543efab71c2b7443d4c890c39956b4d7") false topLotIsStation_holds (fun _ h => by cases h) zText (fun _ h => by cases h) topLotIsStation_row_tie rfl ⟨rfl, rfl⟩ zMain rfl
    (fun f fn hf hfn => by
      obtain rfl : f = 3 := Option.some.inj (zNamed.symm.trans hf) |>.symm
      obtain rfl : fn = Tryz.f3 := (Option.some.inj (Tryz.func3.symm.trans hfn)).symm
      exact ⟨zLooks, fun j t ht => by
        rw [Tryz.params3] at ht
        have hm : t ∈ [22] := by simpa using Array.mem_of_getElem? ht
        exact (show Tryz.prog.wantsStandIn t = false by simpa using List.all_eq_true.1 zStand t hm)⟩)
    zGoes

end Go.Proofs.YtcfpflfpinmmmaaGreatDoor
