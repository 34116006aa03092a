/- ReducedIsEnough returns true at every input, and the input reads behind the call as it read before. Conditions: the listed package-level variables hold what the program's text lays in them (the card ties them to the text). -/
import Derived.Test.YtahgfbhabpiplaaGreatDoorRows
import Derived.Test.YtahgfbhabpiplaaGreatDoorlawRE8
import Derived.Test.YtahgfbhabpiplaaGreatDoorlawREset
import Derived.Test.YtahgfbhabpiplaaGreatDoorTie
import Derived.Test.YtahgfbhabpiplaaGreatDoorCards
import Derived.ProofKit
import Derived.Handy
import Derived.Lay
import Derived.SevenTiedAt
import Derived.Stop.LaidErr
import Derived.Ground.NamesProg
set_option linter.unusedVariables false
namespace Go.Proofs.YtahgfbhabpiplaaGreatDoor
open Go.ChangeShapes Go.WideShapes Go.ChangeAt Go.RowKit

theorem own : ownKnob Tryz.prog.godebug = none := by kernel_rfl
theorem laidOut : laidOutB Tryz.prog = true := by kernel_rfl
theorem cellsInt : Tryz.prog.cellsOf 3 = 1 := by kernel_rfl
theorem allChecked : (Go.Am.fns.all fun p => Go.Am.MR Tryz.prog p.1 p.2) = true := by kernel_rfl
theorem ext1 : Go.Am.ExtRow Tryz.prog Go.Am.CF Go.Extern.BytealgIndexByte.indexByte := Go.Am.zl0 (by kernel_rfl) (by kernel_rfl)
theorem ext2 : Go.Am.ExtRow Tryz.prog Go.Am.xN Go.Extern.BytealgCompare.compare := Go.Am.zl0 (by kernel_rfl) (by kernel_rfl)
open Go.Shelf Go.ChangeShapes Go.WideShapes Go.ChangeAt Go.RowKit
def Tryz.repL_ren : Go.Shelf.Ren := ⟨fun | 105 => 53 | 212 => 103 | 99 => 104 | 165 => 105 | 166 => 106 | 170 => 107 | 169 => 108 | 263 => 155 | 264 => 156 | 206 => 157 | 240 => 158 | 241 => 159 | 276 => 187 | 277 => 188 | n => n, fun | 9 => 9 | 3 => 3 | 4 => 4 | 20 => 20 | 0 => 0 | 46 => 134 | 109 => 135 | 5 => 5 | 72 => 140 | 76 => 144 | 51 => 200 | 146 => 201 | 53 => 73 | 148 => 203 | 70 => 138 | 37 => 79 | 75 => 143 | 127 => 205 | 164 => 236 | 80 => 147 | n => n, fun | n => n⟩
theorem Tryz.repL : Go.Proofs.Lays.n105 Tryz.prog Tryz.repL_ren := {
  mixed := by kernel_rfl
  f99 := Tryz.func104.trans (congrArg some (by kernel_rfl))
  f105 := Tryz.func53.trans (congrArg some (by kernel_rfl))
  f165 := Tryz.func105.trans (congrArg some (by kernel_rfl))
  f166 := Tryz.func106.trans (congrArg some (by kernel_rfl))
  f169 := Tryz.func108.trans (congrArg some (by kernel_rfl))
  f170 := Tryz.func107.trans (congrArg some (by kernel_rfl))
  f206 := Tryz.func157.trans (congrArg some (by kernel_rfl))
  f212 := Tryz.func103.trans (congrArg some (by kernel_rfl))
  f240 := Tryz.func158.trans (congrArg some (by kernel_rfl))
  f241 := Tryz.func159.trans (congrArg some (by kernel_rfl))
  f263 := Tryz.func155.trans (congrArg some (by kernel_rfl))
  f264 := Tryz.func156.trans (congrArg some (by kernel_rfl))
  f276 := Tryz.func187.trans (congrArg some (by kernel_rfl))
  f277 := Tryz.func188.trans (congrArg some (by kernel_rfl))
  t0 := Tryz.underlying0
  a0 := Tryz.isAgg0
  z0 := Tryz.sizeOf0
  v0 := Tryz.zeroValue0
  t3 := Tryz.underlying3
  a3 := Tryz.isAgg3
  z3 := Tryz.sizeOf3
  v3 := Tryz.zeroValue3
  t4 := Tryz.underlying4
  a4 := Tryz.isAgg4
  z4 := Tryz.sizeOf4
  v4 := Tryz.zeroValue4
  t5 := Tryz.underlying5
  a5 := Tryz.isAgg5
  z5 := Tryz.sizeOf5
  v5 := Tryz.zeroValue5
  t9 := Tryz.underlying9
  a9 := Tryz.isAgg9
  z9 := Tryz.sizeOf9
  v9 := Tryz.zeroValue9
  t20 := Tryz.underlying20
  a20 := Tryz.isAgg20
  z20 := Tryz.sizeOf20
  v20 := Tryz.zeroValue20
  t37 := Tryz.underlying79
  a37 := Tryz.isAgg79
  z37 := Tryz.sizeOf79
  v37 := Tryz.zeroValue79
  t46 := Tryz.underlying134
  a46 := Tryz.isAgg134
  z46 := Tryz.sizeOf134
  v46 := Tryz.zeroValue134
  t51 := Tryz.underlying200
  a51 := Tryz.isAgg200
  z51 := Tryz.sizeOf200
  v51 := Tryz.zeroValue200
  t53 := Tryz.underlying73
  a53 := Tryz.isAgg73
  z53 := Tryz.sizeOf73
  v53 := Tryz.zeroValue73
  t70 := Tryz.underlying138
  a70 := Tryz.isAgg138
  z70 := Tryz.sizeOf138
  v70 := Tryz.zeroValue138
  t72 := Tryz.underlying140
  a72 := Tryz.isAgg140
  z72 := Tryz.sizeOf140
  v72 := Tryz.zeroValue140
  t75 := Tryz.underlying143
  a75 := Tryz.isAgg143
  z75 := Tryz.sizeOf143
  v75 := Tryz.zeroValue143
  t76 := Tryz.underlying144
  a76 := Tryz.isAgg144
  z76 := Tryz.sizeOf144
  v76 := Tryz.zeroValue144
  t109 := Tryz.underlying135
  a109 := Tryz.isAgg135
  z109 := Tryz.sizeOf135
  v109 := Tryz.zeroValue135
  t127 := Tryz.underlying205
  a127 := Tryz.isAgg205
  z127 := Tryz.sizeOf205
  v127 := Tryz.zeroValue205
  t146 := Tryz.underlying201
  a146 := Tryz.isAgg201
  z146 := Tryz.sizeOf201
  v146 := Tryz.zeroValue201
  t148 := Tryz.underlying203
  a148 := Tryz.isAgg203
  z148 := Tryz.sizeOf203
  v148 := Tryz.zeroValue203
  t164 := Tryz.underlying236
  a164 := Tryz.isAgg236
  z164 := Tryz.sizeOf236
  v164 := Tryz.zeroValue236 }
theorem pureRow0 : Go.Am.PureRow Tryz.prog Go.Am.X.gl 53 Go.Am.fJ :=
  Go.Am.zl4 (ρ := Tryz.repL_ren) Tryz.repL { sizeBuilder := by kernel_rfl, liesBuilder := by kernel_rfl, t5 := Tryz.underlying5, a5 := Tryz.isAgg5, z5 := Tryz.sizeOf5, v5 := Tryz.zeroValue5, infoByte := by kernel_rfl, cellsByte := by kernel_rfl, sizeByte := by kernel_rfl, neB5 := by decide } (fun us w => Go.Am.zlz (by kernel_rfl) us w)
def Tryz.trimL_ren : Go.Shelf.Ren := ⟨fun | 160 => 189 | 232 => 225 | 231 => 224 | 227 => 226 | 234 => 228 | 233 => 227 | 236 => 230 | 235 => 229 | 228 => 251 | 271 => 254 | 151 => 253 | 197 => 252 | 120 => 267 | 152 => 266 | 260 => 265 | 137 => 199 | 119 => 272 | 224 => 273 | 225 => 274 | 217 => 235 | 266 => 256 | n => n, fun | 9 => 9 | 4 => 4 | 3 => 3 | 5 => 5 | 117 => 276 | 116 => 275 | 0 => 0 | 124 => 279 | 21 => 21 | 105 => 302 | 46 => 134 | 119 => 315 | 139 => 318 | 138 => 317 | n => n, fun | 3 => 4 | 4 => 5 | n => n⟩
theorem Tryz.trimL : Go.Proofs.Lays.n160 Tryz.prog Tryz.trimL_ren := {
  mixed := by kernel_rfl
  f119 := Tryz.func272.trans (congrArg some (by kernel_rfl))
  f120 := Tryz.func267.trans (congrArg some (by kernel_rfl))
  f137 := Tryz.func199.trans (congrArg some (by kernel_rfl))
  f151 := Tryz.func253.trans (congrArg some (by kernel_rfl))
  f152 := Tryz.func266.trans (congrArg some (by kernel_rfl))
  f160 := Tryz.func189.trans (congrArg some (by kernel_rfl))
  f197 := Tryz.func252.trans (congrArg some (by kernel_rfl))
  f217 := Tryz.func235.trans (congrArg some (by kernel_rfl))
  f224 := Tryz.func273.trans (congrArg some (by kernel_rfl))
  f225 := Tryz.func274.trans (congrArg some (by kernel_rfl))
  f227 := Tryz.func226.trans (congrArg some (by kernel_rfl))
  f228 := Tryz.func251.trans (congrArg some (by kernel_rfl))
  f231 := Tryz.func224.trans (congrArg some (by kernel_rfl))
  f232 := Tryz.func225.trans (congrArg some (by kernel_rfl))
  f233 := Tryz.func227.trans (congrArg some (by kernel_rfl))
  f234 := Tryz.func228.trans (congrArg some (by kernel_rfl))
  f235 := Tryz.func229.trans (congrArg some (by kernel_rfl))
  f236 := Tryz.func230.trans (congrArg some (by kernel_rfl))
  f260 := Tryz.func265.trans (congrArg some (by kernel_rfl))
  f266 := Tryz.func256.trans (congrArg some (by kernel_rfl))
  f271 := Tryz.func254.trans (congrArg some (by kernel_rfl))
  t0 := Tryz.underlying0
  a0 := Tryz.isAgg0
  z0 := Tryz.sizeOf0
  v0 := Tryz.zeroValue0
  t3 := Tryz.underlying3
  a3 := Tryz.isAgg3
  z3 := Tryz.sizeOf3
  v3 := Tryz.zeroValue3
  t4 := Tryz.underlying4
  a4 := Tryz.isAgg4
  z4 := Tryz.sizeOf4
  v4 := Tryz.zeroValue4
  t5 := Tryz.underlying5
  a5 := Tryz.isAgg5
  z5 := Tryz.sizeOf5
  v5 := Tryz.zeroValue5
  t9 := Tryz.underlying9
  a9 := Tryz.isAgg9
  z9 := Tryz.sizeOf9
  v9 := Tryz.zeroValue9
  t21 := Tryz.underlying21
  a21 := Tryz.isAgg21
  z21 := Tryz.sizeOf21
  v21 := Tryz.zeroValue21
  t46 := Tryz.underlying134
  a46 := Tryz.isAgg134
  z46 := Tryz.sizeOf134
  v46 := Tryz.zeroValue134
  t105 := Tryz.underlying302
  a105 := Tryz.isAgg302
  z105 := Tryz.sizeOf302
  v105 := Tryz.zeroValue302
  t116 := Tryz.underlying275
  a116 := Tryz.isAgg275
  z116 := Tryz.sizeOf275
  t117 := Tryz.underlying276
  a117 := Tryz.isAgg276
  z117 := Tryz.sizeOf276
  v117 := Tryz.zeroValue276
  t119 := Tryz.underlying315
  a119 := Tryz.isAgg315
  z119 := Tryz.sizeOf315
  t124 := Tryz.underlying279
  a124 := Tryz.isAgg279
  z124 := Tryz.sizeOf279
  v124 := Tryz.zeroValue279
  t138 := Tryz.underlying317
  a138 := Tryz.isAgg317
  z138 := Tryz.sizeOf317
  v138 := Tryz.zeroValue317
  t139 := Tryz.underlying318
  a139 := Tryz.isAgg318
  z139 := Tryz.sizeOf318
  v139 := Tryz.zeroValue318
  g3 := by kernel_rfl
  g4 := by kernel_rfl }
theorem pureRow1 : Go.Am.PureRow Tryz.prog Go.Am.X.gl 189 Go.Am.trimS :=
  Go.Am.trimRow (ρ := Tryz.trimL_ren) Tryz.trimL (by kernel_rfl) (fun us w => Go.Am.zlz (by kernel_rfl) us w)
theorem collSaid0 : Go.Am.z4G Tryz.prog 114 116 := by
  constructor
  · intro bq b off len cap zs w hz h0 hl hq ⟨hb, hc⟩
    subst hz
    refine (callsIn_wide.1 (Co.collect_in Fence.wide 4 trivial trivial trivial rfl (by omega) bq _ zs (Nat.le_trans hl (by decide)) (by omega) w (Go.Am.JJ hq) hq (.inr ⟨b, off, cap, rfl, hb, hc⟩))).mono fun e W' h => ?_
    obtain ⟨v, rfl, hrow, _, hB⟩ := h
    exact ⟨v, rfl, ⟨_, hrow⟩, hB⟩
  · intro bq a cap w hq
    refine (callsIn_wide.1 (Co.collect_in Fence.wide 4 trivial trivial trivial rfl (by omega) bq _ [] (Nat.zero_le _) (by simp) w (Go.Am.JJ hq) hq (.inl ⟨a, cap, rfl, rfl⟩))).mono fun e W' h => ?_
    obtain ⟨v, rfl, hrow, hnil, hB⟩ := h
    rw [hnil.2 rfl]
    exact ⟨rfl, hB⟩
theorem collRow0 : Go.Am.CollRow Tryz.prog 114 116 := ⟨(fun us w => Go.Am.zlz (by kernel_rfl) us w), collSaid0⟩
theorem allChecked0 : (Go.Am.fns0.all fun p => Go.Am.MR Tryz.prog p.1 p.2) = true := by kernel_rfl
theorem fits0 : Go.Am.Fits Tryz.prog Go.Am.X0 := ⟨by kernel_rfl, fun f F h => Go.Am.z1k (p := fun f F => Go.Am.MR Tryz.prog f F) Go.Am.fns0 allChecked0 f F h, fun f vs r _ h => Go.Am.extF_ok ext1 ext2 h, fun f us h v h1 x _ hx => Go.Am.zex (gs := Go.Am.GRL) (ps := Go.Am.PRL0) (fun g s hm => by cases hm) (fun g s hm => by
      simp only [Go.Am.PRL0, List.mem_cons, List.not_mem_nil, or_false, Prod.mk.injEq] at hm
      rcases hm with ⟨rfl, rfl⟩ | ⟨rfl, rfl⟩
      · exact pureRow0
      · exact pureRow1) hx⟩
theorem pureRow2 : Go.Am.PureRow Tryz.prog Go.Am.X.gl 42 Go.Am.oX :=
  Go.Am.zl2 fits0 Go.Am.zl3 (fun us w => Go.Am.zlz (by kernel_rfl) us w)
theorem fits : Go.Am.Fits Tryz.prog Go.Am.X := ⟨by kernel_rfl, fun f F h => Go.Am.z1k (p := fun f F => Go.Am.MR Tryz.prog f F) Go.Am.fns allChecked f F h, fun f vs r _ h => Go.Am.extF_ok ext1 ext2 h, fun f us h v h1 x _ hx => Go.Am.libV_ok (cs := Go.Am.CRL) (ks := []) (gs := Go.Am.GRL) (ps := Go.Am.PRL) (fun g s hm => by
      simp only [Go.Am.CRL, List.mem_cons, List.not_mem_nil, or_false, Prod.mk.injEq] at hm
      obtain ⟨rfl, rfl⟩ := hm
      exact collRow0) (fun g s hm => by cases hm) (fun g s hm => by cases hm) (fun g s hm => by
      simp only [Go.Am.PRL, List.mem_cons, List.not_mem_nil, or_false, Prod.mk.injEq] at hm
      rcases hm with ⟨rfl, rfl⟩ | ⟨rfl, rfl⟩ | ⟨rfl, rfl⟩
      · exact pureRow0
      · exact pureRow1
      · exact pureRow2) hx⟩
theorem of_laid {W : World} (_ : laidMetH Tryz.prog Rows.reducedIsEnoughRow.laid W) : Go.Am.fD Go.Am.X.gl (Go.Am.imm [] [] W) := Go.Am.zl1

set_option maxRecDepth 100000 in
theorem law_lifted (os : Os) (started : os.Started) (H : Type) (enc : TypeId × Value → H) :
    ReturnsInHanded {} Tryz.checked os 5 .any (fun w args => (Rows.reducedIsEnoughSpec.pre enc Tryz.prog Tryz.f5 [] false w args ∧ laidMetH Tryz.prog Rows.reducedIsEnoughRow.laid w) ∧ sizedMet enc Tryz.prog Tryz.f5 (OpenSpec.ofChange Rows.reducedIsEnoughSpec) false w args)
      (Rows.reducedIsEnoughSpec.post enc Tryz.prog Tryz.f5 false true false false) := by
  refine returnsInHanded_of_change_and (C := Tryz.checked) (X := fun w _ => laidMetH Tryz.prog Rows.reducedIsEnoughRow.laid w) (fun _ _ _ hh h => h.of_heap hh) own started (by kernel_rfl) Tryz.func5
    (ChangeSpec.witness_shaped (enc := enc) (C := Tryz.checked) (os := os) (X := fun w _ => laidMetH Tryz.prog Rows.reducedIsEnoughRow.laid w) false (World.laidAll Tryz.prog os Rows.reducedIsEnoughRow.laid) #[.slice none 0 0] 8 (World.laidAll_os _ _ _)
      (World.shaped_of_ZipB (by kernel_rfl) (by kernel_rfl)) (by kernel_rfl) (by kernel_rfl) (by kernel_rfl)
      (by rw [MakeChecks.laidMetH_plain _ _ _ (by kernel_rfl)]; exact laidMet_laidAll _ (by kernel_rfl) (by kernel_rfl))) ?_
  intro W base args ds gs before hval0 hW _ _ hL _
  have hval : ∀ (j : Nat) t v, Tryz.f5.params[j]? = some t → args[j]? = some v → Value.okWide Tryz.prog W .any base t v := hval0
  have hW' := hW
  obtain ⟨p, q, hA0, hV, rfl, _, _⟩ := hW
  have hA : DataW.TrodAll enc Tryz.prog W 0 (fun _ => true) true Tryz.f5.params.toList args.toList ds p := hA0
  rw [Tryz.params5] at hA hval
  obtain ⟨v0, d0, rfl, rfl, h0⟩ := trodAll_one hA
  obtain ⟨rfl, rfl⟩ := trodVars_none hV
  have h0k := h0
  obtain ⟨fuel, hf⟩ := h0
  clear hA0 hval0
  simp only [List.append_nil] at hW'
  have hlt : ∀ x ∈ p, x.block < W.heap.size := fun x hx => by simpa using hW'.lt x hx
  have hG := of_laid hL
  have law : ∀ L : List Int, Go.Am.eA Go.Am.X 5 [Go.Am.LP L] [] fun v _ _ => v = .p (.bool true) := fun L => by
    have := Go.Am.law_RE L (K := fun v _ _ => v = .p (.bool true))
    exact this.symm ▸ rfl
  have key : Calls Tryz.prog 5 #[v0] W fun e W' => e = .returned (.bool true) ∧ Below W.heap.size W W' := by
    obtain ⟨a0, len, cap, rfl⟩ := okWide_slice Tryz.underlying22 (hval 0 22 v0 rfl rfl)
    rcases open_ints Tryz.underlying22 Tryz.underlying3 cellsInt hf with ⟨hcs, hx⟩ | ⟨a, len', cap', zs, hcs, _, hl, hm, hz, hx, hcell, hwz⟩
    · simp [Value.cells] at hcs
      obtain ⟨rfl, rfl, rfl⟩ := hcs
      exact Go.Am.law_nil fits Go.Am.zkG law W hG
    · simp [Value.cells] at hcs
      obtain ⟨rfl, rfl, rfl⟩ := hcs
      have hzl : len ≤ zs.length := by rw [hz]; split <;> omega
      exact Go.Am.law_ints fits Go.Am.zkG law hG hl hzl hcell
  refine key.mono fun e W' ⟨he, hb⟩ => ?_
  subst he
  have hargs : DataW.Trod enc Tryz.prog W' 0 (fun b => decide (b < W.heap.size)) true 22 v0 d0 p :=
    Below.trod laidOut (by kernel_rfl) (of_decide_eq_true (by kernel_rfl)) h0k hb hlt
  exact ⟨_, rfl, ⟨_, _, _, [], _, [], hW', trodAll_mk1 (shut_bool Tryz.underlying4 _), trodAll_mk1 hargs, rfl, hb.frame _, fun h => by cases h⟩⟩

theorem zNamed : Tryz.prog.funcNamed "scanchain/scankeep2.ReducedIsEnough" = some 5 := by kernel_rfl
theorem zJoin : joinedFacts Tryz.pinned.checked.prog 5 Tryz.f5 Rows.reducedIsEnoughSpec Rows.reducedIsEnoughRow = true := by kernel_rfl
theorem zInst : Tryz.f5.isInstance Tryz.pinned.checked.prog Rows.reducedIsEnoughRow.origin Rows.reducedIsEnoughRow.targs := of_decide_eq_true (by kernel_rfl)
theorem zWrap : Tryz.f5.isWrapper Tryz.pinned.checked.prog Rows.reducedIsEnoughRow.wrapper Rows.reducedIsEnoughRow.mainSum := by unfold Func.isWrapper; rw [if_neg (by decide +kernel)]; exact ⟨rfl, rfl⟩
theorem reducedIsEnough_holds : Rows.ReducedIsEnoughSaid :=
  OpenClaim.holds_of_wide 5 Tryz.f5 rfl rfl rfl rfl rfl rfl rfl ⟨rfl, rfl, rfl, rfl, rfl⟩ rfl rfl rfl rfl rfl zNamed Tryz.func5 zJoin zInst zWrap
    (fun os started H enc _ => law_lifted os started H enc)
theorem zText : Rows.reducedIsEnoughRow.wfByText (OpenSpec.ofChange Rows.reducedIsEnoughSpec) = true := by kernel_rfl
theorem zMain : Tryz.pinned.checked.prog.mainIs = some (true, "5abc733c4c1a10466e7f209cd6e879cdb3792e4b9863e1d0c091bd1803105750".toList) := by kernel_rfl
theorem zLooks : false = Tryz.pinned.checked.prog.looks [] := by kernel_rfl
theorem zStand : ([22].all fun u => !Tryz.prog.wantsStandIn u) = true := by kernel_rfl
theorem zGoes : false = Rows.reducedIsEnoughRow.goesBy Tryz.pinned.checked.prog := by kernel_rfl
theorem reducedIsEnough_card_holds : Rows.ReducedIsEnoughCardSaid :=
  Claim7.holds_tied_plain_at .later [] [.data, .pinned] true (true, "5abc733c4c1a10466e7f209cd6e879cdb3792e4b9863e1d0c091bd1803105750") false reducedIsEnough_holds (fun _ h => by cases h) zText (fun _ h => by cases h) reducedIsEnough_row_tie rfl ⟨rfl, rfl⟩ zMain rfl
    (fun f fn hf hfn => by
      obtain rfl : f = 5 := Option.some.inj (zNamed.symm.trans hf) |>.symm
      obtain rfl : fn = Tryz.f5 := (Option.some.inj (Tryz.func5.symm.trans hfn)).symm
      exact ⟨zLooks, fun j t ht => by
        rw [Tryz.params5] at ht
        have hm : t ∈ [22] := by simpa using Array.mem_of_getElem? ht
        exact (show Tryz.prog.wantsStandIn t = false by simpa using List.all_eq_true.1 zStand t hm)⟩)
    zGoes

end Go.Proofs.YtahgfbhabpiplaaGreatDoor
