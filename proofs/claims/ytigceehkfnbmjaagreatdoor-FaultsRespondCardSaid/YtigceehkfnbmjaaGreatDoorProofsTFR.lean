/- FaultsRespond returns true at every input, and the input reads behind the call as it read before. Conditions: the listed package-level variables hold what the program's text lays in them (the card ties them to the text). -/
import Derived.Test.YtigceehkfnbmjaaGreatDoorRows
import Derived.Test.YtigceehkfnbmjaaGreatDoorlawFR7
import Derived.Test.YtigceehkfnbmjaaGreatDoorTie
import Derived.Test.YtigceehkfnbmjaaGreatDoorCards
import Derived.ProofKit
import Derived.Handy
import Derived.Lay
import Derived.SevenTiedAt
import Derived.Stop.LaidErr
import Derived.Ground.NamesProg
set_option linter.unusedVariables false
namespace Go.Proofs.YtigceehkfnbmjaaGreatDoor
open Go.ChangeShapes Go.WideShapes Go.ChangeAt Go.RowKit

theorem own : ownKnob Tryz.prog.godebug = none := by kernel_rfl
theorem laidOut : laidOutB Tryz.prog = true := by kernel_rfl
theorem cellsInt : Tryz.prog.cellsOf 3 = 1 := by kernel_rfl
theorem allChecked : (Go.Am.fns.all fun p => Go.Am.chkFun Tryz.prog p.1 p.2) = true := by kernel_rfl
theorem ext1 : Go.Am.ExtRow Tryz.prog Go.Am.f_internal_bytealg_IndexByteString Go.Extern.BytealgIndexByte.indexByte := Go.Am.extRow_of (by kernel_rfl) (by kernel_rfl)
theorem ext2 : Go.Am.ExtRow Tryz.prog Go.Am.f_internal_bytealg_abigen_runtime_cmpstring Go.Extern.BytealgCompare.compare := Go.Am.extRow_of (by kernel_rfl) (by kernel_rfl)
open Go.Shelf Go.ChangeShapes Go.WideShapes Go.ChangeAt Go.RowKit
def Tryz.ctzL_ren : Go.Shelf.Ren := ⟨fun | 29 => 43 | n => n, fun | 22 => 66 | 3 => 3 | 4 => 4 | 25 => 107 | 54 => 124 | 0 => 0 | 5 => 5 | n => n, fun | 1 => 0 | n => n⟩
theorem Tryz.ctzL : Go.Proofs.Lays7.n29 Tryz.prog Tryz.ctzL_ren := {
  mixed := by kernel_rfl
  f29 := Tryz.func43.trans (congrArg some (by kernel_rfl))
  t0 := Tryz.underlying0
  a0 := Tryz.isAgg0
  z0 := Tryz.sizeOf0
  v0 := Tryz.zeroValue0
  i0 := by kernel_rfl
  t3 := Tryz.underlying3
  a3 := Tryz.isAgg3
  z3 := Tryz.sizeOf3
  v3 := Tryz.zeroValue3
  i3 := by kernel_rfl
  t4 := Tryz.underlying4
  a4 := Tryz.isAgg4
  z4 := Tryz.sizeOf4
  v4 := Tryz.zeroValue4
  i4 := by kernel_rfl
  t5 := Tryz.underlying5
  a5 := Tryz.isAgg5
  z5 := Tryz.sizeOf5
  v5 := Tryz.zeroValue5
  i5 := by kernel_rfl
  t22 := Tryz.underlying66
  a22 := Tryz.isAgg66
  z22 := Tryz.sizeOf66
  v22 := Tryz.zeroValue66
  i22 := by kernel_rfl
  t25 := Tryz.underlying107
  a25 := Tryz.isAgg107
  z25 := Tryz.sizeOf107
  v25 := Tryz.zeroValue107
  i25 := by kernel_rfl
  t54 := Tryz.underlying124
  a54 := Tryz.isAgg124
  z54 := Tryz.sizeOf124
  g1 := by kernel_rfl }
theorem pureRow0 : Go.Am.PureRow Tryz.prog Go.Am.X.gl 43 Go.Am.ctzS :=
  Go.Am.ctzRow (ρ := Tryz.ctzL_ren) Tryz.ctzL (by kernel_rfl) (fun us w => Go.Am.enters_chk (by kernel_rfl) us w)
def Tryz.repL_ren : Go.Shelf.Ren := ⟨fun | 105 => 33 | 212 => 63 | 99 => 64 | 165 => 65 | 166 => 66 | 170 => 67 | 169 => 68 | 263 => 87 | 264 => 88 | 206 => 89 | 240 => 90 | 241 => 91 | 276 => 127 | 277 => 128 | n => n, fun | 9 => 9 | 3 => 3 | 4 => 4 | 20 => 20 | 0 => 0 | 46 => 107 | 109 => 108 | 5 => 5 | 72 => 113 | 76 => 117 | 51 => 160 | 146 => 161 | 53 => 66 | 148 => 163 | 70 => 111 | 37 => 75 | 75 => 116 | 127 => 165 | 164 => 203 | 80 => 120 | n => n, fun | n => n⟩
theorem Tryz.repL : Go.Proofs.Lays.n105 Tryz.prog Tryz.repL_ren := {
  mixed := by kernel_rfl
  f99 := Tryz.func64.trans (congrArg some (by kernel_rfl))
  f105 := Tryz.func33.trans (congrArg some (by kernel_rfl))
  f165 := Tryz.func65.trans (congrArg some (by kernel_rfl))
  f166 := Tryz.func66.trans (congrArg some (by kernel_rfl))
  f169 := Tryz.func68.trans (congrArg some (by kernel_rfl))
  f170 := Tryz.func67.trans (congrArg some (by kernel_rfl))
  f206 := Tryz.func89.trans (congrArg some (by kernel_rfl))
  f212 := Tryz.func63.trans (congrArg some (by kernel_rfl))
  f240 := Tryz.func90.trans (congrArg some (by kernel_rfl))
  f241 := Tryz.func91.trans (congrArg some (by kernel_rfl))
  f263 := Tryz.func87.trans (congrArg some (by kernel_rfl))
  f264 := Tryz.func88.trans (congrArg some (by kernel_rfl))
  f276 := Tryz.func127.trans (congrArg some (by kernel_rfl))
  f277 := Tryz.func128.trans (congrArg some (by kernel_rfl))
  t0 := Tryz.underlying0
  a0 := Tryz.isAgg0
  z0 := Tryz.sizeOf0
  v0 := Tryz.zeroValue0
  t3 := Tryz.underlying3
  a3 := Tryz.isAgg3
  z3 := Tryz.sizeOf3
  v3 := Tryz.zeroValue3
  t4 := Tryz.underlying4
  a4 := Tryz.isAgg4
  z4 := Tryz.sizeOf4
  v4 := Tryz.zeroValue4
  t5 := Tryz.underlying5
  a5 := Tryz.isAgg5
  z5 := Tryz.sizeOf5
  v5 := Tryz.zeroValue5
  t9 := Tryz.underlying9
  a9 := Tryz.isAgg9
  z9 := Tryz.sizeOf9
  v9 := Tryz.zeroValue9
  t20 := Tryz.underlying20
  a20 := Tryz.isAgg20
  z20 := Tryz.sizeOf20
  v20 := Tryz.zeroValue20
  t37 := Tryz.underlying75
  a37 := Tryz.isAgg75
  z37 := Tryz.sizeOf75
  v37 := Tryz.zeroValue75
  t46 := Tryz.underlying107
  a46 := Tryz.isAgg107
  z46 := Tryz.sizeOf107
  v46 := Tryz.zeroValue107
  t51 := Tryz.underlying160
  a51 := Tryz.isAgg160
  z51 := Tryz.sizeOf160
  v51 := Tryz.zeroValue160
  t53 := Tryz.underlying66
  a53 := Tryz.isAgg66
  z53 := Tryz.sizeOf66
  v53 := Tryz.zeroValue66
  t70 := Tryz.underlying111
  a70 := Tryz.isAgg111
  z70 := Tryz.sizeOf111
  v70 := Tryz.zeroValue111
  t72 := Tryz.underlying113
  a72 := Tryz.isAgg113
  z72 := Tryz.sizeOf113
  v72 := Tryz.zeroValue113
  t75 := Tryz.underlying116
  a75 := Tryz.isAgg116
  z75 := Tryz.sizeOf116
  v75 := Tryz.zeroValue116
  t76 := Tryz.underlying117
  a76 := Tryz.isAgg117
  z76 := Tryz.sizeOf117
  v76 := Tryz.zeroValue117
  t109 := Tryz.underlying108
  a109 := Tryz.isAgg108
  z109 := Tryz.sizeOf108
  v109 := Tryz.zeroValue108
  t127 := Tryz.underlying165
  a127 := Tryz.isAgg165
  z127 := Tryz.sizeOf165
  v127 := Tryz.zeroValue165
  t146 := Tryz.underlying161
  a146 := Tryz.isAgg161
  z146 := Tryz.sizeOf161
  v146 := Tryz.zeroValue161
  t148 := Tryz.underlying163
  a148 := Tryz.isAgg163
  z148 := Tryz.sizeOf163
  v148 := Tryz.zeroValue163
  t164 := Tryz.underlying203
  a164 := Tryz.isAgg203
  z164 := Tryz.sizeOf203
  v164 := Tryz.zeroValue203 }
theorem pureRow1 : Go.Am.PureRow Tryz.prog Go.Am.X.gl 33 Go.Am.repeatS :=
  Go.Am.repeatRow (ρ := Tryz.repL_ren) Tryz.repL { sizeBuilder := by kernel_rfl, liesBuilder := by kernel_rfl, t5 := Tryz.underlying5, a5 := Tryz.isAgg5, z5 := Tryz.sizeOf5, v5 := Tryz.zeroValue5, infoByte := by kernel_rfl, cellsByte := by kernel_rfl, sizeByte := by kernel_rfl, neB5 := by decide } (fun us w => Go.Am.enters_chk (by kernel_rfl) us w)
def Tryz.trimL_ren : Go.Shelf.Ren := ⟨fun | 160 => 74 | 232 => 106 | 231 => 105 | 227 => 107 | 234 => 109 | 233 => 108 | 236 => 111 | 235 => 110 | 228 => 136 | 271 => 139 | 151 => 138 | 197 => 137 | 120 => 163 | 152 => 162 | 260 => 161 | 137 => 104 | 119 => 176 | 224 => 177 | 225 => 178 | 217 => 135 | 266 => 160 | n => n, fun | 9 => 9 | 4 => 4 | 3 => 3 | 5 => 5 | 117 => 180 | 116 => 179 | 0 => 0 | 124 => 183 | 21 => 21 | 105 => 213 | 46 => 107 | 119 => 254 | 139 => 257 | 138 => 256 | n => n, fun | 3 => 2 | 4 => 3 | n => n⟩
theorem Tryz.trimL : Go.Proofs.Lays.n160 Tryz.prog Tryz.trimL_ren := {
  mixed := by kernel_rfl
  f119 := Tryz.func176.trans (congrArg some (by kernel_rfl))
  f120 := Tryz.func163.trans (congrArg some (by kernel_rfl))
  f137 := Tryz.func104.trans (congrArg some (by kernel_rfl))
  f151 := Tryz.func138.trans (congrArg some (by kernel_rfl))
  f152 := Tryz.func162.trans (congrArg some (by kernel_rfl))
  f160 := Tryz.func74.trans (congrArg some (by kernel_rfl))
  f197 := Tryz.func137.trans (congrArg some (by kernel_rfl))
  f217 := Tryz.func135.trans (congrArg some (by kernel_rfl))
  f224 := Tryz.func177.trans (congrArg some (by kernel_rfl))
  f225 := Tryz.func178.trans (congrArg some (by kernel_rfl))
  f227 := Tryz.func107.trans (congrArg some (by kernel_rfl))
  f228 := Tryz.func136.trans (congrArg some (by kernel_rfl))
  f231 := Tryz.func105.trans (congrArg some (by kernel_rfl))
  f232 := Tryz.func106.trans (congrArg some (by kernel_rfl))
  f233 := Tryz.func108.trans (congrArg some (by kernel_rfl))
  f234 := Tryz.func109.trans (congrArg some (by kernel_rfl))
  f235 := Tryz.func110.trans (congrArg some (by kernel_rfl))
  f236 := Tryz.func111.trans (congrArg some (by kernel_rfl))
  f260 := Tryz.func161.trans (congrArg some (by kernel_rfl))
  f266 := Tryz.func160.trans (congrArg some (by kernel_rfl))
  f271 := Tryz.func139.trans (congrArg some (by kernel_rfl))
  t0 := Tryz.underlying0
  a0 := Tryz.isAgg0
  z0 := Tryz.sizeOf0
  v0 := Tryz.zeroValue0
  t3 := Tryz.underlying3
  a3 := Tryz.isAgg3
  z3 := Tryz.sizeOf3
  v3 := Tryz.zeroValue3
  t4 := Tryz.underlying4
  a4 := Tryz.isAgg4
  z4 := Tryz.sizeOf4
  v4 := Tryz.zeroValue4
  t5 := Tryz.underlying5
  a5 := Tryz.isAgg5
  z5 := Tryz.sizeOf5
  v5 := Tryz.zeroValue5
  t9 := Tryz.underlying9
  a9 := Tryz.isAgg9
  z9 := Tryz.sizeOf9
  v9 := Tryz.zeroValue9
  t21 := Tryz.underlying21
  a21 := Tryz.isAgg21
  z21 := Tryz.sizeOf21
  v21 := Tryz.zeroValue21
  t46 := Tryz.underlying107
  a46 := Tryz.isAgg107
  z46 := Tryz.sizeOf107
  v46 := Tryz.zeroValue107
  t105 := Tryz.underlying213
  a105 := Tryz.isAgg213
  z105 := Tryz.sizeOf213
  v105 := Tryz.zeroValue213
  t116 := Tryz.underlying179
  a116 := Tryz.isAgg179
  z116 := Tryz.sizeOf179
  t117 := Tryz.underlying180
  a117 := Tryz.isAgg180
  z117 := Tryz.sizeOf180
  v117 := Tryz.zeroValue180
  t119 := Tryz.underlying254
  a119 := Tryz.isAgg254
  z119 := Tryz.sizeOf254
  t124 := Tryz.underlying183
  a124 := Tryz.isAgg183
  z124 := Tryz.sizeOf183
  v124 := Tryz.zeroValue183
  t138 := Tryz.underlying256
  a138 := Tryz.isAgg256
  z138 := Tryz.sizeOf256
  v138 := Tryz.zeroValue256
  t139 := Tryz.underlying257
  a139 := Tryz.isAgg257
  z139 := Tryz.sizeOf257
  v139 := Tryz.zeroValue257
  g3 := by kernel_rfl
  g4 := by kernel_rfl }
theorem pureRow2 : Go.Am.PureRow Tryz.prog Go.Am.X.gl 74 Go.Am.trimS :=
  Go.Am.trimRow (ρ := Tryz.trimL_ren) Tryz.trimL (by kernel_rfl) (fun us w => Go.Am.enters_chk (by kernel_rfl) us w)
theorem fits : Go.Am.Fits Tryz.prog Go.Am.X := ⟨by kernel_rfl, fun f F h => Go.Am.fnOf_all (p := fun f F => Go.Am.chkFun Tryz.prog f F) Go.Am.fns allChecked f F h, fun f vs r _ h => Go.Am.extF_ok ext1 ext2 h, fun f us h v h1 x _ hx => Go.Am.libF_ok (gs := Go.Am.GRL) (ps := Go.Am.PRL) (fun g s hm => by cases hm) (fun g s hm => by
      simp only [Go.Am.PRL, List.mem_cons, List.not_mem_nil, or_false, Prod.mk.injEq] at hm
      rcases hm with ⟨rfl, rfl⟩ | ⟨rfl, rfl⟩ | ⟨rfl, rfl⟩
      · exact pureRow0
      · exact pureRow1
      · exact pureRow2) hx⟩
def powers : List Int := [0, 1, 56, 2, 57, 49, 28, 3, 61, 58, 42, 50, 38, 29, 17, 4, 62, 47, 59, 36, 45, 43, 51, 22, 53, 39, 33, 30, 24, 18, 12, 5, 63, 55, 48, 27, 60, 41, 37, 16, 46, 35, 44, 21, 52, 32, 23, 11, 54, 26, 40, 15, 34, 20, 31, 10, 25, 14, 19, 9, 13, 8, 7, 6]
theorem of_laid {W : World} (h : laidMetH Tryz.prog Rows.faultsRespondRow.laid W) : Go.Am.GInv Go.Am.X.gl (Go.Am.imm [] [] W) := by
  rw [MakeChecks.laidMetH_plain _ _ _ (by kernel_rfl)] at h
  have h2 : laidMet Tryz.prog (("math/bits.deBruijn64tab", Go.Lib.tabData .u8 powers) :: _) W := h
  exact Go.Am.ginv_tab (zs := powers) (by kernel_rfl) (Go.Lib.tabIs_of_head (g := 0) (t := 124) (e := 5) (n := 64) (by kernel_rfl) (by kernel_rfl) Tryz.underlying124 Tryz.underlying5 (by kernel_rfl) (by kernel_rfl) h2) (by kernel_rfl)

set_option maxRecDepth 100000 in
theorem law_lifted (os : Os) (started : os.Started) (H : Type) (enc : TypeId × Value → H) :
    ReturnsInHanded {} Tryz.checked os 3 .any (fun w args => (Rows.faultsRespondSpec.pre enc Tryz.prog Tryz.f3 [] false w args ∧ laidMetH Tryz.prog Rows.faultsRespondRow.laid w) ∧ sizedMet enc Tryz.prog Tryz.f3 (OpenSpec.ofChange Rows.faultsRespondSpec) false w args)
      (Rows.faultsRespondSpec.post enc Tryz.prog Tryz.f3 false true false false) := by
  refine returnsInHanded_of_change_and (C := Tryz.checked) (X := fun w _ => laidMetH Tryz.prog Rows.faultsRespondRow.laid w) (fun _ _ _ hh h => h.of_heap hh) own started (by kernel_rfl) Tryz.func3
    (ChangeSpec.witness_shaped (enc := enc) (C := Tryz.checked) (os := os) (X := fun w _ => laidMetH Tryz.prog Rows.faultsRespondRow.laid w) false (World.laidAll Tryz.prog os Rows.faultsRespondRow.laid) #[.slice none 0 0] 8 (World.laidAll_os _ _ _)
      (World.shaped_of_ZipB (by kernel_rfl) (by kernel_rfl)) (by kernel_rfl) (by kernel_rfl) (by kernel_rfl)
      (by rw [MakeChecks.laidMetH_plain _ _ _ (by kernel_rfl)]; exact laidMet_laidAll _ (by kernel_rfl) (by kernel_rfl))) ?_
  intro W base args ds gs before hval0 hW _ _ hL _
  have hval : ∀ (j : Nat) t v, Tryz.f3.params[j]? = some t → args[j]? = some v → Value.okWide Tryz.prog W .any base t v := hval0
  have hW' := hW
  obtain ⟨p, q, hA0, hV, rfl, _, _⟩ := hW
  have hA : DataW.TrodAll enc Tryz.prog W 0 (fun _ => true) true Tryz.f3.params.toList args.toList ds p := hA0
  rw [Tryz.params3] at hA hval
  obtain ⟨v0, d0, rfl, rfl, h0⟩ := trodAll_one hA
  obtain ⟨rfl, rfl⟩ := trodVars_none hV
  have h0k := h0
  obtain ⟨fuel, hf⟩ := h0
  clear hA0 hval0
  simp only [List.append_nil] at hW'
  have hlt : ∀ x ∈ p, x.block < W.heap.size := fun x hx => by simpa using hW'.lt x hx
  have hG := of_laid hL
  have law : ∀ L : List Int, Go.Am.ACall Go.Am.X 3 [Go.Am.pints L] [] fun v _ _ => v = .p (.bool true) := fun L => by
    have := Go.Am.law_FR L (K := fun v _ _ => v = .p (.bool true))
    exact this.symm ▸ rfl
  have key : Calls Tryz.prog 3 #[v0] W fun e W' => e = .returned (.bool true) ∧ Below W.heap.size W W' := by
    obtain ⟨a0, len, cap, rfl⟩ := okWide_slice Tryz.underlying22 (hval 0 22 v0 rfl rfl)
    rcases open_ints Tryz.underlying22 Tryz.underlying3 cellsInt hf with ⟨hcs, hx⟩ | ⟨a, len', cap', zs, hcs, _, hl, hm, hz, hx, hcell, hwz⟩
    · simp [Value.cells] at hcs
      obtain ⟨rfl, rfl, rfl⟩ := hcs
      exact Go.Am.law_nil fits Go.Am.x_q01x law W hG
    · simp [Value.cells] at hcs
      obtain ⟨rfl, rfl, rfl⟩ := hcs
      have hzl : len ≤ zs.length := by rw [hz]; split <;> omega
      exact Go.Am.law_ints fits Go.Am.x_q01x law hG hl hzl hcell
  refine key.mono fun e W' ⟨he, hb⟩ => ?_
  subst he
  have hargs : DataW.Trod enc Tryz.prog W' 0 (fun b => decide (b < W.heap.size)) true 22 v0 d0 p :=
    Below.trod laidOut (by kernel_rfl) (of_decide_eq_true (by kernel_rfl)) h0k hb hlt
  exact ⟨_, rfl, ⟨_, _, _, [], _, [], hW', trodAll_mk1 (shut_bool Tryz.underlying4 _), trodAll_mk1 hargs, rfl, hb.frame _, fun h => by cases h⟩⟩

theorem zNamed : Tryz.prog.funcNamed "scanchain/scanlaw2.FaultsRespond" = some 3 := by kernel_rfl
theorem zJoin : joinedFacts Tryz.pinned.checked.prog 3 Tryz.f3 Rows.faultsRespondSpec Rows.faultsRespondRow = true := by kernel_rfl
theorem zInst : Tryz.f3.isInstance Tryz.pinned.checked.prog Rows.faultsRespondRow.origin Rows.faultsRespondRow.targs := of_decide_eq_true (by kernel_rfl)
theorem zWrap : Tryz.f3.isWrapper Tryz.pinned.checked.prog Rows.faultsRespondRow.wrapper Rows.faultsRespondRow.mainSum := by unfold Func.isWrapper; rw [if_neg (by decide +kernel)]; exact ⟨rfl, rfl⟩
theorem faultsRespond_holds : Rows.FaultsRespondSaid :=
  OpenClaim.holds_of_wide 3 Tryz.f3 rfl rfl rfl rfl rfl rfl rfl ⟨rfl, rfl, rfl, rfl, rfl⟩ rfl rfl rfl rfl rfl zNamed Tryz.func3 zJoin zInst zWrap
    (fun os started H enc _ => law_lifted os started H enc)
theorem zText : Rows.faultsRespondRow.wfByText (OpenSpec.ofChange Rows.faultsRespondSpec) = true := by kernel_rfl
theorem zMain : Tryz.pinned.checked.prog.mainIs = some (true, "14ff6f61ed16e66b8fe471f33012a88ce9c5039997036d5bad457ce99a328ee6".toList) := by kernel_rfl
theorem zLooks : false = Tryz.pinned.checked.prog.looks [] := by kernel_rfl
theorem zStand : ([22].all fun u => !Tryz.prog.wantsStandIn u) = true := by kernel_rfl
theorem zGoes : false = Rows.faultsRespondRow.goesBy Tryz.pinned.checked.prog := by kernel_rfl
theorem faultsRespond_card_holds : Rows.FaultsRespondCardSaid :=
  Claim7.holds_tied_plain_at .later [] [.data, .data, .pinned] true (true, "14ff6f61ed16e66b8fe471f33012a88ce9c5039997036d5bad457ce99a328ee6") false faultsRespond_holds (fun _ h => by cases h) zText (fun _ h => by cases h) faultsRespond_row_tie rfl ⟨rfl, rfl⟩ zMain rfl
    (fun f fn hf hfn => by
      obtain rfl : f = 3 := Option.some.inj (zNamed.symm.trans hf) |>.symm
      obtain rfl : fn = Tryz.f3 := (Option.some.inj (Tryz.func3.symm.trans hfn)).symm
      exact ⟨zLooks, fun j t ht => by
        rw [Tryz.params3] at ht
        have hm : t ∈ [22] := by simpa using Array.mem_of_getElem? ht
        exact (show Tryz.prog.wantsStandIn t = false by simpa using List.all_eq_true.1 zStand t hm)⟩)
    zGoes

end Go.Proofs.YtigceehkfnbmjaaGreatDoor
