/- BoardsAreOnce returns true at every input, and the input reads behind the call as it read before. Conditions: the listed package-level variables hold what the program's text lays in them (the card ties them to the text). -/
import Derived.Test.YtdnbmbfonpkpfaaGreatDoorRows
import Derived.Test.YtdnbmbfonpkpfaaGreatDoorlawBO10
import Derived.Test.YtdnbmbfonpkpfaaGreatDoorTie
import Derived.Test.YtdnbmbfonpkpfaaGreatDoorCards
import Derived.ProofKit
import Derived.Handy
import Derived.Lay
import Derived.SevenTiedAt
import Derived.Stop.LaidErr
import Derived.Shelf.SlIter.Nil
import Derived.Shelf.SortM.Plain
import Derived.Shelf.SortM.SortNone
import Derived.Ground.NamesProg
set_option linter.unusedVariables false
namespace Go.Proofs.YtdnbmbfonpkpfaaGreatDoor
open Go.ChangeShapes Go.WideShapes Go.ChangeAt Go.RowKit

theorem own : ownKnob Tryz.prog.godebug = none := by kernel_rfl
theorem laidOut : laidOutB Tryz.prog = true := by kernel_rfl
theorem cellsInt : Tryz.prog.cellsOf 3 = 1 := by kernel_rfl
theorem allChecked : (Go.Am.fns.all fun p => Go.Am.zms Tryz.prog p.1 p.2) = true := by kernel_rfl
theorem ext1 : Go.Am.ExtRow Tryz.prog Go.Am.z0h Go.Extern.BytealgIndexByte.indexByte := Go.Am.extRow_of (by kernel_rfl) (by kernel_rfl)
theorem ext2 : Go.Am.ExtRow Tryz.prog Go.Am.z0g Go.Extern.BytealgCompare.compare := Go.Am.extRow_of (by kernel_rfl) (by kernel_rfl)
end Go.Proofs.YtdnbmbfonpkpfaaGreatDoor
namespace Go.Am
open Go.Proofs Go.RowKit Go.Maps Go.Sort Go.Shelf
variable {P : Program}
theorem below_extK {w w' : World} (h : Go.RowKit.Below w.heap.size w w') : WExt w w' := ⟨h.size, fun b hb => h.block b hb, by unfold zed; rw [h.os, h.tape, h.output]⟩
def noR : Value → Option (DataW Unit × List MemPlace) := fun _ => some (.map [], [])

theorem textsAt_of {w w' : World} {T : TypeId} {v : Value} {ss : List (List UInt8)} {n : Nat} (hn : n = ss.length) (hrow : w'.ownsRow w.heap.size T 1 v n (ss.map encStr)) : z8p w w' v ss := by
  subst hn
  obtain ⟨_, h⟩ := hrow
  rcases h with ⟨rfl, hz⟩ | ⟨g, cap, cur, rfl, hb, hg, hc, _, hs, ht⟩
  · exact .inl ⟨List.eq_nil_of_length_eq_zero hz, rfl⟩
  · refine .inr ⟨g, cap, rfl, hb, hc, fun j s hj => ?_⟩
    have hlt := (List.getElem?_eq_some_iff.1 hj).1
    have h1 : (cur.toList.take (ss.length * 1))[j]? = some (encStr s) := by rw [ht, List.getElem?_map, hj]; rfl
    rw [List.getElem?_take, if_pos (by omega), Array.getElem?_toList] at h1
    simp only [World.cell?, hg]
    exact h1

theorem keysRow_of {ρ σ : Ren} (K : SlLaysZ.n10 P ρ) (S : SlLaysZ.n6 P σ) (hsort : ∀ m, AnyZ.SortsIn P σ Fence.wide m) (he : ∀ us w, (callFunc (σ.f 6) us).run P w = .ok (.enter (σ.f 6) us) w)
    (e9 : ∀ us w, (callFunc (σ.f 9) us).run P w = .ok (.enter (σ.f 9) us) w) (eg : ∀ us w, (callFunc (ρ.f 10) us).run P w = .ok (.enter (ρ.f 10) us) w) : KeysRow P (σ.f 6) (ρ.f 10) where
  enter := he
  run w bq bm clk ces ss hq hm hk hb1 hb2 hn hl hsz := by
    have hlen : ces.size = ss.length := by simpa using congrArg List.length hk
    have hkey : ∀ x ∈ ces.toList, ∃ s : List UInt8, s ∈ ss ∧ x.key = .string ⟨s.toArray⟩ ∧ Go.keyOf P (ρ.t 26) x.key = some (.string s) := by
      intro x hx
      have : x.key ∈ ss.map (fun s => Value.string ⟨s.toArray⟩) := by rw [← hk]; exact List.mem_map_of_mem hx
      obtain ⟨s, hs, e⟩ := List.mem_map.1 this
      refine ⟨s, hs, e.symm, ?_⟩
      rw [← e]
      have := hl s hs
      simp [Go.keyOf, K.t26, mapKey, this, ByteArray.size]
    have hR : ∀ x ∈ ces.toList, ∃ s : List UInt8, s ∈ ss ∧ x.key = .string ⟨s.toArray⟩ ∧ Go.WideElems.rd P (ρ.t 26) noR x = some (.string s, .map []) := by
      intro x hx
      obtain ⟨s, h1, h2, h3⟩ := hkey x hx
      exact ⟨s, h1, h2, Go.WideElems.rd_mk (R := noR) (key := x.key) (val := x.val) (born := x.born) (yv := (.map [], [])) h3 rfl⟩
    have F : Go.WideElems.Fit P (ρ.t 26) noR ces clk := by
      refine ⟨by rw [hlen]; exact Nat.le_trans hsz (by decide), ⟨hb1, hb2, ?_⟩, fun x hx => ?_⟩
      · rw [hk]
        refine List.pairwise_map.2 (hn.imp fun {a b} hne e => hne ?_)
        simpa using e
      · obtain ⟨s, _, _, h⟩ := hR x hx
        exact ⟨_, h⟩
    have hown := World.ownsMap_of_fit (R := noR) hm F (fun _ _ _ h => h)
    have hBm : bq < w.heap.size := zbF hq
    have hp : (strKeys (.map ((ces.toList.map (Go.WideElems.rg P (ρ.t 26) noR)).foldr DataW.insert []))).Perm ss := by
      show (List.map (fun p : Lit × DataW Unit => Go.strOf p.1) _).Perm ss
      refine ((WideShapes.sorted_perm _).map _).trans ?_
      rw [List.map_map]
      have : ces.toList.map ((fun p : Lit × DataW Unit => Go.strOf p.1) ∘ Go.WideElems.rg P (ρ.t 26) noR) = ss := by
        apply List.ext_getElem?
        intro i
        have hki := congrArg (·[i]?) hk
        simp only [List.getElem?_map] at hki ⊢
        cases hx : ces.toList[i]? with
        | none =>
          rw [hx] at hki
          cases hs : ss[i]? with
          | none => rfl
          | some s => rw [hs] at hki; cases hki
        | some x =>
          rw [hx] at hki
          obtain ⟨s, h1, h2, h3⟩ := hR x (List.mem_of_getElem? hx)
          cases hs : ss[i]? with
          | none => rw [hs] at hki; cases hki
          | some s' =>
            rw [hs] at hki
            simp only [Option.map_some, Option.some.injEq, h2, Value.string.injEq, ByteArray.mk.injEq] at hki
            have hss : s = s' := by simpa using congrArg Array.toList hki
            subst hss
            simp only [Option.map_some, Function.comp, Go.WideElems.rg_of h3]
            rfl
      rw [this]
    have hms : Maps.size (.map ((ces.toList.map (Go.WideElems.rg P (ρ.t 26) noR)).foldr DataW.insert [])) = ss.length := by
      rw [← hlen]
      show List.length _ = _
      rw [length_sorted]
      simp
    have hseq := AnyZ.keys_gives K Fence.wide 2 trivial rfl (by omega) bq bm _ _ w hBm hq hown
    refine (callsIn_wide.1 (AnyZ.sorted_in S Fence.wide 5 trivial trivial trivial trivial rfl (by omega) (hsort _) e9 (ρ.f 10) #[.pointer (some ⟨bq, 0, none⟩)] trivial eg _ _ (by rw [hms]; exact Nat.le_trans hsz (by decide)) (by rw [hms]; omega) _ hseq)).mono fun e w' h => ?_
    obtain ⟨v, s1, rfl, hp1, hrow, _, hB⟩ := h
    refine ⟨v, rfl, below_extK hB, ?_⟩
    have hs : s1.mergeSort leB = zcr ss := mergeSort_of_perm (hp1.trans hp)
    have hl1 : s1.length = (zcr ss).length := by rw [← hs]; exact (List.length_mergeSort _).symm
    refine textsAt_of (T := σ.t 26) hl1 ?_
    rw [← hs]
    exact hrow
  nil w bq hq := by
    have hseq := AnyZ.keys_gives_nil K Fence.wide 2 trivial rfl bq w (zbF hq) hq
    refine (callsIn_wide.1 (AnyZ.sorted_in S Fence.wide 5 trivial trivial trivial trivial rfl (by omega) (hsort _) e9 (ρ.f 10) #[.pointer (some ⟨bq, 0, none⟩)] trivial eg _ 0 (Nat.zero_le _) (by omega) _ hseq)).mono fun e w' h => ?_
    obtain ⟨v, s1, rfl, rfl, hrow, _, hB⟩ := h
    exact ⟨v, rfl, below_extK hB, textsAt_of (T := σ.t 26) (n := 0) rfl (by simpa using hrow)⟩
end Go.Am
namespace Go.Proofs.YtdnbmbfonpkpfaaGreatDoor
open Go.Shelf Go.ChangeShapes Go.WideShapes Go.ChangeAt Go.RowKit
open Go.Maps Go.Sort
def Tryz.sortedK_ren : Go.Shelf.Ren := ⟨fun | 6 => 22 | 8 => 53 | 9 => 54 | 11 => 85 | 13 => 87 | 12 => 86 | 23 => 124 | 24 => 125 | 14 => 115 | 15 => 116 | 16 => 117 | 17 => 118 | 18 => 119 | 19 => 120 | 20 => 121 | 21 => 122 | 22 => 123 | 25 => 156 | 26 => 157 | 27 => 158 | 28 => 159 | 29 => 160 | 30 => 161 | 31 => 185 | n => n, fun | 26 => 9 | 28 => 60 | 24 => 26 | 0 => 0 | 3 => 3 | 37 => 153 | 48 => 200 | 50 => 156 | 4 => 4 | 40 => 193 | 39 => 192 | 45 => 197 | 5 => 5 | 9 => 9 | 51 => 225 | 55 => 229 | 57 => 250 | 58 => 138 | 33 => 71 | n => n, fun | n => n⟩
theorem Tryz.sortedK : Go.Proofs.SlLaysZ.n6 Tryz.prog Tryz.sortedK_ren := {
  mixed := by kernel_rfl
  f6 := ⟨Tryz.f22.name, by decide, Tryz.func22.trans (congrArg some (by kernel_rfl))⟩
  f8 := ⟨Tryz.f53.name, by decide, Tryz.func53.trans (congrArg some (by kernel_rfl))⟩
  f11 := ⟨Tryz.f85.name, by decide, Tryz.func85.trans (congrArg some (by kernel_rfl))⟩
  t0 := Tryz.underlying0
  a0 := Tryz.isAgg0
  z0 := Tryz.sizeOf0
  v0 := Tryz.zeroValue0
  t24 := Tryz.underlying26
  a24 := Tryz.isAgg26
  z24 := Tryz.sizeOf26
  v24 := Tryz.zeroValue26
  t26 := Tryz.underlying9
  a26 := Tryz.isAgg9
  z26 := Tryz.sizeOf9
  v26 := Tryz.zeroValue9
  t28 := Tryz.underlying60
  a28 := Tryz.isAgg60
  z28 := Tryz.sizeOf60
  v28 := Tryz.zeroValue60
  i26 := by kernel_rfl }
def Tryz.sortK_ren : Go.Shelf.Ren := ⟨fun | 6 => 54 | 8 => 87 | 9 => 86 | 19 => 124 | 20 => 125 | 21 => 115 | 22 => 116 | 23 => 117 | 24 => 118 | 25 => 119 | 26 => 120 | 27 => 121 | 28 => 122 | 29 => 123 | 36 => 156 | 31 => 157 | 32 => 158 | 37 => 159 | 38 => 160 | 39 => 161 | 41 => 185 | n => n, fun | 27 => 26 | 29 => 9 | 3 => 3 | 32 => 153 | 26 => 26 | 0 => 0 | 44 => 200 | 46 => 156 | 4 => 4 | 36 => 193 | 35 => 192 | 41 => 197 | 5 => 5 | 9 => 9 | 53 => 225 | 57 => 229 | 63 => 250 | 64 => 138 | n => n, fun | n => n⟩
theorem Tryz.sortK : Go.Proofs.SlLaysM.n6 Tryz.prog Tryz.sortK_ren := {
  mixed := by kernel_rfl
  f6 := ⟨Tryz.f54.name, by decide, Tryz.func54.trans (congrArg some (by kernel_rfl))⟩
  f8 := Tryz.func87.trans (congrArg some (by kernel_rfl))
  f9 := ⟨Tryz.f86.name, by decide, Tryz.func86.trans (congrArg some (by kernel_rfl))⟩
  f19 := Tryz.func124.trans (congrArg some (by kernel_rfl))
  f20 := Tryz.func125.trans (congrArg some (by kernel_rfl))
  f21 := ⟨Tryz.f115.name, by decide, Tryz.func115.trans (congrArg some (by kernel_rfl))⟩
  f22 := ⟨Tryz.f116.name, by decide, Tryz.func116.trans (congrArg some (by kernel_rfl))⟩
  f23 := ⟨Tryz.f117.name, by decide, Tryz.func117.trans (congrArg some (by kernel_rfl))⟩
  f24 := ⟨Tryz.f118.name, by decide, Tryz.func118.trans (congrArg some (by kernel_rfl))⟩
  f25 := ⟨Tryz.f119.name, by decide, Tryz.func119.trans (congrArg some (by kernel_rfl))⟩
  f26 := ⟨Tryz.f120.name, by decide, Tryz.func120.trans (congrArg some (by kernel_rfl))⟩
  f27 := ⟨Tryz.f121.name, by decide, Tryz.func121.trans (congrArg some (by kernel_rfl))⟩
  f28 := ⟨Tryz.f122.name, by decide, Tryz.func122.trans (congrArg some (by kernel_rfl))⟩
  f29 := ⟨Tryz.f123.name, by decide, Tryz.func123.trans (congrArg some (by kernel_rfl))⟩
  f31 := Tryz.func157.trans (congrArg some (by kernel_rfl))
  f32 := Tryz.func158.trans (congrArg some (by kernel_rfl))
  f36 := ⟨Tryz.f156.name, by decide, Tryz.func156.trans (congrArg some (by kernel_rfl))⟩
  f37 := ⟨Tryz.f159.name, by decide, Tryz.func159.trans (congrArg some (by kernel_rfl))⟩
  f38 := ⟨Tryz.f160.name, by decide, Tryz.func160.trans (congrArg some (by kernel_rfl))⟩
  f39 := ⟨Tryz.f161.name, by decide, Tryz.func161.trans (congrArg some (by kernel_rfl))⟩
  f41 := ⟨Tryz.f185.name, by decide, Tryz.func185.trans (congrArg some (by kernel_rfl))⟩
  t0 := Tryz.underlying0
  a0 := Tryz.isAgg0
  z0 := Tryz.sizeOf0
  v0 := Tryz.zeroValue0
  t3 := Tryz.underlying3
  a3 := Tryz.isAgg3
  z3 := Tryz.sizeOf3
  v3 := Tryz.zeroValue3
  t4 := Tryz.underlying4
  a4 := Tryz.isAgg4
  z4 := Tryz.sizeOf4
  v4 := Tryz.zeroValue4
  t5 := Tryz.underlying5
  a5 := Tryz.isAgg5
  z5 := Tryz.sizeOf5
  v5 := Tryz.zeroValue5
  t9 := Tryz.underlying9
  a9 := Tryz.isAgg9
  z9 := Tryz.sizeOf9
  v9 := Tryz.zeroValue9
  t26 := Tryz.underlying26
  a26 := Tryz.isAgg26
  z26 := Tryz.sizeOf26
  v26 := Tryz.zeroValue26
  t27 := Tryz.underlying26
  a27 := Tryz.isAgg26
  z27 := Tryz.sizeOf26
  v27 := Tryz.zeroValue26
  t29 := Tryz.underlying9
  a29 := Tryz.isAgg9
  z29 := Tryz.sizeOf9
  v29 := Tryz.zeroValue9
  t32 := Tryz.underlying153
  a32 := Tryz.isAgg153
  z32 := Tryz.sizeOf153
  v32 := Tryz.zeroValue153
  t35 := Tryz.underlying192
  a35 := Tryz.isAgg192
  z35 := Tryz.sizeOf192
  v35 := Tryz.zeroValue192
  t36 := Tryz.underlying193
  a36 := Tryz.isAgg193
  z36 := Tryz.sizeOf193
  v36 := Tryz.zeroValue193
  t41 := Tryz.underlying197
  a41 := Tryz.isAgg197
  z41 := Tryz.sizeOf197
  v41 := Tryz.zeroValue197
  t44 := Tryz.underlying200
  a44 := Tryz.isAgg200
  z44 := Tryz.sizeOf200
  v44 := Tryz.zeroValue200
  t46 := Tryz.underlying156
  a46 := Tryz.isAgg156
  z46 := Tryz.sizeOf156
  v46 := Tryz.zeroValue156
  t53 := Tryz.underlying225
  a53 := Tryz.isAgg225
  z53 := Tryz.sizeOf225
  v53 := Tryz.zeroValue225
  t57 := Tryz.underlying229
  a57 := Tryz.isAgg229
  z57 := Tryz.sizeOf229
  v57 := Tryz.zeroValue229
  t63 := Tryz.underlying250
  a63 := Tryz.isAgg250
  z63 := Tryz.sizeOf250
  v63 := Tryz.zeroValue250
  t64 := Tryz.underlying138
  a64 := Tryz.isAgg138
  z64 := Tryz.sizeOf138
  v64 := Tryz.zeroValue138 }
theorem sortsK (m : Nat) : AnyZ.SortsIn Tryz.prog Tryz.sortedK_ren Fence.wide m :=
  ⟨fun blk off cap ss W hH hblk hsz => callsIn_wide.2 (AnyM.slices_Sort_string Tryz.sortK blk off cap ss W hH hblk hsz),
   fun p cap W => callsIn_wide.2 (AnyM.slices_Sort_string_none Tryz.sortK p cap W)⟩
def Tryz.keysK0_ren : Go.Shelf.Ren := ⟨fun | 7 => 23 | 10 => 55 | n => n, fun | 23 => 62 | 26 => 9 | 3 => 9 | 28 => 60 | 0 => 0 | 27 => 59 | 33 => 71 | 4 => 4 | n => n, fun | n => n⟩
theorem Tryz.keysK0 : Go.Proofs.SlLaysZ.n7 Tryz.prog Tryz.keysK0_ren := {
  mixed := by kernel_rfl
  f7 := ⟨Tryz.f23.name, by decide, Tryz.func23.trans (congrArg some (by kernel_rfl))⟩
  f10 := ⟨Tryz.f55.name, by decide, Tryz.func55.trans (congrArg some (by kernel_rfl))⟩
  t0 := Tryz.underlying0
  a0 := Tryz.isAgg0
  z0 := Tryz.sizeOf0
  v0 := Tryz.zeroValue0
  t4 := Tryz.underlying4
  a4 := Tryz.isAgg4
  z4 := Tryz.sizeOf4
  v4 := Tryz.zeroValue4
  t23 := Tryz.underlying62
  a23 := Tryz.isAgg62
  z23 := Tryz.sizeOf62
  v23 := Tryz.zeroValue62
  t26 := Tryz.underlying9
  a26 := Tryz.isAgg9
  z26 := Tryz.sizeOf9
  v26 := Tryz.zeroValue9
  t27 := Tryz.underlying59
  a27 := Tryz.isAgg59
  z27 := Tryz.sizeOf59
  v27 := Tryz.zeroValue59
  t28 := Tryz.underlying60
  a28 := Tryz.isAgg60
  z28 := Tryz.sizeOf60
  v28 := Tryz.zeroValue60
  t33 := Tryz.underlying71
  a33 := Tryz.isAgg71
  z33 := Tryz.sizeOf71
  v33 := Tryz.zeroValue71 }
theorem keysRow0 : Go.Am.KeysRow Tryz.prog 22 55 :=
  Go.Am.keysRow_of (ρ := Tryz.keysK0_ren) (σ := Tryz.sortedK_ren) { Tryz.keysK0 with } Tryz.sortedK sortsK (fun us w => Go.Am.zzN (by kernel_rfl) us w) (fun us w => Go.Am.zzN (by kernel_rfl) us w) (fun us w => Go.Am.zzN (by kernel_rfl) us w)
def Tryz.itoaL_ren : Go.Shelf.Ren := ⟨fun | 171 => 14 | 243 => 30 | 246 => 61 | 283 => 91 | 284 => 92 | 285 => 93 | 286 => 94 | 129 => 125 | 317 => 135 | 318 => 136 | 319 => 137 | 320 => 138 | 337 => 165 | 338 => 166 | n => n, fun | 3 => 3 | 9 => 9 | 2 => 2 | 4 => 4 | 171 => 155 | 0 => 0 | 53 => 156 | 37 => 132 | 5 => 5 | 173 => 159 | 212 => 207 | 51 => 200 | 20 => 20 | 213 => 208 | 46 => 153 | 232 => 253 | 233 => 254 | n => n, fun | 17 => 1 | 18 => 2 | 19 => 3 | n => n⟩
theorem Tryz.itoaL : Go.Proofs.LaysM.n171 Tryz.prog Tryz.itoaL_ren := {
  mixed := by kernel_rfl
  f129 := Tryz.func125.trans (congrArg some (by kernel_rfl))
  f171 := Tryz.func14.trans (congrArg some (by kernel_rfl))
  f243 := Tryz.func30.trans (congrArg some (by kernel_rfl))
  f246 := Tryz.func61.trans (congrArg some (by kernel_rfl))
  f283 := Tryz.func91.trans (congrArg some (by kernel_rfl))
  f284 := Tryz.func92.trans (congrArg some (by kernel_rfl))
  f285 := Tryz.func93.trans (congrArg some (by kernel_rfl))
  f286 := Tryz.func94.trans (congrArg some (by kernel_rfl))
  f317 := Tryz.func135.trans (congrArg some (by kernel_rfl))
  f318 := Tryz.func136.trans (congrArg some (by kernel_rfl))
  f319 := Tryz.func137.trans (congrArg some (by kernel_rfl))
  f320 := Tryz.func138.trans (congrArg some (by kernel_rfl))
  f337 := Tryz.func165.trans (congrArg some (by kernel_rfl))
  f338 := Tryz.func166.trans (congrArg some (by kernel_rfl))
  t0 := Tryz.underlying0
  a0 := Tryz.isAgg0
  z0 := Tryz.sizeOf0
  v0 := Tryz.zeroValue0
  t2 := Tryz.underlying2
  a2 := Tryz.isAgg2
  z2 := Tryz.sizeOf2
  v2 := Tryz.zeroValue2
  t3 := Tryz.underlying3
  a3 := Tryz.isAgg3
  z3 := Tryz.sizeOf3
  v3 := Tryz.zeroValue3
  t4 := Tryz.underlying4
  a4 := Tryz.isAgg4
  z4 := Tryz.sizeOf4
  v4 := Tryz.zeroValue4
  t5 := Tryz.underlying5
  a5 := Tryz.isAgg5
  z5 := Tryz.sizeOf5
  v5 := Tryz.zeroValue5
  t9 := Tryz.underlying9
  a9 := Tryz.isAgg9
  z9 := Tryz.sizeOf9
  v9 := Tryz.zeroValue9
  t20 := Tryz.underlying20
  a20 := Tryz.isAgg20
  z20 := Tryz.sizeOf20
  v20 := Tryz.zeroValue20
  t37 := Tryz.underlying132
  a37 := Tryz.isAgg132
  z37 := Tryz.sizeOf132
  v37 := Tryz.zeroValue132
  t46 := Tryz.underlying153
  a46 := Tryz.isAgg153
  z46 := Tryz.sizeOf153
  v46 := Tryz.zeroValue153
  t51 := Tryz.underlying200
  a51 := Tryz.isAgg200
  z51 := Tryz.sizeOf200
  v51 := Tryz.zeroValue200
  t53 := Tryz.underlying156
  a53 := Tryz.isAgg156
  z53 := Tryz.sizeOf156
  v53 := Tryz.zeroValue156
  t171 := Tryz.underlying155
  a171 := Tryz.isAgg155
  z171 := Tryz.sizeOf155
  v171 := Tryz.zeroValue155
  t173 := Tryz.underlying159
  a173 := Tryz.isAgg159
  z173 := Tryz.sizeOf159
  v173 := Tryz.zeroValue159
  t212 := Tryz.underlying207
  a212 := Tryz.isAgg207
  z212 := Tryz.sizeOf207
  v212 := Tryz.zeroValue207
  t213 := Tryz.underlying208
  a213 := Tryz.isAgg208
  z213 := Tryz.sizeOf208
  t232 := Tryz.underlying253
  a232 := Tryz.isAgg253
  z232 := Tryz.sizeOf253
  v232 := Tryz.zeroValue253
  t233 := Tryz.underlying254
  a233 := Tryz.isAgg254
  z233 := Tryz.sizeOf254
  v233 := Tryz.zeroValue254
  g17 := by kernel_rfl
  g18 := by kernel_rfl
  g19 := by kernel_rfl
  i0 := by kernel_rfl
  i2 := by kernel_rfl
  i3 := by kernel_rfl
  i4 := by kernel_rfl
  i5 := by kernel_rfl
  i9 := by kernel_rfl
  i20 := by kernel_rfl
  i37 := by kernel_rfl
  i46 := by kernel_rfl
  i51 := by kernel_rfl
  i53 := by kernel_rfl
  i171 := by kernel_rfl
  i173 := by kernel_rfl
  i212 := by kernel_rfl
  i232 := by kernel_rfl
  i233 := by kernel_rfl
  m17 := by kernel_rfl
  m18 := by kernel_rfl
  m19 := by kernel_rfl }
theorem pureRow0 : Go.Am.PureRow Tryz.prog Go.Am.X.gl 14 Go.Am.zjx :=
  Go.Am.itoaRow (ρ := Tryz.itoaL_ren) Tryz.itoaL 1 (by kernel_rfl) (by kernel_rfl) (fun us w => Go.Am.zzN (by kernel_rfl) us w)
def Tryz.trimL_ren : Go.Shelf.Ren := ⟨fun | 160 => 141 | 232 => 174 | 231 => 173 | 227 => 175 | 234 => 177 | 233 => 176 | 236 => 179 | 235 => 178 | 228 => 190 | 271 => 193 | 151 => 192 | 197 => 191 | 120 => 202 | 152 => 201 | 260 => 200 | 137 => 155 | 119 => 204 | 224 => 205 | 225 => 206 | 217 => 184 | 266 => 197 | n => n, fun | 9 => 9 | 4 => 4 | 3 => 3 | 5 => 5 | 117 => 242 | 116 => 241 | 0 => 0 | 124 => 245 | 21 => 21 | 105 => 258 | 46 => 153 | 119 => 267 | 139 => 270 | 138 => 269 | n => n, fun | 3 => 4 | 4 => 5 | n => n⟩
theorem Tryz.trimL : Go.Proofs.Lays.n160 Tryz.prog Tryz.trimL_ren := {
  mixed := by kernel_rfl
  f119 := Tryz.func204.trans (congrArg some (by kernel_rfl))
  f120 := Tryz.func202.trans (congrArg some (by kernel_rfl))
  f137 := Tryz.func155.trans (congrArg some (by kernel_rfl))
  f151 := Tryz.func192.trans (congrArg some (by kernel_rfl))
  f152 := Tryz.func201.trans (congrArg some (by kernel_rfl))
  f160 := Tryz.func141.trans (congrArg some (by kernel_rfl))
  f197 := Tryz.func191.trans (congrArg some (by kernel_rfl))
  f217 := Tryz.func184.trans (congrArg some (by kernel_rfl))
  f224 := Tryz.func205.trans (congrArg some (by kernel_rfl))
  f225 := Tryz.func206.trans (congrArg some (by kernel_rfl))
  f227 := Tryz.func175.trans (congrArg some (by kernel_rfl))
  f228 := Tryz.func190.trans (congrArg some (by kernel_rfl))
  f231 := Tryz.func173.trans (congrArg some (by kernel_rfl))
  f232 := Tryz.func174.trans (congrArg some (by kernel_rfl))
  f233 := Tryz.func176.trans (congrArg some (by kernel_rfl))
  f234 := Tryz.func177.trans (congrArg some (by kernel_rfl))
  f235 := Tryz.func178.trans (congrArg some (by kernel_rfl))
  f236 := Tryz.func179.trans (congrArg some (by kernel_rfl))
  f260 := Tryz.func200.trans (congrArg some (by kernel_rfl))
  f266 := Tryz.func197.trans (congrArg some (by kernel_rfl))
  f271 := Tryz.func193.trans (congrArg some (by kernel_rfl))
  t0 := Tryz.underlying0
  a0 := Tryz.isAgg0
  z0 := Tryz.sizeOf0
  v0 := Tryz.zeroValue0
  t3 := Tryz.underlying3
  a3 := Tryz.isAgg3
  z3 := Tryz.sizeOf3
  v3 := Tryz.zeroValue3
  t4 := Tryz.underlying4
  a4 := Tryz.isAgg4
  z4 := Tryz.sizeOf4
  v4 := Tryz.zeroValue4
  t5 := Tryz.underlying5
  a5 := Tryz.isAgg5
  z5 := Tryz.sizeOf5
  v5 := Tryz.zeroValue5
  t9 := Tryz.underlying9
  a9 := Tryz.isAgg9
  z9 := Tryz.sizeOf9
  v9 := Tryz.zeroValue9
  t21 := Tryz.underlying21
  a21 := Tryz.isAgg21
  z21 := Tryz.sizeOf21
  v21 := Tryz.zeroValue21
  t46 := Tryz.underlying153
  a46 := Tryz.isAgg153
  z46 := Tryz.sizeOf153
  v46 := Tryz.zeroValue153
  t105 := Tryz.underlying258
  a105 := Tryz.isAgg258
  z105 := Tryz.sizeOf258
  v105 := Tryz.zeroValue258
  t116 := Tryz.underlying241
  a116 := Tryz.isAgg241
  z116 := Tryz.sizeOf241
  t117 := Tryz.underlying242
  a117 := Tryz.isAgg242
  z117 := Tryz.sizeOf242
  v117 := Tryz.zeroValue242
  t119 := Tryz.underlying267
  a119 := Tryz.isAgg267
  z119 := Tryz.sizeOf267
  t124 := Tryz.underlying245
  a124 := Tryz.isAgg245
  z124 := Tryz.sizeOf245
  v124 := Tryz.zeroValue245
  t138 := Tryz.underlying269
  a138 := Tryz.isAgg269
  z138 := Tryz.sizeOf269
  v138 := Tryz.zeroValue269
  t139 := Tryz.underlying270
  a139 := Tryz.isAgg270
  z139 := Tryz.sizeOf270
  v139 := Tryz.zeroValue270
  g3 := by kernel_rfl
  g4 := by kernel_rfl }
theorem pureRow1 : Go.Am.PureRow Tryz.prog Go.Am.X.gl 141 Go.Am.trimS :=
  Go.Am.trimRow (ρ := Tryz.trimL_ren) Tryz.trimL (by kernel_rfl) (fun us w => Go.Am.zzN (by kernel_rfl) us w)
theorem allChecked0 : (Go.Am.fns0.all fun p => Go.Am.zms Tryz.prog p.1 p.2) = true := by kernel_rfl
theorem fits0 : Go.Am.Fits Tryz.prog Go.Am.X0 := ⟨by kernel_rfl, fun f F h => Go.Am.zhO (p := fun f F => Go.Am.zms Tryz.prog f F) Go.Am.fns0 allChecked0 f F h, fun f vs r _ h => Go.Am.extF_ok ext1 ext2 h, fun f us h v h1 x _ hx => Go.Am.zyC (gs := Go.Am.GRL) (ps := Go.Am.PRL0) (fun g s hm => by cases hm) (fun g s hm => by
      simp only [Go.Am.PRL0, List.mem_cons, List.not_mem_nil, or_false, Prod.mk.injEq] at hm
      rcases hm with ⟨rfl, rfl⟩ | ⟨rfl, rfl⟩
      · exact pureRow0
      · exact pureRow1) hx⟩
theorem pureRow2 : Go.Am.PureRow Tryz.prog Go.Am.X.gl 15 Go.Am.zzI :=
  Go.Am.zsU fits0 Go.Am.zzO (fun us w => Go.Am.zzN (by kernel_rfl) us w)
theorem fits : Go.Am.Fits Tryz.prog Go.Am.X := ⟨by kernel_rfl, fun f F h => Go.Am.zhO (p := fun f F => Go.Am.zms Tryz.prog f F) Go.Am.fns allChecked f F h, fun f vs r _ h => Go.Am.extF_ok ext1 ext2 h, fun f us h v h1 x _ hx => Go.Am.libK_ok (ks := Go.Am.KRL) (gs := Go.Am.GRL) (ps := Go.Am.PRL) (fun g s hm => by
      simp only [Go.Am.KRL, List.mem_cons, List.not_mem_nil, or_false, Prod.mk.injEq] at hm
      obtain ⟨rfl, rfl⟩ := hm
      exact keysRow0) (fun g s hm => by cases hm) (fun g s hm => by
      simp only [Go.Am.PRL, List.mem_cons, List.not_mem_nil, or_false, Prod.mk.injEq] at hm
      rcases hm with ⟨rfl, rfl⟩ | ⟨rfl, rfl⟩ | ⟨rfl, rfl⟩
      · exact pureRow0
      · exact pureRow1
      · exact pureRow2) hx⟩
def powers : List Int := [1, 10, 100, 1000, 10000, 100000, 1000000, 10000000, 100000000, 1000000000, 10000000000, 100000000000, 1000000000000, 10000000000000, 100000000000000, 1000000000000000, 10000000000000000, 100000000000000000, 1000000000000000000, 10000000000000000000]
theorem of_laid {W : World} (h : laidMetH Tryz.prog Rows.boardsAreOnceRow.laid W) : Go.Am.GInv Go.Am.X.gl (Go.Am.imm [] [] W) := by
  rw [MakeChecks.laidMetH_plain _ _ _ (by kernel_rfl)] at h
  have h2 : laidMet Tryz.prog (("internal/strconv.uint64pow10", Go.Lib.tabData .u64 powers) :: _) W := h.tail.tail
  exact Go.Am.ginv_tab (zs := powers) (by kernel_rfl) (Go.Lib.tabIs_of_head (g := 1) (t := 207) (e := 156) (n := 20) (by kernel_rfl) (by kernel_rfl) Tryz.underlying207 Tryz.underlying156 (by kernel_rfl) (by kernel_rfl) h2) (by kernel_rfl)

set_option maxRecDepth 100000 in
theorem law_lifted (os : Os) (started : os.Started) (H : Type) (enc : TypeId × Value → H) :
    ReturnsInHanded {} Tryz.checked os 3 .any (fun w args => (Rows.boardsAreOnceSpec.pre enc Tryz.prog Tryz.f3 [] false w args ∧ laidMetH Tryz.prog Rows.boardsAreOnceRow.laid w) ∧ sizedMet enc Tryz.prog Tryz.f3 (OpenSpec.ofChange Rows.boardsAreOnceSpec) false w args)
      (Rows.boardsAreOnceSpec.post enc Tryz.prog Tryz.f3 false true false false) := by
  refine returnsInHanded_of_change_and (C := Tryz.checked) (X := fun w _ => laidMetH Tryz.prog Rows.boardsAreOnceRow.laid w) (fun _ _ _ hh h => h.of_heap hh) own started (by kernel_rfl) Tryz.func3
    (ChangeSpec.witness_shaped (enc := enc) (C := Tryz.checked) (os := os) (X := fun w _ => laidMetH Tryz.prog Rows.boardsAreOnceRow.laid w) false (World.laidAll Tryz.prog os Rows.boardsAreOnceRow.laid) #[.slice none 0 0] 8 (World.laidAll_os _ _ _)
      (World.shaped_of_ZipB (by kernel_rfl) (by kernel_rfl)) (by kernel_rfl) (by kernel_rfl) (by kernel_rfl)
      (by rw [MakeChecks.laidMetH_plain _ _ _ (by kernel_rfl)]; exact laidMet_laidAll _ (by kernel_rfl) (by kernel_rfl))) ?_
  intro W base args ds gs before hval0 hW _ _ hL _
  have hval : ∀ (j : Nat) t v, Tryz.f3.params[j]? = some t → args[j]? = some v → Value.okWide Tryz.prog W .any base t v := hval0
  have hW' := hW
  obtain ⟨p, q, hA0, hV, rfl, _, _⟩ := hW
  have hA : DataW.TrodAll enc Tryz.prog W 0 (fun _ => true) true Tryz.f3.params.toList args.toList ds p := hA0
  rw [Tryz.params3] at hA hval
  obtain ⟨v0, d0, rfl, rfl, h0⟩ := trodAll_one hA
  obtain ⟨rfl, rfl⟩ := trodVars_none hV
  have h0k := h0
  obtain ⟨fuel, hf⟩ := h0
  clear hA0 hval0
  simp only [List.append_nil] at hW'
  have hlt : ∀ x ∈ p, x.block < W.heap.size := fun x hx => by simpa using hW'.lt x hx
  have hG := of_laid hL
  have law : ∀ L : List Int, Go.Am.z0c Go.Am.X 3 [Go.Am.zuC L] [] fun v _ _ => v = .p (.bool true) := fun L => by
    have := Go.Am.law_BO L (K := fun v _ _ => v = .p (.bool true))
    exact this.symm ▸ rfl
  have key : Calls Tryz.prog 3 #[v0] W fun e W' => e = .returned (.bool true) ∧ Below W.heap.size W W' := by
    obtain ⟨a0, len, cap, rfl⟩ := okWide_slice Tryz.underlying22 (hval 0 22 v0 rfl rfl)
    rcases open_ints Tryz.underlying22 Tryz.underlying3 cellsInt hf with ⟨hcs, hx⟩ | ⟨a, len', cap', zs, hcs, _, hl, hm, hz, hx, hcell, hwz⟩
    · simp [Value.cells] at hcs
      obtain ⟨rfl, rfl, rfl⟩ := hcs
      exact Go.Am.law_nil fits Go.Am.x_q022 law W hG
    · simp [Value.cells] at hcs
      obtain ⟨rfl, rfl, rfl⟩ := hcs
      have hzl : len ≤ zs.length := by rw [hz]; split <;> omega
      exact Go.Am.law_ints fits Go.Am.x_q022 law hG hl hzl hcell
  refine key.mono fun e W' ⟨he, hb⟩ => ?_
  subst he
  have hargs : DataW.Trod enc Tryz.prog W' 0 (fun b => decide (b < W.heap.size)) true 22 v0 d0 p :=
    Below.trod laidOut (by kernel_rfl) (of_decide_eq_true (by kernel_rfl)) h0k hb hlt
  exact ⟨_, rfl, ⟨_, _, _, [], _, [], hW', trodAll_mk1 (shut_bool Tryz.underlying4 _), trodAll_mk1 hargs, rfl, hb.frame _, fun h => by cases h⟩⟩

theorem zNamed : Tryz.prog.funcNamed "scanchain/scankeep2.BoardsAreOnce" = some 3 := by kernel_rfl
theorem zJoin : joinedFacts Tryz.pinned.checked.prog 3 Tryz.f3 Rows.boardsAreOnceSpec Rows.boardsAreOnceRow = true := by kernel_rfl
theorem zInst : Tryz.f3.isInstance Tryz.pinned.checked.prog Rows.boardsAreOnceRow.origin Rows.boardsAreOnceRow.targs := of_decide_eq_true (by kernel_rfl)
theorem zWrap : Tryz.f3.isWrapper Tryz.pinned.checked.prog Rows.boardsAreOnceRow.wrapper Rows.boardsAreOnceRow.mainSum := by unfold Func.isWrapper; rw [if_neg (by decide +kernel)]; exact ⟨rfl, rfl⟩
theorem boardsAreOnce_holds : Rows.BoardsAreOnceSaid :=
  OpenClaim.holds_of_wide 3 Tryz.f3 rfl rfl rfl rfl rfl rfl rfl ⟨rfl, rfl, rfl, rfl, rfl⟩ rfl rfl rfl rfl rfl zNamed Tryz.func3 zJoin zInst zWrap
    (fun os started H enc _ => law_lifted os started H enc)
theorem zText : Rows.boardsAreOnceRow.wfByText (OpenSpec.ofChange Rows.boardsAreOnceSpec) = true := by kernel_rfl
theorem zMain : Tryz.pinned.checked.prog.mainIs = some (true, "8f9dfe9a6c60db19a3efcba6659e2f88b4076d817c76cd8abcde60e563a1b770".toList) := by kernel_rfl
theorem zLooks : false = Tryz.pinned.checked.prog.looks [] := by kernel_rfl
theorem zStand : ([22].all fun u => !Tryz.prog.wantsStandIn u) = true := by kernel_rfl
theorem zGoes : false = Rows.boardsAreOnceRow.goesBy Tryz.pinned.checked.prog := by kernel_rfl
theorem boardsAreOnce_card_holds : Rows.BoardsAreOnceCardSaid :=
  Claim7.holds_tied_plain_at .later [] [.data, .data, .data, .data, .pinned] true (true, "8f9dfe9a6c60db19a3efcba6659e2f88b4076d817c76cd8abcde60e563a1b770") false boardsAreOnce_holds (fun _ h => by cases h) zText (fun _ h => by cases h) boardsAreOnce_row_tie rfl ⟨rfl, rfl⟩ zMain rfl
    (fun f fn hf hfn => by
      obtain rfl : f = 3 := Option.some.inj (zNamed.symm.trans hf) |>.symm
      obtain rfl : fn = Tryz.f3 := (Option.some.inj (Tryz.func3.symm.trans hfn)).symm
      exact ⟨zLooks, fun j t ht => by
        rw [Tryz.params3] at ht
        have hm : t ∈ [22] := by simpa using Array.mem_of_getElem? ht
        exact (show Tryz.prog.wantsStandIn t = false by simpa using List.all_eq_true.1 zStand t hm)⟩)
    zGoes

end Go.Proofs.YtdnbmbfonpkpfaaGreatDoor
