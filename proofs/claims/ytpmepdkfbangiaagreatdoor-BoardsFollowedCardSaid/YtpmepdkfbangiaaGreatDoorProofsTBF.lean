/- BoardsFollowed returns true at every input, and the input reads behind the call as it read before. Conditions: the listed package-level variables hold what the program's text lays in them (the card ties them to the text). -/
import Derived.Test.YtpmepdkfbangiaaGreatDoorRows
import Derived.Test.YtpmepdkfbangiaaGreatDoorlawBF10
import Derived.Test.YtpmepdkfbangiaaGreatDoorTie
import Derived.Test.YtpmepdkfbangiaaGreatDoorCards
import Derived.ProofKit
import Derived.Handy
import Derived.Lay
import Derived.SevenTiedAt
import Derived.Stop.LaidErr
import Derived.Shelf.SlIter.Nil
import Derived.Shelf.SortM.Plain
import Derived.Shelf.SortM.SortNone
import Derived.Shelf.Spec.SlicesGrow
import Derived.Ground.NamesProg
set_option linter.unusedVariables false
namespace Go.Proofs.YtpmepdkfbangiaaGreatDoor
open Go.ChangeShapes Go.WideShapes Go.ChangeAt Go.RowKit

theorem own : ownKnob Tryz.prog.godebug = none := by kernel_rfl
theorem laidOut : laidOutB Tryz.prog = true := by kernel_rfl
theorem cellsInt : Tryz.prog.cellsOf 3 = 1 := by kernel_rfl
theorem allChecked : (Go.Am.fns.all fun p => Go.Am.nX Tryz.prog p.1 p.2) = true := by kernel_rfl
theorem ext1 : Go.Am.ExtRow Tryz.prog Go.Am.wG Go.Extern.BytealgIndexByte.indexByte := Go.Am.zs1 (by kernel_rfl) (by kernel_rfl)
theorem ext2 : Go.Am.ExtRow Tryz.prog Go.Am.xG Go.Extern.BytealgCompare.compare := Go.Am.zs1 (by kernel_rfl) (by kernel_rfl)
end Go.Proofs.YtpmepdkfbangiaaGreatDoor
namespace Go.Am
open Go.Proofs Go.RowKit Go.Maps Go.Sort Go.Shelf
variable {P : Program}
theorem below_extK {w w' : World} (h : Go.RowKit.Below w.heap.size w w') : WExt w w' := ⟨h.size, fun b hb => h.block b hb, by unfold zed; rw [h.os, h.tape, h.output]⟩
def noR : Value → Option (DataW Unit × List MemPlace) := fun _ => some (.map [], [])

theorem textsAt_of {w w' : World} {T : TypeId} {v : Value} {ss : List (List UInt8)} {n : Nat} (hn : n = ss.length) (hrow : w'.ownsRow w.heap.size T 1 v n (ss.map encStr)) : aO w w' v ss := by
  subst hn
  obtain ⟨_, h⟩ := hrow
  rcases h with ⟨rfl, hz⟩ | ⟨g, cap, cur, rfl, hb, hg, hc, _, hs, ht⟩
  · exact .inl ⟨List.eq_nil_of_length_eq_zero hz, rfl⟩
  · refine .inr ⟨g, cap, rfl, hb, hc, fun j s hj => ?_⟩
    have hlt := (List.getElem?_eq_some_iff.1 hj).1
    have h1 : (cur.toList.take (ss.length * 1))[j]? = some (encStr s) := by rw [ht, List.getElem?_map, hj]; rfl
    rw [List.getElem?_take, if_pos (by omega), Array.getElem?_toList] at h1
    simp only [World.cell?, hg]
    exact h1

theorem keysRow_of {ρ σ : Ren} (K : SlLaysZ.n10 P ρ) (S : SlLaysZ.n6 P σ) (hsort : ∀ m, AnyZ.SortsIn P σ Fence.wide m) (he : ∀ us w, (callFunc (σ.f 6) us).run P w = .ok (.enter (σ.f 6) us) w)
    (e9 : ∀ us w, (callFunc (σ.f 9) us).run P w = .ok (.enter (σ.f 9) us) w) (eg : ∀ us w, (callFunc (ρ.f 10) us).run P w = .ok (.enter (ρ.f 10) us) w) : KeysRow P (σ.f 6) (ρ.f 10) where
  enter := he
  run w bq bm clk ces ss hq hm hk hb1 hb2 hn hl hsz := by
    have hlen : ces.size = ss.length := by simpa using congrArg List.length hk
    have hkey : ∀ x ∈ ces.toList, ∃ s : List UInt8, s ∈ ss ∧ x.key = .string ⟨s.toArray⟩ ∧ Go.keyOf P (ρ.t 26) x.key = some (.string s) := by
      intro x hx
      have : x.key ∈ ss.map (fun s => Value.string ⟨s.toArray⟩) := by rw [← hk]; exact List.mem_map_of_mem hx
      obtain ⟨s, hs, e⟩ := List.mem_map.1 this
      refine ⟨s, hs, e.symm, ?_⟩
      rw [← e]
      have := hl s hs
      simp [Go.keyOf, K.t26, mapKey, this, ByteArray.size]
    have hR : ∀ x ∈ ces.toList, ∃ s : List UInt8, s ∈ ss ∧ x.key = .string ⟨s.toArray⟩ ∧ Go.WideElems.rd P (ρ.t 26) noR x = some (.string s, .map []) := by
      intro x hx
      obtain ⟨s, h1, h2, h3⟩ := hkey x hx
      exact ⟨s, h1, h2, Go.WideElems.rd_mk (R := noR) (key := x.key) (val := x.val) (born := x.born) (yv := (.map [], [])) h3 rfl⟩
    have F : Go.WideElems.Fit P (ρ.t 26) noR ces clk := by
      refine ⟨by rw [hlen]; exact Nat.le_trans hsz (by decide), ⟨hb1, hb2, ?_⟩, fun x hx => ?_⟩
      · rw [hk]
        refine List.pairwise_map.2 (hn.imp fun {a b} hne e => hne ?_)
        simpa using e
      · obtain ⟨s, _, _, h⟩ := hR x hx
        exact ⟨_, h⟩
    have hown := World.ownsMap_of_fit (R := noR) hm F (fun _ _ _ h => h)
    have hBm : bq < w.heap.size := RQ hq
    have hp : (strKeys (.map ((ces.toList.map (Go.WideElems.rg P (ρ.t 26) noR)).foldr DataW.insert []))).Perm ss := by
      show (List.map (fun p : Lit × DataW Unit => Go.strOf p.1) _).Perm ss
      refine ((WideShapes.sorted_perm _).map _).trans ?_
      rw [List.map_map]
      have : ces.toList.map ((fun p : Lit × DataW Unit => Go.strOf p.1) ∘ Go.WideElems.rg P (ρ.t 26) noR) = ss := by
        apply List.ext_getElem?
        intro i
        have hki := congrArg (·[i]?) hk
        simp only [List.getElem?_map] at hki ⊢
        cases hx : ces.toList[i]? with
        | none =>
          rw [hx] at hki
          cases hs : ss[i]? with
          | none => rfl
          | some s => rw [hs] at hki; cases hki
        | some x =>
          rw [hx] at hki
          obtain ⟨s, h1, h2, h3⟩ := hR x (List.mem_of_getElem? hx)
          cases hs : ss[i]? with
          | none => rw [hs] at hki; cases hki
          | some s' =>
            rw [hs] at hki
            simp only [Option.map_some, Option.some.injEq, h2, Value.string.injEq, ByteArray.mk.injEq] at hki
            have hss : s = s' := by simpa using congrArg Array.toList hki
            subst hss
            simp only [Option.map_some, Function.comp, Go.WideElems.rg_of h3]
            rfl
      rw [this]
    have hms : Maps.size (.map ((ces.toList.map (Go.WideElems.rg P (ρ.t 26) noR)).foldr DataW.insert [])) = ss.length := by
      rw [← hlen]
      show List.length _ = _
      rw [length_sorted]
      simp
    have hseq := AnyZ.keys_gives K Fence.wide 2 trivial rfl (by omega) bq bm _ _ w hBm hq hown
    refine (callsIn_wide.1 (AnyZ.sorted_in S Fence.wide 5 trivial trivial trivial trivial rfl (by omega) (hsort _) e9 (ρ.f 10) #[.pointer (some ⟨bq, 0, none⟩)] trivial eg _ _ (by rw [hms]; exact Nat.le_trans hsz (by decide)) (by rw [hms]; omega) _ hseq)).mono fun e w' h => ?_
    obtain ⟨v, s1, rfl, hp1, hrow, _, hB⟩ := h
    refine ⟨v, rfl, below_extK hB, ?_⟩
    have hs : s1.mergeSort leB = SH ss := mergeSort_of_perm (hp1.trans hp)
    have hl1 : s1.length = (SH ss).length := by rw [← hs]; exact (List.length_mergeSort _).symm
    refine textsAt_of (T := σ.t 26) hl1 ?_
    rw [← hs]
    exact hrow
  nil w bq hq := by
    have hseq := AnyZ.keys_gives_nil K Fence.wide 2 trivial rfl bq w (RQ hq) hq
    refine (callsIn_wide.1 (AnyZ.sorted_in S Fence.wide 5 trivial trivial trivial trivial rfl (by omega) (hsort _) e9 (ρ.f 10) #[.pointer (some ⟨bq, 0, none⟩)] trivial eg _ 0 (Nat.zero_le _) (by omega) _ hseq)).mono fun e w' h => ?_
    obtain ⟨v, s1, rfl, rfl, hrow, _, hB⟩ := h
    exact ⟨v, rfl, below_extK hB, textsAt_of (T := σ.t 26) (n := 0) rfl (by simpa using hrow)⟩
end Go.Am
namespace Go.Proofs.YtpmepdkfbangiaaGreatDoor
end Go.Proofs.YtpmepdkfbangiaaGreatDoor
namespace Go.Am
variable {P : Program}
/-- The kit's contract for slices.Grow gives the row. -/
theorem growRow_of {ρ : Go.Shelf.Ren} (L : Go.Proofs.Lays8.n4 P ρ) (i0 : TypeInfo) (z : Value) (sh : Sh) (hi0 : P.info? (ρ.t 25) = some i0) (hz0 : i0.zero = some z) (hs : i0.size = kA sh) (hs0 : 0 < i0.size) (hb : i0.bytes ≤ 1048576) (hz : z.cells.size = i0.size)
    (he : ∀ us w, (callFunc (ρ.f 4) us).run P w = .ok (.enter (ρ.f 4) us) w) : GrowRow P (ρ.f 4) sh where
  enter := he
  room a w := by
    have := Go.Proofs.Any8.slices_Grow_room L a 0 0 0 w (Nat.le_refl _) (by omega) (by omega) (by omega)
    exact this
  grow a n w h0 h1 := by
    have hbig : (0 + n) * i0.bytes ≤ 140737488355328 := by
      rw [Nat.zero_add]
      exact Nat.le_trans (Nat.mul_le_mul h1 hb) (by decide)
    refine (Go.Proofs.Any8.slices_Grow_grow L i0 z hi0 hz0 hs0 a 0 0 n [] w (Nat.le_refl _) (by omega) hbig (by omega) (by simp) (fun _ => rfl) (by simp)).mono fun e w' he => ?_
    obtain ⟨rfl, rfl⟩ := he
    refine ⟨_, _, _, rfl, ?_, rfl⟩
    have hge : 0 + n ≤ grownCap w (0 + n) 0 (ρ.t 25) := grownCap_ge w _ _ _
    simp only [Array.size_append, List.size_toArray, List.length_nil, size_zeroCells, hz, hs]
    rw [Nat.zero_add, ← Nat.right_distrib]
    congr 1
    omega
end Go.Am
namespace Go.Proofs.YtpmepdkfbangiaaGreatDoor
open Go.Shelf Go.ChangeShapes Go.WideShapes Go.ChangeAt Go.RowKit
open Go.Maps Go.Sort
def Tryz.sortedK_ren : Go.Shelf.Ren := ⟨fun | 6 => 42 | 8 => 76 | 9 => 77 | 11 => 106 | 13 => 90 | 12 => 107 | 23 => 124 | 24 => 125 | 14 => 138 | 15 => 139 | 16 => 140 | 17 => 141 | 18 => 142 | 19 => 143 | 20 => 144 | 21 => 145 | 22 => 146 | 25 => 162 | 26 => 153 | 27 => 154 | 28 => 163 | 29 => 164 | 30 => 165 | 31 => 174 | n => n, fun | 26 => 9 | 28 => 92 | 24 => 26 | 0 => 0 | 3 => 3 | 37 => 129 | 48 => 162 | 50 => 164 | 4 => 4 | 40 => 155 | 39 => 154 | 45 => 159 | 5 => 5 | 9 => 9 | 51 => 186 | 55 => 190 | 57 => 199 | 58 => 200 | 33 => 86 | n => n, fun | n => n⟩
theorem Tryz.sortedK : Go.Proofs.SlLaysZ.n6 Tryz.prog Tryz.sortedK_ren := {
  mixed := by kernel_rfl
  f6 := ⟨Tryz.f42.name, by decide, Tryz.func42.trans (congrArg some (by kernel_rfl))⟩
  f8 := ⟨Tryz.f76.name, by decide, Tryz.func76.trans (congrArg some (by kernel_rfl))⟩
  f11 := ⟨Tryz.f106.name, by decide, Tryz.func106.trans (congrArg some (by kernel_rfl))⟩
  t0 := Tryz.underlying0
  a0 := Tryz.isAgg0
  z0 := Tryz.sizeOf0
  v0 := Tryz.zeroValue0
  t24 := Tryz.underlying26
  a24 := Tryz.isAgg26
  z24 := Tryz.sizeOf26
  v24 := Tryz.zeroValue26
  t26 := Tryz.underlying9
  a26 := Tryz.isAgg9
  z26 := Tryz.sizeOf9
  v26 := Tryz.zeroValue9
  t28 := Tryz.underlying92
  a28 := Tryz.isAgg92
  z28 := Tryz.sizeOf92
  v28 := Tryz.zeroValue92
  i26 := by kernel_rfl }
def Tryz.sortK_ren : Go.Shelf.Ren := ⟨fun | 6 => 77 | 8 => 90 | 9 => 107 | 19 => 124 | 20 => 125 | 21 => 138 | 22 => 139 | 23 => 140 | 24 => 141 | 25 => 142 | 26 => 143 | 27 => 144 | 28 => 145 | 29 => 146 | 36 => 162 | 31 => 153 | 32 => 154 | 37 => 163 | 38 => 164 | 39 => 165 | 41 => 174 | n => n, fun | 27 => 26 | 29 => 9 | 3 => 3 | 32 => 129 | 26 => 26 | 0 => 0 | 44 => 162 | 46 => 164 | 4 => 4 | 36 => 155 | 35 => 154 | 41 => 159 | 5 => 5 | 9 => 9 | 53 => 186 | 57 => 190 | 63 => 199 | 64 => 200 | n => n, fun | n => n⟩
theorem Tryz.sortK : Go.Proofs.SlLaysM.n6 Tryz.prog Tryz.sortK_ren := {
  mixed := by kernel_rfl
  f6 := ⟨Tryz.f77.name, by decide, Tryz.func77.trans (congrArg some (by kernel_rfl))⟩
  f8 := Tryz.func90.trans (congrArg some (by kernel_rfl))
  f9 := ⟨Tryz.f107.name, by decide, Tryz.func107.trans (congrArg some (by kernel_rfl))⟩
  f19 := Tryz.func124.trans (congrArg some (by kernel_rfl))
  f20 := Tryz.func125.trans (congrArg some (by kernel_rfl))
  f21 := ⟨Tryz.f138.name, by decide, Tryz.func138.trans (congrArg some (by kernel_rfl))⟩
  f22 := ⟨Tryz.f139.name, by decide, Tryz.func139.trans (congrArg some (by kernel_rfl))⟩
  f23 := ⟨Tryz.f140.name, by decide, Tryz.func140.trans (congrArg some (by kernel_rfl))⟩
  f24 := ⟨Tryz.f141.name, by decide, Tryz.func141.trans (congrArg some (by kernel_rfl))⟩
  f25 := ⟨Tryz.f142.name, by decide, Tryz.func142.trans (congrArg some (by kernel_rfl))⟩
  f26 := ⟨Tryz.f143.name, by decide, Tryz.func143.trans (congrArg some (by kernel_rfl))⟩
  f27 := ⟨Tryz.f144.name, by decide, Tryz.func144.trans (congrArg some (by kernel_rfl))⟩
  f28 := ⟨Tryz.f145.name, by decide, Tryz.func145.trans (congrArg some (by kernel_rfl))⟩
  f29 := ⟨Tryz.f146.name, by decide, Tryz.func146.trans (congrArg some (by kernel_rfl))⟩
  f31 := Tryz.func153.trans (congrArg some (by kernel_rfl))
  f32 := Tryz.func154.trans (congrArg some (by kernel_rfl))
  f36 := ⟨Tryz.f162.name, by decide, Tryz.func162.trans (congrArg some (by kernel_rfl))⟩
  f37 := ⟨Tryz.f163.name, by decide, Tryz.func163.trans (congrArg some (by kernel_rfl))⟩
  f38 := ⟨Tryz.f164.name, by decide, Tryz.func164.trans (congrArg some (by kernel_rfl))⟩
  f39 := ⟨Tryz.f165.name, by decide, Tryz.func165.trans (congrArg some (by kernel_rfl))⟩
  f41 := ⟨Tryz.f174.name, by decide, Tryz.func174.trans (congrArg some (by kernel_rfl))⟩
  t0 := Tryz.underlying0
  a0 := Tryz.isAgg0
  z0 := Tryz.sizeOf0
  v0 := Tryz.zeroValue0
  t3 := Tryz.underlying3
  a3 := Tryz.isAgg3
  z3 := Tryz.sizeOf3
  v3 := Tryz.zeroValue3
  t4 := Tryz.underlying4
  a4 := Tryz.isAgg4
  z4 := Tryz.sizeOf4
  v4 := Tryz.zeroValue4
  t5 := Tryz.underlying5
  a5 := Tryz.isAgg5
  z5 := Tryz.sizeOf5
  v5 := Tryz.zeroValue5
  t9 := Tryz.underlying9
  a9 := Tryz.isAgg9
  z9 := Tryz.sizeOf9
  v9 := Tryz.zeroValue9
  t26 := Tryz.underlying26
  a26 := Tryz.isAgg26
  z26 := Tryz.sizeOf26
  v26 := Tryz.zeroValue26
  t27 := Tryz.underlying26
  a27 := Tryz.isAgg26
  z27 := Tryz.sizeOf26
  v27 := Tryz.zeroValue26
  t29 := Tryz.underlying9
  a29 := Tryz.isAgg9
  z29 := Tryz.sizeOf9
  v29 := Tryz.zeroValue9
  t32 := Tryz.underlying129
  a32 := Tryz.isAgg129
  z32 := Tryz.sizeOf129
  v32 := Tryz.zeroValue129
  t35 := Tryz.underlying154
  a35 := Tryz.isAgg154
  z35 := Tryz.sizeOf154
  v35 := Tryz.zeroValue154
  t36 := Tryz.underlying155
  a36 := Tryz.isAgg155
  z36 := Tryz.sizeOf155
  v36 := Tryz.zeroValue155
  t41 := Tryz.underlying159
  a41 := Tryz.isAgg159
  z41 := Tryz.sizeOf159
  v41 := Tryz.zeroValue159
  t44 := Tryz.underlying162
  a44 := Tryz.isAgg162
  z44 := Tryz.sizeOf162
  v44 := Tryz.zeroValue162
  t46 := Tryz.underlying164
  a46 := Tryz.isAgg164
  z46 := Tryz.sizeOf164
  v46 := Tryz.zeroValue164
  t53 := Tryz.underlying186
  a53 := Tryz.isAgg186
  z53 := Tryz.sizeOf186
  v53 := Tryz.zeroValue186
  t57 := Tryz.underlying190
  a57 := Tryz.isAgg190
  z57 := Tryz.sizeOf190
  v57 := Tryz.zeroValue190
  t63 := Tryz.underlying199
  a63 := Tryz.isAgg199
  z63 := Tryz.sizeOf199
  v63 := Tryz.zeroValue199
  t64 := Tryz.underlying200
  a64 := Tryz.isAgg200
  z64 := Tryz.sizeOf200
  v64 := Tryz.zeroValue200 }
theorem sortsK (m : Nat) : AnyZ.SortsIn Tryz.prog Tryz.sortedK_ren Fence.wide m :=
  ⟨fun blk off cap ss W hH hblk hsz => callsIn_wide.2 (AnyM.slices_Sort_string Tryz.sortK blk off cap ss W hH hblk hsz),
   fun p cap W => callsIn_wide.2 (AnyM.slices_Sort_string_none Tryz.sortK p cap W)⟩
def Tryz.keysK0_ren : Go.Shelf.Ren := ⟨fun | 7 => 43 | 10 => 78 | n => n, fun | 23 => 81 | 26 => 9 | 3 => 9 | 28 => 92 | 0 => 0 | 27 => 91 | 33 => 86 | 4 => 4 | n => n, fun | n => n⟩
theorem Tryz.keysK0 : Go.Proofs.SlLaysZ.n7 Tryz.prog Tryz.keysK0_ren := {
  mixed := by kernel_rfl
  f7 := ⟨Tryz.f43.name, by decide, Tryz.func43.trans (congrArg some (by kernel_rfl))⟩
  f10 := ⟨Tryz.f78.name, by decide, Tryz.func78.trans (congrArg some (by kernel_rfl))⟩
  t0 := Tryz.underlying0
  a0 := Tryz.isAgg0
  z0 := Tryz.sizeOf0
  v0 := Tryz.zeroValue0
  t4 := Tryz.underlying4
  a4 := Tryz.isAgg4
  z4 := Tryz.sizeOf4
  v4 := Tryz.zeroValue4
  t23 := Tryz.underlying81
  a23 := Tryz.isAgg81
  z23 := Tryz.sizeOf81
  v23 := Tryz.zeroValue81
  t26 := Tryz.underlying9
  a26 := Tryz.isAgg9
  z26 := Tryz.sizeOf9
  v26 := Tryz.zeroValue9
  t27 := Tryz.underlying91
  a27 := Tryz.isAgg91
  z27 := Tryz.sizeOf91
  v27 := Tryz.zeroValue91
  t28 := Tryz.underlying92
  a28 := Tryz.isAgg92
  z28 := Tryz.sizeOf92
  v28 := Tryz.zeroValue92
  t33 := Tryz.underlying86
  a33 := Tryz.isAgg86
  z33 := Tryz.sizeOf86
  v33 := Tryz.zeroValue86 }
theorem keysRow0 : Go.Am.KeysRow Tryz.prog 42 78 :=
  Go.Am.keysRow_of (ρ := Tryz.keysK0_ren) (σ := Tryz.sortedK_ren) { Tryz.keysK0 with } Tryz.sortedK sortsK (fun us w => Go.Am.zs0 (by kernel_rfl) us w) (fun us w => Go.Am.zs0 (by kernel_rfl) us w) (fun us w => Go.Am.zs0 (by kernel_rfl) us w)
def Tryz.grow0_ren : Go.Shelf.Ren := ⟨fun | 4 => 63 | n => n, fun | 22 => 26 | 25 => 9 | 3 => 3 | 4 => 4 | 9 => 9 | 20 => 20 | 0 => 0 | n => n, fun | n => n⟩
theorem Tryz.grow0 : Go.Proofs.Lays8.n4 Tryz.prog Tryz.grow0_ren := {
  mixed := by kernel_rfl
  f4 := ⟨Tryz.f63.name, by decide, Tryz.func63.trans (congrArg some (by kernel_rfl))⟩
  t0 := Tryz.underlying0
  a0 := Tryz.isAgg0
  z0 := Tryz.sizeOf0
  v0 := Tryz.zeroValue0
  t3 := Tryz.underlying3
  a3 := Tryz.isAgg3
  z3 := Tryz.sizeOf3
  v3 := Tryz.zeroValue3
  t4 := Tryz.underlying4
  a4 := Tryz.isAgg4
  z4 := Tryz.sizeOf4
  v4 := Tryz.zeroValue4
  t9 := Tryz.underlying9
  a9 := Tryz.isAgg9
  z9 := Tryz.sizeOf9
  v9 := Tryz.zeroValue9
  t20 := Tryz.underlying20
  a20 := Tryz.isAgg20
  z20 := Tryz.sizeOf20
  v20 := Tryz.zeroValue20
  t22 := Tryz.underlying26
  a22 := Tryz.isAgg26
  z22 := Tryz.sizeOf26
  v22 := Tryz.zeroValue26 }
theorem growRow0 : Go.Am.GrowRow Tryz.prog 63 none :=
  Go.Am.growRow_of (ρ := Tryz.grow0_ren) Tryz.grow0 ((Tryz.prog.info? (Tryz.grow0_ren.t 25)).getD default) ((((Tryz.prog.info? (Tryz.grow0_ren.t 25)).getD default).zero).getD default) none (by kernel_rfl) (by kernel_rfl) (by kernel_rfl) (of_decide_eq_true (by kernel_rfl)) (of_decide_eq_true (by kernel_rfl)) (by kernel_rfl) (fun us w => Go.Am.zs0 (by kernel_rfl) us w)
def Tryz.itoaL_ren : Go.Shelf.Ren := ⟨fun | 171 => 45 | 243 => 79 | 246 => 108 | 283 => 147 | 284 => 148 | 285 => 149 | 286 => 150 | 129 => 125 | 317 => 166 | 318 => 167 | 319 => 168 | 320 => 169 | 337 => 175 | 338 => 176 | n => n, fun | 3 => 3 | 9 => 9 | 2 => 2 | 4 => 4 | 171 => 181 | 0 => 0 | 53 => 164 | 37 => 183 | 5 => 5 | 173 => 184 | 212 => 197 | 51 => 162 | 20 => 20 | 213 => 198 | 46 => 129 | 232 => 204 | 233 => 205 | n => n, fun | 17 => 1 | 18 => 2 | 19 => 3 | n => n⟩
theorem Tryz.itoaL : Go.Proofs.LaysM.n171 Tryz.prog Tryz.itoaL_ren := {
  mixed := by kernel_rfl
  f129 := Tryz.func125.trans (congrArg some (by kernel_rfl))
  f171 := Tryz.func45.trans (congrArg some (by kernel_rfl))
  f243 := Tryz.func79.trans (congrArg some (by kernel_rfl))
  f246 := Tryz.func108.trans (congrArg some (by kernel_rfl))
  f283 := Tryz.func147.trans (congrArg some (by kernel_rfl))
  f284 := Tryz.func148.trans (congrArg some (by kernel_rfl))
  f285 := Tryz.func149.trans (congrArg some (by kernel_rfl))
  f286 := Tryz.func150.trans (congrArg some (by kernel_rfl))
  f317 := Tryz.func166.trans (congrArg some (by kernel_rfl))
  f318 := Tryz.func167.trans (congrArg some (by kernel_rfl))
  f319 := Tryz.func168.trans (congrArg some (by kernel_rfl))
  f320 := Tryz.func169.trans (congrArg some (by kernel_rfl))
  f337 := Tryz.func175.trans (congrArg some (by kernel_rfl))
  f338 := Tryz.func176.trans (congrArg some (by kernel_rfl))
  t0 := Tryz.underlying0
  a0 := Tryz.isAgg0
  z0 := Tryz.sizeOf0
  v0 := Tryz.zeroValue0
  t2 := Tryz.underlying2
  a2 := Tryz.isAgg2
  z2 := Tryz.sizeOf2
  v2 := Tryz.zeroValue2
  t3 := Tryz.underlying3
  a3 := Tryz.isAgg3
  z3 := Tryz.sizeOf3
  v3 := Tryz.zeroValue3
  t4 := Tryz.underlying4
  a4 := Tryz.isAgg4
  z4 := Tryz.sizeOf4
  v4 := Tryz.zeroValue4
  t5 := Tryz.underlying5
  a5 := Tryz.isAgg5
  z5 := Tryz.sizeOf5
  v5 := Tryz.zeroValue5
  t9 := Tryz.underlying9
  a9 := Tryz.isAgg9
  z9 := Tryz.sizeOf9
  v9 := Tryz.zeroValue9
  t20 := Tryz.underlying20
  a20 := Tryz.isAgg20
  z20 := Tryz.sizeOf20
  v20 := Tryz.zeroValue20
  t37 := Tryz.underlying183
  a37 := Tryz.isAgg183
  z37 := Tryz.sizeOf183
  v37 := Tryz.zeroValue183
  t46 := Tryz.underlying129
  a46 := Tryz.isAgg129
  z46 := Tryz.sizeOf129
  v46 := Tryz.zeroValue129
  t51 := Tryz.underlying162
  a51 := Tryz.isAgg162
  z51 := Tryz.sizeOf162
  v51 := Tryz.zeroValue162
  t53 := Tryz.underlying164
  a53 := Tryz.isAgg164
  z53 := Tryz.sizeOf164
  v53 := Tryz.zeroValue164
  t171 := Tryz.underlying181
  a171 := Tryz.isAgg181
  z171 := Tryz.sizeOf181
  v171 := Tryz.zeroValue181
  t173 := Tryz.underlying184
  a173 := Tryz.isAgg184
  z173 := Tryz.sizeOf184
  v173 := Tryz.zeroValue184
  t212 := Tryz.underlying197
  a212 := Tryz.isAgg197
  z212 := Tryz.sizeOf197
  v212 := Tryz.zeroValue197
  t213 := Tryz.underlying198
  a213 := Tryz.isAgg198
  z213 := Tryz.sizeOf198
  t232 := Tryz.underlying204
  a232 := Tryz.isAgg204
  z232 := Tryz.sizeOf204
  v232 := Tryz.zeroValue204
  t233 := Tryz.underlying205
  a233 := Tryz.isAgg205
  z233 := Tryz.sizeOf205
  v233 := Tryz.zeroValue205
  g17 := by kernel_rfl
  g18 := by kernel_rfl
  g19 := by kernel_rfl
  i0 := by kernel_rfl
  i2 := by kernel_rfl
  i3 := by kernel_rfl
  i4 := by kernel_rfl
  i5 := by kernel_rfl
  i9 := by kernel_rfl
  i20 := by kernel_rfl
  i37 := by kernel_rfl
  i46 := by kernel_rfl
  i51 := by kernel_rfl
  i53 := by kernel_rfl
  i171 := by kernel_rfl
  i173 := by kernel_rfl
  i212 := by kernel_rfl
  i232 := by kernel_rfl
  i233 := by kernel_rfl
  m17 := by kernel_rfl
  m18 := by kernel_rfl
  m19 := by kernel_rfl }
theorem pureRow0 : Go.Am.PureRow Tryz.prog Go.Am.X.gl 45 Go.Am.qM :=
  Go.Am.itoaRow (ρ := Tryz.itoaL_ren) Tryz.itoaL 1 (by kernel_rfl) (by kernel_rfl) (fun us w => Go.Am.zs0 (by kernel_rfl) us w)
theorem allChecked0 : (Go.Am.fns0.all fun p => Go.Am.nX Tryz.prog p.1 p.2) = true := by kernel_rfl
theorem fits0 : Go.Am.Fits Tryz.prog Go.Am.X0 := ⟨by kernel_rfl, fun f F h => Go.Am.z7h (p := fun f F => Go.Am.nX Tryz.prog f F) Go.Am.fns0 allChecked0 f F h, fun f vs r _ h => Go.Am.extF_ok ext1 ext2 h, fun f us h v h1 x _ hx => Go.Am.zmR (gs := Go.Am.GRL) (ps := Go.Am.PRL0) (fun g s hm => by
      simp only [Go.Am.GRL, List.mem_cons, List.not_mem_nil, or_false, Prod.mk.injEq] at hm
      obtain ⟨rfl, rfl⟩ := hm
      exact growRow0) (fun g s hm => by
      simp only [Go.Am.PRL0, List.mem_cons, List.not_mem_nil, or_false, Prod.mk.injEq] at hm
      obtain ⟨rfl, rfl⟩ := hm
      exact pureRow0) hx⟩
theorem pureRow1 : Go.Am.PureRow Tryz.prog Go.Am.X.gl 28 Go.Am.z0O :=
  Go.Am.zs2 fits0 Go.Am.zs3 (fun us w => Go.Am.zs0 (by kernel_rfl) us w)
theorem fits : Go.Am.Fits Tryz.prog Go.Am.X := ⟨by kernel_rfl, fun f F h => Go.Am.z7h (p := fun f F => Go.Am.nX Tryz.prog f F) Go.Am.fns allChecked f F h, fun f vs r _ h => Go.Am.extF_ok ext1 ext2 h, fun f us h v h1 x _ hx => Go.Am.libK_ok (ks := Go.Am.KRL) (gs := Go.Am.GRL) (ps := Go.Am.PRL) (fun g s hm => by
      simp only [Go.Am.KRL, List.mem_cons, List.not_mem_nil, or_false, Prod.mk.injEq] at hm
      obtain ⟨rfl, rfl⟩ := hm
      exact keysRow0) (fun g s hm => by
      simp only [Go.Am.GRL, List.mem_cons, List.not_mem_nil, or_false, Prod.mk.injEq] at hm
      obtain ⟨rfl, rfl⟩ := hm
      exact growRow0) (fun g s hm => by
      simp only [Go.Am.PRL, List.mem_cons, List.not_mem_nil, or_false, Prod.mk.injEq] at hm
      rcases hm with ⟨rfl, rfl⟩ | ⟨rfl, rfl⟩
      · exact pureRow0
      · exact pureRow1) hx⟩
def powers : List Int := [1, 10, 100, 1000, 10000, 100000, 1000000, 10000000, 100000000, 1000000000, 10000000000, 100000000000, 1000000000000, 10000000000000, 100000000000000, 1000000000000000, 10000000000000000, 100000000000000000, 1000000000000000000, 10000000000000000000]
theorem of_laid {W : World} (h : laidMetH Tryz.prog Rows.boardsFollowedRow.laid W) : Go.Am.GD Go.Am.X.gl (Go.Am.imm [] [] W) := by
  rw [MakeChecks.laidMetH_plain _ _ _ (by kernel_rfl)] at h
  have h2 : laidMet Tryz.prog (("internal/strconv.uint64pow10", Go.Lib.tabData .u64 powers) :: _) W := h.tail.tail
  exact Go.Am.ginv_tab (zs := powers) (by kernel_rfl) (Go.Lib.tabIs_of_head (g := 1) (t := 197) (e := 164) (n := 20) (by kernel_rfl) (by kernel_rfl) Tryz.underlying197 Tryz.underlying164 (by kernel_rfl) (by kernel_rfl) h2) (by kernel_rfl)

set_option maxRecDepth 100000 in
theorem law_lifted (os : Os) (started : os.Started) (H : Type) (enc : TypeId × Value → H) :
    ReturnsInHanded {} Tryz.checked os 3 .any (fun w args => (Rows.boardsFollowedSpec.pre enc Tryz.prog Tryz.f3 [] false w args ∧ laidMetH Tryz.prog Rows.boardsFollowedRow.laid w) ∧ sizedMet enc Tryz.prog Tryz.f3 (OpenSpec.ofChange Rows.boardsFollowedSpec) false w args)
      (Rows.boardsFollowedSpec.post enc Tryz.prog Tryz.f3 false true false false) := by
  refine returnsInHanded_of_change_and (C := Tryz.checked) (X := fun w _ => laidMetH Tryz.prog Rows.boardsFollowedRow.laid w) (fun _ _ _ hh h => h.of_heap hh) own started (by kernel_rfl) Tryz.func3
    (ChangeSpec.witness_shaped (enc := enc) (C := Tryz.checked) (os := os) (X := fun w _ => laidMetH Tryz.prog Rows.boardsFollowedRow.laid w) false (World.laidAll Tryz.prog os Rows.boardsFollowedRow.laid) #[.slice none 0 0] 8 (World.laidAll_os _ _ _)
      (World.shaped_of_ZipB (by kernel_rfl) (by kernel_rfl)) (by kernel_rfl) (by kernel_rfl) (by kernel_rfl)
      (by rw [MakeChecks.laidMetH_plain _ _ _ (by kernel_rfl)]; exact laidMet_laidAll _ (by kernel_rfl) (by kernel_rfl))) ?_
  intro W base args ds gs before hval0 hW _ _ hL _
  have hval : ∀ (j : Nat) t v, Tryz.f3.params[j]? = some t → args[j]? = some v → Value.okWide Tryz.prog W .any base t v := hval0
  have hW' := hW
  obtain ⟨p, q, hA0, hV, rfl, _, _⟩ := hW
  have hA : DataW.TrodAll enc Tryz.prog W 0 (fun _ => true) true Tryz.f3.params.toList args.toList ds p := hA0
  rw [Tryz.params3] at hA hval
  obtain ⟨v0, d0, rfl, rfl, h0⟩ := trodAll_one hA
  obtain ⟨rfl, rfl⟩ := trodVars_none hV
  have h0k := h0
  obtain ⟨fuel, hf⟩ := h0
  clear hA0 hval0
  simp only [List.append_nil] at hW'
  have hlt : ∀ x ∈ p, x.block < W.heap.size := fun x hx => by simpa using hW'.lt x hx
  have hG := of_laid hL
  have law : ∀ L : List Int, Go.Am.cA Go.Am.X 3 [Go.Am.qU L] [] fun v _ _ => v = .p (.bool true) := fun L => by
    have := Go.Am.law_BF L (K := fun v _ _ => v = .p (.bool true))
    exact this.symm ▸ rfl
  have key : Calls Tryz.prog 3 #[v0] W fun e W' => e = .returned (.bool true) ∧ Below W.heap.size W W' := by
    obtain ⟨a0, len, cap, rfl⟩ := okWide_slice Tryz.underlying22 (hval 0 22 v0 rfl rfl)
    rcases open_ints Tryz.underlying22 Tryz.underlying3 cellsInt hf with ⟨hcs, hx⟩ | ⟨a, len', cap', zs, hcs, _, hl, hm, hz, hx, hcell, hwz⟩
    · simp [Value.cells] at hcs
      obtain ⟨rfl, rfl, rfl⟩ := hcs
      exact Go.Am.law_nil fits Go.Am.zqR law W hG
    · simp [Value.cells] at hcs
      obtain ⟨rfl, rfl, rfl⟩ := hcs
      have hzl : len ≤ zs.length := by rw [hz]; split <;> omega
      exact Go.Am.law_ints fits Go.Am.zqR law hG hl hzl hcell
  refine key.mono fun e W' ⟨he, hb⟩ => ?_
  subst he
  have hargs : DataW.Trod enc Tryz.prog W' 0 (fun b => decide (b < W.heap.size)) true 22 v0 d0 p :=
    Below.trod laidOut (by kernel_rfl) (of_decide_eq_true (by kernel_rfl)) h0k hb hlt
  exact ⟨_, rfl, ⟨_, _, _, [], _, [], hW', trodAll_mk1 (shut_bool Tryz.underlying4 _), trodAll_mk1 hargs, rfl, hb.frame _, fun h => by cases h⟩⟩

theorem zNamed : Tryz.prog.funcNamed "scanchain/scanlaw2.BoardsFollowed" = some 3 := by kernel_rfl
theorem zJoin : joinedFacts Tryz.pinned.checked.prog 3 Tryz.f3 Rows.boardsFollowedSpec Rows.boardsFollowedRow = true := by kernel_rfl
theorem zInst : Tryz.f3.isInstance Tryz.pinned.checked.prog Rows.boardsFollowedRow.origin Rows.boardsFollowedRow.targs := of_decide_eq_true (by kernel_rfl)
theorem zWrap : Tryz.f3.isWrapper Tryz.pinned.checked.prog Rows.boardsFollowedRow.wrapper Rows.boardsFollowedRow.mainSum := by unfold Func.isWrapper; rw [if_neg (by decide +kernel)]; exact ⟨rfl, rfl⟩
theorem boardsFollowed_holds : Rows.BoardsFollowedSaid :=
  OpenClaim.holds_of_wide 3 Tryz.f3 rfl rfl rfl rfl rfl rfl rfl ⟨rfl, rfl, rfl, rfl, rfl⟩ rfl rfl rfl rfl rfl zNamed Tryz.func3 zJoin zInst zWrap
    (fun os started H enc _ => law_lifted os started H enc)
theorem zText : Rows.boardsFollowedRow.wfByText (OpenSpec.ofChange Rows.boardsFollowedSpec) = true := by kernel_rfl
theorem zMain : Tryz.pinned.checked.prog.mainIs = some (true, "4e9b38a840ec2e9c5a49b404d7021011a9b34b4243d1bdb5ffcf240a14a020fd".toList) := by kernel_rfl
theorem zLooks : false = Tryz.pinned.checked.prog.looks [] := by kernel_rfl
theorem zStand : ([22].all fun u => !Tryz.prog.wantsStandIn u) = true := by kernel_rfl
theorem zGoes : false = Rows.boardsFollowedRow.goesBy Tryz.pinned.checked.prog := by kernel_rfl
theorem boardsFollowed_card_holds : Rows.BoardsFollowedCardSaid :=
  Claim7.holds_tied_plain_at .later [] [.data, .data, .data] true (true, "4e9b38a840ec2e9c5a49b404d7021011a9b34b4243d1bdb5ffcf240a14a020fd") false boardsFollowed_holds (fun _ h => by cases h) zText (fun _ h => by cases h) boardsFollowed_row_tie rfl ⟨rfl, rfl⟩ zMain rfl
    (fun f fn hf hfn => by
      obtain rfl : f = 3 := Option.some.inj (zNamed.symm.trans hf) |>.symm
      obtain rfl : fn = Tryz.f3 := (Option.some.inj (Tryz.func3.symm.trans hfn)).symm
      exact ⟨zLooks, fun j t ht => by
        rw [Tryz.params3] at ht
        have hm : t ∈ [22] := by simpa using Array.mem_of_getElem? ht
        exact (show Tryz.prog.wantsStandIn t = false by simpa using List.all_eq_true.1 zStand t hm)⟩)
    zGoes

end Go.Proofs.YtpmepdkfbangiaaGreatDoor
