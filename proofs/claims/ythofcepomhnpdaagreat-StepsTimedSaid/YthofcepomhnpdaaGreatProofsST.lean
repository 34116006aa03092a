/- StepsTimed returns true at every input, and the input reads behind the call as it read before. Conditions: none. -/
import Derived.Test.YthofcepomhnpdaaGreatRows
import Derived.Test.YthofcepomhnpdaaGreatlawST10
import Derived.ProofKit
import Derived.Shelf.SlIter.Nil
import Derived.Shelf.SortM.Plain
import Derived.Shelf.SortM.SortNone
import Derived.Shelf.Spec.SlicesGrow
set_option linter.unusedVariables false
namespace Go.Proofs.YthofcepomhnpdaaGreat
open Go.ChangeShapes Go.WideShapes Go.ChangeAt Go.RowKit

theorem own : ownKnob Tryz.prog.godebug = none := by kernel_rfl
theorem laidOut : laidOutB Tryz.prog = true := by kernel_rfl
theorem cellsInt : Tryz.prog.cellsOf 3 = 1 := by kernel_rfl
theorem allChecked : (Go.Am.fns.all λp => Go.Am.z1v Tryz.prog p.1 p.2) = true := by kernel_rfl
theorem ext1 : Go.Am.ExtRow Tryz.prog Go.Am.RH Go.Extern.BytealgIndexByte.indexByte := Go.Am.zwY (by kernel_rfl) (by kernel_rfl)
theorem ext2 : Go.Am.ExtRow Tryz.prog Go.Am.SH Go.Extern.BytealgCompare.compare := Go.Am.zwY (by kernel_rfl) (by kernel_rfl)
end Go.Proofs.YthofcepomhnpdaaGreat
namespace Go.Am
open Go.Proofs Go.RowKit Go.Maps Go.Sort Go.Shelf
variable {P : Program}
theorem below_extK {w w' : World} (h : Go.RowKit.Below w.heap.size w w') : WExt w w' := ⟨h.size, λb hb => h.block b hb, by unfold zed; rw [h.os, h.tape, h.output]⟩
def noR : Value -> Option (DataW Unit × List MemPlace) := λ_ => some (.map [], [])

theorem textsAt_of {w w' : World} {T : TypeId} {v : Value} {ss : List (List UInt8)} {n : Nat} (hn : n = ss.length) (hrow : w'.ownsRow w.heap.size T 1 v n (ss.map encStr)) : uP w w' v ss := by
  subst hn
  obtain ⟨_, h⟩ := hrow
  rcases h with ⟨rfl, hz⟩ | ⟨g, cap, cur, rfl, hb, hg, hc, _, hs, ht⟩
  · exact .inl ⟨List.eq_nil_of_length_eq_zero hz, rfl⟩
  · refine .inr ⟨g, cap, rfl, hb, hc, λj s hj => ?_⟩
    have hlt := (List.getElem?_eq_some_iff.1 hj).1
    have h1 : (cur.toList.take (ss.length * 1))[j]? = some (encStr s) := by rw [ht, List.getElem?_map, hj]; rfl
    rw [List.getElem?_take, if_pos (by omega), Array.getElem?_toList] at h1
    simp only [World.cell?, hg]
    exact h1

theorem keysRow_of {ρ σ : Ren} (K : SlLaysZ.n10 P ρ) (S : SlLaysZ.n6 P σ) (hsort : ∀ m, AnyZ.SortsIn P σ Fence.wide m) (he : ∀ us w, (callFunc (σ.f 6) us).run P w = .ok (.enter (σ.f 6) us) w)
    (e9 : ∀ us w, (callFunc (σ.f 9) us).run P w = .ok (.enter (σ.f 9) us) w) (eg : ∀ us w, (callFunc (ρ.f 10) us).run P w = .ok (.enter (ρ.f 10) us) w) : KeysRow P (σ.f 6) (ρ.f 10) where
  enter := he
  run w bq bm clk ces ss hq hm hk hb1 hb2 hn hl hsz := by
    have hlen : ces.size = ss.length := by simpa using congrArg List.length hk
    have hkey : ∀ x ∈ ces.toList, ∃ s : List UInt8, s ∈ ss /\ x.key = .string ⟨s.toArray⟩ /\ Go.keyOf P (ρ.t 26) x.key = some (.string s) := by
      intro x hx
      have : x.key ∈ ss.map (λs => Value.string ⟨s.toArray⟩) := by rw [<- hk]; exact List.mem_map_of_mem hx
      obtain ⟨s, hs, e⟩ := List.mem_map.1 this
      refine ⟨s, hs, e.symm, ?_⟩
      rw [<- e]
      have := hl s hs
      simp [Go.keyOf, K.t26, mapKey, this, ByteArray.size]
    have hR : ∀ x ∈ ces.toList, ∃ s : List UInt8, s ∈ ss /\ x.key = .string ⟨s.toArray⟩ /\ Go.WideElems.rd P (ρ.t 26) noR x = some (.string s, .map []) := by
      intro x hx
      obtain ⟨s, h1, h2, h3⟩ := hkey x hx
      exact ⟨s, h1, h2, Go.WideElems.rd_mk (R := noR) (key := x.key) (val := x.val) (born := x.born) (yv := (.map [], [])) h3 rfl⟩
    have F : Go.WideElems.Fit P (ρ.t 26) noR ces clk := by
      refine ⟨by rw [hlen]; exact Nat.le_trans hsz (by decide), ⟨hb1, hb2, ?_⟩, λx hx => ?_⟩
      · rw [hk]
        refine List.pairwise_map.2 (hn.imp λ{a b} hne e => hne ?_)
        simpa using e
      · obtain ⟨s, _, _, h⟩ := hR x hx
        exact ⟨_, h⟩
    have hown := World.ownsMap_of_fit (R := noR) hm F (λ_ _ _ h => h)
    have hBm : bq < w.heap.size := uT hq
    have hp : (strKeys (.map ((ces.toList.map (Go.WideElems.rg P (ρ.t 26) noR)).foldr DataW.insert []))).Perm ss := by
      show (List.map (λp : Lit × DataW Unit => Go.strOf p.1) _).Perm ss
      refine ((WideShapes.sorted_perm _).map _).trans ?_
      rw [List.map_map]
      have : ces.toList.map ((λp : Lit × DataW Unit => Go.strOf p.1) ∘ Go.WideElems.rg P (ρ.t 26) noR) = ss := by
        apply List.ext_getElem?
        intro i
        have hki := congrArg (·[i]?) hk
        simp only [List.getElem?_map] at hki ⊢
        cases hx : ces.toList[i]? with
        | none =>
          rw [hx] at hki
          cases hs : ss[i]? with
          | none => rfl
          | some s => rw [hs] at hki; cases hki
        | some x =>
          rw [hx] at hki
          obtain ⟨s, h1, h2, h3⟩ := hR x (List.mem_of_getElem? hx)
          cases hs : ss[i]? with
          | none => rw [hs] at hki; cases hki
          | some s' =>
            rw [hs] at hki
            simp only [Option.map_some, Option.some.injEq, h2, Value.string.injEq, ByteArray.mk.injEq] at hki
            have hss : s = s' := by simpa using congrArg Array.toList hki
            subst hss
            simp only [Option.map_some, Function.comp, Go.WideElems.rg_of h3]
            rfl
      rw [this]
    have hms : Maps.size (.map ((ces.toList.map (Go.WideElems.rg P (ρ.t 26) noR)).foldr DataW.insert [])) = ss.length := by
      rw [<- hlen]
      show List.length _ = _
      rw [length_sorted]
      simp
    have hseq := AnyZ.keys_gives K Fence.wide 2 trivial rfl (by omega) bq bm _ _ w hBm hq hown
    refine (callsIn_wide.1 (AnyZ.sorted_in S Fence.wide 5 trivial trivial trivial trivial rfl (by omega) (hsort _) e9 (ρ.f 10) #[.pointer (some ⟨bq, 0, none⟩)] trivial eg _ _ (by rw [hms]; exact Nat.le_trans hsz (by decide)) (by rw [hms]; omega) _ hseq)).mono λe w' h => ?_
    obtain ⟨v, s1, rfl, hp1, hrow, _, hB⟩ := h
    refine ⟨v, rfl, below_extK hB, ?_⟩
    have hs : s1.mergeSort leB = cP ss := mergeSort_of_perm (hp1.trans hp)
    have hl1 : s1.length = (cP ss).length := by rw [<- hs]; exact (List.length_mergeSort _).symm
    refine textsAt_of (T := σ.t 26) hl1 ?_
    rw [<- hs]
    exact hrow
  nil w bq hq := by
    have hseq := AnyZ.keys_gives_nil K Fence.wide 2 trivial rfl bq w (uT hq) hq
    refine (callsIn_wide.1 (AnyZ.sorted_in S Fence.wide 5 trivial trivial trivial trivial rfl (by omega) (hsort _) e9 (ρ.f 10) #[.pointer (some ⟨bq, 0, none⟩)] trivial eg _ 0 (Nat.zero_le _) (by omega) _ hseq)).mono λe w' h => ?_
    obtain ⟨v, s1, rfl, rfl, hrow, _, hB⟩ := h
    exact ⟨v, rfl, below_extK hB, textsAt_of (T := σ.t 26) (n := 0) rfl (by simpa using hrow)⟩
end Go.Am
namespace Go.Proofs.YthofcepomhnpdaaGreat
end Go.Proofs.YthofcepomhnpdaaGreat
namespace Go.Am
variable {P : Program}
/-- The kit's contract for slices.Grow gives the row. -/
theorem growRow_of {ρ : Go.Shelf.Ren} (L : Go.Proofs.Lays8.n4 P ρ) (i0 : TypeInfo) (z : Value) (sh : Sh) (hi0 : P.info? (ρ.t 25) = some i0) (hz0 : i0.zero = some z) (hs : i0.size = kA sh) (hs0 : 0 < i0.size) (hb : i0.bytes <= 1048576) (hz : z.cells.size = i0.size)
    (he : ∀ us w, (callFunc (ρ.f 4) us).run P w = .ok (.enter (ρ.f 4) us) w) : GrowRow P (ρ.f 4) sh where
  enter := he
  room a w := by
    have := Go.Proofs.Any8.slices_Grow_room L a 0 0 0 w (Nat.le_refl _) (by omega) (by omega) (by omega)
    exact this
  grow a n w h0 h1 := by
    have hbig : (0 + n) * i0.bytes <= 140737488355328 := by
      rw [Nat.zero_add]
      exact Nat.le_trans (Nat.mul_le_mul h1 hb) (by decide)
    refine (Go.Proofs.Any8.slices_Grow_grow L i0 z hi0 hz0 hs0 a 0 0 n [] w (Nat.le_refl _) (by omega) hbig (by omega) (by simp) (λ_ => rfl) (by simp)).mono λe w' he => ?_
    obtain ⟨rfl, rfl⟩ := he
    refine ⟨_, _, _, rfl, ?_, rfl⟩
    have hge : 0 + n <= grownCap w (0 + n) 0 (ρ.t 25) := grownCap_ge w _ _ _
    simp only [Array.size_append, List.size_toArray, List.length_nil, size_zeroCells, hz, hs]
    rw [Nat.zero_add, <- Nat.right_distrib]
    congr 1
    omega
end Go.Am
namespace Go.Proofs.YthofcepomhnpdaaGreat
open Go.Shelf Go.ChangeShapes Go.WideShapes Go.ChangeAt Go.RowKit
open Go.Maps Go.Sort
def Tryz.sortedK_ren : Go.Shelf.Ren := ⟨fun | 6 => 49 | 8 => 81 | 9 => 82 | 11 => 111 | 13 => 113 | 12 => 112 | 23 => 133 | 24 => 134 | 14 => 124 | 15 => 125 | 16 => 126 | 17 => 127 | 18 => 128 | 19 => 129 | 20 => 130 | 21 => 131 | 22 => 132 | 25 => 146 | 26 => 147 | 27 => 148 | 28 => 149 | 29 => 150 | 30 => 151 | 31 => 157 | n => n, fun | 26 => 9 | 28 => 106 | 24 => 26 | 0 => 0 | 3 => 3 | 37 => 165 | 48 => 182 | 50 => 184 | 4 => 4 | 40 => 175 | 39 => 174 | 45 => 179 | 5 => 5 | 9 => 9 | 51 => 190 | 55 => 194 | 57 => 198 | 58 => 79 | 33 => 100 | n => n, fun | n => n⟩
theorem Tryz.sortedK : Go.Proofs.SlLaysZ.n6 Tryz.prog Tryz.sortedK_ren := {
  mixed := by kernel_rfl
  f6 := ⟨Tryz.f49.name, by decide, Tryz.func49.trans (congrArg some (by kernel_rfl))⟩
  f8 := ⟨Tryz.f81.name, by decide, Tryz.func81.trans (congrArg some (by kernel_rfl))⟩
  f11 := ⟨Tryz.f111.name, by decide, Tryz.func111.trans (congrArg some (by kernel_rfl))⟩
  t0 := Tryz.underlying0
  a0 := Tryz.isAgg0
  z0 := Tryz.sizeOf0
  v0 := Tryz.zeroValue0
  t24 := Tryz.underlying26
  a24 := Tryz.isAgg26
  z24 := Tryz.sizeOf26
  v24 := Tryz.zeroValue26
  t26 := Tryz.underlying9
  a26 := Tryz.isAgg9
  z26 := Tryz.sizeOf9
  v26 := Tryz.zeroValue9
  t28 := Tryz.underlying106
  a28 := Tryz.isAgg106
  z28 := Tryz.sizeOf106
  v28 := Tryz.zeroValue106
  i26 := by kernel_rfl }
def Tryz.sortK_ren : Go.Shelf.Ren := ⟨fun | 6 => 82 | 8 => 113 | 9 => 112 | 19 => 133 | 20 => 134 | 21 => 124 | 22 => 125 | 23 => 126 | 24 => 127 | 25 => 128 | 26 => 129 | 27 => 130 | 28 => 131 | 29 => 132 | 36 => 146 | 31 => 147 | 32 => 148 | 37 => 149 | 38 => 150 | 39 => 151 | 41 => 157 | n => n, fun | 27 => 26 | 29 => 9 | 3 => 3 | 32 => 165 | 26 => 26 | 0 => 0 | 44 => 182 | 46 => 184 | 4 => 4 | 36 => 175 | 35 => 174 | 41 => 179 | 5 => 5 | 9 => 9 | 53 => 190 | 57 => 194 | 63 => 198 | 64 => 79 | n => n, fun | n => n⟩
theorem Tryz.sortK : Go.Proofs.SlLaysM.n6 Tryz.prog Tryz.sortK_ren := {
  mixed := by kernel_rfl
  f6 := ⟨Tryz.f82.name, by decide, Tryz.func82.trans (congrArg some (by kernel_rfl))⟩
  f8 := Tryz.func113.trans (congrArg some (by kernel_rfl))
  f9 := ⟨Tryz.f112.name, by decide, Tryz.func112.trans (congrArg some (by kernel_rfl))⟩
  f19 := Tryz.func133.trans (congrArg some (by kernel_rfl))
  f20 := Tryz.func134.trans (congrArg some (by kernel_rfl))
  f21 := ⟨Tryz.f124.name, by decide, Tryz.func124.trans (congrArg some (by kernel_rfl))⟩
  f22 := ⟨Tryz.f125.name, by decide, Tryz.func125.trans (congrArg some (by kernel_rfl))⟩
  f23 := ⟨Tryz.f126.name, by decide, Tryz.func126.trans (congrArg some (by kernel_rfl))⟩
  f24 := ⟨Tryz.f127.name, by decide, Tryz.func127.trans (congrArg some (by kernel_rfl))⟩
  f25 := ⟨Tryz.f128.name, by decide, Tryz.func128.trans (congrArg some (by kernel_rfl))⟩
  f26 := ⟨Tryz.f129.name, by decide, Tryz.func129.trans (congrArg some (by kernel_rfl))⟩
  f27 := ⟨Tryz.f130.name, by decide, Tryz.func130.trans (congrArg some (by kernel_rfl))⟩
  f28 := ⟨Tryz.f131.name, by decide, Tryz.func131.trans (congrArg some (by kernel_rfl))⟩
  f29 := ⟨Tryz.f132.name, by decide, Tryz.func132.trans (congrArg some (by kernel_rfl))⟩
  f31 := Tryz.func147.trans (congrArg some (by kernel_rfl))
  f32 := Tryz.func148.trans (congrArg some (by kernel_rfl))
  f36 := ⟨Tryz.f146.name, by decide, Tryz.func146.trans (congrArg some (by kernel_rfl))⟩
  f37 := ⟨Tryz.f149.name, by decide, Tryz.func149.trans (congrArg some (by kernel_rfl))⟩
  f38 := ⟨Tryz.f150.name, by decide, Tryz.func150.trans (congrArg some (by kernel_rfl))⟩
  f39 := ⟨Tryz.f151.name, by decide, Tryz.func151.trans (congrArg some (by kernel_rfl))⟩
  f41 := ⟨Tryz.f157.name, by decide, Tryz.func157.trans (congrArg some (by kernel_rfl))⟩
  t0 := Tryz.underlying0
  a0 := Tryz.isAgg0
  z0 := Tryz.sizeOf0
  v0 := Tryz.zeroValue0
  t3 := Tryz.underlying3
  a3 := Tryz.isAgg3
  z3 := Tryz.sizeOf3
  v3 := Tryz.zeroValue3
  t4 := Tryz.underlying4
  a4 := Tryz.isAgg4
  z4 := Tryz.sizeOf4
  v4 := Tryz.zeroValue4
  t5 := Tryz.underlying5
  a5 := Tryz.isAgg5
  z5 := Tryz.sizeOf5
  v5 := Tryz.zeroValue5
  t9 := Tryz.underlying9
  a9 := Tryz.isAgg9
  z9 := Tryz.sizeOf9
  v9 := Tryz.zeroValue9
  t26 := Tryz.underlying26
  a26 := Tryz.isAgg26
  z26 := Tryz.sizeOf26
  v26 := Tryz.zeroValue26
  t27 := Tryz.underlying26
  a27 := Tryz.isAgg26
  z27 := Tryz.sizeOf26
  v27 := Tryz.zeroValue26
  t29 := Tryz.underlying9
  a29 := Tryz.isAgg9
  z29 := Tryz.sizeOf9
  v29 := Tryz.zeroValue9
  t32 := Tryz.underlying165
  a32 := Tryz.isAgg165
  z32 := Tryz.sizeOf165
  v32 := Tryz.zeroValue165
  t35 := Tryz.underlying174
  a35 := Tryz.isAgg174
  z35 := Tryz.sizeOf174
  v35 := Tryz.zeroValue174
  t36 := Tryz.underlying175
  a36 := Tryz.isAgg175
  z36 := Tryz.sizeOf175
  v36 := Tryz.zeroValue175
  t41 := Tryz.underlying179
  a41 := Tryz.isAgg179
  z41 := Tryz.sizeOf179
  v41 := Tryz.zeroValue179
  t44 := Tryz.underlying182
  a44 := Tryz.isAgg182
  z44 := Tryz.sizeOf182
  v44 := Tryz.zeroValue182
  t46 := Tryz.underlying184
  a46 := Tryz.isAgg184
  z46 := Tryz.sizeOf184
  v46 := Tryz.zeroValue184
  t53 := Tryz.underlying190
  a53 := Tryz.isAgg190
  z53 := Tryz.sizeOf190
  v53 := Tryz.zeroValue190
  t57 := Tryz.underlying194
  a57 := Tryz.isAgg194
  z57 := Tryz.sizeOf194
  v57 := Tryz.zeroValue194
  t63 := Tryz.underlying198
  a63 := Tryz.isAgg198
  z63 := Tryz.sizeOf198
  v63 := Tryz.zeroValue198
  t64 := Tryz.underlying79
  a64 := Tryz.isAgg79
  z64 := Tryz.sizeOf79
  v64 := Tryz.zeroValue79 }
theorem sortsK (m : Nat) : AnyZ.SortsIn Tryz.prog Tryz.sortedK_ren Fence.wide m :=
  ⟨λblk off cap ss W hH hblk hsz => callsIn_wide.2 (AnyM.slices_Sort_string Tryz.sortK blk off cap ss W hH hblk hsz),
   λp cap W => callsIn_wide.2 (AnyM.slices_Sort_string_none Tryz.sortK p cap W)⟩
def Tryz.keysK0_ren : Go.Shelf.Ren := ⟨fun | 7 => 50 | 10 => 83 | n => n, fun | 23 => 89 | 26 => 9 | 3 => 108 | 28 => 106 | 0 => 0 | 27 => 105 | 33 => 100 | 4 => 4 | n => n, fun | n => n⟩
theorem Tryz.keysK0 : Go.Proofs.SlLaysZ.n7 Tryz.prog Tryz.keysK0_ren := {
  mixed := by kernel_rfl
  f7 := ⟨Tryz.f50.name, by decide, Tryz.func50.trans (congrArg some (by kernel_rfl))⟩
  f10 := ⟨Tryz.f83.name, by decide, Tryz.func83.trans (congrArg some (by kernel_rfl))⟩
  t0 := Tryz.underlying0
  a0 := Tryz.isAgg0
  z0 := Tryz.sizeOf0
  v0 := Tryz.zeroValue0
  t4 := Tryz.underlying4
  a4 := Tryz.isAgg4
  z4 := Tryz.sizeOf4
  v4 := Tryz.zeroValue4
  t23 := Tryz.underlying89
  a23 := Tryz.isAgg89
  z23 := Tryz.sizeOf89
  v23 := Tryz.zeroValue89
  t26 := Tryz.underlying9
  a26 := Tryz.isAgg9
  z26 := Tryz.sizeOf9
  v26 := Tryz.zeroValue9
  t27 := Tryz.underlying105
  a27 := Tryz.isAgg105
  z27 := Tryz.sizeOf105
  v27 := Tryz.zeroValue105
  t28 := Tryz.underlying106
  a28 := Tryz.isAgg106
  z28 := Tryz.sizeOf106
  v28 := Tryz.zeroValue106
  t33 := Tryz.underlying100
  a33 := Tryz.isAgg100
  z33 := Tryz.sizeOf100
  v33 := Tryz.zeroValue100 }
theorem keysRow0 : Go.Am.KeysRow Tryz.prog 49 83 :=
  Go.Am.keysRow_of (ρ := Tryz.keysK0_ren) (σ := Tryz.sortedK_ren) { Tryz.keysK0 with } Tryz.sortedK sortsK (λus w => Go.Am.zwX (by kernel_rfl) us w) (λus w => Go.Am.zwX (by kernel_rfl) us w) (λus w => Go.Am.zwX (by kernel_rfl) us w)
def Tryz.grow0_ren : Go.Shelf.Ren := ⟨fun | 4 => 67 | n => n, fun | 22 => 26 | 25 => 9 | 3 => 3 | 4 => 4 | 9 => 9 | 20 => 20 | 0 => 0 | n => n, fun | n => n⟩
theorem Tryz.grow0 : Go.Proofs.Lays8.n4 Tryz.prog Tryz.grow0_ren := {
  mixed := by kernel_rfl
  f4 := ⟨Tryz.f67.name, by decide, Tryz.func67.trans (congrArg some (by kernel_rfl))⟩
  t0 := Tryz.underlying0
  a0 := Tryz.isAgg0
  z0 := Tryz.sizeOf0
  v0 := Tryz.zeroValue0
  t3 := Tryz.underlying3
  a3 := Tryz.isAgg3
  z3 := Tryz.sizeOf3
  v3 := Tryz.zeroValue3
  t4 := Tryz.underlying4
  a4 := Tryz.isAgg4
  z4 := Tryz.sizeOf4
  v4 := Tryz.zeroValue4
  t9 := Tryz.underlying9
  a9 := Tryz.isAgg9
  z9 := Tryz.sizeOf9
  v9 := Tryz.zeroValue9
  t20 := Tryz.underlying20
  a20 := Tryz.isAgg20
  z20 := Tryz.sizeOf20
  v20 := Tryz.zeroValue20
  t22 := Tryz.underlying26
  a22 := Tryz.isAgg26
  z22 := Tryz.sizeOf26
  v22 := Tryz.zeroValue26 }
theorem growRow0 : Go.Am.GrowRow Tryz.prog 67 none :=
  Go.Am.growRow_of (ρ := Tryz.grow0_ren) Tryz.grow0 ((Tryz.prog.info? (Tryz.grow0_ren.t 25)).getD default) ((((Tryz.prog.info? (Tryz.grow0_ren.t 25)).getD default).zero).getD default) none (by kernel_rfl) (by kernel_rfl) (by kernel_rfl) (of_decide_eq_true (by kernel_rfl)) (of_decide_eq_true (by kernel_rfl)) (by kernel_rfl) (λus w => Go.Am.zwX (by kernel_rfl) us w)
theorem allChecked0 : (Go.Am.fns0.all λp => Go.Am.z1v Tryz.prog p.1 p.2) = true := by kernel_rfl
theorem fits0 : Go.Am.Fits Tryz.prog Go.Am.X0 := ⟨by kernel_rfl, λf F h => Go.Am.zbt (p := λf F => Go.Am.z1v Tryz.prog f F) Go.Am.fns0 allChecked0 f F h, λf vs r _ h => Go.Am.extF_ok ext1 ext2 h, λf us h v h1 x _ hx => Go.Am.zqL (gs := Go.Am.GRL) (ps := Go.Am.PRL0) (λg s hm => by
      simp only [Go.Am.GRL, List.mem_cons, List.not_mem_nil, or_false, Prod.mk.injEq] at hm
      obtain ⟨rfl, rfl⟩ := hm
      exact growRow0) (λg s hm => by cases hm) hx⟩
theorem pureRow0 : Go.Am.PureRow Tryz.prog Go.Am.X.gl 30 Go.Am.z8q :=
  Go.Am.zxa fits0 Go.Am.zxb (λus w => Go.Am.zwX (by kernel_rfl) us w)
theorem fits : Go.Am.Fits Tryz.prog Go.Am.X := ⟨by kernel_rfl, λf F h => Go.Am.zbt (p := λf F => Go.Am.z1v Tryz.prog f F) Go.Am.fns allChecked f F h, λf vs r _ h => Go.Am.extF_ok ext1 ext2 h, λf us h v h1 x _ hx => Go.Am.libK_ok (ks := Go.Am.KRL) (gs := Go.Am.GRL) (ps := Go.Am.PRL) (λg s hm => by
      simp only [Go.Am.KRL, List.mem_cons, List.not_mem_nil, or_false, Prod.mk.injEq] at hm
      obtain ⟨rfl, rfl⟩ := hm
      exact keysRow0) (λg s hm => by
      simp only [Go.Am.GRL, List.mem_cons, List.not_mem_nil, or_false, Prod.mk.injEq] at hm
      obtain ⟨rfl, rfl⟩ := hm
      exact growRow0) (λg s hm => by
      simp only [Go.Am.PRL, List.mem_cons, List.not_mem_nil, or_false, Prod.mk.injEq] at hm
      obtain ⟨rfl, rfl⟩ := hm
      exact pureRow0) hx⟩

set_option maxRecDepth 100000 in
theorem law_lifted (os : Os) (started : os.Started) (H : Type) (enc : TypeId × Value -> H) :
    ReturnsInHanded {} Tryz.checked os 3 .any (Rows.stepsTimedSpec.pre6 enc Tryz.prog Tryz.f3 Rows.stepsTimedRow.domain false) (Rows.stepsTimedSpec.post enc Tryz.prog Tryz.f3 false true false false) := by
  refine returnsInHanded_of_change (C := Tryz.checked) own started (by kernel_rfl) Tryz.func3
    (ChangeSpec.witness6 (enc := enc) (C := Tryz.checked) false ⟨#[], #[.slice none 0 0], []⟩ 8 (by kernel_rfl) (by kernel_rfl) (by kernel_rfl) (by kernel_rfl)) ?_
  intro W base args ds gs before hval0 hW _ _
  have hval : ∀ (j : Nat) t v, Tryz.f3.params[j]? = some t -> args[j]? = some v -> Value.okWide Tryz.prog W .any base t v := hval0
  have hW' := hW
  obtain ⟨p, q, hA0, hV, rfl, _, _⟩ := hW
  have hA : DataW.TrodAll enc Tryz.prog W 0 (λ_ => true) true Tryz.f3.params.toList args.toList ds p := hA0
  rw [Tryz.params3] at hA hval
  obtain ⟨v0, d0, rfl, rfl, h0⟩ := trodAll_one hA
  obtain ⟨rfl, rfl⟩ := trodVars_none hV
  have h0k := h0
  obtain ⟨fuel, hf⟩ := h0
  clear hA0 hval0
  simp only [List.append_nil] at hW'
  have hlt : ∀ x ∈ p, x.block < W.heap.size := λx hx => by simpa using hW'.lt x hx
  have law : ∀ L : List Int, Go.Am.gA Go.Am.X 3 [Go.Am.IY L] [] λv _ _ => v = .p (.bool true) := λL => by
    have := Go.Am.law_ST L (K := λv _ _ => v = .p (.bool true))
    exact this.symm ▸ rfl
  have key : Calls Tryz.prog 3 #[v0] W λe W' => e = .returned (.bool true) /\ Below W.heap.size W W' := by
    obtain ⟨a0, len, cap, rfl⟩ := okWide_slice Tryz.underlying22 (hval 0 22 v0 rfl rfl)
    rcases open_ints Tryz.underlying22 Tryz.underlying3 cellsInt hf with ⟨hcs, hx⟩ | ⟨a, len', cap', zs, hcs, _, hl, hm, hz, hx, hcell, hwz⟩
    · simp [Value.cells] at hcs
      obtain ⟨rfl, rfl, rfl⟩ := hcs
      exact Go.Am.law_nil fits Go.Am.zvy law W Go.Am.zwZ
    · simp [Value.cells] at hcs
      obtain ⟨rfl, rfl, rfl⟩ := hcs
      have hzl : len <= zs.length := by rw [hz]; split <;> omega
      exact Go.Am.law_ints fits Go.Am.zvy law Go.Am.zwZ hl hzl hcell
  refine key.mono λe W' ⟨he, hb⟩ => ?_
  subst he
  have hargs : DataW.Trod enc Tryz.prog W' 0 (λb => decide (b < W.heap.size)) true 22 v0 d0 p :=
    Below.trod laidOut (by kernel_rfl) (of_decide_eq_true (by kernel_rfl)) h0k hb hlt
  exact ⟨_, rfl, ⟨_, _, _, [], _, [], hW', trodAll_mk1 (shut_bool Tryz.underlying4 _), trodAll_mk1 hargs, rfl, hb.frame _, λh => by cases h⟩⟩

theorem stepsTimed_holds : Rows.StepsTimedSaid :=
  OpenClaim.holds_of_wide 3 Tryz.f3 rfl rfl rfl rfl rfl rfl rfl ⟨rfl, rfl, rfl, rfl, rfl⟩ rfl rfl rfl rfl rfl (by kernel_rfl) Tryz.func3 (by kernel_rfl)
    (of_decide_eq_true (by kernel_rfl)) (by unfold Func.isWrapper; rw [if_neg (by decide +kernel)]; exact ⟨rfl, rfl⟩)
    (λos started H enc _ => law_lifted os started H enc)

end Go.Proofs.YthofcepomhnpdaaGreat
