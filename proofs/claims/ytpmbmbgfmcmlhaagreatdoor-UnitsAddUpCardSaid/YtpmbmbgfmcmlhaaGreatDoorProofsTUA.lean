/- UnitsAddUp returns true at every input, and the input reads behind the call as it read before. Conditions: the listed package-level variables hold what the program's text lays in them (the card ties them to the text). -/
import Derived.Test.YtpmbmbgfmcmlhaaGreatDoorRows
import Derived.Test.YtpmbmbgfmcmlhaaGreatDoorlawUA8
import Derived.Test.YtpmbmbgfmcmlhaaGreatDoorTie
import Derived.Test.YtpmbmbgfmcmlhaaGreatDoorCards
import Derived.ProofKit
import Derived.Handy
import Derived.Lay
import Derived.SevenTiedAt
import Derived.Stop.LaidErr
import Derived.Shelf.Spec.SlicesGrow
import Derived.Ground.NamesProg
set_option linter.unusedVariables false
namespace Go.Proofs.YtpmbmbgfmcmlhaaGreatDoor
open Go.ChangeShapes Go.WideShapes Go.ChangeAt Go.RowKit

theorem own : ownKnob Tryz.prog.godebug = none := by kernel_rfl
theorem laidOut : laidOutB Tryz.prog = true := by kernel_rfl
theorem cellsInt : Tryz.prog.cellsOf 3 = 1 := by kernel_rfl
theorem allChecked : (Go.Am.fns.all fun p => Go.Am.NS Tryz.prog p.1 p.2) = true := by kernel_rfl
theorem ext1 : Go.Am.ExtRow Tryz.prog Go.Am.jF Go.Extern.BytealgIndexByte.indexByte := Go.Am.znv (by kernel_rfl) (by kernel_rfl)
theorem ext2 : Go.Am.ExtRow Tryz.prog Go.Am.kF Go.Extern.BytealgCompare.compare := Go.Am.znv (by kernel_rfl) (by kernel_rfl)
end Go.Proofs.YtpmbmbgfmcmlhaaGreatDoor
namespace Go.Am
variable {P : Program}
/-- The kit's contract for slices.Grow gives the row. -/
theorem growRow_of {ρ : Go.Shelf.Ren} (L : Go.Proofs.Lays8.n4 P ρ) (i0 : TypeInfo) (z : Value) (sh : Sh) (hi0 : P.info? (ρ.t 25) = some i0) (hz0 : i0.zero = some z) (hs : i0.size = jA sh) (hs0 : 0 < i0.size) (hb : i0.bytes ≤ 1048576) (hz : z.cells.size = i0.size)
    (he : ∀ us w, (callFunc (ρ.f 4) us).run P w = .ok (.enter (ρ.f 4) us) w) : GrowRow P (ρ.f 4) sh where
  enter := he
  room a w := by
    have := Go.Proofs.Any8.slices_Grow_room L a 0 0 0 w (Nat.le_refl _) (by omega) (by omega) (by omega)
    exact this
  grow a n w h0 h1 := by
    have hbig : (0 + n) * i0.bytes ≤ 140737488355328 := by
      rw [Nat.zero_add]
      exact Nat.le_trans (Nat.mul_le_mul h1 hb) (by decide)
    refine (Go.Proofs.Any8.slices_Grow_grow L i0 z hi0 hz0 hs0 a 0 0 n [] w (Nat.le_refl _) (by omega) hbig (by omega) (by simp) (fun _ => rfl) (by simp)).mono fun e w' he => ?_
    obtain ⟨rfl, rfl⟩ := he
    refine ⟨_, _, _, rfl, ?_, rfl⟩
    have hge : 0 + n ≤ grownCap w (0 + n) 0 (ρ.t 25) := grownCap_ge w _ _ _
    simp only [Array.size_append, List.size_toArray, List.length_nil, size_zeroCells, hz, hs]
    rw [Nat.zero_add, ← Nat.right_distrib]
    congr 1
    omega
end Go.Am
namespace Go.Proofs.YtpmbmbgfmcmlhaaGreatDoor
open Go.Shelf Go.ChangeShapes Go.WideShapes Go.ChangeAt Go.RowKit
def Tryz.grow0_ren : Go.Shelf.Ren := ⟨fun | 4 => 63 | n => n, fun | 22 => 28 | 25 => 34 | 3 => 3 | 4 => 4 | 9 => 9 | 20 => 20 | 0 => 0 | n => n, fun | n => n⟩
theorem Tryz.grow0 : Go.Proofs.Lays8.n4 Tryz.prog Tryz.grow0_ren := {
  mixed := by kernel_rfl
  f4 := ⟨Tryz.f63.name, by decide, Tryz.func63.trans (congrArg some (by kernel_rfl))⟩
  t0 := Tryz.underlying0
  a0 := Tryz.isAgg0
  z0 := Tryz.sizeOf0
  v0 := Tryz.zeroValue0
  t3 := Tryz.underlying3
  a3 := Tryz.isAgg3
  z3 := Tryz.sizeOf3
  v3 := Tryz.zeroValue3
  t4 := Tryz.underlying4
  a4 := Tryz.isAgg4
  z4 := Tryz.sizeOf4
  v4 := Tryz.zeroValue4
  t9 := Tryz.underlying9
  a9 := Tryz.isAgg9
  z9 := Tryz.sizeOf9
  v9 := Tryz.zeroValue9
  t20 := Tryz.underlying20
  a20 := Tryz.isAgg20
  z20 := Tryz.sizeOf20
  v20 := Tryz.zeroValue20
  t22 := Tryz.underlying28
  a22 := Tryz.isAgg28
  z22 := Tryz.sizeOf28
  v22 := Tryz.zeroValue28 }
theorem growRow0 : Go.Am.GrowRow Tryz.prog 63 (some 4) :=
  Go.Am.growRow_of (ρ := Tryz.grow0_ren) Tryz.grow0 ((Tryz.prog.info? (Tryz.grow0_ren.t 25)).getD default) ((((Tryz.prog.info? (Tryz.grow0_ren.t 25)).getD default).zero).getD default) (some 4) (by kernel_rfl) (by kernel_rfl) (by kernel_rfl) (of_decide_eq_true (by kernel_rfl)) (of_decide_eq_true (by kernel_rfl)) (by kernel_rfl) (fun us w => Go.Am.znu (by kernel_rfl) us w)
def Tryz.atoiL_ren : Go.Shelf.Ren := ⟨fun | 172 => 14 | 244 => 36 | 245 => 37 | 247 => 70 | 279 => 71 | 280 => 72 | 281 => 73 | 282 => 74 | 287 => 106 | 316 => 107 | 171 => 34 | 205 => 108 | 321 => 149 | 322 => 150 | 243 => 69 | 246 => 105 | 283 => 145 | 284 => 146 | 285 => 147 | 286 => 148 | 129 => 144 | 317 => 179 | 318 => 180 | 319 => 181 | 320 => 182 | 337 => 203 | 338 => 204 | n => n, fun | 9 => 9 | 3 => 3 | 75 => 47 | 76 => 48 | 4 => 4 | 5 => 5 | 167 => 119 | 37 => 120 | 0 => 0 | 85 => 121 | 2 => 2 | 168 => 123 | 53 => 170 | 175 => 171 | 46 => 168 | 210 => 175 | 127 => 220 | 145 => 223 | 143 => 221 | 21 => 21 | 171 => 215 | 173 => 217 | 212 => 254 | 51 => 213 | 20 => 20 | 213 => 255 | 232 => 289 | 233 => 290 | 80 => 302 | n => n, fun | 15 => 0 | 16 => 1 | 17 => 3 | 18 => 4 | 19 => 5 | n => n⟩
theorem Tryz.atoiL : Go.Proofs.LaysC.n172 Tryz.prog Tryz.atoiL_ren := {
  mixed := by kernel_rfl
  f129 := Tryz.func144.trans (congrArg some (by kernel_rfl))
  f171 := Tryz.func34.trans (congrArg some (by kernel_rfl))
  f172 := Tryz.func14.trans (congrArg some (by kernel_rfl))
  f205 := Tryz.func108.trans (congrArg some (by kernel_rfl))
  f243 := Tryz.func69.trans (congrArg some (by kernel_rfl))
  f244 := Tryz.func36.trans (congrArg some (by kernel_rfl))
  f245 := Tryz.func37.trans (congrArg some (by kernel_rfl))
  f246 := Tryz.func105.trans (congrArg some (by kernel_rfl))
  f247 := Tryz.func70.trans (congrArg some (by kernel_rfl))
  f279 := Tryz.func71.trans (congrArg some (by kernel_rfl))
  f280 := Tryz.func72.trans (congrArg some (by kernel_rfl))
  f281 := Tryz.func73.trans (congrArg some (by kernel_rfl))
  f282 := Tryz.func74.trans (congrArg some (by kernel_rfl))
  f283 := Tryz.func145.trans (congrArg some (by kernel_rfl))
  f284 := Tryz.func146.trans (congrArg some (by kernel_rfl))
  f285 := Tryz.func147.trans (congrArg some (by kernel_rfl))
  f286 := Tryz.func148.trans (congrArg some (by kernel_rfl))
  f287 := Tryz.func106.trans (congrArg some (by kernel_rfl))
  f316 := Tryz.func107.trans (congrArg some (by kernel_rfl))
  f317 := Tryz.func179.trans (congrArg some (by kernel_rfl))
  f318 := Tryz.func180.trans (congrArg some (by kernel_rfl))
  f319 := Tryz.func181.trans (congrArg some (by kernel_rfl))
  f320 := Tryz.func182.trans (congrArg some (by kernel_rfl))
  f321 := Tryz.func149.trans (congrArg some (by kernel_rfl))
  f322 := Tryz.func150.trans (congrArg some (by kernel_rfl))
  f337 := Tryz.func203.trans (congrArg some (by kernel_rfl))
  f338 := Tryz.func204.trans (congrArg some (by kernel_rfl))
  t0 := Tryz.underlying0
  a0 := Tryz.isAgg0
  z0 := Tryz.sizeOf0
  v0 := Tryz.zeroValue0
  t2 := Tryz.underlying2
  a2 := Tryz.isAgg2
  z2 := Tryz.sizeOf2
  v2 := Tryz.zeroValue2
  t3 := Tryz.underlying3
  a3 := Tryz.isAgg3
  z3 := Tryz.sizeOf3
  v3 := Tryz.zeroValue3
  t4 := Tryz.underlying4
  a4 := Tryz.isAgg4
  z4 := Tryz.sizeOf4
  v4 := Tryz.zeroValue4
  t5 := Tryz.underlying5
  a5 := Tryz.isAgg5
  z5 := Tryz.sizeOf5
  v5 := Tryz.zeroValue5
  t9 := Tryz.underlying9
  a9 := Tryz.isAgg9
  z9 := Tryz.sizeOf9
  v9 := Tryz.zeroValue9
  t20 := Tryz.underlying20
  a20 := Tryz.isAgg20
  z20 := Tryz.sizeOf20
  v20 := Tryz.zeroValue20
  t21 := Tryz.underlying21
  a21 := Tryz.isAgg21
  z21 := Tryz.sizeOf21
  v21 := Tryz.zeroValue21
  t37 := Tryz.underlying120
  a37 := Tryz.isAgg120
  z37 := Tryz.sizeOf120
  v37 := Tryz.zeroValue120
  t46 := Tryz.underlying168
  a46 := Tryz.isAgg168
  z46 := Tryz.sizeOf168
  v46 := Tryz.zeroValue168
  t51 := Tryz.underlying213
  a51 := Tryz.isAgg213
  z51 := Tryz.sizeOf213
  v51 := Tryz.zeroValue213
  t53 := Tryz.underlying170
  a53 := Tryz.isAgg170
  z53 := Tryz.sizeOf170
  v53 := Tryz.zeroValue170
  t75 := Tryz.underlying47
  a75 := Tryz.isAgg47
  z75 := Tryz.sizeOf47
  v75 := Tryz.zeroValue47
  t76 := Tryz.underlying48
  a76 := Tryz.isAgg48
  z76 := Tryz.sizeOf48
  v76 := Tryz.zeroValue48
  t85 := Tryz.underlying121
  a85 := Tryz.isAgg121
  z85 := Tryz.sizeOf121
  v85 := Tryz.zeroValue121
  t127 := Tryz.underlying220
  a127 := Tryz.isAgg220
  z127 := Tryz.sizeOf220
  v127 := Tryz.zeroValue220
  t143 := Tryz.underlying221
  a143 := Tryz.isAgg221
  z143 := Tryz.sizeOf221
  v143 := Tryz.zeroValue221
  t145 := Tryz.underlying223
  a145 := Tryz.isAgg223
  z145 := Tryz.sizeOf223
  v145 := Tryz.zeroValue223
  t167 := Tryz.underlying119
  a167 := Tryz.isAgg119
  z167 := Tryz.sizeOf119
  v167 := Tryz.zeroValue119
  t168 := Tryz.underlying123
  a168 := Tryz.isAgg123
  z168 := Tryz.sizeOf123
  v168 := Tryz.zeroValue123
  t171 := Tryz.underlying215
  a171 := Tryz.isAgg215
  z171 := Tryz.sizeOf215
  v171 := Tryz.zeroValue215
  t173 := Tryz.underlying217
  a173 := Tryz.isAgg217
  z173 := Tryz.sizeOf217
  v173 := Tryz.zeroValue217
  t175 := Tryz.underlying171
  a175 := Tryz.isAgg171
  z175 := Tryz.sizeOf171
  v175 := Tryz.zeroValue171
  t210 := Tryz.underlying175
  a210 := Tryz.isAgg175
  z210 := Tryz.sizeOf175
  v210 := Tryz.zeroValue175
  t212 := Tryz.underlying254
  a212 := Tryz.isAgg254
  z212 := Tryz.sizeOf254
  v212 := Tryz.zeroValue254
  t213 := Tryz.underlying255
  a213 := Tryz.isAgg255
  z213 := Tryz.sizeOf255
  t232 := Tryz.underlying289
  a232 := Tryz.isAgg289
  z232 := Tryz.sizeOf289
  v232 := Tryz.zeroValue289
  t233 := Tryz.underlying290
  a233 := Tryz.isAgg290
  z233 := Tryz.sizeOf290
  v233 := Tryz.zeroValue290
  g15 := by kernel_rfl
  g16 := by kernel_rfl
  g17 := by kernel_rfl
  g18 := by kernel_rfl
  g19 := by kernel_rfl
  t80 := Tryz.underlying302
  a80 := Tryz.isAgg302
  z80 := Tryz.sizeOf302
  v80 := Tryz.zeroValue302
  i0 := by kernel_rfl
  i2 := by kernel_rfl
  i3 := by kernel_rfl
  i4 := by kernel_rfl
  i5 := by kernel_rfl
  i9 := by kernel_rfl
  i20 := by kernel_rfl
  i21 := by kernel_rfl
  i37 := by kernel_rfl
  i46 := by kernel_rfl
  i51 := by kernel_rfl
  i53 := by kernel_rfl
  i75 := by kernel_rfl
  i76 := by kernel_rfl
  i80 := by kernel_rfl
  i85 := by kernel_rfl
  i127 := by kernel_rfl
  i143 := by kernel_rfl
  i145 := by kernel_rfl
  i167 := by kernel_rfl
  i168 := by kernel_rfl
  i171 := by kernel_rfl
  i173 := by kernel_rfl
  i175 := by kernel_rfl
  i210 := by kernel_rfl
  i212 := by kernel_rfl
  i232 := by kernel_rfl
  i233 := by kernel_rfl
  m15 := by kernel_rfl
  m16 := by kernel_rfl
  m17 := by kernel_rfl
  m18 := by kernel_rfl
  m19 := by kernel_rfl
  c0 := by kernel_rfl
  c2 := by kernel_rfl
  c3 := by kernel_rfl
  c4 := by kernel_rfl
  c5 := by kernel_rfl
  c9 := by kernel_rfl
  c20 := by kernel_rfl
  c21 := by kernel_rfl
  c37 := by kernel_rfl
  c46 := by kernel_rfl
  c51 := by kernel_rfl
  c53 := by kernel_rfl
  c75 := by kernel_rfl
  c76 := by kernel_rfl
  c80 := by kernel_rfl
  c85 := by kernel_rfl
  c127 := by kernel_rfl
  c143 := by kernel_rfl
  c145 := by kernel_rfl
  c167 := by kernel_rfl
  c168 := by kernel_rfl
  c171 := by kernel_rfl
  c173 := by kernel_rfl
  c175 := by kernel_rfl
  c210 := by kernel_rfl
  c212 := by kernel_rfl
  c213 := by kernel_rfl
  c232 := by kernel_rfl
  c233 := by kernel_rfl }
theorem pureRow0 : Go.Am.PureRow Tryz.prog Go.Am.X.gl 14 Go.Am.xG :=
  Go.Am.atoiRow (ρ := Tryz.atoiL_ren) Tryz.atoiL (fun us w => Go.Am.znu (by kernel_rfl) us w)
def Tryz.itoaL_ren : Go.Shelf.Ren := ⟨fun | 171 => 34 | 243 => 69 | 246 => 105 | 283 => 145 | 284 => 146 | 285 => 147 | 286 => 148 | 129 => 144 | 317 => 179 | 318 => 180 | 319 => 181 | 320 => 182 | 337 => 203 | 338 => 204 | n => n, fun | 3 => 3 | 9 => 9 | 2 => 2 | 4 => 4 | 171 => 215 | 0 => 0 | 53 => 170 | 37 => 120 | 5 => 5 | 173 => 217 | 212 => 254 | 51 => 213 | 20 => 20 | 213 => 255 | 46 => 168 | 232 => 289 | 233 => 290 | n => n, fun | 17 => 3 | 18 => 4 | 19 => 5 | n => n⟩
theorem Tryz.itoaL : Go.Proofs.LaysM.n171 Tryz.prog Tryz.itoaL_ren := {
  mixed := by kernel_rfl
  f129 := Tryz.func144.trans (congrArg some (by kernel_rfl))
  f171 := Tryz.func34.trans (congrArg some (by kernel_rfl))
  f243 := Tryz.func69.trans (congrArg some (by kernel_rfl))
  f246 := Tryz.func105.trans (congrArg some (by kernel_rfl))
  f283 := Tryz.func145.trans (congrArg some (by kernel_rfl))
  f284 := Tryz.func146.trans (congrArg some (by kernel_rfl))
  f285 := Tryz.func147.trans (congrArg some (by kernel_rfl))
  f286 := Tryz.func148.trans (congrArg some (by kernel_rfl))
  f317 := Tryz.func179.trans (congrArg some (by kernel_rfl))
  f318 := Tryz.func180.trans (congrArg some (by kernel_rfl))
  f319 := Tryz.func181.trans (congrArg some (by kernel_rfl))
  f320 := Tryz.func182.trans (congrArg some (by kernel_rfl))
  f337 := Tryz.func203.trans (congrArg some (by kernel_rfl))
  f338 := Tryz.func204.trans (congrArg some (by kernel_rfl))
  t0 := Tryz.underlying0
  a0 := Tryz.isAgg0
  z0 := Tryz.sizeOf0
  v0 := Tryz.zeroValue0
  t2 := Tryz.underlying2
  a2 := Tryz.isAgg2
  z2 := Tryz.sizeOf2
  v2 := Tryz.zeroValue2
  t3 := Tryz.underlying3
  a3 := Tryz.isAgg3
  z3 := Tryz.sizeOf3
  v3 := Tryz.zeroValue3
  t4 := Tryz.underlying4
  a4 := Tryz.isAgg4
  z4 := Tryz.sizeOf4
  v4 := Tryz.zeroValue4
  t5 := Tryz.underlying5
  a5 := Tryz.isAgg5
  z5 := Tryz.sizeOf5
  v5 := Tryz.zeroValue5
  t9 := Tryz.underlying9
  a9 := Tryz.isAgg9
  z9 := Tryz.sizeOf9
  v9 := Tryz.zeroValue9
  t20 := Tryz.underlying20
  a20 := Tryz.isAgg20
  z20 := Tryz.sizeOf20
  v20 := Tryz.zeroValue20
  t37 := Tryz.underlying120
  a37 := Tryz.isAgg120
  z37 := Tryz.sizeOf120
  v37 := Tryz.zeroValue120
  t46 := Tryz.underlying168
  a46 := Tryz.isAgg168
  z46 := Tryz.sizeOf168
  v46 := Tryz.zeroValue168
  t51 := Tryz.underlying213
  a51 := Tryz.isAgg213
  z51 := Tryz.sizeOf213
  v51 := Tryz.zeroValue213
  t53 := Tryz.underlying170
  a53 := Tryz.isAgg170
  z53 := Tryz.sizeOf170
  v53 := Tryz.zeroValue170
  t171 := Tryz.underlying215
  a171 := Tryz.isAgg215
  z171 := Tryz.sizeOf215
  v171 := Tryz.zeroValue215
  t173 := Tryz.underlying217
  a173 := Tryz.isAgg217
  z173 := Tryz.sizeOf217
  v173 := Tryz.zeroValue217
  t212 := Tryz.underlying254
  a212 := Tryz.isAgg254
  z212 := Tryz.sizeOf254
  v212 := Tryz.zeroValue254
  t213 := Tryz.underlying255
  a213 := Tryz.isAgg255
  z213 := Tryz.sizeOf255
  t232 := Tryz.underlying289
  a232 := Tryz.isAgg289
  z232 := Tryz.sizeOf289
  v232 := Tryz.zeroValue289
  t233 := Tryz.underlying290
  a233 := Tryz.isAgg290
  z233 := Tryz.sizeOf290
  v233 := Tryz.zeroValue290
  g17 := by kernel_rfl
  g18 := by kernel_rfl
  g19 := by kernel_rfl
  i0 := by kernel_rfl
  i2 := by kernel_rfl
  i3 := by kernel_rfl
  i4 := by kernel_rfl
  i5 := by kernel_rfl
  i9 := by kernel_rfl
  i20 := by kernel_rfl
  i37 := by kernel_rfl
  i46 := by kernel_rfl
  i51 := by kernel_rfl
  i53 := by kernel_rfl
  i171 := by kernel_rfl
  i173 := by kernel_rfl
  i212 := by kernel_rfl
  i232 := by kernel_rfl
  i233 := by kernel_rfl
  m17 := by kernel_rfl
  m18 := by kernel_rfl
  m19 := by kernel_rfl }
theorem pureRow1 : Go.Am.PureRow Tryz.prog Go.Am.X.gl 34 Go.Am.NI :=
  Go.Am.itoaRow (ρ := Tryz.itoaL_ren) Tryz.itoaL 3 (by kernel_rfl) (by kernel_rfl) (fun us w => Go.Am.znu (by kernel_rfl) us w)
def Tryz.trimL_ren : Go.Shelf.Ren := ⟨fun | 160 => 154 | 232 => 191 | 231 => 190 | 227 => 192 | 234 => 194 | 233 => 193 | 236 => 196 | 235 => 195 | 228 => 208 | 271 => 211 | 151 => 210 | 197 => 209 | 120 => 219 | 152 => 218 | 260 => 217 | 137 => 128 | 119 => 221 | 224 => 222 | 225 => 223 | 217 => 172 | 266 => 201 | n => n, fun | 9 => 9 | 4 => 4 | 3 => 3 | 5 => 5 | 117 => 266 | 116 => 265 | 0 => 0 | 124 => 269 | 21 => 21 | 105 => 284 | 46 => 168 | 119 => 295 | 139 => 298 | 138 => 297 | n => n, fun | 3 => 6 | 4 => 7 | n => n⟩
theorem Tryz.trimL : Go.Proofs.Lays.n160 Tryz.prog Tryz.trimL_ren := {
  mixed := by kernel_rfl
  f119 := Tryz.func221.trans (congrArg some (by kernel_rfl))
  f120 := Tryz.func219.trans (congrArg some (by kernel_rfl))
  f137 := Tryz.func128.trans (congrArg some (by kernel_rfl))
  f151 := Tryz.func210.trans (congrArg some (by kernel_rfl))
  f152 := Tryz.func218.trans (congrArg some (by kernel_rfl))
  f160 := Tryz.func154.trans (congrArg some (by kernel_rfl))
  f197 := Tryz.func209.trans (congrArg some (by kernel_rfl))
  f217 := Tryz.func172.trans (congrArg some (by kernel_rfl))
  f224 := Tryz.func222.trans (congrArg some (by kernel_rfl))
  f225 := Tryz.func223.trans (congrArg some (by kernel_rfl))
  f227 := Tryz.func192.trans (congrArg some (by kernel_rfl))
  f228 := Tryz.func208.trans (congrArg some (by kernel_rfl))
  f231 := Tryz.func190.trans (congrArg some (by kernel_rfl))
  f232 := Tryz.func191.trans (congrArg some (by kernel_rfl))
  f233 := Tryz.func193.trans (congrArg some (by kernel_rfl))
  f234 := Tryz.func194.trans (congrArg some (by kernel_rfl))
  f235 := Tryz.func195.trans (congrArg some (by kernel_rfl))
  f236 := Tryz.func196.trans (congrArg some (by kernel_rfl))
  f260 := Tryz.func217.trans (congrArg some (by kernel_rfl))
  f266 := Tryz.func201.trans (congrArg some (by kernel_rfl))
  f271 := Tryz.func211.trans (congrArg some (by kernel_rfl))
  t0 := Tryz.underlying0
  a0 := Tryz.isAgg0
  z0 := Tryz.sizeOf0
  v0 := Tryz.zeroValue0
  t3 := Tryz.underlying3
  a3 := Tryz.isAgg3
  z3 := Tryz.sizeOf3
  v3 := Tryz.zeroValue3
  t4 := Tryz.underlying4
  a4 := Tryz.isAgg4
  z4 := Tryz.sizeOf4
  v4 := Tryz.zeroValue4
  t5 := Tryz.underlying5
  a5 := Tryz.isAgg5
  z5 := Tryz.sizeOf5
  v5 := Tryz.zeroValue5
  t9 := Tryz.underlying9
  a9 := Tryz.isAgg9
  z9 := Tryz.sizeOf9
  v9 := Tryz.zeroValue9
  t21 := Tryz.underlying21
  a21 := Tryz.isAgg21
  z21 := Tryz.sizeOf21
  v21 := Tryz.zeroValue21
  t46 := Tryz.underlying168
  a46 := Tryz.isAgg168
  z46 := Tryz.sizeOf168
  v46 := Tryz.zeroValue168
  t105 := Tryz.underlying284
  a105 := Tryz.isAgg284
  z105 := Tryz.sizeOf284
  v105 := Tryz.zeroValue284
  t116 := Tryz.underlying265
  a116 := Tryz.isAgg265
  z116 := Tryz.sizeOf265
  t117 := Tryz.underlying266
  a117 := Tryz.isAgg266
  z117 := Tryz.sizeOf266
  v117 := Tryz.zeroValue266
  t119 := Tryz.underlying295
  a119 := Tryz.isAgg295
  z119 := Tryz.sizeOf295
  t124 := Tryz.underlying269
  a124 := Tryz.isAgg269
  z124 := Tryz.sizeOf269
  v124 := Tryz.zeroValue269
  t138 := Tryz.underlying297
  a138 := Tryz.isAgg297
  z138 := Tryz.sizeOf297
  v138 := Tryz.zeroValue297
  t139 := Tryz.underlying298
  a139 := Tryz.isAgg298
  z139 := Tryz.sizeOf298
  v139 := Tryz.zeroValue298
  g3 := by kernel_rfl
  g4 := by kernel_rfl }
theorem pureRow2 : Go.Am.PureRow Tryz.prog Go.Am.X.gl 154 Go.Am.trimS :=
  Go.Am.trimRow (ρ := Tryz.trimL_ren) Tryz.trimL (by kernel_rfl) (fun us w => Go.Am.znu (by kernel_rfl) us w)
theorem allChecked0 : (Go.Am.fns0.all fun p => Go.Am.NS Tryz.prog p.1 p.2) = true := by kernel_rfl
theorem fits0 : Go.Am.Fits Tryz.prog Go.Am.X0 := ⟨by kernel_rfl, fun f F h => Go.Am.z2J (p := fun f F => Go.Am.NS Tryz.prog f F) Go.Am.fns0 allChecked0 f F h, fun f vs r _ h => Go.Am.extF_ok ext1 ext2 h, fun f us h v h1 x _ hx => Go.Am.libF_ok (gs := Go.Am.GRL) (ps := Go.Am.PRL0) (fun g s hm => by
      simp only [Go.Am.GRL, List.mem_cons, List.not_mem_nil, or_false, Prod.mk.injEq] at hm
      obtain ⟨rfl, rfl⟩ := hm
      exact growRow0) (fun g s hm => by
      simp only [Go.Am.PRL0, List.mem_cons, List.not_mem_nil, or_false, Prod.mk.injEq] at hm
      rcases hm with ⟨rfl, rfl⟩ | ⟨rfl, rfl⟩ | ⟨rfl, rfl⟩
      · exact pureRow0
      · exact pureRow1
      · exact pureRow2) hx⟩
theorem pureRow3 : Go.Am.PureRow Tryz.prog Go.Am.X.gl 16 Go.Am.XY :=
  Go.Am.znw fits0 Go.Am.znx (fun us w => Go.Am.znu (by kernel_rfl) us w)
theorem fits : Go.Am.Fits Tryz.prog Go.Am.X := ⟨by kernel_rfl, fun f F h => Go.Am.z2J (p := fun f F => Go.Am.NS Tryz.prog f F) Go.Am.fns allChecked f F h, fun f vs r _ h => Go.Am.extF_ok ext1 ext2 h, fun f us h v h1 x _ hx => Go.Am.libF_ok (gs := Go.Am.GRL) (ps := Go.Am.PRL) (fun g s hm => by
      simp only [Go.Am.GRL, List.mem_cons, List.not_mem_nil, or_false, Prod.mk.injEq] at hm
      obtain ⟨rfl, rfl⟩ := hm
      exact growRow0) (fun g s hm => by
      simp only [Go.Am.PRL, List.mem_cons, List.not_mem_nil, or_false, Prod.mk.injEq] at hm
      rcases hm with ⟨rfl, rfl⟩ | ⟨rfl, rfl⟩ | ⟨rfl, rfl⟩ | ⟨rfl, rfl⟩
      · exact pureRow0
      · exact pureRow1
      · exact pureRow2
      · exact pureRow3) hx⟩
def powers : List Int := [1, 10, 100, 1000, 10000, 100000, 1000000, 10000000, 100000000, 1000000000, 10000000000, 100000000000, 1000000000000, 10000000000000, 100000000000000, 1000000000000000, 10000000000000000, 100000000000000000, 1000000000000000000, 10000000000000000000]
theorem of_laid {W : World} (h : laidMetH Tryz.prog Rows.unitsAddUpRow.laid W) : Go.Am.TC Go.Am.X.gl (Go.Am.imm [] [] W) := by
  rw [MakeChecks.laidMetH_plain _ _ _ (by kernel_rfl)] at h
  have h2 : laidMet Tryz.prog (("internal/strconv.uint64pow10", Go.Lib.tabData .u64 powers) :: _) W := h.tail.tail
  exact Go.Am.ginv_tab (zs := powers) (by kernel_rfl) (Go.Lib.tabIs_of_head (g := 3) (t := 254) (e := 170) (n := 20) (by kernel_rfl) (by kernel_rfl) Tryz.underlying254 Tryz.underlying170 (by kernel_rfl) (by kernel_rfl) h2) (by kernel_rfl)

set_option maxRecDepth 100000 in
theorem law_lifted (os : Os) (started : os.Started) (H : Type) (enc : TypeId × Value → H) :
    ReturnsInHanded {} Tryz.checked os 3 .any (fun w args => (Rows.unitsAddUpSpec.pre enc Tryz.prog Tryz.f3 [] false w args ∧ laidMetH Tryz.prog Rows.unitsAddUpRow.laid w) ∧ sizedMet enc Tryz.prog Tryz.f3 (OpenSpec.ofChange Rows.unitsAddUpSpec) false w args)
      (Rows.unitsAddUpSpec.post enc Tryz.prog Tryz.f3 false true false false) := by
  refine returnsInHanded_of_change_and (C := Tryz.checked) (X := fun w _ => laidMetH Tryz.prog Rows.unitsAddUpRow.laid w) (fun _ _ _ hh h => h.of_heap hh) own started (by kernel_rfl) Tryz.func3
    (ChangeSpec.witness_shaped (enc := enc) (C := Tryz.checked) (os := os) (X := fun w _ => laidMetH Tryz.prog Rows.unitsAddUpRow.laid w) false (World.laidAll Tryz.prog os Rows.unitsAddUpRow.laid) #[.slice none 0 0] 8 (World.laidAll_os _ _ _)
      (World.shaped_of_ZipB (by kernel_rfl) (by kernel_rfl)) (by kernel_rfl) (by kernel_rfl) (by kernel_rfl)
      (by rw [MakeChecks.laidMetH_plain _ _ _ (by kernel_rfl)]; exact laidMet_laidAll _ (by kernel_rfl) (by kernel_rfl))) ?_
  intro W base args ds gs before hval0 hW _ _ hL _
  have hval : ∀ (j : Nat) t v, Tryz.f3.params[j]? = some t → args[j]? = some v → Value.okWide Tryz.prog W .any base t v := hval0
  have hW' := hW
  obtain ⟨p, q, hA0, hV, rfl, _, _⟩ := hW
  have hA : DataW.TrodAll enc Tryz.prog W 0 (fun _ => true) true Tryz.f3.params.toList args.toList ds p := hA0
  rw [Tryz.params3] at hA hval
  obtain ⟨v0, d0, rfl, rfl, h0⟩ := trodAll_one hA
  obtain ⟨rfl, rfl⟩ := trodVars_none hV
  have h0k := h0
  obtain ⟨fuel, hf⟩ := h0
  clear hA0 hval0
  simp only [List.append_nil] at hW'
  have hlt : ∀ x ∈ p, x.block < W.heap.size := fun x hx => by simpa using hW'.lt x hx
  have hG := of_laid hL
  have law : ∀ L : List Int, Go.Am.gA Go.Am.X 3 [Go.Am.sQ L] [] fun v _ _ => v = .p (.bool true) := fun L => by
    have := Go.Am.law_UA L (K := fun v _ _ => v = .p (.bool true))
    exact this.symm ▸ rfl
  have key : Calls Tryz.prog 3 #[v0] W fun e W' => e = .returned (.bool true) ∧ Below W.heap.size W W' := by
    obtain ⟨a0, len, cap, rfl⟩ := okWide_slice Tryz.underlying22 (hval 0 22 v0 rfl rfl)
    rcases open_ints Tryz.underlying22 Tryz.underlying3 cellsInt hf with ⟨hcs, hx⟩ | ⟨a, len', cap', zs, hcs, _, hl, hm, hz, hx, hcell, hwz⟩
    · simp [Value.cells] at hcs
      obtain ⟨rfl, rfl, rfl⟩ := hcs
      exact Go.Am.law_nil fits Go.Am.zm8 law W hG
    · simp [Value.cells] at hcs
      obtain ⟨rfl, rfl, rfl⟩ := hcs
      have hzl : len ≤ zs.length := by rw [hz]; split <;> omega
      exact Go.Am.law_ints fits Go.Am.zm8 law hG hl hzl hcell
  refine key.mono fun e W' ⟨he, hb⟩ => ?_
  subst he
  have hargs : DataW.Trod enc Tryz.prog W' 0 (fun b => decide (b < W.heap.size)) true 22 v0 d0 p :=
    Below.trod laidOut (by kernel_rfl) (of_decide_eq_true (by kernel_rfl)) h0k hb hlt
  exact ⟨_, rfl, ⟨_, _, _, [], _, [], hW', trodAll_mk1 (shut_bool Tryz.underlying4 _), trodAll_mk1 hargs, rfl, hb.frame _, fun h => by cases h⟩⟩

theorem zNamed : Tryz.prog.funcNamed "scanchain/scankeep2.UnitsAddUp" = some 3 := by kernel_rfl
theorem zJoin : joinedFacts Tryz.pinned.checked.prog 3 Tryz.f3 Rows.unitsAddUpSpec Rows.unitsAddUpRow = true := by kernel_rfl
theorem zInst : Tryz.f3.isInstance Tryz.pinned.checked.prog Rows.unitsAddUpRow.origin Rows.unitsAddUpRow.targs := of_decide_eq_true (by kernel_rfl)
theorem zWrap : Tryz.f3.isWrapper Tryz.pinned.checked.prog Rows.unitsAddUpRow.wrapper Rows.unitsAddUpRow.mainSum := by unfold Func.isWrapper; rw [if_neg (by decide +kernel)]; exact ⟨rfl, rfl⟩
theorem unitsAddUp_holds : Rows.UnitsAddUpSaid :=
  OpenClaim.holds_of_wide 3 Tryz.f3 rfl rfl rfl rfl rfl rfl rfl ⟨rfl, rfl, rfl, rfl, rfl⟩ rfl rfl rfl rfl rfl zNamed Tryz.func3 zJoin zInst zWrap
    (fun os started H enc _ => law_lifted os started H enc)
theorem zText : Rows.unitsAddUpRow.wfByText (OpenSpec.ofChange Rows.unitsAddUpSpec) = true := by kernel_rfl
theorem zMain : Tryz.pinned.checked.prog.mainIs = some (true, "15b077cd6807dfa68d36cc6c01470ba1c9db0036b2ad11373545ce8acbfca71b".toList) := by kernel_rfl
theorem zLooks : true = Tryz.pinned.checked.prog.looks [] := by kernel_rfl
theorem zStand : ([22].all fun u => !Tryz.prog.wantsStandIn u) = true := by kernel_rfl
theorem zGoes : false = Rows.unitsAddUpRow.goesBy Tryz.pinned.checked.prog := by kernel_rfl
theorem unitsAddUp_card_holds : Rows.UnitsAddUpCardSaid :=
  Claim7.holds_tied_plain_at .later [] [.data, .data, .data, .data, .sentinel, .sentinel, .pinned] true (true, "15b077cd6807dfa68d36cc6c01470ba1c9db0036b2ad11373545ce8acbfca71b") true unitsAddUp_holds (fun _ h => by cases h) zText (fun _ h => by cases h) unitsAddUp_row_tie rfl ⟨rfl, rfl⟩ zMain rfl
    (fun f fn hf hfn => by
      obtain rfl : f = 3 := Option.some.inj (zNamed.symm.trans hf) |>.symm
      obtain rfl : fn = Tryz.f3 := (Option.some.inj (Tryz.func3.symm.trans hfn)).symm
      exact ⟨zLooks, fun j t ht => by
        rw [Tryz.params3] at ht
        have hm : t ∈ [22] := by simpa using Array.mem_of_getElem? ht
        exact (show Tryz.prog.wantsStandIn t = false by simpa using List.all_eq_true.1 zStand t hm)⟩)
    zGoes

end Go.Proofs.YtpmbmbgfmcmlhaaGreatDoor
