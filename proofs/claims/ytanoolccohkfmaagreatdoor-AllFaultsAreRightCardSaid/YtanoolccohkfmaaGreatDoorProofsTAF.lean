/- AllFaultsAreRight returns true at every input, and the input reads behind the call as it read before. Conditions: the listed package-level variables hold what the program's text lays in them (the card ties them to the text). -/
import Derived.Test.YtanoolccohkfmaaGreatDoorRows
import Derived.Test.YtanoolccohkfmaaGreatDoorlawAF8
import Derived.Test.YtanoolccohkfmaaGreatDoorTie
import Derived.Test.YtanoolccohkfmaaGreatDoorCards
import Derived.ProofKit
import Derived.Handy
import Derived.Lay
import Derived.SevenTiedAt
import Derived.Stop.LaidErr
import Derived.Ground.NamesProg
set_option linter.unusedVariables false
namespace Go.Proofs.YtanoolccohkfmaaGreatDoor
open Go.ChangeShapes Go.WideShapes Go.ChangeAt Go.RowKit

theorem own : ownKnob Tryz.prog.godebug = none := by kernel_rfl
theorem laidOut : laidOutB Tryz.prog = true := by kernel_rfl
theorem cellsInt : Tryz.prog.cellsOf 3 = 1 := by kernel_rfl
theorem allChecked : (Go.Am.fns.all fun p => Go.Am.chkFun Tryz.prog p.1 p.2) = true := by kernel_rfl
theorem ext1 : Go.Am.ExtRow Tryz.prog Go.Am.f_internal_bytealg_IndexByteString Go.Extern.BytealgIndexByte.indexByte := Go.Am.extRow_of (by kernel_rfl) (by kernel_rfl)
theorem ext2 : Go.Am.ExtRow Tryz.prog Go.Am.f_internal_bytealg_abigen_runtime_cmpstring Go.Extern.BytealgCompare.compare := Go.Am.extRow_of (by kernel_rfl) (by kernel_rfl)
open Go.Shelf Go.ChangeShapes Go.WideShapes Go.ChangeAt Go.RowKit
def Tryz.atoiL_ren : Go.Shelf.Ren := ⟨fun | 172 => 205 | 244 => 247 | 245 => 248 | 247 => 291 | 279 => 292 | 280 => 293 | 281 => 294 | 282 => 295 | 287 => 315 | 316 => 316 | 171 => 98 | 205 => 317 | 321 => 326 | 322 => 327 | 243 => 156 | 246 => 199 | 283 => 237 | 284 => 238 | 285 => 239 | 286 => 240 | 129 => 185 | 317 => 280 | 318 => 281 | 319 => 282 | 320 => 283 | 337 => 311 | 338 => 312 | n => n, fun | 9 => 9 | 3 => 3 | 75 => 113 | 76 => 114 | 4 => 4 | 5 => 5 | 167 => 315 | 37 => 89 | 0 => 0 | 85 => 316 | 2 => 2 | 168 => 318 | 53 => 83 | 175 => 337 | 46 => 162 | 210 => 341 | 127 => 180 | 145 => 356 | 143 => 354 | 21 => 21 | 171 => 274 | 173 => 276 | 212 => 310 | 51 => 225 | 20 => 20 | 213 => 311 | 232 => 347 | 233 => 348 | 80 => 118 | n => n, fun | 15 => 2 | 16 => 3 | 17 => 1 | 18 => 4 | 19 => 5 | n => n⟩
theorem Tryz.atoiL : Go.Proofs.LaysC.n172 Tryz.prog Tryz.atoiL_ren := {
  mixed := by kernel_rfl
  f129 := Tryz.func185.trans (congrArg some (by kernel_rfl))
  f171 := Tryz.func98.trans (congrArg some (by kernel_rfl))
  f172 := Tryz.func205.trans (congrArg some (by kernel_rfl))
  f205 := Tryz.func317.trans (congrArg some (by kernel_rfl))
  f243 := Tryz.func156.trans (congrArg some (by kernel_rfl))
  f244 := Tryz.func247.trans (congrArg some (by kernel_rfl))
  f245 := Tryz.func248.trans (congrArg some (by kernel_rfl))
  f246 := Tryz.func199.trans (congrArg some (by kernel_rfl))
  f247 := Tryz.func291.trans (congrArg some (by kernel_rfl))
  f279 := Tryz.func292.trans (congrArg some (by kernel_rfl))
  f280 := Tryz.func293.trans (congrArg some (by kernel_rfl))
  f281 := Tryz.func294.trans (congrArg some (by kernel_rfl))
  f282 := Tryz.func295.trans (congrArg some (by kernel_rfl))
  f283 := Tryz.func237.trans (congrArg some (by kernel_rfl))
  f284 := Tryz.func238.trans (congrArg some (by kernel_rfl))
  f285 := Tryz.func239.trans (congrArg some (by kernel_rfl))
  f286 := Tryz.func240.trans (congrArg some (by kernel_rfl))
  f287 := Tryz.func315.trans (congrArg some (by kernel_rfl))
  f316 := Tryz.func316.trans (congrArg some (by kernel_rfl))
  f317 := Tryz.func280.trans (congrArg some (by kernel_rfl))
  f318 := Tryz.func281.trans (congrArg some (by kernel_rfl))
  f319 := Tryz.func282.trans (congrArg some (by kernel_rfl))
  f320 := Tryz.func283.trans (congrArg some (by kernel_rfl))
  f321 := Tryz.func326.trans (congrArg some (by kernel_rfl))
  f322 := Tryz.func327.trans (congrArg some (by kernel_rfl))
  f337 := Tryz.func311.trans (congrArg some (by kernel_rfl))
  f338 := Tryz.func312.trans (congrArg some (by kernel_rfl))
  t0 := Tryz.underlying0
  a0 := Tryz.isAgg0
  z0 := Tryz.sizeOf0
  v0 := Tryz.zeroValue0
  t2 := Tryz.underlying2
  a2 := Tryz.isAgg2
  z2 := Tryz.sizeOf2
  v2 := Tryz.zeroValue2
  t3 := Tryz.underlying3
  a3 := Tryz.isAgg3
  z3 := Tryz.sizeOf3
  v3 := Tryz.zeroValue3
  t4 := Tryz.underlying4
  a4 := Tryz.isAgg4
  z4 := Tryz.sizeOf4
  v4 := Tryz.zeroValue4
  t5 := Tryz.underlying5
  a5 := Tryz.isAgg5
  z5 := Tryz.sizeOf5
  v5 := Tryz.zeroValue5
  t9 := Tryz.underlying9
  a9 := Tryz.isAgg9
  z9 := Tryz.sizeOf9
  v9 := Tryz.zeroValue9
  t20 := Tryz.underlying20
  a20 := Tryz.isAgg20
  z20 := Tryz.sizeOf20
  v20 := Tryz.zeroValue20
  t21 := Tryz.underlying21
  a21 := Tryz.isAgg21
  z21 := Tryz.sizeOf21
  v21 := Tryz.zeroValue21
  t37 := Tryz.underlying89
  a37 := Tryz.isAgg89
  z37 := Tryz.sizeOf89
  v37 := Tryz.zeroValue89
  t46 := Tryz.underlying162
  a46 := Tryz.isAgg162
  z46 := Tryz.sizeOf162
  v46 := Tryz.zeroValue162
  t51 := Tryz.underlying225
  a51 := Tryz.isAgg225
  z51 := Tryz.sizeOf225
  v51 := Tryz.zeroValue225
  t53 := Tryz.underlying83
  a53 := Tryz.isAgg83
  z53 := Tryz.sizeOf83
  v53 := Tryz.zeroValue83
  t75 := Tryz.underlying113
  a75 := Tryz.isAgg113
  z75 := Tryz.sizeOf113
  v75 := Tryz.zeroValue113
  t76 := Tryz.underlying114
  a76 := Tryz.isAgg114
  z76 := Tryz.sizeOf114
  v76 := Tryz.zeroValue114
  t85 := Tryz.underlying316
  a85 := Tryz.isAgg316
  z85 := Tryz.sizeOf316
  v85 := Tryz.zeroValue316
  t127 := Tryz.underlying180
  a127 := Tryz.isAgg180
  z127 := Tryz.sizeOf180
  v127 := Tryz.zeroValue180
  t143 := Tryz.underlying354
  a143 := Tryz.isAgg354
  z143 := Tryz.sizeOf354
  v143 := Tryz.zeroValue354
  t145 := Tryz.underlying356
  a145 := Tryz.isAgg356
  z145 := Tryz.sizeOf356
  v145 := Tryz.zeroValue356
  t167 := Tryz.underlying315
  a167 := Tryz.isAgg315
  z167 := Tryz.sizeOf315
  v167 := Tryz.zeroValue315
  t168 := Tryz.underlying318
  a168 := Tryz.isAgg318
  z168 := Tryz.sizeOf318
  v168 := Tryz.zeroValue318
  t171 := Tryz.underlying274
  a171 := Tryz.isAgg274
  z171 := Tryz.sizeOf274
  v171 := Tryz.zeroValue274
  t173 := Tryz.underlying276
  a173 := Tryz.isAgg276
  z173 := Tryz.sizeOf276
  v173 := Tryz.zeroValue276
  t175 := Tryz.underlying337
  a175 := Tryz.isAgg337
  z175 := Tryz.sizeOf337
  v175 := Tryz.zeroValue337
  t210 := Tryz.underlying341
  a210 := Tryz.isAgg341
  z210 := Tryz.sizeOf341
  v210 := Tryz.zeroValue341
  t212 := Tryz.underlying310
  a212 := Tryz.isAgg310
  z212 := Tryz.sizeOf310
  v212 := Tryz.zeroValue310
  t213 := Tryz.underlying311
  a213 := Tryz.isAgg311
  z213 := Tryz.sizeOf311
  t232 := Tryz.underlying347
  a232 := Tryz.isAgg347
  z232 := Tryz.sizeOf347
  v232 := Tryz.zeroValue347
  t233 := Tryz.underlying348
  a233 := Tryz.isAgg348
  z233 := Tryz.sizeOf348
  v233 := Tryz.zeroValue348
  g15 := by kernel_rfl
  g16 := by kernel_rfl
  g17 := by kernel_rfl
  g18 := by kernel_rfl
  g19 := by kernel_rfl
  t80 := Tryz.underlying118
  a80 := Tryz.isAgg118
  z80 := Tryz.sizeOf118
  v80 := Tryz.zeroValue118
  i0 := by kernel_rfl
  i2 := by kernel_rfl
  i3 := by kernel_rfl
  i4 := by kernel_rfl
  i5 := by kernel_rfl
  i9 := by kernel_rfl
  i20 := by kernel_rfl
  i21 := by kernel_rfl
  i37 := by kernel_rfl
  i46 := by kernel_rfl
  i51 := by kernel_rfl
  i53 := by kernel_rfl
  i75 := by kernel_rfl
  i76 := by kernel_rfl
  i80 := by kernel_rfl
  i85 := by kernel_rfl
  i127 := by kernel_rfl
  i143 := by kernel_rfl
  i145 := by kernel_rfl
  i167 := by kernel_rfl
  i168 := by kernel_rfl
  i171 := by kernel_rfl
  i173 := by kernel_rfl
  i175 := by kernel_rfl
  i210 := by kernel_rfl
  i212 := by kernel_rfl
  i232 := by kernel_rfl
  i233 := by kernel_rfl
  m15 := by kernel_rfl
  m16 := by kernel_rfl
  m17 := by kernel_rfl
  m18 := by kernel_rfl
  m19 := by kernel_rfl
  c0 := by kernel_rfl
  c2 := by kernel_rfl
  c3 := by kernel_rfl
  c4 := by kernel_rfl
  c5 := by kernel_rfl
  c9 := by kernel_rfl
  c20 := by kernel_rfl
  c21 := by kernel_rfl
  c37 := by kernel_rfl
  c46 := by kernel_rfl
  c51 := by kernel_rfl
  c53 := by kernel_rfl
  c75 := by kernel_rfl
  c76 := by kernel_rfl
  c80 := by kernel_rfl
  c85 := by kernel_rfl
  c127 := by kernel_rfl
  c143 := by kernel_rfl
  c145 := by kernel_rfl
  c167 := by kernel_rfl
  c168 := by kernel_rfl
  c171 := by kernel_rfl
  c173 := by kernel_rfl
  c175 := by kernel_rfl
  c210 := by kernel_rfl
  c212 := by kernel_rfl
  c213 := by kernel_rfl
  c232 := by kernel_rfl
  c233 := by kernel_rfl }
theorem pureRow0 : Go.Am.PureRow Tryz.prog Go.Am.X.gl 205 Go.Am.atoiS :=
  Go.Am.atoiRow (ρ := Tryz.atoiL_ren) Tryz.atoiL (fun us w => Go.Am.enters_chk (by kernel_rfl) us w)
def Tryz.itoaL_ren : Go.Shelf.Ren := ⟨fun | 171 => 98 | 243 => 156 | 246 => 199 | 283 => 237 | 284 => 238 | 285 => 239 | 286 => 240 | 129 => 185 | 317 => 280 | 318 => 281 | 319 => 282 | 320 => 283 | 337 => 311 | 338 => 312 | n => n, fun | 3 => 3 | 9 => 9 | 2 => 2 | 4 => 4 | 171 => 274 | 0 => 0 | 53 => 83 | 37 => 89 | 5 => 5 | 173 => 276 | 212 => 310 | 51 => 225 | 20 => 20 | 213 => 311 | 46 => 162 | 232 => 347 | 233 => 348 | n => n, fun | 17 => 1 | 18 => 4 | 19 => 5 | n => n⟩
theorem Tryz.itoaL : Go.Proofs.LaysM.n171 Tryz.prog Tryz.itoaL_ren := {
  mixed := by kernel_rfl
  f129 := Tryz.func185.trans (congrArg some (by kernel_rfl))
  f171 := Tryz.func98.trans (congrArg some (by kernel_rfl))
  f243 := Tryz.func156.trans (congrArg some (by kernel_rfl))
  f246 := Tryz.func199.trans (congrArg some (by kernel_rfl))
  f283 := Tryz.func237.trans (congrArg some (by kernel_rfl))
  f284 := Tryz.func238.trans (congrArg some (by kernel_rfl))
  f285 := Tryz.func239.trans (congrArg some (by kernel_rfl))
  f286 := Tryz.func240.trans (congrArg some (by kernel_rfl))
  f317 := Tryz.func280.trans (congrArg some (by kernel_rfl))
  f318 := Tryz.func281.trans (congrArg some (by kernel_rfl))
  f319 := Tryz.func282.trans (congrArg some (by kernel_rfl))
  f320 := Tryz.func283.trans (congrArg some (by kernel_rfl))
  f337 := Tryz.func311.trans (congrArg some (by kernel_rfl))
  f338 := Tryz.func312.trans (congrArg some (by kernel_rfl))
  t0 := Tryz.underlying0
  a0 := Tryz.isAgg0
  z0 := Tryz.sizeOf0
  v0 := Tryz.zeroValue0
  t2 := Tryz.underlying2
  a2 := Tryz.isAgg2
  z2 := Tryz.sizeOf2
  v2 := Tryz.zeroValue2
  t3 := Tryz.underlying3
  a3 := Tryz.isAgg3
  z3 := Tryz.sizeOf3
  v3 := Tryz.zeroValue3
  t4 := Tryz.underlying4
  a4 := Tryz.isAgg4
  z4 := Tryz.sizeOf4
  v4 := Tryz.zeroValue4
  t5 := Tryz.underlying5
  a5 := Tryz.isAgg5
  z5 := Tryz.sizeOf5
  v5 := Tryz.zeroValue5
  t9 := Tryz.underlying9
  a9 := Tryz.isAgg9
  z9 := Tryz.sizeOf9
  v9 := Tryz.zeroValue9
  t20 := Tryz.underlying20
  a20 := Tryz.isAgg20
  z20 := Tryz.sizeOf20
  v20 := Tryz.zeroValue20
  t37 := Tryz.underlying89
  a37 := Tryz.isAgg89
  z37 := Tryz.sizeOf89
  v37 := Tryz.zeroValue89
  t46 := Tryz.underlying162
  a46 := Tryz.isAgg162
  z46 := Tryz.sizeOf162
  v46 := Tryz.zeroValue162
  t51 := Tryz.underlying225
  a51 := Tryz.isAgg225
  z51 := Tryz.sizeOf225
  v51 := Tryz.zeroValue225
  t53 := Tryz.underlying83
  a53 := Tryz.isAgg83
  z53 := Tryz.sizeOf83
  v53 := Tryz.zeroValue83
  t171 := Tryz.underlying274
  a171 := Tryz.isAgg274
  z171 := Tryz.sizeOf274
  v171 := Tryz.zeroValue274
  t173 := Tryz.underlying276
  a173 := Tryz.isAgg276
  z173 := Tryz.sizeOf276
  v173 := Tryz.zeroValue276
  t212 := Tryz.underlying310
  a212 := Tryz.isAgg310
  z212 := Tryz.sizeOf310
  v212 := Tryz.zeroValue310
  t213 := Tryz.underlying311
  a213 := Tryz.isAgg311
  z213 := Tryz.sizeOf311
  t232 := Tryz.underlying347
  a232 := Tryz.isAgg347
  z232 := Tryz.sizeOf347
  v232 := Tryz.zeroValue347
  t233 := Tryz.underlying348
  a233 := Tryz.isAgg348
  z233 := Tryz.sizeOf348
  v233 := Tryz.zeroValue348
  g17 := by kernel_rfl
  g18 := by kernel_rfl
  g19 := by kernel_rfl
  i0 := by kernel_rfl
  i2 := by kernel_rfl
  i3 := by kernel_rfl
  i4 := by kernel_rfl
  i5 := by kernel_rfl
  i9 := by kernel_rfl
  i20 := by kernel_rfl
  i37 := by kernel_rfl
  i46 := by kernel_rfl
  i51 := by kernel_rfl
  i53 := by kernel_rfl
  i171 := by kernel_rfl
  i173 := by kernel_rfl
  i212 := by kernel_rfl
  i232 := by kernel_rfl
  i233 := by kernel_rfl
  m17 := by kernel_rfl
  m18 := by kernel_rfl
  m19 := by kernel_rfl }
theorem pureRow1 : Go.Am.PureRow Tryz.prog Go.Am.X.gl 98 Go.Am.itoaS :=
  Go.Am.itoaRow (ρ := Tryz.itoaL_ren) Tryz.itoaL 1 (by kernel_rfl) (by kernel_rfl) (fun us w => Go.Am.enters_chk (by kernel_rfl) us w)
def Tryz.cntL_ren : Go.Shelf.Ren := ⟨fun | 138 => 243 | 195 => 285 | 218 => 287 | 143 => 244 | 219 => 245 | 217 => 279 | 225 => 288 | 224 => 289 | 267 => 290 | 266 => 310 | 314 => 314 | n => n, fun | 9 => 9 | 3 => 3 | 4 => 4 | 5 => 5 | 0 => 0 | 46 => 162 | 146 => 226 | 51 => 225 | n => n, fun | 1 => 0 | n => n⟩
theorem Tryz.cntL : Go.Proofs.Lays.n138 Tryz.prog Tryz.cntL_ren := {
  mixed := by kernel_rfl
  f138 := Tryz.func243.trans (congrArg some (by kernel_rfl))
  f143 := Tryz.func244.trans (congrArg some (by kernel_rfl))
  f195 := Tryz.func285.trans (congrArg some (by kernel_rfl))
  f217 := Tryz.func279.trans (congrArg some (by kernel_rfl))
  f218 := Tryz.func287.trans (congrArg some (by kernel_rfl))
  f219 := Tryz.func245.trans (congrArg some (by kernel_rfl))
  f224 := Tryz.func289.trans (congrArg some (by kernel_rfl))
  f225 := Tryz.func288.trans (congrArg some (by kernel_rfl))
  f266 := Tryz.func310.trans (congrArg some (by kernel_rfl))
  f267 := Tryz.func290.trans (congrArg some (by kernel_rfl))
  f314 := Tryz.func314.trans (congrArg some (by kernel_rfl))
  t0 := Tryz.underlying0
  a0 := Tryz.isAgg0
  z0 := Tryz.sizeOf0
  v0 := Tryz.zeroValue0
  t3 := Tryz.underlying3
  a3 := Tryz.isAgg3
  z3 := Tryz.sizeOf3
  v3 := Tryz.zeroValue3
  t4 := Tryz.underlying4
  a4 := Tryz.isAgg4
  z4 := Tryz.sizeOf4
  v4 := Tryz.zeroValue4
  t5 := Tryz.underlying5
  a5 := Tryz.isAgg5
  z5 := Tryz.sizeOf5
  v5 := Tryz.zeroValue5
  t9 := Tryz.underlying9
  a9 := Tryz.isAgg9
  z9 := Tryz.sizeOf9
  v9 := Tryz.zeroValue9
  t46 := Tryz.underlying162
  a46 := Tryz.isAgg162
  z46 := Tryz.sizeOf162
  v46 := Tryz.zeroValue162
  t51 := Tryz.underlying225
  a51 := Tryz.isAgg225
  z51 := Tryz.sizeOf225
  v51 := Tryz.zeroValue225
  t146 := Tryz.underlying226
  a146 := Tryz.isAgg226
  z146 := Tryz.sizeOf226
  v146 := Tryz.zeroValue226
  g1 := by kernel_rfl }
theorem pureRow2 : Go.Am.PureRow Tryz.prog Go.Am.X.gl 243 Go.Am.countS :=
  Go.Am.countRow (ρ := Tryz.cntL_ren) Tryz.cntL (fun us w => Go.Am.enters_chk (by kernel_rfl) us w)
def Tryz.trimL_ren : Go.Shelf.Ren := ⟨fun | 160 => 226 | 232 => 269 | 231 => 268 | 227 => 270 | 234 => 272 | 233 => 271 | 236 => 274 | 235 => 273 | 228 => 306 | 271 => 308 | 151 => 307 | 197 => 286 | 120 => 325 | 152 => 324 | 260 => 313 | 137 => 236 | 119 => 332 | 224 => 289 | 225 => 288 | 217 => 279 | 266 => 310 | n => n, fun | 9 => 9 | 4 => 4 | 3 => 3 | 5 => 5 | 117 => 303 | 116 => 302 | 0 => 0 | 124 => 306 | 21 => 21 | 105 => 313 | 46 => 162 | 119 => 349 | 139 => 352 | 138 => 351 | n => n, fun | 3 => 6 | 4 => 7 | n => n⟩
theorem Tryz.trimL : Go.Proofs.Lays.n160 Tryz.prog Tryz.trimL_ren := {
  mixed := by kernel_rfl
  f119 := Tryz.func332.trans (congrArg some (by kernel_rfl))
  f120 := Tryz.func325.trans (congrArg some (by kernel_rfl))
  f137 := Tryz.func236.trans (congrArg some (by kernel_rfl))
  f151 := Tryz.func307.trans (congrArg some (by kernel_rfl))
  f152 := Tryz.func324.trans (congrArg some (by kernel_rfl))
  f160 := Tryz.func226.trans (congrArg some (by kernel_rfl))
  f197 := Tryz.func286.trans (congrArg some (by kernel_rfl))
  f217 := Tryz.func279.trans (congrArg some (by kernel_rfl))
  f224 := Tryz.func289.trans (congrArg some (by kernel_rfl))
  f225 := Tryz.func288.trans (congrArg some (by kernel_rfl))
  f227 := Tryz.func270.trans (congrArg some (by kernel_rfl))
  f228 := Tryz.func306.trans (congrArg some (by kernel_rfl))
  f231 := Tryz.func268.trans (congrArg some (by kernel_rfl))
  f232 := Tryz.func269.trans (congrArg some (by kernel_rfl))
  f233 := Tryz.func271.trans (congrArg some (by kernel_rfl))
  f234 := Tryz.func272.trans (congrArg some (by kernel_rfl))
  f235 := Tryz.func273.trans (congrArg some (by kernel_rfl))
  f236 := Tryz.func274.trans (congrArg some (by kernel_rfl))
  f260 := Tryz.func313.trans (congrArg some (by kernel_rfl))
  f266 := Tryz.func310.trans (congrArg some (by kernel_rfl))
  f271 := Tryz.func308.trans (congrArg some (by kernel_rfl))
  t0 := Tryz.underlying0
  a0 := Tryz.isAgg0
  z0 := Tryz.sizeOf0
  v0 := Tryz.zeroValue0
  t3 := Tryz.underlying3
  a3 := Tryz.isAgg3
  z3 := Tryz.sizeOf3
  v3 := Tryz.zeroValue3
  t4 := Tryz.underlying4
  a4 := Tryz.isAgg4
  z4 := Tryz.sizeOf4
  v4 := Tryz.zeroValue4
  t5 := Tryz.underlying5
  a5 := Tryz.isAgg5
  z5 := Tryz.sizeOf5
  v5 := Tryz.zeroValue5
  t9 := Tryz.underlying9
  a9 := Tryz.isAgg9
  z9 := Tryz.sizeOf9
  v9 := Tryz.zeroValue9
  t21 := Tryz.underlying21
  a21 := Tryz.isAgg21
  z21 := Tryz.sizeOf21
  v21 := Tryz.zeroValue21
  t46 := Tryz.underlying162
  a46 := Tryz.isAgg162
  z46 := Tryz.sizeOf162
  v46 := Tryz.zeroValue162
  t105 := Tryz.underlying313
  a105 := Tryz.isAgg313
  z105 := Tryz.sizeOf313
  v105 := Tryz.zeroValue313
  t116 := Tryz.underlying302
  a116 := Tryz.isAgg302
  z116 := Tryz.sizeOf302
  t117 := Tryz.underlying303
  a117 := Tryz.isAgg303
  z117 := Tryz.sizeOf303
  v117 := Tryz.zeroValue303
  t119 := Tryz.underlying349
  a119 := Tryz.isAgg349
  z119 := Tryz.sizeOf349
  t124 := Tryz.underlying306
  a124 := Tryz.isAgg306
  z124 := Tryz.sizeOf306
  v124 := Tryz.zeroValue306
  t138 := Tryz.underlying351
  a138 := Tryz.isAgg351
  z138 := Tryz.sizeOf351
  v138 := Tryz.zeroValue351
  t139 := Tryz.underlying352
  a139 := Tryz.isAgg352
  z139 := Tryz.sizeOf352
  v139 := Tryz.zeroValue352
  g3 := by kernel_rfl
  g4 := by kernel_rfl }
theorem pureRow3 : Go.Am.PureRow Tryz.prog Go.Am.X.gl 226 Go.Am.trimS :=
  Go.Am.trimRow (ρ := Tryz.trimL_ren) Tryz.trimL (by kernel_rfl) (fun us w => Go.Am.enters_chk (by kernel_rfl) us w)
theorem allChecked0 : (Go.Am.fns0.all fun p => Go.Am.chkFun Tryz.prog p.1 p.2) = true := by kernel_rfl
theorem fits0 : Go.Am.Fits Tryz.prog Go.Am.X0 := ⟨by kernel_rfl, fun f F h => Go.Am.fnOf_all (p := fun f F => Go.Am.chkFun Tryz.prog f F) Go.Am.fns0 allChecked0 f F h, fun f vs r _ h => Go.Am.extF_ok ext1 ext2 h, fun f us h v h1 x _ hx => Go.Am.libF_ok (gs := Go.Am.GRL) (ps := Go.Am.PRL0) (fun g s hm => by cases hm) (fun g s hm => by
      simp only [Go.Am.PRL0, List.mem_cons, List.not_mem_nil, or_false, Prod.mk.injEq] at hm
      rcases hm with ⟨rfl, rfl⟩ | ⟨rfl, rfl⟩ | ⟨rfl, rfl⟩ | ⟨rfl, rfl⟩
      · exact pureRow0
      · exact pureRow1
      · exact pureRow2
      · exact pureRow3) hx⟩
theorem pureRow4 : Go.Am.PureRow Tryz.prog Go.Am.X.gl 50 Go.Am.trueS :=
  Go.Am.pureRow_closed fits0 Go.Am.ready_true (fun us w => Go.Am.enters_chk (by kernel_rfl) us w)
theorem fits : Go.Am.Fits Tryz.prog Go.Am.X := ⟨by kernel_rfl, fun f F h => Go.Am.fnOf_all (p := fun f F => Go.Am.chkFun Tryz.prog f F) Go.Am.fns allChecked f F h, fun f vs r _ h => Go.Am.extF_ok ext1 ext2 h, fun f us h v h1 x _ hx => Go.Am.libF_ok (gs := Go.Am.GRL) (ps := Go.Am.PRL) (fun g s hm => by cases hm) (fun g s hm => by
      simp only [Go.Am.PRL, List.mem_cons, List.not_mem_nil, or_false, Prod.mk.injEq] at hm
      rcases hm with ⟨rfl, rfl⟩ | ⟨rfl, rfl⟩ | ⟨rfl, rfl⟩ | ⟨rfl, rfl⟩ | ⟨rfl, rfl⟩
      · exact pureRow0
      · exact pureRow1
      · exact pureRow2
      · exact pureRow3
      · exact pureRow4) hx⟩
def powers : List Int := [1, 10, 100, 1000, 10000, 100000, 1000000, 10000000, 100000000, 1000000000, 10000000000, 100000000000, 1000000000000, 10000000000000, 100000000000000, 1000000000000000, 10000000000000000, 100000000000000000, 1000000000000000000, 10000000000000000000]
theorem of_laid {W : World} (h : laidMetH Tryz.prog Rows.allFaultsAreRightRow.laid W) : Go.Am.GInv Go.Am.X.gl (Go.Am.imm [] [] W) := by
  rw [MakeChecks.laidMetH_plain _ _ _ (by kernel_rfl)] at h
  have h2 : laidMet Tryz.prog (("internal/strconv.uint64pow10", Go.Lib.tabData .u64 powers) :: _) W := h.tail.tail
  exact Go.Am.ginv_tab (zs := powers) (by kernel_rfl) (Go.Lib.tabIs_of_head (g := 1) (t := 310) (e := 83) (n := 20) (by kernel_rfl) (by kernel_rfl) Tryz.underlying310 Tryz.underlying83 (by kernel_rfl) (by kernel_rfl) h2) (by kernel_rfl)

set_option maxRecDepth 100000 in
theorem law_lifted (os : Os) (started : os.Started) (H : Type) (enc : TypeId × Value → H) :
    ReturnsInHanded {} Tryz.checked os 9 .any (fun w args => (Rows.allFaultsAreRightSpec.pre enc Tryz.prog Tryz.f9 [] false w args ∧ laidMetH Tryz.prog Rows.allFaultsAreRightRow.laid w) ∧ sizedMet enc Tryz.prog Tryz.f9 (OpenSpec.ofChange Rows.allFaultsAreRightSpec) false w args)
      (Rows.allFaultsAreRightSpec.post enc Tryz.prog Tryz.f9 false true false false) := by
  refine returnsInHanded_of_change_and (C := Tryz.checked) (X := fun w _ => laidMetH Tryz.prog Rows.allFaultsAreRightRow.laid w) (fun _ _ _ hh h => h.of_heap hh) own started (by kernel_rfl) Tryz.func9
    (ChangeSpec.witness_shaped (enc := enc) (C := Tryz.checked) (os := os) (X := fun w _ => laidMetH Tryz.prog Rows.allFaultsAreRightRow.laid w) false (World.laidAll Tryz.prog os Rows.allFaultsAreRightRow.laid) #[.slice none 0 0] 8 (World.laidAll_os _ _ _)
      (World.shaped_of_ZipB (by kernel_rfl) (by kernel_rfl)) (by kernel_rfl) (by kernel_rfl) (by kernel_rfl)
      (by rw [MakeChecks.laidMetH_plain _ _ _ (by kernel_rfl)]; exact laidMet_laidAll _ (by kernel_rfl) (by kernel_rfl))) ?_
  intro W base args ds gs before hval0 hW _ _ hL _
  have hval : ∀ (j : Nat) t v, Tryz.f9.params[j]? = some t → args[j]? = some v → Value.okWide Tryz.prog W .any base t v := hval0
  have hW' := hW
  obtain ⟨p, q, hA0, hV, rfl, _, _⟩ := hW
  have hA : DataW.TrodAll enc Tryz.prog W 0 (fun _ => true) true Tryz.f9.params.toList args.toList ds p := hA0
  rw [Tryz.params9] at hA hval
  obtain ⟨v0, d0, rfl, rfl, h0⟩ := trodAll_one hA
  obtain ⟨rfl, rfl⟩ := trodVars_none hV
  have h0k := h0
  obtain ⟨fuel, hf⟩ := h0
  clear hA0 hval0
  simp only [List.append_nil] at hW'
  have hlt : ∀ x ∈ p, x.block < W.heap.size := fun x hx => by simpa using hW'.lt x hx
  have hG := of_laid hL
  have law : ∀ L : List Int, Go.Am.ACall Go.Am.X 9 [Go.Am.pints L] [] fun v _ _ => v = .p (.bool true) := fun L => by
    have := Go.Am.law_AF L (K := fun v _ _ => v = .p (.bool true))
    exact this.symm ▸ rfl
  have key : Calls Tryz.prog 9 #[v0] W fun e W' => e = .returned (.bool true) ∧ Below W.heap.size W W' := by
    obtain ⟨a0, len, cap, rfl⟩ := okWide_slice Tryz.underlying22 (hval 0 22 v0 rfl rfl)
    rcases open_ints Tryz.underlying22 Tryz.underlying3 cellsInt hf with ⟨hcs, hx⟩ | ⟨a, len', cap', zs, hcs, _, hl, hm, hz, hx, hcell, hwz⟩
    · simp [Value.cells] at hcs
      obtain ⟨rfl, rfl, rfl⟩ := hcs
      exact Go.Am.law_nil fits Go.Am.x_q039 law W hG
    · simp [Value.cells] at hcs
      obtain ⟨rfl, rfl, rfl⟩ := hcs
      have hzl : len ≤ zs.length := by rw [hz]; split <;> omega
      exact Go.Am.law_ints fits Go.Am.x_q039 law hG hl hzl hcell
  refine key.mono fun e W' ⟨he, hb⟩ => ?_
  subst he
  have hargs : DataW.Trod enc Tryz.prog W' 0 (fun b => decide (b < W.heap.size)) true 22 v0 d0 p :=
    Below.trod laidOut (by kernel_rfl) (of_decide_eq_true (by kernel_rfl)) h0k hb hlt
  exact ⟨_, rfl, ⟨_, _, _, [], _, [], hW', trodAll_mk1 (shut_bool Tryz.underlying4 _), trodAll_mk1 hargs, rfl, hb.frame _, fun h => by cases h⟩⟩

theorem zNamed : Tryz.prog.funcNamed "scanchain/scankeep2.AllFaultsAreRight" = some 9 := by kernel_rfl
theorem zJoin : joinedFacts Tryz.pinned.checked.prog 9 Tryz.f9 Rows.allFaultsAreRightSpec Rows.allFaultsAreRightRow = true := by kernel_rfl
theorem zInst : Tryz.f9.isInstance Tryz.pinned.checked.prog Rows.allFaultsAreRightRow.origin Rows.allFaultsAreRightRow.targs := of_decide_eq_true (by kernel_rfl)
theorem zWrap : Tryz.f9.isWrapper Tryz.pinned.checked.prog Rows.allFaultsAreRightRow.wrapper Rows.allFaultsAreRightRow.mainSum := by unfold Func.isWrapper; rw [if_neg (by decide +kernel)]; exact ⟨rfl, rfl⟩
theorem allFaultsAreRight_holds : Rows.AllFaultsAreRightSaid :=
  OpenClaim.holds_of_wide 9 Tryz.f9 rfl rfl rfl rfl rfl rfl rfl ⟨rfl, rfl, rfl, rfl, rfl⟩ rfl rfl rfl rfl rfl zNamed Tryz.func9 zJoin zInst zWrap
    (fun os started H enc _ => law_lifted os started H enc)
theorem zText : Rows.allFaultsAreRightRow.wfByText (OpenSpec.ofChange Rows.allFaultsAreRightSpec) = true := by kernel_rfl
theorem zMain : Tryz.pinned.checked.prog.mainIs = some (true, "902898e7a3e164b9f31b940f149613d5348c82e7ce22c8089fc0ad4af3ceaf15".toList) := by kernel_rfl
theorem zLooks : true = Tryz.pinned.checked.prog.looks [] := by kernel_rfl
theorem zStand : ([22].all fun u => !Tryz.prog.wantsStandIn u) = true := by kernel_rfl
theorem zGoes : false = Rows.allFaultsAreRightRow.goesBy Tryz.pinned.checked.prog := by kernel_rfl
theorem allFaultsAreRight_card_holds : Rows.AllFaultsAreRightCardSaid :=
  Claim7.holds_tied_plain_at .later [] [.data, .data, .data, .data, .sentinel, .sentinel, .pinned] true (true, "902898e7a3e164b9f31b940f149613d5348c82e7ce22c8089fc0ad4af3ceaf15") true allFaultsAreRight_holds (fun _ h => by cases h) zText (fun _ h => by cases h) allFaultsAreRight_row_tie rfl ⟨rfl, rfl⟩ zMain rfl
    (fun f fn hf hfn => by
      obtain rfl : f = 9 := Option.some.inj (zNamed.symm.trans hf) |>.symm
      obtain rfl : fn = Tryz.f9 := (Option.some.inj (Tryz.func9.symm.trans hfn)).symm
      exact ⟨zLooks, fun j t ht => by
        rw [Tryz.params9] at ht
        have hm : t ∈ [22] := by simpa using Array.mem_of_getElem? ht
        exact (show Tryz.prog.wantsStandIn t = false by simpa using List.all_eq_true.1 zStand t hm)⟩)
    zGoes

end Go.Proofs.YtanoolccohkfmaaGreatDoor
