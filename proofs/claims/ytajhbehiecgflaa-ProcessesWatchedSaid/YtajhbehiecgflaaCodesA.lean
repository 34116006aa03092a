/- The functions as abstract code, and as formulas over their values: printed by program out of the translation. -/
import Derived.Test.YtajhbehiecgflaaNums
import Derived.Test.YtajhbehiecgflaaAm31
import Derived.KernelRfl
set_option linter.unusedVariables false
set_option maxRecDepth 100000
namespace Go.Am
def p_scanlaw2_ProcessesWatched_k1 : ACode := .pr [9, 10, 11, 12, 13, 14, 15, 16, 17, 18, 19, 20, 21, 22, 23, 24, 25] (.seq (.reg [
  ⟨some 111, none, .mv (.t 11)⟩,
  ⟨some 112, none, .mv (.t 18)⟩,
  ⟨some 113, none, .bin .eql (.t 111) (.t 112)⟩,
  ⟨some 114, none, .mv (.t 113)⟩,
  ⟨some 115, (some (114, true)), .load (some 2) (.t 9)⟩,
  ⟨some 116, (some (114, true)), .load (some 2) (.t 21)⟩,
  ⟨some 117, (some (114, true)), .eqa [0, 0] false (.t 115) (.t 116)⟩,
  ⟨some 118, none, .pick (.t 114) (.t 117) (.c (.p (.bool false)))⟩,
  ⟨some 119, none, .mv (.t 118)⟩,
  ⟨some 120, (some (119, true)), .load (some 2) (.t 10)⟩,
  ⟨some 121, (some (119, true)), .load (some 2) (.t 22)⟩,
  ⟨some 122, (some (119, true)), .eqa [0, 0] false (.t 120) (.t 121)⟩,
  ⟨some 123, none, .pick (.t 119) (.t 122) (.c (.p (.bool false)))⟩,
  ⟨some 124, none, .mv (.t 123)⟩,
  ⟨some 125, (some (124, true)), .mv (.t 13)⟩,
  ⟨some 126, (some (124, true)), .mv (.t 19)⟩,
  ⟨some 127, (some (124, true)), .bin .eql (.t 125) (.t 126)⟩,
  ⟨some 128, none, .pick (.t 124) (.t 127) (.c (.p (.bool false)))⟩,
  ⟨some 129, none, .mv (.t 128)⟩,
  ⟨some 130, (some (129, true)), .mv (.t 12)⟩,
  ⟨some 131, (some (129, true)), .mv (.t 23)⟩,
  ⟨some 132, (some (129, true)), .eqa [] false (.t 130) (.t 131)⟩,
  ⟨some 133, none, .pick (.t 129) (.t 132) (.c (.p (.bool false)))⟩,
  ⟨some 134, none, .mv (.t 133)⟩,
  ⟨some 135, (some (134, true)), .mv (.t 15)⟩,
  ⟨some 136, (some (134, true)), .mv (.t 20)⟩,
  ⟨some 137, (some (134, true)), .bin .eql (.t 135) (.t 136)⟩,
  ⟨some 138, none, .pick (.t 134) (.t 137) (.c (.p (.bool false)))⟩,
  ⟨some 139, none, .mv (.t 138)⟩,
  ⟨some 140, (some (139, true)), .load (some 8) (.t 14)⟩,
  ⟨some 141, (some (139, true)), .load (some 8) (.t 24)⟩,
  ⟨some 142, (some (139, true)), .eqa [0, 0, 0, 0, 0, 0, 0, 0] false (.t 140) (.t 141)⟩,
  ⟨some 143, none, .pick (.t 139) (.t 142) (.c (.p (.bool false)))⟩,
  ⟨some 144, none, .mv (.t 143)⟩,
  ⟨some 145, (some (144, true)), .mv (.t 17)⟩,
  ⟨some 146, (some (144, true)), .mv (.t 20)⟩,
  ⟨some 147, (some (144, true)), .bin .eql (.t 145) (.t 146)⟩,
  ⟨some 148, none, .pick (.t 144) (.t 147) (.c (.p (.bool false)))⟩,
  ⟨some 149, none, .mv (.t 148)⟩,
  ⟨some 150, (some (149, true)), .mv (.t 16)⟩,
  ⟨some 151, (some (149, true)), .mv (.t 25)⟩,
  ⟨some 152, (some (149, true)), .call f_slices_Equal_int_int [(.t 150), (.t 151)]⟩,
  ⟨some 153, none, .pick (.t 149) (.t 152) (.c (.p (.bool false)))⟩,
  ⟨some 154, none, .mv (.t 153)⟩,
  ⟨some 155, (some (154, true)), .call f_scanlaw2_binned []⟩,
  ⟨some 156, none, .pick (.t 154) (.t 155) (.c (.p (.bool false)))⟩,
  ⟨some 2, none, .mv (.t 156)⟩] (some [2]))
 .ret)
def d_scanlaw2_ProcessesWatched_k1 (C : Hd) (gl : Nat → Option PV) (v9 v10 v11 v12 v13 v14 v15 v16 v17 v18 v19 v20 v21 v22 v23 v24 v25 : AV) (h : Heap) (x : Esc) (K : Ex → St → Prop) : Prop :=
 pK (oBin .eql v11 v18) fun t1 =>
 gP t1 true (oLoad (some 2) v9 h) h fun t2 h3 y4 =>
 gP t1 true (oLoad (some 2) v21 h3) h3 fun t5 h6 y7 =>
 gP t1 true (oEqa [0, 0] false t2 t5) h6 fun t8 h9 y10 =>
 pK (oPick t1 t8 (.p (.bool false))) fun t11 =>
 gP t11 true (oLoad (some 2) v10 h9) h9 fun t12 h13 y14 =>
 gP t11 true (oLoad (some 2) v22 h13) h13 fun t15 h16 y17 =>
 gP t11 true (oEqa [0, 0] false t12 t15) h16 fun t18 h19 y20 =>
 pK (oPick t11 t18 (.p (.bool false))) fun t21 =>
 gM t21 true v13 h19 fun t22 h23 y24 =>
 gM t21 true v19 h23 fun t25 h26 y27 =>
 gP t21 true (oBin .eql t22 t25) h26 fun t28 h29 y30 =>
 pK (oPick t21 t28 (.p (.bool false))) fun t31 =>
 gM t31 true v12 h29 fun t32 h33 y34 =>
 gM t31 true v23 h33 fun t35 h36 y37 =>
 gP t31 true (oEqa [] false t32 t35) h36 fun t38 h39 y40 =>
 pK (oPick t31 t38 (.p (.bool false))) fun t41 =>
 gM t41 true v15 h39 fun t42 h43 y44 =>
 gM t41 true v20 h43 fun t45 h46 y47 =>
 gP t41 true (oBin .eql t42 t45) h46 fun t48 h49 y50 =>
 pK (oPick t41 t48 (.p (.bool false))) fun t51 =>
 gP t51 true (oLoad (some 8) v14 h49) h49 fun t52 h53 y54 =>
 gP t51 true (oLoad (some 8) v24 h53) h53 fun t55 h56 y57 =>
 gP t51 true (oEqa [0, 0, 0, 0, 0, 0, 0, 0] false t52 t55) h56 fun t58 h59 y60 =>
 pK (oPick t51 t58 (.p (.bool false))) fun t61 =>
 gM t61 true v17 h59 fun t62 h63 y64 =>
 gM t61 true v20 h63 fun t65 h66 y67 =>
 gP t61 true (oBin .eql t62 t65) h66 fun t68 h69 y70 =>
 pK (oPick t61 t68 (.p (.bool false))) fun t71 =>
 gM t71 true v16 h69 fun t72 h73 y74 =>
 gM t71 true v25 h73 fun t75 h76 y77 =>
 gV t71 true h76 (C f_slices_Equal_int_int [t72, t75] h76) fun t78 h79 y80 =>
 pK (oPick t71 t78 (.p (.bool false))) fun t81 =>
 gV t81 true h79 (C f_scanlaw2_binned [] h79) fun t82 h83 y84 =>
 pK (oPick t81 t82 (.p (.bool false))) fun t85 =>
 K .ret ⟨[(2, t85)], h83, (y84 ++ (y80 ++ (y77 ++ (y74 ++ (y70 ++ (y67 ++ (y64 ++ (y60 ++ (y57 ++ (y54 ++ (y50 ++ (y47 ++ (y44 ++ (y40 ++ (y37 ++ (y34 ++ (y30 ++ (y27 ++ (y24 ++ (y20 ++ (y17 ++ (y14 ++ (y10 ++ (y7 ++ (y4 ++ x)))))))))))))))))))))))))⟩
theorem e_scanlaw2_ProcessesWatched_k1 {C gl e h x K} : NW C gl p_scanlaw2_ProcessesWatched_k1 ⟨e, h, x⟩ K = d_scanlaw2_ProcessesWatched_k1 C gl (aget e 9) (aget e 10) (aget e 11) (aget e 12) (aget e 13) (aget e 14) (aget e 15) (aget e 16) (aget e 17) (aget e 18) (aget e 19) (aget e 20) (aget e 21) (aget e 22) (aget e 23) (aget e 24) (aget e 25) h x K := by kernel_rfl
def P_scanlaw2_ProcessesWatched_k2 (q1 : ACode) : ACode := .pr [4, 8, 9, 10, 11, 12, 13, 14, 15, 16, 17, 18, 19, 20, 21, 22, 23] (.seq (.reg [
  ⟨some 102, none, .build [.p (.int .i64 0), .p (.int .i64 0), .p (.int .i64 0), .p (.int .i64 0), .p (.int .i64 0), .p (.int .i64 0), .p (.int .i64 0), .p (.int .i64 0)] []⟩,
  ⟨some 24, none, .alloc [.p (.int .i64 0), .p (.int .i64 0), .p (.int .i64 0), .p (.int .i64 0), .p (.int .i64 0), .p (.int .i64 0), .p (.int .i64 0), .p (.int .i64 0)]⟩,
  ⟨none, none, .store (some 8) (.t 24) (.t 102)⟩] (some [4, 8, 9, 10, 11, 12, 13, 14, 15, 16, 17, 18, 19, 20, 21, 22, 23, 24]))
 (.seq (.reg [
  ⟨some 25, none, .mv (.c (.p (.sl none [])))⟩] (some [4, 8, 9, 10, 11, 12, 13, 14, 15, 16, 17, 18, 19, 20, 21, 22, 23, 24, 25]))
 (.seq (.seq (.reg [
  ⟨some 103, none, .mv (.t 20)⟩,
  ⟨some 104, none, .bin .eql (.t 103) (.c (.p (.int .i64 0)))⟩] (some [4, 8, 9, 10, 11, 12, 13, 14, 15, 16, 17, 18, 19, 20, 21, 22, 23, 24, 25, 104]))
 (.cond (.t 104) (.reg [
  ⟨some 105, none, .mv (.t 4)⟩,
  ⟨some 106, none, .mv (.t 8)⟩,
  ⟨some 107, none, .call f_scanref2_ChartOf [(.t 105), (.t 106)]⟩,
  ⟨some 108, none, .mv (.t 4)⟩,
  ⟨some 109, none, .mv (.t 8)⟩,
  ⟨some 110, none, .call f_scanref2_SignalsIn [(.t 108), (.t 109)]⟩,
  ⟨none, none, .store (some 8) (.t 24) (.t 107)⟩,
  ⟨some 25, none, .mv (.t 110)⟩] (some [9, 10, 11, 12, 13, 14, 15, 16, 17, 18, 19, 20, 21, 22, 23, 24, 25]))
 .skip))
 q1)))
def p_scanlaw2_ProcessesWatched_k2 : ACode := P_scanlaw2_ProcessesWatched_k2 p_scanlaw2_ProcessesWatched_k1
def d_scanlaw2_ProcessesWatched_k2 (C : Hd) (gl : Nat → Option PV) (q1 : ACode) (v4 v8 v9 v10 v11 v12 v13 v14 v15 v16 v17 v18 v19 v20 v21 v22 v23 : AV) (h : Heap) (x : Esc) (K : Ex → St → Prop) : Prop :=
 pK (oBuild [.p (.int .i64 0), .p (.int .i64 0), .p (.int .i64 0), .p (.int .i64 0), .p (.int .i64 0), .p (.int .i64 0), .p (.int .i64 0), .p (.int .i64 0)] []) fun t1 =>
 alK [.p (.int .i64 0), .p (.int .i64 0), .p (.int .i64 0), .p (.int .i64 0), .p (.int .i64 0), .p (.int .i64 0), .p (.int .i64 0), .p (.int .i64 0)] h fun t2 h3 y4 =>
 wK (oStore (some 8) t2 t1 h3) fun t5 h6 y7 =>
 pK (oBin .eql v20 (.p (.int .i64 0))) fun t8 =>
 condB t8 (C f_scanref2_ChartOf [v4, v8] h6 fun t9 h10 y11 =>
 C f_scanref2_SignalsIn [v4, v8] h10 fun t12 h13 y14 =>
 wK (oStore (some 8) t2 t9 h13) fun t15 h16 y17 =>
 NW C gl q1 ⟨[(9, v9), (10, v10), (11, v11), (12, v12), (13, v13), (14, v14), (15, v15), (16, v16), (17, v17), (18, v18), (19, v19), (20, v20), (21, v21), (22, v22), (23, v23), (24, t2), (25, t12)], h16, (y17 ++ (y14 ++ (y11 ++ (y7 ++ (y4 ++ x)))))⟩ K)
 (NW C gl q1 ⟨[(4, v4), (8, v8), (9, v9), (10, v10), (11, v11), (12, v12), (13, v13), (14, v14), (15, v15), (16, v16), (17, v17), (18, v18), (19, v19), (20, v20), (21, v21), (22, v22), (23, v23), (24, t2), (25, (.p (.sl none []))), (104, t8)], h6, (y7 ++ (y4 ++ x))⟩ K)
theorem E_scanlaw2_ProcessesWatched_k2 {C gl q1 e h x K} : NW C gl (P_scanlaw2_ProcessesWatched_k2 q1) ⟨e, h, x⟩ K = d_scanlaw2_ProcessesWatched_k2 C gl q1 (aget e 4) (aget e 8) (aget e 9) (aget e 10) (aget e 11) (aget e 12) (aget e 13) (aget e 14) (aget e 15) (aget e 16) (aget e 17) (aget e 18) (aget e 19) (aget e 20) (aget e 21) (aget e 22) (aget e 23) h x K := by kernel_rfl
theorem e_scanlaw2_ProcessesWatched_k2 {C gl e h x K} : NW C gl p_scanlaw2_ProcessesWatched_k2 ⟨e, h, x⟩ K = d_scanlaw2_ProcessesWatched_k2 C gl p_scanlaw2_ProcessesWatched_k1 (aget e 4) (aget e 8) (aget e 9) (aget e 10) (aget e 11) (aget e 12) (aget e 13) (aget e 14) (aget e 15) (aget e 16) (aget e 17) (aget e 18) (aget e 19) (aget e 20) (aget e 21) (aget e 22) (aget e 23) h x K := E_scanlaw2_ProcessesWatched_k2
def P_scanlaw2_ProcessesWatched_k3 (q2 : ACode) : ACode := .pr [4, 5, 6, 7, 8, 9, 10, 11, 12, 13, 14, 15, 16, 17, 18, 19, 20, 21, 22, 23] (.seq (.seq (.reg [
  ⟨some 95, none, .mv (.t 19)⟩,
  ⟨some 96, none, .bin .eql (.t 95) (.c (.p (.int .i64 0)))⟩] (some [4, 5, 6, 7, 8, 9, 10, 11, 12, 13, 14, 15, 16, 17, 18, 19, 20, 21, 22, 23, 96]))
 (.cond (.t 96) (.reg [
  ⟨some 97, none, .mv (.t 4)⟩,
  ⟨some 98, none, .mv (.t 5)⟩,
  ⟨some 99, none, .mv (.t 6)⟩,
  ⟨some 100, none, .load (some 2) (.t 7)⟩,
  ⟨some 101, none, .call f_scanref2_AbleOf [(.t 97), (.t 98), (.t 99), (.t 100)]⟩,
  ⟨some 23, none, .mv (.t 101)⟩] (some [4, 8, 9, 10, 11, 12, 13, 14, 15, 16, 17, 18, 19, 20, 21, 22, 23]))
 .skip))
 q2)
def p_scanlaw2_ProcessesWatched_k3 : ACode := P_scanlaw2_ProcessesWatched_k3 p_scanlaw2_ProcessesWatched_k2
def d_scanlaw2_ProcessesWatched_k3 (C : Hd) (gl : Nat → Option PV) (q2 : ACode) (v4 v5 v6 v7 v8 v9 v10 v11 v12 v13 v14 v15 v16 v17 v18 v19 v20 v21 v22 v23 : AV) (h : Heap) (x : Esc) (K : Ex → St → Prop) : Prop :=
 pK (oBin .eql v19 (.p (.int .i64 0))) fun t1 =>
 condB t1 (pK (oLoad (some 2) v7 h) fun t2 =>
 C f_scanref2_AbleOf [v4, v5, v6, t2] h fun t3 h4 y5 =>
 NW C gl q2 ⟨[(4, v4), (8, v8), (9, v9), (10, v10), (11, v11), (12, v12), (13, v13), (14, v14), (15, v15), (16, v16), (17, v17), (18, v18), (19, v19), (20, v20), (21, v21), (22, v22), (23, t3)], h4, (y5 ++ x)⟩ K)
 (NW C gl q2 ⟨[(4, v4), (5, v5), (6, v6), (7, v7), (8, v8), (9, v9), (10, v10), (11, v11), (12, v12), (13, v13), (14, v14), (15, v15), (16, v16), (17, v17), (18, v18), (19, v19), (20, v20), (21, v21), (22, v22), (23, v23), (96, t1)], h, x⟩ K)
theorem E_scanlaw2_ProcessesWatched_k3 {C gl q2 e h x K} : NW C gl (P_scanlaw2_ProcessesWatched_k3 q2) ⟨e, h, x⟩ K = d_scanlaw2_ProcessesWatched_k3 C gl q2 (aget e 4) (aget e 5) (aget e 6) (aget e 7) (aget e 8) (aget e 9) (aget e 10) (aget e 11) (aget e 12) (aget e 13) (aget e 14) (aget e 15) (aget e 16) (aget e 17) (aget e 18) (aget e 19) (aget e 20) (aget e 21) (aget e 22) (aget e 23) h x K := by kernel_rfl
theorem e_scanlaw2_ProcessesWatched_k3 {C gl e h x K} : NW C gl p_scanlaw2_ProcessesWatched_k3 ⟨e, h, x⟩ K = d_scanlaw2_ProcessesWatched_k3 C gl p_scanlaw2_ProcessesWatched_k2 (aget e 4) (aget e 5) (aget e 6) (aget e 7) (aget e 8) (aget e 9) (aget e 10) (aget e 11) (aget e 12) (aget e 13) (aget e 14) (aget e 15) (aget e 16) (aget e 17) (aget e 18) (aget e 19) (aget e 20) (aget e 21) (aget e 22) (aget e 23) h x K := E_scanlaw2_ProcessesWatched_k3
def P_scanlaw2_ProcessesWatched_k4 (q3 : ACode) : ACode := .pr [4, 5, 6, 7, 8] (.seq (.reg [
  ⟨some 49, none, .mv (.t 4)⟩,
  ⟨some 50, none, .call f_lot_Spread [(.t 49)]⟩,
  ⟨some 48, none, .mv (.t 50)⟩,
  ⟨some 51, none, .ext (.t 48) 0⟩,
  ⟨some 52, none, .ext (.t 48) 1⟩,
  ⟨some 53, none, .ext (.t 48) 2⟩,
  ⟨some 9, none, .alloc [.p (.int .i64 0), .p (.int .i64 0)]⟩,
  ⟨some 10, none, .alloc [.p (.int .i64 0), .p (.int .i64 0)]⟩,
  ⟨none, none, .store (some 2) (.t 9) (.t 51)⟩,
  ⟨none, none, .store (some 2) (.t 10) (.t 52)⟩,
  ⟨some 11, none, .mv (.t 53)⟩] (some [4, 5, 6, 7, 8, 9, 10, 11]))
 (.seq (.reg [
  ⟨some 55, none, .mv (.t 4)⟩,
  ⟨some 56, none, .mv (.t 5)⟩,
  ⟨some 57, none, .mv (.t 6)⟩,
  ⟨some 58, none, .load (some 2) (.t 7)⟩,
  ⟨some 59, none, .call f_lot_Able [(.t 55), (.t 56), (.t 57), (.t 58)]⟩,
  ⟨some 54, none, .mv (.t 59)⟩,
  ⟨some 60, none, .ext (.t 54) 0⟩,
  ⟨some 61, none, .ext (.t 54) 1⟩,
  ⟨some 12, none, .mv (.t 60)⟩,
  ⟨some 13, none, .mv (.t 61)⟩] (some [4, 5, 6, 7, 8, 9, 10, 11, 12, 13]))
 (.seq (.reg [
  ⟨some 63, none, .mv (.t 4)⟩,
  ⟨some 64, none, .mv (.t 8)⟩,
  ⟨some 65, none, .call f_lot_Chart [(.t 63), (.t 64)]⟩,
  ⟨some 62, none, .mv (.t 65)⟩,
  ⟨some 66, none, .ext (.t 62) 0⟩,
  ⟨some 67, none, .ext (.t 62) 1⟩,
  ⟨some 14, none, .alloc [.p (.int .i64 0), .p (.int .i64 0), .p (.int .i64 0), .p (.int .i64 0), .p (.int .i64 0), .p (.int .i64 0), .p (.int .i64 0), .p (.int .i64 0)]⟩,
  ⟨none, none, .store (some 8) (.t 14) (.t 66)⟩,
  ⟨some 15, none, .mv (.t 67)⟩] (some [4, 5, 6, 7, 8, 9, 10, 11, 12, 13, 14, 15]))
 (.seq (.reg [
  ⟨some 69, none, .mv (.t 4)⟩,
  ⟨some 70, none, .mv (.t 8)⟩,
  ⟨some 71, none, .call f_lot_Signals [(.t 69), (.t 70)]⟩,
  ⟨some 68, none, .mv (.t 71)⟩,
  ⟨some 72, none, .ext (.t 68) 0⟩,
  ⟨some 73, none, .ext (.t 68) 1⟩,
  ⟨some 16, none, .mv (.t 72)⟩,
  ⟨some 17, none, .mv (.t 73)⟩] (some [4, 5, 6, 7, 8, 9, 10, 11, 12, 13, 14, 15, 16, 17]))
 (.seq (.reg [
  ⟨some 74, none, .mv (.t 4)⟩,
  ⟨some 75, none, .call f_scanref2_MeasuresFault [(.t 74), (.c (.p (.int .i64 1)))]⟩,
  ⟨some 18, none, .mv (.t 75)⟩] (some [4, 5, 6, 7, 8, 9, 10, 11, 12, 13, 14, 15, 16, 17, 18]))
 (.seq (.reg [
  ⟨some 76, none, .mv (.t 18)⟩,
  ⟨some 77, none, .mv (.t 5)⟩,
  ⟨some 78, none, .mv (.t 6)⟩,
  ⟨some 79, none, .load (some 2) (.t 7)⟩,
  ⟨some 80, none, .call f_scanref2_AbleFault [(.t 77), (.t 78), (.t 79)]⟩,
  ⟨some 81, none, .bsl false none 2 (.int .i64 0) [(0, (.t 76)), (1, (.t 80))]⟩,
  ⟨some 82, none, .call f_scanlaw2_errs [(.t 81)]⟩,
  ⟨some 83, none, .mv (.t 4)⟩,
  ⟨some 84, none, .mv (.t 8)⟩,
  ⟨some 85, none, .call f_scanref2_SizeFault [(.t 83), (.t 84)]⟩,
  ⟨some 19, none, .mv (.t 82)⟩,
  ⟨some 20, none, .mv (.t 85)⟩] (some [4, 5, 6, 7, 8, 9, 10, 11, 12, 13, 14, 15, 16, 17, 18, 19, 20]))
 (.seq (.reg [
  ⟨some 86, none, .build [.p (.int .i64 0), .p (.int .i64 0)] []⟩,
  ⟨some 87, none, .build [.p (.int .i64 0), .p (.int .i64 0)] []⟩,
  ⟨some 21, none, .alloc [.p (.int .i64 0), .p (.int .i64 0)]⟩,
  ⟨some 22, none, .alloc [.p (.int .i64 0), .p (.int .i64 0)]⟩,
  ⟨none, none, .store (some 2) (.t 21) (.t 86)⟩,
  ⟨none, none, .store (some 2) (.t 22) (.t 87)⟩,
  ⟨some 23, none, .mv (.c (.p (.bool false)))⟩] (some [4, 5, 6, 7, 8, 9, 10, 11, 12, 13, 14, 15, 16, 17, 18, 19, 20, 21, 22, 23]))
 (.seq (.seq (.reg [
  ⟨some 88, none, .mv (.t 18)⟩,
  ⟨some 89, none, .bin .eql (.t 88) (.c (.p (.int .i64 0)))⟩] (some [4, 5, 6, 7, 8, 9, 10, 11, 12, 13, 14, 15, 16, 17, 18, 19, 20, 21, 22, 23, 89]))
 (.cond (.t 89) (.reg [
  ⟨some 91, none, .mv (.t 4)⟩,
  ⟨some 92, none, .call f_scanref2_SpreadOf [(.t 91)]⟩,
  ⟨some 90, none, .mv (.t 92)⟩,
  ⟨some 93, none, .ext (.t 90) 0⟩,
  ⟨some 94, none, .ext (.t 90) 1⟩,
  ⟨none, none, .store (some 2) (.t 21) (.t 93)⟩,
  ⟨none, none, .store (some 2) (.t 22) (.t 94)⟩] (some [4, 5, 6, 7, 8, 9, 10, 11, 12, 13, 14, 15, 16, 17, 18, 19, 20, 21, 22, 23]))
 .skip))
 q3))))))))
def p_scanlaw2_ProcessesWatched_k4 : ACode := P_scanlaw2_ProcessesWatched_k4 p_scanlaw2_ProcessesWatched_k3
def d_scanlaw2_ProcessesWatched_k4 (C : Hd) (gl : Nat → Option PV) (q3 : ACode) (v4 v5 v6 v7 v8 : AV) (h : Heap) (x : Esc) (K : Ex → St → Prop) : Prop :=
 C f_lot_Spread [v4] h fun t1 h2 y3 =>
 pK (oExt t1 0) fun t4 =>
 pK (oExt t1 1) fun t5 =>
 pK (oExt t1 2) fun t6 =>
 alK [.p (.int .i64 0), .p (.int .i64 0)] h2 fun t7 h8 y9 =>
 alK [.p (.int .i64 0), .p (.int .i64 0)] h8 fun t10 h11 y12 =>
 wK (oStore (some 2) t7 t4 h11) fun t13 h14 y15 =>
 wK (oStore (some 2) t10 t5 h14) fun t16 h17 y18 =>
 pK (oLoad (some 2) v7 h17) fun t19 =>
 C f_lot_Able [v4, v5, v6, t19] h17 fun t20 h21 y22 =>
 pK (oExt t20 0) fun t23 =>
 pK (oExt t20 1) fun t24 =>
 C f_lot_Chart [v4, v8] h21 fun t25 h26 y27 =>
 pK (oExt t25 0) fun t28 =>
 pK (oExt t25 1) fun t29 =>
 alK [.p (.int .i64 0), .p (.int .i64 0), .p (.int .i64 0), .p (.int .i64 0), .p (.int .i64 0), .p (.int .i64 0), .p (.int .i64 0), .p (.int .i64 0)] h26 fun t30 h31 y32 =>
 wK (oStore (some 8) t30 t28 h31) fun t33 h34 y35 =>
 C f_lot_Signals [v4, v8] h34 fun t36 h37 y38 =>
 pK (oExt t36 0) fun t39 =>
 pK (oExt t36 1) fun t40 =>
 C f_scanref2_MeasuresFault [v4, (.p (.int .i64 1))] h37 fun t41 h42 y43 =>
 pK (oLoad (some 2) v7 h42) fun t44 =>
 C f_scanref2_AbleFault [v5, v6, t44] h42 fun t45 h46 y47 =>
 wK (oBsl false none 2 (.int .i64 0) [(0, t41), (1, t45)] h46) fun t48 h49 y50 =>
 C f_scanlaw2_errs [t48] h49 fun t51 h52 y53 =>
 C f_scanref2_SizeFault [v4, v8] h52 fun t54 h55 y56 =>
 pK (oBuild [.p (.int .i64 0), .p (.int .i64 0)] []) fun t57 =>
 pK (oBuild [.p (.int .i64 0), .p (.int .i64 0)] []) fun t58 =>
 alK [.p (.int .i64 0), .p (.int .i64 0)] h55 fun t59 h60 y61 =>
 alK [.p (.int .i64 0), .p (.int .i64 0)] h60 fun t62 h63 y64 =>
 wK (oStore (some 2) t59 t57 h63) fun t65 h66 y67 =>
 wK (oStore (some 2) t62 t58 h66) fun t68 h69 y70 =>
 pK (oBin .eql t41 (.p (.int .i64 0))) fun t71 =>
 condB t71 (C f_scanref2_SpreadOf [v4] h69 fun t72 h73 y74 =>
 pK (oExt t72 0) fun t75 =>
 pK (oExt t72 1) fun t76 =>
 wK (oStore (some 2) t59 t75 h73) fun t77 h78 y79 =>
 wK (oStore (some 2) t62 t76 h78) fun t80 h81 y82 =>
 NW C gl q3 ⟨[(4, v4), (5, v5), (6, v6), (7, v7), (8, v8), (9, t7), (10, t10), (11, t6), (12, t23), (13, t24), (14, t30), (15, t29), (16, t39), (17, t40), (18, t41), (19, t51), (20, t54), (21, t59), (22, t62), (23, (.p (.bool false)))], h81, (y82 ++ (y79 ++ (y74 ++ (y70 ++ (y67 ++ (y64 ++ (y61 ++ (y56 ++ (y53 ++ (y50 ++ (y47 ++ (y43 ++ (y38 ++ (y35 ++ (y32 ++ (y27 ++ (y22 ++ (y18 ++ (y15 ++ (y12 ++ (y9 ++ (y3 ++ x))))))))))))))))))))))⟩ K)
 (NW C gl q3 ⟨[(4, v4), (5, v5), (6, v6), (7, v7), (8, v8), (9, t7), (10, t10), (11, t6), (12, t23), (13, t24), (14, t30), (15, t29), (16, t39), (17, t40), (18, t41), (19, t51), (20, t54), (21, t59), (22, t62), (23, (.p (.bool false))), (89, t71)], h69, (y70 ++ (y67 ++ (y64 ++ (y61 ++ (y56 ++ (y53 ++ (y50 ++ (y47 ++ (y43 ++ (y38 ++ (y35 ++ (y32 ++ (y27 ++ (y22 ++ (y18 ++ (y15 ++ (y12 ++ (y9 ++ (y3 ++ x)))))))))))))))))))⟩ K)
theorem E_scanlaw2_ProcessesWatched_k4 {C gl q3 e h x K} : NW C gl (P_scanlaw2_ProcessesWatched_k4 q3) ⟨e, h, x⟩ K = d_scanlaw2_ProcessesWatched_k4 C gl q3 (aget e 4) (aget e 5) (aget e 6) (aget e 7) (aget e 8) h x K := by kernel_rfl
theorem e_scanlaw2_ProcessesWatched_k4 {C gl e h x K} : NW C gl p_scanlaw2_ProcessesWatched_k4 ⟨e, h, x⟩ K = d_scanlaw2_ProcessesWatched_k4 C gl p_scanlaw2_ProcessesWatched_k3 (aget e 4) (aget e 5) (aget e 6) (aget e 7) (aget e 8) h x K := E_scanlaw2_ProcessesWatched_k4
def P_scanlaw2_ProcessesWatched (q4 : ACode) : ACode := (.seq (.reg [
  ⟨some 2, none, .mv (.c (.p (.bool false)))⟩] (some [0]))
 (.seq (.reg [
  ⟨some 26, none, .mv (.t 0)⟩,
  ⟨some 27, none, .build [.p (.sl none []), .p (.int .i64 0)] [(0, 1, (.t 26))]⟩,
  ⟨some 28, none, .box (.t 27)⟩,
  ⟨some 3, none, .mv (.t 28)⟩] (some [3]))
 (.seq (.reg [
  ⟨some 29, none, .mv (.t 3)⟩,
  ⟨some 30, none, .mv (.t 3)⟩,
  ⟨some 31, none, .bsl false none 6 (.int .i64 0) [(0, (.c (.p (.int .i64 0)))), (1, (.c (.p (.int .i64 1)))), (2, (.c (.p (.int .i64 2)))), (3, (.c (.p (.int .i64 5)))), (4, (.c (.p (.int .i64 12)))), (5, (.c (.p (.int .i64 40))))]⟩,
  ⟨some 32, none, .call f_scanmake_Stream_Pick [(.t 30), (.t 31)]⟩,
  ⟨some 33, none, .call f_scanmake_Stream_Values [(.t 29), (.t 32)]⟩,
  ⟨some 34, none, .mv (.t 3)⟩,
  ⟨some 35, none, .bsl false none 4 (.int .i64 0) [(0, (.c (.p (.int .i64 (-30))))), (1, (.c (.p (.int .i64 0)))), (2, (.c (.p (.int .i64 (-100000))))), (3, (.c (.p (.int .i64 (-100001)))))]⟩,
  ⟨some 36, none, .call f_scanmake_Stream_Pick [(.t 34), (.t 35)]⟩,
  ⟨some 37, none, .mv (.t 3)⟩,
  ⟨some 38, none, .bsl false none 5 (.int .i64 0) [(0, (.c (.p (.int .i64 10)))), (1, (.c (.p (.int .i64 40)))), (2, (.c (.p (.int .i64 100000)))), (3, (.c (.p (.int .i64 (-40))))), (4, (.c (.p (.int .i64 100001))))]⟩,
  ⟨some 39, none, .call f_scanmake_Stream_Pick [(.t 37), (.t 38)]⟩,
  ⟨some 40, none, .mv (.t 3)⟩,
  ⟨some 41, none, .call f_scanmake_Stream_ANeed [(.t 40)]⟩,
  ⟨some 42, none, .mv (.t 3)⟩,
  ⟨some 43, none, .call f_scanmake_Stream_Odd [(.t 42), (.c (.p (.int .i64 2))), (.c (.p (.int .i64 10)))]⟩,
  ⟨some 7, none, .alloc [.p (.int .i64 0), .p (.int .i64 0)]⟩,
  ⟨some 4, none, .mv (.t 33)⟩,
  ⟨some 5, none, .mv (.t 36)⟩,
  ⟨some 6, none, .mv (.t 39)⟩,
  ⟨none, none, .store (some 2) (.t 7) (.t 41)⟩,
  ⟨some 8, none, .mv (.t 43)⟩] (some [3, 4, 5, 6, 7, 8]))
 (.seq (.seq (.reg [
  ⟨some 44, none, .mv (.t 3)⟩,
  ⟨some 45, none, .call f_scanmake_Stream_Flip [(.t 44), (.c (.p (.int .i64 2)))]⟩] (some [3, 4, 5, 6, 7, 8, 45]))
 (.cond (.t 45) (.reg [
  ⟨some 46, none, .mv (.t 3)⟩,
  ⟨some 47, none, .call f_scanmake_Stream_Range [(.t 46), (.c (.p (.int .i64 2))), (.c (.p (.int .i64 3)))]⟩,
  ⟨some 8, none, .mv (.t 47)⟩] (some [4, 5, 6, 7, 8]))
 .skip))
 q4))))
def a_scanlaw2_ProcessesWatched : AFun := ⟨1, [.t 2], P_scanlaw2_ProcessesWatched p_scanlaw2_ProcessesWatched_k4, false, false⟩
def d_scanlaw2_ProcessesWatched (C : Hd) (gl : Nat → Option PV) (q4 : ACode) (v0 : AV) (h : Heap) (x : Esc) (K : Ex → St → Prop) : Prop :=
 pK (oBuild [.p (.sl none []), .p (.int .i64 0)] [(0, 1, v0)]) fun t1 =>
 wK (oBox t1 h) fun t2 h3 y4 =>
 wK (oBsl false none 6 (.int .i64 0) [(0, (.p (.int .i64 0))), (1, (.p (.int .i64 1))), (2, (.p (.int .i64 2))), (3, (.p (.int .i64 5))), (4, (.p (.int .i64 12))), (5, (.p (.int .i64 40)))] h3) fun t5 h6 y7 =>
 C f_scanmake_Stream_Pick [t2, t5] h6 fun t8 h9 y10 =>
 C f_scanmake_Stream_Values [t2, t8] h9 fun t11 h12 y13 =>
 wK (oBsl false none 4 (.int .i64 0) [(0, (.p (.int .i64 (-30)))), (1, (.p (.int .i64 0))), (2, (.p (.int .i64 (-100000)))), (3, (.p (.int .i64 (-100001))))] h12) fun t14 h15 y16 =>
 C f_scanmake_Stream_Pick [t2, t14] h15 fun t17 h18 y19 =>
 wK (oBsl false none 5 (.int .i64 0) [(0, (.p (.int .i64 10))), (1, (.p (.int .i64 40))), (2, (.p (.int .i64 100000))), (3, (.p (.int .i64 (-40)))), (4, (.p (.int .i64 100001)))] h18) fun t20 h21 y22 =>
 C f_scanmake_Stream_Pick [t2, t20] h21 fun t23 h24 y25 =>
 C f_scanmake_Stream_ANeed [t2] h24 fun t26 h27 y28 =>
 C f_scanmake_Stream_Odd [t2, (.p (.int .i64 2)), (.p (.int .i64 10))] h27 fun t29 h30 y31 =>
 alK [.p (.int .i64 0), .p (.int .i64 0)] h30 fun t32 h33 y34 =>
 wK (oStore (some 2) t32 t26 h33) fun t35 h36 y37 =>
 C f_scanmake_Stream_Flip [t2, (.p (.int .i64 2))] h36 fun t38 h39 y40 =>
 condB t38 (C f_scanmake_Stream_Range [t2, (.p (.int .i64 2)), (.p (.int .i64 3))] h39 fun t41 h42 y43 =>
 NW C gl q4 ⟨[(4, t11), (5, t17), (6, t23), (7, t32), (8, t41)], h42, (y43 ++ (y40 ++ (y37 ++ (y34 ++ (y31 ++ (y28 ++ (y25 ++ (y22 ++ (y19 ++ (y16 ++ (y13 ++ (y10 ++ (y7 ++ (y4 ++ x))))))))))))))⟩ K)
 (NW C gl q4 ⟨[(3, t2), (4, t11), (5, t17), (6, t23), (7, t32), (8, t29), (45, t38)], h39, (y40 ++ (y37 ++ (y34 ++ (y31 ++ (y28 ++ (y25 ++ (y22 ++ (y19 ++ (y16 ++ (y13 ++ (y10 ++ (y7 ++ (y4 ++ x)))))))))))))⟩ K)
theorem E_scanlaw2_ProcessesWatched {C gl q4 v0 h x K} : NW C gl (P_scanlaw2_ProcessesWatched q4) ⟨enter [v0], h, x⟩ K = d_scanlaw2_ProcessesWatched C gl q4 v0 h x K := by kernel_rfl
theorem e_scanlaw2_ProcessesWatched {C gl v0 h x K} : NW C gl a_scanlaw2_ProcessesWatched.body ⟨enter [v0], h, x⟩ K = d_scanlaw2_ProcessesWatched C gl p_scanlaw2_ProcessesWatched_k4 v0 h x K := E_scanlaw2_ProcessesWatched
def p_scanmake_Stream_Values_k1 : ACode := .pr [0, 5, 6, 10, 11] (.seq (.reg [
  ⟨some 12, none, .bin .lss (.t 11) (.t 10)⟩] (some [0, 5, 6, 10, 11, 12]))
 (.seq (.cond (.t 12) .skip
 (.exit 0))
 (.seq (.block 1 (.reg [
  ⟨some 13, none, .mv (.t 5)⟩,
  ⟨some 14, none, .mv (.t 6)⟩,
  ⟨some 15, none, .mv (.t 0)⟩,
  ⟨some 16, none, .bsl false none 7 (.int .i64 0) [(0, (.c (.p (.int .i64 0)))), (1, (.c (.p (.int .i64 1)))), (2, (.c (.p (.int .i64 2)))), (3, (.c (.p (.int .i64 3)))), (4, (.c (.p (.int .i64 5)))), (5, (.c (.p (.int .i64 9)))), (6, (.c (.p (.int .i64 (-4)))))]⟩,
  ⟨some 17, none, .call f_scanmake_Stream_Pick [(.t 15), (.t 16)]⟩,
  ⟨some 18, none, .bin .add (.t 14) (.t 17)⟩,
  ⟨some 19, none, .bsl false none 1 (.int .i64 0) [(0, (.t 18))]⟩,
  ⟨some 20, none, .app none (.t 13) (.t 19)⟩,
  ⟨some 5, none, .mv (.t 20)⟩] (some [0, 5, 6, 10, 11])))
 (.reg [
  ⟨some 21, none, .bin .add (.t 11) (.c (.p (.int .i64 1)))⟩,
  ⟨some 11, none, .mv (.t 21)⟩] (some [0, 5, 6, 10, 11])))))
def d_scanmake_Stream_Values_k1 (C : Hd) (gl : Nat → Option PV) (v0 v5 v6 v10 v11 : AV) (h : Heap) (x : Esc) (K : Ex → St → Prop) : Prop :=
 pK (oBin .lss v11 v10) fun t1 =>
 condB t1 (wK (oBsl false none 7 (.int .i64 0) [(0, (.p (.int .i64 0))), (1, (.p (.int .i64 1))), (2, (.p (.int .i64 2))), (3, (.p (.int .i64 3))), (4, (.p (.int .i64 5))), (5, (.p (.int .i64 9))), (6, (.p (.int .i64 (-4))))] h) fun t2 h3 y4 =>
 C f_scanmake_Stream_Pick [v0, t2] h3 fun t5 h6 y7 =>
 pK (oBin .add v6 t5) fun t8 =>
 wK (oBsl false none 1 (.int .i64 0) [(0, t8)] h6) fun t9 h10 y11 =>
 wK (oApp none v5 t9 h10) fun t12 h13 y14 =>
 pK (oBin .add v11 (.p (.int .i64 1))) fun t15 =>
 K .normal ⟨[(0, v0), (5, t12), (6, v6), (10, v10), (11, t15)], h13, (y14 ++ (y11 ++ (y7 ++ (y4 ++ x))))⟩)
 (K (.exit 0) ⟨[(0, v0), (5, v5), (6, v6), (10, v10), (11, v11), (12, t1)], h, x⟩)
theorem e_scanmake_Stream_Values_k1 {C gl e h x K} : NW C gl p_scanmake_Stream_Values_k1 ⟨e, h, x⟩ K = d_scanmake_Stream_Values_k1 C gl (aget e 0) (aget e 5) (aget e 6) (aget e 10) (aget e 11) h x K := by kernel_rfl
theorem l_scanmake_Stream_Values_k1 {C gl e h x K} : NW C gl (.loop (.scope p_scanmake_Stream_Values_k1)) ⟨e, h, x⟩ K = NLoop C gl (.scope p_scanmake_Stream_Values_k1) K [(0, aget e 0), (5, aget e 5), (6, aget e 6), (10, aget e 10), (11, aget e 11)] h x := NLoop_sc
def p_scanmake_Stream_Values_k2 : ACode := .pr [5] (.seq (.reg [
  ⟨some 38, none, .mv (.t 5)⟩,
  ⟨some 4, none, .mv (.t 38)⟩] (some [4]))
 .ret)
def d_scanmake_Stream_Values_k2 (C : Hd) (gl : Nat → Option PV) (v5 : AV) (h : Heap) (x : Esc) (K : Ex → St → Prop) : Prop :=
 K .ret ⟨[(4, v5)], h, x⟩
theorem e_scanmake_Stream_Values_k2 {C gl e h x K} : NW C gl p_scanmake_Stream_Values_k2 ⟨e, h, x⟩ K = d_scanmake_Stream_Values_k2 C gl (aget e 5) h x K := by kernel_rfl
def P_scanmake_Stream_Values_k3 (q2 : ACode) : ACode := .pr [0, 5] (.seq (.seq (.reg [
  ⟨some 22, none, .mv (.t 5)⟩,
  ⟨some 23, none, .len (.t 22)⟩,
  ⟨some 24, none, .bin .gtr (.t 23) (.c (.p (.int .i64 0)))⟩,
  ⟨some 25, none, .mv (.t 24)⟩,
  ⟨some 26, (some (25, true)), .mv (.t 0)⟩,
  ⟨some 27, (some (25, true)), .call f_scanmake_Stream_Flip [(.t 26), (.c (.p (.int .i64 15)))]⟩,
  ⟨some 28, none, .pick (.t 25) (.t 27) (.c (.p (.bool false)))⟩] (some [0, 5, 28]))
 (.cond (.t 28) (.reg [
  ⟨some 29, none, .mv (.t 5)⟩,
  ⟨some 30, none, .mv (.t 0)⟩,
  ⟨some 31, none, .mv (.t 5)⟩,
  ⟨some 32, none, .len (.t 31)⟩,
  ⟨some 33, none, .call f_scanmake_Stream_Next [(.t 30), (.t 32)]⟩,
  ⟨some 34, none, .mv (.t 0)⟩,
  ⟨some 35, none, .bsl false none 5 (.int .i64 0) [(0, (.c (.p (.int .i64 100000)))), (1, (.c (.p (.int .i64 (-100000))))), (2, (.c (.p (.int .i64 100001)))), (3, (.c (.p (.int .i64 4611686018427387904)))), (4, (.c (.p (.int .i64 (-9223372036854775808)))))]⟩,
  ⟨some 36, none, .call f_scanmake_Stream_Pick [(.t 34), (.t 35)]⟩,
  ⟨some 37, none, .iaddr none (.t 29) (.t 33)⟩,
  ⟨none, none, .store none (.t 37) (.t 36)⟩] (some [5]))
 .skip))
 q2)
def p_scanmake_Stream_Values_k3 : ACode := P_scanmake_Stream_Values_k3 p_scanmake_Stream_Values_k2
def d_scanmake_Stream_Values_k3 (C : Hd) (gl : Nat → Option PV) (q2 : ACode) (v0 v5 : AV) (h : Heap) (x : Esc) (K : Ex → St → Prop) : Prop :=
 pK (oLen v5) fun t1 =>
 pK (oBin .gtr t1 (.p (.int .i64 0))) fun t2 =>
 gM t2 true v0 h fun t3 h4 y5 =>
 gV t2 true h4 (C f_scanmake_Stream_Flip [t3, (.p (.int .i64 15))] h4) fun t6 h7 y8 =>
 pK (oPick t2 t6 (.p (.bool false))) fun t9 =>
 condB t9 (pK (oLen v5) fun t10 =>
 C f_scanmake_Stream_Next [v0, t10] h7 fun t11 h12 y13 =>
 wK (oBsl false none 5 (.int .i64 0) [(0, (.p (.int .i64 100000))), (1, (.p (.int .i64 (-100000)))), (2, (.p (.int .i64 100001))), (3, (.p (.int .i64 4611686018427387904))), (4, (.p (.int .i64 (-9223372036854775808))))] h12) fun t14 h15 y16 =>
 C f_scanmake_Stream_Pick [v0, t14] h15 fun t17 h18 y19 =>
 pK (oIaddr none v5 t11 h18) fun t20 =>
 wK (oStore none t20 t17 h18) fun t21 h22 y23 =>
 NW C gl q2 ⟨[(5, v5)], h22, (y23 ++ (y19 ++ (y16 ++ (y13 ++ (y8 ++ (y5 ++ x))))))⟩ K)
 (NW C gl q2 ⟨[(0, v0), (5, v5), (28, t9)], h7, (y8 ++ (y5 ++ x))⟩ K)
theorem E_scanmake_Stream_Values_k3 {C gl q2 e h x K} : NW C gl (P_scanmake_Stream_Values_k3 q2) ⟨e, h, x⟩ K = d_scanmake_Stream_Values_k3 C gl q2 (aget e 0) (aget e 5) h x K := by kernel_rfl
theorem e_scanmake_Stream_Values_k3 {C gl e h x K} : NW C gl p_scanmake_Stream_Values_k3 ⟨e, h, x⟩ K = d_scanmake_Stream_Values_k3 C gl p_scanmake_Stream_Values_k2 (aget e 0) (aget e 5) h x K := E_scanmake_Stream_Values_k3
def P_scanmake_Stream_Values (q1 q3 : ACode) : ACode := (.seq (.reg [
  ⟨some 4, none, .mv (.c (.p (.sl none [])))⟩] (some [0, 1]))
 (.seq (.reg [
  ⟨some 5, none, .new0 none⟩] (some [0, 1, 5]))
 (.seq (.reg [
  ⟨some 7, none, .mv (.t 0)⟩,
  ⟨some 8, none, .bsl false none 4 (.int .i64 0) [(0, (.c (.p (.int .i64 0)))), (1, (.c (.p (.int .i64 5)))), (2, (.c (.p (.int .i64 (-20))))), (3, (.c (.p (.int .i64 99990))))]⟩,
  ⟨some 9, none, .call f_scanmake_Stream_Pick [(.t 7), (.t 8)]⟩,
  ⟨some 6, none, .mv (.t 9)⟩] (some [0, 1, 5, 6]))
 (.seq (.seq (.reg [
  ⟨some 10, none, .mv (.t 1)⟩,
  ⟨some 11, none, .mv (.c (.p (.int .i64 0)))⟩] (some [0, 5, 6, 10, 11]))
 (.block 0 (.loop (.scope q1))))
 q3))))
def a_scanmake_Stream_Values : AFun := ⟨2, [.t 4], P_scanmake_Stream_Values p_scanmake_Stream_Values_k1 p_scanmake_Stream_Values_k3, false, false⟩
def d_scanmake_Stream_Values (C : Hd) (gl : Nat → Option PV) (q1 q3 : ACode) (v0 v1 : AV) (h : Heap) (x : Esc) (K : Ex → St → Prop) : Prop :=
 nwK none h fun t1 h2 y3 =>
 wK (oBsl false none 4 (.int .i64 0) [(0, (.p (.int .i64 0))), (1, (.p (.int .i64 5))), (2, (.p (.int .i64 (-20)))), (3, (.p (.int .i64 99990)))] h2) fun t4 h5 y6 =>
 C f_scanmake_Stream_Pick [v0, t4] h5 fun t7 h8 y9 =>
 NW C gl (.loop (.scope q1)) ⟨[(0, v0), (5, t1), (6, t7), (10, v1), (11, (.p (.int .i64 0)))], h8, (y9 ++ (y6 ++ (y3 ++ x)))⟩ (blockN 0 (seqN C gl q3 K))
theorem E_scanmake_Stream_Values {C gl q1 q3 v0 v1 h x K} : NW C gl (P_scanmake_Stream_Values q1 q3) ⟨enter [v0, v1], h, x⟩ K = d_scanmake_Stream_Values C gl q1 q3 v0 v1 h x K := by kernel_rfl
theorem e_scanmake_Stream_Values {C gl v0 v1 h x K} : NW C gl a_scanmake_Stream_Values.body ⟨enter [v0, v1], h, x⟩ K = d_scanmake_Stream_Values C gl p_scanmake_Stream_Values_k1 p_scanmake_Stream_Values_k3 v0 v1 h x K := E_scanmake_Stream_Values
def P_scanmake_Stream_Pick : ACode := (.seq (.reg [
  ⟨some 4, none, .mv (.c (.p (.int .i64 0)))⟩] (some [0, 1]))
 (.seq (.reg [
  ⟨some 5, none, .mv (.t 1)⟩,
  ⟨some 6, none, .mv (.t 0)⟩,
  ⟨some 7, none, .mv (.t 1)⟩,
  ⟨some 8, none, .len (.t 7)⟩,
  ⟨some 9, none, .call f_scanmake_Stream_Next [(.t 6), (.t 8)]⟩,
  ⟨some 10, none, .iaddr none (.t 5) (.t 9)⟩,
  ⟨some 11, none, .load none (.t 10)⟩,
  ⟨some 4, none, .mv (.t 11)⟩] (some [4]))
 .ret))
def a_scanmake_Stream_Pick : AFun := ⟨2, [.t 4], P_scanmake_Stream_Pick, false, false⟩
def d_scanmake_Stream_Pick (C : Hd) (gl : Nat → Option PV) (v0 v1 : AV) (h : Heap) (x : Esc) (K : Ex → St → Prop) : Prop :=
 pK (oLen v1) fun t1 =>
 C f_scanmake_Stream_Next [v0, t1] h fun t2 h3 y4 =>
 pK (oIaddr none v1 t2 h3) fun t5 =>
 pK (oLoad none t5 h3) fun t6 =>
 K .ret ⟨[(4, t6)], h3, (y4 ++ x)⟩
theorem E_scanmake_Stream_Pick {C gl v0 v1 h x K} : NW C gl (P_scanmake_Stream_Pick) ⟨enter [v0, v1], h, x⟩ K = d_scanmake_Stream_Pick C gl v0 v1 h x K := by kernel_rfl
theorem e_scanmake_Stream_Pick {C gl v0 v1 h x K} : NW C gl a_scanmake_Stream_Pick.body ⟨enter [v0, v1], h, x⟩ K = d_scanmake_Stream_Pick C gl v0 v1 h x K := E_scanmake_Stream_Pick
def p_scanmake_Stream_ANeed_k1 : ACode := .pr [2, 3] (.seq (.reg [
  ⟨some 28, none, .load (some 2) (.t 3)⟩,
  ⟨none, none, .store (some 2) (.t 2) (.t 28)⟩] (some [2]))
 .ret)
def d_scanmake_Stream_ANeed_k1 (C : Hd) (gl : Nat → Option PV) (v2 v3 : AV) (h : Heap) (x : Esc) (K : Ex → St → Prop) : Prop :=
 pK (oLoad (some 2) v3 h) fun t1 =>
 wK (oStore (some 2) v2 t1 h) fun t2 h3 y4 =>
 K .ret ⟨[(2, v2)], h3, (y4 ++ x)⟩
theorem e_scanmake_Stream_ANeed_k1 {C gl e h x K} : NW C gl p_scanmake_Stream_ANeed_k1 ⟨e, h, x⟩ K = d_scanmake_Stream_ANeed_k1 C gl (aget e 2) (aget e 3) h x K := by kernel_rfl
def P_scanmake_Stream_ANeed (q1 : ACode) : ACode := (.seq (.reg [
  ⟨some 2, none, .alloc [.p (.int .i64 0), .p (.int .i64 0)]⟩] (some [0, 2]))
 (.seq (.reg [
  ⟨some 4, none, .build [.p (.int .i64 0), .p (.int .i64 0)] [(0, 1, (.c (.p (.int .i64 1)))), (1, 1, (.c (.p (.int .i64 1))))]⟩,
  ⟨some 5, none, .build [.p (.int .i64 0), .p (.int .i64 0)] [(0, 1, (.c (.p (.int .i64 4)))), (1, 1, (.c (.p (.int .i64 3))))]⟩,
  ⟨some 6, none, .build [.p (.int .i64 0), .p (.int .i64 0)] [(0, 1, (.c (.p (.int .i64 1)))), (1, 1, (.c (.p (.int .i64 2))))]⟩,
  ⟨some 7, none, .build [.p (.int .i64 0), .p (.int .i64 0)] [(0, 1, (.c (.p (.int .i64 0)))), (1, 1, (.c (.p (.int .i64 1))))]⟩,
  ⟨some 8, none, .build [.p (.int .i64 0), .p (.int .i64 0)] [(0, 1, (.c (.p (.int .i64 100)))), (1, 1, (.c (.p (.int .i64 1))))]⟩,
  ⟨some 9, none, .build [.p (.int .i64 0), .p (.int .i64 0)] [(0, 1, (.c (.p (.int .i64 1)))), (1, 1, (.c (.p (.int .i64 100))))]⟩,
  ⟨some 10, none, .bsl false (some 2) 6 (.agg [.int .i64 0, .int .i64 0]) [(0, (.t 4)), (1, (.t 5)), (2, (.t 6)), (3, (.t 7)), (4, (.t 8)), (5, (.t 9))]⟩,
  ⟨some 11, none, .mv (.t 0)⟩,
  ⟨some 12, none, .call f_scanmake_Stream_Next [(.t 11), (.c (.p (.int .i64 6)))]⟩,
  ⟨some 13, none, .iaddr (some 2) (.t 10) (.t 12)⟩,
  ⟨some 14, none, .load (some 2) (.t 13)⟩,
  ⟨some 3, none, .alloc [.p (.int .i64 0), .p (.int .i64 0)]⟩,
  ⟨none, none, .store (some 2) (.t 3) (.t 14)⟩] (some [0, 2, 3]))
 (.seq (.seq (.reg [
  ⟨some 15, none, .mv (.t 0)⟩,
  ⟨some 16, none, .call f_scanmake_Stream_Flip [(.t 15), (.c (.p (.int .i64 12)))]⟩] (some [0, 2, 3, 16]))
 (.cond (.t 16) (.reg [
  ⟨some 17, none, .build [.p (.int .i64 0), .p (.int .i64 0)] [(0, 1, (.c (.p (.int .i64 2)))), (1, 1, (.c (.p (.int .i64 2))))]⟩,
  ⟨some 18, none, .build [.p (.int .i64 0), .p (.int .i64 0)] [(0, 1, (.c (.p (.int .i64 (-1))))), (1, 1, (.c (.p (.int .i64 1))))]⟩,
  ⟨some 19, none, .build [.p (.int .i64 0), .p (.int .i64 0)] [(0, 1, (.c (.p (.int .i64 1)))), (1, 1, (.c (.p (.int .i64 0))))]⟩,
  ⟨some 20, none, .build [.p (.int .i64 0), .p (.int .i64 0)] [(0, 1, (.c (.p (.int .i64 101)))), (1, 1, (.c (.p (.int .i64 1))))]⟩,
  ⟨some 21, none, .build [.p (.int .i64 0), .p (.int .i64 0)] [(0, 1, (.c (.p (.int .i64 1)))), (1, 1, (.c (.p (.int .i64 101))))]⟩,
  ⟨some 22, none, .build [.p (.int .i64 0), .p (.int .i64 0)] [(0, 1, (.c (.p (.int .i64 4611686018427387904)))), (1, 1, (.c (.p (.int .i64 1))))]⟩,
  ⟨some 23, none, .bsl false (some 2) 6 (.agg [.int .i64 0, .int .i64 0]) [(0, (.t 17)), (1, (.t 18)), (2, (.t 19)), (3, (.t 20)), (4, (.t 21)), (5, (.t 22))]⟩,
  ⟨some 24, none, .mv (.t 0)⟩,
  ⟨some 25, none, .call f_scanmake_Stream_Next [(.t 24), (.c (.p (.int .i64 6)))]⟩,
  ⟨some 26, none, .iaddr (some 2) (.t 23) (.t 25)⟩,
  ⟨some 27, none, .load (some 2) (.t 26)⟩,
  ⟨none, none, .store (some 2) (.t 3) (.t 27)⟩] (some [2, 3]))
 .skip))
 q1)))
def a_scanmake_Stream_ANeed : AFun := ⟨1, [.cell 2 (some 2)], P_scanmake_Stream_ANeed p_scanmake_Stream_ANeed_k1, false, false⟩
def d_scanmake_Stream_ANeed (C : Hd) (gl : Nat → Option PV) (q1 : ACode) (v0 : AV) (h : Heap) (x : Esc) (K : Ex → St → Prop) : Prop :=
 alK [.p (.int .i64 0), .p (.int .i64 0)] h fun t1 h2 y3 =>
 pK (oBuild [.p (.int .i64 0), .p (.int .i64 0)] [(0, 1, (.p (.int .i64 1))), (1, 1, (.p (.int .i64 1)))]) fun t4 =>
 pK (oBuild [.p (.int .i64 0), .p (.int .i64 0)] [(0, 1, (.p (.int .i64 4))), (1, 1, (.p (.int .i64 3)))]) fun t5 =>
 pK (oBuild [.p (.int .i64 0), .p (.int .i64 0)] [(0, 1, (.p (.int .i64 1))), (1, 1, (.p (.int .i64 2)))]) fun t6 =>
 pK (oBuild [.p (.int .i64 0), .p (.int .i64 0)] [(0, 1, (.p (.int .i64 0))), (1, 1, (.p (.int .i64 1)))]) fun t7 =>
 pK (oBuild [.p (.int .i64 0), .p (.int .i64 0)] [(0, 1, (.p (.int .i64 100))), (1, 1, (.p (.int .i64 1)))]) fun t8 =>
 pK (oBuild [.p (.int .i64 0), .p (.int .i64 0)] [(0, 1, (.p (.int .i64 1))), (1, 1, (.p (.int .i64 100)))]) fun t9 =>
 wK (oBsl false (some 2) 6 (.agg [.int .i64 0, .int .i64 0]) [(0, t4), (1, t5), (2, t6), (3, t7), (4, t8), (5, t9)] h2) fun t10 h11 y12 =>
 C f_scanmake_Stream_Next [v0, (.p (.int .i64 6))] h11 fun t13 h14 y15 =>
 pK (oIaddr (some 2) t10 t13 h14) fun t16 =>
 pK (oLoad (some 2) t16 h14) fun t17 =>
 alK [.p (.int .i64 0), .p (.int .i64 0)] h14 fun t18 h19 y20 =>
 wK (oStore (some 2) t18 t17 h19) fun t21 h22 y23 =>
 C f_scanmake_Stream_Flip [v0, (.p (.int .i64 12))] h22 fun t24 h25 y26 =>
 condB t24 (pK (oBuild [.p (.int .i64 0), .p (.int .i64 0)] [(0, 1, (.p (.int .i64 2))), (1, 1, (.p (.int .i64 2)))]) fun t27 =>
 pK (oBuild [.p (.int .i64 0), .p (.int .i64 0)] [(0, 1, (.p (.int .i64 (-1)))), (1, 1, (.p (.int .i64 1)))]) fun t28 =>
 pK (oBuild [.p (.int .i64 0), .p (.int .i64 0)] [(0, 1, (.p (.int .i64 1))), (1, 1, (.p (.int .i64 0)))]) fun t29 =>
 pK (oBuild [.p (.int .i64 0), .p (.int .i64 0)] [(0, 1, (.p (.int .i64 101))), (1, 1, (.p (.int .i64 1)))]) fun t30 =>
 pK (oBuild [.p (.int .i64 0), .p (.int .i64 0)] [(0, 1, (.p (.int .i64 1))), (1, 1, (.p (.int .i64 101)))]) fun t31 =>
 pK (oBuild [.p (.int .i64 0), .p (.int .i64 0)] [(0, 1, (.p (.int .i64 4611686018427387904))), (1, 1, (.p (.int .i64 1)))]) fun t32 =>
 wK (oBsl false (some 2) 6 (.agg [.int .i64 0, .int .i64 0]) [(0, t27), (1, t28), (2, t29), (3, t30), (4, t31), (5, t32)] h25) fun t33 h34 y35 =>
 C f_scanmake_Stream_Next [v0, (.p (.int .i64 6))] h34 fun t36 h37 y38 =>
 pK (oIaddr (some 2) t33 t36 h37) fun t39 =>
 pK (oLoad (some 2) t39 h37) fun t40 =>
 wK (oStore (some 2) t18 t40 h37) fun t41 h42 y43 =>
 NW C gl q1 ⟨[(2, t1), (3, t18)], h42, (y43 ++ (y38 ++ (y35 ++ (y26 ++ (y23 ++ (y20 ++ (y15 ++ (y12 ++ (y3 ++ x)))))))))⟩ K)
 (NW C gl q1 ⟨[(0, v0), (2, t1), (3, t18), (16, t24)], h25, (y26 ++ (y23 ++ (y20 ++ (y15 ++ (y12 ++ (y3 ++ x))))))⟩ K)
theorem E_scanmake_Stream_ANeed {C gl q1 v0 h x K} : NW C gl (P_scanmake_Stream_ANeed q1) ⟨enter [v0], h, x⟩ K = d_scanmake_Stream_ANeed C gl q1 v0 h x K := by kernel_rfl
theorem e_scanmake_Stream_ANeed {C gl v0 h x K} : NW C gl a_scanmake_Stream_ANeed.body ⟨enter [v0], h, x⟩ K = d_scanmake_Stream_ANeed C gl p_scanmake_Stream_ANeed_k1 v0 h x K := E_scanmake_Stream_ANeed
def P_scanmake_Stream_Odd : ACode := (.seq (.reg [
  ⟨some 6, none, .mv (.c (.p (.int .i64 0)))⟩] (some [0, 1, 2]))
 (.seq (.seq (.reg [
  ⟨some 7, none, .mv (.t 0)⟩,
  ⟨some 8, none, .call f_scanmake_Stream_Flip [(.t 7), (.c (.p (.int .i64 12)))]⟩] (some [0, 1, 2, 8]))
 (.cond (.t 8) (.seq (.reg [
  ⟨some 9, none, .mv (.t 0)⟩,
  ⟨some 10, none, .mv (.t 1)⟩,
  ⟨some 11, none, .bin .sub (.t 10) (.c (.p (.int .i64 1)))⟩,
  ⟨some 12, none, .mv (.t 2)⟩,
  ⟨some 13, none, .bin .add (.t 12) (.c (.p (.int .i64 1)))⟩,
  ⟨some 14, none, .mv (.t 1)⟩,
  ⟨some 15, none, .mv (.t 2)⟩,
  ⟨some 16, none, .bsl false none 6 (.int .i64 0) [(0, (.t 11)), (1, (.t 13)), (2, (.t 14)), (3, (.t 15)), (4, (.c (.p (.int .i64 (-1099511627776))))), (5, (.c (.p (.int .i64 1099511627776))))]⟩,
  ⟨some 17, none, .call f_scanmake_Stream_Pick [(.t 9), (.t 16)]⟩,
  ⟨some 6, none, .mv (.t 17)⟩] (some [6]))
 .ret)
 .skip))
 (.seq (.reg [
  ⟨some 18, none, .mv (.t 0)⟩,
  ⟨some 19, none, .mv (.t 1)⟩,
  ⟨some 20, none, .mv (.t 2)⟩,
  ⟨some 21, none, .call f_scanmake_Stream_Range [(.t 18), (.t 19), (.t 20)]⟩,
  ⟨some 6, none, .mv (.t 21)⟩] (some [6]))
 .ret)))
def a_scanmake_Stream_Odd : AFun := ⟨3, [.t 6], P_scanmake_Stream_Odd, false, false⟩
def d_scanmake_Stream_Odd (C : Hd) (gl : Nat → Option PV) (v0 v1 v2 : AV) (h : Heap) (x : Esc) (K : Ex → St → Prop) : Prop :=
 C f_scanmake_Stream_Flip [v0, (.p (.int .i64 12))] h fun t1 h2 y3 =>
 condB t1 (pK (oBin .sub v1 (.p (.int .i64 1))) fun t4 =>
 pK (oBin .add v2 (.p (.int .i64 1))) fun t5 =>
 wK (oBsl false none 6 (.int .i64 0) [(0, t4), (1, t5), (2, v1), (3, v2), (4, (.p (.int .i64 (-1099511627776)))), (5, (.p (.int .i64 1099511627776)))] h2) fun t6 h7 y8 =>
 C f_scanmake_Stream_Pick [v0, t6] h7 fun t9 h10 y11 =>
 K .ret ⟨[(6, t9)], h10, (y11 ++ (y8 ++ (y3 ++ x)))⟩)
 (C f_scanmake_Stream_Range [v0, v1, v2] h2 fun t12 h13 y14 =>
 K .ret ⟨[(6, t12)], h13, (y14 ++ (y3 ++ x))⟩)
theorem E_scanmake_Stream_Odd {C gl v0 v1 v2 h x K} : NW C gl (P_scanmake_Stream_Odd) ⟨enter [v0, v1, v2], h, x⟩ K = d_scanmake_Stream_Odd C gl v0 v1 v2 h x K := by kernel_rfl
theorem e_scanmake_Stream_Odd {C gl v0 v1 v2 h x K} : NW C gl a_scanmake_Stream_Odd.body ⟨enter [v0, v1, v2], h, x⟩ K = d_scanmake_Stream_Odd C gl v0 v1 v2 h x K := E_scanmake_Stream_Odd
def P_scanmake_Stream_Flip : ACode := (.seq (.reg [
  ⟨some 4, none, .mv (.c (.p (.bool false)))⟩] (some [0, 1]))
 (.seq (.reg [
  ⟨some 5, none, .mv (.t 0)⟩,
  ⟨some 6, none, .mv (.t 1)⟩,
  ⟨some 7, none, .call f_scanmake_Stream_Next [(.t 5), (.t 6)]⟩,
  ⟨some 8, none, .bin .eql (.t 7) (.c (.p (.int .i64 0)))⟩,
  ⟨some 4, none, .mv (.t 8)⟩] (some [4]))
 .ret))
def a_scanmake_Stream_Flip : AFun := ⟨2, [.t 4], P_scanmake_Stream_Flip, false, false⟩
def d_scanmake_Stream_Flip (C : Hd) (gl : Nat → Option PV) (v0 v1 : AV) (h : Heap) (x : Esc) (K : Ex → St → Prop) : Prop :=
 C f_scanmake_Stream_Next [v0, v1] h fun t1 h2 y3 =>
 pK (oBin .eql t1 (.p (.int .i64 0))) fun t4 =>
 K .ret ⟨[(4, t4)], h2, (y3 ++ x)⟩
theorem E_scanmake_Stream_Flip {C gl v0 v1 h x K} : NW C gl (P_scanmake_Stream_Flip) ⟨enter [v0, v1], h, x⟩ K = d_scanmake_Stream_Flip C gl v0 v1 h x K := by kernel_rfl
theorem e_scanmake_Stream_Flip {C gl v0 v1 h x K} : NW C gl a_scanmake_Stream_Flip.body ⟨enter [v0, v1], h, x⟩ K = d_scanmake_Stream_Flip C gl v0 v1 h x K := E_scanmake_Stream_Flip
def P_scanmake_Stream_Range : ACode := (.seq (.reg [
  ⟨some 6, none, .mv (.c (.p (.int .i64 0)))⟩] (some [0, 1, 2]))
 (.seq (.seq (.reg [
  ⟨some 7, none, .mv (.t 2)⟩,
  ⟨some 8, none, .mv (.t 1)⟩,
  ⟨some 9, none, .bin .lss (.t 7) (.t 8)⟩] (some [0, 1, 2, 9]))
 (.cond (.t 9) (.seq (.reg [
  ⟨some 10, none, .mv (.t 1)⟩,
  ⟨some 6, none, .mv (.t 10)⟩] (some [6]))
 .ret)
 .skip))
 (.seq (.reg [
  ⟨some 11, none, .mv (.t 1)⟩,
  ⟨some 12, none, .mv (.t 0)⟩,
  ⟨some 13, none, .mv (.t 2)⟩,
  ⟨some 14, none, .mv (.t 1)⟩,
  ⟨some 15, none, .bin .sub (.t 13) (.t 14)⟩,
  ⟨some 16, none, .bin .add (.t 15) (.c (.p (.int .i64 1)))⟩,
  ⟨some 17, none, .call f_scanmake_Stream_Next [(.t 12), (.t 16)]⟩,
  ⟨some 18, none, .bin .add (.t 11) (.t 17)⟩,
  ⟨some 6, none, .mv (.t 18)⟩] (some [6]))
 .ret)))
def a_scanmake_Stream_Range : AFun := ⟨3, [.t 6], P_scanmake_Stream_Range, false, false⟩
def d_scanmake_Stream_Range (C : Hd) (gl : Nat → Option PV) (v0 v1 v2 : AV) (h : Heap) (x : Esc) (K : Ex → St → Prop) : Prop :=
 pK (oBin .lss v2 v1) fun t1 =>
 condB t1 (K .ret ⟨[(6, v1)], h, x⟩)
 (pK (oBin .sub v2 v1) fun t2 =>
 pK (oBin .add t2 (.p (.int .i64 1))) fun t3 =>
 C f_scanmake_Stream_Next [v0, t3] h fun t4 h5 y6 =>
 pK (oBin .add v1 t4) fun t7 =>
 K .ret ⟨[(6, t7)], h5, (y6 ++ x)⟩)
theorem E_scanmake_Stream_Range {C gl v0 v1 v2 h x K} : NW C gl (P_scanmake_Stream_Range) ⟨enter [v0, v1, v2], h, x⟩ K = d_scanmake_Stream_Range C gl v0 v1 v2 h x K := by kernel_rfl
theorem e_scanmake_Stream_Range {C gl v0 v1 v2 h x K} : NW C gl a_scanmake_Stream_Range.body ⟨enter [v0, v1, v2], h, x⟩ K = d_scanmake_Stream_Range C gl v0 v1 v2 h x K := E_scanmake_Stream_Range
def P_lot_Spread : ACode := (.seq (.reg [
  ⟨some 2, none, .alloc [.p (.int .i64 0), .p (.int .i64 0)]⟩,
  ⟨some 3, none, .alloc [.p (.int .i64 0), .p (.int .i64 0)]⟩,
  ⟨some 4, none, .mv (.c (.p (.int .i64 0)))⟩] (some [0, 2, 3]))
 (.seq (.seq (.reg [
  ⟨some 9, none, .mv (.t 0)⟩,
  ⟨some 10, none, .call f_lot_valuesFault [(.t 9), (.c (.p (.int .i64 1)))]⟩,
  ⟨some 5, none, .mv (.t 10)⟩] (some [0, 2, 3, 5]))
 (.seq (.reg [
  ⟨some 11, none, .mv (.t 5)⟩,
  ⟨some 12, none, .bin .neq (.t 11) (.c (.p (.int .i64 0)))⟩] (some [0, 2, 3, 5, 12]))
 (.cond (.t 12) (.seq (.reg [
  ⟨some 13, none, .build [.p (.int .i64 0), .p (.int .i64 0)] []⟩,
  ⟨some 14, none, .build [.p (.int .i64 0), .p (.int .i64 0)] []⟩,
  ⟨some 15, none, .mv (.t 5)⟩,
  ⟨none, none, .store (some 2) (.t 2) (.t 13)⟩,
  ⟨none, none, .store (some 2) (.t 3) (.t 14)⟩,
  ⟨some 4, none, .mv (.t 15)⟩] (some [2, 3, 4]))
 .ret)
 .skip)))
 (.seq (.reg [
  ⟨some 17, none, .mv (.t 0)⟩,
  ⟨some 18, none, .call f_lot_sums [(.t 17)]⟩,
  ⟨some 16, none, .mv (.t 18)⟩,
  ⟨some 19, none, .ext (.t 16) 0⟩,
  ⟨some 20, none, .ext (.t 16) 1⟩,
  ⟨some 6, none, .mv (.t 19)⟩,
  ⟨some 7, none, .mv (.t 20)⟩] (some [0, 2, 3, 6, 7]))
 (.seq (.reg [
  ⟨some 21, none, .mv (.t 0)⟩,
  ⟨some 22, none, .len (.t 21)⟩,
  ⟨some 8, none, .mv (.t 22)⟩] (some [2, 3, 6, 7, 8]))
 (.seq (.reg [
  ⟨some 23, none, .mv (.t 6)⟩,
  ⟨some 24, none, .mv (.t 8)⟩,
  ⟨some 25, none, .call f_base_Fraction [(.t 23), (.t 24)]⟩,
  ⟨some 26, none, .mv (.t 7)⟩,
  ⟨some 27, none, .mv (.t 8)⟩,
  ⟨some 28, none, .mv (.t 8)⟩,
  ⟨some 29, none, .bin .mul (.t 27) (.t 28)⟩,
  ⟨some 30, none, .call f_base_Fraction [(.t 26), (.t 29)]⟩,
  ⟨none, none, .store (some 2) (.t 2) (.t 25)⟩,
  ⟨none, none, .store (some 2) (.t 3) (.t 30)⟩,
  ⟨some 4, none, .mv (.c (.p (.int .i64 0)))⟩] (some [2, 3, 4]))
 .ret)))))
def a_lot_Spread : AFun := ⟨1, [.cell 2 (some 2), .cell 3 (some 2), .t 4], P_lot_Spread, false, false⟩
def d_lot_Spread (C : Hd) (gl : Nat → Option PV) (v0 : AV) (h : Heap) (x : Esc) (K : Ex → St → Prop) : Prop :=
 alK [.p (.int .i64 0), .p (.int .i64 0)] h fun t1 h2 y3 =>
 alK [.p (.int .i64 0), .p (.int .i64 0)] h2 fun t4 h5 y6 =>
 C f_lot_valuesFault [v0, (.p (.int .i64 1))] h5 fun t7 h8 y9 =>
 pK (oBin .neq t7 (.p (.int .i64 0))) fun t10 =>
 condB t10 (pK (oBuild [.p (.int .i64 0), .p (.int .i64 0)] []) fun t11 =>
 pK (oBuild [.p (.int .i64 0), .p (.int .i64 0)] []) fun t12 =>
 wK (oStore (some 2) t1 t11 h8) fun t13 h14 y15 =>
 wK (oStore (some 2) t4 t12 h14) fun t16 h17 y18 =>
 K .ret ⟨[(2, t1), (3, t4), (4, t7)], h17, (y18 ++ (y15 ++ (y9 ++ (y6 ++ (y3 ++ x)))))⟩)
 (C f_lot_sums [v0] h8 fun t19 h20 y21 =>
 pK (oExt t19 0) fun t22 =>
 pK (oExt t19 1) fun t23 =>
 pK (oLen v0) fun t24 =>
 C f_base_Fraction [t22, t24] h20 fun t25 h26 y27 =>
 pK (oBin .mul t24 t24) fun t28 =>
 C f_base_Fraction [t23, t28] h26 fun t29 h30 y31 =>
 wK (oStore (some 2) t1 t25 h30) fun t32 h33 y34 =>
 wK (oStore (some 2) t4 t29 h33) fun t35 h36 y37 =>
 K .ret ⟨[(2, t1), (3, t4), (4, (.p (.int .i64 0)))], h36, (y37 ++ (y34 ++ (y31 ++ (y27 ++ (y21 ++ (y9 ++ (y6 ++ (y3 ++ x))))))))⟩)
theorem E_lot_Spread {C gl v0 h x K} : NW C gl (P_lot_Spread) ⟨enter [v0], h, x⟩ K = d_lot_Spread C gl v0 h x K := by kernel_rfl
theorem e_lot_Spread {C gl v0 h x K} : NW C gl a_lot_Spread.body ⟨enter [v0], h, x⟩ K = d_lot_Spread C gl v0 h x K := E_lot_Spread
def p_lot_Able_k1 : ACode := .pr [7, 12, 69, 70, 71] (.seq (.reg [
  ⟨some 72, none, .bin .lss (.t 71) (.t 70)⟩] (some [7, 12, 69, 70, 71, 72]))
 (.seq (.cond (.t 72) .skip
 (.exit 1))
 (.seq (.block 2 (.seq (.reg [
  ⟨some 73, none, .iaddr none (.t 69) (.t 71)⟩,
  ⟨some 74, none, .load none (.t 73)⟩,
  ⟨some 15, none, .mv (.t 74)⟩] (some [7, 12, 15, 69, 70, 71]))
 (.seq (.reg [
  ⟨some 75, none, .mv (.t 15)⟩,
  ⟨some 76, none, .bin .lss (.t 75) (.c (.p (.int .i64 0)))⟩,
  ⟨some 77, none, .mv (.t 76)⟩,
  ⟨some 78, (some (77, false)), .mv (.t 15)⟩,
  ⟨some 79, (some (77, false)), .mv (.t 15)⟩,
  ⟨some 80, (some (77, false)), .bin .mul (.t 78) (.t 79)⟩,
  ⟨some 81, (some (77, false)), .faddr 1 none (.t 7)⟩,
  ⟨some 82, (some (77, false)), .load none (.t 81)⟩,
  ⟨some 83, (some (77, false)), .faddr 1 none (.t 7)⟩,
  ⟨some 84, (some (77, false)), .load none (.t 83)⟩,
  ⟨some 85, (some (77, false)), .bin .mul (.t 82) (.t 84)⟩,
  ⟨some 86, (some (77, false)), .faddr 0 none (.t 7)⟩,
  ⟨some 87, (some (77, false)), .load none (.t 86)⟩,
  ⟨some 88, (some (77, false)), .bin .mul (.c (.p (.int .i64 9))) (.t 87)⟩,
  ⟨some 89, (some (77, false)), .faddr 0 none (.t 7)⟩,
  ⟨some 90, (some (77, false)), .load none (.t 89)⟩,
  ⟨some 91, (some (77, false)), .bin .mul (.t 88) (.t 90)⟩,
  ⟨some 92, (some (77, false)), .mv (.t 12)⟩,
  ⟨some 93, (some (77, false)), .call f_base_CompareProducts [(.t 80), (.t 85), (.t 91), (.t 92)]⟩,
  ⟨some 94, (some (77, false)), .bin .lss (.t 93) (.c (.p (.int .i64 0)))⟩,
  ⟨some 95, none, .pick (.t 77) (.c (.p (.bool true))) (.t 94)⟩] (some [7, 12, 69, 70, 71, 95]))
 (.cond (.t 95) (.seq (.reg [
  ⟨some 8, none, .mv (.c (.p (.bool false)))⟩,
  ⟨some 9, none, .mv (.c (.p (.int .i64 0)))⟩] (some [8, 9]))
 .ret)
 .skip))))
 (.reg [
  ⟨some 96, none, .bin .add (.t 71) (.c (.p (.int .i64 1)))⟩,
  ⟨some 71, none, .mv (.t 96)⟩] (some [7, 12, 69, 70, 71])))))
def d_lot_Able_k1 (C : Hd) (gl : Nat → Option PV) (v7 v12 v69 v70 v71 : AV) (h : Heap) (x : Esc) (K : Ex → St → Prop) : Prop :=
 pK (oBin .lss v71 v70) fun t1 =>
 condB t1 (pK (oIaddr none v69 v71 h) fun t2 =>
 pK (oLoad none t2 h) fun t3 =>
 pK (oBin .lss t3 (.p (.int .i64 0))) fun t4 =>
 gM t4 false t3 h fun t5 h6 y7 =>
 gM t4 false t3 h6 fun t8 h9 y10 =>
 gP t4 false (oBin .mul t5 t8) h9 fun t11 h12 y13 =>
 gP t4 false (oFaddr 1 none v7) h12 fun t14 h15 y16 =>
 gP t4 false (oLoad none t14 h15) h15 fun t17 h18 y19 =>
 gP t4 false (oFaddr 1 none v7) h18 fun t20 h21 y22 =>
 gP t4 false (oLoad none t20 h21) h21 fun t23 h24 y25 =>
 gP t4 false (oBin .mul t17 t23) h24 fun t26 h27 y28 =>
 gP t4 false (oFaddr 0 none v7) h27 fun t29 h30 y31 =>
 gP t4 false (oLoad none t29 h30) h30 fun t32 h33 y34 =>
 gP t4 false (oBin .mul (.p (.int .i64 9)) t32) h33 fun t35 h36 y37 =>
 gP t4 false (oFaddr 0 none v7) h36 fun t38 h39 y40 =>
 gP t4 false (oLoad none t38 h39) h39 fun t41 h42 y43 =>
 gP t4 false (oBin .mul t35 t41) h42 fun t44 h45 y46 =>
 gM t4 false v12 h45 fun t47 h48 y49 =>
 gV t4 false h48 (C f_base_CompareProducts [t11, t26, t44, t47] h48) fun t50 h51 y52 =>
 gP t4 false (oBin .lss t50 (.p (.int .i64 0))) h51 fun t53 h54 y55 =>
 pK (oPick t4 (.p (.bool true)) t53) fun t56 =>
 condB t56 (K .ret ⟨[(8, (.p (.bool false))), (9, (.p (.int .i64 0)))], h54, (y55 ++ (y52 ++ (y49 ++ (y46 ++ (y43 ++ (y40 ++ (y37 ++ (y34 ++ (y31 ++ (y28 ++ (y25 ++ (y22 ++ (y19 ++ (y16 ++ (y13 ++ (y10 ++ (y7 ++ x)))))))))))))))))⟩)
 (pK (oBin .add v71 (.p (.int .i64 1))) fun t57 =>
 K .normal ⟨[(7, v7), (12, v12), (69, v69), (70, v70), (71, t57)], h54, (y55 ++ (y52 ++ (y49 ++ (y46 ++ (y43 ++ (y40 ++ (y37 ++ (y34 ++ (y31 ++ (y28 ++ (y25 ++ (y22 ++ (y19 ++ (y16 ++ (y13 ++ (y10 ++ (y7 ++ x)))))))))))))))))⟩))
 (K (.exit 1) ⟨[(7, v7), (12, v12), (69, v69), (70, v70), (71, v71), (72, t1)], h, x⟩)
theorem e_lot_Able_k1 {C gl e h x K} : NW C gl p_lot_Able_k1 ⟨e, h, x⟩ K = d_lot_Able_k1 C gl (aget e 7) (aget e 12) (aget e 69) (aget e 70) (aget e 71) h x K := by kernel_rfl
theorem l_lot_Able_k1 {C gl e h x K} : NW C gl (.loop p_lot_Able_k1) ⟨e, h, x⟩ K = NLoop C gl p_lot_Able_k1 K [(7, aget e 7), (12, aget e 12), (69, aget e 69), (70, aget e 70), (71, aget e 71)] h x := NLoop_pr
def p_lot_Able_k2 : ACode := .pr [] (.seq (.reg [
  ⟨some 8, none, .mv (.c (.p (.bool true)))⟩,
  ⟨some 9, none, .mv (.c (.p (.int .i64 0)))⟩] (some [8, 9]))
 .ret)
def d_lot_Able_k2 (C : Hd) (gl : Nat → Option PV) (h : Heap) (x : Esc) (K : Ex → St → Prop) : Prop :=
 K .ret ⟨[(8, (.p (.bool true))), (9, (.p (.int .i64 0)))], h, x⟩
theorem e_lot_Able_k2 {C gl e h x K} : NW C gl p_lot_Able_k2 ⟨e, h, x⟩ K = d_lot_Able_k2 C gl h x K := by kernel_rfl
def P_lot_Able (q1 q2 : ACode) : ACode := (.seq (.reg [
  ⟨some 7, none, .box (.t 3)⟩,
  ⟨some 8, none, .mv (.c (.p (.bool false)))⟩,
  ⟨some 9, none, .mv (.c (.p (.int .i64 0)))⟩] (some [0, 1, 2, 7]))
 (.seq (.seq (.reg [
  ⟨some 16, none, .mv (.t 0)⟩,
  ⟨some 17, none, .call f_lot_valuesFault [(.t 16), (.c (.p (.int .i64 1)))]⟩,
  ⟨some 10, none, .mv (.t 17)⟩] (some [0, 1, 2, 7, 10]))
 (.seq (.reg [
  ⟨some 18, none, .mv (.t 10)⟩,
  ⟨some 19, none, .bin .neq (.t 18) (.c (.p (.int .i64 0)))⟩] (some [0, 1, 2, 7, 10, 19]))
 (.cond (.t 19) (.seq (.reg [
  ⟨some 20, none, .mv (.t 10)⟩,
  ⟨some 8, none, .mv (.c (.p (.bool false)))⟩,
  ⟨some 9, none, .mv (.t 20)⟩] (some [8, 9]))
 .ret)
 .skip)))
 (.seq (.block 0 (.seq (.reg [
  ⟨some 22, none, .mv (.t 1)⟩,
  ⟨some 23, none, .mv (.t 2)⟩,
  ⟨some 24, none, .call f_base_Out [(.t 22), (.c (.p (.int .i64 (-100000)))), (.t 23)]⟩,
  ⟨some 25, none, .mv (.t 24)⟩,
  ⟨some 26, (some (25, false)), .mv (.t 2)⟩,
  ⟨some 27, (some (25, false)), .bin .gtr (.t 26) (.c (.p (.int .i64 100000)))⟩,
  ⟨some 28, none, .pick (.t 25) (.c (.p (.bool true))) (.t 27)⟩,
  ⟨some 21, none, .mv (.t 28)⟩] (some [0, 1, 2, 7, 21]))
 (.cond (.t 21) (.seq (.reg [
  ⟨some 8, none, .mv (.c (.p (.bool false)))⟩,
  ⟨some 9, none, .mv (.c (.p (.int .i64 1)))⟩] (some [8, 9]))
 .ret)
 (.seq (.reg [
  ⟨some 30, none, .faddr 0 none (.t 7)⟩,
  ⟨some 31, none, .load none (.t 30)⟩,
  ⟨some 32, none, .bin .lss (.t 31) (.c (.p (.int .i64 0)))⟩,
  ⟨some 33, none, .mv (.t 32)⟩,
  ⟨some 34, (some (33, false)), .faddr 1 none (.t 7)⟩,
  ⟨some 35, (some (33, false)), .load none (.t 34)⟩,
  ⟨some 36, (some (33, false)), .bin .lss (.t 35) (.c (.p (.int .i64 1)))⟩,
  ⟨some 37, none, .pick (.t 33) (.c (.p (.bool true))) (.t 36)⟩,
  ⟨some 38, none, .mv (.t 37)⟩,
  ⟨some 39, (some (38, false)), .load (some 2) (.t 7)⟩,
  ⟨some 40, (some (38, false)), .call f_base_Lowest [(.t 39)]⟩,
  ⟨some 41, (some (38, false)), .un .not (.t 40)⟩,
  ⟨some 42, none, .pick (.t 38) (.c (.p (.bool true))) (.t 41)⟩,
  ⟨some 29, none, .mv (.t 42)⟩] (some [0, 1, 2, 7, 29]))
 (.cond (.t 29) (.seq (.reg [
  ⟨some 8, none, .mv (.c (.p (.bool false)))⟩,
  ⟨some 9, none, .mv (.c (.p (.int .i64 3)))⟩] (some [8, 9]))
 .ret)
 (.seq (.reg [
  ⟨some 44, none, .faddr 0 none (.t 7)⟩,
  ⟨some 45, none, .load none (.t 44)⟩,
  ⟨some 46, none, .bin .gtr (.t 45) (.c (.p (.int .i64 100)))⟩,
  ⟨some 47, none, .mv (.t 46)⟩,
  ⟨some 48, (some (47, false)), .faddr 1 none (.t 7)⟩,
  ⟨some 49, (some (47, false)), .load none (.t 48)⟩,
  ⟨some 50, (some (47, false)), .bin .gtr (.t 49) (.c (.p (.int .i64 100)))⟩,
  ⟨some 51, none, .pick (.t 47) (.c (.p (.bool true))) (.t 50)⟩,
  ⟨some 43, none, .mv (.t 51)⟩] (some [0, 1, 2, 7, 43]))
 (.cond (.t 43) (.seq (.reg [
  ⟨some 8, none, .mv (.c (.p (.bool false)))⟩,
  ⟨some 9, none, .mv (.c (.p (.int .i64 1)))⟩] (some [8, 9]))
 .ret)
 .skip)))))))
 (.seq (.reg [
  ⟨some 53, none, .mv (.t 0)⟩,
  ⟨some 54, none, .call f_lot_sums [(.t 53)]⟩,
  ⟨some 52, none, .mv (.t 54)⟩,
  ⟨some 55, none, .ext (.t 52) 0⟩,
  ⟨some 56, none, .ext (.t 52) 1⟩,
  ⟨some 11, none, .mv (.t 55)⟩,
  ⟨some 12, none, .mv (.t 56)⟩] (some [0, 1, 2, 7, 11, 12]))
 (.seq (.reg [
  ⟨some 57, none, .mv (.t 0)⟩,
  ⟨some 58, none, .len (.t 57)⟩,
  ⟨some 13, none, .mv (.t 58)⟩] (some [1, 2, 7, 11, 12, 13]))
 (.seq (.seq (.reg [
  ⟨some 59, none, .mv (.t 11)⟩,
  ⟨some 60, none, .mv (.t 13)⟩,
  ⟨some 61, none, .mv (.t 1)⟩,
  ⟨some 62, none, .bin .mul (.t 60) (.t 61)⟩,
  ⟨some 63, none, .bin .sub (.t 59) (.t 62)⟩,
  ⟨some 64, none, .mv (.t 13)⟩,
  ⟨some 65, none, .mv (.t 2)⟩,
  ⟨some 66, none, .bin .mul (.t 64) (.t 65)⟩,
  ⟨some 67, none, .mv (.t 11)⟩,
  ⟨some 68, none, .bin .sub (.t 66) (.t 67)⟩,
  ⟨some 69, none, .bsl false none 2 (.int .i64 0) [(0, (.t 63)), (1, (.t 68))]⟩,
  ⟨some 70, none, .len (.t 69)⟩,
  ⟨some 71, none, .mv (.c (.p (.int .i64 0)))⟩] (some [7, 12, 69, 70, 71]))
 (.block 1 (.loop q1)))
 q2))))))
def a_lot_Able : AFun := ⟨4, [.t 8, .t 9], P_lot_Able p_lot_Able_k1 p_lot_Able_k2, false, false⟩
def d_lot_Able (C : Hd) (gl : Nat → Option PV) (q1 q2 : ACode) (v0 v1 v2 v3 : AV) (h : Heap) (x : Esc) (K : Ex → St → Prop) : Prop :=
 wK (oBox v3 h) fun t1 h2 y3 =>
 C f_lot_valuesFault [v0, (.p (.int .i64 1))] h2 fun t4 h5 y6 =>
 pK (oBin .neq t4 (.p (.int .i64 0))) fun t7 =>
 condB t7 (K .ret ⟨[(8, (.p (.bool false))), (9, t4)], h5, (y6 ++ (y3 ++ x))⟩)
 (C f_base_Out [v1, (.p (.int .i64 (-100000))), v2] h5 fun t8 h9 y10 =>
 gM t8 false v2 h9 fun t11 h12 y13 =>
 gP t8 false (oBin .gtr t11 (.p (.int .i64 100000))) h12 fun t14 h15 y16 =>
 pK (oPick t8 (.p (.bool true)) t14) fun t17 =>
 condB t17 (K .ret ⟨[(8, (.p (.bool false))), (9, (.p (.int .i64 1)))], h15, (y16 ++ (y13 ++ (y10 ++ (y6 ++ (y3 ++ x)))))⟩)
 (pK (oFaddr 0 none t1) fun t18 =>
 pK (oLoad none t18 h15) fun t19 =>
 pK (oBin .lss t19 (.p (.int .i64 0))) fun t20 =>
 gP t20 false (oFaddr 1 none t1) h15 fun t21 h22 y23 =>
 gP t20 false (oLoad none t21 h22) h22 fun t24 h25 y26 =>
 gP t20 false (oBin .lss t24 (.p (.int .i64 1))) h25 fun t27 h28 y29 =>
 pK (oPick t20 (.p (.bool true)) t27) fun t30 =>
 gP t30 false (oLoad (some 2) t1 h28) h28 fun t31 h32 y33 =>
 gV t30 false h32 (C f_base_Lowest [t31] h32) fun t34 h35 y36 =>
 gP t30 false (oUn .not t34) h35 fun t37 h38 y39 =>
 pK (oPick t30 (.p (.bool true)) t37) fun t40 =>
 condB t40 (K .ret ⟨[(8, (.p (.bool false))), (9, (.p (.int .i64 3)))], h38, (y39 ++ (y36 ++ (y33 ++ (y29 ++ (y26 ++ (y23 ++ (y16 ++ (y13 ++ (y10 ++ (y6 ++ (y3 ++ x)))))))))))⟩)
 (pK (oFaddr 0 none t1) fun t41 =>
 pK (oLoad none t41 h38) fun t42 =>
 pK (oBin .gtr t42 (.p (.int .i64 100))) fun t43 =>
 gP t43 false (oFaddr 1 none t1) h38 fun t44 h45 y46 =>
 gP t43 false (oLoad none t44 h45) h45 fun t47 h48 y49 =>
 gP t43 false (oBin .gtr t47 (.p (.int .i64 100))) h48 fun t50 h51 y52 =>
 pK (oPick t43 (.p (.bool true)) t50) fun t53 =>
 condB t53 (K .ret ⟨[(8, (.p (.bool false))), (9, (.p (.int .i64 1)))], h51, (y52 ++ (y49 ++ (y46 ++ (y39 ++ (y36 ++ (y33 ++ (y29 ++ (y26 ++ (y23 ++ (y16 ++ (y13 ++ (y10 ++ (y6 ++ (y3 ++ x))))))))))))))⟩)
 (C f_lot_sums [v0] h51 fun t54 h55 y56 =>
 pK (oExt t54 0) fun t57 =>
 pK (oExt t54 1) fun t58 =>
 pK (oLen v0) fun t59 =>
 pK (oBin .mul t59 v1) fun t60 =>
 pK (oBin .sub t57 t60) fun t61 =>
 pK (oBin .mul t59 v2) fun t62 =>
 pK (oBin .sub t62 t57) fun t63 =>
 wK (oBsl false none 2 (.int .i64 0) [(0, t61), (1, t63)] h55) fun t64 h65 y66 =>
 pK (oLen t64) fun t67 =>
 NW C gl (.loop q1) ⟨[(7, t1), (12, t58), (69, t64), (70, t67), (71, (.p (.int .i64 0)))], h65, (y66 ++ (y56 ++ (y52 ++ (y49 ++ (y46 ++ (y39 ++ (y36 ++ (y33 ++ (y29 ++ (y26 ++ (y23 ++ (y16 ++ (y13 ++ (y10 ++ (y6 ++ (y3 ++ x))))))))))))))))⟩ (blockN 1 (seqN C gl q2 K))))))
theorem E_lot_Able {C gl q1 q2 v0 v1 v2 v3 h x K} : NW C gl (P_lot_Able q1 q2) ⟨enter [v0, v1, v2, v3], h, x⟩ K = d_lot_Able C gl q1 q2 v0 v1 v2 v3 h x K := by kernel_rfl
theorem e_lot_Able {C gl v0 v1 v2 v3 h x K} : NW C gl a_lot_Able.body ⟨enter [v0, v1, v2, v3], h, x⟩ K = d_lot_Able C gl p_lot_Able_k1 p_lot_Able_k2 v0 v1 v2 v3 h x K := E_lot_Able
def P_lot_Chart : ACode := (.seq (.reg [
  ⟨some 4, none, .alloc [.p (.int .i64 0), .p (.int .i64 0), .p (.int .i64 0), .p (.int .i64 0), .p (.int .i64 0), .p (.int .i64 0), .p (.int .i64 0), .p (.int .i64 0)]⟩,
  ⟨some 5, none, .mv (.c (.p (.int .i64 0)))⟩] (some [0, 1, 4]))
 (.seq (.seq (.reg [
  ⟨some 7, none, .mv (.t 0)⟩,
  ⟨some 8, none, .mv (.t 1)⟩,
  ⟨some 9, none, .call f_lot_chartFault [(.t 7), (.t 8)]⟩,
  ⟨some 6, none, .mv (.t 9)⟩] (some [0, 1, 4, 6]))
 (.seq (.reg [
  ⟨some 10, none, .mv (.t 6)⟩,
  ⟨some 11, none, .bin .neq (.t 10) (.c (.p (.int .i64 0)))⟩] (some [0, 1, 4, 6, 11]))
 (.cond (.t 11) (.seq (.reg [
  ⟨some 12, none, .build [.p (.int .i64 0), .p (.int .i64 0), .p (.int .i64 0), .p (.int .i64 0), .p (.int .i64 0), .p (.int .i64 0), .p (.int .i64 0), .p (.int .i64 0)] []⟩,
  ⟨some 13, none, .mv (.t 6)⟩,
  ⟨none, none, .store (some 8) (.t 4) (.t 12)⟩,
  ⟨some 5, none, .mv (.t 13)⟩] (some [4, 5]))
 .ret)
 .skip)))
 (.seq (.reg [
  ⟨some 14, none, .mv (.t 0)⟩,
  ⟨some 15, none, .mv (.t 1)⟩,
  ⟨some 16, none, .call f_lot_chart [(.t 14), (.t 15)]⟩,
  ⟨none, none, .store (some 8) (.t 4) (.t 16)⟩,
  ⟨some 5, none, .mv (.c (.p (.int .i64 0)))⟩] (some [4, 5]))
 .ret)))
def a_lot_Chart : AFun := ⟨2, [.cell 4 (some 8), .t 5], P_lot_Chart, false, false⟩
def d_lot_Chart (C : Hd) (gl : Nat → Option PV) (v0 v1 : AV) (h : Heap) (x : Esc) (K : Ex → St → Prop) : Prop :=
 alK [.p (.int .i64 0), .p (.int .i64 0), .p (.int .i64 0), .p (.int .i64 0), .p (.int .i64 0), .p (.int .i64 0), .p (.int .i64 0), .p (.int .i64 0)] h fun t1 h2 y3 =>
 C f_lot_chartFault [v0, v1] h2 fun t4 h5 y6 =>
 pK (oBin .neq t4 (.p (.int .i64 0))) fun t7 =>
 condB t7 (pK (oBuild [.p (.int .i64 0), .p (.int .i64 0), .p (.int .i64 0), .p (.int .i64 0), .p (.int .i64 0), .p (.int .i64 0), .p (.int .i64 0), .p (.int .i64 0)] []) fun t8 =>
 wK (oStore (some 8) t1 t8 h5) fun t9 h10 y11 =>
 K .ret ⟨[(4, t1), (5, t4)], h10, (y11 ++ (y6 ++ (y3 ++ x)))⟩)
 (C f_lot_chart [v0, v1] h5 fun t12 h13 y14 =>
 wK (oStore (some 8) t1 t12 h13) fun t15 h16 y17 =>
 K .ret ⟨[(4, t1), (5, (.p (.int .i64 0)))], h16, (y17 ++ (y14 ++ (y6 ++ (y3 ++ x))))⟩)
theorem E_lot_Chart {C gl v0 v1 h x K} : NW C gl (P_lot_Chart) ⟨enter [v0, v1], h, x⟩ K = d_lot_Chart C gl v0 v1 h x K := by kernel_rfl
theorem e_lot_Chart {C gl v0 v1 h x K} : NW C gl a_lot_Chart.body ⟨enter [v0, v1], h, x⟩ K = d_lot_Chart C gl v0 v1 h x K := E_lot_Chart
def p_lot_Signals_k1 : ACode := .pr [1, 7, 10, 11, 12, 13, 15, 32, 33, 34] (.seq (.reg [
  ⟨some 50, none, .mv (.t 11)⟩,
  ⟨some 51, none, .bin .add (.t 50) (.c (.p (.int .i64 1)))⟩,
  ⟨some 11, none, .mv (.t 51)⟩] (some [1, 7, 10, 11, 12, 13, 15, 32, 33, 34]))
 (.seq (.reg [
  ⟨some 52, none, .load (some 2) (.t 15)⟩,
  ⟨some 53, none, .faddr 4 (some 2) (.t 7)⟩,
  ⟨some 54, none, .load (some 2) (.t 53)⟩,
  ⟨some 55, none, .call f_base_Compare [(.t 52), (.t 54)]⟩,
  ⟨some 56, none, .bin .lss (.t 55) (.c (.p (.int .i64 0)))⟩,
  ⟨some 57, none, .mv (.t 56)⟩,
  ⟨some 58, (some (57, false)), .load (some 2) (.t 15)⟩,
  ⟨some 59, (some (57, false)), .faddr 6 (some 2) (.t 7)⟩,
  ⟨some 60, (some (57, false)), .load (some 2) (.t 59)⟩,
  ⟨some 61, (some (57, false)), .call f_base_Compare [(.t 58), (.t 60)]⟩,
  ⟨some 62, (some (57, false)), .bin .gtr (.t 61) (.c (.p (.int .i64 0)))⟩,
  ⟨some 63, none, .pick (.t 57) (.c (.p (.bool true))) (.t 62)⟩,
  ⟨some 64, none, .mv (.t 63)⟩,
  ⟨some 65, (some (64, false)), .mv (.t 10)⟩,
  ⟨some 66, (some (64, false)), .bin .neq (.t 65) (.c (.p (.int .i64 0)))⟩,
  ⟨some 67, (some (64, false)), .mv (.t 66)⟩,
  ⟨some 68, (some (67, true)), .mv (.t 11)⟩,
  ⟨some 69, (some (67, true)), .bin .geq (.t 68) (.c (.p (.int .i64 8)))⟩,
  ⟨some 70, (some (64, false)), .pick (.t 67) (.t 69) (.c (.p (.bool false)))⟩,
  ⟨some 71, none, .pick (.t 64) (.c (.p (.bool true))) (.t 70)⟩] (some [1, 7, 10, 11, 12, 13, 32, 33, 34, 71]))
 (.cond (.t 71) (.reg [
  ⟨some 72, none, .mv (.t 12)⟩,
  ⟨some 73, none, .mv (.t 13)⟩,
  ⟨some 74, none, .bsl false none 1 (.int .i64 0) [(0, (.t 73))]⟩,
  ⟨some 75, none, .app none (.t 72) (.t 74)⟩,
  ⟨some 12, none, .mv (.t 75)⟩] (some [1, 7, 10, 11, 12, 32, 33, 34]))
 .skip)))
def d_lot_Signals_k1 (C : Hd) (gl : Nat → Option PV) (v1 v7 v10 v11 v12 v13 v15 v32 v33 v34 : AV) (h : Heap) (x : Esc) (K : Ex → St → Prop) : Prop :=
 pK (oBin .add v11 (.p (.int .i64 1))) fun t1 =>
 pK (oLoad (some 2) v15 h) fun t2 =>
 pK (oFaddr 4 (some 2) v7) fun t3 =>
 pK (oLoad (some 2) t3 h) fun t4 =>
 C f_base_Compare [t2, t4] h fun t5 h6 y7 =>
 pK (oBin .lss t5 (.p (.int .i64 0))) fun t8 =>
 gP t8 false (oLoad (some 2) v15 h6) h6 fun t9 h10 y11 =>
 gP t8 false (oFaddr 6 (some 2) v7) h10 fun t12 h13 y14 =>
 gP t8 false (oLoad (some 2) t12 h13) h13 fun t15 h16 y17 =>
 gV t8 false h16 (C f_base_Compare [t9, t15] h16) fun t18 h19 y20 =>
 gP t8 false (oBin .gtr t18 (.p (.int .i64 0))) h19 fun t21 h22 y23 =>
 pK (oPick t8 (.p (.bool true)) t21) fun t24 =>
 gM t24 false v10 h22 fun t25 h26 y27 =>
 gP t24 false (oBin .neq t25 (.p (.int .i64 0))) h26 fun t28 h29 y30 =>
 gM t24 false t28 h29 fun t31 h32 y33 =>
 gM t31 true t1 h32 fun t34 h35 y36 =>
 gP t31 true (oBin .geq t34 (.p (.int .i64 8))) h35 fun t37 h38 y39 =>
 gP t24 false (oPick t31 t37 (.p (.bool false))) h38 fun t40 h41 y42 =>
 pK (oPick t24 (.p (.bool true)) t40) fun t43 =>
 condB t43 (wK (oBsl false none 1 (.int .i64 0) [(0, v13)] h41) fun t44 h45 y46 =>
 wK (oApp none v12 t44 h45) fun t47 h48 y49 =>
 K .normal ⟨[(1, v1), (7, v7), (10, v10), (11, t1), (12, t47), (32, v32), (33, v33), (34, v34)], h48, (y49 ++ (y46 ++ (y42 ++ (y39 ++ (y36 ++ (y33 ++ (y30 ++ (y27 ++ (y23 ++ (y20 ++ (y17 ++ (y14 ++ (y11 ++ (y7 ++ x))))))))))))))⟩)
 (K .normal ⟨[(1, v1), (7, v7), (10, v10), (11, t1), (12, v12), (13, v13), (32, v32), (33, v33), (34, v34), (71, t43)], h41, (y42 ++ (y39 ++ (y36 ++ (y33 ++ (y30 ++ (y27 ++ (y23 ++ (y20 ++ (y17 ++ (y14 ++ (y11 ++ (y7 ++ x))))))))))))⟩)
theorem e_lot_Signals_k1 {C gl e h x K} : NW C gl p_lot_Signals_k1 ⟨e, h, x⟩ K = d_lot_Signals_k1 C gl (aget e 1) (aget e 7) (aget e 10) (aget e 11) (aget e 12) (aget e 13) (aget e 15) (aget e 32) (aget e 33) (aget e 34) h x K := by kernel_rfl
def p_lot_Signals_k2 : ACode := .pr [1, 7, 10, 11, 12, 32, 33, 34] (.reg [
  ⟨some 76, none, .bin .add (.t 34) (.c (.p (.int .i64 1)))⟩,
  ⟨some 34, none, .mv (.t 76)⟩] (some [1, 7, 10, 11, 12, 32, 33, 34]))
def d_lot_Signals_k2 (C : Hd) (gl : Nat → Option PV) (v1 v7 v10 v11 v12 v32 v33 v34 : AV) (h : Heap) (x : Esc) (K : Ex → St → Prop) : Prop :=
 pK (oBin .add v34 (.p (.int .i64 1))) fun t1 =>
 K .normal ⟨[(1, v1), (7, v7), (10, v10), (11, v11), (12, v12), (32, v32), (33, v33), (34, t1)], h, x⟩
theorem e_lot_Signals_k2 {C gl e h x K} : NW C gl p_lot_Signals_k2 ⟨e, h, x⟩ K = d_lot_Signals_k2 C gl (aget e 1) (aget e 7) (aget e 10) (aget e 11) (aget e 12) (aget e 32) (aget e 33) (aget e 34) h x K := by kernel_rfl
def P_lot_Signals_k3 (q1 q2 : ACode) : ACode := .pr [1, 7, 10, 11, 12, 32, 33, 34] (.seq (.reg [
  ⟨some 35, none, .bin .lss (.t 34) (.t 33)⟩] (some [1, 7, 10, 11, 12, 32, 33, 34, 35]))
 (.seq (.cond (.t 35) .skip
 (.exit 0))
 (.seq (.block 1 (.seq (.reg [
  ⟨some 36, none, .mv (.t 34)⟩,
  ⟨some 37, none, .iaddr none (.t 32) (.t 34)⟩,
  ⟨some 38, none, .load none (.t 37)⟩,
  ⟨some 13, none, .mv (.t 36)⟩,
  ⟨some 14, none, .mv (.t 38)⟩] (some [1, 7, 10, 11, 12, 13, 14, 32, 33, 34]))
 (.seq (.reg [
  ⟨some 39, none, .mv (.t 14)⟩,
  ⟨some 40, none, .mv (.t 1)⟩,
  ⟨some 41, none, .build [.p (.int .i64 0), .p (.int .i64 0)] [(0, 1, (.t 39)), (1, 1, (.t 40))]⟩,
  ⟨some 15, none, .alloc [.p (.int .i64 0), .p (.int .i64 0)]⟩,
  ⟨none, none, .store (some 2) (.t 15) (.t 41)⟩] (some [1, 7, 10, 11, 12, 13, 15, 32, 33, 34]))
 (.seq (.seq (.reg [
  ⟨some 42, none, .load (some 2) (.t 15)⟩,
  ⟨some 43, none, .faddr 0 (some 2) (.t 7)⟩,
  ⟨some 44, none, .load (some 2) (.t 43)⟩,
  ⟨some 45, none, .call f_base_Compare [(.t 42), (.t 44)]⟩,
  ⟨some 16, none, .mv (.t 45)⟩] (some [1, 7, 10, 11, 12, 13, 15, 16, 32, 33, 34]))
 (.seq (.reg [
  ⟨some 46, none, .mv (.t 16)⟩,
  ⟨some 47, none, .mv (.t 10)⟩,
  ⟨some 48, none, .bin .neq (.t 46) (.t 47)⟩] (some [1, 7, 10, 11, 12, 13, 15, 16, 32, 33, 34, 48]))
 (.cond (.t 48) (.reg [
  ⟨some 49, none, .mv (.t 16)⟩,
  ⟨some 10, none, .mv (.t 49)⟩,
  ⟨some 11, none, .mv (.c (.p (.int .i64 0)))⟩] (some [1, 7, 10, 11, 12, 13, 15, 32, 33, 34]))
 .skip)))
 q1))))
 q2)))
def p_lot_Signals_k3 : ACode := P_lot_Signals_k3 p_lot_Signals_k1 p_lot_Signals_k2
def d_lot_Signals_k3 (C : Hd) (gl : Nat → Option PV) (q1 q2 : ACode) (v1 v7 v10 v11 v12 v32 v33 v34 : AV) (h : Heap) (x : Esc) (K : Ex → St → Prop) : Prop :=
 pK (oBin .lss v34 v33) fun t1 =>
 condB t1 (pK (oIaddr none v32 v34 h) fun t2 =>
 pK (oLoad none t2 h) fun t3 =>
 pK (oBuild [.p (.int .i64 0), .p (.int .i64 0)] [(0, 1, t3), (1, 1, v1)]) fun t4 =>
 alK [.p (.int .i64 0), .p (.int .i64 0)] h fun t5 h6 y7 =>
 wK (oStore (some 2) t5 t4 h6) fun t8 h9 y10 =>
 pK (oLoad (some 2) t5 h9) fun t11 =>
 pK (oFaddr 0 (some 2) v7) fun t12 =>
 pK (oLoad (some 2) t12 h9) fun t13 =>
 C f_base_Compare [t11, t13] h9 fun t14 h15 y16 =>
 pK (oBin .neq t14 v10) fun t17 =>
 condB t17 (NW C gl q1 ⟨[(1, v1), (7, v7), (10, t14), (11, (.p (.int .i64 0))), (12, v12), (13, v34), (15, t5), (32, v32), (33, v33), (34, v34)], h15, (y16 ++ (y10 ++ (y7 ++ x)))⟩ (blockN 1 (seqN C gl q2 K)))
 (NW C gl q1 ⟨[(1, v1), (7, v7), (10, v10), (11, v11), (12, v12), (13, v34), (15, t5), (16, t14), (32, v32), (33, v33), (34, v34), (48, t17)], h15, (y16 ++ (y10 ++ (y7 ++ x)))⟩ (blockN 1 (seqN C gl q2 K))))
 (K (.exit 0) ⟨[(1, v1), (7, v7), (10, v10), (11, v11), (12, v12), (32, v32), (33, v33), (34, v34), (35, t1)], h, x⟩)
theorem E_lot_Signals_k3 {C gl q1 q2 e h x K} : NW C gl (P_lot_Signals_k3 q1 q2) ⟨e, h, x⟩ K = d_lot_Signals_k3 C gl q1 q2 (aget e 1) (aget e 7) (aget e 10) (aget e 11) (aget e 12) (aget e 32) (aget e 33) (aget e 34) h x K := by kernel_rfl
theorem e_lot_Signals_k3 {C gl e h x K} : NW C gl p_lot_Signals_k3 ⟨e, h, x⟩ K = d_lot_Signals_k3 C gl p_lot_Signals_k1 p_lot_Signals_k2 (aget e 1) (aget e 7) (aget e 10) (aget e 11) (aget e 12) (aget e 32) (aget e 33) (aget e 34) h x K := E_lot_Signals_k3
theorem l_lot_Signals_k3 {C gl e h x K} : NW C gl (.loop (.scope p_lot_Signals_k3)) ⟨e, h, x⟩ K = NLoop C gl (.scope p_lot_Signals_k3) K [(1, aget e 1), (7, aget e 7), (10, aget e 10), (11, aget e 11), (12, aget e 12), (32, aget e 32), (33, aget e 33), (34, aget e 34)] h x := NLoop_sc
def p_lot_Signals_k4 : ACode := .pr [12] (.seq (.reg [
  ⟨some 77, none, .mv (.t 12)⟩,
  ⟨some 4, none, .mv (.t 77)⟩,
  ⟨some 5, none, .mv (.c (.p (.int .i64 0)))⟩] (some [4, 5]))
 .ret)
def d_lot_Signals_k4 (C : Hd) (gl : Nat → Option PV) (v12 : AV) (h : Heap) (x : Esc) (K : Ex → St → Prop) : Prop :=
 K .ret ⟨[(4, v12), (5, (.p (.int .i64 0)))], h, x⟩
theorem e_lot_Signals_k4 {C gl e h x K} : NW C gl p_lot_Signals_k4 ⟨e, h, x⟩ K = d_lot_Signals_k4 C gl (aget e 12) h x K := by kernel_rfl
def P_lot_Signals (q3 q4 : ACode) : ACode := (.seq (.reg [
  ⟨some 4, none, .mv (.c (.p (.sl none [])))⟩,
  ⟨some 5, none, .mv (.c (.p (.int .i64 0)))⟩] (some [0, 1]))
 (.seq (.seq (.reg [
  ⟨some 17, none, .mv (.t 0)⟩,
  ⟨some 18, none, .mv (.t 1)⟩,
  ⟨some 19, none, .call f_lot_chartFault [(.t 17), (.t 18)]⟩,
  ⟨some 6, none, .mv (.t 19)⟩] (some [0, 1, 6]))
 (.seq (.reg [
  ⟨some 20, none, .mv (.t 6)⟩,
  ⟨some 21, none, .bin .neq (.t 20) (.c (.p (.int .i64 0)))⟩] (some [0, 1, 6, 21]))
 (.cond (.t 21) (.seq (.reg [
  ⟨some 22, none, .mv (.t 6)⟩,
  ⟨some 4, none, .mv (.c (.p (.sl none [])))⟩,
  ⟨some 5, none, .mv (.t 22)⟩] (some [4, 5]))
 .ret)
 .skip)))
 (.seq (.reg [
  ⟨some 23, none, .mv (.t 0)⟩,
  ⟨some 24, none, .mv (.t 1)⟩,
  ⟨some 25, none, .call f_lot_chart [(.t 23), (.t 24)]⟩,
  ⟨some 7, none, .alloc [.p (.int .i64 0), .p (.int .i64 0), .p (.int .i64 0), .p (.int .i64 0), .p (.int .i64 0), .p (.int .i64 0), .p (.int .i64 0), .p (.int .i64 0)]⟩,
  ⟨none, none, .store (some 8) (.t 7) (.t 25)⟩] (some [0, 1, 7]))
 (.seq (.reg [
  ⟨some 27, none, .mv (.t 0)⟩,
  ⟨some 28, none, .mv (.t 1)⟩,
  ⟨some 29, none, .call f_lot_groups [(.t 27), (.t 28)]⟩,
  ⟨some 26, none, .mv (.t 29)⟩,
  ⟨some 30, none, .ext (.t 26) 0⟩,
  ⟨some 31, none, .ext (.t 26) 1⟩,
  ⟨some 8, none, .mv (.t 30)⟩,
  ⟨some 9, none, .mv (.t 31)⟩] (some [1, 7, 8]))
 (.seq (.reg [
  ⟨some 10, none, .mv (.c (.p (.int .i64 0)))⟩,
  ⟨some 11, none, .mv (.c (.p (.int .i64 0)))⟩] (some [1, 7, 8, 10, 11]))
 (.seq (.reg [
  ⟨some 12, none, .new0 none⟩] (some [1, 7, 8, 10, 11, 12]))
 (.seq (.seq (.reg [
  ⟨some 32, none, .mv (.t 8)⟩,
  ⟨some 33, none, .len (.t 32)⟩,
  ⟨some 34, none, .mv (.c (.p (.int .i64 0)))⟩] (some [1, 7, 10, 11, 12, 32, 33, 34]))
 (.block 0 (.loop (.scope q3))))
 q4)))))))
def a_lot_Signals : AFun := ⟨2, [.t 4, .t 5], P_lot_Signals p_lot_Signals_k3 p_lot_Signals_k4, false, false⟩
def d_lot_Signals (C : Hd) (gl : Nat → Option PV) (q3 q4 : ACode) (v0 v1 : AV) (h : Heap) (x : Esc) (K : Ex → St → Prop) : Prop :=
 C f_lot_chartFault [v0, v1] h fun t1 h2 y3 =>
 pK (oBin .neq t1 (.p (.int .i64 0))) fun t4 =>
 condB t4 (K .ret ⟨[(4, (.p (.sl none []))), (5, t1)], h2, (y3 ++ x)⟩)
 (C f_lot_chart [v0, v1] h2 fun t5 h6 y7 =>
 alK [.p (.int .i64 0), .p (.int .i64 0), .p (.int .i64 0), .p (.int .i64 0), .p (.int .i64 0), .p (.int .i64 0), .p (.int .i64 0), .p (.int .i64 0)] h6 fun t8 h9 y10 =>
 wK (oStore (some 8) t8 t5 h9) fun t11 h12 y13 =>
 C f_lot_groups [v0, v1] h12 fun t14 h15 y16 =>
 pK (oExt t14 0) fun t17 =>
 pK (oExt t14 1) fun t18 =>
 nwK none h15 fun t19 h20 y21 =>
 pK (oLen t17) fun t22 =>
 NW C gl (.loop (.scope q3)) ⟨[(1, v1), (7, t8), (10, (.p (.int .i64 0))), (11, (.p (.int .i64 0))), (12, t19), (32, t17), (33, t22), (34, (.p (.int .i64 0)))], h20, (y21 ++ (y16 ++ (y13 ++ (y10 ++ (y7 ++ (y3 ++ x))))))⟩ (blockN 0 (seqN C gl q4 K)))
theorem E_lot_Signals {C gl q3 q4 v0 v1 h x K} : NW C gl (P_lot_Signals q3 q4) ⟨enter [v0, v1], h, x⟩ K = d_lot_Signals C gl q3 q4 v0 v1 h x K := by kernel_rfl
theorem e_lot_Signals {C gl v0 v1 h x K} : NW C gl a_lot_Signals.body ⟨enter [v0, v1], h, x⟩ K = d_lot_Signals C gl p_lot_Signals_k3 p_lot_Signals_k4 v0 v1 h x K := E_lot_Signals
def P_scanref2_MeasuresFault : ACode := (.seq (.reg [
  ⟨some 4, none, .mv (.c (.p (.int .i64 0)))⟩] (some [0, 1]))
 (.seq (.block 0 (.seq (.reg [
  ⟨some 6, none, .mv (.t 0)⟩,
  ⟨some 7, none, .len (.t 6)⟩,
  ⟨some 8, none, .mv (.t 1)⟩,
  ⟨some 9, none, .bin .lss (.t 7) (.t 8)⟩,
  ⟨some 5, none, .mv (.t 9)⟩] (some [0, 5]))
 (.cond (.t 5) (.seq (.reg [
  ⟨some 4, none, .mv (.c (.p (.int .i64 8)))⟩] (some [4]))
 .ret)
 (.seq (.reg [
  ⟨some 11, none, .mv (.t 0)⟩,
  ⟨some 12, none, .len (.t 11)⟩,
  ⟨some 13, none, .bin .gtr (.t 12) (.c (.p (.int .i64 5000)))⟩,
  ⟨some 10, none, .mv (.t 13)⟩] (some [0, 10]))
 (.cond (.t 10) (.seq (.reg [
  ⟨some 4, none, .mv (.c (.p (.int .i64 2)))⟩] (some [4]))
 .ret)
 (.seq (.reg [
  ⟨some 15, none, .mv (.t 0)⟩,
  ⟨some 16, none, .call f_slices_ContainsFunc_int_int [(.t 15), (.f f_scanref2_MeasuresFault_1)]⟩,
  ⟨some 14, none, .mv (.t 16)⟩] (some [14]))
 (.cond (.t 14) (.seq (.reg [
  ⟨some 4, none, .mv (.c (.p (.int .i64 1)))⟩] (some [4]))
 .ret)
 .skip)))))))
 (.seq (.reg [
  ⟨some 4, none, .mv (.c (.p (.int .i64 0)))⟩] (some [4]))
 .ret)))
def a_scanref2_MeasuresFault : AFun := ⟨2, [.t 4], P_scanref2_MeasuresFault, false, false⟩
def d_scanref2_MeasuresFault (C : Hd) (gl : Nat → Option PV) (v0 v1 : AV) (h : Heap) (x : Esc) (K : Ex → St → Prop) : Prop :=
 pK (oLen v0) fun t1 =>
 pK (oBin .lss t1 v1) fun t2 =>
 condB t2 (K .ret ⟨[(4, (.p (.int .i64 8)))], h, x⟩)
 (pK (oLen v0) fun t3 =>
 pK (oBin .gtr t3 (.p (.int .i64 5000))) fun t4 =>
 condB t4 (K .ret ⟨[(4, (.p (.int .i64 2)))], h, x⟩)
 (C f_slices_ContainsFunc_int_int [v0, (.fn f_scanref2_MeasuresFault_1 [])] h fun t5 h6 y7 =>
 condB t5 (K .ret ⟨[(4, (.p (.int .i64 1)))], h6, (y7 ++ x)⟩)
 (K .ret ⟨[(4, (.p (.int .i64 0)))], h6, (y7 ++ x)⟩)))
theorem E_scanref2_MeasuresFault {C gl v0 v1 h x K} : NW C gl (P_scanref2_MeasuresFault) ⟨enter [v0, v1], h, x⟩ K = d_scanref2_MeasuresFault C gl v0 v1 h x K := by kernel_rfl
theorem e_scanref2_MeasuresFault {C gl v0 v1 h x K} : NW C gl a_scanref2_MeasuresFault.body ⟨enter [v0, v1], h, x⟩ K = d_scanref2_MeasuresFault C gl v0 v1 h x K := E_scanref2_MeasuresFault
def p_scanlaw2_errs_k1 : ACode := .pr [5, 6, 7] (.seq (.reg [
  ⟨some 8, none, .bin .lss (.t 7) (.t 6)⟩] (some [5, 6, 7, 8]))
 (.seq (.cond (.t 8) .skip
 (.exit 0))
 (.seq (.block 1 (.seq (.reg [
  ⟨some 9, none, .iaddr none (.t 5) (.t 7)⟩,
  ⟨some 10, none, .load none (.t 9)⟩,
  ⟨some 4, none, .mv (.t 10)⟩] (some [4, 5, 6, 7]))
 (.seq (.reg [
  ⟨some 11, none, .mv (.t 4)⟩,
  ⟨some 12, none, .bin .neq (.t 11) (.c (.p (.int .i64 0)))⟩] (some [4, 5, 6, 7, 12]))
 (.cond (.t 12) (.seq (.reg [
  ⟨some 13, none, .mv (.t 4)⟩,
  ⟨some 2, none, .mv (.t 13)⟩] (some [2]))
 .ret)
 .skip))))
 (.reg [
  ⟨some 14, none, .bin .add (.t 7) (.c (.p (.int .i64 1)))⟩,
  ⟨some 7, none, .mv (.t 14)⟩] (some [5, 6, 7])))))
def d_scanlaw2_errs_k1 (C : Hd) (gl : Nat → Option PV) (v5 v6 v7 : AV) (h : Heap) (x : Esc) (K : Ex → St → Prop) : Prop :=
 pK (oBin .lss v7 v6) fun t1 =>
 condB t1 (pK (oIaddr none v5 v7 h) fun t2 =>
 pK (oLoad none t2 h) fun t3 =>
 pK (oBin .neq t3 (.p (.int .i64 0))) fun t4 =>
 condB t4 (K .ret ⟨[(2, t3)], h, x⟩)
 (pK (oBin .add v7 (.p (.int .i64 1))) fun t5 =>
 K .normal ⟨[(5, v5), (6, v6), (7, t5)], h, x⟩))
 (K (.exit 0) ⟨[(5, v5), (6, v6), (7, v7), (8, t1)], h, x⟩)
theorem e_scanlaw2_errs_k1 {C gl e h x K} : NW C gl p_scanlaw2_errs_k1 ⟨e, h, x⟩ K = d_scanlaw2_errs_k1 C gl (aget e 5) (aget e 6) (aget e 7) h x K := by kernel_rfl
theorem l_scanlaw2_errs_k1 {C gl e h x K} : NW C gl (.loop p_scanlaw2_errs_k1) ⟨e, h, x⟩ K = NLoop C gl p_scanlaw2_errs_k1 K [(5, aget e 5), (6, aget e 6), (7, aget e 7)] h x := NLoop_pr
def p_scanlaw2_errs_k2 : ACode := .pr [] (.seq (.reg [
  ⟨some 2, none, .mv (.c (.p (.int .i64 0)))⟩] (some [2]))
 .ret)
def d_scanlaw2_errs_k2 (C : Hd) (gl : Nat → Option PV) (h : Heap) (x : Esc) (K : Ex → St → Prop) : Prop :=
 K .ret ⟨[(2, (.p (.int .i64 0)))], h, x⟩
theorem e_scanlaw2_errs_k2 {C gl e h x K} : NW C gl p_scanlaw2_errs_k2 ⟨e, h, x⟩ K = d_scanlaw2_errs_k2 C gl h x K := by kernel_rfl
def P_scanlaw2_errs (q1 q2 : ACode) : ACode := (.seq (.reg [
  ⟨some 2, none, .mv (.c (.p (.int .i64 0)))⟩] (some [0]))
 (.seq (.seq (.reg [
  ⟨some 5, none, .mv (.t 0)⟩,
  ⟨some 6, none, .len (.t 5)⟩,
  ⟨some 7, none, .mv (.c (.p (.int .i64 0)))⟩] (some [5, 6, 7]))
 (.block 0 (.loop q1)))
 q2))
def a_scanlaw2_errs : AFun := ⟨1, [.t 2], P_scanlaw2_errs p_scanlaw2_errs_k1 p_scanlaw2_errs_k2, false, false⟩
def d_scanlaw2_errs (C : Hd) (gl : Nat → Option PV) (q1 q2 : ACode) (v0 : AV) (h : Heap) (x : Esc) (K : Ex → St → Prop) : Prop :=
 pK (oLen v0) fun t1 =>
 NW C gl (.loop q1) ⟨[(5, v0), (6, t1), (7, (.p (.int .i64 0)))], h, x⟩ (blockN 0 (seqN C gl q2 K))
theorem E_scanlaw2_errs {C gl q1 q2 v0 h x K} : NW C gl (P_scanlaw2_errs q1 q2) ⟨enter [v0], h, x⟩ K = d_scanlaw2_errs C gl q1 q2 v0 h x K := by kernel_rfl
theorem e_scanlaw2_errs {C gl v0 h x K} : NW C gl a_scanlaw2_errs.body ⟨enter [v0], h, x⟩ K = d_scanlaw2_errs C gl p_scanlaw2_errs_k1 p_scanlaw2_errs_k2 v0 h x K := E_scanlaw2_errs
def P_scanref2_AbleFault : ACode := (.seq (.reg [
  ⟨some 5, none, .box (.t 2)⟩,
  ⟨some 6, none, .mv (.c (.p (.int .i64 0)))⟩] (some [0, 1, 5]))
 (.seq (.block 0 (.seq (.reg [
  ⟨some 8, none, .mv (.t 0)⟩,
  ⟨some 9, none, .mv (.t 1)⟩,
  ⟨some 10, none, .call f_scanref2_in [(.t 8), (.c (.p (.int .i64 (-100000)))), (.t 9)]⟩,
  ⟨some 11, none, .un .not (.t 10)⟩,
  ⟨some 12, none, .mv (.t 11)⟩,
  ⟨some 13, (some (12, false)), .mv (.t 1)⟩,
  ⟨some 14, (some (12, false)), .bin .gtr (.t 13) (.c (.p (.int .i64 100000)))⟩,
  ⟨some 15, none, .pick (.t 12) (.c (.p (.bool true))) (.t 14)⟩,
  ⟨some 7, none, .mv (.t 15)⟩] (some [5, 7]))
 (.cond (.t 7) (.seq (.reg [
  ⟨some 6, none, .mv (.c (.p (.int .i64 1)))⟩] (some [6]))
 .ret)
 (.seq (.reg [
  ⟨some 17, none, .faddr 0 none (.t 5)⟩,
  ⟨some 18, none, .load none (.t 17)⟩,
  ⟨some 19, none, .bin .lss (.t 18) (.c (.p (.int .i64 0)))⟩,
  ⟨some 20, none, .mv (.t 19)⟩,
  ⟨some 21, (some (20, false)), .faddr 1 none (.t 5)⟩,
  ⟨some 22, (some (20, false)), .load none (.t 21)⟩,
  ⟨some 23, (some (20, false)), .bin .lss (.t 22) (.c (.p (.int .i64 1)))⟩,
  ⟨some 24, none, .pick (.t 20) (.c (.p (.bool true))) (.t 23)⟩,
  ⟨some 25, none, .mv (.t 24)⟩,
  ⟨some 26, (some (25, false)), .faddr 0 none (.t 5)⟩,
  ⟨some 27, (some (25, false)), .load none (.t 26)⟩,
  ⟨some 28, (some (25, false)), .faddr 1 none (.t 5)⟩,
  ⟨some 29, (some (25, false)), .load none (.t 28)⟩,
  ⟨some 30, (some (25, false)), .call f_scanref2_divisor [(.t 27), (.t 29)]⟩,
  ⟨some 31, (some (25, false)), .bin .neq (.t 30) (.c (.p (.int .i64 1)))⟩,
  ⟨some 32, none, .pick (.t 25) (.c (.p (.bool true))) (.t 31)⟩,
  ⟨some 16, none, .mv (.t 32)⟩] (some [5, 16]))
 (.cond (.t 16) (.seq (.reg [
  ⟨some 6, none, .mv (.c (.p (.int .i64 3)))⟩] (some [6]))
 .ret)
 (.seq (.reg [
  ⟨some 34, none, .faddr 0 none (.t 5)⟩,
  ⟨some 35, none, .load none (.t 34)⟩,
  ⟨some 36, none, .bin .gtr (.t 35) (.c (.p (.int .i64 100)))⟩,
  ⟨some 37, none, .mv (.t 36)⟩,
  ⟨some 38, (some (37, false)), .faddr 1 none (.t 5)⟩,
  ⟨some 39, (some (37, false)), .load none (.t 38)⟩,
  ⟨some 40, (some (37, false)), .bin .gtr (.t 39) (.c (.p (.int .i64 100)))⟩,
  ⟨some 41, none, .pick (.t 37) (.c (.p (.bool true))) (.t 40)⟩,
  ⟨some 33, none, .mv (.t 41)⟩] (some [33]))
 (.cond (.t 33) (.seq (.reg [
  ⟨some 6, none, .mv (.c (.p (.int .i64 1)))⟩] (some [6]))
 .ret)
 .skip)))))))
 (.seq (.reg [
  ⟨some 6, none, .mv (.c (.p (.int .i64 0)))⟩] (some [6]))
 .ret)))
def a_scanref2_AbleFault : AFun := ⟨3, [.t 6], P_scanref2_AbleFault, false, false⟩
def d_scanref2_AbleFault (C : Hd) (gl : Nat → Option PV) (v0 v1 v2 : AV) (h : Heap) (x : Esc) (K : Ex → St → Prop) : Prop :=
 wK (oBox v2 h) fun t1 h2 y3 =>
 C f_scanref2_in [v0, (.p (.int .i64 (-100000))), v1] h2 fun t4 h5 y6 =>
 pK (oUn .not t4) fun t7 =>
 gM t7 false v1 h5 fun t8 h9 y10 =>
 gP t7 false (oBin .gtr t8 (.p (.int .i64 100000))) h9 fun t11 h12 y13 =>
 pK (oPick t7 (.p (.bool true)) t11) fun t14 =>
 condB t14 (K .ret ⟨[(6, (.p (.int .i64 1)))], h12, (y13 ++ (y10 ++ (y6 ++ (y3 ++ x))))⟩)
 (pK (oFaddr 0 none t1) fun t15 =>
 pK (oLoad none t15 h12) fun t16 =>
 pK (oBin .lss t16 (.p (.int .i64 0))) fun t17 =>
 gP t17 false (oFaddr 1 none t1) h12 fun t18 h19 y20 =>
 gP t17 false (oLoad none t18 h19) h19 fun t21 h22 y23 =>
 gP t17 false (oBin .lss t21 (.p (.int .i64 1))) h22 fun t24 h25 y26 =>
 pK (oPick t17 (.p (.bool true)) t24) fun t27 =>
 gP t27 false (oFaddr 0 none t1) h25 fun t28 h29 y30 =>
 gP t27 false (oLoad none t28 h29) h29 fun t31 h32 y33 =>
 gP t27 false (oFaddr 1 none t1) h32 fun t34 h35 y36 =>
 gP t27 false (oLoad none t34 h35) h35 fun t37 h38 y39 =>
 gV t27 false h38 (C f_scanref2_divisor [t31, t37] h38) fun t40 h41 y42 =>
 gP t27 false (oBin .neq t40 (.p (.int .i64 1))) h41 fun t43 h44 y45 =>
 pK (oPick t27 (.p (.bool true)) t43) fun t46 =>
 condB t46 (K .ret ⟨[(6, (.p (.int .i64 3)))], h44, (y45 ++ (y42 ++ (y39 ++ (y36 ++ (y33 ++ (y30 ++ (y26 ++ (y23 ++ (y20 ++ (y13 ++ (y10 ++ (y6 ++ (y3 ++ x)))))))))))))⟩)
 (pK (oFaddr 0 none t1) fun t47 =>
 pK (oLoad none t47 h44) fun t48 =>
 pK (oBin .gtr t48 (.p (.int .i64 100))) fun t49 =>
 gP t49 false (oFaddr 1 none t1) h44 fun t50 h51 y52 =>
 gP t49 false (oLoad none t50 h51) h51 fun t53 h54 y55 =>
 gP t49 false (oBin .gtr t53 (.p (.int .i64 100))) h54 fun t56 h57 y58 =>
 pK (oPick t49 (.p (.bool true)) t56) fun t59 =>
 condB t59 (K .ret ⟨[(6, (.p (.int .i64 1)))], h57, (y58 ++ (y55 ++ (y52 ++ (y45 ++ (y42 ++ (y39 ++ (y36 ++ (y33 ++ (y30 ++ (y26 ++ (y23 ++ (y20 ++ (y13 ++ (y10 ++ (y6 ++ (y3 ++ x))))))))))))))))⟩)
 (K .ret ⟨[(6, (.p (.int .i64 0)))], h57, (y58 ++ (y55 ++ (y52 ++ (y45 ++ (y42 ++ (y39 ++ (y36 ++ (y33 ++ (y30 ++ (y26 ++ (y23 ++ (y20 ++ (y13 ++ (y10 ++ (y6 ++ (y3 ++ x))))))))))))))))⟩)))
theorem E_scanref2_AbleFault {C gl v0 v1 v2 h x K} : NW C gl (P_scanref2_AbleFault) ⟨enter [v0, v1, v2], h, x⟩ K = d_scanref2_AbleFault C gl v0 v1 v2 h x K := by kernel_rfl
theorem e_scanref2_AbleFault {C gl v0 v1 v2 h x K} : NW C gl a_scanref2_AbleFault.body ⟨enter [v0, v1, v2], h, x⟩ K = d_scanref2_AbleFault C gl v0 v1 v2 h x K := E_scanref2_AbleFault
def P_scanref2_SizeFault : ACode := (.seq (.reg [
  ⟨some 4, none, .mv (.c (.p (.int .i64 0)))⟩] (some [0, 1]))
 (.seq (.seq (.reg [
  ⟨some 5, none, .mv (.t 1)⟩,
  ⟨some 6, none, .call f_scanref2_in [(.t 5), (.c (.p (.int .i64 2))), (.c (.p (.int .i64 10)))]⟩,
  ⟨some 7, none, .un .not (.t 6)⟩] (some [0, 1, 7]))
 (.cond (.t 7) (.seq (.reg [
  ⟨some 4, none, .mv (.c (.p (.int .i64 1)))⟩] (some [4]))
 .ret)
 .skip))
 (.seq (.reg [
  ⟨some 8, none, .mv (.t 0)⟩,
  ⟨some 9, none, .mv (.t 1)⟩,
  ⟨some 10, none, .call f_scanref2_MeasuresFault [(.t 8), (.t 9)]⟩,
  ⟨some 4, none, .mv (.t 10)⟩] (some [4]))
 .ret)))
def a_scanref2_SizeFault : AFun := ⟨2, [.t 4], P_scanref2_SizeFault, false, false⟩
def d_scanref2_SizeFault (C : Hd) (gl : Nat → Option PV) (v0 v1 : AV) (h : Heap) (x : Esc) (K : Ex → St → Prop) : Prop :=
 C f_scanref2_in [v1, (.p (.int .i64 2)), (.p (.int .i64 10))] h fun t1 h2 y3 =>
 pK (oUn .not t1) fun t4 =>
 condB t4 (K .ret ⟨[(4, (.p (.int .i64 1)))], h2, (y3 ++ x)⟩)
 (C f_scanref2_MeasuresFault [v0, v1] h2 fun t5 h6 y7 =>
 K .ret ⟨[(4, t5)], h6, (y7 ++ (y3 ++ x))⟩)
theorem E_scanref2_SizeFault {C gl v0 v1 h x K} : NW C gl (P_scanref2_SizeFault) ⟨enter [v0, v1], h, x⟩ K = d_scanref2_SizeFault C gl v0 v1 h x K := by kernel_rfl
theorem e_scanref2_SizeFault {C gl v0 v1 h x K} : NW C gl a_scanref2_SizeFault.body ⟨enter [v0, v1], h, x⟩ K = d_scanref2_SizeFault C gl v0 v1 h x K := E_scanref2_SizeFault
def p_scanref2_SpreadOf_k1 : ACode := .pr [0, 2, 3, 4, 5, 13, 14, 15] (.seq (.reg [
  ⟨some 16, none, .bin .lss (.t 15) (.t 14)⟩] (some [0, 2, 3, 4, 5, 13, 14, 15, 16]))
 (.seq (.cond (.t 16) .skip
 (.exit 0))
 (.seq (.block 1 (.seq (.reg [
  ⟨some 17, none, .iaddr none (.t 13) (.t 15)⟩,
  ⟨some 18, none, .load none (.t 17)⟩,
  ⟨some 7, none, .mv (.t 18)⟩] (some [0, 2, 3, 4, 5, 7, 13, 14, 15]))
 (.reg [
  ⟨some 19, none, .mv (.t 5)⟩,
  ⟨some 20, none, .mv (.t 7)⟩,
  ⟨some 21, none, .bin .add (.t 19) (.t 20)⟩,
  ⟨some 5, none, .mv (.t 21)⟩] (some [0, 2, 3, 4, 5, 13, 14, 15]))))
 (.reg [
  ⟨some 22, none, .bin .add (.t 15) (.c (.p (.int .i64 1)))⟩,
  ⟨some 15, none, .mv (.t 22)⟩] (some [0, 2, 3, 4, 5, 13, 14, 15])))))
def d_scanref2_SpreadOf_k1 (C : Hd) (gl : Nat → Option PV) (v0 v2 v3 v4 v5 v13 v14 v15 : AV) (h : Heap) (x : Esc) (K : Ex → St → Prop) : Prop :=
 pK (oBin .lss v15 v14) fun t1 =>
 condB t1 (pK (oIaddr none v13 v15 h) fun t2 =>
 pK (oLoad none t2 h) fun t3 =>
 pK (oBin .add v5 t3) fun t4 =>
 pK (oBin .add v15 (.p (.int .i64 1))) fun t5 =>
 K .normal ⟨[(0, v0), (2, v2), (3, v3), (4, v4), (5, t4), (13, v13), (14, v14), (15, t5)], h, x⟩)
 (K (.exit 0) ⟨[(0, v0), (2, v2), (3, v3), (4, v4), (5, v5), (13, v13), (14, v14), (15, v15), (16, t1)], h, x⟩)
theorem e_scanref2_SpreadOf_k1 {C gl e h x K} : NW C gl p_scanref2_SpreadOf_k1 ⟨e, h, x⟩ K = d_scanref2_SpreadOf_k1 C gl (aget e 0) (aget e 2) (aget e 3) (aget e 4) (aget e 5) (aget e 13) (aget e 14) (aget e 15) h x K := by kernel_rfl
theorem l_scanref2_SpreadOf_k1 {C gl e h x K} : NW C gl (.loop p_scanref2_SpreadOf_k1) ⟨e, h, x⟩ K = NLoop C gl p_scanref2_SpreadOf_k1 K [(0, aget e 0), (2, aget e 2), (3, aget e 3), (4, aget e 4), (5, aget e 5), (13, aget e 13), (14, aget e 14), (15, aget e 15)] h x := NLoop_pr
def p_scanref2_SpreadOf_k2 : ACode := .pr [2, 3, 4, 5, 8, 23, 24, 25] (.seq (.reg [
  ⟨some 26, none, .bin .lss (.t 25) (.t 24)⟩] (some [2, 3, 4, 5, 8, 23, 24, 25, 26]))
 (.seq (.cond (.t 26) .skip
 (.exit 2))
 (.seq (.block 3 (.seq (.reg [
  ⟨some 27, none, .iaddr none (.t 23) (.t 25)⟩,
  ⟨some 28, none, .load none (.t 27)⟩,
  ⟨some 10, none, .mv (.t 28)⟩] (some [2, 3, 4, 5, 8, 10, 23, 24, 25]))
 (.reg [
  ⟨some 29, none, .mv (.t 8)⟩,
  ⟨some 30, none, .mv (.t 10)⟩,
  ⟨some 31, none, .mv (.t 10)⟩,
  ⟨some 32, none, .bin .mul (.t 30) (.t 31)⟩,
  ⟨some 33, none, .bin .add (.t 29) (.t 32)⟩,
  ⟨some 8, none, .mv (.t 33)⟩] (some [2, 3, 4, 5, 8, 23, 24, 25]))))
 (.reg [
  ⟨some 34, none, .bin .add (.t 25) (.c (.p (.int .i64 1)))⟩,
  ⟨some 25, none, .mv (.t 34)⟩] (some [2, 3, 4, 5, 8, 23, 24, 25])))))
def d_scanref2_SpreadOf_k2 (C : Hd) (gl : Nat → Option PV) (v2 v3 v4 v5 v8 v23 v24 v25 : AV) (h : Heap) (x : Esc) (K : Ex → St → Prop) : Prop :=
 pK (oBin .lss v25 v24) fun t1 =>
 condB t1 (pK (oIaddr none v23 v25 h) fun t2 =>
 pK (oLoad none t2 h) fun t3 =>
 pK (oBin .mul t3 t3) fun t4 =>
 pK (oBin .add v8 t4) fun t5 =>
 pK (oBin .add v25 (.p (.int .i64 1))) fun t6 =>
 K .normal ⟨[(2, v2), (3, v3), (4, v4), (5, v5), (8, t5), (23, v23), (24, v24), (25, t6)], h, x⟩)
 (K (.exit 2) ⟨[(2, v2), (3, v3), (4, v4), (5, v5), (8, v8), (23, v23), (24, v24), (25, v25), (26, t1)], h, x⟩)
theorem e_scanref2_SpreadOf_k2 {C gl e h x K} : NW C gl p_scanref2_SpreadOf_k2 ⟨e, h, x⟩ K = d_scanref2_SpreadOf_k2 C gl (aget e 2) (aget e 3) (aget e 4) (aget e 5) (aget e 8) (aget e 23) (aget e 24) (aget e 25) h x K := by kernel_rfl
theorem l_scanref2_SpreadOf_k2 {C gl e h x K} : NW C gl (.loop p_scanref2_SpreadOf_k2) ⟨e, h, x⟩ K = NLoop C gl p_scanref2_SpreadOf_k2 K [(2, aget e 2), (3, aget e 3), (4, aget e 4), (5, aget e 5), (8, aget e 8), (23, aget e 23), (24, aget e 24), (25, aget e 25)] h x := NLoop_pr
def p_scanref2_SpreadOf_k3 : ACode := .pr [2, 3, 4, 5, 8] (.seq (.reg [
  ⟨some 35, none, .mv (.t 5)⟩,
  ⟨some 36, none, .mv (.t 4)⟩,
  ⟨some 37, none, .call f_scanref2_Lowest [(.t 35), (.t 36)]⟩,
  ⟨some 38, none, .mv (.t 4)⟩,
  ⟨some 39, none, .mv (.t 8)⟩,
  ⟨some 40, none, .bin .mul (.t 38) (.t 39)⟩,
  ⟨some 41, none, .mv (.t 5)⟩,
  ⟨some 42, none, .mv (.t 5)⟩,
  ⟨some 43, none, .bin .mul (.t 41) (.t 42)⟩,
  ⟨some 44, none, .bin .sub (.t 40) (.t 43)⟩,
  ⟨some 45, none, .mv (.t 4)⟩,
  ⟨some 46, none, .mv (.t 4)⟩,
  ⟨some 47, none, .bin .mul (.t 45) (.t 46)⟩,
  ⟨some 48, none, .call f_scanref2_Lowest [(.t 44), (.t 47)]⟩,
  ⟨none, none, .store (some 2) (.t 2) (.t 37)⟩,
  ⟨none, none, .store (some 2) (.t 3) (.t 48)⟩] (some [2, 3]))
 .ret)
def d_scanref2_SpreadOf_k3 (C : Hd) (gl : Nat → Option PV) (v2 v3 v4 v5 v8 : AV) (h : Heap) (x : Esc) (K : Ex → St → Prop) : Prop :=
 C f_scanref2_Lowest [v5, v4] h fun t1 h2 y3 =>
 pK (oBin .mul v4 v8) fun t4 =>
 pK (oBin .mul v5 v5) fun t5 =>
 pK (oBin .sub t4 t5) fun t6 =>
 pK (oBin .mul v4 v4) fun t7 =>
 C f_scanref2_Lowest [t6, t7] h2 fun t8 h9 y10 =>
 wK (oStore (some 2) v2 t1 h9) fun t11 h12 y13 =>
 wK (oStore (some 2) v3 t8 h12) fun t14 h15 y16 =>
 K .ret ⟨[(2, v2), (3, v3)], h15, (y16 ++ (y13 ++ (y10 ++ (y3 ++ x))))⟩
theorem e_scanref2_SpreadOf_k3 {C gl e h x K} : NW C gl p_scanref2_SpreadOf_k3 ⟨e, h, x⟩ K = d_scanref2_SpreadOf_k3 C gl (aget e 2) (aget e 3) (aget e 4) (aget e 5) (aget e 8) h x K := by kernel_rfl
def P_scanref2_SpreadOf_k4 (q2 q3 : ACode) : ACode := .pr [0, 2, 3, 4, 5] (.seq (.reg [
  ⟨some 8, none, .mv (.c (.p (.int .i64 0)))⟩] (some [0, 2, 3, 4, 5, 8]))
 (.seq (.seq (.reg [
  ⟨some 23, none, .mv (.t 0)⟩,
  ⟨some 24, none, .len (.t 23)⟩,
  ⟨some 25, none, .mv (.c (.p (.int .i64 0)))⟩] (some [2, 3, 4, 5, 8, 23, 24, 25]))
 (.block 2 (.loop q2)))
 q3))
def p_scanref2_SpreadOf_k4 : ACode := P_scanref2_SpreadOf_k4 p_scanref2_SpreadOf_k2 p_scanref2_SpreadOf_k3
def d_scanref2_SpreadOf_k4 (C : Hd) (gl : Nat → Option PV) (q2 q3 : ACode) (v0 v2 v3 v4 v5 : AV) (h : Heap) (x : Esc) (K : Ex → St → Prop) : Prop :=
 pK (oLen v0) fun t1 =>
 NW C gl (.loop q2) ⟨[(2, v2), (3, v3), (4, v4), (5, v5), (8, (.p (.int .i64 0))), (23, v0), (24, t1), (25, (.p (.int .i64 0)))], h, x⟩ (blockN 2 (seqN C gl q3 K))
theorem E_scanref2_SpreadOf_k4 {C gl q2 q3 e h x K} : NW C gl (P_scanref2_SpreadOf_k4 q2 q3) ⟨e, h, x⟩ K = d_scanref2_SpreadOf_k4 C gl q2 q3 (aget e 0) (aget e 2) (aget e 3) (aget e 4) (aget e 5) h x K := by kernel_rfl
theorem e_scanref2_SpreadOf_k4 {C gl e h x K} : NW C gl p_scanref2_SpreadOf_k4 ⟨e, h, x⟩ K = d_scanref2_SpreadOf_k4 C gl p_scanref2_SpreadOf_k2 p_scanref2_SpreadOf_k3 (aget e 0) (aget e 2) (aget e 3) (aget e 4) (aget e 5) h x K := E_scanref2_SpreadOf_k4
def P_scanref2_SpreadOf (q1 q4 : ACode) : ACode := (.seq (.reg [
  ⟨some 2, none, .alloc [.p (.int .i64 0), .p (.int .i64 0)]⟩,
  ⟨some 3, none, .alloc [.p (.int .i64 0), .p (.int .i64 0)]⟩] (some [0, 2, 3]))
 (.seq (.reg [
  ⟨some 11, none, .mv (.t 0)⟩,
  ⟨some 12, none, .len (.t 11)⟩,
  ⟨some 4, none, .mv (.t 12)⟩,
  ⟨some 5, none, .mv (.c (.p (.int .i64 0)))⟩] (some [0, 2, 3, 4, 5]))
 (.seq (.seq (.reg [
  ⟨some 13, none, .mv (.t 0)⟩,
  ⟨some 14, none, .len (.t 13)⟩,
  ⟨some 15, none, .mv (.c (.p (.int .i64 0)))⟩] (some [0, 2, 3, 4, 5, 13, 14, 15]))
 (.block 0 (.loop q1)))
 q4)))
def a_scanref2_SpreadOf : AFun := ⟨1, [.cell 2 (some 2), .cell 3 (some 2)], P_scanref2_SpreadOf p_scanref2_SpreadOf_k1 p_scanref2_SpreadOf_k4, false, false⟩
def d_scanref2_SpreadOf (C : Hd) (gl : Nat → Option PV) (q1 q4 : ACode) (v0 : AV) (h : Heap) (x : Esc) (K : Ex → St → Prop) : Prop :=
 alK [.p (.int .i64 0), .p (.int .i64 0)] h fun t1 h2 y3 =>
 alK [.p (.int .i64 0), .p (.int .i64 0)] h2 fun t4 h5 y6 =>
 pK (oLen v0) fun t7 =>
 pK (oLen v0) fun t8 =>
 NW C gl (.loop q1) ⟨[(0, v0), (2, t1), (3, t4), (4, t7), (5, (.p (.int .i64 0))), (13, v0), (14, t8), (15, (.p (.int .i64 0)))], h5, (y6 ++ (y3 ++ x))⟩ (blockN 0 (seqN C gl q4 K))
theorem E_scanref2_SpreadOf {C gl q1 q4 v0 h x K} : NW C gl (P_scanref2_SpreadOf q1 q4) ⟨enter [v0], h, x⟩ K = d_scanref2_SpreadOf C gl q1 q4 v0 h x K := by kernel_rfl
theorem e_scanref2_SpreadOf {C gl v0 h x K} : NW C gl a_scanref2_SpreadOf.body ⟨enter [v0], h, x⟩ K = d_scanref2_SpreadOf C gl p_scanref2_SpreadOf_k1 p_scanref2_SpreadOf_k4 v0 h x K := E_scanref2_SpreadOf
def p_scanref2_AbleOf_k1 : ACode := .pr [1, 2, 7, 9, 10, 11, 24, 25, 26] (.seq (.reg [
  ⟨some 27, none, .bin .lss (.t 26) (.t 25)⟩] (some [1, 2, 7, 9, 10, 11, 24, 25, 26, 27]))
 (.seq (.cond (.t 27) .skip
 (.exit 0))
 (.seq (.block 1 (.seq (.reg [
  ⟨some 28, none, .iaddr none (.t 24) (.t 26)⟩,
  ⟨some 29, none, .load none (.t 28)⟩,
  ⟨some 13, none, .mv (.t 29)⟩] (some [1, 2, 7, 9, 10, 11, 13, 24, 25, 26]))
 (.seq (.reg [
  ⟨some 30, none, .mv (.t 10)⟩,
  ⟨some 31, none, .mv (.t 13)⟩,
  ⟨some 32, none, .bin .add (.t 30) (.t 31)⟩,
  ⟨some 10, none, .mv (.t 32)⟩] (some [1, 2, 7, 9, 10, 11, 13, 24, 25, 26]))
 (.reg [
  ⟨some 33, none, .mv (.t 11)⟩,
  ⟨some 34, none, .mv (.t 13)⟩,
  ⟨some 35, none, .mv (.t 13)⟩,
  ⟨some 36, none, .bin .mul (.t 34) (.t 35)⟩,
  ⟨some 37, none, .bin .add (.t 33) (.t 36)⟩,
  ⟨some 11, none, .mv (.t 37)⟩] (some [1, 2, 7, 9, 10, 11, 24, 25, 26])))))
 (.reg [
  ⟨some 38, none, .bin .add (.t 26) (.c (.p (.int .i64 1)))⟩,
  ⟨some 26, none, .mv (.t 38)⟩] (some [1, 2, 7, 9, 10, 11, 24, 25, 26])))))
def d_scanref2_AbleOf_k1 (C : Hd) (gl : Nat → Option PV) (v1 v2 v7 v9 v10 v11 v24 v25 v26 : AV) (h : Heap) (x : Esc) (K : Ex → St → Prop) : Prop :=
 pK (oBin .lss v26 v25) fun t1 =>
 condB t1 (pK (oIaddr none v24 v26 h) fun t2 =>
 pK (oLoad none t2 h) fun t3 =>
 pK (oBin .add v10 t3) fun t4 =>
 pK (oBin .mul t3 t3) fun t5 =>
 pK (oBin .add v11 t5) fun t6 =>
 pK (oBin .add v26 (.p (.int .i64 1))) fun t7 =>
 K .normal ⟨[(1, v1), (2, v2), (7, v7), (9, v9), (10, t4), (11, t6), (24, v24), (25, v25), (26, t7)], h, x⟩)
 (K (.exit 0) ⟨[(1, v1), (2, v2), (7, v7), (9, v9), (10, v10), (11, v11), (24, v24), (25, v25), (26, v26), (27, t1)], h, x⟩)
theorem e_scanref2_AbleOf_k1 {C gl e h x K} : NW C gl p_scanref2_AbleOf_k1 ⟨e, h, x⟩ K = d_scanref2_AbleOf_k1 C gl (aget e 1) (aget e 2) (aget e 7) (aget e 9) (aget e 10) (aget e 11) (aget e 24) (aget e 25) (aget e 26) h x K := by kernel_rfl
theorem l_scanref2_AbleOf_k1 {C gl e h x K} : NW C gl (.loop p_scanref2_AbleOf_k1) ⟨e, h, x⟩ K = NLoop C gl p_scanref2_AbleOf_k1 K [(1, aget e 1), (2, aget e 2), (7, aget e 7), (9, aget e 9), (10, aget e 10), (11, aget e 11), (24, aget e 24), (25, aget e 25), (26, aget e 26)] h x := NLoop_pr
def p_scanref2_AbleOf_k2 : ACode := .pr [7, 14, 56, 57, 58] (.seq (.reg [
  ⟨some 59, none, .bin .lss (.t 58) (.t 57)⟩] (some [7, 14, 56, 57, 58, 59]))
 (.seq (.cond (.t 59) .skip
 (.exit 2))
 (.seq (.block 3 (.seq (.reg [
  ⟨some 60, none, .iaddr none (.t 56) (.t 58)⟩,
  ⟨some 61, none, .load none (.t 60)⟩,
  ⟨some 16, none, .mv (.t 61)⟩] (some [7, 14, 16, 56, 57, 58]))
 (.seq (.seq (.reg [
  ⟨some 62, none, .mv (.t 16)⟩,
  ⟨some 63, none, .bin .lss (.t 62) (.c (.p (.int .i64 0)))⟩] (some [7, 14, 16, 56, 57, 58, 63]))
 (.cond (.t 63) (.seq (.reg [
  ⟨some 8, none, .mv (.c (.p (.bool false)))⟩] (some [8]))
 .ret)
 .skip))
 (.seq (.reg [
  ⟨some 64, none, .mv (.t 16)⟩,
  ⟨some 65, none, .faddr 1 none (.t 7)⟩,
  ⟨some 66, none, .load none (.t 65)⟩,
  ⟨some 67, none, .bin .mul (.t 64) (.t 66)⟩,
  ⟨some 68, none, .conv (.i .u64) (.t 67)⟩,
  ⟨some 17, none, .mv (.t 68)⟩] (some [7, 14, 17, 56, 57, 58]))
 (.seq (.reg [
  ⟨some 70, none, .mv (.t 17)⟩,
  ⟨some 71, none, .mv (.t 17)⟩,
  ⟨some 72, none, .call f_math_bits_Mul64 [(.t 70), (.t 71)]⟩,
  ⟨some 69, none, .mv (.t 72)⟩,
  ⟨some 73, none, .ext (.t 69) 0⟩,
  ⟨some 74, none, .ext (.t 69) 1⟩,
  ⟨some 18, none, .mv (.t 73)⟩,
  ⟨some 19, none, .mv (.t 74)⟩] (some [7, 14, 18, 19, 56, 57, 58]))
 (.seq (.reg [
  ⟨some 76, none, .mv (.t 14)⟩,
  ⟨some 77, none, .conv (.i .u64) (.t 76)⟩,
  ⟨some 78, none, .faddr 0 none (.t 7)⟩,
  ⟨some 79, none, .load none (.t 78)⟩,
  ⟨some 80, none, .bin .mul (.c (.p (.int .i64 9))) (.t 79)⟩,
  ⟨some 81, none, .faddr 0 none (.t 7)⟩,
  ⟨some 82, none, .load none (.t 81)⟩,
  ⟨some 83, none, .bin .mul (.t 80) (.t 82)⟩,
  ⟨some 84, none, .conv (.i .u64) (.t 83)⟩,
  ⟨some 85, none, .call f_math_bits_Mul64 [(.t 77), (.t 84)]⟩,
  ⟨some 75, none, .mv (.t 85)⟩,
  ⟨some 86, none, .ext (.t 75) 0⟩,
  ⟨some 87, none, .ext (.t 75) 1⟩,
  ⟨some 20, none, .mv (.t 86)⟩,
  ⟨some 21, none, .mv (.t 87)⟩] (some [7, 14, 18, 19, 20, 21, 56, 57, 58]))
 (.seq (.reg [
  ⟨some 88, none, .mv (.t 18)⟩,
  ⟨some 89, none, .mv (.t 20)⟩,
  ⟨some 90, none, .bin .lss (.t 88) (.t 89)⟩,
  ⟨some 91, none, .mv (.t 90)⟩,
  ⟨some 92, (some (91, false)), .mv (.t 18)⟩,
  ⟨some 93, (some (91, false)), .mv (.t 20)⟩,
  ⟨some 94, (some (91, false)), .bin .eql (.t 92) (.t 93)⟩,
  ⟨some 95, (some (91, false)), .mv (.t 94)⟩,
  ⟨some 96, (some (95, true)), .mv (.t 19)⟩,
  ⟨some 97, (some (95, true)), .mv (.t 21)⟩,
  ⟨some 98, (some (95, true)), .bin .lss (.t 96) (.t 97)⟩,
  ⟨some 99, (some (91, false)), .pick (.t 95) (.t 98) (.c (.p (.bool false)))⟩,
  ⟨some 100, none, .pick (.t 91) (.c (.p (.bool true))) (.t 99)⟩] (some [7, 14, 56, 57, 58, 100]))
 (.cond (.t 100) (.seq (.reg [
  ⟨some 8, none, .mv (.c (.p (.bool false)))⟩] (some [8]))
 .ret)
 .skip))))))))
 (.reg [
  ⟨some 101, none, .bin .add (.t 58) (.c (.p (.int .i64 1)))⟩,
  ⟨some 58, none, .mv (.t 101)⟩] (some [7, 14, 56, 57, 58])))))
def d_scanref2_AbleOf_k2 (C : Hd) (gl : Nat → Option PV) (v7 v14 v56 v57 v58 : AV) (h : Heap) (x : Esc) (K : Ex → St → Prop) : Prop :=
 pK (oBin .lss v58 v57) fun t1 =>
 condB t1 (pK (oIaddr none v56 v58 h) fun t2 =>
 pK (oLoad none t2 h) fun t3 =>
 pK (oBin .lss t3 (.p (.int .i64 0))) fun t4 =>
 condB t4 (K .ret ⟨[(8, (.p (.bool false)))], h, x⟩)
 (pK (oFaddr 1 none v7) fun t5 =>
 pK (oLoad none t5 h) fun t6 =>
 pK (oBin .mul t3 t6) fun t7 =>
 pK (oConvI .u64 t7) fun t8 =>
 C f_math_bits_Mul64 [t8, t8] h fun t9 h10 y11 =>
 pK (oExt t9 0) fun t12 =>
 pK (oExt t9 1) fun t13 =>
 pK (oConvI .u64 v14) fun t14 =>
 pK (oFaddr 0 none v7) fun t15 =>
 pK (oLoad none t15 h10) fun t16 =>
 pK (oBin .mul (.p (.int .i64 9)) t16) fun t17 =>
 pK (oFaddr 0 none v7) fun t18 =>
 pK (oLoad none t18 h10) fun t19 =>
 pK (oBin .mul t17 t19) fun t20 =>
 pK (oConvI .u64 t20) fun t21 =>
 C f_math_bits_Mul64 [t14, t21] h10 fun t22 h23 y24 =>
 pK (oExt t22 0) fun t25 =>
 pK (oExt t22 1) fun t26 =>
 pK (oBin .lss t12 t25) fun t27 =>
 gM t27 false t12 h23 fun t28 h29 y30 =>
 gM t27 false t25 h29 fun t31 h32 y33 =>
 gP t27 false (oBin .eql t28 t31) h32 fun t34 h35 y36 =>
 gM t27 false t34 h35 fun t37 h38 y39 =>
 gM t37 true t13 h38 fun t40 h41 y42 =>
 gM t37 true t26 h41 fun t43 h44 y45 =>
 gP t37 true (oBin .lss t40 t43) h44 fun t46 h47 y48 =>
 gP t27 false (oPick t37 t46 (.p (.bool false))) h47 fun t49 h50 y51 =>
 pK (oPick t27 (.p (.bool true)) t49) fun t52 =>
 condB t52 (K .ret ⟨[(8, (.p (.bool false)))], h50, (y51 ++ (y48 ++ (y45 ++ (y42 ++ (y39 ++ (y36 ++ (y33 ++ (y30 ++ (y24 ++ (y11 ++ x))))))))))⟩)
 (pK (oBin .add v58 (.p (.int .i64 1))) fun t53 =>
 K .normal ⟨[(7, v7), (14, v14), (56, v56), (57, v57), (58, t53)], h50, (y51 ++ (y48 ++ (y45 ++ (y42 ++ (y39 ++ (y36 ++ (y33 ++ (y30 ++ (y24 ++ (y11 ++ x))))))))))⟩)))
 (K (.exit 2) ⟨[(7, v7), (14, v14), (56, v56), (57, v57), (58, v58), (59, t1)], h, x⟩)
theorem e_scanref2_AbleOf_k2 {C gl e h x K} : NW C gl p_scanref2_AbleOf_k2 ⟨e, h, x⟩ K = d_scanref2_AbleOf_k2 C gl (aget e 7) (aget e 14) (aget e 56) (aget e 57) (aget e 58) h x K := by kernel_rfl
theorem l_scanref2_AbleOf_k2 {C gl e h x K} : NW C gl (.loop p_scanref2_AbleOf_k2) ⟨e, h, x⟩ K = NLoop C gl p_scanref2_AbleOf_k2 K [(7, aget e 7), (14, aget e 14), (56, aget e 56), (57, aget e 57), (58, aget e 58)] h x := NLoop_pr
def p_scanref2_AbleOf_k3 : ACode := .pr [] (.seq (.reg [
  ⟨some 8, none, .mv (.c (.p (.bool true)))⟩] (some [8]))
 .ret)
def d_scanref2_AbleOf_k3 (C : Hd) (gl : Nat → Option PV) (h : Heap) (x : Esc) (K : Ex → St → Prop) : Prop :=
 K .ret ⟨[(8, (.p (.bool true)))], h, x⟩
theorem e_scanref2_AbleOf_k3 {C gl e h x K} : NW C gl p_scanref2_AbleOf_k3 ⟨e, h, x⟩ K = d_scanref2_AbleOf_k3 C gl h x K := by kernel_rfl
def P_scanref2_AbleOf_k4 (q2 q3 : ACode) : ACode := .pr [1, 2, 7, 9, 10, 11] (.seq (.reg [
  ⟨some 39, none, .mv (.t 9)⟩,
  ⟨some 40, none, .mv (.t 11)⟩,
  ⟨some 41, none, .bin .mul (.t 39) (.t 40)⟩,
  ⟨some 42, none, .mv (.t 10)⟩,
  ⟨some 43, none, .mv (.t 10)⟩,
  ⟨some 44, none, .bin .mul (.t 42) (.t 43)⟩,
  ⟨some 45, none, .bin .sub (.t 41) (.t 44)⟩,
  ⟨some 14, none, .mv (.t 45)⟩] (some [1, 2, 7, 9, 10, 14]))
 (.seq (.seq (.reg [
  ⟨some 46, none, .mv (.t 10)⟩,
  ⟨some 47, none, .mv (.t 9)⟩,
  ⟨some 48, none, .mv (.t 1)⟩,
  ⟨some 49, none, .bin .mul (.t 47) (.t 48)⟩,
  ⟨some 50, none, .bin .sub (.t 46) (.t 49)⟩,
  ⟨some 51, none, .mv (.t 9)⟩,
  ⟨some 52, none, .mv (.t 2)⟩,
  ⟨some 53, none, .bin .mul (.t 51) (.t 52)⟩,
  ⟨some 54, none, .mv (.t 10)⟩,
  ⟨some 55, none, .bin .sub (.t 53) (.t 54)⟩,
  ⟨some 56, none, .bsl false none 2 (.int .i64 0) [(0, (.t 50)), (1, (.t 55))]⟩,
  ⟨some 57, none, .len (.t 56)⟩,
  ⟨some 58, none, .mv (.c (.p (.int .i64 0)))⟩] (some [7, 14, 56, 57, 58]))
 (.block 2 (.loop q2)))
 q3))
def p_scanref2_AbleOf_k4 : ACode := P_scanref2_AbleOf_k4 p_scanref2_AbleOf_k2 p_scanref2_AbleOf_k3
def d_scanref2_AbleOf_k4 (C : Hd) (gl : Nat → Option PV) (q2 q3 : ACode) (v1 v2 v7 v9 v10 v11 : AV) (h : Heap) (x : Esc) (K : Ex → St → Prop) : Prop :=
 pK (oBin .mul v9 v11) fun t1 =>
 pK (oBin .mul v10 v10) fun t2 =>
 pK (oBin .sub t1 t2) fun t3 =>
 pK (oBin .mul v9 v1) fun t4 =>
 pK (oBin .sub v10 t4) fun t5 =>
 pK (oBin .mul v9 v2) fun t6 =>
 pK (oBin .sub t6 v10) fun t7 =>
 wK (oBsl false none 2 (.int .i64 0) [(0, t5), (1, t7)] h) fun t8 h9 y10 =>
 pK (oLen t8) fun t11 =>
 NW C gl (.loop q2) ⟨[(7, v7), (14, t3), (56, t8), (57, t11), (58, (.p (.int .i64 0)))], h9, (y10 ++ x)⟩ (blockN 2 (seqN C gl q3 K))
theorem E_scanref2_AbleOf_k4 {C gl q2 q3 e h x K} : NW C gl (P_scanref2_AbleOf_k4 q2 q3) ⟨e, h, x⟩ K = d_scanref2_AbleOf_k4 C gl q2 q3 (aget e 1) (aget e 2) (aget e 7) (aget e 9) (aget e 10) (aget e 11) h x K := by kernel_rfl
theorem e_scanref2_AbleOf_k4 {C gl e h x K} : NW C gl p_scanref2_AbleOf_k4 ⟨e, h, x⟩ K = d_scanref2_AbleOf_k4 C gl p_scanref2_AbleOf_k2 p_scanref2_AbleOf_k3 (aget e 1) (aget e 2) (aget e 7) (aget e 9) (aget e 10) (aget e 11) h x K := E_scanref2_AbleOf_k4
def P_scanref2_AbleOf (q1 q4 : ACode) : ACode := (.seq (.reg [
  ⟨some 7, none, .box (.t 3)⟩,
  ⟨some 8, none, .mv (.c (.p (.bool false)))⟩] (some [0, 1, 2, 7]))
 (.seq (.reg [
  ⟨some 22, none, .mv (.t 0)⟩,
  ⟨some 23, none, .len (.t 22)⟩,
  ⟨some 9, none, .mv (.t 23)⟩,
  ⟨some 10, none, .mv (.c (.p (.int .i64 0)))⟩,
  ⟨some 11, none, .mv (.c (.p (.int .i64 0)))⟩] (some [0, 1, 2, 7, 9, 10, 11]))
 (.seq (.seq (.reg [
  ⟨some 24, none, .mv (.t 0)⟩,
  ⟨some 25, none, .len (.t 24)⟩,
  ⟨some 26, none, .mv (.c (.p (.int .i64 0)))⟩] (some [1, 2, 7, 9, 10, 11, 24, 25, 26]))
 (.block 0 (.loop q1)))
 q4)))
def a_scanref2_AbleOf : AFun := ⟨4, [.t 8], P_scanref2_AbleOf p_scanref2_AbleOf_k1 p_scanref2_AbleOf_k4, false, false⟩
def d_scanref2_AbleOf (C : Hd) (gl : Nat → Option PV) (q1 q4 : ACode) (v0 v1 v2 v3 : AV) (h : Heap) (x : Esc) (K : Ex → St → Prop) : Prop :=
 wK (oBox v3 h) fun t1 h2 y3 =>
 pK (oLen v0) fun t4 =>
 pK (oLen v0) fun t5 =>
 NW C gl (.loop q1) ⟨[(1, v1), (2, v2), (7, t1), (9, t4), (10, (.p (.int .i64 0))), (11, (.p (.int .i64 0))), (24, v0), (25, t5), (26, (.p (.int .i64 0)))], h2, (y3 ++ x)⟩ (blockN 0 (seqN C gl q4 K))
theorem E_scanref2_AbleOf {C gl q1 q4 v0 v1 v2 v3 h x K} : NW C gl (P_scanref2_AbleOf q1 q4) ⟨enter [v0, v1, v2, v3], h, x⟩ K = d_scanref2_AbleOf C gl q1 q4 v0 v1 v2 v3 h x K := by kernel_rfl
theorem e_scanref2_AbleOf {C gl v0 v1 v2 v3 h x K} : NW C gl a_scanref2_AbleOf.body ⟨enter [v0, v1, v2, v3], h, x⟩ K = d_scanref2_AbleOf C gl p_scanref2_AbleOf_k1 p_scanref2_AbleOf_k4 v0 v1 v2 v3 h x K := E_scanref2_AbleOf
end Go.Am
