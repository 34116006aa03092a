/- Texts of the proof, laid together: CodesA. -/
import Derived.KernelRfl
import Derived.Test.YtajhbehiecgflaalawLT4
set_option linter.all false
section
/- The functions as abstract code, and as formulas over their values: printed by program out of the translation. -/
set_option linter.unusedVariables false
set_option maxRecDepth 100000
namespace Go.Am
def p_scanlaw2_LimitsTightened_k1 : ACode := .pr [8, 9, 10, 11, 12, 13, 14, 15, 16, 17, 18, 19] (.seq (.reg [
  ⟨some 90, none, .mv (.t 9)⟩,
  ⟨some 91, none, .mv (.t 14)⟩,
  ⟨some 92, none, .bin .eql (.t 90) (.t 91)⟩,
  ⟨some 93, none, .mv (.t 92)⟩,
  ⟨some 94, (some (93, true)), .mv (.t 8)⟩,
  ⟨some 95, (some (93, true)), .mv (.t 16)⟩,
  ⟨some 96, (some (93, true)), .call f_slices_Equal_int_int [(.t 94), (.t 95)]⟩,
  ⟨some 97, none, .pick (.t 93) (.t 96) (.c (.p (.bool false)))⟩,
  ⟨some 98, none, .mv (.t 97)⟩,
  ⟨some 99, (some (98, true)), .mv (.t 13)⟩,
  ⟨some 100, (some (98, true)), .mv (.t 15)⟩,
  ⟨some 101, (some (98, true)), .bin .eql (.t 99) (.t 100)⟩,
  ⟨some 102, none, .pick (.t 98) (.t 101) (.c (.p (.bool false)))⟩,
  ⟨some 103, none, .mv (.t 102)⟩,
  ⟨some 104, (some (103, true)), .mv (.t 10)⟩,
  ⟨some 105, (some (103, true)), .mv (.t 17)⟩,
  ⟨some 106, (some (103, true)), .bin .eql (.t 104) (.t 105)⟩,
  ⟨some 107, none, .pick (.t 103) (.t 106) (.c (.p (.bool false)))⟩,
  ⟨some 108, none, .mv (.t 107)⟩,
  ⟨some 109, (some (108, true)), .mv (.t 11)⟩,
  ⟨some 110, (some (108, true)), .mv (.t 18)⟩,
  ⟨some 111, (some (108, true)), .bin .eql (.t 109) (.t 110)⟩,
  ⟨some 112, none, .pick (.t 108) (.t 111) (.c (.p (.bool false)))⟩,
  ⟨some 113, none, .mv (.t 112)⟩,
  ⟨some 114, (some (113, true)), .mv (.t 12)⟩,
  ⟨some 115, (some (113, true)), .mv (.t 19)⟩,
  ⟨some 116, (some (113, true)), .eqa [] false (.t 114) (.t 115)⟩,
  ⟨some 117, none, .pick (.t 113) (.t 116) (.c (.p (.bool false)))⟩,
  ⟨some 118, none, .mv (.t 117)⟩,
  ⟨some 119, (some (118, true)), .call f_scanlaw2_binned []⟩,
  ⟨some 120, none, .pick (.t 118) (.t 119) (.c (.p (.bool false)))⟩,
  ⟨some 2, none, .mv (.t 120)⟩] (some [2]))
 .ret)
def d_scanlaw2_LimitsTightened_k1 (C : Hd) (gl : Nat → Option PV) (v8 v9 v10 v11 v12 v13 v14 v15 v16 v17 v18 v19 : AV) (h : Heap) (x : Esc) (K : Ex → St → Prop) : Prop :=
 pK (oBin .eql v9 v14) fun t1 =>
 gM t1 true v8 h fun t2 h3 y4 =>
 gM t1 true v16 h3 fun t5 h6 y7 =>
 gV t1 true h6 (C f_slices_Equal_int_int [t2, t5] h6) fun t8 h9 y10 =>
 pK (oPick t1 t8 (.p (.bool false))) fun t11 =>
 gM t11 true v13 h9 fun t12 h13 y14 =>
 gM t11 true v15 h13 fun t15 h16 y17 =>
 gP t11 true (oBin .eql t12 t15) h16 fun t18 h19 y20 =>
 pK (oPick t11 t18 (.p (.bool false))) fun t21 =>
 gM t21 true v10 h19 fun t22 h23 y24 =>
 gM t21 true v17 h23 fun t25 h26 y27 =>
 gP t21 true (oBin .eql t22 t25) h26 fun t28 h29 y30 =>
 pK (oPick t21 t28 (.p (.bool false))) fun t31 =>
 gM t31 true v11 h29 fun t32 h33 y34 =>
 gM t31 true v18 h33 fun t35 h36 y37 =>
 gP t31 true (oBin .eql t32 t35) h36 fun t38 h39 y40 =>
 pK (oPick t31 t38 (.p (.bool false))) fun t41 =>
 gM t41 true v12 h39 fun t42 h43 y44 =>
 gM t41 true v19 h43 fun t45 h46 y47 =>
 gP t41 true (oEqa [] false t42 t45) h46 fun t48 h49 y50 =>
 pK (oPick t41 t48 (.p (.bool false))) fun t51 =>
 gV t51 true h49 (C f_scanlaw2_binned [] h49) fun t52 h53 y54 =>
 pK (oPick t51 t52 (.p (.bool false))) fun t55 =>
 K .ret ⟨[(2, t55)], h53, (y54 ++ (y50 ++ (y47 ++ (y44 ++ (y40 ++ (y37 ++ (y34 ++ (y30 ++ (y27 ++ (y24 ++ (y20 ++ (y17 ++ (y14 ++ (y10 ++ (y7 ++ (y4 ++ x))))))))))))))))⟩
theorem e_scanlaw2_LimitsTightened_k1 {C gl e h x K} : NW C gl p_scanlaw2_LimitsTightened_k1 ⟨e, h, x⟩ K = d_scanlaw2_LimitsTightened_k1 C gl (aget e 8) (aget e 9) (aget e 10) (aget e 11) (aget e 12) (aget e 13) (aget e 14) (aget e 15) (aget e 16) (aget e 17) (aget e 18) (aget e 19) h x K := by kernel_rfl
def P_scanlaw2_LimitsTightened_k2 (q1 : ACode) : ACode := .pr [4, 5, 6, 7, 8, 9, 10, 11, 12, 13, 14, 15, 16] (.seq (.reg [
  ⟨some 17, none, .mv (.c (.p (.int .i64 0)))⟩,
  ⟨some 18, none, .mv (.c (.p (.int .i64 0)))⟩,
  ⟨some 19, none, .mv (.c (.p (.bool false)))⟩] (some [4, 5, 6, 7, 8, 9, 10, 11, 12, 13, 14, 15, 16, 17, 18, 19]))
 (.seq (.seq (.reg [
  ⟨some 79, none, .mv (.t 15)⟩,
  ⟨some 80, none, .bin .eql (.t 79) (.c (.p (.int .i64 0)))⟩] (some [4, 5, 6, 7, 8, 9, 10, 11, 12, 13, 14, 15, 16, 17, 18, 19, 80]))
 (.cond (.t 80) (.reg [
  ⟨some 82, none, .mv (.t 4)⟩,
  ⟨some 83, none, .mv (.t 5)⟩,
  ⟨some 84, none, .mv (.t 6)⟩,
  ⟨some 85, none, .mv (.t 7)⟩,
  ⟨some 86, none, .call f_scanref2_TighterOf [(.t 82), (.t 83), (.t 84), (.t 85)]⟩,
  ⟨some 81, none, .mv (.t 86)⟩,
  ⟨some 87, none, .ext (.t 81) 0⟩,
  ⟨some 88, none, .ext (.t 81) 1⟩,
  ⟨some 89, none, .ext (.t 81) 2⟩,
  ⟨some 17, none, .mv (.t 87)⟩,
  ⟨some 18, none, .mv (.t 88)⟩,
  ⟨some 19, none, .mv (.t 89)⟩] (some [8, 9, 10, 11, 12, 13, 14, 15, 16, 17, 18, 19]))
 .skip))
 q1))
def p_scanlaw2_LimitsTightened_k2 : ACode := P_scanlaw2_LimitsTightened_k2 p_scanlaw2_LimitsTightened_k1
def d_scanlaw2_LimitsTightened_k2 (C : Hd) (gl : Nat → Option PV) (q1 : ACode) (v4 v5 v6 v7 v8 v9 v10 v11 v12 v13 v14 v15 v16 : AV) (h : Heap) (x : Esc) (K : Ex → St → Prop) : Prop :=
 pK (oBin .eql v15 (.p (.int .i64 0))) fun t1 =>
 condB t1 (C f_scanref2_TighterOf [v4, v5, v6, v7] h fun t2 h3 y4 =>
 pK (oExt t2 0) fun t5 =>
 pK (oExt t2 1) fun t6 =>
 pK (oExt t2 2) fun t7 =>
 NW C gl q1 ⟨[(8, v8), (9, v9), (10, v10), (11, v11), (12, v12), (13, v13), (14, v14), (15, v15), (16, v16), (17, t5), (18, t6), (19, t7)], h3, (y4 ++ x)⟩ K)
 (NW C gl q1 ⟨[(4, v4), (5, v5), (6, v6), (7, v7), (8, v8), (9, v9), (10, v10), (11, v11), (12, v12), (13, v13), (14, v14), (15, v15), (16, v16), (17, (.p (.int .i64 0))), (18, (.p (.int .i64 0))), (19, (.p (.bool false))), (80, t1)], h, x⟩ K)
theorem E_scanlaw2_LimitsTightened_k2 {C gl q1 e h x K} : NW C gl (P_scanlaw2_LimitsTightened_k2 q1) ⟨e, h, x⟩ K = d_scanlaw2_LimitsTightened_k2 C gl q1 (aget e 4) (aget e 5) (aget e 6) (aget e 7) (aget e 8) (aget e 9) (aget e 10) (aget e 11) (aget e 12) (aget e 13) (aget e 14) (aget e 15) (aget e 16) h x K := by kernel_rfl
theorem e_scanlaw2_LimitsTightened_k2 {C gl e h x K} : NW C gl p_scanlaw2_LimitsTightened_k2 ⟨e, h, x⟩ K = d_scanlaw2_LimitsTightened_k2 C gl p_scanlaw2_LimitsTightened_k1 (aget e 4) (aget e 5) (aget e 6) (aget e 7) (aget e 8) (aget e 9) (aget e 10) (aget e 11) (aget e 12) (aget e 13) (aget e 14) (aget e 15) (aget e 16) h x K := E_scanlaw2_LimitsTightened_k2
def P_scanlaw2_LimitsTightened (q2 : ACode) : ACode := (.seq (.reg [
  ⟨some 2, none, .mv (.c (.p (.bool false)))⟩] (some [0]))
 (.seq (.reg [
  ⟨some 20, none, .mv (.t 0)⟩,
  ⟨some 21, none, .build [.sl0 none, .p (.int .i64 0)] [(0, 1, (.t 20))]⟩,
  ⟨some 22, none, .box (.t 21)⟩,
  ⟨some 3, none, .mv (.t 22)⟩] (some [3]))
 (.seq (.reg [
  ⟨some 23, none, .mv (.t 3)⟩,
  ⟨some 24, none, .call f_scanmake_Stream_LimitList [(.t 23)]⟩,
  ⟨some 4, none, .mv (.t 24)⟩] (some [3, 4]))
 (.seq (.reg [
  ⟨some 25, none, .mv (.t 3)⟩,
  ⟨some 26, none, .mv (.t 4)⟩,
  ⟨some 27, none, .mv (.t 3)⟩,
  ⟨some 28, none, .call f_scanmake_Stream_Range [(.t 27), (.c (.p (.int .i64 0))), (.c (.p (.int .i64 10)))]⟩,
  ⟨some 29, none, .call f_scanmake_Stream_Records [(.t 25), (.t 26), (.t 28)]⟩,
  ⟨some 30, none, .mv (.t 3)⟩,
  ⟨some 31, none, .bsl false none 4 (.str []) [(0, (.c (.p (.str [118, 111, 108, 116])))), (1, (.c (.p (.str [97, 109, 112])))), (2, (.c (.p (.str [104, 122])))), (3, (.c (.p (.str [122, 122]))))]⟩,
  ⟨some 32, none, .call f_scanmake_Stream_Some [(.t 30), (.t 31)]⟩,
  ⟨some 33, none, .mv (.t 3)⟩,
  ⟨some 34, none, .bsl false none 7 (.int .i64 0) [(0, (.c (.p (.int .i64 0)))), (1, (.c (.p (.int .i64 1)))), (2, (.c (.p (.int .i64 2)))), (3, (.c (.p (.int .i64 5)))), (4, (.c (.p (.int .i64 (-1))))), (5, (.c (.p (.int .i64 5000)))), (6, (.c (.p (.int .i64 5001))))]⟩,
  ⟨some 35, none, .call f_scanmake_Stream_Pick [(.t 33), (.t 34)]⟩,
  ⟨some 5, none, .mv (.t 29)⟩,
  ⟨some 6, none, .mv (.t 32)⟩,
  ⟨some 7, none, .mv (.t 35)⟩] (some [4, 5, 6, 7]))
 (.seq (.reg [
  ⟨some 37, none, .mv (.t 4)⟩,
  ⟨some 38, none, .mv (.t 5)⟩,
  ⟨some 39, none, .mv (.t 6)⟩,
  ⟨some 40, none, .call f_lot_Values [(.t 37), (.t 38), (.t 39)]⟩,
  ⟨some 36, none, .mv (.t 40)⟩,
  ⟨some 41, none, .ext (.t 36) 0⟩,
  ⟨some 42, none, .ext (.t 36) 1⟩,
  ⟨some 8, none, .mv (.t 41)⟩,
  ⟨some 9, none, .mv (.t 42)⟩] (some [4, 5, 6, 7, 8, 9]))
 (.seq (.reg [
  ⟨some 44, none, .mv (.t 4)⟩,
  ⟨some 45, none, .mv (.t 5)⟩,
  ⟨some 46, none, .mv (.t 6)⟩,
  ⟨some 47, none, .mv (.t 7)⟩,
  ⟨some 48, none, .call f_lot_Tighter [(.t 44), (.t 45), (.t 46), (.t 47)]⟩,
  ⟨some 43, none, .mv (.t 48)⟩,
  ⟨some 49, none, .ext (.t 43) 0⟩,
  ⟨some 50, none, .ext (.t 43) 1⟩,
  ⟨some 51, none, .ext (.t 43) 2⟩,
  ⟨some 52, none, .ext (.t 43) 3⟩,
  ⟨some 10, none, .mv (.t 49)⟩,
  ⟨some 11, none, .mv (.t 50)⟩,
  ⟨some 12, none, .mv (.t 51)⟩,
  ⟨some 13, none, .mv (.t 52)⟩] (some [4, 5, 6, 7, 8, 9, 10, 11, 12, 13]))
 (.seq (.reg [
  ⟨some 53, none, .mv (.t 4)⟩,
  ⟨some 54, none, .mv (.t 5)⟩,
  ⟨some 55, none, .call f_scanref2_RecordsFault [(.t 53), (.t 54)]⟩,
  ⟨some 56, none, .mv (.t 4)⟩,
  ⟨some 57, none, .mv (.t 6)⟩,
  ⟨some 58, none, .call f_scanref2_TestAt [(.t 56), (.t 57)]⟩,
  ⟨some 59, none, .bin .lss (.t 58) (.c (.p (.int .i64 0)))⟩,
  ⟨some 60, none, .call f_scanlaw2_when [(.t 59), (.c (.p (.int .i64 8)))]⟩,
  ⟨some 61, none, .bsl false none 2 (.int .i64 0) [(0, (.t 55)), (1, (.t 60))]⟩,
  ⟨some 62, none, .call f_scanlaw2_errs [(.t 61)]⟩,
  ⟨some 14, none, .mv (.t 62)⟩] (some [4, 5, 6, 7, 8, 9, 10, 11, 12, 13, 14]))
 (.seq (.reg [
  ⟨some 63, none, .mv (.t 14)⟩,
  ⟨some 64, none, .mv (.t 7)⟩,
  ⟨some 65, none, .bin .lss (.t 64) (.c (.p (.int .i64 0)))⟩,
  ⟨some 66, none, .mv (.t 65)⟩,
  ⟨some 67, (some (66, false)), .mv (.t 7)⟩,
  ⟨some 68, (some (66, false)), .bin .gtr (.t 67) (.c (.p (.int .i64 5000)))⟩,
  ⟨some 69, none, .pick (.t 66) (.c (.p (.bool true))) (.t 68)⟩,
  ⟨some 70, none, .call f_scanlaw2_when [(.t 69), (.c (.p (.int .i64 1)))]⟩,
  ⟨some 71, none, .bsl false none 2 (.int .i64 0) [(0, (.t 63)), (1, (.t 70))]⟩,
  ⟨some 72, none, .call f_scanlaw2_errs [(.t 71)]⟩,
  ⟨some 15, none, .mv (.t 72)⟩] (some [4, 5, 6, 7, 8, 9, 10, 11, 12, 13, 14, 15]))
 (.seq (.reg [
  ⟨some 16, none, .mv (.c (.p (.sl none [])))⟩] (some [4, 5, 6, 7, 8, 9, 10, 11, 12, 13, 14, 15, 16]))
 (.seq (.seq (.reg [
  ⟨some 73, none, .mv (.t 14)⟩,
  ⟨some 74, none, .bin .eql (.t 73) (.c (.p (.int .i64 0)))⟩] (some [4, 5, 6, 7, 8, 9, 10, 11, 12, 13, 14, 15, 16, 74]))
 (.cond (.t 74) (.reg [
  ⟨some 75, none, .mv (.t 4)⟩,
  ⟨some 76, none, .mv (.t 5)⟩,
  ⟨some 77, none, .mv (.t 6)⟩,
  ⟨some 78, none, .call f_scanref2_ValuesOf [(.t 75), (.t 76), (.t 77)]⟩,
  ⟨some 16, none, .mv (.t 78)⟩] (some [4, 5, 6, 7, 8, 9, 10, 11, 12, 13, 14, 15, 16]))
 .skip))
 q2))))))))))
def a_scanlaw2_LimitsTightened : AFun := ⟨1, [.t 2], P_scanlaw2_LimitsTightened p_scanlaw2_LimitsTightened_k2, false, false⟩
def d_scanlaw2_LimitsTightened (C : Hd) (gl : Nat → Option PV) (q2 : ACode) (v0 : AV) (h : Heap) (x : Esc) (K : Ex → St → Prop) : Prop :=
 pK (oBuild [.sl0 none, .p (.int .i64 0)] [(0, 1, v0)]) fun t1 =>
 wK (oBox t1 h) fun t2 h3 y4 =>
 C f_scanmake_Stream_LimitList [t2] h3 fun t5 h6 y7 =>
 C f_scanmake_Stream_Range [t2, (.p (.int .i64 0)), (.p (.int .i64 10))] h6 fun t8 h9 y10 =>
 C f_scanmake_Stream_Records [t2, t5, t8] h9 fun t11 h12 y13 =>
 wK (oBsl false none 4 (.str []) [(0, (.p (.str [118, 111, 108, 116]))), (1, (.p (.str [97, 109, 112]))), (2, (.p (.str [104, 122]))), (3, (.p (.str [122, 122])))] h12) fun t14 h15 y16 =>
 C f_scanmake_Stream_Some [t2, t14] h15 fun t17 h18 y19 =>
 wK (oBsl false none 7 (.int .i64 0) [(0, (.p (.int .i64 0))), (1, (.p (.int .i64 1))), (2, (.p (.int .i64 2))), (3, (.p (.int .i64 5))), (4, (.p (.int .i64 (-1)))), (5, (.p (.int .i64 5000))), (6, (.p (.int .i64 5001)))] h18) fun t20 h21 y22 =>
 C f_scanmake_Stream_Pick [t2, t20] h21 fun t23 h24 y25 =>
 C f_lot_Values [t5, t11, t17] h24 fun t26 h27 y28 =>
 pK (oExt t26 0) fun t29 =>
 pK (oExt t26 1) fun t30 =>
 C f_lot_Tighter [t5, t11, t17, t23] h27 fun t31 h32 y33 =>
 pK (oExt t31 0) fun t34 =>
 pK (oExt t31 1) fun t35 =>
 pK (oExt t31 2) fun t36 =>
 pK (oExt t31 3) fun t37 =>
 C f_scanref2_RecordsFault [t5, t11] h32 fun t38 h39 y40 =>
 C f_scanref2_TestAt [t5, t17] h39 fun t41 h42 y43 =>
 pK (oBin .lss t41 (.p (.int .i64 0))) fun t44 =>
 C f_scanlaw2_when [t44, (.p (.int .i64 8))] h42 fun t45 h46 y47 =>
 wK (oBsl false none 2 (.int .i64 0) [(0, t38), (1, t45)] h46) fun t48 h49 y50 =>
 C f_scanlaw2_errs [t48] h49 fun t51 h52 y53 =>
 pK (oBin .lss t23 (.p (.int .i64 0))) fun t54 =>
 gM t54 false t23 h52 fun t55 h56 y57 =>
 gP t54 false (oBin .gtr t55 (.p (.int .i64 5000))) h56 fun t58 h59 y60 =>
 pK (oPick t54 (.p (.bool true)) t58) fun t61 =>
 C f_scanlaw2_when [t61, (.p (.int .i64 1))] h59 fun t62 h63 y64 =>
 wK (oBsl false none 2 (.int .i64 0) [(0, t51), (1, t62)] h63) fun t65 h66 y67 =>
 C f_scanlaw2_errs [t65] h66 fun t68 h69 y70 =>
 pK (oBin .eql t51 (.p (.int .i64 0))) fun t71 =>
 condB t71 (C f_scanref2_ValuesOf [t5, t11, t17] h69 fun t72 h73 y74 =>
 NW C gl q2 ⟨[(4, t5), (5, t11), (6, t17), (7, t23), (8, t29), (9, t30), (10, t34), (11, t35), (12, t36), (13, t37), (14, t51), (15, t68), (16, t72)], h73, (y74 ++ (y70 ++ (y67 ++ (y64 ++ (y60 ++ (y57 ++ (y53 ++ (y50 ++ (y47 ++ (y43 ++ (y40 ++ (y33 ++ (y28 ++ (y25 ++ (y22 ++ (y19 ++ (y16 ++ (y13 ++ (y10 ++ (y7 ++ (y4 ++ x)))))))))))))))))))))⟩ K)
 (NW C gl q2 ⟨[(4, t5), (5, t11), (6, t17), (7, t23), (8, t29), (9, t30), (10, t34), (11, t35), (12, t36), (13, t37), (14, t51), (15, t68), (16, (.p (.sl none []))), (74, t71)], h69, (y70 ++ (y67 ++ (y64 ++ (y60 ++ (y57 ++ (y53 ++ (y50 ++ (y47 ++ (y43 ++ (y40 ++ (y33 ++ (y28 ++ (y25 ++ (y22 ++ (y19 ++ (y16 ++ (y13 ++ (y10 ++ (y7 ++ (y4 ++ x))))))))))))))))))))⟩ K)
theorem E_scanlaw2_LimitsTightened {C gl q2 v0 h x K} : NW C gl (P_scanlaw2_LimitsTightened q2) ⟨enter [v0], h, x⟩ K = d_scanlaw2_LimitsTightened C gl q2 v0 h x K := by kernel_rfl
theorem e_scanlaw2_LimitsTightened {C gl v0 h x K} : NW C gl a_scanlaw2_LimitsTightened.body ⟨enter [v0], h, x⟩ K = d_scanlaw2_LimitsTightened C gl p_scanlaw2_LimitsTightened_k2 v0 h x K := E_scanlaw2_LimitsTightened
def P_scanmake_Stream_Pick : ACode := (.seq (.reg [
  ⟨some 4, none, .mv (.c (.p (.int .i64 0)))⟩] (some [0, 1]))
 (.seq (.reg [
  ⟨some 5, none, .mv (.t 1)⟩,
  ⟨some 6, none, .mv (.t 0)⟩,
  ⟨some 7, none, .mv (.t 1)⟩,
  ⟨some 8, none, .len (.t 7)⟩,
  ⟨some 9, none, .call f_scanmake_Stream_Next [(.t 6), (.t 8)]⟩,
  ⟨some 10, none, .iaddr none (.t 5) (.t 9)⟩,
  ⟨some 11, none, .load none (.t 10)⟩,
  ⟨some 4, none, .mv (.t 11)⟩] (some [4]))
 .ret))
def a_scanmake_Stream_Pick : AFun := ⟨2, [.t 4], P_scanmake_Stream_Pick, false, false⟩
def d_scanmake_Stream_Pick (C : Hd) (gl : Nat → Option PV) (v0 v1 : AV) (h : Heap) (x : Esc) (K : Ex → St → Prop) : Prop :=
 pK (oLen v1) fun t1 =>
 C f_scanmake_Stream_Next [v0, t1] h fun t2 h3 y4 =>
 pK (oIaddr none v1 t2 h3) fun t5 =>
 pK (oLoad none t5 h3) fun t6 =>
 K .ret ⟨[(4, t6)], h3, (y4 ++ x)⟩
theorem E_scanmake_Stream_Pick {C gl v0 v1 h x K} : NW C gl (P_scanmake_Stream_Pick) ⟨enter [v0, v1], h, x⟩ K = d_scanmake_Stream_Pick C gl v0 v1 h x K := by kernel_rfl
theorem e_scanmake_Stream_Pick {C gl v0 v1 h x K} : NW C gl a_scanmake_Stream_Pick.body ⟨enter [v0, v1], h, x⟩ K = d_scanmake_Stream_Pick C gl v0 v1 h x K := E_scanmake_Stream_Pick
def P_scanmake_Stream_Odd : ACode := (.seq (.reg [
  ⟨some 6, none, .mv (.c (.p (.int .i64 0)))⟩] (some [0, 1, 2]))
 (.seq (.seq (.reg [
  ⟨some 7, none, .mv (.t 0)⟩,
  ⟨some 8, none, .call f_scanmake_Stream_Flip [(.t 7), (.c (.p (.int .i64 12)))]⟩] (some [0, 1, 2, 8]))
 (.cond (.t 8) (.seq (.reg [
  ⟨some 9, none, .mv (.t 0)⟩,
  ⟨some 10, none, .mv (.t 1)⟩,
  ⟨some 11, none, .bin .sub (.t 10) (.c (.p (.int .i64 1)))⟩,
  ⟨some 12, none, .mv (.t 2)⟩,
  ⟨some 13, none, .bin .add (.t 12) (.c (.p (.int .i64 1)))⟩,
  ⟨some 14, none, .mv (.t 1)⟩,
  ⟨some 15, none, .mv (.t 2)⟩,
  ⟨some 16, none, .bsl false none 6 (.int .i64 0) [(0, (.t 11)), (1, (.t 13)), (2, (.t 14)), (3, (.t 15)), (4, (.c (.p (.int .i64 (-1099511627776))))), (5, (.c (.p (.int .i64 1099511627776))))]⟩,
  ⟨some 17, none, .call f_scanmake_Stream_Pick [(.t 9), (.t 16)]⟩,
  ⟨some 6, none, .mv (.t 17)⟩] (some [6]))
 .ret)
 .skip))
 (.seq (.reg [
  ⟨some 18, none, .mv (.t 0)⟩,
  ⟨some 19, none, .mv (.t 1)⟩,
  ⟨some 20, none, .mv (.t 2)⟩,
  ⟨some 21, none, .call f_scanmake_Stream_Range [(.t 18), (.t 19), (.t 20)]⟩,
  ⟨some 6, none, .mv (.t 21)⟩] (some [6]))
 .ret)))
def a_scanmake_Stream_Odd : AFun := ⟨3, [.t 6], P_scanmake_Stream_Odd, false, false⟩
def d_scanmake_Stream_Odd (C : Hd) (gl : Nat → Option PV) (v0 v1 v2 : AV) (h : Heap) (x : Esc) (K : Ex → St → Prop) : Prop :=
 C f_scanmake_Stream_Flip [v0, (.p (.int .i64 12))] h fun t1 h2 y3 =>
 condB t1 (pK (oBin .sub v1 (.p (.int .i64 1))) fun t4 =>
 pK (oBin .add v2 (.p (.int .i64 1))) fun t5 =>
 wK (oBsl false none 6 (.int .i64 0) [(0, t4), (1, t5), (2, v1), (3, v2), (4, (.p (.int .i64 (-1099511627776)))), (5, (.p (.int .i64 1099511627776)))] h2) fun t6 h7 y8 =>
 C f_scanmake_Stream_Pick [v0, t6] h7 fun t9 h10 y11 =>
 K .ret ⟨[(6, t9)], h10, (y11 ++ (y8 ++ (y3 ++ x)))⟩)
 (C f_scanmake_Stream_Range [v0, v1, v2] h2 fun t12 h13 y14 =>
 K .ret ⟨[(6, t12)], h13, (y14 ++ (y3 ++ x))⟩)
theorem E_scanmake_Stream_Odd {C gl v0 v1 v2 h x K} : NW C gl (P_scanmake_Stream_Odd) ⟨enter [v0, v1, v2], h, x⟩ K = d_scanmake_Stream_Odd C gl v0 v1 v2 h x K := by kernel_rfl
theorem e_scanmake_Stream_Odd {C gl v0 v1 v2 h x K} : NW C gl a_scanmake_Stream_Odd.body ⟨enter [v0, v1, v2], h, x⟩ K = d_scanmake_Stream_Odd C gl v0 v1 v2 h x K := E_scanmake_Stream_Odd
def P_scanmake_Stream_Flip : ACode := (.seq (.reg [
  ⟨some 4, none, .mv (.c (.p (.bool false)))⟩] (some [0, 1]))
 (.seq (.reg [
  ⟨some 5, none, .mv (.t 0)⟩,
  ⟨some 6, none, .mv (.t 1)⟩,
  ⟨some 7, none, .call f_scanmake_Stream_Next [(.t 5), (.t 6)]⟩,
  ⟨some 8, none, .bin .eql (.t 7) (.c (.p (.int .i64 0)))⟩,
  ⟨some 4, none, .mv (.t 8)⟩] (some [4]))
 .ret))
def a_scanmake_Stream_Flip : AFun := ⟨2, [.t 4], P_scanmake_Stream_Flip, false, false⟩
def d_scanmake_Stream_Flip (C : Hd) (gl : Nat → Option PV) (v0 v1 : AV) (h : Heap) (x : Esc) (K : Ex → St → Prop) : Prop :=
 C f_scanmake_Stream_Next [v0, v1] h fun t1 h2 y3 =>
 pK (oBin .eql t1 (.p (.int .i64 0))) fun t4 =>
 K .ret ⟨[(4, t4)], h2, (y3 ++ x)⟩
theorem E_scanmake_Stream_Flip {C gl v0 v1 h x K} : NW C gl (P_scanmake_Stream_Flip) ⟨enter [v0, v1], h, x⟩ K = d_scanmake_Stream_Flip C gl v0 v1 h x K := by kernel_rfl
theorem e_scanmake_Stream_Flip {C gl v0 v1 h x K} : NW C gl a_scanmake_Stream_Flip.body ⟨enter [v0, v1], h, x⟩ K = d_scanmake_Stream_Flip C gl v0 v1 h x K := E_scanmake_Stream_Flip
def P_scanmake_Stream_Range : ACode := (.seq (.reg [
  ⟨some 6, none, .mv (.c (.p (.int .i64 0)))⟩] (some [0, 1, 2]))
 (.seq (.seq (.reg [
  ⟨some 7, none, .mv (.t 2)⟩,
  ⟨some 8, none, .mv (.t 1)⟩,
  ⟨some 9, none, .bin .lss (.t 7) (.t 8)⟩] (some [0, 1, 2, 9]))
 (.cond (.t 9) (.seq (.reg [
  ⟨some 10, none, .mv (.t 1)⟩,
  ⟨some 6, none, .mv (.t 10)⟩] (some [6]))
 .ret)
 .skip))
 (.seq (.reg [
  ⟨some 11, none, .mv (.t 1)⟩,
  ⟨some 12, none, .mv (.t 0)⟩,
  ⟨some 13, none, .mv (.t 2)⟩,
  ⟨some 14, none, .mv (.t 1)⟩,
  ⟨some 15, none, .bin .sub (.t 13) (.t 14)⟩,
  ⟨some 16, none, .bin .add (.t 15) (.c (.p (.int .i64 1)))⟩,
  ⟨some 17, none, .call f_scanmake_Stream_Next [(.t 12), (.t 16)]⟩,
  ⟨some 18, none, .bin .add (.t 11) (.t 17)⟩,
  ⟨some 6, none, .mv (.t 18)⟩] (some [6]))
 .ret)))
def a_scanmake_Stream_Range : AFun := ⟨3, [.t 6], P_scanmake_Stream_Range, false, false⟩
def d_scanmake_Stream_Range (C : Hd) (gl : Nat → Option PV) (v0 v1 v2 : AV) (h : Heap) (x : Esc) (K : Ex → St → Prop) : Prop :=
 pK (oBin .lss v2 v1) fun t1 =>
 condB t1 (K .ret ⟨[(6, v1)], h, x⟩)
 (pK (oBin .sub v2 v1) fun t2 =>
 pK (oBin .add t2 (.p (.int .i64 1))) fun t3 =>
 C f_scanmake_Stream_Next [v0, t3] h fun t4 h5 y6 =>
 pK (oBin .add v1 t4) fun t7 =>
 K .ret ⟨[(6, t7)], h5, (y6 ++ x)⟩)
theorem E_scanmake_Stream_Range {C gl v0 v1 v2 h x K} : NW C gl (P_scanmake_Stream_Range) ⟨enter [v0, v1, v2], h, x⟩ K = d_scanmake_Stream_Range C gl v0 v1 v2 h x K := by kernel_rfl
theorem e_scanmake_Stream_Range {C gl v0 v1 v2 h x K} : NW C gl a_scanmake_Stream_Range.body ⟨enter [v0, v1, v2], h, x⟩ K = d_scanmake_Stream_Range C gl v0 v1 v2 h x K := E_scanmake_Stream_Range
def P_lot_Spread : ACode := (.seq (.reg [
  ⟨some 2, none, .alloc [.p (.int .i64 0), .p (.int .i64 0)]⟩,
  ⟨some 3, none, .alloc [.p (.int .i64 0), .p (.int .i64 0)]⟩,
  ⟨some 4, none, .mv (.c (.p (.int .i64 0)))⟩] (some [0, 2, 3]))
 (.seq (.seq (.reg [
  ⟨some 9, none, .mv (.t 0)⟩,
  ⟨some 10, none, .call f_lot_valuesFault [(.t 9), (.c (.p (.int .i64 1)))]⟩,
  ⟨some 5, none, .mv (.t 10)⟩] (some [0, 2, 3, 5]))
 (.seq (.reg [
  ⟨some 11, none, .mv (.t 5)⟩,
  ⟨some 12, none, .bin .neq (.t 11) (.c (.p (.int .i64 0)))⟩] (some [0, 2, 3, 5, 12]))
 (.cond (.t 12) (.seq (.reg [
  ⟨some 13, none, .build [.p (.int .i64 0), .p (.int .i64 0)] []⟩,
  ⟨some 14, none, .build [.p (.int .i64 0), .p (.int .i64 0)] []⟩,
  ⟨some 15, none, .mv (.t 5)⟩,
  ⟨none, none, .store (some 2) (.t 2) (.t 13)⟩,
  ⟨none, none, .store (some 2) (.t 3) (.t 14)⟩,
  ⟨some 4, none, .mv (.t 15)⟩] (some [2, 3, 4]))
 .ret)
 .skip)))
 (.seq (.reg [
  ⟨some 17, none, .mv (.t 0)⟩,
  ⟨some 18, none, .call f_lot_sums [(.t 17)]⟩,
  ⟨some 16, none, .mv (.t 18)⟩,
  ⟨some 19, none, .ext (.t 16) 0⟩,
  ⟨some 20, none, .ext (.t 16) 1⟩,
  ⟨some 6, none, .mv (.t 19)⟩,
  ⟨some 7, none, .mv (.t 20)⟩] (some [0, 2, 3, 6, 7]))
 (.seq (.reg [
  ⟨some 21, none, .mv (.t 0)⟩,
  ⟨some 22, none, .len (.t 21)⟩,
  ⟨some 8, none, .mv (.t 22)⟩] (some [2, 3, 6, 7, 8]))
 (.seq (.reg [
  ⟨some 23, none, .mv (.t 6)⟩,
  ⟨some 24, none, .mv (.t 8)⟩,
  ⟨some 25, none, .call f_base_Fraction [(.t 23), (.t 24)]⟩,
  ⟨some 26, none, .mv (.t 7)⟩,
  ⟨some 27, none, .mv (.t 8)⟩,
  ⟨some 28, none, .mv (.t 8)⟩,
  ⟨some 29, none, .bin .mul (.t 27) (.t 28)⟩,
  ⟨some 30, none, .call f_base_Fraction [(.t 26), (.t 29)]⟩,
  ⟨none, none, .store (some 2) (.t 2) (.t 25)⟩,
  ⟨none, none, .store (some 2) (.t 3) (.t 30)⟩,
  ⟨some 4, none, .mv (.c (.p (.int .i64 0)))⟩] (some [2, 3, 4]))
 .ret)))))
def a_lot_Spread : AFun := ⟨1, [.cell 2 (some 2), .cell 3 (some 2), .t 4], P_lot_Spread, false, false⟩
def d_lot_Spread (C : Hd) (gl : Nat → Option PV) (v0 : AV) (h : Heap) (x : Esc) (K : Ex → St → Prop) : Prop :=
 alK [.p (.int .i64 0), .p (.int .i64 0)] h fun t1 h2 y3 =>
 alK [.p (.int .i64 0), .p (.int .i64 0)] h2 fun t4 h5 y6 =>
 C f_lot_valuesFault [v0, (.p (.int .i64 1))] h5 fun t7 h8 y9 =>
 pK (oBin .neq t7 (.p (.int .i64 0))) fun t10 =>
 condB t10 (pK (oBuild [.p (.int .i64 0), .p (.int .i64 0)] []) fun t11 =>
 pK (oBuild [.p (.int .i64 0), .p (.int .i64 0)] []) fun t12 =>
 wK (oStore (some 2) t1 t11 h8) fun t13 h14 y15 =>
 wK (oStore (some 2) t4 t12 h14) fun t16 h17 y18 =>
 K .ret ⟨[(2, t1), (3, t4), (4, t7)], h17, (y18 ++ (y15 ++ (y9 ++ (y6 ++ (y3 ++ x)))))⟩)
 (C f_lot_sums [v0] h8 fun t19 h20 y21 =>
 pK (oExt t19 0) fun t22 =>
 pK (oExt t19 1) fun t23 =>
 pK (oLen v0) fun t24 =>
 C f_base_Fraction [t22, t24] h20 fun t25 h26 y27 =>
 pK (oBin .mul t24 t24) fun t28 =>
 C f_base_Fraction [t23, t28] h26 fun t29 h30 y31 =>
 wK (oStore (some 2) t1 t25 h30) fun t32 h33 y34 =>
 wK (oStore (some 2) t4 t29 h33) fun t35 h36 y37 =>
 K .ret ⟨[(2, t1), (3, t4), (4, (.p (.int .i64 0)))], h36, (y37 ++ (y34 ++ (y31 ++ (y27 ++ (y21 ++ (y9 ++ (y6 ++ (y3 ++ x))))))))⟩)
theorem E_lot_Spread {C gl v0 h x K} : NW C gl (P_lot_Spread) ⟨enter [v0], h, x⟩ K = d_lot_Spread C gl v0 h x K := by kernel_rfl
theorem e_lot_Spread {C gl v0 h x K} : NW C gl a_lot_Spread.body ⟨enter [v0], h, x⟩ K = d_lot_Spread C gl v0 h x K := E_lot_Spread
def p_scanlaw2_errs_k1 : ACode := .pr [5, 6, 7] (.seq (.reg [
  ⟨some 8, none, .bin .lss (.t 7) (.t 6)⟩] (some [5, 6, 7, 8]))
 (.seq (.cond (.t 8) .skip
 (.exit 0))
 (.seq (.block 1 (.seq (.reg [
  ⟨some 9, none, .iaddr none (.t 5) (.t 7)⟩,
  ⟨some 10, none, .load none (.t 9)⟩,
  ⟨some 4, none, .mv (.t 10)⟩] (some [4, 5, 6, 7]))
 (.seq (.reg [
  ⟨some 11, none, .mv (.t 4)⟩,
  ⟨some 12, none, .bin .neq (.t 11) (.c (.p (.int .i64 0)))⟩] (some [4, 5, 6, 7, 12]))
 (.cond (.t 12) (.seq (.reg [
  ⟨some 13, none, .mv (.t 4)⟩,
  ⟨some 2, none, .mv (.t 13)⟩] (some [2]))
 .ret)
 .skip))))
 (.reg [
  ⟨some 14, none, .bin .add (.t 7) (.c (.p (.int .i64 1)))⟩,
  ⟨some 7, none, .mv (.t 14)⟩] (some [5, 6, 7])))))
def d_scanlaw2_errs_k1 (C : Hd) (gl : Nat → Option PV) (v5 v6 v7 : AV) (h : Heap) (x : Esc) (K : Ex → St → Prop) : Prop :=
 pK (oBin .lss v7 v6) fun t1 =>
 condB t1 (pK (oIaddr none v5 v7 h) fun t2 =>
 pK (oLoad none t2 h) fun t3 =>
 pK (oBin .neq t3 (.p (.int .i64 0))) fun t4 =>
 condB t4 (K .ret ⟨[(2, t3)], h, x⟩)
 (pK (oBin .add v7 (.p (.int .i64 1))) fun t5 =>
 K .normal ⟨[(5, v5), (6, v6), (7, t5)], h, x⟩))
 (K (.exit 0) ⟨[(5, v5), (6, v6), (7, v7), (8, t1)], h, x⟩)
theorem e_scanlaw2_errs_k1 {C gl e h x K} : NW C gl p_scanlaw2_errs_k1 ⟨e, h, x⟩ K = d_scanlaw2_errs_k1 C gl (aget e 5) (aget e 6) (aget e 7) h x K := by kernel_rfl
theorem l_scanlaw2_errs_k1 {C gl e h x K} : NW C gl (.loop p_scanlaw2_errs_k1) ⟨e, h, x⟩ K = NLoop C gl p_scanlaw2_errs_k1 K [(5, aget e 5), (6, aget e 6), (7, aget e 7)] h x := NLoop_pr
def p_scanlaw2_errs_k2 : ACode := .pr [] (.seq (.reg [
  ⟨some 2, none, .mv (.c (.p (.int .i64 0)))⟩] (some [2]))
 .ret)
def d_scanlaw2_errs_k2 (C : Hd) (gl : Nat → Option PV) (h : Heap) (x : Esc) (K : Ex → St → Prop) : Prop :=
 K .ret ⟨[(2, (.p (.int .i64 0)))], h, x⟩
theorem e_scanlaw2_errs_k2 {C gl e h x K} : NW C gl p_scanlaw2_errs_k2 ⟨e, h, x⟩ K = d_scanlaw2_errs_k2 C gl h x K := by kernel_rfl
def P_scanlaw2_errs (q1 q2 : ACode) : ACode := (.seq (.reg [
  ⟨some 2, none, .mv (.c (.p (.int .i64 0)))⟩] (some [0]))
 (.seq (.seq (.reg [
  ⟨some 5, none, .mv (.t 0)⟩,
  ⟨some 6, none, .len (.t 5)⟩,
  ⟨some 7, none, .mv (.c (.p (.int .i64 0)))⟩] (some [5, 6, 7]))
 (.block 0 (.loop q1)))
 q2))
def a_scanlaw2_errs : AFun := ⟨1, [.t 2], P_scanlaw2_errs p_scanlaw2_errs_k1 p_scanlaw2_errs_k2, false, false⟩
def d_scanlaw2_errs (C : Hd) (gl : Nat → Option PV) (q1 q2 : ACode) (v0 : AV) (h : Heap) (x : Esc) (K : Ex → St → Prop) : Prop :=
 pK (oLen v0) fun t1 =>
 NW C gl (.loop q1) ⟨[(5, v0), (6, t1), (7, (.p (.int .i64 0)))], h, x⟩ (blockN 0 (seqN C gl q2 K))
theorem E_scanlaw2_errs {C gl q1 q2 v0 h x K} : NW C gl (P_scanlaw2_errs q1 q2) ⟨enter [v0], h, x⟩ K = d_scanlaw2_errs C gl q1 q2 v0 h x K := by kernel_rfl
theorem e_scanlaw2_errs {C gl v0 h x K} : NW C gl a_scanlaw2_errs.body ⟨enter [v0], h, x⟩ K = d_scanlaw2_errs C gl p_scanlaw2_errs_k1 p_scanlaw2_errs_k2 v0 h x K := E_scanlaw2_errs
def p_slices_Equal_int_int_k1 : ACode := .pr [0, 1, 12, 13] (.seq (.reg [
  ⟨some 14, none, .bin .lss (.t 13) (.t 12)⟩] (some [0, 1, 12, 13, 14]))
 (.seq (.cond (.t 14) .skip
 (.exit 0))
 (.seq (.block 1 (.seq (.reg [
  ⟨some 15, none, .mv (.t 13)⟩,
  ⟨some 5, none, .mv (.t 15)⟩] (some [0, 1, 5, 12, 13]))
 (.seq (.draw [
   ⟨⟨some 16, none, .mv (.t 0)⟩, [0], false, [], []⟩,
   ⟨⟨some 17, none, .mv (.t 5)⟩, [5], false, [], []⟩,
   ⟨⟨some 18, none, .iaddr none (.t 16) (.t 17)⟩, [16, 17], false, [], []⟩,
   ⟨⟨some 19, none, .load none (.t 18)⟩, [18], false, [], []⟩,
   ⟨⟨some 20, none, .mv (.t 1)⟩, [1], false, [], []⟩,
   ⟨⟨some 21, none, .mv (.t 5)⟩, [5], false, [], []⟩,
   ⟨⟨some 22, none, .iaddr none (.t 20) (.t 21)⟩, [20, 21], false, [], []⟩,
   ⟨⟨some 23, none, .load none (.t 22)⟩, [22], false, [], []⟩,
   ⟨⟨some 24, none, .bin .neq (.t 19) (.t 23)⟩, [19, 23], false, [], []⟩] (some [0, 1, 12, 13, 24]))
 (.cond (.t 24) (.seq (.reg [
  ⟨some 4, none, .mv (.c (.p (.bool false)))⟩] (some [4]))
 .ret)
 .skip))))
 (.reg [
  ⟨some 25, none, .bin .add (.t 13) (.c (.p (.int .i64 1)))⟩,
  ⟨some 13, none, .mv (.t 25)⟩] (some [0, 1, 12, 13])))))
def d_slices_Equal_int_int_k1 (C : Hd) (gl : Nat → Option PV) (v0 v1 v12 v13 : AV) (h : Heap) (x : Esc) (K : Ex → St → Prop) : Prop :=
 pK (oBin .lss v13 v12) fun t1 =>
 condB t1 (pK (oIaddr none v0 v13 h) fun t2 =>
 pK (oLoad none t2 h) fun t3 =>
 pK (oIaddr none v1 v13 h) fun t4 =>
 pK (oLoad none t4 h) fun t5 =>
 pK (oBin .neq t3 t5) fun t6 =>
 condB t6 (K .ret ⟨[(4, (.p (.bool false)))], h, x⟩)
 (pK (oBin .add v13 (.p (.int .i64 1))) fun t7 =>
 K .normal ⟨[(0, v0), (1, v1), (12, v12), (13, t7)], h, x⟩))
 (K (.exit 0) ⟨[(0, v0), (1, v1), (12, v12), (13, v13), (14, t1)], h, x⟩)
theorem e_slices_Equal_int_int_k1 {C gl e h x K} : NW C gl p_slices_Equal_int_int_k1 ⟨e, h, x⟩ K = d_slices_Equal_int_int_k1 C gl (aget e 0) (aget e 1) (aget e 12) (aget e 13) h x K := by kernel_rfl
theorem l_slices_Equal_int_int_k1 {C gl e h x K} : NW C gl (.loop p_slices_Equal_int_int_k1) ⟨e, h, x⟩ K = NLoop C gl p_slices_Equal_int_int_k1 K [(0, aget e 0), (1, aget e 1), (12, aget e 12), (13, aget e 13)] h x := NLoop_pr
def p_slices_Equal_int_int_k2 : ACode := .pr [] (.seq (.reg [
  ⟨some 4, none, .mv (.c (.p (.bool true)))⟩] (some [4]))
 .ret)
def d_slices_Equal_int_int_k2 (C : Hd) (gl : Nat → Option PV) (h : Heap) (x : Esc) (K : Ex → St → Prop) : Prop :=
 K .ret ⟨[(4, (.p (.bool true)))], h, x⟩
theorem e_slices_Equal_int_int_k2 {C gl e h x K} : NW C gl p_slices_Equal_int_int_k2 ⟨e, h, x⟩ K = d_slices_Equal_int_int_k2 C gl h x K := by kernel_rfl
def P_slices_Equal_int_int (q1 q2 : ACode) : ACode := (.seq (.reg [
  ⟨some 4, none, .mv (.c (.p (.bool false)))⟩] (some [0, 1]))
 (.seq (.seq (.reg [
  ⟨some 6, none, .mv (.t 0)⟩,
  ⟨some 7, none, .len (.t 6)⟩,
  ⟨some 8, none, .mv (.t 1)⟩,
  ⟨some 9, none, .len (.t 8)⟩,
  ⟨some 10, none, .bin .neq (.t 7) (.t 9)⟩] (some [0, 1, 10]))
 (.cond (.t 10) (.seq (.reg [
  ⟨some 4, none, .mv (.c (.p (.bool false)))⟩] (some [4]))
 .ret)
 .skip))
 (.seq (.seq (.reg [
  ⟨some 11, none, .mv (.t 0)⟩,
  ⟨some 12, none, .len (.t 11)⟩,
  ⟨some 13, none, .mv (.c (.p (.int .i64 0)))⟩] (some [0, 1, 12, 13]))
 (.block 0 (.loop q1)))
 q2)))
def a_slices_Equal_int_int : AFun := ⟨2, [.t 4], P_slices_Equal_int_int p_slices_Equal_int_int_k1 p_slices_Equal_int_int_k2, false, false⟩
def d_slices_Equal_int_int (C : Hd) (gl : Nat → Option PV) (q1 q2 : ACode) (v0 v1 : AV) (h : Heap) (x : Esc) (K : Ex → St → Prop) : Prop :=
 pK (oLen v0) fun t1 =>
 pK (oLen v1) fun t2 =>
 pK (oBin .neq t1 t2) fun t3 =>
 condB t3 (K .ret ⟨[(4, (.p (.bool false)))], h, x⟩)
 (pK (oLen v0) fun t4 =>
 NW C gl (.loop q1) ⟨[(0, v0), (1, v1), (12, t4), (13, (.p (.int .i64 0)))], h, x⟩ (blockN 0 (seqN C gl q2 K)))
theorem E_slices_Equal_int_int {C gl q1 q2 v0 v1 h x K} : NW C gl (P_slices_Equal_int_int q1 q2) ⟨enter [v0, v1], h, x⟩ K = d_slices_Equal_int_int C gl q1 q2 v0 v1 h x K := by kernel_rfl
theorem e_slices_Equal_int_int {C gl v0 v1 h x K} : NW C gl a_slices_Equal_int_int.body ⟨enter [v0, v1], h, x⟩ K = d_slices_Equal_int_int C gl p_slices_Equal_int_int_k1 p_slices_Equal_int_int_k2 v0 v1 h x K := E_slices_Equal_int_int
def P_scanlaw2_binned : ACode := (.seq (.reg [
  ⟨some 0, none, .mv (.c (.p (.bool false)))⟩] (some []))
 (.seq (.reg [
  ⟨some 5, none, .bsl false none 2 (.int .i64 0) [(0, (.c (.p (.int .i64 1)))), (1, (.c (.p (.int .i64 3))))]⟩,
  ⟨some 6, none, .call f_lot_Spread [(.t 5)]⟩,
  ⟨some 4, none, .mv (.t 6)⟩,
  ⟨some 7, none, .ext (.t 4) 0⟩,
  ⟨some 8, none, .ext (.t 4) 1⟩,
  ⟨some 9, none, .ext (.t 4) 2⟩,
  ⟨some 1, none, .alloc [.p (.int .i64 0), .p (.int .i64 0)]⟩,
  ⟨some 2, none, .alloc [.p (.int .i64 0), .p (.int .i64 0)]⟩,
  ⟨none, none, .store (some 2) (.t 1) (.t 7)⟩,
  ⟨none, none, .store (some 2) (.t 2) (.t 8)⟩,
  ⟨some 3, none, .mv (.t 9)⟩] (some [1, 2, 3]))
 (.seq (.reg [
  ⟨some 10, none, .mv (.t 3)⟩,
  ⟨some 11, none, .bin .eql (.t 10) (.c (.p (.int .i64 0)))⟩,
  ⟨some 12, none, .mv (.t 11)⟩,
  ⟨some 13, (some (12, true)), .load (some 2) (.t 1)⟩,
  ⟨some 14, (some (12, true)), .build [.p (.int .i64 0), .p (.int .i64 0)] [(0, 1, (.c (.p (.int .i64 2)))), (1, 1, (.c (.p (.int .i64 1))))]⟩,
  ⟨some 15, (some (12, true)), .eqa [0, 0] false (.t 13) (.t 14)⟩,
  ⟨some 16, none, .pick (.t 12) (.t 15) (.c (.p (.bool false)))⟩,
  ⟨some 17, none, .mv (.t 16)⟩,
  ⟨some 18, (some (17, true)), .load (some 2) (.t 2)⟩,
  ⟨some 19, (some (17, true)), .build [.p (.int .i64 0), .p (.int .i64 0)] [(0, 1, (.c (.p (.int .i64 1)))), (1, 1, (.c (.p (.int .i64 1))))]⟩,
  ⟨some 20, (some (17, true)), .eqa [0, 0] false (.t 18) (.t 19)⟩,
  ⟨some 21, none, .pick (.t 17) (.t 20) (.c (.p (.bool false)))⟩,
  ⟨some 0, none, .mv (.t 21)⟩] (some [0]))
 .ret)))
def a_scanlaw2_binned : AFun := ⟨0, [.t 0], P_scanlaw2_binned, false, false⟩
def d_scanlaw2_binned (C : Hd) (gl : Nat → Option PV) (h : Heap) (x : Esc) (K : Ex → St → Prop) : Prop :=
 wK (oBsl false none 2 (.int .i64 0) [(0, (.p (.int .i64 1))), (1, (.p (.int .i64 3)))] h) fun t1 h2 y3 =>
 C f_lot_Spread [t1] h2 fun t4 h5 y6 =>
 pK (oExt t4 0) fun t7 =>
 pK (oExt t4 1) fun t8 =>
 pK (oExt t4 2) fun t9 =>
 alK [.p (.int .i64 0), .p (.int .i64 0)] h5 fun t10 h11 y12 =>
 alK [.p (.int .i64 0), .p (.int .i64 0)] h11 fun t13 h14 y15 =>
 wK (oStore (some 2) t10 t7 h14) fun t16 h17 y18 =>
 wK (oStore (some 2) t13 t8 h17) fun t19 h20 y21 =>
 pK (oBin .eql t9 (.p (.int .i64 0))) fun t22 =>
 gP t22 true (oLoad (some 2) t10 h20) h20 fun t23 h24 y25 =>
 gP t22 true (oBuild [.p (.int .i64 0), .p (.int .i64 0)] [(0, 1, (.p (.int .i64 2))), (1, 1, (.p (.int .i64 1)))]) h24 fun t26 h27 y28 =>
 gP t22 true (oEqa [0, 0] false t23 t26) h27 fun t29 h30 y31 =>
 pK (oPick t22 t29 (.p (.bool false))) fun t32 =>
 gP t32 true (oLoad (some 2) t13 h30) h30 fun t33 h34 y35 =>
 gP t32 true (oBuild [.p (.int .i64 0), .p (.int .i64 0)] [(0, 1, (.p (.int .i64 1))), (1, 1, (.p (.int .i64 1)))]) h34 fun t36 h37 y38 =>
 gP t32 true (oEqa [0, 0] false t33 t36) h37 fun t39 h40 y41 =>
 pK (oPick t32 t39 (.p (.bool false))) fun t42 =>
 K .ret ⟨[(0, t42)], h40, (y41 ++ (y38 ++ (y35 ++ (y31 ++ (y28 ++ (y25 ++ (y21 ++ (y18 ++ (y15 ++ (y12 ++ (y6 ++ (y3 ++ x))))))))))))⟩
theorem E_scanlaw2_binned {C gl h x K} : NW C gl (P_scanlaw2_binned) ⟨enter [], h, x⟩ K = d_scanlaw2_binned C gl h x K := by kernel_rfl
theorem e_scanlaw2_binned {C gl h x K} : NW C gl a_scanlaw2_binned.body ⟨enter [], h, x⟩ K = d_scanlaw2_binned C gl h x K := E_scanlaw2_binned
def p_scanmake_Stream_LimitList_k1 : ACode := .pr [3] (.seq (.reg [
  ⟨some 34, none, .mv (.t 3)⟩,
  ⟨some 2, none, .mv (.t 34)⟩] (some [2]))
 .ret)
def d_scanmake_Stream_LimitList_k1 (C : Hd) (gl : Nat → Option PV) (v3 : AV) (h : Heap) (x : Esc) (K : Ex → St → Prop) : Prop :=
 K .ret ⟨[(2, v3)], h, x⟩
theorem e_scanmake_Stream_LimitList_k1 {C gl e h x K} : NW C gl p_scanmake_Stream_LimitList_k1 ⟨e, h, x⟩ K = d_scanmake_Stream_LimitList_k1 C gl (aget e 3) h x K := by kernel_rfl
def P_scanmake_Stream_LimitList (q1 : ACode) : ACode := (.seq (.reg [
  ⟨some 2, none, .mv (.c (.p (.sl (some 4) [])))⟩] (some [0]))
 (.seq (.reg [
  ⟨some 4, none, .build [.p (.str []), .p (.int .i64 0), .p (.int .i64 0), .p (.int .i64 0)] [(0, 1, (.c (.p (.str [118, 111, 108, 116])))), (2, 1, (.c (.p (.int .i64 10)))), (3, 1, (.c (.p (.int .i64 5))))]⟩,
  ⟨some 5, none, .mv (.t 0)⟩,
  ⟨some 6, none, .bsl false none 3 (.int .i64 0) [(0, (.c (.p (.int .i64 5)))), (1, (.c (.p (.int .i64 6)))), (2, (.c (.p (.int .i64 2))))]⟩,
  ⟨some 7, none, .call f_scanmake_Stream_Pick [(.t 5), (.t 6)]⟩,
  ⟨some 8, none, .build [.p (.str []), .p (.int .i64 0), .p (.int .i64 0), .p (.int .i64 0)] [(0, 1, (.c (.p (.str [97, 109, 112])))), (1, 1, (.c (.p (.int .i64 (-5))))), (2, 1, (.c (.p (.int .i64 5)))), (3, 1, (.t 7))]⟩,
  ⟨some 9, none, .build [.p (.str []), .p (.int .i64 0), .p (.int .i64 0), .p (.int .i64 0)] [(0, 1, (.c (.p (.str [104, 122])))), (1, 1, (.c (.p (.int .i64 3)))), (2, 1, (.c (.p (.int .i64 8)))), (3, 1, (.c (.p (.int .i64 9))))]⟩,
  ⟨some 10, none, .bsl true (some 4) 3 (.agg [.str [], .int .i64 0, .int .i64 0, .int .i64 0]) [(0, (.t 4)), (1, (.t 8)), (2, (.t 9))]⟩,
  ⟨some 11, none, .mv (.t 0)⟩,
  ⟨some 12, none, .call f_scanmake_Stream_Range [(.t 11), (.c (.p (.int .i64 1))), (.c (.p (.int .i64 3)))]⟩,
  ⟨some 13, none, .slice (some 4) (.t 10) none (some (.t 12)) none⟩,
  ⟨some 3, none, .mv (.t 13)⟩] (some [0, 3]))
 (.seq (.seq (.reg [
  ⟨some 14, none, .mv (.t 0)⟩,
  ⟨some 15, none, .call f_scanmake_Stream_Flip [(.t 14), (.c (.p (.int .i64 15)))]⟩] (some [0, 3, 15]))
 (.cond (.t 15) (.reg [
  ⟨some 16, none, .mv (.t 3)⟩,
  ⟨some 17, none, .mv (.t 0)⟩,
  ⟨some 18, none, .mv (.t 3)⟩,
  ⟨some 19, none, .len (.t 18)⟩,
  ⟨some 20, none, .call f_scanmake_Stream_Next [(.t 17), (.t 19)]⟩,
  ⟨some 21, none, .mv (.t 0)⟩,
  ⟨some 22, none, .bsl false none 3 (.str []) [(0, (.c (.p (.str [118, 111, 108, 116])))), (1, (.c (.p (.str [])))), (2, (.c (.p (.str [122]))))]⟩,
  ⟨some 23, none, .call f_scanmake_Stream_Some [(.t 21), (.t 22)]⟩,
  ⟨some 24, none, .mv (.t 0)⟩,
  ⟨some 25, none, .bsl false none 4 (.int .i64 0) [(0, (.c (.p (.int .i64 0)))), (1, (.c (.p (.int .i64 (-100000))))), (2, (.c (.p (.int .i64 (-100001))))), (3, (.c (.p (.int .i64 20))))]⟩,
  ⟨some 26, none, .call f_scanmake_Stream_Pick [(.t 24), (.t 25)]⟩,
  ⟨some 27, none, .mv (.t 0)⟩,
  ⟨some 28, none, .bsl false none 3 (.int .i64 0) [(0, (.c (.p (.int .i64 10)))), (1, (.c (.p (.int .i64 100000)))), (2, (.c (.p (.int .i64 100001))))]⟩,
  ⟨some 29, none, .call f_scanmake_Stream_Pick [(.t 27), (.t 28)]⟩,
  ⟨some 30, none, .mv (.t 0)⟩,
  ⟨some 31, none, .call f_scanmake_Stream_Odd [(.t 30), (.c (.p (.int .i64 2))), (.c (.p (.int .i64 100)))]⟩,
  ⟨some 32, none, .build [.p (.str []), .p (.int .i64 0), .p (.int .i64 0), .p (.int .i64 0)] [(0, 1, (.t 23)), (1, 1, (.t 26)), (2, 1, (.t 29)), (3, 1, (.t 31))]⟩,
  ⟨some 33, none, .iaddr (some 4) (.t 16) (.t 20)⟩,
  ⟨none, none, .store (some 4) (.t 33) (.t 32)⟩] (some [3]))
 .skip))
 q1)))
def a_scanmake_Stream_LimitList : AFun := ⟨1, [.t 2], P_scanmake_Stream_LimitList p_scanmake_Stream_LimitList_k1, false, false⟩
def d_scanmake_Stream_LimitList (C : Hd) (gl : Nat → Option PV) (q1 : ACode) (v0 : AV) (h : Heap) (x : Esc) (K : Ex → St → Prop) : Prop :=
 pK (oBuild [.p (.str []), .p (.int .i64 0), .p (.int .i64 0), .p (.int .i64 0)] [(0, 1, (.p (.str [118, 111, 108, 116]))), (2, 1, (.p (.int .i64 10))), (3, 1, (.p (.int .i64 5)))]) fun t1 =>
 wK (oBsl false none 3 (.int .i64 0) [(0, (.p (.int .i64 5))), (1, (.p (.int .i64 6))), (2, (.p (.int .i64 2)))] h) fun t2 h3 y4 =>
 C f_scanmake_Stream_Pick [v0, t2] h3 fun t5 h6 y7 =>
 pK (oBuild [.p (.str []), .p (.int .i64 0), .p (.int .i64 0), .p (.int .i64 0)] [(0, 1, (.p (.str [97, 109, 112]))), (1, 1, (.p (.int .i64 (-5)))), (2, 1, (.p (.int .i64 5))), (3, 1, t5)]) fun t8 =>
 pK (oBuild [.p (.str []), .p (.int .i64 0), .p (.int .i64 0), .p (.int .i64 0)] [(0, 1, (.p (.str [104, 122]))), (1, 1, (.p (.int .i64 3))), (2, 1, (.p (.int .i64 8))), (3, 1, (.p (.int .i64 9)))]) fun t9 =>
 wK (oBsl true (some 4) 3 (.agg [.str [], .int .i64 0, .int .i64 0, .int .i64 0]) [(0, t1), (1, t8), (2, t9)] h6) fun t10 h11 y12 =>
 C f_scanmake_Stream_Range [v0, (.p (.int .i64 1)), (.p (.int .i64 3))] h11 fun t13 h14 y15 =>
 pK (oSlice (some 4) t10 none (some t13) none h14) fun t16 =>
 C f_scanmake_Stream_Flip [v0, (.p (.int .i64 15))] h14 fun t17 h18 y19 =>
 condB t17 (pK (oLen t16) fun t20 =>
 C f_scanmake_Stream_Next [v0, t20] h18 fun t21 h22 y23 =>
 wK (oBsl false none 3 (.str []) [(0, (.p (.str [118, 111, 108, 116]))), (1, (.p (.str []))), (2, (.p (.str [122])))] h22) fun t24 h25 y26 =>
 C f_scanmake_Stream_Some [v0, t24] h25 fun t27 h28 y29 =>
 wK (oBsl false none 4 (.int .i64 0) [(0, (.p (.int .i64 0))), (1, (.p (.int .i64 (-100000)))), (2, (.p (.int .i64 (-100001)))), (3, (.p (.int .i64 20)))] h28) fun t30 h31 y32 =>
 C f_scanmake_Stream_Pick [v0, t30] h31 fun t33 h34 y35 =>
 wK (oBsl false none 3 (.int .i64 0) [(0, (.p (.int .i64 10))), (1, (.p (.int .i64 100000))), (2, (.p (.int .i64 100001)))] h34) fun t36 h37 y38 =>
 C f_scanmake_Stream_Pick [v0, t36] h37 fun t39 h40 y41 =>
 C f_scanmake_Stream_Odd [v0, (.p (.int .i64 2)), (.p (.int .i64 100))] h40 fun t42 h43 y44 =>
 pK (oBuild [.p (.str []), .p (.int .i64 0), .p (.int .i64 0), .p (.int .i64 0)] [(0, 1, t27), (1, 1, t33), (2, 1, t39), (3, 1, t42)]) fun t45 =>
 pK (oIaddr (some 4) t16 t21 h43) fun t46 =>
 wK (oStore (some 4) t46 t45 h43) fun t47 h48 y49 =>
 NW C gl q1 ⟨[(3, t16)], h48, (y49 ++ (y44 ++ (y41 ++ (y38 ++ (y35 ++ (y32 ++ (y29 ++ (y26 ++ (y23 ++ (y19 ++ (y15 ++ (y12 ++ (y7 ++ (y4 ++ x))))))))))))))⟩ K)
 (NW C gl q1 ⟨[(0, v0), (3, t16), (15, t17)], h18, (y19 ++ (y15 ++ (y12 ++ (y7 ++ (y4 ++ x)))))⟩ K)
theorem E_scanmake_Stream_LimitList {C gl q1 v0 h x K} : NW C gl (P_scanmake_Stream_LimitList q1) ⟨enter [v0], h, x⟩ K = d_scanmake_Stream_LimitList C gl q1 v0 h x K := by kernel_rfl
theorem e_scanmake_Stream_LimitList {C gl v0 h x K} : NW C gl a_scanmake_Stream_LimitList.body ⟨enter [v0], h, x⟩ K = d_scanmake_Stream_LimitList C gl p_scanmake_Stream_LimitList_k1 v0 h x K := E_scanmake_Stream_LimitList
def p_scanmake_Stream_Records_k1 : ACode := .pr [0, 1, 7, 8, 9, 11, 12, 13, 14, 29, 30, 31] (.seq (.reg [
  ⟨some 71, none, .faddr 3 none (.t 9)⟩,
  ⟨some 72, none, .load none (.t 71)⟩,
  ⟨some 73, none, .mv (.t 12)⟩,
  ⟨some 74, none, .bsl false none 1 (.int .i64 0) [(0, (.t 73))]⟩,
  ⟨some 75, none, .app none (.t 72) (.t 74)⟩,
  ⟨some 76, none, .faddr 3 none (.t 9)⟩,
  ⟨none, none, .store none (.t 76) (.t 75)⟩] (some [0, 1, 7, 8, 9, 11, 12, 13, 14, 29, 30, 31]))
 (.seq (.reg [
  ⟨some 77, none, .mv (.t 12)⟩,
  ⟨some 78, none, .faddr 1 none (.t 11)⟩,
  ⟨some 79, none, .load none (.t 78)⟩,
  ⟨some 80, none, .bin .lss (.t 77) (.t 79)⟩,
  ⟨some 81, none, .mv (.t 80)⟩,
  ⟨some 82, (some (81, false)), .mv (.t 12)⟩,
  ⟨some 83, (some (81, false)), .faddr 2 none (.t 11)⟩,
  ⟨some 84, (some (81, false)), .load none (.t 83)⟩,
  ⟨some 85, (some (81, false)), .bin .gtr (.t 82) (.t 84)⟩,
  ⟨some 86, none, .pick (.t 81) (.c (.p (.bool true))) (.t 85)⟩] (some [0, 1, 7, 8, 9, 13, 14, 29, 30, 31, 86]))
 (.cond (.t 86) (.exit 2)
 .skip)))
def d_scanmake_Stream_Records_k1 (C : Hd) (gl : Nat → Option PV) (v0 v1 v7 v8 v9 v11 v12 v13 v14 v29 v30 v31 : AV) (h : Heap) (x : Esc) (K : Ex → St → Prop) : Prop :=
 pK (oFaddr 3 none v9) fun t1 =>
 pK (oLoad none t1 h) fun t2 =>
 wK (oBsl false none 1 (.int .i64 0) [(0, v12)] h) fun t3 h4 y5 =>
 wK (oApp none t2 t3 h4) fun t6 h7 y8 =>
 pK (oFaddr 3 none v9) fun t9 =>
 wK (oStore none t9 t6 h7) fun t10 h11 y12 =>
 pK (oFaddr 1 none v11) fun t13 =>
 pK (oLoad none t13 h11) fun t14 =>
 pK (oBin .lss v12 t14) fun t15 =>
 gM t15 false v12 h11 fun t16 h17 y18 =>
 gP t15 false (oFaddr 2 none v11) h17 fun t19 h20 y21 =>
 gP t15 false (oLoad none t19 h20) h20 fun t22 h23 y24 =>
 gP t15 false (oBin .gtr t16 t22) h23 fun t25 h26 y27 =>
 pK (oPick t15 (.p (.bool true)) t25) fun t28 =>
 condB t28 (K (.exit 2) ⟨[(0, v0), (1, v1), (7, v7), (8, v8), (9, v9), (13, v13), (14, v14), (29, v29), (30, v30), (31, v31), (86, t28)], h26, (y27 ++ (y24 ++ (y21 ++ (y18 ++ (y12 ++ (y8 ++ (y5 ++ x)))))))⟩)
 (K .normal ⟨[(0, v0), (1, v1), (7, v7), (8, v8), (9, v9), (13, v13), (14, v14), (29, v29), (30, v30), (31, v31), (86, t28)], h26, (y27 ++ (y24 ++ (y21 ++ (y18 ++ (y12 ++ (y8 ++ (y5 ++ x)))))))⟩)
theorem e_scanmake_Stream_Records_k1 {C gl e h x K} : NW C gl p_scanmake_Stream_Records_k1 ⟨e, h, x⟩ K = d_scanmake_Stream_Records_k1 C gl (aget e 0) (aget e 1) (aget e 7) (aget e 8) (aget e 9) (aget e 11) (aget e 12) (aget e 13) (aget e 14) (aget e 29) (aget e 30) (aget e 31) h x K := by kernel_rfl
def p_scanmake_Stream_Records_k2 : ACode := .pr [0, 1, 7, 8, 9, 13, 14, 29, 30, 31] (.reg [
  ⟨some 87, none, .bin .add (.t 31) (.c (.p (.int .i64 1)))⟩,
  ⟨some 31, none, .mv (.t 87)⟩] (some [0, 1, 7, 8, 9, 13, 14, 29, 30, 31]))
def d_scanmake_Stream_Records_k2 (C : Hd) (gl : Nat → Option PV) (v0 v1 v7 v8 v9 v13 v14 v29 v30 v31 : AV) (h : Heap) (x : Esc) (K : Ex → St → Prop) : Prop :=
 pK (oBin .add v31 (.p (.int .i64 1))) fun t1 =>
 K .normal ⟨[(0, v0), (1, v1), (7, v7), (8, v8), (9, v9), (13, v13), (14, v14), (29, v29), (30, v30), (31, t1)], h, x⟩
theorem e_scanmake_Stream_Records_k2 {C gl e h x K} : NW C gl p_scanmake_Stream_Records_k2 ⟨e, h, x⟩ K = d_scanmake_Stream_Records_k2 C gl (aget e 0) (aget e 1) (aget e 7) (aget e 8) (aget e 9) (aget e 13) (aget e 14) (aget e 29) (aget e 30) (aget e 31) h x K := by kernel_rfl
def P_scanmake_Stream_Records_k3 (q1 q2 : ACode) : ACode := .pr [0, 1, 7, 8, 9, 13, 14, 29, 30, 31] (.seq (.reg [
  ⟨some 32, none, .bin .lss (.t 31) (.t 30)⟩] (some [0, 1, 7, 8, 9, 13, 14, 29, 30, 31, 32]))
 (.seq (.cond (.t 32) .skip
 (.exit 2))
 (.seq (.block 3 (.seq (.reg [
  ⟨some 33, none, .iaddr (some 4) (.t 29) (.t 31)⟩,
  ⟨some 34, none, .load (some 4) (.t 33)⟩,
  ⟨some 11, none, .alloc [.p (.str []), .p (.int .i64 0), .p (.int .i64 0), .p (.int .i64 0)]⟩,
  ⟨none, none, .store (some 4) (.t 11) (.t 34)⟩] (some [0, 1, 7, 8, 9, 11, 13, 14, 29, 30, 31]))
 (.seq (.reg [
  ⟨some 35, none, .mv (.t 0)⟩,
  ⟨some 36, none, .faddr 1 none (.t 11)⟩,
  ⟨some 37, none, .load none (.t 36)⟩,
  ⟨some 38, none, .faddr 2 none (.t 11)⟩,
  ⟨some 39, none, .load none (.t 38)⟩,
  ⟨some 40, none, .faddr 1 none (.t 11)⟩,
  ⟨some 41, none, .load none (.t 40)⟩,
  ⟨some 42, none, .faddr 2 none (.t 11)⟩,
  ⟨some 43, none, .load none (.t 42)⟩,
  ⟨some 44, none, .bin .add (.t 41) (.t 43)⟩,
  ⟨some 45, none, .bin .quo (.t 44) (.c (.p (.int .i64 2)))⟩,
  ⟨some 46, none, .faddr 1 none (.t 11)⟩,
  ⟨some 47, none, .load none (.t 46)⟩,
  ⟨some 48, none, .faddr 2 none (.t 11)⟩,
  ⟨some 49, none, .load none (.t 48)⟩,
  ⟨some 50, none, .bin .add (.t 47) (.t 49)⟩,
  ⟨some 51, none, .bin .quo (.t 50) (.c (.p (.int .i64 2)))⟩,
  ⟨some 52, none, .faddr 1 none (.t 11)⟩,
  ⟨some 53, none, .load none (.t 52)⟩,
  ⟨some 54, none, .bin .add (.t 53) (.c (.p (.int .i64 1)))⟩,
  ⟨some 55, none, .bsl false none 5 (.int .i64 0) [(0, (.t 37)), (1, (.t 39)), (2, (.t 45)), (3, (.t 51)), (4, (.t 54))]⟩,
  ⟨some 56, none, .call f_scanmake_Stream_Pick [(.t 35), (.t 55)]⟩,
  ⟨some 12, none, .mv (.t 56)⟩] (some [0, 1, 7, 8, 9, 11, 12, 13, 14, 29, 30, 31]))
 (.seq (.seq (.reg [
  ⟨some 57, none, .mv (.t 0)⟩,
  ⟨some 58, none, .call f_scanmake_Stream_Flip [(.t 57), (.c (.p (.int .i64 5)))]⟩] (some [0, 1, 7, 8, 9, 11, 12, 13, 14, 29, 30, 31, 58]))
 (.cond (.t 58) (.reg [
  ⟨some 59, none, .mv (.t 0)⟩,
  ⟨some 60, none, .faddr 1 none (.t 11)⟩,
  ⟨some 61, none, .load none (.t 60)⟩,
  ⟨some 62, none, .bin .sub (.t 61) (.c (.p (.int .i64 1)))⟩,
  ⟨some 63, none, .faddr 2 none (.t 11)⟩,
  ⟨some 64, none, .load none (.t 63)⟩,
  ⟨some 65, none, .bin .add (.t 64) (.c (.p (.int .i64 1)))⟩,
  ⟨some 66, none, .faddr 2 none (.t 11)⟩,
  ⟨some 67, none, .load none (.t 66)⟩,
  ⟨some 68, none, .bin .add (.t 67) (.c (.p (.int .i64 7)))⟩,
  ⟨some 69, none, .bsl false none 3 (.int .i64 0) [(0, (.t 62)), (1, (.t 65)), (2, (.t 68))]⟩,
  ⟨some 70, none, .call f_scanmake_Stream_Pick [(.t 59), (.t 69)]⟩,
  ⟨some 12, none, .mv (.t 70)⟩] (some [0, 1, 7, 8, 9, 11, 12, 13, 14, 29, 30, 31]))
 .skip))
 q1))))
 q2)))
def p_scanmake_Stream_Records_k3 : ACode := P_scanmake_Stream_Records_k3 p_scanmake_Stream_Records_k1 p_scanmake_Stream_Records_k2
def d_scanmake_Stream_Records_k3 (C : Hd) (gl : Nat → Option PV) (q1 q2 : ACode) (v0 v1 v7 v8 v9 v13 v14 v29 v30 v31 : AV) (h : Heap) (x : Esc) (K : Ex → St → Prop) : Prop :=
 pK (oBin .lss v31 v30) fun t1 =>
 condB t1 (pK (oIaddr (some 4) v29 v31 h) fun t2 =>
 pK (oLoad (some 4) t2 h) fun t3 =>
 alK [.p (.str []), .p (.int .i64 0), .p (.int .i64 0), .p (.int .i64 0)] h fun t4 h5 y6 =>
 wK (oStore (some 4) t4 t3 h5) fun t7 h8 y9 =>
 pK (oFaddr 1 none t4) fun t10 =>
 pK (oLoad none t10 h8) fun t11 =>
 pK (oFaddr 2 none t4) fun t12 =>
 pK (oLoad none t12 h8) fun t13 =>
 pK (oFaddr 1 none t4) fun t14 =>
 pK (oLoad none t14 h8) fun t15 =>
 pK (oFaddr 2 none t4) fun t16 =>
 pK (oLoad none t16 h8) fun t17 =>
 pK (oBin .add t15 t17) fun t18 =>
 pK (oBin .quo t18 (.p (.int .i64 2))) fun t19 =>
 pK (oFaddr 1 none t4) fun t20 =>
 pK (oLoad none t20 h8) fun t21 =>
 pK (oFaddr 2 none t4) fun t22 =>
 pK (oLoad none t22 h8) fun t23 =>
 pK (oBin .add t21 t23) fun t24 =>
 pK (oBin .quo t24 (.p (.int .i64 2))) fun t25 =>
 pK (oFaddr 1 none t4) fun t26 =>
 pK (oLoad none t26 h8) fun t27 =>
 pK (oBin .add t27 (.p (.int .i64 1))) fun t28 =>
 wK (oBsl false none 5 (.int .i64 0) [(0, t11), (1, t13), (2, t19), (3, t25), (4, t28)] h8) fun t29 h30 y31 =>
 C f_scanmake_Stream_Pick [v0, t29] h30 fun t32 h33 y34 =>
 C f_scanmake_Stream_Flip [v0, (.p (.int .i64 5))] h33 fun t35 h36 y37 =>
 condB t35 (pK (oFaddr 1 none t4) fun t38 =>
 pK (oLoad none t38 h36) fun t39 =>
 pK (oBin .sub t39 (.p (.int .i64 1))) fun t40 =>
 pK (oFaddr 2 none t4) fun t41 =>
 pK (oLoad none t41 h36) fun t42 =>
 pK (oBin .add t42 (.p (.int .i64 1))) fun t43 =>
 pK (oFaddr 2 none t4) fun t44 =>
 pK (oLoad none t44 h36) fun t45 =>
 pK (oBin .add t45 (.p (.int .i64 7))) fun t46 =>
 wK (oBsl false none 3 (.int .i64 0) [(0, t40), (1, t43), (2, t46)] h36) fun t47 h48 y49 =>
 C f_scanmake_Stream_Pick [v0, t47] h48 fun t50 h51 y52 =>
 NW C gl q1 ⟨[(0, v0), (1, v1), (7, v7), (8, v8), (9, v9), (11, t4), (12, t50), (13, v13), (14, v14), (29, v29), (30, v30), (31, v31)], h51, (y52 ++ (y49 ++ (y37 ++ (y34 ++ (y31 ++ (y9 ++ (y6 ++ x)))))))⟩ (blockN 3 (seqN C gl q2 K)))
 (NW C gl q1 ⟨[(0, v0), (1, v1), (7, v7), (8, v8), (9, v9), (11, t4), (12, t32), (13, v13), (14, v14), (29, v29), (30, v30), (31, v31), (58, t35)], h36, (y37 ++ (y34 ++ (y31 ++ (y9 ++ (y6 ++ x)))))⟩ (blockN 3 (seqN C gl q2 K))))
 (K (.exit 2) ⟨[(0, v0), (1, v1), (7, v7), (8, v8), (9, v9), (13, v13), (14, v14), (29, v29), (30, v30), (31, v31), (32, t1)], h, x⟩)
theorem E_scanmake_Stream_Records_k3 {C gl q1 q2 e h x K} : NW C gl (P_scanmake_Stream_Records_k3 q1 q2) ⟨e, h, x⟩ K = d_scanmake_Stream_Records_k3 C gl q1 q2 (aget e 0) (aget e 1) (aget e 7) (aget e 8) (aget e 9) (aget e 13) (aget e 14) (aget e 29) (aget e 30) (aget e 31) h x K := by kernel_rfl
theorem e_scanmake_Stream_Records_k3 {C gl e h x K} : NW C gl p_scanmake_Stream_Records_k3 ⟨e, h, x⟩ K = d_scanmake_Stream_Records_k3 C gl p_scanmake_Stream_Records_k1 p_scanmake_Stream_Records_k2 (aget e 0) (aget e 1) (aget e 7) (aget e 8) (aget e 9) (aget e 13) (aget e 14) (aget e 29) (aget e 30) (aget e 31) h x K := E_scanmake_Stream_Records_k3
theorem l_scanmake_Stream_Records_k3 {C gl e h x K} : NW C gl (.loop (.scope p_scanmake_Stream_Records_k3)) ⟨e, h, x⟩ K = NLoop C gl (.scope p_scanmake_Stream_Records_k3) K [(0, aget e 0), (1, aget e 1), (7, aget e 7), (8, aget e 8), (9, aget e 9), (13, aget e 13), (14, aget e 14), (29, aget e 29), (30, aget e 30), (31, aget e 31)] h x := NLoop_sc
def p_scanmake_Stream_Records_k4 : ACode := .pr [0, 1, 7, 8, 9, 13, 14] (.reg [
  ⟨some 125, none, .mv (.t 7)⟩,
  ⟨some 126, none, .load (some 4) (.t 9)⟩,
  ⟨some 127, none, .bsl false (some 4) 1 (.agg [.str [], .int .i64 0, .str [], .sl none []]) [(0, (.t 126))]⟩,
  ⟨some 128, none, .app (some 4) (.t 125) (.t 127)⟩,
  ⟨some 7, none, .mv (.t 128)⟩] (some [0, 1, 7, 8, 13, 14]))
def d_scanmake_Stream_Records_k4 (C : Hd) (gl : Nat → Option PV) (v0 v1 v7 v8 v9 v13 v14 : AV) (h : Heap) (x : Esc) (K : Ex → St → Prop) : Prop :=
 pK (oLoad (some 4) v9 h) fun t1 =>
 wK (oBsl false (some 4) 1 (.agg [.str [], .int .i64 0, .str [], .sl none []]) [(0, t1)] h) fun t2 h3 y4 =>
 wK (oApp (some 4) v7 t2 h3) fun t5 h6 y7 =>
 K .normal ⟨[(0, v0), (1, v1), (7, t5), (8, v8), (13, v13), (14, v14)], h6, (y7 ++ (y4 ++ x))⟩
theorem e_scanmake_Stream_Records_k4 {C gl e h x K} : NW C gl p_scanmake_Stream_Records_k4 ⟨e, h, x⟩ K = d_scanmake_Stream_Records_k4 C gl (aget e 0) (aget e 1) (aget e 7) (aget e 8) (aget e 9) (aget e 13) (aget e 14) h x K := by kernel_rfl
def P_scanmake_Stream_Records_k5 (q4 : ACode) : ACode := .pr [0, 1, 7, 8, 9, 13, 14] (.seq (.seq (.reg [
  ⟨some 88, none, .mv (.t 0)⟩,
  ⟨some 89, none, .call f_scanmake_Stream_Flip [(.t 88), (.c (.p (.int .i64 60)))]⟩] (some [0, 1, 7, 8, 9, 13, 14, 89]))
 (.cond (.t 89) (.seq (.reg [
  ⟨some 90, none, .mv (.t 0)⟩,
  ⟨some 91, none, .call f_scanmake_Stream_Next [(.t 90), (.c (.p (.int .i64 3)))]⟩] (some [0, 1, 7, 8, 9, 13, 14, 91]))
 (.block 4 (.seq (.reg [
  ⟨some 103, none, .bin .eql (.t 91) (.c (.p (.int .i64 0)))⟩,
  ⟨some 102, none, .mv (.t 103)⟩] (some [0, 1, 7, 8, 9, 13, 14, 91, 102]))
 (.cond (.t 102) (.reg [
  ⟨some 104, none, .mv (.t 0)⟩,
  ⟨some 105, none, .bsl false none 2 (.str []) [(0, (.c (.p (.str [])))), (1, (.c (.p (.str [117, 49]))))]⟩,
  ⟨some 106, none, .call f_scanmake_Stream_Some [(.t 104), (.t 105)]⟩,
  ⟨some 107, none, .mv (.t 0)⟩,
  ⟨some 108, none, .bsl false none 2 (.str []) [(0, (.c (.p (.str [65])))), (1, (.c (.p (.str [115, 49]))))]⟩,
  ⟨some 109, none, .call f_scanmake_Stream_Some [(.t 107), (.t 108)]⟩,
  ⟨some 110, none, .mv (.t 0)⟩,
  ⟨some 111, none, .call f_scanmake_Stream_Odd [(.t 110), (.c (.p (.int .i64 0))), (.c (.p (.int .i64 50)))]⟩,
  ⟨some 112, none, .faddr 0 none (.t 9)⟩,
  ⟨none, none, .store none (.t 112) (.t 106)⟩,
  ⟨some 113, none, .faddr 2 none (.t 9)⟩,
  ⟨none, none, .store none (.t 113) (.t 109)⟩,
  ⟨some 114, none, .faddr 1 none (.t 9)⟩,
  ⟨none, none, .store none (.t 114) (.t 111)⟩] (some [0, 1, 7, 8, 9, 13, 14]))
 (.seq (.reg [
  ⟨some 116, none, .bin .eql (.t 91) (.c (.p (.int .i64 1)))⟩,
  ⟨some 115, none, .mv (.t 116)⟩] (some [0, 1, 7, 8, 9, 13, 14, 115]))
 (.cond (.t 115) (.draw [
   ⟨⟨some 117, none, .faddr 3 none (.t 9)⟩, [9], false, [], []⟩,
   ⟨⟨some 118, none, .load none (.t 117)⟩, [117], false, [], []⟩,
   ⟨⟨some 119, none, .mv (.t 0)⟩, [0], false, [], []⟩,
   ⟨⟨some 120, none, .bsl false none 3 (.int .i64 0) [(0, (.c (.p (.int .i64 0)))), (1, (.c (.p (.int .i64 100001)))), (2, (.c (.p (.int .i64 (-100001)))))]⟩, [], false, [], []⟩,
   ⟨⟨some 121, none, .call f_scanmake_Stream_Pick [(.t 119), (.t 120)]⟩, [119, 120], true, [], [1]⟩,
   ⟨⟨some 122, none, .bsl false none 1 (.int .i64 0) [(0, (.t 121))]⟩, [121], false, [], []⟩,
   ⟨⟨some 123, none, .app none (.t 118) (.t 122)⟩, [118, 122], true, [], []⟩,
   ⟨⟨some 124, none, .faddr 3 none (.t 9)⟩, [9], false, [], []⟩,
   ⟨⟨none, none, .store none (.t 124) (.t 123)⟩, [124, 123], true, [], []⟩] (some [0, 1, 7, 8, 9, 13, 14]))
 (.draw [
   ⟨⟨some 92, none, .faddr 3 none (.t 9)⟩, [9], false, [], []⟩,
   ⟨⟨some 93, none, .load none (.t 92)⟩, [92], false, [], []⟩,
   ⟨⟨some 94, none, .mv (.t 0)⟩, [0], false, [], []⟩,
   ⟨⟨some 95, none, .faddr 3 none (.t 9)⟩, [9], false, [], []⟩,
   ⟨⟨some 96, none, .load none (.t 95)⟩, [95], false, [], []⟩,
   ⟨⟨some 97, none, .len (.t 96)⟩, [96], false, [], []⟩,
   ⟨⟨some 98, none, .bin .add (.t 97) (.c (.p (.int .i64 1)))⟩, [97], false, [], []⟩,
   ⟨⟨some 99, none, .call f_scanmake_Stream_Next [(.t 94), (.t 98)]⟩, [94, 98], true, [], [1]⟩,
   ⟨⟨some 100, none, .slice none (.t 93) none (some (.t 99)) none⟩, [93, 99], false, [], []⟩,
   ⟨⟨some 101, none, .faddr 3 none (.t 9)⟩, [9], false, [], []⟩,
   ⟨⟨none, none, .store none (.t 101) (.t 100)⟩, [101, 100], true, [], []⟩] (some [0, 1, 7, 8, 9, 13, 14]))))))))
 .skip))
 q4)
def p_scanmake_Stream_Records_k5 : ACode := P_scanmake_Stream_Records_k5 p_scanmake_Stream_Records_k4
def d_scanmake_Stream_Records_k5 (C : Hd) (gl : Nat → Option PV) (q4 : ACode) (v0 v1 v7 v8 v9 v13 v14 : AV) (h : Heap) (x : Esc) (K : Ex → St → Prop) : Prop :=
 C f_scanmake_Stream_Flip [v0, (.p (.int .i64 60))] h fun t1 h2 y3 =>
 condB t1 (C f_scanmake_Stream_Next [v0, (.p (.int .i64 3))] h2 fun t4 h5 y6 =>
 pK (oBin .eql t4 (.p (.int .i64 0))) fun t7 =>
 condB t7 (wK (oBsl false none 2 (.str []) [(0, (.p (.str []))), (1, (.p (.str [117, 49])))] h5) fun t8 h9 y10 =>
 C f_scanmake_Stream_Some [v0, t8] h9 fun t11 h12 y13 =>
 wK (oBsl false none 2 (.str []) [(0, (.p (.str [65]))), (1, (.p (.str [115, 49])))] h12) fun t14 h15 y16 =>
 C f_scanmake_Stream_Some [v0, t14] h15 fun t17 h18 y19 =>
 C f_scanmake_Stream_Odd [v0, (.p (.int .i64 0)), (.p (.int .i64 50))] h18 fun t20 h21 y22 =>
 pK (oFaddr 0 none v9) fun t23 =>
 wK (oStore none t23 t11 h21) fun t24 h25 y26 =>
 pK (oFaddr 2 none v9) fun t27 =>
 wK (oStore none t27 t17 h25) fun t28 h29 y30 =>
 pK (oFaddr 1 none v9) fun t31 =>
 wK (oStore none t31 t20 h29) fun t32 h33 y34 =>
 NW C gl q4 ⟨[(0, v0), (1, v1), (7, v7), (8, v8), (9, v9), (13, v13), (14, v14)], h33, (y34 ++ (y30 ++ (y26 ++ (y22 ++ (y19 ++ (y16 ++ (y13 ++ (y10 ++ (y6 ++ (y3 ++ x))))))))))⟩ K)
 (pK (oBin .eql t4 (.p (.int .i64 1))) fun t35 =>
 condB t35 (pK (oFaddr 3 none v9) fun t36 =>
 pK (oLoad none t36 h5) fun t37 =>
 wK (oBsl false none 3 (.int .i64 0) [(0, (.p (.int .i64 0))), (1, (.p (.int .i64 100001))), (2, (.p (.int .i64 (-100001))))] h5) fun t38 h39 y40 =>
 (h39 = h5 ∧ y40 = []) ∧ (callE C f_scanmake_Stream_Pick [v0, t38] h39 fun t41 h42 y43 =>
 (pK (oLoad none t36 h42) fun v => (fun u (g1 : Heap) (y1 : Esc) => u = t37 ∧ g1 = h42 ∧ y1 = []) v h42 []) ∧ (wK (oBsl false none 1 (.int .i64 0) [(0, t41)] h42) fun t44 h45 y46 =>
 (h45 = h42 ∧ y46 = []) ∧ (wK (oApp none t37 t44 h45) fun t47 h48 y49 =>
 pK (oFaddr 3 none v9) fun t50 =>
 wK (oStore none t50 t47 h48) fun t51 h52 y53 =>
 NW C gl q4 ⟨[(0, v0), (1, v1), (7, v7), (8, v8), (9, v9), (13, v13), (14, v14)], h52, (y53 ++ (y49 ++ (y46 ++ (y43 ++ (y40 ++ (y6 ++ (y3 ++ x)))))))⟩ K))))
 (pK (oFaddr 3 none v9) fun t54 =>
 pK (oLoad none t54 h5) fun t55 =>
 pK (oFaddr 3 none v9) fun t56 =>
 pK (oLoad none t56 h5) fun t57 =>
 pK (oLen t57) fun t58 =>
 pK (oBin .add t58 (.p (.int .i64 1))) fun t59 =>
 callE C f_scanmake_Stream_Next [v0, t59] h5 fun t60 h61 y62 =>
 (pK (oLoad none t54 h61) fun v => (fun u (g1 : Heap) (y1 : Esc) => u = t55 ∧ g1 = h61 ∧ y1 = []) v h61 []) ∧ (pK (oSlice none t55 none (some t60) none h61) fun t63 =>
 pK (oFaddr 3 none v9) fun t64 =>
 wK (oStore none t64 t63 h61) fun t65 h66 y67 =>
 NW C gl q4 ⟨[(0, v0), (1, v1), (7, v7), (8, v8), (9, v9), (13, v13), (14, v14)], h66, (y67 ++ (y62 ++ (y6 ++ (y3 ++ x))))⟩ K))))
 (NW C gl q4 ⟨[(0, v0), (1, v1), (7, v7), (8, v8), (9, v9), (13, v13), (14, v14), (89, t1)], h2, (y3 ++ x)⟩ K)
theorem E_scanmake_Stream_Records_k5 {C gl q4 e h x K} : NW C gl (P_scanmake_Stream_Records_k5 q4) ⟨e, h, x⟩ K = d_scanmake_Stream_Records_k5 C gl q4 (aget e 0) (aget e 1) (aget e 7) (aget e 8) (aget e 9) (aget e 13) (aget e 14) h x K := by kernel_rfl
theorem e_scanmake_Stream_Records_k5 {C gl e h x K} : NW C gl p_scanmake_Stream_Records_k5 ⟨e, h, x⟩ K = d_scanmake_Stream_Records_k5 C gl p_scanmake_Stream_Records_k4 (aget e 0) (aget e 1) (aget e 7) (aget e 8) (aget e 9) (aget e 13) (aget e 14) h x K := E_scanmake_Stream_Records_k5
def p_scanmake_Stream_Records_k6 : ACode := .pr [0, 1, 7, 8, 13, 14] (.reg [
  ⟨some 129, none, .bin .add (.t 14) (.c (.p (.int .i64 1)))⟩,
  ⟨some 14, none, .mv (.t 129)⟩] (some [0, 1, 7, 8, 13, 14]))
def d_scanmake_Stream_Records_k6 (C : Hd) (gl : Nat → Option PV) (v0 v1 v7 v8 v13 v14 : AV) (h : Heap) (x : Esc) (K : Ex → St → Prop) : Prop :=
 pK (oBin .add v14 (.p (.int .i64 1))) fun t1 =>
 K .normal ⟨[(0, v0), (1, v1), (7, v7), (8, v8), (13, v13), (14, t1)], h, x⟩
theorem e_scanmake_Stream_Records_k6 {C gl e h x K} : NW C gl p_scanmake_Stream_Records_k6 ⟨e, h, x⟩ K = d_scanmake_Stream_Records_k6 C gl (aget e 0) (aget e 1) (aget e 7) (aget e 8) (aget e 13) (aget e 14) h x K := by kernel_rfl
def P_scanmake_Stream_Records_k7 (q3 q5 q6 : ACode) : ACode := .pr [0, 1, 7, 8, 13, 14] (.seq (.reg [
  ⟨some 15, none, .bin .lss (.t 14) (.t 13)⟩] (some [0, 1, 7, 8, 13, 14, 15]))
 (.seq (.cond (.t 15) .skip
 (.exit 0))
 (.seq (.block 1 (.seq (.reg [
  ⟨some 16, none, .mv (.t 8)⟩,
  ⟨some 17, none, .mv (.t 0)⟩,
  ⟨some 18, none, .bsl false none 4 (.int .i64 0) [(0, (.c (.p (.int .i64 1)))), (1, (.c (.p (.int .i64 1)))), (2, (.c (.p (.int .i64 5)))), (3, (.c (.p (.int .i64 0))))]⟩,
  ⟨some 19, none, .call f_scanmake_Stream_Pick [(.t 17), (.t 18)]⟩,
  ⟨some 20, none, .bin .add (.t 16) (.t 19)⟩,
  ⟨some 8, none, .mv (.t 20)⟩] (some [0, 1, 7, 8, 13, 14]))
 (.seq (.reg [
  ⟨some 21, none, .mv (.t 0)⟩,
  ⟨some 22, none, .bsl false none 4 (.str []) [(0, (.c (.p (.str [117, 49])))), (1, (.c (.p (.str [117, 50])))), (2, (.c (.p (.str [117, 51])))), (3, (.c (.p (.str [117, 52]))))]⟩,
  ⟨some 23, none, .call f_scanmake_Stream_Some [(.t 21), (.t 22)]⟩,
  ⟨some 24, none, .mv (.t 8)⟩,
  ⟨some 25, none, .mv (.t 0)⟩,
  ⟨some 26, none, .bsl false none 3 (.str []) [(0, (.c (.p (.str [115, 49])))), (1, (.c (.p (.str [115, 49])))), (2, (.c (.p (.str [115, 50]))))]⟩,
  ⟨some 27, none, .call f_scanmake_Stream_Some [(.t 25), (.t 26)]⟩,
  ⟨some 28, none, .build [.p (.str []), .p (.int .i64 0), .p (.str []), .sl0 none] [(0, 1, (.t 23)), (1, 1, (.t 24)), (2, 1, (.t 27))]⟩,
  ⟨some 9, none, .alloc [.p (.str []), .p (.int .i64 0), .p (.str []), .sl0 none]⟩,
  ⟨none, none, .store (some 4) (.t 9) (.t 28)⟩] (some [0, 1, 7, 8, 9, 13, 14]))
 (.seq (.seq (.reg [
  ⟨some 29, none, .mv (.t 1)⟩,
  ⟨some 30, none, .len (.t 29)⟩,
  ⟨some 31, none, .mv (.c (.p (.int .i64 0)))⟩] (some [0, 1, 7, 8, 9, 13, 14, 29, 30, 31]))
 (.block 2 (.loop (.scope q3))))
 q5))))
 q6)))
def p_scanmake_Stream_Records_k7 : ACode := P_scanmake_Stream_Records_k7 p_scanmake_Stream_Records_k3 p_scanmake_Stream_Records_k5 p_scanmake_Stream_Records_k6
def d_scanmake_Stream_Records_k7 (C : Hd) (gl : Nat → Option PV) (q3 q5 q6 : ACode) (v0 v1 v7 v8 v13 v14 : AV) (h : Heap) (x : Esc) (K : Ex → St → Prop) : Prop :=
 pK (oBin .lss v14 v13) fun t1 =>
 condB t1 (wK (oBsl false none 4 (.int .i64 0) [(0, (.p (.int .i64 1))), (1, (.p (.int .i64 1))), (2, (.p (.int .i64 5))), (3, (.p (.int .i64 0)))] h) fun t2 h3 y4 =>
 C f_scanmake_Stream_Pick [v0, t2] h3 fun t5 h6 y7 =>
 pK (oBin .add v8 t5) fun t8 =>
 wK (oBsl false none 4 (.str []) [(0, (.p (.str [117, 49]))), (1, (.p (.str [117, 50]))), (2, (.p (.str [117, 51]))), (3, (.p (.str [117, 52])))] h6) fun t9 h10 y11 =>
 C f_scanmake_Stream_Some [v0, t9] h10 fun t12 h13 y14 =>
 wK (oBsl false none 3 (.str []) [(0, (.p (.str [115, 49]))), (1, (.p (.str [115, 49]))), (2, (.p (.str [115, 50])))] h13) fun t15 h16 y17 =>
 C f_scanmake_Stream_Some [v0, t15] h16 fun t18 h19 y20 =>
 pK (oBuild [.p (.str []), .p (.int .i64 0), .p (.str []), .sl0 none] [(0, 1, t12), (1, 1, t8), (2, 1, t18)]) fun t21 =>
 alK [.p (.str []), .p (.int .i64 0), .p (.str []), .sl0 none] h19 fun t22 h23 y24 =>
 wK (oStore (some 4) t22 t21 h23) fun t25 h26 y27 =>
 pK (oLen v1) fun t28 =>
 NW C gl (.loop (.scope q3)) ⟨[(0, v0), (1, v1), (7, v7), (8, t8), (9, t22), (13, v13), (14, v14), (29, v1), (30, t28), (31, (.p (.int .i64 0)))], h26, (y27 ++ (y24 ++ (y20 ++ (y17 ++ (y14 ++ (y11 ++ (y7 ++ (y4 ++ x))))))))⟩ (blockN 2 (seqN C gl q5 (blockN 1 (seqN C gl q6 K)))))
 (K (.exit 0) ⟨[(0, v0), (1, v1), (7, v7), (8, v8), (13, v13), (14, v14), (15, t1)], h, x⟩)
theorem E_scanmake_Stream_Records_k7 {C gl q3 q5 q6 e h x K} : NW C gl (P_scanmake_Stream_Records_k7 q3 q5 q6) ⟨e, h, x⟩ K = d_scanmake_Stream_Records_k7 C gl q3 q5 q6 (aget e 0) (aget e 1) (aget e 7) (aget e 8) (aget e 13) (aget e 14) h x K := by kernel_rfl
theorem e_scanmake_Stream_Records_k7 {C gl e h x K} : NW C gl p_scanmake_Stream_Records_k7 ⟨e, h, x⟩ K = d_scanmake_Stream_Records_k7 C gl p_scanmake_Stream_Records_k3 p_scanmake_Stream_Records_k5 p_scanmake_Stream_Records_k6 (aget e 0) (aget e 1) (aget e 7) (aget e 8) (aget e 13) (aget e 14) h x K := E_scanmake_Stream_Records_k7
theorem l_scanmake_Stream_Records_k7 {C gl e h x K} : NW C gl (.loop (.scope p_scanmake_Stream_Records_k7)) ⟨e, h, x⟩ K = NLoop C gl (.scope p_scanmake_Stream_Records_k7) K [(0, aget e 0), (1, aget e 1), (7, aget e 7), (8, aget e 8), (13, aget e 13), (14, aget e 14)] h x := NLoop_sc
def p_scanmake_Stream_Records_k8 : ACode := .pr [7] (.seq (.reg [
  ⟨some 130, none, .mv (.t 7)⟩,
  ⟨some 131, none, .call f_slices_SortStableFunc_api_Record_api_Record [(.t 130), (.f f_scanmake_Stream_Records_1)]⟩] (some [7]))
 (.seq (.reg [
  ⟨some 132, none, .mv (.t 7)⟩,
  ⟨some 133, none, .call f_slices_CompactFunc_api_Record_api_Record [(.t 132), (.f f_scanmake_Stream_Records_2)]⟩,
  ⟨some 6, none, .mv (.t 133)⟩] (some [6]))
 .ret))
def d_scanmake_Stream_Records_k8 (C : Hd) (gl : Nat → Option PV) (v7 : AV) (h : Heap) (x : Esc) (K : Ex → St → Prop) : Prop :=
 C f_slices_SortStableFunc_api_Record_api_Record [v7, (.fn f_scanmake_Stream_Records_1 [])] h fun t1 h2 y3 =>
 C f_slices_CompactFunc_api_Record_api_Record [v7, (.fn f_scanmake_Stream_Records_2 [])] h2 fun t4 h5 y6 =>
 K .ret ⟨[(6, t4)], h5, (y6 ++ (y3 ++ x))⟩
theorem e_scanmake_Stream_Records_k8 {C gl e h x K} : NW C gl p_scanmake_Stream_Records_k8 ⟨e, h, x⟩ K = d_scanmake_Stream_Records_k8 C gl (aget e 7) h x K := by kernel_rfl
def P_scanmake_Stream_Records (q7 q8 : ACode) : ACode := (.seq (.reg [
  ⟨some 6, none, .mv (.c (.p (.sl (some 4) [])))⟩] (some [0, 1, 2]))
 (.seq (.reg [
  ⟨some 7, none, .new0 (some 4)⟩] (some [0, 1, 2, 7]))
 (.seq (.reg [
  ⟨some 8, none, .mv (.c (.p (.int .i64 0)))⟩] (some [0, 1, 2, 7, 8]))
 (.seq (.seq (.reg [
  ⟨some 13, none, .mv (.t 2)⟩,
  ⟨some 14, none, .mv (.c (.p (.int .i64 0)))⟩] (some [0, 1, 7, 8, 13, 14]))
 (.block 0 (.loop (.scope q7))))
 q8))))
def a_scanmake_Stream_Records : AFun := ⟨3, [.t 6], P_scanmake_Stream_Records p_scanmake_Stream_Records_k7 p_scanmake_Stream_Records_k8, false, false⟩
def d_scanmake_Stream_Records (C : Hd) (gl : Nat → Option PV) (q7 q8 : ACode) (v0 v1 v2 : AV) (h : Heap) (x : Esc) (K : Ex → St → Prop) : Prop :=
 nwK (some 4) h fun t1 h2 y3 =>
 NW C gl (.loop (.scope q7)) ⟨[(0, v0), (1, v1), (7, t1), (8, (.p (.int .i64 0))), (13, v2), (14, (.p (.int .i64 0)))], h2, (y3 ++ x)⟩ (blockN 0 (seqN C gl q8 K))
theorem E_scanmake_Stream_Records {C gl q7 q8 v0 v1 v2 h x K} : NW C gl (P_scanmake_Stream_Records q7 q8) ⟨enter [v0, v1, v2], h, x⟩ K = d_scanmake_Stream_Records C gl q7 q8 v0 v1 v2 h x K := by kernel_rfl
theorem e_scanmake_Stream_Records {C gl v0 v1 v2 h x K} : NW C gl a_scanmake_Stream_Records.body ⟨enter [v0, v1, v2], h, x⟩ K = d_scanmake_Stream_Records C gl p_scanmake_Stream_Records_k7 p_scanmake_Stream_Records_k8 v0 v1 v2 h x K := E_scanmake_Stream_Records
def P_scanmake_Stream_Some : ACode := (.seq (.reg [
  ⟨some 4, none, .mv (.c (.p (.str [])))⟩] (some [0, 1]))
 (.seq (.reg [
  ⟨some 5, none, .mv (.t 1)⟩,
  ⟨some 6, none, .mv (.t 0)⟩,
  ⟨some 7, none, .mv (.t 1)⟩,
  ⟨some 8, none, .len (.t 7)⟩,
  ⟨some 9, none, .call f_scanmake_Stream_Next [(.t 6), (.t 8)]⟩,
  ⟨some 10, none, .iaddr none (.t 5) (.t 9)⟩,
  ⟨some 11, none, .load none (.t 10)⟩,
  ⟨some 4, none, .mv (.t 11)⟩] (some [4]))
 .ret))
def a_scanmake_Stream_Some : AFun := ⟨2, [.t 4], P_scanmake_Stream_Some, false, false⟩
def d_scanmake_Stream_Some (C : Hd) (gl : Nat → Option PV) (v0 v1 : AV) (h : Heap) (x : Esc) (K : Ex → St → Prop) : Prop :=
 pK (oLen v1) fun t1 =>
 C f_scanmake_Stream_Next [v0, t1] h fun t2 h3 y4 =>
 pK (oIaddr none v1 t2 h3) fun t5 =>
 pK (oLoad none t5 h3) fun t6 =>
 K .ret ⟨[(4, t6)], h3, (y4 ++ x)⟩
theorem E_scanmake_Stream_Some {C gl v0 v1 h x K} : NW C gl (P_scanmake_Stream_Some) ⟨enter [v0, v1], h, x⟩ K = d_scanmake_Stream_Some C gl v0 v1 h x K := by kernel_rfl
theorem e_scanmake_Stream_Some {C gl v0 v1 h x K} : NW C gl a_scanmake_Stream_Some.body ⟨enter [v0, v1], h, x⟩ K = d_scanmake_Stream_Some C gl v0 v1 h x K := E_scanmake_Stream_Some
def P_lot_Values : ACode := (.seq (.reg [
  ⟨some 6, none, .mv (.c (.p (.sl none [])))⟩,
  ⟨some 7, none, .mv (.c (.p (.int .i64 0)))⟩] (some [0, 1, 2]))
 (.seq (.seq (.reg [
  ⟨some 10, none, .mv (.t 0)⟩,
  ⟨some 11, none, .mv (.t 1)⟩,
  ⟨some 12, none, .call f_lot_CheckRecords [(.t 10), (.t 11)]⟩,
  ⟨some 8, none, .mv (.t 12)⟩] (some [0, 1, 2, 8]))
 (.seq (.reg [
  ⟨some 13, none, .mv (.t 8)⟩,
  ⟨some 14, none, .bin .neq (.t 13) (.c (.p (.int .i64 0)))⟩] (some [0, 1, 2, 8, 14]))
 (.cond (.t 14) (.seq (.reg [
  ⟨some 15, none, .mv (.t 8)⟩,
  ⟨some 6, none, .mv (.c (.p (.sl none [])))⟩,
  ⟨some 7, none, .mv (.t 15)⟩] (some [6, 7]))
 .ret)
 .skip)))
 (.seq (.reg [
  ⟨some 16, none, .mv (.t 0)⟩,
  ⟨some 17, none, .mv (.t 2)⟩,
  ⟨some 18, none, .call f_lot_find [(.t 16), (.t 17)]⟩,
  ⟨some 9, none, .mv (.t 18)⟩] (some [1, 9]))
 (.seq (.seq (.reg [
  ⟨some 19, none, .mv (.t 9)⟩,
  ⟨some 20, none, .bin .lss (.t 19) (.c (.p (.int .i64 0)))⟩] (some [1, 9, 20]))
 (.cond (.t 20) (.seq (.reg [
  ⟨some 6, none, .mv (.c (.p (.sl none [])))⟩,
  ⟨some 7, none, .mv (.c (.p (.int .i64 8)))⟩] (some [6, 7]))
 .ret)
 .skip))
 (.seq (.reg [
  ⟨some 21, none, .mv (.t 1)⟩,
  ⟨some 22, none, .mv (.t 9)⟩,
  ⟨some 23, none, .call f_lot_values [(.t 21), (.t 22)]⟩,
  ⟨some 6, none, .mv (.t 23)⟩,
  ⟨some 7, none, .mv (.c (.p (.int .i64 0)))⟩] (some [6, 7]))
 .ret)))))
def a_lot_Values : AFun := ⟨3, [.t 6, .t 7], P_lot_Values, false, false⟩
def d_lot_Values (C : Hd) (gl : Nat → Option PV) (v0 v1 v2 : AV) (h : Heap) (x : Esc) (K : Ex → St → Prop) : Prop :=
 C f_lot_CheckRecords [v0, v1] h fun t1 h2 y3 =>
 pK (oBin .neq t1 (.p (.int .i64 0))) fun t4 =>
 condB t4 (K .ret ⟨[(6, (.p (.sl none []))), (7, t1)], h2, (y3 ++ x)⟩)
 (C f_lot_find [v0, v2] h2 fun t5 h6 y7 =>
 pK (oBin .lss t5 (.p (.int .i64 0))) fun t8 =>
 condB t8 (K .ret ⟨[(6, (.p (.sl none []))), (7, (.p (.int .i64 8)))], h6, (y7 ++ (y3 ++ x))⟩)
 (C f_lot_values [v1, t5] h6 fun t9 h10 y11 =>
 K .ret ⟨[(6, t9), (7, (.p (.int .i64 0)))], h10, (y11 ++ (y7 ++ (y3 ++ x)))⟩))
theorem E_lot_Values {C gl v0 v1 v2 h x K} : NW C gl (P_lot_Values) ⟨enter [v0, v1, v2], h, x⟩ K = d_lot_Values C gl v0 v1 v2 h x K := by kernel_rfl
theorem e_lot_Values {C gl v0 v1 v2 h x K} : NW C gl a_lot_Values.body ⟨enter [v0, v1, v2], h, x⟩ K = d_lot_Values C gl v0 v1 v2 h x K := E_lot_Values
def p_lot_Tighter_k1 : ACode := .pr [14, 15, 16, 52, 53] (.reg [
  ⟨some 82, none, .bin .add (.t 53) (.c (.p (.int .i64 1)))⟩,
  ⟨some 53, none, .mv (.t 82)⟩] (some [14, 15, 16, 52, 53]))
def d_lot_Tighter_k1 (C : Hd) (gl : Nat → Option PV) (v14 v15 v16 v52 v53 : AV) (h : Heap) (x : Esc) (K : Ex → St → Prop) : Prop :=
 pK (oBin .add v53 (.p (.int .i64 1))) fun t1 =>
 K .normal ⟨[(14, v14), (15, v15), (16, v16), (52, v52), (53, t1)], h, x⟩
theorem e_lot_Tighter_k1 {C gl e h x K} : NW C gl p_lot_Tighter_k1 ⟨e, h, x⟩ K = d_lot_Tighter_k1 C gl (aget e 14) (aget e 15) (aget e 16) (aget e 52) (aget e 53) h x K := by kernel_rfl
def P_lot_Tighter_k2 (q1 : ACode) : ACode := .pr [14, 15, 16, 52, 53] (.seq (.reg [
  ⟨some 54, none, .bin .lss (.t 53) (.t 52)⟩] (some [14, 15, 16, 52, 53, 54]))
 (.seq (.cond (.t 54) .skip
 (.exit 1))
 (.seq (.block 2 (.seq (.reg [
  ⟨some 55, none, .mv (.t 53)⟩,
  ⟨some 17, none, .mv (.t 55)⟩] (some [14, 15, 16, 17, 52, 53]))
 (.seq (.draw [
   ⟨⟨some 56, none, .mv (.t 14)⟩, [14], false, [], []⟩,
   ⟨⟨some 57, none, .mv (.t 17)⟩, [17], false, [], []⟩,
   ⟨⟨some 58, none, .mv (.t 15)⟩, [15], false, [], []⟩,
   ⟨⟨some 59, none, .bin .add (.t 57) (.t 58)⟩, [57, 58], false, [], []⟩,
   ⟨⟨some 60, none, .bin .sub (.t 59) (.c (.p (.int .i64 1)))⟩, [59], false, [], []⟩,
   ⟨⟨some 61, none, .iaddr none (.t 56) (.t 60)⟩, [56, 60], false, [], []⟩,
   ⟨⟨some 62, none, .load none (.t 61)⟩, [61], false, [], []⟩,
   ⟨⟨some 63, none, .mv (.t 14)⟩, [14], false, [], []⟩,
   ⟨⟨some 64, none, .mv (.t 17)⟩, [17], false, [], []⟩,
   ⟨⟨some 65, none, .iaddr none (.t 63) (.t 64)⟩, [63, 64], false, [], []⟩,
   ⟨⟨some 66, none, .load none (.t 65)⟩, [65], false, [], []⟩,
   ⟨⟨some 67, none, .bin .sub (.t 62) (.t 66)⟩, [62, 66], false, [], []⟩,
   ⟨⟨some 68, none, .mv (.t 14)⟩, [14], false, [], []⟩,
   ⟨⟨some 69, none, .mv (.t 16)⟩, [16], false, [], []⟩,
   ⟨⟨some 70, none, .mv (.t 15)⟩, [15], false, [], []⟩,
   ⟨⟨some 71, none, .bin .add (.t 69) (.t 70)⟩, [69, 70], false, [], []⟩,
   ⟨⟨some 72, none, .bin .sub (.t 71) (.c (.p (.int .i64 1)))⟩, [71], false, [], []⟩,
   ⟨⟨some 73, none, .iaddr none (.t 68) (.t 72)⟩, [68, 72], false, [], []⟩,
   ⟨⟨some 74, none, .load none (.t 73)⟩, [73], false, [], []⟩,
   ⟨⟨some 75, none, .mv (.t 14)⟩, [14], false, [], []⟩,
   ⟨⟨some 76, none, .mv (.t 16)⟩, [16], false, [], []⟩,
   ⟨⟨some 77, none, .iaddr none (.t 75) (.t 76)⟩, [75, 76], false, [], []⟩,
   ⟨⟨some 78, none, .load none (.t 77)⟩, [77], false, [], []⟩,
   ⟨⟨some 79, none, .bin .sub (.t 74) (.t 78)⟩, [74, 78], false, [], []⟩,
   ⟨⟨some 80, none, .bin .lss (.t 67) (.t 79)⟩, [67, 79], false, [], []⟩] (some [14, 15, 16, 17, 52, 53, 80]))
 (.cond (.t 80) (.reg [
  ⟨some 81, none, .mv (.t 17)⟩,
  ⟨some 16, none, .mv (.t 81)⟩] (some [14, 15, 16, 52, 53]))
 .skip))))
 q1)))
def p_lot_Tighter_k2 : ACode := P_lot_Tighter_k2 p_lot_Tighter_k1
def d_lot_Tighter_k2 (C : Hd) (gl : Nat → Option PV) (q1 : ACode) (v14 v15 v16 v52 v53 : AV) (h : Heap) (x : Esc) (K : Ex → St → Prop) : Prop :=
 pK (oBin .lss v53 v52) fun t1 =>
 condB t1 (pK (oBin .add v53 v15) fun t2 =>
 pK (oBin .sub t2 (.p (.int .i64 1))) fun t3 =>
 pK (oIaddr none v14 t3 h) fun t4 =>
 pK (oLoad none t4 h) fun t5 =>
 pK (oIaddr none v14 v53 h) fun t6 =>
 pK (oLoad none t6 h) fun t7 =>
 pK (oBin .sub t5 t7) fun t8 =>
 pK (oBin .add v16 v15) fun t9 =>
 pK (oBin .sub t9 (.p (.int .i64 1))) fun t10 =>
 pK (oIaddr none v14 t10 h) fun t11 =>
 pK (oLoad none t11 h) fun t12 =>
 pK (oIaddr none v14 v16 h) fun t13 =>
 pK (oLoad none t13 h) fun t14 =>
 pK (oBin .sub t12 t14) fun t15 =>
 pK (oBin .lss t8 t15) fun t16 =>
 condB t16 (NW C gl q1 ⟨[(14, v14), (15, v15), (16, v53), (52, v52), (53, v53)], h, x⟩ K)
 (NW C gl q1 ⟨[(14, v14), (15, v15), (16, v16), (17, v53), (52, v52), (53, v53), (80, t16)], h, x⟩ K))
 (K (.exit 1) ⟨[(14, v14), (15, v15), (16, v16), (52, v52), (53, v53), (54, t1)], h, x⟩)
theorem E_lot_Tighter_k2 {C gl q1 e h x K} : NW C gl (P_lot_Tighter_k2 q1) ⟨e, h, x⟩ K = d_lot_Tighter_k2 C gl q1 (aget e 14) (aget e 15) (aget e 16) (aget e 52) (aget e 53) h x K := by kernel_rfl
theorem e_lot_Tighter_k2 {C gl e h x K} : NW C gl p_lot_Tighter_k2 ⟨e, h, x⟩ K = d_lot_Tighter_k2 C gl p_lot_Tighter_k1 (aget e 14) (aget e 15) (aget e 16) (aget e 52) (aget e 53) h x K := E_lot_Tighter_k2
theorem l_lot_Tighter_k2 {C gl e h x K} : NW C gl (.loop p_lot_Tighter_k2) ⟨e, h, x⟩ K = NLoop C gl p_lot_Tighter_k2 K [(14, aget e 14), (15, aget e 15), (16, aget e 16), (52, aget e 52), (53, aget e 53)] h x := NLoop_pr
def p_lot_Tighter_k3 : ACode := .pr [14, 15, 16] (.seq (.draw [
   ⟨⟨some 83, none, .mv (.t 14)⟩, [14], false, [], []⟩,
   ⟨⟨some 84, none, .mv (.t 16)⟩, [16], false, [], []⟩,
   ⟨⟨some 85, none, .iaddr none (.t 83) (.t 84)⟩, [83, 84], false, [], []⟩,
   ⟨⟨some 86, none, .load none (.t 85)⟩, [85], false, [], []⟩,
   ⟨⟨some 87, none, .mv (.t 14)⟩, [14], false, [], []⟩,
   ⟨⟨some 88, none, .mv (.t 16)⟩, [16], false, [], []⟩,
   ⟨⟨some 89, none, .mv (.t 15)⟩, [15], false, [], []⟩,
   ⟨⟨some 90, none, .bin .add (.t 88) (.t 89)⟩, [88, 89], false, [], []⟩,
   ⟨⟨some 91, none, .bin .sub (.t 90) (.c (.p (.int .i64 1)))⟩, [90], false, [], []⟩,
   ⟨⟨some 92, none, .iaddr none (.t 87) (.t 91)⟩, [87, 91], false, [], []⟩,
   ⟨⟨some 93, none, .load none (.t 92)⟩, [92], false, [], []⟩,
   ⟨⟨some 8, none, .mv (.t 86)⟩, [86], false, [], []⟩,
   ⟨⟨some 9, none, .mv (.t 93)⟩, [93], false, [], []⟩,
   ⟨⟨some 10, none, .mv (.c (.p (.bool true)))⟩, [], false, [], []⟩,
   ⟨⟨some 11, none, .mv (.c (.p (.int .i64 0)))⟩, [], false, [], []⟩] (some [8, 9, 10, 11]))
 .ret)
def d_lot_Tighter_k3 (C : Hd) (gl : Nat → Option PV) (v14 v15 v16 : AV) (h : Heap) (x : Esc) (K : Ex → St → Prop) : Prop :=
 pK (oIaddr none v14 v16 h) fun t1 =>
 pK (oLoad none t1 h) fun t2 =>
 pK (oBin .add v16 v15) fun t3 =>
 pK (oBin .sub t3 (.p (.int .i64 1))) fun t4 =>
 pK (oIaddr none v14 t4 h) fun t5 =>
 pK (oLoad none t5 h) fun t6 =>
 K .ret ⟨[(8, t2), (9, t6), (10, (.p (.bool true))), (11, (.p (.int .i64 0)))], h, x⟩
theorem e_lot_Tighter_k3 {C gl e h x K} : NW C gl p_lot_Tighter_k3 ⟨e, h, x⟩ K = d_lot_Tighter_k3 C gl (aget e 14) (aget e 15) (aget e 16) h x K := by kernel_rfl
def P_lot_Tighter (q2 q3 : ACode) : ACode := (.seq (.reg [
  ⟨some 4, none, .box (.t 0)⟩,
  ⟨some 8, none, .mv (.c (.p (.int .i64 0)))⟩,
  ⟨some 9, none, .mv (.c (.p (.int .i64 0)))⟩,
  ⟨some 10, none, .mv (.c (.p (.bool false)))⟩,
  ⟨some 11, none, .mv (.c (.p (.int .i64 0)))⟩] (some [1, 2, 3, 4]))
 (.seq (.seq (.reg [
  ⟨some 18, none, .load none (.t 4)⟩,
  ⟨some 19, none, .mv (.t 1)⟩,
  ⟨some 20, none, .call f_lot_CheckRecords [(.t 18), (.t 19)]⟩,
  ⟨some 12, none, .mv (.t 20)⟩] (some [1, 2, 3, 4, 12]))
 (.seq (.reg [
  ⟨some 21, none, .mv (.t 12)⟩,
  ⟨some 22, none, .bin .neq (.t 21) (.c (.p (.int .i64 0)))⟩] (some [1, 2, 3, 4, 12, 22]))
 (.cond (.t 22) (.seq (.reg [
  ⟨some 23, none, .mv (.t 12)⟩,
  ⟨some 8, none, .mv (.c (.p (.int .i64 0)))⟩,
  ⟨some 9, none, .mv (.c (.p (.int .i64 0)))⟩,
  ⟨some 10, none, .mv (.c (.p (.bool false)))⟩,
  ⟨some 11, none, .mv (.t 23)⟩] (some [8, 9, 10, 11]))
 .ret)
 .skip)))
 (.seq (.reg [
  ⟨some 24, none, .load none (.t 4)⟩,
  ⟨some 25, none, .mv (.t 2)⟩,
  ⟨some 26, none, .call f_lot_find [(.t 24), (.t 25)]⟩,
  ⟨some 13, none, .alloc [.p (.int .i64 0)]⟩,
  ⟨none, none, .store none (.t 13) (.t 26)⟩] (some [1, 3, 4, 13]))
 (.seq (.block 0 (.seq (.reg [
  ⟨some 28, none, .load none (.t 13)⟩,
  ⟨some 29, none, .bin .lss (.t 28) (.c (.p (.int .i64 0)))⟩,
  ⟨some 27, none, .mv (.t 29)⟩] (some [1, 3, 4, 13, 27]))
 (.cond (.t 27) (.seq (.reg [
  ⟨some 8, none, .mv (.c (.p (.int .i64 0)))⟩,
  ⟨some 9, none, .mv (.c (.p (.int .i64 0)))⟩,
  ⟨some 10, none, .mv (.c (.p (.bool false)))⟩,
  ⟨some 11, none, .mv (.c (.p (.int .i64 8)))⟩] (some [8, 9, 10, 11]))
 .ret)
 (.seq (.reg [
  ⟨some 31, none, .mv (.t 3)⟩,
  ⟨some 32, none, .call f_base_Out [(.t 31), (.c (.p (.int .i64 0))), (.c (.p (.int .i64 5000)))]⟩,
  ⟨some 30, none, .mv (.t 32)⟩] (some [1, 3, 4, 13, 30]))
 (.cond (.t 30) (.seq (.reg [
  ⟨some 8, none, .mv (.c (.p (.int .i64 0)))⟩,
  ⟨some 9, none, .mv (.c (.p (.int .i64 0)))⟩,
  ⟨some 10, none, .mv (.c (.p (.bool false)))⟩,
  ⟨some 11, none, .mv (.c (.p (.int .i64 1)))⟩] (some [8, 9, 10, 11]))
 .ret)
 .skip)))))
 (.seq (.reg [
  ⟨some 33, none, .mv (.t 1)⟩,
  ⟨some 34, none, .load none (.t 13)⟩,
  ⟨some 35, none, .call f_lot_values [(.t 33), (.t 34)]⟩,
  ⟨some 36, none, .mkfn f_lot_Tighter_1 [(.t 4), (.t 13)]⟩,
  ⟨some 37, none, .call f_slices_DeleteFunc_int_int [(.t 35), (.t 36)]⟩,
  ⟨some 14, none, .mv (.t 37)⟩] (some [3, 14]))
 (.seq (.seq (.reg [
  ⟨some 38, none, .mv (.t 14)⟩,
  ⟨some 39, none, .len (.t 38)⟩,
  ⟨some 40, none, .bin .eql (.t 39) (.c (.p (.int .i64 0)))⟩] (some [3, 14, 40]))
 (.cond (.t 40) (.seq (.reg [
  ⟨some 8, none, .mv (.c (.p (.int .i64 0)))⟩,
  ⟨some 9, none, .mv (.c (.p (.int .i64 0)))⟩,
  ⟨some 10, none, .mv (.c (.p (.bool false)))⟩,
  ⟨some 11, none, .mv (.c (.p (.int .i64 0)))⟩] (some [8, 9, 10, 11]))
 .ret)
 .skip))
 (.seq (.reg [
  ⟨some 41, none, .mv (.t 14)⟩,
  ⟨some 42, none, .call f_slices_Sort_int_int [(.t 41)]⟩] (some [3, 14]))
 (.seq (.reg [
  ⟨some 43, none, .mv (.t 14)⟩,
  ⟨some 44, none, .len (.t 43)⟩,
  ⟨some 45, none, .mv (.t 3)⟩,
  ⟨some 46, none, .bin .sub (.t 44) (.t 45)⟩,
  ⟨some 47, none, .mx [(.c (.p (.int .i64 1))), (.t 46)]⟩,
  ⟨some 15, none, .mv (.t 47)⟩] (some [14, 15]))
 (.seq (.reg [
  ⟨some 16, none, .mv (.c (.p (.int .i64 0)))⟩] (some [14, 15, 16]))
 (.seq (.seq (.reg [
  ⟨some 48, none, .mv (.t 14)⟩,
  ⟨some 49, none, .len (.t 48)⟩,
  ⟨some 50, none, .mv (.t 15)⟩,
  ⟨some 51, none, .bin .sub (.t 49) (.t 50)⟩,
  ⟨some 52, none, .bin .add (.t 51) (.c (.p (.int .i64 1)))⟩,
  ⟨some 53, none, .mv (.c (.p (.int .i64 0)))⟩] (some [14, 15, 16, 52, 53]))
 (.block 1 (.loop q2)))
 q3))))))))))
def a_lot_Tighter : AFun := ⟨4, [.t 8, .t 9, .t 10, .t 11], P_lot_Tighter p_lot_Tighter_k2 p_lot_Tighter_k3, false, false⟩
def d_lot_Tighter (C : Hd) (gl : Nat → Option PV) (q2 q3 : ACode) (v0 v1 v2 v3 : AV) (h : Heap) (x : Esc) (K : Ex → St → Prop) : Prop :=
 wK (oBox v0 h) fun t1 h2 y3 =>
 pK (oLoad none t1 h2) fun t4 =>
 C f_lot_CheckRecords [t4, v1] h2 fun t5 h6 y7 =>
 pK (oBin .neq t5 (.p (.int .i64 0))) fun t8 =>
 condB t8 (K .ret ⟨[(8, (.p (.int .i64 0))), (9, (.p (.int .i64 0))), (10, (.p (.bool false))), (11, t5)], h6, (y7 ++ (y3 ++ x))⟩)
 (pK (oLoad none t1 h6) fun t9 =>
 C f_lot_find [t9, v2] h6 fun t10 h11 y12 =>
 alK [.p (.int .i64 0)] h11 fun t13 h14 y15 =>
 wK (oStore none t13 t10 h14) fun t16 h17 y18 =>
 pK (oLoad none t13 h17) fun t19 =>
 pK (oBin .lss t19 (.p (.int .i64 0))) fun t20 =>
 condB t20 (K .ret ⟨[(8, (.p (.int .i64 0))), (9, (.p (.int .i64 0))), (10, (.p (.bool false))), (11, (.p (.int .i64 8)))], h17, (y18 ++ (y15 ++ (y12 ++ (y7 ++ (y3 ++ x)))))⟩)
 (C f_base_Out [v3, (.p (.int .i64 0)), (.p (.int .i64 5000))] h17 fun t21 h22 y23 =>
 condB t21 (K .ret ⟨[(8, (.p (.int .i64 0))), (9, (.p (.int .i64 0))), (10, (.p (.bool false))), (11, (.p (.int .i64 1)))], h22, (y23 ++ (y18 ++ (y15 ++ (y12 ++ (y7 ++ (y3 ++ x))))))⟩)
 (pK (oLoad none t13 h22) fun t24 =>
 C f_lot_values [v1, t24] h22 fun t25 h26 y27 =>
 C f_slices_DeleteFunc_int_int [t25, (.fn f_lot_Tighter_1 [t1, t13])] h26 fun t28 h29 y30 =>
 pK (oLen t28) fun t31 =>
 pK (oBin .eql t31 (.p (.int .i64 0))) fun t32 =>
 condB t32 (K .ret ⟨[(8, (.p (.int .i64 0))), (9, (.p (.int .i64 0))), (10, (.p (.bool false))), (11, (.p (.int .i64 0)))], h29, (y30 ++ (y27 ++ (y23 ++ (y18 ++ (y15 ++ (y12 ++ (y7 ++ (y3 ++ x))))))))⟩)
 (C f_slices_Sort_int_int [t28] h29 fun t33 h34 y35 =>
 pK (oLen t28) fun t36 =>
 pK (oBin .sub t36 v3) fun t37 =>
 pK (oMx [(.p (.int .i64 1)), t37]) fun t38 =>
 pK (oLen t28) fun t39 =>
 pK (oBin .sub t39 t38) fun t40 =>
 pK (oBin .add t40 (.p (.int .i64 1))) fun t41 =>
 NW C gl (.loop q2) ⟨[(14, t28), (15, t38), (16, (.p (.int .i64 0))), (52, t41), (53, (.p (.int .i64 0)))], h34, (y35 ++ (y30 ++ (y27 ++ (y23 ++ (y18 ++ (y15 ++ (y12 ++ (y7 ++ (y3 ++ x)))))))))⟩ (blockN 1 (seqN C gl q3 K))))))
theorem E_lot_Tighter {C gl q2 q3 v0 v1 v2 v3 h x K} : NW C gl (P_lot_Tighter q2 q3) ⟨enter [v0, v1, v2, v3], h, x⟩ K = d_lot_Tighter C gl q2 q3 v0 v1 v2 v3 h x K := by kernel_rfl
theorem e_lot_Tighter {C gl v0 v1 v2 v3 h x K} : NW C gl a_lot_Tighter.body ⟨enter [v0, v1, v2, v3], h, x⟩ K = d_lot_Tighter C gl p_lot_Tighter_k2 p_lot_Tighter_k3 v0 v1 v2 v3 h x K := E_lot_Tighter
def p_scanref2_RecordsFault_k1 : ACode := .pr [0, 1, 17, 18, 19] (.seq (.reg [
  ⟨some 20, none, .bin .lss (.t 19) (.t 18)⟩] (some [0, 1, 17, 18, 19, 20]))
 (.seq (.cond (.t 20) .skip
 (.exit 0))
 (.seq (.block 1 (.seq (.reg [
  ⟨some 21, none, .mv (.t 19)⟩,
  ⟨some 22, none, .iaddr (some 4) (.t 17) (.t 19)⟩,
  ⟨some 23, none, .load (some 4) (.t 22)⟩,
  ⟨some 7, none, .alloc [.p (.str []), .p (.int .i64 0), .p (.str []), .sl0 none]⟩,
  ⟨some 6, none, .mv (.t 21)⟩,
  ⟨none, none, .store (some 4) (.t 7) (.t 23)⟩] (some [0, 1, 6, 7, 17, 18, 19]))
 (.seq (.seq (.reg [
  ⟨some 24, none, .mv (.t 0)⟩,
  ⟨some 25, none, .load (some 4) (.t 7)⟩,
  ⟨some 26, none, .call f_scanref2_recordFault [(.t 24), (.t 25)]⟩,
  ⟨some 8, none, .mv (.t 26)⟩] (some [0, 1, 6, 7, 8, 17, 18, 19]))
 (.seq (.reg [
  ⟨some 27, none, .mv (.t 8)⟩,
  ⟨some 28, none, .bin .neq (.t 27) (.c (.p (.int .i64 0)))⟩] (some [0, 1, 6, 7, 8, 17, 18, 19, 28]))
 (.cond (.t 28) (.seq (.reg [
  ⟨some 29, none, .mv (.t 8)⟩,
  ⟨some 4, none, .mv (.t 29)⟩] (some [4]))
 .ret)
 .skip)))
 (.seq (.draw [
   ⟨⟨some 30, none, .mv (.t 6)⟩, [6], false, [], []⟩,
   ⟨⟨some 31, none, .bin .gtr (.t 30) (.c (.p (.int .i64 0)))⟩, [30], false, [], []⟩,
   ⟨⟨some 32, none, .mv (.t 31)⟩, [31], false, [], []⟩,
   ⟨⟨some 33, (some (32, true)), .mv (.t 1)⟩, [1, 32], false, [], []⟩,
   ⟨⟨some 34, (some (32, true)), .mv (.t 6)⟩, [6, 32], false, [], []⟩,
   ⟨⟨some 35, (some (32, true)), .bin .sub (.t 34) (.c (.p (.int .i64 1)))⟩, [34, 32], false, [], []⟩,
   ⟨⟨some 36, (some (32, true)), .iaddr (some 4) (.t 33) (.t 35)⟩, [33, 35, 32], false, [], []⟩,
   ⟨⟨some 37, (some (32, true)), .load (some 4) (.t 36)⟩, [36, 32], false, [], []⟩,
   ⟨⟨some 38, (some (32, true)), .load (some 4) (.t 7)⟩, [7, 32], false, [], []⟩,
   ⟨⟨some 39, (some (32, true)), .call f_scanref2_recordOrder [(.t 37), (.t 38)]⟩, [37, 38, 32], true, [], []⟩,
   ⟨⟨some 40, (some (32, true)), .bin .geq (.t 39) (.c (.p (.int .i64 0)))⟩, [39, 32], false, [], []⟩,
   ⟨⟨some 41, none, .pick (.t 32) (.t 40) (.c (.p (.bool false)))⟩, [32, 40], false, [], []⟩] (some [0, 1, 17, 18, 19, 41]))
 (.cond (.t 41) (.seq (.reg [
  ⟨some 4, none, .mv (.c (.p (.int .i64 7)))⟩] (some [4]))
 .ret)
 .skip)))))
 (.reg [
  ⟨some 42, none, .bin .add (.t 19) (.c (.p (.int .i64 1)))⟩,
  ⟨some 19, none, .mv (.t 42)⟩] (some [0, 1, 17, 18, 19])))))
def d_scanref2_RecordsFault_k1 (C : Hd) (gl : Nat → Option PV) (v0 v1 v17 v18 v19 : AV) (h : Heap) (x : Esc) (K : Ex → St → Prop) : Prop :=
 pK (oBin .lss v19 v18) fun t1 =>
 condB t1 (pK (oIaddr (some 4) v17 v19 h) fun t2 =>
 pK (oLoad (some 4) t2 h) fun t3 =>
 alK [.p (.str []), .p (.int .i64 0), .p (.str []), .sl0 none] h fun t4 h5 y6 =>
 wK (oStore (some 4) t4 t3 h5) fun t7 h8 y9 =>
 pK (oLoad (some 4) t4 h8) fun t10 =>
 C f_scanref2_recordFault [v0, t10] h8 fun t11 h12 y13 =>
 pK (oBin .neq t11 (.p (.int .i64 0))) fun t14 =>
 condB t14 (K .ret ⟨[(4, t11)], h12, (y13 ++ (y9 ++ (y6 ++ x)))⟩)
 (pK (oBin .gtr v19 (.p (.int .i64 0))) fun t15 =>
 gM t15 true v1 h12 fun t16 h17 y18 =>
 gM t15 true v19 h17 fun t19 h20 y21 =>
 gP t15 true (oBin .sub t19 (.p (.int .i64 1))) h20 fun t22 h23 y24 =>
 gP t15 true (oIaddr (some 4) t16 t22 h23) h23 fun t25 h26 y27 =>
 gP t15 true (oLoad (some 4) t25 h26) h26 fun t28 h29 y30 =>
 gP t15 true (oLoad (some 4) t4 h29) h29 fun t31 h32 y33 =>
 gV t15 true h32 (callE C f_scanref2_recordOrder [t28, t31] h32) fun t34 h35 y36 =>
 gP t15 true (oBin .geq t34 (.p (.int .i64 0))) h35 fun t37 h38 y39 =>
 pK (oPick t15 t37 (.p (.bool false))) fun t40 =>
 condB t40 (K .ret ⟨[(4, (.p (.int .i64 7)))], h38, (y39 ++ (y36 ++ (y33 ++ (y30 ++ (y27 ++ (y24 ++ (y21 ++ (y18 ++ (y13 ++ (y9 ++ (y6 ++ x)))))))))))⟩)
 (pK (oBin .add v19 (.p (.int .i64 1))) fun t41 =>
 K .normal ⟨[(0, v0), (1, v1), (17, v17), (18, v18), (19, t41)], h38, (y39 ++ (y36 ++ (y33 ++ (y30 ++ (y27 ++ (y24 ++ (y21 ++ (y18 ++ (y13 ++ (y9 ++ (y6 ++ x)))))))))))⟩)))
 (K (.exit 0) ⟨[(0, v0), (1, v1), (17, v17), (18, v18), (19, v19), (20, t1)], h, x⟩)
theorem e_scanref2_RecordsFault_k1 {C gl e h x K} : NW C gl p_scanref2_RecordsFault_k1 ⟨e, h, x⟩ K = d_scanref2_RecordsFault_k1 C gl (aget e 0) (aget e 1) (aget e 17) (aget e 18) (aget e 19) h x K := by kernel_rfl
theorem l_scanref2_RecordsFault_k1 {C gl e h x K} : NW C gl (.loop (.scope p_scanref2_RecordsFault_k1)) ⟨e, h, x⟩ K = NLoop C gl (.scope p_scanref2_RecordsFault_k1) K [(0, aget e 0), (1, aget e 1), (17, aget e 17), (18, aget e 18), (19, aget e 19)] h x := NLoop_sc
def p_scanref2_RecordsFault_k2 : ACode := .pr [] (.seq (.reg [
  ⟨some 4, none, .mv (.c (.p (.int .i64 0)))⟩] (some [4]))
 .ret)
def d_scanref2_RecordsFault_k2 (C : Hd) (gl : Nat → Option PV) (h : Heap) (x : Esc) (K : Ex → St → Prop) : Prop :=
 K .ret ⟨[(4, (.p (.int .i64 0)))], h, x⟩
theorem e_scanref2_RecordsFault_k2 {C gl e h x K} : NW C gl p_scanref2_RecordsFault_k2 ⟨e, h, x⟩ K = d_scanref2_RecordsFault_k2 C gl h x K := by kernel_rfl
def P_scanref2_RecordsFault (q1 q2 : ACode) : ACode := (.seq (.reg [
  ⟨some 4, none, .mv (.c (.p (.int .i64 0)))⟩] (some [0, 1]))
 (.seq (.seq (.reg [
  ⟨some 9, none, .mv (.t 0)⟩,
  ⟨some 10, none, .call f_scanref2_LimitsFault [(.t 9)]⟩,
  ⟨some 5, none, .mv (.t 10)⟩] (some [0, 1, 5]))
 (.seq (.reg [
  ⟨some 11, none, .mv (.t 5)⟩,
  ⟨some 12, none, .bin .neq (.t 11) (.c (.p (.int .i64 0)))⟩] (some [0, 1, 5, 12]))
 (.cond (.t 12) (.seq (.reg [
  ⟨some 13, none, .mv (.t 5)⟩,
  ⟨some 4, none, .mv (.t 13)⟩] (some [4]))
 .ret)
 .skip)))
 (.seq (.seq (.reg [
  ⟨some 14, none, .mv (.t 1)⟩,
  ⟨some 15, none, .len (.t 14)⟩,
  ⟨some 16, none, .bin .gtr (.t 15) (.c (.p (.int .i64 5000)))⟩] (some [0, 1, 16]))
 (.cond (.t 16) (.seq (.reg [
  ⟨some 4, none, .mv (.c (.p (.int .i64 2)))⟩] (some [4]))
 .ret)
 .skip))
 (.seq (.seq (.reg [
  ⟨some 17, none, .mv (.t 1)⟩,
  ⟨some 18, none, .len (.t 17)⟩,
  ⟨some 19, none, .mv (.c (.p (.int .i64 0)))⟩] (some [0, 1, 17, 18, 19]))
 (.block 0 (.loop (.scope q1))))
 q2))))
def a_scanref2_RecordsFault : AFun := ⟨2, [.t 4], P_scanref2_RecordsFault p_scanref2_RecordsFault_k1 p_scanref2_RecordsFault_k2, false, false⟩
def d_scanref2_RecordsFault (C : Hd) (gl : Nat → Option PV) (q1 q2 : ACode) (v0 v1 : AV) (h : Heap) (x : Esc) (K : Ex → St → Prop) : Prop :=
 C f_scanref2_LimitsFault [v0] h fun t1 h2 y3 =>
 pK (oBin .neq t1 (.p (.int .i64 0))) fun t4 =>
 condB t4 (K .ret ⟨[(4, t1)], h2, (y3 ++ x)⟩)
 (pK (oLen v1) fun t5 =>
 pK (oBin .gtr t5 (.p (.int .i64 5000))) fun t6 =>
 condB t6 (K .ret ⟨[(4, (.p (.int .i64 2)))], h2, (y3 ++ x)⟩)
 (pK (oLen v1) fun t7 =>
 NW C gl (.loop (.scope q1)) ⟨[(0, v0), (1, v1), (17, v1), (18, t7), (19, (.p (.int .i64 0)))], h2, (y3 ++ x)⟩ (blockN 0 (seqN C gl q2 K))))
theorem E_scanref2_RecordsFault {C gl q1 q2 v0 v1 h x K} : NW C gl (P_scanref2_RecordsFault q1 q2) ⟨enter [v0, v1], h, x⟩ K = d_scanref2_RecordsFault C gl q1 q2 v0 v1 h x K := by kernel_rfl
theorem e_scanref2_RecordsFault {C gl v0 v1 h x K} : NW C gl a_scanref2_RecordsFault.body ⟨enter [v0, v1], h, x⟩ K = d_scanref2_RecordsFault C gl p_scanref2_RecordsFault_k1 p_scanref2_RecordsFault_k2 v0 v1 h x K := E_scanref2_RecordsFault
def P_scanlaw2_when : ACode := (.seq (.reg [
  ⟨some 4, none, .mv (.c (.p (.int .i64 0)))⟩] (some [0, 1]))
 (.seq (.seq (.reg [
  ⟨some 5, none, .mv (.t 0)⟩] (some [1, 5]))
 (.cond (.t 5) (.seq (.reg [
  ⟨some 6, none, .mv (.t 1)⟩,
  ⟨some 4, none, .mv (.t 6)⟩] (some [4]))
 .ret)
 .skip))
 (.seq (.reg [
  ⟨some 4, none, .mv (.c (.p (.int .i64 0)))⟩] (some [4]))
 .ret)))
def a_scanlaw2_when : AFun := ⟨2, [.t 4], P_scanlaw2_when, false, false⟩
def d_scanlaw2_when (C : Hd) (gl : Nat → Option PV) (v0 v1 : AV) (h : Heap) (x : Esc) (K : Ex → St → Prop) : Prop :=
 condB v0 (K .ret ⟨[(4, v1)], h, x⟩)
 (K .ret ⟨[(4, (.p (.int .i64 0)))], h, x⟩)
theorem E_scanlaw2_when {C gl v0 v1 h x K} : NW C gl (P_scanlaw2_when) ⟨enter [v0, v1], h, x⟩ K = d_scanlaw2_when C gl v0 v1 h x K := by kernel_rfl
theorem e_scanlaw2_when {C gl v0 v1 h x K} : NW C gl a_scanlaw2_when.body ⟨enter [v0, v1], h, x⟩ K = d_scanlaw2_when C gl v0 v1 h x K := E_scanlaw2_when
def P_scanref2_TestAt : ACode := (.seq (.reg [
  ⟨some 3, none, .box (.t 1)⟩,
  ⟨some 4, none, .mv (.c (.p (.int .i64 0)))⟩] (some [0, 3]))
 (.seq (.reg [
  ⟨some 5, none, .mv (.t 0)⟩,
  ⟨some 6, none, .mkfn f_scanref2_TestAt_1 [(.t 3)]⟩,
  ⟨some 7, none, .call f_slices_IndexFunc_api_Limit_api_Limit [(.t 5), (.t 6)]⟩,
  ⟨some 4, none, .mv (.t 7)⟩] (some [4]))
 .ret))
def a_scanref2_TestAt : AFun := ⟨2, [.t 4], P_scanref2_TestAt, false, false⟩
def d_scanref2_TestAt (C : Hd) (gl : Nat → Option PV) (v0 v1 : AV) (h : Heap) (x : Esc) (K : Ex → St → Prop) : Prop :=
 wK (oBox v1 h) fun t1 h2 y3 =>
 C f_slices_IndexFunc_api_Limit_api_Limit [v0, (.fn f_scanref2_TestAt_1 [t1])] h2 fun t4 h5 y6 =>
 K .ret ⟨[(4, t4)], h5, (y6 ++ (y3 ++ x))⟩
theorem E_scanref2_TestAt {C gl v0 v1 h x K} : NW C gl (P_scanref2_TestAt) ⟨enter [v0, v1], h, x⟩ K = d_scanref2_TestAt C gl v0 v1 h x K := by kernel_rfl
theorem e_scanref2_TestAt {C gl v0 v1 h x K} : NW C gl a_scanref2_TestAt.body ⟨enter [v0, v1], h, x⟩ K = d_scanref2_TestAt C gl v0 v1 h x K := E_scanref2_TestAt
def p_scanref2_ValuesOf_k1 : ACode := .pr [7, 8, 14, 15, 16] (.reg [
  ⟨some 37, none, .bin .add (.t 16) (.c (.p (.int .i64 1)))⟩,
  ⟨some 16, none, .mv (.t 37)⟩] (some [7, 8, 14, 15, 16]))
def d_scanref2_ValuesOf_k1 (C : Hd) (gl : Nat → Option PV) (v7 v8 v14 v15 v16 : AV) (h : Heap) (x : Esc) (K : Ex → St → Prop) : Prop :=
 pK (oBin .add v16 (.p (.int .i64 1))) fun t1 =>
 K .normal ⟨[(7, v7), (8, v8), (14, v14), (15, v15), (16, t1)], h, x⟩
theorem e_scanref2_ValuesOf_k1 {C gl e h x K} : NW C gl p_scanref2_ValuesOf_k1 ⟨e, h, x⟩ K = d_scanref2_ValuesOf_k1 C gl (aget e 7) (aget e 8) (aget e 14) (aget e 15) (aget e 16) h x K := by kernel_rfl
def P_scanref2_ValuesOf_k2 (q1 : ACode) : ACode := .pr [7, 8, 14, 15, 16] (.seq (.reg [
  ⟨some 17, none, .bin .lss (.t 16) (.t 15)⟩] (some [7, 8, 14, 15, 16, 17]))
 (.seq (.cond (.t 17) .skip
 (.exit 0))
 (.seq (.block 1 (.seq (.reg [
  ⟨some 18, none, .iaddr (some 4) (.t 14) (.t 16)⟩,
  ⟨some 19, none, .load (some 4) (.t 18)⟩,
  ⟨some 10, none, .alloc [.p (.str []), .p (.int .i64 0), .p (.str []), .sl0 none]⟩,
  ⟨none, none, .store (some 4) (.t 10) (.t 19)⟩] (some [7, 8, 10, 14, 15, 16]))
 (.seq (.reg [
  ⟨some 20, none, .mv (.t 7)⟩,
  ⟨some 21, none, .bin .geq (.t 20) (.c (.p (.int .i64 0)))⟩,
  ⟨some 22, none, .mv (.t 21)⟩,
  ⟨some 23, (some (22, true)), .mv (.t 7)⟩,
  ⟨some 24, (some (22, true)), .faddr 3 none (.t 10)⟩,
  ⟨some 25, (some (22, true)), .load none (.t 24)⟩,
  ⟨some 26, (some (22, true)), .len (.t 25)⟩,
  ⟨some 27, (some (22, true)), .bin .lss (.t 23) (.t 26)⟩,
  ⟨some 28, none, .pick (.t 22) (.t 27) (.c (.p (.bool false)))⟩] (some [7, 8, 10, 14, 15, 16, 28]))
 (.cond (.t 28) (.reg [
  ⟨some 29, none, .mv (.t 8)⟩,
  ⟨some 30, none, .faddr 3 none (.t 10)⟩,
  ⟨some 31, none, .load none (.t 30)⟩,
  ⟨some 32, none, .mv (.t 7)⟩,
  ⟨some 33, none, .iaddr none (.t 31) (.t 32)⟩,
  ⟨some 34, none, .load none (.t 33)⟩,
  ⟨some 35, none, .bsl false none 1 (.int .i64 0) [(0, (.t 34))]⟩,
  ⟨some 36, none, .app none (.t 29) (.t 35)⟩,
  ⟨some 8, none, .mv (.t 36)⟩] (some [7, 8, 14, 15, 16]))
 .skip))))
 q1)))
def p_scanref2_ValuesOf_k2 : ACode := P_scanref2_ValuesOf_k2 p_scanref2_ValuesOf_k1
def d_scanref2_ValuesOf_k2 (C : Hd) (gl : Nat → Option PV) (q1 : ACode) (v7 v8 v14 v15 v16 : AV) (h : Heap) (x : Esc) (K : Ex → St → Prop) : Prop :=
 pK (oBin .lss v16 v15) fun t1 =>
 condB t1 (pK (oIaddr (some 4) v14 v16 h) fun t2 =>
 pK (oLoad (some 4) t2 h) fun t3 =>
 alK [.p (.str []), .p (.int .i64 0), .p (.str []), .sl0 none] h fun t4 h5 y6 =>
 wK (oStore (some 4) t4 t3 h5) fun t7 h8 y9 =>
 pK (oBin .geq v7 (.p (.int .i64 0))) fun t10 =>
 gM t10 true v7 h8 fun t11 h12 y13 =>
 gP t10 true (oFaddr 3 none t4) h12 fun t14 h15 y16 =>
 gP t10 true (oLoad none t14 h15) h15 fun t17 h18 y19 =>
 gP t10 true (oLen t17) h18 fun t20 h21 y22 =>
 gP t10 true (oBin .lss t11 t20) h21 fun t23 h24 y25 =>
 pK (oPick t10 t23 (.p (.bool false))) fun t26 =>
 condB t26 (pK (oFaddr 3 none t4) fun t27 =>
 pK (oLoad none t27 h24) fun t28 =>
 pK (oIaddr none t28 v7 h24) fun t29 =>
 pK (oLoad none t29 h24) fun t30 =>
 wK (oBsl false none 1 (.int .i64 0) [(0, t30)] h24) fun t31 h32 y33 =>
 wK (oApp none v8 t31 h32) fun t34 h35 y36 =>
 NW C gl q1 ⟨[(7, v7), (8, t34), (14, v14), (15, v15), (16, v16)], h35, (y36 ++ (y33 ++ (y25 ++ (y22 ++ (y19 ++ (y16 ++ (y13 ++ (y9 ++ (y6 ++ x)))))))))⟩ K)
 (NW C gl q1 ⟨[(7, v7), (8, v8), (10, t4), (14, v14), (15, v15), (16, v16), (28, t26)], h24, (y25 ++ (y22 ++ (y19 ++ (y16 ++ (y13 ++ (y9 ++ (y6 ++ x)))))))⟩ K))
 (K (.exit 0) ⟨[(7, v7), (8, v8), (14, v14), (15, v15), (16, v16), (17, t1)], h, x⟩)
theorem E_scanref2_ValuesOf_k2 {C gl q1 e h x K} : NW C gl (P_scanref2_ValuesOf_k2 q1) ⟨e, h, x⟩ K = d_scanref2_ValuesOf_k2 C gl q1 (aget e 7) (aget e 8) (aget e 14) (aget e 15) (aget e 16) h x K := by kernel_rfl
theorem e_scanref2_ValuesOf_k2 {C gl e h x K} : NW C gl p_scanref2_ValuesOf_k2 ⟨e, h, x⟩ K = d_scanref2_ValuesOf_k2 C gl p_scanref2_ValuesOf_k1 (aget e 7) (aget e 8) (aget e 14) (aget e 15) (aget e 16) h x K := E_scanref2_ValuesOf_k2
theorem l_scanref2_ValuesOf_k2 {C gl e h x K} : NW C gl (.loop (.scope p_scanref2_ValuesOf_k2)) ⟨e, h, x⟩ K = NLoop C gl (.scope p_scanref2_ValuesOf_k2) K [(7, aget e 7), (8, aget e 8), (14, aget e 14), (15, aget e 15), (16, aget e 16)] h x := NLoop_sc
def p_scanref2_ValuesOf_k3 : ACode := .pr [8] (.seq (.reg [
  ⟨some 38, none, .mv (.t 8)⟩,
  ⟨some 6, none, .mv (.t 38)⟩] (some [6]))
 .ret)
def d_scanref2_ValuesOf_k3 (C : Hd) (gl : Nat → Option PV) (v8 : AV) (h : Heap) (x : Esc) (K : Ex → St → Prop) : Prop :=
 K .ret ⟨[(6, v8)], h, x⟩
theorem e_scanref2_ValuesOf_k3 {C gl e h x K} : NW C gl p_scanref2_ValuesOf_k3 ⟨e, h, x⟩ K = d_scanref2_ValuesOf_k3 C gl (aget e 8) h x K := by kernel_rfl
def P_scanref2_ValuesOf (q2 q3 : ACode) : ACode := (.seq (.reg [
  ⟨some 6, none, .mv (.c (.p (.sl none [])))⟩] (some [0, 1, 2]))
 (.seq (.reg [
  ⟨some 11, none, .mv (.t 0)⟩,
  ⟨some 12, none, .mv (.t 2)⟩,
  ⟨some 13, none, .call f_scanref2_TestAt [(.t 11), (.t 12)]⟩,
  ⟨some 7, none, .mv (.t 13)⟩] (some [1, 7]))
 (.seq (.reg [
  ⟨some 8, none, .new0 none⟩] (some [1, 7, 8]))
 (.seq (.seq (.reg [
  ⟨some 14, none, .mv (.t 1)⟩,
  ⟨some 15, none, .len (.t 14)⟩,
  ⟨some 16, none, .mv (.c (.p (.int .i64 0)))⟩] (some [7, 8, 14, 15, 16]))
 (.block 0 (.loop (.scope q2))))
 q3))))
def a_scanref2_ValuesOf : AFun := ⟨3, [.t 6], P_scanref2_ValuesOf p_scanref2_ValuesOf_k2 p_scanref2_ValuesOf_k3, false, true⟩
def d_scanref2_ValuesOf (C : Hd) (gl : Nat → Option PV) (q2 q3 : ACode) (v0 v1 v2 : AV) (h : Heap) (x : Esc) (K : Ex → St → Prop) : Prop :=
 C f_scanref2_TestAt [v0, v2] h fun t1 h2 y3 =>
 nwK none h2 fun t4 h5 y6 =>
 pK (oLen v1) fun t7 =>
 NW C gl (.loop (.scope q2)) ⟨[(7, t1), (8, t4), (14, v1), (15, t7), (16, (.p (.int .i64 0)))], h5, (y6 ++ (y3 ++ x))⟩ (blockN 0 (seqN C gl q3 K))
theorem E_scanref2_ValuesOf {C gl q2 q3 v0 v1 v2 h x K} : NW C gl (P_scanref2_ValuesOf q2 q3) ⟨enter [v0, v1, v2], h, x⟩ K = d_scanref2_ValuesOf C gl q2 q3 v0 v1 v2 h x K := by kernel_rfl
theorem e_scanref2_ValuesOf {C gl v0 v1 v2 h x K} : NW C gl a_scanref2_ValuesOf.body ⟨enter [v0, v1, v2], h, x⟩ K = d_scanref2_ValuesOf C gl p_scanref2_ValuesOf_k2 p_scanref2_ValuesOf_k3 v0 v1 v2 h x K := E_scanref2_ValuesOf
end Go.Am
end
