/- Texts of the proof, laid together: CodesA. -/
import Derived.KernelRfl
import Derived.Test.YtfaalgbponfmgaaGreatlawRS4
set_option linter.all false
section
/- The functions as abstract code, and as formulas over their values: printed by program out of the translation. -/
set_option linter.unusedVariables false
set_option maxRecDepth 100000
namespace Go.Am
def p_scanlaw2_RecordsSorted_k1 : ACode := .pr [4, 5, 8, 9, 10, 11, 12, 13, 14, 15, 16, 17, 18] (.seq (.reg [
  ⟨some 110, none, .mv (.t 4)⟩,
  ⟨some 111, none, .call f_lot_CheckLimits [(.t 110)]⟩,
  ⟨some 112, none, .mv (.t 4)⟩,
  ⟨some 113, none, .call f_scanref2_LimitsFault [(.t 112)]⟩,
  ⟨some 114, none, .bin .eql (.t 111) (.t 113)⟩,
  ⟨some 115, none, .mv (.t 114)⟩,
  ⟨some 116, (some (115, true)), .mv (.t 4)⟩,
  ⟨some 117, (some (115, true)), .mv (.t 5)⟩,
  ⟨some 118, (some (115, true)), .call f_lot_CheckRecords [(.t 116), (.t 117)]⟩,
  ⟨some 119, (some (115, true)), .mv (.t 13)⟩,
  ⟨some 120, (some (115, true)), .bin .eql (.t 118) (.t 119)⟩,
  ⟨some 121, none, .pick (.t 115) (.t 120) (.c (.p (.bool false)))⟩,
  ⟨some 122, none, .mv (.t 121)⟩,
  ⟨some 123, (some (122, true)), .mv (.t 9)⟩,
  ⟨some 124, (some (122, true)), .mv (.t 14)⟩,
  ⟨some 125, (some (122, true)), .bin .eql (.t 123) (.t 124)⟩,
  ⟨some 126, none, .pick (.t 122) (.t 125) (.c (.p (.bool false)))⟩,
  ⟨some 127, none, .mv (.t 126)⟩,
  ⟨some 128, (some (127, true)), .mv (.t 8)⟩,
  ⟨some 129, (some (127, true)), .mv (.t 16)⟩,
  ⟨some 130, (some (127, true)), .call f_slices_EqualFunc_api_Record_api_Record_api_Record_api_Record [(.t 128), (.t 129), (.f f_scanref2_SameRecord)]⟩,
  ⟨some 131, none, .pick (.t 127) (.t 130) (.c (.p (.bool false)))⟩,
  ⟨some 132, none, .mv (.t 131)⟩,
  ⟨some 133, (some (132, true)), .mv (.t 12)⟩,
  ⟨some 134, (some (132, true)), .mv (.t 15)⟩,
  ⟨some 135, (some (132, true)), .bin .eql (.t 133) (.t 134)⟩,
  ⟨some 136, none, .pick (.t 132) (.t 135) (.c (.p (.bool false)))⟩,
  ⟨some 137, none, .mv (.t 136)⟩,
  ⟨some 138, (some (137, true)), .mv (.t 10)⟩,
  ⟨some 139, (some (137, true)), .mv (.t 17)⟩,
  ⟨some 140, (some (137, true)), .bin .eql (.t 138) (.t 139)⟩,
  ⟨some 141, none, .pick (.t 137) (.t 140) (.c (.p (.bool false)))⟩,
  ⟨some 142, none, .mv (.t 141)⟩,
  ⟨some 143, (some (142, true)), .mv (.t 11)⟩,
  ⟨some 144, (some (142, true)), .mv (.t 18)⟩,
  ⟨some 145, (some (142, true)), .bin .eql (.t 143) (.t 144)⟩,
  ⟨some 146, none, .pick (.t 142) (.t 145) (.c (.p (.bool false)))⟩,
  ⟨some 147, none, .mv (.t 146)⟩,
  ⟨some 148, (some (147, true)), .call f_scanlaw2_binned []⟩,
  ⟨some 149, none, .pick (.t 147) (.t 148) (.c (.p (.bool false)))⟩,
  ⟨some 2, none, .mv (.t 149)⟩] (some [2]))
 .ret)
def d_scanlaw2_RecordsSorted_k1 (C : Hd) (gl : Nat → Option PV) (v4 v5 v8 v9 v10 v11 v12 v13 v14 v15 v16 v17 v18 : AV) (h : Heap) (x : Esc) (K : Ex → St → Prop) : Prop :=
 C f_lot_CheckLimits [v4] h fun t1 h2 y3 =>
 C f_scanref2_LimitsFault [v4] h2 fun t4 h5 y6 =>
 pK (oBin .eql t1 t4) fun t7 =>
 gM t7 true v4 h5 fun t8 h9 y10 =>
 gM t7 true v5 h9 fun t11 h12 y13 =>
 gV t7 true h12 (C f_lot_CheckRecords [t8, t11] h12) fun t14 h15 y16 =>
 gM t7 true v13 h15 fun t17 h18 y19 =>
 gP t7 true (oBin .eql t14 t17) h18 fun t20 h21 y22 =>
 pK (oPick t7 t20 (.p (.bool false))) fun t23 =>
 gM t23 true v9 h21 fun t24 h25 y26 =>
 gM t23 true v14 h25 fun t27 h28 y29 =>
 gP t23 true (oBin .eql t24 t27) h28 fun t30 h31 y32 =>
 pK (oPick t23 t30 (.p (.bool false))) fun t33 =>
 gM t33 true v8 h31 fun t34 h35 y36 =>
 gM t33 true v16 h35 fun t37 h38 y39 =>
 gV t33 true h38 (C f_slices_EqualFunc_api_Record_api_Record_api_Record_api_Record [t34, t37, (.fn f_scanref2_SameRecord [])] h38) fun t40 h41 y42 =>
 pK (oPick t33 t40 (.p (.bool false))) fun t43 =>
 gM t43 true v12 h41 fun t44 h45 y46 =>
 gM t43 true v15 h45 fun t47 h48 y49 =>
 gP t43 true (oBin .eql t44 t47) h48 fun t50 h51 y52 =>
 pK (oPick t43 t50 (.p (.bool false))) fun t53 =>
 gM t53 true v10 h51 fun t54 h55 y56 =>
 gM t53 true v17 h55 fun t57 h58 y59 =>
 gP t53 true (oBin .eql t54 t57) h58 fun t60 h61 y62 =>
 pK (oPick t53 t60 (.p (.bool false))) fun t63 =>
 gM t63 true v11 h61 fun t64 h65 y66 =>
 gM t63 true v18 h65 fun t67 h68 y69 =>
 gP t63 true (oBin .eql t64 t67) h68 fun t70 h71 y72 =>
 pK (oPick t63 t70 (.p (.bool false))) fun t73 =>
 gV t73 true h71 (C f_scanlaw2_binned [] h71) fun t74 h75 y76 =>
 pK (oPick t73 t74 (.p (.bool false))) fun t77 =>
 K .ret ⟨[(2, t77)], h75, (y76 ++ (y72 ++ (y69 ++ (y66 ++ (y62 ++ (y59 ++ (y56 ++ (y52 ++ (y49 ++ (y46 ++ (y42 ++ (y39 ++ (y36 ++ (y32 ++ (y29 ++ (y26 ++ (y22 ++ (y19 ++ (y16 ++ (y13 ++ (y10 ++ (y6 ++ (y3 ++ x)))))))))))))))))))))))⟩
theorem e_scanlaw2_RecordsSorted_k1 {C gl e h x K} : NW C gl p_scanlaw2_RecordsSorted_k1 ⟨e, h, x⟩ K = d_scanlaw2_RecordsSorted_k1 C gl (aget e 4) (aget e 5) (aget e 8) (aget e 9) (aget e 10) (aget e 11) (aget e 12) (aget e 13) (aget e 14) (aget e 15) (aget e 16) (aget e 17) (aget e 18) h x K := by kernel_rfl
def P_scanlaw2_RecordsSorted_k2 (q1 : ACode) : ACode := .pr [4, 5, 7, 8, 9, 10, 11, 12, 13, 14, 15, 16] (.seq (.reg [
  ⟨some 17, none, .mv (.c (.p (.int .i64 0)))⟩,
  ⟨some 18, none, .mv (.c (.p (.int .i64 0)))⟩] (some [4, 5, 7, 8, 9, 10, 11, 12, 13, 14, 15, 16, 17, 18]))
 (.seq (.seq (.reg [
  ⟨some 102, none, .mv (.t 15)⟩,
  ⟨some 103, none, .bin .eql (.t 102) (.c (.p (.int .i64 0)))⟩] (some [4, 5, 7, 8, 9, 10, 11, 12, 13, 14, 15, 16, 17, 18, 103]))
 (.cond (.t 103) (.reg [
  ⟨some 105, none, .mv (.t 4)⟩,
  ⟨some 106, none, .load (some 4) (.t 7)⟩,
  ⟨some 107, none, .call f_scanref2_BinOf [(.t 105), (.t 106)]⟩,
  ⟨some 104, none, .mv (.t 107)⟩,
  ⟨some 108, none, .ext (.t 104) 0⟩,
  ⟨some 109, none, .ext (.t 104) 1⟩,
  ⟨some 17, none, .mv (.t 108)⟩,
  ⟨some 18, none, .mv (.t 109)⟩] (some [4, 5, 8, 9, 10, 11, 12, 13, 14, 15, 16, 17, 18]))
 .skip))
 q1))
def p_scanlaw2_RecordsSorted_k2 : ACode := P_scanlaw2_RecordsSorted_k2 p_scanlaw2_RecordsSorted_k1
def d_scanlaw2_RecordsSorted_k2 (C : Hd) (gl : Nat → Option PV) (q1 : ACode) (v4 v5 v7 v8 v9 v10 v11 v12 v13 v14 v15 v16 : AV) (h : Heap) (x : Esc) (K : Ex → St → Prop) : Prop :=
 pK (oBin .eql v15 (.p (.int .i64 0))) fun t1 =>
 condB t1 (pK (oLoad (some 4) v7 h) fun t2 =>
 C f_scanref2_BinOf [v4, t2] h fun t3 h4 y5 =>
 pK (oExt t3 0) fun t6 =>
 pK (oExt t3 1) fun t7 =>
 NW C gl q1 ⟨[(4, v4), (5, v5), (8, v8), (9, v9), (10, v10), (11, v11), (12, v12), (13, v13), (14, v14), (15, v15), (16, v16), (17, t6), (18, t7)], h4, (y5 ++ x)⟩ K)
 (NW C gl q1 ⟨[(4, v4), (5, v5), (7, v7), (8, v8), (9, v9), (10, v10), (11, v11), (12, v12), (13, v13), (14, v14), (15, v15), (16, v16), (17, (.p (.int .i64 0))), (18, (.p (.int .i64 0))), (103, t1)], h, x⟩ K)
theorem E_scanlaw2_RecordsSorted_k2 {C gl q1 e h x K} : NW C gl (P_scanlaw2_RecordsSorted_k2 q1) ⟨e, h, x⟩ K = d_scanlaw2_RecordsSorted_k2 C gl q1 (aget e 4) (aget e 5) (aget e 7) (aget e 8) (aget e 9) (aget e 10) (aget e 11) (aget e 12) (aget e 13) (aget e 14) (aget e 15) (aget e 16) h x K := by kernel_rfl
theorem e_scanlaw2_RecordsSorted_k2 {C gl e h x K} : NW C gl p_scanlaw2_RecordsSorted_k2 ⟨e, h, x⟩ K = d_scanlaw2_RecordsSorted_k2 C gl p_scanlaw2_RecordsSorted_k1 (aget e 4) (aget e 5) (aget e 7) (aget e 8) (aget e 9) (aget e 10) (aget e 11) (aget e 12) (aget e 13) (aget e 14) (aget e 15) (aget e 16) h x K := E_scanlaw2_RecordsSorted_k2
def P_scanlaw2_RecordsSorted_k3 (q2 : ACode) : ACode := .pr [4, 5, 6, 7] (.seq (.reg [
  ⟨some 69, none, .mv (.t 4)⟩,
  ⟨some 70, none, .mv (.t 5)⟩,
  ⟨some 71, none, .mv (.t 6)⟩,
  ⟨some 72, none, .call f_lot_Merge [(.t 69), (.t 70), (.t 71)]⟩,
  ⟨some 68, none, .mv (.t 72)⟩,
  ⟨some 73, none, .ext (.t 68) 0⟩,
  ⟨some 74, none, .ext (.t 68) 1⟩,
  ⟨some 8, none, .mv (.t 73)⟩,
  ⟨some 9, none, .mv (.t 74)⟩] (some [4, 5, 6, 7, 8, 9]))
 (.seq (.reg [
  ⟨some 76, none, .mv (.t 4)⟩,
  ⟨some 77, none, .load (some 4) (.t 7)⟩,
  ⟨some 78, none, .call f_lot_Bin [(.t 76), (.t 77)]⟩,
  ⟨some 75, none, .mv (.t 78)⟩,
  ⟨some 79, none, .ext (.t 75) 0⟩,
  ⟨some 80, none, .ext (.t 75) 1⟩,
  ⟨some 81, none, .ext (.t 75) 2⟩,
  ⟨some 10, none, .mv (.t 79)⟩,
  ⟨some 11, none, .mv (.t 80)⟩,
  ⟨some 12, none, .mv (.t 81)⟩] (some [4, 5, 6, 7, 8, 9, 10, 11, 12]))
 (.seq (.reg [
  ⟨some 82, none, .mv (.t 4)⟩,
  ⟨some 83, none, .mv (.t 5)⟩,
  ⟨some 84, none, .call f_scanref2_RecordsFault [(.t 82), (.t 83)]⟩,
  ⟨some 13, none, .mv (.t 84)⟩] (some [4, 5, 6, 7, 8, 9, 10, 11, 12, 13]))
 (.seq (.draw [
   ⟨⟨some 85, none, .mv (.t 13)⟩, [13], false, [], []⟩,
   ⟨⟨some 86, none, .mv (.t 4)⟩, [4], false, [], []⟩,
   ⟨⟨some 87, none, .mv (.t 6)⟩, [6], false, [], []⟩,
   ⟨⟨some 88, none, .call f_scanref2_RecordsFault [(.t 86), (.t 87)]⟩, [86, 87], true, [], []⟩,
   ⟨⟨some 89, none, .bsl false none 2 (.int .i64 0) [(0, (.t 85)), (1, (.t 88))]⟩, [85, 88], false, [], []⟩,
   ⟨⟨some 90, none, .call f_scanlaw2_errs [(.t 89)]⟩, [89], true, [], []⟩,
   ⟨⟨some 91, none, .mv (.t 4)⟩, [4], false, [], []⟩,
   ⟨⟨some 92, none, .load (some 4) (.t 7)⟩, [7], false, [3, 5], []⟩,
   ⟨⟨some 93, none, .call f_scanref2_RecordFault [(.t 91), (.t 92)]⟩, [91, 92], true, [], []⟩,
   ⟨⟨some 14, none, .mv (.t 90)⟩, [90], false, [], []⟩,
   ⟨⟨some 15, none, .mv (.t 93)⟩, [93], false, [], []⟩] (some [4, 5, 6, 7, 8, 9, 10, 11, 12, 13, 14, 15]))
 (.seq (.reg [
  ⟨some 16, none, .mv (.c (.p (.sl (some 4) [])))⟩] (some [4, 5, 6, 7, 8, 9, 10, 11, 12, 13, 14, 15, 16]))
 (.seq (.seq (.reg [
  ⟨some 94, none, .mv (.t 14)⟩,
  ⟨some 95, none, .bin .eql (.t 94) (.c (.p (.int .i64 0)))⟩] (some [4, 5, 6, 7, 8, 9, 10, 11, 12, 13, 14, 15, 16, 95]))
 (.cond (.t 95) (.reg [
  ⟨some 97, none, .mv (.t 5)⟩,
  ⟨some 98, none, .mv (.t 6)⟩,
  ⟨some 99, none, .call f_scanref2_MergedRecords [(.t 97), (.t 98)]⟩,
  ⟨some 96, none, .mv (.t 99)⟩,
  ⟨some 100, none, .ext (.t 96) 0⟩,
  ⟨some 101, none, .ext (.t 96) 1⟩,
  ⟨some 16, none, .mv (.t 100)⟩,
  ⟨some 14, none, .mv (.t 101)⟩] (some [4, 5, 7, 8, 9, 10, 11, 12, 13, 14, 15, 16]))
 .skip))
 q2))))))
def p_scanlaw2_RecordsSorted_k3 : ACode := P_scanlaw2_RecordsSorted_k3 p_scanlaw2_RecordsSorted_k2
def d_scanlaw2_RecordsSorted_k3 (C : Hd) (gl : Nat → Option PV) (q2 : ACode) (v4 v5 v6 v7 : AV) (h : Heap) (x : Esc) (K : Ex → St → Prop) : Prop :=
 C f_lot_Merge [v4, v5, v6] h fun t1 h2 y3 =>
 pK (oExt t1 0) fun t4 =>
 pK (oExt t1 1) fun t5 =>
 pK (oLoad (some 4) v7 h2) fun t6 =>
 C f_lot_Bin [v4, t6] h2 fun t7 h8 y9 =>
 pK (oExt t7 0) fun t10 =>
 pK (oExt t7 1) fun t11 =>
 pK (oExt t7 2) fun t12 =>
 C f_scanref2_RecordsFault [v4, v5] h8 fun t13 h14 y15 =>
 callE C f_scanref2_RecordsFault [v4, v6] h14 fun t16 h17 y18 =>
 wK (oBsl false none 2 (.int .i64 0) [(0, t13), (1, t16)] h17) fun t19 h20 y21 =>
 (h20 = h17 ∧ y21 = []) ∧ (callE C f_scanlaw2_errs [t19] h20 fun t22 h23 y24 =>
 pK (oLoad (some 4) v7 h23) fun t25 =>
 (pK (oLoad (some 4) v7 h14) fun v => (fun u (g1 : Heap) (y1 : Esc) => u = t25 ∧ g1 = h14 ∧ y1 = []) v h14 []) ∧ ((pK (oLoad (some 4) v7 h20) fun v => (fun u (g1 : Heap) (y1 : Esc) => u = t25 ∧ g1 = h20 ∧ y1 = []) v h20 []) ∧ (callE C f_scanref2_RecordFault [v4, t25] h23 fun t26 h27 y28 =>
 pK (oBin .eql t22 (.p (.int .i64 0))) fun t29 =>
 condB t29 (C f_scanref2_MergedRecords [v5, v6] h27 fun t30 h31 y32 =>
 pK (oExt t30 0) fun t33 =>
 pK (oExt t30 1) fun t34 =>
 NW C gl q2 ⟨[(4, v4), (5, v5), (7, v7), (8, t4), (9, t5), (10, t10), (11, t11), (12, t12), (13, t13), (14, t34), (15, t26), (16, t33)], h31, (y32 ++ (y28 ++ (y24 ++ (y21 ++ (y18 ++ (y15 ++ (y9 ++ (y3 ++ x))))))))⟩ K)
 (NW C gl q2 ⟨[(4, v4), (5, v5), (6, v6), (7, v7), (8, t4), (9, t5), (10, t10), (11, t11), (12, t12), (13, t13), (14, t22), (15, t26), (16, (.p (.sl (some 4) []))), (95, t29)], h27, (y28 ++ (y24 ++ (y21 ++ (y18 ++ (y15 ++ (y9 ++ (y3 ++ x)))))))⟩ K))))
theorem E_scanlaw2_RecordsSorted_k3 {C gl q2 e h x K} : NW C gl (P_scanlaw2_RecordsSorted_k3 q2) ⟨e, h, x⟩ K = d_scanlaw2_RecordsSorted_k3 C gl q2 (aget e 4) (aget e 5) (aget e 6) (aget e 7) h x K := by kernel_rfl
theorem e_scanlaw2_RecordsSorted_k3 {C gl e h x K} : NW C gl p_scanlaw2_RecordsSorted_k3 ⟨e, h, x⟩ K = d_scanlaw2_RecordsSorted_k3 C gl p_scanlaw2_RecordsSorted_k2 (aget e 4) (aget e 5) (aget e 6) (aget e 7) h x K := E_scanlaw2_RecordsSorted_k3
def P_scanlaw2_RecordsSorted_k4 (q3 : ACode) : ACode := .pr [3, 4, 5, 6] (.seq (.reg [
  ⟨some 53, none, .mv (.t 3)⟩,
  ⟨some 54, none, .bsl false none 3 (.int .i64 0) [(0, (.c (.p (.int .i64 5)))), (1, (.c (.p (.int .i64 11)))), (2, (.c (.p (.int .i64 0))))]⟩,
  ⟨some 55, none, .call f_scanmake_Stream_Pick [(.t 53), (.t 54)]⟩,
  ⟨some 56, none, .bsl false none 1 (.int .i64 0) [(0, (.t 55))]⟩,
  ⟨some 57, none, .build [.p (.str []), .p (.int .i64 0), .p (.str []), .sl0 none] [(0, 1, (.c (.p (.str [117, 49])))), (1, 1, (.c (.p (.int .i64 1)))), (2, 1, (.c (.p (.str [115, 49])))), (3, 1, (.t 56))]⟩,
  ⟨some 7, none, .alloc [.p (.str []), .p (.int .i64 0), .p (.str []), .sl0 none]⟩,
  ⟨none, none, .store (some 4) (.t 7) (.t 57)⟩] (some [3, 4, 5, 6, 7]))
 (.seq (.seq (.reg [
  ⟨some 58, none, .mv (.t 5)⟩,
  ⟨some 59, none, .len (.t 58)⟩,
  ⟨some 60, none, .bin .gtr (.t 59) (.c (.p (.int .i64 0)))⟩] (some [3, 4, 5, 6, 7, 60]))
 (.cond (.t 60) (.reg [
  ⟨some 61, none, .mv (.t 5)⟩,
  ⟨some 62, none, .mv (.t 3)⟩,
  ⟨some 63, none, .mv (.t 5)⟩,
  ⟨some 64, none, .len (.t 63)⟩,
  ⟨some 65, none, .call f_scanmake_Stream_Next [(.t 62), (.t 64)]⟩,
  ⟨some 66, none, .iaddr (some 4) (.t 61) (.t 65)⟩,
  ⟨some 67, none, .load (some 4) (.t 66)⟩,
  ⟨none, none, .store (some 4) (.t 7) (.t 67)⟩] (some [4, 5, 6, 7]))
 .skip))
 q3))
def p_scanlaw2_RecordsSorted_k4 : ACode := P_scanlaw2_RecordsSorted_k4 p_scanlaw2_RecordsSorted_k3
def d_scanlaw2_RecordsSorted_k4 (C : Hd) (gl : Nat → Option PV) (q3 : ACode) (v3 v4 v5 v6 : AV) (h : Heap) (x : Esc) (K : Ex → St → Prop) : Prop :=
 wK (oBsl false none 3 (.int .i64 0) [(0, (.p (.int .i64 5))), (1, (.p (.int .i64 11))), (2, (.p (.int .i64 0)))] h) fun t1 h2 y3 =>
 C f_scanmake_Stream_Pick [v3, t1] h2 fun t4 h5 y6 =>
 wK (oBsl false none 1 (.int .i64 0) [(0, t4)] h5) fun t7 h8 y9 =>
 pK (oBuild [.p (.str []), .p (.int .i64 0), .p (.str []), .sl0 none] [(0, 1, (.p (.str [117, 49]))), (1, 1, (.p (.int .i64 1))), (2, 1, (.p (.str [115, 49]))), (3, 1, t7)]) fun t10 =>
 alK [.p (.str []), .p (.int .i64 0), .p (.str []), .sl0 none] h8 fun t11 h12 y13 =>
 wK (oStore (some 4) t11 t10 h12) fun t14 h15 y16 =>
 pK (oLen v5) fun t17 =>
 pK (oBin .gtr t17 (.p (.int .i64 0))) fun t18 =>
 condB t18 (pK (oLen v5) fun t19 =>
 C f_scanmake_Stream_Next [v3, t19] h15 fun t20 h21 y22 =>
 pK (oIaddr (some 4) v5 t20 h21) fun t23 =>
 pK (oLoad (some 4) t23 h21) fun t24 =>
 wK (oStore (some 4) t11 t24 h21) fun t25 h26 y27 =>
 NW C gl q3 ⟨[(4, v4), (5, v5), (6, v6), (7, t11)], h26, (y27 ++ (y22 ++ (y16 ++ (y13 ++ (y9 ++ (y6 ++ (y3 ++ x)))))))⟩ K)
 (NW C gl q3 ⟨[(3, v3), (4, v4), (5, v5), (6, v6), (7, t11), (60, t18)], h15, (y16 ++ (y13 ++ (y9 ++ (y6 ++ (y3 ++ x)))))⟩ K)
theorem E_scanlaw2_RecordsSorted_k4 {C gl q3 e h x K} : NW C gl (P_scanlaw2_RecordsSorted_k4 q3) ⟨e, h, x⟩ K = d_scanlaw2_RecordsSorted_k4 C gl q3 (aget e 3) (aget e 4) (aget e 5) (aget e 6) h x K := by kernel_rfl
theorem e_scanlaw2_RecordsSorted_k4 {C gl e h x K} : NW C gl p_scanlaw2_RecordsSorted_k4 ⟨e, h, x⟩ K = d_scanlaw2_RecordsSorted_k4 C gl p_scanlaw2_RecordsSorted_k3 (aget e 3) (aget e 4) (aget e 5) (aget e 6) h x K := E_scanlaw2_RecordsSorted_k4
def P_scanlaw2_RecordsSorted (q4 : ACode) : ACode := (.seq (.reg [
  ⟨some 2, none, .mv (.c (.p (.bool false)))⟩] (some [0]))
 (.seq (.reg [
  ⟨some 19, none, .mv (.t 0)⟩,
  ⟨some 20, none, .build [.sl0 none, .p (.int .i64 0)] [(0, 1, (.t 19))]⟩,
  ⟨some 21, none, .box (.t 20)⟩,
  ⟨some 3, none, .mv (.t 21)⟩] (some [3]))
 (.seq (.reg [
  ⟨some 22, none, .mv (.t 3)⟩,
  ⟨some 23, none, .call f_scanmake_Stream_LimitList [(.t 22)]⟩,
  ⟨some 4, none, .mv (.t 23)⟩] (some [3, 4]))
 (.seq (.reg [
  ⟨some 24, none, .mv (.t 3)⟩,
  ⟨some 25, none, .mv (.t 4)⟩,
  ⟨some 26, none, .mv (.t 3)⟩,
  ⟨some 27, none, .call f_scanmake_Stream_Range [(.t 26), (.c (.p (.int .i64 0))), (.c (.p (.int .i64 8)))]⟩,
  ⟨some 28, none, .call f_scanmake_Stream_Records [(.t 24), (.t 25), (.t 27)]⟩,
  ⟨some 29, none, .mv (.t 3)⟩,
  ⟨some 30, none, .mv (.t 4)⟩,
  ⟨some 31, none, .mv (.t 3)⟩,
  ⟨some 32, none, .call f_scanmake_Stream_Range [(.t 31), (.c (.p (.int .i64 0))), (.c (.p (.int .i64 4)))]⟩,
  ⟨some 33, none, .call f_scanmake_Stream_Records [(.t 29), (.t 30), (.t 32)]⟩,
  ⟨some 5, none, .mv (.t 28)⟩,
  ⟨some 6, none, .mv (.t 33)⟩] (some [3, 4, 5, 6]))
 (.seq (.seq (.reg [
  ⟨some 34, none, .mv (.t 5)⟩,
  ⟨some 35, none, .len (.t 34)⟩,
  ⟨some 36, none, .bin .gtr (.t 35) (.c (.p (.int .i64 0)))⟩,
  ⟨some 37, none, .mv (.t 36)⟩,
  ⟨some 38, (some (37, true)), .mv (.t 3)⟩,
  ⟨some 39, (some (37, true)), .call f_scanmake_Stream_Flip [(.t 38), (.c (.p (.int .i64 2)))]⟩,
  ⟨some 40, none, .pick (.t 37) (.t 39) (.c (.p (.bool false)))⟩] (some [3, 4, 5, 6, 40]))
 (.cond (.t 40) (.seq (.reg [
  ⟨some 41, none, .mv (.t 5)⟩,
  ⟨some 42, none, .mv (.t 3)⟩,
  ⟨some 43, none, .mv (.t 5)⟩,
  ⟨some 44, none, .len (.t 43)⟩,
  ⟨some 45, none, .call f_scanmake_Stream_Next [(.t 42), (.t 44)]⟩,
  ⟨some 46, none, .slice (some 4) (.t 41) (some (.t 45)) none none⟩,
  ⟨some 47, none, .call f_slices_Clone_api_Record_api_Record [(.t 46)]⟩,
  ⟨some 6, none, .mv (.t 47)⟩] (some [3, 4, 5, 6]))
 (.seq (.reg [
  ⟨some 48, none, .mv (.t 3)⟩,
  ⟨some 49, none, .call f_scanmake_Stream_Flip [(.t 48), (.c (.p (.int .i64 4)))]⟩] (some [3, 4, 5, 6, 49]))
 (.cond (.t 49) (.reg [
  ⟨some 50, none, .mv (.t 6)⟩,
  ⟨some 51, none, .iaddr (some 4) (.t 50) (.c (.p (.int .i64 0)))⟩,
  ⟨some 52, none, .faddr 2 none (.t 51)⟩,
  ⟨none, none, .store none (.t 52) (.c (.p (.str [115, 57])))⟩] (some [3, 4, 5, 6]))
 .skip)))
 .skip))
 q4)))))
def a_scanlaw2_RecordsSorted : AFun := ⟨1, [.t 2], P_scanlaw2_RecordsSorted p_scanlaw2_RecordsSorted_k4, false, false⟩
def d_scanlaw2_RecordsSorted (C : Hd) (gl : Nat → Option PV) (q4 : ACode) (v0 : AV) (h : Heap) (x : Esc) (K : Ex → St → Prop) : Prop :=
 pK (oBuild [.sl0 none, .p (.int .i64 0)] [(0, 1, v0)]) fun t1 =>
 wK (oBox t1 h) fun t2 h3 y4 =>
 C f_scanmake_Stream_LimitList [t2] h3 fun t5 h6 y7 =>
 C f_scanmake_Stream_Range [t2, (.p (.int .i64 0)), (.p (.int .i64 8))] h6 fun t8 h9 y10 =>
 C f_scanmake_Stream_Records [t2, t5, t8] h9 fun t11 h12 y13 =>
 C f_scanmake_Stream_Range [t2, (.p (.int .i64 0)), (.p (.int .i64 4))] h12 fun t14 h15 y16 =>
 C f_scanmake_Stream_Records [t2, t5, t14] h15 fun t17 h18 y19 =>
 pK (oLen t11) fun t20 =>
 pK (oBin .gtr t20 (.p (.int .i64 0))) fun t21 =>
 gM t21 true t2 h18 fun t22 h23 y24 =>
 gV t21 true h23 (C f_scanmake_Stream_Flip [t22, (.p (.int .i64 2))] h23) fun t25 h26 y27 =>
 pK (oPick t21 t25 (.p (.bool false))) fun t28 =>
 condB t28 (pK (oLen t11) fun t29 =>
 C f_scanmake_Stream_Next [t2, t29] h26 fun t30 h31 y32 =>
 pK (oSlice (some 4) t11 (some t30) none none h31) fun t33 =>
 C f_slices_Clone_api_Record_api_Record [t33] h31 fun t34 h35 y36 =>
 C f_scanmake_Stream_Flip [t2, (.p (.int .i64 4))] h35 fun t37 h38 y39 =>
 condB t37 (pK (oIaddr (some 4) t34 (.p (.int .i64 0)) h38) fun t40 =>
 pK (oFaddr 2 none t40) fun t41 =>
 wK (oStore none t41 (.p (.str [115, 57])) h38) fun t42 h43 y44 =>
 NW C gl q4 ⟨[(3, t2), (4, t5), (5, t11), (6, t34)], h43, (y44 ++ (y39 ++ (y36 ++ (y32 ++ (y27 ++ (y24 ++ (y19 ++ (y16 ++ (y13 ++ (y10 ++ (y7 ++ (y4 ++ x))))))))))))⟩ K)
 (NW C gl q4 ⟨[(3, t2), (4, t5), (5, t11), (6, t34), (49, t37)], h38, (y39 ++ (y36 ++ (y32 ++ (y27 ++ (y24 ++ (y19 ++ (y16 ++ (y13 ++ (y10 ++ (y7 ++ (y4 ++ x)))))))))))⟩ K))
 (NW C gl q4 ⟨[(3, t2), (4, t5), (5, t11), (6, t17), (40, t28)], h26, (y27 ++ (y24 ++ (y19 ++ (y16 ++ (y13 ++ (y10 ++ (y7 ++ (y4 ++ x))))))))⟩ K)
theorem E_scanlaw2_RecordsSorted {C gl q4 v0 h x K} : NW C gl (P_scanlaw2_RecordsSorted q4) ⟨enter [v0], h, x⟩ K = d_scanlaw2_RecordsSorted C gl q4 v0 h x K := by kernel_rfl
theorem e_scanlaw2_RecordsSorted {C gl v0 h x K} : NW C gl a_scanlaw2_RecordsSorted.body ⟨enter [v0], h, x⟩ K = d_scanlaw2_RecordsSorted C gl p_scanlaw2_RecordsSorted_k4 v0 h x K := E_scanlaw2_RecordsSorted
def p_scanmake_Stream_LimitList_k1 : ACode := .pr [3] (.seq (.reg [
  ⟨some 34, none, .mv (.t 3)⟩,
  ⟨some 2, none, .mv (.t 34)⟩] (some [2]))
 .ret)
def d_scanmake_Stream_LimitList_k1 (C : Hd) (gl : Nat → Option PV) (v3 : AV) (h : Heap) (x : Esc) (K : Ex → St → Prop) : Prop :=
 K .ret ⟨[(2, v3)], h, x⟩
theorem e_scanmake_Stream_LimitList_k1 {C gl e h x K} : NW C gl p_scanmake_Stream_LimitList_k1 ⟨e, h, x⟩ K = d_scanmake_Stream_LimitList_k1 C gl (aget e 3) h x K := by kernel_rfl
def P_scanmake_Stream_LimitList (q1 : ACode) : ACode := (.seq (.reg [
  ⟨some 2, none, .mv (.c (.p (.sl (some 4) [])))⟩] (some [0]))
 (.seq (.reg [
  ⟨some 4, none, .build [.p (.str []), .p (.int .i64 0), .p (.int .i64 0), .p (.int .i64 0)] [(0, 1, (.c (.p (.str [118, 111, 108, 116])))), (2, 1, (.c (.p (.int .i64 10)))), (3, 1, (.c (.p (.int .i64 5))))]⟩,
  ⟨some 5, none, .mv (.t 0)⟩,
  ⟨some 6, none, .bsl false none 3 (.int .i64 0) [(0, (.c (.p (.int .i64 5)))), (1, (.c (.p (.int .i64 6)))), (2, (.c (.p (.int .i64 2))))]⟩,
  ⟨some 7, none, .call f_scanmake_Stream_Pick [(.t 5), (.t 6)]⟩,
  ⟨some 8, none, .build [.p (.str []), .p (.int .i64 0), .p (.int .i64 0), .p (.int .i64 0)] [(0, 1, (.c (.p (.str [97, 109, 112])))), (1, 1, (.c (.p (.int .i64 (-5))))), (2, 1, (.c (.p (.int .i64 5)))), (3, 1, (.t 7))]⟩,
  ⟨some 9, none, .build [.p (.str []), .p (.int .i64 0), .p (.int .i64 0), .p (.int .i64 0)] [(0, 1, (.c (.p (.str [104, 122])))), (1, 1, (.c (.p (.int .i64 3)))), (2, 1, (.c (.p (.int .i64 8)))), (3, 1, (.c (.p (.int .i64 9))))]⟩,
  ⟨some 10, none, .bsl true (some 4) 3 (.agg [.str [], .int .i64 0, .int .i64 0, .int .i64 0]) [(0, (.t 4)), (1, (.t 8)), (2, (.t 9))]⟩,
  ⟨some 11, none, .mv (.t 0)⟩,
  ⟨some 12, none, .call f_scanmake_Stream_Range [(.t 11), (.c (.p (.int .i64 1))), (.c (.p (.int .i64 3)))]⟩,
  ⟨some 13, none, .slice (some 4) (.t 10) none (some (.t 12)) none⟩,
  ⟨some 3, none, .mv (.t 13)⟩] (some [0, 3]))
 (.seq (.seq (.reg [
  ⟨some 14, none, .mv (.t 0)⟩,
  ⟨some 15, none, .call f_scanmake_Stream_Flip [(.t 14), (.c (.p (.int .i64 15)))]⟩] (some [0, 3, 15]))
 (.cond (.t 15) (.reg [
  ⟨some 16, none, .mv (.t 3)⟩,
  ⟨some 17, none, .mv (.t 0)⟩,
  ⟨some 18, none, .mv (.t 3)⟩,
  ⟨some 19, none, .len (.t 18)⟩,
  ⟨some 20, none, .call f_scanmake_Stream_Next [(.t 17), (.t 19)]⟩,
  ⟨some 21, none, .mv (.t 0)⟩,
  ⟨some 22, none, .bsl false none 3 (.str []) [(0, (.c (.p (.str [118, 111, 108, 116])))), (1, (.c (.p (.str [])))), (2, (.c (.p (.str [122]))))]⟩,
  ⟨some 23, none, .call f_scanmake_Stream_Some [(.t 21), (.t 22)]⟩,
  ⟨some 24, none, .mv (.t 0)⟩,
  ⟨some 25, none, .bsl false none 4 (.int .i64 0) [(0, (.c (.p (.int .i64 0)))), (1, (.c (.p (.int .i64 (-100000))))), (2, (.c (.p (.int .i64 (-100001))))), (3, (.c (.p (.int .i64 20))))]⟩,
  ⟨some 26, none, .call f_scanmake_Stream_Pick [(.t 24), (.t 25)]⟩,
  ⟨some 27, none, .mv (.t 0)⟩,
  ⟨some 28, none, .bsl false none 3 (.int .i64 0) [(0, (.c (.p (.int .i64 10)))), (1, (.c (.p (.int .i64 100000)))), (2, (.c (.p (.int .i64 100001))))]⟩,
  ⟨some 29, none, .call f_scanmake_Stream_Pick [(.t 27), (.t 28)]⟩,
  ⟨some 30, none, .mv (.t 0)⟩,
  ⟨some 31, none, .call f_scanmake_Stream_Odd [(.t 30), (.c (.p (.int .i64 2))), (.c (.p (.int .i64 100)))]⟩,
  ⟨some 32, none, .build [.p (.str []), .p (.int .i64 0), .p (.int .i64 0), .p (.int .i64 0)] [(0, 1, (.t 23)), (1, 1, (.t 26)), (2, 1, (.t 29)), (3, 1, (.t 31))]⟩,
  ⟨some 33, none, .iaddr (some 4) (.t 16) (.t 20)⟩,
  ⟨none, none, .store (some 4) (.t 33) (.t 32)⟩] (some [3]))
 .skip))
 q1)))
def a_scanmake_Stream_LimitList : AFun := ⟨1, [.t 2], P_scanmake_Stream_LimitList p_scanmake_Stream_LimitList_k1, false, false⟩
def d_scanmake_Stream_LimitList (C : Hd) (gl : Nat → Option PV) (q1 : ACode) (v0 : AV) (h : Heap) (x : Esc) (K : Ex → St → Prop) : Prop :=
 pK (oBuild [.p (.str []), .p (.int .i64 0), .p (.int .i64 0), .p (.int .i64 0)] [(0, 1, (.p (.str [118, 111, 108, 116]))), (2, 1, (.p (.int .i64 10))), (3, 1, (.p (.int .i64 5)))]) fun t1 =>
 wK (oBsl false none 3 (.int .i64 0) [(0, (.p (.int .i64 5))), (1, (.p (.int .i64 6))), (2, (.p (.int .i64 2)))] h) fun t2 h3 y4 =>
 C f_scanmake_Stream_Pick [v0, t2] h3 fun t5 h6 y7 =>
 pK (oBuild [.p (.str []), .p (.int .i64 0), .p (.int .i64 0), .p (.int .i64 0)] [(0, 1, (.p (.str [97, 109, 112]))), (1, 1, (.p (.int .i64 (-5)))), (2, 1, (.p (.int .i64 5))), (3, 1, t5)]) fun t8 =>
 pK (oBuild [.p (.str []), .p (.int .i64 0), .p (.int .i64 0), .p (.int .i64 0)] [(0, 1, (.p (.str [104, 122]))), (1, 1, (.p (.int .i64 3))), (2, 1, (.p (.int .i64 8))), (3, 1, (.p (.int .i64 9)))]) fun t9 =>
 wK (oBsl true (some 4) 3 (.agg [.str [], .int .i64 0, .int .i64 0, .int .i64 0]) [(0, t1), (1, t8), (2, t9)] h6) fun t10 h11 y12 =>
 C f_scanmake_Stream_Range [v0, (.p (.int .i64 1)), (.p (.int .i64 3))] h11 fun t13 h14 y15 =>
 pK (oSlice (some 4) t10 none (some t13) none h14) fun t16 =>
 C f_scanmake_Stream_Flip [v0, (.p (.int .i64 15))] h14 fun t17 h18 y19 =>
 condB t17 (pK (oLen t16) fun t20 =>
 C f_scanmake_Stream_Next [v0, t20] h18 fun t21 h22 y23 =>
 wK (oBsl false none 3 (.str []) [(0, (.p (.str [118, 111, 108, 116]))), (1, (.p (.str []))), (2, (.p (.str [122])))] h22) fun t24 h25 y26 =>
 C f_scanmake_Stream_Some [v0, t24] h25 fun t27 h28 y29 =>
 wK (oBsl false none 4 (.int .i64 0) [(0, (.p (.int .i64 0))), (1, (.p (.int .i64 (-100000)))), (2, (.p (.int .i64 (-100001)))), (3, (.p (.int .i64 20)))] h28) fun t30 h31 y32 =>
 C f_scanmake_Stream_Pick [v0, t30] h31 fun t33 h34 y35 =>
 wK (oBsl false none 3 (.int .i64 0) [(0, (.p (.int .i64 10))), (1, (.p (.int .i64 100000))), (2, (.p (.int .i64 100001)))] h34) fun t36 h37 y38 =>
 C f_scanmake_Stream_Pick [v0, t36] h37 fun t39 h40 y41 =>
 C f_scanmake_Stream_Odd [v0, (.p (.int .i64 2)), (.p (.int .i64 100))] h40 fun t42 h43 y44 =>
 pK (oBuild [.p (.str []), .p (.int .i64 0), .p (.int .i64 0), .p (.int .i64 0)] [(0, 1, t27), (1, 1, t33), (2, 1, t39), (3, 1, t42)]) fun t45 =>
 pK (oIaddr (some 4) t16 t21 h43) fun t46 =>
 wK (oStore (some 4) t46 t45 h43) fun t47 h48 y49 =>
 NW C gl q1 ⟨[(3, t16)], h48, (y49 ++ (y44 ++ (y41 ++ (y38 ++ (y35 ++ (y32 ++ (y29 ++ (y26 ++ (y23 ++ (y19 ++ (y15 ++ (y12 ++ (y7 ++ (y4 ++ x))))))))))))))⟩ K)
 (NW C gl q1 ⟨[(0, v0), (3, t16), (15, t17)], h18, (y19 ++ (y15 ++ (y12 ++ (y7 ++ (y4 ++ x)))))⟩ K)
theorem E_scanmake_Stream_LimitList {C gl q1 v0 h x K} : NW C gl (P_scanmake_Stream_LimitList q1) ⟨enter [v0], h, x⟩ K = d_scanmake_Stream_LimitList C gl q1 v0 h x K := by kernel_rfl
theorem e_scanmake_Stream_LimitList {C gl v0 h x K} : NW C gl a_scanmake_Stream_LimitList.body ⟨enter [v0], h, x⟩ K = d_scanmake_Stream_LimitList C gl p_scanmake_Stream_LimitList_k1 v0 h x K := E_scanmake_Stream_LimitList
def p_scanmake_Stream_Records_k1 : ACode := .pr [0, 1, 7, 8, 9, 11, 12, 13, 14, 29, 30, 31] (.seq (.reg [
  ⟨some 71, none, .faddr 3 none (.t 9)⟩,
  ⟨some 72, none, .load none (.t 71)⟩,
  ⟨some 73, none, .mv (.t 12)⟩,
  ⟨some 74, none, .bsl false none 1 (.int .i64 0) [(0, (.t 73))]⟩,
  ⟨some 75, none, .app none (.t 72) (.t 74)⟩,
  ⟨some 76, none, .faddr 3 none (.t 9)⟩,
  ⟨none, none, .store none (.t 76) (.t 75)⟩] (some [0, 1, 7, 8, 9, 11, 12, 13, 14, 29, 30, 31]))
 (.seq (.reg [
  ⟨some 77, none, .mv (.t 12)⟩,
  ⟨some 78, none, .faddr 1 none (.t 11)⟩,
  ⟨some 79, none, .load none (.t 78)⟩,
  ⟨some 80, none, .bin .lss (.t 77) (.t 79)⟩,
  ⟨some 81, none, .mv (.t 80)⟩,
  ⟨some 82, (some (81, false)), .mv (.t 12)⟩,
  ⟨some 83, (some (81, false)), .faddr 2 none (.t 11)⟩,
  ⟨some 84, (some (81, false)), .load none (.t 83)⟩,
  ⟨some 85, (some (81, false)), .bin .gtr (.t 82) (.t 84)⟩,
  ⟨some 86, none, .pick (.t 81) (.c (.p (.bool true))) (.t 85)⟩] (some [0, 1, 7, 8, 9, 13, 14, 29, 30, 31, 86]))
 (.cond (.t 86) (.exit 2)
 .skip)))
def d_scanmake_Stream_Records_k1 (C : Hd) (gl : Nat → Option PV) (v0 v1 v7 v8 v9 v11 v12 v13 v14 v29 v30 v31 : AV) (h : Heap) (x : Esc) (K : Ex → St → Prop) : Prop :=
 pK (oFaddr 3 none v9) fun t1 =>
 pK (oLoad none t1 h) fun t2 =>
 wK (oBsl false none 1 (.int .i64 0) [(0, v12)] h) fun t3 h4 y5 =>
 wK (oApp none t2 t3 h4) fun t6 h7 y8 =>
 pK (oFaddr 3 none v9) fun t9 =>
 wK (oStore none t9 t6 h7) fun t10 h11 y12 =>
 pK (oFaddr 1 none v11) fun t13 =>
 pK (oLoad none t13 h11) fun t14 =>
 pK (oBin .lss v12 t14) fun t15 =>
 gM t15 false v12 h11 fun t16 h17 y18 =>
 gP t15 false (oFaddr 2 none v11) h17 fun t19 h20 y21 =>
 gP t15 false (oLoad none t19 h20) h20 fun t22 h23 y24 =>
 gP t15 false (oBin .gtr t16 t22) h23 fun t25 h26 y27 =>
 pK (oPick t15 (.p (.bool true)) t25) fun t28 =>
 condB t28 (K (.exit 2) ⟨[(0, v0), (1, v1), (7, v7), (8, v8), (9, v9), (13, v13), (14, v14), (29, v29), (30, v30), (31, v31), (86, t28)], h26, (y27 ++ (y24 ++ (y21 ++ (y18 ++ (y12 ++ (y8 ++ (y5 ++ x)))))))⟩)
 (K .normal ⟨[(0, v0), (1, v1), (7, v7), (8, v8), (9, v9), (13, v13), (14, v14), (29, v29), (30, v30), (31, v31), (86, t28)], h26, (y27 ++ (y24 ++ (y21 ++ (y18 ++ (y12 ++ (y8 ++ (y5 ++ x)))))))⟩)
theorem e_scanmake_Stream_Records_k1 {C gl e h x K} : NW C gl p_scanmake_Stream_Records_k1 ⟨e, h, x⟩ K = d_scanmake_Stream_Records_k1 C gl (aget e 0) (aget e 1) (aget e 7) (aget e 8) (aget e 9) (aget e 11) (aget e 12) (aget e 13) (aget e 14) (aget e 29) (aget e 30) (aget e 31) h x K := by kernel_rfl
def p_scanmake_Stream_Records_k2 : ACode := .pr [0, 1, 7, 8, 9, 13, 14, 29, 30, 31] (.reg [
  ⟨some 87, none, .bin .add (.t 31) (.c (.p (.int .i64 1)))⟩,
  ⟨some 31, none, .mv (.t 87)⟩] (some [0, 1, 7, 8, 9, 13, 14, 29, 30, 31]))
def d_scanmake_Stream_Records_k2 (C : Hd) (gl : Nat → Option PV) (v0 v1 v7 v8 v9 v13 v14 v29 v30 v31 : AV) (h : Heap) (x : Esc) (K : Ex → St → Prop) : Prop :=
 pK (oBin .add v31 (.p (.int .i64 1))) fun t1 =>
 K .normal ⟨[(0, v0), (1, v1), (7, v7), (8, v8), (9, v9), (13, v13), (14, v14), (29, v29), (30, v30), (31, t1)], h, x⟩
theorem e_scanmake_Stream_Records_k2 {C gl e h x K} : NW C gl p_scanmake_Stream_Records_k2 ⟨e, h, x⟩ K = d_scanmake_Stream_Records_k2 C gl (aget e 0) (aget e 1) (aget e 7) (aget e 8) (aget e 9) (aget e 13) (aget e 14) (aget e 29) (aget e 30) (aget e 31) h x K := by kernel_rfl
def P_scanmake_Stream_Records_k3 (q1 q2 : ACode) : ACode := .pr [0, 1, 7, 8, 9, 13, 14, 29, 30, 31] (.seq (.reg [
  ⟨some 32, none, .bin .lss (.t 31) (.t 30)⟩] (some [0, 1, 7, 8, 9, 13, 14, 29, 30, 31, 32]))
 (.seq (.cond (.t 32) .skip
 (.exit 2))
 (.seq (.block 3 (.seq (.reg [
  ⟨some 33, none, .iaddr (some 4) (.t 29) (.t 31)⟩,
  ⟨some 34, none, .load (some 4) (.t 33)⟩,
  ⟨some 11, none, .alloc [.p (.str []), .p (.int .i64 0), .p (.int .i64 0), .p (.int .i64 0)]⟩,
  ⟨none, none, .store (some 4) (.t 11) (.t 34)⟩] (some [0, 1, 7, 8, 9, 11, 13, 14, 29, 30, 31]))
 (.seq (.reg [
  ⟨some 35, none, .mv (.t 0)⟩,
  ⟨some 36, none, .faddr 1 none (.t 11)⟩,
  ⟨some 37, none, .load none (.t 36)⟩,
  ⟨some 38, none, .faddr 2 none (.t 11)⟩,
  ⟨some 39, none, .load none (.t 38)⟩,
  ⟨some 40, none, .faddr 1 none (.t 11)⟩,
  ⟨some 41, none, .load none (.t 40)⟩,
  ⟨some 42, none, .faddr 2 none (.t 11)⟩,
  ⟨some 43, none, .load none (.t 42)⟩,
  ⟨some 44, none, .bin .add (.t 41) (.t 43)⟩,
  ⟨some 45, none, .bin .quo (.t 44) (.c (.p (.int .i64 2)))⟩,
  ⟨some 46, none, .faddr 1 none (.t 11)⟩,
  ⟨some 47, none, .load none (.t 46)⟩,
  ⟨some 48, none, .faddr 2 none (.t 11)⟩,
  ⟨some 49, none, .load none (.t 48)⟩,
  ⟨some 50, none, .bin .add (.t 47) (.t 49)⟩,
  ⟨some 51, none, .bin .quo (.t 50) (.c (.p (.int .i64 2)))⟩,
  ⟨some 52, none, .faddr 1 none (.t 11)⟩,
  ⟨some 53, none, .load none (.t 52)⟩,
  ⟨some 54, none, .bin .add (.t 53) (.c (.p (.int .i64 1)))⟩,
  ⟨some 55, none, .bsl false none 5 (.int .i64 0) [(0, (.t 37)), (1, (.t 39)), (2, (.t 45)), (3, (.t 51)), (4, (.t 54))]⟩,
  ⟨some 56, none, .call f_scanmake_Stream_Pick [(.t 35), (.t 55)]⟩,
  ⟨some 12, none, .mv (.t 56)⟩] (some [0, 1, 7, 8, 9, 11, 12, 13, 14, 29, 30, 31]))
 (.seq (.seq (.reg [
  ⟨some 57, none, .mv (.t 0)⟩,
  ⟨some 58, none, .call f_scanmake_Stream_Flip [(.t 57), (.c (.p (.int .i64 5)))]⟩] (some [0, 1, 7, 8, 9, 11, 12, 13, 14, 29, 30, 31, 58]))
 (.cond (.t 58) (.reg [
  ⟨some 59, none, .mv (.t 0)⟩,
  ⟨some 60, none, .faddr 1 none (.t 11)⟩,
  ⟨some 61, none, .load none (.t 60)⟩,
  ⟨some 62, none, .bin .sub (.t 61) (.c (.p (.int .i64 1)))⟩,
  ⟨some 63, none, .faddr 2 none (.t 11)⟩,
  ⟨some 64, none, .load none (.t 63)⟩,
  ⟨some 65, none, .bin .add (.t 64) (.c (.p (.int .i64 1)))⟩,
  ⟨some 66, none, .faddr 2 none (.t 11)⟩,
  ⟨some 67, none, .load none (.t 66)⟩,
  ⟨some 68, none, .bin .add (.t 67) (.c (.p (.int .i64 7)))⟩,
  ⟨some 69, none, .bsl false none 3 (.int .i64 0) [(0, (.t 62)), (1, (.t 65)), (2, (.t 68))]⟩,
  ⟨some 70, none, .call f_scanmake_Stream_Pick [(.t 59), (.t 69)]⟩,
  ⟨some 12, none, .mv (.t 70)⟩] (some [0, 1, 7, 8, 9, 11, 12, 13, 14, 29, 30, 31]))
 .skip))
 q1))))
 q2)))
def p_scanmake_Stream_Records_k3 : ACode := P_scanmake_Stream_Records_k3 p_scanmake_Stream_Records_k1 p_scanmake_Stream_Records_k2
def d_scanmake_Stream_Records_k3 (C : Hd) (gl : Nat → Option PV) (q1 q2 : ACode) (v0 v1 v7 v8 v9 v13 v14 v29 v30 v31 : AV) (h : Heap) (x : Esc) (K : Ex → St → Prop) : Prop :=
 pK (oBin .lss v31 v30) fun t1 =>
 condB t1 (pK (oIaddr (some 4) v29 v31 h) fun t2 =>
 pK (oLoad (some 4) t2 h) fun t3 =>
 alK [.p (.str []), .p (.int .i64 0), .p (.int .i64 0), .p (.int .i64 0)] h fun t4 h5 y6 =>
 wK (oStore (some 4) t4 t3 h5) fun t7 h8 y9 =>
 pK (oFaddr 1 none t4) fun t10 =>
 pK (oLoad none t10 h8) fun t11 =>
 pK (oFaddr 2 none t4) fun t12 =>
 pK (oLoad none t12 h8) fun t13 =>
 pK (oFaddr 1 none t4) fun t14 =>
 pK (oLoad none t14 h8) fun t15 =>
 pK (oFaddr 2 none t4) fun t16 =>
 pK (oLoad none t16 h8) fun t17 =>
 pK (oBin .add t15 t17) fun t18 =>
 pK (oBin .quo t18 (.p (.int .i64 2))) fun t19 =>
 pK (oFaddr 1 none t4) fun t20 =>
 pK (oLoad none t20 h8) fun t21 =>
 pK (oFaddr 2 none t4) fun t22 =>
 pK (oLoad none t22 h8) fun t23 =>
 pK (oBin .add t21 t23) fun t24 =>
 pK (oBin .quo t24 (.p (.int .i64 2))) fun t25 =>
 pK (oFaddr 1 none t4) fun t26 =>
 pK (oLoad none t26 h8) fun t27 =>
 pK (oBin .add t27 (.p (.int .i64 1))) fun t28 =>
 wK (oBsl false none 5 (.int .i64 0) [(0, t11), (1, t13), (2, t19), (3, t25), (4, t28)] h8) fun t29 h30 y31 =>
 C f_scanmake_Stream_Pick [v0, t29] h30 fun t32 h33 y34 =>
 C f_scanmake_Stream_Flip [v0, (.p (.int .i64 5))] h33 fun t35 h36 y37 =>
 condB t35 (pK (oFaddr 1 none t4) fun t38 =>
 pK (oLoad none t38 h36) fun t39 =>
 pK (oBin .sub t39 (.p (.int .i64 1))) fun t40 =>
 pK (oFaddr 2 none t4) fun t41 =>
 pK (oLoad none t41 h36) fun t42 =>
 pK (oBin .add t42 (.p (.int .i64 1))) fun t43 =>
 pK (oFaddr 2 none t4) fun t44 =>
 pK (oLoad none t44 h36) fun t45 =>
 pK (oBin .add t45 (.p (.int .i64 7))) fun t46 =>
 wK (oBsl false none 3 (.int .i64 0) [(0, t40), (1, t43), (2, t46)] h36) fun t47 h48 y49 =>
 C f_scanmake_Stream_Pick [v0, t47] h48 fun t50 h51 y52 =>
 NW C gl q1 ⟨[(0, v0), (1, v1), (7, v7), (8, v8), (9, v9), (11, t4), (12, t50), (13, v13), (14, v14), (29, v29), (30, v30), (31, v31)], h51, (y52 ++ (y49 ++ (y37 ++ (y34 ++ (y31 ++ (y9 ++ (y6 ++ x)))))))⟩ (blockN 3 (seqN C gl q2 K)))
 (NW C gl q1 ⟨[(0, v0), (1, v1), (7, v7), (8, v8), (9, v9), (11, t4), (12, t32), (13, v13), (14, v14), (29, v29), (30, v30), (31, v31), (58, t35)], h36, (y37 ++ (y34 ++ (y31 ++ (y9 ++ (y6 ++ x)))))⟩ (blockN 3 (seqN C gl q2 K))))
 (K (.exit 2) ⟨[(0, v0), (1, v1), (7, v7), (8, v8), (9, v9), (13, v13), (14, v14), (29, v29), (30, v30), (31, v31), (32, t1)], h, x⟩)
theorem E_scanmake_Stream_Records_k3 {C gl q1 q2 e h x K} : NW C gl (P_scanmake_Stream_Records_k3 q1 q2) ⟨e, h, x⟩ K = d_scanmake_Stream_Records_k3 C gl q1 q2 (aget e 0) (aget e 1) (aget e 7) (aget e 8) (aget e 9) (aget e 13) (aget e 14) (aget e 29) (aget e 30) (aget e 31) h x K := by kernel_rfl
theorem e_scanmake_Stream_Records_k3 {C gl e h x K} : NW C gl p_scanmake_Stream_Records_k3 ⟨e, h, x⟩ K = d_scanmake_Stream_Records_k3 C gl p_scanmake_Stream_Records_k1 p_scanmake_Stream_Records_k2 (aget e 0) (aget e 1) (aget e 7) (aget e 8) (aget e 9) (aget e 13) (aget e 14) (aget e 29) (aget e 30) (aget e 31) h x K := E_scanmake_Stream_Records_k3
theorem l_scanmake_Stream_Records_k3 {C gl e h x K} : NW C gl (.loop (.scope p_scanmake_Stream_Records_k3)) ⟨e, h, x⟩ K = NLoop C gl (.scope p_scanmake_Stream_Records_k3) K [(0, aget e 0), (1, aget e 1), (7, aget e 7), (8, aget e 8), (9, aget e 9), (13, aget e 13), (14, aget e 14), (29, aget e 29), (30, aget e 30), (31, aget e 31)] h x := NLoop_sc
def p_scanmake_Stream_Records_k4 : ACode := .pr [0, 1, 7, 8, 9, 13, 14] (.reg [
  ⟨some 125, none, .mv (.t 7)⟩,
  ⟨some 126, none, .load (some 4) (.t 9)⟩,
  ⟨some 127, none, .bsl false (some 4) 1 (.agg [.str [], .int .i64 0, .str [], .sl none []]) [(0, (.t 126))]⟩,
  ⟨some 128, none, .app (some 4) (.t 125) (.t 127)⟩,
  ⟨some 7, none, .mv (.t 128)⟩] (some [0, 1, 7, 8, 13, 14]))
def d_scanmake_Stream_Records_k4 (C : Hd) (gl : Nat → Option PV) (v0 v1 v7 v8 v9 v13 v14 : AV) (h : Heap) (x : Esc) (K : Ex → St → Prop) : Prop :=
 pK (oLoad (some 4) v9 h) fun t1 =>
 wK (oBsl false (some 4) 1 (.agg [.str [], .int .i64 0, .str [], .sl none []]) [(0, t1)] h) fun t2 h3 y4 =>
 wK (oApp (some 4) v7 t2 h3) fun t5 h6 y7 =>
 K .normal ⟨[(0, v0), (1, v1), (7, t5), (8, v8), (13, v13), (14, v14)], h6, (y7 ++ (y4 ++ x))⟩
theorem e_scanmake_Stream_Records_k4 {C gl e h x K} : NW C gl p_scanmake_Stream_Records_k4 ⟨e, h, x⟩ K = d_scanmake_Stream_Records_k4 C gl (aget e 0) (aget e 1) (aget e 7) (aget e 8) (aget e 9) (aget e 13) (aget e 14) h x K := by kernel_rfl
def P_scanmake_Stream_Records_k5 (q4 : ACode) : ACode := .pr [0, 1, 7, 8, 9, 13, 14] (.seq (.seq (.reg [
  ⟨some 88, none, .mv (.t 0)⟩,
  ⟨some 89, none, .call f_scanmake_Stream_Flip [(.t 88), (.c (.p (.int .i64 60)))]⟩] (some [0, 1, 7, 8, 9, 13, 14, 89]))
 (.cond (.t 89) (.seq (.reg [
  ⟨some 90, none, .mv (.t 0)⟩,
  ⟨some 91, none, .call f_scanmake_Stream_Next [(.t 90), (.c (.p (.int .i64 3)))]⟩] (some [0, 1, 7, 8, 9, 13, 14, 91]))
 (.block 4 (.seq (.reg [
  ⟨some 103, none, .bin .eql (.t 91) (.c (.p (.int .i64 0)))⟩,
  ⟨some 102, none, .mv (.t 103)⟩] (some [0, 1, 7, 8, 9, 13, 14, 91, 102]))
 (.cond (.t 102) (.reg [
  ⟨some 104, none, .mv (.t 0)⟩,
  ⟨some 105, none, .bsl false none 2 (.str []) [(0, (.c (.p (.str [])))), (1, (.c (.p (.str [117, 49]))))]⟩,
  ⟨some 106, none, .call f_scanmake_Stream_Some [(.t 104), (.t 105)]⟩,
  ⟨some 107, none, .mv (.t 0)⟩,
  ⟨some 108, none, .bsl false none 2 (.str []) [(0, (.c (.p (.str [65])))), (1, (.c (.p (.str [115, 49]))))]⟩,
  ⟨some 109, none, .call f_scanmake_Stream_Some [(.t 107), (.t 108)]⟩,
  ⟨some 110, none, .mv (.t 0)⟩,
  ⟨some 111, none, .call f_scanmake_Stream_Odd [(.t 110), (.c (.p (.int .i64 0))), (.c (.p (.int .i64 50)))]⟩,
  ⟨some 112, none, .faddr 0 none (.t 9)⟩,
  ⟨none, none, .store none (.t 112) (.t 106)⟩,
  ⟨some 113, none, .faddr 2 none (.t 9)⟩,
  ⟨none, none, .store none (.t 113) (.t 109)⟩,
  ⟨some 114, none, .faddr 1 none (.t 9)⟩,
  ⟨none, none, .store none (.t 114) (.t 111)⟩] (some [0, 1, 7, 8, 9, 13, 14]))
 (.seq (.reg [
  ⟨some 116, none, .bin .eql (.t 91) (.c (.p (.int .i64 1)))⟩,
  ⟨some 115, none, .mv (.t 116)⟩] (some [0, 1, 7, 8, 9, 13, 14, 115]))
 (.cond (.t 115) (.draw [
   ⟨⟨some 117, none, .faddr 3 none (.t 9)⟩, [9], false, [], []⟩,
   ⟨⟨some 118, none, .load none (.t 117)⟩, [117], false, [], []⟩,
   ⟨⟨some 119, none, .mv (.t 0)⟩, [0], false, [], []⟩,
   ⟨⟨some 120, none, .bsl false none 3 (.int .i64 0) [(0, (.c (.p (.int .i64 0)))), (1, (.c (.p (.int .i64 100001)))), (2, (.c (.p (.int .i64 (-100001)))))]⟩, [], false, [], []⟩,
   ⟨⟨some 121, none, .call f_scanmake_Stream_Pick [(.t 119), (.t 120)]⟩, [119, 120], true, [], [1]⟩,
   ⟨⟨some 122, none, .bsl false none 1 (.int .i64 0) [(0, (.t 121))]⟩, [121], false, [], []⟩,
   ⟨⟨some 123, none, .app none (.t 118) (.t 122)⟩, [118, 122], true, [], []⟩,
   ⟨⟨some 124, none, .faddr 3 none (.t 9)⟩, [9], false, [], []⟩,
   ⟨⟨none, none, .store none (.t 124) (.t 123)⟩, [124, 123], true, [], []⟩] (some [0, 1, 7, 8, 9, 13, 14]))
 (.draw [
   ⟨⟨some 92, none, .faddr 3 none (.t 9)⟩, [9], false, [], []⟩,
   ⟨⟨some 93, none, .load none (.t 92)⟩, [92], false, [], []⟩,
   ⟨⟨some 94, none, .mv (.t 0)⟩, [0], false, [], []⟩,
   ⟨⟨some 95, none, .faddr 3 none (.t 9)⟩, [9], false, [], []⟩,
   ⟨⟨some 96, none, .load none (.t 95)⟩, [95], false, [], []⟩,
   ⟨⟨some 97, none, .len (.t 96)⟩, [96], false, [], []⟩,
   ⟨⟨some 98, none, .bin .add (.t 97) (.c (.p (.int .i64 1)))⟩, [97], false, [], []⟩,
   ⟨⟨some 99, none, .call f_scanmake_Stream_Next [(.t 94), (.t 98)]⟩, [94, 98], true, [], [1]⟩,
   ⟨⟨some 100, none, .slice none (.t 93) none (some (.t 99)) none⟩, [93, 99], false, [], []⟩,
   ⟨⟨some 101, none, .faddr 3 none (.t 9)⟩, [9], false, [], []⟩,
   ⟨⟨none, none, .store none (.t 101) (.t 100)⟩, [101, 100], true, [], []⟩] (some [0, 1, 7, 8, 9, 13, 14]))))))))
 .skip))
 q4)
def p_scanmake_Stream_Records_k5 : ACode := P_scanmake_Stream_Records_k5 p_scanmake_Stream_Records_k4
def d_scanmake_Stream_Records_k5 (C : Hd) (gl : Nat → Option PV) (q4 : ACode) (v0 v1 v7 v8 v9 v13 v14 : AV) (h : Heap) (x : Esc) (K : Ex → St → Prop) : Prop :=
 C f_scanmake_Stream_Flip [v0, (.p (.int .i64 60))] h fun t1 h2 y3 =>
 condB t1 (C f_scanmake_Stream_Next [v0, (.p (.int .i64 3))] h2 fun t4 h5 y6 =>
 pK (oBin .eql t4 (.p (.int .i64 0))) fun t7 =>
 condB t7 (wK (oBsl false none 2 (.str []) [(0, (.p (.str []))), (1, (.p (.str [117, 49])))] h5) fun t8 h9 y10 =>
 C f_scanmake_Stream_Some [v0, t8] h9 fun t11 h12 y13 =>
 wK (oBsl false none 2 (.str []) [(0, (.p (.str [65]))), (1, (.p (.str [115, 49])))] h12) fun t14 h15 y16 =>
 C f_scanmake_Stream_Some [v0, t14] h15 fun t17 h18 y19 =>
 C f_scanmake_Stream_Odd [v0, (.p (.int .i64 0)), (.p (.int .i64 50))] h18 fun t20 h21 y22 =>
 pK (oFaddr 0 none v9) fun t23 =>
 wK (oStore none t23 t11 h21) fun t24 h25 y26 =>
 pK (oFaddr 2 none v9) fun t27 =>
 wK (oStore none t27 t17 h25) fun t28 h29 y30 =>
 pK (oFaddr 1 none v9) fun t31 =>
 wK (oStore none t31 t20 h29) fun t32 h33 y34 =>
 NW C gl q4 ⟨[(0, v0), (1, v1), (7, v7), (8, v8), (9, v9), (13, v13), (14, v14)], h33, (y34 ++ (y30 ++ (y26 ++ (y22 ++ (y19 ++ (y16 ++ (y13 ++ (y10 ++ (y6 ++ (y3 ++ x))))))))))⟩ K)
 (pK (oBin .eql t4 (.p (.int .i64 1))) fun t35 =>
 condB t35 (pK (oFaddr 3 none v9) fun t36 =>
 pK (oLoad none t36 h5) fun t37 =>
 wK (oBsl false none 3 (.int .i64 0) [(0, (.p (.int .i64 0))), (1, (.p (.int .i64 100001))), (2, (.p (.int .i64 (-100001))))] h5) fun t38 h39 y40 =>
 (h39 = h5 ∧ y40 = []) ∧ (callE C f_scanmake_Stream_Pick [v0, t38] h39 fun t41 h42 y43 =>
 (pK (oLoad none t36 h42) fun v => (fun u (g1 : Heap) (y1 : Esc) => u = t37 ∧ g1 = h42 ∧ y1 = []) v h42 []) ∧ (wK (oBsl false none 1 (.int .i64 0) [(0, t41)] h42) fun t44 h45 y46 =>
 (h45 = h42 ∧ y46 = []) ∧ (wK (oApp none t37 t44 h45) fun t47 h48 y49 =>
 pK (oFaddr 3 none v9) fun t50 =>
 wK (oStore none t50 t47 h48) fun t51 h52 y53 =>
 NW C gl q4 ⟨[(0, v0), (1, v1), (7, v7), (8, v8), (9, v9), (13, v13), (14, v14)], h52, (y53 ++ (y49 ++ (y46 ++ (y43 ++ (y40 ++ (y6 ++ (y3 ++ x)))))))⟩ K))))
 (pK (oFaddr 3 none v9) fun t54 =>
 pK (oLoad none t54 h5) fun t55 =>
 pK (oFaddr 3 none v9) fun t56 =>
 pK (oLoad none t56 h5) fun t57 =>
 pK (oLen t57) fun t58 =>
 pK (oBin .add t58 (.p (.int .i64 1))) fun t59 =>
 callE C f_scanmake_Stream_Next [v0, t59] h5 fun t60 h61 y62 =>
 (pK (oLoad none t54 h61) fun v => (fun u (g1 : Heap) (y1 : Esc) => u = t55 ∧ g1 = h61 ∧ y1 = []) v h61 []) ∧ (pK (oSlice none t55 none (some t60) none h61) fun t63 =>
 pK (oFaddr 3 none v9) fun t64 =>
 wK (oStore none t64 t63 h61) fun t65 h66 y67 =>
 NW C gl q4 ⟨[(0, v0), (1, v1), (7, v7), (8, v8), (9, v9), (13, v13), (14, v14)], h66, (y67 ++ (y62 ++ (y6 ++ (y3 ++ x))))⟩ K))))
 (NW C gl q4 ⟨[(0, v0), (1, v1), (7, v7), (8, v8), (9, v9), (13, v13), (14, v14), (89, t1)], h2, (y3 ++ x)⟩ K)
theorem E_scanmake_Stream_Records_k5 {C gl q4 e h x K} : NW C gl (P_scanmake_Stream_Records_k5 q4) ⟨e, h, x⟩ K = d_scanmake_Stream_Records_k5 C gl q4 (aget e 0) (aget e 1) (aget e 7) (aget e 8) (aget e 9) (aget e 13) (aget e 14) h x K := by kernel_rfl
theorem e_scanmake_Stream_Records_k5 {C gl e h x K} : NW C gl p_scanmake_Stream_Records_k5 ⟨e, h, x⟩ K = d_scanmake_Stream_Records_k5 C gl p_scanmake_Stream_Records_k4 (aget e 0) (aget e 1) (aget e 7) (aget e 8) (aget e 9) (aget e 13) (aget e 14) h x K := E_scanmake_Stream_Records_k5
def p_scanmake_Stream_Records_k6 : ACode := .pr [0, 1, 7, 8, 13, 14] (.reg [
  ⟨some 129, none, .bin .add (.t 14) (.c (.p (.int .i64 1)))⟩,
  ⟨some 14, none, .mv (.t 129)⟩] (some [0, 1, 7, 8, 13, 14]))
def d_scanmake_Stream_Records_k6 (C : Hd) (gl : Nat → Option PV) (v0 v1 v7 v8 v13 v14 : AV) (h : Heap) (x : Esc) (K : Ex → St → Prop) : Prop :=
 pK (oBin .add v14 (.p (.int .i64 1))) fun t1 =>
 K .normal ⟨[(0, v0), (1, v1), (7, v7), (8, v8), (13, v13), (14, t1)], h, x⟩
theorem e_scanmake_Stream_Records_k6 {C gl e h x K} : NW C gl p_scanmake_Stream_Records_k6 ⟨e, h, x⟩ K = d_scanmake_Stream_Records_k6 C gl (aget e 0) (aget e 1) (aget e 7) (aget e 8) (aget e 13) (aget e 14) h x K := by kernel_rfl
def P_scanmake_Stream_Records_k7 (q3 q5 q6 : ACode) : ACode := .pr [0, 1, 7, 8, 13, 14] (.seq (.reg [
  ⟨some 15, none, .bin .lss (.t 14) (.t 13)⟩] (some [0, 1, 7, 8, 13, 14, 15]))
 (.seq (.cond (.t 15) .skip
 (.exit 0))
 (.seq (.block 1 (.seq (.reg [
  ⟨some 16, none, .mv (.t 8)⟩,
  ⟨some 17, none, .mv (.t 0)⟩,
  ⟨some 18, none, .bsl false none 4 (.int .i64 0) [(0, (.c (.p (.int .i64 1)))), (1, (.c (.p (.int .i64 1)))), (2, (.c (.p (.int .i64 5)))), (3, (.c (.p (.int .i64 0))))]⟩,
  ⟨some 19, none, .call f_scanmake_Stream_Pick [(.t 17), (.t 18)]⟩,
  ⟨some 20, none, .bin .add (.t 16) (.t 19)⟩,
  ⟨some 8, none, .mv (.t 20)⟩] (some [0, 1, 7, 8, 13, 14]))
 (.seq (.reg [
  ⟨some 21, none, .mv (.t 0)⟩,
  ⟨some 22, none, .bsl false none 4 (.str []) [(0, (.c (.p (.str [117, 49])))), (1, (.c (.p (.str [117, 50])))), (2, (.c (.p (.str [117, 51])))), (3, (.c (.p (.str [117, 52]))))]⟩,
  ⟨some 23, none, .call f_scanmake_Stream_Some [(.t 21), (.t 22)]⟩,
  ⟨some 24, none, .mv (.t 8)⟩,
  ⟨some 25, none, .mv (.t 0)⟩,
  ⟨some 26, none, .bsl false none 3 (.str []) [(0, (.c (.p (.str [115, 49])))), (1, (.c (.p (.str [115, 49])))), (2, (.c (.p (.str [115, 50]))))]⟩,
  ⟨some 27, none, .call f_scanmake_Stream_Some [(.t 25), (.t 26)]⟩,
  ⟨some 28, none, .build [.p (.str []), .p (.int .i64 0), .p (.str []), .sl0 none] [(0, 1, (.t 23)), (1, 1, (.t 24)), (2, 1, (.t 27))]⟩,
  ⟨some 9, none, .alloc [.p (.str []), .p (.int .i64 0), .p (.str []), .sl0 none]⟩,
  ⟨none, none, .store (some 4) (.t 9) (.t 28)⟩] (some [0, 1, 7, 8, 9, 13, 14]))
 (.seq (.seq (.reg [
  ⟨some 29, none, .mv (.t 1)⟩,
  ⟨some 30, none, .len (.t 29)⟩,
  ⟨some 31, none, .mv (.c (.p (.int .i64 0)))⟩] (some [0, 1, 7, 8, 9, 13, 14, 29, 30, 31]))
 (.block 2 (.loop (.scope q3))))
 q5))))
 q6)))
def p_scanmake_Stream_Records_k7 : ACode := P_scanmake_Stream_Records_k7 p_scanmake_Stream_Records_k3 p_scanmake_Stream_Records_k5 p_scanmake_Stream_Records_k6
def d_scanmake_Stream_Records_k7 (C : Hd) (gl : Nat → Option PV) (q3 q5 q6 : ACode) (v0 v1 v7 v8 v13 v14 : AV) (h : Heap) (x : Esc) (K : Ex → St → Prop) : Prop :=
 pK (oBin .lss v14 v13) fun t1 =>
 condB t1 (wK (oBsl false none 4 (.int .i64 0) [(0, (.p (.int .i64 1))), (1, (.p (.int .i64 1))), (2, (.p (.int .i64 5))), (3, (.p (.int .i64 0)))] h) fun t2 h3 y4 =>
 C f_scanmake_Stream_Pick [v0, t2] h3 fun t5 h6 y7 =>
 pK (oBin .add v8 t5) fun t8 =>
 wK (oBsl false none 4 (.str []) [(0, (.p (.str [117, 49]))), (1, (.p (.str [117, 50]))), (2, (.p (.str [117, 51]))), (3, (.p (.str [117, 52])))] h6) fun t9 h10 y11 =>
 C f_scanmake_Stream_Some [v0, t9] h10 fun t12 h13 y14 =>
 wK (oBsl false none 3 (.str []) [(0, (.p (.str [115, 49]))), (1, (.p (.str [115, 49]))), (2, (.p (.str [115, 50])))] h13) fun t15 h16 y17 =>
 C f_scanmake_Stream_Some [v0, t15] h16 fun t18 h19 y20 =>
 pK (oBuild [.p (.str []), .p (.int .i64 0), .p (.str []), .sl0 none] [(0, 1, t12), (1, 1, t8), (2, 1, t18)]) fun t21 =>
 alK [.p (.str []), .p (.int .i64 0), .p (.str []), .sl0 none] h19 fun t22 h23 y24 =>
 wK (oStore (some 4) t22 t21 h23) fun t25 h26 y27 =>
 pK (oLen v1) fun t28 =>
 NW C gl (.loop (.scope q3)) ⟨[(0, v0), (1, v1), (7, v7), (8, t8), (9, t22), (13, v13), (14, v14), (29, v1), (30, t28), (31, (.p (.int .i64 0)))], h26, (y27 ++ (y24 ++ (y20 ++ (y17 ++ (y14 ++ (y11 ++ (y7 ++ (y4 ++ x))))))))⟩ (blockN 2 (seqN C gl q5 (blockN 1 (seqN C gl q6 K)))))
 (K (.exit 0) ⟨[(0, v0), (1, v1), (7, v7), (8, v8), (13, v13), (14, v14), (15, t1)], h, x⟩)
theorem E_scanmake_Stream_Records_k7 {C gl q3 q5 q6 e h x K} : NW C gl (P_scanmake_Stream_Records_k7 q3 q5 q6) ⟨e, h, x⟩ K = d_scanmake_Stream_Records_k7 C gl q3 q5 q6 (aget e 0) (aget e 1) (aget e 7) (aget e 8) (aget e 13) (aget e 14) h x K := by kernel_rfl
theorem e_scanmake_Stream_Records_k7 {C gl e h x K} : NW C gl p_scanmake_Stream_Records_k7 ⟨e, h, x⟩ K = d_scanmake_Stream_Records_k7 C gl p_scanmake_Stream_Records_k3 p_scanmake_Stream_Records_k5 p_scanmake_Stream_Records_k6 (aget e 0) (aget e 1) (aget e 7) (aget e 8) (aget e 13) (aget e 14) h x K := E_scanmake_Stream_Records_k7
theorem l_scanmake_Stream_Records_k7 {C gl e h x K} : NW C gl (.loop (.scope p_scanmake_Stream_Records_k7)) ⟨e, h, x⟩ K = NLoop C gl (.scope p_scanmake_Stream_Records_k7) K [(0, aget e 0), (1, aget e 1), (7, aget e 7), (8, aget e 8), (13, aget e 13), (14, aget e 14)] h x := NLoop_sc
def p_scanmake_Stream_Records_k8 : ACode := .pr [7] (.seq (.reg [
  ⟨some 130, none, .mv (.t 7)⟩,
  ⟨some 131, none, .call f_slices_SortStableFunc_api_Record_api_Record [(.t 130), (.f f_scanmake_Stream_Records_1)]⟩] (some [7]))
 (.seq (.reg [
  ⟨some 132, none, .mv (.t 7)⟩,
  ⟨some 133, none, .call f_slices_CompactFunc_api_Record_api_Record [(.t 132), (.f f_scanmake_Stream_Records_2)]⟩,
  ⟨some 6, none, .mv (.t 133)⟩] (some [6]))
 .ret))
def d_scanmake_Stream_Records_k8 (C : Hd) (gl : Nat → Option PV) (v7 : AV) (h : Heap) (x : Esc) (K : Ex → St → Prop) : Prop :=
 C f_slices_SortStableFunc_api_Record_api_Record [v7, (.fn f_scanmake_Stream_Records_1 [])] h fun t1 h2 y3 =>
 C f_slices_CompactFunc_api_Record_api_Record [v7, (.fn f_scanmake_Stream_Records_2 [])] h2 fun t4 h5 y6 =>
 K .ret ⟨[(6, t4)], h5, (y6 ++ (y3 ++ x))⟩
theorem e_scanmake_Stream_Records_k8 {C gl e h x K} : NW C gl p_scanmake_Stream_Records_k8 ⟨e, h, x⟩ K = d_scanmake_Stream_Records_k8 C gl (aget e 7) h x K := by kernel_rfl
def P_scanmake_Stream_Records (q7 q8 : ACode) : ACode := (.seq (.reg [
  ⟨some 6, none, .mv (.c (.p (.sl (some 4) [])))⟩] (some [0, 1, 2]))
 (.seq (.reg [
  ⟨some 7, none, .new0 (some 4)⟩] (some [0, 1, 2, 7]))
 (.seq (.reg [
  ⟨some 8, none, .mv (.c (.p (.int .i64 0)))⟩] (some [0, 1, 2, 7, 8]))
 (.seq (.seq (.reg [
  ⟨some 13, none, .mv (.t 2)⟩,
  ⟨some 14, none, .mv (.c (.p (.int .i64 0)))⟩] (some [0, 1, 7, 8, 13, 14]))
 (.block 0 (.loop (.scope q7))))
 q8))))
def a_scanmake_Stream_Records : AFun := ⟨3, [.t 6], P_scanmake_Stream_Records p_scanmake_Stream_Records_k7 p_scanmake_Stream_Records_k8, false, false⟩
def d_scanmake_Stream_Records (C : Hd) (gl : Nat → Option PV) (q7 q8 : ACode) (v0 v1 v2 : AV) (h : Heap) (x : Esc) (K : Ex → St → Prop) : Prop :=
 nwK (some 4) h fun t1 h2 y3 =>
 NW C gl (.loop (.scope q7)) ⟨[(0, v0), (1, v1), (7, t1), (8, (.p (.int .i64 0))), (13, v2), (14, (.p (.int .i64 0)))], h2, (y3 ++ x)⟩ (blockN 0 (seqN C gl q8 K))
theorem E_scanmake_Stream_Records {C gl q7 q8 v0 v1 v2 h x K} : NW C gl (P_scanmake_Stream_Records q7 q8) ⟨enter [v0, v1, v2], h, x⟩ K = d_scanmake_Stream_Records C gl q7 q8 v0 v1 v2 h x K := by kernel_rfl
theorem e_scanmake_Stream_Records {C gl v0 v1 v2 h x K} : NW C gl a_scanmake_Stream_Records.body ⟨enter [v0, v1, v2], h, x⟩ K = d_scanmake_Stream_Records C gl p_scanmake_Stream_Records_k7 p_scanmake_Stream_Records_k8 v0 v1 v2 h x K := E_scanmake_Stream_Records
def P_scanmake_Stream_Range : ACode := (.seq (.reg [
  ⟨some 6, none, .mv (.c (.p (.int .i64 0)))⟩] (some [0, 1, 2]))
 (.seq (.seq (.reg [
  ⟨some 7, none, .mv (.t 2)⟩,
  ⟨some 8, none, .mv (.t 1)⟩,
  ⟨some 9, none, .bin .lss (.t 7) (.t 8)⟩] (some [0, 1, 2, 9]))
 (.cond (.t 9) (.seq (.reg [
  ⟨some 10, none, .mv (.t 1)⟩,
  ⟨some 6, none, .mv (.t 10)⟩] (some [6]))
 .ret)
 .skip))
 (.seq (.reg [
  ⟨some 11, none, .mv (.t 1)⟩,
  ⟨some 12, none, .mv (.t 0)⟩,
  ⟨some 13, none, .mv (.t 2)⟩,
  ⟨some 14, none, .mv (.t 1)⟩,
  ⟨some 15, none, .bin .sub (.t 13) (.t 14)⟩,
  ⟨some 16, none, .bin .add (.t 15) (.c (.p (.int .i64 1)))⟩,
  ⟨some 17, none, .call f_scanmake_Stream_Next [(.t 12), (.t 16)]⟩,
  ⟨some 18, none, .bin .add (.t 11) (.t 17)⟩,
  ⟨some 6, none, .mv (.t 18)⟩] (some [6]))
 .ret)))
def a_scanmake_Stream_Range : AFun := ⟨3, [.t 6], P_scanmake_Stream_Range, false, false⟩
def d_scanmake_Stream_Range (C : Hd) (gl : Nat → Option PV) (v0 v1 v2 : AV) (h : Heap) (x : Esc) (K : Ex → St → Prop) : Prop :=
 pK (oBin .lss v2 v1) fun t1 =>
 condB t1 (K .ret ⟨[(6, v1)], h, x⟩)
 (pK (oBin .sub v2 v1) fun t2 =>
 pK (oBin .add t2 (.p (.int .i64 1))) fun t3 =>
 C f_scanmake_Stream_Next [v0, t3] h fun t4 h5 y6 =>
 pK (oBin .add v1 t4) fun t7 =>
 K .ret ⟨[(6, t7)], h5, (y6 ++ x)⟩)
theorem E_scanmake_Stream_Range {C gl v0 v1 v2 h x K} : NW C gl (P_scanmake_Stream_Range) ⟨enter [v0, v1, v2], h, x⟩ K = d_scanmake_Stream_Range C gl v0 v1 v2 h x K := by kernel_rfl
theorem e_scanmake_Stream_Range {C gl v0 v1 v2 h x K} : NW C gl a_scanmake_Stream_Range.body ⟨enter [v0, v1, v2], h, x⟩ K = d_scanmake_Stream_Range C gl v0 v1 v2 h x K := E_scanmake_Stream_Range
def P_scanmake_Stream_Flip : ACode := (.seq (.reg [
  ⟨some 4, none, .mv (.c (.p (.bool false)))⟩] (some [0, 1]))
 (.seq (.reg [
  ⟨some 5, none, .mv (.t 0)⟩,
  ⟨some 6, none, .mv (.t 1)⟩,
  ⟨some 7, none, .call f_scanmake_Stream_Next [(.t 5), (.t 6)]⟩,
  ⟨some 8, none, .bin .eql (.t 7) (.c (.p (.int .i64 0)))⟩,
  ⟨some 4, none, .mv (.t 8)⟩] (some [4]))
 .ret))
def a_scanmake_Stream_Flip : AFun := ⟨2, [.t 4], P_scanmake_Stream_Flip, false, false⟩
def d_scanmake_Stream_Flip (C : Hd) (gl : Nat → Option PV) (v0 v1 : AV) (h : Heap) (x : Esc) (K : Ex → St → Prop) : Prop :=
 C f_scanmake_Stream_Next [v0, v1] h fun t1 h2 y3 =>
 pK (oBin .eql t1 (.p (.int .i64 0))) fun t4 =>
 K .ret ⟨[(4, t4)], h2, (y3 ++ x)⟩
theorem E_scanmake_Stream_Flip {C gl v0 v1 h x K} : NW C gl (P_scanmake_Stream_Flip) ⟨enter [v0, v1], h, x⟩ K = d_scanmake_Stream_Flip C gl v0 v1 h x K := by kernel_rfl
theorem e_scanmake_Stream_Flip {C gl v0 v1 h x K} : NW C gl a_scanmake_Stream_Flip.body ⟨enter [v0, v1], h, x⟩ K = d_scanmake_Stream_Flip C gl v0 v1 h x K := E_scanmake_Stream_Flip
def P_slices_Clone_api_Record_api_Record : ACode := (.det (.seq (.reg [
  ⟨some 2, none, .mv (.c (.p (.sl (some 4) [])))⟩] (some [0]))
 (.seq (.seq (.reg [
  ⟨some 3, none, .mv (.t 0)⟩,
  ⟨some 4, none, .isnil 4 false (.t 3)⟩] (some [0, 4]))
 (.condu (.t 4) (.seq (.reg [
  ⟨some 2, none, .new0 (some 4)⟩] (some [2]))
 .ret)
 .skip))
 (.seq (.reg [
  ⟨some 5, none, .bsl true (some 4) 0 (.agg [.str [], .int .i64 0, .str [], .sl none []]) []⟩,
  ⟨some 6, none, .mv (.t 0)⟩,
  ⟨some 7, none, .app (some 4) (.t 5) (.t 6)⟩,
  ⟨some 2, none, .mv (.t 7)⟩] (some [2]))
 .ret))))
def a_slices_Clone_api_Record_api_Record : AFun := ⟨1, [.t 2], P_slices_Clone_api_Record_api_Record, false, true⟩
def d_slices_Clone_api_Record_api_Record (C : Hd) (gl : Nat → Option PV) (v0 : AV) (h : Heap) (x : Esc) (K : Ex → St → Prop) : Prop :=
 detK (fun K => pK (oIsnil 4 false v0) fun t1 =>
 condU t1 (nwK (some 4) h fun t2 h3 y4 =>
 K .ret ⟨[(2, t2)], h3, (y4 ++ x)⟩)
 (wK (oBsl true (some 4) 0 (.agg [.str [], .int .i64 0, .str [], .sl none []]) [] h) fun t5 h6 y7 =>
 wK (oApp (some 4) t5 v0 h6) fun t8 h9 y10 =>
 K .ret ⟨[(2, t8)], h9, (y10 ++ (y7 ++ x))⟩)) K
theorem E_slices_Clone_api_Record_api_Record {C gl v0 h x K} : NW C gl (P_slices_Clone_api_Record_api_Record) ⟨enter [v0], h, x⟩ K = d_slices_Clone_api_Record_api_Record C gl v0 h x K := by kernel_rfl
theorem e_slices_Clone_api_Record_api_Record {C gl v0 h x K} : NW C gl a_slices_Clone_api_Record_api_Record.body ⟨enter [v0], h, x⟩ K = d_slices_Clone_api_Record_api_Record C gl v0 h x K := E_slices_Clone_api_Record_api_Record
def P_scanmake_Stream_Next : ACode := (.seq (.reg [
  ⟨some 4, none, .mv (.c (.p (.int .i64 0)))⟩] (some [0, 1]))
 (.seq (.reg [
  ⟨some 7, none, .mv (.t 0)⟩,
  ⟨some 8, none, .nilchk (.t 7)⟩,
  ⟨some 9, none, .faddr 1 none (.t 8)⟩,
  ⟨some 10, none, .load none (.t 9)⟩,
  ⟨some 11, none, .bin .add (.t 10) (.c (.p (.int .i64 1)))⟩,
  ⟨some 12, none, .nilchk (.t 7)⟩,
  ⟨some 13, none, .faddr 1 none (.t 12)⟩,
  ⟨none, none, .store none (.t 13) (.t 11)⟩] (some [0, 1]))
 (.seq (.seq (.reg [
  ⟨some 14, none, .mv (.t 0)⟩,
  ⟨some 15, none, .nilchk (.t 14)⟩,
  ⟨some 16, none, .faddr 0 none (.t 15)⟩,
  ⟨some 17, none, .load none (.t 16)⟩,
  ⟨some 18, none, .len (.t 17)⟩,
  ⟨some 19, none, .bin .eql (.t 18) (.c (.p (.int .i64 0)))⟩] (some [0, 1, 19]))
 (.cond (.t 19) (.seq (.reg [
  ⟨some 20, none, .mv (.t 0)⟩,
  ⟨some 21, none, .nilchk (.t 20)⟩,
  ⟨some 22, none, .faddr 1 none (.t 21)⟩,
  ⟨some 23, none, .load none (.t 22)⟩,
  ⟨some 24, none, .bin .mul (.t 23) (.c (.p (.int .i64 7919)))⟩,
  ⟨some 25, none, .mv (.t 1)⟩,
  ⟨some 26, none, .call f_scanmake_Below [(.t 24), (.t 25)]⟩,
  ⟨some 4, none, .mv (.t 26)⟩] (some [4]))
 .ret)
 .skip))
 (.seq (.draw [
   ⟨⟨some 27, none, .mv (.t 0)⟩, [0], false, [], []⟩,
   ⟨⟨some 28, none, .nilchk (.t 27)⟩, [27], false, [], []⟩,
   ⟨⟨some 29, none, .faddr 1 none (.t 28)⟩, [28], false, [], []⟩,
   ⟨⟨some 30, none, .load none (.t 29)⟩, [29], false, [], []⟩,
   ⟨⟨some 31, none, .bin .sub (.t 30) (.c (.p (.int .i64 1)))⟩, [30], false, [], []⟩,
   ⟨⟨some 32, none, .mv (.t 0)⟩, [0], false, [], []⟩,
   ⟨⟨some 33, none, .nilchk (.t 32)⟩, [32], false, [], []⟩,
   ⟨⟨some 34, none, .faddr 0 none (.t 33)⟩, [33], false, [], []⟩,
   ⟨⟨some 35, none, .load none (.t 34)⟩, [34], false, [], []⟩,
   ⟨⟨some 36, none, .len (.t 35)⟩, [35], false, [], []⟩,
   ⟨⟨some 37, none, .bin .rem (.t 31) (.t 36)⟩, [31, 36], false, [], []⟩,
   ⟨⟨some 5, none, .mv (.t 37)⟩, [37], false, [], []⟩] (some [0, 1, 5]))
 (.seq (.draw [
   ⟨⟨some 38, none, .mv (.t 0)⟩, [0], false, [], []⟩,
   ⟨⟨some 39, none, .nilchk (.t 38)⟩, [38], false, [], []⟩,
   ⟨⟨some 40, none, .faddr 1 none (.t 39)⟩, [39], false, [], []⟩,
   ⟨⟨some 41, none, .load none (.t 40)⟩, [40], false, [], []⟩,
   ⟨⟨some 42, none, .bin .sub (.t 41) (.c (.p (.int .i64 1)))⟩, [41], false, [], []⟩,
   ⟨⟨some 43, none, .mv (.t 0)⟩, [0], false, [], []⟩,
   ⟨⟨some 44, none, .nilchk (.t 43)⟩, [43], false, [], []⟩,
   ⟨⟨some 45, none, .faddr 0 none (.t 44)⟩, [44], false, [], []⟩,
   ⟨⟨some 46, none, .load none (.t 45)⟩, [45], false, [], []⟩,
   ⟨⟨some 47, none, .len (.t 46)⟩, [46], false, [], []⟩,
   ⟨⟨some 48, none, .bin .quo (.t 42) (.t 47)⟩, [42, 47], false, [], []⟩,
   ⟨⟨some 6, none, .mv (.t 48)⟩, [48], false, [], []⟩] (some [0, 1, 5, 6]))
 (.seq (.reg [
  ⟨some 49, none, .mv (.t 0)⟩,
  ⟨some 50, none, .nilchk (.t 49)⟩,
  ⟨some 51, none, .faddr 0 none (.t 50)⟩,
  ⟨some 52, none, .load none (.t 51)⟩,
  ⟨some 53, none, .mv (.t 5)⟩,
  ⟨some 54, none, .iaddr none (.t 52) (.t 53)⟩,
  ⟨some 55, none, .load none (.t 54)⟩,
  ⟨some 56, none, .call f_scanmake_Below [(.t 55), (.c (.p (.int .i64 1073741824)))]⟩,
  ⟨some 57, none, .mv (.t 6)⟩,
  ⟨some 58, none, .mv (.t 5)⟩,
  ⟨some 59, none, .bin .add (.c (.p (.int .i64 7919))) (.t 58)⟩,
  ⟨some 60, none, .bin .mul (.t 57) (.t 59)⟩,
  ⟨some 61, none, .bin .add (.t 56) (.t 60)⟩,
  ⟨some 62, none, .mv (.t 1)⟩,
  ⟨some 63, none, .call f_scanmake_Below [(.t 61), (.t 62)]⟩,
  ⟨some 4, none, .mv (.t 63)⟩] (some [4]))
 .ret))))))
def a_scanmake_Stream_Next : AFun := ⟨2, [.t 4], P_scanmake_Stream_Next, false, false⟩
def d_scanmake_Stream_Next (C : Hd) (gl : Nat → Option PV) (v0 v1 : AV) (h : Heap) (x : Esc) (K : Ex → St → Prop) : Prop :=
 pK (oNil v0) fun t1 =>
 pK (oFaddr 1 none t1) fun t2 =>
 pK (oLoad none t2 h) fun t3 =>
 pK (oBin .add t3 (.p (.int .i64 1))) fun t4 =>
 pK (oNil v0) fun t5 =>
 pK (oFaddr 1 none t5) fun t6 =>
 wK (oStore none t6 t4 h) fun t7 h8 y9 =>
 pK (oNil v0) fun t10 =>
 pK (oFaddr 0 none t10) fun t11 =>
 pK (oLoad none t11 h8) fun t12 =>
 pK (oLen t12) fun t13 =>
 pK (oBin .eql t13 (.p (.int .i64 0))) fun t14 =>
 condB t14 (pK (oNil v0) fun t15 =>
 pK (oFaddr 1 none t15) fun t16 =>
 pK (oLoad none t16 h8) fun t17 =>
 pK (oBin .mul t17 (.p (.int .i64 7919))) fun t18 =>
 C f_scanmake_Below [t18, v1] h8 fun t19 h20 y21 =>
 K .ret ⟨[(4, t19)], h20, (y21 ++ (y9 ++ x))⟩)
 (pK (oNil v0) fun t22 =>
 pK (oFaddr 1 none t22) fun t23 =>
 pK (oLoad none t23 h8) fun t24 =>
 pK (oBin .sub t24 (.p (.int .i64 1))) fun t25 =>
 pK (oNil v0) fun t26 =>
 pK (oFaddr 0 none t26) fun t27 =>
 pK (oLoad none t27 h8) fun t28 =>
 pK (oLen t28) fun t29 =>
 pK (oBin .rem t25 t29) fun t30 =>
 pK (oNil v0) fun t31 =>
 pK (oFaddr 1 none t31) fun t32 =>
 pK (oLoad none t32 h8) fun t33 =>
 pK (oBin .sub t33 (.p (.int .i64 1))) fun t34 =>
 pK (oNil v0) fun t35 =>
 pK (oFaddr 0 none t35) fun t36 =>
 pK (oLoad none t36 h8) fun t37 =>
 pK (oLen t37) fun t38 =>
 pK (oBin .quo t34 t38) fun t39 =>
 pK (oNil v0) fun t40 =>
 pK (oFaddr 0 none t40) fun t41 =>
 pK (oLoad none t41 h8) fun t42 =>
 pK (oIaddr none t42 t30 h8) fun t43 =>
 pK (oLoad none t43 h8) fun t44 =>
 C f_scanmake_Below [t44, (.p (.int .i64 1073741824))] h8 fun t45 h46 y47 =>
 pK (oBin .add (.p (.int .i64 7919)) t30) fun t48 =>
 pK (oBin .mul t39 t48) fun t49 =>
 pK (oBin .add t45 t49) fun t50 =>
 C f_scanmake_Below [t50, v1] h46 fun t51 h52 y53 =>
 K .ret ⟨[(4, t51)], h52, (y53 ++ (y47 ++ (y9 ++ x)))⟩)
theorem E_scanmake_Stream_Next {C gl v0 v1 h x K} : NW C gl (P_scanmake_Stream_Next) ⟨enter [v0, v1], h, x⟩ K = d_scanmake_Stream_Next C gl v0 v1 h x K := by kernel_rfl
theorem e_scanmake_Stream_Next {C gl v0 v1 h x K} : NW C gl a_scanmake_Stream_Next.body ⟨enter [v0, v1], h, x⟩ K = d_scanmake_Stream_Next C gl v0 v1 h x K := E_scanmake_Stream_Next
def P_scanmake_Stream_Pick : ACode := (.seq (.reg [
  ⟨some 4, none, .mv (.c (.p (.int .i64 0)))⟩] (some [0, 1]))
 (.seq (.reg [
  ⟨some 5, none, .mv (.t 1)⟩,
  ⟨some 6, none, .mv (.t 0)⟩,
  ⟨some 7, none, .mv (.t 1)⟩,
  ⟨some 8, none, .len (.t 7)⟩,
  ⟨some 9, none, .call f_scanmake_Stream_Next [(.t 6), (.t 8)]⟩,
  ⟨some 10, none, .iaddr none (.t 5) (.t 9)⟩,
  ⟨some 11, none, .load none (.t 10)⟩,
  ⟨some 4, none, .mv (.t 11)⟩] (some [4]))
 .ret))
def a_scanmake_Stream_Pick : AFun := ⟨2, [.t 4], P_scanmake_Stream_Pick, false, false⟩
def d_scanmake_Stream_Pick (C : Hd) (gl : Nat → Option PV) (v0 v1 : AV) (h : Heap) (x : Esc) (K : Ex → St → Prop) : Prop :=
 pK (oLen v1) fun t1 =>
 C f_scanmake_Stream_Next [v0, t1] h fun t2 h3 y4 =>
 pK (oIaddr none v1 t2 h3) fun t5 =>
 pK (oLoad none t5 h3) fun t6 =>
 K .ret ⟨[(4, t6)], h3, (y4 ++ x)⟩
theorem E_scanmake_Stream_Pick {C gl v0 v1 h x K} : NW C gl (P_scanmake_Stream_Pick) ⟨enter [v0, v1], h, x⟩ K = d_scanmake_Stream_Pick C gl v0 v1 h x K := by kernel_rfl
theorem e_scanmake_Stream_Pick {C gl v0 v1 h x K} : NW C gl a_scanmake_Stream_Pick.body ⟨enter [v0, v1], h, x⟩ K = d_scanmake_Stream_Pick C gl v0 v1 h x K := E_scanmake_Stream_Pick
def p_lot_Merge_k1 : ACode := .pr [9, 34, 35, 36] (.seq (.reg [
  ⟨some 37, none, .bin .lss (.t 36) (.t 35)⟩] (some [9, 34, 35, 36, 37]))
 (.seq (.cond (.t 37) .skip
 (.exit 0))
 (.seq (.block 1 (.seq (.reg [
  ⟨some 38, none, .mv (.t 36)⟩,
  ⟨some 39, none, .iaddr (some 4) (.t 34) (.t 36)⟩,
  ⟨some 40, none, .load (some 4) (.t 39)⟩,
  ⟨some 11, none, .alloc [.p (.str []), .p (.int .i64 0), .p (.str []), .sl0 none]⟩,
  ⟨some 10, none, .mv (.t 38)⟩,
  ⟨none, none, .store (some 4) (.t 11) (.t 40)⟩] (some [9, 10, 11, 34, 35, 36]))
 (.seq (.draw [
   ⟨⟨some 41, none, .mv (.t 10)⟩, [10], false, [], []⟩,
   ⟨⟨some 42, none, .bin .gtr (.t 41) (.c (.p (.int .i64 0)))⟩, [41], false, [], []⟩,
   ⟨⟨some 43, none, .mv (.t 42)⟩, [42], false, [], []⟩,
   ⟨⟨some 44, (some (43, true)), .load (some 4) (.t 11)⟩, [11, 43], false, [], []⟩,
   ⟨⟨some 45, (some (43, true)), .mv (.t 9)⟩, [9, 43], false, [], []⟩,
   ⟨⟨some 46, (some (43, true)), .mv (.t 10)⟩, [10, 43], false, [], []⟩,
   ⟨⟨some 47, (some (43, true)), .bin .sub (.t 46) (.c (.p (.int .i64 1)))⟩, [46, 43], false, [], []⟩,
   ⟨⟨some 48, (some (43, true)), .iaddr (some 4) (.t 45) (.t 47)⟩, [45, 47, 43], false, [], []⟩,
   ⟨⟨some 49, (some (43, true)), .load (some 4) (.t 48)⟩, [48, 43], false, [], []⟩,
   ⟨⟨some 50, (some (43, true)), .call f_lot_byTime [(.t 44), (.t 49)]⟩, [44, 49, 43], true, [], []⟩,
   ⟨⟨some 51, (some (43, true)), .bin .eql (.t 50) (.c (.p (.int .i64 0)))⟩, [50, 43], false, [], []⟩,
   ⟨⟨some 52, none, .pick (.t 43) (.t 51) (.c (.p (.bool false)))⟩, [43, 51], false, [], []⟩] (some [9, 34, 35, 36, 52]))
 (.cond (.t 52) (.seq (.reg [
  ⟨some 6, none, .mv (.c (.p (.sl (some 4) [])))⟩,
  ⟨some 7, none, .mv (.c (.p (.int .i64 13)))⟩] (some [6, 7]))
 .ret)
 .skip))))
 (.reg [
  ⟨some 53, none, .bin .add (.t 36) (.c (.p (.int .i64 1)))⟩,
  ⟨some 36, none, .mv (.t 53)⟩] (some [9, 34, 35, 36])))))
def d_lot_Merge_k1 (C : Hd) (gl : Nat → Option PV) (v9 v34 v35 v36 : AV) (h : Heap) (x : Esc) (K : Ex → St → Prop) : Prop :=
 pK (oBin .lss v36 v35) fun t1 =>
 condB t1 (pK (oIaddr (some 4) v34 v36 h) fun t2 =>
 pK (oLoad (some 4) t2 h) fun t3 =>
 alK [.p (.str []), .p (.int .i64 0), .p (.str []), .sl0 none] h fun t4 h5 y6 =>
 wK (oStore (some 4) t4 t3 h5) fun t7 h8 y9 =>
 pK (oBin .gtr v36 (.p (.int .i64 0))) fun t10 =>
 gP t10 true (oLoad (some 4) t4 h8) h8 fun t11 h12 y13 =>
 gM t10 true v9 h12 fun t14 h15 y16 =>
 gM t10 true v36 h15 fun t17 h18 y19 =>
 gP t10 true (oBin .sub t17 (.p (.int .i64 1))) h18 fun t20 h21 y22 =>
 gP t10 true (oIaddr (some 4) t14 t20 h21) h21 fun t23 h24 y25 =>
 gP t10 true (oLoad (some 4) t23 h24) h24 fun t26 h27 y28 =>
 gV t10 true h27 (callE C f_lot_byTime [t11, t26] h27) fun t29 h30 y31 =>
 gP t10 true (oBin .eql t29 (.p (.int .i64 0))) h30 fun t32 h33 y34 =>
 pK (oPick t10 t32 (.p (.bool false))) fun t35 =>
 condB t35 (K .ret ⟨[(6, (.p (.sl (some 4) []))), (7, (.p (.int .i64 13)))], h33, (y34 ++ (y31 ++ (y28 ++ (y25 ++ (y22 ++ (y19 ++ (y16 ++ (y13 ++ (y9 ++ (y6 ++ x))))))))))⟩)
 (pK (oBin .add v36 (.p (.int .i64 1))) fun t36 =>
 K .normal ⟨[(9, v9), (34, v34), (35, v35), (36, t36)], h33, (y34 ++ (y31 ++ (y28 ++ (y25 ++ (y22 ++ (y19 ++ (y16 ++ (y13 ++ (y9 ++ (y6 ++ x))))))))))⟩))
 (K (.exit 0) ⟨[(9, v9), (34, v34), (35, v35), (36, v36), (37, t1)], h, x⟩)
theorem e_lot_Merge_k1 {C gl e h x K} : NW C gl p_lot_Merge_k1 ⟨e, h, x⟩ K = d_lot_Merge_k1 C gl (aget e 9) (aget e 34) (aget e 35) (aget e 36) h x K := by kernel_rfl
theorem l_lot_Merge_k1 {C gl e h x K} : NW C gl (.loop (.scope p_lot_Merge_k1)) ⟨e, h, x⟩ K = NLoop C gl (.scope p_lot_Merge_k1) K [(9, aget e 9), (34, aget e 34), (35, aget e 35), (36, aget e 36)] h x := NLoop_sc
def p_lot_Merge_k2 : ACode := .pr [12, 57, 58, 59] (.seq (.reg [
  ⟨some 60, none, .bin .lss (.t 59) (.t 58)⟩] (some [12, 57, 58, 59, 60]))
 (.seq (.cond (.t 60) .skip
 (.exit 2))
 (.seq (.block 3 (.seq (.reg [
  ⟨some 61, none, .iaddr (some 4) (.t 57) (.t 59)⟩,
  ⟨some 62, none, .load (some 4) (.t 61)⟩,
  ⟨some 14, none, .alloc [.p (.str []), .p (.int .i64 0), .p (.str []), .sl0 none]⟩,
  ⟨none, none, .store (some 4) (.t 14) (.t 62)⟩] (some [12, 14, 57, 58, 59]))
 (.reg [
  ⟨some 63, none, .mv (.t 12)⟩,
  ⟨some 64, none, .load (some 4) (.t 14)⟩,
  ⟨some 65, none, .call f_lot_copied [(.t 64)]⟩,
  ⟨some 66, none, .bsl false (some 4) 1 (.agg [.str [], .int .i64 0, .str [], .sl none []]) [(0, (.t 65))]⟩,
  ⟨some 67, none, .app (some 4) (.t 63) (.t 66)⟩,
  ⟨some 12, none, .mv (.t 67)⟩] (some [12, 57, 58, 59]))))
 (.reg [
  ⟨some 68, none, .bin .add (.t 59) (.c (.p (.int .i64 1)))⟩,
  ⟨some 59, none, .mv (.t 68)⟩] (some [12, 57, 58, 59])))))
def d_lot_Merge_k2 (C : Hd) (gl : Nat → Option PV) (v12 v57 v58 v59 : AV) (h : Heap) (x : Esc) (K : Ex → St → Prop) : Prop :=
 pK (oBin .lss v59 v58) fun t1 =>
 condB t1 (pK (oIaddr (some 4) v57 v59 h) fun t2 =>
 pK (oLoad (some 4) t2 h) fun t3 =>
 alK [.p (.str []), .p (.int .i64 0), .p (.str []), .sl0 none] h fun t4 h5 y6 =>
 wK (oStore (some 4) t4 t3 h5) fun t7 h8 y9 =>
 pK (oLoad (some 4) t4 h8) fun t10 =>
 C f_lot_copied [t10] h8 fun t11 h12 y13 =>
 wK (oBsl false (some 4) 1 (.agg [.str [], .int .i64 0, .str [], .sl none []]) [(0, t11)] h12) fun t14 h15 y16 =>
 wK (oApp (some 4) v12 t14 h15) fun t17 h18 y19 =>
 pK (oBin .add v59 (.p (.int .i64 1))) fun t20 =>
 K .normal ⟨[(12, t17), (57, v57), (58, v58), (59, t20)], h18, (y19 ++ (y16 ++ (y13 ++ (y9 ++ (y6 ++ x)))))⟩)
 (K (.exit 2) ⟨[(12, v12), (57, v57), (58, v58), (59, v59), (60, t1)], h, x⟩)
theorem e_lot_Merge_k2 {C gl e h x K} : NW C gl p_lot_Merge_k2 ⟨e, h, x⟩ K = d_lot_Merge_k2 C gl (aget e 12) (aget e 57) (aget e 58) (aget e 59) h x K := by kernel_rfl
theorem l_lot_Merge_k2 {C gl e h x K} : NW C gl (.loop (.scope p_lot_Merge_k2)) ⟨e, h, x⟩ K = NLoop C gl (.scope p_lot_Merge_k2) K [(12, aget e 12), (57, aget e 57), (58, aget e 58), (59, aget e 59)] h x := NLoop_sc
def p_lot_Merge_k3 : ACode := .pr [12] (.seq (.reg [
  ⟨some 69, none, .mv (.t 12)⟩,
  ⟨some 6, none, .mv (.t 69)⟩,
  ⟨some 7, none, .mv (.c (.p (.int .i64 0)))⟩] (some [6, 7]))
 .ret)
def d_lot_Merge_k3 (C : Hd) (gl : Nat → Option PV) (v12 : AV) (h : Heap) (x : Esc) (K : Ex → St → Prop) : Prop :=
 K .ret ⟨[(6, v12), (7, (.p (.int .i64 0)))], h, x⟩
theorem e_lot_Merge_k3 {C gl e h x K} : NW C gl p_lot_Merge_k3 ⟨e, h, x⟩ K = d_lot_Merge_k3 C gl (aget e 12) h x K := by kernel_rfl
def P_lot_Merge_k4 (q2 q3 : ACode) : ACode := .pr [9] (.seq (.seq (.reg [
  ⟨some 54, none, .mv (.t 9)⟩,
  ⟨some 55, none, .len (.t 54)⟩,
  ⟨some 56, none, .bin .gtr (.t 55) (.c (.p (.int .i64 5000)))⟩] (some [9, 56]))
 (.cond (.t 56) (.seq (.reg [
  ⟨some 6, none, .mv (.c (.p (.sl (some 4) [])))⟩,
  ⟨some 7, none, .mv (.c (.p (.int .i64 2)))⟩] (some [6, 7]))
 .ret)
 .skip))
 (.seq (.reg [
  ⟨some 12, none, .new0 (some 4)⟩] (some [9, 12]))
 (.seq (.seq (.reg [
  ⟨some 57, none, .mv (.t 9)⟩,
  ⟨some 58, none, .len (.t 57)⟩,
  ⟨some 59, none, .mv (.c (.p (.int .i64 0)))⟩] (some [12, 57, 58, 59]))
 (.block 2 (.loop (.scope q2))))
 q3)))
def p_lot_Merge_k4 : ACode := P_lot_Merge_k4 p_lot_Merge_k2 p_lot_Merge_k3
def d_lot_Merge_k4 (C : Hd) (gl : Nat → Option PV) (q2 q3 : ACode) (v9 : AV) (h : Heap) (x : Esc) (K : Ex → St → Prop) : Prop :=
 pK (oLen v9) fun t1 =>
 pK (oBin .gtr t1 (.p (.int .i64 5000))) fun t2 =>
 condB t2 (K .ret ⟨[(6, (.p (.sl (some 4) []))), (7, (.p (.int .i64 2)))], h, x⟩)
 (nwK (some 4) h fun t3 h4 y5 =>
 pK (oLen v9) fun t6 =>
 NW C gl (.loop (.scope q2)) ⟨[(12, t3), (57, v9), (58, t6), (59, (.p (.int .i64 0)))], h4, (y5 ++ x)⟩ (blockN 2 (seqN C gl q3 K)))
theorem E_lot_Merge_k4 {C gl q2 q3 e h x K} : NW C gl (P_lot_Merge_k4 q2 q3) ⟨e, h, x⟩ K = d_lot_Merge_k4 C gl q2 q3 (aget e 9) h x K := by kernel_rfl
theorem e_lot_Merge_k4 {C gl e h x K} : NW C gl p_lot_Merge_k4 ⟨e, h, x⟩ K = d_lot_Merge_k4 C gl p_lot_Merge_k2 p_lot_Merge_k3 (aget e 9) h x K := E_lot_Merge_k4
def P_lot_Merge (q1 q4 : ACode) : ACode := (.seq (.reg [
  ⟨some 6, none, .mv (.c (.p (.sl (some 4) [])))⟩,
  ⟨some 7, none, .mv (.c (.p (.int .i64 0)))⟩] (some [0, 1, 2]))
 (.seq (.seq (.reg [
  ⟨some 15, none, .mv (.t 0)⟩,
  ⟨some 16, none, .mv (.t 1)⟩,
  ⟨some 17, none, .call f_lot_CheckRecords [(.t 15), (.t 16)]⟩,
  ⟨some 18, none, .mv (.t 0)⟩,
  ⟨some 19, none, .mv (.t 2)⟩,
  ⟨some 20, none, .call f_lot_CheckRecords [(.t 18), (.t 19)]⟩,
  ⟨some 21, none, .bsl false none 2 (.int .i64 0) [(0, (.t 17)), (1, (.t 20))]⟩,
  ⟨some 22, none, .call f_base_First [(.t 21)]⟩,
  ⟨some 8, none, .mv (.t 22)⟩] (some [1, 2, 8]))
 (.seq (.reg [
  ⟨some 23, none, .mv (.t 8)⟩,
  ⟨some 24, none, .bin .neq (.t 23) (.c (.p (.int .i64 0)))⟩] (some [1, 2, 8, 24]))
 (.cond (.t 24) (.seq (.reg [
  ⟨some 25, none, .mv (.t 8)⟩,
  ⟨some 6, none, .mv (.c (.p (.sl (some 4) [])))⟩,
  ⟨some 7, none, .mv (.t 25)⟩] (some [6, 7]))
 .ret)
 .skip)))
 (.seq (.reg [
  ⟨some 26, none, .mv (.t 1)⟩,
  ⟨some 27, none, .mv (.t 2)⟩,
  ⟨some 28, none, .bsl false none 2 (.sl (some 4) []) [(0, (.t 26)), (1, (.t 27))]⟩,
  ⟨some 29, none, .call f_slices_Concat_api_Record_api_Record [(.t 28)]⟩,
  ⟨some 9, none, .mv (.t 29)⟩] (some [9]))
 (.seq (.reg [
  ⟨some 30, none, .mv (.t 9)⟩,
  ⟨some 31, none, .call f_slices_SortStableFunc_api_Record_api_Record [(.t 30), (.f f_lot_byTime)]⟩] (some [9]))
 (.seq (.reg [
  ⟨some 32, none, .mv (.t 9)⟩,
  ⟨some 33, none, .call f_slices_CompactFunc_api_Record_api_Record [(.t 32), (.f f_lot_same)]⟩,
  ⟨some 9, none, .mv (.t 33)⟩] (some [9]))
 (.seq (.seq (.reg [
  ⟨some 34, none, .mv (.t 9)⟩,
  ⟨some 35, none, .len (.t 34)⟩,
  ⟨some 36, none, .mv (.c (.p (.int .i64 0)))⟩] (some [9, 34, 35, 36]))
 (.block 0 (.loop (.scope q1))))
 q4))))))
def a_lot_Merge : AFun := ⟨3, [.t 6, .t 7], P_lot_Merge p_lot_Merge_k1 p_lot_Merge_k4, false, false⟩
def d_lot_Merge (C : Hd) (gl : Nat → Option PV) (q1 q4 : ACode) (v0 v1 v2 : AV) (h : Heap) (x : Esc) (K : Ex → St → Prop) : Prop :=
 C f_lot_CheckRecords [v0, v1] h fun t1 h2 y3 =>
 C f_lot_CheckRecords [v0, v2] h2 fun t4 h5 y6 =>
 wK (oBsl false none 2 (.int .i64 0) [(0, t1), (1, t4)] h5) fun t7 h8 y9 =>
 C f_base_First [t7] h8 fun t10 h11 y12 =>
 pK (oBin .neq t10 (.p (.int .i64 0))) fun t13 =>
 condB t13 (K .ret ⟨[(6, (.p (.sl (some 4) []))), (7, t10)], h11, (y12 ++ (y9 ++ (y6 ++ (y3 ++ x))))⟩)
 (wK (oBsl false none 2 (.sl (some 4) []) [(0, v1), (1, v2)] h11) fun t14 h15 y16 =>
 C f_slices_Concat_api_Record_api_Record [t14] h15 fun t17 h18 y19 =>
 C f_slices_SortStableFunc_api_Record_api_Record [t17, (.fn f_lot_byTime [])] h18 fun t20 h21 y22 =>
 C f_slices_CompactFunc_api_Record_api_Record [t17, (.fn f_lot_same [])] h21 fun t23 h24 y25 =>
 pK (oLen t23) fun t26 =>
 NW C gl (.loop (.scope q1)) ⟨[(9, t23), (34, t23), (35, t26), (36, (.p (.int .i64 0)))], h24, (y25 ++ (y22 ++ (y19 ++ (y16 ++ (y12 ++ (y9 ++ (y6 ++ (y3 ++ x))))))))⟩ (blockN 0 (seqN C gl q4 K)))
theorem E_lot_Merge {C gl q1 q4 v0 v1 v2 h x K} : NW C gl (P_lot_Merge q1 q4) ⟨enter [v0, v1, v2], h, x⟩ K = d_lot_Merge C gl q1 q4 v0 v1 v2 h x K := by kernel_rfl
theorem e_lot_Merge {C gl v0 v1 v2 h x K} : NW C gl a_lot_Merge.body ⟨enter [v0, v1, v2], h, x⟩ K = d_lot_Merge C gl p_lot_Merge_k1 p_lot_Merge_k4 v0 v1 v2 h x K := E_lot_Merge
def P_lot_Bin : ACode := (.seq (.reg [
  ⟨some 3, none, .box (.t 1)⟩,
  ⟨some 4, none, .mv (.c (.p (.int .i64 0)))⟩,
  ⟨some 5, none, .mv (.c (.p (.int .i64 0)))⟩,
  ⟨some 6, none, .mv (.c (.p (.int .i64 0)))⟩] (some [0, 3]))
 (.seq (.seq (.reg [
  ⟨some 9, none, .mv (.t 0)⟩,
  ⟨some 10, none, .call f_lot_CheckLimits [(.t 9)]⟩,
  ⟨some 7, none, .mv (.t 10)⟩] (some [0, 3, 7]))
 (.seq (.reg [
  ⟨some 11, none, .mv (.t 7)⟩,
  ⟨some 12, none, .bin .neq (.t 11) (.c (.p (.int .i64 0)))⟩] (some [0, 3, 7, 12]))
 (.cond (.t 12) (.seq (.reg [
  ⟨some 13, none, .mv (.t 7)⟩,
  ⟨some 4, none, .mv (.c (.p (.int .i64 0)))⟩,
  ⟨some 5, none, .mv (.c (.p (.int .i64 0)))⟩,
  ⟨some 6, none, .mv (.t 13)⟩] (some [4, 5, 6]))
 .ret)
 .skip)))
 (.seq (.seq (.reg [
  ⟨some 14, none, .mv (.t 0)⟩,
  ⟨some 15, none, .load (some 4) (.t 3)⟩,
  ⟨some 16, none, .call f_lot_recordFault [(.t 14), (.t 15)]⟩,
  ⟨some 8, none, .mv (.t 16)⟩] (some [0, 3, 8]))
 (.seq (.reg [
  ⟨some 17, none, .mv (.t 8)⟩,
  ⟨some 18, none, .bin .neq (.t 17) (.c (.p (.int .i64 0)))⟩] (some [0, 3, 8, 18]))
 (.cond (.t 18) (.seq (.reg [
  ⟨some 19, none, .mv (.t 8)⟩,
  ⟨some 4, none, .mv (.c (.p (.int .i64 0)))⟩,
  ⟨some 5, none, .mv (.c (.p (.int .i64 0)))⟩,
  ⟨some 6, none, .mv (.t 19)⟩] (some [4, 5, 6]))
 .ret)
 .skip)))
 (.seq (.draw [
   ⟨⟨some 20, none, .mv (.t 0)⟩, [0], false, [], []⟩,
   ⟨⟨some 21, none, .load (some 4) (.t 3)⟩, [3], false, [], []⟩,
   ⟨⟨some 22, none, .call f_lot_binOf [(.t 20), (.t 21)]⟩, [20, 21], true, [], []⟩,
   ⟨⟨some 23, none, .mv (.t 0)⟩, [0], false, [], []⟩,
   ⟨⟨some 24, none, .load (some 4) (.t 3)⟩, [3], false, [2], []⟩,
   ⟨⟨some 25, none, .call f_lot_fails [(.t 23), (.t 24)]⟩, [23, 24], true, [], []⟩,
   ⟨⟨some 4, none, .mv (.t 22)⟩, [22], false, [], []⟩,
   ⟨⟨some 5, none, .mv (.t 25)⟩, [25], false, [], []⟩,
   ⟨⟨some 6, none, .mv (.c (.p (.int .i64 0)))⟩, [], false, [], []⟩] (some [4, 5, 6]))
 .ret))))
def a_lot_Bin : AFun := ⟨2, [.t 4, .t 5, .t 6], P_lot_Bin, false, false⟩
def d_lot_Bin (C : Hd) (gl : Nat → Option PV) (v0 v1 : AV) (h : Heap) (x : Esc) (K : Ex → St → Prop) : Prop :=
 wK (oBox v1 h) fun t1 h2 y3 =>
 C f_lot_CheckLimits [v0] h2 fun t4 h5 y6 =>
 pK (oBin .neq t4 (.p (.int .i64 0))) fun t7 =>
 condB t7 (K .ret ⟨[(4, (.p (.int .i64 0))), (5, (.p (.int .i64 0))), (6, t4)], h5, (y6 ++ (y3 ++ x))⟩)
 (pK (oLoad (some 4) t1 h5) fun t8 =>
 C f_lot_recordFault [v0, t8] h5 fun t9 h10 y11 =>
 pK (oBin .neq t9 (.p (.int .i64 0))) fun t12 =>
 condB t12 (K .ret ⟨[(4, (.p (.int .i64 0))), (5, (.p (.int .i64 0))), (6, t9)], h10, (y11 ++ (y6 ++ (y3 ++ x)))⟩)
 (pK (oLoad (some 4) t1 h10) fun t13 =>
 callE C f_lot_binOf [v0, t13] h10 fun t14 h15 y16 =>
 pK (oLoad (some 4) t1 h15) fun t17 =>
 (pK (oLoad (some 4) t1 h10) fun v => (fun u (g1 : Heap) (y1 : Esc) => u = t17 ∧ g1 = h10 ∧ y1 = []) v h10 []) ∧ (callE C f_lot_fails [v0, t17] h15 fun t18 h19 y20 =>
 K .ret ⟨[(4, t14), (5, t18), (6, (.p (.int .i64 0)))], h19, (y20 ++ (y16 ++ (y11 ++ (y6 ++ (y3 ++ x)))))⟩)))
theorem E_lot_Bin {C gl v0 v1 h x K} : NW C gl (P_lot_Bin) ⟨enter [v0, v1], h, x⟩ K = d_lot_Bin C gl v0 v1 h x K := by kernel_rfl
theorem e_lot_Bin {C gl v0 v1 h x K} : NW C gl a_lot_Bin.body ⟨enter [v0, v1], h, x⟩ K = d_lot_Bin C gl v0 v1 h x K := E_lot_Bin
def p_scanref2_RecordsFault_k1 : ACode := .pr [0, 1, 17, 18, 19] (.seq (.reg [
  ⟨some 20, none, .bin .lss (.t 19) (.t 18)⟩] (some [0, 1, 17, 18, 19, 20]))
 (.seq (.cond (.t 20) .skip
 (.exit 0))
 (.seq (.block 1 (.seq (.reg [
  ⟨some 21, none, .mv (.t 19)⟩,
  ⟨some 22, none, .iaddr (some 4) (.t 17) (.t 19)⟩,
  ⟨some 23, none, .load (some 4) (.t 22)⟩,
  ⟨some 7, none, .alloc [.p (.str []), .p (.int .i64 0), .p (.str []), .sl0 none]⟩,
  ⟨some 6, none, .mv (.t 21)⟩,
  ⟨none, none, .store (some 4) (.t 7) (.t 23)⟩] (some [0, 1, 6, 7, 17, 18, 19]))
 (.seq (.seq (.reg [
  ⟨some 24, none, .mv (.t 0)⟩,
  ⟨some 25, none, .load (some 4) (.t 7)⟩,
  ⟨some 26, none, .call f_scanref2_recordFault [(.t 24), (.t 25)]⟩,
  ⟨some 8, none, .mv (.t 26)⟩] (some [0, 1, 6, 7, 8, 17, 18, 19]))
 (.seq (.reg [
  ⟨some 27, none, .mv (.t 8)⟩,
  ⟨some 28, none, .bin .neq (.t 27) (.c (.p (.int .i64 0)))⟩] (some [0, 1, 6, 7, 8, 17, 18, 19, 28]))
 (.cond (.t 28) (.seq (.reg [
  ⟨some 29, none, .mv (.t 8)⟩,
  ⟨some 4, none, .mv (.t 29)⟩] (some [4]))
 .ret)
 .skip)))
 (.seq (.draw [
   ⟨⟨some 30, none, .mv (.t 6)⟩, [6], false, [], []⟩,
   ⟨⟨some 31, none, .bin .gtr (.t 30) (.c (.p (.int .i64 0)))⟩, [30], false, [], []⟩,
   ⟨⟨some 32, none, .mv (.t 31)⟩, [31], false, [], []⟩,
   ⟨⟨some 33, (some (32, true)), .mv (.t 1)⟩, [1, 32], false, [], []⟩,
   ⟨⟨some 34, (some (32, true)), .mv (.t 6)⟩, [6, 32], false, [], []⟩,
   ⟨⟨some 35, (some (32, true)), .bin .sub (.t 34) (.c (.p (.int .i64 1)))⟩, [34, 32], false, [], []⟩,
   ⟨⟨some 36, (some (32, true)), .iaddr (some 4) (.t 33) (.t 35)⟩, [33, 35, 32], false, [], []⟩,
   ⟨⟨some 37, (some (32, true)), .load (some 4) (.t 36)⟩, [36, 32], false, [], []⟩,
   ⟨⟨some 38, (some (32, true)), .load (some 4) (.t 7)⟩, [7, 32], false, [], []⟩,
   ⟨⟨some 39, (some (32, true)), .call f_scanref2_recordOrder [(.t 37), (.t 38)]⟩, [37, 38, 32], true, [], []⟩,
   ⟨⟨some 40, (some (32, true)), .bin .geq (.t 39) (.c (.p (.int .i64 0)))⟩, [39, 32], false, [], []⟩,
   ⟨⟨some 41, none, .pick (.t 32) (.t 40) (.c (.p (.bool false)))⟩, [32, 40], false, [], []⟩] (some [0, 1, 17, 18, 19, 41]))
 (.cond (.t 41) (.seq (.reg [
  ⟨some 4, none, .mv (.c (.p (.int .i64 7)))⟩] (some [4]))
 .ret)
 .skip)))))
 (.reg [
  ⟨some 42, none, .bin .add (.t 19) (.c (.p (.int .i64 1)))⟩,
  ⟨some 19, none, .mv (.t 42)⟩] (some [0, 1, 17, 18, 19])))))
def d_scanref2_RecordsFault_k1 (C : Hd) (gl : Nat → Option PV) (v0 v1 v17 v18 v19 : AV) (h : Heap) (x : Esc) (K : Ex → St → Prop) : Prop :=
 pK (oBin .lss v19 v18) fun t1 =>
 condB t1 (pK (oIaddr (some 4) v17 v19 h) fun t2 =>
 pK (oLoad (some 4) t2 h) fun t3 =>
 alK [.p (.str []), .p (.int .i64 0), .p (.str []), .sl0 none] h fun t4 h5 y6 =>
 wK (oStore (some 4) t4 t3 h5) fun t7 h8 y9 =>
 pK (oLoad (some 4) t4 h8) fun t10 =>
 C f_scanref2_recordFault [v0, t10] h8 fun t11 h12 y13 =>
 pK (oBin .neq t11 (.p (.int .i64 0))) fun t14 =>
 condB t14 (K .ret ⟨[(4, t11)], h12, (y13 ++ (y9 ++ (y6 ++ x)))⟩)
 (pK (oBin .gtr v19 (.p (.int .i64 0))) fun t15 =>
 gM t15 true v1 h12 fun t16 h17 y18 =>
 gM t15 true v19 h17 fun t19 h20 y21 =>
 gP t15 true (oBin .sub t19 (.p (.int .i64 1))) h20 fun t22 h23 y24 =>
 gP t15 true (oIaddr (some 4) t16 t22 h23) h23 fun t25 h26 y27 =>
 gP t15 true (oLoad (some 4) t25 h26) h26 fun t28 h29 y30 =>
 gP t15 true (oLoad (some 4) t4 h29) h29 fun t31 h32 y33 =>
 gV t15 true h32 (callE C f_scanref2_recordOrder [t28, t31] h32) fun t34 h35 y36 =>
 gP t15 true (oBin .geq t34 (.p (.int .i64 0))) h35 fun t37 h38 y39 =>
 pK (oPick t15 t37 (.p (.bool false))) fun t40 =>
 condB t40 (K .ret ⟨[(4, (.p (.int .i64 7)))], h38, (y39 ++ (y36 ++ (y33 ++ (y30 ++ (y27 ++ (y24 ++ (y21 ++ (y18 ++ (y13 ++ (y9 ++ (y6 ++ x)))))))))))⟩)
 (pK (oBin .add v19 (.p (.int .i64 1))) fun t41 =>
 K .normal ⟨[(0, v0), (1, v1), (17, v17), (18, v18), (19, t41)], h38, (y39 ++ (y36 ++ (y33 ++ (y30 ++ (y27 ++ (y24 ++ (y21 ++ (y18 ++ (y13 ++ (y9 ++ (y6 ++ x)))))))))))⟩)))
 (K (.exit 0) ⟨[(0, v0), (1, v1), (17, v17), (18, v18), (19, v19), (20, t1)], h, x⟩)
theorem e_scanref2_RecordsFault_k1 {C gl e h x K} : NW C gl p_scanref2_RecordsFault_k1 ⟨e, h, x⟩ K = d_scanref2_RecordsFault_k1 C gl (aget e 0) (aget e 1) (aget e 17) (aget e 18) (aget e 19) h x K := by kernel_rfl
theorem l_scanref2_RecordsFault_k1 {C gl e h x K} : NW C gl (.loop (.scope p_scanref2_RecordsFault_k1)) ⟨e, h, x⟩ K = NLoop C gl (.scope p_scanref2_RecordsFault_k1) K [(0, aget e 0), (1, aget e 1), (17, aget e 17), (18, aget e 18), (19, aget e 19)] h x := NLoop_sc
def p_scanref2_RecordsFault_k2 : ACode := .pr [] (.seq (.reg [
  ⟨some 4, none, .mv (.c (.p (.int .i64 0)))⟩] (some [4]))
 .ret)
def d_scanref2_RecordsFault_k2 (C : Hd) (gl : Nat → Option PV) (h : Heap) (x : Esc) (K : Ex → St → Prop) : Prop :=
 K .ret ⟨[(4, (.p (.int .i64 0)))], h, x⟩
theorem e_scanref2_RecordsFault_k2 {C gl e h x K} : NW C gl p_scanref2_RecordsFault_k2 ⟨e, h, x⟩ K = d_scanref2_RecordsFault_k2 C gl h x K := by kernel_rfl
def P_scanref2_RecordsFault (q1 q2 : ACode) : ACode := (.seq (.reg [
  ⟨some 4, none, .mv (.c (.p (.int .i64 0)))⟩] (some [0, 1]))
 (.seq (.seq (.reg [
  ⟨some 9, none, .mv (.t 0)⟩,
  ⟨some 10, none, .call f_scanref2_LimitsFault [(.t 9)]⟩,
  ⟨some 5, none, .mv (.t 10)⟩] (some [0, 1, 5]))
 (.seq (.reg [
  ⟨some 11, none, .mv (.t 5)⟩,
  ⟨some 12, none, .bin .neq (.t 11) (.c (.p (.int .i64 0)))⟩] (some [0, 1, 5, 12]))
 (.cond (.t 12) (.seq (.reg [
  ⟨some 13, none, .mv (.t 5)⟩,
  ⟨some 4, none, .mv (.t 13)⟩] (some [4]))
 .ret)
 .skip)))
 (.seq (.seq (.reg [
  ⟨some 14, none, .mv (.t 1)⟩,
  ⟨some 15, none, .len (.t 14)⟩,
  ⟨some 16, none, .bin .gtr (.t 15) (.c (.p (.int .i64 5000)))⟩] (some [0, 1, 16]))
 (.cond (.t 16) (.seq (.reg [
  ⟨some 4, none, .mv (.c (.p (.int .i64 2)))⟩] (some [4]))
 .ret)
 .skip))
 (.seq (.seq (.reg [
  ⟨some 17, none, .mv (.t 1)⟩,
  ⟨some 18, none, .len (.t 17)⟩,
  ⟨some 19, none, .mv (.c (.p (.int .i64 0)))⟩] (some [0, 1, 17, 18, 19]))
 (.block 0 (.loop (.scope q1))))
 q2))))
def a_scanref2_RecordsFault : AFun := ⟨2, [.t 4], P_scanref2_RecordsFault p_scanref2_RecordsFault_k1 p_scanref2_RecordsFault_k2, false, false⟩
def d_scanref2_RecordsFault (C : Hd) (gl : Nat → Option PV) (q1 q2 : ACode) (v0 v1 : AV) (h : Heap) (x : Esc) (K : Ex → St → Prop) : Prop :=
 C f_scanref2_LimitsFault [v0] h fun t1 h2 y3 =>
 pK (oBin .neq t1 (.p (.int .i64 0))) fun t4 =>
 condB t4 (K .ret ⟨[(4, t1)], h2, (y3 ++ x)⟩)
 (pK (oLen v1) fun t5 =>
 pK (oBin .gtr t5 (.p (.int .i64 5000))) fun t6 =>
 condB t6 (K .ret ⟨[(4, (.p (.int .i64 2)))], h2, (y3 ++ x)⟩)
 (pK (oLen v1) fun t7 =>
 NW C gl (.loop (.scope q1)) ⟨[(0, v0), (1, v1), (17, v1), (18, t7), (19, (.p (.int .i64 0)))], h2, (y3 ++ x)⟩ (blockN 0 (seqN C gl q2 K))))
theorem E_scanref2_RecordsFault {C gl q1 q2 v0 v1 h x K} : NW C gl (P_scanref2_RecordsFault q1 q2) ⟨enter [v0, v1], h, x⟩ K = d_scanref2_RecordsFault C gl q1 q2 v0 v1 h x K := by kernel_rfl
theorem e_scanref2_RecordsFault {C gl v0 v1 h x K} : NW C gl a_scanref2_RecordsFault.body ⟨enter [v0, v1], h, x⟩ K = d_scanref2_RecordsFault C gl p_scanref2_RecordsFault_k1 p_scanref2_RecordsFault_k2 v0 v1 h x K := E_scanref2_RecordsFault
def p_scanlaw2_errs_k1 : ACode := .pr [5, 6, 7] (.seq (.reg [
  ⟨some 8, none, .bin .lss (.t 7) (.t 6)⟩] (some [5, 6, 7, 8]))
 (.seq (.cond (.t 8) .skip
 (.exit 0))
 (.seq (.block 1 (.seq (.reg [
  ⟨some 9, none, .iaddr none (.t 5) (.t 7)⟩,
  ⟨some 10, none, .load none (.t 9)⟩,
  ⟨some 4, none, .mv (.t 10)⟩] (some [4, 5, 6, 7]))
 (.seq (.reg [
  ⟨some 11, none, .mv (.t 4)⟩,
  ⟨some 12, none, .bin .neq (.t 11) (.c (.p (.int .i64 0)))⟩] (some [4, 5, 6, 7, 12]))
 (.cond (.t 12) (.seq (.reg [
  ⟨some 13, none, .mv (.t 4)⟩,
  ⟨some 2, none, .mv (.t 13)⟩] (some [2]))
 .ret)
 .skip))))
 (.reg [
  ⟨some 14, none, .bin .add (.t 7) (.c (.p (.int .i64 1)))⟩,
  ⟨some 7, none, .mv (.t 14)⟩] (some [5, 6, 7])))))
def d_scanlaw2_errs_k1 (C : Hd) (gl : Nat → Option PV) (v5 v6 v7 : AV) (h : Heap) (x : Esc) (K : Ex → St → Prop) : Prop :=
 pK (oBin .lss v7 v6) fun t1 =>
 condB t1 (pK (oIaddr none v5 v7 h) fun t2 =>
 pK (oLoad none t2 h) fun t3 =>
 pK (oBin .neq t3 (.p (.int .i64 0))) fun t4 =>
 condB t4 (K .ret ⟨[(2, t3)], h, x⟩)
 (pK (oBin .add v7 (.p (.int .i64 1))) fun t5 =>
 K .normal ⟨[(5, v5), (6, v6), (7, t5)], h, x⟩))
 (K (.exit 0) ⟨[(5, v5), (6, v6), (7, v7), (8, t1)], h, x⟩)
theorem e_scanlaw2_errs_k1 {C gl e h x K} : NW C gl p_scanlaw2_errs_k1 ⟨e, h, x⟩ K = d_scanlaw2_errs_k1 C gl (aget e 5) (aget e 6) (aget e 7) h x K := by kernel_rfl
theorem l_scanlaw2_errs_k1 {C gl e h x K} : NW C gl (.loop p_scanlaw2_errs_k1) ⟨e, h, x⟩ K = NLoop C gl p_scanlaw2_errs_k1 K [(5, aget e 5), (6, aget e 6), (7, aget e 7)] h x := NLoop_pr
def p_scanlaw2_errs_k2 : ACode := .pr [] (.seq (.reg [
  ⟨some 2, none, .mv (.c (.p (.int .i64 0)))⟩] (some [2]))
 .ret)
def d_scanlaw2_errs_k2 (C : Hd) (gl : Nat → Option PV) (h : Heap) (x : Esc) (K : Ex → St → Prop) : Prop :=
 K .ret ⟨[(2, (.p (.int .i64 0)))], h, x⟩
theorem e_scanlaw2_errs_k2 {C gl e h x K} : NW C gl p_scanlaw2_errs_k2 ⟨e, h, x⟩ K = d_scanlaw2_errs_k2 C gl h x K := by kernel_rfl
def P_scanlaw2_errs (q1 q2 : ACode) : ACode := (.seq (.reg [
  ⟨some 2, none, .mv (.c (.p (.int .i64 0)))⟩] (some [0]))
 (.seq (.seq (.reg [
  ⟨some 5, none, .mv (.t 0)⟩,
  ⟨some 6, none, .len (.t 5)⟩,
  ⟨some 7, none, .mv (.c (.p (.int .i64 0)))⟩] (some [5, 6, 7]))
 (.block 0 (.loop q1)))
 q2))
def a_scanlaw2_errs : AFun := ⟨1, [.t 2], P_scanlaw2_errs p_scanlaw2_errs_k1 p_scanlaw2_errs_k2, false, false⟩
def d_scanlaw2_errs (C : Hd) (gl : Nat → Option PV) (q1 q2 : ACode) (v0 : AV) (h : Heap) (x : Esc) (K : Ex → St → Prop) : Prop :=
 pK (oLen v0) fun t1 =>
 NW C gl (.loop q1) ⟨[(5, v0), (6, t1), (7, (.p (.int .i64 0)))], h, x⟩ (blockN 0 (seqN C gl q2 K))
theorem E_scanlaw2_errs {C gl q1 q2 v0 h x K} : NW C gl (P_scanlaw2_errs q1 q2) ⟨enter [v0], h, x⟩ K = d_scanlaw2_errs C gl q1 q2 v0 h x K := by kernel_rfl
theorem e_scanlaw2_errs {C gl v0 h x K} : NW C gl a_scanlaw2_errs.body ⟨enter [v0], h, x⟩ K = d_scanlaw2_errs C gl p_scanlaw2_errs_k1 p_scanlaw2_errs_k2 v0 h x K := E_scanlaw2_errs
def P_scanref2_RecordFault : ACode := (.seq (.reg [
  ⟨some 3, none, .box (.t 1)⟩,
  ⟨some 4, none, .mv (.c (.p (.int .i64 0)))⟩] (some [0, 3]))
 (.seq (.seq (.reg [
  ⟨some 6, none, .mv (.t 0)⟩,
  ⟨some 7, none, .call f_scanref2_LimitsFault [(.t 6)]⟩,
  ⟨some 5, none, .mv (.t 7)⟩] (some [0, 3, 5]))
 (.seq (.reg [
  ⟨some 8, none, .mv (.t 5)⟩,
  ⟨some 9, none, .bin .neq (.t 8) (.c (.p (.int .i64 0)))⟩] (some [0, 3, 5, 9]))
 (.cond (.t 9) (.seq (.reg [
  ⟨some 10, none, .mv (.t 5)⟩,
  ⟨some 4, none, .mv (.t 10)⟩] (some [4]))
 .ret)
 .skip)))
 (.seq (.reg [
  ⟨some 11, none, .mv (.t 0)⟩,
  ⟨some 12, none, .load (some 4) (.t 3)⟩,
  ⟨some 13, none, .call f_scanref2_recordFault [(.t 11), (.t 12)]⟩,
  ⟨some 4, none, .mv (.t 13)⟩] (some [4]))
 .ret)))
def a_scanref2_RecordFault : AFun := ⟨2, [.t 4], P_scanref2_RecordFault, false, false⟩
def d_scanref2_RecordFault (C : Hd) (gl : Nat → Option PV) (v0 v1 : AV) (h : Heap) (x : Esc) (K : Ex → St → Prop) : Prop :=
 wK (oBox v1 h) fun t1 h2 y3 =>
 C f_scanref2_LimitsFault [v0] h2 fun t4 h5 y6 =>
 pK (oBin .neq t4 (.p (.int .i64 0))) fun t7 =>
 condB t7 (K .ret ⟨[(4, t4)], h5, (y6 ++ (y3 ++ x))⟩)
 (pK (oLoad (some 4) t1 h5) fun t8 =>
 C f_scanref2_recordFault [v0, t8] h5 fun t9 h10 y11 =>
 K .ret ⟨[(4, t9)], h10, (y11 ++ (y6 ++ (y3 ++ x)))⟩)
theorem E_scanref2_RecordFault {C gl v0 v1 h x K} : NW C gl (P_scanref2_RecordFault) ⟨enter [v0, v1], h, x⟩ K = d_scanref2_RecordFault C gl v0 v1 h x K := by kernel_rfl
theorem e_scanref2_RecordFault {C gl v0 v1 h x K} : NW C gl a_scanref2_RecordFault.body ⟨enter [v0, v1], h, x⟩ K = d_scanref2_RecordFault C gl v0 v1 h x K := E_scanref2_RecordFault
def p_scanref2_MergedRecords_k1 : ACode := .pr [6, 12, 13, 14] (.reg [
  ⟨some 34, none, .bin .add (.t 14) (.c (.p (.int .i64 1)))⟩,
  ⟨some 14, none, .mv (.t 34)⟩] (some [6, 12, 13, 14]))
def d_scanref2_MergedRecords_k1 (C : Hd) (gl : Nat → Option PV) (v6 v12 v13 v14 : AV) (h : Heap) (x : Esc) (K : Ex → St → Prop) : Prop :=
 pK (oBin .add v14 (.p (.int .i64 1))) fun t1 =>
 K .normal ⟨[(6, v6), (12, v12), (13, v13), (14, t1)], h, x⟩
theorem e_scanref2_MergedRecords_k1 {C gl e h x K} : NW C gl p_scanref2_MergedRecords_k1 ⟨e, h, x⟩ K = d_scanref2_MergedRecords_k1 C gl (aget e 6) (aget e 12) (aget e 13) (aget e 14) h x K := by kernel_rfl
def P_scanref2_MergedRecords_k2 (q1 : ACode) : ACode := .pr [6, 12, 13, 14] (.seq (.reg [
  ⟨some 15, none, .bin .lss (.t 14) (.t 13)⟩] (some [6, 12, 13, 14, 15]))
 (.seq (.cond (.t 15) .skip
 (.exit 0))
 (.seq (.block 1 (.seq (.reg [
  ⟨some 16, none, .iaddr (some 4) (.t 12) (.t 14)⟩,
  ⟨some 17, none, .load (some 4) (.t 16)⟩,
  ⟨some 8, none, .alloc [.p (.str []), .p (.int .i64 0), .p (.str []), .sl0 none]⟩,
  ⟨none, none, .store (some 4) (.t 8) (.t 17)⟩] (some [6, 8, 12, 13, 14]))
 (.seq (.reg [
  ⟨some 18, none, .mv (.t 6)⟩,
  ⟨some 19, none, .mkfn f_scanref2_MergedRecords_1 [(.t 8)]⟩,
  ⟨some 20, none, .call f_slices_IndexFunc_api_Record_api_Record [(.t 18), (.t 19)]⟩,
  ⟨some 9, none, .mv (.t 20)⟩] (some [6, 8, 9, 12, 13, 14]))
 (.seq (.reg [
  ⟨some 21, none, .mv (.t 9)⟩,
  ⟨some 22, none, .bin .lss (.t 21) (.c (.p (.int .i64 0)))⟩] (some [6, 8, 9, 12, 13, 14, 22]))
 (.cond (.t 22) (.reg [
  ⟨some 23, none, .mv (.t 6)⟩,
  ⟨some 24, none, .load (some 4) (.t 8)⟩,
  ⟨some 25, none, .bsl false (some 4) 1 (.agg [.str [], .int .i64 0, .str [], .sl none []]) [(0, (.t 24))]⟩,
  ⟨some 26, none, .app (some 4) (.t 23) (.t 25)⟩,
  ⟨some 6, none, .mv (.t 26)⟩] (some [6, 12, 13, 14]))
 (.seq (.draw [
   ⟨⟨some 27, none, .mv (.t 6)⟩, [6], false, [], []⟩,
   ⟨⟨some 28, none, .mv (.t 9)⟩, [9], false, [], []⟩,
   ⟨⟨some 29, none, .iaddr (some 4) (.t 27) (.t 28)⟩, [27, 28], false, [], []⟩,
   ⟨⟨some 30, none, .load (some 4) (.t 29)⟩, [29], false, [], []⟩,
   ⟨⟨some 31, none, .load (some 4) (.t 8)⟩, [8], false, [], []⟩,
   ⟨⟨some 32, none, .call f_scanref2_SameRecord [(.t 30), (.t 31)]⟩, [30, 31], true, [], []⟩,
   ⟨⟨some 33, none, .un .not (.t 32)⟩, [32], false, [], []⟩] (some [6, 12, 13, 14, 33]))
 (.cond (.t 33) (.seq (.reg [
  ⟨some 4, none, .mv (.c (.p (.sl (some 4) [])))⟩,
  ⟨some 5, none, .mv (.c (.p (.int .i64 13)))⟩] (some [4, 5]))
 .ret)
 .skip)))))))
 q1)))
def p_scanref2_MergedRecords_k2 : ACode := P_scanref2_MergedRecords_k2 p_scanref2_MergedRecords_k1
def d_scanref2_MergedRecords_k2 (C : Hd) (gl : Nat → Option PV) (q1 : ACode) (v6 v12 v13 v14 : AV) (h : Heap) (x : Esc) (K : Ex → St → Prop) : Prop :=
 pK (oBin .lss v14 v13) fun t1 =>
 condB t1 (pK (oIaddr (some 4) v12 v14 h) fun t2 =>
 pK (oLoad (some 4) t2 h) fun t3 =>
 alK [.p (.str []), .p (.int .i64 0), .p (.str []), .sl0 none] h fun t4 h5 y6 =>
 wK (oStore (some 4) t4 t3 h5) fun t7 h8 y9 =>
 C f_slices_IndexFunc_api_Record_api_Record [v6, (.fn f_scanref2_MergedRecords_1 [t4])] h8 fun t10 h11 y12 =>
 pK (oBin .lss t10 (.p (.int .i64 0))) fun t13 =>
 condB t13 (pK (oLoad (some 4) t4 h11) fun t14 =>
 wK (oBsl false (some 4) 1 (.agg [.str [], .int .i64 0, .str [], .sl none []]) [(0, t14)] h11) fun t15 h16 y17 =>
 wK (oApp (some 4) v6 t15 h16) fun t18 h19 y20 =>
 NW C gl q1 ⟨[(6, t18), (12, v12), (13, v13), (14, v14)], h19, (y20 ++ (y17 ++ (y12 ++ (y9 ++ (y6 ++ x)))))⟩ K)
 (pK (oIaddr (some 4) v6 t10 h11) fun t21 =>
 pK (oLoad (some 4) t21 h11) fun t22 =>
 pK (oLoad (some 4) t4 h11) fun t23 =>
 callE C f_scanref2_SameRecord [t22, t23] h11 fun t24 h25 y26 =>
 pK (oUn .not t24) fun t27 =>
 condB t27 (K .ret ⟨[(4, (.p (.sl (some 4) []))), (5, (.p (.int .i64 13)))], h25, (y26 ++ (y12 ++ (y9 ++ (y6 ++ x))))⟩)
 (NW C gl q1 ⟨[(6, v6), (12, v12), (13, v13), (14, v14), (33, t27)], h25, (y26 ++ (y12 ++ (y9 ++ (y6 ++ x))))⟩ K)))
 (K (.exit 0) ⟨[(6, v6), (12, v12), (13, v13), (14, v14), (15, t1)], h, x⟩)
theorem E_scanref2_MergedRecords_k2 {C gl q1 e h x K} : NW C gl (P_scanref2_MergedRecords_k2 q1) ⟨e, h, x⟩ K = d_scanref2_MergedRecords_k2 C gl q1 (aget e 6) (aget e 12) (aget e 13) (aget e 14) h x K := by kernel_rfl
theorem e_scanref2_MergedRecords_k2 {C gl e h x K} : NW C gl p_scanref2_MergedRecords_k2 ⟨e, h, x⟩ K = d_scanref2_MergedRecords_k2 C gl p_scanref2_MergedRecords_k1 (aget e 6) (aget e 12) (aget e 13) (aget e 14) h x K := E_scanref2_MergedRecords_k2
theorem l_scanref2_MergedRecords_k2 {C gl e h x K} : NW C gl (.loop (.scope p_scanref2_MergedRecords_k2)) ⟨e, h, x⟩ K = NLoop C gl (.scope p_scanref2_MergedRecords_k2) K [(6, aget e 6), (12, aget e 12), (13, aget e 13), (14, aget e 14)] h x := NLoop_sc
def p_scanref2_MergedRecords_k3 : ACode := .pr [6] (.seq (.reg [
  ⟨some 35, none, .mv (.t 6)⟩,
  ⟨some 36, none, .call f_slices_SortFunc_api_Record_api_Record [(.t 35), (.f f_scanref2_recordOrder)]⟩] (some [6]))
 (.seq (.seq (.reg [
  ⟨some 37, none, .mv (.t 6)⟩,
  ⟨some 38, none, .len (.t 37)⟩,
  ⟨some 39, none, .bin .gtr (.t 38) (.c (.p (.int .i64 5000)))⟩] (some [6, 39]))
 (.cond (.t 39) (.seq (.reg [
  ⟨some 4, none, .mv (.c (.p (.sl (some 4) [])))⟩,
  ⟨some 5, none, .mv (.c (.p (.int .i64 2)))⟩] (some [4, 5]))
 .ret)
 .skip))
 (.seq (.reg [
  ⟨some 40, none, .mv (.t 6)⟩,
  ⟨some 4, none, .mv (.t 40)⟩,
  ⟨some 5, none, .mv (.c (.p (.int .i64 0)))⟩] (some [4, 5]))
 .ret)))
def d_scanref2_MergedRecords_k3 (C : Hd) (gl : Nat → Option PV) (v6 : AV) (h : Heap) (x : Esc) (K : Ex → St → Prop) : Prop :=
 C f_slices_SortFunc_api_Record_api_Record [v6, (.fn f_scanref2_recordOrder [])] h fun t1 h2 y3 =>
 pK (oLen v6) fun t4 =>
 pK (oBin .gtr t4 (.p (.int .i64 5000))) fun t5 =>
 condB t5 (K .ret ⟨[(4, (.p (.sl (some 4) []))), (5, (.p (.int .i64 2)))], h2, (y3 ++ x)⟩)
 (K .ret ⟨[(4, v6), (5, (.p (.int .i64 0)))], h2, (y3 ++ x)⟩)
theorem e_scanref2_MergedRecords_k3 {C gl e h x K} : NW C gl p_scanref2_MergedRecords_k3 ⟨e, h, x⟩ K = d_scanref2_MergedRecords_k3 C gl (aget e 6) h x K := by kernel_rfl
def P_scanref2_MergedRecords (q2 q3 : ACode) : ACode := (.seq (.reg [
  ⟨some 4, none, .mv (.c (.p (.sl (some 4) [])))⟩,
  ⟨some 5, none, .mv (.c (.p (.int .i64 0)))⟩] (some [0, 1]))
 (.seq (.reg [
  ⟨some 10, none, .mv (.t 0)⟩,
  ⟨some 11, none, .call f_slices_Clone_api_Record_api_Record [(.t 10)]⟩,
  ⟨some 6, none, .mv (.t 11)⟩] (some [1, 6]))
 (.seq (.seq (.reg [
  ⟨some 12, none, .mv (.t 1)⟩,
  ⟨some 13, none, .len (.t 12)⟩,
  ⟨some 14, none, .mv (.c (.p (.int .i64 0)))⟩] (some [6, 12, 13, 14]))
 (.block 0 (.loop (.scope q2))))
 q3)))
def a_scanref2_MergedRecords : AFun := ⟨2, [.t 4, .t 5], P_scanref2_MergedRecords p_scanref2_MergedRecords_k2 p_scanref2_MergedRecords_k3, false, false⟩
def d_scanref2_MergedRecords (C : Hd) (gl : Nat → Option PV) (q2 q3 : ACode) (v0 v1 : AV) (h : Heap) (x : Esc) (K : Ex → St → Prop) : Prop :=
 C f_slices_Clone_api_Record_api_Record [v0] h fun t1 h2 y3 =>
 pK (oLen v1) fun t4 =>
 NW C gl (.loop (.scope q2)) ⟨[(6, t1), (12, v1), (13, t4), (14, (.p (.int .i64 0)))], h2, (y3 ++ x)⟩ (blockN 0 (seqN C gl q3 K))
theorem E_scanref2_MergedRecords {C gl q2 q3 v0 v1 h x K} : NW C gl (P_scanref2_MergedRecords q2 q3) ⟨enter [v0, v1], h, x⟩ K = d_scanref2_MergedRecords C gl q2 q3 v0 v1 h x K := by kernel_rfl
theorem e_scanref2_MergedRecords {C gl v0 v1 h x K} : NW C gl a_scanref2_MergedRecords.body ⟨enter [v0, v1], h, x⟩ K = d_scanref2_MergedRecords C gl p_scanref2_MergedRecords_k2 p_scanref2_MergedRecords_k3 v0 v1 h x K := E_scanref2_MergedRecords
def P_scanref2_BinOf : ACode := (.seq (.reg [
  ⟨some 3, none, .box (.t 1)⟩,
  ⟨some 4, none, .mv (.c (.p (.int .i64 0)))⟩,
  ⟨some 5, none, .mv (.c (.p (.int .i64 0)))⟩] (some [0, 3]))
 (.seq (.seq (.reg [
  ⟨some 7, none, .mv (.t 0)⟩,
  ⟨some 8, none, .faddr 3 none (.t 3)⟩,
  ⟨some 9, none, .load none (.t 8)⟩,
  ⟨some 10, none, .call f_scanref2_fails [(.t 7), (.t 9)]⟩,
  ⟨some 6, none, .mv (.t 10)⟩] (some [0, 6]))
 (.seq (.reg [
  ⟨some 11, none, .mv (.t 6)⟩,
  ⟨some 12, none, .bin .geq (.t 11) (.c (.p (.int .i64 0)))⟩] (some [0, 6, 12]))
 (.cond (.t 12) (.seq (.reg [
  ⟨some 13, none, .mv (.t 0)⟩,
  ⟨some 14, none, .mv (.t 6)⟩,
  ⟨some 15, none, .iaddr (some 4) (.t 13) (.t 14)⟩,
  ⟨some 16, none, .faddr 3 none (.t 15)⟩,
  ⟨some 17, none, .load none (.t 16)⟩,
  ⟨some 18, none, .mv (.t 6)⟩,
  ⟨some 4, none, .mv (.t 17)⟩,
  ⟨some 5, none, .mv (.t 18)⟩] (some [4, 5]))
 .ret)
 .skip)))
 (.seq (.reg [
  ⟨some 4, none, .mv (.c (.p (.int .i64 1)))⟩,
  ⟨some 5, none, .mv (.c (.p (.int .i64 (-1))))⟩] (some [4, 5]))
 .ret)))
def a_scanref2_BinOf : AFun := ⟨2, [.t 4, .t 5], P_scanref2_BinOf, false, false⟩
def d_scanref2_BinOf (C : Hd) (gl : Nat → Option PV) (v0 v1 : AV) (h : Heap) (x : Esc) (K : Ex → St → Prop) : Prop :=
 wK (oBox v1 h) fun t1 h2 y3 =>
 pK (oFaddr 3 none t1) fun t4 =>
 pK (oLoad none t4 h2) fun t5 =>
 C f_scanref2_fails [v0, t5] h2 fun t6 h7 y8 =>
 pK (oBin .geq t6 (.p (.int .i64 0))) fun t9 =>
 condB t9 (pK (oIaddr (some 4) v0 t6 h7) fun t10 =>
 pK (oFaddr 3 none t10) fun t11 =>
 pK (oLoad none t11 h7) fun t12 =>
 K .ret ⟨[(4, t12), (5, t6)], h7, (y8 ++ (y3 ++ x))⟩)
 (K .ret ⟨[(4, (.p (.int .i64 1))), (5, (.p (.int .i64 (-1))))], h7, (y8 ++ (y3 ++ x))⟩)
theorem E_scanref2_BinOf {C gl v0 v1 h x K} : NW C gl (P_scanref2_BinOf) ⟨enter [v0, v1], h, x⟩ K = d_scanref2_BinOf C gl v0 v1 h x K := by kernel_rfl
theorem e_scanref2_BinOf {C gl v0 v1 h x K} : NW C gl a_scanref2_BinOf.body ⟨enter [v0, v1], h, x⟩ K = d_scanref2_BinOf C gl v0 v1 h x K := E_scanref2_BinOf
end Go.Am
end
