/- The functions as abstract code, and as formulas over their values: printed by program out of the translation. -/
import Derived.Test.YtajhbehiecgflaaNums
import Derived.Test.YtajhbehiecgflaaAm31
import Derived.KernelRfl
set_option linter.unusedVariables false
set_option maxRecDepth 100000
namespace Go.Am
def P_scanref2_ChartOf : ACode := (.seq (.reg [
  ⟨some 4, none, .alloc [.p (.int .i64 0), .p (.int .i64 0), .p (.int .i64 0), .p (.int .i64 0), .p (.int .i64 0), .p (.int .i64 0), .p (.int .i64 0), .p (.int .i64 0)]⟩] (some [0, 1, 4]))
 (.seq (.reg [
  ⟨some 12, none, .mv (.t 0)⟩,
  ⟨some 13, none, .mv (.t 1)⟩,
  ⟨some 14, none, .call f_scanref2_sums [(.t 12), (.t 13)]⟩,
  ⟨some 11, none, .mv (.t 14)⟩,
  ⟨some 15, none, .ext (.t 11) 0⟩,
  ⟨some 16, none, .ext (.t 11) 1⟩,
  ⟨some 5, none, .mv (.t 15)⟩,
  ⟨some 6, none, .mv (.t 16)⟩] (some [1, 4, 5, 6]))
 (.seq (.reg [
  ⟨some 17, none, .mv (.t 5)⟩,
  ⟨some 18, none, .len (.t 17)⟩,
  ⟨some 7, none, .mv (.t 18)⟩] (some [1, 4, 5, 6, 7]))
 (.seq (.reg [
  ⟨some 19, none, .mv (.t 1)⟩,
  ⟨some 20, none, .bin .mul (.c (.p (.int .i64 100))) (.t 19)⟩,
  ⟨some 21, none, .mv (.t 7)⟩,
  ⟨some 22, none, .bin .mul (.t 20) (.t 21)⟩,
  ⟨some 8, none, .mv (.t 22)⟩] (some [1, 4, 5, 6, 7, 8]))
 (.seq (.reg [
  ⟨some 23, none, .mv (.t 5)⟩,
  ⟨some 24, none, .call f_scanref2_total [(.t 23)]⟩,
  ⟨some 25, none, .bin .mul (.c (.p (.int .i64 100))) (.t 24)⟩,
  ⟨some 26, none, .mv (.t 1)⟩,
  ⟨some 27, none, .call f_scanref2_hundredths [(.t 26)]⟩,
  ⟨some 28, none, .mv (.t 1)⟩,
  ⟨some 29, none, .bin .mul (.t 27) (.t 28)⟩,
  ⟨some 30, none, .mv (.t 6)⟩,
  ⟨some 31, none, .call f_scanref2_total [(.t 30)]⟩,
  ⟨some 32, none, .bin .mul (.t 29) (.t 31)⟩,
  ⟨some 9, none, .mv (.t 25)⟩,
  ⟨some 10, none, .mv (.t 32)⟩] (some [4, 6, 7, 8, 9, 10]))
 (.seq (.reg [
  ⟨some 33, none, .mv (.t 9)⟩,
  ⟨some 34, none, .mv (.t 8)⟩,
  ⟨some 35, none, .call f_scanref2_Lowest [(.t 33), (.t 34)]⟩,
  ⟨some 36, none, .mv (.t 6)⟩,
  ⟨some 37, none, .call f_scanref2_total [(.t 36)]⟩,
  ⟨some 38, none, .mv (.t 7)⟩,
  ⟨some 39, none, .call f_scanref2_Lowest [(.t 37), (.t 38)]⟩,
  ⟨some 40, none, .mv (.t 9)⟩,
  ⟨some 41, none, .mv (.t 10)⟩,
  ⟨some 42, none, .bin .sub (.t 40) (.t 41)⟩,
  ⟨some 43, none, .mv (.t 8)⟩,
  ⟨some 44, none, .call f_scanref2_Lowest [(.t 42), (.t 43)]⟩,
  ⟨some 45, none, .mv (.t 9)⟩,
  ⟨some 46, none, .mv (.t 10)⟩,
  ⟨some 47, none, .bin .add (.t 45) (.t 46)⟩,
  ⟨some 48, none, .mv (.t 8)⟩,
  ⟨some 49, none, .call f_scanref2_Lowest [(.t 47), (.t 48)]⟩,
  ⟨some 50, none, .build [.p (.int .i64 0), .p (.int .i64 0), .p (.int .i64 0), .p (.int .i64 0), .p (.int .i64 0), .p (.int .i64 0), .p (.int .i64 0), .p (.int .i64 0)] [(0, 2, (.t 35)), (2, 2, (.t 39)), (4, 2, (.t 44)), (6, 2, (.t 49))]⟩,
  ⟨none, none, .store (some 8) (.t 4) (.t 50)⟩] (some [4]))
 .ret))))))
def a_scanref2_ChartOf : AFun := ⟨2, [.cell 4 (some 8)], P_scanref2_ChartOf, false, false⟩
def d_scanref2_ChartOf (C : Hd) (gl : Nat → Option PV) (v0 v1 : AV) (h : Heap) (x : Esc) (K : Ex → St → Prop) : Prop :=
 alK [.p (.int .i64 0), .p (.int .i64 0), .p (.int .i64 0), .p (.int .i64 0), .p (.int .i64 0), .p (.int .i64 0), .p (.int .i64 0), .p (.int .i64 0)] h fun t1 h2 y3 =>
 C f_scanref2_sums [v0, v1] h2 fun t4 h5 y6 =>
 pK (oExt t4 0) fun t7 =>
 pK (oExt t4 1) fun t8 =>
 pK (oLen t7) fun t9 =>
 pK (oBin .mul (.p (.int .i64 100)) v1) fun t10 =>
 pK (oBin .mul t10 t9) fun t11 =>
 C f_scanref2_total [t7] h5 fun t12 h13 y14 =>
 pK (oBin .mul (.p (.int .i64 100)) t12) fun t15 =>
 C f_scanref2_hundredths [v1] h13 fun t16 h17 y18 =>
 pK (oBin .mul t16 v1) fun t19 =>
 C f_scanref2_total [t8] h17 fun t20 h21 y22 =>
 pK (oBin .mul t19 t20) fun t23 =>
 C f_scanref2_Lowest [t15, t11] h21 fun t24 h25 y26 =>
 C f_scanref2_total [t8] h25 fun t27 h28 y29 =>
 C f_scanref2_Lowest [t27, t9] h28 fun t30 h31 y32 =>
 pK (oBin .sub t15 t23) fun t33 =>
 C f_scanref2_Lowest [t33, t11] h31 fun t34 h35 y36 =>
 pK (oBin .add t15 t23) fun t37 =>
 C f_scanref2_Lowest [t37, t11] h35 fun t38 h39 y40 =>
 pK (oBuild [.p (.int .i64 0), .p (.int .i64 0), .p (.int .i64 0), .p (.int .i64 0), .p (.int .i64 0), .p (.int .i64 0), .p (.int .i64 0), .p (.int .i64 0)] [(0, 2, t24), (2, 2, t30), (4, 2, t34), (6, 2, t38)]) fun t41 =>
 wK (oStore (some 8) t1 t41 h39) fun t42 h43 y44 =>
 K .ret ⟨[(4, t1)], h43, (y44 ++ (y40 ++ (y36 ++ (y32 ++ (y29 ++ (y26 ++ (y22 ++ (y18 ++ (y14 ++ (y6 ++ (y3 ++ x)))))))))))⟩
theorem E_scanref2_ChartOf {C gl v0 v1 h x K} : NW C gl (P_scanref2_ChartOf) ⟨enter [v0, v1], h, x⟩ K = d_scanref2_ChartOf C gl v0 v1 h x K := by kernel_rfl
theorem e_scanref2_ChartOf {C gl v0 v1 h x K} : NW C gl a_scanref2_ChartOf.body ⟨enter [v0, v1], h, x⟩ K = d_scanref2_ChartOf C gl v0 v1 h x K := E_scanref2_ChartOf
def p_scanref2_SignalsIn_k1 : ACode := .pr [1, 5, 6, 7, 8, 9, 10, 12, 13, 14, 25, 26] (.seq (.seq (.reg [
  ⟨some 62, none, .mv (.t 14)⟩,
  ⟨some 63, none, .mv (.t 10)⟩,
  ⟨some 64, none, .bin .lss (.t 62) (.t 63)⟩] (some [1, 5, 6, 7, 8, 9, 10, 12, 13, 14, 25, 26, 64]))
 (.cond (.t 64) .skip
 (.exit 2)))
 (.seq (.block 3 (.reg [
  ⟨some 67, none, .mv (.t 13)⟩,
  ⟨some 68, none, .mv (.t 67)⟩,
  ⟨some 69, (some (68, true)), .mv (.t 8)⟩,
  ⟨some 70, (some (68, true)), .mv (.t 14)⟩,
  ⟨some 71, (some (68, true)), .callv (.t 69) [(.t 70)]⟩,
  ⟨some 72, (some (68, true)), .mv (.t 8)⟩,
  ⟨some 73, (some (68, true)), .mv (.t 10)⟩,
  ⟨some 74, (some (68, true)), .callv (.t 72) [(.t 73)]⟩,
  ⟨some 75, (some (68, true)), .bin .eql (.t 71) (.t 74)⟩,
  ⟨some 76, none, .pick (.t 68) (.t 75) (.c (.p (.bool false)))⟩,
  ⟨some 13, none, .mv (.t 76)⟩] (some [1, 5, 6, 7, 8, 9, 10, 12, 13, 14, 25, 26])))
 (.reg [
  ⟨some 65, none, .mv (.t 14)⟩,
  ⟨some 66, none, .bin .add (.t 65) (.c (.p (.int .i64 1)))⟩,
  ⟨some 14, none, .mv (.t 66)⟩] (some [1, 5, 6, 7, 8, 9, 10, 12, 13, 14, 25, 26]))))
def d_scanref2_SignalsIn_k1 (C : Hd) (gl : Nat → Option PV) (v1 v5 v6 v7 v8 v9 v10 v12 v13 v14 v25 v26 : AV) (h : Heap) (x : Esc) (K : Ex → St → Prop) : Prop :=
 pK (oBin .lss v14 v10) fun t1 =>
 condB t1 (gM v13 true v8 h fun t2 h3 y4 =>
 gM v13 true v14 h3 fun t5 h6 y7 =>
 gV v13 true h6 (callvK C t2 [t5] h6) fun t8 h9 y10 =>
 gM v13 true v8 h9 fun t11 h12 y13 =>
 gM v13 true v10 h12 fun t14 h15 y16 =>
 gV v13 true h15 (callvK C t11 [t14] h15) fun t17 h18 y19 =>
 gP v13 true (oBin .eql t8 t17) h18 fun t20 h21 y22 =>
 pK (oPick v13 t20 (.p (.bool false))) fun t23 =>
 pK (oBin .add v14 (.p (.int .i64 1))) fun t24 =>
 K .normal ⟨[(1, v1), (5, v5), (6, v6), (7, v7), (8, v8), (9, v9), (10, v10), (12, v12), (13, t23), (14, t24), (25, v25), (26, v26)], h21, (y22 ++ (y19 ++ (y16 ++ (y13 ++ (y10 ++ (y7 ++ (y4 ++ x)))))))⟩)
 (K (.exit 2) ⟨[(1, v1), (5, v5), (6, v6), (7, v7), (8, v8), (9, v9), (10, v10), (12, v12), (13, v13), (14, v14), (25, v25), (26, v26), (64, t1)], h, x⟩)
theorem e_scanref2_SignalsIn_k1 {C gl e h x K} : NW C gl p_scanref2_SignalsIn_k1 ⟨e, h, x⟩ K = d_scanref2_SignalsIn_k1 C gl (aget e 1) (aget e 5) (aget e 6) (aget e 7) (aget e 8) (aget e 9) (aget e 10) (aget e 12) (aget e 13) (aget e 14) (aget e 25) (aget e 26) h x K := by kernel_rfl
theorem l_scanref2_SignalsIn_k1 {C gl e h x K} : NW C gl (.loop p_scanref2_SignalsIn_k1) ⟨e, h, x⟩ K = NLoop C gl p_scanref2_SignalsIn_k1 K [(1, aget e 1), (5, aget e 5), (6, aget e 6), (7, aget e 7), (8, aget e 8), (9, aget e 9), (10, aget e 10), (12, aget e 12), (13, aget e 13), (14, aget e 14), (25, aget e 25), (26, aget e 26)] h x := NLoop_pr
def p_scanref2_SignalsIn_k2 : ACode := .pr [1, 5, 6, 7, 8, 9, 10, 12, 13, 25, 26] (.seq (.reg [
  ⟨some 77, none, .mv (.t 12)⟩,
  ⟨some 78, none, .mv (.t 77)⟩,
  ⟨some 79, (some (78, false)), .mv (.t 13)⟩,
  ⟨some 80, none, .pick (.t 78) (.c (.p (.bool true))) (.t 79)⟩] (some [1, 5, 6, 7, 8, 9, 10, 25, 26, 80]))
 (.cond (.t 80) (.reg [
  ⟨some 81, none, .mv (.t 9)⟩,
  ⟨some 82, none, .mv (.t 10)⟩,
  ⟨some 83, none, .bsl false none 1 (.int .i64 0) [(0, (.t 82))]⟩,
  ⟨some 84, none, .app none (.t 81) (.t 83)⟩,
  ⟨some 9, none, .mv (.t 84)⟩] (some [1, 5, 6, 7, 8, 9, 25, 26]))
 .skip))
def d_scanref2_SignalsIn_k2 (C : Hd) (gl : Nat → Option PV) (v1 v5 v6 v7 v8 v9 v10 v12 v13 v25 v26 : AV) (h : Heap) (x : Esc) (K : Ex → St → Prop) : Prop :=
 gM v12 false v13 h fun t1 h2 y3 =>
 pK (oPick v12 (.p (.bool true)) t1) fun t4 =>
 condB t4 (wK (oBsl false none 1 (.int .i64 0) [(0, v10)] h2) fun t5 h6 y7 =>
 wK (oApp none v9 t5 h6) fun t8 h9 y10 =>
 K .normal ⟨[(1, v1), (5, v5), (6, v6), (7, v7), (8, v8), (9, t8), (25, v25), (26, v26)], h9, (y10 ++ (y7 ++ (y3 ++ x)))⟩)
 (K .normal ⟨[(1, v1), (5, v5), (6, v6), (7, v7), (8, v8), (9, v9), (10, v10), (25, v25), (26, v26), (80, t4)], h2, (y3 ++ x)⟩)
theorem e_scanref2_SignalsIn_k2 {C gl e h x K} : NW C gl p_scanref2_SignalsIn_k2 ⟨e, h, x⟩ K = d_scanref2_SignalsIn_k2 C gl (aget e 1) (aget e 5) (aget e 6) (aget e 7) (aget e 8) (aget e 9) (aget e 10) (aget e 12) (aget e 13) (aget e 25) (aget e 26) h x K := by kernel_rfl
def p_scanref2_SignalsIn_k3 : ACode := .pr [1, 5, 6, 7, 8, 9, 25, 26] (.reg [
  ⟨some 85, none, .bin .add (.t 26) (.c (.p (.int .i64 1)))⟩,
  ⟨some 26, none, .mv (.t 85)⟩] (some [1, 5, 6, 7, 8, 9, 25, 26]))
def d_scanref2_SignalsIn_k3 (C : Hd) (gl : Nat → Option PV) (v1 v5 v6 v7 v8 v9 v25 v26 : AV) (h : Heap) (x : Esc) (K : Ex → St → Prop) : Prop :=
 pK (oBin .add v26 (.p (.int .i64 1))) fun t1 =>
 K .normal ⟨[(1, v1), (5, v5), (6, v6), (7, v7), (8, v8), (9, v9), (25, v25), (26, t1)], h, x⟩
theorem e_scanref2_SignalsIn_k3 {C gl e h x K} : NW C gl p_scanref2_SignalsIn_k3 ⟨e, h, x⟩ K = d_scanref2_SignalsIn_k3 C gl (aget e 1) (aget e 5) (aget e 6) (aget e 7) (aget e 8) (aget e 9) (aget e 25) (aget e 26) h x K := by kernel_rfl
def P_scanref2_SignalsIn_k4 (q1 q2 q3 : ACode) : ACode := .pr [1, 5, 6, 7, 8, 9, 25, 26] (.seq (.reg [
  ⟨some 27, none, .bin .lss (.t 26) (.t 25)⟩] (some [1, 5, 6, 7, 8, 9, 25, 26, 27]))
 (.seq (.cond (.t 27) .skip
 (.exit 0))
 (.seq (.block 1 (.seq (.reg [
  ⟨some 28, none, .mv (.t 26)⟩,
  ⟨some 10, none, .mv (.t 28)⟩] (some [1, 5, 6, 7, 8, 9, 10, 25, 26]))
 (.seq (.draw [
   ⟨⟨some 29, none, .load none (.t 5)⟩, [5], false, [], []⟩,
   ⟨⟨some 30, none, .mv (.t 10)⟩, [10], false, [], []⟩,
   ⟨⟨some 31, none, .iaddr none (.t 29) (.t 30)⟩, [29, 30], false, [], []⟩,
   ⟨⟨some 32, none, .load none (.t 31)⟩, [31], false, [], []⟩,
   ⟨⟨some 33, none, .load none (.t 7)⟩, [7], false, [], []⟩,
   ⟨⟨some 34, none, .bin .mul (.t 32) (.t 33)⟩, [32, 33], false, [], []⟩,
   ⟨⟨some 35, none, .load none (.t 5)⟩, [5], false, [], []⟩,
   ⟨⟨some 36, none, .call f_scanref2_total [(.t 35)]⟩, [35], true, [], [0, 2, 3, 4]⟩,
   ⟨⟨some 37, none, .bin .sub (.t 34) (.t 36)⟩, [34, 36], false, [], []⟩,
   ⟨⟨some 38, none, .bin .mul (.c (.p (.int .i64 100))) (.t 37)⟩, [37], false, [], []⟩,
   ⟨⟨some 11, none, .mv (.t 38)⟩, [38], false, [], []⟩] (some [1, 5, 6, 7, 8, 9, 10, 11, 25, 26]))
 (.seq (.reg [
  ⟨some 39, none, .mv (.t 11)⟩,
  ⟨some 40, none, .mv (.t 11)⟩,
  ⟨some 41, none, .un .neg (.t 40)⟩,
  ⟨some 42, none, .mx [(.t 39), (.t 41)]⟩,
  ⟨some 43, none, .mv (.t 1)⟩,
  ⟨some 44, none, .call f_scanref2_hundredths [(.t 43)]⟩,
  ⟨some 45, none, .mv (.t 1)⟩,
  ⟨some 46, none, .bin .mul (.t 44) (.t 45)⟩,
  ⟨some 47, none, .mv (.t 6)⟩,
  ⟨some 48, none, .call f_scanref2_total [(.t 47)]⟩,
  ⟨some 49, none, .bin .mul (.t 46) (.t 48)⟩,
  ⟨some 50, none, .bin .gtr (.t 42) (.t 49)⟩,
  ⟨some 12, none, .mv (.t 50)⟩] (some [1, 5, 6, 7, 8, 9, 10, 12, 25, 26]))
 (.seq (.reg [
  ⟨some 51, none, .mv (.t 10)⟩,
  ⟨some 52, none, .bin .geq (.t 51) (.c (.p (.int .i64 7)))⟩,
  ⟨some 53, none, .mv (.t 52)⟩,
  ⟨some 54, (some (53, true)), .mv (.t 8)⟩,
  ⟨some 55, (some (53, true)), .mv (.t 10)⟩,
  ⟨some 56, (some (53, true)), .callv (.t 54) [(.t 55)]⟩,
  ⟨some 57, (some (53, true)), .bin .neq (.t 56) (.c (.p (.int .i64 0)))⟩,
  ⟨some 58, none, .pick (.t 53) (.t 57) (.c (.p (.bool false)))⟩,
  ⟨some 13, none, .mv (.t 58)⟩] (some [1, 5, 6, 7, 8, 9, 10, 12, 13, 25, 26]))
 (.seq (.seq (.reg [
  ⟨some 59, none, .mv (.t 10)⟩,
  ⟨some 60, none, .bin .sub (.t 59) (.c (.p (.int .i64 7)))⟩,
  ⟨some 61, none, .mx [(.c (.p (.int .i64 0))), (.t 60)]⟩,
  ⟨some 14, none, .mv (.t 61)⟩] (some [1, 5, 6, 7, 8, 9, 10, 12, 13, 14, 25, 26]))
 (.block 2 (.loop q1)))
 q2))))))
 q3)))
def p_scanref2_SignalsIn_k4 : ACode := P_scanref2_SignalsIn_k4 p_scanref2_SignalsIn_k1 p_scanref2_SignalsIn_k2 p_scanref2_SignalsIn_k3
def d_scanref2_SignalsIn_k4 (C : Hd) (gl : Nat → Option PV) (q1 q2 q3 : ACode) (v1 v5 v6 v7 v8 v9 v25 v26 : AV) (h : Heap) (x : Esc) (K : Ex → St → Prop) : Prop :=
 pK (oBin .lss v26 v25) fun t1 =>
 condB t1 (pK (oLoad none v5 h) fun t2 =>
 pK (oIaddr none t2 v26 h) fun t3 =>
 pK (oLoad none t3 h) fun t4 =>
 pK (oLoad none v7 h) fun t5 =>
 pK (oBin .mul t4 t5) fun t6 =>
 pK (oLoad none v5 h) fun t7 =>
 callE C f_scanref2_total [t7] h fun t8 h9 y10 =>
 (pK (oLoad none v5 h9) fun v => (fun u (g1 : Heap) (y1 : Esc) => u = t2 ∧ g1 = h9 ∧ y1 = []) v h9 []) ∧ ((pK (oIaddr none t2 v26 h9) fun v => (fun u (g1 : Heap) (y1 : Esc) => u = t3 ∧ g1 = h9 ∧ y1 = []) v h9 []) ∧ ((pK (oLoad none t3 h9) fun v => (fun u (g1 : Heap) (y1 : Esc) => u = t4 ∧ g1 = h9 ∧ y1 = []) v h9 []) ∧ ((pK (oLoad none v7 h9) fun v => (fun u (g1 : Heap) (y1 : Esc) => u = t5 ∧ g1 = h9 ∧ y1 = []) v h9 []) ∧ (pK (oBin .sub t6 t8) fun t11 =>
 pK (oBin .mul (.p (.int .i64 100)) t11) fun t12 =>
 pK (oUn .neg t12) fun t13 =>
 pK (oMx [t12, t13]) fun t14 =>
 C f_scanref2_hundredths [v1] h9 fun t15 h16 y17 =>
 pK (oBin .mul t15 v1) fun t18 =>
 C f_scanref2_total [v6] h16 fun t19 h20 y21 =>
 pK (oBin .mul t18 t19) fun t22 =>
 pK (oBin .gtr t14 t22) fun t23 =>
 pK (oBin .geq v26 (.p (.int .i64 7))) fun t24 =>
 gM t24 true v8 h20 fun t25 h26 y27 =>
 gM t24 true v26 h26 fun t28 h29 y30 =>
 gV t24 true h29 (callvK C t25 [t28] h29) fun t31 h32 y33 =>
 gP t24 true (oBin .neq t31 (.p (.int .i64 0))) h32 fun t34 h35 y36 =>
 pK (oPick t24 t34 (.p (.bool false))) fun t37 =>
 pK (oBin .sub v26 (.p (.int .i64 7))) fun t38 =>
 pK (oMx [(.p (.int .i64 0)), t38]) fun t39 =>
 NW C gl (.loop q1) ⟨[(1, v1), (5, v5), (6, v6), (7, v7), (8, v8), (9, v9), (10, v26), (12, t23), (13, t37), (14, t39), (25, v25), (26, v26)], h35, (y36 ++ (y33 ++ (y30 ++ (y27 ++ (y21 ++ (y17 ++ (y10 ++ x)))))))⟩ (blockN 2 (seqN C gl q2 (blockN 1 (seqN C gl q3 K)))))))))
 (K (.exit 0) ⟨[(1, v1), (5, v5), (6, v6), (7, v7), (8, v8), (9, v9), (25, v25), (26, v26), (27, t1)], h, x⟩)
theorem E_scanref2_SignalsIn_k4 {C gl q1 q2 q3 e h x K} : NW C gl (P_scanref2_SignalsIn_k4 q1 q2 q3) ⟨e, h, x⟩ K = d_scanref2_SignalsIn_k4 C gl q1 q2 q3 (aget e 1) (aget e 5) (aget e 6) (aget e 7) (aget e 8) (aget e 9) (aget e 25) (aget e 26) h x K := by kernel_rfl
theorem e_scanref2_SignalsIn_k4 {C gl e h x K} : NW C gl p_scanref2_SignalsIn_k4 ⟨e, h, x⟩ K = d_scanref2_SignalsIn_k4 C gl p_scanref2_SignalsIn_k1 p_scanref2_SignalsIn_k2 p_scanref2_SignalsIn_k3 (aget e 1) (aget e 5) (aget e 6) (aget e 7) (aget e 8) (aget e 9) (aget e 25) (aget e 26) h x K := E_scanref2_SignalsIn_k4
theorem l_scanref2_SignalsIn_k4 {C gl e h x K} : NW C gl (.loop (.scope p_scanref2_SignalsIn_k4)) ⟨e, h, x⟩ K = NLoop C gl (.scope p_scanref2_SignalsIn_k4) K [(1, aget e 1), (5, aget e 5), (6, aget e 6), (7, aget e 7), (8, aget e 8), (9, aget e 9), (25, aget e 25), (26, aget e 26)] h x := NLoop_sc
def p_scanref2_SignalsIn_k5 : ACode := .pr [9] (.seq (.reg [
  ⟨some 86, none, .mv (.t 9)⟩,
  ⟨some 4, none, .mv (.t 86)⟩] (some [4]))
 .ret)
def d_scanref2_SignalsIn_k5 (C : Hd) (gl : Nat → Option PV) (v9 : AV) (h : Heap) (x : Esc) (K : Ex → St → Prop) : Prop :=
 K .ret ⟨[(4, v9)], h, x⟩
theorem e_scanref2_SignalsIn_k5 {C gl e h x K} : NW C gl p_scanref2_SignalsIn_k5 ⟨e, h, x⟩ K = d_scanref2_SignalsIn_k5 C gl (aget e 9) h x K := by kernel_rfl
def P_scanref2_SignalsIn (q4 q5 : ACode) : ACode := (.seq (.reg [
  ⟨some 4, none, .mv (.c (.p (.sl none [])))⟩] (some [0, 1]))
 (.seq (.reg [
  ⟨some 16, none, .mv (.t 0)⟩,
  ⟨some 17, none, .mv (.t 1)⟩,
  ⟨some 18, none, .call f_scanref2_sums [(.t 16), (.t 17)]⟩,
  ⟨some 15, none, .mv (.t 18)⟩,
  ⟨some 19, none, .ext (.t 15) 0⟩,
  ⟨some 20, none, .ext (.t 15) 1⟩,
  ⟨some 5, none, .alloc [.sl0 none]⟩,
  ⟨none, none, .store none (.t 5) (.t 19)⟩,
  ⟨some 6, none, .mv (.t 20)⟩] (some [1, 5, 6]))
 (.seq (.reg [
  ⟨some 21, none, .load none (.t 5)⟩,
  ⟨some 22, none, .len (.t 21)⟩,
  ⟨some 7, none, .alloc [.p (.int .i64 0)]⟩,
  ⟨none, none, .store none (.t 7) (.t 22)⟩] (some [1, 5, 6, 7]))
 (.seq (.reg [
  ⟨some 23, none, .mkfn f_scanref2_SignalsIn_1 [(.t 5), (.t 7)]⟩,
  ⟨some 8, none, .mv (.t 23)⟩] (some [1, 5, 6, 7, 8]))
 (.seq (.reg [
  ⟨some 9, none, .new0 none⟩] (some [1, 5, 6, 7, 8, 9]))
 (.seq (.seq (.reg [
  ⟨some 24, none, .load none (.t 5)⟩,
  ⟨some 25, none, .len (.t 24)⟩,
  ⟨some 26, none, .mv (.c (.p (.int .i64 0)))⟩] (some [1, 5, 6, 7, 8, 9, 25, 26]))
 (.block 0 (.loop (.scope q4))))
 q5))))))
def a_scanref2_SignalsIn : AFun := ⟨2, [.t 4], P_scanref2_SignalsIn p_scanref2_SignalsIn_k4 p_scanref2_SignalsIn_k5, false, false⟩
def d_scanref2_SignalsIn (C : Hd) (gl : Nat → Option PV) (q4 q5 : ACode) (v0 v1 : AV) (h : Heap) (x : Esc) (K : Ex → St → Prop) : Prop :=
 C f_scanref2_sums [v0, v1] h fun t1 h2 y3 =>
 pK (oExt t1 0) fun t4 =>
 pK (oExt t1 1) fun t5 =>
 alK [.sl0 none] h2 fun t6 h7 y8 =>
 wK (oStore none t6 t4 h7) fun t9 h10 y11 =>
 pK (oLoad none t6 h10) fun t12 =>
 pK (oLen t12) fun t13 =>
 alK [.p (.int .i64 0)] h10 fun t14 h15 y16 =>
 wK (oStore none t14 t13 h15) fun t17 h18 y19 =>
 nwK none h18 fun t20 h21 y22 =>
 pK (oLoad none t6 h21) fun t23 =>
 pK (oLen t23) fun t24 =>
 NW C gl (.loop (.scope q4)) ⟨[(1, v1), (5, t6), (6, t5), (7, t14), (8, (.fn f_scanref2_SignalsIn_1 [t6, t14])), (9, t20), (25, t24), (26, (.p (.int .i64 0)))], h21, (y22 ++ (y19 ++ (y16 ++ (y11 ++ (y8 ++ (y3 ++ x))))))⟩ (blockN 0 (seqN C gl q5 K))
theorem E_scanref2_SignalsIn {C gl q4 q5 v0 v1 h x K} : NW C gl (P_scanref2_SignalsIn q4 q5) ⟨enter [v0, v1], h, x⟩ K = d_scanref2_SignalsIn C gl q4 q5 v0 v1 h x K := by kernel_rfl
theorem e_scanref2_SignalsIn {C gl v0 v1 h x K} : NW C gl a_scanref2_SignalsIn.body ⟨enter [v0, v1], h, x⟩ K = d_scanref2_SignalsIn C gl p_scanref2_SignalsIn_k4 p_scanref2_SignalsIn_k5 v0 v1 h x K := E_scanref2_SignalsIn
def p_slices_Equal_int_int_k1 : ACode := .pr [0, 1, 12, 13] (.seq (.reg [
  ⟨some 14, none, .bin .lss (.t 13) (.t 12)⟩] (some [0, 1, 12, 13, 14]))
 (.seq (.cond (.t 14) .skip
 (.exit 0))
 (.seq (.block 1 (.seq (.reg [
  ⟨some 15, none, .mv (.t 13)⟩,
  ⟨some 5, none, .mv (.t 15)⟩] (some [0, 1, 5, 12, 13]))
 (.seq (.draw [
   ⟨⟨some 16, none, .mv (.t 0)⟩, [0], false, [], []⟩,
   ⟨⟨some 17, none, .mv (.t 5)⟩, [5], false, [], []⟩,
   ⟨⟨some 18, none, .iaddr none (.t 16) (.t 17)⟩, [16, 17], false, [], []⟩,
   ⟨⟨some 19, none, .load none (.t 18)⟩, [18], false, [], []⟩,
   ⟨⟨some 20, none, .mv (.t 1)⟩, [1], false, [], []⟩,
   ⟨⟨some 21, none, .mv (.t 5)⟩, [5], false, [], []⟩,
   ⟨⟨some 22, none, .iaddr none (.t 20) (.t 21)⟩, [20, 21], false, [], []⟩,
   ⟨⟨some 23, none, .load none (.t 22)⟩, [22], false, [], []⟩,
   ⟨⟨some 24, none, .bin .neq (.t 19) (.t 23)⟩, [19, 23], false, [], []⟩] (some [0, 1, 12, 13, 24]))
 (.cond (.t 24) (.seq (.reg [
  ⟨some 4, none, .mv (.c (.p (.bool false)))⟩] (some [4]))
 .ret)
 .skip))))
 (.reg [
  ⟨some 25, none, .bin .add (.t 13) (.c (.p (.int .i64 1)))⟩,
  ⟨some 13, none, .mv (.t 25)⟩] (some [0, 1, 12, 13])))))
def d_slices_Equal_int_int_k1 (C : Hd) (gl : Nat → Option PV) (v0 v1 v12 v13 : AV) (h : Heap) (x : Esc) (K : Ex → St → Prop) : Prop :=
 pK (oBin .lss v13 v12) fun t1 =>
 condB t1 (pK (oIaddr none v0 v13 h) fun t2 =>
 pK (oLoad none t2 h) fun t3 =>
 pK (oIaddr none v1 v13 h) fun t4 =>
 pK (oLoad none t4 h) fun t5 =>
 pK (oBin .neq t3 t5) fun t6 =>
 condB t6 (K .ret ⟨[(4, (.p (.bool false)))], h, x⟩)
 (pK (oBin .add v13 (.p (.int .i64 1))) fun t7 =>
 K .normal ⟨[(0, v0), (1, v1), (12, v12), (13, t7)], h, x⟩))
 (K (.exit 0) ⟨[(0, v0), (1, v1), (12, v12), (13, v13), (14, t1)], h, x⟩)
theorem e_slices_Equal_int_int_k1 {C gl e h x K} : NW C gl p_slices_Equal_int_int_k1 ⟨e, h, x⟩ K = d_slices_Equal_int_int_k1 C gl (aget e 0) (aget e 1) (aget e 12) (aget e 13) h x K := by kernel_rfl
theorem l_slices_Equal_int_int_k1 {C gl e h x K} : NW C gl (.loop p_slices_Equal_int_int_k1) ⟨e, h, x⟩ K = NLoop C gl p_slices_Equal_int_int_k1 K [(0, aget e 0), (1, aget e 1), (12, aget e 12), (13, aget e 13)] h x := NLoop_pr
def p_slices_Equal_int_int_k2 : ACode := .pr [] (.seq (.reg [
  ⟨some 4, none, .mv (.c (.p (.bool true)))⟩] (some [4]))
 .ret)
def d_slices_Equal_int_int_k2 (C : Hd) (gl : Nat → Option PV) (h : Heap) (x : Esc) (K : Ex → St → Prop) : Prop :=
 K .ret ⟨[(4, (.p (.bool true)))], h, x⟩
theorem e_slices_Equal_int_int_k2 {C gl e h x K} : NW C gl p_slices_Equal_int_int_k2 ⟨e, h, x⟩ K = d_slices_Equal_int_int_k2 C gl h x K := by kernel_rfl
def P_slices_Equal_int_int (q1 q2 : ACode) : ACode := (.seq (.reg [
  ⟨some 4, none, .mv (.c (.p (.bool false)))⟩] (some [0, 1]))
 (.seq (.seq (.reg [
  ⟨some 6, none, .mv (.t 0)⟩,
  ⟨some 7, none, .len (.t 6)⟩,
  ⟨some 8, none, .mv (.t 1)⟩,
  ⟨some 9, none, .len (.t 8)⟩,
  ⟨some 10, none, .bin .neq (.t 7) (.t 9)⟩] (some [0, 1, 10]))
 (.cond (.t 10) (.seq (.reg [
  ⟨some 4, none, .mv (.c (.p (.bool false)))⟩] (some [4]))
 .ret)
 .skip))
 (.seq (.seq (.reg [
  ⟨some 11, none, .mv (.t 0)⟩,
  ⟨some 12, none, .len (.t 11)⟩,
  ⟨some 13, none, .mv (.c (.p (.int .i64 0)))⟩] (some [0, 1, 12, 13]))
 (.block 0 (.loop q1)))
 q2)))
def a_slices_Equal_int_int : AFun := ⟨2, [.t 4], P_slices_Equal_int_int p_slices_Equal_int_int_k1 p_slices_Equal_int_int_k2, false, false⟩
def d_slices_Equal_int_int (C : Hd) (gl : Nat → Option PV) (q1 q2 : ACode) (v0 v1 : AV) (h : Heap) (x : Esc) (K : Ex → St → Prop) : Prop :=
 pK (oLen v0) fun t1 =>
 pK (oLen v1) fun t2 =>
 pK (oBin .neq t1 t2) fun t3 =>
 condB t3 (K .ret ⟨[(4, (.p (.bool false)))], h, x⟩)
 (pK (oLen v0) fun t4 =>
 NW C gl (.loop q1) ⟨[(0, v0), (1, v1), (12, t4), (13, (.p (.int .i64 0)))], h, x⟩ (blockN 0 (seqN C gl q2 K)))
theorem E_slices_Equal_int_int {C gl q1 q2 v0 v1 h x K} : NW C gl (P_slices_Equal_int_int q1 q2) ⟨enter [v0, v1], h, x⟩ K = d_slices_Equal_int_int C gl q1 q2 v0 v1 h x K := by kernel_rfl
theorem e_slices_Equal_int_int {C gl v0 v1 h x K} : NW C gl a_slices_Equal_int_int.body ⟨enter [v0, v1], h, x⟩ K = d_slices_Equal_int_int C gl p_slices_Equal_int_int_k1 p_slices_Equal_int_int_k2 v0 v1 h x K := E_slices_Equal_int_int
def P_scanlaw2_binned : ACode := (.seq (.reg [
  ⟨some 0, none, .mv (.c (.p (.bool false)))⟩] (some []))
 (.seq (.reg [
  ⟨some 5, none, .bsl false none 2 (.int .i64 0) [(0, (.c (.p (.int .i64 1)))), (1, (.c (.p (.int .i64 3))))]⟩,
  ⟨some 6, none, .call f_lot_Spread [(.t 5)]⟩,
  ⟨some 4, none, .mv (.t 6)⟩,
  ⟨some 7, none, .ext (.t 4) 0⟩,
  ⟨some 8, none, .ext (.t 4) 1⟩,
  ⟨some 9, none, .ext (.t 4) 2⟩,
  ⟨some 1, none, .alloc [.p (.int .i64 0), .p (.int .i64 0)]⟩,
  ⟨some 2, none, .alloc [.p (.int .i64 0), .p (.int .i64 0)]⟩,
  ⟨none, none, .store (some 2) (.t 1) (.t 7)⟩,
  ⟨none, none, .store (some 2) (.t 2) (.t 8)⟩,
  ⟨some 3, none, .mv (.t 9)⟩] (some [1, 2, 3]))
 (.seq (.reg [
  ⟨some 10, none, .mv (.t 3)⟩,
  ⟨some 11, none, .bin .eql (.t 10) (.c (.p (.int .i64 0)))⟩,
  ⟨some 12, none, .mv (.t 11)⟩,
  ⟨some 13, (some (12, true)), .load (some 2) (.t 1)⟩,
  ⟨some 14, (some (12, true)), .build [.p (.int .i64 0), .p (.int .i64 0)] [(0, 1, (.c (.p (.int .i64 2)))), (1, 1, (.c (.p (.int .i64 1))))]⟩,
  ⟨some 15, (some (12, true)), .eqa [0, 0] false (.t 13) (.t 14)⟩,
  ⟨some 16, none, .pick (.t 12) (.t 15) (.c (.p (.bool false)))⟩,
  ⟨some 17, none, .mv (.t 16)⟩,
  ⟨some 18, (some (17, true)), .load (some 2) (.t 2)⟩,
  ⟨some 19, (some (17, true)), .build [.p (.int .i64 0), .p (.int .i64 0)] [(0, 1, (.c (.p (.int .i64 1)))), (1, 1, (.c (.p (.int .i64 1))))]⟩,
  ⟨some 20, (some (17, true)), .eqa [0, 0] false (.t 18) (.t 19)⟩,
  ⟨some 21, none, .pick (.t 17) (.t 20) (.c (.p (.bool false)))⟩,
  ⟨some 0, none, .mv (.t 21)⟩] (some [0]))
 .ret)))
def a_scanlaw2_binned : AFun := ⟨0, [.t 0], P_scanlaw2_binned, false, false⟩
def d_scanlaw2_binned (C : Hd) (gl : Nat → Option PV) (h : Heap) (x : Esc) (K : Ex → St → Prop) : Prop :=
 wK (oBsl false none 2 (.int .i64 0) [(0, (.p (.int .i64 1))), (1, (.p (.int .i64 3)))] h) fun t1 h2 y3 =>
 C f_lot_Spread [t1] h2 fun t4 h5 y6 =>
 pK (oExt t4 0) fun t7 =>
 pK (oExt t4 1) fun t8 =>
 pK (oExt t4 2) fun t9 =>
 alK [.p (.int .i64 0), .p (.int .i64 0)] h5 fun t10 h11 y12 =>
 alK [.p (.int .i64 0), .p (.int .i64 0)] h11 fun t13 h14 y15 =>
 wK (oStore (some 2) t10 t7 h14) fun t16 h17 y18 =>
 wK (oStore (some 2) t13 t8 h17) fun t19 h20 y21 =>
 pK (oBin .eql t9 (.p (.int .i64 0))) fun t22 =>
 gP t22 true (oLoad (some 2) t10 h20) h20 fun t23 h24 y25 =>
 gP t22 true (oBuild [.p (.int .i64 0), .p (.int .i64 0)] [(0, 1, (.p (.int .i64 2))), (1, 1, (.p (.int .i64 1)))]) h24 fun t26 h27 y28 =>
 gP t22 true (oEqa [0, 0] false t23 t26) h27 fun t29 h30 y31 =>
 pK (oPick t22 t29 (.p (.bool false))) fun t32 =>
 gP t32 true (oLoad (some 2) t13 h30) h30 fun t33 h34 y35 =>
 gP t32 true (oBuild [.p (.int .i64 0), .p (.int .i64 0)] [(0, 1, (.p (.int .i64 1))), (1, 1, (.p (.int .i64 1)))]) h34 fun t36 h37 y38 =>
 gP t32 true (oEqa [0, 0] false t33 t36) h37 fun t39 h40 y41 =>
 pK (oPick t32 t39 (.p (.bool false))) fun t42 =>
 K .ret ⟨[(0, t42)], h40, (y41 ++ (y38 ++ (y35 ++ (y31 ++ (y28 ++ (y25 ++ (y21 ++ (y18 ++ (y15 ++ (y12 ++ (y6 ++ (y3 ++ x))))))))))))⟩
theorem E_scanlaw2_binned {C gl h x K} : NW C gl (P_scanlaw2_binned) ⟨enter [], h, x⟩ K = d_scanlaw2_binned C gl h x K := by kernel_rfl
theorem e_scanlaw2_binned {C gl h x K} : NW C gl a_scanlaw2_binned.body ⟨enter [], h, x⟩ K = d_scanlaw2_binned C gl h x K := E_scanlaw2_binned
def P_scanmake_Stream_Next : ACode := (.seq (.reg [
  ⟨some 4, none, .mv (.c (.p (.int .i64 0)))⟩] (some [0, 1]))
 (.seq (.reg [
  ⟨some 7, none, .mv (.t 0)⟩,
  ⟨some 8, none, .nilchk (.t 7)⟩,
  ⟨some 9, none, .faddr 1 none (.t 8)⟩,
  ⟨some 10, none, .load none (.t 9)⟩,
  ⟨some 11, none, .bin .add (.t 10) (.c (.p (.int .i64 1)))⟩,
  ⟨some 12, none, .nilchk (.t 7)⟩,
  ⟨some 13, none, .faddr 1 none (.t 12)⟩,
  ⟨none, none, .store none (.t 13) (.t 11)⟩] (some [0, 1]))
 (.seq (.seq (.reg [
  ⟨some 14, none, .mv (.t 0)⟩,
  ⟨some 15, none, .nilchk (.t 14)⟩,
  ⟨some 16, none, .faddr 0 none (.t 15)⟩,
  ⟨some 17, none, .load none (.t 16)⟩,
  ⟨some 18, none, .len (.t 17)⟩,
  ⟨some 19, none, .bin .eql (.t 18) (.c (.p (.int .i64 0)))⟩] (some [0, 1, 19]))
 (.cond (.t 19) (.seq (.reg [
  ⟨some 20, none, .mv (.t 0)⟩,
  ⟨some 21, none, .nilchk (.t 20)⟩,
  ⟨some 22, none, .faddr 1 none (.t 21)⟩,
  ⟨some 23, none, .load none (.t 22)⟩,
  ⟨some 24, none, .bin .mul (.t 23) (.c (.p (.int .i64 7919)))⟩,
  ⟨some 25, none, .mv (.t 1)⟩,
  ⟨some 26, none, .call f_scanmake_Below [(.t 24), (.t 25)]⟩,
  ⟨some 4, none, .mv (.t 26)⟩] (some [4]))
 .ret)
 .skip))
 (.seq (.draw [
   ⟨⟨some 27, none, .mv (.t 0)⟩, [0], false, [], []⟩,
   ⟨⟨some 28, none, .nilchk (.t 27)⟩, [27], false, [], []⟩,
   ⟨⟨some 29, none, .faddr 1 none (.t 28)⟩, [28], false, [], []⟩,
   ⟨⟨some 30, none, .load none (.t 29)⟩, [29], false, [], []⟩,
   ⟨⟨some 31, none, .bin .sub (.t 30) (.c (.p (.int .i64 1)))⟩, [30], false, [], []⟩,
   ⟨⟨some 32, none, .mv (.t 0)⟩, [0], false, [], []⟩,
   ⟨⟨some 33, none, .nilchk (.t 32)⟩, [32], false, [], []⟩,
   ⟨⟨some 34, none, .faddr 0 none (.t 33)⟩, [33], false, [], []⟩,
   ⟨⟨some 35, none, .load none (.t 34)⟩, [34], false, [], []⟩,
   ⟨⟨some 36, none, .len (.t 35)⟩, [35], false, [], []⟩,
   ⟨⟨some 37, none, .bin .rem (.t 31) (.t 36)⟩, [31, 36], false, [], []⟩,
   ⟨⟨some 5, none, .mv (.t 37)⟩, [37], false, [], []⟩] (some [0, 1, 5]))
 (.seq (.draw [
   ⟨⟨some 38, none, .mv (.t 0)⟩, [0], false, [], []⟩,
   ⟨⟨some 39, none, .nilchk (.t 38)⟩, [38], false, [], []⟩,
   ⟨⟨some 40, none, .faddr 1 none (.t 39)⟩, [39], false, [], []⟩,
   ⟨⟨some 41, none, .load none (.t 40)⟩, [40], false, [], []⟩,
   ⟨⟨some 42, none, .bin .sub (.t 41) (.c (.p (.int .i64 1)))⟩, [41], false, [], []⟩,
   ⟨⟨some 43, none, .mv (.t 0)⟩, [0], false, [], []⟩,
   ⟨⟨some 44, none, .nilchk (.t 43)⟩, [43], false, [], []⟩,
   ⟨⟨some 45, none, .faddr 0 none (.t 44)⟩, [44], false, [], []⟩,
   ⟨⟨some 46, none, .load none (.t 45)⟩, [45], false, [], []⟩,
   ⟨⟨some 47, none, .len (.t 46)⟩, [46], false, [], []⟩,
   ⟨⟨some 48, none, .bin .quo (.t 42) (.t 47)⟩, [42, 47], false, [], []⟩,
   ⟨⟨some 6, none, .mv (.t 48)⟩, [48], false, [], []⟩] (some [0, 1, 5, 6]))
 (.seq (.reg [
  ⟨some 49, none, .mv (.t 0)⟩,
  ⟨some 50, none, .nilchk (.t 49)⟩,
  ⟨some 51, none, .faddr 0 none (.t 50)⟩,
  ⟨some 52, none, .load none (.t 51)⟩,
  ⟨some 53, none, .mv (.t 5)⟩,
  ⟨some 54, none, .iaddr none (.t 52) (.t 53)⟩,
  ⟨some 55, none, .load none (.t 54)⟩,
  ⟨some 56, none, .call f_scanmake_Below [(.t 55), (.c (.p (.int .i64 1073741824)))]⟩,
  ⟨some 57, none, .mv (.t 6)⟩,
  ⟨some 58, none, .mv (.t 5)⟩,
  ⟨some 59, none, .bin .add (.c (.p (.int .i64 7919))) (.t 58)⟩,
  ⟨some 60, none, .bin .mul (.t 57) (.t 59)⟩,
  ⟨some 61, none, .bin .add (.t 56) (.t 60)⟩,
  ⟨some 62, none, .mv (.t 1)⟩,
  ⟨some 63, none, .call f_scanmake_Below [(.t 61), (.t 62)]⟩,
  ⟨some 4, none, .mv (.t 63)⟩] (some [4]))
 .ret))))))
def a_scanmake_Stream_Next : AFun := ⟨2, [.t 4], P_scanmake_Stream_Next, false, false⟩
def d_scanmake_Stream_Next (C : Hd) (gl : Nat → Option PV) (v0 v1 : AV) (h : Heap) (x : Esc) (K : Ex → St → Prop) : Prop :=
 pK (oNil v0) fun t1 =>
 pK (oFaddr 1 none t1) fun t2 =>
 pK (oLoad none t2 h) fun t3 =>
 pK (oBin .add t3 (.p (.int .i64 1))) fun t4 =>
 pK (oNil v0) fun t5 =>
 pK (oFaddr 1 none t5) fun t6 =>
 wK (oStore none t6 t4 h) fun t7 h8 y9 =>
 pK (oNil v0) fun t10 =>
 pK (oFaddr 0 none t10) fun t11 =>
 pK (oLoad none t11 h8) fun t12 =>
 pK (oLen t12) fun t13 =>
 pK (oBin .eql t13 (.p (.int .i64 0))) fun t14 =>
 condB t14 (pK (oNil v0) fun t15 =>
 pK (oFaddr 1 none t15) fun t16 =>
 pK (oLoad none t16 h8) fun t17 =>
 pK (oBin .mul t17 (.p (.int .i64 7919))) fun t18 =>
 C f_scanmake_Below [t18, v1] h8 fun t19 h20 y21 =>
 K .ret ⟨[(4, t19)], h20, (y21 ++ (y9 ++ x))⟩)
 (pK (oNil v0) fun t22 =>
 pK (oFaddr 1 none t22) fun t23 =>
 pK (oLoad none t23 h8) fun t24 =>
 pK (oBin .sub t24 (.p (.int .i64 1))) fun t25 =>
 pK (oNil v0) fun t26 =>
 pK (oFaddr 0 none t26) fun t27 =>
 pK (oLoad none t27 h8) fun t28 =>
 pK (oLen t28) fun t29 =>
 pK (oBin .rem t25 t29) fun t30 =>
 pK (oNil v0) fun t31 =>
 pK (oFaddr 1 none t31) fun t32 =>
 pK (oLoad none t32 h8) fun t33 =>
 pK (oBin .sub t33 (.p (.int .i64 1))) fun t34 =>
 pK (oNil v0) fun t35 =>
 pK (oFaddr 0 none t35) fun t36 =>
 pK (oLoad none t36 h8) fun t37 =>
 pK (oLen t37) fun t38 =>
 pK (oBin .quo t34 t38) fun t39 =>
 pK (oNil v0) fun t40 =>
 pK (oFaddr 0 none t40) fun t41 =>
 pK (oLoad none t41 h8) fun t42 =>
 pK (oIaddr none t42 t30 h8) fun t43 =>
 pK (oLoad none t43 h8) fun t44 =>
 C f_scanmake_Below [t44, (.p (.int .i64 1073741824))] h8 fun t45 h46 y47 =>
 pK (oBin .add (.p (.int .i64 7919)) t30) fun t48 =>
 pK (oBin .mul t39 t48) fun t49 =>
 pK (oBin .add t45 t49) fun t50 =>
 C f_scanmake_Below [t50, v1] h46 fun t51 h52 y53 =>
 K .ret ⟨[(4, t51)], h52, (y53 ++ (y47 ++ (y9 ++ x)))⟩)
theorem E_scanmake_Stream_Next {C gl v0 v1 h x K} : NW C gl (P_scanmake_Stream_Next) ⟨enter [v0, v1], h, x⟩ K = d_scanmake_Stream_Next C gl v0 v1 h x K := by kernel_rfl
theorem e_scanmake_Stream_Next {C gl v0 v1 h x K} : NW C gl a_scanmake_Stream_Next.body ⟨enter [v0, v1], h, x⟩ K = d_scanmake_Stream_Next C gl v0 v1 h x K := E_scanmake_Stream_Next
def P_lot_valuesFault : ACode := (.seq (.reg [
  ⟨some 4, none, .mv (.c (.p (.int .i64 0)))⟩] (some [0, 1]))
 (.seq (.block 0 (.seq (.reg [
  ⟨some 6, none, .mv (.t 0)⟩,
  ⟨some 7, none, .len (.t 6)⟩,
  ⟨some 8, none, .mv (.t 1)⟩,
  ⟨some 9, none, .bin .lss (.t 7) (.t 8)⟩,
  ⟨some 5, none, .mv (.t 9)⟩] (some [0, 5]))
 (.cond (.t 5) (.seq (.reg [
  ⟨some 4, none, .mv (.c (.p (.int .i64 8)))⟩] (some [4]))
 .ret)
 (.seq (.reg [
  ⟨some 11, none, .mv (.t 0)⟩,
  ⟨some 12, none, .len (.t 11)⟩,
  ⟨some 13, none, .bin .gtr (.t 12) (.c (.p (.int .i64 5000)))⟩,
  ⟨some 10, none, .mv (.t 13)⟩] (some [0, 10]))
 (.cond (.t 10) (.seq (.reg [
  ⟨some 4, none, .mv (.c (.p (.int .i64 2)))⟩] (some [4]))
 .ret)
 (.seq (.reg [
  ⟨some 15, none, .mv (.t 0)⟩,
  ⟨some 16, none, .call f_slices_ContainsFunc_int_int [(.t 15), (.f f_lot_valuesFault_1)]⟩,
  ⟨some 14, none, .mv (.t 16)⟩] (some [14]))
 (.cond (.t 14) (.seq (.reg [
  ⟨some 4, none, .mv (.c (.p (.int .i64 1)))⟩] (some [4]))
 .ret)
 .skip)))))))
 (.seq (.reg [
  ⟨some 4, none, .mv (.c (.p (.int .i64 0)))⟩] (some [4]))
 .ret)))
def a_lot_valuesFault : AFun := ⟨2, [.t 4], P_lot_valuesFault, false, false⟩
def d_lot_valuesFault (C : Hd) (gl : Nat → Option PV) (v0 v1 : AV) (h : Heap) (x : Esc) (K : Ex → St → Prop) : Prop :=
 pK (oLen v0) fun t1 =>
 pK (oBin .lss t1 v1) fun t2 =>
 condB t2 (K .ret ⟨[(4, (.p (.int .i64 8)))], h, x⟩)
 (pK (oLen v0) fun t3 =>
 pK (oBin .gtr t3 (.p (.int .i64 5000))) fun t4 =>
 condB t4 (K .ret ⟨[(4, (.p (.int .i64 2)))], h, x⟩)
 (C f_slices_ContainsFunc_int_int [v0, (.fn f_lot_valuesFault_1 [])] h fun t5 h6 y7 =>
 condB t5 (K .ret ⟨[(4, (.p (.int .i64 1)))], h6, (y7 ++ x)⟩)
 (K .ret ⟨[(4, (.p (.int .i64 0)))], h6, (y7 ++ x)⟩)))
theorem E_lot_valuesFault {C gl v0 v1 h x K} : NW C gl (P_lot_valuesFault) ⟨enter [v0, v1], h, x⟩ K = d_lot_valuesFault C gl v0 v1 h x K := by kernel_rfl
theorem e_lot_valuesFault {C gl v0 v1 h x K} : NW C gl a_lot_valuesFault.body ⟨enter [v0, v1], h, x⟩ K = d_lot_valuesFault C gl v0 v1 h x K := E_lot_valuesFault
def p_lot_sums_k1 : ACode := .pr [0, 2, 4, 7, 8, 9] (.seq (.reg [
  ⟨some 10, none, .bin .lss (.t 9) (.t 8)⟩] (some [0, 2, 4, 7, 8, 9, 10]))
 (.seq (.cond (.t 10) .skip
 (.exit 0))
 (.seq (.block 1 (.seq (.reg [
  ⟨some 11, none, .iaddr none (.t 7) (.t 9)⟩,
  ⟨some 12, none, .load none (.t 11)⟩,
  ⟨some 6, none, .mv (.t 12)⟩] (some [0, 2, 4, 6, 7, 8, 9]))
 (.seq (.reg [
  ⟨some 13, none, .mv (.t 2)⟩,
  ⟨some 14, none, .mv (.t 6)⟩,
  ⟨some 15, none, .bin .add (.t 13) (.t 14)⟩,
  ⟨some 2, none, .mv (.t 15)⟩] (some [0, 2, 4, 6, 7, 8, 9]))
 (.reg [
  ⟨some 16, none, .mv (.t 4)⟩,
  ⟨some 17, none, .mv (.t 6)⟩,
  ⟨some 18, none, .mv (.t 6)⟩,
  ⟨some 19, none, .bin .mul (.t 17) (.t 18)⟩,
  ⟨some 20, none, .bin .add (.t 16) (.t 19)⟩,
  ⟨some 4, none, .mv (.t 20)⟩] (some [0, 2, 4, 7, 8, 9])))))
 (.reg [
  ⟨some 21, none, .bin .add (.t 9) (.c (.p (.int .i64 1)))⟩,
  ⟨some 9, none, .mv (.t 21)⟩] (some [0, 2, 4, 7, 8, 9])))))
def d_lot_sums_k1 (C : Hd) (gl : Nat → Option PV) (v0 v2 v4 v7 v8 v9 : AV) (h : Heap) (x : Esc) (K : Ex → St → Prop) : Prop :=
 pK (oBin .lss v9 v8) fun t1 =>
 condB t1 (pK (oIaddr none v7 v9 h) fun t2 =>
 pK (oLoad none t2 h) fun t3 =>
 pK (oBin .add v2 t3) fun t4 =>
 pK (oBin .mul t3 t3) fun t5 =>
 pK (oBin .add v4 t5) fun t6 =>
 pK (oBin .add v9 (.p (.int .i64 1))) fun t7 =>
 K .normal ⟨[(0, v0), (2, t4), (4, t6), (7, v7), (8, v8), (9, t7)], h, x⟩)
 (K (.exit 0) ⟨[(0, v0), (2, v2), (4, v4), (7, v7), (8, v8), (9, v9), (10, t1)], h, x⟩)
theorem e_lot_sums_k1 {C gl e h x K} : NW C gl p_lot_sums_k1 ⟨e, h, x⟩ K = d_lot_sums_k1 C gl (aget e 0) (aget e 2) (aget e 4) (aget e 7) (aget e 8) (aget e 9) h x K := by kernel_rfl
theorem l_lot_sums_k1 {C gl e h x K} : NW C gl (.loop p_lot_sums_k1) ⟨e, h, x⟩ K = NLoop C gl p_lot_sums_k1 K [(0, aget e 0), (2, aget e 2), (4, aget e 4), (7, aget e 7), (8, aget e 8), (9, aget e 9)] h x := NLoop_pr
def p_lot_sums_k2 : ACode := .pr [0, 2, 4] (.seq (.reg [
  ⟨some 22, none, .mv (.t 2)⟩,
  ⟨some 23, none, .mv (.t 0)⟩,
  ⟨some 24, none, .len (.t 23)⟩,
  ⟨some 25, none, .mv (.t 4)⟩,
  ⟨some 26, none, .bin .mul (.t 24) (.t 25)⟩,
  ⟨some 27, none, .mv (.t 2)⟩,
  ⟨some 28, none, .mv (.t 2)⟩,
  ⟨some 29, none, .bin .mul (.t 27) (.t 28)⟩,
  ⟨some 30, none, .bin .sub (.t 26) (.t 29)⟩,
  ⟨some 2, none, .mv (.t 22)⟩,
  ⟨some 3, none, .mv (.t 30)⟩] (some [2, 3]))
 .ret)
def d_lot_sums_k2 (C : Hd) (gl : Nat → Option PV) (v0 v2 v4 : AV) (h : Heap) (x : Esc) (K : Ex → St → Prop) : Prop :=
 pK (oLen v0) fun t1 =>
 pK (oBin .mul t1 v4) fun t2 =>
 pK (oBin .mul v2 v2) fun t3 =>
 pK (oBin .sub t2 t3) fun t4 =>
 K .ret ⟨[(2, v2), (3, t4)], h, x⟩
theorem e_lot_sums_k2 {C gl e h x K} : NW C gl p_lot_sums_k2 ⟨e, h, x⟩ K = d_lot_sums_k2 C gl (aget e 0) (aget e 2) (aget e 4) h x K := by kernel_rfl
def P_lot_sums (q1 q2 : ACode) : ACode := (.seq (.reg [
  ⟨some 2, none, .mv (.c (.p (.int .i64 0)))⟩,
  ⟨some 3, none, .mv (.c (.p (.int .i64 0)))⟩] (some [0, 2]))
 (.seq (.reg [
  ⟨some 4, none, .mv (.c (.p (.int .i64 0)))⟩] (some [0, 2, 4]))
 (.seq (.seq (.reg [
  ⟨some 7, none, .mv (.t 0)⟩,
  ⟨some 8, none, .len (.t 7)⟩,
  ⟨some 9, none, .mv (.c (.p (.int .i64 0)))⟩] (some [0, 2, 4, 7, 8, 9]))
 (.block 0 (.loop q1)))
 q2)))
def a_lot_sums : AFun := ⟨1, [.t 2, .t 3], P_lot_sums p_lot_sums_k1 p_lot_sums_k2, false, false⟩
def d_lot_sums (C : Hd) (gl : Nat → Option PV) (q1 q2 : ACode) (v0 : AV) (h : Heap) (x : Esc) (K : Ex → St → Prop) : Prop :=
 pK (oLen v0) fun t1 =>
 NW C gl (.loop q1) ⟨[(0, v0), (2, (.p (.int .i64 0))), (4, (.p (.int .i64 0))), (7, v0), (8, t1), (9, (.p (.int .i64 0)))], h, x⟩ (blockN 0 (seqN C gl q2 K))
theorem E_lot_sums {C gl q1 q2 v0 h x K} : NW C gl (P_lot_sums q1 q2) ⟨enter [v0], h, x⟩ K = d_lot_sums C gl q1 q2 v0 h x K := by kernel_rfl
theorem e_lot_sums {C gl v0 h x K} : NW C gl a_lot_sums.body ⟨enter [v0], h, x⟩ K = d_lot_sums C gl p_lot_sums_k1 p_lot_sums_k2 v0 h x K := E_lot_sums
def P_base_Fraction : ACode := (.seq (.reg [
  ⟨some 4, none, .alloc [.p (.int .i64 0), .p (.int .i64 0)]⟩] (some [0, 1, 4]))
 (.seq (.reg [
  ⟨some 6, none, .mv (.t 0)⟩,
  ⟨some 7, none, .mv (.t 0)⟩,
  ⟨some 8, none, .un .neg (.t 7)⟩,
  ⟨some 9, none, .mx [(.t 6), (.t 8)]⟩,
  ⟨some 10, none, .mv (.t 1)⟩,
  ⟨some 11, none, .call f_base_Gcd [(.t 9), (.t 10)]⟩,
  ⟨some 5, none, .mv (.t 11)⟩] (some [0, 1, 4, 5]))
 (.seq (.draw [
   ⟨⟨some 12, none, .mv (.t 0)⟩, [0], false, [], []⟩,
   ⟨⟨some 13, none, .mv (.t 5)⟩, [5], false, [], []⟩,
   ⟨⟨some 14, none, .bin .quo (.t 12) (.t 13)⟩, [12, 13], false, [], []⟩,
   ⟨⟨some 15, none, .mv (.t 1)⟩, [1], false, [], []⟩,
   ⟨⟨some 16, none, .mv (.t 5)⟩, [5], false, [], []⟩,
   ⟨⟨some 17, none, .bin .quo (.t 15) (.t 16)⟩, [15, 16], false, [], []⟩,
   ⟨⟨some 18, none, .build [.p (.int .i64 0), .p (.int .i64 0)] [(0, 1, (.t 14)), (1, 1, (.t 17))]⟩, [14, 17], false, [], []⟩,
   ⟨⟨none, none, .store (some 2) (.t 4) (.t 18)⟩, [4, 18], true, [], []⟩] (some [4]))
 .ret)))
def a_base_Fraction : AFun := ⟨2, [.cell 4 (some 2)], P_base_Fraction, false, false⟩
def d_base_Fraction (C : Hd) (gl : Nat → Option PV) (v0 v1 : AV) (h : Heap) (x : Esc) (K : Ex → St → Prop) : Prop :=
 alK [.p (.int .i64 0), .p (.int .i64 0)] h fun t1 h2 y3 =>
 pK (oUn .neg v0) fun t4 =>
 pK (oMx [v0, t4]) fun t5 =>
 C f_base_Gcd [t5, v1] h2 fun t6 h7 y8 =>
 pK (oBin .quo v0 t6) fun t9 =>
 pK (oBin .quo v1 t6) fun t10 =>
 pK (oBuild [.p (.int .i64 0), .p (.int .i64 0)] [(0, 1, t9), (1, 1, t10)]) fun t11 =>
 wK (oStore (some 2) t1 t11 h7) fun t12 h13 y14 =>
 K .ret ⟨[(4, t1)], h13, (y14 ++ (y8 ++ (y3 ++ x)))⟩
theorem E_base_Fraction {C gl v0 v1 h x K} : NW C gl (P_base_Fraction) ⟨enter [v0, v1], h, x⟩ K = d_base_Fraction C gl v0 v1 h x K := by kernel_rfl
theorem e_base_Fraction {C gl v0 v1 h x K} : NW C gl a_base_Fraction.body ⟨enter [v0, v1], h, x⟩ K = d_base_Fraction C gl v0 v1 h x K := E_base_Fraction
def P_base_Out : ACode := (.seq (.reg [
  ⟨some 6, none, .mv (.c (.p (.bool false)))⟩] (some [0, 1, 2]))
 (.seq (.reg [
  ⟨some 7, none, .mv (.t 0)⟩,
  ⟨some 8, none, .mv (.t 1)⟩,
  ⟨some 9, none, .bin .lss (.t 7) (.t 8)⟩,
  ⟨some 10, none, .mv (.t 9)⟩,
  ⟨some 11, (some (10, false)), .mv (.t 0)⟩,
  ⟨some 12, (some (10, false)), .mv (.t 2)⟩,
  ⟨some 13, (some (10, false)), .bin .gtr (.t 11) (.t 12)⟩,
  ⟨some 14, none, .pick (.t 10) (.c (.p (.bool true))) (.t 13)⟩,
  ⟨some 6, none, .mv (.t 14)⟩] (some [6]))
 .ret))
def a_base_Out : AFun := ⟨3, [.t 6], P_base_Out, false, false⟩
def d_base_Out (C : Hd) (gl : Nat → Option PV) (v0 v1 v2 : AV) (h : Heap) (x : Esc) (K : Ex → St → Prop) : Prop :=
 pK (oBin .lss v0 v1) fun t1 =>
 gM t1 false v0 h fun t2 h3 y4 =>
 gM t1 false v2 h3 fun t5 h6 y7 =>
 gP t1 false (oBin .gtr t2 t5) h6 fun t8 h9 y10 =>
 pK (oPick t1 (.p (.bool true)) t8) fun t11 =>
 K .ret ⟨[(6, t11)], h9, (y10 ++ (y7 ++ (y4 ++ x)))⟩
theorem E_base_Out {C gl v0 v1 v2 h x K} : NW C gl (P_base_Out) ⟨enter [v0, v1, v2], h, x⟩ K = d_base_Out C gl v0 v1 v2 h x K := by kernel_rfl
theorem e_base_Out {C gl v0 v1 v2 h x K} : NW C gl a_base_Out.body ⟨enter [v0, v1, v2], h, x⟩ K = d_base_Out C gl v0 v1 v2 h x K := E_base_Out
def p_base_Lowest_k1 : ACode := .pr [3, 4] (.seq (.seq (.reg [
  ⟨some 16, none, .mv (.t 4)⟩,
  ⟨some 17, none, .bin .neq (.t 16) (.c (.p (.int .u64 0)))⟩] (some [3, 4, 17]))
 (.cond (.t 17) .skip
 (.exit 0)))
 (.block 1 (.draw [
   ⟨⟨some 18, none, .mv (.t 4)⟩, [4], false, [], []⟩,
   ⟨⟨some 19, none, .mv (.t 3)⟩, [3], false, [], []⟩,
   ⟨⟨some 20, none, .mv (.t 4)⟩, [4], false, [], []⟩,
   ⟨⟨some 21, none, .bin .rem (.t 19) (.t 20)⟩, [19, 20], false, [], []⟩,
   ⟨⟨some 3, none, .mv (.t 18)⟩, [18], false, [], []⟩,
   ⟨⟨some 4, none, .mv (.t 21)⟩, [21], false, [], []⟩] (some [3, 4]))))
def d_base_Lowest_k1 (C : Hd) (gl : Nat → Option PV) (v3 v4 : AV) (h : Heap) (x : Esc) (K : Ex → St → Prop) : Prop :=
 pK (oBin .neq v4 (.p (.int .u64 0))) fun t1 =>
 condB t1 (pK (oBin .rem v3 v4) fun t2 =>
 K .normal ⟨[(3, v4), (4, t2)], h, x⟩)
 (K (.exit 0) ⟨[(3, v3), (4, v4), (17, t1)], h, x⟩)
theorem e_base_Lowest_k1 {C gl e h x K} : NW C gl p_base_Lowest_k1 ⟨e, h, x⟩ K = d_base_Lowest_k1 C gl (aget e 3) (aget e 4) h x K := by kernel_rfl
theorem l_base_Lowest_k1 {C gl e h x K} : NW C gl (.loop p_base_Lowest_k1) ⟨e, h, x⟩ K = NLoop C gl p_base_Lowest_k1 K [(3, aget e 3), (4, aget e 4)] h x := NLoop_pr
def p_base_Lowest_k2 : ACode := .pr [3] (.seq (.reg [
  ⟨some 22, none, .mv (.t 3)⟩,
  ⟨some 23, none, .bin .eql (.t 22) (.c (.p (.int .u64 1)))⟩,
  ⟨some 2, none, .mv (.t 23)⟩] (some [2]))
 .ret)
def d_base_Lowest_k2 (C : Hd) (gl : Nat → Option PV) (v3 : AV) (h : Heap) (x : Esc) (K : Ex → St → Prop) : Prop :=
 pK (oBin .eql v3 (.p (.int .u64 1))) fun t1 =>
 K .ret ⟨[(2, t1)], h, x⟩
theorem e_base_Lowest_k2 {C gl e h x K} : NW C gl p_base_Lowest_k2 ⟨e, h, x⟩ K = d_base_Lowest_k2 C gl (aget e 3) h x K := by kernel_rfl
def P_base_Lowest_k3 (q1 q2 : ACode) : ACode := .pr [3, 4] (.seq (.block 0 (.loop q1))
 q2)
def p_base_Lowest_k3 : ACode := P_base_Lowest_k3 p_base_Lowest_k1 p_base_Lowest_k2
def d_base_Lowest_k3 (C : Hd) (gl : Nat → Option PV) (q1 q2 : ACode) (v3 v4 : AV) (h : Heap) (x : Esc) (K : Ex → St → Prop) : Prop :=
 NW C gl (.loop q1) ⟨[(3, v3), (4, v4)], h, x⟩ (blockN 0 (seqN C gl q2 K))
theorem E_base_Lowest_k3 {C gl q1 q2 e h x K} : NW C gl (P_base_Lowest_k3 q1 q2) ⟨e, h, x⟩ K = d_base_Lowest_k3 C gl q1 q2 (aget e 3) (aget e 4) h x K := by kernel_rfl
theorem e_base_Lowest_k3 {C gl e h x K} : NW C gl p_base_Lowest_k3 ⟨e, h, x⟩ K = d_base_Lowest_k3 C gl p_base_Lowest_k1 p_base_Lowest_k2 (aget e 3) (aget e 4) h x K := E_base_Lowest_k3
def P_base_Lowest (q3 : ACode) : ACode := (.seq (.reg [
  ⟨some 1, none, .box (.t 0)⟩,
  ⟨some 2, none, .mv (.c (.p (.bool false)))⟩] (some [1]))
 (.seq (.draw [
   ⟨⟨some 5, none, .faddr 0 none (.t 1)⟩, [1], false, [], []⟩,
   ⟨⟨some 6, none, .load none (.t 5)⟩, [5], false, [], []⟩,
   ⟨⟨some 7, none, .conv (.i .u64) (.t 6)⟩, [6], false, [], []⟩,
   ⟨⟨some 8, none, .faddr 1 none (.t 1)⟩, [1], false, [], []⟩,
   ⟨⟨some 9, none, .load none (.t 8)⟩, [8], false, [], []⟩,
   ⟨⟨some 10, none, .conv (.i .u64) (.t 9)⟩, [9], false, [], []⟩,
   ⟨⟨some 3, none, .mv (.t 7)⟩, [7], false, [], []⟩,
   ⟨⟨some 4, none, .mv (.t 10)⟩, [10], false, [], []⟩] (some [1, 3, 4]))
 (.seq (.seq (.reg [
  ⟨some 11, none, .faddr 0 none (.t 1)⟩,
  ⟨some 12, none, .load none (.t 11)⟩,
  ⟨some 13, none, .bin .lss (.t 12) (.c (.p (.int .i64 0)))⟩] (some [3, 4, 13]))
 (.cond (.t 13) (.reg [
  ⟨some 14, none, .mv (.t 3)⟩,
  ⟨some 15, none, .un .neg (.t 14)⟩,
  ⟨some 3, none, .mv (.t 15)⟩] (some [3, 4]))
 .skip))
 q3)))
def a_base_Lowest : AFun := ⟨1, [.t 2], P_base_Lowest p_base_Lowest_k3, false, false⟩
def d_base_Lowest (C : Hd) (gl : Nat → Option PV) (q3 : ACode) (v0 : AV) (h : Heap) (x : Esc) (K : Ex → St → Prop) : Prop :=
 wK (oBox v0 h) fun t1 h2 y3 =>
 pK (oFaddr 0 none t1) fun t4 =>
 pK (oLoad none t4 h2) fun t5 =>
 pK (oConvI .u64 t5) fun t6 =>
 (h2 = h2 ∧ ([] : Esc) = []) ∧ (pK (oFaddr 1 none t1) fun t7 =>
 pK (oLoad none t7 h2) fun t8 =>
 pK (oConvI .u64 t8) fun t9 =>
 (h2 = h2 ∧ ([] : Esc) = []) ∧ (pK (oFaddr 0 none t1) fun t10 =>
 pK (oLoad none t10 h2) fun t11 =>
 pK (oBin .lss t11 (.p (.int .i64 0))) fun t12 =>
 condB t12 (pK (oUn .neg t6) fun t13 =>
 NW C gl q3 ⟨[(3, t13), (4, t9)], h2, (y3 ++ x)⟩ K)
 (NW C gl q3 ⟨[(3, t6), (4, t9), (13, t12)], h2, (y3 ++ x)⟩ K)))
theorem E_base_Lowest {C gl q3 v0 h x K} : NW C gl (P_base_Lowest q3) ⟨enter [v0], h, x⟩ K = d_base_Lowest C gl q3 v0 h x K := by kernel_rfl
theorem e_base_Lowest {C gl v0 h x K} : NW C gl a_base_Lowest.body ⟨enter [v0], h, x⟩ K = d_base_Lowest C gl p_base_Lowest_k3 v0 h x K := E_base_Lowest
def p_base_CompareProducts_k1 : ACode := .pr [9, 10, 11, 12, 29] (.cond (.t 29) (.seq (.reg [
  ⟨some 8, none, .mv (.c (.p (.int .i64 (-1))))⟩] (some [8]))
 .ret)
 (.seq (.reg [
  ⟨some 47, none, .mv (.t 9)⟩,
  ⟨some 48, none, .mv (.t 11)⟩,
  ⟨some 49, none, .bin .eql (.t 47) (.t 48)⟩,
  ⟨some 50, none, .mv (.t 49)⟩,
  ⟨some 51, (some (50, true)), .mv (.t 10)⟩,
  ⟨some 52, (some (50, true)), .mv (.t 12)⟩,
  ⟨some 53, (some (50, true)), .bin .eql (.t 51) (.t 52)⟩,
  ⟨some 54, none, .pick (.t 50) (.t 53) (.c (.p (.bool false)))⟩,
  ⟨some 46, none, .mv (.t 54)⟩] (some [46]))
 (.cond (.t 46) (.seq (.reg [
  ⟨some 8, none, .mv (.c (.p (.int .i64 0)))⟩] (some [8]))
 .ret)
 .skip)))
def d_base_CompareProducts_k1 (C : Hd) (gl : Nat → Option PV) (v9 v10 v11 v12 v29 : AV) (h : Heap) (x : Esc) (K : Ex → St → Prop) : Prop :=
 condB v29 (K .ret ⟨[(8, (.p (.int .i64 (-1))))], h, x⟩)
 (pK (oBin .eql v9 v11) fun t1 =>
 gM t1 true v10 h fun t2 h3 y4 =>
 gM t1 true v12 h3 fun t5 h6 y7 =>
 gP t1 true (oBin .eql t2 t5) h6 fun t8 h9 y10 =>
 pK (oPick t1 t8 (.p (.bool false))) fun t11 =>
 condB t11 (K .ret ⟨[(8, (.p (.int .i64 0)))], h9, (y10 ++ (y7 ++ (y4 ++ x)))⟩)
 (K .normal ⟨[(46, t11)], h9, (y10 ++ (y7 ++ (y4 ++ x)))⟩))
theorem e_base_CompareProducts_k1 {C gl e h x K} : NW C gl p_base_CompareProducts_k1 ⟨e, h, x⟩ K = d_base_CompareProducts_k1 C gl (aget e 9) (aget e 10) (aget e 11) (aget e 12) (aget e 29) h x K := by kernel_rfl
def p_base_CompareProducts_k2 : ACode := .pr [] (.seq (.reg [
  ⟨some 8, none, .mv (.c (.p (.int .i64 1)))⟩] (some [8]))
 .ret)
def d_base_CompareProducts_k2 (C : Hd) (gl : Nat → Option PV) (h : Heap) (x : Esc) (K : Ex → St → Prop) : Prop :=
 K .ret ⟨[(8, (.p (.int .i64 1)))], h, x⟩
theorem e_base_CompareProducts_k2 {C gl e h x K} : NW C gl p_base_CompareProducts_k2 ⟨e, h, x⟩ K = d_base_CompareProducts_k2 C gl h x K := by kernel_rfl
def P_base_CompareProducts (q1 q2 : ACode) : ACode := (.seq (.reg [
  ⟨some 8, none, .mv (.c (.p (.int .i64 0)))⟩] (some [0, 1, 2, 3]))
 (.seq (.reg [
  ⟨some 14, none, .mv (.t 0)⟩,
  ⟨some 15, none, .conv (.i .u64) (.t 14)⟩,
  ⟨some 16, none, .mv (.t 1)⟩,
  ⟨some 17, none, .conv (.i .u64) (.t 16)⟩,
  ⟨some 18, none, .call f_math_bits_Mul64 [(.t 15), (.t 17)]⟩,
  ⟨some 13, none, .mv (.t 18)⟩,
  ⟨some 19, none, .ext (.t 13) 0⟩,
  ⟨some 20, none, .ext (.t 13) 1⟩,
  ⟨some 9, none, .mv (.t 19)⟩,
  ⟨some 10, none, .mv (.t 20)⟩] (some [2, 3, 9, 10]))
 (.seq (.reg [
  ⟨some 22, none, .mv (.t 2)⟩,
  ⟨some 23, none, .conv (.i .u64) (.t 22)⟩,
  ⟨some 24, none, .mv (.t 3)⟩,
  ⟨some 25, none, .conv (.i .u64) (.t 24)⟩,
  ⟨some 26, none, .call f_math_bits_Mul64 [(.t 23), (.t 25)]⟩,
  ⟨some 21, none, .mv (.t 26)⟩,
  ⟨some 27, none, .ext (.t 21) 0⟩,
  ⟨some 28, none, .ext (.t 21) 1⟩,
  ⟨some 11, none, .mv (.t 27)⟩,
  ⟨some 12, none, .mv (.t 28)⟩] (some [9, 10, 11, 12]))
 (.seq (.block 0 (.seq (.seq (.reg [
  ⟨some 30, none, .mv (.t 9)⟩,
  ⟨some 31, none, .mv (.t 11)⟩,
  ⟨some 32, none, .bin .neq (.t 30) (.t 31)⟩,
  ⟨some 33, none, .mv (.t 32)⟩,
  ⟨some 34, (some (33, true)), .mv (.t 9)⟩,
  ⟨some 35, (some (33, true)), .mv (.t 11)⟩,
  ⟨some 36, (some (33, true)), .bin .lss (.t 34) (.t 35)⟩,
  ⟨some 37, none, .pick (.t 33) (.t 36) (.c (.p (.bool false)))⟩,
  ⟨some 29, none, .mv (.t 37)⟩] (some [9, 10, 11, 12, 29]))
 (.cond (.t 29) .skip
 (.reg [
  ⟨some 38, none, .mv (.t 9)⟩,
  ⟨some 39, none, .mv (.t 11)⟩,
  ⟨some 40, none, .bin .eql (.t 38) (.t 39)⟩,
  ⟨some 41, none, .mv (.t 40)⟩,
  ⟨some 42, (some (41, true)), .mv (.t 10)⟩,
  ⟨some 43, (some (41, true)), .mv (.t 12)⟩,
  ⟨some 44, (some (41, true)), .bin .lss (.t 42) (.t 43)⟩,
  ⟨some 45, none, .pick (.t 41) (.t 44) (.c (.p (.bool false)))⟩,
  ⟨some 29, none, .mv (.t 45)⟩] (some [9, 10, 11, 12, 29]))))
 q1))
 q2))))
def a_base_CompareProducts : AFun := ⟨4, [.t 8], P_base_CompareProducts p_base_CompareProducts_k1 p_base_CompareProducts_k2, false, false⟩
def d_base_CompareProducts (C : Hd) (gl : Nat → Option PV) (q1 q2 : ACode) (v0 v1 v2 v3 : AV) (h : Heap) (x : Esc) (K : Ex → St → Prop) : Prop :=
 pK (oConvI .u64 v0) fun t1 =>
 pK (oConvI .u64 v1) fun t2 =>
 C f_math_bits_Mul64 [t1, t2] h fun t3 h4 y5 =>
 pK (oExt t3 0) fun t6 =>
 pK (oExt t3 1) fun t7 =>
 pK (oConvI .u64 v2) fun t8 =>
 pK (oConvI .u64 v3) fun t9 =>
 C f_math_bits_Mul64 [t8, t9] h4 fun t10 h11 y12 =>
 pK (oExt t10 0) fun t13 =>
 pK (oExt t10 1) fun t14 =>
 pK (oBin .neq t6 t13) fun t15 =>
 gM t15 true t6 h11 fun t16 h17 y18 =>
 gM t15 true t13 h17 fun t19 h20 y21 =>
 gP t15 true (oBin .lss t16 t19) h20 fun t22 h23 y24 =>
 pK (oPick t15 t22 (.p (.bool false))) fun t25 =>
 condB t25 (NW C gl q1 ⟨[(9, t6), (10, t7), (11, t13), (12, t14), (29, t25)], h23, (y24 ++ (y21 ++ (y18 ++ (y12 ++ (y5 ++ x)))))⟩ (blockN 0 (seqN C gl q2 K)))
 (pK (oBin .eql t6 t13) fun t26 =>
 gM t26 true t7 h23 fun t27 h28 y29 =>
 gM t26 true t14 h28 fun t30 h31 y32 =>
 gP t26 true (oBin .lss t27 t30) h31 fun t33 h34 y35 =>
 pK (oPick t26 t33 (.p (.bool false))) fun t36 =>
 NW C gl q1 ⟨[(9, t6), (10, t7), (11, t13), (12, t14), (29, t36)], h34, (y35 ++ (y32 ++ (y29 ++ (y24 ++ (y21 ++ (y18 ++ (y12 ++ (y5 ++ x))))))))⟩ (blockN 0 (seqN C gl q2 K)))
theorem E_base_CompareProducts {C gl q1 q2 v0 v1 v2 v3 h x K} : NW C gl (P_base_CompareProducts q1 q2) ⟨enter [v0, v1, v2, v3], h, x⟩ K = d_base_CompareProducts C gl q1 q2 v0 v1 v2 v3 h x K := by kernel_rfl
theorem e_base_CompareProducts {C gl v0 v1 v2 v3 h x K} : NW C gl a_base_CompareProducts.body ⟨enter [v0, v1, v2, v3], h, x⟩ K = d_base_CompareProducts C gl p_base_CompareProducts_k1 p_base_CompareProducts_k2 v0 v1 v2 v3 h x K := E_base_CompareProducts
def P_lot_chartFault : ACode := (.seq (.reg [
  ⟨some 4, none, .mv (.c (.p (.int .i64 0)))⟩] (some [0, 1]))
 (.seq (.seq (.reg [
  ⟨some 5, none, .mv (.t 1)⟩,
  ⟨some 6, none, .call f_base_Out [(.t 5), (.c (.p (.int .i64 2))), (.c (.p (.int .i64 10)))]⟩] (some [0, 1, 6]))
 (.cond (.t 6) (.seq (.reg [
  ⟨some 4, none, .mv (.c (.p (.int .i64 1)))⟩] (some [4]))
 .ret)
 .skip))
 (.seq (.reg [
  ⟨some 7, none, .mv (.t 0)⟩,
  ⟨some 8, none, .mv (.t 1)⟩,
  ⟨some 9, none, .call f_lot_valuesFault [(.t 7), (.t 8)]⟩,
  ⟨some 4, none, .mv (.t 9)⟩] (some [4]))
 .ret)))
def a_lot_chartFault : AFun := ⟨2, [.t 4], P_lot_chartFault, false, false⟩
def d_lot_chartFault (C : Hd) (gl : Nat → Option PV) (v0 v1 : AV) (h : Heap) (x : Esc) (K : Ex → St → Prop) : Prop :=
 C f_base_Out [v1, (.p (.int .i64 2)), (.p (.int .i64 10))] h fun t1 h2 y3 =>
 condB t1 (K .ret ⟨[(4, (.p (.int .i64 1)))], h2, (y3 ++ x)⟩)
 (C f_lot_valuesFault [v0, v1] h2 fun t4 h5 y6 =>
 K .ret ⟨[(4, t4)], h5, (y6 ++ (y3 ++ x))⟩)
theorem E_lot_chartFault {C gl v0 v1 h x K} : NW C gl (P_lot_chartFault) ⟨enter [v0, v1], h, x⟩ K = d_lot_chartFault C gl v0 v1 h x K := by kernel_rfl
theorem e_lot_chartFault {C gl v0 v1 h x K} : NW C gl a_lot_chartFault.body ⟨enter [v0, v1], h, x⟩ K = d_lot_chartFault C gl v0 v1 h x K := E_lot_chartFault
def P_lot_chart : ACode := (.seq (.reg [
  ⟨some 4, none, .alloc [.p (.int .i64 0), .p (.int .i64 0), .p (.int .i64 0), .p (.int .i64 0), .p (.int .i64 0), .p (.int .i64 0), .p (.int .i64 0), .p (.int .i64 0)]⟩] (some [0, 1, 4]))
 (.seq (.reg [
  ⟨some 12, none, .mv (.t 0)⟩,
  ⟨some 13, none, .mv (.t 1)⟩,
  ⟨some 14, none, .call f_lot_groups [(.t 12), (.t 13)]⟩,
  ⟨some 11, none, .mv (.t 14)⟩,
  ⟨some 15, none, .ext (.t 11) 0⟩,
  ⟨some 16, none, .ext (.t 11) 1⟩,
  ⟨some 5, none, .mv (.t 15)⟩,
  ⟨some 6, none, .mv (.t 16)⟩] (some [1, 4, 5, 6]))
 (.seq (.reg [
  ⟨some 17, none, .mv (.t 5)⟩,
  ⟨some 18, none, .len (.t 17)⟩,
  ⟨some 7, none, .mv (.t 18)⟩] (some [1, 4, 5, 6, 7]))
 (.seq (.reg [
  ⟨some 19, none, .mv (.t 5)⟩,
  ⟨some 20, none, .call f_lot_total [(.t 19)]⟩,
  ⟨some 21, none, .mv (.t 6)⟩,
  ⟨some 22, none, .call f_lot_total [(.t 21)]⟩,
  ⟨some 23, none, .mv (.t 1)⟩,
  ⟨some 24, none, .call f_lot_factor [(.t 23)]⟩,
  ⟨some 25, none, .bin .mul (.t 22) (.t 24)⟩,
  ⟨some 8, none, .mv (.t 20)⟩,
  ⟨some 9, none, .mv (.t 25)⟩] (some [1, 4, 6, 7, 8, 9]))
 (.seq (.reg [
  ⟨some 26, none, .mv (.t 7)⟩,
  ⟨some 27, none, .mv (.t 1)⟩,
  ⟨some 28, none, .bin .mul (.t 26) (.t 27)⟩,
  ⟨some 29, none, .bin .mul (.t 28) (.c (.p (.int .i64 100)))⟩,
  ⟨some 10, none, .mv (.t 29)⟩] (some [1, 4, 6, 7, 8, 9, 10]))
 (.seq (.reg [
  ⟨some 30, none, .mv (.t 8)⟩,
  ⟨some 31, none, .mv (.t 7)⟩,
  ⟨some 32, none, .mv (.t 1)⟩,
  ⟨some 33, none, .bin .mul (.t 31) (.t 32)⟩,
  ⟨some 34, none, .call f_base_Fraction [(.t 30), (.t 33)]⟩,
  ⟨some 35, none, .mv (.t 6)⟩,
  ⟨some 36, none, .call f_lot_total [(.t 35)]⟩,
  ⟨some 37, none, .mv (.t 7)⟩,
  ⟨some 38, none, .call f_base_Fraction [(.t 36), (.t 37)]⟩,
  ⟨some 39, none, .mv (.t 8)⟩,
  ⟨some 40, none, .bin .mul (.t 39) (.c (.p (.int .i64 100)))⟩,
  ⟨some 41, none, .mv (.t 9)⟩,
  ⟨some 42, none, .mv (.t 1)⟩,
  ⟨some 43, none, .bin .mul (.t 41) (.t 42)⟩,
  ⟨some 44, none, .bin .sub (.t 40) (.t 43)⟩,
  ⟨some 45, none, .mv (.t 10)⟩,
  ⟨some 46, none, .call f_base_Fraction [(.t 44), (.t 45)]⟩,
  ⟨some 47, none, .mv (.t 8)⟩,
  ⟨some 48, none, .bin .mul (.t 47) (.c (.p (.int .i64 100)))⟩,
  ⟨some 49, none, .mv (.t 9)⟩,
  ⟨some 50, none, .mv (.t 1)⟩,
  ⟨some 51, none, .bin .mul (.t 49) (.t 50)⟩,
  ⟨some 52, none, .bin .add (.t 48) (.t 51)⟩,
  ⟨some 53, none, .mv (.t 10)⟩,
  ⟨some 54, none, .call f_base_Fraction [(.t 52), (.t 53)]⟩,
  ⟨some 55, none, .build [.p (.int .i64 0), .p (.int .i64 0), .p (.int .i64 0), .p (.int .i64 0), .p (.int .i64 0), .p (.int .i64 0), .p (.int .i64 0), .p (.int .i64 0)] [(0, 2, (.t 34)), (2, 2, (.t 38)), (4, 2, (.t 46)), (6, 2, (.t 54))]⟩,
  ⟨none, none, .store (some 8) (.t 4) (.t 55)⟩] (some [4]))
 .ret))))))
def a_lot_chart : AFun := ⟨2, [.cell 4 (some 8)], P_lot_chart, false, false⟩
def d_lot_chart (C : Hd) (gl : Nat → Option PV) (v0 v1 : AV) (h : Heap) (x : Esc) (K : Ex → St → Prop) : Prop :=
 alK [.p (.int .i64 0), .p (.int .i64 0), .p (.int .i64 0), .p (.int .i64 0), .p (.int .i64 0), .p (.int .i64 0), .p (.int .i64 0), .p (.int .i64 0)] h fun t1 h2 y3 =>
 C f_lot_groups [v0, v1] h2 fun t4 h5 y6 =>
 pK (oExt t4 0) fun t7 =>
 pK (oExt t4 1) fun t8 =>
 pK (oLen t7) fun t9 =>
 C f_lot_total [t7] h5 fun t10 h11 y12 =>
 C f_lot_total [t8] h11 fun t13 h14 y15 =>
 C f_lot_factor [v1] h14 fun t16 h17 y18 =>
 pK (oBin .mul t13 t16) fun t19 =>
 pK (oBin .mul t9 v1) fun t20 =>
 pK (oBin .mul t20 (.p (.int .i64 100))) fun t21 =>
 pK (oBin .mul t9 v1) fun t22 =>
 C f_base_Fraction [t10, t22] h17 fun t23 h24 y25 =>
 C f_lot_total [t8] h24 fun t26 h27 y28 =>
 C f_base_Fraction [t26, t9] h27 fun t29 h30 y31 =>
 pK (oBin .mul t10 (.p (.int .i64 100))) fun t32 =>
 pK (oBin .mul t19 v1) fun t33 =>
 pK (oBin .sub t32 t33) fun t34 =>
 C f_base_Fraction [t34, t21] h30 fun t35 h36 y37 =>
 pK (oBin .mul t10 (.p (.int .i64 100))) fun t38 =>
 pK (oBin .mul t19 v1) fun t39 =>
 pK (oBin .add t38 t39) fun t40 =>
 C f_base_Fraction [t40, t21] h36 fun t41 h42 y43 =>
 pK (oBuild [.p (.int .i64 0), .p (.int .i64 0), .p (.int .i64 0), .p (.int .i64 0), .p (.int .i64 0), .p (.int .i64 0), .p (.int .i64 0), .p (.int .i64 0)] [(0, 2, t23), (2, 2, t29), (4, 2, t35), (6, 2, t41)]) fun t44 =>
 wK (oStore (some 8) t1 t44 h42) fun t45 h46 y47 =>
 K .ret ⟨[(4, t1)], h46, (y47 ++ (y43 ++ (y37 ++ (y31 ++ (y28 ++ (y25 ++ (y18 ++ (y15 ++ (y12 ++ (y6 ++ (y3 ++ x)))))))))))⟩
theorem E_lot_chart {C gl v0 v1 h x K} : NW C gl (P_lot_chart) ⟨enter [v0, v1], h, x⟩ K = d_lot_chart C gl v0 v1 h x K := by kernel_rfl
theorem e_lot_chart {C gl v0 v1 h x K} : NW C gl a_lot_chart.body ⟨enter [v0, v1], h, x⟩ K = d_lot_chart C gl v0 v1 h x K := E_lot_chart
def p_lot_groups_k1 : ACode := .pr [0, 1, 4, 5, 6, 15, 16, 17] (.seq (.reg [
  ⟨some 18, none, .bin .lss (.t 17) (.t 16)⟩] (some [0, 1, 4, 5, 6, 15, 16, 17, 18]))
 (.seq (.cond (.t 18) .skip
 (.exit 2))
 (.seq (.block 3 (.seq (.reg [
  ⟨some 19, none, .iaddr none (.t 15) (.t 17)⟩,
  ⟨some 20, none, .load none (.t 19)⟩,
  ⟨some 8, none, .mv (.t 20)⟩] (some [0, 1, 4, 5, 6, 8, 15, 16, 17]))
 (.reg [
  ⟨some 21, none, .mv (.t 6)⟩,
  ⟨some 22, none, .mv (.t 8)⟩,
  ⟨some 23, none, .bin .add (.t 21) (.t 22)⟩,
  ⟨some 6, none, .mv (.t 23)⟩] (some [0, 1, 4, 5, 6, 15, 16, 17]))))
 (.reg [
  ⟨some 24, none, .bin .add (.t 17) (.c (.p (.int .i64 1)))⟩,
  ⟨some 17, none, .mv (.t 24)⟩] (some [0, 1, 4, 5, 6, 15, 16, 17])))))
def d_lot_groups_k1 (C : Hd) (gl : Nat → Option PV) (v0 v1 v4 v5 v6 v15 v16 v17 : AV) (h : Heap) (x : Esc) (K : Ex → St → Prop) : Prop :=
 pK (oBin .lss v17 v16) fun t1 =>
 condB t1 (pK (oIaddr none v15 v17 h) fun t2 =>
 pK (oLoad none t2 h) fun t3 =>
 pK (oBin .add v6 t3) fun t4 =>
 pK (oBin .add v17 (.p (.int .i64 1))) fun t5 =>
 K .normal ⟨[(0, v0), (1, v1), (4, v4), (5, v5), (6, t4), (15, v15), (16, v16), (17, t5)], h, x⟩)
 (K (.exit 2) ⟨[(0, v0), (1, v1), (4, v4), (5, v5), (6, v6), (15, v15), (16, v16), (17, v17), (18, t1)], h, x⟩)
theorem e_lot_groups_k1 {C gl e h x K} : NW C gl p_lot_groups_k1 ⟨e, h, x⟩ K = d_lot_groups_k1 C gl (aget e 0) (aget e 1) (aget e 4) (aget e 5) (aget e 6) (aget e 15) (aget e 16) (aget e 17) h x K := by kernel_rfl
theorem l_lot_groups_k1 {C gl e h x K} : NW C gl (.loop p_lot_groups_k1) ⟨e, h, x⟩ K = NLoop C gl p_lot_groups_k1 K [(0, aget e 0), (1, aget e 1), (4, aget e 4), (5, aget e 5), (6, aget e 6), (15, aget e 15), (16, aget e 16), (17, aget e 17)] h x := NLoop_pr
def p_lot_groups_k2 : ACode := .pr [0, 1, 4, 5, 6] (.seq (.reg [
  ⟨some 25, none, .mv (.t 4)⟩,
  ⟨some 26, none, .mv (.t 6)⟩,
  ⟨some 27, none, .bsl false none 1 (.int .i64 0) [(0, (.t 26))]⟩,
  ⟨some 28, none, .app none (.t 25) (.t 27)⟩,
  ⟨some 4, none, .mv (.t 28)⟩] (some [0, 1, 4, 5]))
 (.seq (.draw [
   ⟨⟨some 29, none, .mv (.t 5)⟩, [5], false, [], []⟩,
   ⟨⟨some 30, none, .mv (.t 0)⟩, [0], false, [], []⟩,
   ⟨⟨some 31, none, .mv (.t 1)⟩, [1], false, [], []⟩,
   ⟨⟨some 32, none, .slice none (.t 30) none (some (.t 31)) none⟩, [30, 31], false, [], []⟩,
   ⟨⟨some 33, none, .call f_slices_Max_int_int [(.t 32)]⟩, [32], true, [], []⟩,
   ⟨⟨some 34, none, .mv (.t 0)⟩, [0], false, [], []⟩,
   ⟨⟨some 35, none, .mv (.t 1)⟩, [1], false, [], []⟩,
   ⟨⟨some 36, none, .slice none (.t 34) none (some (.t 35)) none⟩, [34, 35], false, [4], []⟩,
   ⟨⟨some 37, none, .call f_slices_Min_int_int [(.t 36)]⟩, [36], true, [], []⟩,
   ⟨⟨some 38, none, .bin .sub (.t 33) (.t 37)⟩, [33, 37], false, [], []⟩,
   ⟨⟨some 39, none, .bsl false none 1 (.int .i64 0) [(0, (.t 38))]⟩, [38], false, [], []⟩,
   ⟨⟨some 40, none, .app none (.t 29) (.t 39)⟩, [29, 39], true, [], []⟩,
   ⟨⟨some 5, none, .mv (.t 40)⟩, [40], false, [], []⟩] (some [0, 1, 4, 5]))
 (.reg [
  ⟨some 41, none, .mv (.t 0)⟩,
  ⟨some 42, none, .mv (.t 1)⟩,
  ⟨some 43, none, .slice none (.t 41) (some (.t 42)) none none⟩,
  ⟨some 0, none, .mv (.t 43)⟩] (some [0, 1, 4, 5]))))
def d_lot_groups_k2 (C : Hd) (gl : Nat → Option PV) (v0 v1 v4 v5 v6 : AV) (h : Heap) (x : Esc) (K : Ex → St → Prop) : Prop :=
 wK (oBsl false none 1 (.int .i64 0) [(0, v6)] h) fun t1 h2 y3 =>
 wK (oApp none v4 t1 h2) fun t4 h5 y6 =>
 pK (oSlice none v0 none (some v1) none h5) fun t7 =>
 callE C f_slices_Max_int_int [t7] h5 fun t8 h9 y10 =>
 pK (oSlice none v0 none (some v1) none h9) fun t11 =>
 (pK (oSlice none v0 none (some v1) none h5) fun v => (fun u (g1 : Heap) (y1 : Esc) => u = t11 ∧ g1 = h5 ∧ y1 = []) v h5 []) ∧ (callE C f_slices_Min_int_int [t11] h9 fun t12 h13 y14 =>
 pK (oBin .sub t8 t12) fun t15 =>
 wK (oBsl false none 1 (.int .i64 0) [(0, t15)] h13) fun t16 h17 y18 =>
 (h17 = h13 ∧ y18 = []) ∧ (wK (oApp none v5 t16 h17) fun t19 h20 y21 =>
 pK (oSlice none v0 (some v1) none none h20) fun t22 =>
 K .normal ⟨[(0, t22), (1, v1), (4, t4), (5, t19)], h20, (y21 ++ (y18 ++ (y14 ++ (y10 ++ (y6 ++ (y3 ++ x))))))⟩))
theorem e_lot_groups_k2 {C gl e h x K} : NW C gl p_lot_groups_k2 ⟨e, h, x⟩ K = d_lot_groups_k2 C gl (aget e 0) (aget e 1) (aget e 4) (aget e 5) (aget e 6) h x K := by kernel_rfl
def P_lot_groups_k3 (q1 q2 : ACode) : ACode := .pr [0, 1, 4, 5] (.seq (.seq (.reg [
  ⟨some 9, none, .mv (.t 0)⟩,
  ⟨some 10, none, .len (.t 9)⟩,
  ⟨some 11, none, .mv (.t 1)⟩,
  ⟨some 12, none, .bin .geq (.t 10) (.t 11)⟩] (some [0, 1, 4, 5, 12]))
 (.cond (.t 12) .skip
 (.exit 0)))
 (.block 1 (.seq (.reg [
  ⟨some 6, none, .mv (.c (.p (.int .i64 0)))⟩] (some [0, 1, 4, 5, 6]))
 (.seq (.seq (.reg [
  ⟨some 13, none, .mv (.t 0)⟩,
  ⟨some 14, none, .mv (.t 1)⟩,
  ⟨some 15, none, .slice none (.t 13) none (some (.t 14)) none⟩,
  ⟨some 16, none, .len (.t 15)⟩,
  ⟨some 17, none, .mv (.c (.p (.int .i64 0)))⟩] (some [0, 1, 4, 5, 6, 15, 16, 17]))
 (.block 2 (.loop q1)))
 q2))))
def p_lot_groups_k3 : ACode := P_lot_groups_k3 p_lot_groups_k1 p_lot_groups_k2
def d_lot_groups_k3 (C : Hd) (gl : Nat → Option PV) (q1 q2 : ACode) (v0 v1 v4 v5 : AV) (h : Heap) (x : Esc) (K : Ex → St → Prop) : Prop :=
 pK (oLen v0) fun t1 =>
 pK (oBin .geq t1 v1) fun t2 =>
 condB t2 (pK (oSlice none v0 none (some v1) none h) fun t3 =>
 pK (oLen t3) fun t4 =>
 NW C gl (.loop q1) ⟨[(0, v0), (1, v1), (4, v4), (5, v5), (6, (.p (.int .i64 0))), (15, t3), (16, t4), (17, (.p (.int .i64 0)))], h, x⟩ (blockN 2 (seqN C gl q2 (blockN 1 K))))
 (K (.exit 0) ⟨[(0, v0), (1, v1), (4, v4), (5, v5), (12, t2)], h, x⟩)
theorem E_lot_groups_k3 {C gl q1 q2 e h x K} : NW C gl (P_lot_groups_k3 q1 q2) ⟨e, h, x⟩ K = d_lot_groups_k3 C gl q1 q2 (aget e 0) (aget e 1) (aget e 4) (aget e 5) h x K := by kernel_rfl
theorem e_lot_groups_k3 {C gl e h x K} : NW C gl p_lot_groups_k3 ⟨e, h, x⟩ K = d_lot_groups_k3 C gl p_lot_groups_k1 p_lot_groups_k2 (aget e 0) (aget e 1) (aget e 4) (aget e 5) h x K := E_lot_groups_k3
theorem l_lot_groups_k3 {C gl e h x K} : NW C gl (.loop (.scope p_lot_groups_k3)) ⟨e, h, x⟩ K = NLoop C gl (.scope p_lot_groups_k3) K [(0, aget e 0), (1, aget e 1), (4, aget e 4), (5, aget e 5)] h x := NLoop_sc
def p_lot_groups_k4 : ACode := .pr [4, 5] (.seq (.reg [
  ⟨some 44, none, .mv (.t 4)⟩,
  ⟨some 45, none, .mv (.t 5)⟩,
  ⟨some 4, none, .mv (.t 44)⟩,
  ⟨some 5, none, .mv (.t 45)⟩] (some [4, 5]))
 .ret)
def d_lot_groups_k4 (C : Hd) (gl : Nat → Option PV) (v4 v5 : AV) (h : Heap) (x : Esc) (K : Ex → St → Prop) : Prop :=
 K .ret ⟨[(4, v4), (5, v5)], h, x⟩
theorem e_lot_groups_k4 {C gl e h x K} : NW C gl p_lot_groups_k4 ⟨e, h, x⟩ K = d_lot_groups_k4 C gl (aget e 4) (aget e 5) h x K := by kernel_rfl
def P_lot_groups (q3 q4 : ACode) : ACode := (.seq (.reg [
  ⟨some 4, none, .new0 none⟩,
  ⟨some 5, none, .new0 none⟩] (some [0, 1, 4, 5]))
 (.seq (.block 0 (.loop (.scope q3)))
 q4))
def a_lot_groups : AFun := ⟨2, [.t 4, .t 5], P_lot_groups p_lot_groups_k3 p_lot_groups_k4, false, false⟩
def d_lot_groups (C : Hd) (gl : Nat → Option PV) (q3 q4 : ACode) (v0 v1 : AV) (h : Heap) (x : Esc) (K : Ex → St → Prop) : Prop :=
 nwK none h fun t1 h2 y3 =>
 nwK none h2 fun t4 h5 y6 =>
 NW C gl (.loop (.scope q3)) ⟨[(0, v0), (1, v1), (4, t1), (5, t4)], h5, (y6 ++ (y3 ++ x))⟩ (blockN 0 (seqN C gl q4 K))
theorem E_lot_groups {C gl q3 q4 v0 v1 h x K} : NW C gl (P_lot_groups q3 q4) ⟨enter [v0, v1], h, x⟩ K = d_lot_groups C gl q3 q4 v0 v1 h x K := by kernel_rfl
theorem e_lot_groups {C gl v0 v1 h x K} : NW C gl a_lot_groups.body ⟨enter [v0, v1], h, x⟩ K = d_lot_groups C gl p_lot_groups_k3 p_lot_groups_k4 v0 v1 h x K := E_lot_groups
def P_base_Compare : ACode := (.seq (.reg [
  ⟨some 2, none, .box (.t 0)⟩,
  ⟨some 3, none, .box (.t 1)⟩,
  ⟨some 4, none, .mv (.c (.p (.int .i64 0)))⟩] (some [2, 3]))
 (.seq (.seq (.reg [
  ⟨some 5, none, .faddr 0 none (.t 2)⟩,
  ⟨some 6, none, .load none (.t 5)⟩,
  ⟨some 7, none, .bin .lss (.t 6) (.c (.p (.int .i64 0)))⟩,
  ⟨some 8, none, .mv (.t 7)⟩,
  ⟨some 9, (some (8, true)), .faddr 0 none (.t 3)⟩,
  ⟨some 10, (some (8, true)), .load none (.t 9)⟩,
  ⟨some 11, (some (8, true)), .bin .lss (.t 10) (.c (.p (.int .i64 0)))⟩,
  ⟨some 12, none, .pick (.t 8) (.t 11) (.c (.p (.bool false)))⟩] (some [2, 3, 12]))
 (.cond (.t 12) (.seq (.reg [
  ⟨some 13, none, .faddr 0 none (.t 3)⟩,
  ⟨some 14, none, .load none (.t 13)⟩,
  ⟨some 15, none, .un .neg (.t 14)⟩,
  ⟨some 16, none, .faddr 1 none (.t 3)⟩,
  ⟨some 17, none, .load none (.t 16)⟩,
  ⟨some 18, none, .build [.p (.int .i64 0), .p (.int .i64 0)] [(0, 1, (.t 15)), (1, 1, (.t 17))]⟩,
  ⟨some 19, none, .faddr 0 none (.t 2)⟩,
  ⟨some 20, none, .load none (.t 19)⟩,
  ⟨some 21, none, .un .neg (.t 20)⟩,
  ⟨some 22, none, .faddr 1 none (.t 2)⟩,
  ⟨some 23, none, .load none (.t 22)⟩,
  ⟨some 24, none, .build [.p (.int .i64 0), .p (.int .i64 0)] [(0, 1, (.t 21)), (1, 1, (.t 23))]⟩,
  ⟨some 25, none, .call f_base_Compare [(.t 18), (.t 24)]⟩,
  ⟨some 4, none, .mv (.t 25)⟩] (some [4]))
 .ret)
 .skip))
 (.seq (.seq (.reg [
  ⟨some 26, none, .faddr 0 none (.t 2)⟩,
  ⟨some 27, none, .load none (.t 26)⟩,
  ⟨some 28, none, .bin .lss (.t 27) (.c (.p (.int .i64 0)))⟩,
  ⟨some 29, none, .mv (.t 28)⟩,
  ⟨some 30, (some (29, false)), .faddr 0 none (.t 3)⟩,
  ⟨some 31, (some (29, false)), .load none (.t 30)⟩,
  ⟨some 32, (some (29, false)), .bin .lss (.t 31) (.c (.p (.int .i64 0)))⟩,
  ⟨some 33, none, .pick (.t 29) (.c (.p (.bool true))) (.t 32)⟩] (some [2, 3, 33]))
 (.cond (.t 33) (.seq (.reg [
  ⟨some 34, none, .faddr 0 none (.t 2)⟩,
  ⟨some 35, none, .load none (.t 34)⟩,
  ⟨some 36, none, .faddr 0 none (.t 3)⟩,
  ⟨some 37, none, .load none (.t 36)⟩,
  ⟨some 38, none, .call f_cmp_Compare_int [(.t 35), (.t 37)]⟩,
  ⟨some 4, none, .mv (.t 38)⟩] (some [4]))
 .ret)
 .skip))
 (.seq (.reg [
  ⟨some 39, none, .faddr 0 none (.t 2)⟩,
  ⟨some 40, none, .load none (.t 39)⟩,
  ⟨some 41, none, .faddr 1 none (.t 3)⟩,
  ⟨some 42, none, .load none (.t 41)⟩,
  ⟨some 43, none, .faddr 0 none (.t 3)⟩,
  ⟨some 44, none, .load none (.t 43)⟩,
  ⟨some 45, none, .faddr 1 none (.t 2)⟩,
  ⟨some 46, none, .load none (.t 45)⟩,
  ⟨some 47, none, .call f_base_CompareProducts [(.t 40), (.t 42), (.t 44), (.t 46)]⟩,
  ⟨some 4, none, .mv (.t 47)⟩] (some [4]))
 .ret))))
def a_base_Compare : AFun := ⟨2, [.t 4], P_base_Compare, false, false⟩
def d_base_Compare (C : Hd) (gl : Nat → Option PV) (v0 v1 : AV) (h : Heap) (x : Esc) (K : Ex → St → Prop) : Prop :=
 wK (oBox v0 h) fun t1 h2 y3 =>
 wK (oBox v1 h2) fun t4 h5 y6 =>
 pK (oFaddr 0 none t1) fun t7 =>
 pK (oLoad none t7 h5) fun t8 =>
 pK (oBin .lss t8 (.p (.int .i64 0))) fun t9 =>
 gP t9 true (oFaddr 0 none t4) h5 fun t10 h11 y12 =>
 gP t9 true (oLoad none t10 h11) h11 fun t13 h14 y15 =>
 gP t9 true (oBin .lss t13 (.p (.int .i64 0))) h14 fun t16 h17 y18 =>
 pK (oPick t9 t16 (.p (.bool false))) fun t19 =>
 condB t19 (pK (oFaddr 0 none t4) fun t20 =>
 pK (oLoad none t20 h17) fun t21 =>
 pK (oUn .neg t21) fun t22 =>
 pK (oFaddr 1 none t4) fun t23 =>
 pK (oLoad none t23 h17) fun t24 =>
 pK (oBuild [.p (.int .i64 0), .p (.int .i64 0)] [(0, 1, t22), (1, 1, t24)]) fun t25 =>
 pK (oFaddr 0 none t1) fun t26 =>
 pK (oLoad none t26 h17) fun t27 =>
 pK (oUn .neg t27) fun t28 =>
 pK (oFaddr 1 none t1) fun t29 =>
 pK (oLoad none t29 h17) fun t30 =>
 pK (oBuild [.p (.int .i64 0), .p (.int .i64 0)] [(0, 1, t28), (1, 1, t30)]) fun t31 =>
 C f_base_Compare [t25, t31] h17 fun t32 h33 y34 =>
 K .ret ⟨[(4, t32)], h33, (y34 ++ (y18 ++ (y15 ++ (y12 ++ (y6 ++ (y3 ++ x))))))⟩)
 (pK (oFaddr 0 none t1) fun t35 =>
 pK (oLoad none t35 h17) fun t36 =>
 pK (oBin .lss t36 (.p (.int .i64 0))) fun t37 =>
 gP t37 false (oFaddr 0 none t4) h17 fun t38 h39 y40 =>
 gP t37 false (oLoad none t38 h39) h39 fun t41 h42 y43 =>
 gP t37 false (oBin .lss t41 (.p (.int .i64 0))) h42 fun t44 h45 y46 =>
 pK (oPick t37 (.p (.bool true)) t44) fun t47 =>
 condB t47 (pK (oFaddr 0 none t1) fun t48 =>
 pK (oLoad none t48 h45) fun t49 =>
 pK (oFaddr 0 none t4) fun t50 =>
 pK (oLoad none t50 h45) fun t51 =>
 C f_cmp_Compare_int [t49, t51] h45 fun t52 h53 y54 =>
 K .ret ⟨[(4, t52)], h53, (y54 ++ (y46 ++ (y43 ++ (y40 ++ (y18 ++ (y15 ++ (y12 ++ (y6 ++ (y3 ++ x)))))))))⟩)
 (pK (oFaddr 0 none t1) fun t55 =>
 pK (oLoad none t55 h45) fun t56 =>
 pK (oFaddr 1 none t4) fun t57 =>
 pK (oLoad none t57 h45) fun t58 =>
 pK (oFaddr 0 none t4) fun t59 =>
 pK (oLoad none t59 h45) fun t60 =>
 pK (oFaddr 1 none t1) fun t61 =>
 pK (oLoad none t61 h45) fun t62 =>
 C f_base_CompareProducts [t56, t58, t60, t62] h45 fun t63 h64 y65 =>
 K .ret ⟨[(4, t63)], h64, (y65 ++ (y46 ++ (y43 ++ (y40 ++ (y18 ++ (y15 ++ (y12 ++ (y6 ++ (y3 ++ x)))))))))⟩))
theorem E_base_Compare {C gl v0 v1 h x K} : NW C gl (P_base_Compare) ⟨enter [v0, v1], h, x⟩ K = d_base_Compare C gl v0 v1 h x K := by kernel_rfl
theorem e_base_Compare {C gl v0 v1 h x K} : NW C gl a_base_Compare.body ⟨enter [v0, v1], h, x⟩ K = d_base_Compare C gl v0 v1 h x K := E_base_Compare
def P_slices_ContainsFunc_int_int : ACode := (.seq (.reg [
  ⟨some 4, none, .mv (.c (.p (.bool false)))⟩] (some [0, 1]))
 (.seq (.reg [
  ⟨some 5, none, .mv (.t 0)⟩,
  ⟨some 6, none, .mv (.t 1)⟩,
  ⟨some 7, none, .call f_slices_IndexFunc_int_int [(.t 5), (.t 6)]⟩,
  ⟨some 8, none, .bin .geq (.t 7) (.c (.p (.int .i64 0)))⟩,
  ⟨some 4, none, .mv (.t 8)⟩] (some [4]))
 .ret))
def a_slices_ContainsFunc_int_int : AFun := ⟨2, [.t 4], P_slices_ContainsFunc_int_int, false, false⟩
def d_slices_ContainsFunc_int_int (C : Hd) (gl : Nat → Option PV) (v0 v1 : AV) (h : Heap) (x : Esc) (K : Ex → St → Prop) : Prop :=
 C f_slices_IndexFunc_int_int [v0, v1] h fun t1 h2 y3 =>
 pK (oBin .geq t1 (.p (.int .i64 0))) fun t4 =>
 K .ret ⟨[(4, t4)], h2, (y3 ++ x)⟩
theorem E_slices_ContainsFunc_int_int {C gl v0 v1 h x K} : NW C gl (P_slices_ContainsFunc_int_int) ⟨enter [v0, v1], h, x⟩ K = d_slices_ContainsFunc_int_int C gl v0 v1 h x K := by kernel_rfl
theorem e_slices_ContainsFunc_int_int {C gl v0 v1 h x K} : NW C gl a_slices_ContainsFunc_int_int.body ⟨enter [v0, v1], h, x⟩ K = d_slices_ContainsFunc_int_int C gl v0 v1 h x K := E_slices_ContainsFunc_int_int
def P_scanref2_MeasuresFault_1 : ACode := (.seq (.reg [
  ⟨some 2, none, .mv (.c (.p (.bool false)))⟩] (some [0]))
 (.seq (.reg [
  ⟨some 3, none, .mv (.t 0)⟩,
  ⟨some 4, none, .call f_scanref2_in [(.t 3), (.c (.p (.int .i64 (-100000)))), (.c (.p (.int .i64 100000)))]⟩,
  ⟨some 5, none, .un .not (.t 4)⟩,
  ⟨some 2, none, .mv (.t 5)⟩] (some [2]))
 .ret))
def a_scanref2_MeasuresFault_1 : AFun := ⟨1, [.t 2], P_scanref2_MeasuresFault_1, false, false⟩
def d_scanref2_MeasuresFault_1 (C : Hd) (gl : Nat → Option PV) (v0 : AV) (h : Heap) (x : Esc) (K : Ex → St → Prop) : Prop :=
 C f_scanref2_in [v0, (.p (.int .i64 (-100000))), (.p (.int .i64 100000))] h fun t1 h2 y3 =>
 pK (oUn .not t1) fun t4 =>
 K .ret ⟨[(2, t4)], h2, (y3 ++ x)⟩
theorem E_scanref2_MeasuresFault_1 {C gl v0 h x K} : NW C gl (P_scanref2_MeasuresFault_1) ⟨enter [v0], h, x⟩ K = d_scanref2_MeasuresFault_1 C gl v0 h x K := by kernel_rfl
theorem e_scanref2_MeasuresFault_1 {C gl v0 h x K} : NW C gl a_scanref2_MeasuresFault_1.body ⟨enter [v0], h, x⟩ K = d_scanref2_MeasuresFault_1 C gl v0 h x K := E_scanref2_MeasuresFault_1
def P_scanref2_in : ACode := (.seq (.reg [
  ⟨some 6, none, .mv (.c (.p (.bool false)))⟩] (some [0, 1, 2]))
 (.seq (.reg [
  ⟨some 7, none, .mv (.t 1)⟩,
  ⟨some 8, none, .mv (.t 0)⟩,
  ⟨some 9, none, .bin .leq (.t 7) (.t 8)⟩,
  ⟨some 10, none, .mv (.t 9)⟩,
  ⟨some 11, (some (10, true)), .mv (.t 0)⟩,
  ⟨some 12, (some (10, true)), .mv (.t 2)⟩,
  ⟨some 13, (some (10, true)), .bin .leq (.t 11) (.t 12)⟩,
  ⟨some 14, none, .pick (.t 10) (.t 13) (.c (.p (.bool false)))⟩,
  ⟨some 6, none, .mv (.t 14)⟩] (some [6]))
 .ret))
def a_scanref2_in : AFun := ⟨3, [.t 6], P_scanref2_in, false, false⟩
def d_scanref2_in (C : Hd) (gl : Nat → Option PV) (v0 v1 v2 : AV) (h : Heap) (x : Esc) (K : Ex → St → Prop) : Prop :=
 pK (oBin .leq v1 v0) fun t1 =>
 gM t1 true v0 h fun t2 h3 y4 =>
 gM t1 true v2 h3 fun t5 h6 y7 =>
 gP t1 true (oBin .leq t2 t5) h6 fun t8 h9 y10 =>
 pK (oPick t1 t8 (.p (.bool false))) fun t11 =>
 K .ret ⟨[(6, t11)], h9, (y10 ++ (y7 ++ (y4 ++ x)))⟩
theorem E_scanref2_in {C gl v0 v1 v2 h x K} : NW C gl (P_scanref2_in) ⟨enter [v0, v1, v2], h, x⟩ K = d_scanref2_in C gl v0 v1 v2 h x K := by kernel_rfl
theorem e_scanref2_in {C gl v0 v1 v2 h x K} : NW C gl a_scanref2_in.body ⟨enter [v0, v1, v2], h, x⟩ K = d_scanref2_in C gl v0 v1 v2 h x K := E_scanref2_in
def p_scanref2_divisor_k1 : ACode := .pr [0, 1] (.seq (.seq (.reg [
  ⟨some 5, none, .mv (.t 1)⟩,
  ⟨some 6, none, .bin .neq (.t 5) (.c (.p (.int .i64 0)))⟩] (some [0, 1, 6]))
 (.cond (.t 6) .skip
 (.exit 0)))
 (.block 1 (.draw [
   ⟨⟨some 7, none, .mv (.t 1)⟩, [1], false, [], []⟩,
   ⟨⟨some 8, none, .mv (.t 0)⟩, [0], false, [], []⟩,
   ⟨⟨some 9, none, .mv (.t 1)⟩, [1], false, [], []⟩,
   ⟨⟨some 10, none, .bin .rem (.t 8) (.t 9)⟩, [8, 9], false, [], []⟩,
   ⟨⟨some 0, none, .mv (.t 7)⟩, [7], false, [], []⟩,
   ⟨⟨some 1, none, .mv (.t 10)⟩, [10], false, [], []⟩] (some [0, 1]))))
def d_scanref2_divisor_k1 (C : Hd) (gl : Nat → Option PV) (v0 v1 : AV) (h : Heap) (x : Esc) (K : Ex → St → Prop) : Prop :=
 pK (oBin .neq v1 (.p (.int .i64 0))) fun t1 =>
 condB t1 (pK (oBin .rem v0 v1) fun t2 =>
 K .normal ⟨[(0, v1), (1, t2)], h, x⟩)
 (K (.exit 0) ⟨[(0, v0), (1, v1), (6, t1)], h, x⟩)
theorem e_scanref2_divisor_k1 {C gl e h x K} : NW C gl p_scanref2_divisor_k1 ⟨e, h, x⟩ K = d_scanref2_divisor_k1 C gl (aget e 0) (aget e 1) h x K := by kernel_rfl
theorem l_scanref2_divisor_k1 {C gl e h x K} : NW C gl (.loop p_scanref2_divisor_k1) ⟨e, h, x⟩ K = NLoop C gl p_scanref2_divisor_k1 K [(0, aget e 0), (1, aget e 1)] h x := NLoop_pr
def p_scanref2_divisor_k2 : ACode := .pr [0] (.seq (.reg [
  ⟨some 11, none, .mv (.t 0)⟩,
  ⟨some 12, none, .mv (.t 0)⟩,
  ⟨some 13, none, .un .neg (.t 12)⟩,
  ⟨some 14, none, .mx [(.t 11), (.t 13)]⟩,
  ⟨some 4, none, .mv (.t 14)⟩] (some [4]))
 .ret)
def d_scanref2_divisor_k2 (C : Hd) (gl : Nat → Option PV) (v0 : AV) (h : Heap) (x : Esc) (K : Ex → St → Prop) : Prop :=
 pK (oUn .neg v0) fun t1 =>
 pK (oMx [v0, t1]) fun t2 =>
 K .ret ⟨[(4, t2)], h, x⟩
theorem e_scanref2_divisor_k2 {C gl e h x K} : NW C gl p_scanref2_divisor_k2 ⟨e, h, x⟩ K = d_scanref2_divisor_k2 C gl (aget e 0) h x K := by kernel_rfl
def P_scanref2_divisor (q1 q2 : ACode) : ACode := (.seq (.reg [
  ⟨some 4, none, .mv (.c (.p (.int .i64 0)))⟩] (some [0, 1]))
 (.seq (.block 0 (.loop q1))
 q2))
def a_scanref2_divisor : AFun := ⟨2, [.t 4], P_scanref2_divisor p_scanref2_divisor_k1 p_scanref2_divisor_k2, false, false⟩
def d_scanref2_divisor (C : Hd) (gl : Nat → Option PV) (q1 q2 : ACode) (v0 v1 : AV) (h : Heap) (x : Esc) (K : Ex → St → Prop) : Prop :=
 NW C gl (.loop q1) ⟨[(0, v0), (1, v1)], h, x⟩ (blockN 0 (seqN C gl q2 K))
theorem E_scanref2_divisor {C gl q1 q2 v0 v1 h x K} : NW C gl (P_scanref2_divisor q1 q2) ⟨enter [v0, v1], h, x⟩ K = d_scanref2_divisor C gl q1 q2 v0 v1 h x K := by kernel_rfl
theorem e_scanref2_divisor {C gl v0 v1 h x K} : NW C gl a_scanref2_divisor.body ⟨enter [v0, v1], h, x⟩ K = d_scanref2_divisor C gl p_scanref2_divisor_k1 p_scanref2_divisor_k2 v0 v1 h x K := E_scanref2_divisor
def P_scanref2_Lowest : ACode := (.seq (.reg [
  ⟨some 4, none, .alloc [.p (.int .i64 0), .p (.int .i64 0)]⟩] (some [0, 1, 4]))
 (.seq (.reg [
  ⟨some 6, none, .mv (.t 0)⟩,
  ⟨some 7, none, .mv (.t 1)⟩,
  ⟨some 8, none, .call f_scanref2_divisor [(.t 6), (.t 7)]⟩,
  ⟨some 5, none, .mv (.t 8)⟩] (some [0, 1, 4, 5]))
 (.seq (.draw [
   ⟨⟨some 9, none, .mv (.t 0)⟩, [0], false, [], []⟩,
   ⟨⟨some 10, none, .mv (.t 5)⟩, [5], false, [], []⟩,
   ⟨⟨some 11, none, .bin .quo (.t 9) (.t 10)⟩, [9, 10], false, [], []⟩,
   ⟨⟨some 12, none, .mv (.t 1)⟩, [1], false, [], []⟩,
   ⟨⟨some 13, none, .mv (.t 5)⟩, [5], false, [], []⟩,
   ⟨⟨some 14, none, .bin .quo (.t 12) (.t 13)⟩, [12, 13], false, [], []⟩,
   ⟨⟨some 15, none, .build [.p (.int .i64 0), .p (.int .i64 0)] [(0, 1, (.t 11)), (1, 1, (.t 14))]⟩, [11, 14], false, [], []⟩,
   ⟨⟨none, none, .store (some 2) (.t 4) (.t 15)⟩, [4, 15], true, [], []⟩] (some [4]))
 .ret)))
def a_scanref2_Lowest : AFun := ⟨2, [.cell 4 (some 2)], P_scanref2_Lowest, false, false⟩
def d_scanref2_Lowest (C : Hd) (gl : Nat → Option PV) (v0 v1 : AV) (h : Heap) (x : Esc) (K : Ex → St → Prop) : Prop :=
 alK [.p (.int .i64 0), .p (.int .i64 0)] h fun t1 h2 y3 =>
 C f_scanref2_divisor [v0, v1] h2 fun t4 h5 y6 =>
 pK (oBin .quo v0 t4) fun t7 =>
 pK (oBin .quo v1 t4) fun t8 =>
 pK (oBuild [.p (.int .i64 0), .p (.int .i64 0)] [(0, 1, t7), (1, 1, t8)]) fun t9 =>
 wK (oStore (some 2) t1 t9 h5) fun t10 h11 y12 =>
 K .ret ⟨[(4, t1)], h11, (y12 ++ (y6 ++ (y3 ++ x)))⟩
theorem E_scanref2_Lowest {C gl v0 v1 h x K} : NW C gl (P_scanref2_Lowest) ⟨enter [v0, v1], h, x⟩ K = d_scanref2_Lowest C gl v0 v1 h x K := by kernel_rfl
theorem e_scanref2_Lowest {C gl v0 v1 h x K} : NW C gl a_scanref2_Lowest.body ⟨enter [v0, v1], h, x⟩ K = d_scanref2_Lowest C gl v0 v1 h x K := E_scanref2_Lowest
def P_math_bits_Mul64 : ACode := (.seq (.reg [
  ⟨some 4, none, .mv (.c (.p (.int .u64 0)))⟩,
  ⟨some 5, none, .mv (.c (.p (.int .u64 0)))⟩] (some [0, 1]))
 (.seq (.reg [
  ⟨some 14, none, .mv (.t 0)⟩,
  ⟨some 15, none, .bin .and (.t 14) (.c (.p (.int .u64 4294967295)))⟩,
  ⟨some 6, none, .mv (.t 15)⟩] (some [0, 1, 6]))
 (.seq (.reg [
  ⟨some 16, none, .mv (.t 0)⟩,
  ⟨some 17, none, .bin .shr (.t 16) (.c (.p (.int .u64 32)))⟩,
  ⟨some 7, none, .mv (.t 17)⟩] (some [0, 1, 6, 7]))
 (.seq (.reg [
  ⟨some 18, none, .mv (.t 1)⟩,
  ⟨some 19, none, .bin .and (.t 18) (.c (.p (.int .u64 4294967295)))⟩,
  ⟨some 8, none, .mv (.t 19)⟩] (some [0, 1, 6, 7, 8]))
 (.seq (.reg [
  ⟨some 20, none, .mv (.t 1)⟩,
  ⟨some 21, none, .bin .shr (.t 20) (.c (.p (.int .u64 32)))⟩,
  ⟨some 9, none, .mv (.t 21)⟩] (some [0, 1, 6, 7, 8, 9]))
 (.seq (.reg [
  ⟨some 22, none, .mv (.t 6)⟩,
  ⟨some 23, none, .mv (.t 8)⟩,
  ⟨some 24, none, .bin .mul (.t 22) (.t 23)⟩,
  ⟨some 10, none, .mv (.t 24)⟩] (some [0, 1, 6, 7, 8, 9, 10]))
 (.seq (.reg [
  ⟨some 25, none, .mv (.t 7)⟩,
  ⟨some 26, none, .mv (.t 8)⟩,
  ⟨some 27, none, .bin .mul (.t 25) (.t 26)⟩,
  ⟨some 28, none, .mv (.t 10)⟩,
  ⟨some 29, none, .bin .shr (.t 28) (.c (.p (.int .u64 32)))⟩,
  ⟨some 30, none, .bin .add (.t 27) (.t 29)⟩,
  ⟨some 11, none, .mv (.t 30)⟩] (some [0, 1, 6, 7, 9, 11]))
 (.seq (.reg [
  ⟨some 31, none, .mv (.t 11)⟩,
  ⟨some 32, none, .bin .and (.t 31) (.c (.p (.int .u64 4294967295)))⟩,
  ⟨some 12, none, .mv (.t 32)⟩] (some [0, 1, 6, 7, 9, 11, 12]))
 (.seq (.reg [
  ⟨some 33, none, .mv (.t 11)⟩,
  ⟨some 34, none, .bin .shr (.t 33) (.c (.p (.int .u64 32)))⟩,
  ⟨some 13, none, .mv (.t 34)⟩] (some [0, 1, 6, 7, 9, 12, 13]))
 (.seq (.reg [
  ⟨some 35, none, .mv (.t 12)⟩,
  ⟨some 36, none, .mv (.t 6)⟩,
  ⟨some 37, none, .mv (.t 9)⟩,
  ⟨some 38, none, .bin .mul (.t 36) (.t 37)⟩,
  ⟨some 39, none, .bin .add (.t 35) (.t 38)⟩,
  ⟨some 12, none, .mv (.t 39)⟩] (some [0, 1, 7, 9, 12, 13]))
 (.seq (.reg [
  ⟨some 40, none, .mv (.t 7)⟩,
  ⟨some 41, none, .mv (.t 9)⟩,
  ⟨some 42, none, .bin .mul (.t 40) (.t 41)⟩,
  ⟨some 43, none, .mv (.t 13)⟩,
  ⟨some 44, none, .bin .add (.t 42) (.t 43)⟩,
  ⟨some 45, none, .mv (.t 12)⟩,
  ⟨some 46, none, .bin .shr (.t 45) (.c (.p (.int .u64 32)))⟩,
  ⟨some 47, none, .bin .add (.t 44) (.t 46)⟩,
  ⟨some 4, none, .mv (.t 47)⟩] (some [0, 1, 4]))
 (.seq (.reg [
  ⟨some 48, none, .mv (.t 0)⟩,
  ⟨some 49, none, .mv (.t 1)⟩,
  ⟨some 50, none, .bin .mul (.t 48) (.t 49)⟩,
  ⟨some 5, none, .mv (.t 50)⟩] (some [4, 5]))
 .ret))))))))))))
def a_math_bits_Mul64 : AFun := ⟨2, [.t 4, .t 5], P_math_bits_Mul64, false, false⟩
def d_math_bits_Mul64 (C : Hd) (gl : Nat → Option PV) (v0 v1 : AV) (h : Heap) (x : Esc) (K : Ex → St → Prop) : Prop :=
 pK (oBin .and v0 (.p (.int .u64 4294967295))) fun t1 =>
 pK (oBin .shr v0 (.p (.int .u64 32))) fun t2 =>
 pK (oBin .and v1 (.p (.int .u64 4294967295))) fun t3 =>
 pK (oBin .shr v1 (.p (.int .u64 32))) fun t4 =>
 pK (oBin .mul t1 t3) fun t5 =>
 pK (oBin .mul t2 t3) fun t6 =>
 pK (oBin .shr t5 (.p (.int .u64 32))) fun t7 =>
 pK (oBin .add t6 t7) fun t8 =>
 pK (oBin .and t8 (.p (.int .u64 4294967295))) fun t9 =>
 pK (oBin .shr t8 (.p (.int .u64 32))) fun t10 =>
 pK (oBin .mul t1 t4) fun t11 =>
 pK (oBin .add t9 t11) fun t12 =>
 pK (oBin .mul t2 t4) fun t13 =>
 pK (oBin .add t13 t10) fun t14 =>
 pK (oBin .shr t12 (.p (.int .u64 32))) fun t15 =>
 pK (oBin .add t14 t15) fun t16 =>
 pK (oBin .mul v0 v1) fun t17 =>
 K .ret ⟨[(4, t16), (5, t17)], h, x⟩
theorem E_math_bits_Mul64 {C gl v0 v1 h x K} : NW C gl (P_math_bits_Mul64) ⟨enter [v0, v1], h, x⟩ K = d_math_bits_Mul64 C gl v0 v1 h x K := by kernel_rfl
theorem e_math_bits_Mul64 {C gl v0 v1 h x K} : NW C gl a_math_bits_Mul64.body ⟨enter [v0, v1], h, x⟩ K = d_math_bits_Mul64 C gl v0 v1 h x K := E_math_bits_Mul64
def p_scanref2_sums_k1 : ACode := .pr [0, 1, 6, 7, 8, 9, 26, 27, 28] (.seq (.reg [
  ⟨some 29, none, .bin .lss (.t 28) (.t 27)⟩] (some [0, 1, 6, 7, 8, 9, 26, 27, 28, 29]))
 (.seq (.cond (.t 29) .skip
 (.exit 2))
 (.seq (.block 3 (.seq (.reg [
  ⟨some 30, none, .iaddr none (.t 26) (.t 28)⟩,
  ⟨some 31, none, .load none (.t 30)⟩,
  ⟨some 11, none, .mv (.t 31)⟩] (some [0, 1, 6, 7, 8, 9, 11, 26, 27, 28]))
 (.reg [
  ⟨some 32, none, .mv (.t 9)⟩,
  ⟨some 33, none, .mv (.t 11)⟩,
  ⟨some 34, none, .bin .add (.t 32) (.t 33)⟩,
  ⟨some 9, none, .mv (.t 34)⟩] (some [0, 1, 6, 7, 8, 9, 26, 27, 28]))))
 (.reg [
  ⟨some 35, none, .bin .add (.t 28) (.c (.p (.int .i64 1)))⟩,
  ⟨some 28, none, .mv (.t 35)⟩] (some [0, 1, 6, 7, 8, 9, 26, 27, 28])))))
def d_scanref2_sums_k1 (C : Hd) (gl : Nat → Option PV) (v0 v1 v6 v7 v8 v9 v26 v27 v28 : AV) (h : Heap) (x : Esc) (K : Ex → St → Prop) : Prop :=
 pK (oBin .lss v28 v27) fun t1 =>
 condB t1 (pK (oIaddr none v26 v28 h) fun t2 =>
 pK (oLoad none t2 h) fun t3 =>
 pK (oBin .add v9 t3) fun t4 =>
 pK (oBin .add v28 (.p (.int .i64 1))) fun t5 =>
 K .normal ⟨[(0, v0), (1, v1), (6, v6), (7, v7), (8, v8), (9, t4), (26, v26), (27, v27), (28, t5)], h, x⟩)
 (K (.exit 2) ⟨[(0, v0), (1, v1), (6, v6), (7, v7), (8, v8), (9, v9), (26, v26), (27, v27), (28, v28), (29, t1)], h, x⟩)
theorem e_scanref2_sums_k1 {C gl e h x K} : NW C gl p_scanref2_sums_k1 ⟨e, h, x⟩ K = d_scanref2_sums_k1 C gl (aget e 0) (aget e 1) (aget e 6) (aget e 7) (aget e 8) (aget e 9) (aget e 26) (aget e 27) (aget e 28) h x K := by kernel_rfl
theorem l_scanref2_sums_k1 {C gl e h x K} : NW C gl (.loop p_scanref2_sums_k1) ⟨e, h, x⟩ K = NLoop C gl p_scanref2_sums_k1 K [(0, aget e 0), (1, aget e 1), (6, aget e 6), (7, aget e 7), (8, aget e 8), (9, aget e 9), (26, aget e 26), (27, aget e 27), (28, aget e 28)] h x := NLoop_pr
def p_scanref2_sums_k2 : ACode := .pr [0, 1, 6, 7, 8, 9] (.seq (.reg [
  ⟨some 36, none, .mv (.t 6)⟩,
  ⟨some 37, none, .mv (.t 9)⟩,
  ⟨some 38, none, .bsl false none 1 (.int .i64 0) [(0, (.t 37))]⟩,
  ⟨some 39, none, .app none (.t 36) (.t 38)⟩,
  ⟨some 6, none, .mv (.t 39)⟩] (some [0, 1, 6, 7, 8]))
 (.draw [
   ⟨⟨some 40, none, .mv (.t 7)⟩, [7], false, [], []⟩,
   ⟨⟨some 41, none, .mv (.t 0)⟩, [0], false, [], []⟩,
   ⟨⟨some 42, none, .mv (.t 8)⟩, [8], false, [], []⟩,
   ⟨⟨some 43, none, .mv (.t 8)⟩, [8], false, [], []⟩,
   ⟨⟨some 44, none, .mv (.t 1)⟩, [1], false, [], []⟩,
   ⟨⟨some 45, none, .bin .add (.t 43) (.t 44)⟩, [43, 44], false, [], []⟩,
   ⟨⟨some 46, none, .slice none (.t 41) (some (.t 42)) (some (.t 45)) none⟩, [41, 42, 45], false, [], []⟩,
   ⟨⟨some 47, none, .call f_slices_Max_int_int [(.t 46)]⟩, [46], true, [], []⟩,
   ⟨⟨some 48, none, .mv (.t 0)⟩, [0], false, [], []⟩,
   ⟨⟨some 49, none, .mv (.t 8)⟩, [8], false, [], []⟩,
   ⟨⟨some 50, none, .mv (.t 8)⟩, [8], false, [], []⟩,
   ⟨⟨some 51, none, .mv (.t 1)⟩, [1], false, [], []⟩,
   ⟨⟨some 52, none, .bin .add (.t 50) (.t 51)⟩, [50, 51], false, [], []⟩,
   ⟨⟨some 53, none, .slice none (.t 48) (some (.t 49)) (some (.t 52)) none⟩, [48, 49, 52], false, [7], []⟩,
   ⟨⟨some 54, none, .call f_slices_Min_int_int [(.t 53)]⟩, [53], true, [], []⟩,
   ⟨⟨some 55, none, .bin .sub (.t 47) (.t 54)⟩, [47, 54], false, [], []⟩,
   ⟨⟨some 56, none, .bsl false none 1 (.int .i64 0) [(0, (.t 55))]⟩, [55], false, [], []⟩,
   ⟨⟨some 57, none, .app none (.t 40) (.t 56)⟩, [40, 56], true, [], []⟩,
   ⟨⟨some 7, none, .mv (.t 57)⟩, [57], false, [], []⟩] (some [0, 1, 6, 7, 8])))
def d_scanref2_sums_k2 (C : Hd) (gl : Nat → Option PV) (v0 v1 v6 v7 v8 v9 : AV) (h : Heap) (x : Esc) (K : Ex → St → Prop) : Prop :=
 wK (oBsl false none 1 (.int .i64 0) [(0, v9)] h) fun t1 h2 y3 =>
 wK (oApp none v6 t1 h2) fun t4 h5 y6 =>
 pK (oBin .add v8 v1) fun t7 =>
 pK (oSlice none v0 (some v8) (some t7) none h5) fun t8 =>
 callE C f_slices_Max_int_int [t8] h5 fun t9 h10 y11 =>
 pK (oBin .add v8 v1) fun t12 =>
 pK (oSlice none v0 (some v8) (some t12) none h10) fun t13 =>
 (pK (oSlice none v0 (some v8) (some t12) none h5) fun v => (fun u (g1 : Heap) (y1 : Esc) => u = t13 ∧ g1 = h5 ∧ y1 = []) v h5 []) ∧ (callE C f_slices_Min_int_int [t13] h10 fun t14 h15 y16 =>
 pK (oBin .sub t9 t14) fun t17 =>
 wK (oBsl false none 1 (.int .i64 0) [(0, t17)] h15) fun t18 h19 y20 =>
 (h19 = h15 ∧ y20 = []) ∧ (wK (oApp none v7 t18 h19) fun t21 h22 y23 =>
 K .normal ⟨[(0, v0), (1, v1), (6, t4), (7, t21), (8, v8)], h22, (y23 ++ (y20 ++ (y16 ++ (y11 ++ (y6 ++ (y3 ++ x))))))⟩))
theorem e_scanref2_sums_k2 {C gl e h x K} : NW C gl p_scanref2_sums_k2 ⟨e, h, x⟩ K = d_scanref2_sums_k2 C gl (aget e 0) (aget e 1) (aget e 6) (aget e 7) (aget e 8) (aget e 9) h x K := by kernel_rfl
def p_scanref2_sums_k3 : ACode := .pr [0, 1, 6, 7, 8] (.reg [
  ⟨some 18, none, .mv (.t 8)⟩,
  ⟨some 19, none, .mv (.t 1)⟩,
  ⟨some 20, none, .bin .add (.t 18) (.t 19)⟩,
  ⟨some 8, none, .mv (.t 20)⟩] (some [0, 1, 6, 7, 8]))
def d_scanref2_sums_k3 (C : Hd) (gl : Nat → Option PV) (v0 v1 v6 v7 v8 : AV) (h : Heap) (x : Esc) (K : Ex → St → Prop) : Prop :=
 pK (oBin .add v8 v1) fun t1 =>
 K .normal ⟨[(0, v0), (1, v1), (6, v6), (7, v7), (8, t1)], h, x⟩
theorem e_scanref2_sums_k3 {C gl e h x K} : NW C gl p_scanref2_sums_k3 ⟨e, h, x⟩ K = d_scanref2_sums_k3 C gl (aget e 0) (aget e 1) (aget e 6) (aget e 7) (aget e 8) h x K := by kernel_rfl
def P_scanref2_sums_k4 (q1 q2 q3 : ACode) : ACode := .pr [0, 1, 6, 7, 8] (.seq (.seq (.reg [
  ⟨some 12, none, .mv (.t 8)⟩,
  ⟨some 13, none, .mv (.t 1)⟩,
  ⟨some 14, none, .bin .add (.t 12) (.t 13)⟩,
  ⟨some 15, none, .mv (.t 0)⟩,
  ⟨some 16, none, .len (.t 15)⟩,
  ⟨some 17, none, .bin .leq (.t 14) (.t 16)⟩] (some [0, 1, 6, 7, 8, 17]))
 (.cond (.t 17) .skip
 (.exit 0)))
 (.seq (.block 1 (.seq (.reg [
  ⟨some 9, none, .mv (.c (.p (.int .i64 0)))⟩] (some [0, 1, 6, 7, 8, 9]))
 (.seq (.seq (.reg [
  ⟨some 21, none, .mv (.t 0)⟩,
  ⟨some 22, none, .mv (.t 8)⟩,
  ⟨some 23, none, .mv (.t 8)⟩,
  ⟨some 24, none, .mv (.t 1)⟩,
  ⟨some 25, none, .bin .add (.t 23) (.t 24)⟩,
  ⟨some 26, none, .slice none (.t 21) (some (.t 22)) (some (.t 25)) none⟩,
  ⟨some 27, none, .len (.t 26)⟩,
  ⟨some 28, none, .mv (.c (.p (.int .i64 0)))⟩] (some [0, 1, 6, 7, 8, 9, 26, 27, 28]))
 (.block 2 (.loop q1)))
 q2)))
 q3))
def p_scanref2_sums_k4 : ACode := P_scanref2_sums_k4 p_scanref2_sums_k1 p_scanref2_sums_k2 p_scanref2_sums_k3
def d_scanref2_sums_k4 (C : Hd) (gl : Nat → Option PV) (q1 q2 q3 : ACode) (v0 v1 v6 v7 v8 : AV) (h : Heap) (x : Esc) (K : Ex → St → Prop) : Prop :=
 pK (oBin .add v8 v1) fun t1 =>
 pK (oLen v0) fun t2 =>
 pK (oBin .leq t1 t2) fun t3 =>
 condB t3 (pK (oBin .add v8 v1) fun t4 =>
 pK (oSlice none v0 (some v8) (some t4) none h) fun t5 =>
 pK (oLen t5) fun t6 =>
 NW C gl (.loop q1) ⟨[(0, v0), (1, v1), (6, v6), (7, v7), (8, v8), (9, (.p (.int .i64 0))), (26, t5), (27, t6), (28, (.p (.int .i64 0)))], h, x⟩ (blockN 2 (seqN C gl q2 (blockN 1 (seqN C gl q3 K)))))
 (K (.exit 0) ⟨[(0, v0), (1, v1), (6, v6), (7, v7), (8, v8), (17, t3)], h, x⟩)
theorem E_scanref2_sums_k4 {C gl q1 q2 q3 e h x K} : NW C gl (P_scanref2_sums_k4 q1 q2 q3) ⟨e, h, x⟩ K = d_scanref2_sums_k4 C gl q1 q2 q3 (aget e 0) (aget e 1) (aget e 6) (aget e 7) (aget e 8) h x K := by kernel_rfl
theorem e_scanref2_sums_k4 {C gl e h x K} : NW C gl p_scanref2_sums_k4 ⟨e, h, x⟩ K = d_scanref2_sums_k4 C gl p_scanref2_sums_k1 p_scanref2_sums_k2 p_scanref2_sums_k3 (aget e 0) (aget e 1) (aget e 6) (aget e 7) (aget e 8) h x K := E_scanref2_sums_k4
theorem l_scanref2_sums_k4 {C gl e h x K} : NW C gl (.loop (.scope p_scanref2_sums_k4)) ⟨e, h, x⟩ K = NLoop C gl (.scope p_scanref2_sums_k4) K [(0, aget e 0), (1, aget e 1), (6, aget e 6), (7, aget e 7), (8, aget e 8)] h x := NLoop_sc
def p_scanref2_sums_k5 : ACode := .pr [6, 7] (.seq (.reg [
  ⟨some 58, none, .mv (.t 6)⟩,
  ⟨some 59, none, .mv (.t 7)⟩,
  ⟨some 4, none, .mv (.t 58)⟩,
  ⟨some 5, none, .mv (.t 59)⟩] (some [4, 5]))
 .ret)
def d_scanref2_sums_k5 (C : Hd) (gl : Nat → Option PV) (v6 v7 : AV) (h : Heap) (x : Esc) (K : Ex → St → Prop) : Prop :=
 K .ret ⟨[(4, v6), (5, v7)], h, x⟩
theorem e_scanref2_sums_k5 {C gl e h x K} : NW C gl p_scanref2_sums_k5 ⟨e, h, x⟩ K = d_scanref2_sums_k5 C gl (aget e 6) (aget e 7) h x K := by kernel_rfl
def P_scanref2_sums (q4 q5 : ACode) : ACode := (.seq (.reg [
  ⟨some 4, none, .mv (.c (.p (.sl none [])))⟩,
  ⟨some 5, none, .mv (.c (.p (.sl none [])))⟩] (some [0, 1]))
 (.seq (.reg [
  ⟨some 6, none, .new0 none⟩,
  ⟨some 7, none, .new0 none⟩] (some [0, 1, 6, 7]))
 (.seq (.seq (.reg [
  ⟨some 8, none, .mv (.c (.p (.int .i64 0)))⟩] (some [0, 1, 6, 7, 8]))
 (.block 0 (.loop (.scope q4))))
 q5)))
def a_scanref2_sums : AFun := ⟨2, [.t 4, .t 5], P_scanref2_sums p_scanref2_sums_k4 p_scanref2_sums_k5, false, false⟩
def d_scanref2_sums (C : Hd) (gl : Nat → Option PV) (q4 q5 : ACode) (v0 v1 : AV) (h : Heap) (x : Esc) (K : Ex → St → Prop) : Prop :=
 nwK none h fun t1 h2 y3 =>
 nwK none h2 fun t4 h5 y6 =>
 NW C gl (.loop (.scope q4)) ⟨[(0, v0), (1, v1), (6, t1), (7, t4), (8, (.p (.int .i64 0)))], h5, (y6 ++ (y3 ++ x))⟩ (blockN 0 (seqN C gl q5 K))
theorem E_scanref2_sums {C gl q4 q5 v0 v1 h x K} : NW C gl (P_scanref2_sums q4 q5) ⟨enter [v0, v1], h, x⟩ K = d_scanref2_sums C gl q4 q5 v0 v1 h x K := by kernel_rfl
theorem e_scanref2_sums {C gl v0 v1 h x K} : NW C gl a_scanref2_sums.body ⟨enter [v0, v1], h, x⟩ K = d_scanref2_sums C gl p_scanref2_sums_k4 p_scanref2_sums_k5 v0 v1 h x K := E_scanref2_sums
def p_scanref2_total_k1 : ACode := .pr [3, 6, 7, 8] (.seq (.reg [
  ⟨some 9, none, .bin .lss (.t 8) (.t 7)⟩] (some [3, 6, 7, 8, 9]))
 (.seq (.cond (.t 9) .skip
 (.exit 0))
 (.seq (.block 1 (.seq (.reg [
  ⟨some 10, none, .iaddr none (.t 6) (.t 8)⟩,
  ⟨some 11, none, .load none (.t 10)⟩,
  ⟨some 5, none, .mv (.t 11)⟩] (some [3, 5, 6, 7, 8]))
 (.reg [
  ⟨some 12, none, .mv (.t 3)⟩,
  ⟨some 13, none, .mv (.t 5)⟩,
  ⟨some 14, none, .bin .add (.t 12) (.t 13)⟩,
  ⟨some 3, none, .mv (.t 14)⟩] (some [3, 6, 7, 8]))))
 (.reg [
  ⟨some 15, none, .bin .add (.t 8) (.c (.p (.int .i64 1)))⟩,
  ⟨some 8, none, .mv (.t 15)⟩] (some [3, 6, 7, 8])))))
def d_scanref2_total_k1 (C : Hd) (gl : Nat → Option PV) (v3 v6 v7 v8 : AV) (h : Heap) (x : Esc) (K : Ex → St → Prop) : Prop :=
 pK (oBin .lss v8 v7) fun t1 =>
 condB t1 (pK (oIaddr none v6 v8 h) fun t2 =>
 pK (oLoad none t2 h) fun t3 =>
 pK (oBin .add v3 t3) fun t4 =>
 pK (oBin .add v8 (.p (.int .i64 1))) fun t5 =>
 K .normal ⟨[(3, t4), (6, v6), (7, v7), (8, t5)], h, x⟩)
 (K (.exit 0) ⟨[(3, v3), (6, v6), (7, v7), (8, v8), (9, t1)], h, x⟩)
theorem e_scanref2_total_k1 {C gl e h x K} : NW C gl p_scanref2_total_k1 ⟨e, h, x⟩ K = d_scanref2_total_k1 C gl (aget e 3) (aget e 6) (aget e 7) (aget e 8) h x K := by kernel_rfl
theorem l_scanref2_total_k1 {C gl e h x K} : NW C gl (.loop p_scanref2_total_k1) ⟨e, h, x⟩ K = NLoop C gl p_scanref2_total_k1 K [(3, aget e 3), (6, aget e 6), (7, aget e 7), (8, aget e 8)] h x := NLoop_pr
def p_scanref2_total_k2 : ACode := .pr [3] (.seq (.reg [
  ⟨some 16, none, .mv (.t 3)⟩,
  ⟨some 2, none, .mv (.t 16)⟩] (some [2]))
 .ret)
def d_scanref2_total_k2 (C : Hd) (gl : Nat → Option PV) (v3 : AV) (h : Heap) (x : Esc) (K : Ex → St → Prop) : Prop :=
 K .ret ⟨[(2, v3)], h, x⟩
theorem e_scanref2_total_k2 {C gl e h x K} : NW C gl p_scanref2_total_k2 ⟨e, h, x⟩ K = d_scanref2_total_k2 C gl (aget e 3) h x K := by kernel_rfl
def P_scanref2_total (q1 q2 : ACode) : ACode := (.seq (.reg [
  ⟨some 2, none, .mv (.c (.p (.int .i64 0)))⟩] (some [0]))
 (.seq (.reg [
  ⟨some 3, none, .mv (.c (.p (.int .i64 0)))⟩] (some [0, 3]))
 (.seq (.seq (.reg [
  ⟨some 6, none, .mv (.t 0)⟩,
  ⟨some 7, none, .len (.t 6)⟩,
  ⟨some 8, none, .mv (.c (.p (.int .i64 0)))⟩] (some [3, 6, 7, 8]))
 (.block 0 (.loop q1)))
 q2)))
def a_scanref2_total : AFun := ⟨1, [.t 2], P_scanref2_total p_scanref2_total_k1 p_scanref2_total_k2, false, false⟩
def d_scanref2_total (C : Hd) (gl : Nat → Option PV) (q1 q2 : ACode) (v0 : AV) (h : Heap) (x : Esc) (K : Ex → St → Prop) : Prop :=
 pK (oLen v0) fun t1 =>
 NW C gl (.loop q1) ⟨[(3, (.p (.int .i64 0))), (6, v0), (7, t1), (8, (.p (.int .i64 0)))], h, x⟩ (blockN 0 (seqN C gl q2 K))
theorem E_scanref2_total {C gl q1 q2 v0 h x K} : NW C gl (P_scanref2_total q1 q2) ⟨enter [v0], h, x⟩ K = d_scanref2_total C gl q1 q2 v0 h x K := by kernel_rfl
theorem e_scanref2_total {C gl v0 h x K} : NW C gl a_scanref2_total.body ⟨enter [v0], h, x⟩ K = d_scanref2_total C gl p_scanref2_total_k1 p_scanref2_total_k2 v0 h x K := E_scanref2_total
def P_scanref2_hundredths : ACode := (.seq (.reg [
  ⟨some 2, none, .mv (.c (.p (.int .i64 0)))⟩] (some [0]))
 (.seq (.reg [
  ⟨some 3, none, .bsl false none 9 (.int .i64 0) [(0, (.c (.p (.int .i64 188)))), (1, (.c (.p (.int .i64 102)))), (2, (.c (.p (.int .i64 73)))), (3, (.c (.p (.int .i64 58)))), (4, (.c (.p (.int .i64 48)))), (5, (.c (.p (.int .i64 42)))), (6, (.c (.p (.int .i64 37)))), (7, (.c (.p (.int .i64 34)))), (8, (.c (.p (.int .i64 31))))]⟩,
  ⟨some 4, none, .mv (.t 0)⟩,
  ⟨some 5, none, .bin .sub (.t 4) (.c (.p (.int .i64 2)))⟩,
  ⟨some 6, none, .iaddr none (.t 3) (.t 5)⟩,
  ⟨some 7, none, .load none (.t 6)⟩,
  ⟨some 2, none, .mv (.t 7)⟩] (some [2]))
 .ret))
def a_scanref2_hundredths : AFun := ⟨1, [.t 2], P_scanref2_hundredths, false, false⟩
def d_scanref2_hundredths (C : Hd) (gl : Nat → Option PV) (v0 : AV) (h : Heap) (x : Esc) (K : Ex → St → Prop) : Prop :=
 wK (oBsl false none 9 (.int .i64 0) [(0, (.p (.int .i64 188))), (1, (.p (.int .i64 102))), (2, (.p (.int .i64 73))), (3, (.p (.int .i64 58))), (4, (.p (.int .i64 48))), (5, (.p (.int .i64 42))), (6, (.p (.int .i64 37))), (7, (.p (.int .i64 34))), (8, (.p (.int .i64 31)))] h) fun t1 h2 y3 =>
 pK (oBin .sub v0 (.p (.int .i64 2))) fun t4 =>
 pK (oIaddr none t1 t4 h2) fun t5 =>
 pK (oLoad none t5 h2) fun t6 =>
 K .ret ⟨[(2, t6)], h2, (y3 ++ x)⟩
theorem E_scanref2_hundredths {C gl v0 h x K} : NW C gl (P_scanref2_hundredths) ⟨enter [v0], h, x⟩ K = d_scanref2_hundredths C gl v0 h x K := by kernel_rfl
theorem e_scanref2_hundredths {C gl v0 h x K} : NW C gl a_scanref2_hundredths.body ⟨enter [v0], h, x⟩ K = d_scanref2_hundredths C gl v0 h x K := E_scanref2_hundredths
def P_scanref2_SignalsIn_1 : ACode := (.seq (.reg [
  ⟨some 4, none, .mv (.c (.p (.int .i64 0)))⟩] (some [0, 1, 2]))
 (.seq (.draw [
   ⟨⟨some 5, none, .load none (.t 1)⟩, [1], false, [], []⟩,
   ⟨⟨some 6, none, .mv (.t 0)⟩, [0], false, [], []⟩,
   ⟨⟨some 7, none, .iaddr none (.t 5) (.t 6)⟩, [5, 6], false, [], []⟩,
   ⟨⟨some 8, none, .load none (.t 7)⟩, [7], false, [], []⟩,
   ⟨⟨some 9, none, .load none (.t 2)⟩, [2], false, [], []⟩,
   ⟨⟨some 10, none, .bin .mul (.t 8) (.t 9)⟩, [8, 9], false, [], []⟩,
   ⟨⟨some 11, none, .load none (.t 1)⟩, [1], false, [], []⟩,
   ⟨⟨some 12, none, .call f_scanref2_total [(.t 11)]⟩, [11], true, [], [0, 2, 3, 4]⟩,
   ⟨⟨some 13, none, .bin .sub (.t 10) (.t 12)⟩, [10, 12], false, [], []⟩,
   ⟨⟨some 14, none, .call f_scanref2_sign [(.t 13)]⟩, [13], true, [], []⟩,
   ⟨⟨some 4, none, .mv (.t 14)⟩, [14], false, [], []⟩] (some [4]))
 .ret))
def a_scanref2_SignalsIn_1 : AFun := ⟨3, [.t 4], P_scanref2_SignalsIn_1, false, false⟩
def d_scanref2_SignalsIn_1 (C : Hd) (gl : Nat → Option PV) (v0 v1 v2 : AV) (h : Heap) (x : Esc) (K : Ex → St → Prop) : Prop :=
 pK (oLoad none v1 h) fun t1 =>
 pK (oIaddr none t1 v0 h) fun t2 =>
 pK (oLoad none t2 h) fun t3 =>
 pK (oLoad none v2 h) fun t4 =>
 pK (oBin .mul t3 t4) fun t5 =>
 pK (oLoad none v1 h) fun t6 =>
 callE C f_scanref2_total [t6] h fun t7 h8 y9 =>
 (pK (oLoad none v1 h8) fun v => (fun u (g1 : Heap) (y1 : Esc) => u = t1 ∧ g1 = h8 ∧ y1 = []) v h8 []) ∧ ((pK (oIaddr none t1 v0 h8) fun v => (fun u (g1 : Heap) (y1 : Esc) => u = t2 ∧ g1 = h8 ∧ y1 = []) v h8 []) ∧ ((pK (oLoad none t2 h8) fun v => (fun u (g1 : Heap) (y1 : Esc) => u = t3 ∧ g1 = h8 ∧ y1 = []) v h8 []) ∧ ((pK (oLoad none v2 h8) fun v => (fun u (g1 : Heap) (y1 : Esc) => u = t4 ∧ g1 = h8 ∧ y1 = []) v h8 []) ∧ (pK (oBin .sub t5 t7) fun t10 =>
 callE C f_scanref2_sign [t10] h8 fun t11 h12 y13 =>
 K .ret ⟨[(4, t11)], h12, (y13 ++ (y9 ++ x))⟩))))
theorem E_scanref2_SignalsIn_1 {C gl v0 v1 v2 h x K} : NW C gl (P_scanref2_SignalsIn_1) ⟨enter [v0, v1, v2], h, x⟩ K = d_scanref2_SignalsIn_1 C gl v0 v1 v2 h x K := by kernel_rfl
theorem e_scanref2_SignalsIn_1 {C gl v0 v1 v2 h x K} : NW C gl a_scanref2_SignalsIn_1.body ⟨enter [v0, v1, v2], h, x⟩ K = d_scanref2_SignalsIn_1 C gl v0 v1 v2 h x K := E_scanref2_SignalsIn_1
def P_scanref2_sign : ACode := (.seq (.reg [
  ⟨some 2, none, .mv (.c (.p (.int .i64 0)))⟩] (some [0]))
 (.seq (.block 0 (.seq (.reg [
  ⟨some 4, none, .mv (.t 0)⟩,
  ⟨some 5, none, .bin .lss (.t 4) (.c (.p (.int .i64 0)))⟩,
  ⟨some 3, none, .mv (.t 5)⟩] (some [0, 3]))
 (.cond (.t 3) (.seq (.reg [
  ⟨some 2, none, .mv (.c (.p (.int .i64 (-1))))⟩] (some [2]))
 .ret)
 (.seq (.reg [
  ⟨some 7, none, .mv (.t 0)⟩,
  ⟨some 8, none, .bin .gtr (.t 7) (.c (.p (.int .i64 0)))⟩,
  ⟨some 6, none, .mv (.t 8)⟩] (some [6]))
 (.cond (.t 6) (.seq (.reg [
  ⟨some 2, none, .mv (.c (.p (.int .i64 1)))⟩] (some [2]))
 .ret)
 .skip)))))
 (.seq (.reg [
  ⟨some 2, none, .mv (.c (.p (.int .i64 0)))⟩] (some [2]))
 .ret)))
def a_scanref2_sign : AFun := ⟨1, [.t 2], P_scanref2_sign, false, false⟩
def d_scanref2_sign (C : Hd) (gl : Nat → Option PV) (v0 : AV) (h : Heap) (x : Esc) (K : Ex → St → Prop) : Prop :=
 pK (oBin .lss v0 (.p (.int .i64 0))) fun t1 =>
 condB t1 (K .ret ⟨[(2, (.p (.int .i64 (-1))))], h, x⟩)
 (pK (oBin .gtr v0 (.p (.int .i64 0))) fun t2 =>
 condB t2 (K .ret ⟨[(2, (.p (.int .i64 1)))], h, x⟩)
 (K .ret ⟨[(2, (.p (.int .i64 0)))], h, x⟩))
theorem E_scanref2_sign {C gl v0 h x K} : NW C gl (P_scanref2_sign) ⟨enter [v0], h, x⟩ K = d_scanref2_sign C gl v0 h x K := by kernel_rfl
theorem e_scanref2_sign {C gl v0 h x K} : NW C gl a_scanref2_sign.body ⟨enter [v0], h, x⟩ K = d_scanref2_sign C gl v0 h x K := E_scanref2_sign
def P_cmp_Compare_int : ACode := (.seq (.reg [
  ⟨some 4, none, .mv (.c (.p (.int .i64 0)))⟩] (some [0, 1]))
 (.seq (.reg [
  ⟨some 7, none, .mv (.t 0)⟩,
  ⟨some 8, none, .call f_cmp_isNaN_int [(.t 7)]⟩,
  ⟨some 5, none, .mv (.t 8)⟩] (some [0, 1, 5]))
 (.seq (.reg [
  ⟨some 9, none, .mv (.t 1)⟩,
  ⟨some 10, none, .call f_cmp_isNaN_int [(.t 9)]⟩,
  ⟨some 6, none, .mv (.t 10)⟩] (some [0, 1, 5, 6]))
 (.seq (.seq (.reg [
  ⟨some 11, none, .mv (.t 5)⟩] (some [0, 1, 6, 11]))
 (.cond (.t 11) (.seq (.seq (.reg [
  ⟨some 12, none, .mv (.t 6)⟩] (some [12]))
 (.cond (.t 12) (.seq (.reg [
  ⟨some 4, none, .mv (.c (.p (.int .i64 0)))⟩] (some [4]))
 .ret)
 .skip))
 (.seq (.reg [
  ⟨some 4, none, .mv (.c (.p (.int .i64 (-1))))⟩] (some [4]))
 .ret))
 .skip))
 (.seq (.seq (.reg [
  ⟨some 13, none, .mv (.t 6)⟩] (some [0, 1, 13]))
 (.cond (.t 13) (.seq (.reg [
  ⟨some 4, none, .mv (.c (.p (.int .i64 1)))⟩] (some [4]))
 .ret)
 .skip))
 (.seq (.seq (.reg [
  ⟨some 14, none, .mv (.t 0)⟩,
  ⟨some 15, none, .mv (.t 1)⟩,
  ⟨some 16, none, .bin .lss (.t 14) (.t 15)⟩] (some [0, 1, 16]))
 (.cond (.t 16) (.seq (.reg [
  ⟨some 4, none, .mv (.c (.p (.int .i64 (-1))))⟩] (some [4]))
 .ret)
 .skip))
 (.seq (.seq (.reg [
  ⟨some 17, none, .mv (.t 0)⟩,
  ⟨some 18, none, .mv (.t 1)⟩,
  ⟨some 19, none, .bin .gtr (.t 17) (.t 18)⟩] (some [19]))
 (.cond (.t 19) (.seq (.reg [
  ⟨some 4, none, .mv (.c (.p (.int .i64 1)))⟩] (some [4]))
 .ret)
 .skip))
 (.seq (.reg [
  ⟨some 4, none, .mv (.c (.p (.int .i64 0)))⟩] (some [4]))
 .ret))))))))
def a_cmp_Compare_int : AFun := ⟨2, [.t 4], P_cmp_Compare_int, false, false⟩
def d_cmp_Compare_int (C : Hd) (gl : Nat → Option PV) (v0 v1 : AV) (h : Heap) (x : Esc) (K : Ex → St → Prop) : Prop :=
 C f_cmp_isNaN_int [v0] h fun t1 h2 y3 =>
 C f_cmp_isNaN_int [v1] h2 fun t4 h5 y6 =>
 condB t1 (condB t4 (K .ret ⟨[(4, (.p (.int .i64 0)))], h5, (y6 ++ (y3 ++ x))⟩)
 (K .ret ⟨[(4, (.p (.int .i64 (-1))))], h5, (y6 ++ (y3 ++ x))⟩))
 (condB t4 (K .ret ⟨[(4, (.p (.int .i64 1)))], h5, (y6 ++ (y3 ++ x))⟩)
 (pK (oBin .lss v0 v1) fun t7 =>
 condB t7 (K .ret ⟨[(4, (.p (.int .i64 (-1))))], h5, (y6 ++ (y3 ++ x))⟩)
 (pK (oBin .gtr v0 v1) fun t8 =>
 condB t8 (K .ret ⟨[(4, (.p (.int .i64 1)))], h5, (y6 ++ (y3 ++ x))⟩)
 (K .ret ⟨[(4, (.p (.int .i64 0)))], h5, (y6 ++ (y3 ++ x))⟩))))
theorem E_cmp_Compare_int {C gl v0 v1 h x K} : NW C gl (P_cmp_Compare_int) ⟨enter [v0, v1], h, x⟩ K = d_cmp_Compare_int C gl v0 v1 h x K := by kernel_rfl
theorem e_cmp_Compare_int {C gl v0 v1 h x K} : NW C gl a_cmp_Compare_int.body ⟨enter [v0, v1], h, x⟩ K = d_cmp_Compare_int C gl v0 v1 h x K := E_cmp_Compare_int
def p_scanmake_Below_k1 : ACode := .pr [0] (.seq (.reg [
  ⟨some 15, none, .mv (.t 0)⟩,
  ⟨some 4, none, .mv (.t 15)⟩] (some [4]))
 .ret)
def d_scanmake_Below_k1 (C : Hd) (gl : Nat → Option PV) (v0 : AV) (h : Heap) (x : Esc) (K : Ex → St → Prop) : Prop :=
 K .ret ⟨[(4, v0)], h, x⟩
theorem e_scanmake_Below_k1 {C gl e h x K} : NW C gl p_scanmake_Below_k1 ⟨e, h, x⟩ K = d_scanmake_Below_k1 C gl (aget e 0) h x K := by kernel_rfl
def P_scanmake_Below (q1 : ACode) : ACode := (.seq (.reg [
  ⟨some 4, none, .mv (.c (.p (.int .i64 0)))⟩] (some [0, 1]))
 (.seq (.seq (.reg [
  ⟨some 5, none, .mv (.t 1)⟩,
  ⟨some 6, none, .bin .lss (.t 5) (.c (.p (.int .i64 1)))⟩] (some [0, 1, 6]))
 (.cond (.t 6) (.seq (.reg [
  ⟨some 4, none, .mv (.c (.p (.int .i64 0)))⟩] (some [4]))
 .ret)
 .skip))
 (.seq (.reg [
  ⟨some 7, none, .mv (.t 0)⟩,
  ⟨some 8, none, .mv (.t 1)⟩,
  ⟨some 9, none, .bin .rem (.t 7) (.t 8)⟩,
  ⟨some 0, none, .mv (.t 9)⟩] (some [0, 1]))
 (.seq (.seq (.reg [
  ⟨some 10, none, .mv (.t 0)⟩,
  ⟨some 11, none, .bin .lss (.t 10) (.c (.p (.int .i64 0)))⟩] (some [0, 1, 11]))
 (.cond (.t 11) (.reg [
  ⟨some 12, none, .mv (.t 0)⟩,
  ⟨some 13, none, .mv (.t 1)⟩,
  ⟨some 14, none, .bin .add (.t 12) (.t 13)⟩,
  ⟨some 0, none, .mv (.t 14)⟩] (some [0]))
 .skip))
 q1))))
def a_scanmake_Below : AFun := ⟨2, [.t 4], P_scanmake_Below p_scanmake_Below_k1, false, false⟩
def d_scanmake_Below (C : Hd) (gl : Nat → Option PV) (q1 : ACode) (v0 v1 : AV) (h : Heap) (x : Esc) (K : Ex → St → Prop) : Prop :=
 pK (oBin .lss v1 (.p (.int .i64 1))) fun t1 =>
 condB t1 (K .ret ⟨[(4, (.p (.int .i64 0)))], h, x⟩)
 (pK (oBin .rem v0 v1) fun t2 =>
 pK (oBin .lss t2 (.p (.int .i64 0))) fun t3 =>
 condB t3 (pK (oBin .add t2 v1) fun t4 =>
 NW C gl q1 ⟨[(0, t4)], h, x⟩ K)
 (NW C gl q1 ⟨[(0, t2), (1, v1), (11, t3)], h, x⟩ K))
theorem E_scanmake_Below {C gl q1 v0 v1 h x K} : NW C gl (P_scanmake_Below q1) ⟨enter [v0, v1], h, x⟩ K = d_scanmake_Below C gl q1 v0 v1 h x K := by kernel_rfl
theorem e_scanmake_Below {C gl v0 v1 h x K} : NW C gl a_scanmake_Below.body ⟨enter [v0, v1], h, x⟩ K = d_scanmake_Below C gl p_scanmake_Below_k1 v0 v1 h x K := E_scanmake_Below
def P_lot_valuesFault_1 : ACode := (.seq (.reg [
  ⟨some 2, none, .mv (.c (.p (.bool false)))⟩] (some [0]))
 (.seq (.reg [
  ⟨some 3, none, .mv (.t 0)⟩,
  ⟨some 4, none, .call f_lot_isMeasure [(.t 3)]⟩,
  ⟨some 5, none, .un .not (.t 4)⟩,
  ⟨some 2, none, .mv (.t 5)⟩] (some [2]))
 .ret))
def a_lot_valuesFault_1 : AFun := ⟨1, [.t 2], P_lot_valuesFault_1, false, false⟩
def d_lot_valuesFault_1 (C : Hd) (gl : Nat → Option PV) (v0 : AV) (h : Heap) (x : Esc) (K : Ex → St → Prop) : Prop :=
 C f_lot_isMeasure [v0] h fun t1 h2 y3 =>
 pK (oUn .not t1) fun t4 =>
 K .ret ⟨[(2, t4)], h2, (y3 ++ x)⟩
theorem E_lot_valuesFault_1 {C gl v0 h x K} : NW C gl (P_lot_valuesFault_1) ⟨enter [v0], h, x⟩ K = d_lot_valuesFault_1 C gl v0 h x K := by kernel_rfl
theorem e_lot_valuesFault_1 {C gl v0 h x K} : NW C gl a_lot_valuesFault_1.body ⟨enter [v0], h, x⟩ K = d_lot_valuesFault_1 C gl v0 h x K := E_lot_valuesFault_1
end Go.Am
