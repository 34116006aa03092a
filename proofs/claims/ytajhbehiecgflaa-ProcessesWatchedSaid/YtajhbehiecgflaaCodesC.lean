/- The functions as abstract code, and as formulas over their values: printed by program out of the translation. -/
import Derived.Test.YtajhbehiecgflaaNums
import Derived.Test.YtajhbehiecgflaaAm31
import Derived.KernelRfl
set_option linter.unusedVariables false
set_option maxRecDepth 100000
namespace Go.Am
def P_lot_isMeasure : ACode := (.seq (.reg [
  ⟨some 2, none, .mv (.c (.p (.bool false)))⟩] (some [0]))
 (.seq (.reg [
  ⟨some 3, none, .mv (.t 0)⟩,
  ⟨some 4, none, .call f_base_Out [(.t 3), (.c (.p (.int .i64 (-100000)))), (.c (.p (.int .i64 100000)))]⟩,
  ⟨some 5, none, .un .not (.t 4)⟩,
  ⟨some 2, none, .mv (.t 5)⟩] (some [2]))
 .ret))
def a_lot_isMeasure : AFun := ⟨1, [.t 2], P_lot_isMeasure, false, false⟩
def d_lot_isMeasure (C : Hd) (gl : Nat → Option PV) (v0 : AV) (h : Heap) (x : Esc) (K : Ex → St → Prop) : Prop :=
 C f_base_Out [v0, (.p (.int .i64 (-100000))), (.p (.int .i64 100000))] h fun t1 h2 y3 =>
 pK (oUn .not t1) fun t4 =>
 K .ret ⟨[(2, t4)], h2, (y3 ++ x)⟩
theorem E_lot_isMeasure {C gl v0 h x K} : NW C gl (P_lot_isMeasure) ⟨enter [v0], h, x⟩ K = d_lot_isMeasure C gl v0 h x K := by kernel_rfl
theorem e_lot_isMeasure {C gl v0 h x K} : NW C gl a_lot_isMeasure.body ⟨enter [v0], h, x⟩ K = d_lot_isMeasure C gl v0 h x K := E_lot_isMeasure
def p_base_Gcd_k1 : ACode := .pr [0, 1] (.seq (.seq (.reg [
  ⟨some 5, none, .mv (.t 1)⟩,
  ⟨some 6, none, .bin .neq (.t 5) (.c (.p (.int .i64 0)))⟩] (some [0, 1, 6]))
 (.cond (.t 6) .skip
 (.exit 0)))
 (.block 1 (.draw [
   ⟨⟨some 7, none, .mv (.t 1)⟩, [1], false, [], []⟩,
   ⟨⟨some 8, none, .mv (.t 0)⟩, [0], false, [], []⟩,
   ⟨⟨some 9, none, .mv (.t 1)⟩, [1], false, [], []⟩,
   ⟨⟨some 10, none, .bin .rem (.t 8) (.t 9)⟩, [8, 9], false, [], []⟩,
   ⟨⟨some 0, none, .mv (.t 7)⟩, [7], false, [], []⟩,
   ⟨⟨some 1, none, .mv (.t 10)⟩, [10], false, [], []⟩] (some [0, 1]))))
def d_base_Gcd_k1 (C : Hd) (gl : Nat → Option PV) (v0 v1 : AV) (h : Heap) (x : Esc) (K : Ex → St → Prop) : Prop :=
 pK (oBin .neq v1 (.p (.int .i64 0))) fun t1 =>
 condB t1 (pK (oBin .rem v0 v1) fun t2 =>
 K .normal ⟨[(0, v1), (1, t2)], h, x⟩)
 (K (.exit 0) ⟨[(0, v0), (1, v1), (6, t1)], h, x⟩)
theorem e_base_Gcd_k1 {C gl e h x K} : NW C gl p_base_Gcd_k1 ⟨e, h, x⟩ K = d_base_Gcd_k1 C gl (aget e 0) (aget e 1) h x K := by kernel_rfl
theorem l_base_Gcd_k1 {C gl e h x K} : NW C gl (.loop p_base_Gcd_k1) ⟨e, h, x⟩ K = NLoop C gl p_base_Gcd_k1 K [(0, aget e 0), (1, aget e 1)] h x := NLoop_pr
def p_base_Gcd_k2 : ACode := .pr [0] (.seq (.reg [
  ⟨some 11, none, .mv (.t 0)⟩,
  ⟨some 4, none, .mv (.t 11)⟩] (some [4]))
 .ret)
def d_base_Gcd_k2 (C : Hd) (gl : Nat → Option PV) (v0 : AV) (h : Heap) (x : Esc) (K : Ex → St → Prop) : Prop :=
 K .ret ⟨[(4, v0)], h, x⟩
theorem e_base_Gcd_k2 {C gl e h x K} : NW C gl p_base_Gcd_k2 ⟨e, h, x⟩ K = d_base_Gcd_k2 C gl (aget e 0) h x K := by kernel_rfl
def P_base_Gcd (q1 q2 : ACode) : ACode := (.seq (.reg [
  ⟨some 4, none, .mv (.c (.p (.int .i64 0)))⟩] (some [0, 1]))
 (.seq (.block 0 (.loop q1))
 q2))
def a_base_Gcd : AFun := ⟨2, [.t 4], P_base_Gcd p_base_Gcd_k1 p_base_Gcd_k2, false, false⟩
def d_base_Gcd (C : Hd) (gl : Nat → Option PV) (q1 q2 : ACode) (v0 v1 : AV) (h : Heap) (x : Esc) (K : Ex → St → Prop) : Prop :=
 NW C gl (.loop q1) ⟨[(0, v0), (1, v1)], h, x⟩ (blockN 0 (seqN C gl q2 K))
theorem E_base_Gcd {C gl q1 q2 v0 v1 h x K} : NW C gl (P_base_Gcd q1 q2) ⟨enter [v0, v1], h, x⟩ K = d_base_Gcd C gl q1 q2 v0 v1 h x K := by kernel_rfl
theorem e_base_Gcd {C gl v0 v1 h x K} : NW C gl a_base_Gcd.body ⟨enter [v0, v1], h, x⟩ K = d_base_Gcd C gl p_base_Gcd_k1 p_base_Gcd_k2 v0 v1 h x K := E_base_Gcd
def p_lot_total_k1 : ACode := .pr [3, 6, 7, 8] (.seq (.reg [
  ⟨some 9, none, .bin .lss (.t 8) (.t 7)⟩] (some [3, 6, 7, 8, 9]))
 (.seq (.cond (.t 9) .skip
 (.exit 0))
 (.seq (.block 1 (.seq (.reg [
  ⟨some 10, none, .iaddr none (.t 6) (.t 8)⟩,
  ⟨some 11, none, .load none (.t 10)⟩,
  ⟨some 5, none, .mv (.t 11)⟩] (some [3, 5, 6, 7, 8]))
 (.reg [
  ⟨some 12, none, .mv (.t 3)⟩,
  ⟨some 13, none, .mv (.t 5)⟩,
  ⟨some 14, none, .bin .add (.t 12) (.t 13)⟩,
  ⟨some 3, none, .mv (.t 14)⟩] (some [3, 6, 7, 8]))))
 (.reg [
  ⟨some 15, none, .bin .add (.t 8) (.c (.p (.int .i64 1)))⟩,
  ⟨some 8, none, .mv (.t 15)⟩] (some [3, 6, 7, 8])))))
def d_lot_total_k1 (C : Hd) (gl : Nat → Option PV) (v3 v6 v7 v8 : AV) (h : Heap) (x : Esc) (K : Ex → St → Prop) : Prop :=
 pK (oBin .lss v8 v7) fun t1 =>
 condB t1 (pK (oIaddr none v6 v8 h) fun t2 =>
 pK (oLoad none t2 h) fun t3 =>
 pK (oBin .add v3 t3) fun t4 =>
 pK (oBin .add v8 (.p (.int .i64 1))) fun t5 =>
 K .normal ⟨[(3, t4), (6, v6), (7, v7), (8, t5)], h, x⟩)
 (K (.exit 0) ⟨[(3, v3), (6, v6), (7, v7), (8, v8), (9, t1)], h, x⟩)
theorem e_lot_total_k1 {C gl e h x K} : NW C gl p_lot_total_k1 ⟨e, h, x⟩ K = d_lot_total_k1 C gl (aget e 3) (aget e 6) (aget e 7) (aget e 8) h x K := by kernel_rfl
theorem l_lot_total_k1 {C gl e h x K} : NW C gl (.loop p_lot_total_k1) ⟨e, h, x⟩ K = NLoop C gl p_lot_total_k1 K [(3, aget e 3), (6, aget e 6), (7, aget e 7), (8, aget e 8)] h x := NLoop_pr
def p_lot_total_k2 : ACode := .pr [3] (.seq (.reg [
  ⟨some 16, none, .mv (.t 3)⟩,
  ⟨some 2, none, .mv (.t 16)⟩] (some [2]))
 .ret)
def d_lot_total_k2 (C : Hd) (gl : Nat → Option PV) (v3 : AV) (h : Heap) (x : Esc) (K : Ex → St → Prop) : Prop :=
 K .ret ⟨[(2, v3)], h, x⟩
theorem e_lot_total_k2 {C gl e h x K} : NW C gl p_lot_total_k2 ⟨e, h, x⟩ K = d_lot_total_k2 C gl (aget e 3) h x K := by kernel_rfl
def P_lot_total (q1 q2 : ACode) : ACode := (.seq (.reg [
  ⟨some 2, none, .mv (.c (.p (.int .i64 0)))⟩] (some [0]))
 (.seq (.reg [
  ⟨some 3, none, .mv (.c (.p (.int .i64 0)))⟩] (some [0, 3]))
 (.seq (.seq (.reg [
  ⟨some 6, none, .mv (.t 0)⟩,
  ⟨some 7, none, .len (.t 6)⟩,
  ⟨some 8, none, .mv (.c (.p (.int .i64 0)))⟩] (some [3, 6, 7, 8]))
 (.block 0 (.loop q1)))
 q2)))
def a_lot_total : AFun := ⟨1, [.t 2], P_lot_total p_lot_total_k1 p_lot_total_k2, false, false⟩
def d_lot_total (C : Hd) (gl : Nat → Option PV) (q1 q2 : ACode) (v0 : AV) (h : Heap) (x : Esc) (K : Ex → St → Prop) : Prop :=
 pK (oLen v0) fun t1 =>
 NW C gl (.loop q1) ⟨[(3, (.p (.int .i64 0))), (6, v0), (7, t1), (8, (.p (.int .i64 0)))], h, x⟩ (blockN 0 (seqN C gl q2 K))
theorem E_lot_total {C gl q1 q2 v0 h x K} : NW C gl (P_lot_total q1 q2) ⟨enter [v0], h, x⟩ K = d_lot_total C gl q1 q2 v0 h x K := by kernel_rfl
theorem e_lot_total {C gl v0 h x K} : NW C gl a_lot_total.body ⟨enter [v0], h, x⟩ K = d_lot_total C gl p_lot_total_k1 p_lot_total_k2 v0 h x K := E_lot_total
def P_lot_factor : ACode := (.seq (.reg [
  ⟨some 2, none, .mv (.c (.p (.int .i64 0)))⟩] (some [0]))
 (.seq (.reg [
  ⟨some 3, none, .build [.p (.int .i64 0), .p (.int .i64 0), .p (.int .i64 0), .p (.int .i64 0), .p (.int .i64 0), .p (.int .i64 0), .p (.int .i64 0), .p (.int .i64 0), .p (.int .i64 0)] [(0, 1, (.c (.p (.int .i64 188)))), (1, 1, (.c (.p (.int .i64 102)))), (2, 1, (.c (.p (.int .i64 73)))), (3, 1, (.c (.p (.int .i64 58)))), (4, 1, (.c (.p (.int .i64 48)))), (5, 1, (.c (.p (.int .i64 42)))), (6, 1, (.c (.p (.int .i64 37)))), (7, 1, (.c (.p (.int .i64 34)))), (8, 1, (.c (.p (.int .i64 31))))]⟩,
  ⟨some 4, none, .mv (.t 0)⟩,
  ⟨some 5, none, .bin .sub (.t 4) (.c (.p (.int .i64 2)))⟩,
  ⟨some 6, none, .idxa 9 none (.t 3) (.t 5)⟩,
  ⟨some 2, none, .mv (.t 6)⟩] (some [2]))
 .ret))
def a_lot_factor : AFun := ⟨1, [.t 2], P_lot_factor, false, false⟩
def d_lot_factor (C : Hd) (gl : Nat → Option PV) (v0 : AV) (h : Heap) (x : Esc) (K : Ex → St → Prop) : Prop :=
 pK (oBuild [.p (.int .i64 0), .p (.int .i64 0), .p (.int .i64 0), .p (.int .i64 0), .p (.int .i64 0), .p (.int .i64 0), .p (.int .i64 0), .p (.int .i64 0), .p (.int .i64 0)] [(0, 1, (.p (.int .i64 188))), (1, 1, (.p (.int .i64 102))), (2, 1, (.p (.int .i64 73))), (3, 1, (.p (.int .i64 58))), (4, 1, (.p (.int .i64 48))), (5, 1, (.p (.int .i64 42))), (6, 1, (.p (.int .i64 37))), (7, 1, (.p (.int .i64 34))), (8, 1, (.p (.int .i64 31)))]) fun t1 =>
 pK (oBin .sub v0 (.p (.int .i64 2))) fun t2 =>
 pK (oIdxa 9 none t1 t2) fun t3 =>
 K .ret ⟨[(2, t3)], h, x⟩
theorem E_lot_factor {C gl v0 h x K} : NW C gl (P_lot_factor) ⟨enter [v0], h, x⟩ K = d_lot_factor C gl v0 h x K := by kernel_rfl
theorem e_lot_factor {C gl v0 h x K} : NW C gl a_lot_factor.body ⟨enter [v0], h, x⟩ K = d_lot_factor C gl v0 h x K := E_lot_factor
def p_slices_Max_int_int_k1 : ACode := .pr [0, 3, 4] (.seq (.seq (.reg [
  ⟨some 12, none, .mv (.t 4)⟩,
  ⟨some 13, none, .mv (.t 0)⟩,
  ⟨some 14, none, .len (.t 13)⟩,
  ⟨some 15, none, .bin .lss (.t 12) (.t 14)⟩] (some [0, 3, 4, 15]))
 (.cond (.t 15) .skip
 (.exit 0)))
 (.seq (.block 1 (.reg [
  ⟨some 18, none, .mv (.t 3)⟩,
  ⟨some 19, none, .mv (.t 0)⟩,
  ⟨some 20, none, .mv (.t 4)⟩,
  ⟨some 21, none, .iaddr none (.t 19) (.t 20)⟩,
  ⟨some 22, none, .load none (.t 21)⟩,
  ⟨some 23, none, .mx [(.t 18), (.t 22)]⟩,
  ⟨some 3, none, .mv (.t 23)⟩] (some [0, 3, 4])))
 (.reg [
  ⟨some 16, none, .mv (.t 4)⟩,
  ⟨some 17, none, .bin .add (.t 16) (.c (.p (.int .i64 1)))⟩,
  ⟨some 4, none, .mv (.t 17)⟩] (some [0, 3, 4]))))
def d_slices_Max_int_int_k1 (C : Hd) (gl : Nat → Option PV) (v0 v3 v4 : AV) (h : Heap) (x : Esc) (K : Ex → St → Prop) : Prop :=
 pK (oLen v0) fun t1 =>
 pK (oBin .lss v4 t1) fun t2 =>
 condB t2 (pK (oIaddr none v0 v4 h) fun t3 =>
 pK (oLoad none t3 h) fun t4 =>
 pK (oMx [v3, t4]) fun t5 =>
 pK (oBin .add v4 (.p (.int .i64 1))) fun t6 =>
 K .normal ⟨[(0, v0), (3, t5), (4, t6)], h, x⟩)
 (K (.exit 0) ⟨[(0, v0), (3, v3), (4, v4), (15, t2)], h, x⟩)
theorem e_slices_Max_int_int_k1 {C gl e h x K} : NW C gl p_slices_Max_int_int_k1 ⟨e, h, x⟩ K = d_slices_Max_int_int_k1 C gl (aget e 0) (aget e 3) (aget e 4) h x K := by kernel_rfl
theorem l_slices_Max_int_int_k1 {C gl e h x K} : NW C gl (.loop p_slices_Max_int_int_k1) ⟨e, h, x⟩ K = NLoop C gl p_slices_Max_int_int_k1 K [(0, aget e 0), (3, aget e 3), (4, aget e 4)] h x := NLoop_pr
def p_slices_Max_int_int_k2 : ACode := .pr [3] (.seq (.reg [
  ⟨some 24, none, .mv (.t 3)⟩,
  ⟨some 2, none, .mv (.t 24)⟩] (some [2]))
 .ret)
def d_slices_Max_int_int_k2 (C : Hd) (gl : Nat → Option PV) (v3 : AV) (h : Heap) (x : Esc) (K : Ex → St → Prop) : Prop :=
 K .ret ⟨[(2, v3)], h, x⟩
theorem e_slices_Max_int_int_k2 {C gl e h x K} : NW C gl p_slices_Max_int_int_k2 ⟨e, h, x⟩ K = d_slices_Max_int_int_k2 C gl (aget e 3) h x K := by kernel_rfl
def P_slices_Max_int_int (q1 q2 : ACode) : ACode := (.seq (.reg [
  ⟨some 2, none, .mv (.c (.p (.int .i64 0)))⟩] (some [0]))
 (.seq (.seq (.reg [
  ⟨some 5, none, .mv (.t 0)⟩,
  ⟨some 6, none, .len (.t 5)⟩,
  ⟨some 7, none, .bin .lss (.t 6) (.c (.p (.int .i64 1)))⟩] (some [0, 7]))
 (.cond (.t 7) .bad
 .skip))
 (.seq (.reg [
  ⟨some 9, none, .mv (.t 0)⟩,
  ⟨some 10, none, .iaddr none (.t 9) (.c (.p (.int .i64 0)))⟩,
  ⟨some 11, none, .load none (.t 10)⟩,
  ⟨some 3, none, .mv (.t 11)⟩] (some [0, 3]))
 (.seq (.seq (.reg [
  ⟨some 4, none, .mv (.c (.p (.int .i64 1)))⟩] (some [0, 3, 4]))
 (.block 0 (.loop q1)))
 q2))))
def a_slices_Max_int_int : AFun := ⟨1, [.t 2], P_slices_Max_int_int p_slices_Max_int_int_k1 p_slices_Max_int_int_k2, false, false⟩
def d_slices_Max_int_int (C : Hd) (gl : Nat → Option PV) (q1 q2 : ACode) (v0 : AV) (h : Heap) (x : Esc) (K : Ex → St → Prop) : Prop :=
 pK (oLen v0) fun t1 =>
 pK (oBin .lss t1 (.p (.int .i64 1))) fun t2 =>
 condB t2 (False)
 (pK (oIaddr none v0 (.p (.int .i64 0)) h) fun t3 =>
 pK (oLoad none t3 h) fun t4 =>
 NW C gl (.loop q1) ⟨[(0, v0), (3, t4), (4, (.p (.int .i64 1)))], h, x⟩ (blockN 0 (seqN C gl q2 K)))
theorem E_slices_Max_int_int {C gl q1 q2 v0 h x K} : NW C gl (P_slices_Max_int_int q1 q2) ⟨enter [v0], h, x⟩ K = d_slices_Max_int_int C gl q1 q2 v0 h x K := by kernel_rfl
theorem e_slices_Max_int_int {C gl v0 h x K} : NW C gl a_slices_Max_int_int.body ⟨enter [v0], h, x⟩ K = d_slices_Max_int_int C gl p_slices_Max_int_int_k1 p_slices_Max_int_int_k2 v0 h x K := E_slices_Max_int_int
def p_slices_Min_int_int_k1 : ACode := .pr [0, 3, 4] (.seq (.seq (.reg [
  ⟨some 12, none, .mv (.t 4)⟩,
  ⟨some 13, none, .mv (.t 0)⟩,
  ⟨some 14, none, .len (.t 13)⟩,
  ⟨some 15, none, .bin .lss (.t 12) (.t 14)⟩] (some [0, 3, 4, 15]))
 (.cond (.t 15) .skip
 (.exit 0)))
 (.seq (.block 1 (.reg [
  ⟨some 18, none, .mv (.t 3)⟩,
  ⟨some 19, none, .mv (.t 0)⟩,
  ⟨some 20, none, .mv (.t 4)⟩,
  ⟨some 21, none, .iaddr none (.t 19) (.t 20)⟩,
  ⟨some 22, none, .load none (.t 21)⟩,
  ⟨some 23, none, .mn [(.t 18), (.t 22)]⟩,
  ⟨some 3, none, .mv (.t 23)⟩] (some [0, 3, 4])))
 (.reg [
  ⟨some 16, none, .mv (.t 4)⟩,
  ⟨some 17, none, .bin .add (.t 16) (.c (.p (.int .i64 1)))⟩,
  ⟨some 4, none, .mv (.t 17)⟩] (some [0, 3, 4]))))
def d_slices_Min_int_int_k1 (C : Hd) (gl : Nat → Option PV) (v0 v3 v4 : AV) (h : Heap) (x : Esc) (K : Ex → St → Prop) : Prop :=
 pK (oLen v0) fun t1 =>
 pK (oBin .lss v4 t1) fun t2 =>
 condB t2 (pK (oIaddr none v0 v4 h) fun t3 =>
 pK (oLoad none t3 h) fun t4 =>
 pK (oMn [v3, t4]) fun t5 =>
 pK (oBin .add v4 (.p (.int .i64 1))) fun t6 =>
 K .normal ⟨[(0, v0), (3, t5), (4, t6)], h, x⟩)
 (K (.exit 0) ⟨[(0, v0), (3, v3), (4, v4), (15, t2)], h, x⟩)
theorem e_slices_Min_int_int_k1 {C gl e h x K} : NW C gl p_slices_Min_int_int_k1 ⟨e, h, x⟩ K = d_slices_Min_int_int_k1 C gl (aget e 0) (aget e 3) (aget e 4) h x K := by kernel_rfl
theorem l_slices_Min_int_int_k1 {C gl e h x K} : NW C gl (.loop p_slices_Min_int_int_k1) ⟨e, h, x⟩ K = NLoop C gl p_slices_Min_int_int_k1 K [(0, aget e 0), (3, aget e 3), (4, aget e 4)] h x := NLoop_pr
def p_slices_Min_int_int_k2 : ACode := .pr [3] (.seq (.reg [
  ⟨some 24, none, .mv (.t 3)⟩,
  ⟨some 2, none, .mv (.t 24)⟩] (some [2]))
 .ret)
def d_slices_Min_int_int_k2 (C : Hd) (gl : Nat → Option PV) (v3 : AV) (h : Heap) (x : Esc) (K : Ex → St → Prop) : Prop :=
 K .ret ⟨[(2, v3)], h, x⟩
theorem e_slices_Min_int_int_k2 {C gl e h x K} : NW C gl p_slices_Min_int_int_k2 ⟨e, h, x⟩ K = d_slices_Min_int_int_k2 C gl (aget e 3) h x K := by kernel_rfl
def P_slices_Min_int_int (q1 q2 : ACode) : ACode := (.seq (.reg [
  ⟨some 2, none, .mv (.c (.p (.int .i64 0)))⟩] (some [0]))
 (.seq (.seq (.reg [
  ⟨some 5, none, .mv (.t 0)⟩,
  ⟨some 6, none, .len (.t 5)⟩,
  ⟨some 7, none, .bin .lss (.t 6) (.c (.p (.int .i64 1)))⟩] (some [0, 7]))
 (.cond (.t 7) .bad
 .skip))
 (.seq (.reg [
  ⟨some 9, none, .mv (.t 0)⟩,
  ⟨some 10, none, .iaddr none (.t 9) (.c (.p (.int .i64 0)))⟩,
  ⟨some 11, none, .load none (.t 10)⟩,
  ⟨some 3, none, .mv (.t 11)⟩] (some [0, 3]))
 (.seq (.seq (.reg [
  ⟨some 4, none, .mv (.c (.p (.int .i64 1)))⟩] (some [0, 3, 4]))
 (.block 0 (.loop q1)))
 q2))))
def a_slices_Min_int_int : AFun := ⟨1, [.t 2], P_slices_Min_int_int p_slices_Min_int_int_k1 p_slices_Min_int_int_k2, false, false⟩
def d_slices_Min_int_int (C : Hd) (gl : Nat → Option PV) (q1 q2 : ACode) (v0 : AV) (h : Heap) (x : Esc) (K : Ex → St → Prop) : Prop :=
 pK (oLen v0) fun t1 =>
 pK (oBin .lss t1 (.p (.int .i64 1))) fun t2 =>
 condB t2 (False)
 (pK (oIaddr none v0 (.p (.int .i64 0)) h) fun t3 =>
 pK (oLoad none t3 h) fun t4 =>
 NW C gl (.loop q1) ⟨[(0, v0), (3, t4), (4, (.p (.int .i64 1)))], h, x⟩ (blockN 0 (seqN C gl q2 K)))
theorem E_slices_Min_int_int {C gl q1 q2 v0 h x K} : NW C gl (P_slices_Min_int_int q1 q2) ⟨enter [v0], h, x⟩ K = d_slices_Min_int_int C gl q1 q2 v0 h x K := by kernel_rfl
theorem e_slices_Min_int_int {C gl v0 h x K} : NW C gl a_slices_Min_int_int.body ⟨enter [v0], h, x⟩ K = d_slices_Min_int_int C gl p_slices_Min_int_int_k1 p_slices_Min_int_int_k2 v0 h x K := E_slices_Min_int_int
def p_slices_IndexFunc_int_int_k1 : ACode := .pr [0, 1, 7, 8] (.seq (.reg [
  ⟨some 9, none, .bin .lss (.t 8) (.t 7)⟩] (some [0, 1, 7, 8, 9]))
 (.seq (.cond (.t 9) .skip
 (.exit 0))
 (.seq (.block 1 (.seq (.reg [
  ⟨some 10, none, .mv (.t 8)⟩,
  ⟨some 5, none, .mv (.t 10)⟩] (some [0, 1, 5, 7, 8]))
 (.seq (.reg [
  ⟨some 11, none, .mv (.t 1)⟩,
  ⟨some 12, none, .mv (.t 0)⟩,
  ⟨some 13, none, .mv (.t 5)⟩,
  ⟨some 14, none, .iaddr none (.t 12) (.t 13)⟩,
  ⟨some 15, none, .load none (.t 14)⟩,
  ⟨some 16, none, .callv (.t 11) [(.t 15)]⟩] (some [0, 1, 5, 7, 8, 16]))
 (.cond (.t 16) (.seq (.reg [
  ⟨some 17, none, .mv (.t 5)⟩,
  ⟨some 4, none, .mv (.t 17)⟩] (some [4]))
 .ret)
 .skip))))
 (.reg [
  ⟨some 18, none, .bin .add (.t 8) (.c (.p (.int .i64 1)))⟩,
  ⟨some 8, none, .mv (.t 18)⟩] (some [0, 1, 7, 8])))))
def d_slices_IndexFunc_int_int_k1 (C : Hd) (gl : Nat → Option PV) (v0 v1 v7 v8 : AV) (h : Heap) (x : Esc) (K : Ex → St → Prop) : Prop :=
 pK (oBin .lss v8 v7) fun t1 =>
 condB t1 (pK (oIaddr none v0 v8 h) fun t2 =>
 pK (oLoad none t2 h) fun t3 =>
 callvK C v1 [t3] h fun t4 h5 y6 =>
 condB t4 (K .ret ⟨[(4, v8)], h5, (y6 ++ x)⟩)
 (pK (oBin .add v8 (.p (.int .i64 1))) fun t7 =>
 K .normal ⟨[(0, v0), (1, v1), (7, v7), (8, t7)], h5, (y6 ++ x)⟩))
 (K (.exit 0) ⟨[(0, v0), (1, v1), (7, v7), (8, v8), (9, t1)], h, x⟩)
theorem e_slices_IndexFunc_int_int_k1 {C gl e h x K} : NW C gl p_slices_IndexFunc_int_int_k1 ⟨e, h, x⟩ K = d_slices_IndexFunc_int_int_k1 C gl (aget e 0) (aget e 1) (aget e 7) (aget e 8) h x K := by kernel_rfl
theorem l_slices_IndexFunc_int_int_k1 {C gl e h x K} : NW C gl (.loop p_slices_IndexFunc_int_int_k1) ⟨e, h, x⟩ K = NLoop C gl p_slices_IndexFunc_int_int_k1 K [(0, aget e 0), (1, aget e 1), (7, aget e 7), (8, aget e 8)] h x := NLoop_pr
def p_slices_IndexFunc_int_int_k2 : ACode := .pr [] (.seq (.reg [
  ⟨some 4, none, .mv (.c (.p (.int .i64 (-1))))⟩] (some [4]))
 .ret)
def d_slices_IndexFunc_int_int_k2 (C : Hd) (gl : Nat → Option PV) (h : Heap) (x : Esc) (K : Ex → St → Prop) : Prop :=
 K .ret ⟨[(4, (.p (.int .i64 (-1))))], h, x⟩
theorem e_slices_IndexFunc_int_int_k2 {C gl e h x K} : NW C gl p_slices_IndexFunc_int_int_k2 ⟨e, h, x⟩ K = d_slices_IndexFunc_int_int_k2 C gl h x K := by kernel_rfl
def P_slices_IndexFunc_int_int (q1 q2 : ACode) : ACode := (.seq (.reg [
  ⟨some 4, none, .mv (.c (.p (.int .i64 0)))⟩] (some [0, 1]))
 (.seq (.seq (.reg [
  ⟨some 6, none, .mv (.t 0)⟩,
  ⟨some 7, none, .len (.t 6)⟩,
  ⟨some 8, none, .mv (.c (.p (.int .i64 0)))⟩] (some [0, 1, 7, 8]))
 (.block 0 (.loop q1)))
 q2))
def a_slices_IndexFunc_int_int : AFun := ⟨2, [.t 4], P_slices_IndexFunc_int_int p_slices_IndexFunc_int_int_k1 p_slices_IndexFunc_int_int_k2, false, false⟩
def d_slices_IndexFunc_int_int (C : Hd) (gl : Nat → Option PV) (q1 q2 : ACode) (v0 v1 : AV) (h : Heap) (x : Esc) (K : Ex → St → Prop) : Prop :=
 pK (oLen v0) fun t1 =>
 NW C gl (.loop q1) ⟨[(0, v0), (1, v1), (7, t1), (8, (.p (.int .i64 0)))], h, x⟩ (blockN 0 (seqN C gl q2 K))
theorem E_slices_IndexFunc_int_int {C gl q1 q2 v0 v1 h x K} : NW C gl (P_slices_IndexFunc_int_int q1 q2) ⟨enter [v0, v1], h, x⟩ K = d_slices_IndexFunc_int_int C gl q1 q2 v0 v1 h x K := by kernel_rfl
theorem e_slices_IndexFunc_int_int {C gl v0 v1 h x K} : NW C gl a_slices_IndexFunc_int_int.body ⟨enter [v0, v1], h, x⟩ K = d_slices_IndexFunc_int_int C gl p_slices_IndexFunc_int_int_k1 p_slices_IndexFunc_int_int_k2 v0 v1 h x K := E_slices_IndexFunc_int_int
def P_cmp_isNaN_int : ACode := (.seq (.reg [
  ⟨some 2, none, .mv (.c (.p (.bool false)))⟩] (some [0]))
 (.seq (.reg [
  ⟨some 3, none, .mv (.t 0)⟩,
  ⟨some 4, none, .mv (.t 0)⟩,
  ⟨some 5, none, .bin .neq (.t 3) (.t 4)⟩,
  ⟨some 2, none, .mv (.t 5)⟩] (some [2]))
 .ret))
def a_cmp_isNaN_int : AFun := ⟨1, [.t 2], P_cmp_isNaN_int, false, false⟩
def d_cmp_isNaN_int (C : Hd) (gl : Nat → Option PV) (v0 : AV) (h : Heap) (x : Esc) (K : Ex → St → Prop) : Prop :=
 pK (oBin .neq v0 v0) fun t1 =>
 K .ret ⟨[(2, t1)], h, x⟩
theorem E_cmp_isNaN_int {C gl v0 h x K} : NW C gl (P_cmp_isNaN_int) ⟨enter [v0], h, x⟩ K = d_cmp_isNaN_int C gl v0 h x K := by kernel_rfl
theorem e_cmp_isNaN_int {C gl v0 h x K} : NW C gl a_cmp_isNaN_int.body ⟨enter [v0], h, x⟩ K = d_cmp_isNaN_int C gl v0 h x K := E_cmp_isNaN_int
end Go.Am
