/- Texts of the proof, laid together: CodesC, CodesD. -/
import Derived.KernelRfl
import Derived.Test.YtfaalgbponfmgaaGreatlawRS6
set_option linter.all false
section
/- The functions as abstract code, and as formulas over their values: printed by program out of the translation. -/
set_option linter.unusedVariables false
set_option maxRecDepth 100000
namespace Go.Am
def p_scanref2_fails_k1 : ACode := .pr [0, 7, 8, 9] (.seq (.reg [
  ⟨some 10, none, .bin .lss (.t 9) (.t 8)⟩] (some [0, 7, 8, 9, 10]))
 (.seq (.cond (.t 10) .skip
 (.exit 0))
 (.seq (.block 1 (.seq (.reg [
  ⟨some 11, none, .mv (.t 9)⟩,
  ⟨some 12, none, .iaddr none (.t 7) (.t 9)⟩,
  ⟨some 13, none, .load none (.t 12)⟩,
  ⟨some 5, none, .mv (.t 11)⟩,
  ⟨some 6, none, .mv (.t 13)⟩] (some [0, 5, 6, 7, 8, 9]))
 (.seq (.draw [
   ⟨⟨some 14, none, .mv (.t 5)⟩, [5], false, [], []⟩,
   ⟨⟨some 15, none, .mv (.t 0)⟩, [0], false, [], []⟩,
   ⟨⟨some 16, none, .len (.t 15)⟩, [15], false, [], []⟩,
   ⟨⟨some 17, none, .bin .lss (.t 14) (.t 16)⟩, [14, 16], false, [], []⟩,
   ⟨⟨some 18, none, .mv (.t 17)⟩, [17], false, [], []⟩,
   ⟨⟨some 19, (some (18, true)), .mv (.t 6)⟩, [6, 18], false, [], []⟩,
   ⟨⟨some 20, (some (18, true)), .mv (.t 0)⟩, [0, 18], false, [], []⟩,
   ⟨⟨some 21, (some (18, true)), .mv (.t 5)⟩, [5, 18], false, [], []⟩,
   ⟨⟨some 22, (some (18, true)), .iaddr (some 4) (.t 20) (.t 21)⟩, [20, 21, 18], false, [], []⟩,
   ⟨⟨some 23, (some (18, true)), .faddr 1 none (.t 22)⟩, [22, 18], false, [], []⟩,
   ⟨⟨some 24, (some (18, true)), .load none (.t 23)⟩, [23, 18], false, [], []⟩,
   ⟨⟨some 25, (some (18, true)), .mv (.t 0)⟩, [0, 18], false, [], []⟩,
   ⟨⟨some 26, (some (18, true)), .mv (.t 5)⟩, [5, 18], false, [], []⟩,
   ⟨⟨some 27, (some (18, true)), .iaddr (some 4) (.t 25) (.t 26)⟩, [25, 26, 18], false, [], []⟩,
   ⟨⟨some 28, (some (18, true)), .faddr 2 none (.t 27)⟩, [27, 18], false, [], []⟩,
   ⟨⟨some 29, (some (18, true)), .load none (.t 28)⟩, [28, 18], false, [], []⟩,
   ⟨⟨some 30, (some (18, true)), .call f_scanref2_in [(.t 19), (.t 24), (.t 29)]⟩, [19, 24, 29, 18], true, [], []⟩,
   ⟨⟨some 31, (some (18, true)), .un .not (.t 30)⟩, [30, 18], false, [], []⟩,
   ⟨⟨some 32, none, .pick (.t 18) (.t 31) (.c (.p (.bool false)))⟩, [18, 31], false, [], []⟩] (some [0, 5, 7, 8, 9, 32]))
 (.cond (.t 32) (.seq (.reg [
  ⟨some 33, none, .mv (.t 5)⟩,
  ⟨some 4, none, .mv (.t 33)⟩] (some [4]))
 .ret)
 .skip))))
 (.reg [
  ⟨some 34, none, .bin .add (.t 9) (.c (.p (.int .i64 1)))⟩,
  ⟨some 9, none, .mv (.t 34)⟩] (some [0, 7, 8, 9])))))
def d_scanref2_fails_k1 (C : Hd) (gl : Nat → Option PV) (v0 v7 v8 v9 : AV) (h : Heap) (x : Esc) (K : Ex → St → Prop) : Prop :=
 pK (oBin .lss v9 v8) fun t1 =>
 condB t1 (pK (oIaddr none v7 v9 h) fun t2 =>
 pK (oLoad none t2 h) fun t3 =>
 pK (oLen v0) fun t4 =>
 pK (oBin .lss v9 t4) fun t5 =>
 gM t5 true t3 h fun t6 h7 y8 =>
 gM t5 true v0 h7 fun t9 h10 y11 =>
 gM t5 true v9 h10 fun t12 h13 y14 =>
 gP t5 true (oIaddr (some 4) t9 t12 h13) h13 fun t15 h16 y17 =>
 gP t5 true (oFaddr 1 none t15) h16 fun t18 h19 y20 =>
 gP t5 true (oLoad none t18 h19) h19 fun t21 h22 y23 =>
 gM t5 true v0 h22 fun t24 h25 y26 =>
 gM t5 true v9 h25 fun t27 h28 y29 =>
 gP t5 true (oIaddr (some 4) t24 t27 h28) h28 fun t30 h31 y32 =>
 gP t5 true (oFaddr 2 none t30) h31 fun t33 h34 y35 =>
 gP t5 true (oLoad none t33 h34) h34 fun t36 h37 y38 =>
 gV t5 true h37 (callE C f_scanref2_in [t6, t21, t36] h37) fun t39 h40 y41 =>
 gP t5 true (oUn .not t39) h40 fun t42 h43 y44 =>
 pK (oPick t5 t42 (.p (.bool false))) fun t45 =>
 condB t45 (K .ret ⟨[(4, v9)], h43, (y44 ++ (y41 ++ (y38 ++ (y35 ++ (y32 ++ (y29 ++ (y26 ++ (y23 ++ (y20 ++ (y17 ++ (y14 ++ (y11 ++ (y8 ++ x)))))))))))))⟩)
 (pK (oBin .add v9 (.p (.int .i64 1))) fun t46 =>
 K .normal ⟨[(0, v0), (7, v7), (8, v8), (9, t46)], h43, (y44 ++ (y41 ++ (y38 ++ (y35 ++ (y32 ++ (y29 ++ (y26 ++ (y23 ++ (y20 ++ (y17 ++ (y14 ++ (y11 ++ (y8 ++ x)))))))))))))⟩))
 (K (.exit 0) ⟨[(0, v0), (7, v7), (8, v8), (9, v9), (10, t1)], h, x⟩)
theorem e_scanref2_fails_k1 {C gl e h x K} : NW C gl p_scanref2_fails_k1 ⟨e, h, x⟩ K = d_scanref2_fails_k1 C gl (aget e 0) (aget e 7) (aget e 8) (aget e 9) h x K := by kernel_rfl
theorem l_scanref2_fails_k1 {C gl e h x K} : NW C gl (.loop p_scanref2_fails_k1) ⟨e, h, x⟩ K = NLoop C gl p_scanref2_fails_k1 K [(0, aget e 0), (7, aget e 7), (8, aget e 8), (9, aget e 9)] h x := NLoop_pr
def p_scanref2_fails_k2 : ACode := .pr [] (.seq (.reg [
  ⟨some 4, none, .mv (.c (.p (.int .i64 (-1))))⟩] (some [4]))
 .ret)
def d_scanref2_fails_k2 (C : Hd) (gl : Nat → Option PV) (h : Heap) (x : Esc) (K : Ex → St → Prop) : Prop :=
 K .ret ⟨[(4, (.p (.int .i64 (-1))))], h, x⟩
theorem e_scanref2_fails_k2 {C gl e h x K} : NW C gl p_scanref2_fails_k2 ⟨e, h, x⟩ K = d_scanref2_fails_k2 C gl h x K := by kernel_rfl
def P_scanref2_fails (q1 q2 : ACode) : ACode := (.seq (.reg [
  ⟨some 4, none, .mv (.c (.p (.int .i64 0)))⟩] (some [0, 1]))
 (.seq (.seq (.reg [
  ⟨some 7, none, .mv (.t 1)⟩,
  ⟨some 8, none, .len (.t 7)⟩,
  ⟨some 9, none, .mv (.c (.p (.int .i64 0)))⟩] (some [0, 7, 8, 9]))
 (.block 0 (.loop q1)))
 q2))
def a_scanref2_fails : AFun := ⟨2, [.t 4], P_scanref2_fails p_scanref2_fails_k1 p_scanref2_fails_k2, false, false⟩
def d_scanref2_fails (C : Hd) (gl : Nat → Option PV) (q1 q2 : ACode) (v0 v1 : AV) (h : Heap) (x : Esc) (K : Ex → St → Prop) : Prop :=
 pK (oLen v1) fun t1 =>
 NW C gl (.loop q1) ⟨[(0, v0), (7, v1), (8, t1), (9, (.p (.int .i64 0)))], h, x⟩ (blockN 0 (seqN C gl q2 K))
theorem E_scanref2_fails {C gl q1 q2 v0 v1 h x K} : NW C gl (P_scanref2_fails q1 q2) ⟨enter [v0, v1], h, x⟩ K = d_scanref2_fails C gl q1 q2 v0 v1 h x K := by kernel_rfl
theorem e_scanref2_fails {C gl v0 v1 h x K} : NW C gl a_scanref2_fails.body ⟨enter [v0, v1], h, x⟩ K = d_scanref2_fails C gl p_scanref2_fails_k1 p_scanref2_fails_k2 v0 v1 h x K := E_scanref2_fails
def p_base_Key_k1 : ACode := .pr [0, 23, 24] (.seq (.reg [
  ⟨some 25, none, .bin .lss (.t 24) (.t 23)⟩] (some [0, 23, 24, 25]))
 (.seq (.cond (.t 25) .skip
 (.exit 0))
 (.seq (.block 1 (.seq (.reg [
  ⟨some 26, none, .mv (.t 24)⟩,
  ⟨some 3, none, .mv (.t 26)⟩] (some [0, 3, 23, 24]))
 (.seq (.reg [
  ⟨some 27, none, .mv (.t 0)⟩,
  ⟨some 28, none, .mv (.t 3)⟩,
  ⟨some 29, none, .idxs (.t 27) (.t 28)⟩,
  ⟨some 4, none, .mv (.t 29)⟩] (some [0, 4, 23, 24]))
 (.seq (.reg [
  ⟨some 30, none, .mv (.t 4)⟩,
  ⟨some 31, none, .bin .geq (.t 30) (.c (.p (.int .u8 97)))⟩,
  ⟨some 32, none, .mv (.t 31)⟩,
  ⟨some 33, (some (32, true)), .mv (.t 4)⟩,
  ⟨some 34, (some (32, true)), .bin .leq (.t 33) (.c (.p (.int .u8 122)))⟩,
  ⟨some 35, none, .pick (.t 32) (.t 34) (.c (.p (.bool false)))⟩,
  ⟨some 36, none, .mv (.t 35)⟩,
  ⟨some 37, (some (36, false)), .mv (.t 4)⟩,
  ⟨some 38, (some (36, false)), .bin .geq (.t 37) (.c (.p (.int .u8 48)))⟩,
  ⟨some 39, (some (36, false)), .mv (.t 38)⟩,
  ⟨some 40, (some (39, true)), .mv (.t 4)⟩,
  ⟨some 41, (some (39, true)), .bin .leq (.t 40) (.c (.p (.int .u8 57)))⟩,
  ⟨some 42, (some (36, false)), .pick (.t 39) (.t 41) (.c (.p (.bool false)))⟩,
  ⟨some 43, none, .pick (.t 36) (.c (.p (.bool true))) (.t 42)⟩,
  ⟨some 44, none, .mv (.t 43)⟩,
  ⟨some 45, (some (44, false)), .mv (.t 4)⟩,
  ⟨some 46, (some (44, false)), .bin .eql (.t 45) (.c (.p (.int .u8 45)))⟩,
  ⟨some 47, none, .pick (.t 44) (.c (.p (.bool true))) (.t 46)⟩,
  ⟨some 48, none, .mv (.t 47)⟩,
  ⟨some 49, (some (48, false)), .mv (.t 4)⟩,
  ⟨some 50, (some (48, false)), .bin .eql (.t 49) (.c (.p (.int .u8 95)))⟩,
  ⟨some 51, none, .pick (.t 48) (.c (.p (.bool true))) (.t 50)⟩,
  ⟨some 52, none, .un .not (.t 51)⟩] (some [0, 23, 24, 52]))
 (.cond (.t 52) (.seq (.reg [
  ⟨some 2, none, .mv (.c (.p (.bool false)))⟩] (some [2]))
 .ret)
 .skip)))))
 (.reg [
  ⟨some 53, none, .bin .add (.t 24) (.c (.p (.int .i64 1)))⟩,
  ⟨some 24, none, .mv (.t 53)⟩] (some [0, 23, 24])))))
def d_base_Key_k1 (C : Hd) (gl : Nat → Option PV) (v0 v23 v24 : AV) (h : Heap) (x : Esc) (K : Ex → St → Prop) : Prop :=
 pK (oBin .lss v24 v23) fun t1 =>
 condB t1 (pK (oIdxs v0 v24) fun t2 =>
 pK (oBin .geq t2 (.p (.int .u8 97))) fun t3 =>
 gM t3 true t2 h fun t4 h5 y6 =>
 gP t3 true (oBin .leq t4 (.p (.int .u8 122))) h5 fun t7 h8 y9 =>
 pK (oPick t3 t7 (.p (.bool false))) fun t10 =>
 gM t10 false t2 h8 fun t11 h12 y13 =>
 gP t10 false (oBin .geq t11 (.p (.int .u8 48))) h12 fun t14 h15 y16 =>
 gM t10 false t14 h15 fun t17 h18 y19 =>
 gM t17 true t2 h18 fun t20 h21 y22 =>
 gP t17 true (oBin .leq t20 (.p (.int .u8 57))) h21 fun t23 h24 y25 =>
 gP t10 false (oPick t17 t23 (.p (.bool false))) h24 fun t26 h27 y28 =>
 pK (oPick t10 (.p (.bool true)) t26) fun t29 =>
 gM t29 false t2 h27 fun t30 h31 y32 =>
 gP t29 false (oBin .eql t30 (.p (.int .u8 45))) h31 fun t33 h34 y35 =>
 pK (oPick t29 (.p (.bool true)) t33) fun t36 =>
 gM t36 false t2 h34 fun t37 h38 y39 =>
 gP t36 false (oBin .eql t37 (.p (.int .u8 95))) h38 fun t40 h41 y42 =>
 pK (oPick t36 (.p (.bool true)) t40) fun t43 =>
 pK (oUn .not t43) fun t44 =>
 condB t44 (K .ret ⟨[(2, (.p (.bool false)))], h41, (y42 ++ (y39 ++ (y35 ++ (y32 ++ (y28 ++ (y25 ++ (y22 ++ (y19 ++ (y16 ++ (y13 ++ (y9 ++ (y6 ++ x))))))))))))⟩)
 (pK (oBin .add v24 (.p (.int .i64 1))) fun t45 =>
 K .normal ⟨[(0, v0), (23, v23), (24, t45)], h41, (y42 ++ (y39 ++ (y35 ++ (y32 ++ (y28 ++ (y25 ++ (y22 ++ (y19 ++ (y16 ++ (y13 ++ (y9 ++ (y6 ++ x))))))))))))⟩))
 (K (.exit 0) ⟨[(0, v0), (23, v23), (24, v24), (25, t1)], h, x⟩)
theorem e_base_Key_k1 {C gl e h x K} : NW C gl p_base_Key_k1 ⟨e, h, x⟩ K = d_base_Key_k1 C gl (aget e 0) (aget e 23) (aget e 24) h x K := by kernel_rfl
theorem l_base_Key_k1 {C gl e h x K} : NW C gl (.loop p_base_Key_k1) ⟨e, h, x⟩ K = NLoop C gl p_base_Key_k1 K [(0, aget e 0), (23, aget e 23), (24, aget e 24)] h x := NLoop_pr
def p_base_Key_k2 : ACode := .pr [] (.seq (.reg [
  ⟨some 2, none, .mv (.c (.p (.bool true)))⟩] (some [2]))
 .ret)
def d_base_Key_k2 (C : Hd) (gl : Nat → Option PV) (h : Heap) (x : Esc) (K : Ex → St → Prop) : Prop :=
 K .ret ⟨[(2, (.p (.bool true)))], h, x⟩
theorem e_base_Key_k2 {C gl e h x K} : NW C gl p_base_Key_k2 ⟨e, h, x⟩ K = d_base_Key_k2 C gl h x K := by kernel_rfl
def P_base_Key (q1 q2 : ACode) : ACode := (.seq (.reg [
  ⟨some 2, none, .mv (.c (.p (.bool false)))⟩] (some [0]))
 (.seq (.seq (.reg [
  ⟨some 5, none, .mv (.t 0)⟩,
  ⟨some 6, none, .bin .eql (.t 5) (.c (.p (.str [])))⟩,
  ⟨some 7, none, .mv (.t 6)⟩,
  ⟨some 8, (some (7, false)), .mv (.t 0)⟩,
  ⟨some 9, (some (7, false)), .lens (.t 8)⟩,
  ⟨some 10, (some (7, false)), .bin .gtr (.t 9) (.c (.p (.int .i64 40)))⟩,
  ⟨some 11, none, .pick (.t 7) (.c (.p (.bool true))) (.t 10)⟩,
  ⟨some 12, none, .mv (.t 11)⟩,
  ⟨some 13, (some (12, false)), .mv (.t 0)⟩,
  ⟨some 14, (some (12, false)), .idxs (.t 13) (.c (.p (.int .i64 0)))⟩,
  ⟨some 15, (some (12, false)), .bin .lss (.t 14) (.c (.p (.int .u8 97)))⟩,
  ⟨some 16, none, .pick (.t 12) (.c (.p (.bool true))) (.t 15)⟩,
  ⟨some 17, none, .mv (.t 16)⟩,
  ⟨some 18, (some (17, false)), .mv (.t 0)⟩,
  ⟨some 19, (some (17, false)), .idxs (.t 18) (.c (.p (.int .i64 0)))⟩,
  ⟨some 20, (some (17, false)), .bin .gtr (.t 19) (.c (.p (.int .u8 122)))⟩,
  ⟨some 21, none, .pick (.t 17) (.c (.p (.bool true))) (.t 20)⟩] (some [0, 21]))
 (.cond (.t 21) (.seq (.reg [
  ⟨some 2, none, .mv (.c (.p (.bool false)))⟩] (some [2]))
 .ret)
 .skip))
 (.seq (.seq (.reg [
  ⟨some 22, none, .mv (.t 0)⟩,
  ⟨some 23, none, .lens (.t 22)⟩,
  ⟨some 24, none, .mv (.c (.p (.int .i64 0)))⟩] (some [0, 23, 24]))
 (.block 0 (.loop q1)))
 q2)))
def a_base_Key : AFun := ⟨1, [.t 2], P_base_Key p_base_Key_k1 p_base_Key_k2, false, false⟩
def d_base_Key (C : Hd) (gl : Nat → Option PV) (q1 q2 : ACode) (v0 : AV) (h : Heap) (x : Esc) (K : Ex → St → Prop) : Prop :=
 pK (oBin .eql v0 (.p (.str []))) fun t1 =>
 gM t1 false v0 h fun t2 h3 y4 =>
 gP t1 false (oLens t2) h3 fun t5 h6 y7 =>
 gP t1 false (oBin .gtr t5 (.p (.int .i64 40))) h6 fun t8 h9 y10 =>
 pK (oPick t1 (.p (.bool true)) t8) fun t11 =>
 gM t11 false v0 h9 fun t12 h13 y14 =>
 gP t11 false (oIdxs t12 (.p (.int .i64 0))) h13 fun t15 h16 y17 =>
 gP t11 false (oBin .lss t15 (.p (.int .u8 97))) h16 fun t18 h19 y20 =>
 pK (oPick t11 (.p (.bool true)) t18) fun t21 =>
 gM t21 false v0 h19 fun t22 h23 y24 =>
 gP t21 false (oIdxs t22 (.p (.int .i64 0))) h23 fun t25 h26 y27 =>
 gP t21 false (oBin .gtr t25 (.p (.int .u8 122))) h26 fun t28 h29 y30 =>
 pK (oPick t21 (.p (.bool true)) t28) fun t31 =>
 condB t31 (K .ret ⟨[(2, (.p (.bool false)))], h29, (y30 ++ (y27 ++ (y24 ++ (y20 ++ (y17 ++ (y14 ++ (y10 ++ (y7 ++ (y4 ++ x)))))))))⟩)
 (pK (oLens v0) fun t32 =>
 NW C gl (.loop q1) ⟨[(0, v0), (23, t32), (24, (.p (.int .i64 0)))], h29, (y30 ++ (y27 ++ (y24 ++ (y20 ++ (y17 ++ (y14 ++ (y10 ++ (y7 ++ (y4 ++ x)))))))))⟩ (blockN 0 (seqN C gl q2 K)))
theorem E_base_Key {C gl q1 q2 v0 h x K} : NW C gl (P_base_Key q1 q2) ⟨enter [v0], h, x⟩ K = d_base_Key C gl q1 q2 v0 h x K := by kernel_rfl
theorem e_base_Key {C gl v0 h x K} : NW C gl a_base_Key.body ⟨enter [v0], h, x⟩ K = d_base_Key C gl p_base_Key_k1 p_base_Key_k2 v0 h x K := E_base_Key
def P_lot_find : ACode := (.seq (.reg [
  ⟨some 3, none, .box (.t 1)⟩,
  ⟨some 4, none, .mv (.c (.p (.int .i64 0)))⟩] (some [0, 3]))
 (.seq (.reg [
  ⟨some 5, none, .mv (.t 0)⟩,
  ⟨some 6, none, .mkfn f_lot_find_1 [(.t 3)]⟩,
  ⟨some 7, none, .call f_slices_IndexFunc_api_Limit_api_Limit [(.t 5), (.t 6)]⟩,
  ⟨some 4, none, .mv (.t 7)⟩] (some [4]))
 .ret))
def a_lot_find : AFun := ⟨2, [.t 4], P_lot_find, false, false⟩
def d_lot_find (C : Hd) (gl : Nat → Option PV) (v0 v1 : AV) (h : Heap) (x : Esc) (K : Ex → St → Prop) : Prop :=
 wK (oBox v1 h) fun t1 h2 y3 =>
 C f_slices_IndexFunc_api_Limit_api_Limit [v0, (.fn f_lot_find_1 [t1])] h2 fun t4 h5 y6 =>
 K .ret ⟨[(4, t4)], h5, (y6 ++ (y3 ++ x))⟩
theorem E_lot_find {C gl v0 v1 h x K} : NW C gl (P_lot_find) ⟨enter [v0, v1], h, x⟩ K = d_lot_find C gl v0 v1 h x K := by kernel_rfl
theorem e_lot_find {C gl v0 v1 h x K} : NW C gl a_lot_find.body ⟨enter [v0, v1], h, x⟩ K = d_lot_find C gl v0 v1 h x K := E_lot_find
def P_base_Out : ACode := (.seq (.reg [
  ⟨some 6, none, .mv (.c (.p (.bool false)))⟩] (some [0, 1, 2]))
 (.seq (.reg [
  ⟨some 7, none, .mv (.t 0)⟩,
  ⟨some 8, none, .mv (.t 1)⟩,
  ⟨some 9, none, .bin .lss (.t 7) (.t 8)⟩,
  ⟨some 10, none, .mv (.t 9)⟩,
  ⟨some 11, (some (10, false)), .mv (.t 0)⟩,
  ⟨some 12, (some (10, false)), .mv (.t 2)⟩,
  ⟨some 13, (some (10, false)), .bin .gtr (.t 11) (.t 12)⟩,
  ⟨some 14, none, .pick (.t 10) (.c (.p (.bool true))) (.t 13)⟩,
  ⟨some 6, none, .mv (.t 14)⟩] (some [6]))
 .ret))
def a_base_Out : AFun := ⟨3, [.t 6], P_base_Out, false, false⟩
def d_base_Out (C : Hd) (gl : Nat → Option PV) (v0 v1 v2 : AV) (h : Heap) (x : Esc) (K : Ex → St → Prop) : Prop :=
 pK (oBin .lss v0 v1) fun t1 =>
 gM t1 false v0 h fun t2 h3 y4 =>
 gM t1 false v2 h3 fun t5 h6 y7 =>
 gP t1 false (oBin .gtr t2 t5) h6 fun t8 h9 y10 =>
 pK (oPick t1 (.p (.bool true)) t8) fun t11 =>
 K .ret ⟨[(6, t11)], h9, (y10 ++ (y7 ++ (y4 ++ x)))⟩
theorem E_base_Out {C gl v0 v1 v2 h x K} : NW C gl (P_base_Out) ⟨enter [v0, v1, v2], h, x⟩ K = d_base_Out C gl v0 v1 v2 h x K := by kernel_rfl
theorem e_base_Out {C gl v0 v1 v2 h x K} : NW C gl a_base_Out.body ⟨enter [v0, v1, v2], h, x⟩ K = d_base_Out C gl v0 v1 v2 h x K := E_base_Out
def P_scanref2_Key : ACode := (.seq (.reg [
  ⟨some 2, none, .mv (.c (.p (.bool false)))⟩] (some [0]))
 (.seq (.reg [
  ⟨some 3, none, .mv (.t 0)⟩,
  ⟨some 4, none, .lens (.t 3)⟩,
  ⟨some 5, none, .call f_scanref2_in [(.t 4), (.c (.p (.int .i64 1))), (.c (.p (.int .i64 40)))]⟩,
  ⟨some 6, none, .mv (.t 5)⟩,
  ⟨some 7, (some (6, true)), .mv (.t 0)⟩,
  ⟨some 8, (some (6, true)), .slstr (.t 7) none (some (.c (.p (.int .i64 1))))⟩,
  ⟨some 9, (some (6, true)), .call f_scanref2_only [(.t 8), (.c (.p (.str [97, 98, 99, 100, 101, 102, 103, 104, 105, 106, 107, 108, 109, 110, 111, 112, 113, 114, 115, 116, 117, 118, 119, 120, 121, 122])))]⟩,
  ⟨some 10, none, .pick (.t 6) (.t 9) (.c (.p (.bool false)))⟩,
  ⟨some 11, none, .mv (.t 10)⟩,
  ⟨some 12, (some (11, true)), .mv (.t 0)⟩,
  ⟨some 13, (some (11, true)), .call f_scanref2_only [(.t 12), (.c (.p (.str [97, 98, 99, 100, 101, 102, 103, 104, 105, 106, 107, 108, 109, 110, 111, 112, 113, 114, 115, 116, 117, 118, 119, 120, 121, 122, 48, 49, 50, 51, 52, 53, 54, 55, 56, 57, 45, 95])))]⟩,
  ⟨some 14, none, .pick (.t 11) (.t 13) (.c (.p (.bool false)))⟩,
  ⟨some 2, none, .mv (.t 14)⟩] (some [2]))
 .ret))
def a_scanref2_Key : AFun := ⟨1, [.t 2], P_scanref2_Key, false, false⟩
def d_scanref2_Key (C : Hd) (gl : Nat → Option PV) (v0 : AV) (h : Heap) (x : Esc) (K : Ex → St → Prop) : Prop :=
 pK (oLens v0) fun t1 =>
 C f_scanref2_in [t1, (.p (.int .i64 1)), (.p (.int .i64 40))] h fun t2 h3 y4 =>
 gM t2 true v0 h3 fun t5 h6 y7 =>
 gP t2 true (oSlstr t5 none (some (.p (.int .i64 1)))) h6 fun t8 h9 y10 =>
 gV t2 true h9 (C f_scanref2_only [t8, (.p (.str [97, 98, 99, 100, 101, 102, 103, 104, 105, 106, 107, 108, 109, 110, 111, 112, 113, 114, 115, 116, 117, 118, 119, 120, 121, 122]))] h9) fun t11 h12 y13 =>
 pK (oPick t2 t11 (.p (.bool false))) fun t14 =>
 gM t14 true v0 h12 fun t15 h16 y17 =>
 gV t14 true h16 (C f_scanref2_only [t15, (.p (.str [97, 98, 99, 100, 101, 102, 103, 104, 105, 106, 107, 108, 109, 110, 111, 112, 113, 114, 115, 116, 117, 118, 119, 120, 121, 122, 48, 49, 50, 51, 52, 53, 54, 55, 56, 57, 45, 95]))] h16) fun t18 h19 y20 =>
 pK (oPick t14 t18 (.p (.bool false))) fun t21 =>
 K .ret ⟨[(2, t21)], h19, (y20 ++ (y17 ++ (y13 ++ (y10 ++ (y7 ++ (y4 ++ x))))))⟩
theorem E_scanref2_Key {C gl v0 h x K} : NW C gl (P_scanref2_Key) ⟨enter [v0], h, x⟩ K = d_scanref2_Key C gl v0 h x K := by kernel_rfl
theorem e_scanref2_Key {C gl v0 h x K} : NW C gl a_scanref2_Key.body ⟨enter [v0], h, x⟩ K = d_scanref2_Key C gl v0 h x K := E_scanref2_Key
def P_scanref2_TestAt : ACode := (.seq (.reg [
  ⟨some 3, none, .box (.t 1)⟩,
  ⟨some 4, none, .mv (.c (.p (.int .i64 0)))⟩] (some [0, 3]))
 (.seq (.reg [
  ⟨some 5, none, .mv (.t 0)⟩,
  ⟨some 6, none, .mkfn f_scanref2_TestAt_1 [(.t 3)]⟩,
  ⟨some 7, none, .call f_slices_IndexFunc_api_Limit_api_Limit [(.t 5), (.t 6)]⟩,
  ⟨some 4, none, .mv (.t 7)⟩] (some [4]))
 .ret))
def a_scanref2_TestAt : AFun := ⟨2, [.t 4], P_scanref2_TestAt, false, false⟩
def d_scanref2_TestAt (C : Hd) (gl : Nat → Option PV) (v0 v1 : AV) (h : Heap) (x : Esc) (K : Ex → St → Prop) : Prop :=
 wK (oBox v1 h) fun t1 h2 y3 =>
 C f_slices_IndexFunc_api_Limit_api_Limit [v0, (.fn f_scanref2_TestAt_1 [t1])] h2 fun t4 h5 y6 =>
 K .ret ⟨[(4, t4)], h5, (y6 ++ (y3 ++ x))⟩
theorem E_scanref2_TestAt {C gl v0 v1 h x K} : NW C gl (P_scanref2_TestAt) ⟨enter [v0, v1], h, x⟩ K = d_scanref2_TestAt C gl v0 v1 h x K := by kernel_rfl
theorem e_scanref2_TestAt {C gl v0 v1 h x K} : NW C gl a_scanref2_TestAt.body ⟨enter [v0, v1], h, x⟩ K = d_scanref2_TestAt C gl v0 v1 h x K := E_scanref2_TestAt
def P_scanref2_in : ACode := (.seq (.reg [
  ⟨some 6, none, .mv (.c (.p (.bool false)))⟩] (some [0, 1, 2]))
 (.seq (.reg [
  ⟨some 7, none, .mv (.t 1)⟩,
  ⟨some 8, none, .mv (.t 0)⟩,
  ⟨some 9, none, .bin .leq (.t 7) (.t 8)⟩,
  ⟨some 10, none, .mv (.t 9)⟩,
  ⟨some 11, (some (10, true)), .mv (.t 0)⟩,
  ⟨some 12, (some (10, true)), .mv (.t 2)⟩,
  ⟨some 13, (some (10, true)), .bin .leq (.t 11) (.t 12)⟩,
  ⟨some 14, none, .pick (.t 10) (.t 13) (.c (.p (.bool false)))⟩,
  ⟨some 6, none, .mv (.t 14)⟩] (some [6]))
 .ret))
def a_scanref2_in : AFun := ⟨3, [.t 6], P_scanref2_in, false, false⟩
def d_scanref2_in (C : Hd) (gl : Nat → Option PV) (v0 v1 v2 : AV) (h : Heap) (x : Esc) (K : Ex → St → Prop) : Prop :=
 pK (oBin .leq v1 v0) fun t1 =>
 gM t1 true v0 h fun t2 h3 y4 =>
 gM t1 true v2 h3 fun t5 h6 y7 =>
 gP t1 true (oBin .leq t2 t5) h6 fun t8 h9 y10 =>
 pK (oPick t1 t8 (.p (.bool false))) fun t11 =>
 K .ret ⟨[(6, t11)], h9, (y10 ++ (y7 ++ (y4 ++ x)))⟩
theorem E_scanref2_in {C gl v0 v1 v2 h x K} : NW C gl (P_scanref2_in) ⟨enter [v0, v1, v2], h, x⟩ K = d_scanref2_in C gl v0 v1 v2 h x K := by kernel_rfl
theorem e_scanref2_in {C gl v0 v1 v2 h x K} : NW C gl a_scanref2_in.body ⟨enter [v0, v1, v2], h, x⟩ K = d_scanref2_in C gl v0 v1 v2 h x K := E_scanref2_in
def p_lot_recordsFault_k1 : ACode := .pr [0, 1, 11, 12, 13] (.seq (.reg [
  ⟨some 14, none, .bin .lss (.t 13) (.t 12)⟩] (some [0, 1, 11, 12, 13, 14]))
 (.seq (.cond (.t 14) .skip
 (.exit 0))
 (.seq (.block 1 (.seq (.reg [
  ⟨some 15, none, .mv (.t 13)⟩,
  ⟨some 16, none, .iaddr (some 4) (.t 11) (.t 13)⟩,
  ⟨some 17, none, .load (some 4) (.t 16)⟩,
  ⟨some 6, none, .alloc [.p (.str []), .p (.int .i64 0), .p (.str []), .sl0 none]⟩,
  ⟨some 5, none, .mv (.t 15)⟩,
  ⟨none, none, .store (some 4) (.t 6) (.t 17)⟩] (some [0, 1, 5, 6, 11, 12, 13]))
 (.seq (.seq (.reg [
  ⟨some 18, none, .mv (.t 0)⟩,
  ⟨some 19, none, .load (some 4) (.t 6)⟩,
  ⟨some 20, none, .call f_lot_recordFault [(.t 18), (.t 19)]⟩,
  ⟨some 7, none, .mv (.t 20)⟩] (some [0, 1, 5, 6, 7, 11, 12, 13]))
 (.seq (.reg [
  ⟨some 21, none, .mv (.t 7)⟩,
  ⟨some 22, none, .bin .neq (.t 21) (.c (.p (.int .i64 0)))⟩] (some [0, 1, 5, 6, 7, 11, 12, 13, 22]))
 (.cond (.t 22) (.seq (.reg [
  ⟨some 23, none, .mv (.t 7)⟩,
  ⟨some 4, none, .mv (.t 23)⟩] (some [4]))
 .ret)
 .skip)))
 (.seq (.draw [
   ⟨⟨some 24, none, .mv (.t 5)⟩, [5], false, [], []⟩,
   ⟨⟨some 25, none, .bin .gtr (.t 24) (.c (.p (.int .i64 0)))⟩, [24], false, [], []⟩,
   ⟨⟨some 26, none, .mv (.t 25)⟩, [25], false, [], []⟩,
   ⟨⟨some 27, (some (26, true)), .load (some 4) (.t 6)⟩, [6, 26], false, [], []⟩,
   ⟨⟨some 28, (some (26, true)), .mv (.t 1)⟩, [1, 26], false, [], []⟩,
   ⟨⟨some 29, (some (26, true)), .mv (.t 5)⟩, [5, 26], false, [], []⟩,
   ⟨⟨some 30, (some (26, true)), .bin .sub (.t 29) (.c (.p (.int .i64 1)))⟩, [29, 26], false, [], []⟩,
   ⟨⟨some 31, (some (26, true)), .iaddr (some 4) (.t 28) (.t 30)⟩, [28, 30, 26], false, [], []⟩,
   ⟨⟨some 32, (some (26, true)), .load (some 4) (.t 31)⟩, [31, 26], false, [], []⟩,
   ⟨⟨some 33, (some (26, true)), .call f_lot_byTime [(.t 27), (.t 32)]⟩, [27, 32, 26], true, [], []⟩,
   ⟨⟨some 34, (some (26, true)), .bin .leq (.t 33) (.c (.p (.int .i64 0)))⟩, [33, 26], false, [], []⟩,
   ⟨⟨some 35, none, .pick (.t 26) (.t 34) (.c (.p (.bool false)))⟩, [26, 34], false, [], []⟩] (some [0, 1, 11, 12, 13, 35]))
 (.cond (.t 35) (.seq (.reg [
  ⟨some 4, none, .mv (.c (.p (.int .i64 7)))⟩] (some [4]))
 .ret)
 .skip)))))
 (.reg [
  ⟨some 36, none, .bin .add (.t 13) (.c (.p (.int .i64 1)))⟩,
  ⟨some 13, none, .mv (.t 36)⟩] (some [0, 1, 11, 12, 13])))))
def d_lot_recordsFault_k1 (C : Hd) (gl : Nat → Option PV) (v0 v1 v11 v12 v13 : AV) (h : Heap) (x : Esc) (K : Ex → St → Prop) : Prop :=
 pK (oBin .lss v13 v12) fun t1 =>
 condB t1 (pK (oIaddr (some 4) v11 v13 h) fun t2 =>
 pK (oLoad (some 4) t2 h) fun t3 =>
 alK [.p (.str []), .p (.int .i64 0), .p (.str []), .sl0 none] h fun t4 h5 y6 =>
 wK (oStore (some 4) t4 t3 h5) fun t7 h8 y9 =>
 pK (oLoad (some 4) t4 h8) fun t10 =>
 C f_lot_recordFault [v0, t10] h8 fun t11 h12 y13 =>
 pK (oBin .neq t11 (.p (.int .i64 0))) fun t14 =>
 condB t14 (K .ret ⟨[(4, t11)], h12, (y13 ++ (y9 ++ (y6 ++ x)))⟩)
 (pK (oBin .gtr v13 (.p (.int .i64 0))) fun t15 =>
 gP t15 true (oLoad (some 4) t4 h12) h12 fun t16 h17 y18 =>
 gM t15 true v1 h17 fun t19 h20 y21 =>
 gM t15 true v13 h20 fun t22 h23 y24 =>
 gP t15 true (oBin .sub t22 (.p (.int .i64 1))) h23 fun t25 h26 y27 =>
 gP t15 true (oIaddr (some 4) t19 t25 h26) h26 fun t28 h29 y30 =>
 gP t15 true (oLoad (some 4) t28 h29) h29 fun t31 h32 y33 =>
 gV t15 true h32 (callE C f_lot_byTime [t16, t31] h32) fun t34 h35 y36 =>
 gP t15 true (oBin .leq t34 (.p (.int .i64 0))) h35 fun t37 h38 y39 =>
 pK (oPick t15 t37 (.p (.bool false))) fun t40 =>
 condB t40 (K .ret ⟨[(4, (.p (.int .i64 7)))], h38, (y39 ++ (y36 ++ (y33 ++ (y30 ++ (y27 ++ (y24 ++ (y21 ++ (y18 ++ (y13 ++ (y9 ++ (y6 ++ x)))))))))))⟩)
 (pK (oBin .add v13 (.p (.int .i64 1))) fun t41 =>
 K .normal ⟨[(0, v0), (1, v1), (11, v11), (12, v12), (13, t41)], h38, (y39 ++ (y36 ++ (y33 ++ (y30 ++ (y27 ++ (y24 ++ (y21 ++ (y18 ++ (y13 ++ (y9 ++ (y6 ++ x)))))))))))⟩)))
 (K (.exit 0) ⟨[(0, v0), (1, v1), (11, v11), (12, v12), (13, v13), (14, t1)], h, x⟩)
theorem e_lot_recordsFault_k1 {C gl e h x K} : NW C gl p_lot_recordsFault_k1 ⟨e, h, x⟩ K = d_lot_recordsFault_k1 C gl (aget e 0) (aget e 1) (aget e 11) (aget e 12) (aget e 13) h x K := by kernel_rfl
theorem l_lot_recordsFault_k1 {C gl e h x K} : NW C gl (.loop (.scope p_lot_recordsFault_k1)) ⟨e, h, x⟩ K = NLoop C gl (.scope p_lot_recordsFault_k1) K [(0, aget e 0), (1, aget e 1), (11, aget e 11), (12, aget e 12), (13, aget e 13)] h x := NLoop_sc
def p_lot_recordsFault_k2 : ACode := .pr [] (.seq (.reg [
  ⟨some 4, none, .mv (.c (.p (.int .i64 0)))⟩] (some [4]))
 .ret)
def d_lot_recordsFault_k2 (C : Hd) (gl : Nat → Option PV) (h : Heap) (x : Esc) (K : Ex → St → Prop) : Prop :=
 K .ret ⟨[(4, (.p (.int .i64 0)))], h, x⟩
theorem e_lot_recordsFault_k2 {C gl e h x K} : NW C gl p_lot_recordsFault_k2 ⟨e, h, x⟩ K = d_lot_recordsFault_k2 C gl h x K := by kernel_rfl
def P_lot_recordsFault (q1 q2 : ACode) : ACode := (.seq (.reg [
  ⟨some 4, none, .mv (.c (.p (.int .i64 0)))⟩] (some [0, 1]))
 (.seq (.seq (.reg [
  ⟨some 8, none, .mv (.t 1)⟩,
  ⟨some 9, none, .len (.t 8)⟩,
  ⟨some 10, none, .bin .gtr (.t 9) (.c (.p (.int .i64 5000)))⟩] (some [0, 1, 10]))
 (.cond (.t 10) (.seq (.reg [
  ⟨some 4, none, .mv (.c (.p (.int .i64 2)))⟩] (some [4]))
 .ret)
 .skip))
 (.seq (.seq (.reg [
  ⟨some 11, none, .mv (.t 1)⟩,
  ⟨some 12, none, .len (.t 11)⟩,
  ⟨some 13, none, .mv (.c (.p (.int .i64 0)))⟩] (some [0, 1, 11, 12, 13]))
 (.block 0 (.loop (.scope q1))))
 q2)))
def a_lot_recordsFault : AFun := ⟨2, [.t 4], P_lot_recordsFault p_lot_recordsFault_k1 p_lot_recordsFault_k2, false, false⟩
def d_lot_recordsFault (C : Hd) (gl : Nat → Option PV) (q1 q2 : ACode) (v0 v1 : AV) (h : Heap) (x : Esc) (K : Ex → St → Prop) : Prop :=
 pK (oLen v1) fun t1 =>
 pK (oBin .gtr t1 (.p (.int .i64 5000))) fun t2 =>
 condB t2 (K .ret ⟨[(4, (.p (.int .i64 2)))], h, x⟩)
 (pK (oLen v1) fun t3 =>
 NW C gl (.loop (.scope q1)) ⟨[(0, v0), (1, v1), (11, v1), (12, t3), (13, (.p (.int .i64 0)))], h, x⟩ (blockN 0 (seqN C gl q2 K)))
theorem E_lot_recordsFault {C gl q1 q2 v0 v1 h x K} : NW C gl (P_lot_recordsFault q1 q2) ⟨enter [v0, v1], h, x⟩ K = d_lot_recordsFault C gl q1 q2 v0 v1 h x K := by kernel_rfl
theorem e_lot_recordsFault {C gl v0 v1 h x K} : NW C gl a_lot_recordsFault.body ⟨enter [v0, v1], h, x⟩ K = d_lot_recordsFault C gl p_lot_recordsFault_k1 p_lot_recordsFault_k2 v0 v1 h x K := E_lot_recordsFault
def p_slices_Equal_int_int_k1 : ACode := .pr [0, 1, 12, 13] (.seq (.reg [
  ⟨some 14, none, .bin .lss (.t 13) (.t 12)⟩] (some [0, 1, 12, 13, 14]))
 (.seq (.cond (.t 14) .skip
 (.exit 0))
 (.seq (.block 1 (.seq (.reg [
  ⟨some 15, none, .mv (.t 13)⟩,
  ⟨some 5, none, .mv (.t 15)⟩] (some [0, 1, 5, 12, 13]))
 (.seq (.draw [
   ⟨⟨some 16, none, .mv (.t 0)⟩, [0], false, [], []⟩,
   ⟨⟨some 17, none, .mv (.t 5)⟩, [5], false, [], []⟩,
   ⟨⟨some 18, none, .iaddr none (.t 16) (.t 17)⟩, [16, 17], false, [], []⟩,
   ⟨⟨some 19, none, .load none (.t 18)⟩, [18], false, [], []⟩,
   ⟨⟨some 20, none, .mv (.t 1)⟩, [1], false, [], []⟩,
   ⟨⟨some 21, none, .mv (.t 5)⟩, [5], false, [], []⟩,
   ⟨⟨some 22, none, .iaddr none (.t 20) (.t 21)⟩, [20, 21], false, [], []⟩,
   ⟨⟨some 23, none, .load none (.t 22)⟩, [22], false, [], []⟩,
   ⟨⟨some 24, none, .bin .neq (.t 19) (.t 23)⟩, [19, 23], false, [], []⟩] (some [0, 1, 12, 13, 24]))
 (.cond (.t 24) (.seq (.reg [
  ⟨some 4, none, .mv (.c (.p (.bool false)))⟩] (some [4]))
 .ret)
 .skip))))
 (.reg [
  ⟨some 25, none, .bin .add (.t 13) (.c (.p (.int .i64 1)))⟩,
  ⟨some 13, none, .mv (.t 25)⟩] (some [0, 1, 12, 13])))))
def d_slices_Equal_int_int_k1 (C : Hd) (gl : Nat → Option PV) (v0 v1 v12 v13 : AV) (h : Heap) (x : Esc) (K : Ex → St → Prop) : Prop :=
 pK (oBin .lss v13 v12) fun t1 =>
 condB t1 (pK (oIaddr none v0 v13 h) fun t2 =>
 pK (oLoad none t2 h) fun t3 =>
 pK (oIaddr none v1 v13 h) fun t4 =>
 pK (oLoad none t4 h) fun t5 =>
 pK (oBin .neq t3 t5) fun t6 =>
 condB t6 (K .ret ⟨[(4, (.p (.bool false)))], h, x⟩)
 (pK (oBin .add v13 (.p (.int .i64 1))) fun t7 =>
 K .normal ⟨[(0, v0), (1, v1), (12, v12), (13, t7)], h, x⟩))
 (K (.exit 0) ⟨[(0, v0), (1, v1), (12, v12), (13, v13), (14, t1)], h, x⟩)
theorem e_slices_Equal_int_int_k1 {C gl e h x K} : NW C gl p_slices_Equal_int_int_k1 ⟨e, h, x⟩ K = d_slices_Equal_int_int_k1 C gl (aget e 0) (aget e 1) (aget e 12) (aget e 13) h x K := by kernel_rfl
theorem l_slices_Equal_int_int_k1 {C gl e h x K} : NW C gl (.loop p_slices_Equal_int_int_k1) ⟨e, h, x⟩ K = NLoop C gl p_slices_Equal_int_int_k1 K [(0, aget e 0), (1, aget e 1), (12, aget e 12), (13, aget e 13)] h x := NLoop_pr
def p_slices_Equal_int_int_k2 : ACode := .pr [] (.seq (.reg [
  ⟨some 4, none, .mv (.c (.p (.bool true)))⟩] (some [4]))
 .ret)
def d_slices_Equal_int_int_k2 (C : Hd) (gl : Nat → Option PV) (h : Heap) (x : Esc) (K : Ex → St → Prop) : Prop :=
 K .ret ⟨[(4, (.p (.bool true)))], h, x⟩
theorem e_slices_Equal_int_int_k2 {C gl e h x K} : NW C gl p_slices_Equal_int_int_k2 ⟨e, h, x⟩ K = d_slices_Equal_int_int_k2 C gl h x K := by kernel_rfl
def P_slices_Equal_int_int (q1 q2 : ACode) : ACode := (.seq (.reg [
  ⟨some 4, none, .mv (.c (.p (.bool false)))⟩] (some [0, 1]))
 (.seq (.seq (.reg [
  ⟨some 6, none, .mv (.t 0)⟩,
  ⟨some 7, none, .len (.t 6)⟩,
  ⟨some 8, none, .mv (.t 1)⟩,
  ⟨some 9, none, .len (.t 8)⟩,
  ⟨some 10, none, .bin .neq (.t 7) (.t 9)⟩] (some [0, 1, 10]))
 (.cond (.t 10) (.seq (.reg [
  ⟨some 4, none, .mv (.c (.p (.bool false)))⟩] (some [4]))
 .ret)
 .skip))
 (.seq (.seq (.reg [
  ⟨some 11, none, .mv (.t 0)⟩,
  ⟨some 12, none, .len (.t 11)⟩,
  ⟨some 13, none, .mv (.c (.p (.int .i64 0)))⟩] (some [0, 1, 12, 13]))
 (.block 0 (.loop q1)))
 q2)))
def a_slices_Equal_int_int : AFun := ⟨2, [.t 4], P_slices_Equal_int_int p_slices_Equal_int_int_k1 p_slices_Equal_int_int_k2, false, false⟩
def d_slices_Equal_int_int (C : Hd) (gl : Nat → Option PV) (q1 q2 : ACode) (v0 v1 : AV) (h : Heap) (x : Esc) (K : Ex → St → Prop) : Prop :=
 pK (oLen v0) fun t1 =>
 pK (oLen v1) fun t2 =>
 pK (oBin .neq t1 t2) fun t3 =>
 condB t3 (K .ret ⟨[(4, (.p (.bool false)))], h, x⟩)
 (pK (oLen v0) fun t4 =>
 NW C gl (.loop q1) ⟨[(0, v0), (1, v1), (12, t4), (13, (.p (.int .i64 0)))], h, x⟩ (blockN 0 (seqN C gl q2 K)))
theorem E_slices_Equal_int_int {C gl q1 q2 v0 v1 h x K} : NW C gl (P_slices_Equal_int_int q1 q2) ⟨enter [v0, v1], h, x⟩ K = d_slices_Equal_int_int C gl q1 q2 v0 v1 h x K := by kernel_rfl
theorem e_slices_Equal_int_int {C gl v0 v1 h x K} : NW C gl a_slices_Equal_int_int.body ⟨enter [v0, v1], h, x⟩ K = d_slices_Equal_int_int C gl p_slices_Equal_int_int_k1 p_slices_Equal_int_int_k2 v0 v1 h x K := E_slices_Equal_int_int
def P_lot_Spread : ACode := (.seq (.reg [
  ⟨some 2, none, .alloc [.p (.int .i64 0), .p (.int .i64 0)]⟩,
  ⟨some 3, none, .alloc [.p (.int .i64 0), .p (.int .i64 0)]⟩,
  ⟨some 4, none, .mv (.c (.p (.int .i64 0)))⟩] (some [0, 2, 3]))
 (.seq (.seq (.reg [
  ⟨some 9, none, .mv (.t 0)⟩,
  ⟨some 10, none, .call f_lot_valuesFault [(.t 9), (.c (.p (.int .i64 1)))]⟩,
  ⟨some 5, none, .mv (.t 10)⟩] (some [0, 2, 3, 5]))
 (.seq (.reg [
  ⟨some 11, none, .mv (.t 5)⟩,
  ⟨some 12, none, .bin .neq (.t 11) (.c (.p (.int .i64 0)))⟩] (some [0, 2, 3, 5, 12]))
 (.cond (.t 12) (.seq (.reg [
  ⟨some 13, none, .build [.p (.int .i64 0), .p (.int .i64 0)] []⟩,
  ⟨some 14, none, .build [.p (.int .i64 0), .p (.int .i64 0)] []⟩,
  ⟨some 15, none, .mv (.t 5)⟩,
  ⟨none, none, .store (some 2) (.t 2) (.t 13)⟩,
  ⟨none, none, .store (some 2) (.t 3) (.t 14)⟩,
  ⟨some 4, none, .mv (.t 15)⟩] (some [2, 3, 4]))
 .ret)
 .skip)))
 (.seq (.reg [
  ⟨some 17, none, .mv (.t 0)⟩,
  ⟨some 18, none, .call f_lot_sums [(.t 17)]⟩,
  ⟨some 16, none, .mv (.t 18)⟩,
  ⟨some 19, none, .ext (.t 16) 0⟩,
  ⟨some 20, none, .ext (.t 16) 1⟩,
  ⟨some 6, none, .mv (.t 19)⟩,
  ⟨some 7, none, .mv (.t 20)⟩] (some [0, 2, 3, 6, 7]))
 (.seq (.reg [
  ⟨some 21, none, .mv (.t 0)⟩,
  ⟨some 22, none, .len (.t 21)⟩,
  ⟨some 8, none, .mv (.t 22)⟩] (some [2, 3, 6, 7, 8]))
 (.seq (.reg [
  ⟨some 23, none, .mv (.t 6)⟩,
  ⟨some 24, none, .mv (.t 8)⟩,
  ⟨some 25, none, .call f_base_Fraction [(.t 23), (.t 24)]⟩,
  ⟨some 26, none, .mv (.t 7)⟩,
  ⟨some 27, none, .mv (.t 8)⟩,
  ⟨some 28, none, .mv (.t 8)⟩,
  ⟨some 29, none, .bin .mul (.t 27) (.t 28)⟩,
  ⟨some 30, none, .call f_base_Fraction [(.t 26), (.t 29)]⟩,
  ⟨none, none, .store (some 2) (.t 2) (.t 25)⟩,
  ⟨none, none, .store (some 2) (.t 3) (.t 30)⟩,
  ⟨some 4, none, .mv (.c (.p (.int .i64 0)))⟩] (some [2, 3, 4]))
 .ret)))))
def a_lot_Spread : AFun := ⟨1, [.cell 2 (some 2), .cell 3 (some 2), .t 4], P_lot_Spread, false, false⟩
def d_lot_Spread (C : Hd) (gl : Nat → Option PV) (v0 : AV) (h : Heap) (x : Esc) (K : Ex → St → Prop) : Prop :=
 alK [.p (.int .i64 0), .p (.int .i64 0)] h fun t1 h2 y3 =>
 alK [.p (.int .i64 0), .p (.int .i64 0)] h2 fun t4 h5 y6 =>
 C f_lot_valuesFault [v0, (.p (.int .i64 1))] h5 fun t7 h8 y9 =>
 pK (oBin .neq t7 (.p (.int .i64 0))) fun t10 =>
 condB t10 (pK (oBuild [.p (.int .i64 0), .p (.int .i64 0)] []) fun t11 =>
 pK (oBuild [.p (.int .i64 0), .p (.int .i64 0)] []) fun t12 =>
 wK (oStore (some 2) t1 t11 h8) fun t13 h14 y15 =>
 wK (oStore (some 2) t4 t12 h14) fun t16 h17 y18 =>
 K .ret ⟨[(2, t1), (3, t4), (4, t7)], h17, (y18 ++ (y15 ++ (y9 ++ (y6 ++ (y3 ++ x)))))⟩)
 (C f_lot_sums [v0] h8 fun t19 h20 y21 =>
 pK (oExt t19 0) fun t22 =>
 pK (oExt t19 1) fun t23 =>
 pK (oLen v0) fun t24 =>
 C f_base_Fraction [t22, t24] h20 fun t25 h26 y27 =>
 pK (oBin .mul t24 t24) fun t28 =>
 C f_base_Fraction [t23, t28] h26 fun t29 h30 y31 =>
 wK (oStore (some 2) t1 t25 h30) fun t32 h33 y34 =>
 wK (oStore (some 2) t4 t29 h33) fun t35 h36 y37 =>
 K .ret ⟨[(2, t1), (3, t4), (4, (.p (.int .i64 0)))], h36, (y37 ++ (y34 ++ (y31 ++ (y27 ++ (y21 ++ (y9 ++ (y6 ++ (y3 ++ x))))))))⟩)
theorem E_lot_Spread {C gl v0 h x K} : NW C gl (P_lot_Spread) ⟨enter [v0], h, x⟩ K = d_lot_Spread C gl v0 h x K := by kernel_rfl
theorem e_lot_Spread {C gl v0 h x K} : NW C gl a_lot_Spread.body ⟨enter [v0], h, x⟩ K = d_lot_Spread C gl v0 h x K := E_lot_Spread
def p_slices_stableCmpFunc_api_Record_k1 : ACode := .pr [0, 1, 2, 6, 7, 8] (.seq (.seq (.reg [
  ⟨some 11, none, .mv (.t 8)⟩,
  ⟨some 12, none, .mv (.t 1)⟩,
  ⟨some 13, none, .bin .leq (.t 11) (.t 12)⟩] (some [0, 1, 2, 6, 7, 8, 13]))
 (.cond (.t 13) .skip
 (.exit 0)))
 (.block 1 (.seq (.reg [
  ⟨some 14, none, .mv (.t 0)⟩,
  ⟨some 15, none, .mv (.t 7)⟩,
  ⟨some 16, none, .mv (.t 8)⟩,
  ⟨some 17, none, .mv (.t 2)⟩,
  ⟨some 18, none, .call f_slices_insertionSortCmpFunc_api_Record [(.t 14), (.t 15), (.t 16), (.t 17)]⟩] (some [0, 1, 2, 6, 8]))
 (.seq (.reg [
  ⟨some 19, none, .mv (.t 8)⟩,
  ⟨some 7, none, .mv (.t 19)⟩] (some [0, 1, 2, 6, 7, 8]))
 (.reg [
  ⟨some 20, none, .mv (.t 8)⟩,
  ⟨some 21, none, .mv (.t 6)⟩,
  ⟨some 22, none, .bin .add (.t 20) (.t 21)⟩,
  ⟨some 8, none, .mv (.t 22)⟩] (some [0, 1, 2, 6, 7, 8]))))))
def d_slices_stableCmpFunc_api_Record_k1 (C : Hd) (gl : Nat → Option PV) (v0 v1 v2 v6 v7 v8 : AV) (h : Heap) (x : Esc) (K : Ex → St → Prop) : Prop :=
 pK (oBin .leq v8 v1) fun t1 =>
 condB t1 (C f_slices_insertionSortCmpFunc_api_Record [v0, v7, v8, v2] h fun t2 h3 y4 =>
 pK (oBin .add v8 v6) fun t5 =>
 K .normal ⟨[(0, v0), (1, v1), (2, v2), (6, v6), (7, v8), (8, t5)], h3, (y4 ++ x)⟩)
 (K (.exit 0) ⟨[(0, v0), (1, v1), (2, v2), (6, v6), (7, v7), (8, v8), (13, t1)], h, x⟩)
theorem e_slices_stableCmpFunc_api_Record_k1 {C gl e h x K} : NW C gl p_slices_stableCmpFunc_api_Record_k1 ⟨e, h, x⟩ K = d_slices_stableCmpFunc_api_Record_k1 C gl (aget e 0) (aget e 1) (aget e 2) (aget e 6) (aget e 7) (aget e 8) h x K := by kernel_rfl
theorem l_slices_stableCmpFunc_api_Record_k1 {C gl e h x K} : NW C gl (.loop p_slices_stableCmpFunc_api_Record_k1) ⟨e, h, x⟩ K = NLoop C gl p_slices_stableCmpFunc_api_Record_k1 K [(0, aget e 0), (1, aget e 1), (2, aget e 2), (6, aget e 6), (7, aget e 7), (8, aget e 8)] h x := NLoop_pr
def p_slices_stableCmpFunc_api_Record_k2 : ACode := .pr [0, 1, 2, 6, 7, 8] (.seq (.seq (.reg [
  ⟨some 33, none, .mv (.t 8)⟩,
  ⟨some 34, none, .mv (.t 1)⟩,
  ⟨some 35, none, .bin .leq (.t 33) (.t 34)⟩] (some [0, 1, 2, 6, 7, 8, 35]))
 (.cond (.t 35) .skip
 (.exit 4)))
 (.block 5 (.seq (.reg [
  ⟨some 36, none, .mv (.t 0)⟩,
  ⟨some 37, none, .mv (.t 7)⟩,
  ⟨some 38, none, .mv (.t 7)⟩,
  ⟨some 39, none, .mv (.t 6)⟩,
  ⟨some 40, none, .bin .add (.t 38) (.t 39)⟩,
  ⟨some 41, none, .mv (.t 8)⟩,
  ⟨some 42, none, .mv (.t 2)⟩,
  ⟨some 43, none, .call f_slices_symMergeCmpFunc_api_Record [(.t 36), (.t 37), (.t 40), (.t 41), (.t 42)]⟩] (some [0, 1, 2, 6, 8]))
 (.seq (.reg [
  ⟨some 44, none, .mv (.t 8)⟩,
  ⟨some 7, none, .mv (.t 44)⟩] (some [0, 1, 2, 6, 7, 8]))
 (.reg [
  ⟨some 45, none, .mv (.t 8)⟩,
  ⟨some 46, none, .mv (.t 6)⟩,
  ⟨some 47, none, .bin .mul (.c (.p (.int .i64 2))) (.t 46)⟩,
  ⟨some 48, none, .bin .add (.t 45) (.t 47)⟩,
  ⟨some 8, none, .mv (.t 48)⟩] (some [0, 1, 2, 6, 7, 8]))))))
def d_slices_stableCmpFunc_api_Record_k2 (C : Hd) (gl : Nat → Option PV) (v0 v1 v2 v6 v7 v8 : AV) (h : Heap) (x : Esc) (K : Ex → St → Prop) : Prop :=
 pK (oBin .leq v8 v1) fun t1 =>
 condB t1 (pK (oBin .add v7 v6) fun t2 =>
 C f_slices_symMergeCmpFunc_api_Record [v0, v7, t2, v8, v2] h fun t3 h4 y5 =>
 pK (oBin .mul (.p (.int .i64 2)) v6) fun t6 =>
 pK (oBin .add v8 t6) fun t7 =>
 K .normal ⟨[(0, v0), (1, v1), (2, v2), (6, v6), (7, v8), (8, t7)], h4, (y5 ++ x)⟩)
 (K (.exit 4) ⟨[(0, v0), (1, v1), (2, v2), (6, v6), (7, v7), (8, v8), (35, t1)], h, x⟩)
theorem e_slices_stableCmpFunc_api_Record_k2 {C gl e h x K} : NW C gl p_slices_stableCmpFunc_api_Record_k2 ⟨e, h, x⟩ K = d_slices_stableCmpFunc_api_Record_k2 C gl (aget e 0) (aget e 1) (aget e 2) (aget e 6) (aget e 7) (aget e 8) h x K := by kernel_rfl
theorem l_slices_stableCmpFunc_api_Record_k2 {C gl e h x K} : NW C gl (.loop p_slices_stableCmpFunc_api_Record_k2) ⟨e, h, x⟩ K = NLoop C gl p_slices_stableCmpFunc_api_Record_k2 K [(0, aget e 0), (1, aget e 1), (2, aget e 2), (6, aget e 6), (7, aget e 7), (8, aget e 8)] h x := NLoop_pr
def p_slices_stableCmpFunc_api_Record_k3 : ACode := .pr [0, 1, 2, 6] (.reg [
  ⟨some 61, none, .mv (.t 6)⟩,
  ⟨some 62, none, .bin .mul (.t 61) (.c (.p (.int .i64 2)))⟩,
  ⟨some 6, none, .mv (.t 62)⟩] (some [0, 1, 2, 6]))
def d_slices_stableCmpFunc_api_Record_k3 (C : Hd) (gl : Nat → Option PV) (v0 v1 v2 v6 : AV) (h : Heap) (x : Esc) (K : Ex → St → Prop) : Prop :=
 pK (oBin .mul v6 (.p (.int .i64 2))) fun t1 =>
 K .normal ⟨[(0, v0), (1, v1), (2, v2), (6, t1)], h, x⟩
theorem e_slices_stableCmpFunc_api_Record_k3 {C gl e h x K} : NW C gl p_slices_stableCmpFunc_api_Record_k3 ⟨e, h, x⟩ K = d_slices_stableCmpFunc_api_Record_k3 C gl (aget e 0) (aget e 1) (aget e 2) (aget e 6) h x K := by kernel_rfl
def P_slices_stableCmpFunc_api_Record_k4 (q3 : ACode) : ACode := .pr [0, 1, 2, 6, 7] (.seq (.seq (.reg [
  ⟨some 49, none, .mv (.t 7)⟩,
  ⟨some 50, none, .mv (.t 6)⟩,
  ⟨some 51, none, .bin .add (.t 49) (.t 50)⟩,
  ⟨some 9, none, .mv (.t 51)⟩] (some [0, 1, 2, 6, 7, 9]))
 (.seq (.reg [
  ⟨some 52, none, .mv (.t 9)⟩,
  ⟨some 53, none, .mv (.t 1)⟩,
  ⟨some 54, none, .bin .lss (.t 52) (.t 53)⟩] (some [0, 1, 2, 6, 7, 9, 54]))
 (.cond (.t 54) (.reg [
  ⟨some 55, none, .mv (.t 0)⟩,
  ⟨some 56, none, .mv (.t 7)⟩,
  ⟨some 57, none, .mv (.t 9)⟩,
  ⟨some 58, none, .mv (.t 1)⟩,
  ⟨some 59, none, .mv (.t 2)⟩,
  ⟨some 60, none, .call f_slices_symMergeCmpFunc_api_Record [(.t 55), (.t 56), (.t 57), (.t 58), (.t 59)]⟩] (some [0, 1, 2, 6]))
 .skip)))
 q3)
def p_slices_stableCmpFunc_api_Record_k4 : ACode := P_slices_stableCmpFunc_api_Record_k4 p_slices_stableCmpFunc_api_Record_k3
def d_slices_stableCmpFunc_api_Record_k4 (C : Hd) (gl : Nat → Option PV) (q3 : ACode) (v0 v1 v2 v6 v7 : AV) (h : Heap) (x : Esc) (K : Ex → St → Prop) : Prop :=
 pK (oBin .add v7 v6) fun t1 =>
 pK (oBin .lss t1 v1) fun t2 =>
 condB t2 (C f_slices_symMergeCmpFunc_api_Record [v0, v7, t1, v1, v2] h fun t3 h4 y5 =>
 NW C gl q3 ⟨[(0, v0), (1, v1), (2, v2), (6, v6)], h4, (y5 ++ x)⟩ K)
 (NW C gl q3 ⟨[(0, v0), (1, v1), (2, v2), (6, v6), (7, v7), (9, t1), (54, t2)], h, x⟩ K)
theorem E_slices_stableCmpFunc_api_Record_k4 {C gl q3 e h x K} : NW C gl (P_slices_stableCmpFunc_api_Record_k4 q3) ⟨e, h, x⟩ K = d_slices_stableCmpFunc_api_Record_k4 C gl q3 (aget e 0) (aget e 1) (aget e 2) (aget e 6) (aget e 7) h x K := by kernel_rfl
theorem e_slices_stableCmpFunc_api_Record_k4 {C gl e h x K} : NW C gl p_slices_stableCmpFunc_api_Record_k4 ⟨e, h, x⟩ K = d_slices_stableCmpFunc_api_Record_k4 C gl p_slices_stableCmpFunc_api_Record_k3 (aget e 0) (aget e 1) (aget e 2) (aget e 6) (aget e 7) h x K := E_slices_stableCmpFunc_api_Record_k4
def P_slices_stableCmpFunc_api_Record_k5 (q2 q4 : ACode) : ACode := .pr [0, 1, 2, 6] (.seq (.seq (.reg [
  ⟨some 28, none, .mv (.t 6)⟩,
  ⟨some 29, none, .mv (.t 1)⟩,
  ⟨some 30, none, .bin .lss (.t 28) (.t 29)⟩] (some [0, 1, 2, 6, 30]))
 (.cond (.t 30) .skip
 (.exit 2)))
 (.block 3 (.seq (.reg [
  ⟨some 31, none, .mv (.t 6)⟩,
  ⟨some 32, none, .bin .mul (.c (.p (.int .i64 2))) (.t 31)⟩,
  ⟨some 7, none, .mv (.c (.p (.int .i64 0)))⟩,
  ⟨some 8, none, .mv (.t 32)⟩] (some [0, 1, 2, 6, 7, 8]))
 (.seq (.block 4 (.loop q2))
 q4))))
def p_slices_stableCmpFunc_api_Record_k5 : ACode := P_slices_stableCmpFunc_api_Record_k5 p_slices_stableCmpFunc_api_Record_k2 p_slices_stableCmpFunc_api_Record_k4
def d_slices_stableCmpFunc_api_Record_k5 (C : Hd) (gl : Nat → Option PV) (q2 q4 : ACode) (v0 v1 v2 v6 : AV) (h : Heap) (x : Esc) (K : Ex → St → Prop) : Prop :=
 pK (oBin .lss v6 v1) fun t1 =>
 condB t1 (pK (oBin .mul (.p (.int .i64 2)) v6) fun t2 =>
 NW C gl (.loop q2) ⟨[(0, v0), (1, v1), (2, v2), (6, v6), (7, (.p (.int .i64 0))), (8, t2)], h, x⟩ (blockN 4 (seqN C gl q4 (blockN 3 K))))
 (K (.exit 2) ⟨[(0, v0), (1, v1), (2, v2), (6, v6), (30, t1)], h, x⟩)
theorem E_slices_stableCmpFunc_api_Record_k5 {C gl q2 q4 e h x K} : NW C gl (P_slices_stableCmpFunc_api_Record_k5 q2 q4) ⟨e, h, x⟩ K = d_slices_stableCmpFunc_api_Record_k5 C gl q2 q4 (aget e 0) (aget e 1) (aget e 2) (aget e 6) h x K := by kernel_rfl
theorem e_slices_stableCmpFunc_api_Record_k5 {C gl e h x K} : NW C gl p_slices_stableCmpFunc_api_Record_k5 ⟨e, h, x⟩ K = d_slices_stableCmpFunc_api_Record_k5 C gl p_slices_stableCmpFunc_api_Record_k2 p_slices_stableCmpFunc_api_Record_k4 (aget e 0) (aget e 1) (aget e 2) (aget e 6) h x K := E_slices_stableCmpFunc_api_Record_k5
theorem l_slices_stableCmpFunc_api_Record_k5 {C gl e h x K} : NW C gl (.loop p_slices_stableCmpFunc_api_Record_k5) ⟨e, h, x⟩ K = NLoop C gl p_slices_stableCmpFunc_api_Record_k5 K [(0, aget e 0), (1, aget e 1), (2, aget e 2), (6, aget e 6)] h x := NLoop_pr
def P_slices_stableCmpFunc_api_Record_k6 (q5 : ACode) : ACode := .pr [0, 1, 2, 6, 7] (.seq (.reg [
  ⟨some 23, none, .mv (.t 0)⟩,
  ⟨some 24, none, .mv (.t 7)⟩,
  ⟨some 25, none, .mv (.t 1)⟩,
  ⟨some 26, none, .mv (.t 2)⟩,
  ⟨some 27, none, .call f_slices_insertionSortCmpFunc_api_Record [(.t 23), (.t 24), (.t 25), (.t 26)]⟩] (some [0, 1, 2, 6]))
 (.block 2 (.loop q5)))
def p_slices_stableCmpFunc_api_Record_k6 : ACode := P_slices_stableCmpFunc_api_Record_k6 p_slices_stableCmpFunc_api_Record_k5
def d_slices_stableCmpFunc_api_Record_k6 (C : Hd) (gl : Nat → Option PV) (q5 : ACode) (v0 v1 v2 v6 v7 : AV) (h : Heap) (x : Esc) (K : Ex → St → Prop) : Prop :=
 C f_slices_insertionSortCmpFunc_api_Record [v0, v7, v1, v2] h fun t1 h2 y3 =>
 NW C gl (.loop q5) ⟨[(0, v0), (1, v1), (2, v2), (6, v6)], h2, (y3 ++ x)⟩ (blockN 2 K)
theorem E_slices_stableCmpFunc_api_Record_k6 {C gl q5 e h x K} : NW C gl (P_slices_stableCmpFunc_api_Record_k6 q5) ⟨e, h, x⟩ K = d_slices_stableCmpFunc_api_Record_k6 C gl q5 (aget e 0) (aget e 1) (aget e 2) (aget e 6) (aget e 7) h x K := by kernel_rfl
theorem e_slices_stableCmpFunc_api_Record_k6 {C gl e h x K} : NW C gl p_slices_stableCmpFunc_api_Record_k6 ⟨e, h, x⟩ K = d_slices_stableCmpFunc_api_Record_k6 C gl p_slices_stableCmpFunc_api_Record_k5 (aget e 0) (aget e 1) (aget e 2) (aget e 6) (aget e 7) h x K := E_slices_stableCmpFunc_api_Record_k6
def P_slices_stableCmpFunc_api_Record (q1 q6 : ACode) : ACode := (.seq (.reg [
  ⟨some 6, none, .mv (.c (.p (.int .i64 20)))⟩] (some [0, 1, 2, 6]))
 (.seq (.reg [
  ⟨some 10, none, .mv (.t 6)⟩,
  ⟨some 7, none, .mv (.c (.p (.int .i64 0)))⟩,
  ⟨some 8, none, .mv (.t 10)⟩] (some [0, 1, 2, 6, 7, 8]))
 (.seq (.block 0 (.loop q1))
 q6)))
def a_slices_stableCmpFunc_api_Record : AFun := ⟨3, [], P_slices_stableCmpFunc_api_Record p_slices_stableCmpFunc_api_Record_k1 p_slices_stableCmpFunc_api_Record_k6, true, false⟩
def d_slices_stableCmpFunc_api_Record (C : Hd) (gl : Nat → Option PV) (q1 q6 : ACode) (v0 v1 v2 : AV) (h : Heap) (x : Esc) (K : Ex → St → Prop) : Prop :=
 NW C gl (.loop q1) ⟨[(0, v0), (1, v1), (2, v2), (6, (.p (.int .i64 20))), (7, (.p (.int .i64 0))), (8, (.p (.int .i64 20)))], h, x⟩ (blockN 0 (seqN C gl q6 K))
theorem E_slices_stableCmpFunc_api_Record {C gl q1 q6 v0 v1 v2 h x K} : NW C gl (P_slices_stableCmpFunc_api_Record q1 q6) ⟨enter [v0, v1, v2], h, x⟩ K = d_slices_stableCmpFunc_api_Record C gl q1 q6 v0 v1 v2 h x K := by kernel_rfl
theorem e_slices_stableCmpFunc_api_Record {C gl v0 v1 v2 h x K} : NW C gl a_slices_stableCmpFunc_api_Record.body ⟨enter [v0, v1, v2], h, x⟩ K = d_slices_stableCmpFunc_api_Record C gl p_slices_stableCmpFunc_api_Record_k1 p_slices_stableCmpFunc_api_Record_k6 v0 v1 v2 h x K := E_slices_stableCmpFunc_api_Record
def P_cmp_isNaN_int : ACode := (.seq (.reg [
  ⟨some 2, none, .mv (.c (.p (.bool false)))⟩] (some [0]))
 (.seq (.reg [
  ⟨some 3, none, .mv (.t 0)⟩,
  ⟨some 4, none, .mv (.t 0)⟩,
  ⟨some 5, none, .bin .neq (.t 3) (.t 4)⟩,
  ⟨some 2, none, .mv (.t 5)⟩] (some [2]))
 .ret))
def a_cmp_isNaN_int : AFun := ⟨1, [.t 2], P_cmp_isNaN_int, false, false⟩
def d_cmp_isNaN_int (C : Hd) (gl : Nat → Option PV) (v0 : AV) (h : Heap) (x : Esc) (K : Ex → St → Prop) : Prop :=
 pK (oBin .neq v0 v0) fun t1 =>
 K .ret ⟨[(2, t1)], h, x⟩
theorem E_cmp_isNaN_int {C gl v0 h x K} : NW C gl (P_cmp_isNaN_int) ⟨enter [v0], h, x⟩ K = d_cmp_isNaN_int C gl v0 h x K := by kernel_rfl
theorem e_cmp_isNaN_int {C gl v0 h x K} : NW C gl a_cmp_isNaN_int.body ⟨enter [v0], h, x⟩ K = d_cmp_isNaN_int C gl v0 h x K := E_cmp_isNaN_int
def P_internal_bytealg_CompareString : ACode := (.seq (.reg [
  ⟨some 4, none, .mv (.c (.p (.int .i64 0)))⟩] (some [0, 1]))
 (.seq (.reg [
  ⟨some 5, none, .mv (.t 0)⟩,
  ⟨some 6, none, .mv (.t 1)⟩,
  ⟨some 7, none, .call f_internal_bytealg_abigen_runtime_cmpstring [(.t 5), (.t 6)]⟩,
  ⟨some 4, none, .mv (.t 7)⟩] (some [4]))
 .ret))
def a_internal_bytealg_CompareString : AFun := ⟨2, [.t 4], P_internal_bytealg_CompareString, false, false⟩
def d_internal_bytealg_CompareString (C : Hd) (gl : Nat → Option PV) (v0 v1 : AV) (h : Heap) (x : Esc) (K : Ex → St → Prop) : Prop :=
 C f_internal_bytealg_abigen_runtime_cmpstring [v0, v1] h fun t1 h2 y3 =>
 K .ret ⟨[(4, t1)], h2, (y3 ++ x)⟩
theorem E_internal_bytealg_CompareString {C gl v0 v1 h x K} : NW C gl (P_internal_bytealg_CompareString) ⟨enter [v0, v1], h, x⟩ K = d_internal_bytealg_CompareString C gl v0 v1 h x K := by kernel_rfl
theorem e_internal_bytealg_CompareString {C gl v0 v1 h x K} : NW C gl a_internal_bytealg_CompareString.body ⟨enter [v0, v1], h, x⟩ K = d_internal_bytealg_CompareString C gl v0 v1 h x K := E_internal_bytealg_CompareString
def P_slices_Clone_int_int : ACode := (.det (.seq (.reg [
  ⟨some 2, none, .mv (.c (.p (.sl none [])))⟩] (some [0]))
 (.seq (.seq (.reg [
  ⟨some 3, none, .mv (.t 0)⟩,
  ⟨some 4, none, .isnil 4 false (.t 3)⟩] (some [0, 4]))
 (.condu (.t 4) (.seq (.reg [
  ⟨some 2, none, .new0 none⟩] (some [2]))
 .ret)
 .skip))
 (.seq (.reg [
  ⟨some 5, none, .bsl true none 0 (.int .i64 0) []⟩,
  ⟨some 6, none, .mv (.t 0)⟩,
  ⟨some 7, none, .app none (.t 5) (.t 6)⟩,
  ⟨some 2, none, .mv (.t 7)⟩] (some [2]))
 .ret))))
def a_slices_Clone_int_int : AFun := ⟨1, [.t 2], P_slices_Clone_int_int, false, true⟩
def d_slices_Clone_int_int (C : Hd) (gl : Nat → Option PV) (v0 : AV) (h : Heap) (x : Esc) (K : Ex → St → Prop) : Prop :=
 detK (fun K => pK (oIsnil 4 false v0) fun t1 =>
 condU t1 (nwK none h fun t2 h3 y4 =>
 K .ret ⟨[(2, t2)], h3, (y4 ++ x)⟩)
 (wK (oBsl true none 0 (.int .i64 0) [] h) fun t5 h6 y7 =>
 wK (oApp none t5 v0 h6) fun t8 h9 y10 =>
 K .ret ⟨[(2, t8)], h9, (y10 ++ (y7 ++ x))⟩)) K
theorem E_slices_Clone_int_int {C gl v0 h x K} : NW C gl (P_slices_Clone_int_int) ⟨enter [v0], h, x⟩ K = d_slices_Clone_int_int C gl v0 h x K := by kernel_rfl
theorem e_slices_Clone_int_int {C gl v0 h x K} : NW C gl a_slices_Clone_int_int.body ⟨enter [v0], h, x⟩ K = d_slices_Clone_int_int C gl v0 h x K := E_slices_Clone_int_int
def P_base_Moment : ACode := (.seq (.reg [
  ⟨some 2, none, .mv (.c (.p (.bool false)))⟩] (some [0]))
 (.seq (.reg [
  ⟨some 3, none, .mv (.t 0)⟩,
  ⟨some 4, none, .call f_base_Out [(.t 3), (.c (.p (.int .i64 0))), (.c (.p (.int .i64 345686399999)))]⟩,
  ⟨some 5, none, .un .not (.t 4)⟩,
  ⟨some 2, none, .mv (.t 5)⟩] (some [2]))
 .ret))
def a_base_Moment : AFun := ⟨1, [.t 2], P_base_Moment, false, false⟩
def d_base_Moment (C : Hd) (gl : Nat → Option PV) (v0 : AV) (h : Heap) (x : Esc) (K : Ex → St → Prop) : Prop :=
 C f_base_Out [v0, (.p (.int .i64 0)), (.p (.int .i64 345686399999))] h fun t1 h2 y3 =>
 pK (oUn .not t1) fun t4 =>
 K .ret ⟨[(2, t4)], h2, (y3 ++ x)⟩
theorem E_base_Moment {C gl v0 h x K} : NW C gl (P_base_Moment) ⟨enter [v0], h, x⟩ K = d_base_Moment C gl v0 h x K := by kernel_rfl
theorem e_base_Moment {C gl v0 h x K} : NW C gl a_base_Moment.body ⟨enter [v0], h, x⟩ K = d_base_Moment C gl v0 h x K := E_base_Moment
def P_slices_ContainsFunc_int_int : ACode := (.seq (.reg [
  ⟨some 4, none, .mv (.c (.p (.bool false)))⟩] (some [0, 1]))
 (.seq (.reg [
  ⟨some 5, none, .mv (.t 0)⟩,
  ⟨some 6, none, .mv (.t 1)⟩,
  ⟨some 7, none, .call f_slices_IndexFunc_int_int [(.t 5), (.t 6)]⟩,
  ⟨some 8, none, .bin .geq (.t 7) (.c (.p (.int .i64 0)))⟩,
  ⟨some 4, none, .mv (.t 8)⟩] (some [4]))
 .ret))
def a_slices_ContainsFunc_int_int : AFun := ⟨2, [.t 4], P_slices_ContainsFunc_int_int, true, false⟩
def d_slices_ContainsFunc_int_int (C : Hd) (gl : Nat → Option PV) (v0 v1 : AV) (h : Heap) (x : Esc) (K : Ex → St → Prop) : Prop :=
 C f_slices_IndexFunc_int_int [v0, v1] h fun t1 h2 y3 =>
 pK (oBin .geq t1 (.p (.int .i64 0))) fun t4 =>
 K .ret ⟨[(4, t4)], h2, (y3 ++ x)⟩
theorem E_slices_ContainsFunc_int_int {C gl v0 v1 h x K} : NW C gl (P_slices_ContainsFunc_int_int) ⟨enter [v0, v1], h, x⟩ K = d_slices_ContainsFunc_int_int C gl v0 v1 h x K := by kernel_rfl
theorem e_slices_ContainsFunc_int_int {C gl v0 v1 h x K} : NW C gl a_slices_ContainsFunc_int_int.body ⟨enter [v0, v1], h, x⟩ K = d_slices_ContainsFunc_int_int C gl v0 v1 h x K := E_slices_ContainsFunc_int_int
def P_lot_recordFault_1 : ACode := (.seq (.reg [
  ⟨some 2, none, .mv (.c (.p (.bool false)))⟩] (some [0]))
 (.seq (.reg [
  ⟨some 3, none, .mv (.t 0)⟩,
  ⟨some 4, none, .call f_lot_isMeasure [(.t 3)]⟩,
  ⟨some 5, none, .un .not (.t 4)⟩,
  ⟨some 2, none, .mv (.t 5)⟩] (some [2]))
 .ret))
def a_lot_recordFault_1 : AFun := ⟨1, [.t 2], P_lot_recordFault_1, false, false⟩
def d_lot_recordFault_1 (C : Hd) (gl : Nat → Option PV) (v0 : AV) (h : Heap) (x : Esc) (K : Ex → St → Prop) : Prop :=
 C f_lot_isMeasure [v0] h fun t1 h2 y3 =>
 pK (oUn .not t1) fun t4 =>
 K .ret ⟨[(2, t4)], h2, (y3 ++ x)⟩
theorem E_lot_recordFault_1 {C gl v0 h x K} : NW C gl (P_lot_recordFault_1) ⟨enter [v0], h, x⟩ K = d_lot_recordFault_1 C gl v0 h x K := by kernel_rfl
theorem e_lot_recordFault_1 {C gl v0 h x K} : NW C gl a_lot_recordFault_1.body ⟨enter [v0], h, x⟩ K = d_lot_recordFault_1 C gl v0 h x K := E_lot_recordFault_1
def P_lot_isMeasure : ACode := (.seq (.reg [
  ⟨some 2, none, .mv (.c (.p (.bool false)))⟩] (some [0]))
 (.seq (.reg [
  ⟨some 3, none, .mv (.t 0)⟩,
  ⟨some 4, none, .call f_base_Out [(.t 3), (.c (.p (.int .i64 (-100000)))), (.c (.p (.int .i64 100000)))]⟩,
  ⟨some 5, none, .un .not (.t 4)⟩,
  ⟨some 2, none, .mv (.t 5)⟩] (some [2]))
 .ret))
def a_lot_isMeasure : AFun := ⟨1, [.t 2], P_lot_isMeasure, false, false⟩
def d_lot_isMeasure (C : Hd) (gl : Nat → Option PV) (v0 : AV) (h : Heap) (x : Esc) (K : Ex → St → Prop) : Prop :=
 C f_base_Out [v0, (.p (.int .i64 (-100000))), (.p (.int .i64 100000))] h fun t1 h2 y3 =>
 pK (oUn .not t1) fun t4 =>
 K .ret ⟨[(2, t4)], h2, (y3 ++ x)⟩
theorem E_lot_isMeasure {C gl v0 h x K} : NW C gl (P_lot_isMeasure) ⟨enter [v0], h, x⟩ K = d_lot_isMeasure C gl v0 h x K := by kernel_rfl
theorem e_lot_isMeasure {C gl v0 h x K} : NW C gl a_lot_isMeasure.body ⟨enter [v0], h, x⟩ K = d_lot_isMeasure C gl v0 h x K := E_lot_isMeasure
def p_lot_complete_k1 : ACode := .pr [0, 3, 5, 23, 24, 25] (.seq (.reg [
  ⟨some 26, none, .bin .lss (.t 25) (.t 24)⟩] (some [0, 3, 5, 23, 24, 25, 26]))
 (.seq (.cond (.t 26) .skip
 (.exit 0))
 (.seq (.block 1 (.seq (.reg [
  ⟨some 27, none, .mv (.t 25)⟩,
  ⟨some 28, none, .iaddr none (.t 23) (.t 25)⟩,
  ⟨some 29, none, .load none (.t 28)⟩,
  ⟨some 6, none, .mv (.t 27)⟩,
  ⟨some 7, none, .mv (.t 29)⟩] (some [0, 3, 5, 6, 7, 23, 24, 25]))
 (.seq (.reg [
  ⟨some 30, none, .mv (.t 0)⟩,
  ⟨some 31, none, .mv (.t 6)⟩,
  ⟨some 32, none, .iaddr (some 4) (.t 30) (.t 31)⟩,
  ⟨some 33, none, .load (some 4) (.t 32)⟩,
  ⟨some 34, none, .mv (.t 7)⟩,
  ⟨some 35, none, .call f_lot_good [(.t 33), (.t 34)]⟩,
  ⟨some 36, none, .un .not (.t 35)⟩] (some [0, 3, 5, 23, 24, 25, 36]))
 (.cond (.t 36) (.seq (.reg [
  ⟨some 4, none, .mv (.c (.p (.bool false)))⟩] (some [4]))
 .ret)
 .skip))))
 (.reg [
  ⟨some 37, none, .bin .add (.t 25) (.c (.p (.int .i64 1)))⟩,
  ⟨some 25, none, .mv (.t 37)⟩] (some [0, 3, 5, 23, 24, 25])))))
def d_lot_complete_k1 (C : Hd) (gl : Nat → Option PV) (v0 v3 v5 v23 v24 v25 : AV) (h : Heap) (x : Esc) (K : Ex → St → Prop) : Prop :=
 pK (oBin .lss v25 v24) fun t1 =>
 condB t1 (pK (oIaddr none v23 v25 h) fun t2 =>
 pK (oLoad none t2 h) fun t3 =>
 pK (oIaddr (some 4) v0 v25 h) fun t4 =>
 pK (oLoad (some 4) t4 h) fun t5 =>
 C f_lot_good [t5, t3] h fun t6 h7 y8 =>
 pK (oUn .not t6) fun t9 =>
 condB t9 (K .ret ⟨[(4, (.p (.bool false)))], h7, (y8 ++ x)⟩)
 (pK (oBin .add v25 (.p (.int .i64 1))) fun t10 =>
 K .normal ⟨[(0, v0), (3, v3), (5, v5), (23, v23), (24, v24), (25, t10)], h7, (y8 ++ x)⟩))
 (K (.exit 0) ⟨[(0, v0), (3, v3), (5, v5), (23, v23), (24, v24), (25, v25), (26, t1)], h, x⟩)
theorem e_lot_complete_k1 {C gl e h x K} : NW C gl p_lot_complete_k1 ⟨e, h, x⟩ K = d_lot_complete_k1 C gl (aget e 0) (aget e 3) (aget e 5) (aget e 23) (aget e 24) (aget e 25) h x K := by kernel_rfl
theorem l_lot_complete_k1 {C gl e h x K} : NW C gl (.loop p_lot_complete_k1) ⟨e, h, x⟩ K = NLoop C gl p_lot_complete_k1 K [(0, aget e 0), (3, aget e 3), (5, aget e 5), (23, aget e 23), (24, aget e 24), (25, aget e 25)] h x := NLoop_pr
def p_lot_complete_k2 : ACode := .pr [0, 3, 5] (.seq (.reg [
  ⟨some 38, none, .mv (.t 5)⟩,
  ⟨some 39, none, .mv (.t 0)⟩,
  ⟨some 40, none, .len (.t 39)⟩,
  ⟨some 41, none, .bin .eql (.t 38) (.t 40)⟩,
  ⟨some 42, none, .mv (.t 41)⟩,
  ⟨some 43, (some (42, false)), .mv (.t 0)⟩,
  ⟨some 44, (some (42, false)), .load (some 4) (.t 3)⟩,
  ⟨some 45, (some (42, false)), .call f_lot_fails [(.t 43), (.t 44)]⟩,
  ⟨some 46, (some (42, false)), .bin .geq (.t 45) (.c (.p (.int .i64 0)))⟩,
  ⟨some 47, none, .pick (.t 42) (.c (.p (.bool true))) (.t 46)⟩,
  ⟨some 4, none, .mv (.t 47)⟩] (some [4]))
 .ret)
def d_lot_complete_k2 (C : Hd) (gl : Nat → Option PV) (v0 v3 v5 : AV) (h : Heap) (x : Esc) (K : Ex → St → Prop) : Prop :=
 pK (oLen v0) fun t1 =>
 pK (oBin .eql v5 t1) fun t2 =>
 gM t2 false v0 h fun t3 h4 y5 =>
 gP t2 false (oLoad (some 4) v3 h4) h4 fun t6 h7 y8 =>
 gV t2 false h7 (C f_lot_fails [t3, t6] h7) fun t9 h10 y11 =>
 gP t2 false (oBin .geq t9 (.p (.int .i64 0))) h10 fun t12 h13 y14 =>
 pK (oPick t2 (.p (.bool true)) t12) fun t15 =>
 K .ret ⟨[(4, t15)], h13, (y14 ++ (y11 ++ (y8 ++ (y5 ++ x))))⟩
theorem e_lot_complete_k2 {C gl e h x K} : NW C gl p_lot_complete_k2 ⟨e, h, x⟩ K = d_lot_complete_k2 C gl (aget e 0) (aget e 3) (aget e 5) h x K := by kernel_rfl
def P_lot_complete (q1 q2 : ACode) : ACode := (.seq (.reg [
  ⟨some 3, none, .box (.t 1)⟩,
  ⟨some 4, none, .mv (.c (.p (.bool false)))⟩] (some [0, 3]))
 (.seq (.reg [
  ⟨some 8, none, .faddr 3 none (.t 3)⟩,
  ⟨some 9, none, .load none (.t 8)⟩,
  ⟨some 10, none, .len (.t 9)⟩,
  ⟨some 5, none, .mv (.t 10)⟩] (some [0, 3, 5]))
 (.seq (.seq (.reg [
  ⟨some 11, none, .mv (.t 5)⟩,
  ⟨some 12, none, .bin .eql (.t 11) (.c (.p (.int .i64 0)))⟩,
  ⟨some 13, none, .mv (.t 12)⟩,
  ⟨some 14, (some (13, false)), .mv (.t 5)⟩,
  ⟨some 15, (some (13, false)), .mv (.t 0)⟩,
  ⟨some 16, (some (13, false)), .len (.t 15)⟩,
  ⟨some 17, (some (13, false)), .bin .gtr (.t 14) (.t 16)⟩,
  ⟨some 18, none, .pick (.t 13) (.c (.p (.bool true))) (.t 17)⟩] (some [0, 3, 5, 18]))
 (.cond (.t 18) (.seq (.reg [
  ⟨some 4, none, .mv (.c (.p (.bool false)))⟩] (some [4]))
 .ret)
 .skip))
 (.seq (.seq (.reg [
  ⟨some 19, none, .faddr 3 none (.t 3)⟩,
  ⟨some 20, none, .load none (.t 19)⟩,
  ⟨some 21, none, .mv (.t 5)⟩,
  ⟨some 22, none, .bin .sub (.t 21) (.c (.p (.int .i64 1)))⟩,
  ⟨some 23, none, .slice none (.t 20) none (some (.t 22)) none⟩,
  ⟨some 24, none, .len (.t 23)⟩,
  ⟨some 25, none, .mv (.c (.p (.int .i64 0)))⟩] (some [0, 3, 5, 23, 24, 25]))
 (.block 0 (.loop q1)))
 q2))))
def a_lot_complete : AFun := ⟨2, [.t 4], P_lot_complete p_lot_complete_k1 p_lot_complete_k2, false, false⟩
def d_lot_complete (C : Hd) (gl : Nat → Option PV) (q1 q2 : ACode) (v0 v1 : AV) (h : Heap) (x : Esc) (K : Ex → St → Prop) : Prop :=
 wK (oBox v1 h) fun t1 h2 y3 =>
 pK (oFaddr 3 none t1) fun t4 =>
 pK (oLoad none t4 h2) fun t5 =>
 pK (oLen t5) fun t6 =>
 pK (oBin .eql t6 (.p (.int .i64 0))) fun t7 =>
 gM t7 false t6 h2 fun t8 h9 y10 =>
 gM t7 false v0 h9 fun t11 h12 y13 =>
 gP t7 false (oLen t11) h12 fun t14 h15 y16 =>
 gP t7 false (oBin .gtr t8 t14) h15 fun t17 h18 y19 =>
 pK (oPick t7 (.p (.bool true)) t17) fun t20 =>
 condB t20 (K .ret ⟨[(4, (.p (.bool false)))], h18, (y19 ++ (y16 ++ (y13 ++ (y10 ++ (y3 ++ x)))))⟩)
 (pK (oFaddr 3 none t1) fun t21 =>
 pK (oLoad none t21 h18) fun t22 =>
 pK (oBin .sub t6 (.p (.int .i64 1))) fun t23 =>
 pK (oSlice none t22 none (some t23) none h18) fun t24 =>
 pK (oLen t24) fun t25 =>
 NW C gl (.loop q1) ⟨[(0, v0), (3, t1), (5, t6), (23, t24), (24, t25), (25, (.p (.int .i64 0)))], h18, (y19 ++ (y16 ++ (y13 ++ (y10 ++ (y3 ++ x)))))⟩ (blockN 0 (seqN C gl q2 K)))
theorem E_lot_complete {C gl q1 q2 v0 v1 h x K} : NW C gl (P_lot_complete q1 q2) ⟨enter [v0, v1], h, x⟩ K = d_lot_complete C gl q1 q2 v0 v1 h x K := by kernel_rfl
theorem e_lot_complete {C gl v0 v1 h x K} : NW C gl a_lot_complete.body ⟨enter [v0, v1], h, x⟩ K = d_lot_complete C gl p_lot_complete_k1 p_lot_complete_k2 v0 v1 h x K := E_lot_complete
def P_lot_good : ACode := (.seq (.reg [
  ⟨some 2, none, .box (.t 0)⟩,
  ⟨some 4, none, .mv (.c (.p (.bool false)))⟩] (some [1, 2]))
 (.seq (.reg [
  ⟨some 5, none, .mv (.t 1)⟩,
  ⟨some 6, none, .faddr 1 none (.t 2)⟩,
  ⟨some 7, none, .load none (.t 6)⟩,
  ⟨some 8, none, .faddr 2 none (.t 2)⟩,
  ⟨some 9, none, .load none (.t 8)⟩,
  ⟨some 10, none, .call f_base_Out [(.t 5), (.t 7), (.t 9)]⟩,
  ⟨some 11, none, .un .not (.t 10)⟩,
  ⟨some 4, none, .mv (.t 11)⟩] (some [4]))
 .ret))
def a_lot_good : AFun := ⟨2, [.t 4], P_lot_good, false, false⟩
def d_lot_good (C : Hd) (gl : Nat → Option PV) (v0 v1 : AV) (h : Heap) (x : Esc) (K : Ex → St → Prop) : Prop :=
 wK (oBox v0 h) fun t1 h2 y3 =>
 pK (oFaddr 1 none t1) fun t4 =>
 pK (oLoad none t4 h2) fun t5 =>
 pK (oFaddr 2 none t1) fun t6 =>
 pK (oLoad none t6 h2) fun t7 =>
 C f_base_Out [v1, t5, t7] h2 fun t8 h9 y10 =>
 pK (oUn .not t8) fun t11 =>
 K .ret ⟨[(4, t11)], h9, (y10 ++ (y3 ++ x))⟩
theorem E_lot_good {C gl v0 v1 h x K} : NW C gl (P_lot_good) ⟨enter [v0, v1], h, x⟩ K = d_lot_good C gl v0 v1 h x K := by kernel_rfl
theorem e_lot_good {C gl v0 v1 h x K} : NW C gl a_lot_good.body ⟨enter [v0, v1], h, x⟩ K = d_lot_good C gl v0 v1 h x K := E_lot_good
def P_scanref2_Moment : ACode := (.seq (.reg [
  ⟨some 2, none, .mv (.c (.p (.bool false)))⟩] (some [0]))
 (.seq (.reg [
  ⟨some 3, none, .mv (.t 0)⟩,
  ⟨some 4, none, .call f_scanref2_in [(.t 3), (.c (.p (.int .i64 0))), (.c (.p (.int .i64 345686399999)))]⟩,
  ⟨some 2, none, .mv (.t 4)⟩] (some [2]))
 .ret))
def a_scanref2_Moment : AFun := ⟨1, [.t 2], P_scanref2_Moment, false, false⟩
def d_scanref2_Moment (C : Hd) (gl : Nat → Option PV) (v0 : AV) (h : Heap) (x : Esc) (K : Ex → St → Prop) : Prop :=
 C f_scanref2_in [v0, (.p (.int .i64 0)), (.p (.int .i64 345686399999))] h fun t1 h2 y3 =>
 K .ret ⟨[(2, t1)], h2, (y3 ++ x)⟩
theorem E_scanref2_Moment {C gl v0 h x K} : NW C gl (P_scanref2_Moment) ⟨enter [v0], h, x⟩ K = d_scanref2_Moment C gl v0 h x K := by kernel_rfl
theorem e_scanref2_Moment {C gl v0 h x K} : NW C gl a_scanref2_Moment.body ⟨enter [v0], h, x⟩ K = d_scanref2_Moment C gl v0 h x K := E_scanref2_Moment
def P_scanref2_recordFault_1 : ACode := (.seq (.reg [
  ⟨some 2, none, .mv (.c (.p (.bool false)))⟩] (some [0]))
 (.seq (.reg [
  ⟨some 3, none, .mv (.t 0)⟩,
  ⟨some 4, none, .call f_scanref2_in [(.t 3), (.c (.p (.int .i64 (-100000)))), (.c (.p (.int .i64 100000)))]⟩,
  ⟨some 5, none, .un .not (.t 4)⟩,
  ⟨some 2, none, .mv (.t 5)⟩] (some [2]))
 .ret))
def a_scanref2_recordFault_1 : AFun := ⟨1, [.t 2], P_scanref2_recordFault_1, false, false⟩
def d_scanref2_recordFault_1 (C : Hd) (gl : Nat → Option PV) (v0 : AV) (h : Heap) (x : Esc) (K : Ex → St → Prop) : Prop :=
 C f_scanref2_in [v0, (.p (.int .i64 (-100000))), (.p (.int .i64 100000))] h fun t1 h2 y3 =>
 pK (oUn .not t1) fun t4 =>
 K .ret ⟨[(2, t4)], h2, (y3 ++ x)⟩
theorem E_scanref2_recordFault_1 {C gl v0 h x K} : NW C gl (P_scanref2_recordFault_1) ⟨enter [v0], h, x⟩ K = d_scanref2_recordFault_1 C gl v0 h x K := by kernel_rfl
theorem e_scanref2_recordFault_1 {C gl v0 h x K} : NW C gl a_scanref2_recordFault_1.body ⟨enter [v0], h, x⟩ K = d_scanref2_recordFault_1 C gl v0 h x K := E_scanref2_recordFault_1
def P_scanref2_sign : ACode := (.seq (.reg [
  ⟨some 2, none, .mv (.c (.p (.int .i64 0)))⟩] (some [0]))
 (.seq (.block 0 (.seq (.reg [
  ⟨some 4, none, .mv (.t 0)⟩,
  ⟨some 5, none, .bin .lss (.t 4) (.c (.p (.int .i64 0)))⟩,
  ⟨some 3, none, .mv (.t 5)⟩] (some [0, 3]))
 (.cond (.t 3) (.seq (.reg [
  ⟨some 2, none, .mv (.c (.p (.int .i64 (-1))))⟩] (some [2]))
 .ret)
 (.seq (.reg [
  ⟨some 7, none, .mv (.t 0)⟩,
  ⟨some 8, none, .bin .gtr (.t 7) (.c (.p (.int .i64 0)))⟩,
  ⟨some 6, none, .mv (.t 8)⟩] (some [6]))
 (.cond (.t 6) (.seq (.reg [
  ⟨some 2, none, .mv (.c (.p (.int .i64 1)))⟩] (some [2]))
 .ret)
 .skip)))))
 (.seq (.reg [
  ⟨some 2, none, .mv (.c (.p (.int .i64 0)))⟩] (some [2]))
 .ret)))
def a_scanref2_sign : AFun := ⟨1, [.t 2], P_scanref2_sign, false, false⟩
def d_scanref2_sign (C : Hd) (gl : Nat → Option PV) (v0 : AV) (h : Heap) (x : Esc) (K : Ex → St → Prop) : Prop :=
 pK (oBin .lss v0 (.p (.int .i64 0))) fun t1 =>
 condB t1 (K .ret ⟨[(2, (.p (.int .i64 (-1))))], h, x⟩)
 (pK (oBin .gtr v0 (.p (.int .i64 0))) fun t2 =>
 condB t2 (K .ret ⟨[(2, (.p (.int .i64 1)))], h, x⟩)
 (K .ret ⟨[(2, (.p (.int .i64 0)))], h, x⟩))
theorem E_scanref2_sign {C gl v0 h x K} : NW C gl (P_scanref2_sign) ⟨enter [v0], h, x⟩ K = d_scanref2_sign C gl v0 h x K := by kernel_rfl
theorem e_scanref2_sign {C gl v0 h x K} : NW C gl a_scanref2_sign.body ⟨enter [v0], h, x⟩ K = d_scanref2_sign C gl v0 h x K := E_scanref2_sign
def p_slices_pdqsortCmpFunc_api_Record_k1 : ACode := .pr [0, 1, 2, 3, 4, 10, 11, 12, 13] (.seq (.seq (.draw [
   ⟨⟨some 81, none, .mv (.t 1)⟩, [1], false, [], []⟩,
   ⟨⟨some 82, none, .bin .gtr (.t 81) (.c (.p (.int .i64 0)))⟩, [81], false, [], []⟩,
   ⟨⟨some 83, none, .mv (.t 82)⟩, [82], false, [], []⟩,
   ⟨⟨some 84, (some (83, true)), .mv (.t 4)⟩, [4, 83], false, [], []⟩,
   ⟨⟨some 85, (some (83, true)), .mv (.t 0)⟩, [0, 83], false, [], []⟩,
   ⟨⟨some 86, (some (83, true)), .mv (.t 1)⟩, [1, 83], false, [], []⟩,
   ⟨⟨some 87, (some (83, true)), .bin .sub (.t 86) (.c (.p (.int .i64 1)))⟩, [86, 83], false, [], []⟩,
   ⟨⟨some 88, (some (83, true)), .iaddr (some 4) (.t 85) (.t 87)⟩, [85, 87, 83], false, [], []⟩,
   ⟨⟨some 89, (some (83, true)), .load (some 4) (.t 88)⟩, [88, 83], false, [], []⟩,
   ⟨⟨some 90, (some (83, true)), .mv (.t 0)⟩, [0, 83], false, [], []⟩,
   ⟨⟨some 91, (some (83, true)), .mv (.t 13)⟩, [13, 83], false, [], []⟩,
   ⟨⟨some 92, (some (83, true)), .iaddr (some 4) (.t 90) (.t 91)⟩, [90, 91, 83], false, [], []⟩,
   ⟨⟨some 93, (some (83, true)), .load (some 4) (.t 92)⟩, [92, 83], false, [], []⟩,
   ⟨⟨some 94, (some (83, true)), .callv (.t 84) [(.t 89), (.t 93)]⟩, [84, 89, 93, 83], true, [], []⟩,
   ⟨⟨some 95, (some (83, true)), .bin .lss (.t 94) (.c (.p (.int .i64 0)))⟩, [94, 83], false, [], []⟩,
   ⟨⟨some 96, (some (83, true)), .un .not (.t 95)⟩, [95, 83], false, [], []⟩,
   ⟨⟨some 97, none, .pick (.t 83) (.t 96) (.c (.p (.bool false)))⟩, [83, 96], false, [], []⟩] (some [0, 1, 2, 3, 4, 10, 11, 12, 13, 97]))
 (.cond (.t 97) (.seq (.reg [
  ⟨some 98, none, .mv (.t 0)⟩,
  ⟨some 99, none, .mv (.t 1)⟩,
  ⟨some 100, none, .mv (.t 2)⟩,
  ⟨some 101, none, .mv (.t 13)⟩,
  ⟨some 102, none, .mv (.t 4)⟩,
  ⟨some 103, none, .call f_slices_partitionEqualCmpFunc_api_Record [(.t 98), (.t 99), (.t 100), (.t 101), (.t 102)]⟩,
  ⟨some 15, none, .mv (.t 103)⟩] (some [0, 2, 3, 4, 10, 11, 15]))
 (.seq (.reg [
  ⟨some 104, none, .mv (.t 15)⟩,
  ⟨some 1, none, .mv (.t 104)⟩] (some [0, 1, 2, 3, 4, 10, 11]))
 (.exit 1)))
 .skip))
 (.seq (.reg [
  ⟨some 106, none, .mv (.t 0)⟩,
  ⟨some 107, none, .mv (.t 1)⟩,
  ⟨some 108, none, .mv (.t 2)⟩,
  ⟨some 109, none, .mv (.t 13)⟩,
  ⟨some 110, none, .mv (.t 4)⟩,
  ⟨some 111, none, .call f_slices_partitionCmpFunc_api_Record [(.t 106), (.t 107), (.t 108), (.t 109), (.t 110)]⟩,
  ⟨some 105, none, .mv (.t 111)⟩,
  ⟨some 112, none, .ext (.t 105) 0⟩,
  ⟨some 113, none, .ext (.t 105) 1⟩,
  ⟨some 16, none, .mv (.t 112)⟩,
  ⟨some 17, none, .mv (.t 113)⟩] (some [0, 1, 2, 3, 4, 12, 16, 17]))
 (.seq (.reg [
  ⟨some 114, none, .mv (.t 17)⟩,
  ⟨some 11, none, .mv (.t 114)⟩] (some [0, 1, 2, 3, 4, 11, 12, 16]))
 (.seq (.reg [
  ⟨some 115, none, .mv (.t 16)⟩,
  ⟨some 116, none, .mv (.t 1)⟩,
  ⟨some 117, none, .bin .sub (.t 115) (.t 116)⟩,
  ⟨some 118, none, .mv (.t 2)⟩,
  ⟨some 119, none, .mv (.t 16)⟩,
  ⟨some 120, none, .bin .sub (.t 118) (.t 119)⟩,
  ⟨some 18, none, .mv (.t 117)⟩,
  ⟨some 19, none, .mv (.t 120)⟩] (some [0, 1, 2, 3, 4, 11, 12, 16, 18, 19]))
 (.seq (.reg [
  ⟨some 121, none, .mv (.t 12)⟩,
  ⟨some 122, none, .bin .quo (.t 121) (.c (.p (.int .i64 8)))⟩,
  ⟨some 20, none, .mv (.t 122)⟩] (some [0, 1, 2, 3, 4, 11, 16, 18, 19, 20]))
 (.seq (.reg [
  ⟨some 123, none, .mv (.t 18)⟩,
  ⟨some 124, none, .mv (.t 19)⟩,
  ⟨some 125, none, .bin .lss (.t 123) (.t 124)⟩] (some [0, 1, 2, 3, 4, 11, 16, 18, 19, 20, 125]))
 (.cond (.t 125) (.seq (.reg [
  ⟨some 126, none, .mv (.t 18)⟩,
  ⟨some 127, none, .mv (.t 20)⟩,
  ⟨some 128, none, .bin .geq (.t 126) (.t 127)⟩,
  ⟨some 10, none, .mv (.t 128)⟩] (some [0, 1, 2, 3, 4, 10, 11, 16]))
 (.seq (.reg [
  ⟨some 129, none, .mv (.t 0)⟩,
  ⟨some 130, none, .mv (.t 1)⟩,
  ⟨some 131, none, .mv (.t 16)⟩,
  ⟨some 132, none, .mv (.t 3)⟩,
  ⟨some 133, none, .mv (.t 4)⟩,
  ⟨some 134, none, .call f_slices_pdqsortCmpFunc_api_Record [(.t 129), (.t 130), (.t 131), (.t 132), (.t 133)]⟩] (some [0, 2, 3, 4, 10, 11, 16]))
 (.reg [
  ⟨some 135, none, .mv (.t 16)⟩,
  ⟨some 136, none, .bin .add (.t 135) (.c (.p (.int .i64 1)))⟩,
  ⟨some 1, none, .mv (.t 136)⟩] (some [0, 1, 2, 3, 4, 10, 11]))))
 (.seq (.reg [
  ⟨some 137, none, .mv (.t 19)⟩,
  ⟨some 138, none, .mv (.t 20)⟩,
  ⟨some 139, none, .bin .geq (.t 137) (.t 138)⟩,
  ⟨some 10, none, .mv (.t 139)⟩] (some [0, 1, 2, 3, 4, 10, 11, 16]))
 (.seq (.reg [
  ⟨some 140, none, .mv (.t 0)⟩,
  ⟨some 141, none, .mv (.t 16)⟩,
  ⟨some 142, none, .bin .add (.t 141) (.c (.p (.int .i64 1)))⟩,
  ⟨some 143, none, .mv (.t 2)⟩,
  ⟨some 144, none, .mv (.t 3)⟩,
  ⟨some 145, none, .mv (.t 4)⟩,
  ⟨some 146, none, .call f_slices_pdqsortCmpFunc_api_Record [(.t 140), (.t 142), (.t 143), (.t 144), (.t 145)]⟩] (some [0, 1, 3, 4, 10, 11, 16]))
 (.reg [
  ⟨some 147, none, .mv (.t 16)⟩,
  ⟨some 2, none, .mv (.t 147)⟩] (some [0, 1, 2, 3, 4, 10, 11])))))))))))
def d_slices_pdqsortCmpFunc_api_Record_k1 (C : Hd) (gl : Nat → Option PV) (v0 v1 v2 v3 v4 v10 v11 v12 v13 : AV) (h : Heap) (x : Esc) (K : Ex → St → Prop) : Prop :=
 pK (oBin .gtr v1 (.p (.int .i64 0))) fun t1 =>
 gM t1 true v4 h fun t2 h3 y4 =>
 gM t1 true v0 h3 fun t5 h6 y7 =>
 gM t1 true v1 h6 fun t8 h9 y10 =>
 gP t1 true (oBin .sub t8 (.p (.int .i64 1))) h9 fun t11 h12 y13 =>
 gP t1 true (oIaddr (some 4) t5 t11 h12) h12 fun t14 h15 y16 =>
 gP t1 true (oLoad (some 4) t14 h15) h15 fun t17 h18 y19 =>
 gM t1 true v0 h18 fun t20 h21 y22 =>
 gM t1 true v13 h21 fun t23 h24 y25 =>
 gP t1 true (oIaddr (some 4) t20 t23 h24) h24 fun t26 h27 y28 =>
 gP t1 true (oLoad (some 4) t26 h27) h27 fun t29 h30 y31 =>
 gV t1 true h30 (callvE C t2 [t17, t29] h30) fun t32 h33 y34 =>
 gP t1 true (oBin .lss t32 (.p (.int .i64 0))) h33 fun t35 h36 y37 =>
 gP t1 true (oUn .not t35) h36 fun t38 h39 y40 =>
 pK (oPick t1 t38 (.p (.bool false))) fun t41 =>
 condB t41 (C f_slices_partitionEqualCmpFunc_api_Record [v0, v1, v2, v13, v4] h39 fun t42 h43 y44 =>
 K (.exit 1) ⟨[(0, v0), (1, t42), (2, v2), (3, v3), (4, v4), (10, v10), (11, v11)], h43, (y44 ++ (y40 ++ (y37 ++ (y34 ++ (y31 ++ (y28 ++ (y25 ++ (y22 ++ (y19 ++ (y16 ++ (y13 ++ (y10 ++ (y7 ++ (y4 ++ x))))))))))))))⟩)
 (C f_slices_partitionCmpFunc_api_Record [v0, v1, v2, v13, v4] h39 fun t45 h46 y47 =>
 pK (oExt t45 0) fun t48 =>
 pK (oExt t45 1) fun t49 =>
 pK (oBin .sub t48 v1) fun t50 =>
 pK (oBin .sub v2 t48) fun t51 =>
 pK (oBin .quo v12 (.p (.int .i64 8))) fun t52 =>
 pK (oBin .lss t50 t51) fun t53 =>
 condB t53 (pK (oBin .geq t50 t52) fun t54 =>
 C f_slices_pdqsortCmpFunc_api_Record [v0, v1, t48, v3, v4] h46 fun t55 h56 y57 =>
 pK (oBin .add t48 (.p (.int .i64 1))) fun t58 =>
 K .normal ⟨[(0, v0), (1, t58), (2, v2), (3, v3), (4, v4), (10, t54), (11, t49)], h56, (y57 ++ (y47 ++ (y40 ++ (y37 ++ (y34 ++ (y31 ++ (y28 ++ (y25 ++ (y22 ++ (y19 ++ (y16 ++ (y13 ++ (y10 ++ (y7 ++ (y4 ++ x)))))))))))))))⟩)
 (pK (oBin .geq t51 t52) fun t59 =>
 pK (oBin .add t48 (.p (.int .i64 1))) fun t60 =>
 C f_slices_pdqsortCmpFunc_api_Record [v0, t60, v2, v3, v4] h46 fun t61 h62 y63 =>
 K .normal ⟨[(0, v0), (1, v1), (2, t48), (3, v3), (4, v4), (10, t59), (11, t49)], h62, (y63 ++ (y47 ++ (y40 ++ (y37 ++ (y34 ++ (y31 ++ (y28 ++ (y25 ++ (y22 ++ (y19 ++ (y16 ++ (y13 ++ (y10 ++ (y7 ++ (y4 ++ x)))))))))))))))⟩))
theorem e_slices_pdqsortCmpFunc_api_Record_k1 {C gl e h x K} : NW C gl p_slices_pdqsortCmpFunc_api_Record_k1 ⟨e, h, x⟩ K = d_slices_pdqsortCmpFunc_api_Record_k1 C gl (aget e 0) (aget e 1) (aget e 2) (aget e 3) (aget e 4) (aget e 10) (aget e 11) (aget e 12) (aget e 13) h x K := by kernel_rfl
def P_slices_pdqsortCmpFunc_api_Record_k2 (q1 : ACode) : ACode := .pr [0, 1, 2, 3, 4, 10, 11, 12, 13, 14] (.seq (.seq (.reg [
  ⟨some 68, none, .mv (.t 10)⟩,
  ⟨some 69, none, .mv (.t 68)⟩,
  ⟨some 70, (some (69, true)), .mv (.t 11)⟩,
  ⟨some 71, none, .pick (.t 69) (.t 70) (.c (.p (.bool false)))⟩,
  ⟨some 72, none, .mv (.t 71)⟩,
  ⟨some 73, (some (72, true)), .mv (.t 14)⟩,
  ⟨some 74, (some (72, true)), .bin .eql (.t 73) (.c (.p (.int .i64 1)))⟩,
  ⟨some 75, none, .pick (.t 72) (.t 74) (.c (.p (.bool false)))⟩] (some [0, 1, 2, 3, 4, 10, 11, 12, 13, 75]))
 (.cond (.t 75) (.seq (.reg [
  ⟨some 76, none, .mv (.t 0)⟩,
  ⟨some 77, none, .mv (.t 1)⟩,
  ⟨some 78, none, .mv (.t 2)⟩,
  ⟨some 79, none, .mv (.t 4)⟩,
  ⟨some 80, none, .call f_slices_partialInsertionSortCmpFunc_api_Record [(.t 76), (.t 77), (.t 78), (.t 79)]⟩] (some [0, 1, 2, 3, 4, 10, 11, 12, 13, 80]))
 (.cond (.t 80) .ret
 .skip))
 .skip))
 q1)
def p_slices_pdqsortCmpFunc_api_Record_k2 : ACode := P_slices_pdqsortCmpFunc_api_Record_k2 p_slices_pdqsortCmpFunc_api_Record_k1
def d_slices_pdqsortCmpFunc_api_Record_k2 (C : Hd) (gl : Nat → Option PV) (q1 : ACode) (v0 v1 v2 v3 v4 v10 v11 v12 v13 v14 : AV) (h : Heap) (x : Esc) (K : Ex → St → Prop) : Prop :=
 gM v10 true v11 h fun t1 h2 y3 =>
 pK (oPick v10 t1 (.p (.bool false))) fun t4 =>
 gM t4 true v14 h2 fun t5 h6 y7 =>
 gP t4 true (oBin .eql t5 (.p (.int .i64 1))) h6 fun t8 h9 y10 =>
 pK (oPick t4 t8 (.p (.bool false))) fun t11 =>
 condB t11 (C f_slices_partialInsertionSortCmpFunc_api_Record [v0, v1, v2, v4] h9 fun t12 h13 y14 =>
 condB t12 (K .ret ⟨[(0, v0), (1, v1), (2, v2), (3, v3), (4, v4), (10, v10), (11, v11), (12, v12), (13, v13), (80, t12)], h13, (y14 ++ (y10 ++ (y7 ++ (y3 ++ x))))⟩)
 (NW C gl q1 ⟨[(0, v0), (1, v1), (2, v2), (3, v3), (4, v4), (10, v10), (11, v11), (12, v12), (13, v13), (80, t12)], h13, (y14 ++ (y10 ++ (y7 ++ (y3 ++ x))))⟩ K))
 (NW C gl q1 ⟨[(0, v0), (1, v1), (2, v2), (3, v3), (4, v4), (10, v10), (11, v11), (12, v12), (13, v13), (75, t11)], h9, (y10 ++ (y7 ++ (y3 ++ x)))⟩ K)
theorem E_slices_pdqsortCmpFunc_api_Record_k2 {C gl q1 e h x K} : NW C gl (P_slices_pdqsortCmpFunc_api_Record_k2 q1) ⟨e, h, x⟩ K = d_slices_pdqsortCmpFunc_api_Record_k2 C gl q1 (aget e 0) (aget e 1) (aget e 2) (aget e 3) (aget e 4) (aget e 10) (aget e 11) (aget e 12) (aget e 13) (aget e 14) h x K := by kernel_rfl
theorem e_slices_pdqsortCmpFunc_api_Record_k2 {C gl e h x K} : NW C gl p_slices_pdqsortCmpFunc_api_Record_k2 ⟨e, h, x⟩ K = d_slices_pdqsortCmpFunc_api_Record_k2 C gl p_slices_pdqsortCmpFunc_api_Record_k1 (aget e 0) (aget e 1) (aget e 2) (aget e 3) (aget e 4) (aget e 10) (aget e 11) (aget e 12) (aget e 13) (aget e 14) h x K := E_slices_pdqsortCmpFunc_api_Record_k2
def P_slices_pdqsortCmpFunc_api_Record_k3 (q2 : ACode) : ACode := .pr [0, 1, 2, 3, 4, 10, 11, 12] (.seq (.reg [
  ⟨some 48, none, .mv (.t 0)⟩,
  ⟨some 49, none, .mv (.t 1)⟩,
  ⟨some 50, none, .mv (.t 2)⟩,
  ⟨some 51, none, .mv (.t 4)⟩,
  ⟨some 52, none, .call f_slices_choosePivotCmpFunc_api_Record [(.t 48), (.t 49), (.t 50), (.t 51)]⟩,
  ⟨some 47, none, .mv (.t 52)⟩,
  ⟨some 53, none, .ext (.t 47) 0⟩,
  ⟨some 54, none, .ext (.t 47) 1⟩,
  ⟨some 13, none, .mv (.t 53)⟩,
  ⟨some 14, none, .mv (.t 54)⟩] (some [0, 1, 2, 3, 4, 10, 11, 12, 13, 14]))
 (.seq (.seq (.reg [
  ⟨some 55, none, .mv (.t 14)⟩,
  ⟨some 56, none, .bin .eql (.t 55) (.c (.p (.int .i64 2)))⟩] (some [0, 1, 2, 3, 4, 10, 11, 12, 13, 14, 56]))
 (.cond (.t 56) (.seq (.reg [
  ⟨some 57, none, .mv (.t 0)⟩,
  ⟨some 58, none, .mv (.t 1)⟩,
  ⟨some 59, none, .mv (.t 2)⟩,
  ⟨some 60, none, .mv (.t 4)⟩,
  ⟨some 61, none, .call f_slices_reverseRangeCmpFunc_api_Record [(.t 57), (.t 58), (.t 59), (.t 60)]⟩] (some [0, 1, 2, 3, 4, 10, 11, 12, 13]))
 (.seq (.reg [
  ⟨some 62, none, .mv (.t 2)⟩,
  ⟨some 63, none, .bin .sub (.t 62) (.c (.p (.int .i64 1)))⟩,
  ⟨some 64, none, .mv (.t 13)⟩,
  ⟨some 65, none, .mv (.t 1)⟩,
  ⟨some 66, none, .bin .sub (.t 64) (.t 65)⟩,
  ⟨some 67, none, .bin .sub (.t 63) (.t 66)⟩,
  ⟨some 13, none, .mv (.t 67)⟩] (some [0, 1, 2, 3, 4, 10, 11, 12, 13]))
 (.reg [
  ⟨some 14, none, .mv (.c (.p (.int .i64 1)))⟩] (some [0, 1, 2, 3, 4, 10, 11, 12, 13, 14]))))
 .skip))
 q2))
def p_slices_pdqsortCmpFunc_api_Record_k3 : ACode := P_slices_pdqsortCmpFunc_api_Record_k3 p_slices_pdqsortCmpFunc_api_Record_k2
def d_slices_pdqsortCmpFunc_api_Record_k3 (C : Hd) (gl : Nat → Option PV) (q2 : ACode) (v0 v1 v2 v3 v4 v10 v11 v12 : AV) (h : Heap) (x : Esc) (K : Ex → St → Prop) : Prop :=
 C f_slices_choosePivotCmpFunc_api_Record [v0, v1, v2, v4] h fun t1 h2 y3 =>
 pK (oExt t1 0) fun t4 =>
 pK (oExt t1 1) fun t5 =>
 pK (oBin .eql t5 (.p (.int .i64 2))) fun t6 =>
 condB t6 (C f_slices_reverseRangeCmpFunc_api_Record [v0, v1, v2, v4] h2 fun t7 h8 y9 =>
 pK (oBin .sub v2 (.p (.int .i64 1))) fun t10 =>
 pK (oBin .sub t4 v1) fun t11 =>
 pK (oBin .sub t10 t11) fun t12 =>
 NW C gl q2 ⟨[(0, v0), (1, v1), (2, v2), (3, v3), (4, v4), (10, v10), (11, v11), (12, v12), (13, t12), (14, (.p (.int .i64 1)))], h8, (y9 ++ (y3 ++ x))⟩ K)
 (NW C gl q2 ⟨[(0, v0), (1, v1), (2, v2), (3, v3), (4, v4), (10, v10), (11, v11), (12, v12), (13, t4), (14, t5), (56, t6)], h2, (y3 ++ x)⟩ K)
theorem E_slices_pdqsortCmpFunc_api_Record_k3 {C gl q2 e h x K} : NW C gl (P_slices_pdqsortCmpFunc_api_Record_k3 q2) ⟨e, h, x⟩ K = d_slices_pdqsortCmpFunc_api_Record_k3 C gl q2 (aget e 0) (aget e 1) (aget e 2) (aget e 3) (aget e 4) (aget e 10) (aget e 11) (aget e 12) h x K := by kernel_rfl
theorem e_slices_pdqsortCmpFunc_api_Record_k3 {C gl e h x K} : NW C gl p_slices_pdqsortCmpFunc_api_Record_k3 ⟨e, h, x⟩ K = d_slices_pdqsortCmpFunc_api_Record_k3 C gl p_slices_pdqsortCmpFunc_api_Record_k2 (aget e 0) (aget e 1) (aget e 2) (aget e 3) (aget e 4) (aget e 10) (aget e 11) (aget e 12) h x K := E_slices_pdqsortCmpFunc_api_Record_k3
def P_slices_pdqsortCmpFunc_api_Record_k4 (q3 : ACode) : ACode := .pr [0, 1, 2, 3, 4, 10, 11] (.block 1 (.seq (.reg [
  ⟨some 21, none, .mv (.t 2)⟩,
  ⟨some 22, none, .mv (.t 1)⟩,
  ⟨some 23, none, .bin .sub (.t 21) (.t 22)⟩,
  ⟨some 12, none, .mv (.t 23)⟩] (some [0, 1, 2, 3, 4, 10, 11, 12]))
 (.seq (.seq (.reg [
  ⟨some 24, none, .mv (.t 12)⟩,
  ⟨some 25, none, .bin .leq (.t 24) (.c (.p (.int .i64 12)))⟩] (some [0, 1, 2, 3, 4, 10, 11, 12, 25]))
 (.cond (.t 25) (.seq (.reg [
  ⟨some 26, none, .mv (.t 0)⟩,
  ⟨some 27, none, .mv (.t 1)⟩,
  ⟨some 28, none, .mv (.t 2)⟩,
  ⟨some 29, none, .mv (.t 4)⟩,
  ⟨some 30, none, .call f_slices_insertionSortCmpFunc_api_Record [(.t 26), (.t 27), (.t 28), (.t 29)]⟩] (some []))
 .ret)
 .skip))
 (.seq (.seq (.reg [
  ⟨some 31, none, .mv (.t 3)⟩,
  ⟨some 32, none, .bin .eql (.t 31) (.c (.p (.int .i64 0)))⟩] (some [0, 1, 2, 3, 4, 10, 11, 12, 32]))
 (.cond (.t 32) (.seq (.reg [
  ⟨some 33, none, .mv (.t 0)⟩,
  ⟨some 34, none, .mv (.t 1)⟩,
  ⟨some 35, none, .mv (.t 2)⟩,
  ⟨some 36, none, .mv (.t 4)⟩,
  ⟨some 37, none, .call f_slices_heapSortCmpFunc_api_Record [(.t 33), (.t 34), (.t 35), (.t 36)]⟩] (some []))
 .ret)
 .skip))
 (.seq (.seq (.reg [
  ⟨some 38, none, .mv (.t 10)⟩,
  ⟨some 39, none, .un .not (.t 38)⟩] (some [0, 1, 2, 3, 4, 10, 11, 12, 39]))
 (.cond (.t 39) (.seq (.reg [
  ⟨some 40, none, .mv (.t 0)⟩,
  ⟨some 41, none, .mv (.t 1)⟩,
  ⟨some 42, none, .mv (.t 2)⟩,
  ⟨some 43, none, .mv (.t 4)⟩,
  ⟨some 44, none, .call f_slices_breakPatternsCmpFunc_api_Record [(.t 40), (.t 41), (.t 42), (.t 43)]⟩] (some [0, 1, 2, 3, 4, 10, 11, 12]))
 (.reg [
  ⟨some 45, none, .mv (.t 3)⟩,
  ⟨some 46, none, .bin .sub (.t 45) (.c (.p (.int .i64 1)))⟩,
  ⟨some 3, none, .mv (.t 46)⟩] (some [0, 1, 2, 3, 4, 10, 11, 12])))
 .skip))
 q3)))))
def p_slices_pdqsortCmpFunc_api_Record_k4 : ACode := P_slices_pdqsortCmpFunc_api_Record_k4 p_slices_pdqsortCmpFunc_api_Record_k3
def d_slices_pdqsortCmpFunc_api_Record_k4 (C : Hd) (gl : Nat → Option PV) (q3 : ACode) (v0 v1 v2 v3 v4 v10 v11 : AV) (h : Heap) (x : Esc) (K : Ex → St → Prop) : Prop :=
 pK (oBin .sub v2 v1) fun t1 =>
 pK (oBin .leq t1 (.p (.int .i64 12))) fun t2 =>
 condB t2 (C f_slices_insertionSortCmpFunc_api_Record [v0, v1, v2, v4] h fun t3 h4 y5 =>
 K .ret ⟨[], h4, (y5 ++ x)⟩)
 (pK (oBin .eql v3 (.p (.int .i64 0))) fun t6 =>
 condB t6 (C f_slices_heapSortCmpFunc_api_Record [v0, v1, v2, v4] h fun t7 h8 y9 =>
 K .ret ⟨[], h8, (y9 ++ x)⟩)
 (pK (oUn .not v10) fun t10 =>
 condB t10 (C f_slices_breakPatternsCmpFunc_api_Record [v0, v1, v2, v4] h fun t11 h12 y13 =>
 pK (oBin .sub v3 (.p (.int .i64 1))) fun t14 =>
 NW C gl q3 ⟨[(0, v0), (1, v1), (2, v2), (3, t14), (4, v4), (10, v10), (11, v11), (12, t1)], h12, (y13 ++ x)⟩ (blockN 1 K))
 (NW C gl q3 ⟨[(0, v0), (1, v1), (2, v2), (3, v3), (4, v4), (10, v10), (11, v11), (12, t1), (39, t10)], h, x⟩ (blockN 1 K))))
theorem E_slices_pdqsortCmpFunc_api_Record_k4 {C gl q3 e h x K} : NW C gl (P_slices_pdqsortCmpFunc_api_Record_k4 q3) ⟨e, h, x⟩ K = d_slices_pdqsortCmpFunc_api_Record_k4 C gl q3 (aget e 0) (aget e 1) (aget e 2) (aget e 3) (aget e 4) (aget e 10) (aget e 11) h x K := by kernel_rfl
theorem e_slices_pdqsortCmpFunc_api_Record_k4 {C gl e h x K} : NW C gl p_slices_pdqsortCmpFunc_api_Record_k4 ⟨e, h, x⟩ K = d_slices_pdqsortCmpFunc_api_Record_k4 C gl p_slices_pdqsortCmpFunc_api_Record_k3 (aget e 0) (aget e 1) (aget e 2) (aget e 3) (aget e 4) (aget e 10) (aget e 11) h x K := E_slices_pdqsortCmpFunc_api_Record_k4
theorem l_slices_pdqsortCmpFunc_api_Record_k4 {C gl e h x K} : NW C gl (.loop p_slices_pdqsortCmpFunc_api_Record_k4) ⟨e, h, x⟩ K = NLoop C gl p_slices_pdqsortCmpFunc_api_Record_k4 K [(0, aget e 0), (1, aget e 1), (2, aget e 2), (3, aget e 3), (4, aget e 4), (10, aget e 10), (11, aget e 11)] h x := NLoop_pr
def P_slices_pdqsortCmpFunc_api_Record (q4 : ACode) : ACode := (.seq (.reg [
  ⟨some 10, none, .mv (.c (.p (.bool true)))⟩] (some [0, 1, 2, 3, 4, 10]))
 (.seq (.reg [
  ⟨some 11, none, .mv (.c (.p (.bool true)))⟩] (some [0, 1, 2, 3, 4, 10, 11]))
 (.block 0 (.loop q4))))
def a_slices_pdqsortCmpFunc_api_Record : AFun := ⟨5, [], P_slices_pdqsortCmpFunc_api_Record p_slices_pdqsortCmpFunc_api_Record_k4, true, false⟩
def d_slices_pdqsortCmpFunc_api_Record (C : Hd) (gl : Nat → Option PV) (q4 : ACode) (v0 v1 v2 v3 v4 : AV) (h : Heap) (x : Esc) (K : Ex → St → Prop) : Prop :=
 NW C gl (.loop q4) ⟨[(0, v0), (1, v1), (2, v2), (3, v3), (4, v4), (10, (.p (.bool true))), (11, (.p (.bool true)))], h, x⟩ (blockN 0 K)
theorem E_slices_pdqsortCmpFunc_api_Record {C gl q4 v0 v1 v2 v3 v4 h x K} : NW C gl (P_slices_pdqsortCmpFunc_api_Record q4) ⟨enter [v0, v1, v2, v3, v4], h, x⟩ K = d_slices_pdqsortCmpFunc_api_Record C gl q4 v0 v1 v2 v3 v4 h x K := by kernel_rfl
theorem e_slices_pdqsortCmpFunc_api_Record {C gl v0 v1 v2 v3 v4 h x K} : NW C gl a_slices_pdqsortCmpFunc_api_Record.body ⟨enter [v0, v1, v2, v3, v4], h, x⟩ K = d_slices_pdqsortCmpFunc_api_Record C gl p_slices_pdqsortCmpFunc_api_Record_k4 v0 v1 v2 v3 v4 h x K := E_slices_pdqsortCmpFunc_api_Record
def P_math_bits_Len : ACode := (.seq (.reg [
  ⟨some 2, none, .mv (.c (.p (.int .i64 0)))⟩] (some [0]))
 (.seq (.cond (.c (.p (.bool false))) (.seq (.reg [
  ⟨some 3, none, .mv (.t 0)⟩,
  ⟨some 4, none, .conv (.i .u32) (.t 3)⟩,
  ⟨some 5, none, .call f_math_bits_Len32 [(.t 4)]⟩,
  ⟨some 2, none, .mv (.t 5)⟩] (some [2]))
 .ret)
 .skip)
 (.seq (.reg [
  ⟨some 6, none, .mv (.t 0)⟩,
  ⟨some 7, none, .call f_math_bits_Len64 [(.t 6)]⟩,
  ⟨some 2, none, .mv (.t 7)⟩] (some [2]))
 .ret)))
def a_math_bits_Len : AFun := ⟨1, [.t 2], P_math_bits_Len, false, false⟩
def d_math_bits_Len (C : Hd) (gl : Nat → Option PV) (v0 : AV) (h : Heap) (x : Esc) (K : Ex → St → Prop) : Prop :=
 condB (.p (.bool false)) (pK (oConvI .u32 v0) fun t1 =>
 C f_math_bits_Len32 [t1] h fun t2 h3 y4 =>
 K .ret ⟨[(2, t2)], h3, (y4 ++ x)⟩)
 (C f_math_bits_Len64 [v0] h fun t5 h6 y7 =>
 K .ret ⟨[(2, t5)], h6, (y7 ++ x)⟩)
theorem E_math_bits_Len {C gl v0 h x K} : NW C gl (P_math_bits_Len) ⟨enter [v0], h, x⟩ K = d_math_bits_Len C gl v0 h x K := by kernel_rfl
theorem e_math_bits_Len {C gl v0 h x K} : NW C gl a_math_bits_Len.body ⟨enter [v0], h, x⟩ K = d_math_bits_Len C gl v0 h x K := E_math_bits_Len
def p_slices_IndexFunc_api_Limit_api_Limit_k1 : ACode := .pr [0, 1, 7, 8] (.seq (.reg [
  ⟨some 9, none, .bin .lss (.t 8) (.t 7)⟩] (some [0, 1, 7, 8, 9]))
 (.seq (.cond (.t 9) .skip
 (.exit 0))
 (.seq (.block 1 (.seq (.reg [
  ⟨some 10, none, .mv (.t 8)⟩,
  ⟨some 5, none, .mv (.t 10)⟩] (some [0, 1, 5, 7, 8]))
 (.seq (.reg [
  ⟨some 11, none, .mv (.t 1)⟩,
  ⟨some 12, none, .mv (.t 0)⟩,
  ⟨some 13, none, .mv (.t 5)⟩,
  ⟨some 14, none, .iaddr (some 4) (.t 12) (.t 13)⟩,
  ⟨some 15, none, .load (some 4) (.t 14)⟩,
  ⟨some 16, none, .callv (.t 11) [(.t 15)]⟩] (some [0, 1, 5, 7, 8, 16]))
 (.cond (.t 16) (.seq (.reg [
  ⟨some 17, none, .mv (.t 5)⟩,
  ⟨some 4, none, .mv (.t 17)⟩] (some [4]))
 .ret)
 .skip))))
 (.reg [
  ⟨some 18, none, .bin .add (.t 8) (.c (.p (.int .i64 1)))⟩,
  ⟨some 8, none, .mv (.t 18)⟩] (some [0, 1, 7, 8])))))
def d_slices_IndexFunc_api_Limit_api_Limit_k1 (C : Hd) (gl : Nat → Option PV) (v0 v1 v7 v8 : AV) (h : Heap) (x : Esc) (K : Ex → St → Prop) : Prop :=
 pK (oBin .lss v8 v7) fun t1 =>
 condB t1 (pK (oIaddr (some 4) v0 v8 h) fun t2 =>
 pK (oLoad (some 4) t2 h) fun t3 =>
 callvK C v1 [t3] h fun t4 h5 y6 =>
 condB t4 (K .ret ⟨[(4, v8)], h5, (y6 ++ x)⟩)
 (pK (oBin .add v8 (.p (.int .i64 1))) fun t7 =>
 K .normal ⟨[(0, v0), (1, v1), (7, v7), (8, t7)], h5, (y6 ++ x)⟩))
 (K (.exit 0) ⟨[(0, v0), (1, v1), (7, v7), (8, v8), (9, t1)], h, x⟩)
theorem e_slices_IndexFunc_api_Limit_api_Limit_k1 {C gl e h x K} : NW C gl p_slices_IndexFunc_api_Limit_api_Limit_k1 ⟨e, h, x⟩ K = d_slices_IndexFunc_api_Limit_api_Limit_k1 C gl (aget e 0) (aget e 1) (aget e 7) (aget e 8) h x K := by kernel_rfl
theorem l_slices_IndexFunc_api_Limit_api_Limit_k1 {C gl e h x K} : NW C gl (.loop p_slices_IndexFunc_api_Limit_api_Limit_k1) ⟨e, h, x⟩ K = NLoop C gl p_slices_IndexFunc_api_Limit_api_Limit_k1 K [(0, aget e 0), (1, aget e 1), (7, aget e 7), (8, aget e 8)] h x := NLoop_pr
def p_slices_IndexFunc_api_Limit_api_Limit_k2 : ACode := .pr [] (.seq (.reg [
  ⟨some 4, none, .mv (.c (.p (.int .i64 (-1))))⟩] (some [4]))
 .ret)
def d_slices_IndexFunc_api_Limit_api_Limit_k2 (C : Hd) (gl : Nat → Option PV) (h : Heap) (x : Esc) (K : Ex → St → Prop) : Prop :=
 K .ret ⟨[(4, (.p (.int .i64 (-1))))], h, x⟩
theorem e_slices_IndexFunc_api_Limit_api_Limit_k2 {C gl e h x K} : NW C gl p_slices_IndexFunc_api_Limit_api_Limit_k2 ⟨e, h, x⟩ K = d_slices_IndexFunc_api_Limit_api_Limit_k2 C gl h x K := by kernel_rfl
def P_slices_IndexFunc_api_Limit_api_Limit (q1 q2 : ACode) : ACode := (.seq (.reg [
  ⟨some 4, none, .mv (.c (.p (.int .i64 0)))⟩] (some [0, 1]))
 (.seq (.seq (.reg [
  ⟨some 6, none, .mv (.t 0)⟩,
  ⟨some 7, none, .len (.t 6)⟩,
  ⟨some 8, none, .mv (.c (.p (.int .i64 0)))⟩] (some [0, 1, 7, 8]))
 (.block 0 (.loop q1)))
 q2))
def a_slices_IndexFunc_api_Limit_api_Limit : AFun := ⟨2, [.t 4], P_slices_IndexFunc_api_Limit_api_Limit p_slices_IndexFunc_api_Limit_api_Limit_k1 p_slices_IndexFunc_api_Limit_api_Limit_k2, true, false⟩
def d_slices_IndexFunc_api_Limit_api_Limit (C : Hd) (gl : Nat → Option PV) (q1 q2 : ACode) (v0 v1 : AV) (h : Heap) (x : Esc) (K : Ex → St → Prop) : Prop :=
 pK (oLen v0) fun t1 =>
 NW C gl (.loop q1) ⟨[(0, v0), (1, v1), (7, t1), (8, (.p (.int .i64 0)))], h, x⟩ (blockN 0 (seqN C gl q2 K))
theorem E_slices_IndexFunc_api_Limit_api_Limit {C gl q1 q2 v0 v1 h x K} : NW C gl (P_slices_IndexFunc_api_Limit_api_Limit q1 q2) ⟨enter [v0, v1], h, x⟩ K = d_slices_IndexFunc_api_Limit_api_Limit C gl q1 q2 v0 v1 h x K := by kernel_rfl
theorem e_slices_IndexFunc_api_Limit_api_Limit {C gl v0 v1 h x K} : NW C gl a_slices_IndexFunc_api_Limit_api_Limit.body ⟨enter [v0, v1], h, x⟩ K = d_slices_IndexFunc_api_Limit_api_Limit C gl p_slices_IndexFunc_api_Limit_api_Limit_k1 p_slices_IndexFunc_api_Limit_api_Limit_k2 v0 v1 h x K := E_slices_IndexFunc_api_Limit_api_Limit
def P_lot_find_1 : ACode := (.seq (.reg [
  ⟨some 2, none, .box (.t 0)⟩,
  ⟨some 3, none, .mv (.c (.p (.bool false)))⟩] (some [1, 2]))
 (.seq (.reg [
  ⟨some 4, none, .faddr 0 none (.t 2)⟩,
  ⟨some 5, none, .load none (.t 4)⟩,
  ⟨some 6, none, .load none (.t 1)⟩,
  ⟨some 7, none, .bin .eql (.t 5) (.t 6)⟩,
  ⟨some 3, none, .mv (.t 7)⟩] (some [3]))
 .ret))
def a_lot_find_1 : AFun := ⟨2, [.t 3], P_lot_find_1, false, false⟩
def d_lot_find_1 (C : Hd) (gl : Nat → Option PV) (v0 v1 : AV) (h : Heap) (x : Esc) (K : Ex → St → Prop) : Prop :=
 wK (oBox v0 h) fun t1 h2 y3 =>
 pK (oFaddr 0 none t1) fun t4 =>
 pK (oLoad none t4 h2) fun t5 =>
 pK (oLoad none v1 h2) fun t6 =>
 pK (oBin .eql t5 t6) fun t7 =>
 K .ret ⟨[(3, t7)], h2, (y3 ++ x)⟩
theorem E_lot_find_1 {C gl v0 v1 h x K} : NW C gl (P_lot_find_1) ⟨enter [v0, v1], h, x⟩ K = d_lot_find_1 C gl v0 v1 h x K := by kernel_rfl
theorem e_lot_find_1 {C gl v0 v1 h x K} : NW C gl a_lot_find_1.body ⟨enter [v0, v1], h, x⟩ K = d_lot_find_1 C gl v0 v1 h x K := E_lot_find_1
def p_scanref2_only_k1 : ACode := .pr [0, 1, 7, 8] (.seq (.reg [
  ⟨some 9, none, .bin .lss (.t 8) (.t 7)⟩] (some [0, 1, 7, 8, 9]))
 (.seq (.cond (.t 9) .skip
 (.exit 0))
 (.seq (.block 1 (.seq (.reg [
  ⟨some 10, none, .mv (.t 8)⟩,
  ⟨some 5, none, .mv (.t 10)⟩] (some [0, 1, 5, 7, 8]))
 (.seq (.reg [
  ⟨some 11, none, .mv (.t 1)⟩,
  ⟨some 12, none, .mv (.t 0)⟩,
  ⟨some 13, none, .mv (.t 5)⟩,
  ⟨some 14, none, .idxs (.t 12) (.t 13)⟩,
  ⟨some 15, none, .call f_strings_IndexByte [(.t 11), (.t 14)]⟩,
  ⟨some 16, none, .bin .lss (.t 15) (.c (.p (.int .i64 0)))⟩] (some [0, 1, 7, 8, 16]))
 (.cond (.t 16) (.seq (.reg [
  ⟨some 4, none, .mv (.c (.p (.bool false)))⟩] (some [4]))
 .ret)
 .skip))))
 (.reg [
  ⟨some 17, none, .bin .add (.t 8) (.c (.p (.int .i64 1)))⟩,
  ⟨some 8, none, .mv (.t 17)⟩] (some [0, 1, 7, 8])))))
def d_scanref2_only_k1 (C : Hd) (gl : Nat → Option PV) (v0 v1 v7 v8 : AV) (h : Heap) (x : Esc) (K : Ex → St → Prop) : Prop :=
 pK (oBin .lss v8 v7) fun t1 =>
 condB t1 (pK (oIdxs v0 v8) fun t2 =>
 C f_strings_IndexByte [v1, t2] h fun t3 h4 y5 =>
 pK (oBin .lss t3 (.p (.int .i64 0))) fun t6 =>
 condB t6 (K .ret ⟨[(4, (.p (.bool false)))], h4, (y5 ++ x)⟩)
 (pK (oBin .add v8 (.p (.int .i64 1))) fun t7 =>
 K .normal ⟨[(0, v0), (1, v1), (7, v7), (8, t7)], h4, (y5 ++ x)⟩))
 (K (.exit 0) ⟨[(0, v0), (1, v1), (7, v7), (8, v8), (9, t1)], h, x⟩)
theorem e_scanref2_only_k1 {C gl e h x K} : NW C gl p_scanref2_only_k1 ⟨e, h, x⟩ K = d_scanref2_only_k1 C gl (aget e 0) (aget e 1) (aget e 7) (aget e 8) h x K := by kernel_rfl
theorem l_scanref2_only_k1 {C gl e h x K} : NW C gl (.loop p_scanref2_only_k1) ⟨e, h, x⟩ K = NLoop C gl p_scanref2_only_k1 K [(0, aget e 0), (1, aget e 1), (7, aget e 7), (8, aget e 8)] h x := NLoop_pr
def p_scanref2_only_k2 : ACode := .pr [] (.seq (.reg [
  ⟨some 4, none, .mv (.c (.p (.bool true)))⟩] (some [4]))
 .ret)
def d_scanref2_only_k2 (C : Hd) (gl : Nat → Option PV) (h : Heap) (x : Esc) (K : Ex → St → Prop) : Prop :=
 K .ret ⟨[(4, (.p (.bool true)))], h, x⟩
theorem e_scanref2_only_k2 {C gl e h x K} : NW C gl p_scanref2_only_k2 ⟨e, h, x⟩ K = d_scanref2_only_k2 C gl h x K := by kernel_rfl
def P_scanref2_only (q1 q2 : ACode) : ACode := (.seq (.reg [
  ⟨some 4, none, .mv (.c (.p (.bool false)))⟩] (some [0, 1]))
 (.seq (.seq (.reg [
  ⟨some 6, none, .mv (.t 0)⟩,
  ⟨some 7, none, .lens (.t 6)⟩,
  ⟨some 8, none, .mv (.c (.p (.int .i64 0)))⟩] (some [0, 1, 7, 8]))
 (.block 0 (.loop q1)))
 q2))
def a_scanref2_only : AFun := ⟨2, [.t 4], P_scanref2_only p_scanref2_only_k1 p_scanref2_only_k2, false, false⟩
def d_scanref2_only (C : Hd) (gl : Nat → Option PV) (q1 q2 : ACode) (v0 v1 : AV) (h : Heap) (x : Esc) (K : Ex → St → Prop) : Prop :=
 pK (oLens v0) fun t1 =>
 NW C gl (.loop q1) ⟨[(0, v0), (1, v1), (7, t1), (8, (.p (.int .i64 0)))], h, x⟩ (blockN 0 (seqN C gl q2 K))
theorem E_scanref2_only {C gl q1 q2 v0 v1 h x K} : NW C gl (P_scanref2_only q1 q2) ⟨enter [v0, v1], h, x⟩ K = d_scanref2_only C gl q1 q2 v0 v1 h x K := by kernel_rfl
theorem e_scanref2_only {C gl v0 v1 h x K} : NW C gl a_scanref2_only.body ⟨enter [v0, v1], h, x⟩ K = d_scanref2_only C gl p_scanref2_only_k1 p_scanref2_only_k2 v0 v1 h x K := E_scanref2_only
def P_scanref2_TestAt_1 : ACode := (.seq (.reg [
  ⟨some 2, none, .box (.t 0)⟩,
  ⟨some 3, none, .mv (.c (.p (.bool false)))⟩] (some [1, 2]))
 (.seq (.reg [
  ⟨some 4, none, .faddr 0 none (.t 2)⟩,
  ⟨some 5, none, .load none (.t 4)⟩,
  ⟨some 6, none, .load none (.t 1)⟩,
  ⟨some 7, none, .bin .eql (.t 5) (.t 6)⟩,
  ⟨some 3, none, .mv (.t 7)⟩] (some [3]))
 .ret))
def a_scanref2_TestAt_1 : AFun := ⟨2, [.t 3], P_scanref2_TestAt_1, false, false⟩
def d_scanref2_TestAt_1 (C : Hd) (gl : Nat → Option PV) (v0 v1 : AV) (h : Heap) (x : Esc) (K : Ex → St → Prop) : Prop :=
 wK (oBox v0 h) fun t1 h2 y3 =>
 pK (oFaddr 0 none t1) fun t4 =>
 pK (oLoad none t4 h2) fun t5 =>
 pK (oLoad none v1 h2) fun t6 =>
 pK (oBin .eql t5 t6) fun t7 =>
 K .ret ⟨[(3, t7)], h2, (y3 ++ x)⟩
theorem E_scanref2_TestAt_1 {C gl v0 v1 h x K} : NW C gl (P_scanref2_TestAt_1) ⟨enter [v0, v1], h, x⟩ K = d_scanref2_TestAt_1 C gl v0 v1 h x K := by kernel_rfl
theorem e_scanref2_TestAt_1 {C gl v0 v1 h x K} : NW C gl a_scanref2_TestAt_1.body ⟨enter [v0, v1], h, x⟩ K = d_scanref2_TestAt_1 C gl v0 v1 h x K := E_scanref2_TestAt_1
def P_lot_valuesFault : ACode := (.seq (.reg [
  ⟨some 4, none, .mv (.c (.p (.int .i64 0)))⟩] (some [0, 1]))
 (.seq (.block 0 (.seq (.reg [
  ⟨some 6, none, .mv (.t 0)⟩,
  ⟨some 7, none, .len (.t 6)⟩,
  ⟨some 8, none, .mv (.t 1)⟩,
  ⟨some 9, none, .bin .lss (.t 7) (.t 8)⟩,
  ⟨some 5, none, .mv (.t 9)⟩] (some [0, 5]))
 (.cond (.t 5) (.seq (.reg [
  ⟨some 4, none, .mv (.c (.p (.int .i64 8)))⟩] (some [4]))
 .ret)
 (.seq (.reg [
  ⟨some 11, none, .mv (.t 0)⟩,
  ⟨some 12, none, .len (.t 11)⟩,
  ⟨some 13, none, .bin .gtr (.t 12) (.c (.p (.int .i64 5000)))⟩,
  ⟨some 10, none, .mv (.t 13)⟩] (some [0, 10]))
 (.cond (.t 10) (.seq (.reg [
  ⟨some 4, none, .mv (.c (.p (.int .i64 2)))⟩] (some [4]))
 .ret)
 (.seq (.reg [
  ⟨some 15, none, .mv (.t 0)⟩,
  ⟨some 16, none, .call f_slices_ContainsFunc_int_int [(.t 15), (.f f_lot_valuesFault_1)]⟩,
  ⟨some 14, none, .mv (.t 16)⟩] (some [14]))
 (.cond (.t 14) (.seq (.reg [
  ⟨some 4, none, .mv (.c (.p (.int .i64 1)))⟩] (some [4]))
 .ret)
 .skip)))))))
 (.seq (.reg [
  ⟨some 4, none, .mv (.c (.p (.int .i64 0)))⟩] (some [4]))
 .ret)))
def a_lot_valuesFault : AFun := ⟨2, [.t 4], P_lot_valuesFault, false, false⟩
def d_lot_valuesFault (C : Hd) (gl : Nat → Option PV) (v0 v1 : AV) (h : Heap) (x : Esc) (K : Ex → St → Prop) : Prop :=
 pK (oLen v0) fun t1 =>
 pK (oBin .lss t1 v1) fun t2 =>
 condB t2 (K .ret ⟨[(4, (.p (.int .i64 8)))], h, x⟩)
 (pK (oLen v0) fun t3 =>
 pK (oBin .gtr t3 (.p (.int .i64 5000))) fun t4 =>
 condB t4 (K .ret ⟨[(4, (.p (.int .i64 2)))], h, x⟩)
 (C f_slices_ContainsFunc_int_int [v0, (.fn f_lot_valuesFault_1 [])] h fun t5 h6 y7 =>
 condB t5 (K .ret ⟨[(4, (.p (.int .i64 1)))], h6, (y7 ++ x)⟩)
 (K .ret ⟨[(4, (.p (.int .i64 0)))], h6, (y7 ++ x)⟩)))
theorem E_lot_valuesFault {C gl v0 v1 h x K} : NW C gl (P_lot_valuesFault) ⟨enter [v0, v1], h, x⟩ K = d_lot_valuesFault C gl v0 v1 h x K := by kernel_rfl
theorem e_lot_valuesFault {C gl v0 v1 h x K} : NW C gl a_lot_valuesFault.body ⟨enter [v0, v1], h, x⟩ K = d_lot_valuesFault C gl v0 v1 h x K := E_lot_valuesFault
def p_lot_sums_k1 : ACode := .pr [0, 2, 4, 7, 8, 9] (.seq (.reg [
  ⟨some 10, none, .bin .lss (.t 9) (.t 8)⟩] (some [0, 2, 4, 7, 8, 9, 10]))
 (.seq (.cond (.t 10) .skip
 (.exit 0))
 (.seq (.block 1 (.seq (.reg [
  ⟨some 11, none, .iaddr none (.t 7) (.t 9)⟩,
  ⟨some 12, none, .load none (.t 11)⟩,
  ⟨some 6, none, .mv (.t 12)⟩] (some [0, 2, 4, 6, 7, 8, 9]))
 (.seq (.reg [
  ⟨some 13, none, .mv (.t 2)⟩,
  ⟨some 14, none, .mv (.t 6)⟩,
  ⟨some 15, none, .bin .add (.t 13) (.t 14)⟩,
  ⟨some 2, none, .mv (.t 15)⟩] (some [0, 2, 4, 6, 7, 8, 9]))
 (.reg [
  ⟨some 16, none, .mv (.t 4)⟩,
  ⟨some 17, none, .mv (.t 6)⟩,
  ⟨some 18, none, .mv (.t 6)⟩,
  ⟨some 19, none, .bin .mul (.t 17) (.t 18)⟩,
  ⟨some 20, none, .bin .add (.t 16) (.t 19)⟩,
  ⟨some 4, none, .mv (.t 20)⟩] (some [0, 2, 4, 7, 8, 9])))))
 (.reg [
  ⟨some 21, none, .bin .add (.t 9) (.c (.p (.int .i64 1)))⟩,
  ⟨some 9, none, .mv (.t 21)⟩] (some [0, 2, 4, 7, 8, 9])))))
def d_lot_sums_k1 (C : Hd) (gl : Nat → Option PV) (v0 v2 v4 v7 v8 v9 : AV) (h : Heap) (x : Esc) (K : Ex → St → Prop) : Prop :=
 pK (oBin .lss v9 v8) fun t1 =>
 condB t1 (pK (oIaddr none v7 v9 h) fun t2 =>
 pK (oLoad none t2 h) fun t3 =>
 pK (oBin .add v2 t3) fun t4 =>
 pK (oBin .mul t3 t3) fun t5 =>
 pK (oBin .add v4 t5) fun t6 =>
 pK (oBin .add v9 (.p (.int .i64 1))) fun t7 =>
 K .normal ⟨[(0, v0), (2, t4), (4, t6), (7, v7), (8, v8), (9, t7)], h, x⟩)
 (K (.exit 0) ⟨[(0, v0), (2, v2), (4, v4), (7, v7), (8, v8), (9, v9), (10, t1)], h, x⟩)
theorem e_lot_sums_k1 {C gl e h x K} : NW C gl p_lot_sums_k1 ⟨e, h, x⟩ K = d_lot_sums_k1 C gl (aget e 0) (aget e 2) (aget e 4) (aget e 7) (aget e 8) (aget e 9) h x K := by kernel_rfl
theorem l_lot_sums_k1 {C gl e h x K} : NW C gl (.loop p_lot_sums_k1) ⟨e, h, x⟩ K = NLoop C gl p_lot_sums_k1 K [(0, aget e 0), (2, aget e 2), (4, aget e 4), (7, aget e 7), (8, aget e 8), (9, aget e 9)] h x := NLoop_pr
def p_lot_sums_k2 : ACode := .pr [0, 2, 4] (.seq (.reg [
  ⟨some 22, none, .mv (.t 2)⟩,
  ⟨some 23, none, .mv (.t 0)⟩,
  ⟨some 24, none, .len (.t 23)⟩,
  ⟨some 25, none, .mv (.t 4)⟩,
  ⟨some 26, none, .bin .mul (.t 24) (.t 25)⟩,
  ⟨some 27, none, .mv (.t 2)⟩,
  ⟨some 28, none, .mv (.t 2)⟩,
  ⟨some 29, none, .bin .mul (.t 27) (.t 28)⟩,
  ⟨some 30, none, .bin .sub (.t 26) (.t 29)⟩,
  ⟨some 2, none, .mv (.t 22)⟩,
  ⟨some 3, none, .mv (.t 30)⟩] (some [2, 3]))
 .ret)
def d_lot_sums_k2 (C : Hd) (gl : Nat → Option PV) (v0 v2 v4 : AV) (h : Heap) (x : Esc) (K : Ex → St → Prop) : Prop :=
 pK (oLen v0) fun t1 =>
 pK (oBin .mul t1 v4) fun t2 =>
 pK (oBin .mul v2 v2) fun t3 =>
 pK (oBin .sub t2 t3) fun t4 =>
 K .ret ⟨[(2, v2), (3, t4)], h, x⟩
theorem e_lot_sums_k2 {C gl e h x K} : NW C gl p_lot_sums_k2 ⟨e, h, x⟩ K = d_lot_sums_k2 C gl (aget e 0) (aget e 2) (aget e 4) h x K := by kernel_rfl
def P_lot_sums (q1 q2 : ACode) : ACode := (.seq (.reg [
  ⟨some 2, none, .mv (.c (.p (.int .i64 0)))⟩,
  ⟨some 3, none, .mv (.c (.p (.int .i64 0)))⟩] (some [0, 2]))
 (.seq (.reg [
  ⟨some 4, none, .mv (.c (.p (.int .i64 0)))⟩] (some [0, 2, 4]))
 (.seq (.seq (.reg [
  ⟨some 7, none, .mv (.t 0)⟩,
  ⟨some 8, none, .len (.t 7)⟩,
  ⟨some 9, none, .mv (.c (.p (.int .i64 0)))⟩] (some [0, 2, 4, 7, 8, 9]))
 (.block 0 (.loop q1)))
 q2)))
def a_lot_sums : AFun := ⟨1, [.t 2, .t 3], P_lot_sums p_lot_sums_k1 p_lot_sums_k2, false, false⟩
def d_lot_sums (C : Hd) (gl : Nat → Option PV) (q1 q2 : ACode) (v0 : AV) (h : Heap) (x : Esc) (K : Ex → St → Prop) : Prop :=
 pK (oLen v0) fun t1 =>
 NW C gl (.loop q1) ⟨[(0, v0), (2, (.p (.int .i64 0))), (4, (.p (.int .i64 0))), (7, v0), (8, t1), (9, (.p (.int .i64 0)))], h, x⟩ (blockN 0 (seqN C gl q2 K))
theorem E_lot_sums {C gl q1 q2 v0 h x K} : NW C gl (P_lot_sums q1 q2) ⟨enter [v0], h, x⟩ K = d_lot_sums C gl q1 q2 v0 h x K := by kernel_rfl
theorem e_lot_sums {C gl v0 h x K} : NW C gl a_lot_sums.body ⟨enter [v0], h, x⟩ K = d_lot_sums C gl p_lot_sums_k1 p_lot_sums_k2 v0 h x K := E_lot_sums
def P_base_Fraction : ACode := (.seq (.reg [
  ⟨some 4, none, .alloc [.p (.int .i64 0), .p (.int .i64 0)]⟩] (some [0, 1, 4]))
 (.seq (.reg [
  ⟨some 6, none, .mv (.t 0)⟩,
  ⟨some 7, none, .mv (.t 0)⟩,
  ⟨some 8, none, .un .neg (.t 7)⟩,
  ⟨some 9, none, .mx [(.t 6), (.t 8)]⟩,
  ⟨some 10, none, .mv (.t 1)⟩,
  ⟨some 11, none, .call f_base_Gcd [(.t 9), (.t 10)]⟩,
  ⟨some 5, none, .mv (.t 11)⟩] (some [0, 1, 4, 5]))
 (.seq (.draw [
   ⟨⟨some 12, none, .mv (.t 0)⟩, [0], false, [], []⟩,
   ⟨⟨some 13, none, .mv (.t 5)⟩, [5], false, [], []⟩,
   ⟨⟨some 14, none, .bin .quo (.t 12) (.t 13)⟩, [12, 13], false, [], []⟩,
   ⟨⟨some 15, none, .mv (.t 1)⟩, [1], false, [], []⟩,
   ⟨⟨some 16, none, .mv (.t 5)⟩, [5], false, [], []⟩,
   ⟨⟨some 17, none, .bin .quo (.t 15) (.t 16)⟩, [15, 16], false, [], []⟩,
   ⟨⟨some 18, none, .build [.p (.int .i64 0), .p (.int .i64 0)] [(0, 1, (.t 14)), (1, 1, (.t 17))]⟩, [14, 17], false, [], []⟩,
   ⟨⟨none, none, .store (some 2) (.t 4) (.t 18)⟩, [4, 18], true, [], []⟩] (some [4]))
 .ret)))
def a_base_Fraction : AFun := ⟨2, [.cell 4 (some 2)], P_base_Fraction, false, false⟩
def d_base_Fraction (C : Hd) (gl : Nat → Option PV) (v0 v1 : AV) (h : Heap) (x : Esc) (K : Ex → St → Prop) : Prop :=
 alK [.p (.int .i64 0), .p (.int .i64 0)] h fun t1 h2 y3 =>
 pK (oUn .neg v0) fun t4 =>
 pK (oMx [v0, t4]) fun t5 =>
 C f_base_Gcd [t5, v1] h2 fun t6 h7 y8 =>
 pK (oBin .quo v0 t6) fun t9 =>
 pK (oBin .quo v1 t6) fun t10 =>
 pK (oBuild [.p (.int .i64 0), .p (.int .i64 0)] [(0, 1, t9), (1, 1, t10)]) fun t11 =>
 wK (oStore (some 2) t1 t11 h7) fun t12 h13 y14 =>
 K .ret ⟨[(4, t1)], h13, (y14 ++ (y8 ++ (y3 ++ x)))⟩
theorem E_base_Fraction {C gl v0 v1 h x K} : NW C gl (P_base_Fraction) ⟨enter [v0, v1], h, x⟩ K = d_base_Fraction C gl v0 v1 h x K := by kernel_rfl
theorem e_base_Fraction {C gl v0 v1 h x K} : NW C gl a_base_Fraction.body ⟨enter [v0, v1], h, x⟩ K = d_base_Fraction C gl v0 v1 h x K := E_base_Fraction
end Go.Am
end
section
/- The functions as abstract code, and as formulas over their values: printed by program out of the translation. -/
set_option linter.unusedVariables false
set_option maxRecDepth 100000
namespace Go.Am
def p_slices_insertionSortCmpFunc_api_Record_k1 : ACode := .pr [0, 1, 2, 3, 8, 9] (.seq (.seq (.draw [
   ⟨⟨some 18, none, .mv (.t 9)⟩, [9], false, [], []⟩,
   ⟨⟨some 19, none, .mv (.t 1)⟩, [1], false, [], []⟩,
   ⟨⟨some 20, none, .bin .gtr (.t 18) (.t 19)⟩, [18, 19], false, [], []⟩,
   ⟨⟨some 21, none, .mv (.t 20)⟩, [20], false, [], []⟩,
   ⟨⟨some 22, (some (21, true)), .mv (.t 3)⟩, [3, 21], false, [], []⟩,
   ⟨⟨some 23, (some (21, true)), .mv (.t 0)⟩, [0, 21], false, [], []⟩,
   ⟨⟨some 24, (some (21, true)), .mv (.t 9)⟩, [9, 21], false, [], []⟩,
   ⟨⟨some 25, (some (21, true)), .iaddr (some 4) (.t 23) (.t 24)⟩, [23, 24, 21], false, [], []⟩,
   ⟨⟨some 26, (some (21, true)), .load (some 4) (.t 25)⟩, [25, 21], false, [], []⟩,
   ⟨⟨some 27, (some (21, true)), .mv (.t 0)⟩, [0, 21], false, [], []⟩,
   ⟨⟨some 28, (some (21, true)), .mv (.t 9)⟩, [9, 21], false, [], []⟩,
   ⟨⟨some 29, (some (21, true)), .bin .sub (.t 28) (.c (.p (.int .i64 1)))⟩, [28, 21], false, [], []⟩,
   ⟨⟨some 30, (some (21, true)), .iaddr (some 4) (.t 27) (.t 29)⟩, [27, 29, 21], false, [], []⟩,
   ⟨⟨some 31, (some (21, true)), .load (some 4) (.t 30)⟩, [30, 21], false, [], []⟩,
   ⟨⟨some 32, (some (21, true)), .callv (.t 22) [(.t 26), (.t 31)]⟩, [22, 26, 31, 21], true, [], []⟩,
   ⟨⟨some 33, (some (21, true)), .bin .lss (.t 32) (.c (.p (.int .i64 0)))⟩, [32, 21], false, [], []⟩,
   ⟨⟨some 34, none, .pick (.t 21) (.t 33) (.c (.p (.bool false)))⟩, [21, 33], false, [], []⟩] (some [0, 1, 2, 3, 8, 9, 34]))
 (.cond (.t 34) .skip
 (.exit 2)))
 (.seq (.block 3 (.draw [
   ⟨⟨some 37, none, .mv (.t 0)⟩, [0], false, [], []⟩,
   ⟨⟨some 38, none, .mv (.t 9)⟩, [9], false, [], []⟩,
   ⟨⟨some 39, none, .mv (.t 0)⟩, [0], false, [], []⟩,
   ⟨⟨some 40, none, .mv (.t 9)⟩, [9], false, [], []⟩,
   ⟨⟨some 41, none, .bin .sub (.t 40) (.c (.p (.int .i64 1)))⟩, [40], false, [], []⟩,
   ⟨⟨some 42, none, .mv (.t 0)⟩, [0], false, [], []⟩,
   ⟨⟨some 43, none, .mv (.t 9)⟩, [9], false, [], []⟩,
   ⟨⟨some 44, none, .bin .sub (.t 43) (.c (.p (.int .i64 1)))⟩, [43], false, [], []⟩,
   ⟨⟨some 45, none, .iaddr (some 4) (.t 42) (.t 44)⟩, [42, 44], false, [], []⟩,
   ⟨⟨some 46, none, .load (some 4) (.t 45)⟩, [45], false, [], []⟩,
   ⟨⟨some 47, none, .mv (.t 0)⟩, [0], false, [], []⟩,
   ⟨⟨some 48, none, .mv (.t 9)⟩, [9], false, [], []⟩,
   ⟨⟨some 49, none, .iaddr (some 4) (.t 47) (.t 48)⟩, [47, 48], false, [], []⟩,
   ⟨⟨some 50, none, .load (some 4) (.t 49)⟩, [49], false, [], []⟩,
   ⟨⟨some 51, none, .iaddr (some 4) (.t 37) (.t 38)⟩, [37, 38], false, [], []⟩,
   ⟨⟨none, none, .store (some 4) (.t 51) (.t 46)⟩, [51, 46], true, [], []⟩,
   ⟨⟨some 52, none, .iaddr (some 4) (.t 39) (.t 41)⟩, [39, 41], false, [], []⟩,
   ⟨⟨none, none, .store (some 4) (.t 52) (.t 50)⟩, [52, 50], true, [], []⟩] (some [0, 1, 2, 3, 8, 9])))
 (.reg [
  ⟨some 35, none, .mv (.t 9)⟩,
  ⟨some 36, none, .bin .sub (.t 35) (.c (.p (.int .i64 1)))⟩,
  ⟨some 9, none, .mv (.t 36)⟩] (some [0, 1, 2, 3, 8, 9]))))
def d_slices_insertionSortCmpFunc_api_Record_k1 (C : Hd) (gl : Nat → Option PV) (v0 v1 v2 v3 v8 v9 : AV) (h : Heap) (x : Esc) (K : Ex → St → Prop) : Prop :=
 pK (oBin .gtr v9 v1) fun t1 =>
 gM t1 true v3 h fun t2 h3 y4 =>
 gM t1 true v0 h3 fun t5 h6 y7 =>
 gM t1 true v9 h6 fun t8 h9 y10 =>
 gP t1 true (oIaddr (some 4) t5 t8 h9) h9 fun t11 h12 y13 =>
 gP t1 true (oLoad (some 4) t11 h12) h12 fun t14 h15 y16 =>
 gM t1 true v0 h15 fun t17 h18 y19 =>
 gM t1 true v9 h18 fun t20 h21 y22 =>
 gP t1 true (oBin .sub t20 (.p (.int .i64 1))) h21 fun t23 h24 y25 =>
 gP t1 true (oIaddr (some 4) t17 t23 h24) h24 fun t26 h27 y28 =>
 gP t1 true (oLoad (some 4) t26 h27) h27 fun t29 h30 y31 =>
 gV t1 true h30 (callvE C t2 [t14, t29] h30) fun t32 h33 y34 =>
 gP t1 true (oBin .lss t32 (.p (.int .i64 0))) h33 fun t35 h36 y37 =>
 pK (oPick t1 t35 (.p (.bool false))) fun t38 =>
 condB t38 (pK (oBin .sub v9 (.p (.int .i64 1))) fun t39 =>
 pK (oBin .sub v9 (.p (.int .i64 1))) fun t40 =>
 pK (oIaddr (some 4) v0 t40 h36) fun t41 =>
 pK (oLoad (some 4) t41 h36) fun t42 =>
 pK (oIaddr (some 4) v0 v9 h36) fun t43 =>
 pK (oLoad (some 4) t43 h36) fun t44 =>
 pK (oIaddr (some 4) v0 v9 h36) fun t45 =>
 wK (oStore (some 4) t45 t42 h36) fun t46 h47 y48 =>
 pK (oIaddr (some 4) v0 t39 h47) fun t49 =>
 wK (oStore (some 4) t49 t44 h47) fun t50 h51 y52 =>
 pK (oBin .sub v9 (.p (.int .i64 1))) fun t53 =>
 K .normal ⟨[(0, v0), (1, v1), (2, v2), (3, v3), (8, v8), (9, t53)], h51, (y52 ++ (y48 ++ (y37 ++ (y34 ++ (y31 ++ (y28 ++ (y25 ++ (y22 ++ (y19 ++ (y16 ++ (y13 ++ (y10 ++ (y7 ++ (y4 ++ x))))))))))))))⟩)
 (K (.exit 2) ⟨[(0, v0), (1, v1), (2, v2), (3, v3), (8, v8), (9, v9), (34, t38)], h36, (y37 ++ (y34 ++ (y31 ++ (y28 ++ (y25 ++ (y22 ++ (y19 ++ (y16 ++ (y13 ++ (y10 ++ (y7 ++ (y4 ++ x))))))))))))⟩)
theorem e_slices_insertionSortCmpFunc_api_Record_k1 {C gl e h x K} : NW C gl p_slices_insertionSortCmpFunc_api_Record_k1 ⟨e, h, x⟩ K = d_slices_insertionSortCmpFunc_api_Record_k1 C gl (aget e 0) (aget e 1) (aget e 2) (aget e 3) (aget e 8) (aget e 9) h x K := by kernel_rfl
theorem l_slices_insertionSortCmpFunc_api_Record_k1 {C gl e h x K} : NW C gl (.loop p_slices_insertionSortCmpFunc_api_Record_k1) ⟨e, h, x⟩ K = NLoop C gl p_slices_insertionSortCmpFunc_api_Record_k1 K [(0, aget e 0), (1, aget e 1), (2, aget e 2), (3, aget e 3), (8, aget e 8), (9, aget e 9)] h x := NLoop_pr
def p_slices_insertionSortCmpFunc_api_Record_k2 : ACode := .pr [0, 1, 2, 3, 8] (.reg [
  ⟨some 15, none, .mv (.t 8)⟩,
  ⟨some 16, none, .bin .add (.t 15) (.c (.p (.int .i64 1)))⟩,
  ⟨some 8, none, .mv (.t 16)⟩] (some [0, 1, 2, 3, 8]))
def d_slices_insertionSortCmpFunc_api_Record_k2 (C : Hd) (gl : Nat → Option PV) (v0 v1 v2 v3 v8 : AV) (h : Heap) (x : Esc) (K : Ex → St → Prop) : Prop :=
 pK (oBin .add v8 (.p (.int .i64 1))) fun t1 =>
 K .normal ⟨[(0, v0), (1, v1), (2, v2), (3, v3), (8, t1)], h, x⟩
theorem e_slices_insertionSortCmpFunc_api_Record_k2 {C gl e h x K} : NW C gl p_slices_insertionSortCmpFunc_api_Record_k2 ⟨e, h, x⟩ K = d_slices_insertionSortCmpFunc_api_Record_k2 C gl (aget e 0) (aget e 1) (aget e 2) (aget e 3) (aget e 8) h x K := by kernel_rfl
def P_slices_insertionSortCmpFunc_api_Record_k3 (q1 q2 : ACode) : ACode := .pr [0, 1, 2, 3, 8] (.seq (.seq (.reg [
  ⟨some 12, none, .mv (.t 8)⟩,
  ⟨some 13, none, .mv (.t 2)⟩,
  ⟨some 14, none, .bin .lss (.t 12) (.t 13)⟩] (some [0, 1, 2, 3, 8, 14]))
 (.cond (.t 14) .skip
 (.exit 0)))
 (.seq (.block 1 (.seq (.reg [
  ⟨some 17, none, .mv (.t 8)⟩,
  ⟨some 9, none, .mv (.t 17)⟩] (some [0, 1, 2, 3, 8, 9]))
 (.block 2 (.loop q1))))
 q2))
def p_slices_insertionSortCmpFunc_api_Record_k3 : ACode := P_slices_insertionSortCmpFunc_api_Record_k3 p_slices_insertionSortCmpFunc_api_Record_k1 p_slices_insertionSortCmpFunc_api_Record_k2
def d_slices_insertionSortCmpFunc_api_Record_k3 (C : Hd) (gl : Nat → Option PV) (q1 q2 : ACode) (v0 v1 v2 v3 v8 : AV) (h : Heap) (x : Esc) (K : Ex → St → Prop) : Prop :=
 pK (oBin .lss v8 v2) fun t1 =>
 condB t1 (NW C gl (.loop q1) ⟨[(0, v0), (1, v1), (2, v2), (3, v3), (8, v8), (9, v8)], h, x⟩ (blockN 2 (blockN 1 (seqN C gl q2 K))))
 (K (.exit 0) ⟨[(0, v0), (1, v1), (2, v2), (3, v3), (8, v8), (14, t1)], h, x⟩)
theorem E_slices_insertionSortCmpFunc_api_Record_k3 {C gl q1 q2 e h x K} : NW C gl (P_slices_insertionSortCmpFunc_api_Record_k3 q1 q2) ⟨e, h, x⟩ K = d_slices_insertionSortCmpFunc_api_Record_k3 C gl q1 q2 (aget e 0) (aget e 1) (aget e 2) (aget e 3) (aget e 8) h x K := by kernel_rfl
theorem e_slices_insertionSortCmpFunc_api_Record_k3 {C gl e h x K} : NW C gl p_slices_insertionSortCmpFunc_api_Record_k3 ⟨e, h, x⟩ K = d_slices_insertionSortCmpFunc_api_Record_k3 C gl p_slices_insertionSortCmpFunc_api_Record_k1 p_slices_insertionSortCmpFunc_api_Record_k2 (aget e 0) (aget e 1) (aget e 2) (aget e 3) (aget e 8) h x K := E_slices_insertionSortCmpFunc_api_Record_k3
theorem l_slices_insertionSortCmpFunc_api_Record_k3 {C gl e h x K} : NW C gl (.loop p_slices_insertionSortCmpFunc_api_Record_k3) ⟨e, h, x⟩ K = NLoop C gl p_slices_insertionSortCmpFunc_api_Record_k3 K [(0, aget e 0), (1, aget e 1), (2, aget e 2), (3, aget e 3), (8, aget e 8)] h x := NLoop_pr
def P_slices_insertionSortCmpFunc_api_Record (q3 : ACode) : ACode := (.seq (.reg [
  ⟨some 10, none, .mv (.t 1)⟩,
  ⟨some 11, none, .bin .add (.t 10) (.c (.p (.int .i64 1)))⟩,
  ⟨some 8, none, .mv (.t 11)⟩] (some [0, 1, 2, 3, 8]))
 (.block 0 (.loop q3)))
def a_slices_insertionSortCmpFunc_api_Record : AFun := ⟨4, [], P_slices_insertionSortCmpFunc_api_Record p_slices_insertionSortCmpFunc_api_Record_k3, true, false⟩
def d_slices_insertionSortCmpFunc_api_Record (C : Hd) (gl : Nat → Option PV) (q3 : ACode) (v0 v1 v2 v3 : AV) (h : Heap) (x : Esc) (K : Ex → St → Prop) : Prop :=
 pK (oBin .add v1 (.p (.int .i64 1))) fun t1 =>
 NW C gl (.loop q3) ⟨[(0, v0), (1, v1), (2, v2), (3, v3), (8, t1)], h, x⟩ (blockN 0 K)
theorem E_slices_insertionSortCmpFunc_api_Record {C gl q3 v0 v1 v2 v3 h x K} : NW C gl (P_slices_insertionSortCmpFunc_api_Record q3) ⟨enter [v0, v1, v2, v3], h, x⟩ K = d_slices_insertionSortCmpFunc_api_Record C gl q3 v0 v1 v2 v3 h x K := by kernel_rfl
theorem e_slices_insertionSortCmpFunc_api_Record {C gl v0 v1 v2 v3 h x K} : NW C gl a_slices_insertionSortCmpFunc_api_Record.body ⟨enter [v0, v1, v2, v3], h, x⟩ K = d_slices_insertionSortCmpFunc_api_Record C gl p_slices_insertionSortCmpFunc_api_Record_k3 v0 v1 v2 v3 h x K := E_slices_insertionSortCmpFunc_api_Record
def p_slices_IndexFunc_int_int_k1 : ACode := .pr [0, 1, 7, 8] (.seq (.reg [
  ⟨some 9, none, .bin .lss (.t 8) (.t 7)⟩] (some [0, 1, 7, 8, 9]))
 (.seq (.cond (.t 9) .skip
 (.exit 0))
 (.seq (.block 1 (.seq (.reg [
  ⟨some 10, none, .mv (.t 8)⟩,
  ⟨some 5, none, .mv (.t 10)⟩] (some [0, 1, 5, 7, 8]))
 (.seq (.reg [
  ⟨some 11, none, .mv (.t 1)⟩,
  ⟨some 12, none, .mv (.t 0)⟩,
  ⟨some 13, none, .mv (.t 5)⟩,
  ⟨some 14, none, .iaddr none (.t 12) (.t 13)⟩,
  ⟨some 15, none, .load none (.t 14)⟩,
  ⟨some 16, none, .callv (.t 11) [(.t 15)]⟩] (some [0, 1, 5, 7, 8, 16]))
 (.cond (.t 16) (.seq (.reg [
  ⟨some 17, none, .mv (.t 5)⟩,
  ⟨some 4, none, .mv (.t 17)⟩] (some [4]))
 .ret)
 .skip))))
 (.reg [
  ⟨some 18, none, .bin .add (.t 8) (.c (.p (.int .i64 1)))⟩,
  ⟨some 8, none, .mv (.t 18)⟩] (some [0, 1, 7, 8])))))
def d_slices_IndexFunc_int_int_k1 (C : Hd) (gl : Nat → Option PV) (v0 v1 v7 v8 : AV) (h : Heap) (x : Esc) (K : Ex → St → Prop) : Prop :=
 pK (oBin .lss v8 v7) fun t1 =>
 condB t1 (pK (oIaddr none v0 v8 h) fun t2 =>
 pK (oLoad none t2 h) fun t3 =>
 callvK C v1 [t3] h fun t4 h5 y6 =>
 condB t4 (K .ret ⟨[(4, v8)], h5, (y6 ++ x)⟩)
 (pK (oBin .add v8 (.p (.int .i64 1))) fun t7 =>
 K .normal ⟨[(0, v0), (1, v1), (7, v7), (8, t7)], h5, (y6 ++ x)⟩))
 (K (.exit 0) ⟨[(0, v0), (1, v1), (7, v7), (8, v8), (9, t1)], h, x⟩)
theorem e_slices_IndexFunc_int_int_k1 {C gl e h x K} : NW C gl p_slices_IndexFunc_int_int_k1 ⟨e, h, x⟩ K = d_slices_IndexFunc_int_int_k1 C gl (aget e 0) (aget e 1) (aget e 7) (aget e 8) h x K := by kernel_rfl
theorem l_slices_IndexFunc_int_int_k1 {C gl e h x K} : NW C gl (.loop p_slices_IndexFunc_int_int_k1) ⟨e, h, x⟩ K = NLoop C gl p_slices_IndexFunc_int_int_k1 K [(0, aget e 0), (1, aget e 1), (7, aget e 7), (8, aget e 8)] h x := NLoop_pr
def p_slices_IndexFunc_int_int_k2 : ACode := .pr [] (.seq (.reg [
  ⟨some 4, none, .mv (.c (.p (.int .i64 (-1))))⟩] (some [4]))
 .ret)
def d_slices_IndexFunc_int_int_k2 (C : Hd) (gl : Nat → Option PV) (h : Heap) (x : Esc) (K : Ex → St → Prop) : Prop :=
 K .ret ⟨[(4, (.p (.int .i64 (-1))))], h, x⟩
theorem e_slices_IndexFunc_int_int_k2 {C gl e h x K} : NW C gl p_slices_IndexFunc_int_int_k2 ⟨e, h, x⟩ K = d_slices_IndexFunc_int_int_k2 C gl h x K := by kernel_rfl
def P_slices_IndexFunc_int_int (q1 q2 : ACode) : ACode := (.seq (.reg [
  ⟨some 4, none, .mv (.c (.p (.int .i64 0)))⟩] (some [0, 1]))
 (.seq (.seq (.reg [
  ⟨some 6, none, .mv (.t 0)⟩,
  ⟨some 7, none, .len (.t 6)⟩,
  ⟨some 8, none, .mv (.c (.p (.int .i64 0)))⟩] (some [0, 1, 7, 8]))
 (.block 0 (.loop q1)))
 q2))
def a_slices_IndexFunc_int_int : AFun := ⟨2, [.t 4], P_slices_IndexFunc_int_int p_slices_IndexFunc_int_int_k1 p_slices_IndexFunc_int_int_k2, true, false⟩
def d_slices_IndexFunc_int_int (C : Hd) (gl : Nat → Option PV) (q1 q2 : ACode) (v0 v1 : AV) (h : Heap) (x : Esc) (K : Ex → St → Prop) : Prop :=
 pK (oLen v0) fun t1 =>
 NW C gl (.loop q1) ⟨[(0, v0), (1, v1), (7, t1), (8, (.p (.int .i64 0)))], h, x⟩ (blockN 0 (seqN C gl q2 K))
theorem E_slices_IndexFunc_int_int {C gl q1 q2 v0 v1 h x K} : NW C gl (P_slices_IndexFunc_int_int q1 q2) ⟨enter [v0, v1], h, x⟩ K = d_slices_IndexFunc_int_int C gl q1 q2 v0 v1 h x K := by kernel_rfl
theorem e_slices_IndexFunc_int_int {C gl v0 v1 h x K} : NW C gl a_slices_IndexFunc_int_int.body ⟨enter [v0, v1], h, x⟩ K = d_slices_IndexFunc_int_int C gl p_slices_IndexFunc_int_int_k1 p_slices_IndexFunc_int_int_k2 v0 v1 h x K := E_slices_IndexFunc_int_int
def p_math_bits_Len64_k1 : ACode := .pr [0, 2] (.seq (.reg [
  ⟨some 19, none, .mv (.t 2)⟩,
  ⟨some 20, none, .mv (.t 0)⟩,
  ⟨some 21, none, .conv (.i .u8) (.t 20)⟩,
  ⟨some 22, none, .idxs (.c (.p (.str [0, 1, 2, 2, 3, 3, 3, 3, 4, 4, 4, 4, 4, 4, 4, 4, 5, 5, 5, 5, 5, 5, 5, 5, 5, 5, 5, 5, 5, 5, 5, 5, 6, 6, 6, 6, 6, 6, 6, 6, 6, 6, 6, 6, 6, 6, 6, 6, 6, 6, 6, 6, 6, 6, 6, 6, 6, 6, 6, 6, 6, 6, 6, 6, 7, 7, 7, 7, 7, 7, 7, 7, 7, 7, 7, 7, 7, 7, 7, 7, 7, 7, 7, 7, 7, 7, 7, 7, 7, 7, 7, 7, 7, 7, 7, 7, 7, 7, 7, 7, 7, 7, 7, 7, 7, 7, 7, 7, 7, 7, 7, 7, 7, 7, 7, 7, 7, 7, 7, 7, 7, 7, 7, 7, 7, 7, 7, 7, 8, 8, 8, 8, 8, 8, 8, 8, 8, 8, 8, 8, 8, 8, 8, 8, 8, 8, 8, 8, 8, 8, 8, 8, 8, 8, 8, 8, 8, 8, 8, 8, 8, 8, 8, 8, 8, 8, 8, 8, 8, 8, 8, 8, 8, 8, 8, 8, 8, 8, 8, 8, 8, 8, 8, 8, 8, 8, 8, 8, 8, 8, 8, 8, 8, 8, 8, 8, 8, 8, 8, 8, 8, 8, 8, 8, 8, 8, 8, 8, 8, 8, 8, 8, 8, 8, 8, 8, 8, 8, 8, 8, 8, 8, 8, 8, 8, 8, 8, 8, 8, 8, 8, 8, 8, 8, 8, 8, 8, 8, 8, 8, 8, 8, 8, 8, 8, 8, 8, 8, 8, 8, 8, 8, 8, 8, 8, 8]))) (.t 21)⟩,
  ⟨some 23, none, .conv (.i .i64) (.t 22)⟩,
  ⟨some 24, none, .bin .add (.t 19) (.t 23)⟩,
  ⟨some 2, none, .mv (.t 24)⟩] (some [2]))
 .ret)
def d_math_bits_Len64_k1 (C : Hd) (gl : Nat → Option PV) (v0 v2 : AV) (h : Heap) (x : Esc) (K : Ex → St → Prop) : Prop :=
 pK (oConvI .u8 v0) fun t1 =>
 pK (oIdxs (.p (.str [0, 1, 2, 2, 3, 3, 3, 3, 4, 4, 4, 4, 4, 4, 4, 4, 5, 5, 5, 5, 5, 5, 5, 5, 5, 5, 5, 5, 5, 5, 5, 5, 6, 6, 6, 6, 6, 6, 6, 6, 6, 6, 6, 6, 6, 6, 6, 6, 6, 6, 6, 6, 6, 6, 6, 6, 6, 6, 6, 6, 6, 6, 6, 6, 7, 7, 7, 7, 7, 7, 7, 7, 7, 7, 7, 7, 7, 7, 7, 7, 7, 7, 7, 7, 7, 7, 7, 7, 7, 7, 7, 7, 7, 7, 7, 7, 7, 7, 7, 7, 7, 7, 7, 7, 7, 7, 7, 7, 7, 7, 7, 7, 7, 7, 7, 7, 7, 7, 7, 7, 7, 7, 7, 7, 7, 7, 7, 7, 8, 8, 8, 8, 8, 8, 8, 8, 8, 8, 8, 8, 8, 8, 8, 8, 8, 8, 8, 8, 8, 8, 8, 8, 8, 8, 8, 8, 8, 8, 8, 8, 8, 8, 8, 8, 8, 8, 8, 8, 8, 8, 8, 8, 8, 8, 8, 8, 8, 8, 8, 8, 8, 8, 8, 8, 8, 8, 8, 8, 8, 8, 8, 8, 8, 8, 8, 8, 8, 8, 8, 8, 8, 8, 8, 8, 8, 8, 8, 8, 8, 8, 8, 8, 8, 8, 8, 8, 8, 8, 8, 8, 8, 8, 8, 8, 8, 8, 8, 8, 8, 8, 8, 8, 8, 8, 8, 8, 8, 8, 8, 8, 8, 8, 8, 8, 8, 8, 8, 8, 8, 8, 8, 8, 8, 8, 8, 8])) t1) fun t2 =>
 pK (oConvI .i64 t2) fun t3 =>
 pK (oBin .add v2 t3) fun t4 =>
 K .ret ⟨[(2, t4)], h, x⟩
theorem e_math_bits_Len64_k1 {C gl e h x K} : NW C gl p_math_bits_Len64_k1 ⟨e, h, x⟩ K = d_math_bits_Len64_k1 C gl (aget e 0) (aget e 2) h x K := by kernel_rfl
def P_math_bits_Len64_k2 (q1 : ACode) : ACode := .pr [0, 2] (.seq (.seq (.reg [
  ⟨some 13, none, .mv (.t 0)⟩,
  ⟨some 14, none, .bin .geq (.t 13) (.c (.p (.int .u64 256)))⟩] (some [0, 2, 14]))
 (.cond (.t 14) (.seq (.reg [
  ⟨some 15, none, .mv (.t 0)⟩,
  ⟨some 16, none, .bin .shr (.t 15) (.c (.p (.int .u64 8)))⟩,
  ⟨some 0, none, .mv (.t 16)⟩] (some [0, 2]))
 (.reg [
  ⟨some 17, none, .mv (.t 2)⟩,
  ⟨some 18, none, .bin .add (.t 17) (.c (.p (.int .i64 8)))⟩,
  ⟨some 2, none, .mv (.t 18)⟩] (some [0, 2])))
 .skip))
 q1)
def p_math_bits_Len64_k2 : ACode := P_math_bits_Len64_k2 p_math_bits_Len64_k1
def d_math_bits_Len64_k2 (C : Hd) (gl : Nat → Option PV) (q1 : ACode) (v0 v2 : AV) (h : Heap) (x : Esc) (K : Ex → St → Prop) : Prop :=
 pK (oBin .geq v0 (.p (.int .u64 256))) fun t1 =>
 condB t1 (pK (oBin .shr v0 (.p (.int .u64 8))) fun t2 =>
 pK (oBin .add v2 (.p (.int .i64 8))) fun t3 =>
 NW C gl q1 ⟨[(0, t2), (2, t3)], h, x⟩ K)
 (NW C gl q1 ⟨[(0, v0), (2, v2), (14, t1)], h, x⟩ K)
theorem E_math_bits_Len64_k2 {C gl q1 e h x K} : NW C gl (P_math_bits_Len64_k2 q1) ⟨e, h, x⟩ K = d_math_bits_Len64_k2 C gl q1 (aget e 0) (aget e 2) h x K := by kernel_rfl
theorem e_math_bits_Len64_k2 {C gl e h x K} : NW C gl p_math_bits_Len64_k2 ⟨e, h, x⟩ K = d_math_bits_Len64_k2 C gl p_math_bits_Len64_k1 (aget e 0) (aget e 2) h x K := E_math_bits_Len64_k2
def P_math_bits_Len64_k3 (q2 : ACode) : ACode := .pr [0, 2] (.seq (.seq (.reg [
  ⟨some 7, none, .mv (.t 0)⟩,
  ⟨some 8, none, .bin .geq (.t 7) (.c (.p (.int .u64 65536)))⟩] (some [0, 2, 8]))
 (.cond (.t 8) (.seq (.reg [
  ⟨some 9, none, .mv (.t 0)⟩,
  ⟨some 10, none, .bin .shr (.t 9) (.c (.p (.int .u64 16)))⟩,
  ⟨some 0, none, .mv (.t 10)⟩] (some [0, 2]))
 (.reg [
  ⟨some 11, none, .mv (.t 2)⟩,
  ⟨some 12, none, .bin .add (.t 11) (.c (.p (.int .i64 16)))⟩,
  ⟨some 2, none, .mv (.t 12)⟩] (some [0, 2])))
 .skip))
 q2)
def p_math_bits_Len64_k3 : ACode := P_math_bits_Len64_k3 p_math_bits_Len64_k2
def d_math_bits_Len64_k3 (C : Hd) (gl : Nat → Option PV) (q2 : ACode) (v0 v2 : AV) (h : Heap) (x : Esc) (K : Ex → St → Prop) : Prop :=
 pK (oBin .geq v0 (.p (.int .u64 65536))) fun t1 =>
 condB t1 (pK (oBin .shr v0 (.p (.int .u64 16))) fun t2 =>
 pK (oBin .add v2 (.p (.int .i64 16))) fun t3 =>
 NW C gl q2 ⟨[(0, t2), (2, t3)], h, x⟩ K)
 (NW C gl q2 ⟨[(0, v0), (2, v2), (8, t1)], h, x⟩ K)
theorem E_math_bits_Len64_k3 {C gl q2 e h x K} : NW C gl (P_math_bits_Len64_k3 q2) ⟨e, h, x⟩ K = d_math_bits_Len64_k3 C gl q2 (aget e 0) (aget e 2) h x K := by kernel_rfl
theorem e_math_bits_Len64_k3 {C gl e h x K} : NW C gl p_math_bits_Len64_k3 ⟨e, h, x⟩ K = d_math_bits_Len64_k3 C gl p_math_bits_Len64_k2 (aget e 0) (aget e 2) h x K := E_math_bits_Len64_k3
def P_math_bits_Len64 (q3 : ACode) : ACode := (.seq (.reg [
  ⟨some 2, none, .mv (.c (.p (.int .i64 0)))⟩] (some [0, 2]))
 (.seq (.seq (.reg [
  ⟨some 3, none, .mv (.t 0)⟩,
  ⟨some 4, none, .bin .geq (.t 3) (.c (.p (.int .u64 4294967296)))⟩] (some [0, 2, 4]))
 (.cond (.t 4) (.seq (.reg [
  ⟨some 5, none, .mv (.t 0)⟩,
  ⟨some 6, none, .bin .shr (.t 5) (.c (.p (.int .u64 32)))⟩,
  ⟨some 0, none, .mv (.t 6)⟩] (some [0]))
 (.reg [
  ⟨some 2, none, .mv (.c (.p (.int .i64 32)))⟩] (some [0, 2])))
 .skip))
 q3))
def a_math_bits_Len64 : AFun := ⟨1, [.t 2], P_math_bits_Len64 p_math_bits_Len64_k3, false, false⟩
def d_math_bits_Len64 (C : Hd) (gl : Nat → Option PV) (q3 : ACode) (v0 : AV) (h : Heap) (x : Esc) (K : Ex → St → Prop) : Prop :=
 pK (oBin .geq v0 (.p (.int .u64 4294967296))) fun t1 =>
 condB t1 (pK (oBin .shr v0 (.p (.int .u64 32))) fun t2 =>
 NW C gl q3 ⟨[(0, t2), (2, (.p (.int .i64 32)))], h, x⟩ K)
 (NW C gl q3 ⟨[(0, v0), (2, (.p (.int .i64 0))), (4, t1)], h, x⟩ K)
theorem E_math_bits_Len64 {C gl q3 v0 h x K} : NW C gl (P_math_bits_Len64 q3) ⟨enter [v0], h, x⟩ K = d_math_bits_Len64 C gl q3 v0 h x K := by kernel_rfl
theorem e_math_bits_Len64 {C gl v0 h x K} : NW C gl a_math_bits_Len64.body ⟨enter [v0], h, x⟩ K = d_math_bits_Len64 C gl p_math_bits_Len64_k3 v0 h x K := E_math_bits_Len64
def P_strings_IndexByte : ACode := (.seq (.reg [
  ⟨some 4, none, .mv (.c (.p (.int .i64 0)))⟩] (some [0, 1]))
 (.seq (.reg [
  ⟨some 5, none, .mv (.t 0)⟩,
  ⟨some 6, none, .mv (.t 1)⟩,
  ⟨some 7, none, .call f_internal_stringslite_IndexByte [(.t 5), (.t 6)]⟩,
  ⟨some 4, none, .mv (.t 7)⟩] (some [4]))
 .ret))
def a_strings_IndexByte : AFun := ⟨2, [.t 4], P_strings_IndexByte, false, false⟩
def d_strings_IndexByte (C : Hd) (gl : Nat → Option PV) (v0 v1 : AV) (h : Heap) (x : Esc) (K : Ex → St → Prop) : Prop :=
 C f_internal_stringslite_IndexByte [v0, v1] h fun t1 h2 y3 =>
 K .ret ⟨[(4, t1)], h2, (y3 ++ x)⟩
theorem E_strings_IndexByte {C gl v0 v1 h x K} : NW C gl (P_strings_IndexByte) ⟨enter [v0, v1], h, x⟩ K = d_strings_IndexByte C gl v0 v1 h x K := by kernel_rfl
theorem e_strings_IndexByte {C gl v0 v1 h x K} : NW C gl a_strings_IndexByte.body ⟨enter [v0, v1], h, x⟩ K = d_strings_IndexByte C gl v0 v1 h x K := E_strings_IndexByte
def P_lot_valuesFault_1 : ACode := (.seq (.reg [
  ⟨some 2, none, .mv (.c (.p (.bool false)))⟩] (some [0]))
 (.seq (.reg [
  ⟨some 3, none, .mv (.t 0)⟩,
  ⟨some 4, none, .call f_lot_isMeasure [(.t 3)]⟩,
  ⟨some 5, none, .un .not (.t 4)⟩,
  ⟨some 2, none, .mv (.t 5)⟩] (some [2]))
 .ret))
def a_lot_valuesFault_1 : AFun := ⟨1, [.t 2], P_lot_valuesFault_1, false, false⟩
def d_lot_valuesFault_1 (C : Hd) (gl : Nat → Option PV) (v0 : AV) (h : Heap) (x : Esc) (K : Ex → St → Prop) : Prop :=
 C f_lot_isMeasure [v0] h fun t1 h2 y3 =>
 pK (oUn .not t1) fun t4 =>
 K .ret ⟨[(2, t4)], h2, (y3 ++ x)⟩
theorem E_lot_valuesFault_1 {C gl v0 h x K} : NW C gl (P_lot_valuesFault_1) ⟨enter [v0], h, x⟩ K = d_lot_valuesFault_1 C gl v0 h x K := by kernel_rfl
theorem e_lot_valuesFault_1 {C gl v0 h x K} : NW C gl a_lot_valuesFault_1.body ⟨enter [v0], h, x⟩ K = d_lot_valuesFault_1 C gl v0 h x K := E_lot_valuesFault_1
def p_base_Gcd_k1 : ACode := .pr [0, 1] (.seq (.seq (.reg [
  ⟨some 5, none, .mv (.t 1)⟩,
  ⟨some 6, none, .bin .neq (.t 5) (.c (.p (.int .i64 0)))⟩] (some [0, 1, 6]))
 (.cond (.t 6) .skip
 (.exit 0)))
 (.block 1 (.draw [
   ⟨⟨some 7, none, .mv (.t 1)⟩, [1], false, [], []⟩,
   ⟨⟨some 8, none, .mv (.t 0)⟩, [0], false, [], []⟩,
   ⟨⟨some 9, none, .mv (.t 1)⟩, [1], false, [], []⟩,
   ⟨⟨some 10, none, .bin .rem (.t 8) (.t 9)⟩, [8, 9], false, [], []⟩,
   ⟨⟨some 0, none, .mv (.t 7)⟩, [7], false, [], []⟩,
   ⟨⟨some 1, none, .mv (.t 10)⟩, [10], false, [], []⟩] (some [0, 1]))))
def d_base_Gcd_k1 (C : Hd) (gl : Nat → Option PV) (v0 v1 : AV) (h : Heap) (x : Esc) (K : Ex → St → Prop) : Prop :=
 pK (oBin .neq v1 (.p (.int .i64 0))) fun t1 =>
 condB t1 (pK (oBin .rem v0 v1) fun t2 =>
 K .normal ⟨[(0, v1), (1, t2)], h, x⟩)
 (K (.exit 0) ⟨[(0, v0), (1, v1), (6, t1)], h, x⟩)
theorem e_base_Gcd_k1 {C gl e h x K} : NW C gl p_base_Gcd_k1 ⟨e, h, x⟩ K = d_base_Gcd_k1 C gl (aget e 0) (aget e 1) h x K := by kernel_rfl
theorem l_base_Gcd_k1 {C gl e h x K} : NW C gl (.loop p_base_Gcd_k1) ⟨e, h, x⟩ K = NLoop C gl p_base_Gcd_k1 K [(0, aget e 0), (1, aget e 1)] h x := NLoop_pr
def p_base_Gcd_k2 : ACode := .pr [0] (.seq (.reg [
  ⟨some 11, none, .mv (.t 0)⟩,
  ⟨some 4, none, .mv (.t 11)⟩] (some [4]))
 .ret)
def d_base_Gcd_k2 (C : Hd) (gl : Nat → Option PV) (v0 : AV) (h : Heap) (x : Esc) (K : Ex → St → Prop) : Prop :=
 K .ret ⟨[(4, v0)], h, x⟩
theorem e_base_Gcd_k2 {C gl e h x K} : NW C gl p_base_Gcd_k2 ⟨e, h, x⟩ K = d_base_Gcd_k2 C gl (aget e 0) h x K := by kernel_rfl
def P_base_Gcd (q1 q2 : ACode) : ACode := (.seq (.reg [
  ⟨some 4, none, .mv (.c (.p (.int .i64 0)))⟩] (some [0, 1]))
 (.seq (.block 0 (.loop q1))
 q2))
def a_base_Gcd : AFun := ⟨2, [.t 4], P_base_Gcd p_base_Gcd_k1 p_base_Gcd_k2, false, false⟩
def d_base_Gcd (C : Hd) (gl : Nat → Option PV) (q1 q2 : ACode) (v0 v1 : AV) (h : Heap) (x : Esc) (K : Ex → St → Prop) : Prop :=
 NW C gl (.loop q1) ⟨[(0, v0), (1, v1)], h, x⟩ (blockN 0 (seqN C gl q2 K))
theorem E_base_Gcd {C gl q1 q2 v0 v1 h x K} : NW C gl (P_base_Gcd q1 q2) ⟨enter [v0, v1], h, x⟩ K = d_base_Gcd C gl q1 q2 v0 v1 h x K := by kernel_rfl
theorem e_base_Gcd {C gl v0 v1 h x K} : NW C gl a_base_Gcd.body ⟨enter [v0, v1], h, x⟩ K = d_base_Gcd C gl p_base_Gcd_k1 p_base_Gcd_k2 v0 v1 h x K := E_base_Gcd
def P_internal_stringslite_IndexByte : ACode := (.seq (.reg [
  ⟨some 4, none, .mv (.c (.p (.int .i64 0)))⟩] (some [0, 1]))
 (.seq (.reg [
  ⟨some 5, none, .mv (.t 0)⟩,
  ⟨some 6, none, .mv (.t 1)⟩,
  ⟨some 7, none, .call f_internal_bytealg_IndexByteString [(.t 5), (.t 6)]⟩,
  ⟨some 4, none, .mv (.t 7)⟩] (some [4]))
 .ret))
def a_internal_stringslite_IndexByte : AFun := ⟨2, [.t 4], P_internal_stringslite_IndexByte, false, false⟩
def d_internal_stringslite_IndexByte (C : Hd) (gl : Nat → Option PV) (v0 v1 : AV) (h : Heap) (x : Esc) (K : Ex → St → Prop) : Prop :=
 C f_internal_bytealg_IndexByteString [v0, v1] h fun t1 h2 y3 =>
 K .ret ⟨[(4, t1)], h2, (y3 ++ x)⟩
theorem E_internal_stringslite_IndexByte {C gl v0 v1 h x K} : NW C gl (P_internal_stringslite_IndexByte) ⟨enter [v0, v1], h, x⟩ K = d_internal_stringslite_IndexByte C gl v0 v1 h x K := by kernel_rfl
theorem e_internal_stringslite_IndexByte {C gl v0 v1 h x K} : NW C gl a_internal_stringslite_IndexByte.body ⟨enter [v0, v1], h, x⟩ K = d_internal_stringslite_IndexByte C gl v0 v1 h x K := E_internal_stringslite_IndexByte
end Go.Am
end
