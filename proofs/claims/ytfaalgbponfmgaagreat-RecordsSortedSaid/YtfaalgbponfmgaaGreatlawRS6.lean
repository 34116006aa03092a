/- Texts of the proof, laid together: CodesB. -/
import Derived.KernelRfl
import Derived.Test.YtfaalgbponfmgaaGreatlawRS5
set_option linter.all false
section
/- The functions as abstract code, and as formulas over their values: printed by program out of the translation. -/
set_option linter.unusedVariables false
set_option maxRecDepth 100000
namespace Go.Am
def p_lot_CheckLimits_k1 : ACode := .pr [0, 13, 14, 15] (.seq (.reg [
  ⟨some 16, none, .bin .lss (.t 15) (.t 14)⟩] (some [0, 13, 14, 15, 16]))
 (.seq (.cond (.t 16) .skip
 (.exit 1))
 (.seq (.block 2 (.seq (.reg [
  ⟨some 17, none, .mv (.t 15)⟩,
  ⟨some 18, none, .iaddr (some 4) (.t 13) (.t 15)⟩,
  ⟨some 19, none, .load (some 4) (.t 18)⟩,
  ⟨some 4, none, .alloc [.p (.str []), .p (.int .i64 0), .p (.int .i64 0), .p (.int .i64 0)]⟩,
  ⟨some 3, none, .mv (.t 17)⟩,
  ⟨none, none, .store (some 4) (.t 4) (.t 19)⟩] (some [0, 3, 4, 13, 14, 15]))
 (.block 3 (.seq (.reg [
  ⟨some 21, none, .faddr 0 none (.t 4)⟩,
  ⟨some 22, none, .load none (.t 21)⟩,
  ⟨some 23, none, .call f_base_Key [(.t 22)]⟩,
  ⟨some 24, none, .un .not (.t 23)⟩,
  ⟨some 20, none, .mv (.t 24)⟩] (some [0, 3, 4, 13, 14, 15, 20]))
 (.cond (.t 20) (.seq (.reg [
  ⟨some 2, none, .mv (.c (.p (.int .i64 5)))⟩] (some [2]))
 .ret)
 (.seq (.draw [
   ⟨⟨some 26, none, .mv (.t 0)⟩, [0], false, [], []⟩,
   ⟨⟨some 27, none, .mv (.t 3)⟩, [3], false, [], []⟩,
   ⟨⟨some 28, none, .slice (some 4) (.t 26) none (some (.t 27)) none⟩, [26, 27], false, [], []⟩,
   ⟨⟨some 29, none, .faddr 0 none (.t 4)⟩, [4], false, [], []⟩,
   ⟨⟨some 30, none, .load none (.t 29)⟩, [29], false, [], []⟩,
   ⟨⟨some 31, none, .call f_lot_find [(.t 28), (.t 30)]⟩, [28, 30], true, [], []⟩,
   ⟨⟨some 32, none, .bin .geq (.t 31) (.c (.p (.int .i64 0)))⟩, [31], false, [], []⟩,
   ⟨⟨some 25, none, .mv (.t 32)⟩, [32], false, [], []⟩] (some [0, 4, 13, 14, 15, 25]))
 (.cond (.t 25) (.seq (.reg [
  ⟨some 2, none, .mv (.c (.p (.int .i64 6)))⟩] (some [2]))
 .ret)
 (.seq (.reg [
  ⟨some 34, none, .faddr 1 none (.t 4)⟩,
  ⟨some 35, none, .load none (.t 34)⟩,
  ⟨some 36, none, .faddr 2 none (.t 4)⟩,
  ⟨some 37, none, .load none (.t 36)⟩,
  ⟨some 38, none, .call f_base_Out [(.t 35), (.c (.p (.int .i64 (-100000)))), (.t 37)]⟩,
  ⟨some 39, none, .mv (.t 38)⟩,
  ⟨some 40, (some (39, false)), .faddr 2 none (.t 4)⟩,
  ⟨some 41, (some (39, false)), .load none (.t 40)⟩,
  ⟨some 42, (some (39, false)), .bin .gtr (.t 41) (.c (.p (.int .i64 100000)))⟩,
  ⟨some 43, none, .pick (.t 39) (.c (.p (.bool true))) (.t 42)⟩,
  ⟨some 44, none, .mv (.t 43)⟩,
  ⟨some 45, (some (44, false)), .faddr 3 none (.t 4)⟩,
  ⟨some 46, (some (44, false)), .load none (.t 45)⟩,
  ⟨some 47, (some (44, false)), .call f_base_Out [(.t 46), (.c (.p (.int .i64 2))), (.c (.p (.int .i64 100)))]⟩,
  ⟨some 48, none, .pick (.t 44) (.c (.p (.bool true))) (.t 47)⟩,
  ⟨some 33, none, .mv (.t 48)⟩] (some [0, 13, 14, 15, 33]))
 (.cond (.t 33) (.seq (.reg [
  ⟨some 2, none, .mv (.c (.p (.int .i64 1)))⟩] (some [2]))
 .ret)
 .skip)))))))))
 (.reg [
  ⟨some 49, none, .bin .add (.t 15) (.c (.p (.int .i64 1)))⟩,
  ⟨some 15, none, .mv (.t 49)⟩] (some [0, 13, 14, 15])))))
def d_lot_CheckLimits_k1 (C : Hd) (gl : Nat → Option PV) (v0 v13 v14 v15 : AV) (h : Heap) (x : Esc) (K : Ex → St → Prop) : Prop :=
 pK (oBin .lss v15 v14) fun t1 =>
 condB t1 (pK (oIaddr (some 4) v13 v15 h) fun t2 =>
 pK (oLoad (some 4) t2 h) fun t3 =>
 alK [.p (.str []), .p (.int .i64 0), .p (.int .i64 0), .p (.int .i64 0)] h fun t4 h5 y6 =>
 wK (oStore (some 4) t4 t3 h5) fun t7 h8 y9 =>
 pK (oFaddr 0 none t4) fun t10 =>
 pK (oLoad none t10 h8) fun t11 =>
 C f_base_Key [t11] h8 fun t12 h13 y14 =>
 pK (oUn .not t12) fun t15 =>
 condB t15 (K .ret ⟨[(2, (.p (.int .i64 5)))], h13, (y14 ++ (y9 ++ (y6 ++ x)))⟩)
 (pK (oSlice (some 4) v0 none (some v15) none h13) fun t16 =>
 pK (oFaddr 0 none t4) fun t17 =>
 pK (oLoad none t17 h13) fun t18 =>
 callE C f_lot_find [t16, t18] h13 fun t19 h20 y21 =>
 pK (oBin .geq t19 (.p (.int .i64 0))) fun t22 =>
 condB t22 (K .ret ⟨[(2, (.p (.int .i64 6)))], h20, (y21 ++ (y14 ++ (y9 ++ (y6 ++ x))))⟩)
 (pK (oFaddr 1 none t4) fun t23 =>
 pK (oLoad none t23 h20) fun t24 =>
 pK (oFaddr 2 none t4) fun t25 =>
 pK (oLoad none t25 h20) fun t26 =>
 C f_base_Out [t24, (.p (.int .i64 (-100000))), t26] h20 fun t27 h28 y29 =>
 gP t27 false (oFaddr 2 none t4) h28 fun t30 h31 y32 =>
 gP t27 false (oLoad none t30 h31) h31 fun t33 h34 y35 =>
 gP t27 false (oBin .gtr t33 (.p (.int .i64 100000))) h34 fun t36 h37 y38 =>
 pK (oPick t27 (.p (.bool true)) t36) fun t39 =>
 gP t39 false (oFaddr 3 none t4) h37 fun t40 h41 y42 =>
 gP t39 false (oLoad none t40 h41) h41 fun t43 h44 y45 =>
 gV t39 false h44 (C f_base_Out [t43, (.p (.int .i64 2)), (.p (.int .i64 100))] h44) fun t46 h47 y48 =>
 pK (oPick t39 (.p (.bool true)) t46) fun t49 =>
 condB t49 (K .ret ⟨[(2, (.p (.int .i64 1)))], h47, (y48 ++ (y45 ++ (y42 ++ (y38 ++ (y35 ++ (y32 ++ (y29 ++ (y21 ++ (y14 ++ (y9 ++ (y6 ++ x)))))))))))⟩)
 (pK (oBin .add v15 (.p (.int .i64 1))) fun t50 =>
 K .normal ⟨[(0, v0), (13, v13), (14, v14), (15, t50)], h47, (y48 ++ (y45 ++ (y42 ++ (y38 ++ (y35 ++ (y32 ++ (y29 ++ (y21 ++ (y14 ++ (y9 ++ (y6 ++ x)))))))))))⟩))))
 (K (.exit 1) ⟨[(0, v0), (13, v13), (14, v14), (15, v15), (16, t1)], h, x⟩)
theorem e_lot_CheckLimits_k1 {C gl e h x K} : NW C gl p_lot_CheckLimits_k1 ⟨e, h, x⟩ K = d_lot_CheckLimits_k1 C gl (aget e 0) (aget e 13) (aget e 14) (aget e 15) h x K := by kernel_rfl
theorem l_lot_CheckLimits_k1 {C gl e h x K} : NW C gl (.loop (.scope p_lot_CheckLimits_k1)) ⟨e, h, x⟩ K = NLoop C gl (.scope p_lot_CheckLimits_k1) K [(0, aget e 0), (13, aget e 13), (14, aget e 14), (15, aget e 15)] h x := NLoop_sc
def p_lot_CheckLimits_k2 : ACode := .pr [] (.seq (.reg [
  ⟨some 2, none, .mv (.c (.p (.int .i64 0)))⟩] (some [2]))
 .ret)
def d_lot_CheckLimits_k2 (C : Hd) (gl : Nat → Option PV) (h : Heap) (x : Esc) (K : Ex → St → Prop) : Prop :=
 K .ret ⟨[(2, (.p (.int .i64 0)))], h, x⟩
theorem e_lot_CheckLimits_k2 {C gl e h x K} : NW C gl p_lot_CheckLimits_k2 ⟨e, h, x⟩ K = d_lot_CheckLimits_k2 C gl h x K := by kernel_rfl
def P_lot_CheckLimits (q1 q2 : ACode) : ACode := (.seq (.reg [
  ⟨some 2, none, .mv (.c (.p (.int .i64 0)))⟩] (some [0]))
 (.seq (.block 0 (.seq (.reg [
  ⟨some 6, none, .mv (.t 0)⟩,
  ⟨some 7, none, .len (.t 6)⟩,
  ⟨some 8, none, .bin .eql (.t 7) (.c (.p (.int .i64 0)))⟩,
  ⟨some 5, none, .mv (.t 8)⟩] (some [0, 5]))
 (.cond (.t 5) (.seq (.reg [
  ⟨some 2, none, .mv (.c (.p (.int .i64 8)))⟩] (some [2]))
 .ret)
 (.seq (.reg [
  ⟨some 10, none, .mv (.t 0)⟩,
  ⟨some 11, none, .len (.t 10)⟩,
  ⟨some 12, none, .bin .gtr (.t 11) (.c (.p (.int .i64 100)))⟩,
  ⟨some 9, none, .mv (.t 12)⟩] (some [0, 9]))
 (.cond (.t 9) (.seq (.reg [
  ⟨some 2, none, .mv (.c (.p (.int .i64 2)))⟩] (some [2]))
 .ret)
 .skip)))))
 (.seq (.seq (.reg [
  ⟨some 13, none, .mv (.t 0)⟩,
  ⟨some 14, none, .len (.t 13)⟩,
  ⟨some 15, none, .mv (.c (.p (.int .i64 0)))⟩] (some [0, 13, 14, 15]))
 (.block 1 (.loop (.scope q1))))
 q2)))
def a_lot_CheckLimits : AFun := ⟨1, [.t 2], P_lot_CheckLimits p_lot_CheckLimits_k1 p_lot_CheckLimits_k2, false, false⟩
def d_lot_CheckLimits (C : Hd) (gl : Nat → Option PV) (q1 q2 : ACode) (v0 : AV) (h : Heap) (x : Esc) (K : Ex → St → Prop) : Prop :=
 pK (oLen v0) fun t1 =>
 pK (oBin .eql t1 (.p (.int .i64 0))) fun t2 =>
 condB t2 (K .ret ⟨[(2, (.p (.int .i64 8)))], h, x⟩)
 (pK (oLen v0) fun t3 =>
 pK (oBin .gtr t3 (.p (.int .i64 100))) fun t4 =>
 condB t4 (K .ret ⟨[(2, (.p (.int .i64 2)))], h, x⟩)
 (pK (oLen v0) fun t5 =>
 NW C gl (.loop (.scope q1)) ⟨[(0, v0), (13, v0), (14, t5), (15, (.p (.int .i64 0)))], h, x⟩ (blockN 1 (seqN C gl q2 K))))
theorem E_lot_CheckLimits {C gl q1 q2 v0 h x K} : NW C gl (P_lot_CheckLimits q1 q2) ⟨enter [v0], h, x⟩ K = d_lot_CheckLimits C gl q1 q2 v0 h x K := by kernel_rfl
theorem e_lot_CheckLimits {C gl v0 h x K} : NW C gl a_lot_CheckLimits.body ⟨enter [v0], h, x⟩ K = d_lot_CheckLimits C gl p_lot_CheckLimits_k1 p_lot_CheckLimits_k2 v0 h x K := E_lot_CheckLimits
def p_scanref2_LimitsFault_k1 : ACode := .pr [0, 13, 14, 15] (.seq (.reg [
  ⟨some 16, none, .bin .lss (.t 15) (.t 14)⟩] (some [0, 13, 14, 15, 16]))
 (.seq (.cond (.t 16) .skip
 (.exit 1))
 (.seq (.block 2 (.seq (.reg [
  ⟨some 17, none, .mv (.t 15)⟩,
  ⟨some 18, none, .iaddr (some 4) (.t 13) (.t 15)⟩,
  ⟨some 19, none, .load (some 4) (.t 18)⟩,
  ⟨some 4, none, .alloc [.p (.str []), .p (.int .i64 0), .p (.int .i64 0), .p (.int .i64 0)]⟩,
  ⟨some 3, none, .mv (.t 17)⟩,
  ⟨none, none, .store (some 4) (.t 4) (.t 19)⟩] (some [0, 3, 4, 13, 14, 15]))
 (.block 3 (.seq (.reg [
  ⟨some 21, none, .faddr 0 none (.t 4)⟩,
  ⟨some 22, none, .load none (.t 21)⟩,
  ⟨some 23, none, .call f_scanref2_Key [(.t 22)]⟩,
  ⟨some 24, none, .un .not (.t 23)⟩,
  ⟨some 20, none, .mv (.t 24)⟩] (some [0, 3, 4, 13, 14, 15, 20]))
 (.cond (.t 20) (.seq (.reg [
  ⟨some 2, none, .mv (.c (.p (.int .i64 5)))⟩] (some [2]))
 .ret)
 (.seq (.draw [
   ⟨⟨some 26, none, .mv (.t 0)⟩, [0], false, [], []⟩,
   ⟨⟨some 27, none, .mv (.t 3)⟩, [3], false, [], []⟩,
   ⟨⟨some 28, none, .slice (some 4) (.t 26) none (some (.t 27)) none⟩, [26, 27], false, [], []⟩,
   ⟨⟨some 29, none, .faddr 0 none (.t 4)⟩, [4], false, [], []⟩,
   ⟨⟨some 30, none, .load none (.t 29)⟩, [29], false, [], []⟩,
   ⟨⟨some 31, none, .call f_scanref2_TestAt [(.t 28), (.t 30)]⟩, [28, 30], true, [], []⟩,
   ⟨⟨some 32, none, .bin .geq (.t 31) (.c (.p (.int .i64 0)))⟩, [31], false, [], []⟩,
   ⟨⟨some 25, none, .mv (.t 32)⟩, [32], false, [], []⟩] (some [0, 4, 13, 14, 15, 25]))
 (.cond (.t 25) (.seq (.reg [
  ⟨some 2, none, .mv (.c (.p (.int .i64 6)))⟩] (some [2]))
 .ret)
 (.seq (.reg [
  ⟨some 34, none, .faddr 1 none (.t 4)⟩,
  ⟨some 35, none, .load none (.t 34)⟩,
  ⟨some 36, none, .faddr 2 none (.t 4)⟩,
  ⟨some 37, none, .load none (.t 36)⟩,
  ⟨some 38, none, .call f_scanref2_in [(.t 35), (.c (.p (.int .i64 (-100000)))), (.t 37)]⟩,
  ⟨some 39, none, .un .not (.t 38)⟩,
  ⟨some 40, none, .mv (.t 39)⟩,
  ⟨some 41, (some (40, false)), .faddr 2 none (.t 4)⟩,
  ⟨some 42, (some (40, false)), .load none (.t 41)⟩,
  ⟨some 43, (some (40, false)), .bin .gtr (.t 42) (.c (.p (.int .i64 100000)))⟩,
  ⟨some 44, none, .pick (.t 40) (.c (.p (.bool true))) (.t 43)⟩,
  ⟨some 45, none, .mv (.t 44)⟩,
  ⟨some 46, (some (45, false)), .faddr 3 none (.t 4)⟩,
  ⟨some 47, (some (45, false)), .load none (.t 46)⟩,
  ⟨some 48, (some (45, false)), .call f_scanref2_in [(.t 47), (.c (.p (.int .i64 2))), (.c (.p (.int .i64 100)))]⟩,
  ⟨some 49, (some (45, false)), .un .not (.t 48)⟩,
  ⟨some 50, none, .pick (.t 45) (.c (.p (.bool true))) (.t 49)⟩,
  ⟨some 33, none, .mv (.t 50)⟩] (some [0, 13, 14, 15, 33]))
 (.cond (.t 33) (.seq (.reg [
  ⟨some 2, none, .mv (.c (.p (.int .i64 1)))⟩] (some [2]))
 .ret)
 .skip)))))))))
 (.reg [
  ⟨some 51, none, .bin .add (.t 15) (.c (.p (.int .i64 1)))⟩,
  ⟨some 15, none, .mv (.t 51)⟩] (some [0, 13, 14, 15])))))
def d_scanref2_LimitsFault_k1 (C : Hd) (gl : Nat → Option PV) (v0 v13 v14 v15 : AV) (h : Heap) (x : Esc) (K : Ex → St → Prop) : Prop :=
 pK (oBin .lss v15 v14) fun t1 =>
 condB t1 (pK (oIaddr (some 4) v13 v15 h) fun t2 =>
 pK (oLoad (some 4) t2 h) fun t3 =>
 alK [.p (.str []), .p (.int .i64 0), .p (.int .i64 0), .p (.int .i64 0)] h fun t4 h5 y6 =>
 wK (oStore (some 4) t4 t3 h5) fun t7 h8 y9 =>
 pK (oFaddr 0 none t4) fun t10 =>
 pK (oLoad none t10 h8) fun t11 =>
 C f_scanref2_Key [t11] h8 fun t12 h13 y14 =>
 pK (oUn .not t12) fun t15 =>
 condB t15 (K .ret ⟨[(2, (.p (.int .i64 5)))], h13, (y14 ++ (y9 ++ (y6 ++ x)))⟩)
 (pK (oSlice (some 4) v0 none (some v15) none h13) fun t16 =>
 pK (oFaddr 0 none t4) fun t17 =>
 pK (oLoad none t17 h13) fun t18 =>
 callE C f_scanref2_TestAt [t16, t18] h13 fun t19 h20 y21 =>
 pK (oBin .geq t19 (.p (.int .i64 0))) fun t22 =>
 condB t22 (K .ret ⟨[(2, (.p (.int .i64 6)))], h20, (y21 ++ (y14 ++ (y9 ++ (y6 ++ x))))⟩)
 (pK (oFaddr 1 none t4) fun t23 =>
 pK (oLoad none t23 h20) fun t24 =>
 pK (oFaddr 2 none t4) fun t25 =>
 pK (oLoad none t25 h20) fun t26 =>
 C f_scanref2_in [t24, (.p (.int .i64 (-100000))), t26] h20 fun t27 h28 y29 =>
 pK (oUn .not t27) fun t30 =>
 gP t30 false (oFaddr 2 none t4) h28 fun t31 h32 y33 =>
 gP t30 false (oLoad none t31 h32) h32 fun t34 h35 y36 =>
 gP t30 false (oBin .gtr t34 (.p (.int .i64 100000))) h35 fun t37 h38 y39 =>
 pK (oPick t30 (.p (.bool true)) t37) fun t40 =>
 gP t40 false (oFaddr 3 none t4) h38 fun t41 h42 y43 =>
 gP t40 false (oLoad none t41 h42) h42 fun t44 h45 y46 =>
 gV t40 false h45 (C f_scanref2_in [t44, (.p (.int .i64 2)), (.p (.int .i64 100))] h45) fun t47 h48 y49 =>
 gP t40 false (oUn .not t47) h48 fun t50 h51 y52 =>
 pK (oPick t40 (.p (.bool true)) t50) fun t53 =>
 condB t53 (K .ret ⟨[(2, (.p (.int .i64 1)))], h51, (y52 ++ (y49 ++ (y46 ++ (y43 ++ (y39 ++ (y36 ++ (y33 ++ (y29 ++ (y21 ++ (y14 ++ (y9 ++ (y6 ++ x))))))))))))⟩)
 (pK (oBin .add v15 (.p (.int .i64 1))) fun t54 =>
 K .normal ⟨[(0, v0), (13, v13), (14, v14), (15, t54)], h51, (y52 ++ (y49 ++ (y46 ++ (y43 ++ (y39 ++ (y36 ++ (y33 ++ (y29 ++ (y21 ++ (y14 ++ (y9 ++ (y6 ++ x))))))))))))⟩))))
 (K (.exit 1) ⟨[(0, v0), (13, v13), (14, v14), (15, v15), (16, t1)], h, x⟩)
theorem e_scanref2_LimitsFault_k1 {C gl e h x K} : NW C gl p_scanref2_LimitsFault_k1 ⟨e, h, x⟩ K = d_scanref2_LimitsFault_k1 C gl (aget e 0) (aget e 13) (aget e 14) (aget e 15) h x K := by kernel_rfl
theorem l_scanref2_LimitsFault_k1 {C gl e h x K} : NW C gl (.loop (.scope p_scanref2_LimitsFault_k1)) ⟨e, h, x⟩ K = NLoop C gl (.scope p_scanref2_LimitsFault_k1) K [(0, aget e 0), (13, aget e 13), (14, aget e 14), (15, aget e 15)] h x := NLoop_sc
def p_scanref2_LimitsFault_k2 : ACode := .pr [] (.seq (.reg [
  ⟨some 2, none, .mv (.c (.p (.int .i64 0)))⟩] (some [2]))
 .ret)
def d_scanref2_LimitsFault_k2 (C : Hd) (gl : Nat → Option PV) (h : Heap) (x : Esc) (K : Ex → St → Prop) : Prop :=
 K .ret ⟨[(2, (.p (.int .i64 0)))], h, x⟩
theorem e_scanref2_LimitsFault_k2 {C gl e h x K} : NW C gl p_scanref2_LimitsFault_k2 ⟨e, h, x⟩ K = d_scanref2_LimitsFault_k2 C gl h x K := by kernel_rfl
def P_scanref2_LimitsFault (q1 q2 : ACode) : ACode := (.seq (.reg [
  ⟨some 2, none, .mv (.c (.p (.int .i64 0)))⟩] (some [0]))
 (.seq (.block 0 (.seq (.reg [
  ⟨some 6, none, .mv (.t 0)⟩,
  ⟨some 7, none, .len (.t 6)⟩,
  ⟨some 8, none, .bin .eql (.t 7) (.c (.p (.int .i64 0)))⟩,
  ⟨some 5, none, .mv (.t 8)⟩] (some [0, 5]))
 (.cond (.t 5) (.seq (.reg [
  ⟨some 2, none, .mv (.c (.p (.int .i64 8)))⟩] (some [2]))
 .ret)
 (.seq (.reg [
  ⟨some 10, none, .mv (.t 0)⟩,
  ⟨some 11, none, .len (.t 10)⟩,
  ⟨some 12, none, .bin .gtr (.t 11) (.c (.p (.int .i64 100)))⟩,
  ⟨some 9, none, .mv (.t 12)⟩] (some [0, 9]))
 (.cond (.t 9) (.seq (.reg [
  ⟨some 2, none, .mv (.c (.p (.int .i64 2)))⟩] (some [2]))
 .ret)
 .skip)))))
 (.seq (.seq (.reg [
  ⟨some 13, none, .mv (.t 0)⟩,
  ⟨some 14, none, .len (.t 13)⟩,
  ⟨some 15, none, .mv (.c (.p (.int .i64 0)))⟩] (some [0, 13, 14, 15]))
 (.block 1 (.loop (.scope q1))))
 q2)))
def a_scanref2_LimitsFault : AFun := ⟨1, [.t 2], P_scanref2_LimitsFault p_scanref2_LimitsFault_k1 p_scanref2_LimitsFault_k2, false, false⟩
def d_scanref2_LimitsFault (C : Hd) (gl : Nat → Option PV) (q1 q2 : ACode) (v0 : AV) (h : Heap) (x : Esc) (K : Ex → St → Prop) : Prop :=
 pK (oLen v0) fun t1 =>
 pK (oBin .eql t1 (.p (.int .i64 0))) fun t2 =>
 condB t2 (K .ret ⟨[(2, (.p (.int .i64 8)))], h, x⟩)
 (pK (oLen v0) fun t3 =>
 pK (oBin .gtr t3 (.p (.int .i64 100))) fun t4 =>
 condB t4 (K .ret ⟨[(2, (.p (.int .i64 2)))], h, x⟩)
 (pK (oLen v0) fun t5 =>
 NW C gl (.loop (.scope q1)) ⟨[(0, v0), (13, v0), (14, t5), (15, (.p (.int .i64 0)))], h, x⟩ (blockN 1 (seqN C gl q2 K))))
theorem E_scanref2_LimitsFault {C gl q1 q2 v0 h x K} : NW C gl (P_scanref2_LimitsFault q1 q2) ⟨enter [v0], h, x⟩ K = d_scanref2_LimitsFault C gl q1 q2 v0 h x K := by kernel_rfl
theorem e_scanref2_LimitsFault {C gl v0 h x K} : NW C gl a_scanref2_LimitsFault.body ⟨enter [v0], h, x⟩ K = d_scanref2_LimitsFault C gl p_scanref2_LimitsFault_k1 p_scanref2_LimitsFault_k2 v0 h x K := E_scanref2_LimitsFault
def P_lot_CheckRecords : ACode := (.seq (.reg [
  ⟨some 4, none, .mv (.c (.p (.int .i64 0)))⟩] (some [0, 1]))
 (.seq (.seq (.reg [
  ⟨some 6, none, .mv (.t 0)⟩,
  ⟨some 7, none, .call f_lot_CheckLimits [(.t 6)]⟩,
  ⟨some 5, none, .mv (.t 7)⟩] (some [0, 1, 5]))
 (.seq (.reg [
  ⟨some 8, none, .mv (.t 5)⟩,
  ⟨some 9, none, .bin .neq (.t 8) (.c (.p (.int .i64 0)))⟩] (some [0, 1, 5, 9]))
 (.cond (.t 9) (.seq (.reg [
  ⟨some 10, none, .mv (.t 5)⟩,
  ⟨some 4, none, .mv (.t 10)⟩] (some [4]))
 .ret)
 .skip)))
 (.seq (.reg [
  ⟨some 11, none, .mv (.t 0)⟩,
  ⟨some 12, none, .mv (.t 1)⟩,
  ⟨some 13, none, .call f_lot_recordsFault [(.t 11), (.t 12)]⟩,
  ⟨some 4, none, .mv (.t 13)⟩] (some [4]))
 .ret)))
def a_lot_CheckRecords : AFun := ⟨2, [.t 4], P_lot_CheckRecords, false, false⟩
def d_lot_CheckRecords (C : Hd) (gl : Nat → Option PV) (v0 v1 : AV) (h : Heap) (x : Esc) (K : Ex → St → Prop) : Prop :=
 C f_lot_CheckLimits [v0] h fun t1 h2 y3 =>
 pK (oBin .neq t1 (.p (.int .i64 0))) fun t4 =>
 condB t4 (K .ret ⟨[(4, t1)], h2, (y3 ++ x)⟩)
 (C f_lot_recordsFault [v0, v1] h2 fun t5 h6 y7 =>
 K .ret ⟨[(4, t5)], h6, (y7 ++ (y3 ++ x))⟩)
theorem E_lot_CheckRecords {C gl v0 v1 h x K} : NW C gl (P_lot_CheckRecords) ⟨enter [v0, v1], h, x⟩ K = d_lot_CheckRecords C gl v0 v1 h x K := by kernel_rfl
theorem e_lot_CheckRecords {C gl v0 v1 h x K} : NW C gl a_lot_CheckRecords.body ⟨enter [v0, v1], h, x⟩ K = d_lot_CheckRecords C gl v0 v1 h x K := E_lot_CheckRecords
def p_slices_EqualFunc_api_Record_api_Record_api_Record_api_Record_k1 : ACode := .pr [1, 2, 15, 16, 17] (.seq (.reg [
  ⟨some 18, none, .bin .lss (.t 17) (.t 16)⟩] (some [1, 2, 15, 16, 17, 18]))
 (.seq (.cond (.t 18) .skip
 (.exit 0))
 (.seq (.block 1 (.seq (.reg [
  ⟨some 19, none, .mv (.t 17)⟩,
  ⟨some 20, none, .iaddr (some 4) (.t 15) (.t 17)⟩,
  ⟨some 21, none, .load (some 4) (.t 20)⟩,
  ⟨some 8, none, .alloc [.p (.str []), .p (.int .i64 0), .p (.str []), .sl0 none]⟩,
  ⟨some 7, none, .mv (.t 19)⟩,
  ⟨none, none, .store (some 4) (.t 8) (.t 21)⟩] (some [1, 2, 7, 8, 15, 16, 17]))
 (.seq (.reg [
  ⟨some 22, none, .mv (.t 1)⟩,
  ⟨some 23, none, .mv (.t 7)⟩,
  ⟨some 24, none, .iaddr (some 4) (.t 22) (.t 23)⟩,
  ⟨some 25, none, .load (some 4) (.t 24)⟩,
  ⟨some 9, none, .alloc [.p (.str []), .p (.int .i64 0), .p (.str []), .sl0 none]⟩,
  ⟨none, none, .store (some 4) (.t 9) (.t 25)⟩] (some [1, 2, 8, 9, 15, 16, 17]))
 (.seq (.reg [
  ⟨some 26, none, .mv (.t 2)⟩,
  ⟨some 27, none, .load (some 4) (.t 8)⟩,
  ⟨some 28, none, .load (some 4) (.t 9)⟩,
  ⟨some 29, none, .callv (.t 26) [(.t 27), (.t 28)]⟩,
  ⟨some 30, none, .un .not (.t 29)⟩] (some [1, 2, 15, 16, 17, 30]))
 (.cond (.t 30) (.seq (.reg [
  ⟨some 6, none, .mv (.c (.p (.bool false)))⟩] (some [6]))
 .ret)
 .skip)))))
 (.reg [
  ⟨some 31, none, .bin .add (.t 17) (.c (.p (.int .i64 1)))⟩,
  ⟨some 17, none, .mv (.t 31)⟩] (some [1, 2, 15, 16, 17])))))
def d_slices_EqualFunc_api_Record_api_Record_api_Record_api_Record_k1 (C : Hd) (gl : Nat → Option PV) (v1 v2 v15 v16 v17 : AV) (h : Heap) (x : Esc) (K : Ex → St → Prop) : Prop :=
 pK (oBin .lss v17 v16) fun t1 =>
 condB t1 (pK (oIaddr (some 4) v15 v17 h) fun t2 =>
 pK (oLoad (some 4) t2 h) fun t3 =>
 alK [.p (.str []), .p (.int .i64 0), .p (.str []), .sl0 none] h fun t4 h5 y6 =>
 wK (oStore (some 4) t4 t3 h5) fun t7 h8 y9 =>
 pK (oIaddr (some 4) v1 v17 h8) fun t10 =>
 pK (oLoad (some 4) t10 h8) fun t11 =>
 alK [.p (.str []), .p (.int .i64 0), .p (.str []), .sl0 none] h8 fun t12 h13 y14 =>
 wK (oStore (some 4) t12 t11 h13) fun t15 h16 y17 =>
 pK (oLoad (some 4) t4 h16) fun t18 =>
 pK (oLoad (some 4) t12 h16) fun t19 =>
 callvK C v2 [t18, t19] h16 fun t20 h21 y22 =>
 pK (oUn .not t20) fun t23 =>
 condB t23 (K .ret ⟨[(6, (.p (.bool false)))], h21, (y22 ++ (y17 ++ (y14 ++ (y9 ++ (y6 ++ x)))))⟩)
 (pK (oBin .add v17 (.p (.int .i64 1))) fun t24 =>
 K .normal ⟨[(1, v1), (2, v2), (15, v15), (16, v16), (17, t24)], h21, (y22 ++ (y17 ++ (y14 ++ (y9 ++ (y6 ++ x)))))⟩))
 (K (.exit 0) ⟨[(1, v1), (2, v2), (15, v15), (16, v16), (17, v17), (18, t1)], h, x⟩)
theorem e_slices_EqualFunc_api_Record_api_Record_api_Record_api_Record_k1 {C gl e h x K} : NW C gl p_slices_EqualFunc_api_Record_api_Record_api_Record_api_Record_k1 ⟨e, h, x⟩ K = d_slices_EqualFunc_api_Record_api_Record_api_Record_api_Record_k1 C gl (aget e 1) (aget e 2) (aget e 15) (aget e 16) (aget e 17) h x K := by kernel_rfl
theorem l_slices_EqualFunc_api_Record_api_Record_api_Record_api_Record_k1 {C gl e h x K} : NW C gl (.loop (.scope p_slices_EqualFunc_api_Record_api_Record_api_Record_api_Record_k1)) ⟨e, h, x⟩ K = NLoop C gl (.scope p_slices_EqualFunc_api_Record_api_Record_api_Record_api_Record_k1) K [(1, aget e 1), (2, aget e 2), (15, aget e 15), (16, aget e 16), (17, aget e 17)] h x := NLoop_sc
def p_slices_EqualFunc_api_Record_api_Record_api_Record_api_Record_k2 : ACode := .pr [] (.seq (.reg [
  ⟨some 6, none, .mv (.c (.p (.bool true)))⟩] (some [6]))
 .ret)
def d_slices_EqualFunc_api_Record_api_Record_api_Record_api_Record_k2 (C : Hd) (gl : Nat → Option PV) (h : Heap) (x : Esc) (K : Ex → St → Prop) : Prop :=
 K .ret ⟨[(6, (.p (.bool true)))], h, x⟩
theorem e_slices_EqualFunc_api_Record_api_Record_api_Record_api_Record_k2 {C gl e h x K} : NW C gl p_slices_EqualFunc_api_Record_api_Record_api_Record_api_Record_k2 ⟨e, h, x⟩ K = d_slices_EqualFunc_api_Record_api_Record_api_Record_api_Record_k2 C gl h x K := by kernel_rfl
def P_slices_EqualFunc_api_Record_api_Record_api_Record_api_Record (q1 q2 : ACode) : ACode := (.seq (.reg [
  ⟨some 6, none, .mv (.c (.p (.bool false)))⟩] (some [0, 1, 2]))
 (.seq (.seq (.reg [
  ⟨some 10, none, .mv (.t 0)⟩,
  ⟨some 11, none, .len (.t 10)⟩,
  ⟨some 12, none, .mv (.t 1)⟩,
  ⟨some 13, none, .len (.t 12)⟩,
  ⟨some 14, none, .bin .neq (.t 11) (.t 13)⟩] (some [0, 1, 2, 14]))
 (.cond (.t 14) (.seq (.reg [
  ⟨some 6, none, .mv (.c (.p (.bool false)))⟩] (some [6]))
 .ret)
 .skip))
 (.seq (.seq (.reg [
  ⟨some 15, none, .mv (.t 0)⟩,
  ⟨some 16, none, .len (.t 15)⟩,
  ⟨some 17, none, .mv (.c (.p (.int .i64 0)))⟩] (some [1, 2, 15, 16, 17]))
 (.block 0 (.loop (.scope q1))))
 q2)))
def a_slices_EqualFunc_api_Record_api_Record_api_Record_api_Record : AFun := ⟨3, [.t 6], P_slices_EqualFunc_api_Record_api_Record_api_Record_api_Record p_slices_EqualFunc_api_Record_api_Record_api_Record_api_Record_k1 p_slices_EqualFunc_api_Record_api_Record_api_Record_api_Record_k2, false, false⟩
def d_slices_EqualFunc_api_Record_api_Record_api_Record_api_Record (C : Hd) (gl : Nat → Option PV) (q1 q2 : ACode) (v0 v1 v2 : AV) (h : Heap) (x : Esc) (K : Ex → St → Prop) : Prop :=
 pK (oLen v0) fun t1 =>
 pK (oLen v1) fun t2 =>
 pK (oBin .neq t1 t2) fun t3 =>
 condB t3 (K .ret ⟨[(6, (.p (.bool false)))], h, x⟩)
 (pK (oLen v0) fun t4 =>
 NW C gl (.loop (.scope q1)) ⟨[(1, v1), (2, v2), (15, v0), (16, t4), (17, (.p (.int .i64 0)))], h, x⟩ (blockN 0 (seqN C gl q2 K)))
theorem E_slices_EqualFunc_api_Record_api_Record_api_Record_api_Record {C gl q1 q2 v0 v1 v2 h x K} : NW C gl (P_slices_EqualFunc_api_Record_api_Record_api_Record_api_Record q1 q2) ⟨enter [v0, v1, v2], h, x⟩ K = d_slices_EqualFunc_api_Record_api_Record_api_Record_api_Record C gl q1 q2 v0 v1 v2 h x K := by kernel_rfl
theorem e_slices_EqualFunc_api_Record_api_Record_api_Record_api_Record {C gl v0 v1 v2 h x K} : NW C gl a_slices_EqualFunc_api_Record_api_Record_api_Record_api_Record.body ⟨enter [v0, v1, v2], h, x⟩ K = d_slices_EqualFunc_api_Record_api_Record_api_Record_api_Record C gl p_slices_EqualFunc_api_Record_api_Record_api_Record_api_Record_k1 p_slices_EqualFunc_api_Record_api_Record_api_Record_api_Record_k2 v0 v1 v2 h x K := E_slices_EqualFunc_api_Record_api_Record_api_Record_api_Record
def P_scanref2_SameRecord : ACode := (.seq (.reg [
  ⟨some 2, none, .box (.t 0)⟩,
  ⟨some 3, none, .box (.t 1)⟩,
  ⟨some 4, none, .mv (.c (.p (.bool false)))⟩] (some [2, 3]))
 (.seq (.reg [
  ⟨some 5, none, .faddr 0 none (.t 2)⟩,
  ⟨some 6, none, .load none (.t 5)⟩,
  ⟨some 7, none, .faddr 0 none (.t 3)⟩,
  ⟨some 8, none, .load none (.t 7)⟩,
  ⟨some 9, none, .bin .eql (.t 6) (.t 8)⟩,
  ⟨some 10, none, .mv (.t 9)⟩,
  ⟨some 11, (some (10, true)), .faddr 1 none (.t 2)⟩,
  ⟨some 12, (some (10, true)), .load none (.t 11)⟩,
  ⟨some 13, (some (10, true)), .faddr 1 none (.t 3)⟩,
  ⟨some 14, (some (10, true)), .load none (.t 13)⟩,
  ⟨some 15, (some (10, true)), .bin .eql (.t 12) (.t 14)⟩,
  ⟨some 16, none, .pick (.t 10) (.t 15) (.c (.p (.bool false)))⟩,
  ⟨some 17, none, .mv (.t 16)⟩,
  ⟨some 18, (some (17, true)), .faddr 2 none (.t 2)⟩,
  ⟨some 19, (some (17, true)), .load none (.t 18)⟩,
  ⟨some 20, (some (17, true)), .faddr 2 none (.t 3)⟩,
  ⟨some 21, (some (17, true)), .load none (.t 20)⟩,
  ⟨some 22, (some (17, true)), .bin .eql (.t 19) (.t 21)⟩,
  ⟨some 23, none, .pick (.t 17) (.t 22) (.c (.p (.bool false)))⟩,
  ⟨some 24, none, .mv (.t 23)⟩,
  ⟨some 25, (some (24, true)), .faddr 3 none (.t 2)⟩,
  ⟨some 26, (some (24, true)), .load none (.t 25)⟩,
  ⟨some 27, (some (24, true)), .faddr 3 none (.t 3)⟩,
  ⟨some 28, (some (24, true)), .load none (.t 27)⟩,
  ⟨some 29, (some (24, true)), .call f_slices_Equal_int_int [(.t 26), (.t 28)]⟩,
  ⟨some 30, none, .pick (.t 24) (.t 29) (.c (.p (.bool false)))⟩,
  ⟨some 4, none, .mv (.t 30)⟩] (some [4]))
 .ret))
def a_scanref2_SameRecord : AFun := ⟨2, [.t 4], P_scanref2_SameRecord, false, false⟩
def d_scanref2_SameRecord (C : Hd) (gl : Nat → Option PV) (v0 v1 : AV) (h : Heap) (x : Esc) (K : Ex → St → Prop) : Prop :=
 wK (oBox v0 h) fun t1 h2 y3 =>
 wK (oBox v1 h2) fun t4 h5 y6 =>
 pK (oFaddr 0 none t1) fun t7 =>
 pK (oLoad none t7 h5) fun t8 =>
 pK (oFaddr 0 none t4) fun t9 =>
 pK (oLoad none t9 h5) fun t10 =>
 pK (oBin .eql t8 t10) fun t11 =>
 gP t11 true (oFaddr 1 none t1) h5 fun t12 h13 y14 =>
 gP t11 true (oLoad none t12 h13) h13 fun t15 h16 y17 =>
 gP t11 true (oFaddr 1 none t4) h16 fun t18 h19 y20 =>
 gP t11 true (oLoad none t18 h19) h19 fun t21 h22 y23 =>
 gP t11 true (oBin .eql t15 t21) h22 fun t24 h25 y26 =>
 pK (oPick t11 t24 (.p (.bool false))) fun t27 =>
 gP t27 true (oFaddr 2 none t1) h25 fun t28 h29 y30 =>
 gP t27 true (oLoad none t28 h29) h29 fun t31 h32 y33 =>
 gP t27 true (oFaddr 2 none t4) h32 fun t34 h35 y36 =>
 gP t27 true (oLoad none t34 h35) h35 fun t37 h38 y39 =>
 gP t27 true (oBin .eql t31 t37) h38 fun t40 h41 y42 =>
 pK (oPick t27 t40 (.p (.bool false))) fun t43 =>
 gP t43 true (oFaddr 3 none t1) h41 fun t44 h45 y46 =>
 gP t43 true (oLoad none t44 h45) h45 fun t47 h48 y49 =>
 gP t43 true (oFaddr 3 none t4) h48 fun t50 h51 y52 =>
 gP t43 true (oLoad none t50 h51) h51 fun t53 h54 y55 =>
 gV t43 true h54 (C f_slices_Equal_int_int [t47, t53] h54) fun t56 h57 y58 =>
 pK (oPick t43 t56 (.p (.bool false))) fun t59 =>
 K .ret ⟨[(4, t59)], h57, (y58 ++ (y55 ++ (y52 ++ (y49 ++ (y46 ++ (y42 ++ (y39 ++ (y36 ++ (y33 ++ (y30 ++ (y26 ++ (y23 ++ (y20 ++ (y17 ++ (y14 ++ (y6 ++ (y3 ++ x)))))))))))))))))⟩
theorem E_scanref2_SameRecord {C gl v0 v1 h x K} : NW C gl (P_scanref2_SameRecord) ⟨enter [v0, v1], h, x⟩ K = d_scanref2_SameRecord C gl v0 v1 h x K := by kernel_rfl
theorem e_scanref2_SameRecord {C gl v0 v1 h x K} : NW C gl a_scanref2_SameRecord.body ⟨enter [v0, v1], h, x⟩ K = d_scanref2_SameRecord C gl v0 v1 h x K := E_scanref2_SameRecord
def P_scanlaw2_binned : ACode := (.seq (.reg [
  ⟨some 0, none, .mv (.c (.p (.bool false)))⟩] (some []))
 (.seq (.reg [
  ⟨some 5, none, .bsl false none 2 (.int .i64 0) [(0, (.c (.p (.int .i64 1)))), (1, (.c (.p (.int .i64 3))))]⟩,
  ⟨some 6, none, .call f_lot_Spread [(.t 5)]⟩,
  ⟨some 4, none, .mv (.t 6)⟩,
  ⟨some 7, none, .ext (.t 4) 0⟩,
  ⟨some 8, none, .ext (.t 4) 1⟩,
  ⟨some 9, none, .ext (.t 4) 2⟩,
  ⟨some 1, none, .alloc [.p (.int .i64 0), .p (.int .i64 0)]⟩,
  ⟨some 2, none, .alloc [.p (.int .i64 0), .p (.int .i64 0)]⟩,
  ⟨none, none, .store (some 2) (.t 1) (.t 7)⟩,
  ⟨none, none, .store (some 2) (.t 2) (.t 8)⟩,
  ⟨some 3, none, .mv (.t 9)⟩] (some [1, 2, 3]))
 (.seq (.reg [
  ⟨some 10, none, .mv (.t 3)⟩,
  ⟨some 11, none, .bin .eql (.t 10) (.c (.p (.int .i64 0)))⟩,
  ⟨some 12, none, .mv (.t 11)⟩,
  ⟨some 13, (some (12, true)), .load (some 2) (.t 1)⟩,
  ⟨some 14, (some (12, true)), .build [.p (.int .i64 0), .p (.int .i64 0)] [(0, 1, (.c (.p (.int .i64 2)))), (1, 1, (.c (.p (.int .i64 1))))]⟩,
  ⟨some 15, (some (12, true)), .eqa [0, 0] false (.t 13) (.t 14)⟩,
  ⟨some 16, none, .pick (.t 12) (.t 15) (.c (.p (.bool false)))⟩,
  ⟨some 17, none, .mv (.t 16)⟩,
  ⟨some 18, (some (17, true)), .load (some 2) (.t 2)⟩,
  ⟨some 19, (some (17, true)), .build [.p (.int .i64 0), .p (.int .i64 0)] [(0, 1, (.c (.p (.int .i64 1)))), (1, 1, (.c (.p (.int .i64 1))))]⟩,
  ⟨some 20, (some (17, true)), .eqa [0, 0] false (.t 18) (.t 19)⟩,
  ⟨some 21, none, .pick (.t 17) (.t 20) (.c (.p (.bool false)))⟩,
  ⟨some 0, none, .mv (.t 21)⟩] (some [0]))
 .ret)))
def a_scanlaw2_binned : AFun := ⟨0, [.t 0], P_scanlaw2_binned, false, false⟩
def d_scanlaw2_binned (C : Hd) (gl : Nat → Option PV) (h : Heap) (x : Esc) (K : Ex → St → Prop) : Prop :=
 wK (oBsl false none 2 (.int .i64 0) [(0, (.p (.int .i64 1))), (1, (.p (.int .i64 3)))] h) fun t1 h2 y3 =>
 C f_lot_Spread [t1] h2 fun t4 h5 y6 =>
 pK (oExt t4 0) fun t7 =>
 pK (oExt t4 1) fun t8 =>
 pK (oExt t4 2) fun t9 =>
 alK [.p (.int .i64 0), .p (.int .i64 0)] h5 fun t10 h11 y12 =>
 alK [.p (.int .i64 0), .p (.int .i64 0)] h11 fun t13 h14 y15 =>
 wK (oStore (some 2) t10 t7 h14) fun t16 h17 y18 =>
 wK (oStore (some 2) t13 t8 h17) fun t19 h20 y21 =>
 pK (oBin .eql t9 (.p (.int .i64 0))) fun t22 =>
 gP t22 true (oLoad (some 2) t10 h20) h20 fun t23 h24 y25 =>
 gP t22 true (oBuild [.p (.int .i64 0), .p (.int .i64 0)] [(0, 1, (.p (.int .i64 2))), (1, 1, (.p (.int .i64 1)))]) h24 fun t26 h27 y28 =>
 gP t22 true (oEqa [0, 0] false t23 t26) h27 fun t29 h30 y31 =>
 pK (oPick t22 t29 (.p (.bool false))) fun t32 =>
 gP t32 true (oLoad (some 2) t13 h30) h30 fun t33 h34 y35 =>
 gP t32 true (oBuild [.p (.int .i64 0), .p (.int .i64 0)] [(0, 1, (.p (.int .i64 1))), (1, 1, (.p (.int .i64 1)))]) h34 fun t36 h37 y38 =>
 gP t32 true (oEqa [0, 0] false t33 t36) h37 fun t39 h40 y41 =>
 pK (oPick t32 t39 (.p (.bool false))) fun t42 =>
 K .ret ⟨[(0, t42)], h40, (y41 ++ (y38 ++ (y35 ++ (y31 ++ (y28 ++ (y25 ++ (y21 ++ (y18 ++ (y15 ++ (y12 ++ (y6 ++ (y3 ++ x))))))))))))⟩
theorem E_scanlaw2_binned {C gl h x K} : NW C gl (P_scanlaw2_binned) ⟨enter [], h, x⟩ K = d_scanlaw2_binned C gl h x K := by kernel_rfl
theorem e_scanlaw2_binned {C gl h x K} : NW C gl a_scanlaw2_binned.body ⟨enter [], h, x⟩ K = d_scanlaw2_binned C gl h x K := E_scanlaw2_binned
def P_scanmake_Stream_Some : ACode := (.seq (.reg [
  ⟨some 4, none, .mv (.c (.p (.str [])))⟩] (some [0, 1]))
 (.seq (.reg [
  ⟨some 5, none, .mv (.t 1)⟩,
  ⟨some 6, none, .mv (.t 0)⟩,
  ⟨some 7, none, .mv (.t 1)⟩,
  ⟨some 8, none, .len (.t 7)⟩,
  ⟨some 9, none, .call f_scanmake_Stream_Next [(.t 6), (.t 8)]⟩,
  ⟨some 10, none, .iaddr none (.t 5) (.t 9)⟩,
  ⟨some 11, none, .load none (.t 10)⟩,
  ⟨some 4, none, .mv (.t 11)⟩] (some [4]))
 .ret))
def a_scanmake_Stream_Some : AFun := ⟨2, [.t 4], P_scanmake_Stream_Some, false, false⟩
def d_scanmake_Stream_Some (C : Hd) (gl : Nat → Option PV) (v0 v1 : AV) (h : Heap) (x : Esc) (K : Ex → St → Prop) : Prop :=
 pK (oLen v1) fun t1 =>
 C f_scanmake_Stream_Next [v0, t1] h fun t2 h3 y4 =>
 pK (oIaddr none v1 t2 h3) fun t5 =>
 pK (oLoad none t5 h3) fun t6 =>
 K .ret ⟨[(4, t6)], h3, (y4 ++ x)⟩
theorem E_scanmake_Stream_Some {C gl v0 v1 h x K} : NW C gl (P_scanmake_Stream_Some) ⟨enter [v0, v1], h, x⟩ K = d_scanmake_Stream_Some C gl v0 v1 h x K := by kernel_rfl
theorem e_scanmake_Stream_Some {C gl v0 v1 h x K} : NW C gl a_scanmake_Stream_Some.body ⟨enter [v0, v1], h, x⟩ K = d_scanmake_Stream_Some C gl v0 v1 h x K := E_scanmake_Stream_Some
def P_scanmake_Stream_Odd : ACode := (.seq (.reg [
  ⟨some 6, none, .mv (.c (.p (.int .i64 0)))⟩] (some [0, 1, 2]))
 (.seq (.seq (.reg [
  ⟨some 7, none, .mv (.t 0)⟩,
  ⟨some 8, none, .call f_scanmake_Stream_Flip [(.t 7), (.c (.p (.int .i64 12)))]⟩] (some [0, 1, 2, 8]))
 (.cond (.t 8) (.seq (.reg [
  ⟨some 9, none, .mv (.t 0)⟩,
  ⟨some 10, none, .mv (.t 1)⟩,
  ⟨some 11, none, .bin .sub (.t 10) (.c (.p (.int .i64 1)))⟩,
  ⟨some 12, none, .mv (.t 2)⟩,
  ⟨some 13, none, .bin .add (.t 12) (.c (.p (.int .i64 1)))⟩,
  ⟨some 14, none, .mv (.t 1)⟩,
  ⟨some 15, none, .mv (.t 2)⟩,
  ⟨some 16, none, .bsl false none 6 (.int .i64 0) [(0, (.t 11)), (1, (.t 13)), (2, (.t 14)), (3, (.t 15)), (4, (.c (.p (.int .i64 (-1099511627776))))), (5, (.c (.p (.int .i64 1099511627776))))]⟩,
  ⟨some 17, none, .call f_scanmake_Stream_Pick [(.t 9), (.t 16)]⟩,
  ⟨some 6, none, .mv (.t 17)⟩] (some [6]))
 .ret)
 .skip))
 (.seq (.reg [
  ⟨some 18, none, .mv (.t 0)⟩,
  ⟨some 19, none, .mv (.t 1)⟩,
  ⟨some 20, none, .mv (.t 2)⟩,
  ⟨some 21, none, .call f_scanmake_Stream_Range [(.t 18), (.t 19), (.t 20)]⟩,
  ⟨some 6, none, .mv (.t 21)⟩] (some [6]))
 .ret)))
def a_scanmake_Stream_Odd : AFun := ⟨3, [.t 6], P_scanmake_Stream_Odd, false, false⟩
def d_scanmake_Stream_Odd (C : Hd) (gl : Nat → Option PV) (v0 v1 v2 : AV) (h : Heap) (x : Esc) (K : Ex → St → Prop) : Prop :=
 C f_scanmake_Stream_Flip [v0, (.p (.int .i64 12))] h fun t1 h2 y3 =>
 condB t1 (pK (oBin .sub v1 (.p (.int .i64 1))) fun t4 =>
 pK (oBin .add v2 (.p (.int .i64 1))) fun t5 =>
 wK (oBsl false none 6 (.int .i64 0) [(0, t4), (1, t5), (2, v1), (3, v2), (4, (.p (.int .i64 (-1099511627776)))), (5, (.p (.int .i64 1099511627776)))] h2) fun t6 h7 y8 =>
 C f_scanmake_Stream_Pick [v0, t6] h7 fun t9 h10 y11 =>
 K .ret ⟨[(6, t9)], h10, (y11 ++ (y8 ++ (y3 ++ x)))⟩)
 (C f_scanmake_Stream_Range [v0, v1, v2] h2 fun t12 h13 y14 =>
 K .ret ⟨[(6, t12)], h13, (y14 ++ (y3 ++ x))⟩)
theorem E_scanmake_Stream_Odd {C gl v0 v1 v2 h x K} : NW C gl (P_scanmake_Stream_Odd) ⟨enter [v0, v1, v2], h, x⟩ K = d_scanmake_Stream_Odd C gl v0 v1 v2 h x K := by kernel_rfl
theorem e_scanmake_Stream_Odd {C gl v0 v1 v2 h x K} : NW C gl a_scanmake_Stream_Odd.body ⟨enter [v0, v1, v2], h, x⟩ K = d_scanmake_Stream_Odd C gl v0 v1 v2 h x K := E_scanmake_Stream_Odd
def P_slices_SortStableFunc_api_Record_api_Record : ACode := (.reg [
  ⟨some 4, none, .mv (.t 0)⟩,
  ⟨some 5, none, .mv (.t 0)⟩,
  ⟨some 6, none, .len (.t 5)⟩,
  ⟨some 7, none, .mv (.t 1)⟩,
  ⟨some 8, none, .call f_slices_stableCmpFunc_api_Record [(.t 4), (.t 6), (.t 7)]⟩] (some []))
def a_slices_SortStableFunc_api_Record_api_Record : AFun := ⟨2, [], P_slices_SortStableFunc_api_Record_api_Record, true, false⟩
def d_slices_SortStableFunc_api_Record_api_Record (C : Hd) (gl : Nat → Option PV) (v0 v1 : AV) (h : Heap) (x : Esc) (K : Ex → St → Prop) : Prop :=
 pK (oLen v0) fun t1 =>
 C f_slices_stableCmpFunc_api_Record [v0, t1, v1] h fun t2 h3 y4 =>
 K .normal ⟨[], h3, (y4 ++ x)⟩
theorem E_slices_SortStableFunc_api_Record_api_Record {C gl v0 v1 h x K} : NW C gl (P_slices_SortStableFunc_api_Record_api_Record) ⟨enter [v0, v1], h, x⟩ K = d_slices_SortStableFunc_api_Record_api_Record C gl v0 v1 h x K := by kernel_rfl
theorem e_slices_SortStableFunc_api_Record_api_Record {C gl v0 v1 h x K} : NW C gl a_slices_SortStableFunc_api_Record_api_Record.body ⟨enter [v0, v1], h, x⟩ K = d_slices_SortStableFunc_api_Record_api_Record C gl v0 v1 h x K := E_slices_SortStableFunc_api_Record_api_Record
def P_scanmake_Stream_Records_1 : ACode := (.seq (.reg [
  ⟨some 2, none, .box (.t 0)⟩,
  ⟨some 3, none, .box (.t 1)⟩,
  ⟨some 4, none, .mv (.c (.p (.int .i64 0)))⟩] (some [2, 3]))
 (.seq (.draw [
   ⟨⟨some 5, none, .faddr 1 none (.t 2)⟩, [2], false, [], []⟩,
   ⟨⟨some 6, none, .load none (.t 5)⟩, [5], false, [], []⟩,
   ⟨⟨some 7, none, .faddr 1 none (.t 3)⟩, [3], false, [], []⟩,
   ⟨⟨some 8, none, .load none (.t 7)⟩, [7], false, [], []⟩,
   ⟨⟨some 9, none, .call f_cmp_Compare_int [(.t 6), (.t 8)]⟩, [6, 8], true, [], []⟩,
   ⟨⟨some 10, none, .faddr 0 none (.t 2)⟩, [2], false, [], []⟩,
   ⟨⟨some 11, none, .load none (.t 10)⟩, [10], false, [4], []⟩,
   ⟨⟨some 12, none, .faddr 0 none (.t 3)⟩, [3], false, [], []⟩,
   ⟨⟨some 13, none, .load none (.t 12)⟩, [12], false, [4], []⟩,
   ⟨⟨some 14, none, .call f_strings_Compare [(.t 11), (.t 13)]⟩, [11, 13], true, [], []⟩,
   ⟨⟨some 15, none, .bsl false none 2 (.int .i64 0) [(0, (.t 9)), (1, (.t 14))]⟩, [9, 14], false, [], []⟩,
   ⟨⟨some 16, none, .call f_cmp_Or_int [(.t 15)]⟩, [15], true, [], []⟩,
   ⟨⟨some 4, none, .mv (.t 16)⟩, [16], false, [], []⟩] (some [4]))
 .ret))
def a_scanmake_Stream_Records_1 : AFun := ⟨2, [.t 4], P_scanmake_Stream_Records_1, false, false⟩
def d_scanmake_Stream_Records_1 (C : Hd) (gl : Nat → Option PV) (v0 v1 : AV) (h : Heap) (x : Esc) (K : Ex → St → Prop) : Prop :=
 wK (oBox v0 h) fun t1 h2 y3 =>
 wK (oBox v1 h2) fun t4 h5 y6 =>
 pK (oFaddr 1 none t1) fun t7 =>
 pK (oLoad none t7 h5) fun t8 =>
 pK (oFaddr 1 none t4) fun t9 =>
 pK (oLoad none t9 h5) fun t10 =>
 callE C f_cmp_Compare_int [t8, t10] h5 fun t11 h12 y13 =>
 pK (oFaddr 0 none t1) fun t14 =>
 pK (oLoad none t14 h12) fun t15 =>
 (pK (oLoad none t14 h5) fun v => (fun u (g1 : Heap) (y1 : Esc) => u = t15 ∧ g1 = h5 ∧ y1 = []) v h5 []) ∧ (pK (oFaddr 0 none t4) fun t16 =>
 pK (oLoad none t16 h12) fun t17 =>
 (pK (oLoad none t16 h5) fun v => (fun u (g1 : Heap) (y1 : Esc) => u = t17 ∧ g1 = h5 ∧ y1 = []) v h5 []) ∧ (callE C f_strings_Compare [t15, t17] h12 fun t18 h19 y20 =>
 wK (oBsl false none 2 (.int .i64 0) [(0, t11), (1, t18)] h19) fun t21 h22 y23 =>
 (h22 = h19 ∧ y23 = []) ∧ (callE C f_cmp_Or_int [t21] h22 fun t24 h25 y26 =>
 K .ret ⟨[(4, t24)], h25, (y26 ++ (y23 ++ (y20 ++ (y13 ++ (y6 ++ (y3 ++ x))))))⟩)))
theorem E_scanmake_Stream_Records_1 {C gl v0 v1 h x K} : NW C gl (P_scanmake_Stream_Records_1) ⟨enter [v0, v1], h, x⟩ K = d_scanmake_Stream_Records_1 C gl v0 v1 h x K := by kernel_rfl
theorem e_scanmake_Stream_Records_1 {C gl v0 v1 h x K} : NW C gl a_scanmake_Stream_Records_1.body ⟨enter [v0, v1], h, x⟩ K = d_scanmake_Stream_Records_1 C gl v0 v1 h x K := E_scanmake_Stream_Records_1
def p_cmp_Or_int_k1 : ACode := .pr [3, 6, 7, 8] (.seq (.reg [
  ⟨some 9, none, .bin .lss (.t 8) (.t 7)⟩] (some [3, 6, 7, 8, 9]))
 (.seq (.cond (.t 9) .skip
 (.exit 0))
 (.seq (.block 1 (.seq (.reg [
  ⟨some 10, none, .iaddr none (.t 6) (.t 8)⟩,
  ⟨some 11, none, .load none (.t 10)⟩,
  ⟨some 5, none, .mv (.t 11)⟩] (some [3, 5, 6, 7, 8]))
 (.seq (.reg [
  ⟨some 12, none, .mv (.t 5)⟩,
  ⟨some 13, none, .mv (.t 3)⟩,
  ⟨some 14, none, .bin .neq (.t 12) (.t 13)⟩] (some [3, 5, 6, 7, 8, 14]))
 (.cond (.t 14) (.seq (.reg [
  ⟨some 15, none, .mv (.t 5)⟩,
  ⟨some 2, none, .mv (.t 15)⟩] (some [2]))
 .ret)
 .skip))))
 (.reg [
  ⟨some 16, none, .bin .add (.t 8) (.c (.p (.int .i64 1)))⟩,
  ⟨some 8, none, .mv (.t 16)⟩] (some [3, 6, 7, 8])))))
def d_cmp_Or_int_k1 (C : Hd) (gl : Nat → Option PV) (v3 v6 v7 v8 : AV) (h : Heap) (x : Esc) (K : Ex → St → Prop) : Prop :=
 pK (oBin .lss v8 v7) fun t1 =>
 condB t1 (pK (oIaddr none v6 v8 h) fun t2 =>
 pK (oLoad none t2 h) fun t3 =>
 pK (oBin .neq t3 v3) fun t4 =>
 condB t4 (K .ret ⟨[(2, t3)], h, x⟩)
 (pK (oBin .add v8 (.p (.int .i64 1))) fun t5 =>
 K .normal ⟨[(3, v3), (6, v6), (7, v7), (8, t5)], h, x⟩))
 (K (.exit 0) ⟨[(3, v3), (6, v6), (7, v7), (8, v8), (9, t1)], h, x⟩)
theorem e_cmp_Or_int_k1 {C gl e h x K} : NW C gl p_cmp_Or_int_k1 ⟨e, h, x⟩ K = d_cmp_Or_int_k1 C gl (aget e 3) (aget e 6) (aget e 7) (aget e 8) h x K := by kernel_rfl
theorem l_cmp_Or_int_k1 {C gl e h x K} : NW C gl (.loop p_cmp_Or_int_k1) ⟨e, h, x⟩ K = NLoop C gl p_cmp_Or_int_k1 K [(3, aget e 3), (6, aget e 6), (7, aget e 7), (8, aget e 8)] h x := NLoop_pr
def p_cmp_Or_int_k2 : ACode := .pr [3] (.seq (.reg [
  ⟨some 17, none, .mv (.t 3)⟩,
  ⟨some 2, none, .mv (.t 17)⟩] (some [2]))
 .ret)
def d_cmp_Or_int_k2 (C : Hd) (gl : Nat → Option PV) (v3 : AV) (h : Heap) (x : Esc) (K : Ex → St → Prop) : Prop :=
 K .ret ⟨[(2, v3)], h, x⟩
theorem e_cmp_Or_int_k2 {C gl e h x K} : NW C gl p_cmp_Or_int_k2 ⟨e, h, x⟩ K = d_cmp_Or_int_k2 C gl (aget e 3) h x K := by kernel_rfl
def P_cmp_Or_int (q1 q2 : ACode) : ACode := (.seq (.reg [
  ⟨some 2, none, .mv (.c (.p (.int .i64 0)))⟩] (some [0]))
 (.seq (.reg [
  ⟨some 3, none, .mv (.c (.p (.int .i64 0)))⟩] (some [0, 3]))
 (.seq (.seq (.reg [
  ⟨some 6, none, .mv (.t 0)⟩,
  ⟨some 7, none, .len (.t 6)⟩,
  ⟨some 8, none, .mv (.c (.p (.int .i64 0)))⟩] (some [3, 6, 7, 8]))
 (.block 0 (.loop q1)))
 q2)))
def a_cmp_Or_int : AFun := ⟨1, [.t 2], P_cmp_Or_int p_cmp_Or_int_k1 p_cmp_Or_int_k2, false, false⟩
def d_cmp_Or_int (C : Hd) (gl : Nat → Option PV) (q1 q2 : ACode) (v0 : AV) (h : Heap) (x : Esc) (K : Ex → St → Prop) : Prop :=
 pK (oLen v0) fun t1 =>
 NW C gl (.loop q1) ⟨[(3, (.p (.int .i64 0))), (6, v0), (7, t1), (8, (.p (.int .i64 0)))], h, x⟩ (blockN 0 (seqN C gl q2 K))
theorem E_cmp_Or_int {C gl q1 q2 v0 h x K} : NW C gl (P_cmp_Or_int q1 q2) ⟨enter [v0], h, x⟩ K = d_cmp_Or_int C gl q1 q2 v0 h x K := by kernel_rfl
theorem e_cmp_Or_int {C gl v0 h x K} : NW C gl a_cmp_Or_int.body ⟨enter [v0], h, x⟩ K = d_cmp_Or_int C gl p_cmp_Or_int_k1 p_cmp_Or_int_k2 v0 h x K := E_cmp_Or_int
def P_cmp_Compare_int : ACode := (.seq (.reg [
  ⟨some 4, none, .mv (.c (.p (.int .i64 0)))⟩] (some [0, 1]))
 (.seq (.reg [
  ⟨some 7, none, .mv (.t 0)⟩,
  ⟨some 8, none, .call f_cmp_isNaN_int [(.t 7)]⟩,
  ⟨some 5, none, .mv (.t 8)⟩] (some [0, 1, 5]))
 (.seq (.reg [
  ⟨some 9, none, .mv (.t 1)⟩,
  ⟨some 10, none, .call f_cmp_isNaN_int [(.t 9)]⟩,
  ⟨some 6, none, .mv (.t 10)⟩] (some [0, 1, 5, 6]))
 (.seq (.seq (.reg [
  ⟨some 11, none, .mv (.t 5)⟩] (some [0, 1, 6, 11]))
 (.cond (.t 11) (.seq (.seq (.reg [
  ⟨some 12, none, .mv (.t 6)⟩] (some [12]))
 (.cond (.t 12) (.seq (.reg [
  ⟨some 4, none, .mv (.c (.p (.int .i64 0)))⟩] (some [4]))
 .ret)
 .skip))
 (.seq (.reg [
  ⟨some 4, none, .mv (.c (.p (.int .i64 (-1))))⟩] (some [4]))
 .ret))
 .skip))
 (.seq (.seq (.reg [
  ⟨some 13, none, .mv (.t 6)⟩] (some [0, 1, 13]))
 (.cond (.t 13) (.seq (.reg [
  ⟨some 4, none, .mv (.c (.p (.int .i64 1)))⟩] (some [4]))
 .ret)
 .skip))
 (.seq (.seq (.reg [
  ⟨some 14, none, .mv (.t 0)⟩,
  ⟨some 15, none, .mv (.t 1)⟩,
  ⟨some 16, none, .bin .lss (.t 14) (.t 15)⟩] (some [0, 1, 16]))
 (.cond (.t 16) (.seq (.reg [
  ⟨some 4, none, .mv (.c (.p (.int .i64 (-1))))⟩] (some [4]))
 .ret)
 .skip))
 (.seq (.seq (.reg [
  ⟨some 17, none, .mv (.t 0)⟩,
  ⟨some 18, none, .mv (.t 1)⟩,
  ⟨some 19, none, .bin .gtr (.t 17) (.t 18)⟩] (some [19]))
 (.cond (.t 19) (.seq (.reg [
  ⟨some 4, none, .mv (.c (.p (.int .i64 1)))⟩] (some [4]))
 .ret)
 .skip))
 (.seq (.reg [
  ⟨some 4, none, .mv (.c (.p (.int .i64 0)))⟩] (some [4]))
 .ret))))))))
def a_cmp_Compare_int : AFun := ⟨2, [.t 4], P_cmp_Compare_int, false, false⟩
def d_cmp_Compare_int (C : Hd) (gl : Nat → Option PV) (v0 v1 : AV) (h : Heap) (x : Esc) (K : Ex → St → Prop) : Prop :=
 C f_cmp_isNaN_int [v0] h fun t1 h2 y3 =>
 C f_cmp_isNaN_int [v1] h2 fun t4 h5 y6 =>
 condB t1 (condB t4 (K .ret ⟨[(4, (.p (.int .i64 0)))], h5, (y6 ++ (y3 ++ x))⟩)
 (K .ret ⟨[(4, (.p (.int .i64 (-1))))], h5, (y6 ++ (y3 ++ x))⟩))
 (condB t4 (K .ret ⟨[(4, (.p (.int .i64 1)))], h5, (y6 ++ (y3 ++ x))⟩)
 (pK (oBin .lss v0 v1) fun t7 =>
 condB t7 (K .ret ⟨[(4, (.p (.int .i64 (-1))))], h5, (y6 ++ (y3 ++ x))⟩)
 (pK (oBin .gtr v0 v1) fun t8 =>
 condB t8 (K .ret ⟨[(4, (.p (.int .i64 1)))], h5, (y6 ++ (y3 ++ x))⟩)
 (K .ret ⟨[(4, (.p (.int .i64 0)))], h5, (y6 ++ (y3 ++ x))⟩))))
theorem E_cmp_Compare_int {C gl v0 v1 h x K} : NW C gl (P_cmp_Compare_int) ⟨enter [v0, v1], h, x⟩ K = d_cmp_Compare_int C gl v0 v1 h x K := by kernel_rfl
theorem e_cmp_Compare_int {C gl v0 v1 h x K} : NW C gl a_cmp_Compare_int.body ⟨enter [v0, v1], h, x⟩ K = d_cmp_Compare_int C gl v0 v1 h x K := E_cmp_Compare_int
def P_strings_Compare : ACode := (.seq (.reg [
  ⟨some 4, none, .mv (.c (.p (.int .i64 0)))⟩] (some [0, 1]))
 (.seq (.reg [
  ⟨some 5, none, .mv (.t 0)⟩,
  ⟨some 6, none, .mv (.t 1)⟩,
  ⟨some 7, none, .call f_internal_bytealg_CompareString [(.t 5), (.t 6)]⟩,
  ⟨some 4, none, .mv (.t 7)⟩] (some [4]))
 .ret))
def a_strings_Compare : AFun := ⟨2, [.t 4], P_strings_Compare, false, false⟩
def d_strings_Compare (C : Hd) (gl : Nat → Option PV) (v0 v1 : AV) (h : Heap) (x : Esc) (K : Ex → St → Prop) : Prop :=
 C f_internal_bytealg_CompareString [v0, v1] h fun t1 h2 y3 =>
 K .ret ⟨[(4, t1)], h2, (y3 ++ x)⟩
theorem E_strings_Compare {C gl v0 v1 h x K} : NW C gl (P_strings_Compare) ⟨enter [v0, v1], h, x⟩ K = d_strings_Compare C gl v0 v1 h x K := by kernel_rfl
theorem e_strings_Compare {C gl v0 v1 h x K} : NW C gl a_strings_Compare.body ⟨enter [v0, v1], h, x⟩ K = d_strings_Compare C gl v0 v1 h x K := E_strings_Compare
def p_slices_CompactFunc_api_Record_api_Record_k1 : ACode := .pr [0, 1, 5, 6, 7] (.reg [
  ⟨some 36, none, .mv (.t 7)⟩,
  ⟨some 37, none, .bin .add (.t 36) (.c (.p (.int .i64 1)))⟩,
  ⟨some 7, none, .mv (.t 37)⟩] (some [0, 1, 5, 6, 7]))
def d_slices_CompactFunc_api_Record_api_Record_k1 (C : Hd) (gl : Nat → Option PV) (v0 v1 v5 v6 v7 : AV) (h : Heap) (x : Esc) (K : Ex → St → Prop) : Prop :=
 pK (oBin .add v7 (.p (.int .i64 1))) fun t1 =>
 K .normal ⟨[(0, v0), (1, v1), (5, v5), (6, v6), (7, t1)], h, x⟩
theorem e_slices_CompactFunc_api_Record_api_Record_k1 {C gl e h x K} : NW C gl p_slices_CompactFunc_api_Record_api_Record_k1 ⟨e, h, x⟩ K = d_slices_CompactFunc_api_Record_api_Record_k1 C gl (aget e 0) (aget e 1) (aget e 5) (aget e 6) (aget e 7) h x K := by kernel_rfl
def P_slices_CompactFunc_api_Record_api_Record_k2 (q1 : ACode) : ACode := .pr [0, 1, 5, 6, 7] (.seq (.seq (.reg [
  ⟨some 32, none, .mv (.t 7)⟩,
  ⟨some 33, none, .mv (.t 6)⟩,
  ⟨some 34, none, .len (.t 33)⟩,
  ⟨some 35, none, .bin .lss (.t 32) (.t 34)⟩] (some [0, 1, 5, 6, 7, 35]))
 (.cond (.t 35) .skip
 (.exit 2)))
 (.seq (.block 3 (.seq (.draw [
   ⟨⟨some 38, none, .mv (.t 1)⟩, [1], false, [], []⟩,
   ⟨⟨some 39, none, .mv (.t 6)⟩, [6], false, [], []⟩,
   ⟨⟨some 40, none, .mv (.t 7)⟩, [7], false, [], []⟩,
   ⟨⟨some 41, none, .iaddr (some 4) (.t 39) (.t 40)⟩, [39, 40], false, [], []⟩,
   ⟨⟨some 42, none, .load (some 4) (.t 41)⟩, [41], false, [], []⟩,
   ⟨⟨some 43, none, .mv (.t 6)⟩, [6], false, [], []⟩,
   ⟨⟨some 44, none, .mv (.t 7)⟩, [7], false, [], []⟩,
   ⟨⟨some 45, none, .bin .sub (.t 44) (.c (.p (.int .i64 1)))⟩, [44], false, [], []⟩,
   ⟨⟨some 46, none, .iaddr (some 4) (.t 43) (.t 45)⟩, [43, 45], false, [], []⟩,
   ⟨⟨some 47, none, .load (some 4) (.t 46)⟩, [46], false, [], []⟩,
   ⟨⟨some 48, none, .callv (.t 38) [(.t 42), (.t 47)]⟩, [38, 42, 47], true, [], []⟩,
   ⟨⟨some 49, none, .un .not (.t 48)⟩, [48], false, [], []⟩] (some [0, 1, 5, 6, 7, 49]))
 (.cond (.t 49) (.seq (.reg [
  ⟨some 50, none, .mv (.t 0)⟩,
  ⟨some 51, none, .mv (.t 5)⟩,
  ⟨some 52, none, .mv (.t 6)⟩,
  ⟨some 53, none, .mv (.t 7)⟩,
  ⟨some 54, none, .iaddr (some 4) (.t 52) (.t 53)⟩,
  ⟨some 55, none, .load (some 4) (.t 54)⟩,
  ⟨some 56, none, .iaddr (some 4) (.t 50) (.t 51)⟩,
  ⟨none, none, .store (some 4) (.t 56) (.t 55)⟩] (some [0, 1, 5, 6, 7]))
 (.reg [
  ⟨some 57, none, .mv (.t 5)⟩,
  ⟨some 58, none, .bin .add (.t 57) (.c (.p (.int .i64 1)))⟩,
  ⟨some 5, none, .mv (.t 58)⟩] (some [0, 1, 5, 6, 7])))
 .skip)))
 q1))
def p_slices_CompactFunc_api_Record_api_Record_k2 : ACode := P_slices_CompactFunc_api_Record_api_Record_k2 p_slices_CompactFunc_api_Record_api_Record_k1
def d_slices_CompactFunc_api_Record_api_Record_k2 (C : Hd) (gl : Nat → Option PV) (q1 : ACode) (v0 v1 v5 v6 v7 : AV) (h : Heap) (x : Esc) (K : Ex → St → Prop) : Prop :=
 pK (oLen v6) fun t1 =>
 pK (oBin .lss v7 t1) fun t2 =>
 condB t2 (pK (oIaddr (some 4) v6 v7 h) fun t3 =>
 pK (oLoad (some 4) t3 h) fun t4 =>
 pK (oBin .sub v7 (.p (.int .i64 1))) fun t5 =>
 pK (oIaddr (some 4) v6 t5 h) fun t6 =>
 pK (oLoad (some 4) t6 h) fun t7 =>
 callvE C v1 [t4, t7] h fun t8 h9 y10 =>
 pK (oUn .not t8) fun t11 =>
 condB t11 (pK (oIaddr (some 4) v6 v7 h9) fun t12 =>
 pK (oLoad (some 4) t12 h9) fun t13 =>
 pK (oIaddr (some 4) v0 v5 h9) fun t14 =>
 wK (oStore (some 4) t14 t13 h9) fun t15 h16 y17 =>
 pK (oBin .add v5 (.p (.int .i64 1))) fun t18 =>
 NW C gl q1 ⟨[(0, v0), (1, v1), (5, t18), (6, v6), (7, v7)], h16, (y17 ++ (y10 ++ x))⟩ K)
 (NW C gl q1 ⟨[(0, v0), (1, v1), (5, v5), (6, v6), (7, v7), (49, t11)], h9, (y10 ++ x)⟩ K))
 (K (.exit 2) ⟨[(0, v0), (1, v1), (5, v5), (6, v6), (7, v7), (35, t2)], h, x⟩)
theorem E_slices_CompactFunc_api_Record_api_Record_k2 {C gl q1 e h x K} : NW C gl (P_slices_CompactFunc_api_Record_api_Record_k2 q1) ⟨e, h, x⟩ K = d_slices_CompactFunc_api_Record_api_Record_k2 C gl q1 (aget e 0) (aget e 1) (aget e 5) (aget e 6) (aget e 7) h x K := by kernel_rfl
theorem e_slices_CompactFunc_api_Record_api_Record_k2 {C gl e h x K} : NW C gl p_slices_CompactFunc_api_Record_api_Record_k2 ⟨e, h, x⟩ K = d_slices_CompactFunc_api_Record_api_Record_k2 C gl p_slices_CompactFunc_api_Record_api_Record_k1 (aget e 0) (aget e 1) (aget e 5) (aget e 6) (aget e 7) h x K := E_slices_CompactFunc_api_Record_api_Record_k2
theorem l_slices_CompactFunc_api_Record_api_Record_k2 {C gl e h x K} : NW C gl (.loop p_slices_CompactFunc_api_Record_api_Record_k2) ⟨e, h, x⟩ K = NLoop C gl p_slices_CompactFunc_api_Record_api_Record_k2 K [(0, aget e 0), (1, aget e 1), (5, aget e 5), (6, aget e 6), (7, aget e 7)] h x := NLoop_pr
def p_slices_CompactFunc_api_Record_api_Record_k3 : ACode := .pr [0, 5] (.seq (.reg [
  ⟨some 59, none, .mv (.t 0)⟩,
  ⟨some 60, none, .mv (.t 5)⟩,
  ⟨some 61, none, .slice (some 4) (.t 59) (some (.t 60)) none none⟩,
  ⟨none, none, .clr (some 4) (.agg [.str [], .int .i64 0, .str [], .sl none []]) (.t 61)⟩] (some [0, 5]))
 (.seq (.reg [
  ⟨some 62, none, .mv (.t 0)⟩,
  ⟨some 63, none, .mv (.t 5)⟩,
  ⟨some 64, none, .slice (some 4) (.t 62) none (some (.t 63)) none⟩,
  ⟨some 4, none, .mv (.t 64)⟩] (some [4]))
 .ret))
def d_slices_CompactFunc_api_Record_api_Record_k3 (C : Hd) (gl : Nat → Option PV) (v0 v5 : AV) (h : Heap) (x : Esc) (K : Ex → St → Prop) : Prop :=
 pK (oSlice (some 4) v0 (some v5) none none h) fun t1 =>
 wK (oClr (some 4) (.agg [.str [], .int .i64 0, .str [], .sl none []]) t1 h) fun t2 h3 y4 =>
 pK (oSlice (some 4) v0 none (some v5) none h3) fun t5 =>
 K .ret ⟨[(4, t5)], h3, (y4 ++ x)⟩
theorem e_slices_CompactFunc_api_Record_api_Record_k3 {C gl e h x K} : NW C gl p_slices_CompactFunc_api_Record_api_Record_k3 ⟨e, h, x⟩ K = d_slices_CompactFunc_api_Record_api_Record_k3 C gl (aget e 0) (aget e 5) h x K := by kernel_rfl
def p_slices_CompactFunc_api_Record_api_Record_k4 : ACode := .pr [0, 1, 5] (.reg [
  ⟨some 16, none, .mv (.t 5)⟩,
  ⟨some 17, none, .bin .add (.t 16) (.c (.p (.int .i64 1)))⟩,
  ⟨some 5, none, .mv (.t 17)⟩] (some [0, 1, 5]))
def d_slices_CompactFunc_api_Record_api_Record_k4 (C : Hd) (gl : Nat → Option PV) (v0 v1 v5 : AV) (h : Heap) (x : Esc) (K : Ex → St → Prop) : Prop :=
 pK (oBin .add v5 (.p (.int .i64 1))) fun t1 =>
 K .normal ⟨[(0, v0), (1, v1), (5, t1)], h, x⟩
theorem e_slices_CompactFunc_api_Record_api_Record_k4 {C gl e h x K} : NW C gl p_slices_CompactFunc_api_Record_api_Record_k4 ⟨e, h, x⟩ K = d_slices_CompactFunc_api_Record_api_Record_k4 C gl (aget e 0) (aget e 1) (aget e 5) h x K := by kernel_rfl
def P_slices_CompactFunc_api_Record_api_Record_k5 (q2 q3 q4 : ACode) : ACode := .pr [0, 1, 5] (.seq (.seq (.reg [
  ⟨some 12, none, .mv (.t 5)⟩,
  ⟨some 13, none, .mv (.t 0)⟩,
  ⟨some 14, none, .len (.t 13)⟩,
  ⟨some 15, none, .bin .lss (.t 12) (.t 14)⟩] (some [0, 1, 5, 15]))
 (.cond (.t 15) .skip
 (.exit 0)))
 (.seq (.block 1 (.seq (.draw [
   ⟨⟨some 18, none, .mv (.t 1)⟩, [1], false, [], []⟩,
   ⟨⟨some 19, none, .mv (.t 0)⟩, [0], false, [], []⟩,
   ⟨⟨some 20, none, .mv (.t 5)⟩, [5], false, [], []⟩,
   ⟨⟨some 21, none, .iaddr (some 4) (.t 19) (.t 20)⟩, [19, 20], false, [], []⟩,
   ⟨⟨some 22, none, .load (some 4) (.t 21)⟩, [21], false, [], []⟩,
   ⟨⟨some 23, none, .mv (.t 0)⟩, [0], false, [], []⟩,
   ⟨⟨some 24, none, .mv (.t 5)⟩, [5], false, [], []⟩,
   ⟨⟨some 25, none, .bin .sub (.t 24) (.c (.p (.int .i64 1)))⟩, [24], false, [], []⟩,
   ⟨⟨some 26, none, .iaddr (some 4) (.t 23) (.t 25)⟩, [23, 25], false, [], []⟩,
   ⟨⟨some 27, none, .load (some 4) (.t 26)⟩, [26], false, [], []⟩,
   ⟨⟨some 28, none, .callv (.t 18) [(.t 22), (.t 27)]⟩, [18, 22, 27], true, [], []⟩] (some [0, 1, 5, 28]))
 (.cond (.t 28) (.seq (.reg [
  ⟨some 29, none, .mv (.t 0)⟩,
  ⟨some 30, none, .mv (.t 5)⟩,
  ⟨some 31, none, .slice (some 4) (.t 29) (some (.t 30)) none none⟩,
  ⟨some 6, none, .mv (.t 31)⟩] (some [0, 1, 5, 6]))
 (.seq (.seq (.reg [
  ⟨some 7, none, .mv (.c (.p (.int .i64 1)))⟩] (some [0, 1, 5, 6, 7]))
 (.block 2 (.loop q2)))
 q3))
 .skip)))
 q4))
def p_slices_CompactFunc_api_Record_api_Record_k5 : ACode := P_slices_CompactFunc_api_Record_api_Record_k5 p_slices_CompactFunc_api_Record_api_Record_k2 p_slices_CompactFunc_api_Record_api_Record_k3 p_slices_CompactFunc_api_Record_api_Record_k4
def d_slices_CompactFunc_api_Record_api_Record_k5 (C : Hd) (gl : Nat → Option PV) (q2 q3 q4 : ACode) (v0 v1 v5 : AV) (h : Heap) (x : Esc) (K : Ex → St → Prop) : Prop :=
 pK (oLen v0) fun t1 =>
 pK (oBin .lss v5 t1) fun t2 =>
 condB t2 (pK (oIaddr (some 4) v0 v5 h) fun t3 =>
 pK (oLoad (some 4) t3 h) fun t4 =>
 pK (oBin .sub v5 (.p (.int .i64 1))) fun t5 =>
 pK (oIaddr (some 4) v0 t5 h) fun t6 =>
 pK (oLoad (some 4) t6 h) fun t7 =>
 callvE C v1 [t4, t7] h fun t8 h9 y10 =>
 condB t8 (pK (oSlice (some 4) v0 (some v5) none none h9) fun t11 =>
 NW C gl (.loop q2) ⟨[(0, v0), (1, v1), (5, v5), (6, t11), (7, (.p (.int .i64 1)))], h9, (y10 ++ x)⟩ (blockN 2 (seqN C gl q3 (blockN 1 (seqN C gl q4 K)))))
 (NW C gl q4 ⟨[(0, v0), (1, v1), (5, v5), (28, t8)], h9, (y10 ++ x)⟩ K))
 (K (.exit 0) ⟨[(0, v0), (1, v1), (5, v5), (15, t2)], h, x⟩)
theorem E_slices_CompactFunc_api_Record_api_Record_k5 {C gl q2 q3 q4 e h x K} : NW C gl (P_slices_CompactFunc_api_Record_api_Record_k5 q2 q3 q4) ⟨e, h, x⟩ K = d_slices_CompactFunc_api_Record_api_Record_k5 C gl q2 q3 q4 (aget e 0) (aget e 1) (aget e 5) h x K := by kernel_rfl
theorem e_slices_CompactFunc_api_Record_api_Record_k5 {C gl e h x K} : NW C gl p_slices_CompactFunc_api_Record_api_Record_k5 ⟨e, h, x⟩ K = d_slices_CompactFunc_api_Record_api_Record_k5 C gl p_slices_CompactFunc_api_Record_api_Record_k2 p_slices_CompactFunc_api_Record_api_Record_k3 p_slices_CompactFunc_api_Record_api_Record_k4 (aget e 0) (aget e 1) (aget e 5) h x K := E_slices_CompactFunc_api_Record_api_Record_k5
theorem l_slices_CompactFunc_api_Record_api_Record_k5 {C gl e h x K} : NW C gl (.loop p_slices_CompactFunc_api_Record_api_Record_k5) ⟨e, h, x⟩ K = NLoop C gl p_slices_CompactFunc_api_Record_api_Record_k5 K [(0, aget e 0), (1, aget e 1), (5, aget e 5)] h x := NLoop_pr
def p_slices_CompactFunc_api_Record_api_Record_k6 : ACode := .pr [0] (.seq (.reg [
  ⟨some 65, none, .mv (.t 0)⟩,
  ⟨some 4, none, .mv (.t 65)⟩] (some [4]))
 .ret)
def d_slices_CompactFunc_api_Record_api_Record_k6 (C : Hd) (gl : Nat → Option PV) (v0 : AV) (h : Heap) (x : Esc) (K : Ex → St → Prop) : Prop :=
 K .ret ⟨[(4, v0)], h, x⟩
theorem e_slices_CompactFunc_api_Record_api_Record_k6 {C gl e h x K} : NW C gl p_slices_CompactFunc_api_Record_api_Record_k6 ⟨e, h, x⟩ K = d_slices_CompactFunc_api_Record_api_Record_k6 C gl (aget e 0) h x K := by kernel_rfl
def P_slices_CompactFunc_api_Record_api_Record (q5 q6 : ACode) : ACode := (.seq (.reg [
  ⟨some 4, none, .mv (.c (.p (.sl (some 4) [])))⟩] (some [0, 1]))
 (.seq (.seq (.reg [
  ⟨some 8, none, .mv (.t 0)⟩,
  ⟨some 9, none, .len (.t 8)⟩,
  ⟨some 10, none, .bin .lss (.t 9) (.c (.p (.int .i64 2)))⟩] (some [0, 1, 10]))
 (.cond (.t 10) (.seq (.reg [
  ⟨some 11, none, .mv (.t 0)⟩,
  ⟨some 4, none, .mv (.t 11)⟩] (some [4]))
 .ret)
 .skip))
 (.seq (.seq (.reg [
  ⟨some 5, none, .mv (.c (.p (.int .i64 1)))⟩] (some [0, 1, 5]))
 (.block 0 (.loop q5)))
 q6)))
def a_slices_CompactFunc_api_Record_api_Record : AFun := ⟨2, [.t 4], P_slices_CompactFunc_api_Record_api_Record p_slices_CompactFunc_api_Record_api_Record_k5 p_slices_CompactFunc_api_Record_api_Record_k6, true, false⟩
def d_slices_CompactFunc_api_Record_api_Record (C : Hd) (gl : Nat → Option PV) (q5 q6 : ACode) (v0 v1 : AV) (h : Heap) (x : Esc) (K : Ex → St → Prop) : Prop :=
 pK (oLen v0) fun t1 =>
 pK (oBin .lss t1 (.p (.int .i64 2))) fun t2 =>
 condB t2 (K .ret ⟨[(4, v0)], h, x⟩)
 (NW C gl (.loop q5) ⟨[(0, v0), (1, v1), (5, (.p (.int .i64 1)))], h, x⟩ (blockN 0 (seqN C gl q6 K)))
theorem E_slices_CompactFunc_api_Record_api_Record {C gl q5 q6 v0 v1 h x K} : NW C gl (P_slices_CompactFunc_api_Record_api_Record q5 q6) ⟨enter [v0, v1], h, x⟩ K = d_slices_CompactFunc_api_Record_api_Record C gl q5 q6 v0 v1 h x K := by kernel_rfl
theorem e_slices_CompactFunc_api_Record_api_Record {C gl v0 v1 h x K} : NW C gl a_slices_CompactFunc_api_Record_api_Record.body ⟨enter [v0, v1], h, x⟩ K = d_slices_CompactFunc_api_Record_api_Record C gl p_slices_CompactFunc_api_Record_api_Record_k5 p_slices_CompactFunc_api_Record_api_Record_k6 v0 v1 h x K := E_slices_CompactFunc_api_Record_api_Record
def P_scanmake_Stream_Records_2 : ACode := (.seq (.reg [
  ⟨some 2, none, .box (.t 0)⟩,
  ⟨some 3, none, .box (.t 1)⟩,
  ⟨some 4, none, .mv (.c (.p (.bool false)))⟩] (some [2, 3]))
 (.seq (.reg [
  ⟨some 5, none, .faddr 1 none (.t 2)⟩,
  ⟨some 6, none, .load none (.t 5)⟩,
  ⟨some 7, none, .faddr 1 none (.t 3)⟩,
  ⟨some 8, none, .load none (.t 7)⟩,
  ⟨some 9, none, .bin .eql (.t 6) (.t 8)⟩,
  ⟨some 10, none, .mv (.t 9)⟩,
  ⟨some 11, (some (10, true)), .faddr 0 none (.t 2)⟩,
  ⟨some 12, (some (10, true)), .load none (.t 11)⟩,
  ⟨some 13, (some (10, true)), .faddr 0 none (.t 3)⟩,
  ⟨some 14, (some (10, true)), .load none (.t 13)⟩,
  ⟨some 15, (some (10, true)), .bin .eql (.t 12) (.t 14)⟩,
  ⟨some 16, none, .pick (.t 10) (.t 15) (.c (.p (.bool false)))⟩,
  ⟨some 4, none, .mv (.t 16)⟩] (some [4]))
 .ret))
def a_scanmake_Stream_Records_2 : AFun := ⟨2, [.t 4], P_scanmake_Stream_Records_2, false, false⟩
def d_scanmake_Stream_Records_2 (C : Hd) (gl : Nat → Option PV) (v0 v1 : AV) (h : Heap) (x : Esc) (K : Ex → St → Prop) : Prop :=
 wK (oBox v0 h) fun t1 h2 y3 =>
 wK (oBox v1 h2) fun t4 h5 y6 =>
 pK (oFaddr 1 none t1) fun t7 =>
 pK (oLoad none t7 h5) fun t8 =>
 pK (oFaddr 1 none t4) fun t9 =>
 pK (oLoad none t9 h5) fun t10 =>
 pK (oBin .eql t8 t10) fun t11 =>
 gP t11 true (oFaddr 0 none t1) h5 fun t12 h13 y14 =>
 gP t11 true (oLoad none t12 h13) h13 fun t15 h16 y17 =>
 gP t11 true (oFaddr 0 none t4) h16 fun t18 h19 y20 =>
 gP t11 true (oLoad none t18 h19) h19 fun t21 h22 y23 =>
 gP t11 true (oBin .eql t15 t21) h22 fun t24 h25 y26 =>
 pK (oPick t11 t24 (.p (.bool false))) fun t27 =>
 K .ret ⟨[(4, t27)], h25, (y26 ++ (y23 ++ (y20 ++ (y17 ++ (y14 ++ (y6 ++ (y3 ++ x)))))))⟩
theorem E_scanmake_Stream_Records_2 {C gl v0 v1 h x K} : NW C gl (P_scanmake_Stream_Records_2) ⟨enter [v0, v1], h, x⟩ K = d_scanmake_Stream_Records_2 C gl v0 v1 h x K := by kernel_rfl
theorem e_scanmake_Stream_Records_2 {C gl v0 v1 h x K} : NW C gl a_scanmake_Stream_Records_2.body ⟨enter [v0, v1], h, x⟩ K = d_scanmake_Stream_Records_2 C gl v0 v1 h x K := E_scanmake_Stream_Records_2
def p_scanmake_Below_k1 : ACode := .pr [0] (.seq (.reg [
  ⟨some 15, none, .mv (.t 0)⟩,
  ⟨some 4, none, .mv (.t 15)⟩] (some [4]))
 .ret)
def d_scanmake_Below_k1 (C : Hd) (gl : Nat → Option PV) (v0 : AV) (h : Heap) (x : Esc) (K : Ex → St → Prop) : Prop :=
 K .ret ⟨[(4, v0)], h, x⟩
theorem e_scanmake_Below_k1 {C gl e h x K} : NW C gl p_scanmake_Below_k1 ⟨e, h, x⟩ K = d_scanmake_Below_k1 C gl (aget e 0) h x K := by kernel_rfl
def P_scanmake_Below (q1 : ACode) : ACode := (.seq (.reg [
  ⟨some 4, none, .mv (.c (.p (.int .i64 0)))⟩] (some [0, 1]))
 (.seq (.seq (.reg [
  ⟨some 5, none, .mv (.t 1)⟩,
  ⟨some 6, none, .bin .lss (.t 5) (.c (.p (.int .i64 1)))⟩] (some [0, 1, 6]))
 (.cond (.t 6) (.seq (.reg [
  ⟨some 4, none, .mv (.c (.p (.int .i64 0)))⟩] (some [4]))
 .ret)
 .skip))
 (.seq (.reg [
  ⟨some 7, none, .mv (.t 0)⟩,
  ⟨some 8, none, .mv (.t 1)⟩,
  ⟨some 9, none, .bin .rem (.t 7) (.t 8)⟩,
  ⟨some 0, none, .mv (.t 9)⟩] (some [0, 1]))
 (.seq (.seq (.reg [
  ⟨some 10, none, .mv (.t 0)⟩,
  ⟨some 11, none, .bin .lss (.t 10) (.c (.p (.int .i64 0)))⟩] (some [0, 1, 11]))
 (.cond (.t 11) (.reg [
  ⟨some 12, none, .mv (.t 0)⟩,
  ⟨some 13, none, .mv (.t 1)⟩,
  ⟨some 14, none, .bin .add (.t 12) (.t 13)⟩,
  ⟨some 0, none, .mv (.t 14)⟩] (some [0]))
 .skip))
 q1))))
def a_scanmake_Below : AFun := ⟨2, [.t 4], P_scanmake_Below p_scanmake_Below_k1, false, false⟩
def d_scanmake_Below (C : Hd) (gl : Nat → Option PV) (q1 : ACode) (v0 v1 : AV) (h : Heap) (x : Esc) (K : Ex → St → Prop) : Prop :=
 pK (oBin .lss v1 (.p (.int .i64 1))) fun t1 =>
 condB t1 (K .ret ⟨[(4, (.p (.int .i64 0)))], h, x⟩)
 (pK (oBin .rem v0 v1) fun t2 =>
 pK (oBin .lss t2 (.p (.int .i64 0))) fun t3 =>
 condB t3 (pK (oBin .add t2 v1) fun t4 =>
 NW C gl q1 ⟨[(0, t4)], h, x⟩ K)
 (NW C gl q1 ⟨[(0, t2), (1, v1), (11, t3)], h, x⟩ K))
theorem E_scanmake_Below {C gl q1 v0 v1 h x K} : NW C gl (P_scanmake_Below q1) ⟨enter [v0, v1], h, x⟩ K = d_scanmake_Below C gl q1 v0 v1 h x K := by kernel_rfl
theorem e_scanmake_Below {C gl v0 v1 h x K} : NW C gl a_scanmake_Below.body ⟨enter [v0, v1], h, x⟩ K = d_scanmake_Below C gl p_scanmake_Below_k1 v0 v1 h x K := E_scanmake_Below
def p_base_First_k1 : ACode := .pr [5, 6, 7] (.seq (.reg [
  ⟨some 8, none, .bin .lss (.t 7) (.t 6)⟩] (some [5, 6, 7, 8]))
 (.seq (.cond (.t 8) .skip
 (.exit 0))
 (.seq (.block 1 (.seq (.reg [
  ⟨some 9, none, .iaddr none (.t 5) (.t 7)⟩,
  ⟨some 10, none, .load none (.t 9)⟩,
  ⟨some 4, none, .mv (.t 10)⟩] (some [4, 5, 6, 7]))
 (.seq (.reg [
  ⟨some 11, none, .mv (.t 4)⟩,
  ⟨some 12, none, .bin .neq (.t 11) (.c (.p (.int .i64 0)))⟩] (some [4, 5, 6, 7, 12]))
 (.cond (.t 12) (.seq (.reg [
  ⟨some 13, none, .mv (.t 4)⟩,
  ⟨some 2, none, .mv (.t 13)⟩] (some [2]))
 .ret)
 .skip))))
 (.reg [
  ⟨some 14, none, .bin .add (.t 7) (.c (.p (.int .i64 1)))⟩,
  ⟨some 7, none, .mv (.t 14)⟩] (some [5, 6, 7])))))
def d_base_First_k1 (C : Hd) (gl : Nat → Option PV) (v5 v6 v7 : AV) (h : Heap) (x : Esc) (K : Ex → St → Prop) : Prop :=
 pK (oBin .lss v7 v6) fun t1 =>
 condB t1 (pK (oIaddr none v5 v7 h) fun t2 =>
 pK (oLoad none t2 h) fun t3 =>
 pK (oBin .neq t3 (.p (.int .i64 0))) fun t4 =>
 condB t4 (K .ret ⟨[(2, t3)], h, x⟩)
 (pK (oBin .add v7 (.p (.int .i64 1))) fun t5 =>
 K .normal ⟨[(5, v5), (6, v6), (7, t5)], h, x⟩))
 (K (.exit 0) ⟨[(5, v5), (6, v6), (7, v7), (8, t1)], h, x⟩)
theorem e_base_First_k1 {C gl e h x K} : NW C gl p_base_First_k1 ⟨e, h, x⟩ K = d_base_First_k1 C gl (aget e 5) (aget e 6) (aget e 7) h x K := by kernel_rfl
theorem l_base_First_k1 {C gl e h x K} : NW C gl (.loop p_base_First_k1) ⟨e, h, x⟩ K = NLoop C gl p_base_First_k1 K [(5, aget e 5), (6, aget e 6), (7, aget e 7)] h x := NLoop_pr
def p_base_First_k2 : ACode := .pr [] (.seq (.reg [
  ⟨some 2, none, .mv (.c (.p (.int .i64 0)))⟩] (some [2]))
 .ret)
def d_base_First_k2 (C : Hd) (gl : Nat → Option PV) (h : Heap) (x : Esc) (K : Ex → St → Prop) : Prop :=
 K .ret ⟨[(2, (.p (.int .i64 0)))], h, x⟩
theorem e_base_First_k2 {C gl e h x K} : NW C gl p_base_First_k2 ⟨e, h, x⟩ K = d_base_First_k2 C gl h x K := by kernel_rfl
def P_base_First (q1 q2 : ACode) : ACode := (.seq (.reg [
  ⟨some 2, none, .mv (.c (.p (.int .i64 0)))⟩] (some [0]))
 (.seq (.seq (.reg [
  ⟨some 5, none, .mv (.t 0)⟩,
  ⟨some 6, none, .len (.t 5)⟩,
  ⟨some 7, none, .mv (.c (.p (.int .i64 0)))⟩] (some [5, 6, 7]))
 (.block 0 (.loop q1)))
 q2))
def a_base_First : AFun := ⟨1, [.t 2], P_base_First p_base_First_k1 p_base_First_k2, false, false⟩
def d_base_First (C : Hd) (gl : Nat → Option PV) (q1 q2 : ACode) (v0 : AV) (h : Heap) (x : Esc) (K : Ex → St → Prop) : Prop :=
 pK (oLen v0) fun t1 =>
 NW C gl (.loop q1) ⟨[(5, v0), (6, t1), (7, (.p (.int .i64 0)))], h, x⟩ (blockN 0 (seqN C gl q2 K))
theorem E_base_First {C gl q1 q2 v0 h x K} : NW C gl (P_base_First q1 q2) ⟨enter [v0], h, x⟩ K = d_base_First C gl q1 q2 v0 h x K := by kernel_rfl
theorem e_base_First {C gl v0 h x K} : NW C gl a_base_First.body ⟨enter [v0], h, x⟩ K = d_base_First C gl p_base_First_k1 p_base_First_k2 v0 h x K := E_base_First
def p_slices_Concat_api_Record_api_Record_k1 : ACode := .pr [0, 3, 9, 10, 11] (.seq (.reg [
  ⟨some 12, none, .bin .lss (.t 11) (.t 10)⟩] (some [0, 3, 9, 10, 11, 12]))
 (.seq (.cond (.t 12) .skip
 (.exit 0))
 (.seq (.block 1 (.seq (.reg [
  ⟨some 13, none, .iaddr none (.t 9) (.t 11)⟩,
  ⟨some 14, none, .load none (.t 13)⟩,
  ⟨some 5, none, .mv (.t 14)⟩] (some [0, 3, 5, 9, 10, 11]))
 (.seq (.reg [
  ⟨some 15, none, .mv (.t 3)⟩,
  ⟨some 16, none, .mv (.t 5)⟩,
  ⟨some 17, none, .len (.t 16)⟩,
  ⟨some 18, none, .bin .add (.t 15) (.t 17)⟩,
  ⟨some 3, none, .mv (.t 18)⟩] (some [0, 3, 9, 10, 11]))
 (.seq (.reg [
  ⟨some 19, none, .mv (.t 3)⟩,
  ⟨some 20, none, .bin .lss (.t 19) (.c (.p (.int .i64 0)))⟩] (some [0, 3, 9, 10, 11, 20]))
 (.cond (.t 20) .bad
 .skip)))))
 (.reg [
  ⟨some 22, none, .bin .add (.t 11) (.c (.p (.int .i64 1)))⟩,
  ⟨some 11, none, .mv (.t 22)⟩] (some [0, 3, 9, 10, 11])))))
def d_slices_Concat_api_Record_api_Record_k1 (C : Hd) (gl : Nat → Option PV) (v0 v3 v9 v10 v11 : AV) (h : Heap) (x : Esc) (K : Ex → St → Prop) : Prop :=
 pK (oBin .lss v11 v10) fun t1 =>
 condB t1 (pK (oIaddr none v9 v11 h) fun t2 =>
 pK (oLoad none t2 h) fun t3 =>
 pK (oLen t3) fun t4 =>
 pK (oBin .add v3 t4) fun t5 =>
 pK (oBin .lss t5 (.p (.int .i64 0))) fun t6 =>
 condB t6 (False)
 (pK (oBin .add v11 (.p (.int .i64 1))) fun t7 =>
 K .normal ⟨[(0, v0), (3, t5), (9, v9), (10, v10), (11, t7)], h, x⟩))
 (K (.exit 0) ⟨[(0, v0), (3, v3), (9, v9), (10, v10), (11, v11), (12, t1)], h, x⟩)
theorem e_slices_Concat_api_Record_api_Record_k1 {C gl e h x K} : NW C gl p_slices_Concat_api_Record_api_Record_k1 ⟨e, h, x⟩ K = d_slices_Concat_api_Record_api_Record_k1 C gl (aget e 0) (aget e 3) (aget e 9) (aget e 10) (aget e 11) h x K := by kernel_rfl
theorem l_slices_Concat_api_Record_api_Record_k1 {C gl e h x K} : NW C gl (.loop p_slices_Concat_api_Record_api_Record_k1) ⟨e, h, x⟩ K = NLoop C gl p_slices_Concat_api_Record_api_Record_k1 K [(0, aget e 0), (3, aget e 3), (9, aget e 9), (10, aget e 10), (11, aget e 11)] h x := NLoop_pr
def p_slices_Concat_api_Record_api_Record_k2 : ACode := .pr [6, 25, 26, 27] (.seq (.reg [
  ⟨some 28, none, .bin .lss (.t 27) (.t 26)⟩] (some [6, 25, 26, 27, 28]))
 (.seq (.cond (.t 28) .skip
 (.exit 2))
 (.seq (.block 3 (.seq (.reg [
  ⟨some 29, none, .iaddr none (.t 25) (.t 27)⟩,
  ⟨some 30, none, .load none (.t 29)⟩,
  ⟨some 8, none, .mv (.t 30)⟩] (some [6, 8, 25, 26, 27]))
 (.reg [
  ⟨some 31, none, .mv (.t 6)⟩,
  ⟨some 32, none, .mv (.t 8)⟩,
  ⟨some 33, none, .app (some 4) (.t 31) (.t 32)⟩,
  ⟨some 6, none, .mv (.t 33)⟩] (some [6, 25, 26, 27]))))
 (.reg [
  ⟨some 34, none, .bin .add (.t 27) (.c (.p (.int .i64 1)))⟩,
  ⟨some 27, none, .mv (.t 34)⟩] (some [6, 25, 26, 27])))))
def d_slices_Concat_api_Record_api_Record_k2 (C : Hd) (gl : Nat → Option PV) (v6 v25 v26 v27 : AV) (h : Heap) (x : Esc) (K : Ex → St → Prop) : Prop :=
 pK (oBin .lss v27 v26) fun t1 =>
 condB t1 (pK (oIaddr none v25 v27 h) fun t2 =>
 pK (oLoad none t2 h) fun t3 =>
 wK (oApp (some 4) v6 t3 h) fun t4 h5 y6 =>
 pK (oBin .add v27 (.p (.int .i64 1))) fun t7 =>
 K .normal ⟨[(6, t4), (25, v25), (26, v26), (27, t7)], h5, (y6 ++ x)⟩)
 (K (.exit 2) ⟨[(6, v6), (25, v25), (26, v26), (27, v27), (28, t1)], h, x⟩)
theorem e_slices_Concat_api_Record_api_Record_k2 {C gl e h x K} : NW C gl p_slices_Concat_api_Record_api_Record_k2 ⟨e, h, x⟩ K = d_slices_Concat_api_Record_api_Record_k2 C gl (aget e 6) (aget e 25) (aget e 26) (aget e 27) h x K := by kernel_rfl
theorem l_slices_Concat_api_Record_api_Record_k2 {C gl e h x K} : NW C gl (.loop (.scope p_slices_Concat_api_Record_api_Record_k2)) ⟨e, h, x⟩ K = NLoop C gl (.scope p_slices_Concat_api_Record_api_Record_k2) K [(6, aget e 6), (25, aget e 25), (26, aget e 26), (27, aget e 27)] h x := NLoop_sc
def p_slices_Concat_api_Record_api_Record_k3 : ACode := .pr [6] (.seq (.reg [
  ⟨some 35, none, .mv (.t 6)⟩,
  ⟨some 2, none, .mv (.t 35)⟩] (some [2]))
 .ret)
def d_slices_Concat_api_Record_api_Record_k3 (C : Hd) (gl : Nat → Option PV) (v6 : AV) (h : Heap) (x : Esc) (K : Ex → St → Prop) : Prop :=
 K .ret ⟨[(2, v6)], h, x⟩
theorem e_slices_Concat_api_Record_api_Record_k3 {C gl e h x K} : NW C gl p_slices_Concat_api_Record_api_Record_k3 ⟨e, h, x⟩ K = d_slices_Concat_api_Record_api_Record_k3 C gl (aget e 6) h x K := by kernel_rfl
def P_slices_Concat_api_Record_api_Record_k4 (q2 q3 : ACode) : ACode := .pr [0, 3] (.seq (.reg [
  ⟨some 23, none, .mv (.t 3)⟩,
  ⟨some 24, none, .call f_slices_Grow_api_Record_api_Record [(.c (.sl0 (some 4))), (.t 23)]⟩,
  ⟨some 6, none, .mv (.t 24)⟩] (some [0, 6]))
 (.seq (.seq (.reg [
  ⟨some 25, none, .mv (.t 0)⟩,
  ⟨some 26, none, .len (.t 25)⟩,
  ⟨some 27, none, .mv (.c (.p (.int .i64 0)))⟩] (some [6, 25, 26, 27]))
 (.block 2 (.loop (.scope q2))))
 q3))
def p_slices_Concat_api_Record_api_Record_k4 : ACode := P_slices_Concat_api_Record_api_Record_k4 p_slices_Concat_api_Record_api_Record_k2 p_slices_Concat_api_Record_api_Record_k3
def d_slices_Concat_api_Record_api_Record_k4 (C : Hd) (gl : Nat → Option PV) (q2 q3 : ACode) (v0 v3 : AV) (h : Heap) (x : Esc) (K : Ex → St → Prop) : Prop :=
 C f_slices_Grow_api_Record_api_Record [(.sl0 (some 4)), v3] h fun t1 h2 y3 =>
 pK (oLen v0) fun t4 =>
 NW C gl (.loop (.scope q2)) ⟨[(6, t1), (25, v0), (26, t4), (27, (.p (.int .i64 0)))], h2, (y3 ++ x)⟩ (blockN 2 (seqN C gl q3 K))
theorem E_slices_Concat_api_Record_api_Record_k4 {C gl q2 q3 e h x K} : NW C gl (P_slices_Concat_api_Record_api_Record_k4 q2 q3) ⟨e, h, x⟩ K = d_slices_Concat_api_Record_api_Record_k4 C gl q2 q3 (aget e 0) (aget e 3) h x K := by kernel_rfl
theorem e_slices_Concat_api_Record_api_Record_k4 {C gl e h x K} : NW C gl p_slices_Concat_api_Record_api_Record_k4 ⟨e, h, x⟩ K = d_slices_Concat_api_Record_api_Record_k4 C gl p_slices_Concat_api_Record_api_Record_k2 p_slices_Concat_api_Record_api_Record_k3 (aget e 0) (aget e 3) h x K := E_slices_Concat_api_Record_api_Record_k4
def P_slices_Concat_api_Record_api_Record (q1 q4 : ACode) : ACode := (.seq (.reg [
  ⟨some 2, none, .mv (.c (.p (.sl (some 4) [])))⟩] (some [0]))
 (.seq (.reg [
  ⟨some 3, none, .mv (.c (.p (.int .i64 0)))⟩] (some [0, 3]))
 (.seq (.seq (.reg [
  ⟨some 9, none, .mv (.t 0)⟩,
  ⟨some 10, none, .len (.t 9)⟩,
  ⟨some 11, none, .mv (.c (.p (.int .i64 0)))⟩] (some [0, 3, 9, 10, 11]))
 (.block 0 (.loop q1)))
 q4)))
def a_slices_Concat_api_Record_api_Record : AFun := ⟨1, [.t 2], P_slices_Concat_api_Record_api_Record p_slices_Concat_api_Record_api_Record_k1 p_slices_Concat_api_Record_api_Record_k4, false, true⟩
def d_slices_Concat_api_Record_api_Record (C : Hd) (gl : Nat → Option PV) (q1 q4 : ACode) (v0 : AV) (h : Heap) (x : Esc) (K : Ex → St → Prop) : Prop :=
 pK (oLen v0) fun t1 =>
 NW C gl (.loop q1) ⟨[(0, v0), (3, (.p (.int .i64 0))), (9, v0), (10, t1), (11, (.p (.int .i64 0)))], h, x⟩ (blockN 0 (seqN C gl q4 K))
theorem E_slices_Concat_api_Record_api_Record {C gl q1 q4 v0 h x K} : NW C gl (P_slices_Concat_api_Record_api_Record q1 q4) ⟨enter [v0], h, x⟩ K = d_slices_Concat_api_Record_api_Record C gl q1 q4 v0 h x K := by kernel_rfl
theorem e_slices_Concat_api_Record_api_Record {C gl v0 h x K} : NW C gl a_slices_Concat_api_Record_api_Record.body ⟨enter [v0], h, x⟩ K = d_slices_Concat_api_Record_api_Record C gl p_slices_Concat_api_Record_api_Record_k1 p_slices_Concat_api_Record_api_Record_k4 v0 h x K := E_slices_Concat_api_Record_api_Record
def P_lot_byTime : ACode := (.seq (.reg [
  ⟨some 2, none, .box (.t 0)⟩,
  ⟨some 3, none, .box (.t 1)⟩,
  ⟨some 4, none, .mv (.c (.p (.int .i64 0)))⟩] (some [2, 3]))
 (.seq (.draw [
   ⟨⟨some 5, none, .faddr 1 none (.t 2)⟩, [2], false, [], []⟩,
   ⟨⟨some 6, none, .load none (.t 5)⟩, [5], false, [], []⟩,
   ⟨⟨some 7, none, .faddr 1 none (.t 3)⟩, [3], false, [], []⟩,
   ⟨⟨some 8, none, .load none (.t 7)⟩, [7], false, [], []⟩,
   ⟨⟨some 9, none, .call f_cmp_Compare_int [(.t 6), (.t 8)]⟩, [6, 8], true, [], []⟩,
   ⟨⟨some 10, none, .faddr 0 none (.t 2)⟩, [2], false, [], []⟩,
   ⟨⟨some 11, none, .load none (.t 10)⟩, [10], false, [4], []⟩,
   ⟨⟨some 12, none, .faddr 0 none (.t 3)⟩, [3], false, [], []⟩,
   ⟨⟨some 13, none, .load none (.t 12)⟩, [12], false, [4], []⟩,
   ⟨⟨some 14, none, .call f_strings_Compare [(.t 11), (.t 13)]⟩, [11, 13], true, [], []⟩,
   ⟨⟨some 15, none, .bsl false none 2 (.int .i64 0) [(0, (.t 9)), (1, (.t 14))]⟩, [9, 14], false, [], []⟩,
   ⟨⟨some 16, none, .call f_cmp_Or_int [(.t 15)]⟩, [15], true, [], []⟩,
   ⟨⟨some 4, none, .mv (.t 16)⟩, [16], false, [], []⟩] (some [4]))
 .ret))
def a_lot_byTime : AFun := ⟨2, [.t 4], P_lot_byTime, false, false⟩
def d_lot_byTime (C : Hd) (gl : Nat → Option PV) (v0 v1 : AV) (h : Heap) (x : Esc) (K : Ex → St → Prop) : Prop :=
 wK (oBox v0 h) fun t1 h2 y3 =>
 wK (oBox v1 h2) fun t4 h5 y6 =>
 pK (oFaddr 1 none t1) fun t7 =>
 pK (oLoad none t7 h5) fun t8 =>
 pK (oFaddr 1 none t4) fun t9 =>
 pK (oLoad none t9 h5) fun t10 =>
 callE C f_cmp_Compare_int [t8, t10] h5 fun t11 h12 y13 =>
 pK (oFaddr 0 none t1) fun t14 =>
 pK (oLoad none t14 h12) fun t15 =>
 (pK (oLoad none t14 h5) fun v => (fun u (g1 : Heap) (y1 : Esc) => u = t15 ∧ g1 = h5 ∧ y1 = []) v h5 []) ∧ (pK (oFaddr 0 none t4) fun t16 =>
 pK (oLoad none t16 h12) fun t17 =>
 (pK (oLoad none t16 h5) fun v => (fun u (g1 : Heap) (y1 : Esc) => u = t17 ∧ g1 = h5 ∧ y1 = []) v h5 []) ∧ (callE C f_strings_Compare [t15, t17] h12 fun t18 h19 y20 =>
 wK (oBsl false none 2 (.int .i64 0) [(0, t11), (1, t18)] h19) fun t21 h22 y23 =>
 (h22 = h19 ∧ y23 = []) ∧ (callE C f_cmp_Or_int [t21] h22 fun t24 h25 y26 =>
 K .ret ⟨[(4, t24)], h25, (y26 ++ (y23 ++ (y20 ++ (y13 ++ (y6 ++ (y3 ++ x))))))⟩)))
theorem E_lot_byTime {C gl v0 v1 h x K} : NW C gl (P_lot_byTime) ⟨enter [v0, v1], h, x⟩ K = d_lot_byTime C gl v0 v1 h x K := by kernel_rfl
theorem e_lot_byTime {C gl v0 v1 h x K} : NW C gl a_lot_byTime.body ⟨enter [v0, v1], h, x⟩ K = d_lot_byTime C gl v0 v1 h x K := E_lot_byTime
def P_lot_same : ACode := (.seq (.reg [
  ⟨some 2, none, .box (.t 0)⟩,
  ⟨some 3, none, .box (.t 1)⟩,
  ⟨some 4, none, .mv (.c (.p (.bool false)))⟩] (some [2, 3]))
 (.seq (.reg [
  ⟨some 5, none, .faddr 0 none (.t 2)⟩,
  ⟨some 6, none, .load none (.t 5)⟩,
  ⟨some 7, none, .faddr 0 none (.t 3)⟩,
  ⟨some 8, none, .load none (.t 7)⟩,
  ⟨some 9, none, .bin .eql (.t 6) (.t 8)⟩,
  ⟨some 10, none, .mv (.t 9)⟩,
  ⟨some 11, (some (10, true)), .faddr 1 none (.t 2)⟩,
  ⟨some 12, (some (10, true)), .load none (.t 11)⟩,
  ⟨some 13, (some (10, true)), .faddr 1 none (.t 3)⟩,
  ⟨some 14, (some (10, true)), .load none (.t 13)⟩,
  ⟨some 15, (some (10, true)), .bin .eql (.t 12) (.t 14)⟩,
  ⟨some 16, none, .pick (.t 10) (.t 15) (.c (.p (.bool false)))⟩,
  ⟨some 17, none, .mv (.t 16)⟩,
  ⟨some 18, (some (17, true)), .faddr 2 none (.t 2)⟩,
  ⟨some 19, (some (17, true)), .load none (.t 18)⟩,
  ⟨some 20, (some (17, true)), .faddr 2 none (.t 3)⟩,
  ⟨some 21, (some (17, true)), .load none (.t 20)⟩,
  ⟨some 22, (some (17, true)), .bin .eql (.t 19) (.t 21)⟩,
  ⟨some 23, none, .pick (.t 17) (.t 22) (.c (.p (.bool false)))⟩,
  ⟨some 24, none, .mv (.t 23)⟩,
  ⟨some 25, (some (24, true)), .faddr 3 none (.t 2)⟩,
  ⟨some 26, (some (24, true)), .load none (.t 25)⟩,
  ⟨some 27, (some (24, true)), .faddr 3 none (.t 3)⟩,
  ⟨some 28, (some (24, true)), .load none (.t 27)⟩,
  ⟨some 29, (some (24, true)), .call f_slices_Equal_int_int [(.t 26), (.t 28)]⟩,
  ⟨some 30, none, .pick (.t 24) (.t 29) (.c (.p (.bool false)))⟩,
  ⟨some 4, none, .mv (.t 30)⟩] (some [4]))
 .ret))
def a_lot_same : AFun := ⟨2, [.t 4], P_lot_same, false, false⟩
def d_lot_same (C : Hd) (gl : Nat → Option PV) (v0 v1 : AV) (h : Heap) (x : Esc) (K : Ex → St → Prop) : Prop :=
 wK (oBox v0 h) fun t1 h2 y3 =>
 wK (oBox v1 h2) fun t4 h5 y6 =>
 pK (oFaddr 0 none t1) fun t7 =>
 pK (oLoad none t7 h5) fun t8 =>
 pK (oFaddr 0 none t4) fun t9 =>
 pK (oLoad none t9 h5) fun t10 =>
 pK (oBin .eql t8 t10) fun t11 =>
 gP t11 true (oFaddr 1 none t1) h5 fun t12 h13 y14 =>
 gP t11 true (oLoad none t12 h13) h13 fun t15 h16 y17 =>
 gP t11 true (oFaddr 1 none t4) h16 fun t18 h19 y20 =>
 gP t11 true (oLoad none t18 h19) h19 fun t21 h22 y23 =>
 gP t11 true (oBin .eql t15 t21) h22 fun t24 h25 y26 =>
 pK (oPick t11 t24 (.p (.bool false))) fun t27 =>
 gP t27 true (oFaddr 2 none t1) h25 fun t28 h29 y30 =>
 gP t27 true (oLoad none t28 h29) h29 fun t31 h32 y33 =>
 gP t27 true (oFaddr 2 none t4) h32 fun t34 h35 y36 =>
 gP t27 true (oLoad none t34 h35) h35 fun t37 h38 y39 =>
 gP t27 true (oBin .eql t31 t37) h38 fun t40 h41 y42 =>
 pK (oPick t27 t40 (.p (.bool false))) fun t43 =>
 gP t43 true (oFaddr 3 none t1) h41 fun t44 h45 y46 =>
 gP t43 true (oLoad none t44 h45) h45 fun t47 h48 y49 =>
 gP t43 true (oFaddr 3 none t4) h48 fun t50 h51 y52 =>
 gP t43 true (oLoad none t50 h51) h51 fun t53 h54 y55 =>
 gV t43 true h54 (C f_slices_Equal_int_int [t47, t53] h54) fun t56 h57 y58 =>
 pK (oPick t43 t56 (.p (.bool false))) fun t59 =>
 K .ret ⟨[(4, t59)], h57, (y58 ++ (y55 ++ (y52 ++ (y49 ++ (y46 ++ (y42 ++ (y39 ++ (y36 ++ (y33 ++ (y30 ++ (y26 ++ (y23 ++ (y20 ++ (y17 ++ (y14 ++ (y6 ++ (y3 ++ x)))))))))))))))))⟩
theorem E_lot_same {C gl v0 v1 h x K} : NW C gl (P_lot_same) ⟨enter [v0, v1], h, x⟩ K = d_lot_same C gl v0 v1 h x K := by kernel_rfl
theorem e_lot_same {C gl v0 v1 h x K} : NW C gl a_lot_same.body ⟨enter [v0, v1], h, x⟩ K = d_lot_same C gl v0 v1 h x K := E_lot_same
def P_lot_copied : ACode := (.seq (.reg [
  ⟨some 1, none, .box (.t 0)⟩,
  ⟨some 2, none, .alloc [.p (.str []), .p (.int .i64 0), .p (.str []), .sl0 none]⟩] (some [1, 2]))
 (.seq (.reg [
  ⟨some 3, none, .faddr 3 none (.t 1)⟩,
  ⟨some 4, none, .load none (.t 3)⟩,
  ⟨some 5, none, .call f_slices_Clone_int_int [(.t 4)]⟩,
  ⟨some 6, none, .faddr 3 none (.t 1)⟩,
  ⟨none, none, .store none (.t 6) (.t 5)⟩] (some [1, 2]))
 (.seq (.reg [
  ⟨some 7, none, .load (some 4) (.t 1)⟩,
  ⟨none, none, .store (some 4) (.t 2) (.t 7)⟩] (some [2]))
 .ret)))
def a_lot_copied : AFun := ⟨1, [.cell 2 (some 4)], P_lot_copied, false, false⟩
def d_lot_copied (C : Hd) (gl : Nat → Option PV) (v0 : AV) (h : Heap) (x : Esc) (K : Ex → St → Prop) : Prop :=
 wK (oBox v0 h) fun t1 h2 y3 =>
 alK [.p (.str []), .p (.int .i64 0), .p (.str []), .sl0 none] h2 fun t4 h5 y6 =>
 pK (oFaddr 3 none t1) fun t7 =>
 pK (oLoad none t7 h5) fun t8 =>
 C f_slices_Clone_int_int [t8] h5 fun t9 h10 y11 =>
 pK (oFaddr 3 none t1) fun t12 =>
 wK (oStore none t12 t9 h10) fun t13 h14 y15 =>
 pK (oLoad (some 4) t1 h14) fun t16 =>
 wK (oStore (some 4) t4 t16 h14) fun t17 h18 y19 =>
 K .ret ⟨[(2, t4)], h18, (y19 ++ (y15 ++ (y11 ++ (y6 ++ (y3 ++ x)))))⟩
theorem E_lot_copied {C gl v0 h x K} : NW C gl (P_lot_copied) ⟨enter [v0], h, x⟩ K = d_lot_copied C gl v0 h x K := by kernel_rfl
theorem e_lot_copied {C gl v0 h x K} : NW C gl a_lot_copied.body ⟨enter [v0], h, x⟩ K = d_lot_copied C gl v0 h x K := E_lot_copied
def P_lot_recordFault : ACode := (.seq (.reg [
  ⟨some 3, none, .box (.t 1)⟩,
  ⟨some 4, none, .mv (.c (.p (.int .i64 0)))⟩] (some [0, 3]))
 (.seq (.block 0 (.seq (.reg [
  ⟨some 6, none, .faddr 0 none (.t 3)⟩,
  ⟨some 7, none, .load none (.t 6)⟩,
  ⟨some 8, none, .call f_base_Key [(.t 7)]⟩,
  ⟨some 9, none, .un .not (.t 8)⟩,
  ⟨some 10, none, .mv (.t 9)⟩,
  ⟨some 11, (some (10, false)), .faddr 2 none (.t 3)⟩,
  ⟨some 12, (some (10, false)), .load none (.t 11)⟩,
  ⟨some 13, (some (10, false)), .call f_base_Key [(.t 12)]⟩,
  ⟨some 14, (some (10, false)), .un .not (.t 13)⟩,
  ⟨some 15, none, .pick (.t 10) (.c (.p (.bool true))) (.t 14)⟩,
  ⟨some 5, none, .mv (.t 15)⟩] (some [0, 3, 5]))
 (.cond (.t 5) (.seq (.reg [
  ⟨some 4, none, .mv (.c (.p (.int .i64 5)))⟩] (some [4]))
 .ret)
 (.seq (.reg [
  ⟨some 17, none, .faddr 1 none (.t 3)⟩,
  ⟨some 18, none, .load none (.t 17)⟩,
  ⟨some 19, none, .call f_base_Moment [(.t 18)]⟩,
  ⟨some 20, none, .un .not (.t 19)⟩,
  ⟨some 21, none, .mv (.t 20)⟩,
  ⟨some 22, (some (21, false)), .faddr 3 none (.t 3)⟩,
  ⟨some 23, (some (21, false)), .load none (.t 22)⟩,
  ⟨some 24, (some (21, false)), .call f_slices_ContainsFunc_int_int [(.t 23), (.f f_lot_recordFault_1)]⟩,
  ⟨some 25, none, .pick (.t 21) (.c (.p (.bool true))) (.t 24)⟩,
  ⟨some 16, none, .mv (.t 25)⟩] (some [0, 3, 16]))
 (.cond (.t 16) (.seq (.reg [
  ⟨some 4, none, .mv (.c (.p (.int .i64 1)))⟩] (some [4]))
 .ret)
 (.seq (.reg [
  ⟨some 27, none, .mv (.t 0)⟩,
  ⟨some 28, none, .load (some 4) (.t 3)⟩,
  ⟨some 29, none, .call f_lot_complete [(.t 27), (.t 28)]⟩,
  ⟨some 30, none, .un .not (.t 29)⟩,
  ⟨some 26, none, .mv (.t 30)⟩] (some [26]))
 (.cond (.t 26) (.seq (.reg [
  ⟨some 4, none, .mv (.c (.p (.int .i64 3)))⟩] (some [4]))
 .ret)
 .skip)))))))
 (.seq (.reg [
  ⟨some 4, none, .mv (.c (.p (.int .i64 0)))⟩] (some [4]))
 .ret)))
def a_lot_recordFault : AFun := ⟨2, [.t 4], P_lot_recordFault, false, false⟩
def d_lot_recordFault (C : Hd) (gl : Nat → Option PV) (v0 v1 : AV) (h : Heap) (x : Esc) (K : Ex → St → Prop) : Prop :=
 wK (oBox v1 h) fun t1 h2 y3 =>
 pK (oFaddr 0 none t1) fun t4 =>
 pK (oLoad none t4 h2) fun t5 =>
 C f_base_Key [t5] h2 fun t6 h7 y8 =>
 pK (oUn .not t6) fun t9 =>
 gP t9 false (oFaddr 2 none t1) h7 fun t10 h11 y12 =>
 gP t9 false (oLoad none t10 h11) h11 fun t13 h14 y15 =>
 gV t9 false h14 (C f_base_Key [t13] h14) fun t16 h17 y18 =>
 gP t9 false (oUn .not t16) h17 fun t19 h20 y21 =>
 pK (oPick t9 (.p (.bool true)) t19) fun t22 =>
 condB t22 (K .ret ⟨[(4, (.p (.int .i64 5)))], h20, (y21 ++ (y18 ++ (y15 ++ (y12 ++ (y8 ++ (y3 ++ x))))))⟩)
 (pK (oFaddr 1 none t1) fun t23 =>
 pK (oLoad none t23 h20) fun t24 =>
 C f_base_Moment [t24] h20 fun t25 h26 y27 =>
 pK (oUn .not t25) fun t28 =>
 gP t28 false (oFaddr 3 none t1) h26 fun t29 h30 y31 =>
 gP t28 false (oLoad none t29 h30) h30 fun t32 h33 y34 =>
 gV t28 false h33 (C f_slices_ContainsFunc_int_int [t32, (.fn f_lot_recordFault_1 [])] h33) fun t35 h36 y37 =>
 pK (oPick t28 (.p (.bool true)) t35) fun t38 =>
 condB t38 (K .ret ⟨[(4, (.p (.int .i64 1)))], h36, (y37 ++ (y34 ++ (y31 ++ (y27 ++ (y21 ++ (y18 ++ (y15 ++ (y12 ++ (y8 ++ (y3 ++ x))))))))))⟩)
 (pK (oLoad (some 4) t1 h36) fun t39 =>
 C f_lot_complete [v0, t39] h36 fun t40 h41 y42 =>
 pK (oUn .not t40) fun t43 =>
 condB t43 (K .ret ⟨[(4, (.p (.int .i64 3)))], h41, (y42 ++ (y37 ++ (y34 ++ (y31 ++ (y27 ++ (y21 ++ (y18 ++ (y15 ++ (y12 ++ (y8 ++ (y3 ++ x)))))))))))⟩)
 (K .ret ⟨[(4, (.p (.int .i64 0)))], h41, (y42 ++ (y37 ++ (y34 ++ (y31 ++ (y27 ++ (y21 ++ (y18 ++ (y15 ++ (y12 ++ (y8 ++ (y3 ++ x)))))))))))⟩)))
theorem E_lot_recordFault {C gl v0 v1 h x K} : NW C gl (P_lot_recordFault) ⟨enter [v0, v1], h, x⟩ K = d_lot_recordFault C gl v0 v1 h x K := by kernel_rfl
theorem e_lot_recordFault {C gl v0 v1 h x K} : NW C gl a_lot_recordFault.body ⟨enter [v0, v1], h, x⟩ K = d_lot_recordFault C gl v0 v1 h x K := E_lot_recordFault
def P_lot_binOf : ACode := (.seq (.reg [
  ⟨some 3, none, .box (.t 1)⟩,
  ⟨some 4, none, .mv (.c (.p (.int .i64 0)))⟩] (some [0, 3]))
 (.seq (.seq (.reg [
  ⟨some 6, none, .mv (.t 0)⟩,
  ⟨some 7, none, .load (some 4) (.t 3)⟩,
  ⟨some 8, none, .call f_lot_fails [(.t 6), (.t 7)]⟩,
  ⟨some 5, none, .mv (.t 8)⟩] (some [0, 5]))
 (.seq (.reg [
  ⟨some 9, none, .mv (.t 5)⟩,
  ⟨some 10, none, .bin .geq (.t 9) (.c (.p (.int .i64 0)))⟩] (some [0, 5, 10]))
 (.cond (.t 10) (.seq (.reg [
  ⟨some 11, none, .mv (.t 0)⟩,
  ⟨some 12, none, .mv (.t 5)⟩,
  ⟨some 13, none, .iaddr (some 4) (.t 11) (.t 12)⟩,
  ⟨some 14, none, .faddr 3 none (.t 13)⟩,
  ⟨some 15, none, .load none (.t 14)⟩,
  ⟨some 4, none, .mv (.t 15)⟩] (some [4]))
 .ret)
 .skip)))
 (.seq (.reg [
  ⟨some 4, none, .mv (.c (.p (.int .i64 1)))⟩] (some [4]))
 .ret)))
def a_lot_binOf : AFun := ⟨2, [.t 4], P_lot_binOf, false, false⟩
def d_lot_binOf (C : Hd) (gl : Nat → Option PV) (v0 v1 : AV) (h : Heap) (x : Esc) (K : Ex → St → Prop) : Prop :=
 wK (oBox v1 h) fun t1 h2 y3 =>
 pK (oLoad (some 4) t1 h2) fun t4 =>
 C f_lot_fails [v0, t4] h2 fun t5 h6 y7 =>
 pK (oBin .geq t5 (.p (.int .i64 0))) fun t8 =>
 condB t8 (pK (oIaddr (some 4) v0 t5 h6) fun t9 =>
 pK (oFaddr 3 none t9) fun t10 =>
 pK (oLoad none t10 h6) fun t11 =>
 K .ret ⟨[(4, t11)], h6, (y7 ++ (y3 ++ x))⟩)
 (K .ret ⟨[(4, (.p (.int .i64 1)))], h6, (y7 ++ (y3 ++ x))⟩)
theorem E_lot_binOf {C gl v0 v1 h x K} : NW C gl (P_lot_binOf) ⟨enter [v0, v1], h, x⟩ K = d_lot_binOf C gl v0 v1 h x K := by kernel_rfl
theorem e_lot_binOf {C gl v0 v1 h x K} : NW C gl a_lot_binOf.body ⟨enter [v0, v1], h, x⟩ K = d_lot_binOf C gl v0 v1 h x K := E_lot_binOf
def P_lot_fails : ACode := (.seq (.reg [
  ⟨some 3, none, .box (.t 1)⟩,
  ⟨some 4, none, .mv (.c (.p (.int .i64 0)))⟩] (some [0, 3]))
 (.seq (.reg [
  ⟨some 6, none, .faddr 3 none (.t 3)⟩,
  ⟨some 7, none, .load none (.t 6)⟩,
  ⟨some 8, none, .len (.t 7)⟩,
  ⟨some 9, none, .bin .sub (.t 8) (.c (.p (.int .i64 1)))⟩,
  ⟨some 5, none, .mv (.t 9)⟩] (some [0, 3, 5]))
 (.seq (.seq (.draw [
   ⟨⟨some 10, none, .mv (.t 0)⟩, [0], false, [], []⟩,
   ⟨⟨some 11, none, .mv (.t 5)⟩, [5], false, [], []⟩,
   ⟨⟨some 12, none, .iaddr (some 4) (.t 10) (.t 11)⟩, [10, 11], false, [], []⟩,
   ⟨⟨some 13, none, .load (some 4) (.t 12)⟩, [12], false, [], []⟩,
   ⟨⟨some 14, none, .faddr 3 none (.t 3)⟩, [3], false, [], []⟩,
   ⟨⟨some 15, none, .load none (.t 14)⟩, [14], false, [], []⟩,
   ⟨⟨some 16, none, .mv (.t 5)⟩, [5], false, [], []⟩,
   ⟨⟨some 17, none, .iaddr none (.t 15) (.t 16)⟩, [15, 16], false, [], []⟩,
   ⟨⟨some 18, none, .load none (.t 17)⟩, [17], false, [], []⟩,
   ⟨⟨some 19, none, .call f_lot_good [(.t 13), (.t 18)]⟩, [13, 18], true, [], []⟩] (some [5, 19]))
 (.cond (.t 19) (.seq (.reg [
  ⟨some 4, none, .mv (.c (.p (.int .i64 (-1))))⟩] (some [4]))
 .ret)
 .skip))
 (.seq (.reg [
  ⟨some 20, none, .mv (.t 5)⟩,
  ⟨some 4, none, .mv (.t 20)⟩] (some [4]))
 .ret))))
def a_lot_fails : AFun := ⟨2, [.t 4], P_lot_fails, false, false⟩
def d_lot_fails (C : Hd) (gl : Nat → Option PV) (v0 v1 : AV) (h : Heap) (x : Esc) (K : Ex → St → Prop) : Prop :=
 wK (oBox v1 h) fun t1 h2 y3 =>
 pK (oFaddr 3 none t1) fun t4 =>
 pK (oLoad none t4 h2) fun t5 =>
 pK (oLen t5) fun t6 =>
 pK (oBin .sub t6 (.p (.int .i64 1))) fun t7 =>
 pK (oIaddr (some 4) v0 t7 h2) fun t8 =>
 pK (oLoad (some 4) t8 h2) fun t9 =>
 pK (oFaddr 3 none t1) fun t10 =>
 pK (oLoad none t10 h2) fun t11 =>
 pK (oIaddr none t11 t7 h2) fun t12 =>
 pK (oLoad none t12 h2) fun t13 =>
 callE C f_lot_good [t9, t13] h2 fun t14 h15 y16 =>
 condB t14 (K .ret ⟨[(4, (.p (.int .i64 (-1))))], h15, (y16 ++ (y3 ++ x))⟩)
 (K .ret ⟨[(4, t7)], h15, (y16 ++ (y3 ++ x))⟩)
theorem E_lot_fails {C gl v0 v1 h x K} : NW C gl (P_lot_fails) ⟨enter [v0, v1], h, x⟩ K = d_lot_fails C gl v0 v1 h x K := by kernel_rfl
theorem e_lot_fails {C gl v0 v1 h x K} : NW C gl a_lot_fails.body ⟨enter [v0, v1], h, x⟩ K = d_lot_fails C gl v0 v1 h x K := E_lot_fails
def P_scanref2_recordFault : ACode := (.seq (.reg [
  ⟨some 3, none, .box (.t 1)⟩,
  ⟨some 4, none, .mv (.c (.p (.int .i64 0)))⟩] (some [0, 3]))
 (.seq (.block 0 (.seq (.reg [
  ⟨some 8, none, .faddr 0 none (.t 3)⟩,
  ⟨some 9, none, .load none (.t 8)⟩,
  ⟨some 10, none, .call f_scanref2_Key [(.t 9)]⟩,
  ⟨some 11, none, .un .not (.t 10)⟩,
  ⟨some 12, none, .mv (.t 11)⟩,
  ⟨some 13, (some (12, false)), .faddr 2 none (.t 3)⟩,
  ⟨some 14, (some (12, false)), .load none (.t 13)⟩,
  ⟨some 15, (some (12, false)), .call f_scanref2_Key [(.t 14)]⟩,
  ⟨some 16, (some (12, false)), .un .not (.t 15)⟩,
  ⟨some 17, none, .pick (.t 12) (.c (.p (.bool true))) (.t 16)⟩,
  ⟨some 7, none, .mv (.t 17)⟩] (some [0, 3, 7]))
 (.cond (.t 7) (.seq (.reg [
  ⟨some 4, none, .mv (.c (.p (.int .i64 5)))⟩] (some [4]))
 .ret)
 (.seq (.reg [
  ⟨some 19, none, .faddr 1 none (.t 3)⟩,
  ⟨some 20, none, .load none (.t 19)⟩,
  ⟨some 21, none, .call f_scanref2_Moment [(.t 20)]⟩,
  ⟨some 22, none, .un .not (.t 21)⟩,
  ⟨some 18, none, .mv (.t 22)⟩] (some [0, 3, 18]))
 (.cond (.t 18) (.seq (.reg [
  ⟨some 4, none, .mv (.c (.p (.int .i64 1)))⟩] (some [4]))
 .ret)
 (.seq (.reg [
  ⟨some 24, none, .faddr 3 none (.t 3)⟩,
  ⟨some 25, none, .load none (.t 24)⟩,
  ⟨some 26, none, .call f_slices_ContainsFunc_int_int [(.t 25), (.f f_scanref2_recordFault_1)]⟩,
  ⟨some 23, none, .mv (.t 26)⟩] (some [0, 3, 23]))
 (.cond (.t 23) (.seq (.reg [
  ⟨some 4, none, .mv (.c (.p (.int .i64 1)))⟩] (some [4]))
 .ret)
 .skip)))))))
 (.seq (.reg [
  ⟨some 27, none, .faddr 3 none (.t 3)⟩,
  ⟨some 28, none, .load none (.t 27)⟩,
  ⟨some 29, none, .len (.t 28)⟩,
  ⟨some 5, none, .mv (.t 29)⟩] (some [0, 3, 5]))
 (.seq (.seq (.reg [
  ⟨some 30, none, .mv (.t 0)⟩,
  ⟨some 31, none, .faddr 3 none (.t 3)⟩,
  ⟨some 32, none, .load none (.t 31)⟩,
  ⟨some 33, none, .call f_scanref2_fails [(.t 30), (.t 32)]⟩,
  ⟨some 6, none, .mv (.t 33)⟩] (some [0, 5, 6]))
 (.seq (.reg [
  ⟨some 34, none, .mv (.t 5)⟩,
  ⟨some 35, none, .mv (.t 0)⟩,
  ⟨some 36, none, .len (.t 35)⟩,
  ⟨some 37, none, .call f_scanref2_in [(.t 34), (.c (.p (.int .i64 1))), (.t 36)]⟩,
  ⟨some 38, none, .un .not (.t 37)⟩,
  ⟨some 39, none, .mv (.t 38)⟩,
  ⟨some 40, (some (39, false)), .mv (.t 6)⟩,
  ⟨some 41, (some (39, false)), .bin .geq (.t 40) (.c (.p (.int .i64 0)))⟩,
  ⟨some 42, (some (39, false)), .mv (.t 41)⟩,
  ⟨some 43, (some (42, true)), .mv (.t 6)⟩,
  ⟨some 44, (some (42, true)), .mv (.t 5)⟩,
  ⟨some 45, (some (42, true)), .bin .sub (.t 44) (.c (.p (.int .i64 1)))⟩,
  ⟨some 46, (some (42, true)), .bin .neq (.t 43) (.t 45)⟩,
  ⟨some 47, (some (39, false)), .pick (.t 42) (.t 46) (.c (.p (.bool false)))⟩,
  ⟨some 48, none, .pick (.t 39) (.c (.p (.bool true))) (.t 47)⟩,
  ⟨some 49, none, .mv (.t 48)⟩,
  ⟨some 50, (some (49, false)), .mv (.t 6)⟩,
  ⟨some 51, (some (49, false)), .bin .lss (.t 50) (.c (.p (.int .i64 0)))⟩,
  ⟨some 52, (some (49, false)), .mv (.t 51)⟩,
  ⟨some 53, (some (52, true)), .mv (.t 5)⟩,
  ⟨some 54, (some (52, true)), .mv (.t 0)⟩,
  ⟨some 55, (some (52, true)), .len (.t 54)⟩,
  ⟨some 56, (some (52, true)), .bin .neq (.t 53) (.t 55)⟩,
  ⟨some 57, (some (49, false)), .pick (.t 52) (.t 56) (.c (.p (.bool false)))⟩,
  ⟨some 58, none, .pick (.t 49) (.c (.p (.bool true))) (.t 57)⟩] (some [58]))
 (.cond (.t 58) (.seq (.reg [
  ⟨some 4, none, .mv (.c (.p (.int .i64 3)))⟩] (some [4]))
 .ret)
 .skip)))
 (.seq (.reg [
  ⟨some 4, none, .mv (.c (.p (.int .i64 0)))⟩] (some [4]))
 .ret)))))
def a_scanref2_recordFault : AFun := ⟨2, [.t 4], P_scanref2_recordFault, false, false⟩
def d_scanref2_recordFault (C : Hd) (gl : Nat → Option PV) (v0 v1 : AV) (h : Heap) (x : Esc) (K : Ex → St → Prop) : Prop :=
 wK (oBox v1 h) fun t1 h2 y3 =>
 pK (oFaddr 0 none t1) fun t4 =>
 pK (oLoad none t4 h2) fun t5 =>
 C f_scanref2_Key [t5] h2 fun t6 h7 y8 =>
 pK (oUn .not t6) fun t9 =>
 gP t9 false (oFaddr 2 none t1) h7 fun t10 h11 y12 =>
 gP t9 false (oLoad none t10 h11) h11 fun t13 h14 y15 =>
 gV t9 false h14 (C f_scanref2_Key [t13] h14) fun t16 h17 y18 =>
 gP t9 false (oUn .not t16) h17 fun t19 h20 y21 =>
 pK (oPick t9 (.p (.bool true)) t19) fun t22 =>
 condB t22 (K .ret ⟨[(4, (.p (.int .i64 5)))], h20, (y21 ++ (y18 ++ (y15 ++ (y12 ++ (y8 ++ (y3 ++ x))))))⟩)
 (pK (oFaddr 1 none t1) fun t23 =>
 pK (oLoad none t23 h20) fun t24 =>
 C f_scanref2_Moment [t24] h20 fun t25 h26 y27 =>
 pK (oUn .not t25) fun t28 =>
 condB t28 (K .ret ⟨[(4, (.p (.int .i64 1)))], h26, (y27 ++ (y21 ++ (y18 ++ (y15 ++ (y12 ++ (y8 ++ (y3 ++ x)))))))⟩)
 (pK (oFaddr 3 none t1) fun t29 =>
 pK (oLoad none t29 h26) fun t30 =>
 C f_slices_ContainsFunc_int_int [t30, (.fn f_scanref2_recordFault_1 [])] h26 fun t31 h32 y33 =>
 condB t31 (K .ret ⟨[(4, (.p (.int .i64 1)))], h32, (y33 ++ (y27 ++ (y21 ++ (y18 ++ (y15 ++ (y12 ++ (y8 ++ (y3 ++ x))))))))⟩)
 (pK (oFaddr 3 none t1) fun t34 =>
 pK (oLoad none t34 h32) fun t35 =>
 pK (oLen t35) fun t36 =>
 pK (oFaddr 3 none t1) fun t37 =>
 pK (oLoad none t37 h32) fun t38 =>
 C f_scanref2_fails [v0, t38] h32 fun t39 h40 y41 =>
 pK (oLen v0) fun t42 =>
 C f_scanref2_in [t36, (.p (.int .i64 1)), t42] h40 fun t43 h44 y45 =>
 pK (oUn .not t43) fun t46 =>
 gM t46 false t39 h44 fun t47 h48 y49 =>
 gP t46 false (oBin .geq t47 (.p (.int .i64 0))) h48 fun t50 h51 y52 =>
 gM t46 false t50 h51 fun t53 h54 y55 =>
 gM t53 true t39 h54 fun t56 h57 y58 =>
 gM t53 true t36 h57 fun t59 h60 y61 =>
 gP t53 true (oBin .sub t59 (.p (.int .i64 1))) h60 fun t62 h63 y64 =>
 gP t53 true (oBin .neq t56 t62) h63 fun t65 h66 y67 =>
 gP t46 false (oPick t53 t65 (.p (.bool false))) h66 fun t68 h69 y70 =>
 pK (oPick t46 (.p (.bool true)) t68) fun t71 =>
 gM t71 false t39 h69 fun t72 h73 y74 =>
 gP t71 false (oBin .lss t72 (.p (.int .i64 0))) h73 fun t75 h76 y77 =>
 gM t71 false t75 h76 fun t78 h79 y80 =>
 gM t78 true t36 h79 fun t81 h82 y83 =>
 gM t78 true v0 h82 fun t84 h85 y86 =>
 gP t78 true (oLen t84) h85 fun t87 h88 y89 =>
 gP t78 true (oBin .neq t81 t87) h88 fun t90 h91 y92 =>
 gP t71 false (oPick t78 t90 (.p (.bool false))) h91 fun t93 h94 y95 =>
 pK (oPick t71 (.p (.bool true)) t93) fun t96 =>
 condB t96 (K .ret ⟨[(4, (.p (.int .i64 3)))], h94, (y95 ++ (y92 ++ (y89 ++ (y86 ++ (y83 ++ (y80 ++ (y77 ++ (y74 ++ (y70 ++ (y67 ++ (y64 ++ (y61 ++ (y58 ++ (y55 ++ (y52 ++ (y49 ++ (y45 ++ (y41 ++ (y33 ++ (y27 ++ (y21 ++ (y18 ++ (y15 ++ (y12 ++ (y8 ++ (y3 ++ x))))))))))))))))))))))))))⟩)
 (K .ret ⟨[(4, (.p (.int .i64 0)))], h94, (y95 ++ (y92 ++ (y89 ++ (y86 ++ (y83 ++ (y80 ++ (y77 ++ (y74 ++ (y70 ++ (y67 ++ (y64 ++ (y61 ++ (y58 ++ (y55 ++ (y52 ++ (y49 ++ (y45 ++ (y41 ++ (y33 ++ (y27 ++ (y21 ++ (y18 ++ (y15 ++ (y12 ++ (y8 ++ (y3 ++ x))))))))))))))))))))))))))⟩))))
theorem E_scanref2_recordFault {C gl v0 v1 h x K} : NW C gl (P_scanref2_recordFault) ⟨enter [v0, v1], h, x⟩ K = d_scanref2_recordFault C gl v0 v1 h x K := by kernel_rfl
theorem e_scanref2_recordFault {C gl v0 v1 h x K} : NW C gl a_scanref2_recordFault.body ⟨enter [v0, v1], h, x⟩ K = d_scanref2_recordFault C gl v0 v1 h x K := E_scanref2_recordFault
def P_scanref2_recordOrder : ACode := (.seq (.reg [
  ⟨some 2, none, .box (.t 0)⟩,
  ⟨some 3, none, .box (.t 1)⟩,
  ⟨some 4, none, .mv (.c (.p (.int .i64 0)))⟩] (some [2, 3]))
 (.seq (.seq (.reg [
  ⟨some 5, none, .faddr 1 none (.t 2)⟩,
  ⟨some 6, none, .load none (.t 5)⟩,
  ⟨some 7, none, .faddr 1 none (.t 3)⟩,
  ⟨some 8, none, .load none (.t 7)⟩,
  ⟨some 9, none, .bin .neq (.t 6) (.t 8)⟩] (some [2, 3, 9]))
 (.cond (.t 9) (.seq (.reg [
  ⟨some 10, none, .faddr 1 none (.t 2)⟩,
  ⟨some 11, none, .load none (.t 10)⟩,
  ⟨some 12, none, .faddr 1 none (.t 3)⟩,
  ⟨some 13, none, .load none (.t 12)⟩,
  ⟨some 14, none, .bin .sub (.t 11) (.t 13)⟩,
  ⟨some 15, none, .call f_scanref2_sign [(.t 14)]⟩,
  ⟨some 4, none, .mv (.t 15)⟩] (some [4]))
 .ret)
 .skip))
 (.seq (.reg [
  ⟨some 16, none, .faddr 0 none (.t 2)⟩,
  ⟨some 17, none, .load none (.t 16)⟩,
  ⟨some 18, none, .faddr 0 none (.t 3)⟩,
  ⟨some 19, none, .load none (.t 18)⟩,
  ⟨some 20, none, .call f_strings_Compare [(.t 17), (.t 19)]⟩,
  ⟨some 4, none, .mv (.t 20)⟩] (some [4]))
 .ret)))
def a_scanref2_recordOrder : AFun := ⟨2, [.t 4], P_scanref2_recordOrder, false, false⟩
def d_scanref2_recordOrder (C : Hd) (gl : Nat → Option PV) (v0 v1 : AV) (h : Heap) (x : Esc) (K : Ex → St → Prop) : Prop :=
 wK (oBox v0 h) fun t1 h2 y3 =>
 wK (oBox v1 h2) fun t4 h5 y6 =>
 pK (oFaddr 1 none t1) fun t7 =>
 pK (oLoad none t7 h5) fun t8 =>
 pK (oFaddr 1 none t4) fun t9 =>
 pK (oLoad none t9 h5) fun t10 =>
 pK (oBin .neq t8 t10) fun t11 =>
 condB t11 (pK (oFaddr 1 none t1) fun t12 =>
 pK (oLoad none t12 h5) fun t13 =>
 pK (oFaddr 1 none t4) fun t14 =>
 pK (oLoad none t14 h5) fun t15 =>
 pK (oBin .sub t13 t15) fun t16 =>
 C f_scanref2_sign [t16] h5 fun t17 h18 y19 =>
 K .ret ⟨[(4, t17)], h18, (y19 ++ (y6 ++ (y3 ++ x)))⟩)
 (pK (oFaddr 0 none t1) fun t20 =>
 pK (oLoad none t20 h5) fun t21 =>
 pK (oFaddr 0 none t4) fun t22 =>
 pK (oLoad none t22 h5) fun t23 =>
 C f_strings_Compare [t21, t23] h5 fun t24 h25 y26 =>
 K .ret ⟨[(4, t24)], h25, (y26 ++ (y6 ++ (y3 ++ x)))⟩)
theorem E_scanref2_recordOrder {C gl v0 v1 h x K} : NW C gl (P_scanref2_recordOrder) ⟨enter [v0, v1], h, x⟩ K = d_scanref2_recordOrder C gl v0 v1 h x K := by kernel_rfl
theorem e_scanref2_recordOrder {C gl v0 v1 h x K} : NW C gl a_scanref2_recordOrder.body ⟨enter [v0, v1], h, x⟩ K = d_scanref2_recordOrder C gl v0 v1 h x K := E_scanref2_recordOrder
def p_slices_IndexFunc_api_Record_api_Record_k1 : ACode := .pr [0, 1, 7, 8] (.seq (.reg [
  ⟨some 9, none, .bin .lss (.t 8) (.t 7)⟩] (some [0, 1, 7, 8, 9]))
 (.seq (.cond (.t 9) .skip
 (.exit 0))
 (.seq (.block 1 (.seq (.reg [
  ⟨some 10, none, .mv (.t 8)⟩,
  ⟨some 5, none, .mv (.t 10)⟩] (some [0, 1, 5, 7, 8]))
 (.seq (.reg [
  ⟨some 11, none, .mv (.t 1)⟩,
  ⟨some 12, none, .mv (.t 0)⟩,
  ⟨some 13, none, .mv (.t 5)⟩,
  ⟨some 14, none, .iaddr (some 4) (.t 12) (.t 13)⟩,
  ⟨some 15, none, .load (some 4) (.t 14)⟩,
  ⟨some 16, none, .callv (.t 11) [(.t 15)]⟩] (some [0, 1, 5, 7, 8, 16]))
 (.cond (.t 16) (.seq (.reg [
  ⟨some 17, none, .mv (.t 5)⟩,
  ⟨some 4, none, .mv (.t 17)⟩] (some [4]))
 .ret)
 .skip))))
 (.reg [
  ⟨some 18, none, .bin .add (.t 8) (.c (.p (.int .i64 1)))⟩,
  ⟨some 8, none, .mv (.t 18)⟩] (some [0, 1, 7, 8])))))
def d_slices_IndexFunc_api_Record_api_Record_k1 (C : Hd) (gl : Nat → Option PV) (v0 v1 v7 v8 : AV) (h : Heap) (x : Esc) (K : Ex → St → Prop) : Prop :=
 pK (oBin .lss v8 v7) fun t1 =>
 condB t1 (pK (oIaddr (some 4) v0 v8 h) fun t2 =>
 pK (oLoad (some 4) t2 h) fun t3 =>
 callvK C v1 [t3] h fun t4 h5 y6 =>
 condB t4 (K .ret ⟨[(4, v8)], h5, (y6 ++ x)⟩)
 (pK (oBin .add v8 (.p (.int .i64 1))) fun t7 =>
 K .normal ⟨[(0, v0), (1, v1), (7, v7), (8, t7)], h5, (y6 ++ x)⟩))
 (K (.exit 0) ⟨[(0, v0), (1, v1), (7, v7), (8, v8), (9, t1)], h, x⟩)
theorem e_slices_IndexFunc_api_Record_api_Record_k1 {C gl e h x K} : NW C gl p_slices_IndexFunc_api_Record_api_Record_k1 ⟨e, h, x⟩ K = d_slices_IndexFunc_api_Record_api_Record_k1 C gl (aget e 0) (aget e 1) (aget e 7) (aget e 8) h x K := by kernel_rfl
theorem l_slices_IndexFunc_api_Record_api_Record_k1 {C gl e h x K} : NW C gl (.loop p_slices_IndexFunc_api_Record_api_Record_k1) ⟨e, h, x⟩ K = NLoop C gl p_slices_IndexFunc_api_Record_api_Record_k1 K [(0, aget e 0), (1, aget e 1), (7, aget e 7), (8, aget e 8)] h x := NLoop_pr
def p_slices_IndexFunc_api_Record_api_Record_k2 : ACode := .pr [] (.seq (.reg [
  ⟨some 4, none, .mv (.c (.p (.int .i64 (-1))))⟩] (some [4]))
 .ret)
def d_slices_IndexFunc_api_Record_api_Record_k2 (C : Hd) (gl : Nat → Option PV) (h : Heap) (x : Esc) (K : Ex → St → Prop) : Prop :=
 K .ret ⟨[(4, (.p (.int .i64 (-1))))], h, x⟩
theorem e_slices_IndexFunc_api_Record_api_Record_k2 {C gl e h x K} : NW C gl p_slices_IndexFunc_api_Record_api_Record_k2 ⟨e, h, x⟩ K = d_slices_IndexFunc_api_Record_api_Record_k2 C gl h x K := by kernel_rfl
def P_slices_IndexFunc_api_Record_api_Record (q1 q2 : ACode) : ACode := (.seq (.reg [
  ⟨some 4, none, .mv (.c (.p (.int .i64 0)))⟩] (some [0, 1]))
 (.seq (.seq (.reg [
  ⟨some 6, none, .mv (.t 0)⟩,
  ⟨some 7, none, .len (.t 6)⟩,
  ⟨some 8, none, .mv (.c (.p (.int .i64 0)))⟩] (some [0, 1, 7, 8]))
 (.block 0 (.loop q1)))
 q2))
def a_slices_IndexFunc_api_Record_api_Record : AFun := ⟨2, [.t 4], P_slices_IndexFunc_api_Record_api_Record p_slices_IndexFunc_api_Record_api_Record_k1 p_slices_IndexFunc_api_Record_api_Record_k2, true, false⟩
def d_slices_IndexFunc_api_Record_api_Record (C : Hd) (gl : Nat → Option PV) (q1 q2 : ACode) (v0 v1 : AV) (h : Heap) (x : Esc) (K : Ex → St → Prop) : Prop :=
 pK (oLen v0) fun t1 =>
 NW C gl (.loop q1) ⟨[(0, v0), (1, v1), (7, t1), (8, (.p (.int .i64 0)))], h, x⟩ (blockN 0 (seqN C gl q2 K))
theorem E_slices_IndexFunc_api_Record_api_Record {C gl q1 q2 v0 v1 h x K} : NW C gl (P_slices_IndexFunc_api_Record_api_Record q1 q2) ⟨enter [v0, v1], h, x⟩ K = d_slices_IndexFunc_api_Record_api_Record C gl q1 q2 v0 v1 h x K := by kernel_rfl
theorem e_slices_IndexFunc_api_Record_api_Record {C gl v0 v1 h x K} : NW C gl a_slices_IndexFunc_api_Record_api_Record.body ⟨enter [v0, v1], h, x⟩ K = d_slices_IndexFunc_api_Record_api_Record C gl p_slices_IndexFunc_api_Record_api_Record_k1 p_slices_IndexFunc_api_Record_api_Record_k2 v0 v1 h x K := E_slices_IndexFunc_api_Record_api_Record
def P_scanref2_MergedRecords_1 : ACode := (.seq (.reg [
  ⟨some 2, none, .box (.t 0)⟩,
  ⟨some 3, none, .mv (.c (.p (.bool false)))⟩] (some [1, 2]))
 (.seq (.reg [
  ⟨some 4, none, .load (some 4) (.t 2)⟩,
  ⟨some 5, none, .load (some 4) (.t 1)⟩,
  ⟨some 6, none, .call f_scanref2_recordOrder [(.t 4), (.t 5)]⟩,
  ⟨some 7, none, .bin .eql (.t 6) (.c (.p (.int .i64 0)))⟩,
  ⟨some 3, none, .mv (.t 7)⟩] (some [3]))
 .ret))
def a_scanref2_MergedRecords_1 : AFun := ⟨2, [.t 3], P_scanref2_MergedRecords_1, false, false⟩
def d_scanref2_MergedRecords_1 (C : Hd) (gl : Nat → Option PV) (v0 v1 : AV) (h : Heap) (x : Esc) (K : Ex → St → Prop) : Prop :=
 wK (oBox v0 h) fun t1 h2 y3 =>
 pK (oLoad (some 4) t1 h2) fun t4 =>
 pK (oLoad (some 4) v1 h2) fun t5 =>
 C f_scanref2_recordOrder [t4, t5] h2 fun t6 h7 y8 =>
 pK (oBin .eql t6 (.p (.int .i64 0))) fun t9 =>
 K .ret ⟨[(3, t9)], h7, (y8 ++ (y3 ++ x))⟩
theorem E_scanref2_MergedRecords_1 {C gl v0 v1 h x K} : NW C gl (P_scanref2_MergedRecords_1) ⟨enter [v0, v1], h, x⟩ K = d_scanref2_MergedRecords_1 C gl v0 v1 h x K := by kernel_rfl
theorem e_scanref2_MergedRecords_1 {C gl v0 v1 h x K} : NW C gl a_scanref2_MergedRecords_1.body ⟨enter [v0, v1], h, x⟩ K = d_scanref2_MergedRecords_1 C gl v0 v1 h x K := E_scanref2_MergedRecords_1
def P_slices_SortFunc_api_Record_api_Record : ACode := (.seq (.reg [
  ⟨some 5, none, .mv (.t 0)⟩,
  ⟨some 6, none, .len (.t 5)⟩,
  ⟨some 4, none, .mv (.t 6)⟩] (some [0, 1, 4]))
 (.reg [
  ⟨some 7, none, .mv (.t 0)⟩,
  ⟨some 8, none, .mv (.t 4)⟩,
  ⟨some 9, none, .mv (.t 4)⟩,
  ⟨some 10, none, .conv (.i .u64) (.t 9)⟩,
  ⟨some 11, none, .call f_math_bits_Len [(.t 10)]⟩,
  ⟨some 12, none, .mv (.t 1)⟩,
  ⟨some 13, none, .call f_slices_pdqsortCmpFunc_api_Record [(.t 7), (.c (.p (.int .i64 0))), (.t 8), (.t 11), (.t 12)]⟩] (some [])))
def a_slices_SortFunc_api_Record_api_Record : AFun := ⟨2, [], P_slices_SortFunc_api_Record_api_Record, true, false⟩
def d_slices_SortFunc_api_Record_api_Record (C : Hd) (gl : Nat → Option PV) (v0 v1 : AV) (h : Heap) (x : Esc) (K : Ex → St → Prop) : Prop :=
 pK (oLen v0) fun t1 =>
 pK (oConvI .u64 t1) fun t2 =>
 C f_math_bits_Len [t2] h fun t3 h4 y5 =>
 C f_slices_pdqsortCmpFunc_api_Record [v0, (.p (.int .i64 0)), t1, t3, v1] h4 fun t6 h7 y8 =>
 K .normal ⟨[], h7, (y8 ++ (y5 ++ x))⟩
theorem E_slices_SortFunc_api_Record_api_Record {C gl v0 v1 h x K} : NW C gl (P_slices_SortFunc_api_Record_api_Record) ⟨enter [v0, v1], h, x⟩ K = d_slices_SortFunc_api_Record_api_Record C gl v0 v1 h x K := by kernel_rfl
theorem e_slices_SortFunc_api_Record_api_Record {C gl v0 v1 h x K} : NW C gl a_slices_SortFunc_api_Record_api_Record.body ⟨enter [v0, v1], h, x⟩ K = d_slices_SortFunc_api_Record_api_Record C gl v0 v1 h x K := E_slices_SortFunc_api_Record_api_Record
end Go.Am
end
