/- Texts of the proof, laid together: CodesB. -/
import Derived.KernelRfl
import Derived.Test.YtajhbehiecgflaalawLT5
set_option linter.all false
section
/- The functions as abstract code, and as formulas over their values: printed by program out of the translation. -/
set_option linter.unusedVariables false
set_option maxRecDepth 100000
namespace Go.Am
def p_scanref2_TighterOf_k1 : ACode := .pr [3, 12, 13, 14, 15, 17, 19, 20, 37, 38, 39, 46, 47, 48, 52, 53, 54] (.reg [
  ⟨some 65, none, .bin .add (.t 54) (.c (.p (.int .i64 1)))⟩,
  ⟨some 54, none, .mv (.t 65)⟩] (some [3, 12, 13, 14, 15, 17, 19, 20, 37, 38, 39, 46, 47, 48, 52, 53, 54]))
def d_scanref2_TighterOf_k1 (C : Hd) (gl : Nat → Option PV) (v3 v12 v13 v14 v15 v17 v19 v20 v37 v38 v39 v46 v47 v48 v52 v53 v54 : AV) (h : Heap) (x : Esc) (K : Ex → St → Prop) : Prop :=
 pK (oBin .add v54 (.p (.int .i64 1))) fun t1 =>
 K .normal ⟨[(3, v3), (12, v12), (13, v13), (14, v14), (15, v15), (17, v17), (19, v19), (20, v20), (37, v37), (38, v38), (39, v39), (46, v46), (47, v47), (48, v48), (52, v52), (53, v53), (54, t1)], h, x⟩
theorem e_scanref2_TighterOf_k1 {C gl e h x K} : NW C gl p_scanref2_TighterOf_k1 ⟨e, h, x⟩ K = d_scanref2_TighterOf_k1 C gl (aget e 3) (aget e 12) (aget e 13) (aget e 14) (aget e 15) (aget e 17) (aget e 19) (aget e 20) (aget e 37) (aget e 38) (aget e 39) (aget e 46) (aget e 47) (aget e 48) (aget e 52) (aget e 53) (aget e 54) h x K := by kernel_rfl
def P_scanref2_TighterOf_k2 (q1 : ACode) : ACode := .pr [3, 12, 13, 14, 15, 17, 19, 20, 37, 38, 39, 46, 47, 48, 52, 53, 54] (.seq (.reg [
  ⟨some 55, none, .bin .lss (.t 54) (.t 53)⟩] (some [3, 12, 13, 14, 15, 17, 19, 20, 37, 38, 39, 46, 47, 48, 52, 53, 54, 55]))
 (.seq (.cond (.t 55) .skip
 (.exit 4))
 (.seq (.block 5 (.seq (.reg [
  ⟨some 56, none, .iaddr none (.t 52) (.t 54)⟩,
  ⟨some 57, none, .load none (.t 56)⟩,
  ⟨some 22, none, .mv (.t 57)⟩] (some [3, 12, 13, 14, 15, 17, 19, 20, 22, 37, 38, 39, 46, 47, 48, 52, 53, 54]))
 (.seq (.reg [
  ⟨some 58, none, .mv (.t 22)⟩,
  ⟨some 59, none, .mv (.t 17)⟩,
  ⟨some 60, none, .mv (.t 19)⟩,
  ⟨some 61, none, .call f_scanref2_in [(.t 58), (.t 59), (.t 60)]⟩,
  ⟨some 62, none, .un .not (.t 61)⟩] (some [3, 12, 13, 14, 15, 17, 19, 20, 37, 38, 39, 46, 47, 48, 52, 53, 54, 62]))
 (.cond (.t 62) (.reg [
  ⟨some 63, none, .mv (.t 20)⟩,
  ⟨some 64, none, .bin .add (.t 63) (.c (.p (.int .i64 1)))⟩,
  ⟨some 20, none, .mv (.t 64)⟩] (some [3, 12, 13, 14, 15, 17, 19, 20, 37, 38, 39, 46, 47, 48, 52, 53, 54]))
 .skip))))
 q1)))
def p_scanref2_TighterOf_k2 : ACode := P_scanref2_TighterOf_k2 p_scanref2_TighterOf_k1
def d_scanref2_TighterOf_k2 (C : Hd) (gl : Nat → Option PV) (q1 : ACode) (v3 v12 v13 v14 v15 v17 v19 v20 v37 v38 v39 v46 v47 v48 v52 v53 v54 : AV) (h : Heap) (x : Esc) (K : Ex → St → Prop) : Prop :=
 pK (oBin .lss v54 v53) fun t1 =>
 condB t1 (pK (oIaddr none v52 v54 h) fun t2 =>
 pK (oLoad none t2 h) fun t3 =>
 C f_scanref2_in [t3, v17, v19] h fun t4 h5 y6 =>
 pK (oUn .not t4) fun t7 =>
 condB t7 (pK (oBin .add v20 (.p (.int .i64 1))) fun t8 =>
 NW C gl q1 ⟨[(3, v3), (12, v12), (13, v13), (14, v14), (15, v15), (17, v17), (19, v19), (20, t8), (37, v37), (38, v38), (39, v39), (46, v46), (47, v47), (48, v48), (52, v52), (53, v53), (54, v54)], h5, (y6 ++ x)⟩ K)
 (NW C gl q1 ⟨[(3, v3), (12, v12), (13, v13), (14, v14), (15, v15), (17, v17), (19, v19), (20, v20), (37, v37), (38, v38), (39, v39), (46, v46), (47, v47), (48, v48), (52, v52), (53, v53), (54, v54), (62, t7)], h5, (y6 ++ x)⟩ K))
 (K (.exit 4) ⟨[(3, v3), (12, v12), (13, v13), (14, v14), (15, v15), (17, v17), (19, v19), (20, v20), (37, v37), (38, v38), (39, v39), (46, v46), (47, v47), (48, v48), (52, v52), (53, v53), (54, v54), (55, t1)], h, x⟩)
theorem E_scanref2_TighterOf_k2 {C gl q1 e h x K} : NW C gl (P_scanref2_TighterOf_k2 q1) ⟨e, h, x⟩ K = d_scanref2_TighterOf_k2 C gl q1 (aget e 3) (aget e 12) (aget e 13) (aget e 14) (aget e 15) (aget e 17) (aget e 19) (aget e 20) (aget e 37) (aget e 38) (aget e 39) (aget e 46) (aget e 47) (aget e 48) (aget e 52) (aget e 53) (aget e 54) h x K := by kernel_rfl
theorem e_scanref2_TighterOf_k2 {C gl e h x K} : NW C gl p_scanref2_TighterOf_k2 ⟨e, h, x⟩ K = d_scanref2_TighterOf_k2 C gl p_scanref2_TighterOf_k1 (aget e 3) (aget e 12) (aget e 13) (aget e 14) (aget e 15) (aget e 17) (aget e 19) (aget e 20) (aget e 37) (aget e 38) (aget e 39) (aget e 46) (aget e 47) (aget e 48) (aget e 52) (aget e 53) (aget e 54) h x K := E_scanref2_TighterOf_k2
theorem l_scanref2_TighterOf_k2 {C gl e h x K} : NW C gl (.loop p_scanref2_TighterOf_k2) ⟨e, h, x⟩ K = NLoop C gl p_scanref2_TighterOf_k2 K [(3, aget e 3), (12, aget e 12), (13, aget e 13), (14, aget e 14), (15, aget e 15), (17, aget e 17), (19, aget e 19), (20, aget e 20), (37, aget e 37), (38, aget e 38), (39, aget e 39), (46, aget e 46), (47, aget e 47), (48, aget e 48), (52, aget e 52), (53, aget e 53), (54, aget e 54)] h x := NLoop_pr
def p_scanref2_TighterOf_k3 : ACode := .pr [3, 12, 13, 14, 15, 17, 19, 20, 37, 38, 39, 46, 47, 48] (.seq (.reg [
  ⟨some 66, none, .mv (.t 20)⟩,
  ⟨some 67, none, .mv (.t 3)⟩,
  ⟨some 68, none, .bin .leq (.t 66) (.t 67)⟩,
  ⟨some 69, none, .mv (.t 68)⟩,
  ⟨some 70, (some (69, true)), .mv (.t 15)⟩,
  ⟨some 71, (some (69, true)), .un .not (.t 70)⟩,
  ⟨some 72, (some (69, true)), .mv (.t 71)⟩,
  ⟨some 73, (some (72, false)), .mv (.t 19)⟩,
  ⟨some 74, (some (72, false)), .mv (.t 17)⟩,
  ⟨some 75, (some (72, false)), .bin .sub (.t 73) (.t 74)⟩,
  ⟨some 76, (some (72, false)), .mv (.t 14)⟩,
  ⟨some 77, (some (72, false)), .mv (.t 13)⟩,
  ⟨some 78, (some (72, false)), .bin .sub (.t 76) (.t 77)⟩,
  ⟨some 79, (some (72, false)), .bin .lss (.t 75) (.t 78)⟩,
  ⟨some 80, (some (69, true)), .pick (.t 72) (.c (.p (.bool true))) (.t 79)⟩,
  ⟨some 81, none, .pick (.t 69) (.t 80) (.c (.p (.bool false)))⟩] (some [3, 12, 13, 14, 15, 17, 19, 37, 38, 39, 46, 47, 48, 81]))
 (.cond (.t 81) (.reg [
  ⟨some 82, none, .mv (.t 17)⟩,
  ⟨some 83, none, .mv (.t 19)⟩,
  ⟨some 13, none, .mv (.t 82)⟩,
  ⟨some 14, none, .mv (.t 83)⟩,
  ⟨some 15, none, .mv (.c (.p (.bool true)))⟩] (some [3, 12, 13, 14, 15, 17, 37, 38, 39, 46, 47, 48]))
 .skip))
def d_scanref2_TighterOf_k3 (C : Hd) (gl : Nat → Option PV) (v3 v12 v13 v14 v15 v17 v19 v20 v37 v38 v39 v46 v47 v48 : AV) (h : Heap) (x : Esc) (K : Ex → St → Prop) : Prop :=
 pK (oBin .leq v20 v3) fun t1 =>
 gM t1 true v15 h fun t2 h3 y4 =>
 gP t1 true (oUn .not t2) h3 fun t5 h6 y7 =>
 gM t1 true t5 h6 fun t8 h9 y10 =>
 gM t8 false v19 h9 fun t11 h12 y13 =>
 gM t8 false v17 h12 fun t14 h15 y16 =>
 gP t8 false (oBin .sub t11 t14) h15 fun t17 h18 y19 =>
 gM t8 false v14 h18 fun t20 h21 y22 =>
 gM t8 false v13 h21 fun t23 h24 y25 =>
 gP t8 false (oBin .sub t20 t23) h24 fun t26 h27 y28 =>
 gP t8 false (oBin .lss t17 t26) h27 fun t29 h30 y31 =>
 gP t1 true (oPick t8 (.p (.bool true)) t29) h30 fun t32 h33 y34 =>
 pK (oPick t1 t32 (.p (.bool false))) fun t35 =>
 condB t35 (K .normal ⟨[(3, v3), (12, v12), (13, v17), (14, v19), (15, (.p (.bool true))), (17, v17), (37, v37), (38, v38), (39, v39), (46, v46), (47, v47), (48, v48)], h33, (y34 ++ (y31 ++ (y28 ++ (y25 ++ (y22 ++ (y19 ++ (y16 ++ (y13 ++ (y10 ++ (y7 ++ (y4 ++ x)))))))))))⟩)
 (K .normal ⟨[(3, v3), (12, v12), (13, v13), (14, v14), (15, v15), (17, v17), (19, v19), (37, v37), (38, v38), (39, v39), (46, v46), (47, v47), (48, v48), (81, t35)], h33, (y34 ++ (y31 ++ (y28 ++ (y25 ++ (y22 ++ (y19 ++ (y16 ++ (y13 ++ (y10 ++ (y7 ++ (y4 ++ x)))))))))))⟩)
theorem e_scanref2_TighterOf_k3 {C gl e h x K} : NW C gl p_scanref2_TighterOf_k3 ⟨e, h, x⟩ K = d_scanref2_TighterOf_k3 C gl (aget e 3) (aget e 12) (aget e 13) (aget e 14) (aget e 15) (aget e 17) (aget e 19) (aget e 20) (aget e 37) (aget e 38) (aget e 39) (aget e 46) (aget e 47) (aget e 48) h x K := by kernel_rfl
def p_scanref2_TighterOf_k4 : ACode := .pr [3, 12, 13, 14, 15, 17, 37, 38, 39, 46, 47, 48] (.reg [
  ⟨some 84, none, .bin .add (.t 48) (.c (.p (.int .i64 1)))⟩,
  ⟨some 48, none, .mv (.t 84)⟩] (some [3, 12, 13, 14, 15, 17, 37, 38, 39, 46, 47, 48]))
def d_scanref2_TighterOf_k4 (C : Hd) (gl : Nat → Option PV) (v3 v12 v13 v14 v15 v17 v37 v38 v39 v46 v47 v48 : AV) (h : Heap) (x : Esc) (K : Ex → St → Prop) : Prop :=
 pK (oBin .add v48 (.p (.int .i64 1))) fun t1 =>
 K .normal ⟨[(3, v3), (12, v12), (13, v13), (14, v14), (15, v15), (17, v17), (37, v37), (38, v38), (39, v39), (46, v46), (47, v47), (48, t1)], h, x⟩
theorem e_scanref2_TighterOf_k4 {C gl e h x K} : NW C gl p_scanref2_TighterOf_k4 ⟨e, h, x⟩ K = d_scanref2_TighterOf_k4 C gl (aget e 3) (aget e 12) (aget e 13) (aget e 14) (aget e 15) (aget e 17) (aget e 37) (aget e 38) (aget e 39) (aget e 46) (aget e 47) (aget e 48) h x K := by kernel_rfl
def P_scanref2_TighterOf_k5 (q2 q3 q4 : ACode) : ACode := .pr [3, 12, 13, 14, 15, 17, 37, 38, 39, 46, 47, 48] (.seq (.reg [
  ⟨some 49, none, .bin .lss (.t 48) (.t 47)⟩] (some [3, 12, 13, 14, 15, 17, 37, 38, 39, 46, 47, 48, 49]))
 (.seq (.cond (.t 49) .skip
 (.exit 2))
 (.seq (.block 3 (.seq (.reg [
  ⟨some 50, none, .iaddr none (.t 46) (.t 48)⟩,
  ⟨some 51, none, .load none (.t 50)⟩,
  ⟨some 19, none, .mv (.t 51)⟩] (some [3, 12, 13, 14, 15, 17, 19, 37, 38, 39, 46, 47, 48]))
 (.seq (.reg [
  ⟨some 20, none, .mv (.c (.p (.int .i64 0)))⟩] (some [3, 12, 13, 14, 15, 17, 19, 20, 37, 38, 39, 46, 47, 48]))
 (.seq (.seq (.reg [
  ⟨some 52, none, .mv (.t 12)⟩,
  ⟨some 53, none, .len (.t 52)⟩,
  ⟨some 54, none, .mv (.c (.p (.int .i64 0)))⟩] (some [3, 12, 13, 14, 15, 17, 19, 20, 37, 38, 39, 46, 47, 48, 52, 53, 54]))
 (.block 4 (.loop q2)))
 q3))))
 q4)))
def p_scanref2_TighterOf_k5 : ACode := P_scanref2_TighterOf_k5 p_scanref2_TighterOf_k2 p_scanref2_TighterOf_k3 p_scanref2_TighterOf_k4
def d_scanref2_TighterOf_k5 (C : Hd) (gl : Nat → Option PV) (q2 q3 q4 : ACode) (v3 v12 v13 v14 v15 v17 v37 v38 v39 v46 v47 v48 : AV) (h : Heap) (x : Esc) (K : Ex → St → Prop) : Prop :=
 pK (oBin .lss v48 v47) fun t1 =>
 condB t1 (pK (oIaddr none v46 v48 h) fun t2 =>
 pK (oLoad none t2 h) fun t3 =>
 pK (oLen v12) fun t4 =>
 NW C gl (.loop q2) ⟨[(3, v3), (12, v12), (13, v13), (14, v14), (15, v15), (17, v17), (19, t3), (20, (.p (.int .i64 0))), (37, v37), (38, v38), (39, v39), (46, v46), (47, v47), (48, v48), (52, v12), (53, t4), (54, (.p (.int .i64 0)))], h, x⟩ (blockN 4 (seqN C gl q3 (blockN 3 (seqN C gl q4 K)))))
 (K (.exit 2) ⟨[(3, v3), (12, v12), (13, v13), (14, v14), (15, v15), (17, v17), (37, v37), (38, v38), (39, v39), (46, v46), (47, v47), (48, v48), (49, t1)], h, x⟩)
theorem E_scanref2_TighterOf_k5 {C gl q2 q3 q4 e h x K} : NW C gl (P_scanref2_TighterOf_k5 q2 q3 q4) ⟨e, h, x⟩ K = d_scanref2_TighterOf_k5 C gl q2 q3 q4 (aget e 3) (aget e 12) (aget e 13) (aget e 14) (aget e 15) (aget e 17) (aget e 37) (aget e 38) (aget e 39) (aget e 46) (aget e 47) (aget e 48) h x K := by kernel_rfl
theorem e_scanref2_TighterOf_k5 {C gl e h x K} : NW C gl p_scanref2_TighterOf_k5 ⟨e, h, x⟩ K = d_scanref2_TighterOf_k5 C gl p_scanref2_TighterOf_k2 p_scanref2_TighterOf_k3 p_scanref2_TighterOf_k4 (aget e 3) (aget e 12) (aget e 13) (aget e 14) (aget e 15) (aget e 17) (aget e 37) (aget e 38) (aget e 39) (aget e 46) (aget e 47) (aget e 48) h x K := E_scanref2_TighterOf_k5
theorem l_scanref2_TighterOf_k5 {C gl e h x K} : NW C gl (.loop p_scanref2_TighterOf_k5) ⟨e, h, x⟩ K = NLoop C gl p_scanref2_TighterOf_k5 K [(3, aget e 3), (12, aget e 12), (13, aget e 13), (14, aget e 14), (15, aget e 15), (17, aget e 17), (37, aget e 37), (38, aget e 38), (39, aget e 39), (46, aget e 46), (47, aget e 47), (48, aget e 48)] h x := NLoop_pr
def p_scanref2_TighterOf_k6 : ACode := .pr [3, 12, 13, 14, 15, 37, 38, 39] (.reg [
  ⟨some 85, none, .bin .add (.t 39) (.c (.p (.int .i64 1)))⟩,
  ⟨some 39, none, .mv (.t 85)⟩] (some [3, 12, 13, 14, 15, 37, 38, 39]))
def d_scanref2_TighterOf_k6 (C : Hd) (gl : Nat → Option PV) (v3 v12 v13 v14 v15 v37 v38 v39 : AV) (h : Heap) (x : Esc) (K : Ex → St → Prop) : Prop :=
 pK (oBin .add v39 (.p (.int .i64 1))) fun t1 =>
 K .normal ⟨[(3, v3), (12, v12), (13, v13), (14, v14), (15, v15), (37, v37), (38, v38), (39, t1)], h, x⟩
theorem e_scanref2_TighterOf_k6 {C gl e h x K} : NW C gl p_scanref2_TighterOf_k6 ⟨e, h, x⟩ K = d_scanref2_TighterOf_k6 C gl (aget e 3) (aget e 12) (aget e 13) (aget e 14) (aget e 15) (aget e 37) (aget e 38) (aget e 39) h x K := by kernel_rfl
def P_scanref2_TighterOf_k7 (q5 q6 : ACode) : ACode := .pr [3, 12, 13, 14, 15, 37, 38, 39] (.seq (.reg [
  ⟨some 40, none, .bin .lss (.t 39) (.t 38)⟩] (some [3, 12, 13, 14, 15, 37, 38, 39, 40]))
 (.seq (.cond (.t 40) .skip
 (.exit 0))
 (.seq (.block 1 (.seq (.reg [
  ⟨some 41, none, .mv (.t 39)⟩,
  ⟨some 42, none, .iaddr none (.t 37) (.t 39)⟩,
  ⟨some 43, none, .load none (.t 42)⟩,
  ⟨some 16, none, .mv (.t 41)⟩,
  ⟨some 17, none, .mv (.t 43)⟩] (some [3, 12, 13, 14, 15, 16, 17, 37, 38, 39]))
 (.seq (.reg [
  ⟨some 44, none, .mv (.t 12)⟩,
  ⟨some 45, none, .mv (.t 16)⟩,
  ⟨some 46, none, .slice none (.t 44) (some (.t 45)) none none⟩,
  ⟨some 47, none, .len (.t 46)⟩,
  ⟨some 48, none, .mv (.c (.p (.int .i64 0)))⟩] (some [3, 12, 13, 14, 15, 17, 37, 38, 39, 46, 47, 48]))
 (.block 2 (.loop q5)))))
 q6)))
def p_scanref2_TighterOf_k7 : ACode := P_scanref2_TighterOf_k7 p_scanref2_TighterOf_k5 p_scanref2_TighterOf_k6
def d_scanref2_TighterOf_k7 (C : Hd) (gl : Nat → Option PV) (q5 q6 : ACode) (v3 v12 v13 v14 v15 v37 v38 v39 : AV) (h : Heap) (x : Esc) (K : Ex → St → Prop) : Prop :=
 pK (oBin .lss v39 v38) fun t1 =>
 condB t1 (pK (oIaddr none v37 v39 h) fun t2 =>
 pK (oLoad none t2 h) fun t3 =>
 pK (oSlice none v12 (some v39) none none h) fun t4 =>
 pK (oLen t4) fun t5 =>
 NW C gl (.loop q5) ⟨[(3, v3), (12, v12), (13, v13), (14, v14), (15, v15), (17, t3), (37, v37), (38, v38), (39, v39), (46, t4), (47, t5), (48, (.p (.int .i64 0)))], h, x⟩ (blockN 2 (blockN 1 (seqN C gl q6 K))))
 (K (.exit 0) ⟨[(3, v3), (12, v12), (13, v13), (14, v14), (15, v15), (37, v37), (38, v38), (39, v39), (40, t1)], h, x⟩)
theorem E_scanref2_TighterOf_k7 {C gl q5 q6 e h x K} : NW C gl (P_scanref2_TighterOf_k7 q5 q6) ⟨e, h, x⟩ K = d_scanref2_TighterOf_k7 C gl q5 q6 (aget e 3) (aget e 12) (aget e 13) (aget e 14) (aget e 15) (aget e 37) (aget e 38) (aget e 39) h x K := by kernel_rfl
theorem e_scanref2_TighterOf_k7 {C gl e h x K} : NW C gl p_scanref2_TighterOf_k7 ⟨e, h, x⟩ K = d_scanref2_TighterOf_k7 C gl p_scanref2_TighterOf_k5 p_scanref2_TighterOf_k6 (aget e 3) (aget e 12) (aget e 13) (aget e 14) (aget e 15) (aget e 37) (aget e 38) (aget e 39) h x K := E_scanref2_TighterOf_k7
theorem l_scanref2_TighterOf_k7 {C gl e h x K} : NW C gl (.loop p_scanref2_TighterOf_k7) ⟨e, h, x⟩ K = NLoop C gl p_scanref2_TighterOf_k7 K [(3, aget e 3), (12, aget e 12), (13, aget e 13), (14, aget e 14), (15, aget e 15), (37, aget e 37), (38, aget e 38), (39, aget e 39)] h x := NLoop_pr
def p_scanref2_TighterOf_k8 : ACode := .pr [13, 14, 15] (.seq (.reg [
  ⟨some 86, none, .mv (.t 13)⟩,
  ⟨some 87, none, .mv (.t 14)⟩,
  ⟨some 88, none, .mv (.t 15)⟩,
  ⟨some 8, none, .mv (.t 86)⟩,
  ⟨some 9, none, .mv (.t 87)⟩,
  ⟨some 10, none, .mv (.t 88)⟩] (some [8, 9, 10]))
 .ret)
def d_scanref2_TighterOf_k8 (C : Hd) (gl : Nat → Option PV) (v13 v14 v15 : AV) (h : Heap) (x : Esc) (K : Ex → St → Prop) : Prop :=
 K .ret ⟨[(8, v13), (9, v14), (10, v15)], h, x⟩
theorem e_scanref2_TighterOf_k8 {C gl e h x K} : NW C gl p_scanref2_TighterOf_k8 ⟨e, h, x⟩ K = d_scanref2_TighterOf_k8 C gl (aget e 13) (aget e 14) (aget e 15) h x K := by kernel_rfl
def P_scanref2_TighterOf (q7 q8 : ACode) : ACode := (.seq (.reg [
  ⟨some 8, none, .mv (.c (.p (.int .i64 0)))⟩,
  ⟨some 9, none, .mv (.c (.p (.int .i64 0)))⟩,
  ⟨some 10, none, .mv (.c (.p (.bool false)))⟩] (some [0, 1, 2, 3]))
 (.seq (.reg [
  ⟨some 23, none, .mv (.t 0)⟩,
  ⟨some 24, none, .mv (.t 0)⟩,
  ⟨some 25, none, .mv (.t 2)⟩,
  ⟨some 26, none, .call f_scanref2_TestAt [(.t 24), (.t 25)]⟩,
  ⟨some 27, none, .iaddr (some 4) (.t 23) (.t 26)⟩,
  ⟨some 28, none, .load (some 4) (.t 27)⟩,
  ⟨some 11, none, .alloc [.p (.str []), .p (.int .i64 0), .p (.int .i64 0), .p (.int .i64 0)]⟩,
  ⟨none, none, .store (some 4) (.t 11) (.t 28)⟩] (some [0, 1, 2, 3, 11]))
 (.seq (.reg [
  ⟨some 29, none, .mv (.t 0)⟩,
  ⟨some 30, none, .mv (.t 1)⟩,
  ⟨some 31, none, .mv (.t 2)⟩,
  ⟨some 32, none, .call f_scanref2_ValuesOf [(.t 29), (.t 30), (.t 31)]⟩,
  ⟨some 33, none, .mkfn f_scanref2_TighterOf_1 [(.t 11)]⟩,
  ⟨some 34, none, .call f_slices_DeleteFunc_int_int [(.t 32), (.t 33)]⟩,
  ⟨some 12, none, .mv (.t 34)⟩] (some [3, 12]))
 (.seq (.reg [
  ⟨some 35, none, .mv (.t 12)⟩,
  ⟨some 36, none, .call f_slices_Sort_int_int [(.t 35)]⟩] (some [3, 12]))
 (.seq (.reg [
  ⟨some 13, none, .mv (.c (.p (.int .i64 0)))⟩,
  ⟨some 14, none, .mv (.c (.p (.int .i64 0)))⟩,
  ⟨some 15, none, .mv (.c (.p (.bool false)))⟩] (some [3, 12, 13, 14, 15]))
 (.seq (.seq (.reg [
  ⟨some 37, none, .mv (.t 12)⟩,
  ⟨some 38, none, .len (.t 37)⟩,
  ⟨some 39, none, .mv (.c (.p (.int .i64 0)))⟩] (some [3, 12, 13, 14, 15, 37, 38, 39]))
 (.block 0 (.loop q7)))
 q8))))))
def a_scanref2_TighterOf : AFun := ⟨4, [.t 8, .t 9, .t 10], P_scanref2_TighterOf p_scanref2_TighterOf_k7 p_scanref2_TighterOf_k8, false, false⟩
def d_scanref2_TighterOf (C : Hd) (gl : Nat → Option PV) (q7 q8 : ACode) (v0 v1 v2 v3 : AV) (h : Heap) (x : Esc) (K : Ex → St → Prop) : Prop :=
 C f_scanref2_TestAt [v0, v2] h fun t1 h2 y3 =>
 pK (oIaddr (some 4) v0 t1 h2) fun t4 =>
 pK (oLoad (some 4) t4 h2) fun t5 =>
 alK [.p (.str []), .p (.int .i64 0), .p (.int .i64 0), .p (.int .i64 0)] h2 fun t6 h7 y8 =>
 wK (oStore (some 4) t6 t5 h7) fun t9 h10 y11 =>
 C f_scanref2_ValuesOf [v0, v1, v2] h10 fun t12 h13 y14 =>
 C f_slices_DeleteFunc_int_int [t12, (.fn f_scanref2_TighterOf_1 [t6])] h13 fun t15 h16 y17 =>
 C f_slices_Sort_int_int [t15] h16 fun t18 h19 y20 =>
 pK (oLen t15) fun t21 =>
 NW C gl (.loop q7) ⟨[(3, v3), (12, t15), (13, (.p (.int .i64 0))), (14, (.p (.int .i64 0))), (15, (.p (.bool false))), (37, t15), (38, t21), (39, (.p (.int .i64 0)))], h19, (y20 ++ (y17 ++ (y14 ++ (y11 ++ (y8 ++ (y3 ++ x))))))⟩ (blockN 0 (seqN C gl q8 K))
theorem E_scanref2_TighterOf {C gl q7 q8 v0 v1 v2 v3 h x K} : NW C gl (P_scanref2_TighterOf q7 q8) ⟨enter [v0, v1, v2, v3], h, x⟩ K = d_scanref2_TighterOf C gl q7 q8 v0 v1 v2 v3 h x K := by kernel_rfl
theorem e_scanref2_TighterOf {C gl v0 v1 v2 v3 h x K} : NW C gl a_scanref2_TighterOf.body ⟨enter [v0, v1, v2, v3], h, x⟩ K = d_scanref2_TighterOf C gl p_scanref2_TighterOf_k7 p_scanref2_TighterOf_k8 v0 v1 v2 v3 h x K := E_scanref2_TighterOf
def P_scanmake_Stream_Next : ACode := (.seq (.reg [
  ⟨some 4, none, .mv (.c (.p (.int .i64 0)))⟩] (some [0, 1]))
 (.seq (.reg [
  ⟨some 7, none, .mv (.t 0)⟩,
  ⟨some 8, none, .nilchk (.t 7)⟩,
  ⟨some 9, none, .faddr 1 none (.t 8)⟩,
  ⟨some 10, none, .load none (.t 9)⟩,
  ⟨some 11, none, .bin .add (.t 10) (.c (.p (.int .i64 1)))⟩,
  ⟨some 12, none, .nilchk (.t 7)⟩,
  ⟨some 13, none, .faddr 1 none (.t 12)⟩,
  ⟨none, none, .store none (.t 13) (.t 11)⟩] (some [0, 1]))
 (.seq (.seq (.reg [
  ⟨some 14, none, .mv (.t 0)⟩,
  ⟨some 15, none, .nilchk (.t 14)⟩,
  ⟨some 16, none, .faddr 0 none (.t 15)⟩,
  ⟨some 17, none, .load none (.t 16)⟩,
  ⟨some 18, none, .len (.t 17)⟩,
  ⟨some 19, none, .bin .eql (.t 18) (.c (.p (.int .i64 0)))⟩] (some [0, 1, 19]))
 (.cond (.t 19) (.seq (.reg [
  ⟨some 20, none, .mv (.t 0)⟩,
  ⟨some 21, none, .nilchk (.t 20)⟩,
  ⟨some 22, none, .faddr 1 none (.t 21)⟩,
  ⟨some 23, none, .load none (.t 22)⟩,
  ⟨some 24, none, .bin .mul (.t 23) (.c (.p (.int .i64 7919)))⟩,
  ⟨some 25, none, .mv (.t 1)⟩,
  ⟨some 26, none, .call f_scanmake_Below [(.t 24), (.t 25)]⟩,
  ⟨some 4, none, .mv (.t 26)⟩] (some [4]))
 .ret)
 .skip))
 (.seq (.draw [
   ⟨⟨some 27, none, .mv (.t 0)⟩, [0], false, [], []⟩,
   ⟨⟨some 28, none, .nilchk (.t 27)⟩, [27], false, [], []⟩,
   ⟨⟨some 29, none, .faddr 1 none (.t 28)⟩, [28], false, [], []⟩,
   ⟨⟨some 30, none, .load none (.t 29)⟩, [29], false, [], []⟩,
   ⟨⟨some 31, none, .bin .sub (.t 30) (.c (.p (.int .i64 1)))⟩, [30], false, [], []⟩,
   ⟨⟨some 32, none, .mv (.t 0)⟩, [0], false, [], []⟩,
   ⟨⟨some 33, none, .nilchk (.t 32)⟩, [32], false, [], []⟩,
   ⟨⟨some 34, none, .faddr 0 none (.t 33)⟩, [33], false, [], []⟩,
   ⟨⟨some 35, none, .load none (.t 34)⟩, [34], false, [], []⟩,
   ⟨⟨some 36, none, .len (.t 35)⟩, [35], false, [], []⟩,
   ⟨⟨some 37, none, .bin .rem (.t 31) (.t 36)⟩, [31, 36], false, [], []⟩,
   ⟨⟨some 5, none, .mv (.t 37)⟩, [37], false, [], []⟩] (some [0, 1, 5]))
 (.seq (.draw [
   ⟨⟨some 38, none, .mv (.t 0)⟩, [0], false, [], []⟩,
   ⟨⟨some 39, none, .nilchk (.t 38)⟩, [38], false, [], []⟩,
   ⟨⟨some 40, none, .faddr 1 none (.t 39)⟩, [39], false, [], []⟩,
   ⟨⟨some 41, none, .load none (.t 40)⟩, [40], false, [], []⟩,
   ⟨⟨some 42, none, .bin .sub (.t 41) (.c (.p (.int .i64 1)))⟩, [41], false, [], []⟩,
   ⟨⟨some 43, none, .mv (.t 0)⟩, [0], false, [], []⟩,
   ⟨⟨some 44, none, .nilchk (.t 43)⟩, [43], false, [], []⟩,
   ⟨⟨some 45, none, .faddr 0 none (.t 44)⟩, [44], false, [], []⟩,
   ⟨⟨some 46, none, .load none (.t 45)⟩, [45], false, [], []⟩,
   ⟨⟨some 47, none, .len (.t 46)⟩, [46], false, [], []⟩,
   ⟨⟨some 48, none, .bin .quo (.t 42) (.t 47)⟩, [42, 47], false, [], []⟩,
   ⟨⟨some 6, none, .mv (.t 48)⟩, [48], false, [], []⟩] (some [0, 1, 5, 6]))
 (.seq (.reg [
  ⟨some 49, none, .mv (.t 0)⟩,
  ⟨some 50, none, .nilchk (.t 49)⟩,
  ⟨some 51, none, .faddr 0 none (.t 50)⟩,
  ⟨some 52, none, .load none (.t 51)⟩,
  ⟨some 53, none, .mv (.t 5)⟩,
  ⟨some 54, none, .iaddr none (.t 52) (.t 53)⟩,
  ⟨some 55, none, .load none (.t 54)⟩,
  ⟨some 56, none, .call f_scanmake_Below [(.t 55), (.c (.p (.int .i64 1073741824)))]⟩,
  ⟨some 57, none, .mv (.t 6)⟩,
  ⟨some 58, none, .mv (.t 5)⟩,
  ⟨some 59, none, .bin .add (.c (.p (.int .i64 7919))) (.t 58)⟩,
  ⟨some 60, none, .bin .mul (.t 57) (.t 59)⟩,
  ⟨some 61, none, .bin .add (.t 56) (.t 60)⟩,
  ⟨some 62, none, .mv (.t 1)⟩,
  ⟨some 63, none, .call f_scanmake_Below [(.t 61), (.t 62)]⟩,
  ⟨some 4, none, .mv (.t 63)⟩] (some [4]))
 .ret))))))
def a_scanmake_Stream_Next : AFun := ⟨2, [.t 4], P_scanmake_Stream_Next, false, false⟩
def d_scanmake_Stream_Next (C : Hd) (gl : Nat → Option PV) (v0 v1 : AV) (h : Heap) (x : Esc) (K : Ex → St → Prop) : Prop :=
 pK (oNil v0) fun t1 =>
 pK (oFaddr 1 none t1) fun t2 =>
 pK (oLoad none t2 h) fun t3 =>
 pK (oBin .add t3 (.p (.int .i64 1))) fun t4 =>
 pK (oNil v0) fun t5 =>
 pK (oFaddr 1 none t5) fun t6 =>
 wK (oStore none t6 t4 h) fun t7 h8 y9 =>
 pK (oNil v0) fun t10 =>
 pK (oFaddr 0 none t10) fun t11 =>
 pK (oLoad none t11 h8) fun t12 =>
 pK (oLen t12) fun t13 =>
 pK (oBin .eql t13 (.p (.int .i64 0))) fun t14 =>
 condB t14 (pK (oNil v0) fun t15 =>
 pK (oFaddr 1 none t15) fun t16 =>
 pK (oLoad none t16 h8) fun t17 =>
 pK (oBin .mul t17 (.p (.int .i64 7919))) fun t18 =>
 C f_scanmake_Below [t18, v1] h8 fun t19 h20 y21 =>
 K .ret ⟨[(4, t19)], h20, (y21 ++ (y9 ++ x))⟩)
 (pK (oNil v0) fun t22 =>
 pK (oFaddr 1 none t22) fun t23 =>
 pK (oLoad none t23 h8) fun t24 =>
 pK (oBin .sub t24 (.p (.int .i64 1))) fun t25 =>
 pK (oNil v0) fun t26 =>
 pK (oFaddr 0 none t26) fun t27 =>
 pK (oLoad none t27 h8) fun t28 =>
 pK (oLen t28) fun t29 =>
 pK (oBin .rem t25 t29) fun t30 =>
 pK (oNil v0) fun t31 =>
 pK (oFaddr 1 none t31) fun t32 =>
 pK (oLoad none t32 h8) fun t33 =>
 pK (oBin .sub t33 (.p (.int .i64 1))) fun t34 =>
 pK (oNil v0) fun t35 =>
 pK (oFaddr 0 none t35) fun t36 =>
 pK (oLoad none t36 h8) fun t37 =>
 pK (oLen t37) fun t38 =>
 pK (oBin .quo t34 t38) fun t39 =>
 pK (oNil v0) fun t40 =>
 pK (oFaddr 0 none t40) fun t41 =>
 pK (oLoad none t41 h8) fun t42 =>
 pK (oIaddr none t42 t30 h8) fun t43 =>
 pK (oLoad none t43 h8) fun t44 =>
 C f_scanmake_Below [t44, (.p (.int .i64 1073741824))] h8 fun t45 h46 y47 =>
 pK (oBin .add (.p (.int .i64 7919)) t30) fun t48 =>
 pK (oBin .mul t39 t48) fun t49 =>
 pK (oBin .add t45 t49) fun t50 =>
 C f_scanmake_Below [t50, v1] h46 fun t51 h52 y53 =>
 K .ret ⟨[(4, t51)], h52, (y53 ++ (y47 ++ (y9 ++ x)))⟩)
theorem E_scanmake_Stream_Next {C gl v0 v1 h x K} : NW C gl (P_scanmake_Stream_Next) ⟨enter [v0, v1], h, x⟩ K = d_scanmake_Stream_Next C gl v0 v1 h x K := by kernel_rfl
theorem e_scanmake_Stream_Next {C gl v0 v1 h x K} : NW C gl a_scanmake_Stream_Next.body ⟨enter [v0, v1], h, x⟩ K = d_scanmake_Stream_Next C gl v0 v1 h x K := E_scanmake_Stream_Next
def P_lot_valuesFault : ACode := (.seq (.reg [
  ⟨some 4, none, .mv (.c (.p (.int .i64 0)))⟩] (some [0, 1]))
 (.seq (.block 0 (.seq (.reg [
  ⟨some 6, none, .mv (.t 0)⟩,
  ⟨some 7, none, .len (.t 6)⟩,
  ⟨some 8, none, .mv (.t 1)⟩,
  ⟨some 9, none, .bin .lss (.t 7) (.t 8)⟩,
  ⟨some 5, none, .mv (.t 9)⟩] (some [0, 5]))
 (.cond (.t 5) (.seq (.reg [
  ⟨some 4, none, .mv (.c (.p (.int .i64 8)))⟩] (some [4]))
 .ret)
 (.seq (.reg [
  ⟨some 11, none, .mv (.t 0)⟩,
  ⟨some 12, none, .len (.t 11)⟩,
  ⟨some 13, none, .bin .gtr (.t 12) (.c (.p (.int .i64 5000)))⟩,
  ⟨some 10, none, .mv (.t 13)⟩] (some [0, 10]))
 (.cond (.t 10) (.seq (.reg [
  ⟨some 4, none, .mv (.c (.p (.int .i64 2)))⟩] (some [4]))
 .ret)
 (.seq (.reg [
  ⟨some 15, none, .mv (.t 0)⟩,
  ⟨some 16, none, .call f_slices_ContainsFunc_int_int [(.t 15), (.f f_lot_valuesFault_1)]⟩,
  ⟨some 14, none, .mv (.t 16)⟩] (some [14]))
 (.cond (.t 14) (.seq (.reg [
  ⟨some 4, none, .mv (.c (.p (.int .i64 1)))⟩] (some [4]))
 .ret)
 .skip)))))))
 (.seq (.reg [
  ⟨some 4, none, .mv (.c (.p (.int .i64 0)))⟩] (some [4]))
 .ret)))
def a_lot_valuesFault : AFun := ⟨2, [.t 4], P_lot_valuesFault, false, false⟩
def d_lot_valuesFault (C : Hd) (gl : Nat → Option PV) (v0 v1 : AV) (h : Heap) (x : Esc) (K : Ex → St → Prop) : Prop :=
 pK (oLen v0) fun t1 =>
 pK (oBin .lss t1 v1) fun t2 =>
 condB t2 (K .ret ⟨[(4, (.p (.int .i64 8)))], h, x⟩)
 (pK (oLen v0) fun t3 =>
 pK (oBin .gtr t3 (.p (.int .i64 5000))) fun t4 =>
 condB t4 (K .ret ⟨[(4, (.p (.int .i64 2)))], h, x⟩)
 (C f_slices_ContainsFunc_int_int [v0, (.fn f_lot_valuesFault_1 [])] h fun t5 h6 y7 =>
 condB t5 (K .ret ⟨[(4, (.p (.int .i64 1)))], h6, (y7 ++ x)⟩)
 (K .ret ⟨[(4, (.p (.int .i64 0)))], h6, (y7 ++ x)⟩)))
theorem E_lot_valuesFault {C gl v0 v1 h x K} : NW C gl (P_lot_valuesFault) ⟨enter [v0, v1], h, x⟩ K = d_lot_valuesFault C gl v0 v1 h x K := by kernel_rfl
theorem e_lot_valuesFault {C gl v0 v1 h x K} : NW C gl a_lot_valuesFault.body ⟨enter [v0, v1], h, x⟩ K = d_lot_valuesFault C gl v0 v1 h x K := E_lot_valuesFault
def p_lot_sums_k1 : ACode := .pr [0, 2, 4, 7, 8, 9] (.seq (.reg [
  ⟨some 10, none, .bin .lss (.t 9) (.t 8)⟩] (some [0, 2, 4, 7, 8, 9, 10]))
 (.seq (.cond (.t 10) .skip
 (.exit 0))
 (.seq (.block 1 (.seq (.reg [
  ⟨some 11, none, .iaddr none (.t 7) (.t 9)⟩,
  ⟨some 12, none, .load none (.t 11)⟩,
  ⟨some 6, none, .mv (.t 12)⟩] (some [0, 2, 4, 6, 7, 8, 9]))
 (.seq (.reg [
  ⟨some 13, none, .mv (.t 2)⟩,
  ⟨some 14, none, .mv (.t 6)⟩,
  ⟨some 15, none, .bin .add (.t 13) (.t 14)⟩,
  ⟨some 2, none, .mv (.t 15)⟩] (some [0, 2, 4, 6, 7, 8, 9]))
 (.reg [
  ⟨some 16, none, .mv (.t 4)⟩,
  ⟨some 17, none, .mv (.t 6)⟩,
  ⟨some 18, none, .mv (.t 6)⟩,
  ⟨some 19, none, .bin .mul (.t 17) (.t 18)⟩,
  ⟨some 20, none, .bin .add (.t 16) (.t 19)⟩,
  ⟨some 4, none, .mv (.t 20)⟩] (some [0, 2, 4, 7, 8, 9])))))
 (.reg [
  ⟨some 21, none, .bin .add (.t 9) (.c (.p (.int .i64 1)))⟩,
  ⟨some 9, none, .mv (.t 21)⟩] (some [0, 2, 4, 7, 8, 9])))))
def d_lot_sums_k1 (C : Hd) (gl : Nat → Option PV) (v0 v2 v4 v7 v8 v9 : AV) (h : Heap) (x : Esc) (K : Ex → St → Prop) : Prop :=
 pK (oBin .lss v9 v8) fun t1 =>
 condB t1 (pK (oIaddr none v7 v9 h) fun t2 =>
 pK (oLoad none t2 h) fun t3 =>
 pK (oBin .add v2 t3) fun t4 =>
 pK (oBin .mul t3 t3) fun t5 =>
 pK (oBin .add v4 t5) fun t6 =>
 pK (oBin .add v9 (.p (.int .i64 1))) fun t7 =>
 K .normal ⟨[(0, v0), (2, t4), (4, t6), (7, v7), (8, v8), (9, t7)], h, x⟩)
 (K (.exit 0) ⟨[(0, v0), (2, v2), (4, v4), (7, v7), (8, v8), (9, v9), (10, t1)], h, x⟩)
theorem e_lot_sums_k1 {C gl e h x K} : NW C gl p_lot_sums_k1 ⟨e, h, x⟩ K = d_lot_sums_k1 C gl (aget e 0) (aget e 2) (aget e 4) (aget e 7) (aget e 8) (aget e 9) h x K := by kernel_rfl
theorem l_lot_sums_k1 {C gl e h x K} : NW C gl (.loop p_lot_sums_k1) ⟨e, h, x⟩ K = NLoop C gl p_lot_sums_k1 K [(0, aget e 0), (2, aget e 2), (4, aget e 4), (7, aget e 7), (8, aget e 8), (9, aget e 9)] h x := NLoop_pr
def p_lot_sums_k2 : ACode := .pr [0, 2, 4] (.seq (.reg [
  ⟨some 22, none, .mv (.t 2)⟩,
  ⟨some 23, none, .mv (.t 0)⟩,
  ⟨some 24, none, .len (.t 23)⟩,
  ⟨some 25, none, .mv (.t 4)⟩,
  ⟨some 26, none, .bin .mul (.t 24) (.t 25)⟩,
  ⟨some 27, none, .mv (.t 2)⟩,
  ⟨some 28, none, .mv (.t 2)⟩,
  ⟨some 29, none, .bin .mul (.t 27) (.t 28)⟩,
  ⟨some 30, none, .bin .sub (.t 26) (.t 29)⟩,
  ⟨some 2, none, .mv (.t 22)⟩,
  ⟨some 3, none, .mv (.t 30)⟩] (some [2, 3]))
 .ret)
def d_lot_sums_k2 (C : Hd) (gl : Nat → Option PV) (v0 v2 v4 : AV) (h : Heap) (x : Esc) (K : Ex → St → Prop) : Prop :=
 pK (oLen v0) fun t1 =>
 pK (oBin .mul t1 v4) fun t2 =>
 pK (oBin .mul v2 v2) fun t3 =>
 pK (oBin .sub t2 t3) fun t4 =>
 K .ret ⟨[(2, v2), (3, t4)], h, x⟩
theorem e_lot_sums_k2 {C gl e h x K} : NW C gl p_lot_sums_k2 ⟨e, h, x⟩ K = d_lot_sums_k2 C gl (aget e 0) (aget e 2) (aget e 4) h x K := by kernel_rfl
def P_lot_sums (q1 q2 : ACode) : ACode := (.seq (.reg [
  ⟨some 2, none, .mv (.c (.p (.int .i64 0)))⟩,
  ⟨some 3, none, .mv (.c (.p (.int .i64 0)))⟩] (some [0, 2]))
 (.seq (.reg [
  ⟨some 4, none, .mv (.c (.p (.int .i64 0)))⟩] (some [0, 2, 4]))
 (.seq (.seq (.reg [
  ⟨some 7, none, .mv (.t 0)⟩,
  ⟨some 8, none, .len (.t 7)⟩,
  ⟨some 9, none, .mv (.c (.p (.int .i64 0)))⟩] (some [0, 2, 4, 7, 8, 9]))
 (.block 0 (.loop q1)))
 q2)))
def a_lot_sums : AFun := ⟨1, [.t 2, .t 3], P_lot_sums p_lot_sums_k1 p_lot_sums_k2, false, false⟩
def d_lot_sums (C : Hd) (gl : Nat → Option PV) (q1 q2 : ACode) (v0 : AV) (h : Heap) (x : Esc) (K : Ex → St → Prop) : Prop :=
 pK (oLen v0) fun t1 =>
 NW C gl (.loop q1) ⟨[(0, v0), (2, (.p (.int .i64 0))), (4, (.p (.int .i64 0))), (7, v0), (8, t1), (9, (.p (.int .i64 0)))], h, x⟩ (blockN 0 (seqN C gl q2 K))
theorem E_lot_sums {C gl q1 q2 v0 h x K} : NW C gl (P_lot_sums q1 q2) ⟨enter [v0], h, x⟩ K = d_lot_sums C gl q1 q2 v0 h x K := by kernel_rfl
theorem e_lot_sums {C gl v0 h x K} : NW C gl a_lot_sums.body ⟨enter [v0], h, x⟩ K = d_lot_sums C gl p_lot_sums_k1 p_lot_sums_k2 v0 h x K := E_lot_sums
def P_base_Fraction : ACode := (.seq (.reg [
  ⟨some 4, none, .alloc [.p (.int .i64 0), .p (.int .i64 0)]⟩] (some [0, 1, 4]))
 (.seq (.reg [
  ⟨some 6, none, .mv (.t 0)⟩,
  ⟨some 7, none, .mv (.t 0)⟩,
  ⟨some 8, none, .un .neg (.t 7)⟩,
  ⟨some 9, none, .mx [(.t 6), (.t 8)]⟩,
  ⟨some 10, none, .mv (.t 1)⟩,
  ⟨some 11, none, .call f_base_Gcd [(.t 9), (.t 10)]⟩,
  ⟨some 5, none, .mv (.t 11)⟩] (some [0, 1, 4, 5]))
 (.seq (.draw [
   ⟨⟨some 12, none, .mv (.t 0)⟩, [0], false, [], []⟩,
   ⟨⟨some 13, none, .mv (.t 5)⟩, [5], false, [], []⟩,
   ⟨⟨some 14, none, .bin .quo (.t 12) (.t 13)⟩, [12, 13], false, [], []⟩,
   ⟨⟨some 15, none, .mv (.t 1)⟩, [1], false, [], []⟩,
   ⟨⟨some 16, none, .mv (.t 5)⟩, [5], false, [], []⟩,
   ⟨⟨some 17, none, .bin .quo (.t 15) (.t 16)⟩, [15, 16], false, [], []⟩,
   ⟨⟨some 18, none, .build [.p (.int .i64 0), .p (.int .i64 0)] [(0, 1, (.t 14)), (1, 1, (.t 17))]⟩, [14, 17], false, [], []⟩,
   ⟨⟨none, none, .store (some 2) (.t 4) (.t 18)⟩, [4, 18], true, [], []⟩] (some [4]))
 .ret)))
def a_base_Fraction : AFun := ⟨2, [.cell 4 (some 2)], P_base_Fraction, false, false⟩
def d_base_Fraction (C : Hd) (gl : Nat → Option PV) (v0 v1 : AV) (h : Heap) (x : Esc) (K : Ex → St → Prop) : Prop :=
 alK [.p (.int .i64 0), .p (.int .i64 0)] h fun t1 h2 y3 =>
 pK (oUn .neg v0) fun t4 =>
 pK (oMx [v0, t4]) fun t5 =>
 C f_base_Gcd [t5, v1] h2 fun t6 h7 y8 =>
 pK (oBin .quo v0 t6) fun t9 =>
 pK (oBin .quo v1 t6) fun t10 =>
 pK (oBuild [.p (.int .i64 0), .p (.int .i64 0)] [(0, 1, t9), (1, 1, t10)]) fun t11 =>
 wK (oStore (some 2) t1 t11 h7) fun t12 h13 y14 =>
 K .ret ⟨[(4, t1)], h13, (y14 ++ (y8 ++ (y3 ++ x)))⟩
theorem E_base_Fraction {C gl v0 v1 h x K} : NW C gl (P_base_Fraction) ⟨enter [v0, v1], h, x⟩ K = d_base_Fraction C gl v0 v1 h x K := by kernel_rfl
theorem e_base_Fraction {C gl v0 v1 h x K} : NW C gl a_base_Fraction.body ⟨enter [v0, v1], h, x⟩ K = d_base_Fraction C gl v0 v1 h x K := E_base_Fraction
def P_base_Out : ACode := (.seq (.reg [
  ⟨some 6, none, .mv (.c (.p (.bool false)))⟩] (some [0, 1, 2]))
 (.seq (.reg [
  ⟨some 7, none, .mv (.t 0)⟩,
  ⟨some 8, none, .mv (.t 1)⟩,
  ⟨some 9, none, .bin .lss (.t 7) (.t 8)⟩,
  ⟨some 10, none, .mv (.t 9)⟩,
  ⟨some 11, (some (10, false)), .mv (.t 0)⟩,
  ⟨some 12, (some (10, false)), .mv (.t 2)⟩,
  ⟨some 13, (some (10, false)), .bin .gtr (.t 11) (.t 12)⟩,
  ⟨some 14, none, .pick (.t 10) (.c (.p (.bool true))) (.t 13)⟩,
  ⟨some 6, none, .mv (.t 14)⟩] (some [6]))
 .ret))
def a_base_Out : AFun := ⟨3, [.t 6], P_base_Out, false, false⟩
def d_base_Out (C : Hd) (gl : Nat → Option PV) (v0 v1 v2 : AV) (h : Heap) (x : Esc) (K : Ex → St → Prop) : Prop :=
 pK (oBin .lss v0 v1) fun t1 =>
 gM t1 false v0 h fun t2 h3 y4 =>
 gM t1 false v2 h3 fun t5 h6 y7 =>
 gP t1 false (oBin .gtr t2 t5) h6 fun t8 h9 y10 =>
 pK (oPick t1 (.p (.bool true)) t8) fun t11 =>
 K .ret ⟨[(6, t11)], h9, (y10 ++ (y7 ++ (y4 ++ x)))⟩
theorem E_base_Out {C gl v0 v1 v2 h x K} : NW C gl (P_base_Out) ⟨enter [v0, v1, v2], h, x⟩ K = d_base_Out C gl v0 v1 v2 h x K := by kernel_rfl
theorem e_base_Out {C gl v0 v1 v2 h x K} : NW C gl a_base_Out.body ⟨enter [v0, v1, v2], h, x⟩ K = d_base_Out C gl v0 v1 v2 h x K := E_base_Out
def P_slices_ContainsFunc_int_int : ACode := (.seq (.reg [
  ⟨some 4, none, .mv (.c (.p (.bool false)))⟩] (some [0, 1]))
 (.seq (.reg [
  ⟨some 5, none, .mv (.t 0)⟩,
  ⟨some 6, none, .mv (.t 1)⟩,
  ⟨some 7, none, .call f_slices_IndexFunc_int_int [(.t 5), (.t 6)]⟩,
  ⟨some 8, none, .bin .geq (.t 7) (.c (.p (.int .i64 0)))⟩,
  ⟨some 4, none, .mv (.t 8)⟩] (some [4]))
 .ret))
def a_slices_ContainsFunc_int_int : AFun := ⟨2, [.t 4], P_slices_ContainsFunc_int_int, true, false⟩
def d_slices_ContainsFunc_int_int (C : Hd) (gl : Nat → Option PV) (v0 v1 : AV) (h : Heap) (x : Esc) (K : Ex → St → Prop) : Prop :=
 C f_slices_IndexFunc_int_int [v0, v1] h fun t1 h2 y3 =>
 pK (oBin .geq t1 (.p (.int .i64 0))) fun t4 =>
 K .ret ⟨[(4, t4)], h2, (y3 ++ x)⟩
theorem E_slices_ContainsFunc_int_int {C gl v0 v1 h x K} : NW C gl (P_slices_ContainsFunc_int_int) ⟨enter [v0, v1], h, x⟩ K = d_slices_ContainsFunc_int_int C gl v0 v1 h x K := by kernel_rfl
theorem e_slices_ContainsFunc_int_int {C gl v0 v1 h x K} : NW C gl a_slices_ContainsFunc_int_int.body ⟨enter [v0, v1], h, x⟩ K = d_slices_ContainsFunc_int_int C gl v0 v1 h x K := E_slices_ContainsFunc_int_int
def P_scanref2_in : ACode := (.seq (.reg [
  ⟨some 6, none, .mv (.c (.p (.bool false)))⟩] (some [0, 1, 2]))
 (.seq (.reg [
  ⟨some 7, none, .mv (.t 1)⟩,
  ⟨some 8, none, .mv (.t 0)⟩,
  ⟨some 9, none, .bin .leq (.t 7) (.t 8)⟩,
  ⟨some 10, none, .mv (.t 9)⟩,
  ⟨some 11, (some (10, true)), .mv (.t 0)⟩,
  ⟨some 12, (some (10, true)), .mv (.t 2)⟩,
  ⟨some 13, (some (10, true)), .bin .leq (.t 11) (.t 12)⟩,
  ⟨some 14, none, .pick (.t 10) (.t 13) (.c (.p (.bool false)))⟩,
  ⟨some 6, none, .mv (.t 14)⟩] (some [6]))
 .ret))
def a_scanref2_in : AFun := ⟨3, [.t 6], P_scanref2_in, false, false⟩
def d_scanref2_in (C : Hd) (gl : Nat → Option PV) (v0 v1 v2 : AV) (h : Heap) (x : Esc) (K : Ex → St → Prop) : Prop :=
 pK (oBin .leq v1 v0) fun t1 =>
 gM t1 true v0 h fun t2 h3 y4 =>
 gM t1 true v2 h3 fun t5 h6 y7 =>
 gP t1 true (oBin .leq t2 t5) h6 fun t8 h9 y10 =>
 pK (oPick t1 t8 (.p (.bool false))) fun t11 =>
 K .ret ⟨[(6, t11)], h9, (y10 ++ (y7 ++ (y4 ++ x)))⟩
theorem E_scanref2_in {C gl v0 v1 v2 h x K} : NW C gl (P_scanref2_in) ⟨enter [v0, v1, v2], h, x⟩ K = d_scanref2_in C gl v0 v1 v2 h x K := by kernel_rfl
theorem e_scanref2_in {C gl v0 v1 v2 h x K} : NW C gl a_scanref2_in.body ⟨enter [v0, v1, v2], h, x⟩ K = d_scanref2_in C gl v0 v1 v2 h x K := E_scanref2_in
def P_scanref2_sign : ACode := (.seq (.reg [
  ⟨some 2, none, .mv (.c (.p (.int .i64 0)))⟩] (some [0]))
 (.seq (.block 0 (.seq (.reg [
  ⟨some 4, none, .mv (.t 0)⟩,
  ⟨some 5, none, .bin .lss (.t 4) (.c (.p (.int .i64 0)))⟩,
  ⟨some 3, none, .mv (.t 5)⟩] (some [0, 3]))
 (.cond (.t 3) (.seq (.reg [
  ⟨some 2, none, .mv (.c (.p (.int .i64 (-1))))⟩] (some [2]))
 .ret)
 (.seq (.reg [
  ⟨some 7, none, .mv (.t 0)⟩,
  ⟨some 8, none, .bin .gtr (.t 7) (.c (.p (.int .i64 0)))⟩,
  ⟨some 6, none, .mv (.t 8)⟩] (some [6]))
 (.cond (.t 6) (.seq (.reg [
  ⟨some 2, none, .mv (.c (.p (.int .i64 1)))⟩] (some [2]))
 .ret)
 .skip)))))
 (.seq (.reg [
  ⟨some 2, none, .mv (.c (.p (.int .i64 0)))⟩] (some [2]))
 .ret)))
def a_scanref2_sign : AFun := ⟨1, [.t 2], P_scanref2_sign, false, false⟩
def d_scanref2_sign (C : Hd) (gl : Nat → Option PV) (v0 : AV) (h : Heap) (x : Esc) (K : Ex → St → Prop) : Prop :=
 pK (oBin .lss v0 (.p (.int .i64 0))) fun t1 =>
 condB t1 (K .ret ⟨[(2, (.p (.int .i64 (-1))))], h, x⟩)
 (pK (oBin .gtr v0 (.p (.int .i64 0))) fun t2 =>
 condB t2 (K .ret ⟨[(2, (.p (.int .i64 1)))], h, x⟩)
 (K .ret ⟨[(2, (.p (.int .i64 0)))], h, x⟩))
theorem E_scanref2_sign {C gl v0 h x K} : NW C gl (P_scanref2_sign) ⟨enter [v0], h, x⟩ K = d_scanref2_sign C gl v0 h x K := by kernel_rfl
theorem e_scanref2_sign {C gl v0 h x K} : NW C gl a_scanref2_sign.body ⟨enter [v0], h, x⟩ K = d_scanref2_sign C gl v0 h x K := E_scanref2_sign
def P_slices_SortStableFunc_api_Record_api_Record : ACode := (.reg [
  ⟨some 4, none, .mv (.t 0)⟩,
  ⟨some 5, none, .mv (.t 0)⟩,
  ⟨some 6, none, .len (.t 5)⟩,
  ⟨some 7, none, .mv (.t 1)⟩,
  ⟨some 8, none, .call f_slices_stableCmpFunc_api_Record [(.t 4), (.t 6), (.t 7)]⟩] (some []))
def a_slices_SortStableFunc_api_Record_api_Record : AFun := ⟨2, [], P_slices_SortStableFunc_api_Record_api_Record, true, false⟩
def d_slices_SortStableFunc_api_Record_api_Record (C : Hd) (gl : Nat → Option PV) (v0 v1 : AV) (h : Heap) (x : Esc) (K : Ex → St → Prop) : Prop :=
 pK (oLen v0) fun t1 =>
 C f_slices_stableCmpFunc_api_Record [v0, t1, v1] h fun t2 h3 y4 =>
 K .normal ⟨[], h3, (y4 ++ x)⟩
theorem E_slices_SortStableFunc_api_Record_api_Record {C gl v0 v1 h x K} : NW C gl (P_slices_SortStableFunc_api_Record_api_Record) ⟨enter [v0, v1], h, x⟩ K = d_slices_SortStableFunc_api_Record_api_Record C gl v0 v1 h x K := by kernel_rfl
theorem e_slices_SortStableFunc_api_Record_api_Record {C gl v0 v1 h x K} : NW C gl a_slices_SortStableFunc_api_Record_api_Record.body ⟨enter [v0, v1], h, x⟩ K = d_slices_SortStableFunc_api_Record_api_Record C gl v0 v1 h x K := E_slices_SortStableFunc_api_Record_api_Record
def P_scanmake_Stream_Records_1 : ACode := (.seq (.reg [
  ⟨some 2, none, .box (.t 0)⟩,
  ⟨some 3, none, .box (.t 1)⟩,
  ⟨some 4, none, .mv (.c (.p (.int .i64 0)))⟩] (some [2, 3]))
 (.seq (.draw [
   ⟨⟨some 5, none, .faddr 1 none (.t 2)⟩, [2], false, [], []⟩,
   ⟨⟨some 6, none, .load none (.t 5)⟩, [5], false, [], []⟩,
   ⟨⟨some 7, none, .faddr 1 none (.t 3)⟩, [3], false, [], []⟩,
   ⟨⟨some 8, none, .load none (.t 7)⟩, [7], false, [], []⟩,
   ⟨⟨some 9, none, .call f_cmp_Compare_int [(.t 6), (.t 8)]⟩, [6, 8], true, [], []⟩,
   ⟨⟨some 10, none, .faddr 0 none (.t 2)⟩, [2], false, [], []⟩,
   ⟨⟨some 11, none, .load none (.t 10)⟩, [10], false, [4], []⟩,
   ⟨⟨some 12, none, .faddr 0 none (.t 3)⟩, [3], false, [], []⟩,
   ⟨⟨some 13, none, .load none (.t 12)⟩, [12], false, [4], []⟩,
   ⟨⟨some 14, none, .call f_strings_Compare [(.t 11), (.t 13)]⟩, [11, 13], true, [], []⟩,
   ⟨⟨some 15, none, .bsl false none 2 (.int .i64 0) [(0, (.t 9)), (1, (.t 14))]⟩, [9, 14], false, [], []⟩,
   ⟨⟨some 16, none, .call f_cmp_Or_int [(.t 15)]⟩, [15], true, [], []⟩,
   ⟨⟨some 4, none, .mv (.t 16)⟩, [16], false, [], []⟩] (some [4]))
 .ret))
def a_scanmake_Stream_Records_1 : AFun := ⟨2, [.t 4], P_scanmake_Stream_Records_1, false, false⟩
def d_scanmake_Stream_Records_1 (C : Hd) (gl : Nat → Option PV) (v0 v1 : AV) (h : Heap) (x : Esc) (K : Ex → St → Prop) : Prop :=
 wK (oBox v0 h) fun t1 h2 y3 =>
 wK (oBox v1 h2) fun t4 h5 y6 =>
 pK (oFaddr 1 none t1) fun t7 =>
 pK (oLoad none t7 h5) fun t8 =>
 pK (oFaddr 1 none t4) fun t9 =>
 pK (oLoad none t9 h5) fun t10 =>
 callE C f_cmp_Compare_int [t8, t10] h5 fun t11 h12 y13 =>
 pK (oFaddr 0 none t1) fun t14 =>
 pK (oLoad none t14 h12) fun t15 =>
 (pK (oLoad none t14 h5) fun v => (fun u (g1 : Heap) (y1 : Esc) => u = t15 ∧ g1 = h5 ∧ y1 = []) v h5 []) ∧ (pK (oFaddr 0 none t4) fun t16 =>
 pK (oLoad none t16 h12) fun t17 =>
 (pK (oLoad none t16 h5) fun v => (fun u (g1 : Heap) (y1 : Esc) => u = t17 ∧ g1 = h5 ∧ y1 = []) v h5 []) ∧ (callE C f_strings_Compare [t15, t17] h12 fun t18 h19 y20 =>
 wK (oBsl false none 2 (.int .i64 0) [(0, t11), (1, t18)] h19) fun t21 h22 y23 =>
 (h22 = h19 ∧ y23 = []) ∧ (callE C f_cmp_Or_int [t21] h22 fun t24 h25 y26 =>
 K .ret ⟨[(4, t24)], h25, (y26 ++ (y23 ++ (y20 ++ (y13 ++ (y6 ++ (y3 ++ x))))))⟩)))
theorem E_scanmake_Stream_Records_1 {C gl v0 v1 h x K} : NW C gl (P_scanmake_Stream_Records_1) ⟨enter [v0, v1], h, x⟩ K = d_scanmake_Stream_Records_1 C gl v0 v1 h x K := by kernel_rfl
theorem e_scanmake_Stream_Records_1 {C gl v0 v1 h x K} : NW C gl a_scanmake_Stream_Records_1.body ⟨enter [v0, v1], h, x⟩ K = d_scanmake_Stream_Records_1 C gl v0 v1 h x K := E_scanmake_Stream_Records_1
def p_cmp_Or_int_k1 : ACode := .pr [3, 6, 7, 8] (.seq (.reg [
  ⟨some 9, none, .bin .lss (.t 8) (.t 7)⟩] (some [3, 6, 7, 8, 9]))
 (.seq (.cond (.t 9) .skip
 (.exit 0))
 (.seq (.block 1 (.seq (.reg [
  ⟨some 10, none, .iaddr none (.t 6) (.t 8)⟩,
  ⟨some 11, none, .load none (.t 10)⟩,
  ⟨some 5, none, .mv (.t 11)⟩] (some [3, 5, 6, 7, 8]))
 (.seq (.reg [
  ⟨some 12, none, .mv (.t 5)⟩,
  ⟨some 13, none, .mv (.t 3)⟩,
  ⟨some 14, none, .bin .neq (.t 12) (.t 13)⟩] (some [3, 5, 6, 7, 8, 14]))
 (.cond (.t 14) (.seq (.reg [
  ⟨some 15, none, .mv (.t 5)⟩,
  ⟨some 2, none, .mv (.t 15)⟩] (some [2]))
 .ret)
 .skip))))
 (.reg [
  ⟨some 16, none, .bin .add (.t 8) (.c (.p (.int .i64 1)))⟩,
  ⟨some 8, none, .mv (.t 16)⟩] (some [3, 6, 7, 8])))))
def d_cmp_Or_int_k1 (C : Hd) (gl : Nat → Option PV) (v3 v6 v7 v8 : AV) (h : Heap) (x : Esc) (K : Ex → St → Prop) : Prop :=
 pK (oBin .lss v8 v7) fun t1 =>
 condB t1 (pK (oIaddr none v6 v8 h) fun t2 =>
 pK (oLoad none t2 h) fun t3 =>
 pK (oBin .neq t3 v3) fun t4 =>
 condB t4 (K .ret ⟨[(2, t3)], h, x⟩)
 (pK (oBin .add v8 (.p (.int .i64 1))) fun t5 =>
 K .normal ⟨[(3, v3), (6, v6), (7, v7), (8, t5)], h, x⟩))
 (K (.exit 0) ⟨[(3, v3), (6, v6), (7, v7), (8, v8), (9, t1)], h, x⟩)
theorem e_cmp_Or_int_k1 {C gl e h x K} : NW C gl p_cmp_Or_int_k1 ⟨e, h, x⟩ K = d_cmp_Or_int_k1 C gl (aget e 3) (aget e 6) (aget e 7) (aget e 8) h x K := by kernel_rfl
theorem l_cmp_Or_int_k1 {C gl e h x K} : NW C gl (.loop p_cmp_Or_int_k1) ⟨e, h, x⟩ K = NLoop C gl p_cmp_Or_int_k1 K [(3, aget e 3), (6, aget e 6), (7, aget e 7), (8, aget e 8)] h x := NLoop_pr
def p_cmp_Or_int_k2 : ACode := .pr [3] (.seq (.reg [
  ⟨some 17, none, .mv (.t 3)⟩,
  ⟨some 2, none, .mv (.t 17)⟩] (some [2]))
 .ret)
def d_cmp_Or_int_k2 (C : Hd) (gl : Nat → Option PV) (v3 : AV) (h : Heap) (x : Esc) (K : Ex → St → Prop) : Prop :=
 K .ret ⟨[(2, v3)], h, x⟩
theorem e_cmp_Or_int_k2 {C gl e h x K} : NW C gl p_cmp_Or_int_k2 ⟨e, h, x⟩ K = d_cmp_Or_int_k2 C gl (aget e 3) h x K := by kernel_rfl
def P_cmp_Or_int (q1 q2 : ACode) : ACode := (.seq (.reg [
  ⟨some 2, none, .mv (.c (.p (.int .i64 0)))⟩] (some [0]))
 (.seq (.reg [
  ⟨some 3, none, .mv (.c (.p (.int .i64 0)))⟩] (some [0, 3]))
 (.seq (.seq (.reg [
  ⟨some 6, none, .mv (.t 0)⟩,
  ⟨some 7, none, .len (.t 6)⟩,
  ⟨some 8, none, .mv (.c (.p (.int .i64 0)))⟩] (some [3, 6, 7, 8]))
 (.block 0 (.loop q1)))
 q2)))
def a_cmp_Or_int : AFun := ⟨1, [.t 2], P_cmp_Or_int p_cmp_Or_int_k1 p_cmp_Or_int_k2, false, false⟩
def d_cmp_Or_int (C : Hd) (gl : Nat → Option PV) (q1 q2 : ACode) (v0 : AV) (h : Heap) (x : Esc) (K : Ex → St → Prop) : Prop :=
 pK (oLen v0) fun t1 =>
 NW C gl (.loop q1) ⟨[(3, (.p (.int .i64 0))), (6, v0), (7, t1), (8, (.p (.int .i64 0)))], h, x⟩ (blockN 0 (seqN C gl q2 K))
theorem E_cmp_Or_int {C gl q1 q2 v0 h x K} : NW C gl (P_cmp_Or_int q1 q2) ⟨enter [v0], h, x⟩ K = d_cmp_Or_int C gl q1 q2 v0 h x K := by kernel_rfl
theorem e_cmp_Or_int {C gl v0 h x K} : NW C gl a_cmp_Or_int.body ⟨enter [v0], h, x⟩ K = d_cmp_Or_int C gl p_cmp_Or_int_k1 p_cmp_Or_int_k2 v0 h x K := E_cmp_Or_int
def P_cmp_Compare_int : ACode := (.seq (.reg [
  ⟨some 4, none, .mv (.c (.p (.int .i64 0)))⟩] (some [0, 1]))
 (.seq (.reg [
  ⟨some 7, none, .mv (.t 0)⟩,
  ⟨some 8, none, .call f_cmp_isNaN_int [(.t 7)]⟩,
  ⟨some 5, none, .mv (.t 8)⟩] (some [0, 1, 5]))
 (.seq (.reg [
  ⟨some 9, none, .mv (.t 1)⟩,
  ⟨some 10, none, .call f_cmp_isNaN_int [(.t 9)]⟩,
  ⟨some 6, none, .mv (.t 10)⟩] (some [0, 1, 5, 6]))
 (.seq (.seq (.reg [
  ⟨some 11, none, .mv (.t 5)⟩] (some [0, 1, 6, 11]))
 (.cond (.t 11) (.seq (.seq (.reg [
  ⟨some 12, none, .mv (.t 6)⟩] (some [12]))
 (.cond (.t 12) (.seq (.reg [
  ⟨some 4, none, .mv (.c (.p (.int .i64 0)))⟩] (some [4]))
 .ret)
 .skip))
 (.seq (.reg [
  ⟨some 4, none, .mv (.c (.p (.int .i64 (-1))))⟩] (some [4]))
 .ret))
 .skip))
 (.seq (.seq (.reg [
  ⟨some 13, none, .mv (.t 6)⟩] (some [0, 1, 13]))
 (.cond (.t 13) (.seq (.reg [
  ⟨some 4, none, .mv (.c (.p (.int .i64 1)))⟩] (some [4]))
 .ret)
 .skip))
 (.seq (.seq (.reg [
  ⟨some 14, none, .mv (.t 0)⟩,
  ⟨some 15, none, .mv (.t 1)⟩,
  ⟨some 16, none, .bin .lss (.t 14) (.t 15)⟩] (some [0, 1, 16]))
 (.cond (.t 16) (.seq (.reg [
  ⟨some 4, none, .mv (.c (.p (.int .i64 (-1))))⟩] (some [4]))
 .ret)
 .skip))
 (.seq (.seq (.reg [
  ⟨some 17, none, .mv (.t 0)⟩,
  ⟨some 18, none, .mv (.t 1)⟩,
  ⟨some 19, none, .bin .gtr (.t 17) (.t 18)⟩] (some [19]))
 (.cond (.t 19) (.seq (.reg [
  ⟨some 4, none, .mv (.c (.p (.int .i64 1)))⟩] (some [4]))
 .ret)
 .skip))
 (.seq (.reg [
  ⟨some 4, none, .mv (.c (.p (.int .i64 0)))⟩] (some [4]))
 .ret))))))))
def a_cmp_Compare_int : AFun := ⟨2, [.t 4], P_cmp_Compare_int, false, false⟩
def d_cmp_Compare_int (C : Hd) (gl : Nat → Option PV) (v0 v1 : AV) (h : Heap) (x : Esc) (K : Ex → St → Prop) : Prop :=
 C f_cmp_isNaN_int [v0] h fun t1 h2 y3 =>
 C f_cmp_isNaN_int [v1] h2 fun t4 h5 y6 =>
 condB t1 (condB t4 (K .ret ⟨[(4, (.p (.int .i64 0)))], h5, (y6 ++ (y3 ++ x))⟩)
 (K .ret ⟨[(4, (.p (.int .i64 (-1))))], h5, (y6 ++ (y3 ++ x))⟩))
 (condB t4 (K .ret ⟨[(4, (.p (.int .i64 1)))], h5, (y6 ++ (y3 ++ x))⟩)
 (pK (oBin .lss v0 v1) fun t7 =>
 condB t7 (K .ret ⟨[(4, (.p (.int .i64 (-1))))], h5, (y6 ++ (y3 ++ x))⟩)
 (pK (oBin .gtr v0 v1) fun t8 =>
 condB t8 (K .ret ⟨[(4, (.p (.int .i64 1)))], h5, (y6 ++ (y3 ++ x))⟩)
 (K .ret ⟨[(4, (.p (.int .i64 0)))], h5, (y6 ++ (y3 ++ x))⟩))))
theorem E_cmp_Compare_int {C gl v0 v1 h x K} : NW C gl (P_cmp_Compare_int) ⟨enter [v0, v1], h, x⟩ K = d_cmp_Compare_int C gl v0 v1 h x K := by kernel_rfl
theorem e_cmp_Compare_int {C gl v0 v1 h x K} : NW C gl a_cmp_Compare_int.body ⟨enter [v0, v1], h, x⟩ K = d_cmp_Compare_int C gl v0 v1 h x K := E_cmp_Compare_int
def P_strings_Compare : ACode := (.seq (.reg [
  ⟨some 4, none, .mv (.c (.p (.int .i64 0)))⟩] (some [0, 1]))
 (.seq (.reg [
  ⟨some 5, none, .mv (.t 0)⟩,
  ⟨some 6, none, .mv (.t 1)⟩,
  ⟨some 7, none, .call f_internal_bytealg_CompareString [(.t 5), (.t 6)]⟩,
  ⟨some 4, none, .mv (.t 7)⟩] (some [4]))
 .ret))
def a_strings_Compare : AFun := ⟨2, [.t 4], P_strings_Compare, false, false⟩
def d_strings_Compare (C : Hd) (gl : Nat → Option PV) (v0 v1 : AV) (h : Heap) (x : Esc) (K : Ex → St → Prop) : Prop :=
 C f_internal_bytealg_CompareString [v0, v1] h fun t1 h2 y3 =>
 K .ret ⟨[(4, t1)], h2, (y3 ++ x)⟩
theorem E_strings_Compare {C gl v0 v1 h x K} : NW C gl (P_strings_Compare) ⟨enter [v0, v1], h, x⟩ K = d_strings_Compare C gl v0 v1 h x K := by kernel_rfl
theorem e_strings_Compare {C gl v0 v1 h x K} : NW C gl a_strings_Compare.body ⟨enter [v0, v1], h, x⟩ K = d_strings_Compare C gl v0 v1 h x K := E_strings_Compare
def p_slices_CompactFunc_api_Record_api_Record_k1 : ACode := .pr [0, 1, 5, 6, 7] (.reg [
  ⟨some 36, none, .mv (.t 7)⟩,
  ⟨some 37, none, .bin .add (.t 36) (.c (.p (.int .i64 1)))⟩,
  ⟨some 7, none, .mv (.t 37)⟩] (some [0, 1, 5, 6, 7]))
def d_slices_CompactFunc_api_Record_api_Record_k1 (C : Hd) (gl : Nat → Option PV) (v0 v1 v5 v6 v7 : AV) (h : Heap) (x : Esc) (K : Ex → St → Prop) : Prop :=
 pK (oBin .add v7 (.p (.int .i64 1))) fun t1 =>
 K .normal ⟨[(0, v0), (1, v1), (5, v5), (6, v6), (7, t1)], h, x⟩
theorem e_slices_CompactFunc_api_Record_api_Record_k1 {C gl e h x K} : NW C gl p_slices_CompactFunc_api_Record_api_Record_k1 ⟨e, h, x⟩ K = d_slices_CompactFunc_api_Record_api_Record_k1 C gl (aget e 0) (aget e 1) (aget e 5) (aget e 6) (aget e 7) h x K := by kernel_rfl
def P_slices_CompactFunc_api_Record_api_Record_k2 (q1 : ACode) : ACode := .pr [0, 1, 5, 6, 7] (.seq (.seq (.reg [
  ⟨some 32, none, .mv (.t 7)⟩,
  ⟨some 33, none, .mv (.t 6)⟩,
  ⟨some 34, none, .len (.t 33)⟩,
  ⟨some 35, none, .bin .lss (.t 32) (.t 34)⟩] (some [0, 1, 5, 6, 7, 35]))
 (.cond (.t 35) .skip
 (.exit 2)))
 (.seq (.block 3 (.seq (.draw [
   ⟨⟨some 38, none, .mv (.t 1)⟩, [1], false, [], []⟩,
   ⟨⟨some 39, none, .mv (.t 6)⟩, [6], false, [], []⟩,
   ⟨⟨some 40, none, .mv (.t 7)⟩, [7], false, [], []⟩,
   ⟨⟨some 41, none, .iaddr (some 4) (.t 39) (.t 40)⟩, [39, 40], false, [], []⟩,
   ⟨⟨some 42, none, .load (some 4) (.t 41)⟩, [41], false, [], []⟩,
   ⟨⟨some 43, none, .mv (.t 6)⟩, [6], false, [], []⟩,
   ⟨⟨some 44, none, .mv (.t 7)⟩, [7], false, [], []⟩,
   ⟨⟨some 45, none, .bin .sub (.t 44) (.c (.p (.int .i64 1)))⟩, [44], false, [], []⟩,
   ⟨⟨some 46, none, .iaddr (some 4) (.t 43) (.t 45)⟩, [43, 45], false, [], []⟩,
   ⟨⟨some 47, none, .load (some 4) (.t 46)⟩, [46], false, [], []⟩,
   ⟨⟨some 48, none, .callv (.t 38) [(.t 42), (.t 47)]⟩, [38, 42, 47], true, [], []⟩,
   ⟨⟨some 49, none, .un .not (.t 48)⟩, [48], false, [], []⟩] (some [0, 1, 5, 6, 7, 49]))
 (.cond (.t 49) (.seq (.reg [
  ⟨some 50, none, .mv (.t 0)⟩,
  ⟨some 51, none, .mv (.t 5)⟩,
  ⟨some 52, none, .mv (.t 6)⟩,
  ⟨some 53, none, .mv (.t 7)⟩,
  ⟨some 54, none, .iaddr (some 4) (.t 52) (.t 53)⟩,
  ⟨some 55, none, .load (some 4) (.t 54)⟩,
  ⟨some 56, none, .iaddr (some 4) (.t 50) (.t 51)⟩,
  ⟨none, none, .store (some 4) (.t 56) (.t 55)⟩] (some [0, 1, 5, 6, 7]))
 (.reg [
  ⟨some 57, none, .mv (.t 5)⟩,
  ⟨some 58, none, .bin .add (.t 57) (.c (.p (.int .i64 1)))⟩,
  ⟨some 5, none, .mv (.t 58)⟩] (some [0, 1, 5, 6, 7])))
 .skip)))
 q1))
def p_slices_CompactFunc_api_Record_api_Record_k2 : ACode := P_slices_CompactFunc_api_Record_api_Record_k2 p_slices_CompactFunc_api_Record_api_Record_k1
def d_slices_CompactFunc_api_Record_api_Record_k2 (C : Hd) (gl : Nat → Option PV) (q1 : ACode) (v0 v1 v5 v6 v7 : AV) (h : Heap) (x : Esc) (K : Ex → St → Prop) : Prop :=
 pK (oLen v6) fun t1 =>
 pK (oBin .lss v7 t1) fun t2 =>
 condB t2 (pK (oIaddr (some 4) v6 v7 h) fun t3 =>
 pK (oLoad (some 4) t3 h) fun t4 =>
 pK (oBin .sub v7 (.p (.int .i64 1))) fun t5 =>
 pK (oIaddr (some 4) v6 t5 h) fun t6 =>
 pK (oLoad (some 4) t6 h) fun t7 =>
 callvE C v1 [t4, t7] h fun t8 h9 y10 =>
 pK (oUn .not t8) fun t11 =>
 condB t11 (pK (oIaddr (some 4) v6 v7 h9) fun t12 =>
 pK (oLoad (some 4) t12 h9) fun t13 =>
 pK (oIaddr (some 4) v0 v5 h9) fun t14 =>
 wK (oStore (some 4) t14 t13 h9) fun t15 h16 y17 =>
 pK (oBin .add v5 (.p (.int .i64 1))) fun t18 =>
 NW C gl q1 ⟨[(0, v0), (1, v1), (5, t18), (6, v6), (7, v7)], h16, (y17 ++ (y10 ++ x))⟩ K)
 (NW C gl q1 ⟨[(0, v0), (1, v1), (5, v5), (6, v6), (7, v7), (49, t11)], h9, (y10 ++ x)⟩ K))
 (K (.exit 2) ⟨[(0, v0), (1, v1), (5, v5), (6, v6), (7, v7), (35, t2)], h, x⟩)
theorem E_slices_CompactFunc_api_Record_api_Record_k2 {C gl q1 e h x K} : NW C gl (P_slices_CompactFunc_api_Record_api_Record_k2 q1) ⟨e, h, x⟩ K = d_slices_CompactFunc_api_Record_api_Record_k2 C gl q1 (aget e 0) (aget e 1) (aget e 5) (aget e 6) (aget e 7) h x K := by kernel_rfl
theorem e_slices_CompactFunc_api_Record_api_Record_k2 {C gl e h x K} : NW C gl p_slices_CompactFunc_api_Record_api_Record_k2 ⟨e, h, x⟩ K = d_slices_CompactFunc_api_Record_api_Record_k2 C gl p_slices_CompactFunc_api_Record_api_Record_k1 (aget e 0) (aget e 1) (aget e 5) (aget e 6) (aget e 7) h x K := E_slices_CompactFunc_api_Record_api_Record_k2
theorem l_slices_CompactFunc_api_Record_api_Record_k2 {C gl e h x K} : NW C gl (.loop p_slices_CompactFunc_api_Record_api_Record_k2) ⟨e, h, x⟩ K = NLoop C gl p_slices_CompactFunc_api_Record_api_Record_k2 K [(0, aget e 0), (1, aget e 1), (5, aget e 5), (6, aget e 6), (7, aget e 7)] h x := NLoop_pr
def p_slices_CompactFunc_api_Record_api_Record_k3 : ACode := .pr [0, 5] (.seq (.reg [
  ⟨some 59, none, .mv (.t 0)⟩,
  ⟨some 60, none, .mv (.t 5)⟩,
  ⟨some 61, none, .slice (some 4) (.t 59) (some (.t 60)) none none⟩,
  ⟨none, none, .clr (some 4) (.agg [.str [], .int .i64 0, .str [], .sl none []]) (.t 61)⟩] (some [0, 5]))
 (.seq (.reg [
  ⟨some 62, none, .mv (.t 0)⟩,
  ⟨some 63, none, .mv (.t 5)⟩,
  ⟨some 64, none, .slice (some 4) (.t 62) none (some (.t 63)) none⟩,
  ⟨some 4, none, .mv (.t 64)⟩] (some [4]))
 .ret))
def d_slices_CompactFunc_api_Record_api_Record_k3 (C : Hd) (gl : Nat → Option PV) (v0 v5 : AV) (h : Heap) (x : Esc) (K : Ex → St → Prop) : Prop :=
 pK (oSlice (some 4) v0 (some v5) none none h) fun t1 =>
 wK (oClr (some 4) (.agg [.str [], .int .i64 0, .str [], .sl none []]) t1 h) fun t2 h3 y4 =>
 pK (oSlice (some 4) v0 none (some v5) none h3) fun t5 =>
 K .ret ⟨[(4, t5)], h3, (y4 ++ x)⟩
theorem e_slices_CompactFunc_api_Record_api_Record_k3 {C gl e h x K} : NW C gl p_slices_CompactFunc_api_Record_api_Record_k3 ⟨e, h, x⟩ K = d_slices_CompactFunc_api_Record_api_Record_k3 C gl (aget e 0) (aget e 5) h x K := by kernel_rfl
def p_slices_CompactFunc_api_Record_api_Record_k4 : ACode := .pr [0, 1, 5] (.reg [
  ⟨some 16, none, .mv (.t 5)⟩,
  ⟨some 17, none, .bin .add (.t 16) (.c (.p (.int .i64 1)))⟩,
  ⟨some 5, none, .mv (.t 17)⟩] (some [0, 1, 5]))
def d_slices_CompactFunc_api_Record_api_Record_k4 (C : Hd) (gl : Nat → Option PV) (v0 v1 v5 : AV) (h : Heap) (x : Esc) (K : Ex → St → Prop) : Prop :=
 pK (oBin .add v5 (.p (.int .i64 1))) fun t1 =>
 K .normal ⟨[(0, v0), (1, v1), (5, t1)], h, x⟩
theorem e_slices_CompactFunc_api_Record_api_Record_k4 {C gl e h x K} : NW C gl p_slices_CompactFunc_api_Record_api_Record_k4 ⟨e, h, x⟩ K = d_slices_CompactFunc_api_Record_api_Record_k4 C gl (aget e 0) (aget e 1) (aget e 5) h x K := by kernel_rfl
def P_slices_CompactFunc_api_Record_api_Record_k5 (q2 q3 q4 : ACode) : ACode := .pr [0, 1, 5] (.seq (.seq (.reg [
  ⟨some 12, none, .mv (.t 5)⟩,
  ⟨some 13, none, .mv (.t 0)⟩,
  ⟨some 14, none, .len (.t 13)⟩,
  ⟨some 15, none, .bin .lss (.t 12) (.t 14)⟩] (some [0, 1, 5, 15]))
 (.cond (.t 15) .skip
 (.exit 0)))
 (.seq (.block 1 (.seq (.draw [
   ⟨⟨some 18, none, .mv (.t 1)⟩, [1], false, [], []⟩,
   ⟨⟨some 19, none, .mv (.t 0)⟩, [0], false, [], []⟩,
   ⟨⟨some 20, none, .mv (.t 5)⟩, [5], false, [], []⟩,
   ⟨⟨some 21, none, .iaddr (some 4) (.t 19) (.t 20)⟩, [19, 20], false, [], []⟩,
   ⟨⟨some 22, none, .load (some 4) (.t 21)⟩, [21], false, [], []⟩,
   ⟨⟨some 23, none, .mv (.t 0)⟩, [0], false, [], []⟩,
   ⟨⟨some 24, none, .mv (.t 5)⟩, [5], false, [], []⟩,
   ⟨⟨some 25, none, .bin .sub (.t 24) (.c (.p (.int .i64 1)))⟩, [24], false, [], []⟩,
   ⟨⟨some 26, none, .iaddr (some 4) (.t 23) (.t 25)⟩, [23, 25], false, [], []⟩,
   ⟨⟨some 27, none, .load (some 4) (.t 26)⟩, [26], false, [], []⟩,
   ⟨⟨some 28, none, .callv (.t 18) [(.t 22), (.t 27)]⟩, [18, 22, 27], true, [], []⟩] (some [0, 1, 5, 28]))
 (.cond (.t 28) (.seq (.reg [
  ⟨some 29, none, .mv (.t 0)⟩,
  ⟨some 30, none, .mv (.t 5)⟩,
  ⟨some 31, none, .slice (some 4) (.t 29) (some (.t 30)) none none⟩,
  ⟨some 6, none, .mv (.t 31)⟩] (some [0, 1, 5, 6]))
 (.seq (.seq (.reg [
  ⟨some 7, none, .mv (.c (.p (.int .i64 1)))⟩] (some [0, 1, 5, 6, 7]))
 (.block 2 (.loop q2)))
 q3))
 .skip)))
 q4))
def p_slices_CompactFunc_api_Record_api_Record_k5 : ACode := P_slices_CompactFunc_api_Record_api_Record_k5 p_slices_CompactFunc_api_Record_api_Record_k2 p_slices_CompactFunc_api_Record_api_Record_k3 p_slices_CompactFunc_api_Record_api_Record_k4
def d_slices_CompactFunc_api_Record_api_Record_k5 (C : Hd) (gl : Nat → Option PV) (q2 q3 q4 : ACode) (v0 v1 v5 : AV) (h : Heap) (x : Esc) (K : Ex → St → Prop) : Prop :=
 pK (oLen v0) fun t1 =>
 pK (oBin .lss v5 t1) fun t2 =>
 condB t2 (pK (oIaddr (some 4) v0 v5 h) fun t3 =>
 pK (oLoad (some 4) t3 h) fun t4 =>
 pK (oBin .sub v5 (.p (.int .i64 1))) fun t5 =>
 pK (oIaddr (some 4) v0 t5 h) fun t6 =>
 pK (oLoad (some 4) t6 h) fun t7 =>
 callvE C v1 [t4, t7] h fun t8 h9 y10 =>
 condB t8 (pK (oSlice (some 4) v0 (some v5) none none h9) fun t11 =>
 NW C gl (.loop q2) ⟨[(0, v0), (1, v1), (5, v5), (6, t11), (7, (.p (.int .i64 1)))], h9, (y10 ++ x)⟩ (blockN 2 (seqN C gl q3 (blockN 1 (seqN C gl q4 K)))))
 (NW C gl q4 ⟨[(0, v0), (1, v1), (5, v5), (28, t8)], h9, (y10 ++ x)⟩ K))
 (K (.exit 0) ⟨[(0, v0), (1, v1), (5, v5), (15, t2)], h, x⟩)
theorem E_slices_CompactFunc_api_Record_api_Record_k5 {C gl q2 q3 q4 e h x K} : NW C gl (P_slices_CompactFunc_api_Record_api_Record_k5 q2 q3 q4) ⟨e, h, x⟩ K = d_slices_CompactFunc_api_Record_api_Record_k5 C gl q2 q3 q4 (aget e 0) (aget e 1) (aget e 5) h x K := by kernel_rfl
theorem e_slices_CompactFunc_api_Record_api_Record_k5 {C gl e h x K} : NW C gl p_slices_CompactFunc_api_Record_api_Record_k5 ⟨e, h, x⟩ K = d_slices_CompactFunc_api_Record_api_Record_k5 C gl p_slices_CompactFunc_api_Record_api_Record_k2 p_slices_CompactFunc_api_Record_api_Record_k3 p_slices_CompactFunc_api_Record_api_Record_k4 (aget e 0) (aget e 1) (aget e 5) h x K := E_slices_CompactFunc_api_Record_api_Record_k5
theorem l_slices_CompactFunc_api_Record_api_Record_k5 {C gl e h x K} : NW C gl (.loop p_slices_CompactFunc_api_Record_api_Record_k5) ⟨e, h, x⟩ K = NLoop C gl p_slices_CompactFunc_api_Record_api_Record_k5 K [(0, aget e 0), (1, aget e 1), (5, aget e 5)] h x := NLoop_pr
def p_slices_CompactFunc_api_Record_api_Record_k6 : ACode := .pr [0] (.seq (.reg [
  ⟨some 65, none, .mv (.t 0)⟩,
  ⟨some 4, none, .mv (.t 65)⟩] (some [4]))
 .ret)
def d_slices_CompactFunc_api_Record_api_Record_k6 (C : Hd) (gl : Nat → Option PV) (v0 : AV) (h : Heap) (x : Esc) (K : Ex → St → Prop) : Prop :=
 K .ret ⟨[(4, v0)], h, x⟩
theorem e_slices_CompactFunc_api_Record_api_Record_k6 {C gl e h x K} : NW C gl p_slices_CompactFunc_api_Record_api_Record_k6 ⟨e, h, x⟩ K = d_slices_CompactFunc_api_Record_api_Record_k6 C gl (aget e 0) h x K := by kernel_rfl
def P_slices_CompactFunc_api_Record_api_Record (q5 q6 : ACode) : ACode := (.seq (.reg [
  ⟨some 4, none, .mv (.c (.p (.sl (some 4) [])))⟩] (some [0, 1]))
 (.seq (.seq (.reg [
  ⟨some 8, none, .mv (.t 0)⟩,
  ⟨some 9, none, .len (.t 8)⟩,
  ⟨some 10, none, .bin .lss (.t 9) (.c (.p (.int .i64 2)))⟩] (some [0, 1, 10]))
 (.cond (.t 10) (.seq (.reg [
  ⟨some 11, none, .mv (.t 0)⟩,
  ⟨some 4, none, .mv (.t 11)⟩] (some [4]))
 .ret)
 .skip))
 (.seq (.seq (.reg [
  ⟨some 5, none, .mv (.c (.p (.int .i64 1)))⟩] (some [0, 1, 5]))
 (.block 0 (.loop q5)))
 q6)))
def a_slices_CompactFunc_api_Record_api_Record : AFun := ⟨2, [.t 4], P_slices_CompactFunc_api_Record_api_Record p_slices_CompactFunc_api_Record_api_Record_k5 p_slices_CompactFunc_api_Record_api_Record_k6, true, false⟩
def d_slices_CompactFunc_api_Record_api_Record (C : Hd) (gl : Nat → Option PV) (q5 q6 : ACode) (v0 v1 : AV) (h : Heap) (x : Esc) (K : Ex → St → Prop) : Prop :=
 pK (oLen v0) fun t1 =>
 pK (oBin .lss t1 (.p (.int .i64 2))) fun t2 =>
 condB t2 (K .ret ⟨[(4, v0)], h, x⟩)
 (NW C gl (.loop q5) ⟨[(0, v0), (1, v1), (5, (.p (.int .i64 1)))], h, x⟩ (blockN 0 (seqN C gl q6 K)))
theorem E_slices_CompactFunc_api_Record_api_Record {C gl q5 q6 v0 v1 h x K} : NW C gl (P_slices_CompactFunc_api_Record_api_Record q5 q6) ⟨enter [v0, v1], h, x⟩ K = d_slices_CompactFunc_api_Record_api_Record C gl q5 q6 v0 v1 h x K := by kernel_rfl
theorem e_slices_CompactFunc_api_Record_api_Record {C gl v0 v1 h x K} : NW C gl a_slices_CompactFunc_api_Record_api_Record.body ⟨enter [v0, v1], h, x⟩ K = d_slices_CompactFunc_api_Record_api_Record C gl p_slices_CompactFunc_api_Record_api_Record_k5 p_slices_CompactFunc_api_Record_api_Record_k6 v0 v1 h x K := E_slices_CompactFunc_api_Record_api_Record
def P_scanmake_Stream_Records_2 : ACode := (.seq (.reg [
  ⟨some 2, none, .box (.t 0)⟩,
  ⟨some 3, none, .box (.t 1)⟩,
  ⟨some 4, none, .mv (.c (.p (.bool false)))⟩] (some [2, 3]))
 (.seq (.reg [
  ⟨some 5, none, .faddr 1 none (.t 2)⟩,
  ⟨some 6, none, .load none (.t 5)⟩,
  ⟨some 7, none, .faddr 1 none (.t 3)⟩,
  ⟨some 8, none, .load none (.t 7)⟩,
  ⟨some 9, none, .bin .eql (.t 6) (.t 8)⟩,
  ⟨some 10, none, .mv (.t 9)⟩,
  ⟨some 11, (some (10, true)), .faddr 0 none (.t 2)⟩,
  ⟨some 12, (some (10, true)), .load none (.t 11)⟩,
  ⟨some 13, (some (10, true)), .faddr 0 none (.t 3)⟩,
  ⟨some 14, (some (10, true)), .load none (.t 13)⟩,
  ⟨some 15, (some (10, true)), .bin .eql (.t 12) (.t 14)⟩,
  ⟨some 16, none, .pick (.t 10) (.t 15) (.c (.p (.bool false)))⟩,
  ⟨some 4, none, .mv (.t 16)⟩] (some [4]))
 .ret))
def a_scanmake_Stream_Records_2 : AFun := ⟨2, [.t 4], P_scanmake_Stream_Records_2, false, false⟩
def d_scanmake_Stream_Records_2 (C : Hd) (gl : Nat → Option PV) (v0 v1 : AV) (h : Heap) (x : Esc) (K : Ex → St → Prop) : Prop :=
 wK (oBox v0 h) fun t1 h2 y3 =>
 wK (oBox v1 h2) fun t4 h5 y6 =>
 pK (oFaddr 1 none t1) fun t7 =>
 pK (oLoad none t7 h5) fun t8 =>
 pK (oFaddr 1 none t4) fun t9 =>
 pK (oLoad none t9 h5) fun t10 =>
 pK (oBin .eql t8 t10) fun t11 =>
 gP t11 true (oFaddr 0 none t1) h5 fun t12 h13 y14 =>
 gP t11 true (oLoad none t12 h13) h13 fun t15 h16 y17 =>
 gP t11 true (oFaddr 0 none t4) h16 fun t18 h19 y20 =>
 gP t11 true (oLoad none t18 h19) h19 fun t21 h22 y23 =>
 gP t11 true (oBin .eql t15 t21) h22 fun t24 h25 y26 =>
 pK (oPick t11 t24 (.p (.bool false))) fun t27 =>
 K .ret ⟨[(4, t27)], h25, (y26 ++ (y23 ++ (y20 ++ (y17 ++ (y14 ++ (y6 ++ (y3 ++ x)))))))⟩
theorem E_scanmake_Stream_Records_2 {C gl v0 v1 h x K} : NW C gl (P_scanmake_Stream_Records_2) ⟨enter [v0, v1], h, x⟩ K = d_scanmake_Stream_Records_2 C gl v0 v1 h x K := by kernel_rfl
theorem e_scanmake_Stream_Records_2 {C gl v0 v1 h x K} : NW C gl a_scanmake_Stream_Records_2.body ⟨enter [v0, v1], h, x⟩ K = d_scanmake_Stream_Records_2 C gl v0 v1 h x K := E_scanmake_Stream_Records_2
def P_lot_CheckRecords : ACode := (.seq (.reg [
  ⟨some 4, none, .mv (.c (.p (.int .i64 0)))⟩] (some [0, 1]))
 (.seq (.seq (.reg [
  ⟨some 6, none, .mv (.t 0)⟩,
  ⟨some 7, none, .call f_lot_CheckLimits [(.t 6)]⟩,
  ⟨some 5, none, .mv (.t 7)⟩] (some [0, 1, 5]))
 (.seq (.reg [
  ⟨some 8, none, .mv (.t 5)⟩,
  ⟨some 9, none, .bin .neq (.t 8) (.c (.p (.int .i64 0)))⟩] (some [0, 1, 5, 9]))
 (.cond (.t 9) (.seq (.reg [
  ⟨some 10, none, .mv (.t 5)⟩,
  ⟨some 4, none, .mv (.t 10)⟩] (some [4]))
 .ret)
 .skip)))
 (.seq (.reg [
  ⟨some 11, none, .mv (.t 0)⟩,
  ⟨some 12, none, .mv (.t 1)⟩,
  ⟨some 13, none, .call f_lot_recordsFault [(.t 11), (.t 12)]⟩,
  ⟨some 4, none, .mv (.t 13)⟩] (some [4]))
 .ret)))
def a_lot_CheckRecords : AFun := ⟨2, [.t 4], P_lot_CheckRecords, false, false⟩
def d_lot_CheckRecords (C : Hd) (gl : Nat → Option PV) (v0 v1 : AV) (h : Heap) (x : Esc) (K : Ex → St → Prop) : Prop :=
 C f_lot_CheckLimits [v0] h fun t1 h2 y3 =>
 pK (oBin .neq t1 (.p (.int .i64 0))) fun t4 =>
 condB t4 (K .ret ⟨[(4, t1)], h2, (y3 ++ x)⟩)
 (C f_lot_recordsFault [v0, v1] h2 fun t5 h6 y7 =>
 K .ret ⟨[(4, t5)], h6, (y7 ++ (y3 ++ x))⟩)
theorem E_lot_CheckRecords {C gl v0 v1 h x K} : NW C gl (P_lot_CheckRecords) ⟨enter [v0, v1], h, x⟩ K = d_lot_CheckRecords C gl v0 v1 h x K := by kernel_rfl
theorem e_lot_CheckRecords {C gl v0 v1 h x K} : NW C gl a_lot_CheckRecords.body ⟨enter [v0, v1], h, x⟩ K = d_lot_CheckRecords C gl v0 v1 h x K := E_lot_CheckRecords
def P_lot_find : ACode := (.seq (.reg [
  ⟨some 3, none, .box (.t 1)⟩,
  ⟨some 4, none, .mv (.c (.p (.int .i64 0)))⟩] (some [0, 3]))
 (.seq (.reg [
  ⟨some 5, none, .mv (.t 0)⟩,
  ⟨some 6, none, .mkfn f_lot_find_1 [(.t 3)]⟩,
  ⟨some 7, none, .call f_slices_IndexFunc_api_Limit_api_Limit [(.t 5), (.t 6)]⟩,
  ⟨some 4, none, .mv (.t 7)⟩] (some [4]))
 .ret))
def a_lot_find : AFun := ⟨2, [.t 4], P_lot_find, false, false⟩
def d_lot_find (C : Hd) (gl : Nat → Option PV) (v0 v1 : AV) (h : Heap) (x : Esc) (K : Ex → St → Prop) : Prop :=
 wK (oBox v1 h) fun t1 h2 y3 =>
 C f_slices_IndexFunc_api_Limit_api_Limit [v0, (.fn f_lot_find_1 [t1])] h2 fun t4 h5 y6 =>
 K .ret ⟨[(4, t4)], h5, (y6 ++ (y3 ++ x))⟩
theorem E_lot_find {C gl v0 v1 h x K} : NW C gl (P_lot_find) ⟨enter [v0, v1], h, x⟩ K = d_lot_find C gl v0 v1 h x K := by kernel_rfl
theorem e_lot_find {C gl v0 v1 h x K} : NW C gl a_lot_find.body ⟨enter [v0, v1], h, x⟩ K = d_lot_find C gl v0 v1 h x K := E_lot_find
def p_lot_values_k1 : ACode := .pr [1, 5, 8, 9, 10] (.reg [
  ⟨some 27, none, .bin .add (.t 10) (.c (.p (.int .i64 1)))⟩,
  ⟨some 10, none, .mv (.t 27)⟩] (some [1, 5, 8, 9, 10]))
def d_lot_values_k1 (C : Hd) (gl : Nat → Option PV) (v1 v5 v8 v9 v10 : AV) (h : Heap) (x : Esc) (K : Ex → St → Prop) : Prop :=
 pK (oBin .add v10 (.p (.int .i64 1))) fun t1 =>
 K .normal ⟨[(1, v1), (5, v5), (8, v8), (9, v9), (10, t1)], h, x⟩
theorem e_lot_values_k1 {C gl e h x K} : NW C gl p_lot_values_k1 ⟨e, h, x⟩ K = d_lot_values_k1 C gl (aget e 1) (aget e 5) (aget e 8) (aget e 9) (aget e 10) h x K := by kernel_rfl
def P_lot_values_k2 (q1 : ACode) : ACode := .pr [1, 5, 8, 9, 10] (.seq (.reg [
  ⟨some 11, none, .bin .lss (.t 10) (.t 9)⟩] (some [1, 5, 8, 9, 10, 11]))
 (.seq (.cond (.t 11) .skip
 (.exit 0))
 (.seq (.block 1 (.seq (.reg [
  ⟨some 12, none, .iaddr (some 4) (.t 8) (.t 10)⟩,
  ⟨some 13, none, .load (some 4) (.t 12)⟩,
  ⟨some 7, none, .alloc [.p (.str []), .p (.int .i64 0), .p (.str []), .sl0 none]⟩,
  ⟨none, none, .store (some 4) (.t 7) (.t 13)⟩] (some [1, 5, 7, 8, 9, 10]))
 (.seq (.reg [
  ⟨some 14, none, .mv (.t 1)⟩,
  ⟨some 15, none, .faddr 3 none (.t 7)⟩,
  ⟨some 16, none, .load none (.t 15)⟩,
  ⟨some 17, none, .len (.t 16)⟩,
  ⟨some 18, none, .bin .lss (.t 14) (.t 17)⟩] (some [1, 5, 7, 8, 9, 10, 18]))
 (.cond (.t 18) (.reg [
  ⟨some 19, none, .mv (.t 5)⟩,
  ⟨some 20, none, .faddr 3 none (.t 7)⟩,
  ⟨some 21, none, .load none (.t 20)⟩,
  ⟨some 22, none, .mv (.t 1)⟩,
  ⟨some 23, none, .iaddr none (.t 21) (.t 22)⟩,
  ⟨some 24, none, .load none (.t 23)⟩,
  ⟨some 25, none, .bsl false none 1 (.int .i64 0) [(0, (.t 24))]⟩,
  ⟨some 26, none, .app none (.t 19) (.t 25)⟩,
  ⟨some 5, none, .mv (.t 26)⟩] (some [1, 5, 8, 9, 10]))
 .skip))))
 q1)))
def p_lot_values_k2 : ACode := P_lot_values_k2 p_lot_values_k1
def d_lot_values_k2 (C : Hd) (gl : Nat → Option PV) (q1 : ACode) (v1 v5 v8 v9 v10 : AV) (h : Heap) (x : Esc) (K : Ex → St → Prop) : Prop :=
 pK (oBin .lss v10 v9) fun t1 =>
 condB t1 (pK (oIaddr (some 4) v8 v10 h) fun t2 =>
 pK (oLoad (some 4) t2 h) fun t3 =>
 alK [.p (.str []), .p (.int .i64 0), .p (.str []), .sl0 none] h fun t4 h5 y6 =>
 wK (oStore (some 4) t4 t3 h5) fun t7 h8 y9 =>
 pK (oFaddr 3 none t4) fun t10 =>
 pK (oLoad none t10 h8) fun t11 =>
 pK (oLen t11) fun t12 =>
 pK (oBin .lss v1 t12) fun t13 =>
 condB t13 (pK (oFaddr 3 none t4) fun t14 =>
 pK (oLoad none t14 h8) fun t15 =>
 pK (oIaddr none t15 v1 h8) fun t16 =>
 pK (oLoad none t16 h8) fun t17 =>
 wK (oBsl false none 1 (.int .i64 0) [(0, t17)] h8) fun t18 h19 y20 =>
 wK (oApp none v5 t18 h19) fun t21 h22 y23 =>
 NW C gl q1 ⟨[(1, v1), (5, t21), (8, v8), (9, v9), (10, v10)], h22, (y23 ++ (y20 ++ (y9 ++ (y6 ++ x))))⟩ K)
 (NW C gl q1 ⟨[(1, v1), (5, v5), (7, t4), (8, v8), (9, v9), (10, v10), (18, t13)], h8, (y9 ++ (y6 ++ x))⟩ K))
 (K (.exit 0) ⟨[(1, v1), (5, v5), (8, v8), (9, v9), (10, v10), (11, t1)], h, x⟩)
theorem E_lot_values_k2 {C gl q1 e h x K} : NW C gl (P_lot_values_k2 q1) ⟨e, h, x⟩ K = d_lot_values_k2 C gl q1 (aget e 1) (aget e 5) (aget e 8) (aget e 9) (aget e 10) h x K := by kernel_rfl
theorem e_lot_values_k2 {C gl e h x K} : NW C gl p_lot_values_k2 ⟨e, h, x⟩ K = d_lot_values_k2 C gl p_lot_values_k1 (aget e 1) (aget e 5) (aget e 8) (aget e 9) (aget e 10) h x K := E_lot_values_k2
theorem l_lot_values_k2 {C gl e h x K} : NW C gl (.loop (.scope p_lot_values_k2)) ⟨e, h, x⟩ K = NLoop C gl (.scope p_lot_values_k2) K [(1, aget e 1), (5, aget e 5), (8, aget e 8), (9, aget e 9), (10, aget e 10)] h x := NLoop_sc
def p_lot_values_k3 : ACode := .pr [5] (.seq (.reg [
  ⟨some 28, none, .mv (.t 5)⟩,
  ⟨some 4, none, .mv (.t 28)⟩] (some [4]))
 .ret)
def d_lot_values_k3 (C : Hd) (gl : Nat → Option PV) (v5 : AV) (h : Heap) (x : Esc) (K : Ex → St → Prop) : Prop :=
 K .ret ⟨[(4, v5)], h, x⟩
theorem e_lot_values_k3 {C gl e h x K} : NW C gl p_lot_values_k3 ⟨e, h, x⟩ K = d_lot_values_k3 C gl (aget e 5) h x K := by kernel_rfl
def P_lot_values (q2 q3 : ACode) : ACode := (.seq (.reg [
  ⟨some 4, none, .mv (.c (.p (.sl none [])))⟩] (some [0, 1]))
 (.seq (.reg [
  ⟨some 5, none, .new0 none⟩] (some [0, 1, 5]))
 (.seq (.seq (.reg [
  ⟨some 8, none, .mv (.t 0)⟩,
  ⟨some 9, none, .len (.t 8)⟩,
  ⟨some 10, none, .mv (.c (.p (.int .i64 0)))⟩] (some [1, 5, 8, 9, 10]))
 (.block 0 (.loop (.scope q2))))
 q3)))
def a_lot_values : AFun := ⟨2, [.t 4], P_lot_values p_lot_values_k2 p_lot_values_k3, false, true⟩
def d_lot_values (C : Hd) (gl : Nat → Option PV) (q2 q3 : ACode) (v0 v1 : AV) (h : Heap) (x : Esc) (K : Ex → St → Prop) : Prop :=
 nwK none h fun t1 h2 y3 =>
 pK (oLen v0) fun t4 =>
 NW C gl (.loop (.scope q2)) ⟨[(1, v1), (5, t1), (8, v0), (9, t4), (10, (.p (.int .i64 0)))], h2, (y3 ++ x)⟩ (blockN 0 (seqN C gl q3 K))
theorem E_lot_values {C gl q2 q3 v0 v1 h x K} : NW C gl (P_lot_values q2 q3) ⟨enter [v0, v1], h, x⟩ K = d_lot_values C gl q2 q3 v0 v1 h x K := by kernel_rfl
theorem e_lot_values {C gl v0 v1 h x K} : NW C gl a_lot_values.body ⟨enter [v0, v1], h, x⟩ K = d_lot_values C gl p_lot_values_k2 p_lot_values_k3 v0 v1 h x K := E_lot_values
def p_slices_DeleteFunc_int_int_k1 : ACode := .pr [0, 1, 5, 6] (.reg [
  ⟨some 20, none, .mv (.t 6)⟩,
  ⟨some 21, none, .bin .add (.t 20) (.c (.p (.int .i64 1)))⟩,
  ⟨some 6, none, .mv (.t 21)⟩] (some [0, 1, 5, 6]))
def d_slices_DeleteFunc_int_int_k1 (C : Hd) (gl : Nat → Option PV) (v0 v1 v5 v6 : AV) (h : Heap) (x : Esc) (K : Ex → St → Prop) : Prop :=
 pK (oBin .add v6 (.p (.int .i64 1))) fun t1 =>
 K .normal ⟨[(0, v0), (1, v1), (5, v5), (6, t1)], h, x⟩
theorem e_slices_DeleteFunc_int_int_k1 {C gl e h x K} : NW C gl p_slices_DeleteFunc_int_int_k1 ⟨e, h, x⟩ K = d_slices_DeleteFunc_int_int_k1 C gl (aget e 0) (aget e 1) (aget e 5) (aget e 6) h x K := by kernel_rfl
def P_slices_DeleteFunc_int_int_k2 (q1 : ACode) : ACode := .pr [0, 1, 5, 6] (.seq (.seq (.reg [
  ⟨some 16, none, .mv (.t 6)⟩,
  ⟨some 17, none, .mv (.t 0)⟩,
  ⟨some 18, none, .len (.t 17)⟩,
  ⟨some 19, none, .bin .lss (.t 16) (.t 18)⟩] (some [0, 1, 5, 6, 19]))
 (.cond (.t 19) .skip
 (.exit 0)))
 (.seq (.block 1 (.seq (.reg [
  ⟨some 22, none, .mv (.t 0)⟩,
  ⟨some 23, none, .mv (.t 6)⟩,
  ⟨some 24, none, .iaddr none (.t 22) (.t 23)⟩,
  ⟨some 25, none, .load none (.t 24)⟩,
  ⟨some 7, none, .mv (.t 25)⟩] (some [0, 1, 5, 6, 7]))
 (.seq (.reg [
  ⟨some 26, none, .mv (.t 1)⟩,
  ⟨some 27, none, .mv (.t 7)⟩,
  ⟨some 28, none, .callv (.t 26) [(.t 27)]⟩,
  ⟨some 29, none, .un .not (.t 28)⟩] (some [0, 1, 5, 6, 7, 29]))
 (.cond (.t 29) (.seq (.reg [
  ⟨some 30, none, .mv (.t 0)⟩,
  ⟨some 31, none, .mv (.t 5)⟩,
  ⟨some 32, none, .mv (.t 7)⟩,
  ⟨some 33, none, .iaddr none (.t 30) (.t 31)⟩,
  ⟨none, none, .store none (.t 33) (.t 32)⟩] (some [0, 1, 5, 6]))
 (.reg [
  ⟨some 34, none, .mv (.t 5)⟩,
  ⟨some 35, none, .bin .add (.t 34) (.c (.p (.int .i64 1)))⟩,
  ⟨some 5, none, .mv (.t 35)⟩] (some [0, 1, 5, 6])))
 .skip))))
 q1))
def p_slices_DeleteFunc_int_int_k2 : ACode := P_slices_DeleteFunc_int_int_k2 p_slices_DeleteFunc_int_int_k1
def d_slices_DeleteFunc_int_int_k2 (C : Hd) (gl : Nat → Option PV) (q1 : ACode) (v0 v1 v5 v6 : AV) (h : Heap) (x : Esc) (K : Ex → St → Prop) : Prop :=
 pK (oLen v0) fun t1 =>
 pK (oBin .lss v6 t1) fun t2 =>
 condB t2 (pK (oIaddr none v0 v6 h) fun t3 =>
 pK (oLoad none t3 h) fun t4 =>
 callvK C v1 [t4] h fun t5 h6 y7 =>
 pK (oUn .not t5) fun t8 =>
 condB t8 (pK (oIaddr none v0 v5 h6) fun t9 =>
 wK (oStore none t9 t4 h6) fun t10 h11 y12 =>
 pK (oBin .add v5 (.p (.int .i64 1))) fun t13 =>
 NW C gl q1 ⟨[(0, v0), (1, v1), (5, t13), (6, v6)], h11, (y12 ++ (y7 ++ x))⟩ K)
 (NW C gl q1 ⟨[(0, v0), (1, v1), (5, v5), (6, v6), (7, t4), (29, t8)], h6, (y7 ++ x)⟩ K))
 (K (.exit 0) ⟨[(0, v0), (1, v1), (5, v5), (6, v6), (19, t2)], h, x⟩)
theorem E_slices_DeleteFunc_int_int_k2 {C gl q1 e h x K} : NW C gl (P_slices_DeleteFunc_int_int_k2 q1) ⟨e, h, x⟩ K = d_slices_DeleteFunc_int_int_k2 C gl q1 (aget e 0) (aget e 1) (aget e 5) (aget e 6) h x K := by kernel_rfl
theorem e_slices_DeleteFunc_int_int_k2 {C gl e h x K} : NW C gl p_slices_DeleteFunc_int_int_k2 ⟨e, h, x⟩ K = d_slices_DeleteFunc_int_int_k2 C gl p_slices_DeleteFunc_int_int_k1 (aget e 0) (aget e 1) (aget e 5) (aget e 6) h x K := E_slices_DeleteFunc_int_int_k2
theorem l_slices_DeleteFunc_int_int_k2 {C gl e h x K} : NW C gl (.loop p_slices_DeleteFunc_int_int_k2) ⟨e, h, x⟩ K = NLoop C gl p_slices_DeleteFunc_int_int_k2 K [(0, aget e 0), (1, aget e 1), (5, aget e 5), (6, aget e 6)] h x := NLoop_pr
def p_slices_DeleteFunc_int_int_k3 : ACode := .pr [0, 5] (.seq (.reg [
  ⟨some 36, none, .mv (.t 0)⟩,
  ⟨some 37, none, .mv (.t 5)⟩,
  ⟨some 38, none, .slice none (.t 36) (some (.t 37)) none none⟩,
  ⟨none, none, .clr none (.int .i64 0) (.t 38)⟩] (some [0, 5]))
 (.seq (.reg [
  ⟨some 39, none, .mv (.t 0)⟩,
  ⟨some 40, none, .mv (.t 5)⟩,
  ⟨some 41, none, .slice none (.t 39) none (some (.t 40)) none⟩,
  ⟨some 4, none, .mv (.t 41)⟩] (some [4]))
 .ret))
def d_slices_DeleteFunc_int_int_k3 (C : Hd) (gl : Nat → Option PV) (v0 v5 : AV) (h : Heap) (x : Esc) (K : Ex → St → Prop) : Prop :=
 pK (oSlice none v0 (some v5) none none h) fun t1 =>
 wK (oClr none (.int .i64 0) t1 h) fun t2 h3 y4 =>
 pK (oSlice none v0 none (some v5) none h3) fun t5 =>
 K .ret ⟨[(4, t5)], h3, (y4 ++ x)⟩
theorem e_slices_DeleteFunc_int_int_k3 {C gl e h x K} : NW C gl p_slices_DeleteFunc_int_int_k3 ⟨e, h, x⟩ K = d_slices_DeleteFunc_int_int_k3 C gl (aget e 0) (aget e 5) h x K := by kernel_rfl
def P_slices_DeleteFunc_int_int (q2 q3 : ACode) : ACode := (.seq (.reg [
  ⟨some 4, none, .mv (.c (.p (.sl none [])))⟩] (some [0, 1]))
 (.seq (.reg [
  ⟨some 8, none, .mv (.t 0)⟩,
  ⟨some 9, none, .mv (.t 1)⟩,
  ⟨some 10, none, .call f_slices_IndexFunc_int_int [(.t 8), (.t 9)]⟩,
  ⟨some 5, none, .mv (.t 10)⟩] (some [0, 1, 5]))
 (.seq (.seq (.reg [
  ⟨some 11, none, .mv (.t 5)⟩,
  ⟨some 12, none, .bin .eql (.t 11) (.c (.p (.int .i64 (-1))))⟩] (some [0, 1, 5, 12]))
 (.cond (.t 12) (.seq (.reg [
  ⟨some 13, none, .mv (.t 0)⟩,
  ⟨some 4, none, .mv (.t 13)⟩] (some [4]))
 .ret)
 .skip))
 (.seq (.seq (.reg [
  ⟨some 14, none, .mv (.t 5)⟩,
  ⟨some 15, none, .bin .add (.t 14) (.c (.p (.int .i64 1)))⟩,
  ⟨some 6, none, .mv (.t 15)⟩] (some [0, 1, 5, 6]))
 (.block 0 (.loop q2)))
 q3))))
def a_slices_DeleteFunc_int_int : AFun := ⟨2, [.t 4], P_slices_DeleteFunc_int_int p_slices_DeleteFunc_int_int_k2 p_slices_DeleteFunc_int_int_k3, true, false⟩
def d_slices_DeleteFunc_int_int (C : Hd) (gl : Nat → Option PV) (q2 q3 : ACode) (v0 v1 : AV) (h : Heap) (x : Esc) (K : Ex → St → Prop) : Prop :=
 C f_slices_IndexFunc_int_int [v0, v1] h fun t1 h2 y3 =>
 pK (oBin .eql t1 (.p (.int .i64 (-1)))) fun t4 =>
 condB t4 (K .ret ⟨[(4, v0)], h2, (y3 ++ x)⟩)
 (pK (oBin .add t1 (.p (.int .i64 1))) fun t5 =>
 NW C gl (.loop q2) ⟨[(0, v0), (1, v1), (5, t1), (6, t5)], h2, (y3 ++ x)⟩ (blockN 0 (seqN C gl q3 K)))
theorem E_slices_DeleteFunc_int_int {C gl q2 q3 v0 v1 h x K} : NW C gl (P_slices_DeleteFunc_int_int q2 q3) ⟨enter [v0, v1], h, x⟩ K = d_slices_DeleteFunc_int_int C gl q2 q3 v0 v1 h x K := by kernel_rfl
theorem e_slices_DeleteFunc_int_int {C gl v0 v1 h x K} : NW C gl a_slices_DeleteFunc_int_int.body ⟨enter [v0, v1], h, x⟩ K = d_slices_DeleteFunc_int_int C gl p_slices_DeleteFunc_int_int_k2 p_slices_DeleteFunc_int_int_k3 v0 v1 h x K := E_slices_DeleteFunc_int_int
def P_lot_Tighter_1 : ACode := (.seq (.reg [
  ⟨some 4, none, .mv (.c (.p (.bool false)))⟩] (some [0, 1, 2]))
 (.seq (.reg [
  ⟨some 5, none, .load none (.t 1)⟩,
  ⟨some 6, none, .load none (.t 2)⟩,
  ⟨some 7, none, .iaddr (some 4) (.t 5) (.t 6)⟩,
  ⟨some 8, none, .load (some 4) (.t 7)⟩,
  ⟨some 9, none, .mv (.t 0)⟩,
  ⟨some 10, none, .call f_lot_good [(.t 8), (.t 9)]⟩,
  ⟨some 11, none, .un .not (.t 10)⟩,
  ⟨some 4, none, .mv (.t 11)⟩] (some [4]))
 .ret))
def a_lot_Tighter_1 : AFun := ⟨3, [.t 4], P_lot_Tighter_1, false, false⟩
def d_lot_Tighter_1 (C : Hd) (gl : Nat → Option PV) (v0 v1 v2 : AV) (h : Heap) (x : Esc) (K : Ex → St → Prop) : Prop :=
 pK (oLoad none v1 h) fun t1 =>
 pK (oLoad none v2 h) fun t2 =>
 pK (oIaddr (some 4) t1 t2 h) fun t3 =>
 pK (oLoad (some 4) t3 h) fun t4 =>
 C f_lot_good [t4, v0] h fun t5 h6 y7 =>
 pK (oUn .not t5) fun t8 =>
 K .ret ⟨[(4, t8)], h6, (y7 ++ x)⟩
theorem E_lot_Tighter_1 {C gl v0 v1 v2 h x K} : NW C gl (P_lot_Tighter_1) ⟨enter [v0, v1, v2], h, x⟩ K = d_lot_Tighter_1 C gl v0 v1 v2 h x K := by kernel_rfl
theorem e_lot_Tighter_1 {C gl v0 v1 v2 h x K} : NW C gl a_lot_Tighter_1.body ⟨enter [v0, v1, v2], h, x⟩ K = d_lot_Tighter_1 C gl v0 v1 v2 h x K := E_lot_Tighter_1
def P_lot_good : ACode := (.seq (.reg [
  ⟨some 2, none, .box (.t 0)⟩,
  ⟨some 4, none, .mv (.c (.p (.bool false)))⟩] (some [1, 2]))
 (.seq (.reg [
  ⟨some 5, none, .mv (.t 1)⟩,
  ⟨some 6, none, .faddr 1 none (.t 2)⟩,
  ⟨some 7, none, .load none (.t 6)⟩,
  ⟨some 8, none, .faddr 2 none (.t 2)⟩,
  ⟨some 9, none, .load none (.t 8)⟩,
  ⟨some 10, none, .call f_base_Out [(.t 5), (.t 7), (.t 9)]⟩,
  ⟨some 11, none, .un .not (.t 10)⟩,
  ⟨some 4, none, .mv (.t 11)⟩] (some [4]))
 .ret))
def a_lot_good : AFun := ⟨2, [.t 4], P_lot_good, false, false⟩
def d_lot_good (C : Hd) (gl : Nat → Option PV) (v0 v1 : AV) (h : Heap) (x : Esc) (K : Ex → St → Prop) : Prop :=
 wK (oBox v0 h) fun t1 h2 y3 =>
 pK (oFaddr 1 none t1) fun t4 =>
 pK (oLoad none t4 h2) fun t5 =>
 pK (oFaddr 2 none t1) fun t6 =>
 pK (oLoad none t6 h2) fun t7 =>
 C f_base_Out [v1, t5, t7] h2 fun t8 h9 y10 =>
 pK (oUn .not t8) fun t11 =>
 K .ret ⟨[(4, t11)], h9, (y10 ++ (y3 ++ x))⟩
theorem E_lot_good {C gl v0 v1 h x K} : NW C gl (P_lot_good) ⟨enter [v0, v1], h, x⟩ K = d_lot_good C gl v0 v1 h x K := by kernel_rfl
theorem e_lot_good {C gl v0 v1 h x K} : NW C gl a_lot_good.body ⟨enter [v0, v1], h, x⟩ K = d_lot_good C gl v0 v1 h x K := E_lot_good
def P_slices_Sort_int_int : ACode := (.seq (.reg [
  ⟨some 3, none, .mv (.t 0)⟩,
  ⟨some 4, none, .len (.t 3)⟩,
  ⟨some 2, none, .mv (.t 4)⟩] (some [0, 2]))
 (.reg [
  ⟨some 5, none, .mv (.t 0)⟩,
  ⟨some 6, none, .mv (.t 2)⟩,
  ⟨some 7, none, .mv (.t 2)⟩,
  ⟨some 8, none, .conv (.i .u64) (.t 7)⟩,
  ⟨some 9, none, .call f_math_bits_Len [(.t 8)]⟩,
  ⟨some 10, none, .call f_slices_pdqsortOrdered_int [(.t 5), (.c (.p (.int .i64 0))), (.t 6), (.t 9)]⟩] (some [])))
def a_slices_Sort_int_int : AFun := ⟨1, [], P_slices_Sort_int_int, true, false⟩
def d_slices_Sort_int_int (C : Hd) (gl : Nat → Option PV) (v0 : AV) (h : Heap) (x : Esc) (K : Ex → St → Prop) : Prop :=
 pK (oLen v0) fun t1 =>
 pK (oConvI .u64 t1) fun t2 =>
 C f_math_bits_Len [t2] h fun t3 h4 y5 =>
 C f_slices_pdqsortOrdered_int [v0, (.p (.int .i64 0)), t1, t3] h4 fun t6 h7 y8 =>
 K .normal ⟨[], h7, (y8 ++ (y5 ++ x))⟩
theorem E_slices_Sort_int_int {C gl v0 h x K} : NW C gl (P_slices_Sort_int_int) ⟨enter [v0], h, x⟩ K = d_slices_Sort_int_int C gl v0 h x K := by kernel_rfl
theorem e_slices_Sort_int_int {C gl v0 h x K} : NW C gl a_slices_Sort_int_int.body ⟨enter [v0], h, x⟩ K = d_slices_Sort_int_int C gl v0 h x K := E_slices_Sort_int_int
def p_scanref2_LimitsFault_k1 : ACode := .pr [0, 13, 14, 15] (.seq (.reg [
  ⟨some 16, none, .bin .lss (.t 15) (.t 14)⟩] (some [0, 13, 14, 15, 16]))
 (.seq (.cond (.t 16) .skip
 (.exit 1))
 (.seq (.block 2 (.seq (.reg [
  ⟨some 17, none, .mv (.t 15)⟩,
  ⟨some 18, none, .iaddr (some 4) (.t 13) (.t 15)⟩,
  ⟨some 19, none, .load (some 4) (.t 18)⟩,
  ⟨some 4, none, .alloc [.p (.str []), .p (.int .i64 0), .p (.int .i64 0), .p (.int .i64 0)]⟩,
  ⟨some 3, none, .mv (.t 17)⟩,
  ⟨none, none, .store (some 4) (.t 4) (.t 19)⟩] (some [0, 3, 4, 13, 14, 15]))
 (.block 3 (.seq (.reg [
  ⟨some 21, none, .faddr 0 none (.t 4)⟩,
  ⟨some 22, none, .load none (.t 21)⟩,
  ⟨some 23, none, .call f_scanref2_Key [(.t 22)]⟩,
  ⟨some 24, none, .un .not (.t 23)⟩,
  ⟨some 20, none, .mv (.t 24)⟩] (some [0, 3, 4, 13, 14, 15, 20]))
 (.cond (.t 20) (.seq (.reg [
  ⟨some 2, none, .mv (.c (.p (.int .i64 5)))⟩] (some [2]))
 .ret)
 (.seq (.draw [
   ⟨⟨some 26, none, .mv (.t 0)⟩, [0], false, [], []⟩,
   ⟨⟨some 27, none, .mv (.t 3)⟩, [3], false, [], []⟩,
   ⟨⟨some 28, none, .slice (some 4) (.t 26) none (some (.t 27)) none⟩, [26, 27], false, [], []⟩,
   ⟨⟨some 29, none, .faddr 0 none (.t 4)⟩, [4], false, [], []⟩,
   ⟨⟨some 30, none, .load none (.t 29)⟩, [29], false, [], []⟩,
   ⟨⟨some 31, none, .call f_scanref2_TestAt [(.t 28), (.t 30)]⟩, [28, 30], true, [], []⟩,
   ⟨⟨some 32, none, .bin .geq (.t 31) (.c (.p (.int .i64 0)))⟩, [31], false, [], []⟩,
   ⟨⟨some 25, none, .mv (.t 32)⟩, [32], false, [], []⟩] (some [0, 4, 13, 14, 15, 25]))
 (.cond (.t 25) (.seq (.reg [
  ⟨some 2, none, .mv (.c (.p (.int .i64 6)))⟩] (some [2]))
 .ret)
 (.seq (.reg [
  ⟨some 34, none, .faddr 1 none (.t 4)⟩,
  ⟨some 35, none, .load none (.t 34)⟩,
  ⟨some 36, none, .faddr 2 none (.t 4)⟩,
  ⟨some 37, none, .load none (.t 36)⟩,
  ⟨some 38, none, .call f_scanref2_in [(.t 35), (.c (.p (.int .i64 (-100000)))), (.t 37)]⟩,
  ⟨some 39, none, .un .not (.t 38)⟩,
  ⟨some 40, none, .mv (.t 39)⟩,
  ⟨some 41, (some (40, false)), .faddr 2 none (.t 4)⟩,
  ⟨some 42, (some (40, false)), .load none (.t 41)⟩,
  ⟨some 43, (some (40, false)), .bin .gtr (.t 42) (.c (.p (.int .i64 100000)))⟩,
  ⟨some 44, none, .pick (.t 40) (.c (.p (.bool true))) (.t 43)⟩,
  ⟨some 45, none, .mv (.t 44)⟩,
  ⟨some 46, (some (45, false)), .faddr 3 none (.t 4)⟩,
  ⟨some 47, (some (45, false)), .load none (.t 46)⟩,
  ⟨some 48, (some (45, false)), .call f_scanref2_in [(.t 47), (.c (.p (.int .i64 2))), (.c (.p (.int .i64 100)))]⟩,
  ⟨some 49, (some (45, false)), .un .not (.t 48)⟩,
  ⟨some 50, none, .pick (.t 45) (.c (.p (.bool true))) (.t 49)⟩,
  ⟨some 33, none, .mv (.t 50)⟩] (some [0, 13, 14, 15, 33]))
 (.cond (.t 33) (.seq (.reg [
  ⟨some 2, none, .mv (.c (.p (.int .i64 1)))⟩] (some [2]))
 .ret)
 .skip)))))))))
 (.reg [
  ⟨some 51, none, .bin .add (.t 15) (.c (.p (.int .i64 1)))⟩,
  ⟨some 15, none, .mv (.t 51)⟩] (some [0, 13, 14, 15])))))
def d_scanref2_LimitsFault_k1 (C : Hd) (gl : Nat → Option PV) (v0 v13 v14 v15 : AV) (h : Heap) (x : Esc) (K : Ex → St → Prop) : Prop :=
 pK (oBin .lss v15 v14) fun t1 =>
 condB t1 (pK (oIaddr (some 4) v13 v15 h) fun t2 =>
 pK (oLoad (some 4) t2 h) fun t3 =>
 alK [.p (.str []), .p (.int .i64 0), .p (.int .i64 0), .p (.int .i64 0)] h fun t4 h5 y6 =>
 wK (oStore (some 4) t4 t3 h5) fun t7 h8 y9 =>
 pK (oFaddr 0 none t4) fun t10 =>
 pK (oLoad none t10 h8) fun t11 =>
 C f_scanref2_Key [t11] h8 fun t12 h13 y14 =>
 pK (oUn .not t12) fun t15 =>
 condB t15 (K .ret ⟨[(2, (.p (.int .i64 5)))], h13, (y14 ++ (y9 ++ (y6 ++ x)))⟩)
 (pK (oSlice (some 4) v0 none (some v15) none h13) fun t16 =>
 pK (oFaddr 0 none t4) fun t17 =>
 pK (oLoad none t17 h13) fun t18 =>
 callE C f_scanref2_TestAt [t16, t18] h13 fun t19 h20 y21 =>
 pK (oBin .geq t19 (.p (.int .i64 0))) fun t22 =>
 condB t22 (K .ret ⟨[(2, (.p (.int .i64 6)))], h20, (y21 ++ (y14 ++ (y9 ++ (y6 ++ x))))⟩)
 (pK (oFaddr 1 none t4) fun t23 =>
 pK (oLoad none t23 h20) fun t24 =>
 pK (oFaddr 2 none t4) fun t25 =>
 pK (oLoad none t25 h20) fun t26 =>
 C f_scanref2_in [t24, (.p (.int .i64 (-100000))), t26] h20 fun t27 h28 y29 =>
 pK (oUn .not t27) fun t30 =>
 gP t30 false (oFaddr 2 none t4) h28 fun t31 h32 y33 =>
 gP t30 false (oLoad none t31 h32) h32 fun t34 h35 y36 =>
 gP t30 false (oBin .gtr t34 (.p (.int .i64 100000))) h35 fun t37 h38 y39 =>
 pK (oPick t30 (.p (.bool true)) t37) fun t40 =>
 gP t40 false (oFaddr 3 none t4) h38 fun t41 h42 y43 =>
 gP t40 false (oLoad none t41 h42) h42 fun t44 h45 y46 =>
 gV t40 false h45 (C f_scanref2_in [t44, (.p (.int .i64 2)), (.p (.int .i64 100))] h45) fun t47 h48 y49 =>
 gP t40 false (oUn .not t47) h48 fun t50 h51 y52 =>
 pK (oPick t40 (.p (.bool true)) t50) fun t53 =>
 condB t53 (K .ret ⟨[(2, (.p (.int .i64 1)))], h51, (y52 ++ (y49 ++ (y46 ++ (y43 ++ (y39 ++ (y36 ++ (y33 ++ (y29 ++ (y21 ++ (y14 ++ (y9 ++ (y6 ++ x))))))))))))⟩)
 (pK (oBin .add v15 (.p (.int .i64 1))) fun t54 =>
 K .normal ⟨[(0, v0), (13, v13), (14, v14), (15, t54)], h51, (y52 ++ (y49 ++ (y46 ++ (y43 ++ (y39 ++ (y36 ++ (y33 ++ (y29 ++ (y21 ++ (y14 ++ (y9 ++ (y6 ++ x))))))))))))⟩))))
 (K (.exit 1) ⟨[(0, v0), (13, v13), (14, v14), (15, v15), (16, t1)], h, x⟩)
theorem e_scanref2_LimitsFault_k1 {C gl e h x K} : NW C gl p_scanref2_LimitsFault_k1 ⟨e, h, x⟩ K = d_scanref2_LimitsFault_k1 C gl (aget e 0) (aget e 13) (aget e 14) (aget e 15) h x K := by kernel_rfl
theorem l_scanref2_LimitsFault_k1 {C gl e h x K} : NW C gl (.loop (.scope p_scanref2_LimitsFault_k1)) ⟨e, h, x⟩ K = NLoop C gl (.scope p_scanref2_LimitsFault_k1) K [(0, aget e 0), (13, aget e 13), (14, aget e 14), (15, aget e 15)] h x := NLoop_sc
def p_scanref2_LimitsFault_k2 : ACode := .pr [] (.seq (.reg [
  ⟨some 2, none, .mv (.c (.p (.int .i64 0)))⟩] (some [2]))
 .ret)
def d_scanref2_LimitsFault_k2 (C : Hd) (gl : Nat → Option PV) (h : Heap) (x : Esc) (K : Ex → St → Prop) : Prop :=
 K .ret ⟨[(2, (.p (.int .i64 0)))], h, x⟩
theorem e_scanref2_LimitsFault_k2 {C gl e h x K} : NW C gl p_scanref2_LimitsFault_k2 ⟨e, h, x⟩ K = d_scanref2_LimitsFault_k2 C gl h x K := by kernel_rfl
def P_scanref2_LimitsFault (q1 q2 : ACode) : ACode := (.seq (.reg [
  ⟨some 2, none, .mv (.c (.p (.int .i64 0)))⟩] (some [0]))
 (.seq (.block 0 (.seq (.reg [
  ⟨some 6, none, .mv (.t 0)⟩,
  ⟨some 7, none, .len (.t 6)⟩,
  ⟨some 8, none, .bin .eql (.t 7) (.c (.p (.int .i64 0)))⟩,
  ⟨some 5, none, .mv (.t 8)⟩] (some [0, 5]))
 (.cond (.t 5) (.seq (.reg [
  ⟨some 2, none, .mv (.c (.p (.int .i64 8)))⟩] (some [2]))
 .ret)
 (.seq (.reg [
  ⟨some 10, none, .mv (.t 0)⟩,
  ⟨some 11, none, .len (.t 10)⟩,
  ⟨some 12, none, .bin .gtr (.t 11) (.c (.p (.int .i64 100)))⟩,
  ⟨some 9, none, .mv (.t 12)⟩] (some [0, 9]))
 (.cond (.t 9) (.seq (.reg [
  ⟨some 2, none, .mv (.c (.p (.int .i64 2)))⟩] (some [2]))
 .ret)
 .skip)))))
 (.seq (.seq (.reg [
  ⟨some 13, none, .mv (.t 0)⟩,
  ⟨some 14, none, .len (.t 13)⟩,
  ⟨some 15, none, .mv (.c (.p (.int .i64 0)))⟩] (some [0, 13, 14, 15]))
 (.block 1 (.loop (.scope q1))))
 q2)))
def a_scanref2_LimitsFault : AFun := ⟨1, [.t 2], P_scanref2_LimitsFault p_scanref2_LimitsFault_k1 p_scanref2_LimitsFault_k2, false, false⟩
def d_scanref2_LimitsFault (C : Hd) (gl : Nat → Option PV) (q1 q2 : ACode) (v0 : AV) (h : Heap) (x : Esc) (K : Ex → St → Prop) : Prop :=
 pK (oLen v0) fun t1 =>
 pK (oBin .eql t1 (.p (.int .i64 0))) fun t2 =>
 condB t2 (K .ret ⟨[(2, (.p (.int .i64 8)))], h, x⟩)
 (pK (oLen v0) fun t3 =>
 pK (oBin .gtr t3 (.p (.int .i64 100))) fun t4 =>
 condB t4 (K .ret ⟨[(2, (.p (.int .i64 2)))], h, x⟩)
 (pK (oLen v0) fun t5 =>
 NW C gl (.loop (.scope q1)) ⟨[(0, v0), (13, v0), (14, t5), (15, (.p (.int .i64 0)))], h, x⟩ (blockN 1 (seqN C gl q2 K))))
theorem E_scanref2_LimitsFault {C gl q1 q2 v0 h x K} : NW C gl (P_scanref2_LimitsFault q1 q2) ⟨enter [v0], h, x⟩ K = d_scanref2_LimitsFault C gl q1 q2 v0 h x K := by kernel_rfl
theorem e_scanref2_LimitsFault {C gl v0 h x K} : NW C gl a_scanref2_LimitsFault.body ⟨enter [v0], h, x⟩ K = d_scanref2_LimitsFault C gl p_scanref2_LimitsFault_k1 p_scanref2_LimitsFault_k2 v0 h x K := E_scanref2_LimitsFault
def P_scanref2_recordFault : ACode := (.seq (.reg [
  ⟨some 3, none, .box (.t 1)⟩,
  ⟨some 4, none, .mv (.c (.p (.int .i64 0)))⟩] (some [0, 3]))
 (.seq (.block 0 (.seq (.reg [
  ⟨some 8, none, .faddr 0 none (.t 3)⟩,
  ⟨some 9, none, .load none (.t 8)⟩,
  ⟨some 10, none, .call f_scanref2_Key [(.t 9)]⟩,
  ⟨some 11, none, .un .not (.t 10)⟩,
  ⟨some 12, none, .mv (.t 11)⟩,
  ⟨some 13, (some (12, false)), .faddr 2 none (.t 3)⟩,
  ⟨some 14, (some (12, false)), .load none (.t 13)⟩,
  ⟨some 15, (some (12, false)), .call f_scanref2_Key [(.t 14)]⟩,
  ⟨some 16, (some (12, false)), .un .not (.t 15)⟩,
  ⟨some 17, none, .pick (.t 12) (.c (.p (.bool true))) (.t 16)⟩,
  ⟨some 7, none, .mv (.t 17)⟩] (some [0, 3, 7]))
 (.cond (.t 7) (.seq (.reg [
  ⟨some 4, none, .mv (.c (.p (.int .i64 5)))⟩] (some [4]))
 .ret)
 (.seq (.reg [
  ⟨some 19, none, .faddr 1 none (.t 3)⟩,
  ⟨some 20, none, .load none (.t 19)⟩,
  ⟨some 21, none, .call f_scanref2_Moment [(.t 20)]⟩,
  ⟨some 22, none, .un .not (.t 21)⟩,
  ⟨some 18, none, .mv (.t 22)⟩] (some [0, 3, 18]))
 (.cond (.t 18) (.seq (.reg [
  ⟨some 4, none, .mv (.c (.p (.int .i64 1)))⟩] (some [4]))
 .ret)
 (.seq (.reg [
  ⟨some 24, none, .faddr 3 none (.t 3)⟩,
  ⟨some 25, none, .load none (.t 24)⟩,
  ⟨some 26, none, .call f_slices_ContainsFunc_int_int [(.t 25), (.f f_scanref2_recordFault_1)]⟩,
  ⟨some 23, none, .mv (.t 26)⟩] (some [0, 3, 23]))
 (.cond (.t 23) (.seq (.reg [
  ⟨some 4, none, .mv (.c (.p (.int .i64 1)))⟩] (some [4]))
 .ret)
 .skip)))))))
 (.seq (.reg [
  ⟨some 27, none, .faddr 3 none (.t 3)⟩,
  ⟨some 28, none, .load none (.t 27)⟩,
  ⟨some 29, none, .len (.t 28)⟩,
  ⟨some 5, none, .mv (.t 29)⟩] (some [0, 3, 5]))
 (.seq (.seq (.reg [
  ⟨some 30, none, .mv (.t 0)⟩,
  ⟨some 31, none, .faddr 3 none (.t 3)⟩,
  ⟨some 32, none, .load none (.t 31)⟩,
  ⟨some 33, none, .call f_scanref2_fails [(.t 30), (.t 32)]⟩,
  ⟨some 6, none, .mv (.t 33)⟩] (some [0, 5, 6]))
 (.seq (.reg [
  ⟨some 34, none, .mv (.t 5)⟩,
  ⟨some 35, none, .mv (.t 0)⟩,
  ⟨some 36, none, .len (.t 35)⟩,
  ⟨some 37, none, .call f_scanref2_in [(.t 34), (.c (.p (.int .i64 1))), (.t 36)]⟩,
  ⟨some 38, none, .un .not (.t 37)⟩,
  ⟨some 39, none, .mv (.t 38)⟩,
  ⟨some 40, (some (39, false)), .mv (.t 6)⟩,
  ⟨some 41, (some (39, false)), .bin .geq (.t 40) (.c (.p (.int .i64 0)))⟩,
  ⟨some 42, (some (39, false)), .mv (.t 41)⟩,
  ⟨some 43, (some (42, true)), .mv (.t 6)⟩,
  ⟨some 44, (some (42, true)), .mv (.t 5)⟩,
  ⟨some 45, (some (42, true)), .bin .sub (.t 44) (.c (.p (.int .i64 1)))⟩,
  ⟨some 46, (some (42, true)), .bin .neq (.t 43) (.t 45)⟩,
  ⟨some 47, (some (39, false)), .pick (.t 42) (.t 46) (.c (.p (.bool false)))⟩,
  ⟨some 48, none, .pick (.t 39) (.c (.p (.bool true))) (.t 47)⟩,
  ⟨some 49, none, .mv (.t 48)⟩,
  ⟨some 50, (some (49, false)), .mv (.t 6)⟩,
  ⟨some 51, (some (49, false)), .bin .lss (.t 50) (.c (.p (.int .i64 0)))⟩,
  ⟨some 52, (some (49, false)), .mv (.t 51)⟩,
  ⟨some 53, (some (52, true)), .mv (.t 5)⟩,
  ⟨some 54, (some (52, true)), .mv (.t 0)⟩,
  ⟨some 55, (some (52, true)), .len (.t 54)⟩,
  ⟨some 56, (some (52, true)), .bin .neq (.t 53) (.t 55)⟩,
  ⟨some 57, (some (49, false)), .pick (.t 52) (.t 56) (.c (.p (.bool false)))⟩,
  ⟨some 58, none, .pick (.t 49) (.c (.p (.bool true))) (.t 57)⟩] (some [58]))
 (.cond (.t 58) (.seq (.reg [
  ⟨some 4, none, .mv (.c (.p (.int .i64 3)))⟩] (some [4]))
 .ret)
 .skip)))
 (.seq (.reg [
  ⟨some 4, none, .mv (.c (.p (.int .i64 0)))⟩] (some [4]))
 .ret)))))
def a_scanref2_recordFault : AFun := ⟨2, [.t 4], P_scanref2_recordFault, false, false⟩
def d_scanref2_recordFault (C : Hd) (gl : Nat → Option PV) (v0 v1 : AV) (h : Heap) (x : Esc) (K : Ex → St → Prop) : Prop :=
 wK (oBox v1 h) fun t1 h2 y3 =>
 pK (oFaddr 0 none t1) fun t4 =>
 pK (oLoad none t4 h2) fun t5 =>
 C f_scanref2_Key [t5] h2 fun t6 h7 y8 =>
 pK (oUn .not t6) fun t9 =>
 gP t9 false (oFaddr 2 none t1) h7 fun t10 h11 y12 =>
 gP t9 false (oLoad none t10 h11) h11 fun t13 h14 y15 =>
 gV t9 false h14 (C f_scanref2_Key [t13] h14) fun t16 h17 y18 =>
 gP t9 false (oUn .not t16) h17 fun t19 h20 y21 =>
 pK (oPick t9 (.p (.bool true)) t19) fun t22 =>
 condB t22 (K .ret ⟨[(4, (.p (.int .i64 5)))], h20, (y21 ++ (y18 ++ (y15 ++ (y12 ++ (y8 ++ (y3 ++ x))))))⟩)
 (pK (oFaddr 1 none t1) fun t23 =>
 pK (oLoad none t23 h20) fun t24 =>
 C f_scanref2_Moment [t24] h20 fun t25 h26 y27 =>
 pK (oUn .not t25) fun t28 =>
 condB t28 (K .ret ⟨[(4, (.p (.int .i64 1)))], h26, (y27 ++ (y21 ++ (y18 ++ (y15 ++ (y12 ++ (y8 ++ (y3 ++ x)))))))⟩)
 (pK (oFaddr 3 none t1) fun t29 =>
 pK (oLoad none t29 h26) fun t30 =>
 C f_slices_ContainsFunc_int_int [t30, (.fn f_scanref2_recordFault_1 [])] h26 fun t31 h32 y33 =>
 condB t31 (K .ret ⟨[(4, (.p (.int .i64 1)))], h32, (y33 ++ (y27 ++ (y21 ++ (y18 ++ (y15 ++ (y12 ++ (y8 ++ (y3 ++ x))))))))⟩)
 (pK (oFaddr 3 none t1) fun t34 =>
 pK (oLoad none t34 h32) fun t35 =>
 pK (oLen t35) fun t36 =>
 pK (oFaddr 3 none t1) fun t37 =>
 pK (oLoad none t37 h32) fun t38 =>
 C f_scanref2_fails [v0, t38] h32 fun t39 h40 y41 =>
 pK (oLen v0) fun t42 =>
 C f_scanref2_in [t36, (.p (.int .i64 1)), t42] h40 fun t43 h44 y45 =>
 pK (oUn .not t43) fun t46 =>
 gM t46 false t39 h44 fun t47 h48 y49 =>
 gP t46 false (oBin .geq t47 (.p (.int .i64 0))) h48 fun t50 h51 y52 =>
 gM t46 false t50 h51 fun t53 h54 y55 =>
 gM t53 true t39 h54 fun t56 h57 y58 =>
 gM t53 true t36 h57 fun t59 h60 y61 =>
 gP t53 true (oBin .sub t59 (.p (.int .i64 1))) h60 fun t62 h63 y64 =>
 gP t53 true (oBin .neq t56 t62) h63 fun t65 h66 y67 =>
 gP t46 false (oPick t53 t65 (.p (.bool false))) h66 fun t68 h69 y70 =>
 pK (oPick t46 (.p (.bool true)) t68) fun t71 =>
 gM t71 false t39 h69 fun t72 h73 y74 =>
 gP t71 false (oBin .lss t72 (.p (.int .i64 0))) h73 fun t75 h76 y77 =>
 gM t71 false t75 h76 fun t78 h79 y80 =>
 gM t78 true t36 h79 fun t81 h82 y83 =>
 gM t78 true v0 h82 fun t84 h85 y86 =>
 gP t78 true (oLen t84) h85 fun t87 h88 y89 =>
 gP t78 true (oBin .neq t81 t87) h88 fun t90 h91 y92 =>
 gP t71 false (oPick t78 t90 (.p (.bool false))) h91 fun t93 h94 y95 =>
 pK (oPick t71 (.p (.bool true)) t93) fun t96 =>
 condB t96 (K .ret ⟨[(4, (.p (.int .i64 3)))], h94, (y95 ++ (y92 ++ (y89 ++ (y86 ++ (y83 ++ (y80 ++ (y77 ++ (y74 ++ (y70 ++ (y67 ++ (y64 ++ (y61 ++ (y58 ++ (y55 ++ (y52 ++ (y49 ++ (y45 ++ (y41 ++ (y33 ++ (y27 ++ (y21 ++ (y18 ++ (y15 ++ (y12 ++ (y8 ++ (y3 ++ x))))))))))))))))))))))))))⟩)
 (K .ret ⟨[(4, (.p (.int .i64 0)))], h94, (y95 ++ (y92 ++ (y89 ++ (y86 ++ (y83 ++ (y80 ++ (y77 ++ (y74 ++ (y70 ++ (y67 ++ (y64 ++ (y61 ++ (y58 ++ (y55 ++ (y52 ++ (y49 ++ (y45 ++ (y41 ++ (y33 ++ (y27 ++ (y21 ++ (y18 ++ (y15 ++ (y12 ++ (y8 ++ (y3 ++ x))))))))))))))))))))))))))⟩))))
theorem E_scanref2_recordFault {C gl v0 v1 h x K} : NW C gl (P_scanref2_recordFault) ⟨enter [v0, v1], h, x⟩ K = d_scanref2_recordFault C gl v0 v1 h x K := by kernel_rfl
theorem e_scanref2_recordFault {C gl v0 v1 h x K} : NW C gl a_scanref2_recordFault.body ⟨enter [v0, v1], h, x⟩ K = d_scanref2_recordFault C gl v0 v1 h x K := E_scanref2_recordFault
def P_scanref2_recordOrder : ACode := (.seq (.reg [
  ⟨some 2, none, .box (.t 0)⟩,
  ⟨some 3, none, .box (.t 1)⟩,
  ⟨some 4, none, .mv (.c (.p (.int .i64 0)))⟩] (some [2, 3]))
 (.seq (.seq (.reg [
  ⟨some 5, none, .faddr 1 none (.t 2)⟩,
  ⟨some 6, none, .load none (.t 5)⟩,
  ⟨some 7, none, .faddr 1 none (.t 3)⟩,
  ⟨some 8, none, .load none (.t 7)⟩,
  ⟨some 9, none, .bin .neq (.t 6) (.t 8)⟩] (some [2, 3, 9]))
 (.cond (.t 9) (.seq (.reg [
  ⟨some 10, none, .faddr 1 none (.t 2)⟩,
  ⟨some 11, none, .load none (.t 10)⟩,
  ⟨some 12, none, .faddr 1 none (.t 3)⟩,
  ⟨some 13, none, .load none (.t 12)⟩,
  ⟨some 14, none, .bin .sub (.t 11) (.t 13)⟩,
  ⟨some 15, none, .call f_scanref2_sign [(.t 14)]⟩,
  ⟨some 4, none, .mv (.t 15)⟩] (some [4]))
 .ret)
 .skip))
 (.seq (.reg [
  ⟨some 16, none, .faddr 0 none (.t 2)⟩,
  ⟨some 17, none, .load none (.t 16)⟩,
  ⟨some 18, none, .faddr 0 none (.t 3)⟩,
  ⟨some 19, none, .load none (.t 18)⟩,
  ⟨some 20, none, .call f_strings_Compare [(.t 17), (.t 19)]⟩,
  ⟨some 4, none, .mv (.t 20)⟩] (some [4]))
 .ret)))
def a_scanref2_recordOrder : AFun := ⟨2, [.t 4], P_scanref2_recordOrder, false, false⟩
def d_scanref2_recordOrder (C : Hd) (gl : Nat → Option PV) (v0 v1 : AV) (h : Heap) (x : Esc) (K : Ex → St → Prop) : Prop :=
 wK (oBox v0 h) fun t1 h2 y3 =>
 wK (oBox v1 h2) fun t4 h5 y6 =>
 pK (oFaddr 1 none t1) fun t7 =>
 pK (oLoad none t7 h5) fun t8 =>
 pK (oFaddr 1 none t4) fun t9 =>
 pK (oLoad none t9 h5) fun t10 =>
 pK (oBin .neq t8 t10) fun t11 =>
 condB t11 (pK (oFaddr 1 none t1) fun t12 =>
 pK (oLoad none t12 h5) fun t13 =>
 pK (oFaddr 1 none t4) fun t14 =>
 pK (oLoad none t14 h5) fun t15 =>
 pK (oBin .sub t13 t15) fun t16 =>
 C f_scanref2_sign [t16] h5 fun t17 h18 y19 =>
 K .ret ⟨[(4, t17)], h18, (y19 ++ (y6 ++ (y3 ++ x)))⟩)
 (pK (oFaddr 0 none t1) fun t20 =>
 pK (oLoad none t20 h5) fun t21 =>
 pK (oFaddr 0 none t4) fun t22 =>
 pK (oLoad none t22 h5) fun t23 =>
 C f_strings_Compare [t21, t23] h5 fun t24 h25 y26 =>
 K .ret ⟨[(4, t24)], h25, (y26 ++ (y6 ++ (y3 ++ x)))⟩)
theorem E_scanref2_recordOrder {C gl v0 v1 h x K} : NW C gl (P_scanref2_recordOrder) ⟨enter [v0, v1], h, x⟩ K = d_scanref2_recordOrder C gl v0 v1 h x K := by kernel_rfl
theorem e_scanref2_recordOrder {C gl v0 v1 h x K} : NW C gl a_scanref2_recordOrder.body ⟨enter [v0, v1], h, x⟩ K = d_scanref2_recordOrder C gl v0 v1 h x K := E_scanref2_recordOrder
def p_slices_IndexFunc_api_Limit_api_Limit_k1 : ACode := .pr [0, 1, 7, 8] (.seq (.reg [
  ⟨some 9, none, .bin .lss (.t 8) (.t 7)⟩] (some [0, 1, 7, 8, 9]))
 (.seq (.cond (.t 9) .skip
 (.exit 0))
 (.seq (.block 1 (.seq (.reg [
  ⟨some 10, none, .mv (.t 8)⟩,
  ⟨some 5, none, .mv (.t 10)⟩] (some [0, 1, 5, 7, 8]))
 (.seq (.reg [
  ⟨some 11, none, .mv (.t 1)⟩,
  ⟨some 12, none, .mv (.t 0)⟩,
  ⟨some 13, none, .mv (.t 5)⟩,
  ⟨some 14, none, .iaddr (some 4) (.t 12) (.t 13)⟩,
  ⟨some 15, none, .load (some 4) (.t 14)⟩,
  ⟨some 16, none, .callv (.t 11) [(.t 15)]⟩] (some [0, 1, 5, 7, 8, 16]))
 (.cond (.t 16) (.seq (.reg [
  ⟨some 17, none, .mv (.t 5)⟩,
  ⟨some 4, none, .mv (.t 17)⟩] (some [4]))
 .ret)
 .skip))))
 (.reg [
  ⟨some 18, none, .bin .add (.t 8) (.c (.p (.int .i64 1)))⟩,
  ⟨some 8, none, .mv (.t 18)⟩] (some [0, 1, 7, 8])))))
def d_slices_IndexFunc_api_Limit_api_Limit_k1 (C : Hd) (gl : Nat → Option PV) (v0 v1 v7 v8 : AV) (h : Heap) (x : Esc) (K : Ex → St → Prop) : Prop :=
 pK (oBin .lss v8 v7) fun t1 =>
 condB t1 (pK (oIaddr (some 4) v0 v8 h) fun t2 =>
 pK (oLoad (some 4) t2 h) fun t3 =>
 callvK C v1 [t3] h fun t4 h5 y6 =>
 condB t4 (K .ret ⟨[(4, v8)], h5, (y6 ++ x)⟩)
 (pK (oBin .add v8 (.p (.int .i64 1))) fun t7 =>
 K .normal ⟨[(0, v0), (1, v1), (7, v7), (8, t7)], h5, (y6 ++ x)⟩))
 (K (.exit 0) ⟨[(0, v0), (1, v1), (7, v7), (8, v8), (9, t1)], h, x⟩)
theorem e_slices_IndexFunc_api_Limit_api_Limit_k1 {C gl e h x K} : NW C gl p_slices_IndexFunc_api_Limit_api_Limit_k1 ⟨e, h, x⟩ K = d_slices_IndexFunc_api_Limit_api_Limit_k1 C gl (aget e 0) (aget e 1) (aget e 7) (aget e 8) h x K := by kernel_rfl
theorem l_slices_IndexFunc_api_Limit_api_Limit_k1 {C gl e h x K} : NW C gl (.loop p_slices_IndexFunc_api_Limit_api_Limit_k1) ⟨e, h, x⟩ K = NLoop C gl p_slices_IndexFunc_api_Limit_api_Limit_k1 K [(0, aget e 0), (1, aget e 1), (7, aget e 7), (8, aget e 8)] h x := NLoop_pr
def p_slices_IndexFunc_api_Limit_api_Limit_k2 : ACode := .pr [] (.seq (.reg [
  ⟨some 4, none, .mv (.c (.p (.int .i64 (-1))))⟩] (some [4]))
 .ret)
def d_slices_IndexFunc_api_Limit_api_Limit_k2 (C : Hd) (gl : Nat → Option PV) (h : Heap) (x : Esc) (K : Ex → St → Prop) : Prop :=
 K .ret ⟨[(4, (.p (.int .i64 (-1))))], h, x⟩
theorem e_slices_IndexFunc_api_Limit_api_Limit_k2 {C gl e h x K} : NW C gl p_slices_IndexFunc_api_Limit_api_Limit_k2 ⟨e, h, x⟩ K = d_slices_IndexFunc_api_Limit_api_Limit_k2 C gl h x K := by kernel_rfl
def P_slices_IndexFunc_api_Limit_api_Limit (q1 q2 : ACode) : ACode := (.seq (.reg [
  ⟨some 4, none, .mv (.c (.p (.int .i64 0)))⟩] (some [0, 1]))
 (.seq (.seq (.reg [
  ⟨some 6, none, .mv (.t 0)⟩,
  ⟨some 7, none, .len (.t 6)⟩,
  ⟨some 8, none, .mv (.c (.p (.int .i64 0)))⟩] (some [0, 1, 7, 8]))
 (.block 0 (.loop q1)))
 q2))
def a_slices_IndexFunc_api_Limit_api_Limit : AFun := ⟨2, [.t 4], P_slices_IndexFunc_api_Limit_api_Limit p_slices_IndexFunc_api_Limit_api_Limit_k1 p_slices_IndexFunc_api_Limit_api_Limit_k2, true, false⟩
def d_slices_IndexFunc_api_Limit_api_Limit (C : Hd) (gl : Nat → Option PV) (q1 q2 : ACode) (v0 v1 : AV) (h : Heap) (x : Esc) (K : Ex → St → Prop) : Prop :=
 pK (oLen v0) fun t1 =>
 NW C gl (.loop q1) ⟨[(0, v0), (1, v1), (7, t1), (8, (.p (.int .i64 0)))], h, x⟩ (blockN 0 (seqN C gl q2 K))
theorem E_slices_IndexFunc_api_Limit_api_Limit {C gl q1 q2 v0 v1 h x K} : NW C gl (P_slices_IndexFunc_api_Limit_api_Limit q1 q2) ⟨enter [v0, v1], h, x⟩ K = d_slices_IndexFunc_api_Limit_api_Limit C gl q1 q2 v0 v1 h x K := by kernel_rfl
theorem e_slices_IndexFunc_api_Limit_api_Limit {C gl v0 v1 h x K} : NW C gl a_slices_IndexFunc_api_Limit_api_Limit.body ⟨enter [v0, v1], h, x⟩ K = d_slices_IndexFunc_api_Limit_api_Limit C gl p_slices_IndexFunc_api_Limit_api_Limit_k1 p_slices_IndexFunc_api_Limit_api_Limit_k2 v0 v1 h x K := E_slices_IndexFunc_api_Limit_api_Limit
def P_scanref2_TestAt_1 : ACode := (.seq (.reg [
  ⟨some 2, none, .box (.t 0)⟩,
  ⟨some 3, none, .mv (.c (.p (.bool false)))⟩] (some [1, 2]))
 (.seq (.reg [
  ⟨some 4, none, .faddr 0 none (.t 2)⟩,
  ⟨some 5, none, .load none (.t 4)⟩,
  ⟨some 6, none, .load none (.t 1)⟩,
  ⟨some 7, none, .bin .eql (.t 5) (.t 6)⟩,
  ⟨some 3, none, .mv (.t 7)⟩] (some [3]))
 .ret))
def a_scanref2_TestAt_1 : AFun := ⟨2, [.t 3], P_scanref2_TestAt_1, false, false⟩
def d_scanref2_TestAt_1 (C : Hd) (gl : Nat → Option PV) (v0 v1 : AV) (h : Heap) (x : Esc) (K : Ex → St → Prop) : Prop :=
 wK (oBox v0 h) fun t1 h2 y3 =>
 pK (oFaddr 0 none t1) fun t4 =>
 pK (oLoad none t4 h2) fun t5 =>
 pK (oLoad none v1 h2) fun t6 =>
 pK (oBin .eql t5 t6) fun t7 =>
 K .ret ⟨[(3, t7)], h2, (y3 ++ x)⟩
theorem E_scanref2_TestAt_1 {C gl v0 v1 h x K} : NW C gl (P_scanref2_TestAt_1) ⟨enter [v0, v1], h, x⟩ K = d_scanref2_TestAt_1 C gl v0 v1 h x K := by kernel_rfl
theorem e_scanref2_TestAt_1 {C gl v0 v1 h x K} : NW C gl a_scanref2_TestAt_1.body ⟨enter [v0, v1], h, x⟩ K = d_scanref2_TestAt_1 C gl v0 v1 h x K := E_scanref2_TestAt_1
def P_scanref2_TighterOf_1 : ACode := (.seq (.reg [
  ⟨some 3, none, .mv (.c (.p (.bool false)))⟩] (some [0, 1]))
 (.seq (.reg [
  ⟨some 4, none, .mv (.t 0)⟩,
  ⟨some 5, none, .faddr 1 none (.t 1)⟩,
  ⟨some 6, none, .load none (.t 5)⟩,
  ⟨some 7, none, .faddr 2 none (.t 1)⟩,
  ⟨some 8, none, .load none (.t 7)⟩,
  ⟨some 9, none, .call f_scanref2_in [(.t 4), (.t 6), (.t 8)]⟩,
  ⟨some 10, none, .un .not (.t 9)⟩,
  ⟨some 3, none, .mv (.t 10)⟩] (some [3]))
 .ret))
def a_scanref2_TighterOf_1 : AFun := ⟨2, [.t 3], P_scanref2_TighterOf_1, false, false⟩
def d_scanref2_TighterOf_1 (C : Hd) (gl : Nat → Option PV) (v0 v1 : AV) (h : Heap) (x : Esc) (K : Ex → St → Prop) : Prop :=
 pK (oFaddr 1 none v1) fun t1 =>
 pK (oLoad none t1 h) fun t2 =>
 pK (oFaddr 2 none v1) fun t3 =>
 pK (oLoad none t3 h) fun t4 =>
 C f_scanref2_in [v0, t2, t4] h fun t5 h6 y7 =>
 pK (oUn .not t5) fun t8 =>
 K .ret ⟨[(3, t8)], h6, (y7 ++ x)⟩
theorem E_scanref2_TighterOf_1 {C gl v0 v1 h x K} : NW C gl (P_scanref2_TighterOf_1) ⟨enter [v0, v1], h, x⟩ K = d_scanref2_TighterOf_1 C gl v0 v1 h x K := by kernel_rfl
theorem e_scanref2_TighterOf_1 {C gl v0 v1 h x K} : NW C gl a_scanref2_TighterOf_1.body ⟨enter [v0, v1], h, x⟩ K = d_scanref2_TighterOf_1 C gl v0 v1 h x K := E_scanref2_TighterOf_1
def p_scanmake_Below_k1 : ACode := .pr [0] (.seq (.reg [
  ⟨some 15, none, .mv (.t 0)⟩,
  ⟨some 4, none, .mv (.t 15)⟩] (some [4]))
 .ret)
def d_scanmake_Below_k1 (C : Hd) (gl : Nat → Option PV) (v0 : AV) (h : Heap) (x : Esc) (K : Ex → St → Prop) : Prop :=
 K .ret ⟨[(4, v0)], h, x⟩
theorem e_scanmake_Below_k1 {C gl e h x K} : NW C gl p_scanmake_Below_k1 ⟨e, h, x⟩ K = d_scanmake_Below_k1 C gl (aget e 0) h x K := by kernel_rfl
def P_scanmake_Below (q1 : ACode) : ACode := (.seq (.reg [
  ⟨some 4, none, .mv (.c (.p (.int .i64 0)))⟩] (some [0, 1]))
 (.seq (.seq (.reg [
  ⟨some 5, none, .mv (.t 1)⟩,
  ⟨some 6, none, .bin .lss (.t 5) (.c (.p (.int .i64 1)))⟩] (some [0, 1, 6]))
 (.cond (.t 6) (.seq (.reg [
  ⟨some 4, none, .mv (.c (.p (.int .i64 0)))⟩] (some [4]))
 .ret)
 .skip))
 (.seq (.reg [
  ⟨some 7, none, .mv (.t 0)⟩,
  ⟨some 8, none, .mv (.t 1)⟩,
  ⟨some 9, none, .bin .rem (.t 7) (.t 8)⟩,
  ⟨some 0, none, .mv (.t 9)⟩] (some [0, 1]))
 (.seq (.seq (.reg [
  ⟨some 10, none, .mv (.t 0)⟩,
  ⟨some 11, none, .bin .lss (.t 10) (.c (.p (.int .i64 0)))⟩] (some [0, 1, 11]))
 (.cond (.t 11) (.reg [
  ⟨some 12, none, .mv (.t 0)⟩,
  ⟨some 13, none, .mv (.t 1)⟩,
  ⟨some 14, none, .bin .add (.t 12) (.t 13)⟩,
  ⟨some 0, none, .mv (.t 14)⟩] (some [0]))
 .skip))
 q1))))
def a_scanmake_Below : AFun := ⟨2, [.t 4], P_scanmake_Below p_scanmake_Below_k1, false, false⟩
def d_scanmake_Below (C : Hd) (gl : Nat → Option PV) (q1 : ACode) (v0 v1 : AV) (h : Heap) (x : Esc) (K : Ex → St → Prop) : Prop :=
 pK (oBin .lss v1 (.p (.int .i64 1))) fun t1 =>
 condB t1 (K .ret ⟨[(4, (.p (.int .i64 0)))], h, x⟩)
 (pK (oBin .rem v0 v1) fun t2 =>
 pK (oBin .lss t2 (.p (.int .i64 0))) fun t3 =>
 condB t3 (pK (oBin .add t2 v1) fun t4 =>
 NW C gl q1 ⟨[(0, t4)], h, x⟩ K)
 (NW C gl q1 ⟨[(0, t2), (1, v1), (11, t3)], h, x⟩ K))
theorem E_scanmake_Below {C gl q1 v0 v1 h x K} : NW C gl (P_scanmake_Below q1) ⟨enter [v0, v1], h, x⟩ K = d_scanmake_Below C gl q1 v0 v1 h x K := by kernel_rfl
theorem e_scanmake_Below {C gl v0 v1 h x K} : NW C gl a_scanmake_Below.body ⟨enter [v0, v1], h, x⟩ K = d_scanmake_Below C gl p_scanmake_Below_k1 v0 v1 h x K := E_scanmake_Below
def P_lot_valuesFault_1 : ACode := (.seq (.reg [
  ⟨some 2, none, .mv (.c (.p (.bool false)))⟩] (some [0]))
 (.seq (.reg [
  ⟨some 3, none, .mv (.t 0)⟩,
  ⟨some 4, none, .call f_lot_isMeasure [(.t 3)]⟩,
  ⟨some 5, none, .un .not (.t 4)⟩,
  ⟨some 2, none, .mv (.t 5)⟩] (some [2]))
 .ret))
def a_lot_valuesFault_1 : AFun := ⟨1, [.t 2], P_lot_valuesFault_1, false, false⟩
def d_lot_valuesFault_1 (C : Hd) (gl : Nat → Option PV) (v0 : AV) (h : Heap) (x : Esc) (K : Ex → St → Prop) : Prop :=
 C f_lot_isMeasure [v0] h fun t1 h2 y3 =>
 pK (oUn .not t1) fun t4 =>
 K .ret ⟨[(2, t4)], h2, (y3 ++ x)⟩
theorem E_lot_valuesFault_1 {C gl v0 h x K} : NW C gl (P_lot_valuesFault_1) ⟨enter [v0], h, x⟩ K = d_lot_valuesFault_1 C gl v0 h x K := by kernel_rfl
theorem e_lot_valuesFault_1 {C gl v0 h x K} : NW C gl a_lot_valuesFault_1.body ⟨enter [v0], h, x⟩ K = d_lot_valuesFault_1 C gl v0 h x K := E_lot_valuesFault_1
end Go.Am
end
