/- Texts of the proof, laid together: CodesD, CodesE, AmL. -/
import Derived.KernelRfl
import Derived.Test.YtdebeaaghenmpaaGreatDoorlawUC6
set_option linter.all false
section
/- The functions as abstract code,and as formulas over their values: printed by program out of the translation. -/
set_option linter.unusedVariables false
set_option maxRecDepth 100000
namespace Go.Am
def P_q00c : ACode:=(.seq (.reg [
  ⟨some 6,none,.mv (.c (.p (.bool false)))⟩] (some [0,1,2]))
 (.seq (.reg [
  ⟨some 7,none,.mv (.t 0)⟩,
  ⟨some 8,none,.mv (.t 1)⟩,
  ⟨some 9,none,.bin .lss (.t 7) (.t 8)⟩,
  ⟨some 10,none,.mv (.t 9)⟩,
  ⟨some 11,(some (10,false)),.mv (.t 0)⟩,
  ⟨some 12,(some (10,false)),.mv (.t 2)⟩,
  ⟨some 13,(some (10,false)),.bin .gtr (.t 11) (.t 12)⟩,
  ⟨some 14,none,.pick (.t 10) (.c (.p (.bool true))) (.t 13)⟩,
  ⟨some 6,none,.mv (.t 14)⟩] (some [6]))
 .ret))
def a_q00c : AFun:=⟨3,[.t 6],P_q00c,false,false⟩
def d_q00c (C : Hd) (gl : Nat → Option PV) (v0 v1 v2 : AV) (h : Heap) (x : Esc) (K : Ex → St → Prop) : Prop:=
 pK (oBin .lss v0 v1) fun t1=>
 gM t1 false v0 h fun t2 h3 y4=>
 gM t1 false v2 h3 fun t5 h6 y7=>
 gP t1 false (oBin .gtr t2 t5) h6 fun t8 h9 y10=>
 pK (oPick t1 (.p (.bool true)) t8) fun t11=>
 K .ret ⟨[(6,t11)],h9,(y10 ++ (y7 ++ (y4 ++ x)))⟩
theorem E_q00c {C gl v0 v1 v2 h x K} : NW C gl (P_q00c) ⟨enter [v0,v1,v2],h,x⟩ K = d_q00c C gl v0 v1 v2 h x K:=by kernel_rfl
theorem e_q00c {C gl v0 v1 v2 h x K} : NW C gl a_q00c.body ⟨enter [v0,v1,v2],h,x⟩ K = d_q00c C gl v0 v1 v2 h x K:=E_q00c
def p_q06g_k1 : ACode:=.pr [0,1,7,8] (.seq (.reg [
  ⟨some 9,none,.bin .lss (.t 8) (.t 7)⟩] (some [0,1,7,8,9]))
 (.seq (.cond (.t 9) .skip
 (.exit 0))
 (.seq (.block 1 (.seq (.reg [
  ⟨some 10,none,.mv (.t 8)⟩,
  ⟨some 5,none,.mv (.t 10)⟩] (some [0,1,5,7,8]))
 (.seq (.reg [
  ⟨some 11,none,.mv (.t 1)⟩,
  ⟨some 12,none,.mv (.t 0)⟩,
  ⟨some 13,none,.mv (.t 5)⟩,
  ⟨some 14,none,.iaddr none (.t 12) (.t 13)⟩,
  ⟨some 15,none,.load none (.t 14)⟩,
  ⟨some 16,none,.callv (.t 11) [(.t 15)]⟩] (some [0,1,5,7,8,16]))
 (.cond (.t 16) (.seq (.reg [
  ⟨some 17,none,.mv (.t 5)⟩,
  ⟨some 4,none,.mv (.t 17)⟩] (some [4]))
 .ret)
 .skip))))
 (.reg [
  ⟨some 18,none,.bin .add (.t 8) (.c (.p (.int .i64 1)))⟩,
  ⟨some 8,none,.mv (.t 18)⟩] (some [0,1,7,8])))))
def d_q06g_k1 (C : Hd) (gl : Nat → Option PV) (v0 v1 v7 v8 : AV) (h : Heap) (x : Esc) (K : Ex → St → Prop) : Prop:=
 pK (oBin .lss v8 v7) fun t1=>
 condB t1 (pK (oIaddr none v0 v8 h) fun t2=>
 pK (oLoad none t2 h) fun t3=>
 callvK C v1 [t3] h fun t4 h5 y6=>
 condB t4 (K .ret ⟨[(4,v8)],h5,(y6 ++ x)⟩)
 (pK (oBin .add v8 (.p (.int .i64 1))) fun t7=>
 K .normal ⟨[(0,v0),(1,v1),(7,v7),(8,t7)],h5,(y6 ++ x)⟩))
 (K (.exit 0) ⟨[(0,v0),(1,v1),(7,v7),(8,v8),(9,t1)],h,x⟩)
theorem e_q06g_k1 {C gl e h x K} : NW C gl p_q06g_k1 ⟨e,h,x⟩ K = d_q06g_k1 C gl (aget e 0) (aget e 1) (aget e 7) (aget e 8) h x K:=by kernel_rfl
theorem l_q06g_k1 {C gl e h x K} : NW C gl (.loop p_q06g_k1) ⟨e,h,x⟩ K = NLoop C gl p_q06g_k1 K [(0,aget e 0),(1,aget e 1),(7,aget e 7),(8,aget e 8)] h x:=NLoop_pr
def p_q06g_k2 : ACode:=.pr [] (.seq (.reg [
  ⟨some 4,none,.mv (.c (.p (.int .i64 (-1))))⟩] (some [4]))
 .ret)
def d_q06g_k2 (C : Hd) (gl : Nat → Option PV) (h : Heap) (x : Esc) (K : Ex → St → Prop) : Prop:=
 K .ret ⟨[(4,(.p (.int .i64 (-1))))],h,x⟩
theorem e_q06g_k2 {C gl e h x K} : NW C gl p_q06g_k2 ⟨e,h,x⟩ K = d_q06g_k2 C gl h x K:=by kernel_rfl
def P_q06g (q1 q2 : ACode) : ACode:=(.seq (.reg [
  ⟨some 4,none,.mv (.c (.p (.int .i64 0)))⟩] (some [0,1]))
 (.seq (.seq (.reg [
  ⟨some 6,none,.mv (.t 0)⟩,
  ⟨some 7,none,.len (.t 6)⟩,
  ⟨some 8,none,.mv (.c (.p (.int .i64 0)))⟩] (some [0,1,7,8]))
 (.block 0 (.loop q1)))
 q2))
def a_q06g : AFun:=⟨2,[.t 4],P_q06g p_q06g_k1 p_q06g_k2,true,false⟩
def d_q06g (C : Hd) (gl : Nat → Option PV) (q1 q2 : ACode) (v0 v1 : AV) (h : Heap) (x : Esc) (K : Ex → St → Prop) : Prop:=
 pK (oLen v0) fun t1=>
 NW C gl (.loop q1) ⟨[(0,v0),(1,v1),(7,t1),(8,(.p (.int .i64 0)))],h,x⟩ (blockN 0 (seqN C gl q2 K))
theorem E_q06g {C gl q1 q2 v0 v1 h x K} : NW C gl (P_q06g q1 q2) ⟨enter [v0,v1],h,x⟩ K = d_q06g C gl q1 q2 v0 v1 h x K:=by kernel_rfl
theorem e_q06g {C gl v0 v1 h x K} : NW C gl a_q06g.body ⟨enter [v0,v1],h,x⟩ K = d_q06g C gl p_q06g_k1 p_q06g_k2 v0 v1 h x K:=E_q06g
def P_q02t : ACode:=(.seq (.reg [
  ⟨some 2,none,.box (.t 0)⟩,
  ⟨some 3,none,.box (.t 1)⟩,
  ⟨some 4,none,.mv (.c (.p (.int .i64 0)))⟩] (some [2,3]))
 (.seq (.draw [
   ⟨⟨some 5,none,.faddr 1 none (.t 2)⟩,[2],false,[],[]⟩,
   ⟨⟨some 6,none,.load none (.t 5)⟩,[5],false,[],[]⟩,
   ⟨⟨some 7,none,.faddr 1 none (.t 3)⟩,[3],false,[],[]⟩,
   ⟨⟨some 8,none,.load none (.t 7)⟩,[7],false,[],[]⟩,
   ⟨⟨some 9,none,.call f_q00w [(.t 6),(.t 8)]⟩,[6,8],true,[],[]⟩,
   ⟨⟨some 10,none,.faddr 0 none (.t 2)⟩,[2],false,[],[]⟩,
   ⟨⟨some 11,none,.load none (.t 10)⟩,[10],false,[4],[]⟩,
   ⟨⟨some 12,none,.faddr 0 none (.t 3)⟩,[3],false,[],[]⟩,
   ⟨⟨some 13,none,.load none (.t 12)⟩,[12],false,[4],[]⟩,
   ⟨⟨some 14,none,.call f_q092 [(.t 11),(.t 13)]⟩,[11,13],true,[],[]⟩,
   ⟨⟨some 15,none,.bsl false none 2 (.int .i64 0) [(0,(.t 9)),(1,(.t 14))]⟩,[9,14],false,[],[]⟩,
   ⟨⟨some 16,none,.call f_q00z [(.t 15)]⟩,[15],true,[],[]⟩,
   ⟨⟨some 4,none,.mv (.t 16)⟩,[16],false,[],[]⟩] (some [4]))
 .ret))
def a_q02t : AFun:=⟨2,[.t 4],P_q02t,false,false⟩
def d_q02t (C : Hd) (gl : Nat → Option PV) (v0 v1 : AV) (h : Heap) (x : Esc) (K : Ex → St → Prop) : Prop:=
 wK (oBox v0 h) fun t1 h2 y3=>
 wK (oBox v1 h2) fun t4 h5 y6=>
 pK (oFaddr 1 none t1) fun t7=>
 pK (oLoad none t7 h5) fun t8=>
 pK (oFaddr 1 none t4) fun t9=>
 pK (oLoad none t9 h5) fun t10=>
 callE C f_q00w [t8,t10] h5 fun t11 h12 y13=>
 pK (oFaddr 0 none t1) fun t14=>
 pK (oLoad none t14 h12) fun t15=>
 (pK (oLoad none t14 h5) fun v=>(fun u (g1 : Heap) (y1 : Esc)=>u = t15 ∧ g1 = h5 ∧ y1 = []) v h5 []) ∧ (pK (oFaddr 0 none t4) fun t16=>
 pK (oLoad none t16 h12) fun t17=>
 (pK (oLoad none t16 h5) fun v=>(fun u (g1 : Heap) (y1 : Esc)=>u = t17 ∧ g1 = h5 ∧ y1 = []) v h5 []) ∧ (callE C f_q092 [t15,t17] h12 fun t18 h19 y20=>
 wK (oBsl false none 2 (.int .i64 0) [(0,t11),(1,t18)] h19) fun t21 h22 y23=>
 (h22 = h19 ∧ y23 = []) ∧ (callE C f_q00z [t21] h22 fun t24 h25 y26=>
 K .ret ⟨[(4,t24)],h25,(y26 ++ (y23 ++ (y20 ++ (y13 ++ (y6 ++ (y3 ++ x))))))⟩)))
theorem E_q02t {C gl v0 v1 h x K} : NW C gl (P_q02t) ⟨enter [v0,v1],h,x⟩ K = d_q02t C gl v0 v1 h x K:=by kernel_rfl
theorem e_q02t {C gl v0 v1 h x K} : NW C gl a_q02t.body ⟨enter [v0,v1],h,x⟩ K = d_q02t C gl v0 v1 h x K:=E_q02t
def p_q07z_k1 : ACode:=.pr [0,1,2,6,7,8] (.seq (.seq (.reg [
  ⟨some 11,none,.mv (.t 8)⟩,
  ⟨some 12,none,.mv (.t 1)⟩,
  ⟨some 13,none,.bin .leq (.t 11) (.t 12)⟩] (some [0,1,2,6,7,8,13]))
 (.cond (.t 13) .skip
 (.exit 0)))
 (.block 1 (.seq (.reg [
  ⟨some 14,none,.mv (.t 0)⟩,
  ⟨some 15,none,.mv (.t 7)⟩,
  ⟨some 16,none,.mv (.t 8)⟩,
  ⟨some 17,none,.mv (.t 2)⟩,
  ⟨some 18,none,.call f_q071 [(.t 14),(.t 15),(.t 16),(.t 17)]⟩] (some [0,1,2,6,8]))
 (.seq (.reg [
  ⟨some 19,none,.mv (.t 8)⟩,
  ⟨some 7,none,.mv (.t 19)⟩] (some [0,1,2,6,7,8]))
 (.reg [
  ⟨some 20,none,.mv (.t 8)⟩,
  ⟨some 21,none,.mv (.t 6)⟩,
  ⟨some 22,none,.bin .add (.t 20) (.t 21)⟩,
  ⟨some 8,none,.mv (.t 22)⟩] (some [0,1,2,6,7,8]))))))
def d_q07z_k1 (C : Hd) (gl : Nat → Option PV) (v0 v1 v2 v6 v7 v8 : AV) (h : Heap) (x : Esc) (K : Ex → St → Prop) : Prop:=
 pK (oBin .leq v8 v1) fun t1=>
 condB t1 (C f_q071 [v0,v7,v8,v2] h fun t2 h3 y4=>
 pK (oBin .add v8 v6) fun t5=>
 K .normal ⟨[(0,v0),(1,v1),(2,v2),(6,v6),(7,v8),(8,t5)],h3,(y4 ++ x)⟩)
 (K (.exit 0) ⟨[(0,v0),(1,v1),(2,v2),(6,v6),(7,v7),(8,v8),(13,t1)],h,x⟩)
theorem e_q07z_k1 {C gl e h x K} : NW C gl p_q07z_k1 ⟨e,h,x⟩ K = d_q07z_k1 C gl (aget e 0) (aget e 1) (aget e 2) (aget e 6) (aget e 7) (aget e 8) h x K:=by kernel_rfl
theorem l_q07z_k1 {C gl e h x K} : NW C gl (.loop p_q07z_k1) ⟨e,h,x⟩ K = NLoop C gl p_q07z_k1 K [(0,aget e 0),(1,aget e 1),(2,aget e 2),(6,aget e 6),(7,aget e 7),(8,aget e 8)] h x:=NLoop_pr
def p_q07z_k2 : ACode:=.pr [0,1,2,6,7,8] (.seq (.seq (.reg [
  ⟨some 33,none,.mv (.t 8)⟩,
  ⟨some 34,none,.mv (.t 1)⟩,
  ⟨some 35,none,.bin .leq (.t 33) (.t 34)⟩] (some [0,1,2,6,7,8,35]))
 (.cond (.t 35) .skip
 (.exit 4)))
 (.block 5 (.seq (.reg [
  ⟨some 36,none,.mv (.t 0)⟩,
  ⟨some 37,none,.mv (.t 7)⟩,
  ⟨some 38,none,.mv (.t 7)⟩,
  ⟨some 39,none,.mv (.t 6)⟩,
  ⟨some 40,none,.bin .add (.t 38) (.t 39)⟩,
  ⟨some 41,none,.mv (.t 8)⟩,
  ⟨some 42,none,.mv (.t 2)⟩,
  ⟨some 43,none,.call f_q083 [(.t 36),(.t 37),(.t 40),(.t 41),(.t 42)]⟩] (some [0,1,2,6,8]))
 (.seq (.reg [
  ⟨some 44,none,.mv (.t 8)⟩,
  ⟨some 7,none,.mv (.t 44)⟩] (some [0,1,2,6,7,8]))
 (.reg [
  ⟨some 45,none,.mv (.t 8)⟩,
  ⟨some 46,none,.mv (.t 6)⟩,
  ⟨some 47,none,.bin .mul (.c (.p (.int .i64 2))) (.t 46)⟩,
  ⟨some 48,none,.bin .add (.t 45) (.t 47)⟩,
  ⟨some 8,none,.mv (.t 48)⟩] (some [0,1,2,6,7,8]))))))
def d_q07z_k2 (C : Hd) (gl : Nat → Option PV) (v0 v1 v2 v6 v7 v8 : AV) (h : Heap) (x : Esc) (K : Ex → St → Prop) : Prop:=
 pK (oBin .leq v8 v1) fun t1=>
 condB t1 (pK (oBin .add v7 v6) fun t2=>
 C f_q083 [v0,v7,t2,v8,v2] h fun t3 h4 y5=>
 pK (oBin .mul (.p (.int .i64 2)) v6) fun t6=>
 pK (oBin .add v8 t6) fun t7=>
 K .normal ⟨[(0,v0),(1,v1),(2,v2),(6,v6),(7,v8),(8,t7)],h4,(y5 ++ x)⟩)
 (K (.exit 4) ⟨[(0,v0),(1,v1),(2,v2),(6,v6),(7,v7),(8,v8),(35,t1)],h,x⟩)
theorem e_q07z_k2 {C gl e h x K} : NW C gl p_q07z_k2 ⟨e,h,x⟩ K = d_q07z_k2 C gl (aget e 0) (aget e 1) (aget e 2) (aget e 6) (aget e 7) (aget e 8) h x K:=by kernel_rfl
theorem l_q07z_k2 {C gl e h x K} : NW C gl (.loop p_q07z_k2) ⟨e,h,x⟩ K = NLoop C gl p_q07z_k2 K [(0,aget e 0),(1,aget e 1),(2,aget e 2),(6,aget e 6),(7,aget e 7),(8,aget e 8)] h x:=NLoop_pr
def p_q07z_k3 : ACode:=.pr [0,1,2,6] (.reg [
  ⟨some 61,none,.mv (.t 6)⟩,
  ⟨some 62,none,.bin .mul (.t 61) (.c (.p (.int .i64 2)))⟩,
  ⟨some 6,none,.mv (.t 62)⟩] (some [0,1,2,6]))
def d_q07z_k3 (C : Hd) (gl : Nat → Option PV) (v0 v1 v2 v6 : AV) (h : Heap) (x : Esc) (K : Ex → St → Prop) : Prop:=
 pK (oBin .mul v6 (.p (.int .i64 2))) fun t1=>
 K .normal ⟨[(0,v0),(1,v1),(2,v2),(6,t1)],h,x⟩
theorem e_q07z_k3 {C gl e h x K} : NW C gl p_q07z_k3 ⟨e,h,x⟩ K = d_q07z_k3 C gl (aget e 0) (aget e 1) (aget e 2) (aget e 6) h x K:=by kernel_rfl
def P_q07z_k4 (q3 : ACode) : ACode:=.pr [0,1,2,6,7] (.seq (.seq (.reg [
  ⟨some 49,none,.mv (.t 7)⟩,
  ⟨some 50,none,.mv (.t 6)⟩,
  ⟨some 51,none,.bin .add (.t 49) (.t 50)⟩,
  ⟨some 9,none,.mv (.t 51)⟩] (some [0,1,2,6,7,9]))
 (.seq (.reg [
  ⟨some 52,none,.mv (.t 9)⟩,
  ⟨some 53,none,.mv (.t 1)⟩,
  ⟨some 54,none,.bin .lss (.t 52) (.t 53)⟩] (some [0,1,2,6,7,9,54]))
 (.cond (.t 54) (.reg [
  ⟨some 55,none,.mv (.t 0)⟩,
  ⟨some 56,none,.mv (.t 7)⟩,
  ⟨some 57,none,.mv (.t 9)⟩,
  ⟨some 58,none,.mv (.t 1)⟩,
  ⟨some 59,none,.mv (.t 2)⟩,
  ⟨some 60,none,.call f_q083 [(.t 55),(.t 56),(.t 57),(.t 58),(.t 59)]⟩] (some [0,1,2,6]))
 .skip)))
 q3)
def p_q07z_k4 : ACode:=P_q07z_k4 p_q07z_k3
def d_q07z_k4 (C : Hd) (gl : Nat → Option PV) (q3 : ACode) (v0 v1 v2 v6 v7 : AV) (h : Heap) (x : Esc) (K : Ex → St → Prop) : Prop:=
 pK (oBin .add v7 v6) fun t1=>
 pK (oBin .lss t1 v1) fun t2=>
 condB t2 (C f_q083 [v0,v7,t1,v1,v2] h fun t3 h4 y5=>
 NW C gl q3 ⟨[(0,v0),(1,v1),(2,v2),(6,v6)],h4,(y5 ++ x)⟩ K)
 (NW C gl q3 ⟨[(0,v0),(1,v1),(2,v2),(6,v6),(7,v7),(9,t1),(54,t2)],h,x⟩ K)
theorem E_q07z_k4 {C gl q3 e h x K} : NW C gl (P_q07z_k4 q3) ⟨e,h,x⟩ K = d_q07z_k4 C gl q3 (aget e 0) (aget e 1) (aget e 2) (aget e 6) (aget e 7) h x K:=by kernel_rfl
theorem e_q07z_k4 {C gl e h x K} : NW C gl p_q07z_k4 ⟨e,h,x⟩ K = d_q07z_k4 C gl p_q07z_k3 (aget e 0) (aget e 1) (aget e 2) (aget e 6) (aget e 7) h x K:=E_q07z_k4
def P_q07z_k5 (q2 q4 : ACode) : ACode:=.pr [0,1,2,6] (.seq (.seq (.reg [
  ⟨some 28,none,.mv (.t 6)⟩,
  ⟨some 29,none,.mv (.t 1)⟩,
  ⟨some 30,none,.bin .lss (.t 28) (.t 29)⟩] (some [0,1,2,6,30]))
 (.cond (.t 30) .skip
 (.exit 2)))
 (.block 3 (.seq (.reg [
  ⟨some 31,none,.mv (.t 6)⟩,
  ⟨some 32,none,.bin .mul (.c (.p (.int .i64 2))) (.t 31)⟩,
  ⟨some 7,none,.mv (.c (.p (.int .i64 0)))⟩,
  ⟨some 8,none,.mv (.t 32)⟩] (some [0,1,2,6,7,8]))
 (.seq (.block 4 (.loop q2))
 q4))))
def p_q07z_k5 : ACode:=P_q07z_k5 p_q07z_k2 p_q07z_k4
def d_q07z_k5 (C : Hd) (gl : Nat → Option PV) (q2 q4 : ACode) (v0 v1 v2 v6 : AV) (h : Heap) (x : Esc) (K : Ex → St → Prop) : Prop:=
 pK (oBin .lss v6 v1) fun t1=>
 condB t1 (pK (oBin .mul (.p (.int .i64 2)) v6) fun t2=>
 NW C gl (.loop q2) ⟨[(0,v0),(1,v1),(2,v2),(6,v6),(7,(.p (.int .i64 0))),(8,t2)],h,x⟩ (blockN 4 (seqN C gl q4 (blockN 3 K))))
 (K (.exit 2) ⟨[(0,v0),(1,v1),(2,v2),(6,v6),(30,t1)],h,x⟩)
theorem E_q07z_k5 {C gl q2 q4 e h x K} : NW C gl (P_q07z_k5 q2 q4) ⟨e,h,x⟩ K = d_q07z_k5 C gl q2 q4 (aget e 0) (aget e 1) (aget e 2) (aget e 6) h x K:=by kernel_rfl
theorem e_q07z_k5 {C gl e h x K} : NW C gl p_q07z_k5 ⟨e,h,x⟩ K = d_q07z_k5 C gl p_q07z_k2 p_q07z_k4 (aget e 0) (aget e 1) (aget e 2) (aget e 6) h x K:=E_q07z_k5
theorem l_q07z_k5 {C gl e h x K} : NW C gl (.loop p_q07z_k5) ⟨e,h,x⟩ K = NLoop C gl p_q07z_k5 K [(0,aget e 0),(1,aget e 1),(2,aget e 2),(6,aget e 6)] h x:=NLoop_pr
def P_q07z_k6 (q5 : ACode) : ACode:=.pr [0,1,2,6,7] (.seq (.reg [
  ⟨some 23,none,.mv (.t 0)⟩,
  ⟨some 24,none,.mv (.t 7)⟩,
  ⟨some 25,none,.mv (.t 1)⟩,
  ⟨some 26,none,.mv (.t 2)⟩,
  ⟨some 27,none,.call f_q071 [(.t 23),(.t 24),(.t 25),(.t 26)]⟩] (some [0,1,2,6]))
 (.block 2 (.loop q5)))
def p_q07z_k6 : ACode:=P_q07z_k6 p_q07z_k5
def d_q07z_k6 (C : Hd) (gl : Nat → Option PV) (q5 : ACode) (v0 v1 v2 v6 v7 : AV) (h : Heap) (x : Esc) (K : Ex → St → Prop) : Prop:=
 C f_q071 [v0,v7,v1,v2] h fun t1 h2 y3=>
 NW C gl (.loop q5) ⟨[(0,v0),(1,v1),(2,v2),(6,v6)],h2,(y3 ++ x)⟩ (blockN 2 K)
theorem E_q07z_k6 {C gl q5 e h x K} : NW C gl (P_q07z_k6 q5) ⟨e,h,x⟩ K = d_q07z_k6 C gl q5 (aget e 0) (aget e 1) (aget e 2) (aget e 6) (aget e 7) h x K:=by kernel_rfl
theorem e_q07z_k6 {C gl e h x K} : NW C gl p_q07z_k6 ⟨e,h,x⟩ K = d_q07z_k6 C gl p_q07z_k5 (aget e 0) (aget e 1) (aget e 2) (aget e 6) (aget e 7) h x K:=E_q07z_k6
def P_q07z (q1 q6 : ACode) : ACode:=(.seq (.reg [
  ⟨some 6,none,.mv (.c (.p (.int .i64 20)))⟩] (some [0,1,2,6]))
 (.seq (.reg [
  ⟨some 10,none,.mv (.t 6)⟩,
  ⟨some 7,none,.mv (.c (.p (.int .i64 0)))⟩,
  ⟨some 8,none,.mv (.t 10)⟩] (some [0,1,2,6,7,8]))
 (.seq (.block 0 (.loop q1))
 q6)))
def a_q07z : AFun:=⟨3,[],P_q07z p_q07z_k1 p_q07z_k6,true,false⟩
def d_q07z (C : Hd) (gl : Nat → Option PV) (q1 q6 : ACode) (v0 v1 v2 : AV) (h : Heap) (x : Esc) (K : Ex → St → Prop) : Prop:=
 NW C gl (.loop q1) ⟨[(0,v0),(1,v1),(2,v2),(6,(.p (.int .i64 20))),(7,(.p (.int .i64 0))),(8,(.p (.int .i64 20)))],h,x⟩ (blockN 0 (seqN C gl q6 K))
theorem E_q07z {C gl q1 q6 v0 v1 v2 h x K} : NW C gl (P_q07z q1 q6) ⟨enter [v0,v1,v2],h,x⟩ K = d_q07z C gl q1 q6 v0 v1 v2 h x K:=by kernel_rfl
theorem e_q07z {C gl v0 v1 v2 h x K} : NW C gl a_q07z.body ⟨enter [v0,v1,v2],h,x⟩ K = d_q07z C gl p_q07z_k1 p_q07z_k6 v0 v1 v2 h x K:=E_q07z
def P_q010 : ACode:=(.seq (.reg [
  ⟨some 2,none,.mv (.c (.p (.bool false)))⟩] (some [0]))
 (.seq (.reg [
  ⟨some 3,none,.mv (.t 0)⟩,
  ⟨some 4,none,.mv (.t 0)⟩,
  ⟨some 5,none,.bin .neq (.t 3) (.t 4)⟩,
  ⟨some 2,none,.mv (.t 5)⟩] (some [2]))
 .ret))
def a_q010 : AFun:=⟨1,[.t 2],P_q010,false,false⟩
def d_q010 (C : Hd) (gl : Nat → Option PV) (v0 : AV) (h : Heap) (x : Esc) (K : Ex → St → Prop) : Prop:=
 pK (oBin .neq v0 v0) fun t1=>
 K .ret ⟨[(2,t1)],h,x⟩
theorem E_q010 {C gl v0 h x K} : NW C gl (P_q010) ⟨enter [v0],h,x⟩ K = d_q010 C gl v0 h x K:=by kernel_rfl
theorem e_q010 {C gl v0 h x K} : NW C gl a_q010.body ⟨enter [v0],h,x⟩ K = d_q010 C gl v0 h x K:=E_q010
def P_q01h : ACode:=(.seq (.reg [
  ⟨some 4,none,.mv (.c (.p (.int .i64 0)))⟩] (some [0,1]))
 (.seq (.reg [
  ⟨some 5,none,.mv (.t 0)⟩,
  ⟨some 6,none,.mv (.t 1)⟩,
  ⟨some 7,none,.call f_internal_bytealg_abigen_runtime_cmpstring [(.t 5),(.t 6)]⟩,
  ⟨some 4,none,.mv (.t 7)⟩] (some [4]))
 .ret))
def a_q01h : AFun:=⟨2,[.t 4],P_q01h,false,false⟩
def d_q01h (C : Hd) (gl : Nat → Option PV) (v0 v1 : AV) (h : Heap) (x : Esc) (K : Ex → St → Prop) : Prop:=
 C f_internal_bytealg_abigen_runtime_cmpstring [v0,v1] h fun t1 h2 y3=>
 K .ret ⟨[(4,t1)],h2,(y3 ++ x)⟩
theorem E_q01h {C gl v0 v1 h x K} : NW C gl (P_q01h) ⟨enter [v0,v1],h,x⟩ K = d_q01h C gl v0 v1 h x K:=by kernel_rfl
theorem e_q01h {C gl v0 v1 h x K} : NW C gl a_q01h.body ⟨enter [v0,v1],h,x⟩ K = d_q01h C gl v0 v1 h x K:=E_q01h
def P_q04u : ACode:=(.seq (.reg [
  ⟨some 2,none,.mv (.c (.p (.bool false)))⟩] (some [0]))
 (.seq (.reg [
  ⟨some 3,none,.mv (.t 0)⟩,
  ⟨some 4,none,.lens (.t 3)⟩,
  ⟨some 5,none,.call f_q05l [(.t 4),(.c (.p (.int .i64 1))),(.c (.p (.int .i64 40)))]⟩,
  ⟨some 6,none,.mv (.t 5)⟩,
  ⟨some 7,(some (6,true)),.mv (.t 0)⟩,
  ⟨some 8,(some (6,true)),.slstr (.t 7) none (some (.c (.p (.int .i64 1))))⟩,
  ⟨some 9,(some (6,true)),.call f_q05m [(.t 8),(.c (.p (.str [97,98,99,100,101,102,103,104,105,106,107,108,109,110,111,112,113,114,115,116,117,118,119,120,121,122])))]⟩,
  ⟨some 10,none,.pick (.t 6) (.t 9) (.c (.p (.bool false)))⟩,
  ⟨some 11,none,.mv (.t 10)⟩,
  ⟨some 12,(some (11,true)),.mv (.t 0)⟩,
  ⟨some 13,(some (11,true)),.call f_q05m [(.t 12),(.c (.p (.str [97,98,99,100,101,102,103,104,105,106,107,108,109,110,111,112,113,114,115,116,117,118,119,120,121,122,48,49,50,51,52,53,54,55,56,57,45,95])))]⟩,
  ⟨some 14,none,.pick (.t 11) (.t 13) (.c (.p (.bool false)))⟩,
  ⟨some 2,none,.mv (.t 14)⟩] (some [2]))
 .ret))
def a_q04u : AFun:=⟨1,[.t 2],P_q04u,false,false⟩
def d_q04u (C : Hd) (gl : Nat → Option PV) (v0 : AV) (h : Heap) (x : Esc) (K : Ex → St → Prop) : Prop:=
 pK (oLens v0) fun t1=>
 C f_q05l [t1,(.p (.int .i64 1)),(.p (.int .i64 40))] h fun t2 h3 y4=>
 gM t2 true v0 h3 fun t5 h6 y7=>
 gP t2 true (oSlstr t5 none (some (.p (.int .i64 1)))) h6 fun t8 h9 y10=>
 gV t2 true h9 (C f_q05m [t8,(.p (.str [97,98,99,100,101,102,103,104,105,106,107,108,109,110,111,112,113,114,115,116,117,118,119,120,121,122]))] h9) fun t11 h12 y13=>
 pK (oPick t2 t11 (.p (.bool false))) fun t14=>
 gM t14 true v0 h12 fun t15 h16 y17=>
 gV t14 true h16 (C f_q05m [t15,(.p (.str [97,98,99,100,101,102,103,104,105,106,107,108,109,110,111,112,113,114,115,116,117,118,119,120,121,122,48,49,50,51,52,53,54,55,56,57,45,95]))] h16) fun t18 h19 y20=>
 pK (oPick t14 t18 (.p (.bool false))) fun t21=>
 K .ret ⟨[(2,t21)],h19,(y20 ++ (y17 ++ (y13 ++ (y10 ++ (y7 ++ (y4 ++ x))))))⟩
theorem E_q04u {C gl v0 h x K} : NW C gl (P_q04u) ⟨enter [v0],h,x⟩ K = d_q04u C gl v0 h x K:=by kernel_rfl
theorem e_q04u {C gl v0 h x K} : NW C gl a_q04u.body ⟨enter [v0],h,x⟩ K = d_q04u C gl v0 h x K:=E_q04u
def P_q05b : ACode:=(.seq (.reg [
  ⟨some 3,none,.box (.t 1)⟩,
  ⟨some 4,none,.mv (.c (.p (.int .i64 0)))⟩] (some [0,3]))
 (.seq (.reg [
  ⟨some 5,none,.mv (.t 0)⟩,
  ⟨some 6,none,.mkfn f_q05c [(.t 3)]⟩,
  ⟨some 7,none,.call f_q06e [(.t 5),(.t 6)]⟩,
  ⟨some 4,none,.mv (.t 7)⟩] (some [4]))
 .ret))
def a_q05b : AFun:=⟨2,[.t 4],P_q05b,false,false⟩
def d_q05b (C : Hd) (gl : Nat → Option PV) (v0 v1 : AV) (h : Heap) (x : Esc) (K : Ex → St → Prop) : Prop:=
 wK (oBox v1 h) fun t1 h2 y3=>
 C f_q06e [v0,(.fn f_q05c [t1])] h2 fun t4 h5 y6=>
 K .ret ⟨[(4,t4)],h5,(y6 ++ (y3 ++ x))⟩
theorem E_q05b {C gl v0 v1 h x K} : NW C gl (P_q05b) ⟨enter [v0,v1],h,x⟩ K = d_q05b C gl v0 v1 h x K:=by kernel_rfl
theorem e_q05b {C gl v0 v1 h x K} : NW C gl a_q05b.body ⟨enter [v0,v1],h,x⟩ K = d_q05b C gl v0 v1 h x K:=E_q05b
def P_q04y : ACode:=(.seq (.reg [
  ⟨some 2,none,.mv (.c (.p (.bool false)))⟩] (some [0]))
 (.seq (.reg [
  ⟨some 3,none,.mv (.t 0)⟩,
  ⟨some 4,none,.call f_q05l [(.t 3),(.c (.p (.int .i64 0))),(.c (.p (.int .i64 345686399999)))]⟩,
  ⟨some 2,none,.mv (.t 4)⟩] (some [2]))
 .ret))
def a_q04y : AFun:=⟨1,[.t 2],P_q04y,false,false⟩
def d_q04y (C : Hd) (gl : Nat → Option PV) (v0 : AV) (h : Heap) (x : Esc) (K : Ex → St → Prop) : Prop:=
 C f_q05l [v0,(.p (.int .i64 0)),(.p (.int .i64 345686399999))] h fun t1 h2 y3=>
 K .ret ⟨[(2,t1)],h2,(y3 ++ x)⟩
theorem E_q04y {C gl v0 h x K} : NW C gl (P_q04y) ⟨enter [v0],h,x⟩ K = d_q04y C gl v0 h x K:=by kernel_rfl
theorem e_q04y {C gl v0 h x K} : NW C gl a_q04y.body ⟨enter [v0],h,x⟩ K = d_q04y C gl v0 h x K:=E_q04y
def P_q060 : ACode:=(.seq (.reg [
  ⟨some 4,none,.mv (.c (.p (.bool false)))⟩] (some [0,1]))
 (.seq (.reg [
  ⟨some 5,none,.mv (.t 0)⟩,
  ⟨some 6,none,.mv (.t 1)⟩,
  ⟨some 7,none,.call f_q06g [(.t 5),(.t 6)]⟩,
  ⟨some 8,none,.bin .geq (.t 7) (.c (.p (.int .i64 0)))⟩,
  ⟨some 4,none,.mv (.t 8)⟩] (some [4]))
 .ret))
def a_q060 : AFun:=⟨2,[.t 4],P_q060,true,false⟩
def d_q060 (C : Hd) (gl : Nat → Option PV) (v0 v1 : AV) (h : Heap) (x : Esc) (K : Ex → St → Prop) : Prop:=
 C f_q06g [v0,v1] h fun t1 h2 y3=>
 pK (oBin .geq t1 (.p (.int .i64 0))) fun t4=>
 K .ret ⟨[(4,t4)],h2,(y3 ++ x)⟩
theorem E_q060 {C gl v0 v1 h x K} : NW C gl (P_q060) ⟨enter [v0,v1],h,x⟩ K = d_q060 C gl v0 v1 h x K:=by kernel_rfl
theorem e_q060 {C gl v0 v1 h x K} : NW C gl a_q060.body ⟨enter [v0,v1],h,x⟩ K = d_q060 C gl v0 v1 h x K:=E_q060
def P_q05p : ACode:=(.seq (.reg [
  ⟨some 2,none,.mv (.c (.p (.bool false)))⟩] (some [0]))
 (.seq (.reg [
  ⟨some 3,none,.mv (.t 0)⟩,
  ⟨some 4,none,.call f_q05l [(.t 3),(.c (.p (.int .i64 (-100000)))),(.c (.p (.int .i64 100000)))]⟩,
  ⟨some 5,none,.un .not (.t 4)⟩,
  ⟨some 2,none,.mv (.t 5)⟩] (some [2]))
 .ret))
def a_q05p : AFun:=⟨1,[.t 2],P_q05p,false,false⟩
def d_q05p (C : Hd) (gl : Nat → Option PV) (v0 : AV) (h : Heap) (x : Esc) (K : Ex → St → Prop) : Prop:=
 C f_q05l [v0,(.p (.int .i64 (-100000))),(.p (.int .i64 100000))] h fun t1 h2 y3=>
 pK (oUn .not t1) fun t4=>
 K .ret ⟨[(2,t4)],h2,(y3 ++ x)⟩
theorem E_q05p {C gl v0 h x K} : NW C gl (P_q05p) ⟨enter [v0],h,x⟩ K = d_q05p C gl v0 h x K:=by kernel_rfl
theorem e_q05p {C gl v0 h x K} : NW C gl a_q05p.body ⟨enter [v0],h,x⟩ K = d_q05p C gl v0 h x K:=E_q05p
def P_q05r : ACode:=(.seq (.reg [
  ⟨some 2,none,.mv (.c (.p (.int .i64 0)))⟩] (some [0]))
 (.seq (.block 0 (.seq (.reg [
  ⟨some 4,none,.mv (.t 0)⟩,
  ⟨some 5,none,.bin .lss (.t 4) (.c (.p (.int .i64 0)))⟩,
  ⟨some 3,none,.mv (.t 5)⟩] (some [0,3]))
 (.cond (.t 3) (.seq (.reg [
  ⟨some 2,none,.mv (.c (.p (.int .i64 (-1))))⟩] (some [2]))
 .ret)
 (.seq (.reg [
  ⟨some 7,none,.mv (.t 0)⟩,
  ⟨some 8,none,.bin .gtr (.t 7) (.c (.p (.int .i64 0)))⟩,
  ⟨some 6,none,.mv (.t 8)⟩] (some [6]))
 (.cond (.t 6) (.seq (.reg [
  ⟨some 2,none,.mv (.c (.p (.int .i64 1)))⟩] (some [2]))
 .ret)
 .skip)))))
 (.seq (.reg [
  ⟨some 2,none,.mv (.c (.p (.int .i64 0)))⟩] (some [2]))
 .ret)))
def a_q05r : AFun:=⟨1,[.t 2],P_q05r,false,false⟩
def d_q05r (C : Hd) (gl : Nat → Option PV) (v0 : AV) (h : Heap) (x : Esc) (K : Ex → St → Prop) : Prop:=
 pK (oBin .lss v0 (.p (.int .i64 0))) fun t1=>
 condB t1 (K .ret ⟨[(2,(.p (.int .i64 (-1))))],h,x⟩)
 (pK (oBin .gtr v0 (.p (.int .i64 0))) fun t2=>
 condB t2 (K .ret ⟨[(2,(.p (.int .i64 1)))],h,x⟩)
 (K .ret ⟨[(2,(.p (.int .i64 0)))],h,x⟩))
theorem E_q05r {C gl v0 h x K} : NW C gl (P_q05r) ⟨enter [v0],h,x⟩ K = d_q05r C gl v0 h x K:=by kernel_rfl
theorem e_q05r {C gl v0 h x K} : NW C gl a_q05r.body ⟨enter [v0],h,x⟩ K = d_q05r C gl v0 h x K:=E_q05r
def p_q007_k1 : ACode:=.pr [0,23,24] (.seq (.reg [
  ⟨some 25,none,.bin .lss (.t 24) (.t 23)⟩] (some [0,23,24,25]))
 (.seq (.cond (.t 25) .skip
 (.exit 0))
 (.seq (.block 1 (.seq (.reg [
  ⟨some 26,none,.mv (.t 24)⟩,
  ⟨some 3,none,.mv (.t 26)⟩] (some [0,3,23,24]))
 (.seq (.reg [
  ⟨some 27,none,.mv (.t 0)⟩,
  ⟨some 28,none,.mv (.t 3)⟩,
  ⟨some 29,none,.idxs (.t 27) (.t 28)⟩,
  ⟨some 4,none,.mv (.t 29)⟩] (some [0,4,23,24]))
 (.seq (.reg [
  ⟨some 30,none,.mv (.t 4)⟩,
  ⟨some 31,none,.bin .geq (.t 30) (.c (.p (.int .u8 97)))⟩,
  ⟨some 32,none,.mv (.t 31)⟩,
  ⟨some 33,(some (32,true)),.mv (.t 4)⟩,
  ⟨some 34,(some (32,true)),.bin .leq (.t 33) (.c (.p (.int .u8 122)))⟩,
  ⟨some 35,none,.pick (.t 32) (.t 34) (.c (.p (.bool false)))⟩,
  ⟨some 36,none,.mv (.t 35)⟩,
  ⟨some 37,(some (36,false)),.mv (.t 4)⟩,
  ⟨some 38,(some (36,false)),.bin .geq (.t 37) (.c (.p (.int .u8 48)))⟩,
  ⟨some 39,(some (36,false)),.mv (.t 38)⟩,
  ⟨some 40,(some (39,true)),.mv (.t 4)⟩,
  ⟨some 41,(some (39,true)),.bin .leq (.t 40) (.c (.p (.int .u8 57)))⟩,
  ⟨some 42,(some (36,false)),.pick (.t 39) (.t 41) (.c (.p (.bool false)))⟩,
  ⟨some 43,none,.pick (.t 36) (.c (.p (.bool true))) (.t 42)⟩,
  ⟨some 44,none,.mv (.t 43)⟩,
  ⟨some 45,(some (44,false)),.mv (.t 4)⟩,
  ⟨some 46,(some (44,false)),.bin .eql (.t 45) (.c (.p (.int .u8 45)))⟩,
  ⟨some 47,none,.pick (.t 44) (.c (.p (.bool true))) (.t 46)⟩,
  ⟨some 48,none,.mv (.t 47)⟩,
  ⟨some 49,(some (48,false)),.mv (.t 4)⟩,
  ⟨some 50,(some (48,false)),.bin .eql (.t 49) (.c (.p (.int .u8 95)))⟩,
  ⟨some 51,none,.pick (.t 48) (.c (.p (.bool true))) (.t 50)⟩,
  ⟨some 52,none,.un .not (.t 51)⟩] (some [0,23,24,52]))
 (.cond (.t 52) (.seq (.reg [
  ⟨some 2,none,.mv (.c (.p (.bool false)))⟩] (some [2]))
 .ret)
 .skip)))))
 (.reg [
  ⟨some 53,none,.bin .add (.t 24) (.c (.p (.int .i64 1)))⟩,
  ⟨some 24,none,.mv (.t 53)⟩] (some [0,23,24])))))
def d_q007_k1 (C : Hd) (gl : Nat → Option PV) (v0 v23 v24 : AV) (h : Heap) (x : Esc) (K : Ex → St → Prop) : Prop:=
 pK (oBin .lss v24 v23) fun t1=>
 condB t1 (pK (oIdxs v0 v24) fun t2=>
 pK (oBin .geq t2 (.p (.int .u8 97))) fun t3=>
 gM t3 true t2 h fun t4 h5 y6=>
 gP t3 true (oBin .leq t4 (.p (.int .u8 122))) h5 fun t7 h8 y9=>
 pK (oPick t3 t7 (.p (.bool false))) fun t10=>
 gM t10 false t2 h8 fun t11 h12 y13=>
 gP t10 false (oBin .geq t11 (.p (.int .u8 48))) h12 fun t14 h15 y16=>
 gM t10 false t14 h15 fun t17 h18 y19=>
 gM t17 true t2 h18 fun t20 h21 y22=>
 gP t17 true (oBin .leq t20 (.p (.int .u8 57))) h21 fun t23 h24 y25=>
 gP t10 false (oPick t17 t23 (.p (.bool false))) h24 fun t26 h27 y28=>
 pK (oPick t10 (.p (.bool true)) t26) fun t29=>
 gM t29 false t2 h27 fun t30 h31 y32=>
 gP t29 false (oBin .eql t30 (.p (.int .u8 45))) h31 fun t33 h34 y35=>
 pK (oPick t29 (.p (.bool true)) t33) fun t36=>
 gM t36 false t2 h34 fun t37 h38 y39=>
 gP t36 false (oBin .eql t37 (.p (.int .u8 95))) h38 fun t40 h41 y42=>
 pK (oPick t36 (.p (.bool true)) t40) fun t43=>
 pK (oUn .not t43) fun t44=>
 condB t44 (K .ret ⟨[(2,(.p (.bool false)))],h41,(y42 ++ (y39 ++ (y35 ++ (y32 ++ (y28 ++ (y25 ++ (y22 ++ (y19 ++ (y16 ++ (y13 ++ (y9 ++ (y6 ++ x))))))))))))⟩)
 (pK (oBin .add v24 (.p (.int .i64 1))) fun t45=>
 K .normal ⟨[(0,v0),(23,v23),(24,t45)],h41,(y42 ++ (y39 ++ (y35 ++ (y32 ++ (y28 ++ (y25 ++ (y22 ++ (y19 ++ (y16 ++ (y13 ++ (y9 ++ (y6 ++ x))))))))))))⟩))
 (K (.exit 0) ⟨[(0,v0),(23,v23),(24,v24),(25,t1)],h,x⟩)
theorem e_q007_k1 {C gl e h x K} : NW C gl p_q007_k1 ⟨e,h,x⟩ K = d_q007_k1 C gl (aget e 0) (aget e 23) (aget e 24) h x K:=by kernel_rfl
theorem l_q007_k1 {C gl e h x K} : NW C gl (.loop p_q007_k1) ⟨e,h,x⟩ K = NLoop C gl p_q007_k1 K [(0,aget e 0),(23,aget e 23),(24,aget e 24)] h x:=NLoop_pr
def p_q007_k2 : ACode:=.pr [] (.seq (.reg [
  ⟨some 2,none,.mv (.c (.p (.bool true)))⟩] (some [2]))
 .ret)
def d_q007_k2 (C : Hd) (gl : Nat → Option PV) (h : Heap) (x : Esc) (K : Ex → St → Prop) : Prop:=
 K .ret ⟨[(2,(.p (.bool true)))],h,x⟩
theorem e_q007_k2 {C gl e h x K} : NW C gl p_q007_k2 ⟨e,h,x⟩ K = d_q007_k2 C gl h x K:=by kernel_rfl
def P_q007 (q1 q2 : ACode) : ACode:=(.seq (.reg [
  ⟨some 2,none,.mv (.c (.p (.bool false)))⟩] (some [0]))
 (.seq (.seq (.reg [
  ⟨some 5,none,.mv (.t 0)⟩,
  ⟨some 6,none,.bin .eql (.t 5) (.c (.p (.str [])))⟩,
  ⟨some 7,none,.mv (.t 6)⟩,
  ⟨some 8,(some (7,false)),.mv (.t 0)⟩,
  ⟨some 9,(some (7,false)),.lens (.t 8)⟩,
  ⟨some 10,(some (7,false)),.bin .gtr (.t 9) (.c (.p (.int .i64 40)))⟩,
  ⟨some 11,none,.pick (.t 7) (.c (.p (.bool true))) (.t 10)⟩,
  ⟨some 12,none,.mv (.t 11)⟩,
  ⟨some 13,(some (12,false)),.mv (.t 0)⟩,
  ⟨some 14,(some (12,false)),.idxs (.t 13) (.c (.p (.int .i64 0)))⟩,
  ⟨some 15,(some (12,false)),.bin .lss (.t 14) (.c (.p (.int .u8 97)))⟩,
  ⟨some 16,none,.pick (.t 12) (.c (.p (.bool true))) (.t 15)⟩,
  ⟨some 17,none,.mv (.t 16)⟩,
  ⟨some 18,(some (17,false)),.mv (.t 0)⟩,
  ⟨some 19,(some (17,false)),.idxs (.t 18) (.c (.p (.int .i64 0)))⟩,
  ⟨some 20,(some (17,false)),.bin .gtr (.t 19) (.c (.p (.int .u8 122)))⟩,
  ⟨some 21,none,.pick (.t 17) (.c (.p (.bool true))) (.t 20)⟩] (some [0,21]))
 (.cond (.t 21) (.seq (.reg [
  ⟨some 2,none,.mv (.c (.p (.bool false)))⟩] (some [2]))
 .ret)
 .skip))
 (.seq (.seq (.reg [
  ⟨some 22,none,.mv (.t 0)⟩,
  ⟨some 23,none,.lens (.t 22)⟩,
  ⟨some 24,none,.mv (.c (.p (.int .i64 0)))⟩] (some [0,23,24]))
 (.block 0 (.loop q1)))
 q2)))
def a_q007 : AFun:=⟨1,[.t 2],P_q007 p_q007_k1 p_q007_k2,false,false⟩
def d_q007 (C : Hd) (gl : Nat → Option PV) (q1 q2 : ACode) (v0 : AV) (h : Heap) (x : Esc) (K : Ex → St → Prop) : Prop:=
 pK (oBin .eql v0 (.p (.str []))) fun t1=>
 gM t1 false v0 h fun t2 h3 y4=>
 gP t1 false (oLens t2) h3 fun t5 h6 y7=>
 gP t1 false (oBin .gtr t5 (.p (.int .i64 40))) h6 fun t8 h9 y10=>
 pK (oPick t1 (.p (.bool true)) t8) fun t11=>
 gM t11 false v0 h9 fun t12 h13 y14=>
 gP t11 false (oIdxs t12 (.p (.int .i64 0))) h13 fun t15 h16 y17=>
 gP t11 false (oBin .lss t15 (.p (.int .u8 97))) h16 fun t18 h19 y20=>
 pK (oPick t11 (.p (.bool true)) t18) fun t21=>
 gM t21 false v0 h19 fun t22 h23 y24=>
 gP t21 false (oIdxs t22 (.p (.int .i64 0))) h23 fun t25 h26 y27=>
 gP t21 false (oBin .gtr t25 (.p (.int .u8 122))) h26 fun t28 h29 y30=>
 pK (oPick t21 (.p (.bool true)) t28) fun t31=>
 condB t31 (K .ret ⟨[(2,(.p (.bool false)))],h29,(y30 ++ (y27 ++ (y24 ++ (y20 ++ (y17 ++ (y14 ++ (y10 ++ (y7 ++ (y4 ++ x)))))))))⟩)
 (pK (oLens v0) fun t32=>
 NW C gl (.loop q1) ⟨[(0,v0),(23,t32),(24,(.p (.int .i64 0)))],h29,(y30 ++ (y27 ++ (y24 ++ (y20 ++ (y17 ++ (y14 ++ (y10 ++ (y7 ++ (y4 ++ x)))))))))⟩ (blockN 0 (seqN C gl q2 K)))
theorem E_q007 {C gl q1 q2 v0 h x K} : NW C gl (P_q007 q1 q2) ⟨enter [v0],h,x⟩ K = d_q007 C gl q1 q2 v0 h x K:=by kernel_rfl
theorem e_q007 {C gl v0 h x K} : NW C gl a_q007.body ⟨enter [v0],h,x⟩ K = d_q007 C gl p_q007_k1 p_q007_k2 v0 h x K:=E_q007
def P_q039 : ACode:=(.seq (.reg [
  ⟨some 3,none,.box (.t 1)⟩,
  ⟨some 4,none,.mv (.c (.p (.int .i64 0)))⟩] (some [0,3]))
 (.seq (.block 0 (.seq (.reg [
  ⟨some 6,none,.faddr 0 none (.t 3)⟩,
  ⟨some 7,none,.load none (.t 6)⟩,
  ⟨some 8,none,.call f_q007 [(.t 7)]⟩,
  ⟨some 9,none,.un .not (.t 8)⟩,
  ⟨some 10,none,.mv (.t 9)⟩,
  ⟨some 11,(some (10,false)),.faddr 2 none (.t 3)⟩,
  ⟨some 12,(some (10,false)),.load none (.t 11)⟩,
  ⟨some 13,(some (10,false)),.call f_q007 [(.t 12)]⟩,
  ⟨some 14,(some (10,false)),.un .not (.t 13)⟩,
  ⟨some 15,none,.pick (.t 10) (.c (.p (.bool true))) (.t 14)⟩,
  ⟨some 5,none,.mv (.t 15)⟩] (some [0,3,5]))
 (.cond (.t 5) (.seq (.reg [
  ⟨some 4,none,.mv (.c (.p (.int .i64 5)))⟩] (some [4]))
 .ret)
 (.seq (.reg [
  ⟨some 17,none,.faddr 1 none (.t 3)⟩,
  ⟨some 18,none,.load none (.t 17)⟩,
  ⟨some 19,none,.call f_q009 [(.t 18)]⟩,
  ⟨some 20,none,.un .not (.t 19)⟩,
  ⟨some 21,none,.mv (.t 20)⟩,
  ⟨some 22,(some (21,false)),.faddr 3 none (.t 3)⟩,
  ⟨some 23,(some (21,false)),.load none (.t 22)⟩,
  ⟨some 24,(some (21,false)),.call f_q060 [(.t 23),(.f f_q03a)]⟩,
  ⟨some 25,none,.pick (.t 21) (.c (.p (.bool true))) (.t 24)⟩,
  ⟨some 16,none,.mv (.t 25)⟩] (some [0,3,16]))
 (.cond (.t 16) (.seq (.reg [
  ⟨some 4,none,.mv (.c (.p (.int .i64 1)))⟩] (some [4]))
 .ret)
 (.seq (.reg [
  ⟨some 27,none,.mv (.t 0)⟩,
  ⟨some 28,none,.load (some 4) (.t 3)⟩,
  ⟨some 29,none,.call f_q02w [(.t 27),(.t 28)]⟩,
  ⟨some 30,none,.un .not (.t 29)⟩,
  ⟨some 26,none,.mv (.t 30)⟩] (some [26]))
 (.cond (.t 26) (.seq (.reg [
  ⟨some 4,none,.mv (.c (.p (.int .i64 3)))⟩] (some [4]))
 .ret)
 .skip)))))))
 (.seq (.reg [
  ⟨some 4,none,.mv (.c (.p (.int .i64 0)))⟩] (some [4]))
 .ret)))
def a_q039 : AFun:=⟨2,[.t 4],P_q039,false,false⟩
def d_q039 (C : Hd) (gl : Nat → Option PV) (v0 v1 : AV) (h : Heap) (x : Esc) (K : Ex → St → Prop) : Prop:=
 wK (oBox v1 h) fun t1 h2 y3=>
 pK (oFaddr 0 none t1) fun t4=>
 pK (oLoad none t4 h2) fun t5=>
 C f_q007 [t5] h2 fun t6 h7 y8=>
 pK (oUn .not t6) fun t9=>
 gP t9 false (oFaddr 2 none t1) h7 fun t10 h11 y12=>
 gP t9 false (oLoad none t10 h11) h11 fun t13 h14 y15=>
 gV t9 false h14 (C f_q007 [t13] h14) fun t16 h17 y18=>
 gP t9 false (oUn .not t16) h17 fun t19 h20 y21=>
 pK (oPick t9 (.p (.bool true)) t19) fun t22=>
 condB t22 (K .ret ⟨[(4,(.p (.int .i64 5)))],h20,(y21 ++ (y18 ++ (y15 ++ (y12 ++ (y8 ++ (y3 ++ x))))))⟩)
 (pK (oFaddr 1 none t1) fun t23=>
 pK (oLoad none t23 h20) fun t24=>
 C f_q009 [t24] h20 fun t25 h26 y27=>
 pK (oUn .not t25) fun t28=>
 gP t28 false (oFaddr 3 none t1) h26 fun t29 h30 y31=>
 gP t28 false (oLoad none t29 h30) h30 fun t32 h33 y34=>
 gV t28 false h33 (C f_q060 [t32,(.fn f_q03a [])] h33) fun t35 h36 y37=>
 pK (oPick t28 (.p (.bool true)) t35) fun t38=>
 condB t38 (K .ret ⟨[(4,(.p (.int .i64 1)))],h36,(y37 ++ (y34 ++ (y31 ++ (y27 ++ (y21 ++ (y18 ++ (y15 ++ (y12 ++ (y8 ++ (y3 ++ x))))))))))⟩)
 (pK (oLoad (some 4) t1 h36) fun t39=>
 C f_q02w [v0,t39] h36 fun t40 h41 y42=>
 pK (oUn .not t40) fun t43=>
 condB t43 (K .ret ⟨[(4,(.p (.int .i64 3)))],h41,(y42 ++ (y37 ++ (y34 ++ (y31 ++ (y27 ++ (y21 ++ (y18 ++ (y15 ++ (y12 ++ (y8 ++ (y3 ++ x)))))))))))⟩)
 (K .ret ⟨[(4,(.p (.int .i64 0)))],h41,(y42 ++ (y37 ++ (y34 ++ (y31 ++ (y27 ++ (y21 ++ (y18 ++ (y15 ++ (y12 ++ (y8 ++ (y3 ++ x)))))))))))⟩)))
theorem E_q039 {C gl v0 v1 h x K} : NW C gl (P_q039) ⟨enter [v0,v1],h,x⟩ K = d_q039 C gl v0 v1 h x K:=by kernel_rfl
theorem e_q039 {C gl v0 v1 h x K} : NW C gl a_q039.body ⟨enter [v0,v1],h,x⟩ K = d_q039 C gl v0 v1 h x K:=E_q039
def p_q05m_k1 : ACode:=.pr [0,1,7,8] (.seq (.reg [
  ⟨some 9,none,.bin .lss (.t 8) (.t 7)⟩] (some [0,1,7,8,9]))
 (.seq (.cond (.t 9) .skip
 (.exit 0))
 (.seq (.block 1 (.seq (.reg [
  ⟨some 10,none,.mv (.t 8)⟩,
  ⟨some 5,none,.mv (.t 10)⟩] (some [0,1,5,7,8]))
 (.seq (.reg [
  ⟨some 11,none,.mv (.t 1)⟩,
  ⟨some 12,none,.mv (.t 0)⟩,
  ⟨some 13,none,.mv (.t 5)⟩,
  ⟨some 14,none,.idxs (.t 12) (.t 13)⟩,
  ⟨some 15,none,.call f_q098 [(.t 11),(.t 14)]⟩,
  ⟨some 16,none,.bin .lss (.t 15) (.c (.p (.int .i64 0)))⟩] (some [0,1,7,8,16]))
 (.cond (.t 16) (.seq (.reg [
  ⟨some 4,none,.mv (.c (.p (.bool false)))⟩] (some [4]))
 .ret)
 .skip))))
 (.reg [
  ⟨some 17,none,.bin .add (.t 8) (.c (.p (.int .i64 1)))⟩,
  ⟨some 8,none,.mv (.t 17)⟩] (some [0,1,7,8])))))
def d_q05m_k1 (C : Hd) (gl : Nat → Option PV) (v0 v1 v7 v8 : AV) (h : Heap) (x : Esc) (K : Ex → St → Prop) : Prop:=
 pK (oBin .lss v8 v7) fun t1=>
 condB t1 (pK (oIdxs v0 v8) fun t2=>
 C f_q098 [v1,t2] h fun t3 h4 y5=>
 pK (oBin .lss t3 (.p (.int .i64 0))) fun t6=>
 condB t6 (K .ret ⟨[(4,(.p (.bool false)))],h4,(y5 ++ x)⟩)
 (pK (oBin .add v8 (.p (.int .i64 1))) fun t7=>
 K .normal ⟨[(0,v0),(1,v1),(7,v7),(8,t7)],h4,(y5 ++ x)⟩))
 (K (.exit 0) ⟨[(0,v0),(1,v1),(7,v7),(8,v8),(9,t1)],h,x⟩)
theorem e_q05m_k1 {C gl e h x K} : NW C gl p_q05m_k1 ⟨e,h,x⟩ K = d_q05m_k1 C gl (aget e 0) (aget e 1) (aget e 7) (aget e 8) h x K:=by kernel_rfl
theorem l_q05m_k1 {C gl e h x K} : NW C gl (.loop p_q05m_k1) ⟨e,h,x⟩ K = NLoop C gl p_q05m_k1 K [(0,aget e 0),(1,aget e 1),(7,aget e 7),(8,aget e 8)] h x:=NLoop_pr
def p_q05m_k2 : ACode:=.pr [] (.seq (.reg [
  ⟨some 4,none,.mv (.c (.p (.bool true)))⟩] (some [4]))
 .ret)
def d_q05m_k2 (C : Hd) (gl : Nat → Option PV) (h : Heap) (x : Esc) (K : Ex → St → Prop) : Prop:=
 K .ret ⟨[(4,(.p (.bool true)))],h,x⟩
theorem e_q05m_k2 {C gl e h x K} : NW C gl p_q05m_k2 ⟨e,h,x⟩ K = d_q05m_k2 C gl h x K:=by kernel_rfl
def P_q05m (q1 q2 : ACode) : ACode:=(.seq (.reg [
  ⟨some 4,none,.mv (.c (.p (.bool false)))⟩] (some [0,1]))
 (.seq (.seq (.reg [
  ⟨some 6,none,.mv (.t 0)⟩,
  ⟨some 7,none,.lens (.t 6)⟩,
  ⟨some 8,none,.mv (.c (.p (.int .i64 0)))⟩] (some [0,1,7,8]))
 (.block 0 (.loop q1)))
 q2))
def a_q05m : AFun:=⟨2,[.t 4],P_q05m p_q05m_k1 p_q05m_k2,false,false⟩
def d_q05m (C : Hd) (gl : Nat → Option PV) (q1 q2 : ACode) (v0 v1 : AV) (h : Heap) (x : Esc) (K : Ex → St → Prop) : Prop:=
 pK (oLens v0) fun t1=>
 NW C gl (.loop q1) ⟨[(0,v0),(1,v1),(7,t1),(8,(.p (.int .i64 0)))],h,x⟩ (blockN 0 (seqN C gl q2 K))
theorem E_q05m {C gl q1 q2 v0 v1 h x K} : NW C gl (P_q05m q1 q2) ⟨enter [v0,v1],h,x⟩ K = d_q05m C gl q1 q2 v0 v1 h x K:=by kernel_rfl
theorem e_q05m {C gl v0 v1 h x K} : NW C gl a_q05m.body ⟨enter [v0,v1],h,x⟩ K = d_q05m C gl p_q05m_k1 p_q05m_k2 v0 v1 h x K:=E_q05m
def P_q03i : ACode:=(.seq (.reg [
  ⟨some 2,none,.mv (.c (.p (.bool false)))⟩] (some [0]))
 (.seq (.reg [
  ⟨some 3,none,.mv (.t 0)⟩,
  ⟨some 4,none,.call f_q036 [(.t 3)]⟩,
  ⟨some 5,none,.un .not (.t 4)⟩,
  ⟨some 2,none,.mv (.t 5)⟩] (some [2]))
 .ret))
def a_q03i : AFun:=⟨1,[.t 2],P_q03i,false,false⟩
def d_q03i (C : Hd) (gl : Nat → Option PV) (v0 : AV) (h : Heap) (x : Esc) (K : Ex → St → Prop) : Prop:=
 C f_q036 [v0] h fun t1 h2 y3=>
 pK (oUn .not t1) fun t4=>
 K .ret ⟨[(2,t4)],h2,(y3 ++ x)⟩
theorem E_q03i {C gl v0 h x K} : NW C gl (P_q03i) ⟨enter [v0],h,x⟩ K = d_q03i C gl v0 h x K:=by kernel_rfl
theorem e_q03i {C gl v0 h x K} : NW C gl a_q03i.body ⟨enter [v0],h,x⟩ K = d_q03i C gl v0 h x K:=E_q03i
def P_q036 : ACode:=(.seq (.reg [
  ⟨some 2,none,.mv (.c (.p (.bool false)))⟩] (some [0]))
 (.seq (.reg [
  ⟨some 3,none,.mv (.t 0)⟩,
  ⟨some 4,none,.call f_q00c [(.t 3),(.c (.p (.int .i64 (-100000)))),(.c (.p (.int .i64 100000)))]⟩,
  ⟨some 5,none,.un .not (.t 4)⟩,
  ⟨some 2,none,.mv (.t 5)⟩] (some [2]))
 .ret))
def a_q036 : AFun:=⟨1,[.t 2],P_q036,false,false⟩
def d_q036 (C : Hd) (gl : Nat → Option PV) (v0 : AV) (h : Heap) (x : Esc) (K : Ex → St → Prop) : Prop:=
 C f_q00c [v0,(.p (.int .i64 (-100000))),(.p (.int .i64 100000))] h fun t1 h2 y3=>
 pK (oUn .not t1) fun t4=>
 K .ret ⟨[(2,t4)],h2,(y3 ++ x)⟩
theorem E_q036 {C gl v0 h x K} : NW C gl (P_q036) ⟨enter [v0],h,x⟩ K = d_q036 C gl v0 h x K:=by kernel_rfl
theorem e_q036 {C gl v0 h x K} : NW C gl a_q036.body ⟨enter [v0],h,x⟩ K = d_q036 C gl v0 h x K:=E_q036
def p_q006_k1 : ACode:=.pr [0,1] (.seq (.seq (.reg [
  ⟨some 5,none,.mv (.t 1)⟩,
  ⟨some 6,none,.bin .neq (.t 5) (.c (.p (.int .i64 0)))⟩] (some [0,1,6]))
 (.cond (.t 6) .skip
 (.exit 0)))
 (.block 1 (.draw [
   ⟨⟨some 7,none,.mv (.t 1)⟩,[1],false,[],[]⟩,
   ⟨⟨some 8,none,.mv (.t 0)⟩,[0],false,[],[]⟩,
   ⟨⟨some 9,none,.mv (.t 1)⟩,[1],false,[],[]⟩,
   ⟨⟨some 10,none,.bin .rem (.t 8) (.t 9)⟩,[8,9],false,[],[]⟩,
   ⟨⟨some 0,none,.mv (.t 7)⟩,[7],false,[],[]⟩,
   ⟨⟨some 1,none,.mv (.t 10)⟩,[10],false,[],[]⟩] (some [0,1]))))
def d_q006_k1 (C : Hd) (gl : Nat → Option PV) (v0 v1 : AV) (h : Heap) (x : Esc) (K : Ex → St → Prop) : Prop:=
 pK (oBin .neq v1 (.p (.int .i64 0))) fun t1=>
 condB t1 (pK (oBin .rem v0 v1) fun t2=>
 K .normal ⟨[(0,v1),(1,t2)],h,x⟩)
 (K (.exit 0) ⟨[(0,v0),(1,v1),(6,t1)],h,x⟩)
theorem e_q006_k1 {C gl e h x K} : NW C gl p_q006_k1 ⟨e,h,x⟩ K = d_q006_k1 C gl (aget e 0) (aget e 1) h x K:=by kernel_rfl
theorem l_q006_k1 {C gl e h x K} : NW C gl (.loop p_q006_k1) ⟨e,h,x⟩ K = NLoop C gl p_q006_k1 K [(0,aget e 0),(1,aget e 1)] h x:=NLoop_pr
def p_q006_k2 : ACode:=.pr [0] (.seq (.reg [
  ⟨some 11,none,.mv (.t 0)⟩,
  ⟨some 4,none,.mv (.t 11)⟩] (some [4]))
 .ret)
def d_q006_k2 (C : Hd) (gl : Nat → Option PV) (v0 : AV) (h : Heap) (x : Esc) (K : Ex → St → Prop) : Prop:=
 K .ret ⟨[(4,v0)],h,x⟩
theorem e_q006_k2 {C gl e h x K} : NW C gl p_q006_k2 ⟨e,h,x⟩ K = d_q006_k2 C gl (aget e 0) h x K:=by kernel_rfl
def P_q006 (q1 q2 : ACode) : ACode:=(.seq (.reg [
  ⟨some 4,none,.mv (.c (.p (.int .i64 0)))⟩] (some [0,1]))
 (.seq (.block 0 (.loop q1))
 q2))
def a_q006 : AFun:=⟨2,[.t 4],P_q006 p_q006_k1 p_q006_k2,false,false⟩
def d_q006 (C : Hd) (gl : Nat → Option PV) (q1 q2 : ACode) (v0 v1 : AV) (h : Heap) (x : Esc) (K : Ex → St → Prop) : Prop:=
 NW C gl (.loop q1) ⟨[(0,v0),(1,v1)],h,x⟩ (blockN 0 (seqN C gl q2 K))
theorem E_q006 {C gl q1 q2 v0 v1 h x K} : NW C gl (P_q006 q1 q2) ⟨enter [v0,v1],h,x⟩ K = d_q006 C gl q1 q2 v0 v1 h x K:=by kernel_rfl
theorem e_q006 {C gl v0 v1 h x K} : NW C gl a_q006.body ⟨enter [v0,v1],h,x⟩ K = d_q006 C gl p_q006_k1 p_q006_k2 v0 v1 h x K:=E_q006
def P_q06n : ACode:=(.seq (.reg [
  ⟨some 5,none,.mv (.t 0)⟩,
  ⟨some 6,none,.len (.t 5)⟩,
  ⟨some 4,none,.mv (.t 6)⟩] (some [0,1,4]))
 (.reg [
  ⟨some 7,none,.mv (.t 0)⟩,
  ⟨some 8,none,.mv (.t 4)⟩,
  ⟨some 9,none,.mv (.t 4)⟩,
  ⟨some 10,none,.conv (.i .u64) (.t 9)⟩,
  ⟨some 11,none,.call f_q03l [(.t 10)]⟩,
  ⟨some 12,none,.mv (.t 1)⟩,
  ⟨some 13,none,.call f_q07o [(.t 7),(.c (.p (.int .i64 0))),(.t 8),(.t 11),(.t 12)]⟩] (some [])))
def a_q06n : AFun:=⟨2,[],P_q06n,true,false⟩
def d_q06n (C : Hd) (gl : Nat → Option PV) (v0 v1 : AV) (h : Heap) (x : Esc) (K : Ex → St → Prop) : Prop:=
 pK (oLen v0) fun t1=>
 pK (oConvI .u64 t1) fun t2=>
 C f_q03l [t2] h fun t3 h4 y5=>
 C f_q07o [v0,(.p (.int .i64 0)),t1,t3,v1] h4 fun t6 h7 y8=>
 K .normal ⟨[],h7,(y8 ++ (y5 ++ x))⟩
theorem E_q06n {C gl v0 v1 h x K} : NW C gl (P_q06n) ⟨enter [v0,v1],h,x⟩ K = d_q06n C gl v0 v1 h x K:=by kernel_rfl
theorem e_q06n {C gl v0 v1 h x K} : NW C gl a_q06n.body ⟨enter [v0,v1],h,x⟩ K = d_q06n C gl v0 v1 h x K:=E_q06n
def P_q031 : ACode:=(.seq (.reg [
  ⟨some 2,none,.box (.t 0)⟩,
  ⟨some 3,none,.box (.t 1)⟩,
  ⟨some 4,none,.mv (.c (.p (.int .i64 0)))⟩] (some [2,3]))
 (.seq (.reg [
  ⟨some 5,none,.faddr 0 none (.t 2)⟩,
  ⟨some 6,none,.load none (.t 5)⟩,
  ⟨some 7,none,.faddr 0 none (.t 3)⟩,
  ⟨some 8,none,.load none (.t 7)⟩,
  ⟨some 9,none,.call f_q092 [(.t 6),(.t 8)]⟩,
  ⟨some 4,none,.mv (.t 9)⟩] (some [4]))
 .ret))
def a_q031 : AFun:=⟨2,[.t 4],P_q031,false,false⟩
def d_q031 (C : Hd) (gl : Nat → Option PV) (v0 v1 : AV) (h : Heap) (x : Esc) (K : Ex → St → Prop) : Prop:=
 wK (oBox v0 h) fun t1 h2 y3=>
 wK (oBox v1 h2) fun t4 h5 y6=>
 pK (oFaddr 0 none t1) fun t7=>
 pK (oLoad none t7 h5) fun t8=>
 pK (oFaddr 0 none t4) fun t9=>
 pK (oLoad none t9 h5) fun t10=>
 C f_q092 [t8,t10] h5 fun t11 h12 y13=>
 K .ret ⟨[(4,t11)],h12,(y13 ++ (y6 ++ (y3 ++ x)))⟩
theorem E_q031 {C gl v0 v1 h x K} : NW C gl (P_q031) ⟨enter [v0,v1],h,x⟩ K = d_q031 C gl v0 v1 h x K:=by kernel_rfl
theorem e_q031 {C gl v0 v1 h x K} : NW C gl a_q031.body ⟨enter [v0,v1],h,x⟩ K = d_q031 C gl v0 v1 h x K:=E_q031
def p_q080_k1 : ACode:=.pr [0,1,2,6,7,8] (.seq (.seq (.reg [
  ⟨some 11,none,.mv (.t 8)⟩,
  ⟨some 12,none,.mv (.t 1)⟩,
  ⟨some 13,none,.bin .leq (.t 11) (.t 12)⟩] (some [0,1,2,6,7,8,13]))
 (.cond (.t 13) .skip
 (.exit 0)))
 (.block 1 (.seq (.reg [
  ⟨some 14,none,.mv (.t 0)⟩,
  ⟨some 15,none,.mv (.t 7)⟩,
  ⟨some 16,none,.mv (.t 8)⟩,
  ⟨some 17,none,.mv (.t 2)⟩,
  ⟨some 18,none,.call f_q072 [(.t 14),(.t 15),(.t 16),(.t 17)]⟩] (some [0,1,2,6,8]))
 (.seq (.reg [
  ⟨some 19,none,.mv (.t 8)⟩,
  ⟨some 7,none,.mv (.t 19)⟩] (some [0,1,2,6,7,8]))
 (.reg [
  ⟨some 20,none,.mv (.t 8)⟩,
  ⟨some 21,none,.mv (.t 6)⟩,
  ⟨some 22,none,.bin .add (.t 20) (.t 21)⟩,
  ⟨some 8,none,.mv (.t 22)⟩] (some [0,1,2,6,7,8]))))))
def d_q080_k1 (C : Hd) (gl : Nat → Option PV) (v0 v1 v2 v6 v7 v8 : AV) (h : Heap) (x : Esc) (K : Ex → St → Prop) : Prop:=
 pK (oBin .leq v8 v1) fun t1=>
 condB t1 (C f_q072 [v0,v7,v8,v2] h fun t2 h3 y4=>
 pK (oBin .add v8 v6) fun t5=>
 K .normal ⟨[(0,v0),(1,v1),(2,v2),(6,v6),(7,v8),(8,t5)],h3,(y4 ++ x)⟩)
 (K (.exit 0) ⟨[(0,v0),(1,v1),(2,v2),(6,v6),(7,v7),(8,v8),(13,t1)],h,x⟩)
theorem e_q080_k1 {C gl e h x K} : NW C gl p_q080_k1 ⟨e,h,x⟩ K = d_q080_k1 C gl (aget e 0) (aget e 1) (aget e 2) (aget e 6) (aget e 7) (aget e 8) h x K:=by kernel_rfl
theorem l_q080_k1 {C gl e h x K} : NW C gl (.loop p_q080_k1) ⟨e,h,x⟩ K = NLoop C gl p_q080_k1 K [(0,aget e 0),(1,aget e 1),(2,aget e 2),(6,aget e 6),(7,aget e 7),(8,aget e 8)] h x:=NLoop_pr
def p_q080_k2 : ACode:=.pr [0,1,2,6,7,8] (.seq (.seq (.reg [
  ⟨some 33,none,.mv (.t 8)⟩,
  ⟨some 34,none,.mv (.t 1)⟩,
  ⟨some 35,none,.bin .leq (.t 33) (.t 34)⟩] (some [0,1,2,6,7,8,35]))
 (.cond (.t 35) .skip
 (.exit 4)))
 (.block 5 (.seq (.reg [
  ⟨some 36,none,.mv (.t 0)⟩,
  ⟨some 37,none,.mv (.t 7)⟩,
  ⟨some 38,none,.mv (.t 7)⟩,
  ⟨some 39,none,.mv (.t 6)⟩,
  ⟨some 40,none,.bin .add (.t 38) (.t 39)⟩,
  ⟨some 41,none,.mv (.t 8)⟩,
  ⟨some 42,none,.mv (.t 2)⟩,
  ⟨some 43,none,.call f_q084 [(.t 36),(.t 37),(.t 40),(.t 41),(.t 42)]⟩] (some [0,1,2,6,8]))
 (.seq (.reg [
  ⟨some 44,none,.mv (.t 8)⟩,
  ⟨some 7,none,.mv (.t 44)⟩] (some [0,1,2,6,7,8]))
 (.reg [
  ⟨some 45,none,.mv (.t 8)⟩,
  ⟨some 46,none,.mv (.t 6)⟩,
  ⟨some 47,none,.bin .mul (.c (.p (.int .i64 2))) (.t 46)⟩,
  ⟨some 48,none,.bin .add (.t 45) (.t 47)⟩,
  ⟨some 8,none,.mv (.t 48)⟩] (some [0,1,2,6,7,8]))))))
def d_q080_k2 (C : Hd) (gl : Nat → Option PV) (v0 v1 v2 v6 v7 v8 : AV) (h : Heap) (x : Esc) (K : Ex → St → Prop) : Prop:=
 pK (oBin .leq v8 v1) fun t1=>
 condB t1 (pK (oBin .add v7 v6) fun t2=>
 C f_q084 [v0,v7,t2,v8,v2] h fun t3 h4 y5=>
 pK (oBin .mul (.p (.int .i64 2)) v6) fun t6=>
 pK (oBin .add v8 t6) fun t7=>
 K .normal ⟨[(0,v0),(1,v1),(2,v2),(6,v6),(7,v8),(8,t7)],h4,(y5 ++ x)⟩)
 (K (.exit 4) ⟨[(0,v0),(1,v1),(2,v2),(6,v6),(7,v7),(8,v8),(35,t1)],h,x⟩)
theorem e_q080_k2 {C gl e h x K} : NW C gl p_q080_k2 ⟨e,h,x⟩ K = d_q080_k2 C gl (aget e 0) (aget e 1) (aget e 2) (aget e 6) (aget e 7) (aget e 8) h x K:=by kernel_rfl
theorem l_q080_k2 {C gl e h x K} : NW C gl (.loop p_q080_k2) ⟨e,h,x⟩ K = NLoop C gl p_q080_k2 K [(0,aget e 0),(1,aget e 1),(2,aget e 2),(6,aget e 6),(7,aget e 7),(8,aget e 8)] h x:=NLoop_pr
def p_q080_k3 : ACode:=.pr [0,1,2,6] (.reg [
  ⟨some 61,none,.mv (.t 6)⟩,
  ⟨some 62,none,.bin .mul (.t 61) (.c (.p (.int .i64 2)))⟩,
  ⟨some 6,none,.mv (.t 62)⟩] (some [0,1,2,6]))
def d_q080_k3 (C : Hd) (gl : Nat → Option PV) (v0 v1 v2 v6 : AV) (h : Heap) (x : Esc) (K : Ex → St → Prop) : Prop:=
 pK (oBin .mul v6 (.p (.int .i64 2))) fun t1=>
 K .normal ⟨[(0,v0),(1,v1),(2,v2),(6,t1)],h,x⟩
theorem e_q080_k3 {C gl e h x K} : NW C gl p_q080_k3 ⟨e,h,x⟩ K = d_q080_k3 C gl (aget e 0) (aget e 1) (aget e 2) (aget e 6) h x K:=by kernel_rfl
def P_q080_k4 (q3 : ACode) : ACode:=.pr [0,1,2,6,7] (.seq (.seq (.reg [
  ⟨some 49,none,.mv (.t 7)⟩,
  ⟨some 50,none,.mv (.t 6)⟩,
  ⟨some 51,none,.bin .add (.t 49) (.t 50)⟩,
  ⟨some 9,none,.mv (.t 51)⟩] (some [0,1,2,6,7,9]))
 (.seq (.reg [
  ⟨some 52,none,.mv (.t 9)⟩,
  ⟨some 53,none,.mv (.t 1)⟩,
  ⟨some 54,none,.bin .lss (.t 52) (.t 53)⟩] (some [0,1,2,6,7,9,54]))
 (.cond (.t 54) (.reg [
  ⟨some 55,none,.mv (.t 0)⟩,
  ⟨some 56,none,.mv (.t 7)⟩,
  ⟨some 57,none,.mv (.t 9)⟩,
  ⟨some 58,none,.mv (.t 1)⟩,
  ⟨some 59,none,.mv (.t 2)⟩,
  ⟨some 60,none,.call f_q084 [(.t 55),(.t 56),(.t 57),(.t 58),(.t 59)]⟩] (some [0,1,2,6]))
 .skip)))
 q3)
def p_q080_k4 : ACode:=P_q080_k4 p_q080_k3
def d_q080_k4 (C : Hd) (gl : Nat → Option PV) (q3 : ACode) (v0 v1 v2 v6 v7 : AV) (h : Heap) (x : Esc) (K : Ex → St → Prop) : Prop:=
 pK (oBin .add v7 v6) fun t1=>
 pK (oBin .lss t1 v1) fun t2=>
 condB t2 (C f_q084 [v0,v7,t1,v1,v2] h fun t3 h4 y5=>
 NW C gl q3 ⟨[(0,v0),(1,v1),(2,v2),(6,v6)],h4,(y5 ++ x)⟩ K)
 (NW C gl q3 ⟨[(0,v0),(1,v1),(2,v2),(6,v6),(7,v7),(9,t1),(54,t2)],h,x⟩ K)
theorem E_q080_k4 {C gl q3 e h x K} : NW C gl (P_q080_k4 q3) ⟨e,h,x⟩ K = d_q080_k4 C gl q3 (aget e 0) (aget e 1) (aget e 2) (aget e 6) (aget e 7) h x K:=by kernel_rfl
theorem e_q080_k4 {C gl e h x K} : NW C gl p_q080_k4 ⟨e,h,x⟩ K = d_q080_k4 C gl p_q080_k3 (aget e 0) (aget e 1) (aget e 2) (aget e 6) (aget e 7) h x K:=E_q080_k4
def P_q080_k5 (q2 q4 : ACode) : ACode:=.pr [0,1,2,6] (.seq (.seq (.reg [
  ⟨some 28,none,.mv (.t 6)⟩,
  ⟨some 29,none,.mv (.t 1)⟩,
  ⟨some 30,none,.bin .lss (.t 28) (.t 29)⟩] (some [0,1,2,6,30]))
 (.cond (.t 30) .skip
 (.exit 2)))
 (.block 3 (.seq (.reg [
  ⟨some 31,none,.mv (.t 6)⟩,
  ⟨some 32,none,.bin .mul (.c (.p (.int .i64 2))) (.t 31)⟩,
  ⟨some 7,none,.mv (.c (.p (.int .i64 0)))⟩,
  ⟨some 8,none,.mv (.t 32)⟩] (some [0,1,2,6,7,8]))
 (.seq (.block 4 (.loop q2))
 q4))))
def p_q080_k5 : ACode:=P_q080_k5 p_q080_k2 p_q080_k4
def d_q080_k5 (C : Hd) (gl : Nat → Option PV) (q2 q4 : ACode) (v0 v1 v2 v6 : AV) (h : Heap) (x : Esc) (K : Ex → St → Prop) : Prop:=
 pK (oBin .lss v6 v1) fun t1=>
 condB t1 (pK (oBin .mul (.p (.int .i64 2)) v6) fun t2=>
 NW C gl (.loop q2) ⟨[(0,v0),(1,v1),(2,v2),(6,v6),(7,(.p (.int .i64 0))),(8,t2)],h,x⟩ (blockN 4 (seqN C gl q4 (blockN 3 K))))
 (K (.exit 2) ⟨[(0,v0),(1,v1),(2,v2),(6,v6),(30,t1)],h,x⟩)
theorem E_q080_k5 {C gl q2 q4 e h x K} : NW C gl (P_q080_k5 q2 q4) ⟨e,h,x⟩ K = d_q080_k5 C gl q2 q4 (aget e 0) (aget e 1) (aget e 2) (aget e 6) h x K:=by kernel_rfl
theorem e_q080_k5 {C gl e h x K} : NW C gl p_q080_k5 ⟨e,h,x⟩ K = d_q080_k5 C gl p_q080_k2 p_q080_k4 (aget e 0) (aget e 1) (aget e 2) (aget e 6) h x K:=E_q080_k5
theorem l_q080_k5 {C gl e h x K} : NW C gl (.loop p_q080_k5) ⟨e,h,x⟩ K = NLoop C gl p_q080_k5 K [(0,aget e 0),(1,aget e 1),(2,aget e 2),(6,aget e 6)] h x:=NLoop_pr
def P_q080_k6 (q5 : ACode) : ACode:=.pr [0,1,2,6,7] (.seq (.reg [
  ⟨some 23,none,.mv (.t 0)⟩,
  ⟨some 24,none,.mv (.t 7)⟩,
  ⟨some 25,none,.mv (.t 1)⟩,
  ⟨some 26,none,.mv (.t 2)⟩,
  ⟨some 27,none,.call f_q072 [(.t 23),(.t 24),(.t 25),(.t 26)]⟩] (some [0,1,2,6]))
 (.block 2 (.loop q5)))
def p_q080_k6 : ACode:=P_q080_k6 p_q080_k5
def d_q080_k6 (C : Hd) (gl : Nat → Option PV) (q5 : ACode) (v0 v1 v2 v6 v7 : AV) (h : Heap) (x : Esc) (K : Ex → St → Prop) : Prop:=
 C f_q072 [v0,v7,v1,v2] h fun t1 h2 y3=>
 NW C gl (.loop q5) ⟨[(0,v0),(1,v1),(2,v2),(6,v6)],h2,(y3 ++ x)⟩ (blockN 2 K)
theorem E_q080_k6 {C gl q5 e h x K} : NW C gl (P_q080_k6 q5) ⟨e,h,x⟩ K = d_q080_k6 C gl q5 (aget e 0) (aget e 1) (aget e 2) (aget e 6) (aget e 7) h x K:=by kernel_rfl
theorem e_q080_k6 {C gl e h x K} : NW C gl p_q080_k6 ⟨e,h,x⟩ K = d_q080_k6 C gl p_q080_k5 (aget e 0) (aget e 1) (aget e 2) (aget e 6) (aget e 7) h x K:=E_q080_k6
def P_q080 (q1 q6 : ACode) : ACode:=(.seq (.reg [
  ⟨some 6,none,.mv (.c (.p (.int .i64 20)))⟩] (some [0,1,2,6]))
 (.seq (.reg [
  ⟨some 10,none,.mv (.t 6)⟩,
  ⟨some 7,none,.mv (.c (.p (.int .i64 0)))⟩,
  ⟨some 8,none,.mv (.t 10)⟩] (some [0,1,2,6,7,8]))
 (.seq (.block 0 (.loop q1))
 q6)))
def a_q080 : AFun:=⟨3,[],P_q080 p_q080_k1 p_q080_k6,true,false⟩
def d_q080 (C : Hd) (gl : Nat → Option PV) (q1 q6 : ACode) (v0 v1 v2 : AV) (h : Heap) (x : Esc) (K : Ex → St → Prop) : Prop:=
 NW C gl (.loop q1) ⟨[(0,v0),(1,v1),(2,v2),(6,(.p (.int .i64 20))),(7,(.p (.int .i64 0))),(8,(.p (.int .i64 20)))],h,x⟩ (blockN 0 (seqN C gl q6 K))
theorem E_q080 {C gl q1 q6 v0 v1 v2 h x K} : NW C gl (P_q080 q1 q6) ⟨enter [v0,v1,v2],h,x⟩ K = d_q080 C gl q1 q6 v0 v1 v2 h x K:=by kernel_rfl
theorem e_q080 {C gl v0 v1 v2 h x K} : NW C gl a_q080.body ⟨enter [v0,v1,v2],h,x⟩ K = d_q080 C gl p_q080_k1 p_q080_k6 v0 v1 v2 h x K:=E_q080
def p_q07q_k1 : ACode:=.pr [0,1,2,3,8,9,10,11] (.seq (.seq (.draw [
   ⟨⟨some 73,none,.mv (.t 1)⟩,[1],false,[],[]⟩,
   ⟨⟨some 74,none,.bin .gtr (.t 73) (.c (.p (.int .i64 0)))⟩,[73],false,[],[]⟩,
   ⟨⟨some 75,none,.mv (.t 74)⟩,[74],false,[],[]⟩,
   ⟨⟨some 76,(some (75,true)),.mv (.t 0)⟩,[0,75],false,[],[]⟩,
   ⟨⟨some 77,(some (75,true)),.mv (.t 1)⟩,[1,75],false,[],[]⟩,
   ⟨⟨some 78,(some (75,true)),.bin .sub (.t 77) (.c (.p (.int .i64 1)))⟩,[77,75],false,[],[]⟩,
   ⟨⟨some 79,(some (75,true)),.iaddr none (.t 76) (.t 78)⟩,[76,78,75],false,[],[]⟩,
   ⟨⟨some 80,(some (75,true)),.load none (.t 79)⟩,[79,75],false,[],[]⟩,
   ⟨⟨some 81,(some (75,true)),.mv (.t 0)⟩,[0,75],false,[],[]⟩,
   ⟨⟨some 82,(some (75,true)),.mv (.t 11)⟩,[11,75],false,[],[]⟩,
   ⟨⟨some 83,(some (75,true)),.iaddr none (.t 81) (.t 82)⟩,[81,82,75],false,[],[]⟩,
   ⟨⟨some 84,(some (75,true)),.load none (.t 83)⟩,[83,75],false,[],[]⟩,
   ⟨⟨some 85,(some (75,true)),.call f_q00y [(.t 80),(.t 84)]⟩,[80,84,75],true,[],[]⟩,
   ⟨⟨some 86,(some (75,true)),.un .not (.t 85)⟩,[85,75],false,[],[]⟩,
   ⟨⟨some 87,none,.pick (.t 75) (.t 86) (.c (.p (.bool false)))⟩,[75,86],false,[],[]⟩] (some [0,1,2,3,8,9,10,11,87]))
 (.cond (.t 87) (.seq (.reg [
  ⟨some 88,none,.mv (.t 0)⟩,
  ⟨some 89,none,.mv (.t 1)⟩,
  ⟨some 90,none,.mv (.t 2)⟩,
  ⟨some 91,none,.mv (.t 11)⟩,
  ⟨some 92,none,.call f_q07l [(.t 88),(.t 89),(.t 90),(.t 91)]⟩,
  ⟨some 13,none,.mv (.t 92)⟩] (some [0,2,3,8,9,13]))
 (.seq (.reg [
  ⟨some 93,none,.mv (.t 13)⟩,
  ⟨some 1,none,.mv (.t 93)⟩] (some [0,1,2,3,8,9]))
 (.exit 1)))
 .skip))
 (.seq (.reg [
  ⟨some 95,none,.mv (.t 0)⟩,
  ⟨some 96,none,.mv (.t 1)⟩,
  ⟨some 97,none,.mv (.t 2)⟩,
  ⟨some 98,none,.mv (.t 11)⟩,
  ⟨some 99,none,.call f_q07n [(.t 95),(.t 96),(.t 97),(.t 98)]⟩,
  ⟨some 94,none,.mv (.t 99)⟩,
  ⟨some 100,none,.ext (.t 94) 0⟩,
  ⟨some 101,none,.ext (.t 94) 1⟩,
  ⟨some 14,none,.mv (.t 100)⟩,
  ⟨some 15,none,.mv (.t 101)⟩] (some [0,1,2,3,10,14,15]))
 (.seq (.reg [
  ⟨some 102,none,.mv (.t 15)⟩,
  ⟨some 9,none,.mv (.t 102)⟩] (some [0,1,2,3,9,10,14]))
 (.seq (.reg [
  ⟨some 103,none,.mv (.t 14)⟩,
  ⟨some 104,none,.mv (.t 1)⟩,
  ⟨some 105,none,.bin .sub (.t 103) (.t 104)⟩,
  ⟨some 106,none,.mv (.t 2)⟩,
  ⟨some 107,none,.mv (.t 14)⟩,
  ⟨some 108,none,.bin .sub (.t 106) (.t 107)⟩,
  ⟨some 16,none,.mv (.t 105)⟩,
  ⟨some 17,none,.mv (.t 108)⟩] (some [0,1,2,3,9,10,14,16,17]))
 (.seq (.reg [
  ⟨some 109,none,.mv (.t 10)⟩,
  ⟨some 110,none,.bin .quo (.t 109) (.c (.p (.int .i64 8)))⟩,
  ⟨some 18,none,.mv (.t 110)⟩] (some [0,1,2,3,9,14,16,17,18]))
 (.seq (.reg [
  ⟨some 111,none,.mv (.t 16)⟩,
  ⟨some 112,none,.mv (.t 17)⟩,
  ⟨some 113,none,.bin .lss (.t 111) (.t 112)⟩] (some [0,1,2,3,9,14,16,17,18,113]))
 (.cond (.t 113) (.seq (.reg [
  ⟨some 114,none,.mv (.t 16)⟩,
  ⟨some 115,none,.mv (.t 18)⟩,
  ⟨some 116,none,.bin .geq (.t 114) (.t 115)⟩,
  ⟨some 8,none,.mv (.t 116)⟩] (some [0,1,2,3,8,9,14]))
 (.seq (.reg [
  ⟨some 117,none,.mv (.t 0)⟩,
  ⟨some 118,none,.mv (.t 1)⟩,
  ⟨some 119,none,.mv (.t 14)⟩,
  ⟨some 120,none,.mv (.t 3)⟩,
  ⟨some 121,none,.call f_q07q [(.t 117),(.t 118),(.t 119),(.t 120)]⟩] (some [0,2,3,8,9,14]))
 (.reg [
  ⟨some 122,none,.mv (.t 14)⟩,
  ⟨some 123,none,.bin .add (.t 122) (.c (.p (.int .i64 1)))⟩,
  ⟨some 1,none,.mv (.t 123)⟩] (some [0,1,2,3,8,9]))))
 (.seq (.reg [
  ⟨some 124,none,.mv (.t 17)⟩,
  ⟨some 125,none,.mv (.t 18)⟩,
  ⟨some 126,none,.bin .geq (.t 124) (.t 125)⟩,
  ⟨some 8,none,.mv (.t 126)⟩] (some [0,1,2,3,8,9,14]))
 (.seq (.reg [
  ⟨some 127,none,.mv (.t 0)⟩,
  ⟨some 128,none,.mv (.t 14)⟩,
  ⟨some 129,none,.bin .add (.t 128) (.c (.p (.int .i64 1)))⟩,
  ⟨some 130,none,.mv (.t 2)⟩,
  ⟨some 131,none,.mv (.t 3)⟩,
  ⟨some 132,none,.call f_q07q [(.t 127),(.t 129),(.t 130),(.t 131)]⟩] (some [0,1,3,8,9,14]))
 (.reg [
  ⟨some 133,none,.mv (.t 14)⟩,
  ⟨some 2,none,.mv (.t 133)⟩] (some [0,1,2,3,8,9])))))))))))
def d_q07q_k1 (C : Hd) (gl : Nat → Option PV) (v0 v1 v2 v3 v8 v9 v10 v11 : AV) (h : Heap) (x : Esc) (K : Ex → St → Prop) : Prop:=
 pK (oBin .gtr v1 (.p (.int .i64 0))) fun t1=>
 gM t1 true v0 h fun t2 h3 y4=>
 gM t1 true v1 h3 fun t5 h6 y7=>
 gP t1 true (oBin .sub t5 (.p (.int .i64 1))) h6 fun t8 h9 y10=>
 gP t1 true (oIaddr none t2 t8 h9) h9 fun t11 h12 y13=>
 gP t1 true (oLoad none t11 h12) h12 fun t14 h15 y16=>
 gM t1 true v0 h15 fun t17 h18 y19=>
 gM t1 true v11 h18 fun t20 h21 y22=>
 gP t1 true (oIaddr none t17 t20 h21) h21 fun t23 h24 y25=>
 gP t1 true (oLoad none t23 h24) h24 fun t26 h27 y28=>
 gV t1 true h27 (callE C f_q00y [t14,t26] h27) fun t29 h30 y31=>
 gP t1 true (oUn .not t29) h30 fun t32 h33 y34=>
 pK (oPick t1 t32 (.p (.bool false))) fun t35=>
 condB t35 (C f_q07l [v0,v1,v2,v11] h33 fun t36 h37 y38=>
 K (.exit 1) ⟨[(0,v0),(1,t36),(2,v2),(3,v3),(8,v8),(9,v9)],h37,(y38 ++ (y34 ++ (y31 ++ (y28 ++ (y25 ++ (y22 ++ (y19 ++ (y16 ++ (y13 ++ (y10 ++ (y7 ++ (y4 ++ x))))))))))))⟩)
 (C f_q07n [v0,v1,v2,v11] h33 fun t39 h40 y41=>
 pK (oExt t39 0) fun t42=>
 pK (oExt t39 1) fun t43=>
 pK (oBin .sub t42 v1) fun t44=>
 pK (oBin .sub v2 t42) fun t45=>
 pK (oBin .quo v10 (.p (.int .i64 8))) fun t46=>
 pK (oBin .lss t44 t45) fun t47=>
 condB t47 (pK (oBin .geq t44 t46) fun t48=>
 C f_q07q [v0,v1,t42,v3] h40 fun t49 h50 y51=>
 pK (oBin .add t42 (.p (.int .i64 1))) fun t52=>
 K .normal ⟨[(0,v0),(1,t52),(2,v2),(3,v3),(8,t48),(9,t43)],h50,(y51 ++ (y41 ++ (y34 ++ (y31 ++ (y28 ++ (y25 ++ (y22 ++ (y19 ++ (y16 ++ (y13 ++ (y10 ++ (y7 ++ (y4 ++ x)))))))))))))⟩)
 (pK (oBin .geq t45 t46) fun t53=>
 pK (oBin .add t42 (.p (.int .i64 1))) fun t54=>
 C f_q07q [v0,t54,v2,v3] h40 fun t55 h56 y57=>
 K .normal ⟨[(0,v0),(1,v1),(2,t42),(3,v3),(8,t53),(9,t43)],h56,(y57 ++ (y41 ++ (y34 ++ (y31 ++ (y28 ++ (y25 ++ (y22 ++ (y19 ++ (y16 ++ (y13 ++ (y10 ++ (y7 ++ (y4 ++ x)))))))))))))⟩))
theorem e_q07q_k1 {C gl e h x K} : NW C gl p_q07q_k1 ⟨e,h,x⟩ K = d_q07q_k1 C gl (aget e 0) (aget e 1) (aget e 2) (aget e 3) (aget e 8) (aget e 9) (aget e 10) (aget e 11) h x K:=by kernel_rfl
def P_q07q_k2 (q1 : ACode) : ACode:=.pr [0,1,2,3,8,9,10,11,12] (.seq (.seq (.reg [
  ⟨some 61,none,.mv (.t 8)⟩,
  ⟨some 62,none,.mv (.t 61)⟩,
  ⟨some 63,(some (62,true)),.mv (.t 9)⟩,
  ⟨some 64,none,.pick (.t 62) (.t 63) (.c (.p (.bool false)))⟩,
  ⟨some 65,none,.mv (.t 64)⟩,
  ⟨some 66,(some (65,true)),.mv (.t 12)⟩,
  ⟨some 67,(some (65,true)),.bin .eql (.t 66) (.c (.p (.int .i64 1)))⟩,
  ⟨some 68,none,.pick (.t 65) (.t 67) (.c (.p (.bool false)))⟩] (some [0,1,2,3,8,9,10,11,68]))
 (.cond (.t 68) (.seq (.reg [
  ⟨some 69,none,.mv (.t 0)⟩,
  ⟨some 70,none,.mv (.t 1)⟩,
  ⟨some 71,none,.mv (.t 2)⟩,
  ⟨some 72,none,.call f_q07h [(.t 69),(.t 70),(.t 71)]⟩] (some [0,1,2,3,8,9,10,11,72]))
 (.cond (.t 72) .ret
 .skip))
 .skip))
 q1)
def p_q07q_k2 : ACode:=P_q07q_k2 p_q07q_k1
def d_q07q_k2 (C : Hd) (gl : Nat → Option PV) (q1 : ACode) (v0 v1 v2 v3 v8 v9 v10 v11 v12 : AV) (h : Heap) (x : Esc) (K : Ex → St → Prop) : Prop:=
 gM v8 true v9 h fun t1 h2 y3=>
 pK (oPick v8 t1 (.p (.bool false))) fun t4=>
 gM t4 true v12 h2 fun t5 h6 y7=>
 gP t4 true (oBin .eql t5 (.p (.int .i64 1))) h6 fun t8 h9 y10=>
 pK (oPick t4 t8 (.p (.bool false))) fun t11=>
 condB t11 (C f_q07h [v0,v1,v2] h9 fun t12 h13 y14=>
 condB t12 (K .ret ⟨[(0,v0),(1,v1),(2,v2),(3,v3),(8,v8),(9,v9),(10,v10),(11,v11),(72,t12)],h13,(y14 ++ (y10 ++ (y7 ++ (y3 ++ x))))⟩)
 (NW C gl q1 ⟨[(0,v0),(1,v1),(2,v2),(3,v3),(8,v8),(9,v9),(10,v10),(11,v11),(72,t12)],h13,(y14 ++ (y10 ++ (y7 ++ (y3 ++ x))))⟩ K))
 (NW C gl q1 ⟨[(0,v0),(1,v1),(2,v2),(3,v3),(8,v8),(9,v9),(10,v10),(11,v11),(68,t11)],h9,(y10 ++ (y7 ++ (y3 ++ x)))⟩ K)
theorem E_q07q_k2 {C gl q1 e h x K} : NW C gl (P_q07q_k2 q1) ⟨e,h,x⟩ K = d_q07q_k2 C gl q1 (aget e 0) (aget e 1) (aget e 2) (aget e 3) (aget e 8) (aget e 9) (aget e 10) (aget e 11) (aget e 12) h x K:=by kernel_rfl
theorem e_q07q_k2 {C gl e h x K} : NW C gl p_q07q_k2 ⟨e,h,x⟩ K = d_q07q_k2 C gl p_q07q_k1 (aget e 0) (aget e 1) (aget e 2) (aget e 3) (aget e 8) (aget e 9) (aget e 10) (aget e 11) (aget e 12) h x K:=E_q07q_k2
def P_q07q_k3 (q2 : ACode) : ACode:=.pr [0,1,2,3,8,9,10] (.seq (.reg [
  ⟨some 43,none,.mv (.t 0)⟩,
  ⟨some 44,none,.mv (.t 1)⟩,
  ⟨some 45,none,.mv (.t 2)⟩,
  ⟨some 46,none,.call f_q06x [(.t 43),(.t 44),(.t 45)]⟩,
  ⟨some 42,none,.mv (.t 46)⟩,
  ⟨some 47,none,.ext (.t 42) 0⟩,
  ⟨some 48,none,.ext (.t 42) 1⟩,
  ⟨some 11,none,.mv (.t 47)⟩,
  ⟨some 12,none,.mv (.t 48)⟩] (some [0,1,2,3,8,9,10,11,12]))
 (.seq (.seq (.reg [
  ⟨some 49,none,.mv (.t 12)⟩,
  ⟨some 50,none,.bin .eql (.t 49) (.c (.p (.int .i64 2)))⟩] (some [0,1,2,3,8,9,10,11,12,50]))
 (.cond (.t 50) (.seq (.reg [
  ⟨some 51,none,.mv (.t 0)⟩,
  ⟨some 52,none,.mv (.t 1)⟩,
  ⟨some 53,none,.mv (.t 2)⟩,
  ⟨some 54,none,.call f_q07t [(.t 51),(.t 52),(.t 53)]⟩] (some [0,1,2,3,8,9,10,11]))
 (.seq (.reg [
  ⟨some 55,none,.mv (.t 2)⟩,
  ⟨some 56,none,.bin .sub (.t 55) (.c (.p (.int .i64 1)))⟩,
  ⟨some 57,none,.mv (.t 11)⟩,
  ⟨some 58,none,.mv (.t 1)⟩,
  ⟨some 59,none,.bin .sub (.t 57) (.t 58)⟩,
  ⟨some 60,none,.bin .sub (.t 56) (.t 59)⟩,
  ⟨some 11,none,.mv (.t 60)⟩] (some [0,1,2,3,8,9,10,11]))
 (.reg [
  ⟨some 12,none,.mv (.c (.p (.int .i64 1)))⟩] (some [0,1,2,3,8,9,10,11,12]))))
 .skip))
 q2))
def p_q07q_k3 : ACode:=P_q07q_k3 p_q07q_k2
def d_q07q_k3 (C : Hd) (gl : Nat → Option PV) (q2 : ACode) (v0 v1 v2 v3 v8 v9 v10 : AV) (h : Heap) (x : Esc) (K : Ex → St → Prop) : Prop:=
 C f_q06x [v0,v1,v2] h fun t1 h2 y3=>
 pK (oExt t1 0) fun t4=>
 pK (oExt t1 1) fun t5=>
 pK (oBin .eql t5 (.p (.int .i64 2))) fun t6=>
 condB t6 (C f_q07t [v0,v1,v2] h2 fun t7 h8 y9=>
 pK (oBin .sub v2 (.p (.int .i64 1))) fun t10=>
 pK (oBin .sub t4 v1) fun t11=>
 pK (oBin .sub t10 t11) fun t12=>
 NW C gl q2 ⟨[(0,v0),(1,v1),(2,v2),(3,v3),(8,v8),(9,v9),(10,v10),(11,t12),(12,(.p (.int .i64 1)))],h8,(y9 ++ (y3 ++ x))⟩ K)
 (NW C gl q2 ⟨[(0,v0),(1,v1),(2,v2),(3,v3),(8,v8),(9,v9),(10,v10),(11,t4),(12,t5),(50,t6)],h2,(y3 ++ x)⟩ K)
theorem E_q07q_k3 {C gl q2 e h x K} : NW C gl (P_q07q_k3 q2) ⟨e,h,x⟩ K = d_q07q_k3 C gl q2 (aget e 0) (aget e 1) (aget e 2) (aget e 3) (aget e 8) (aget e 9) (aget e 10) h x K:=by kernel_rfl
theorem e_q07q_k3 {C gl e h x K} : NW C gl p_q07q_k3 ⟨e,h,x⟩ K = d_q07q_k3 C gl p_q07q_k2 (aget e 0) (aget e 1) (aget e 2) (aget e 3) (aget e 8) (aget e 9) (aget e 10) h x K:=E_q07q_k3
def P_q07q_k4 (q3 : ACode) : ACode:=.pr [0,1,2,3,8,9] (.block 1 (.seq (.reg [
  ⟨some 19,none,.mv (.t 2)⟩,
  ⟨some 20,none,.mv (.t 1)⟩,
  ⟨some 21,none,.bin .sub (.t 19) (.t 20)⟩,
  ⟨some 10,none,.mv (.t 21)⟩] (some [0,1,2,3,8,9,10]))
 (.seq (.seq (.reg [
  ⟨some 22,none,.mv (.t 10)⟩,
  ⟨some 23,none,.bin .leq (.t 22) (.c (.p (.int .i64 12)))⟩] (some [0,1,2,3,8,9,10,23]))
 (.cond (.t 23) (.seq (.reg [
  ⟨some 24,none,.mv (.t 0)⟩,
  ⟨some 25,none,.mv (.t 1)⟩,
  ⟨some 26,none,.mv (.t 2)⟩,
  ⟨some 27,none,.call f_q074 [(.t 24),(.t 25),(.t 26)]⟩] (some []))
 .ret)
 .skip))
 (.seq (.seq (.reg [
  ⟨some 28,none,.mv (.t 3)⟩,
  ⟨some 29,none,.bin .eql (.t 28) (.c (.p (.int .i64 0)))⟩] (some [0,1,2,3,8,9,10,29]))
 (.cond (.t 29) (.seq (.reg [
  ⟨some 30,none,.mv (.t 0)⟩,
  ⟨some 31,none,.mv (.t 1)⟩,
  ⟨some 32,none,.mv (.t 2)⟩,
  ⟨some 33,none,.call f_q070 [(.t 30),(.t 31),(.t 32)]⟩] (some []))
 .ret)
 .skip))
 (.seq (.seq (.reg [
  ⟨some 34,none,.mv (.t 8)⟩,
  ⟨some 35,none,.un .not (.t 34)⟩] (some [0,1,2,3,8,9,10,35]))
 (.cond (.t 35) (.seq (.reg [
  ⟨some 36,none,.mv (.t 0)⟩,
  ⟨some 37,none,.mv (.t 1)⟩,
  ⟨some 38,none,.mv (.t 2)⟩,
  ⟨some 39,none,.call f_q06u [(.t 36),(.t 37),(.t 38)]⟩] (some [0,1,2,3,8,9,10]))
 (.reg [
  ⟨some 40,none,.mv (.t 3)⟩,
  ⟨some 41,none,.bin .sub (.t 40) (.c (.p (.int .i64 1)))⟩,
  ⟨some 3,none,.mv (.t 41)⟩] (some [0,1,2,3,8,9,10])))
 .skip))
 q3)))))
def p_q07q_k4 : ACode:=P_q07q_k4 p_q07q_k3
def d_q07q_k4 (C : Hd) (gl : Nat → Option PV) (q3 : ACode) (v0 v1 v2 v3 v8 v9 : AV) (h : Heap) (x : Esc) (K : Ex → St → Prop) : Prop:=
 pK (oBin .sub v2 v1) fun t1=>
 pK (oBin .leq t1 (.p (.int .i64 12))) fun t2=>
 condB t2 (C f_q074 [v0,v1,v2] h fun t3 h4 y5=>
 K .ret ⟨[],h4,(y5 ++ x)⟩)
 (pK (oBin .eql v3 (.p (.int .i64 0))) fun t6=>
 condB t6 (C f_q070 [v0,v1,v2] h fun t7 h8 y9=>
 K .ret ⟨[],h8,(y9 ++ x)⟩)
 (pK (oUn .not v8) fun t10=>
 condB t10 (C f_q06u [v0,v1,v2] h fun t11 h12 y13=>
 pK (oBin .sub v3 (.p (.int .i64 1))) fun t14=>
 NW C gl q3 ⟨[(0,v0),(1,v1),(2,v2),(3,t14),(8,v8),(9,v9),(10,t1)],h12,(y13 ++ x)⟩ (blockN 1 K))
 (NW C gl q3 ⟨[(0,v0),(1,v1),(2,v2),(3,v3),(8,v8),(9,v9),(10,t1),(35,t10)],h,x⟩ (blockN 1 K))))
theorem E_q07q_k4 {C gl q3 e h x K} : NW C gl (P_q07q_k4 q3) ⟨e,h,x⟩ K = d_q07q_k4 C gl q3 (aget e 0) (aget e 1) (aget e 2) (aget e 3) (aget e 8) (aget e 9) h x K:=by kernel_rfl
theorem e_q07q_k4 {C gl e h x K} : NW C gl p_q07q_k4 ⟨e,h,x⟩ K = d_q07q_k4 C gl p_q07q_k3 (aget e 0) (aget e 1) (aget e 2) (aget e 3) (aget e 8) (aget e 9) h x K:=E_q07q_k4
theorem l_q07q_k4 {C gl e h x K} : NW C gl (.loop p_q07q_k4) ⟨e,h,x⟩ K = NLoop C gl p_q07q_k4 K [(0,aget e 0),(1,aget e 1),(2,aget e 2),(3,aget e 3),(8,aget e 8),(9,aget e 9)] h x:=NLoop_pr
def P_q07q (q4 : ACode) : ACode:=(.seq (.reg [
  ⟨some 8,none,.mv (.c (.p (.bool true)))⟩] (some [0,1,2,3,8]))
 (.seq (.reg [
  ⟨some 9,none,.mv (.c (.p (.bool true)))⟩] (some [0,1,2,3,8,9]))
 (.block 0 (.loop q4))))
def a_q07q : AFun:=⟨4,[],P_q07q p_q07q_k4,true,false⟩
def d_q07q (C : Hd) (gl : Nat → Option PV) (q4 : ACode) (v0 v1 v2 v3 : AV) (h : Heap) (x : Esc) (K : Ex → St → Prop) : Prop:=
 NW C gl (.loop q4) ⟨[(0,v0),(1,v1),(2,v2),(3,v3),(8,(.p (.bool true))),(9,(.p (.bool true)))],h,x⟩ (blockN 0 K)
theorem E_q07q {C gl q4 v0 v1 v2 v3 h x K} : NW C gl (P_q07q q4) ⟨enter [v0,v1,v2,v3],h,x⟩ K = d_q07q C gl q4 v0 v1 v2 v3 h x K:=by kernel_rfl
theorem e_q07q {C gl v0 v1 v2 v3 h x K} : NW C gl a_q07q.body ⟨enter [v0,v1,v2,v3],h,x⟩ K = d_q07q C gl p_q07q_k4 v0 v1 v2 v3 h x K:=E_q07q
def P_q03l : ACode:=(.seq (.reg [
  ⟨some 2,none,.mv (.c (.p (.int .i64 0)))⟩] (some [0]))
 (.seq (.cond (.c (.p (.bool false))) (.seq (.reg [
  ⟨some 3,none,.mv (.t 0)⟩,
  ⟨some 4,none,.conv (.i .u32) (.t 3)⟩,
  ⟨some 5,none,.call f_q03m [(.t 4)]⟩,
  ⟨some 2,none,.mv (.t 5)⟩] (some [2]))
 .ret)
 .skip)
 (.seq (.reg [
  ⟨some 6,none,.mv (.t 0)⟩,
  ⟨some 7,none,.call f_q03n [(.t 6)]⟩,
  ⟨some 2,none,.mv (.t 7)⟩] (some [2]))
 .ret)))
def a_q03l : AFun:=⟨1,[.t 2],P_q03l,false,false⟩
def d_q03l (C : Hd) (gl : Nat → Option PV) (v0 : AV) (h : Heap) (x : Esc) (K : Ex → St → Prop) : Prop:=
 condB (.p (.bool false)) (pK (oConvI .u32 v0) fun t1=>
 C f_q03m [t1] h fun t2 h3 y4=>
 K .ret ⟨[(2,t2)],h3,(y4 ++ x)⟩)
 (C f_q03n [v0] h fun t5 h6 y7=>
 K .ret ⟨[(2,t5)],h6,(y7 ++ x)⟩)
theorem E_q03l {C gl v0 h x K} : NW C gl (P_q03l) ⟨enter [v0],h,x⟩ K = d_q03l C gl v0 h x K:=by kernel_rfl
theorem e_q03l {C gl v0 h x K} : NW C gl a_q03l.body ⟨enter [v0],h,x⟩ K = d_q03l C gl v0 h x K:=E_q03l
def p_q064_k1 : ACode:=.pr [0,1,5,6] (.reg [
  ⟨some 20,none,.mv (.t 6)⟩,
  ⟨some 21,none,.bin .add (.t 20) (.c (.p (.int .i64 1)))⟩,
  ⟨some 6,none,.mv (.t 21)⟩] (some [0,1,5,6]))
def d_q064_k1 (C : Hd) (gl : Nat → Option PV) (v0 v1 v5 v6 : AV) (h : Heap) (x : Esc) (K : Ex → St → Prop) : Prop:=
 pK (oBin .add v6 (.p (.int .i64 1))) fun t1=>
 K .normal ⟨[(0,v0),(1,v1),(5,v5),(6,t1)],h,x⟩
theorem e_q064_k1 {C gl e h x K} : NW C gl p_q064_k1 ⟨e,h,x⟩ K = d_q064_k1 C gl (aget e 0) (aget e 1) (aget e 5) (aget e 6) h x K:=by kernel_rfl
def P_q064_k2 (q1 : ACode) : ACode:=.pr [0,1,5,6] (.seq (.seq (.reg [
  ⟨some 16,none,.mv (.t 6)⟩,
  ⟨some 17,none,.mv (.t 0)⟩,
  ⟨some 18,none,.len (.t 17)⟩,
  ⟨some 19,none,.bin .lss (.t 16) (.t 18)⟩] (some [0,1,5,6,19]))
 (.cond (.t 19) .skip
 (.exit 0)))
 (.seq (.block 1 (.seq (.reg [
  ⟨some 22,none,.mv (.t 0)⟩,
  ⟨some 23,none,.mv (.t 6)⟩,
  ⟨some 24,none,.iaddr (some 4) (.t 22) (.t 23)⟩,
  ⟨some 25,none,.load (some 4) (.t 24)⟩,
  ⟨some 7,none,.alloc [.p (.str []),.p (.int .i64 0),.p (.str []),.sl0 none]⟩,
  ⟨none,none,.store (some 4) (.t 7) (.t 25)⟩] (some [0,1,5,6,7]))
 (.seq (.reg [
  ⟨some 26,none,.mv (.t 1)⟩,
  ⟨some 27,none,.load (some 4) (.t 7)⟩,
  ⟨some 28,none,.callv (.t 26) [(.t 27)]⟩,
  ⟨some 29,none,.un .not (.t 28)⟩] (some [0,1,5,6,7,29]))
 (.cond (.t 29) (.seq (.reg [
  ⟨some 30,none,.mv (.t 0)⟩,
  ⟨some 31,none,.mv (.t 5)⟩,
  ⟨some 32,none,.load (some 4) (.t 7)⟩,
  ⟨some 33,none,.iaddr (some 4) (.t 30) (.t 31)⟩,
  ⟨none,none,.store (some 4) (.t 33) (.t 32)⟩] (some [0,1,5,6]))
 (.reg [
  ⟨some 34,none,.mv (.t 5)⟩,
  ⟨some 35,none,.bin .add (.t 34) (.c (.p (.int .i64 1)))⟩,
  ⟨some 5,none,.mv (.t 35)⟩] (some [0,1,5,6])))
 .skip))))
 q1))
def p_q064_k2 : ACode:=P_q064_k2 p_q064_k1
def d_q064_k2 (C : Hd) (gl : Nat → Option PV) (q1 : ACode) (v0 v1 v5 v6 : AV) (h : Heap) (x : Esc) (K : Ex → St → Prop) : Prop:=
 pK (oLen v0) fun t1=>
 pK (oBin .lss v6 t1) fun t2=>
 condB t2 (pK (oIaddr (some 4) v0 v6 h) fun t3=>
 pK (oLoad (some 4) t3 h) fun t4=>
 alK [.p (.str []),.p (.int .i64 0),.p (.str []),.sl0 none] h fun t5 h6 y7=>
 wK (oStore (some 4) t5 t4 h6) fun t8 h9 y10=>
 pK (oLoad (some 4) t5 h9) fun t11=>
 callvK C v1 [t11] h9 fun t12 h13 y14=>
 pK (oUn .not t12) fun t15=>
 condB t15 (pK (oLoad (some 4) t5 h13) fun t16=>
 pK (oIaddr (some 4) v0 v5 h13) fun t17=>
 wK (oStore (some 4) t17 t16 h13) fun t18 h19 y20=>
 pK (oBin .add v5 (.p (.int .i64 1))) fun t21=>
 NW C gl q1 ⟨[(0,v0),(1,v1),(5,t21),(6,v6)],h19,(y20 ++ (y14 ++ (y10 ++ (y7 ++ x))))⟩ K)
 (NW C gl q1 ⟨[(0,v0),(1,v1),(5,v5),(6,v6),(7,t5),(29,t15)],h13,(y14 ++ (y10 ++ (y7 ++ x)))⟩ K))
 (K (.exit 0) ⟨[(0,v0),(1,v1),(5,v5),(6,v6),(19,t2)],h,x⟩)
theorem E_q064_k2 {C gl q1 e h x K} : NW C gl (P_q064_k2 q1) ⟨e,h,x⟩ K = d_q064_k2 C gl q1 (aget e 0) (aget e 1) (aget e 5) (aget e 6) h x K:=by kernel_rfl
theorem e_q064_k2 {C gl e h x K} : NW C gl p_q064_k2 ⟨e,h,x⟩ K = d_q064_k2 C gl p_q064_k1 (aget e 0) (aget e 1) (aget e 5) (aget e 6) h x K:=E_q064_k2
theorem l_q064_k2 {C gl e h x K} : NW C gl (.loop (.scope p_q064_k2)) ⟨e,h,x⟩ K = NLoop C gl (.scope p_q064_k2) K [(0,aget e 0),(1,aget e 1),(5,aget e 5),(6,aget e 6)] h x:=NLoop_sc
def p_q064_k3 : ACode:=.pr [0,5] (.seq (.reg [
  ⟨some 36,none,.mv (.t 0)⟩,
  ⟨some 37,none,.mv (.t 5)⟩,
  ⟨some 38,none,.slice (some 4) (.t 36) (some (.t 37)) none none⟩,
  ⟨none,none,.clr (some 4) (.agg [.str [],.int .i64 0,.str [],.sl none []]) (.t 38)⟩] (some [0,5]))
 (.seq (.reg [
  ⟨some 39,none,.mv (.t 0)⟩,
  ⟨some 40,none,.mv (.t 5)⟩,
  ⟨some 41,none,.slice (some 4) (.t 39) none (some (.t 40)) none⟩,
  ⟨some 4,none,.mv (.t 41)⟩] (some [4]))
 .ret))
def d_q064_k3 (C : Hd) (gl : Nat → Option PV) (v0 v5 : AV) (h : Heap) (x : Esc) (K : Ex → St → Prop) : Prop:=
 pK (oSlice (some 4) v0 (some v5) none none h) fun t1=>
 wK (oClr (some 4) (.agg [.str [],.int .i64 0,.str [],.sl none []]) t1 h) fun t2 h3 y4=>
 pK (oSlice (some 4) v0 none (some v5) none h3) fun t5=>
 K .ret ⟨[(4,t5)],h3,(y4 ++ x)⟩
theorem e_q064_k3 {C gl e h x K} : NW C gl p_q064_k3 ⟨e,h,x⟩ K = d_q064_k3 C gl (aget e 0) (aget e 5) h x K:=by kernel_rfl
def P_q064 (q2 q3 : ACode) : ACode:=(.seq (.reg [
  ⟨some 4,none,.mv (.c (.p (.sl (some 4) [])))⟩] (some [0,1]))
 (.seq (.reg [
  ⟨some 8,none,.mv (.t 0)⟩,
  ⟨some 9,none,.mv (.t 1)⟩,
  ⟨some 10,none,.call f_q06f [(.t 8),(.t 9)]⟩,
  ⟨some 5,none,.mv (.t 10)⟩] (some [0,1,5]))
 (.seq (.seq (.reg [
  ⟨some 11,none,.mv (.t 5)⟩,
  ⟨some 12,none,.bin .eql (.t 11) (.c (.p (.int .i64 (-1))))⟩] (some [0,1,5,12]))
 (.cond (.t 12) (.seq (.reg [
  ⟨some 13,none,.mv (.t 0)⟩,
  ⟨some 4,none,.mv (.t 13)⟩] (some [4]))
 .ret)
 .skip))
 (.seq (.seq (.reg [
  ⟨some 14,none,.mv (.t 5)⟩,
  ⟨some 15,none,.bin .add (.t 14) (.c (.p (.int .i64 1)))⟩,
  ⟨some 6,none,.mv (.t 15)⟩] (some [0,1,5,6]))
 (.block 0 (.loop (.scope q2))))
 q3))))
def a_q064 : AFun:=⟨2,[.t 4],P_q064 p_q064_k2 p_q064_k3,true,false⟩
def d_q064 (C : Hd) (gl : Nat → Option PV) (q2 q3 : ACode) (v0 v1 : AV) (h : Heap) (x : Esc) (K : Ex → St → Prop) : Prop:=
 C f_q06f [v0,v1] h fun t1 h2 y3=>
 pK (oBin .eql t1 (.p (.int .i64 (-1)))) fun t4=>
 condB t4 (K .ret ⟨[(4,v0)],h2,(y3 ++ x)⟩)
 (pK (oBin .add t1 (.p (.int .i64 1))) fun t5=>
 NW C gl (.loop (.scope q2)) ⟨[(0,v0),(1,v1),(5,t1),(6,t5)],h2,(y3 ++ x)⟩ (blockN 0 (seqN C gl q3 K)))
theorem E_q064 {C gl q2 q3 v0 v1 h x K} : NW C gl (P_q064 q2 q3) ⟨enter [v0,v1],h,x⟩ K = d_q064 C gl q2 q3 v0 v1 h x K:=by kernel_rfl
theorem e_q064 {C gl v0 v1 h x K} : NW C gl a_q064.body ⟨enter [v0,v1],h,x⟩ K = d_q064 C gl p_q064_k2 p_q064_k3 v0 v1 h x K:=E_q064
def P_q05u : ACode:=(.det (.seq (.reg [
  ⟨some 2,none,.mv (.c (.p (.sl (some 4) [])))⟩] (some [0]))
 (.seq (.seq (.reg [
  ⟨some 3,none,.mv (.t 0)⟩,
  ⟨some 4,none,.isnil 4 false (.t 3)⟩] (some [0,4]))
 (.condu (.t 4) (.seq (.reg [
  ⟨some 2,none,.new0 (some 4)⟩] (some [2]))
 .ret)
 .skip))
 (.seq (.reg [
  ⟨some 5,none,.bsl true (some 4) 0 (.agg [.str [],.int .i64 0,.str [],.sl none []]) []⟩,
  ⟨some 6,none,.mv (.t 0)⟩,
  ⟨some 7,none,.app (some 4) (.t 5) (.t 6)⟩,
  ⟨some 2,none,.mv (.t 7)⟩] (some [2]))
 .ret))))
def a_q05u : AFun:=⟨1,[.t 2],P_q05u,false,true⟩
def d_q05u (C : Hd) (gl : Nat → Option PV) (v0 : AV) (h : Heap) (x : Esc) (K : Ex → St → Prop) : Prop:=
 detK (fun K=>pK (oIsnil 4 false v0) fun t1=>
 condU t1 (nwK (some 4) h fun t2 h3 y4=>
 K .ret ⟨[(2,t2)],h3,(y4 ++ x)⟩)
 (wK (oBsl true (some 4) 0 (.agg [.str [],.int .i64 0,.str [],.sl none []]) [] h) fun t5 h6 y7=>
 wK (oApp (some 4) t5 v0 h6) fun t8 h9 y10=>
 K .ret ⟨[(2,t8)],h9,(y10 ++ (y7 ++ x))⟩)) K
theorem E_q05u {C gl v0 h x K} : NW C gl (P_q05u) ⟨enter [v0],h,x⟩ K = d_q05u C gl v0 h x K:=by kernel_rfl
theorem e_q05u {C gl v0 h x K} : NW C gl a_q05u.body ⟨enter [v0],h,x⟩ K = d_q05u C gl v0 h x K:=E_q05u
def P_q05h : ACode:=(.seq (.reg [
  ⟨some 2,none,.box (.t 0)⟩,
  ⟨some 3,none,.mv (.c (.p (.bool false)))⟩] (some [1,2]))
 (.seq (.reg [
  ⟨some 4,none,.faddr 0 none (.t 2)⟩,
  ⟨some 5,none,.load none (.t 4)⟩,
  ⟨some 6,none,.load none (.t 1)⟩,
  ⟨some 7,none,.bin .neq (.t 5) (.t 6)⟩,
  ⟨some 3,none,.mv (.t 7)⟩] (some [3]))
 .ret))
def a_q05h : AFun:=⟨2,[.t 3],P_q05h,false,false⟩
def d_q05h (C : Hd) (gl : Nat → Option PV) (v0 v1 : AV) (h : Heap) (x : Esc) (K : Ex → St → Prop) : Prop:=
 wK (oBox v0 h) fun t1 h2 y3=>
 pK (oFaddr 0 none t1) fun t4=>
 pK (oLoad none t4 h2) fun t5=>
 pK (oLoad none v1 h2) fun t6=>
 pK (oBin .neq t5 t6) fun t7=>
 K .ret ⟨[(3,t7)],h2,(y3 ++ x)⟩
theorem E_q05h {C gl v0 v1 h x K} : NW C gl (P_q05h) ⟨enter [v0,v1],h,x⟩ K = d_q05h C gl v0 v1 h x K:=by kernel_rfl
theorem e_q05h {C gl v0 v1 h x K} : NW C gl a_q05h.body ⟨enter [v0,v1],h,x⟩ K = d_q05h C gl v0 v1 h x K:=E_q05h
def p_q06f_k1 : ACode:=.pr [0,1,7,8] (.seq (.reg [
  ⟨some 9,none,.bin .lss (.t 8) (.t 7)⟩] (some [0,1,7,8,9]))
 (.seq (.cond (.t 9) .skip
 (.exit 0))
 (.seq (.block 1 (.seq (.reg [
  ⟨some 10,none,.mv (.t 8)⟩,
  ⟨some 5,none,.mv (.t 10)⟩] (some [0,1,5,7,8]))
 (.seq (.reg [
  ⟨some 11,none,.mv (.t 1)⟩,
  ⟨some 12,none,.mv (.t 0)⟩,
  ⟨some 13,none,.mv (.t 5)⟩,
  ⟨some 14,none,.iaddr (some 4) (.t 12) (.t 13)⟩,
  ⟨some 15,none,.load (some 4) (.t 14)⟩,
  ⟨some 16,none,.callv (.t 11) [(.t 15)]⟩] (some [0,1,5,7,8,16]))
 (.cond (.t 16) (.seq (.reg [
  ⟨some 17,none,.mv (.t 5)⟩,
  ⟨some 4,none,.mv (.t 17)⟩] (some [4]))
 .ret)
 .skip))))
 (.reg [
  ⟨some 18,none,.bin .add (.t 8) (.c (.p (.int .i64 1)))⟩,
  ⟨some 8,none,.mv (.t 18)⟩] (some [0,1,7,8])))))
def d_q06f_k1 (C : Hd) (gl : Nat → Option PV) (v0 v1 v7 v8 : AV) (h : Heap) (x : Esc) (K : Ex → St → Prop) : Prop:=
 pK (oBin .lss v8 v7) fun t1=>
 condB t1 (pK (oIaddr (some 4) v0 v8 h) fun t2=>
 pK (oLoad (some 4) t2 h) fun t3=>
 callvK C v1 [t3] h fun t4 h5 y6=>
 condB t4 (K .ret ⟨[(4,v8)],h5,(y6 ++ x)⟩)
 (pK (oBin .add v8 (.p (.int .i64 1))) fun t7=>
 K .normal ⟨[(0,v0),(1,v1),(7,v7),(8,t7)],h5,(y6 ++ x)⟩))
 (K (.exit 0) ⟨[(0,v0),(1,v1),(7,v7),(8,v8),(9,t1)],h,x⟩)
theorem e_q06f_k1 {C gl e h x K} : NW C gl p_q06f_k1 ⟨e,h,x⟩ K = d_q06f_k1 C gl (aget e 0) (aget e 1) (aget e 7) (aget e 8) h x K:=by kernel_rfl
theorem l_q06f_k1 {C gl e h x K} : NW C gl (.loop p_q06f_k1) ⟨e,h,x⟩ K = NLoop C gl p_q06f_k1 K [(0,aget e 0),(1,aget e 1),(7,aget e 7),(8,aget e 8)] h x:=NLoop_pr
def p_q06f_k2 : ACode:=.pr [] (.seq (.reg [
  ⟨some 4,none,.mv (.c (.p (.int .i64 (-1))))⟩] (some [4]))
 .ret)
def d_q06f_k2 (C : Hd) (gl : Nat → Option PV) (h : Heap) (x : Esc) (K : Ex → St → Prop) : Prop:=
 K .ret ⟨[(4,(.p (.int .i64 (-1))))],h,x⟩
theorem e_q06f_k2 {C gl e h x K} : NW C gl p_q06f_k2 ⟨e,h,x⟩ K = d_q06f_k2 C gl h x K:=by kernel_rfl
def P_q06f (q1 q2 : ACode) : ACode:=(.seq (.reg [
  ⟨some 4,none,.mv (.c (.p (.int .i64 0)))⟩] (some [0,1]))
 (.seq (.seq (.reg [
  ⟨some 6,none,.mv (.t 0)⟩,
  ⟨some 7,none,.len (.t 6)⟩,
  ⟨some 8,none,.mv (.c (.p (.int .i64 0)))⟩] (some [0,1,7,8]))
 (.block 0 (.loop q1)))
 q2))
def a_q06f : AFun:=⟨2,[.t 4],P_q06f p_q06f_k1 p_q06f_k2,true,false⟩
def d_q06f (C : Hd) (gl : Nat → Option PV) (q1 q2 : ACode) (v0 v1 : AV) (h : Heap) (x : Esc) (K : Ex → St → Prop) : Prop:=
 pK (oLen v0) fun t1=>
 NW C gl (.loop q1) ⟨[(0,v0),(1,v1),(7,t1),(8,(.p (.int .i64 0)))],h,x⟩ (blockN 0 (seqN C gl q2 K))
theorem E_q06f {C gl q1 q2 v0 v1 h x K} : NW C gl (P_q06f q1 q2) ⟨enter [v0,v1],h,x⟩ K = d_q06f C gl q1 q2 v0 v1 h x K:=by kernel_rfl
theorem e_q06f {C gl v0 v1 h x K} : NW C gl a_q06f.body ⟨enter [v0,v1],h,x⟩ K = d_q06f C gl p_q06f_k1 p_q06f_k2 v0 v1 h x K:=E_q06f
def P_q05i : ACode:=(.seq (.reg [
  ⟨some 2,none,.box (.t 0)⟩,
  ⟨some 3,none,.mv (.c (.p (.bool false)))⟩] (some [1,2]))
 (.seq (.reg [
  ⟨some 4,none,.load none (.t 1)⟩,
  ⟨some 5,none,.faddr 3 none (.t 2)⟩,
  ⟨some 6,none,.load none (.t 5)⟩,
  ⟨some 7,none,.call f_q05k [(.t 4),(.t 6)]⟩,
  ⟨some 8,none,.bin .lss (.t 7) (.c (.p (.int .i64 0)))⟩,
  ⟨some 3,none,.mv (.t 8)⟩] (some [3]))
 .ret))
def a_q05i : AFun:=⟨2,[.t 3],P_q05i,false,false⟩
def d_q05i (C : Hd) (gl : Nat → Option PV) (v0 v1 : AV) (h : Heap) (x : Esc) (K : Ex → St → Prop) : Prop:=
 wK (oBox v0 h) fun t1 h2 y3=>
 pK (oLoad none v1 h2) fun t4=>
 pK (oFaddr 3 none t1) fun t5=>
 pK (oLoad none t5 h2) fun t6=>
 C f_q05k [t4,t6] h2 fun t7 h8 y9=>
 pK (oBin .lss t7 (.p (.int .i64 0))) fun t10=>
 K .ret ⟨[(3,t10)],h8,(y9 ++ (y3 ++ x))⟩
theorem E_q05i {C gl v0 v1 h x K} : NW C gl (P_q05i) ⟨enter [v0,v1],h,x⟩ K = d_q05i C gl v0 v1 h x K:=by kernel_rfl
theorem e_q05i {C gl v0 v1 h x K} : NW C gl a_q05i.body ⟨enter [v0,v1],h,x⟩ K = d_q05i C gl v0 v1 h x K:=E_q05i
def p_q06h_k1 : ACode:=.pr [0,1,7,8] (.seq (.reg [
  ⟨some 9,none,.bin .lss (.t 8) (.t 7)⟩] (some [0,1,7,8,9]))
 (.seq (.cond (.t 9) .skip
 (.exit 0))
 (.seq (.block 1 (.seq (.reg [
  ⟨some 10,none,.mv (.t 8)⟩,
  ⟨some 5,none,.mv (.t 10)⟩] (some [0,1,5,7,8]))
 (.seq (.reg [
  ⟨some 11,none,.mv (.t 1)⟩,
  ⟨some 12,none,.mv (.t 0)⟩,
  ⟨some 13,none,.mv (.t 5)⟩,
  ⟨some 14,none,.iaddr none (.t 12) (.t 13)⟩,
  ⟨some 15,none,.load none (.t 14)⟩,
  ⟨some 16,none,.callv (.t 11) [(.t 15)]⟩] (some [0,1,5,7,8,16]))
 (.cond (.t 16) (.seq (.reg [
  ⟨some 17,none,.mv (.t 5)⟩,
  ⟨some 4,none,.mv (.t 17)⟩] (some [4]))
 .ret)
 .skip))))
 (.reg [
  ⟨some 18,none,.bin .add (.t 8) (.c (.p (.int .i64 1)))⟩,
  ⟨some 8,none,.mv (.t 18)⟩] (some [0,1,7,8])))))
def d_q06h_k1 (C : Hd) (gl : Nat → Option PV) (v0 v1 v7 v8 : AV) (h : Heap) (x : Esc) (K : Ex → St → Prop) : Prop:=
 pK (oBin .lss v8 v7) fun t1=>
 condB t1 (pK (oIaddr none v0 v8 h) fun t2=>
 pK (oLoad none t2 h) fun t3=>
 callvK C v1 [t3] h fun t4 h5 y6=>
 condB t4 (K .ret ⟨[(4,v8)],h5,(y6 ++ x)⟩)
 (pK (oBin .add v8 (.p (.int .i64 1))) fun t7=>
 K .normal ⟨[(0,v0),(1,v1),(7,v7),(8,t7)],h5,(y6 ++ x)⟩))
 (K (.exit 0) ⟨[(0,v0),(1,v1),(7,v7),(8,v8),(9,t1)],h,x⟩)
theorem e_q06h_k1 {C gl e h x K} : NW C gl p_q06h_k1 ⟨e,h,x⟩ K = d_q06h_k1 C gl (aget e 0) (aget e 1) (aget e 7) (aget e 8) h x K:=by kernel_rfl
theorem l_q06h_k1 {C gl e h x K} : NW C gl (.loop p_q06h_k1) ⟨e,h,x⟩ K = NLoop C gl p_q06h_k1 K [(0,aget e 0),(1,aget e 1),(7,aget e 7),(8,aget e 8)] h x:=NLoop_pr
def p_q06h_k2 : ACode:=.pr [] (.seq (.reg [
  ⟨some 4,none,.mv (.c (.p (.int .i64 (-1))))⟩] (some [4]))
 .ret)
def d_q06h_k2 (C : Hd) (gl : Nat → Option PV) (h : Heap) (x : Esc) (K : Ex → St → Prop) : Prop:=
 K .ret ⟨[(4,(.p (.int .i64 (-1))))],h,x⟩
theorem e_q06h_k2 {C gl e h x K} : NW C gl p_q06h_k2 ⟨e,h,x⟩ K = d_q06h_k2 C gl h x K:=by kernel_rfl
def P_q06h (q1 q2 : ACode) : ACode:=(.seq (.reg [
  ⟨some 4,none,.mv (.c (.p (.int .i64 0)))⟩] (some [0,1]))
 (.seq (.seq (.reg [
  ⟨some 6,none,.mv (.t 0)⟩,
  ⟨some 7,none,.len (.t 6)⟩,
  ⟨some 8,none,.mv (.c (.p (.int .i64 0)))⟩] (some [0,1,7,8]))
 (.block 0 (.loop q1)))
 q2))
def a_q06h : AFun:=⟨2,[.t 4],P_q06h p_q06h_k1 p_q06h_k2,true,false⟩
def d_q06h (C : Hd) (gl : Nat → Option PV) (q1 q2 : ACode) (v0 v1 : AV) (h : Heap) (x : Esc) (K : Ex → St → Prop) : Prop:=
 pK (oLen v0) fun t1=>
 NW C gl (.loop q1) ⟨[(0,v0),(1,v1),(7,t1),(8,(.p (.int .i64 0)))],h,x⟩ (blockN 0 (seqN C gl q2 K))
theorem E_q06h {C gl q1 q2 v0 v1 h x K} : NW C gl (P_q06h q1 q2) ⟨enter [v0,v1],h,x⟩ K = d_q06h C gl q1 q2 v0 v1 h x K:=by kernel_rfl
theorem e_q06h {C gl v0 v1 h x K} : NW C gl a_q06h.body ⟨enter [v0,v1],h,x⟩ K = d_q06h C gl p_q06h_k1 p_q06h_k2 v0 v1 h x K:=E_q06h
def p_q06e_k1 : ACode:=.pr [0,1,7,8] (.seq (.reg [
  ⟨some 9,none,.bin .lss (.t 8) (.t 7)⟩] (some [0,1,7,8,9]))
 (.seq (.cond (.t 9) .skip
 (.exit 0))
 (.seq (.block 1 (.seq (.reg [
  ⟨some 10,none,.mv (.t 8)⟩,
  ⟨some 5,none,.mv (.t 10)⟩] (some [0,1,5,7,8]))
 (.seq (.reg [
  ⟨some 11,none,.mv (.t 1)⟩,
  ⟨some 12,none,.mv (.t 0)⟩,
  ⟨some 13,none,.mv (.t 5)⟩,
  ⟨some 14,none,.iaddr (some 4) (.t 12) (.t 13)⟩,
  ⟨some 15,none,.load (some 4) (.t 14)⟩,
  ⟨some 16,none,.callv (.t 11) [(.t 15)]⟩] (some [0,1,5,7,8,16]))
 (.cond (.t 16) (.seq (.reg [
  ⟨some 17,none,.mv (.t 5)⟩,
  ⟨some 4,none,.mv (.t 17)⟩] (some [4]))
 .ret)
 .skip))))
 (.reg [
  ⟨some 18,none,.bin .add (.t 8) (.c (.p (.int .i64 1)))⟩,
  ⟨some 8,none,.mv (.t 18)⟩] (some [0,1,7,8])))))
def d_q06e_k1 (C : Hd) (gl : Nat → Option PV) (v0 v1 v7 v8 : AV) (h : Heap) (x : Esc) (K : Ex → St → Prop) : Prop:=
 pK (oBin .lss v8 v7) fun t1=>
 condB t1 (pK (oIaddr (some 4) v0 v8 h) fun t2=>
 pK (oLoad (some 4) t2 h) fun t3=>
 callvK C v1 [t3] h fun t4 h5 y6=>
 condB t4 (K .ret ⟨[(4,v8)],h5,(y6 ++ x)⟩)
 (pK (oBin .add v8 (.p (.int .i64 1))) fun t7=>
 K .normal ⟨[(0,v0),(1,v1),(7,v7),(8,t7)],h5,(y6 ++ x)⟩))
 (K (.exit 0) ⟨[(0,v0),(1,v1),(7,v7),(8,v8),(9,t1)],h,x⟩)
theorem e_q06e_k1 {C gl e h x K} : NW C gl p_q06e_k1 ⟨e,h,x⟩ K = d_q06e_k1 C gl (aget e 0) (aget e 1) (aget e 7) (aget e 8) h x K:=by kernel_rfl
theorem l_q06e_k1 {C gl e h x K} : NW C gl (.loop p_q06e_k1) ⟨e,h,x⟩ K = NLoop C gl p_q06e_k1 K [(0,aget e 0),(1,aget e 1),(7,aget e 7),(8,aget e 8)] h x:=NLoop_pr
def p_q06e_k2 : ACode:=.pr [] (.seq (.reg [
  ⟨some 4,none,.mv (.c (.p (.int .i64 (-1))))⟩] (some [4]))
 .ret)
def d_q06e_k2 (C : Hd) (gl : Nat → Option PV) (h : Heap) (x : Esc) (K : Ex → St → Prop) : Prop:=
 K .ret ⟨[(4,(.p (.int .i64 (-1))))],h,x⟩
theorem e_q06e_k2 {C gl e h x K} : NW C gl p_q06e_k2 ⟨e,h,x⟩ K = d_q06e_k2 C gl h x K:=by kernel_rfl
def P_q06e (q1 q2 : ACode) : ACode:=(.seq (.reg [
  ⟨some 4,none,.mv (.c (.p (.int .i64 0)))⟩] (some [0,1]))
 (.seq (.seq (.reg [
  ⟨some 6,none,.mv (.t 0)⟩,
  ⟨some 7,none,.len (.t 6)⟩,
  ⟨some 8,none,.mv (.c (.p (.int .i64 0)))⟩] (some [0,1,7,8]))
 (.block 0 (.loop q1)))
 q2))
def a_q06e : AFun:=⟨2,[.t 4],P_q06e p_q06e_k1 p_q06e_k2,true,false⟩
def d_q06e (C : Hd) (gl : Nat → Option PV) (q1 q2 : ACode) (v0 v1 : AV) (h : Heap) (x : Esc) (K : Ex → St → Prop) : Prop:=
 pK (oLen v0) fun t1=>
 NW C gl (.loop q1) ⟨[(0,v0),(1,v1),(7,t1),(8,(.p (.int .i64 0)))],h,x⟩ (blockN 0 (seqN C gl q2 K))
theorem E_q06e {C gl q1 q2 v0 v1 h x K} : NW C gl (P_q06e q1 q2) ⟨enter [v0,v1],h,x⟩ K = d_q06e C gl q1 q2 v0 v1 h x K:=by kernel_rfl
theorem e_q06e {C gl v0 v1 h x K} : NW C gl a_q06e.body ⟨enter [v0,v1],h,x⟩ K = d_q06e C gl p_q06e_k1 p_q06e_k2 v0 v1 h x K:=E_q06e
def P_q033 : ACode:=(.seq (.reg [
  ⟨some 2,none,.box (.t 0)⟩,
  ⟨some 3,none,.mv (.c (.p (.bool false)))⟩] (some [1,2]))
 (.seq (.reg [
  ⟨some 4,none,.faddr 0 none (.t 2)⟩,
  ⟨some 5,none,.load none (.t 4)⟩,
  ⟨some 6,none,.load none (.t 1)⟩,
  ⟨some 7,none,.bin .eql (.t 5) (.t 6)⟩,
  ⟨some 3,none,.mv (.t 7)⟩] (some [3]))
 .ret))
def a_q033 : AFun:=⟨2,[.t 3],P_q033,false,false⟩
def d_q033 (C : Hd) (gl : Nat → Option PV) (v0 v1 : AV) (h : Heap) (x : Esc) (K : Ex → St → Prop) : Prop:=
 wK (oBox v0 h) fun t1 h2 y3=>
 pK (oFaddr 0 none t1) fun t4=>
 pK (oLoad none t4 h2) fun t5=>
 pK (oLoad none v1 h2) fun t6=>
 pK (oBin .eql t5 t6) fun t7=>
 K .ret ⟨[(3,t7)],h2,(y3 ++ x)⟩
theorem E_q033 {C gl v0 v1 h x K} : NW C gl (P_q033) ⟨enter [v0,v1],h,x⟩ K = d_q033 C gl v0 v1 h x K:=by kernel_rfl
theorem e_q033 {C gl v0 v1 h x K} : NW C gl a_q033.body ⟨enter [v0,v1],h,x⟩ K = d_q033 C gl v0 v1 h x K:=E_q033
end Go.Am
end
section
/- The functions as abstract code,and as formulas over their values: printed by program out of the translation. -/
set_option linter.unusedVariables false
set_option maxRecDepth 100000
namespace Go.Am
def p_q071_k1 : ACode:=.pr [0,1,2,3,8,9] (.seq (.seq (.draw [
   ⟨⟨some 18,none,.mv (.t 9)⟩,[9],false,[],[]⟩,
   ⟨⟨some 19,none,.mv (.t 1)⟩,[1],false,[],[]⟩,
   ⟨⟨some 20,none,.bin .gtr (.t 18) (.t 19)⟩,[18,19],false,[],[]⟩,
   ⟨⟨some 21,none,.mv (.t 20)⟩,[20],false,[],[]⟩,
   ⟨⟨some 22,(some (21,true)),.mv (.t 3)⟩,[3,21],false,[],[]⟩,
   ⟨⟨some 23,(some (21,true)),.mv (.t 0)⟩,[0,21],false,[],[]⟩,
   ⟨⟨some 24,(some (21,true)),.mv (.t 9)⟩,[9,21],false,[],[]⟩,
   ⟨⟨some 25,(some (21,true)),.iaddr (some 4) (.t 23) (.t 24)⟩,[23,24,21],false,[],[]⟩,
   ⟨⟨some 26,(some (21,true)),.load (some 4) (.t 25)⟩,[25,21],false,[],[]⟩,
   ⟨⟨some 27,(some (21,true)),.mv (.t 0)⟩,[0,21],false,[],[]⟩,
   ⟨⟨some 28,(some (21,true)),.mv (.t 9)⟩,[9,21],false,[],[]⟩,
   ⟨⟨some 29,(some (21,true)),.bin .sub (.t 28) (.c (.p (.int .i64 1)))⟩,[28,21],false,[],[]⟩,
   ⟨⟨some 30,(some (21,true)),.iaddr (some 4) (.t 27) (.t 29)⟩,[27,29,21],false,[],[]⟩,
   ⟨⟨some 31,(some (21,true)),.load (some 4) (.t 30)⟩,[30,21],false,[],[]⟩,
   ⟨⟨some 32,(some (21,true)),.callv (.t 22) [(.t 26),(.t 31)]⟩,[22,26,31,21],true,[],[]⟩,
   ⟨⟨some 33,(some (21,true)),.bin .lss (.t 32) (.c (.p (.int .i64 0)))⟩,[32,21],false,[],[]⟩,
   ⟨⟨some 34,none,.pick (.t 21) (.t 33) (.c (.p (.bool false)))⟩,[21,33],false,[],[]⟩] (some [0,1,2,3,8,9,34]))
 (.cond (.t 34) .skip
 (.exit 2)))
 (.seq (.block 3 (.draw [
   ⟨⟨some 37,none,.mv (.t 0)⟩,[0],false,[],[]⟩,
   ⟨⟨some 38,none,.mv (.t 9)⟩,[9],false,[],[]⟩,
   ⟨⟨some 39,none,.mv (.t 0)⟩,[0],false,[],[]⟩,
   ⟨⟨some 40,none,.mv (.t 9)⟩,[9],false,[],[]⟩,
   ⟨⟨some 41,none,.bin .sub (.t 40) (.c (.p (.int .i64 1)))⟩,[40],false,[],[]⟩,
   ⟨⟨some 42,none,.mv (.t 0)⟩,[0],false,[],[]⟩,
   ⟨⟨some 43,none,.mv (.t 9)⟩,[9],false,[],[]⟩,
   ⟨⟨some 44,none,.bin .sub (.t 43) (.c (.p (.int .i64 1)))⟩,[43],false,[],[]⟩,
   ⟨⟨some 45,none,.iaddr (some 4) (.t 42) (.t 44)⟩,[42,44],false,[],[]⟩,
   ⟨⟨some 46,none,.load (some 4) (.t 45)⟩,[45],false,[],[]⟩,
   ⟨⟨some 47,none,.mv (.t 0)⟩,[0],false,[],[]⟩,
   ⟨⟨some 48,none,.mv (.t 9)⟩,[9],false,[],[]⟩,
   ⟨⟨some 49,none,.iaddr (some 4) (.t 47) (.t 48)⟩,[47,48],false,[],[]⟩,
   ⟨⟨some 50,none,.load (some 4) (.t 49)⟩,[49],false,[],[]⟩,
   ⟨⟨some 51,none,.iaddr (some 4) (.t 37) (.t 38)⟩,[37,38],false,[],[]⟩,
   ⟨⟨none,none,.store (some 4) (.t 51) (.t 46)⟩,[51,46],true,[],[]⟩,
   ⟨⟨some 52,none,.iaddr (some 4) (.t 39) (.t 41)⟩,[39,41],false,[],[]⟩,
   ⟨⟨none,none,.store (some 4) (.t 52) (.t 50)⟩,[52,50],true,[],[]⟩] (some [0,1,2,3,8,9])))
 (.reg [
  ⟨some 35,none,.mv (.t 9)⟩,
  ⟨some 36,none,.bin .sub (.t 35) (.c (.p (.int .i64 1)))⟩,
  ⟨some 9,none,.mv (.t 36)⟩] (some [0,1,2,3,8,9]))))
def d_q071_k1 (C : Hd) (gl : Nat → Option PV) (v0 v1 v2 v3 v8 v9 : AV) (h : Heap) (x : Esc) (K : Ex → St → Prop) : Prop:=
 pK (oBin .gtr v9 v1) fun t1=>
 gM t1 true v3 h fun t2 h3 y4=>
 gM t1 true v0 h3 fun t5 h6 y7=>
 gM t1 true v9 h6 fun t8 h9 y10=>
 gP t1 true (oIaddr (some 4) t5 t8 h9) h9 fun t11 h12 y13=>
 gP t1 true (oLoad (some 4) t11 h12) h12 fun t14 h15 y16=>
 gM t1 true v0 h15 fun t17 h18 y19=>
 gM t1 true v9 h18 fun t20 h21 y22=>
 gP t1 true (oBin .sub t20 (.p (.int .i64 1))) h21 fun t23 h24 y25=>
 gP t1 true (oIaddr (some 4) t17 t23 h24) h24 fun t26 h27 y28=>
 gP t1 true (oLoad (some 4) t26 h27) h27 fun t29 h30 y31=>
 gV t1 true h30 (callvE C t2 [t14,t29] h30) fun t32 h33 y34=>
 gP t1 true (oBin .lss t32 (.p (.int .i64 0))) h33 fun t35 h36 y37=>
 pK (oPick t1 t35 (.p (.bool false))) fun t38=>
 condB t38 (pK (oBin .sub v9 (.p (.int .i64 1))) fun t39=>
 pK (oBin .sub v9 (.p (.int .i64 1))) fun t40=>
 pK (oIaddr (some 4) v0 t40 h36) fun t41=>
 pK (oLoad (some 4) t41 h36) fun t42=>
 pK (oIaddr (some 4) v0 v9 h36) fun t43=>
 pK (oLoad (some 4) t43 h36) fun t44=>
 pK (oIaddr (some 4) v0 v9 h36) fun t45=>
 wK (oStore (some 4) t45 t42 h36) fun t46 h47 y48=>
 pK (oIaddr (some 4) v0 t39 h47) fun t49=>
 wK (oStore (some 4) t49 t44 h47) fun t50 h51 y52=>
 pK (oBin .sub v9 (.p (.int .i64 1))) fun t53=>
 K .normal ⟨[(0,v0),(1,v1),(2,v2),(3,v3),(8,v8),(9,t53)],h51,(y52 ++ (y48 ++ (y37 ++ (y34 ++ (y31 ++ (y28 ++ (y25 ++ (y22 ++ (y19 ++ (y16 ++ (y13 ++ (y10 ++ (y7 ++ (y4 ++ x))))))))))))))⟩)
 (K (.exit 2) ⟨[(0,v0),(1,v1),(2,v2),(3,v3),(8,v8),(9,v9),(34,t38)],h36,(y37 ++ (y34 ++ (y31 ++ (y28 ++ (y25 ++ (y22 ++ (y19 ++ (y16 ++ (y13 ++ (y10 ++ (y7 ++ (y4 ++ x))))))))))))⟩)
theorem e_q071_k1 {C gl e h x K} : NW C gl p_q071_k1 ⟨e,h,x⟩ K = d_q071_k1 C gl (aget e 0) (aget e 1) (aget e 2) (aget e 3) (aget e 8) (aget e 9) h x K:=by kernel_rfl
theorem l_q071_k1 {C gl e h x K} : NW C gl (.loop p_q071_k1) ⟨e,h,x⟩ K = NLoop C gl p_q071_k1 K [(0,aget e 0),(1,aget e 1),(2,aget e 2),(3,aget e 3),(8,aget e 8),(9,aget e 9)] h x:=NLoop_pr
def p_q071_k2 : ACode:=.pr [0,1,2,3,8] (.reg [
  ⟨some 15,none,.mv (.t 8)⟩,
  ⟨some 16,none,.bin .add (.t 15) (.c (.p (.int .i64 1)))⟩,
  ⟨some 8,none,.mv (.t 16)⟩] (some [0,1,2,3,8]))
def d_q071_k2 (C : Hd) (gl : Nat → Option PV) (v0 v1 v2 v3 v8 : AV) (h : Heap) (x : Esc) (K : Ex → St → Prop) : Prop:=
 pK (oBin .add v8 (.p (.int .i64 1))) fun t1=>
 K .normal ⟨[(0,v0),(1,v1),(2,v2),(3,v3),(8,t1)],h,x⟩
theorem e_q071_k2 {C gl e h x K} : NW C gl p_q071_k2 ⟨e,h,x⟩ K = d_q071_k2 C gl (aget e 0) (aget e 1) (aget e 2) (aget e 3) (aget e 8) h x K:=by kernel_rfl
def P_q071_k3 (q1 q2 : ACode) : ACode:=.pr [0,1,2,3,8] (.seq (.seq (.reg [
  ⟨some 12,none,.mv (.t 8)⟩,
  ⟨some 13,none,.mv (.t 2)⟩,
  ⟨some 14,none,.bin .lss (.t 12) (.t 13)⟩] (some [0,1,2,3,8,14]))
 (.cond (.t 14) .skip
 (.exit 0)))
 (.seq (.block 1 (.seq (.reg [
  ⟨some 17,none,.mv (.t 8)⟩,
  ⟨some 9,none,.mv (.t 17)⟩] (some [0,1,2,3,8,9]))
 (.block 2 (.loop q1))))
 q2))
def p_q071_k3 : ACode:=P_q071_k3 p_q071_k1 p_q071_k2
def d_q071_k3 (C : Hd) (gl : Nat → Option PV) (q1 q2 : ACode) (v0 v1 v2 v3 v8 : AV) (h : Heap) (x : Esc) (K : Ex → St → Prop) : Prop:=
 pK (oBin .lss v8 v2) fun t1=>
 condB t1 (NW C gl (.loop q1) ⟨[(0,v0),(1,v1),(2,v2),(3,v3),(8,v8),(9,v8)],h,x⟩ (blockN 2 (blockN 1 (seqN C gl q2 K))))
 (K (.exit 0) ⟨[(0,v0),(1,v1),(2,v2),(3,v3),(8,v8),(14,t1)],h,x⟩)
theorem E_q071_k3 {C gl q1 q2 e h x K} : NW C gl (P_q071_k3 q1 q2) ⟨e,h,x⟩ K = d_q071_k3 C gl q1 q2 (aget e 0) (aget e 1) (aget e 2) (aget e 3) (aget e 8) h x K:=by kernel_rfl
theorem e_q071_k3 {C gl e h x K} : NW C gl p_q071_k3 ⟨e,h,x⟩ K = d_q071_k3 C gl p_q071_k1 p_q071_k2 (aget e 0) (aget e 1) (aget e 2) (aget e 3) (aget e 8) h x K:=E_q071_k3
theorem l_q071_k3 {C gl e h x K} : NW C gl (.loop p_q071_k3) ⟨e,h,x⟩ K = NLoop C gl p_q071_k3 K [(0,aget e 0),(1,aget e 1),(2,aget e 2),(3,aget e 3),(8,aget e 8)] h x:=NLoop_pr
def P_q071 (q3 : ACode) : ACode:=(.seq (.reg [
  ⟨some 10,none,.mv (.t 1)⟩,
  ⟨some 11,none,.bin .add (.t 10) (.c (.p (.int .i64 1)))⟩,
  ⟨some 8,none,.mv (.t 11)⟩] (some [0,1,2,3,8]))
 (.block 0 (.loop q3)))
def a_q071 : AFun:=⟨4,[],P_q071 p_q071_k3,true,false⟩
def d_q071 (C : Hd) (gl : Nat → Option PV) (q3 : ACode) (v0 v1 v2 v3 : AV) (h : Heap) (x : Esc) (K : Ex → St → Prop) : Prop:=
 pK (oBin .add v1 (.p (.int .i64 1))) fun t1=>
 NW C gl (.loop q3) ⟨[(0,v0),(1,v1),(2,v2),(3,v3),(8,t1)],h,x⟩ (blockN 0 K)
theorem E_q071 {C gl q3 v0 v1 v2 v3 h x K} : NW C gl (P_q071 q3) ⟨enter [v0,v1,v2,v3],h,x⟩ K = d_q071 C gl q3 v0 v1 v2 v3 h x K:=by kernel_rfl
theorem e_q071 {C gl v0 v1 v2 v3 h x K} : NW C gl a_q071.body ⟨enter [v0,v1,v2,v3],h,x⟩ K = d_q071 C gl p_q071_k3 v0 v1 v2 v3 h x K:=E_q071
def P_q05c : ACode:=(.seq (.reg [
  ⟨some 2,none,.box (.t 0)⟩,
  ⟨some 3,none,.mv (.c (.p (.bool false)))⟩] (some [1,2]))
 (.seq (.reg [
  ⟨some 4,none,.faddr 0 none (.t 2)⟩,
  ⟨some 5,none,.load none (.t 4)⟩,
  ⟨some 6,none,.load none (.t 1)⟩,
  ⟨some 7,none,.bin .eql (.t 5) (.t 6)⟩,
  ⟨some 3,none,.mv (.t 7)⟩] (some [3]))
 .ret))
def a_q05c : AFun:=⟨2,[.t 3],P_q05c,false,false⟩
def d_q05c (C : Hd) (gl : Nat → Option PV) (v0 v1 : AV) (h : Heap) (x : Esc) (K : Ex → St → Prop) : Prop:=
 wK (oBox v0 h) fun t1 h2 y3=>
 pK (oFaddr 0 none t1) fun t4=>
 pK (oLoad none t4 h2) fun t5=>
 pK (oLoad none v1 h2) fun t6=>
 pK (oBin .eql t5 t6) fun t7=>
 K .ret ⟨[(3,t7)],h2,(y3 ++ x)⟩
theorem E_q05c {C gl v0 v1 h x K} : NW C gl (P_q05c) ⟨enter [v0,v1],h,x⟩ K = d_q05c C gl v0 v1 h x K:=by kernel_rfl
theorem e_q05c {C gl v0 v1 h x K} : NW C gl a_q05c.body ⟨enter [v0,v1],h,x⟩ K = d_q05c C gl v0 v1 h x K:=E_q05c
def P_q009 : ACode:=(.seq (.reg [
  ⟨some 2,none,.mv (.c (.p (.bool false)))⟩] (some [0]))
 (.seq (.reg [
  ⟨some 3,none,.mv (.t 0)⟩,
  ⟨some 4,none,.call f_q00c [(.t 3),(.c (.p (.int .i64 0))),(.c (.p (.int .i64 345686399999)))]⟩,
  ⟨some 5,none,.un .not (.t 4)⟩,
  ⟨some 2,none,.mv (.t 5)⟩] (some [2]))
 .ret))
def a_q009 : AFun:=⟨1,[.t 2],P_q009,false,false⟩
def d_q009 (C : Hd) (gl : Nat → Option PV) (v0 : AV) (h : Heap) (x : Esc) (K : Ex → St → Prop) : Prop:=
 C f_q00c [v0,(.p (.int .i64 0)),(.p (.int .i64 345686399999))] h fun t1 h2 y3=>
 pK (oUn .not t1) fun t4=>
 K .ret ⟨[(2,t4)],h2,(y3 ++ x)⟩
theorem E_q009 {C gl v0 h x K} : NW C gl (P_q009) ⟨enter [v0],h,x⟩ K = d_q009 C gl v0 h x K:=by kernel_rfl
theorem e_q009 {C gl v0 h x K} : NW C gl a_q009.body ⟨enter [v0],h,x⟩ K = d_q009 C gl v0 h x K:=E_q009
def P_q03a : ACode:=(.seq (.reg [
  ⟨some 2,none,.mv (.c (.p (.bool false)))⟩] (some [0]))
 (.seq (.reg [
  ⟨some 3,none,.mv (.t 0)⟩,
  ⟨some 4,none,.call f_q036 [(.t 3)]⟩,
  ⟨some 5,none,.un .not (.t 4)⟩,
  ⟨some 2,none,.mv (.t 5)⟩] (some [2]))
 .ret))
def a_q03a : AFun:=⟨1,[.t 2],P_q03a,false,false⟩
def d_q03a (C : Hd) (gl : Nat → Option PV) (v0 : AV) (h : Heap) (x : Esc) (K : Ex → St → Prop) : Prop:=
 C f_q036 [v0] h fun t1 h2 y3=>
 pK (oUn .not t1) fun t4=>
 K .ret ⟨[(2,t4)],h2,(y3 ++ x)⟩
theorem E_q03a {C gl v0 h x K} : NW C gl (P_q03a) ⟨enter [v0],h,x⟩ K = d_q03a C gl v0 h x K:=by kernel_rfl
theorem e_q03a {C gl v0 h x K} : NW C gl a_q03a.body ⟨enter [v0],h,x⟩ K = d_q03a C gl v0 h x K:=E_q03a
def p_q02w_k1 : ACode:=.pr [0,3,5,23,24,25] (.seq (.reg [
  ⟨some 26,none,.bin .lss (.t 25) (.t 24)⟩] (some [0,3,5,23,24,25,26]))
 (.seq (.cond (.t 26) .skip
 (.exit 0))
 (.seq (.block 1 (.seq (.reg [
  ⟨some 27,none,.mv (.t 25)⟩,
  ⟨some 28,none,.iaddr none (.t 23) (.t 25)⟩,
  ⟨some 29,none,.load none (.t 28)⟩,
  ⟨some 6,none,.mv (.t 27)⟩,
  ⟨some 7,none,.mv (.t 29)⟩] (some [0,3,5,6,7,23,24,25]))
 (.seq (.reg [
  ⟨some 30,none,.mv (.t 0)⟩,
  ⟨some 31,none,.mv (.t 6)⟩,
  ⟨some 32,none,.iaddr (some 4) (.t 30) (.t 31)⟩,
  ⟨some 33,none,.load (some 4) (.t 32)⟩,
  ⟨some 34,none,.mv (.t 7)⟩,
  ⟨some 35,none,.call f_q034 [(.t 33),(.t 34)]⟩,
  ⟨some 36,none,.un .not (.t 35)⟩] (some [0,3,5,23,24,25,36]))
 (.cond (.t 36) (.seq (.reg [
  ⟨some 4,none,.mv (.c (.p (.bool false)))⟩] (some [4]))
 .ret)
 .skip))))
 (.reg [
  ⟨some 37,none,.bin .add (.t 25) (.c (.p (.int .i64 1)))⟩,
  ⟨some 25,none,.mv (.t 37)⟩] (some [0,3,5,23,24,25])))))
def d_q02w_k1 (C : Hd) (gl : Nat → Option PV) (v0 v3 v5 v23 v24 v25 : AV) (h : Heap) (x : Esc) (K : Ex → St → Prop) : Prop:=
 pK (oBin .lss v25 v24) fun t1=>
 condB t1 (pK (oIaddr none v23 v25 h) fun t2=>
 pK (oLoad none t2 h) fun t3=>
 pK (oIaddr (some 4) v0 v25 h) fun t4=>
 pK (oLoad (some 4) t4 h) fun t5=>
 C f_q034 [t5,t3] h fun t6 h7 y8=>
 pK (oUn .not t6) fun t9=>
 condB t9 (K .ret ⟨[(4,(.p (.bool false)))],h7,(y8 ++ x)⟩)
 (pK (oBin .add v25 (.p (.int .i64 1))) fun t10=>
 K .normal ⟨[(0,v0),(3,v3),(5,v5),(23,v23),(24,v24),(25,t10)],h7,(y8 ++ x)⟩))
 (K (.exit 0) ⟨[(0,v0),(3,v3),(5,v5),(23,v23),(24,v24),(25,v25),(26,t1)],h,x⟩)
theorem e_q02w_k1 {C gl e h x K} : NW C gl p_q02w_k1 ⟨e,h,x⟩ K = d_q02w_k1 C gl (aget e 0) (aget e 3) (aget e 5) (aget e 23) (aget e 24) (aget e 25) h x K:=by kernel_rfl
theorem l_q02w_k1 {C gl e h x K} : NW C gl (.loop p_q02w_k1) ⟨e,h,x⟩ K = NLoop C gl p_q02w_k1 K [(0,aget e 0),(3,aget e 3),(5,aget e 5),(23,aget e 23),(24,aget e 24),(25,aget e 25)] h x:=NLoop_pr
def p_q02w_k2 : ACode:=.pr [0,3,5] (.seq (.reg [
  ⟨some 38,none,.mv (.t 5)⟩,
  ⟨some 39,none,.mv (.t 0)⟩,
  ⟨some 40,none,.len (.t 39)⟩,
  ⟨some 41,none,.bin .eql (.t 38) (.t 40)⟩,
  ⟨some 42,none,.mv (.t 41)⟩,
  ⟨some 43,(some (42,false)),.mv (.t 0)⟩,
  ⟨some 44,(some (42,false)),.load (some 4) (.t 3)⟩,
  ⟨some 45,(some (42,false)),.call f_q02z [(.t 43),(.t 44)]⟩,
  ⟨some 46,(some (42,false)),.bin .geq (.t 45) (.c (.p (.int .i64 0)))⟩,
  ⟨some 47,none,.pick (.t 42) (.c (.p (.bool true))) (.t 46)⟩,
  ⟨some 4,none,.mv (.t 47)⟩] (some [4]))
 .ret)
def d_q02w_k2 (C : Hd) (gl : Nat → Option PV) (v0 v3 v5 : AV) (h : Heap) (x : Esc) (K : Ex → St → Prop) : Prop:=
 pK (oLen v0) fun t1=>
 pK (oBin .eql v5 t1) fun t2=>
 gM t2 false v0 h fun t3 h4 y5=>
 gP t2 false (oLoad (some 4) v3 h4) h4 fun t6 h7 y8=>
 gV t2 false h7 (C f_q02z [t3,t6] h7) fun t9 h10 y11=>
 gP t2 false (oBin .geq t9 (.p (.int .i64 0))) h10 fun t12 h13 y14=>
 pK (oPick t2 (.p (.bool true)) t12) fun t15=>
 K .ret ⟨[(4,t15)],h13,(y14 ++ (y11 ++ (y8 ++ (y5 ++ x))))⟩
theorem e_q02w_k2 {C gl e h x K} : NW C gl p_q02w_k2 ⟨e,h,x⟩ K = d_q02w_k2 C gl (aget e 0) (aget e 3) (aget e 5) h x K:=by kernel_rfl
def P_q02w (q1 q2 : ACode) : ACode:=(.seq (.reg [
  ⟨some 3,none,.box (.t 1)⟩,
  ⟨some 4,none,.mv (.c (.p (.bool false)))⟩] (some [0,3]))
 (.seq (.reg [
  ⟨some 8,none,.faddr 3 none (.t 3)⟩,
  ⟨some 9,none,.load none (.t 8)⟩,
  ⟨some 10,none,.len (.t 9)⟩,
  ⟨some 5,none,.mv (.t 10)⟩] (some [0,3,5]))
 (.seq (.seq (.reg [
  ⟨some 11,none,.mv (.t 5)⟩,
  ⟨some 12,none,.bin .eql (.t 11) (.c (.p (.int .i64 0)))⟩,
  ⟨some 13,none,.mv (.t 12)⟩,
  ⟨some 14,(some (13,false)),.mv (.t 5)⟩,
  ⟨some 15,(some (13,false)),.mv (.t 0)⟩,
  ⟨some 16,(some (13,false)),.len (.t 15)⟩,
  ⟨some 17,(some (13,false)),.bin .gtr (.t 14) (.t 16)⟩,
  ⟨some 18,none,.pick (.t 13) (.c (.p (.bool true))) (.t 17)⟩] (some [0,3,5,18]))
 (.cond (.t 18) (.seq (.reg [
  ⟨some 4,none,.mv (.c (.p (.bool false)))⟩] (some [4]))
 .ret)
 .skip))
 (.seq (.seq (.reg [
  ⟨some 19,none,.faddr 3 none (.t 3)⟩,
  ⟨some 20,none,.load none (.t 19)⟩,
  ⟨some 21,none,.mv (.t 5)⟩,
  ⟨some 22,none,.bin .sub (.t 21) (.c (.p (.int .i64 1)))⟩,
  ⟨some 23,none,.slice none (.t 20) none (some (.t 22)) none⟩,
  ⟨some 24,none,.len (.t 23)⟩,
  ⟨some 25,none,.mv (.c (.p (.int .i64 0)))⟩] (some [0,3,5,23,24,25]))
 (.block 0 (.loop q1)))
 q2))))
def a_q02w : AFun:=⟨2,[.t 4],P_q02w p_q02w_k1 p_q02w_k2,false,false⟩
def d_q02w (C : Hd) (gl : Nat → Option PV) (q1 q2 : ACode) (v0 v1 : AV) (h : Heap) (x : Esc) (K : Ex → St → Prop) : Prop:=
 wK (oBox v1 h) fun t1 h2 y3=>
 pK (oFaddr 3 none t1) fun t4=>
 pK (oLoad none t4 h2) fun t5=>
 pK (oLen t5) fun t6=>
 pK (oBin .eql t6 (.p (.int .i64 0))) fun t7=>
 gM t7 false t6 h2 fun t8 h9 y10=>
 gM t7 false v0 h9 fun t11 h12 y13=>
 gP t7 false (oLen t11) h12 fun t14 h15 y16=>
 gP t7 false (oBin .gtr t8 t14) h15 fun t17 h18 y19=>
 pK (oPick t7 (.p (.bool true)) t17) fun t20=>
 condB t20 (K .ret ⟨[(4,(.p (.bool false)))],h18,(y19 ++ (y16 ++ (y13 ++ (y10 ++ (y3 ++ x)))))⟩)
 (pK (oFaddr 3 none t1) fun t21=>
 pK (oLoad none t21 h18) fun t22=>
 pK (oBin .sub t6 (.p (.int .i64 1))) fun t23=>
 pK (oSlice none t22 none (some t23) none h18) fun t24=>
 pK (oLen t24) fun t25=>
 NW C gl (.loop q1) ⟨[(0,v0),(3,t1),(5,t6),(23,t24),(24,t25),(25,(.p (.int .i64 0)))],h18,(y19 ++ (y16 ++ (y13 ++ (y10 ++ (y3 ++ x)))))⟩ (blockN 0 (seqN C gl q2 K)))
theorem E_q02w {C gl q1 q2 v0 v1 h x K} : NW C gl (P_q02w q1 q2) ⟨enter [v0,v1],h,x⟩ K = d_q02w C gl q1 q2 v0 v1 h x K:=by kernel_rfl
theorem e_q02w {C gl v0 v1 h x K} : NW C gl a_q02w.body ⟨enter [v0,v1],h,x⟩ K = d_q02w C gl p_q02w_k1 p_q02w_k2 v0 v1 h x K:=E_q02w
def P_q098 : ACode:=(.seq (.reg [
  ⟨some 4,none,.mv (.c (.p (.int .i64 0)))⟩] (some [0,1]))
 (.seq (.reg [
  ⟨some 5,none,.mv (.t 0)⟩,
  ⟨some 6,none,.mv (.t 1)⟩,
  ⟨some 7,none,.call f_q025 [(.t 5),(.t 6)]⟩,
  ⟨some 4,none,.mv (.t 7)⟩] (some [4]))
 .ret))
def a_q098 : AFun:=⟨2,[.t 4],P_q098,false,false⟩
def d_q098 (C : Hd) (gl : Nat → Option PV) (v0 v1 : AV) (h : Heap) (x : Esc) (K : Ex → St → Prop) : Prop:=
 C f_q025 [v0,v1] h fun t1 h2 y3=>
 K .ret ⟨[(4,t1)],h2,(y3 ++ x)⟩
theorem E_q098 {C gl v0 v1 h x K} : NW C gl (P_q098) ⟨enter [v0,v1],h,x⟩ K = d_q098 C gl v0 v1 h x K:=by kernel_rfl
theorem e_q098 {C gl v0 v1 h x K} : NW C gl a_q098.body ⟨enter [v0,v1],h,x⟩ K = d_q098 C gl v0 v1 h x K:=E_q098
def p_q07o_k1 : ACode:=.pr [0,1,2,3,4,10,11,12,13] (.seq (.seq (.draw [
   ⟨⟨some 81,none,.mv (.t 1)⟩,[1],false,[],[]⟩,
   ⟨⟨some 82,none,.bin .gtr (.t 81) (.c (.p (.int .i64 0)))⟩,[81],false,[],[]⟩,
   ⟨⟨some 83,none,.mv (.t 82)⟩,[82],false,[],[]⟩,
   ⟨⟨some 84,(some (83,true)),.mv (.t 4)⟩,[4,83],false,[],[]⟩,
   ⟨⟨some 85,(some (83,true)),.mv (.t 0)⟩,[0,83],false,[],[]⟩,
   ⟨⟨some 86,(some (83,true)),.mv (.t 1)⟩,[1,83],false,[],[]⟩,
   ⟨⟨some 87,(some (83,true)),.bin .sub (.t 86) (.c (.p (.int .i64 1)))⟩,[86,83],false,[],[]⟩,
   ⟨⟨some 88,(some (83,true)),.iaddr (some 4) (.t 85) (.t 87)⟩,[85,87,83],false,[],[]⟩,
   ⟨⟨some 89,(some (83,true)),.load (some 4) (.t 88)⟩,[88,83],false,[],[]⟩,
   ⟨⟨some 90,(some (83,true)),.mv (.t 0)⟩,[0,83],false,[],[]⟩,
   ⟨⟨some 91,(some (83,true)),.mv (.t 13)⟩,[13,83],false,[],[]⟩,
   ⟨⟨some 92,(some (83,true)),.iaddr (some 4) (.t 90) (.t 91)⟩,[90,91,83],false,[],[]⟩,
   ⟨⟨some 93,(some (83,true)),.load (some 4) (.t 92)⟩,[92,83],false,[],[]⟩,
   ⟨⟨some 94,(some (83,true)),.callv (.t 84) [(.t 89),(.t 93)]⟩,[84,89,93,83],true,[],[]⟩,
   ⟨⟨some 95,(some (83,true)),.bin .lss (.t 94) (.c (.p (.int .i64 0)))⟩,[94,83],false,[],[]⟩,
   ⟨⟨some 96,(some (83,true)),.un .not (.t 95)⟩,[95,83],false,[],[]⟩,
   ⟨⟨some 97,none,.pick (.t 83) (.t 96) (.c (.p (.bool false)))⟩,[83,96],false,[],[]⟩] (some [0,1,2,3,4,10,11,12,13,97]))
 (.cond (.t 97) (.seq (.reg [
  ⟨some 98,none,.mv (.t 0)⟩,
  ⟨some 99,none,.mv (.t 1)⟩,
  ⟨some 100,none,.mv (.t 2)⟩,
  ⟨some 101,none,.mv (.t 13)⟩,
  ⟨some 102,none,.mv (.t 4)⟩,
  ⟨some 103,none,.call f_q07j [(.t 98),(.t 99),(.t 100),(.t 101),(.t 102)]⟩,
  ⟨some 15,none,.mv (.t 103)⟩] (some [0,2,3,4,10,11,15]))
 (.seq (.reg [
  ⟨some 104,none,.mv (.t 15)⟩,
  ⟨some 1,none,.mv (.t 104)⟩] (some [0,1,2,3,4,10,11]))
 (.exit 1)))
 .skip))
 (.seq (.reg [
  ⟨some 106,none,.mv (.t 0)⟩,
  ⟨some 107,none,.mv (.t 1)⟩,
  ⟨some 108,none,.mv (.t 2)⟩,
  ⟨some 109,none,.mv (.t 13)⟩,
  ⟨some 110,none,.mv (.t 4)⟩,
  ⟨some 111,none,.call f_q07i [(.t 106),(.t 107),(.t 108),(.t 109),(.t 110)]⟩,
  ⟨some 105,none,.mv (.t 111)⟩,
  ⟨some 112,none,.ext (.t 105) 0⟩,
  ⟨some 113,none,.ext (.t 105) 1⟩,
  ⟨some 16,none,.mv (.t 112)⟩,
  ⟨some 17,none,.mv (.t 113)⟩] (some [0,1,2,3,4,12,16,17]))
 (.seq (.reg [
  ⟨some 114,none,.mv (.t 17)⟩,
  ⟨some 11,none,.mv (.t 114)⟩] (some [0,1,2,3,4,11,12,16]))
 (.seq (.reg [
  ⟨some 115,none,.mv (.t 16)⟩,
  ⟨some 116,none,.mv (.t 1)⟩,
  ⟨some 117,none,.bin .sub (.t 115) (.t 116)⟩,
  ⟨some 118,none,.mv (.t 2)⟩,
  ⟨some 119,none,.mv (.t 16)⟩,
  ⟨some 120,none,.bin .sub (.t 118) (.t 119)⟩,
  ⟨some 18,none,.mv (.t 117)⟩,
  ⟨some 19,none,.mv (.t 120)⟩] (some [0,1,2,3,4,11,12,16,18,19]))
 (.seq (.reg [
  ⟨some 121,none,.mv (.t 12)⟩,
  ⟨some 122,none,.bin .quo (.t 121) (.c (.p (.int .i64 8)))⟩,
  ⟨some 20,none,.mv (.t 122)⟩] (some [0,1,2,3,4,11,16,18,19,20]))
 (.seq (.reg [
  ⟨some 123,none,.mv (.t 18)⟩,
  ⟨some 124,none,.mv (.t 19)⟩,
  ⟨some 125,none,.bin .lss (.t 123) (.t 124)⟩] (some [0,1,2,3,4,11,16,18,19,20,125]))
 (.cond (.t 125) (.seq (.reg [
  ⟨some 126,none,.mv (.t 18)⟩,
  ⟨some 127,none,.mv (.t 20)⟩,
  ⟨some 128,none,.bin .geq (.t 126) (.t 127)⟩,
  ⟨some 10,none,.mv (.t 128)⟩] (some [0,1,2,3,4,10,11,16]))
 (.seq (.reg [
  ⟨some 129,none,.mv (.t 0)⟩,
  ⟨some 130,none,.mv (.t 1)⟩,
  ⟨some 131,none,.mv (.t 16)⟩,
  ⟨some 132,none,.mv (.t 3)⟩,
  ⟨some 133,none,.mv (.t 4)⟩,
  ⟨some 134,none,.call f_q07o [(.t 129),(.t 130),(.t 131),(.t 132),(.t 133)]⟩] (some [0,2,3,4,10,11,16]))
 (.reg [
  ⟨some 135,none,.mv (.t 16)⟩,
  ⟨some 136,none,.bin .add (.t 135) (.c (.p (.int .i64 1)))⟩,
  ⟨some 1,none,.mv (.t 136)⟩] (some [0,1,2,3,4,10,11]))))
 (.seq (.reg [
  ⟨some 137,none,.mv (.t 19)⟩,
  ⟨some 138,none,.mv (.t 20)⟩,
  ⟨some 139,none,.bin .geq (.t 137) (.t 138)⟩,
  ⟨some 10,none,.mv (.t 139)⟩] (some [0,1,2,3,4,10,11,16]))
 (.seq (.reg [
  ⟨some 140,none,.mv (.t 0)⟩,
  ⟨some 141,none,.mv (.t 16)⟩,
  ⟨some 142,none,.bin .add (.t 141) (.c (.p (.int .i64 1)))⟩,
  ⟨some 143,none,.mv (.t 2)⟩,
  ⟨some 144,none,.mv (.t 3)⟩,
  ⟨some 145,none,.mv (.t 4)⟩,
  ⟨some 146,none,.call f_q07o [(.t 140),(.t 142),(.t 143),(.t 144),(.t 145)]⟩] (some [0,1,3,4,10,11,16]))
 (.reg [
  ⟨some 147,none,.mv (.t 16)⟩,
  ⟨some 2,none,.mv (.t 147)⟩] (some [0,1,2,3,4,10,11])))))))))))
def d_q07o_k1 (C : Hd) (gl : Nat → Option PV) (v0 v1 v2 v3 v4 v10 v11 v12 v13 : AV) (h : Heap) (x : Esc) (K : Ex → St → Prop) : Prop:=
 pK (oBin .gtr v1 (.p (.int .i64 0))) fun t1=>
 gM t1 true v4 h fun t2 h3 y4=>
 gM t1 true v0 h3 fun t5 h6 y7=>
 gM t1 true v1 h6 fun t8 h9 y10=>
 gP t1 true (oBin .sub t8 (.p (.int .i64 1))) h9 fun t11 h12 y13=>
 gP t1 true (oIaddr (some 4) t5 t11 h12) h12 fun t14 h15 y16=>
 gP t1 true (oLoad (some 4) t14 h15) h15 fun t17 h18 y19=>
 gM t1 true v0 h18 fun t20 h21 y22=>
 gM t1 true v13 h21 fun t23 h24 y25=>
 gP t1 true (oIaddr (some 4) t20 t23 h24) h24 fun t26 h27 y28=>
 gP t1 true (oLoad (some 4) t26 h27) h27 fun t29 h30 y31=>
 gV t1 true h30 (callvE C t2 [t17,t29] h30) fun t32 h33 y34=>
 gP t1 true (oBin .lss t32 (.p (.int .i64 0))) h33 fun t35 h36 y37=>
 gP t1 true (oUn .not t35) h36 fun t38 h39 y40=>
 pK (oPick t1 t38 (.p (.bool false))) fun t41=>
 condB t41 (C f_q07j [v0,v1,v2,v13,v4] h39 fun t42 h43 y44=>
 K (.exit 1) ⟨[(0,v0),(1,t42),(2,v2),(3,v3),(4,v4),(10,v10),(11,v11)],h43,(y44 ++ (y40 ++ (y37 ++ (y34 ++ (y31 ++ (y28 ++ (y25 ++ (y22 ++ (y19 ++ (y16 ++ (y13 ++ (y10 ++ (y7 ++ (y4 ++ x))))))))))))))⟩)
 (C f_q07i [v0,v1,v2,v13,v4] h39 fun t45 h46 y47=>
 pK (oExt t45 0) fun t48=>
 pK (oExt t45 1) fun t49=>
 pK (oBin .sub t48 v1) fun t50=>
 pK (oBin .sub v2 t48) fun t51=>
 pK (oBin .quo v12 (.p (.int .i64 8))) fun t52=>
 pK (oBin .lss t50 t51) fun t53=>
 condB t53 (pK (oBin .geq t50 t52) fun t54=>
 C f_q07o [v0,v1,t48,v3,v4] h46 fun t55 h56 y57=>
 pK (oBin .add t48 (.p (.int .i64 1))) fun t58=>
 K .normal ⟨[(0,v0),(1,t58),(2,v2),(3,v3),(4,v4),(10,t54),(11,t49)],h56,(y57 ++ (y47 ++ (y40 ++ (y37 ++ (y34 ++ (y31 ++ (y28 ++ (y25 ++ (y22 ++ (y19 ++ (y16 ++ (y13 ++ (y10 ++ (y7 ++ (y4 ++ x)))))))))))))))⟩)
 (pK (oBin .geq t51 t52) fun t59=>
 pK (oBin .add t48 (.p (.int .i64 1))) fun t60=>
 C f_q07o [v0,t60,v2,v3,v4] h46 fun t61 h62 y63=>
 K .normal ⟨[(0,v0),(1,v1),(2,t48),(3,v3),(4,v4),(10,t59),(11,t49)],h62,(y63 ++ (y47 ++ (y40 ++ (y37 ++ (y34 ++ (y31 ++ (y28 ++ (y25 ++ (y22 ++ (y19 ++ (y16 ++ (y13 ++ (y10 ++ (y7 ++ (y4 ++ x)))))))))))))))⟩))
theorem e_q07o_k1 {C gl e h x K} : NW C gl p_q07o_k1 ⟨e,h,x⟩ K = d_q07o_k1 C gl (aget e 0) (aget e 1) (aget e 2) (aget e 3) (aget e 4) (aget e 10) (aget e 11) (aget e 12) (aget e 13) h x K:=by kernel_rfl
def P_q07o_k2 (q1 : ACode) : ACode:=.pr [0,1,2,3,4,10,11,12,13,14] (.seq (.seq (.reg [
  ⟨some 68,none,.mv (.t 10)⟩,
  ⟨some 69,none,.mv (.t 68)⟩,
  ⟨some 70,(some (69,true)),.mv (.t 11)⟩,
  ⟨some 71,none,.pick (.t 69) (.t 70) (.c (.p (.bool false)))⟩,
  ⟨some 72,none,.mv (.t 71)⟩,
  ⟨some 73,(some (72,true)),.mv (.t 14)⟩,
  ⟨some 74,(some (72,true)),.bin .eql (.t 73) (.c (.p (.int .i64 1)))⟩,
  ⟨some 75,none,.pick (.t 72) (.t 74) (.c (.p (.bool false)))⟩] (some [0,1,2,3,4,10,11,12,13,75]))
 (.cond (.t 75) (.seq (.reg [
  ⟨some 76,none,.mv (.t 0)⟩,
  ⟨some 77,none,.mv (.t 1)⟩,
  ⟨some 78,none,.mv (.t 2)⟩,
  ⟨some 79,none,.mv (.t 4)⟩,
  ⟨some 80,none,.call f_q07f [(.t 76),(.t 77),(.t 78),(.t 79)]⟩] (some [0,1,2,3,4,10,11,12,13,80]))
 (.cond (.t 80) .ret
 .skip))
 .skip))
 q1)
def p_q07o_k2 : ACode:=P_q07o_k2 p_q07o_k1
def d_q07o_k2 (C : Hd) (gl : Nat → Option PV) (q1 : ACode) (v0 v1 v2 v3 v4 v10 v11 v12 v13 v14 : AV) (h : Heap) (x : Esc) (K : Ex → St → Prop) : Prop:=
 gM v10 true v11 h fun t1 h2 y3=>
 pK (oPick v10 t1 (.p (.bool false))) fun t4=>
 gM t4 true v14 h2 fun t5 h6 y7=>
 gP t4 true (oBin .eql t5 (.p (.int .i64 1))) h6 fun t8 h9 y10=>
 pK (oPick t4 t8 (.p (.bool false))) fun t11=>
 condB t11 (C f_q07f [v0,v1,v2,v4] h9 fun t12 h13 y14=>
 condB t12 (K .ret ⟨[(0,v0),(1,v1),(2,v2),(3,v3),(4,v4),(10,v10),(11,v11),(12,v12),(13,v13),(80,t12)],h13,(y14 ++ (y10 ++ (y7 ++ (y3 ++ x))))⟩)
 (NW C gl q1 ⟨[(0,v0),(1,v1),(2,v2),(3,v3),(4,v4),(10,v10),(11,v11),(12,v12),(13,v13),(80,t12)],h13,(y14 ++ (y10 ++ (y7 ++ (y3 ++ x))))⟩ K))
 (NW C gl q1 ⟨[(0,v0),(1,v1),(2,v2),(3,v3),(4,v4),(10,v10),(11,v11),(12,v12),(13,v13),(75,t11)],h9,(y10 ++ (y7 ++ (y3 ++ x)))⟩ K)
theorem E_q07o_k2 {C gl q1 e h x K} : NW C gl (P_q07o_k2 q1) ⟨e,h,x⟩ K = d_q07o_k2 C gl q1 (aget e 0) (aget e 1) (aget e 2) (aget e 3) (aget e 4) (aget e 10) (aget e 11) (aget e 12) (aget e 13) (aget e 14) h x K:=by kernel_rfl
theorem e_q07o_k2 {C gl e h x K} : NW C gl p_q07o_k2 ⟨e,h,x⟩ K = d_q07o_k2 C gl p_q07o_k1 (aget e 0) (aget e 1) (aget e 2) (aget e 3) (aget e 4) (aget e 10) (aget e 11) (aget e 12) (aget e 13) (aget e 14) h x K:=E_q07o_k2
def P_q07o_k3 (q2 : ACode) : ACode:=.pr [0,1,2,3,4,10,11,12] (.seq (.reg [
  ⟨some 48,none,.mv (.t 0)⟩,
  ⟨some 49,none,.mv (.t 1)⟩,
  ⟨some 50,none,.mv (.t 2)⟩,
  ⟨some 51,none,.mv (.t 4)⟩,
  ⟨some 52,none,.call f_q06v [(.t 48),(.t 49),(.t 50),(.t 51)]⟩,
  ⟨some 47,none,.mv (.t 52)⟩,
  ⟨some 53,none,.ext (.t 47) 0⟩,
  ⟨some 54,none,.ext (.t 47) 1⟩,
  ⟨some 13,none,.mv (.t 53)⟩,
  ⟨some 14,none,.mv (.t 54)⟩] (some [0,1,2,3,4,10,11,12,13,14]))
 (.seq (.seq (.reg [
  ⟨some 55,none,.mv (.t 14)⟩,
  ⟨some 56,none,.bin .eql (.t 55) (.c (.p (.int .i64 2)))⟩] (some [0,1,2,3,4,10,11,12,13,14,56]))
 (.cond (.t 56) (.seq (.reg [
  ⟨some 57,none,.mv (.t 0)⟩,
  ⟨some 58,none,.mv (.t 1)⟩,
  ⟨some 59,none,.mv (.t 2)⟩,
  ⟨some 60,none,.mv (.t 4)⟩,
  ⟨some 61,none,.call f_q07r [(.t 57),(.t 58),(.t 59),(.t 60)]⟩] (some [0,1,2,3,4,10,11,12,13]))
 (.seq (.reg [
  ⟨some 62,none,.mv (.t 2)⟩,
  ⟨some 63,none,.bin .sub (.t 62) (.c (.p (.int .i64 1)))⟩,
  ⟨some 64,none,.mv (.t 13)⟩,
  ⟨some 65,none,.mv (.t 1)⟩,
  ⟨some 66,none,.bin .sub (.t 64) (.t 65)⟩,
  ⟨some 67,none,.bin .sub (.t 63) (.t 66)⟩,
  ⟨some 13,none,.mv (.t 67)⟩] (some [0,1,2,3,4,10,11,12,13]))
 (.reg [
  ⟨some 14,none,.mv (.c (.p (.int .i64 1)))⟩] (some [0,1,2,3,4,10,11,12,13,14]))))
 .skip))
 q2))
def p_q07o_k3 : ACode:=P_q07o_k3 p_q07o_k2
def d_q07o_k3 (C : Hd) (gl : Nat → Option PV) (q2 : ACode) (v0 v1 v2 v3 v4 v10 v11 v12 : AV) (h : Heap) (x : Esc) (K : Ex → St → Prop) : Prop:=
 C f_q06v [v0,v1,v2,v4] h fun t1 h2 y3=>
 pK (oExt t1 0) fun t4=>
 pK (oExt t1 1) fun t5=>
 pK (oBin .eql t5 (.p (.int .i64 2))) fun t6=>
 condB t6 (C f_q07r [v0,v1,v2,v4] h2 fun t7 h8 y9=>
 pK (oBin .sub v2 (.p (.int .i64 1))) fun t10=>
 pK (oBin .sub t4 v1) fun t11=>
 pK (oBin .sub t10 t11) fun t12=>
 NW C gl q2 ⟨[(0,v0),(1,v1),(2,v2),(3,v3),(4,v4),(10,v10),(11,v11),(12,v12),(13,t12),(14,(.p (.int .i64 1)))],h8,(y9 ++ (y3 ++ x))⟩ K)
 (NW C gl q2 ⟨[(0,v0),(1,v1),(2,v2),(3,v3),(4,v4),(10,v10),(11,v11),(12,v12),(13,t4),(14,t5),(56,t6)],h2,(y3 ++ x)⟩ K)
theorem E_q07o_k3 {C gl q2 e h x K} : NW C gl (P_q07o_k3 q2) ⟨e,h,x⟩ K = d_q07o_k3 C gl q2 (aget e 0) (aget e 1) (aget e 2) (aget e 3) (aget e 4) (aget e 10) (aget e 11) (aget e 12) h x K:=by kernel_rfl
theorem e_q07o_k3 {C gl e h x K} : NW C gl p_q07o_k3 ⟨e,h,x⟩ K = d_q07o_k3 C gl p_q07o_k2 (aget e 0) (aget e 1) (aget e 2) (aget e 3) (aget e 4) (aget e 10) (aget e 11) (aget e 12) h x K:=E_q07o_k3
def P_q07o_k4 (q3 : ACode) : ACode:=.pr [0,1,2,3,4,10,11] (.block 1 (.seq (.reg [
  ⟨some 21,none,.mv (.t 2)⟩,
  ⟨some 22,none,.mv (.t 1)⟩,
  ⟨some 23,none,.bin .sub (.t 21) (.t 22)⟩,
  ⟨some 12,none,.mv (.t 23)⟩] (some [0,1,2,3,4,10,11,12]))
 (.seq (.seq (.reg [
  ⟨some 24,none,.mv (.t 12)⟩,
  ⟨some 25,none,.bin .leq (.t 24) (.c (.p (.int .i64 12)))⟩] (some [0,1,2,3,4,10,11,12,25]))
 (.cond (.t 25) (.seq (.reg [
  ⟨some 26,none,.mv (.t 0)⟩,
  ⟨some 27,none,.mv (.t 1)⟩,
  ⟨some 28,none,.mv (.t 2)⟩,
  ⟨some 29,none,.mv (.t 4)⟩,
  ⟨some 30,none,.call f_q071 [(.t 26),(.t 27),(.t 28),(.t 29)]⟩] (some []))
 .ret)
 .skip))
 (.seq (.seq (.reg [
  ⟨some 31,none,.mv (.t 3)⟩,
  ⟨some 32,none,.bin .eql (.t 31) (.c (.p (.int .i64 0)))⟩] (some [0,1,2,3,4,10,11,12,32]))
 (.cond (.t 32) (.seq (.reg [
  ⟨some 33,none,.mv (.t 0)⟩,
  ⟨some 34,none,.mv (.t 1)⟩,
  ⟨some 35,none,.mv (.t 2)⟩,
  ⟨some 36,none,.mv (.t 4)⟩,
  ⟨some 37,none,.call f_q06y [(.t 33),(.t 34),(.t 35),(.t 36)]⟩] (some []))
 .ret)
 .skip))
 (.seq (.seq (.reg [
  ⟨some 38,none,.mv (.t 10)⟩,
  ⟨some 39,none,.un .not (.t 38)⟩] (some [0,1,2,3,4,10,11,12,39]))
 (.cond (.t 39) (.seq (.reg [
  ⟨some 40,none,.mv (.t 0)⟩,
  ⟨some 41,none,.mv (.t 1)⟩,
  ⟨some 42,none,.mv (.t 2)⟩,
  ⟨some 43,none,.mv (.t 4)⟩,
  ⟨some 44,none,.call f_q06s [(.t 40),(.t 41),(.t 42),(.t 43)]⟩] (some [0,1,2,3,4,10,11,12]))
 (.reg [
  ⟨some 45,none,.mv (.t 3)⟩,
  ⟨some 46,none,.bin .sub (.t 45) (.c (.p (.int .i64 1)))⟩,
  ⟨some 3,none,.mv (.t 46)⟩] (some [0,1,2,3,4,10,11,12])))
 .skip))
 q3)))))
def p_q07o_k4 : ACode:=P_q07o_k4 p_q07o_k3
def d_q07o_k4 (C : Hd) (gl : Nat → Option PV) (q3 : ACode) (v0 v1 v2 v3 v4 v10 v11 : AV) (h : Heap) (x : Esc) (K : Ex → St → Prop) : Prop:=
 pK (oBin .sub v2 v1) fun t1=>
 pK (oBin .leq t1 (.p (.int .i64 12))) fun t2=>
 condB t2 (C f_q071 [v0,v1,v2,v4] h fun t3 h4 y5=>
 K .ret ⟨[],h4,(y5 ++ x)⟩)
 (pK (oBin .eql v3 (.p (.int .i64 0))) fun t6=>
 condB t6 (C f_q06y [v0,v1,v2,v4] h fun t7 h8 y9=>
 K .ret ⟨[],h8,(y9 ++ x)⟩)
 (pK (oUn .not v10) fun t10=>
 condB t10 (C f_q06s [v0,v1,v2,v4] h fun t11 h12 y13=>
 pK (oBin .sub v3 (.p (.int .i64 1))) fun t14=>
 NW C gl q3 ⟨[(0,v0),(1,v1),(2,v2),(3,t14),(4,v4),(10,v10),(11,v11),(12,t1)],h12,(y13 ++ x)⟩ (blockN 1 K))
 (NW C gl q3 ⟨[(0,v0),(1,v1),(2,v2),(3,v3),(4,v4),(10,v10),(11,v11),(12,t1),(39,t10)],h,x⟩ (blockN 1 K))))
theorem E_q07o_k4 {C gl q3 e h x K} : NW C gl (P_q07o_k4 q3) ⟨e,h,x⟩ K = d_q07o_k4 C gl q3 (aget e 0) (aget e 1) (aget e 2) (aget e 3) (aget e 4) (aget e 10) (aget e 11) h x K:=by kernel_rfl
theorem e_q07o_k4 {C gl e h x K} : NW C gl p_q07o_k4 ⟨e,h,x⟩ K = d_q07o_k4 C gl p_q07o_k3 (aget e 0) (aget e 1) (aget e 2) (aget e 3) (aget e 4) (aget e 10) (aget e 11) h x K:=E_q07o_k4
theorem l_q07o_k4 {C gl e h x K} : NW C gl (.loop p_q07o_k4) ⟨e,h,x⟩ K = NLoop C gl p_q07o_k4 K [(0,aget e 0),(1,aget e 1),(2,aget e 2),(3,aget e 3),(4,aget e 4),(10,aget e 10),(11,aget e 11)] h x:=NLoop_pr
def P_q07o (q4 : ACode) : ACode:=(.seq (.reg [
  ⟨some 10,none,.mv (.c (.p (.bool true)))⟩] (some [0,1,2,3,4,10]))
 (.seq (.reg [
  ⟨some 11,none,.mv (.c (.p (.bool true)))⟩] (some [0,1,2,3,4,10,11]))
 (.block 0 (.loop q4))))
def a_q07o : AFun:=⟨5,[],P_q07o p_q07o_k4,true,false⟩
def d_q07o (C : Hd) (gl : Nat → Option PV) (q4 : ACode) (v0 v1 v2 v3 v4 : AV) (h : Heap) (x : Esc) (K : Ex → St → Prop) : Prop:=
 NW C gl (.loop q4) ⟨[(0,v0),(1,v1),(2,v2),(3,v3),(4,v4),(10,(.p (.bool true))),(11,(.p (.bool true)))],h,x⟩ (blockN 0 K)
theorem E_q07o {C gl q4 v0 v1 v2 v3 v4 h x K} : NW C gl (P_q07o q4) ⟨enter [v0,v1,v2,v3,v4],h,x⟩ K = d_q07o C gl q4 v0 v1 v2 v3 v4 h x K:=by kernel_rfl
theorem e_q07o {C gl v0 v1 v2 v3 v4 h x K} : NW C gl a_q07o.body ⟨enter [v0,v1,v2,v3,v4],h,x⟩ K = d_q07o C gl p_q07o_k4 v0 v1 v2 v3 v4 h x K:=E_q07o
def p_q072_k1 : ACode:=.pr [0,1,2,3,8,9] (.seq (.seq (.draw [
   ⟨⟨some 18,none,.mv (.t 9)⟩,[9],false,[],[]⟩,
   ⟨⟨some 19,none,.mv (.t 1)⟩,[1],false,[],[]⟩,
   ⟨⟨some 20,none,.bin .gtr (.t 18) (.t 19)⟩,[18,19],false,[],[]⟩,
   ⟨⟨some 21,none,.mv (.t 20)⟩,[20],false,[],[]⟩,
   ⟨⟨some 22,(some (21,true)),.mv (.t 3)⟩,[3,21],false,[],[]⟩,
   ⟨⟨some 23,(some (21,true)),.mv (.t 0)⟩,[0,21],false,[],[]⟩,
   ⟨⟨some 24,(some (21,true)),.mv (.t 9)⟩,[9,21],false,[],[]⟩,
   ⟨⟨some 25,(some (21,true)),.iaddr none (.t 23) (.t 24)⟩,[23,24,21],false,[],[]⟩,
   ⟨⟨some 26,(some (21,true)),.load none (.t 25)⟩,[25,21],false,[],[]⟩,
   ⟨⟨some 27,(some (21,true)),.mv (.t 0)⟩,[0,21],false,[],[]⟩,
   ⟨⟨some 28,(some (21,true)),.mv (.t 9)⟩,[9,21],false,[],[]⟩,
   ⟨⟨some 29,(some (21,true)),.bin .sub (.t 28) (.c (.p (.int .i64 1)))⟩,[28,21],false,[],[]⟩,
   ⟨⟨some 30,(some (21,true)),.iaddr none (.t 27) (.t 29)⟩,[27,29,21],false,[],[]⟩,
   ⟨⟨some 31,(some (21,true)),.load none (.t 30)⟩,[30,21],false,[],[]⟩,
   ⟨⟨some 32,(some (21,true)),.callv (.t 22) [(.t 26),(.t 31)]⟩,[22,26,31,21],true,[],[]⟩,
   ⟨⟨some 33,(some (21,true)),.bin .lss (.t 32) (.c (.p (.int .i64 0)))⟩,[32,21],false,[],[]⟩,
   ⟨⟨some 34,none,.pick (.t 21) (.t 33) (.c (.p (.bool false)))⟩,[21,33],false,[],[]⟩] (some [0,1,2,3,8,9,34]))
 (.cond (.t 34) .skip
 (.exit 2)))
 (.seq (.block 3 (.draw [
   ⟨⟨some 37,none,.mv (.t 0)⟩,[0],false,[],[]⟩,
   ⟨⟨some 38,none,.mv (.t 9)⟩,[9],false,[],[]⟩,
   ⟨⟨some 39,none,.mv (.t 0)⟩,[0],false,[],[]⟩,
   ⟨⟨some 40,none,.mv (.t 9)⟩,[9],false,[],[]⟩,
   ⟨⟨some 41,none,.bin .sub (.t 40) (.c (.p (.int .i64 1)))⟩,[40],false,[],[]⟩,
   ⟨⟨some 42,none,.mv (.t 0)⟩,[0],false,[],[]⟩,
   ⟨⟨some 43,none,.mv (.t 9)⟩,[9],false,[],[]⟩,
   ⟨⟨some 44,none,.bin .sub (.t 43) (.c (.p (.int .i64 1)))⟩,[43],false,[],[]⟩,
   ⟨⟨some 45,none,.iaddr none (.t 42) (.t 44)⟩,[42,44],false,[],[]⟩,
   ⟨⟨some 46,none,.load none (.t 45)⟩,[45],false,[],[]⟩,
   ⟨⟨some 47,none,.mv (.t 0)⟩,[0],false,[],[]⟩,
   ⟨⟨some 48,none,.mv (.t 9)⟩,[9],false,[],[]⟩,
   ⟨⟨some 49,none,.iaddr none (.t 47) (.t 48)⟩,[47,48],false,[],[]⟩,
   ⟨⟨some 50,none,.load none (.t 49)⟩,[49],false,[],[]⟩,
   ⟨⟨some 51,none,.iaddr none (.t 37) (.t 38)⟩,[37,38],false,[],[]⟩,
   ⟨⟨none,none,.store none (.t 51) (.t 46)⟩,[51,46],true,[],[]⟩,
   ⟨⟨some 52,none,.iaddr none (.t 39) (.t 41)⟩,[39,41],false,[],[]⟩,
   ⟨⟨none,none,.store none (.t 52) (.t 50)⟩,[52,50],true,[],[]⟩] (some [0,1,2,3,8,9])))
 (.reg [
  ⟨some 35,none,.mv (.t 9)⟩,
  ⟨some 36,none,.bin .sub (.t 35) (.c (.p (.int .i64 1)))⟩,
  ⟨some 9,none,.mv (.t 36)⟩] (some [0,1,2,3,8,9]))))
def d_q072_k1 (C : Hd) (gl : Nat → Option PV) (v0 v1 v2 v3 v8 v9 : AV) (h : Heap) (x : Esc) (K : Ex → St → Prop) : Prop:=
 pK (oBin .gtr v9 v1) fun t1=>
 gM t1 true v3 h fun t2 h3 y4=>
 gM t1 true v0 h3 fun t5 h6 y7=>
 gM t1 true v9 h6 fun t8 h9 y10=>
 gP t1 true (oIaddr none t5 t8 h9) h9 fun t11 h12 y13=>
 gP t1 true (oLoad none t11 h12) h12 fun t14 h15 y16=>
 gM t1 true v0 h15 fun t17 h18 y19=>
 gM t1 true v9 h18 fun t20 h21 y22=>
 gP t1 true (oBin .sub t20 (.p (.int .i64 1))) h21 fun t23 h24 y25=>
 gP t1 true (oIaddr none t17 t23 h24) h24 fun t26 h27 y28=>
 gP t1 true (oLoad none t26 h27) h27 fun t29 h30 y31=>
 gV t1 true h30 (callvE C t2 [t14,t29] h30) fun t32 h33 y34=>
 gP t1 true (oBin .lss t32 (.p (.int .i64 0))) h33 fun t35 h36 y37=>
 pK (oPick t1 t35 (.p (.bool false))) fun t38=>
 condB t38 (pK (oBin .sub v9 (.p (.int .i64 1))) fun t39=>
 pK (oBin .sub v9 (.p (.int .i64 1))) fun t40=>
 pK (oIaddr none v0 t40 h36) fun t41=>
 pK (oLoad none t41 h36) fun t42=>
 pK (oIaddr none v0 v9 h36) fun t43=>
 pK (oLoad none t43 h36) fun t44=>
 pK (oIaddr none v0 v9 h36) fun t45=>
 wK (oStore none t45 t42 h36) fun t46 h47 y48=>
 pK (oIaddr none v0 t39 h47) fun t49=>
 wK (oStore none t49 t44 h47) fun t50 h51 y52=>
 pK (oBin .sub v9 (.p (.int .i64 1))) fun t53=>
 K .normal ⟨[(0,v0),(1,v1),(2,v2),(3,v3),(8,v8),(9,t53)],h51,(y52 ++ (y48 ++ (y37 ++ (y34 ++ (y31 ++ (y28 ++ (y25 ++ (y22 ++ (y19 ++ (y16 ++ (y13 ++ (y10 ++ (y7 ++ (y4 ++ x))))))))))))))⟩)
 (K (.exit 2) ⟨[(0,v0),(1,v1),(2,v2),(3,v3),(8,v8),(9,v9),(34,t38)],h36,(y37 ++ (y34 ++ (y31 ++ (y28 ++ (y25 ++ (y22 ++ (y19 ++ (y16 ++ (y13 ++ (y10 ++ (y7 ++ (y4 ++ x))))))))))))⟩)
theorem e_q072_k1 {C gl e h x K} : NW C gl p_q072_k1 ⟨e,h,x⟩ K = d_q072_k1 C gl (aget e 0) (aget e 1) (aget e 2) (aget e 3) (aget e 8) (aget e 9) h x K:=by kernel_rfl
theorem l_q072_k1 {C gl e h x K} : NW C gl (.loop p_q072_k1) ⟨e,h,x⟩ K = NLoop C gl p_q072_k1 K [(0,aget e 0),(1,aget e 1),(2,aget e 2),(3,aget e 3),(8,aget e 8),(9,aget e 9)] h x:=NLoop_pr
def p_q072_k2 : ACode:=.pr [0,1,2,3,8] (.reg [
  ⟨some 15,none,.mv (.t 8)⟩,
  ⟨some 16,none,.bin .add (.t 15) (.c (.p (.int .i64 1)))⟩,
  ⟨some 8,none,.mv (.t 16)⟩] (some [0,1,2,3,8]))
def d_q072_k2 (C : Hd) (gl : Nat → Option PV) (v0 v1 v2 v3 v8 : AV) (h : Heap) (x : Esc) (K : Ex → St → Prop) : Prop:=
 pK (oBin .add v8 (.p (.int .i64 1))) fun t1=>
 K .normal ⟨[(0,v0),(1,v1),(2,v2),(3,v3),(8,t1)],h,x⟩
theorem e_q072_k2 {C gl e h x K} : NW C gl p_q072_k2 ⟨e,h,x⟩ K = d_q072_k2 C gl (aget e 0) (aget e 1) (aget e 2) (aget e 3) (aget e 8) h x K:=by kernel_rfl
def P_q072_k3 (q1 q2 : ACode) : ACode:=.pr [0,1,2,3,8] (.seq (.seq (.reg [
  ⟨some 12,none,.mv (.t 8)⟩,
  ⟨some 13,none,.mv (.t 2)⟩,
  ⟨some 14,none,.bin .lss (.t 12) (.t 13)⟩] (some [0,1,2,3,8,14]))
 (.cond (.t 14) .skip
 (.exit 0)))
 (.seq (.block 1 (.seq (.reg [
  ⟨some 17,none,.mv (.t 8)⟩,
  ⟨some 9,none,.mv (.t 17)⟩] (some [0,1,2,3,8,9]))
 (.block 2 (.loop q1))))
 q2))
def p_q072_k3 : ACode:=P_q072_k3 p_q072_k1 p_q072_k2
def d_q072_k3 (C : Hd) (gl : Nat → Option PV) (q1 q2 : ACode) (v0 v1 v2 v3 v8 : AV) (h : Heap) (x : Esc) (K : Ex → St → Prop) : Prop:=
 pK (oBin .lss v8 v2) fun t1=>
 condB t1 (NW C gl (.loop q1) ⟨[(0,v0),(1,v1),(2,v2),(3,v3),(8,v8),(9,v8)],h,x⟩ (blockN 2 (blockN 1 (seqN C gl q2 K))))
 (K (.exit 0) ⟨[(0,v0),(1,v1),(2,v2),(3,v3),(8,v8),(14,t1)],h,x⟩)
theorem E_q072_k3 {C gl q1 q2 e h x K} : NW C gl (P_q072_k3 q1 q2) ⟨e,h,x⟩ K = d_q072_k3 C gl q1 q2 (aget e 0) (aget e 1) (aget e 2) (aget e 3) (aget e 8) h x K:=by kernel_rfl
theorem e_q072_k3 {C gl e h x K} : NW C gl p_q072_k3 ⟨e,h,x⟩ K = d_q072_k3 C gl p_q072_k1 p_q072_k2 (aget e 0) (aget e 1) (aget e 2) (aget e 3) (aget e 8) h x K:=E_q072_k3
theorem l_q072_k3 {C gl e h x K} : NW C gl (.loop p_q072_k3) ⟨e,h,x⟩ K = NLoop C gl p_q072_k3 K [(0,aget e 0),(1,aget e 1),(2,aget e 2),(3,aget e 3),(8,aget e 8)] h x:=NLoop_pr
def P_q072 (q3 : ACode) : ACode:=(.seq (.reg [
  ⟨some 10,none,.mv (.t 1)⟩,
  ⟨some 11,none,.bin .add (.t 10) (.c (.p (.int .i64 1)))⟩,
  ⟨some 8,none,.mv (.t 11)⟩] (some [0,1,2,3,8]))
 (.block 0 (.loop q3)))
def a_q072 : AFun:=⟨4,[],P_q072 p_q072_k3,true,false⟩
def d_q072 (C : Hd) (gl : Nat → Option PV) (q3 : ACode) (v0 v1 v2 v3 : AV) (h : Heap) (x : Esc) (K : Ex → St → Prop) : Prop:=
 pK (oBin .add v1 (.p (.int .i64 1))) fun t1=>
 NW C gl (.loop q3) ⟨[(0,v0),(1,v1),(2,v2),(3,v3),(8,t1)],h,x⟩ (blockN 0 K)
theorem E_q072 {C gl q3 v0 v1 v2 v3 h x K} : NW C gl (P_q072 q3) ⟨enter [v0,v1,v2,v3],h,x⟩ K = d_q072 C gl q3 v0 v1 v2 v3 h x K:=by kernel_rfl
theorem e_q072 {C gl v0 v1 v2 v3 h x K} : NW C gl a_q072.body ⟨enter [v0,v1,v2,v3],h,x⟩ K = d_q072 C gl p_q072_k3 v0 v1 v2 v3 h x K:=E_q072
def p_q074_k1 : ACode:=.pr [0,1,2,6,7] (.seq (.seq (.draw [
   ⟨⟨some 16,none,.mv (.t 7)⟩,[7],false,[],[]⟩,
   ⟨⟨some 17,none,.mv (.t 1)⟩,[1],false,[],[]⟩,
   ⟨⟨some 18,none,.bin .gtr (.t 16) (.t 17)⟩,[16,17],false,[],[]⟩,
   ⟨⟨some 19,none,.mv (.t 18)⟩,[18],false,[],[]⟩,
   ⟨⟨some 20,(some (19,true)),.mv (.t 0)⟩,[0,19],false,[],[]⟩,
   ⟨⟨some 21,(some (19,true)),.mv (.t 7)⟩,[7,19],false,[],[]⟩,
   ⟨⟨some 22,(some (19,true)),.iaddr none (.t 20) (.t 21)⟩,[20,21,19],false,[],[]⟩,
   ⟨⟨some 23,(some (19,true)),.load none (.t 22)⟩,[22,19],false,[],[]⟩,
   ⟨⟨some 24,(some (19,true)),.mv (.t 0)⟩,[0,19],false,[],[]⟩,
   ⟨⟨some 25,(some (19,true)),.mv (.t 7)⟩,[7,19],false,[],[]⟩,
   ⟨⟨some 26,(some (19,true)),.bin .sub (.t 25) (.c (.p (.int .i64 1)))⟩,[25,19],false,[],[]⟩,
   ⟨⟨some 27,(some (19,true)),.iaddr none (.t 24) (.t 26)⟩,[24,26,19],false,[],[]⟩,
   ⟨⟨some 28,(some (19,true)),.load none (.t 27)⟩,[27,19],false,[],[]⟩,
   ⟨⟨some 29,(some (19,true)),.call f_q00y [(.t 23),(.t 28)]⟩,[23,28,19],true,[],[]⟩,
   ⟨⟨some 30,none,.pick (.t 19) (.t 29) (.c (.p (.bool false)))⟩,[19,29],false,[],[]⟩] (some [0,1,2,6,7,30]))
 (.cond (.t 30) .skip
 (.exit 2)))
 (.seq (.block 3 (.draw [
   ⟨⟨some 33,none,.mv (.t 0)⟩,[0],false,[],[]⟩,
   ⟨⟨some 34,none,.mv (.t 7)⟩,[7],false,[],[]⟩,
   ⟨⟨some 35,none,.mv (.t 0)⟩,[0],false,[],[]⟩,
   ⟨⟨some 36,none,.mv (.t 7)⟩,[7],false,[],[]⟩,
   ⟨⟨some 37,none,.bin .sub (.t 36) (.c (.p (.int .i64 1)))⟩,[36],false,[],[]⟩,
   ⟨⟨some 38,none,.mv (.t 0)⟩,[0],false,[],[]⟩,
   ⟨⟨some 39,none,.mv (.t 7)⟩,[7],false,[],[]⟩,
   ⟨⟨some 40,none,.bin .sub (.t 39) (.c (.p (.int .i64 1)))⟩,[39],false,[],[]⟩,
   ⟨⟨some 41,none,.iaddr none (.t 38) (.t 40)⟩,[38,40],false,[],[]⟩,
   ⟨⟨some 42,none,.load none (.t 41)⟩,[41],false,[],[]⟩,
   ⟨⟨some 43,none,.mv (.t 0)⟩,[0],false,[],[]⟩,
   ⟨⟨some 44,none,.mv (.t 7)⟩,[7],false,[],[]⟩,
   ⟨⟨some 45,none,.iaddr none (.t 43) (.t 44)⟩,[43,44],false,[],[]⟩,
   ⟨⟨some 46,none,.load none (.t 45)⟩,[45],false,[],[]⟩,
   ⟨⟨some 47,none,.iaddr none (.t 33) (.t 34)⟩,[33,34],false,[],[]⟩,
   ⟨⟨none,none,.store none (.t 47) (.t 42)⟩,[47,42],true,[],[]⟩,
   ⟨⟨some 48,none,.iaddr none (.t 35) (.t 37)⟩,[35,37],false,[],[]⟩,
   ⟨⟨none,none,.store none (.t 48) (.t 46)⟩,[48,46],true,[],[]⟩] (some [0,1,2,6,7])))
 (.reg [
  ⟨some 31,none,.mv (.t 7)⟩,
  ⟨some 32,none,.bin .sub (.t 31) (.c (.p (.int .i64 1)))⟩,
  ⟨some 7,none,.mv (.t 32)⟩] (some [0,1,2,6,7]))))
def d_q074_k1 (C : Hd) (gl : Nat → Option PV) (v0 v1 v2 v6 v7 : AV) (h : Heap) (x : Esc) (K : Ex → St → Prop) : Prop:=
 pK (oBin .gtr v7 v1) fun t1=>
 gM t1 true v0 h fun t2 h3 y4=>
 gM t1 true v7 h3 fun t5 h6 y7=>
 gP t1 true (oIaddr none t2 t5 h6) h6 fun t8 h9 y10=>
 gP t1 true (oLoad none t8 h9) h9 fun t11 h12 y13=>
 gM t1 true v0 h12 fun t14 h15 y16=>
 gM t1 true v7 h15 fun t17 h18 y19=>
 gP t1 true (oBin .sub t17 (.p (.int .i64 1))) h18 fun t20 h21 y22=>
 gP t1 true (oIaddr none t14 t20 h21) h21 fun t23 h24 y25=>
 gP t1 true (oLoad none t23 h24) h24 fun t26 h27 y28=>
 gV t1 true h27 (callE C f_q00y [t11,t26] h27) fun t29 h30 y31=>
 pK (oPick t1 t29 (.p (.bool false))) fun t32=>
 condB t32 (pK (oBin .sub v7 (.p (.int .i64 1))) fun t33=>
 pK (oBin .sub v7 (.p (.int .i64 1))) fun t34=>
 pK (oIaddr none v0 t34 h30) fun t35=>
 pK (oLoad none t35 h30) fun t36=>
 pK (oIaddr none v0 v7 h30) fun t37=>
 pK (oLoad none t37 h30) fun t38=>
 pK (oIaddr none v0 v7 h30) fun t39=>
 wK (oStore none t39 t36 h30) fun t40 h41 y42=>
 pK (oIaddr none v0 t33 h41) fun t43=>
 wK (oStore none t43 t38 h41) fun t44 h45 y46=>
 pK (oBin .sub v7 (.p (.int .i64 1))) fun t47=>
 K .normal ⟨[(0,v0),(1,v1),(2,v2),(6,v6),(7,t47)],h45,(y46 ++ (y42 ++ (y31 ++ (y28 ++ (y25 ++ (y22 ++ (y19 ++ (y16 ++ (y13 ++ (y10 ++ (y7 ++ (y4 ++ x))))))))))))⟩)
 (K (.exit 2) ⟨[(0,v0),(1,v1),(2,v2),(6,v6),(7,v7),(30,t32)],h30,(y31 ++ (y28 ++ (y25 ++ (y22 ++ (y19 ++ (y16 ++ (y13 ++ (y10 ++ (y7 ++ (y4 ++ x))))))))))⟩)
theorem e_q074_k1 {C gl e h x K} : NW C gl p_q074_k1 ⟨e,h,x⟩ K = d_q074_k1 C gl (aget e 0) (aget e 1) (aget e 2) (aget e 6) (aget e 7) h x K:=by kernel_rfl
theorem l_q074_k1 {C gl e h x K} : NW C gl (.loop p_q074_k1) ⟨e,h,x⟩ K = NLoop C gl p_q074_k1 K [(0,aget e 0),(1,aget e 1),(2,aget e 2),(6,aget e 6),(7,aget e 7)] h x:=NLoop_pr
def p_q074_k2 : ACode:=.pr [0,1,2,6] (.reg [
  ⟨some 13,none,.mv (.t 6)⟩,
  ⟨some 14,none,.bin .add (.t 13) (.c (.p (.int .i64 1)))⟩,
  ⟨some 6,none,.mv (.t 14)⟩] (some [0,1,2,6]))
def d_q074_k2 (C : Hd) (gl : Nat → Option PV) (v0 v1 v2 v6 : AV) (h : Heap) (x : Esc) (K : Ex → St → Prop) : Prop:=
 pK (oBin .add v6 (.p (.int .i64 1))) fun t1=>
 K .normal ⟨[(0,v0),(1,v1),(2,v2),(6,t1)],h,x⟩
theorem e_q074_k2 {C gl e h x K} : NW C gl p_q074_k2 ⟨e,h,x⟩ K = d_q074_k2 C gl (aget e 0) (aget e 1) (aget e 2) (aget e 6) h x K:=by kernel_rfl
def P_q074_k3 (q1 q2 : ACode) : ACode:=.pr [0,1,2,6] (.seq (.seq (.reg [
  ⟨some 10,none,.mv (.t 6)⟩,
  ⟨some 11,none,.mv (.t 2)⟩,
  ⟨some 12,none,.bin .lss (.t 10) (.t 11)⟩] (some [0,1,2,6,12]))
 (.cond (.t 12) .skip
 (.exit 0)))
 (.seq (.block 1 (.seq (.reg [
  ⟨some 15,none,.mv (.t 6)⟩,
  ⟨some 7,none,.mv (.t 15)⟩] (some [0,1,2,6,7]))
 (.block 2 (.loop q1))))
 q2))
def p_q074_k3 : ACode:=P_q074_k3 p_q074_k1 p_q074_k2
def d_q074_k3 (C : Hd) (gl : Nat → Option PV) (q1 q2 : ACode) (v0 v1 v2 v6 : AV) (h : Heap) (x : Esc) (K : Ex → St → Prop) : Prop:=
 pK (oBin .lss v6 v2) fun t1=>
 condB t1 (NW C gl (.loop q1) ⟨[(0,v0),(1,v1),(2,v2),(6,v6),(7,v6)],h,x⟩ (blockN 2 (blockN 1 (seqN C gl q2 K))))
 (K (.exit 0) ⟨[(0,v0),(1,v1),(2,v2),(6,v6),(12,t1)],h,x⟩)
theorem E_q074_k3 {C gl q1 q2 e h x K} : NW C gl (P_q074_k3 q1 q2) ⟨e,h,x⟩ K = d_q074_k3 C gl q1 q2 (aget e 0) (aget e 1) (aget e 2) (aget e 6) h x K:=by kernel_rfl
theorem e_q074_k3 {C gl e h x K} : NW C gl p_q074_k3 ⟨e,h,x⟩ K = d_q074_k3 C gl p_q074_k1 p_q074_k2 (aget e 0) (aget e 1) (aget e 2) (aget e 6) h x K:=E_q074_k3
theorem l_q074_k3 {C gl e h x K} : NW C gl (.loop p_q074_k3) ⟨e,h,x⟩ K = NLoop C gl p_q074_k3 K [(0,aget e 0),(1,aget e 1),(2,aget e 2),(6,aget e 6)] h x:=NLoop_pr
def P_q074 (q3 : ACode) : ACode:=(.seq (.reg [
  ⟨some 8,none,.mv (.t 1)⟩,
  ⟨some 9,none,.bin .add (.t 8) (.c (.p (.int .i64 1)))⟩,
  ⟨some 6,none,.mv (.t 9)⟩] (some [0,1,2,6]))
 (.block 0 (.loop q3)))
def a_q074 : AFun:=⟨3,[],P_q074 p_q074_k3,true,false⟩
def d_q074 (C : Hd) (gl : Nat → Option PV) (q3 : ACode) (v0 v1 v2 : AV) (h : Heap) (x : Esc) (K : Ex → St → Prop) : Prop:=
 pK (oBin .add v1 (.p (.int .i64 1))) fun t1=>
 NW C gl (.loop q3) ⟨[(0,v0),(1,v1),(2,v2),(6,t1)],h,x⟩ (blockN 0 K)
theorem E_q074 {C gl q3 v0 v1 v2 h x K} : NW C gl (P_q074 q3) ⟨enter [v0,v1,v2],h,x⟩ K = d_q074 C gl q3 v0 v1 v2 h x K:=by kernel_rfl
theorem e_q074 {C gl v0 v1 v2 h x K} : NW C gl a_q074.body ⟨enter [v0,v1,v2],h,x⟩ K = d_q074 C gl p_q074_k3 v0 v1 v2 h x K:=E_q074
def P_q00y : ACode:=(.seq (.reg [
  ⟨some 4,none,.mv (.c (.p (.bool false)))⟩] (some [0,1]))
 (.seq (.reg [
  ⟨some 5,none,.mv (.t 0)⟩,
  ⟨some 6,none,.call f_q011 [(.t 5)]⟩,
  ⟨some 7,none,.mv (.t 6)⟩,
  ⟨some 8,(some (7,true)),.mv (.t 1)⟩,
  ⟨some 9,(some (7,true)),.call f_q011 [(.t 8)]⟩,
  ⟨some 10,(some (7,true)),.un .not (.t 9)⟩,
  ⟨some 11,none,.pick (.t 7) (.t 10) (.c (.p (.bool false)))⟩,
  ⟨some 12,none,.mv (.t 11)⟩,
  ⟨some 13,(some (12,false)),.mv (.t 0)⟩,
  ⟨some 14,(some (12,false)),.mv (.t 1)⟩,
  ⟨some 15,(some (12,false)),.bin .lss (.t 13) (.t 14)⟩,
  ⟨some 16,none,.pick (.t 12) (.c (.p (.bool true))) (.t 15)⟩,
  ⟨some 4,none,.mv (.t 16)⟩] (some [4]))
 .ret))
def a_q00y : AFun:=⟨2,[.t 4],P_q00y,false,false⟩
def d_q00y (C : Hd) (gl : Nat → Option PV) (v0 v1 : AV) (h : Heap) (x : Esc) (K : Ex → St → Prop) : Prop:=
 C f_q011 [v0] h fun t1 h2 y3=>
 gM t1 true v1 h2 fun t4 h5 y6=>
 gV t1 true h5 (C f_q011 [t4] h5) fun t7 h8 y9=>
 gP t1 true (oUn .not t7) h8 fun t10 h11 y12=>
 pK (oPick t1 t10 (.p (.bool false))) fun t13=>
 gM t13 false v0 h11 fun t14 h15 y16=>
 gM t13 false v1 h15 fun t17 h18 y19=>
 gP t13 false (oBin .lss t14 t17) h18 fun t20 h21 y22=>
 pK (oPick t13 (.p (.bool true)) t20) fun t23=>
 K .ret ⟨[(4,t23)],h21,(y22 ++ (y19 ++ (y16 ++ (y12 ++ (y9 ++ (y6 ++ (y3 ++ x)))))))⟩
theorem E_q00y {C gl v0 v1 h x K} : NW C gl (P_q00y) ⟨enter [v0,v1],h,x⟩ K = d_q00y C gl v0 v1 h x K:=by kernel_rfl
theorem e_q00y {C gl v0 v1 h x K} : NW C gl a_q00y.body ⟨enter [v0,v1],h,x⟩ K = d_q00y C gl v0 v1 h x K:=E_q00y
def p_q03n_k1 : ACode:=.pr [0,2] (.seq (.reg [
  ⟨some 19,none,.mv (.t 2)⟩,
  ⟨some 20,none,.mv (.t 0)⟩,
  ⟨some 21,none,.conv (.i .u8) (.t 20)⟩,
  ⟨some 22,none,.idxs (.c (.p (.str [0,1,2,2,3,3,3,3,4,4,4,4,4,4,4,4,5,5,5,5,5,5,5,5,5,5,5,5,5,5,5,5,6,6,6,6,6,6,6,6,6,6,6,6,6,6,6,6,6,6,6,6,6,6,6,6,6,6,6,6,6,6,6,6,7,7,7,7,7,7,7,7,7,7,7,7,7,7,7,7,7,7,7,7,7,7,7,7,7,7,7,7,7,7,7,7,7,7,7,7,7,7,7,7,7,7,7,7,7,7,7,7,7,7,7,7,7,7,7,7,7,7,7,7,7,7,7,7,8,8,8,8,8,8,8,8,8,8,8,8,8,8,8,8,8,8,8,8,8,8,8,8,8,8,8,8,8,8,8,8,8,8,8,8,8,8,8,8,8,8,8,8,8,8,8,8,8,8,8,8,8,8,8,8,8,8,8,8,8,8,8,8,8,8,8,8,8,8,8,8,8,8,8,8,8,8,8,8,8,8,8,8,8,8,8,8,8,8,8,8,8,8,8,8,8,8,8,8,8,8,8,8,8,8,8,8,8,8,8,8,8,8,8,8,8,8,8,8,8,8,8,8,8,8,8,8]))) (.t 21)⟩,
  ⟨some 23,none,.conv (.i .i64) (.t 22)⟩,
  ⟨some 24,none,.bin .add (.t 19) (.t 23)⟩,
  ⟨some 2,none,.mv (.t 24)⟩] (some [2]))
 .ret)
def d_q03n_k1 (C : Hd) (gl : Nat → Option PV) (v0 v2 : AV) (h : Heap) (x : Esc) (K : Ex → St → Prop) : Prop:=
 pK (oConvI .u8 v0) fun t1=>
 pK (oIdxs (.p (.str [0,1,2,2,3,3,3,3,4,4,4,4,4,4,4,4,5,5,5,5,5,5,5,5,5,5,5,5,5,5,5,5,6,6,6,6,6,6,6,6,6,6,6,6,6,6,6,6,6,6,6,6,6,6,6,6,6,6,6,6,6,6,6,6,7,7,7,7,7,7,7,7,7,7,7,7,7,7,7,7,7,7,7,7,7,7,7,7,7,7,7,7,7,7,7,7,7,7,7,7,7,7,7,7,7,7,7,7,7,7,7,7,7,7,7,7,7,7,7,7,7,7,7,7,7,7,7,7,8,8,8,8,8,8,8,8,8,8,8,8,8,8,8,8,8,8,8,8,8,8,8,8,8,8,8,8,8,8,8,8,8,8,8,8,8,8,8,8,8,8,8,8,8,8,8,8,8,8,8,8,8,8,8,8,8,8,8,8,8,8,8,8,8,8,8,8,8,8,8,8,8,8,8,8,8,8,8,8,8,8,8,8,8,8,8,8,8,8,8,8,8,8,8,8,8,8,8,8,8,8,8,8,8,8,8,8,8,8,8,8,8,8,8,8,8,8,8,8,8,8,8,8,8,8,8,8])) t1) fun t2=>
 pK (oConvI .i64 t2) fun t3=>
 pK (oBin .add v2 t3) fun t4=>
 K .ret ⟨[(2,t4)],h,x⟩
theorem e_q03n_k1 {C gl e h x K} : NW C gl p_q03n_k1 ⟨e,h,x⟩ K = d_q03n_k1 C gl (aget e 0) (aget e 2) h x K:=by kernel_rfl
def P_q03n_k2 (q1 : ACode) : ACode:=.pr [0,2] (.seq (.seq (.reg [
  ⟨some 13,none,.mv (.t 0)⟩,
  ⟨some 14,none,.bin .geq (.t 13) (.c (.p (.int .u64 256)))⟩] (some [0,2,14]))
 (.cond (.t 14) (.seq (.reg [
  ⟨some 15,none,.mv (.t 0)⟩,
  ⟨some 16,none,.bin .shr (.t 15) (.c (.p (.int .u64 8)))⟩,
  ⟨some 0,none,.mv (.t 16)⟩] (some [0,2]))
 (.reg [
  ⟨some 17,none,.mv (.t 2)⟩,
  ⟨some 18,none,.bin .add (.t 17) (.c (.p (.int .i64 8)))⟩,
  ⟨some 2,none,.mv (.t 18)⟩] (some [0,2])))
 .skip))
 q1)
def p_q03n_k2 : ACode:=P_q03n_k2 p_q03n_k1
def d_q03n_k2 (C : Hd) (gl : Nat → Option PV) (q1 : ACode) (v0 v2 : AV) (h : Heap) (x : Esc) (K : Ex → St → Prop) : Prop:=
 pK (oBin .geq v0 (.p (.int .u64 256))) fun t1=>
 condB t1 (pK (oBin .shr v0 (.p (.int .u64 8))) fun t2=>
 pK (oBin .add v2 (.p (.int .i64 8))) fun t3=>
 NW C gl q1 ⟨[(0,t2),(2,t3)],h,x⟩ K)
 (NW C gl q1 ⟨[(0,v0),(2,v2),(14,t1)],h,x⟩ K)
theorem E_q03n_k2 {C gl q1 e h x K} : NW C gl (P_q03n_k2 q1) ⟨e,h,x⟩ K = d_q03n_k2 C gl q1 (aget e 0) (aget e 2) h x K:=by kernel_rfl
theorem e_q03n_k2 {C gl e h x K} : NW C gl p_q03n_k2 ⟨e,h,x⟩ K = d_q03n_k2 C gl p_q03n_k1 (aget e 0) (aget e 2) h x K:=E_q03n_k2
def P_q03n_k3 (q2 : ACode) : ACode:=.pr [0,2] (.seq (.seq (.reg [
  ⟨some 7,none,.mv (.t 0)⟩,
  ⟨some 8,none,.bin .geq (.t 7) (.c (.p (.int .u64 65536)))⟩] (some [0,2,8]))
 (.cond (.t 8) (.seq (.reg [
  ⟨some 9,none,.mv (.t 0)⟩,
  ⟨some 10,none,.bin .shr (.t 9) (.c (.p (.int .u64 16)))⟩,
  ⟨some 0,none,.mv (.t 10)⟩] (some [0,2]))
 (.reg [
  ⟨some 11,none,.mv (.t 2)⟩,
  ⟨some 12,none,.bin .add (.t 11) (.c (.p (.int .i64 16)))⟩,
  ⟨some 2,none,.mv (.t 12)⟩] (some [0,2])))
 .skip))
 q2)
def p_q03n_k3 : ACode:=P_q03n_k3 p_q03n_k2
def d_q03n_k3 (C : Hd) (gl : Nat → Option PV) (q2 : ACode) (v0 v2 : AV) (h : Heap) (x : Esc) (K : Ex → St → Prop) : Prop:=
 pK (oBin .geq v0 (.p (.int .u64 65536))) fun t1=>
 condB t1 (pK (oBin .shr v0 (.p (.int .u64 16))) fun t2=>
 pK (oBin .add v2 (.p (.int .i64 16))) fun t3=>
 NW C gl q2 ⟨[(0,t2),(2,t3)],h,x⟩ K)
 (NW C gl q2 ⟨[(0,v0),(2,v2),(8,t1)],h,x⟩ K)
theorem E_q03n_k3 {C gl q2 e h x K} : NW C gl (P_q03n_k3 q2) ⟨e,h,x⟩ K = d_q03n_k3 C gl q2 (aget e 0) (aget e 2) h x K:=by kernel_rfl
theorem e_q03n_k3 {C gl e h x K} : NW C gl p_q03n_k3 ⟨e,h,x⟩ K = d_q03n_k3 C gl p_q03n_k2 (aget e 0) (aget e 2) h x K:=E_q03n_k3
def P_q03n (q3 : ACode) : ACode:=(.seq (.reg [
  ⟨some 2,none,.mv (.c (.p (.int .i64 0)))⟩] (some [0,2]))
 (.seq (.seq (.reg [
  ⟨some 3,none,.mv (.t 0)⟩,
  ⟨some 4,none,.bin .geq (.t 3) (.c (.p (.int .u64 4294967296)))⟩] (some [0,2,4]))
 (.cond (.t 4) (.seq (.reg [
  ⟨some 5,none,.mv (.t 0)⟩,
  ⟨some 6,none,.bin .shr (.t 5) (.c (.p (.int .u64 32)))⟩,
  ⟨some 0,none,.mv (.t 6)⟩] (some [0]))
 (.reg [
  ⟨some 2,none,.mv (.c (.p (.int .i64 32)))⟩] (some [0,2])))
 .skip))
 q3))
def a_q03n : AFun:=⟨1,[.t 2],P_q03n p_q03n_k3,false,false⟩
def d_q03n (C : Hd) (gl : Nat → Option PV) (q3 : ACode) (v0 : AV) (h : Heap) (x : Esc) (K : Ex → St → Prop) : Prop:=
 pK (oBin .geq v0 (.p (.int .u64 4294967296))) fun t1=>
 condB t1 (pK (oBin .shr v0 (.p (.int .u64 32))) fun t2=>
 NW C gl q3 ⟨[(0,t2),(2,(.p (.int .i64 32)))],h,x⟩ K)
 (NW C gl q3 ⟨[(0,v0),(2,(.p (.int .i64 0))),(4,t1)],h,x⟩ K)
theorem E_q03n {C gl q3 v0 h x K} : NW C gl (P_q03n q3) ⟨enter [v0],h,x⟩ K = d_q03n C gl q3 v0 h x K:=by kernel_rfl
theorem e_q03n {C gl v0 h x K} : NW C gl a_q03n.body ⟨enter [v0],h,x⟩ K = d_q03n C gl p_q03n_k3 v0 h x K:=E_q03n
def P_q025 : ACode:=(.seq (.reg [
  ⟨some 4,none,.mv (.c (.p (.int .i64 0)))⟩] (some [0,1]))
 (.seq (.reg [
  ⟨some 5,none,.mv (.t 0)⟩,
  ⟨some 6,none,.mv (.t 1)⟩,
  ⟨some 7,none,.call f_internal_bytealg_IndexByteString [(.t 5),(.t 6)]⟩,
  ⟨some 4,none,.mv (.t 7)⟩] (some [4]))
 .ret))
def a_q025 : AFun:=⟨2,[.t 4],P_q025,false,false⟩
def d_q025 (C : Hd) (gl : Nat → Option PV) (v0 v1 : AV) (h : Heap) (x : Esc) (K : Ex → St → Prop) : Prop:=
 C f_internal_bytealg_IndexByteString [v0,v1] h fun t1 h2 y3=>
 K .ret ⟨[(4,t1)],h2,(y3 ++ x)⟩
theorem E_q025 {C gl v0 v1 h x K} : NW C gl (P_q025) ⟨enter [v0,v1],h,x⟩ K = d_q025 C gl v0 v1 h x K:=by kernel_rfl
theorem e_q025 {C gl v0 v1 h x K} : NW C gl a_q025.body ⟨enter [v0,v1],h,x⟩ K = d_q025 C gl v0 v1 h x K:=E_q025
def P_q011 : ACode:=(.seq (.reg [
  ⟨some 2,none,.mv (.c (.p (.bool false)))⟩] (some [0]))
 (.seq (.reg [
  ⟨some 3,none,.mv (.t 0)⟩,
  ⟨some 4,none,.mv (.t 0)⟩,
  ⟨some 5,none,.bin .neq (.t 3) (.t 4)⟩,
  ⟨some 2,none,.mv (.t 5)⟩] (some [2]))
 .ret))
def a_q011 : AFun:=⟨1,[.t 2],P_q011,false,false⟩
def d_q011 (C : Hd) (gl : Nat → Option PV) (v0 : AV) (h : Heap) (x : Esc) (K : Ex → St → Prop) : Prop:=
 pK (oBin .neq v0 v0) fun t1=>
 K .ret ⟨[(2,t1)],h,x⟩
theorem E_q011 {C gl v0 h x K} : NW C gl (P_q011) ⟨enter [v0],h,x⟩ K = d_q011 C gl v0 h x K:=by kernel_rfl
theorem e_q011 {C gl v0 h x K} : NW C gl a_q011.body ⟨enter [v0],h,x⟩ K = d_q011 C gl v0 h x K:=E_q011
end Go.Am
end
section
/- The abstract machine,part L: functions of the library that are met by the kit's contracts: plain values in,plain values out,new memory at most. -/
set_option linter.unusedSimpArgs false
set_option linter.unusedVariables false
namespace Go.Am
variable {P : Program} {gl : Nat → Option PV}
structure PureRow (P : Program) (gl : Nat → Option PV) (f : Nat) (spec : List PV → Option AV) : Prop where
  enter : ∀ us w,(callFunc f us).run P w = .ok (.enter f us) w
  run : ∀ (M : Mem) (w : World) (vs : List PV) (r : AV) (us : List Value),(∀ b o v,M.c b o = some v → w.cell? ⟨b,o,none⟩ = some v) → (∀ b o,M.b b = some o → w.heap[b]? = some o) → GInv gl M → vs.length = us.length →
    (∀ (j : Nat) (y : PV) (v : Value),vs[j]? = some y → us[j]? = some v → RPV M y v) → spec vs = some r →
    Calls P f us.toArray w fun e w'=>∃ x,e = .returned x ∧ WExt w w' ∧ RAV (ExtM M w w') [] [] r x
abbrev PureT:=List (Nat × (List PV → Option AV))
def pureF : PureT → Nat → List AV → Heap → Option (AV × Heap × Esc)
  | [],_,_,_=>none
  | (g,s) :: r,f,as,h=>bif Nat.beq f g then ((unp as).bind s).map fun v=>(v,h,[]) else pureF r f as h
theorem pureF_ok : ∀ (gs : PureT),(∀ g s,(g,s) ∈ gs → PureRow P gl g s) → ∀ {f : Nat} {as : List AV} {h : Heap} {v : AV} {h' : Heap} {x : Esc},pureF gs f as h = some (v,h',x) →
    CallOk P gl f as h fun v1 h1 x1=>v1 = v ∧ h1 = h' ∧ x1 = x
  | [],_,f,as,h,v,h',x,H=>by cases H
  | (g,s) :: r,hg,f,as,h,v,h',x,H=>by
    unfold pureF at H
    cases e1 : Nat.beq f g with
    | false=>
      rw [e1] at H
      exact pureF_ok r (fun g sh hm=>hg g sh (by simp [hm])) H
    | true=>
      rw [e1] at H
      have e:=Nat.eq_of_beq_eq_true e1
      subst e
      have R:=hg f s (by simp)
      simp only [cond_true] at H
      obtain ⟨y,hy,e2⟩:=Option.map_eq_some_iff.1 H
      simp only [Prod.mk.injEq] at e2
      obtain ⟨rfl,rfl,rfl⟩:=e2
      obtain ⟨ps,hps,hs⟩:=Option.bind_eq_some_iff.1 hy
      have hm:=unp_spec hps
      subst hm
      intro μ w vs Hh Hg hl hr
      refine .inl ⟨R.enter _,?_⟩
      refine (R.run (imm h μ w) w ps y vs (fun b o v hv=>(imm_some.1 hv).2) (fun b o hv=>(imm_blk.1 hv).2) Hg (by simpa using hl) (fun j q v hq hv=>(hr j (.p q) v (by simp [hq]) hv).p_inv) hs).mono fun e w' he=>?_
      obtain ⟨u,rfl,g1,g2⟩:=he
      obtain ⟨n1,n2⟩:=Hh.ext g1
      have Lq : (ExtM (imm h μ w) w w').le (imm h μ w'):=by
        refine ⟨fun b o v hv=>?_,fun b o hv=>?_,rfl⟩
        · dsimp only [ExtM] at hv
          split at hv
          · exact n2.le.c _ _ _ hv
          · rename_i hb
            exact imm_some.2 ⟨fun hO=>hb (owned_lt Hh hO),hv⟩
        · dsimp only [ExtM] at hv
          cases hv
      exact ⟨_,_,_,μ,⟨rfl,rfl,rfl⟩,g2.evo ⟨Lq,Nat.zero_le _,fun id o m h1=>by simp at h1⟩,n1,n2,EscInv.refl h []⟩
def libF (gs : List (Nat × Sh)) (ps : PureT) (f : Nat) (as : List AV) (h : Heap) : Option (AV × Heap × Esc):=match growF gs f as h with
  | some y=>some y
  | none=>pureF ps f as h
theorem libF_ok {gs : List (Nat × Sh)} {ps : PureT} (hg : ∀ g sh,(g,sh) ∈ gs → GrowRow P g sh) (hp : ∀ g s,(g,s) ∈ ps → PureRow P gl g s) {f : Nat} {as : List AV} {h : Heap} {v : AV} {h' : Heap} {x : Esc} (H : libF gs ps f as h = some (v,h',x)) :
    CallOk P gl f as h fun v1 h1 x1=>v1 = v ∧ h1 = h' ∧ x1 = x:=by
  unfold libF at H
  split at H
  · rename_i y hy
    cases H
    exact growF_ok gs hg hy
  · exact pureF_ok ps hp H
theorem lib_call {X : Ctx} {f : Nat} {as : List AV} {h h' : Heap} {v : AV} {x : Esc} {K : Post} (hf : X.fn f = none) (hx : X.ex2 f as h = some (v,h',x)) : ACall X f as h K = K v h' x:=by
  refine propext (ACall.eq (ACall.fold ?_) K)
  unfold Step
  simp only [hf,hx]
  exact ⟨trivial,trivial,trivial⟩
def growSh : List (Nat × Sh) → Nat → Option Sh
  | [],_=>none
  | (g,s) :: r,f=>bif Nat.beq f g then some s else growSh r f
theorem growF_miss : ∀ {gs : List (Nat × Sh)} {f : Nat} {as : List AV} {h : Heap},growSh gs f = none → growF gs f as h = none
  | [],f,as,h,_=>rfl
  | (g,s) :: r,f,as,h,hm=>by
    unfold growSh at hm
    unfold growF
    cases hq : Nat.beq f g with
    | true=>rw [hq] at hm; cases hm
    | false=>rw [hq] at hm; exact growF_miss hm
def pureSp : PureT → Nat → Option (List PV → Option AV)
  | [],_=>none
  | (g,s) :: r,f=>bif Nat.beq f g then some s else pureSp r f
theorem pureF_hit : ∀ {gs : PureT} {f : Nat} {s : List PV → Option AV} {as : List AV} {h : Heap},pureSp gs f = some s → pureF gs f as h = ((unp as).bind s).map fun v=>(v,h,[])
  | [],f,s,as,h,hm=>by cases hm
  | (g,s') :: r,f,s,as,h,hm=>by
    unfold pureSp at hm
    unfold pureF
    cases hq : Nat.beq f g with
    | true=>rw [hq] at hm; cases hm; rfl
    | false=>rw [hq] at hm; exact pureF_hit hm
theorem libF_pure {gs : List (Nat × Sh)} {ps : PureT} {f : Nat} {s : List PV → Option AV} {as : List AV} {vs : List PV} {v : AV} {h : Heap} (hg : growSh gs f = none) (hm : pureSp ps f = some s) (hu : unp as = some vs) (hv : s vs = some v) : libF gs ps f as h = some (v,h,[]):=by
  unfold libF; rw [growF_miss hg,pureF_hit hm,hu]; simp [hv]
def glOf : List (Nat × PV) → Nat → Option PV
  | [],_=>none
  | (g,v) :: r,n=>bif Nat.beq n g then some v else glOf r n
theorem enters_chk {f : Nat} (h : (match P.funcs[f]? with | some fn=>fn.body.isSome && fn.name != "runtime.NumGoroutine" | none=>false) = true) (us : Array Value) (w : World) : (callFunc f us).run P w = .ok (.enter f us) w:=by
  cases hf : P.funcs[f]? with
  | none=>rw [hf] at h; cases h
  | some fn=>
    rw [hf] at h
    simp only [Bool.and_eq_true,bne_iff_ne,ne_eq] at h
    cases hb : fn.body with
    | none=>rw [hb] at h; cases h.1
    | some c=>exact enters hf hb h.2 us w
def digC (n : Nat) : UInt8:=UInt8.ofNat (48 + n)
def decN (n : Nat) : List UInt8:=if n < 10 then [digC n] else decN (n / 10) ++ [digC (n % 10)]
termination_by n
decreasing_by omega
def itoa (n : Int) : List UInt8:=if n < 0 then 45 :: decN n.natAbs else decN n.natAbs
theorem decN_lt {n : Nat} (h : n < 10) : decN n = [digC n]:=by rw [decN,if_pos h]
theorem decN_ge {n : Nat} (h : 10 ≤ n) : decN n = decN (n / 10) ++ [digC (n % 10)]:=by rw [decN,if_neg (by omega)]
def itoaS : List PV → Option AV
  | [.int .i64 n]=>bif decide (-9223372036854775808 ≤ n) && decide (n ≤ 9223372036854775807) then some (.p (.str (itoa n))) else none
  | _=>none
def pow10PV : PV:=.agg ((List.range 20).map fun i=>.int .u64 ((10 ^ i : Nat) : Int))
end Go.Am
end
