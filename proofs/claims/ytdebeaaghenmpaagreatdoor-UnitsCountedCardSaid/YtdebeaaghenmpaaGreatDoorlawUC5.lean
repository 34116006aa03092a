/- Texts of the proof, laid together: CodesB. -/
import Derived.KernelRfl
import Derived.Test.YtdebeaaghenmpaaGreatDoorlawUC4
set_option linter.all false
section
/- The functions as abstract code,and as formulas over their values: printed by program out of the translation. -/
set_option linter.unusedVariables false
set_option maxRecDepth 100000
namespace Go.Am
def p_q028_k1 : ACode:=.pr [0,7,8,9,11,23,24,25] (.seq (.reg [
  ⟨some 39,none,.mv (.t 8)⟩,
  ⟨some 40,none,.faddr 2 none (.t 11)⟩,
  ⟨some 41,none,.load none (.t 40)⟩,
  ⟨some 42,none,.look (none,[2]) false (.p (.int .i64 0)) (.t 39) (.t 41)⟩,
  ⟨some 43,none,.bin .add (.t 42) (.c (.p (.int .i64 1)))⟩,
  ⟨none,none,.mupd (none,[2]) (.t 39) (.t 41) (.t 43)⟩] (some [0,7,8,9,11,23,24,25]))
 (.seq (.reg [
  ⟨some 44,none,.mv (.t 0)⟩,
  ⟨some 45,none,.load (some 4) (.t 11)⟩,
  ⟨some 46,none,.call f_q02z [(.t 44),(.t 45)]⟩,
  ⟨some 47,none,.bin .lss (.t 46) (.c (.p (.int .i64 0)))⟩] (some [0,7,8,9,11,23,24,25,47]))
 (.cond (.t 47) (.reg [
  ⟨some 48,none,.mv (.t 7)⟩,
  ⟨some 49,none,.faddr 2 none (.t 11)⟩,
  ⟨some 50,none,.load none (.t 49)⟩,
  ⟨some 51,none,.look (none,[2]) false (.p (.int .i64 0)) (.t 48) (.t 50)⟩,
  ⟨some 52,none,.bin .add (.t 51) (.c (.p (.int .i64 1)))⟩,
  ⟨none,none,.mupd (none,[2]) (.t 48) (.t 50) (.t 52)⟩] (some [0,7,8,9,23,24,25]))
 .skip)))
def d_q028_k1 (C : Hd) (gl : Nat → Option PV) (v0 v7 v8 v9 v11 v23 v24 v25 : AV) (h : Heap) (x : Esc) (K : Ex → St → Prop) : Prop:=
 pK (oFaddr 2 none v11) fun t1=>
 pK (oLoad none t1 h) fun t2=>
 pK (oLook (none,[2]) false (.p (.int .i64 0)) v8 t2 h) fun t3=>
 pK (oBin .add t3 (.p (.int .i64 1))) fun t4=>
 wK (oMupd (none,[2]) v8 t2 t4 h) fun t5 h6 y7=>
 pK (oLoad (some 4) v11 h6) fun t8=>
 C f_q02z [v0,t8] h6 fun t9 h10 y11=>
 pK (oBin .lss t9 (.p (.int .i64 0))) fun t12=>
 condB t12 (pK (oFaddr 2 none v11) fun t13=>
 pK (oLoad none t13 h10) fun t14=>
 pK (oLook (none,[2]) false (.p (.int .i64 0)) v7 t14 h10) fun t15=>
 pK (oBin .add t15 (.p (.int .i64 1))) fun t16=>
 wK (oMupd (none,[2]) v7 t14 t16 h10) fun t17 h18 y19=>
 K .normal ⟨[(0,v0),(7,v7),(8,v8),(9,v9),(23,v23),(24,v24),(25,v25)],h18,(y19 ++ (y11 ++ (y7 ++ x)))⟩)
 (K .normal ⟨[(0,v0),(7,v7),(8,v8),(9,v9),(11,v11),(23,v23),(24,v24),(25,v25),(47,t12)],h10,(y11 ++ (y7 ++ x))⟩)
theorem e_q028_k1 {C gl e h x K} : NW C gl p_q028_k1 ⟨e,h,x⟩ K = d_q028_k1 C gl (aget e 0) (aget e 7) (aget e 8) (aget e 9) (aget e 11) (aget e 23) (aget e 24) (aget e 25) h x K:=by kernel_rfl
def p_q028_k2 : ACode:=.pr [0,7,8,9,23,24,25] (.reg [
  ⟨some 53,none,.bin .add (.t 25) (.c (.p (.int .i64 1)))⟩,
  ⟨some 25,none,.mv (.t 53)⟩] (some [0,7,8,9,23,24,25]))
def d_q028_k2 (C : Hd) (gl : Nat → Option PV) (v0 v7 v8 v9 v23 v24 v25 : AV) (h : Heap) (x : Esc) (K : Ex → St → Prop) : Prop:=
 pK (oBin .add v25 (.p (.int .i64 1))) fun t1=>
 K .normal ⟨[(0,v0),(7,v7),(8,v8),(9,v9),(23,v23),(24,v24),(25,t1)],h,x⟩
theorem e_q028_k2 {C gl e h x K} : NW C gl p_q028_k2 ⟨e,h,x⟩ K = d_q028_k2 C gl (aget e 0) (aget e 7) (aget e 8) (aget e 9) (aget e 23) (aget e 24) (aget e 25) h x K:=by kernel_rfl
def P_q028_k3 (q1 q2 : ACode) : ACode:=.pr [0,7,8,9,23,24,25] (.seq (.reg [
  ⟨some 26,none,.bin .lss (.t 25) (.t 24)⟩] (some [0,7,8,9,23,24,25,26]))
 (.seq (.cond (.t 26) .skip
 (.exit 0))
 (.seq (.block 1 (.seq (.reg [
  ⟨some 27,none,.iaddr (some 4) (.t 23) (.t 25)⟩,
  ⟨some 28,none,.load (some 4) (.t 27)⟩,
  ⟨some 11,none,.alloc [.p (.str []),.p (.int .i64 0),.p (.str []),.sl0 none]⟩,
  ⟨none,none,.store (some 4) (.t 11) (.t 28)⟩] (some [0,7,8,9,11,23,24,25]))
 (.seq (.seq (.reg [
  ⟨some 29,none,.mv (.t 8)⟩,
  ⟨some 30,none,.faddr 2 none (.t 11)⟩,
  ⟨some 31,none,.load none (.t 30)⟩,
  ⟨some 32,none,.look (none,[2]) false (.p (.int .i64 0)) (.t 29) (.t 31)⟩,
  ⟨some 33,none,.bin .eql (.t 32) (.c (.p (.int .i64 0)))⟩] (some [0,7,8,9,11,23,24,25,33]))
 (.cond (.t 33) (.reg [
  ⟨some 34,none,.mv (.t 9)⟩,
  ⟨some 35,none,.faddr 2 none (.t 11)⟩,
  ⟨some 36,none,.load none (.t 35)⟩,
  ⟨some 37,none,.bsl false none 1 (.str []) [(0,(.t 36))]⟩,
  ⟨some 38,none,.app none (.t 34) (.t 37)⟩,
  ⟨some 9,none,.mv (.t 38)⟩] (some [0,7,8,9,11,23,24,25]))
 .skip))
 q1)))
 q2)))
def p_q028_k3 : ACode:=P_q028_k3 p_q028_k1 p_q028_k2
def d_q028_k3 (C : Hd) (gl : Nat → Option PV) (q1 q2 : ACode) (v0 v7 v8 v9 v23 v24 v25 : AV) (h : Heap) (x : Esc) (K : Ex → St → Prop) : Prop:=
 pK (oBin .lss v25 v24) fun t1=>
 condB t1 (pK (oIaddr (some 4) v23 v25 h) fun t2=>
 pK (oLoad (some 4) t2 h) fun t3=>
 alK [.p (.str []),.p (.int .i64 0),.p (.str []),.sl0 none] h fun t4 h5 y6=>
 wK (oStore (some 4) t4 t3 h5) fun t7 h8 y9=>
 pK (oFaddr 2 none t4) fun t10=>
 pK (oLoad none t10 h8) fun t11=>
 pK (oLook (none,[2]) false (.p (.int .i64 0)) v8 t11 h8) fun t12=>
 pK (oBin .eql t12 (.p (.int .i64 0))) fun t13=>
 condB t13 (pK (oFaddr 2 none t4) fun t14=>
 pK (oLoad none t14 h8) fun t15=>
 wK (oBsl false none 1 (.str []) [(0,t15)] h8) fun t16 h17 y18=>
 wK (oApp none v9 t16 h17) fun t19 h20 y21=>
 NW C gl q1 ⟨[(0,v0),(7,v7),(8,v8),(9,t19),(11,t4),(23,v23),(24,v24),(25,v25)],h20,(y21 ++ (y18 ++ (y9 ++ (y6 ++ x))))⟩ (blockN 1 (seqN C gl q2 K)))
 (NW C gl q1 ⟨[(0,v0),(7,v7),(8,v8),(9,v9),(11,t4),(23,v23),(24,v24),(25,v25),(33,t13)],h8,(y9 ++ (y6 ++ x))⟩ (blockN 1 (seqN C gl q2 K))))
 (K (.exit 0) ⟨[(0,v0),(7,v7),(8,v8),(9,v9),(23,v23),(24,v24),(25,v25),(26,t1)],h,x⟩)
theorem E_q028_k3 {C gl q1 q2 e h x K} : NW C gl (P_q028_k3 q1 q2) ⟨e,h,x⟩ K = d_q028_k3 C gl q1 q2 (aget e 0) (aget e 7) (aget e 8) (aget e 9) (aget e 23) (aget e 24) (aget e 25) h x K:=by kernel_rfl
theorem e_q028_k3 {C gl e h x K} : NW C gl p_q028_k3 ⟨e,h,x⟩ K = d_q028_k3 C gl p_q028_k1 p_q028_k2 (aget e 0) (aget e 7) (aget e 8) (aget e 9) (aget e 23) (aget e 24) (aget e 25) h x K:=E_q028_k3
theorem l_q028_k3 {C gl e h x K} : NW C gl (.loop (.scope p_q028_k3)) ⟨e,h,x⟩ K = NLoop C gl (.scope p_q028_k3) K [(0,aget e 0),(7,aget e 7),(8,aget e 8),(9,aget e 9),(23,aget e 23),(24,aget e 24),(25,aget e 25)] h x:=NLoop_sc
def p_q028_k4 : ACode:=.pr [7,8,12,56,57,58] (.seq (.reg [
  ⟨some 59,none,.bin .lss (.t 58) (.t 57)⟩] (some [7,8,12,56,57,58,59]))
 (.seq (.cond (.t 59) .skip
 (.exit 2))
 (.seq (.block 3 (.seq (.reg [
  ⟨some 60,none,.iaddr none (.t 56) (.t 58)⟩,
  ⟨some 61,none,.load none (.t 60)⟩,
  ⟨some 14,none,.mv (.t 61)⟩] (some [7,8,12,14,56,57,58]))
 (.draw [
   ⟨⟨some 62,none,.mv (.t 12)⟩,[12],false,[],[]⟩,
   ⟨⟨some 63,none,.mv (.t 14)⟩,[14],false,[],[]⟩,
   ⟨⟨some 64,none,.mv (.t 7)⟩,[7],false,[],[]⟩,
   ⟨⟨some 65,none,.mv (.t 14)⟩,[14],false,[],[]⟩,
   ⟨⟨some 66,none,.look (none,[2]) false (.p (.int .i64 0)) (.t 64) (.t 65)⟩,[64,65],false,[],[]⟩,
   ⟨⟨some 67,none,.call f_q08p [(.t 66)]⟩,[66],true,[],[]⟩,
   ⟨⟨some 68,none,.bin .add (.t 67) (.c (.p (.str [47])))⟩,[67],false,[],[]⟩,
   ⟨⟨some 69,none,.mv (.t 8)⟩,[8],false,[],[]⟩,
   ⟨⟨some 70,none,.mv (.t 14)⟩,[14],false,[],[]⟩,
   ⟨⟨some 71,none,.look (none,[2]) false (.p (.int .i64 0)) (.t 69) (.t 70)⟩,[69,70],false,[5],[]⟩,
   ⟨⟨some 72,none,.call f_q08p [(.t 71)]⟩,[71],true,[],[]⟩,
   ⟨⟨some 73,none,.bin .add (.t 68) (.t 72)⟩,[68,72],false,[],[]⟩,
   ⟨⟨some 74,none,.build [.p (.str []),.p (.str [])] [(0,1,(.t 63)),(1,1,(.t 73))]⟩,[63,73],false,[],[]⟩,
   ⟨⟨some 75,none,.bsl false (some 2) 1 (.agg [.str [],.str []]) [(0,(.t 74))]⟩,[74],false,[],[]⟩,
   ⟨⟨some 76,none,.app (some 2) (.t 62) (.t 75)⟩,[62,75],true,[],[]⟩,
   ⟨⟨some 12,none,.mv (.t 76)⟩,[76],false,[],[]⟩] (some [7,8,12,56,57,58]))))
 (.reg [
  ⟨some 77,none,.bin .add (.t 58) (.c (.p (.int .i64 1)))⟩,
  ⟨some 58,none,.mv (.t 77)⟩] (some [7,8,12,56,57,58])))))
def d_q028_k4 (C : Hd) (gl : Nat → Option PV) (v7 v8 v12 v56 v57 v58 : AV) (h : Heap) (x : Esc) (K : Ex → St → Prop) : Prop:=
 pK (oBin .lss v58 v57) fun t1=>
 condB t1 (pK (oIaddr none v56 v58 h) fun t2=>
 pK (oLoad none t2 h) fun t3=>
 pK (oLook (none,[2]) false (.p (.int .i64 0)) v7 t3 h) fun t4=>
 callE C f_q08p [t4] h fun t5 h6 y7=>
 pK (oBin .add t5 (.p (.str [47]))) fun t8=>
 pK (oLook (none,[2]) false (.p (.int .i64 0)) v8 t3 h6) fun t9=>
 (pK (oLook (none,[2]) false (.p (.int .i64 0)) v8 t3 h) fun v=>(fun u (g1 : Heap) (y1 : Esc)=>u = t9 ∧ g1 = h ∧ y1 = []) v h []) ∧ (callE C f_q08p [t9] h6 fun t10 h11 y12=>
 pK (oBin .add t8 t10) fun t13=>
 pK (oBuild [.p (.str []),.p (.str [])] [(0,1,t3),(1,1,t13)]) fun t14=>
 wK (oBsl false (some 2) 1 (.agg [.str [],.str []]) [(0,t14)] h11) fun t15 h16 y17=>
 (h16 = h11 ∧ y17 = []) ∧ (wK (oApp (some 2) v12 t15 h16) fun t18 h19 y20=>
 pK (oBin .add v58 (.p (.int .i64 1))) fun t21=>
 K .normal ⟨[(7,v7),(8,v8),(12,t18),(56,v56),(57,v57),(58,t21)],h19,(y20 ++ (y17 ++ (y12 ++ (y7 ++ x))))⟩)))
 (K (.exit 2) ⟨[(7,v7),(8,v8),(12,v12),(56,v56),(57,v57),(58,v58),(59,t1)],h,x⟩)
theorem e_q028_k4 {C gl e h x K} : NW C gl p_q028_k4 ⟨e,h,x⟩ K = d_q028_k4 C gl (aget e 7) (aget e 8) (aget e 12) (aget e 56) (aget e 57) (aget e 58) h x K:=by kernel_rfl
theorem l_q028_k4 {C gl e h x K} : NW C gl (.loop (.scope p_q028_k4)) ⟨e,h,x⟩ K = NLoop C gl (.scope p_q028_k4) K [(7,aget e 7),(8,aget e 8),(12,aget e 12),(56,aget e 56),(57,aget e 57),(58,aget e 58)] h x:=NLoop_sc
def p_q028_k5 : ACode:=.pr [12] (.seq (.reg [
  ⟨some 78,none,.mv (.t 12)⟩,
  ⟨some 4,none,.mv (.t 78)⟩,
  ⟨some 5,none,.mv (.c (.p (.int .i64 0)))⟩] (some [4,5]))
 .ret)
def d_q028_k5 (C : Hd) (gl : Nat → Option PV) (v12 : AV) (h : Heap) (x : Esc) (K : Ex → St → Prop) : Prop:=
 K .ret ⟨[(4,v12),(5,(.p (.int .i64 0)))],h,x⟩
theorem e_q028_k5 {C gl e h x K} : NW C gl p_q028_k5 ⟨e,h,x⟩ K = d_q028_k5 C gl (aget e 12) h x K:=by kernel_rfl
def P_q028_k6 (q4 q5 : ACode) : ACode:=.pr [7,8,9] (.seq (.reg [
  ⟨some 54,none,.mv (.t 9)⟩,
  ⟨some 55,none,.call f_q06r [(.t 54)]⟩] (some [7,8,9]))
 (.seq (.reg [
  ⟨some 12,none,.new0 (some 2)⟩] (some [7,8,9,12]))
 (.seq (.seq (.reg [
  ⟨some 56,none,.mv (.t 9)⟩,
  ⟨some 57,none,.len (.t 56)⟩,
  ⟨some 58,none,.mv (.c (.p (.int .i64 0)))⟩] (some [7,8,12,56,57,58]))
 (.block 2 (.loop (.scope q4))))
 q5)))
def p_q028_k6 : ACode:=P_q028_k6 p_q028_k4 p_q028_k5
def d_q028_k6 (C : Hd) (gl : Nat → Option PV) (q4 q5 : ACode) (v7 v8 v9 : AV) (h : Heap) (x : Esc) (K : Ex → St → Prop) : Prop:=
 C f_q06r [v9] h fun t1 h2 y3=>
 nwK (some 2) h2 fun t4 h5 y6=>
 pK (oLen v9) fun t7=>
 NW C gl (.loop (.scope q4)) ⟨[(7,v7),(8,v8),(12,t4),(56,v9),(57,t7),(58,(.p (.int .i64 0)))],h5,(y6 ++ (y3 ++ x))⟩ (blockN 2 (seqN C gl q5 K))
theorem E_q028_k6 {C gl q4 q5 e h x K} : NW C gl (P_q028_k6 q4 q5) ⟨e,h,x⟩ K = d_q028_k6 C gl q4 q5 (aget e 7) (aget e 8) (aget e 9) h x K:=by kernel_rfl
theorem e_q028_k6 {C gl e h x K} : NW C gl p_q028_k6 ⟨e,h,x⟩ K = d_q028_k6 C gl p_q028_k4 p_q028_k5 (aget e 7) (aget e 8) (aget e 9) h x K:=E_q028_k6
def P_q028 (q3 q6 : ACode) : ACode:=(.seq (.reg [
  ⟨some 4,none,.mv (.c (.p (.sl (some 2) [])))⟩,
  ⟨some 5,none,.mv (.c (.p (.int .i64 0)))⟩] (some [0,1]))
 (.seq (.seq (.reg [
  ⟨some 15,none,.mv (.t 0)⟩,
  ⟨some 16,none,.mv (.t 1)⟩,
  ⟨some 17,none,.call f_q02b [(.t 15),(.t 16)]⟩,
  ⟨some 6,none,.mv (.t 17)⟩] (some [0,1,6]))
 (.seq (.reg [
  ⟨some 18,none,.mv (.t 6)⟩,
  ⟨some 19,none,.bin .neq (.t 18) (.c (.p (.int .i64 0)))⟩] (some [0,1,6,19]))
 (.cond (.t 19) (.seq (.reg [
  ⟨some 20,none,.mv (.t 6)⟩,
  ⟨some 4,none,.mv (.c (.p (.sl (some 2) [])))⟩,
  ⟨some 5,none,.mv (.t 20)⟩] (some [4,5]))
 .ret)
 .skip)))
 (.seq (.reg [
  ⟨some 21,none,.mkmap⟩,
  ⟨some 22,none,.mkmap⟩,
  ⟨some 7,none,.mv (.t 21)⟩,
  ⟨some 8,none,.mv (.t 22)⟩] (some [0,1,7,8]))
 (.seq (.reg [
  ⟨some 9,none,.new0 none⟩] (some [0,1,7,8,9]))
 (.seq (.seq (.reg [
  ⟨some 23,none,.mv (.t 1)⟩,
  ⟨some 24,none,.len (.t 23)⟩,
  ⟨some 25,none,.mv (.c (.p (.int .i64 0)))⟩] (some [0,7,8,9,23,24,25]))
 (.block 0 (.loop (.scope q3))))
 q6)))))
def a_q028 : AFun:=⟨2,[.t 4,.t 5],P_q028 p_q028_k3 p_q028_k6,false,false⟩
def d_q028 (C : Hd) (gl : Nat → Option PV) (q3 q6 : ACode) (v0 v1 : AV) (h : Heap) (x : Esc) (K : Ex → St → Prop) : Prop:=
 C f_q02b [v0,v1] h fun t1 h2 y3=>
 pK (oBin .neq t1 (.p (.int .i64 0))) fun t4=>
 condB t4 (K .ret ⟨[(4,(.p (.sl (some 2) []))),(5,t1)],h2,(y3 ++ x)⟩)
 (mmK h2 fun t5 h6 y7=>
 mmK h6 fun t8 h9 y10=>
 nwK none h9 fun t11 h12 y13=>
 pK (oLen v1) fun t14=>
 NW C gl (.loop (.scope q3)) ⟨[(0,v0),(7,t5),(8,t8),(9,t11),(23,v1),(24,t14),(25,(.p (.int .i64 0)))],h12,(y13 ++ (y10 ++ (y7 ++ (y3 ++ x))))⟩ (blockN 0 (seqN C gl q6 K)))
theorem E_q028 {C gl q3 q6 v0 v1 h x K} : NW C gl (P_q028 q3 q6) ⟨enter [v0,v1],h,x⟩ K = d_q028 C gl q3 q6 v0 v1 h x K:=by kernel_rfl
theorem e_q028 {C gl v0 v1 h x K} : NW C gl a_q028.body ⟨enter [v0,v1],h,x⟩ K = d_q028 C gl p_q028_k3 p_q028_k6 v0 v1 h x K:=E_q028
def p_q04a_k1 : ACode:=.pr [5,6,7] (.seq (.reg [
  ⟨some 8,none,.bin .lss (.t 7) (.t 6)⟩] (some [5,6,7,8]))
 (.seq (.cond (.t 8) .skip
 (.exit 0))
 (.seq (.block 1 (.seq (.reg [
  ⟨some 9,none,.iaddr none (.t 5) (.t 7)⟩,
  ⟨some 10,none,.load none (.t 9)⟩,
  ⟨some 4,none,.mv (.t 10)⟩] (some [4,5,6,7]))
 (.seq (.reg [
  ⟨some 11,none,.mv (.t 4)⟩,
  ⟨some 12,none,.bin .neq (.t 11) (.c (.p (.int .i64 0)))⟩] (some [4,5,6,7,12]))
 (.cond (.t 12) (.seq (.reg [
  ⟨some 13,none,.mv (.t 4)⟩,
  ⟨some 2,none,.mv (.t 13)⟩] (some [2]))
 .ret)
 .skip))))
 (.reg [
  ⟨some 14,none,.bin .add (.t 7) (.c (.p (.int .i64 1)))⟩,
  ⟨some 7,none,.mv (.t 14)⟩] (some [5,6,7])))))
def d_q04a_k1 (C : Hd) (gl : Nat → Option PV) (v5 v6 v7 : AV) (h : Heap) (x : Esc) (K : Ex → St → Prop) : Prop:=
 pK (oBin .lss v7 v6) fun t1=>
 condB t1 (pK (oIaddr none v5 v7 h) fun t2=>
 pK (oLoad none t2 h) fun t3=>
 pK (oBin .neq t3 (.p (.int .i64 0))) fun t4=>
 condB t4 (K .ret ⟨[(2,t3)],h,x⟩)
 (pK (oBin .add v7 (.p (.int .i64 1))) fun t5=>
 K .normal ⟨[(5,v5),(6,v6),(7,t5)],h,x⟩))
 (K (.exit 0) ⟨[(5,v5),(6,v6),(7,v7),(8,t1)],h,x⟩)
theorem e_q04a_k1 {C gl e h x K} : NW C gl p_q04a_k1 ⟨e,h,x⟩ K = d_q04a_k1 C gl (aget e 5) (aget e 6) (aget e 7) h x K:=by kernel_rfl
theorem l_q04a_k1 {C gl e h x K} : NW C gl (.loop p_q04a_k1) ⟨e,h,x⟩ K = NLoop C gl p_q04a_k1 K [(5,aget e 5),(6,aget e 6),(7,aget e 7)] h x:=NLoop_pr
def p_q04a_k2 : ACode:=.pr [] (.seq (.reg [
  ⟨some 2,none,.mv (.c (.p (.int .i64 0)))⟩] (some [2]))
 .ret)
def d_q04a_k2 (C : Hd) (gl : Nat → Option PV) (h : Heap) (x : Esc) (K : Ex → St → Prop) : Prop:=
 K .ret ⟨[(2,(.p (.int .i64 0)))],h,x⟩
theorem e_q04a_k2 {C gl e h x K} : NW C gl p_q04a_k2 ⟨e,h,x⟩ K = d_q04a_k2 C gl h x K:=by kernel_rfl
def P_q04a (q1 q2 : ACode) : ACode:=(.seq (.reg [
  ⟨some 2,none,.mv (.c (.p (.int .i64 0)))⟩] (some [0]))
 (.seq (.seq (.reg [
  ⟨some 5,none,.mv (.t 0)⟩,
  ⟨some 6,none,.len (.t 5)⟩,
  ⟨some 7,none,.mv (.c (.p (.int .i64 0)))⟩] (some [5,6,7]))
 (.block 0 (.loop q1)))
 q2))
def a_q04a : AFun:=⟨1,[.t 2],P_q04a p_q04a_k1 p_q04a_k2,false,false⟩
def d_q04a (C : Hd) (gl : Nat → Option PV) (q1 q2 : ACode) (v0 : AV) (h : Heap) (x : Esc) (K : Ex → St → Prop) : Prop:=
 pK (oLen v0) fun t1=>
 NW C gl (.loop q1) ⟨[(5,v0),(6,t1),(7,(.p (.int .i64 0)))],h,x⟩ (blockN 0 (seqN C gl q2 K))
theorem E_q04a {C gl q1 q2 v0 h x K} : NW C gl (P_q04a q1 q2) ⟨enter [v0],h,x⟩ K = d_q04a C gl q1 q2 v0 h x K:=by kernel_rfl
theorem e_q04a {C gl v0 h x K} : NW C gl a_q04a.body ⟨enter [v0],h,x⟩ K = d_q04a C gl p_q04a_k1 p_q04a_k2 v0 h x K:=E_q04a
def P_q059 : ACode:=(.seq (.reg [
  ⟨some 2,none,.mv (.c (.p (.int .i64 0)))⟩] (some [0]))
 (.seq (.seq (.reg [
  ⟨some 3,none,.mv (.t 0)⟩,
  ⟨some 4,none,.call f_q05l [(.t 3),(.c (.p (.int .i64 1))),(.c (.p (.int .i64 3)))]⟩,
  ⟨some 5,none,.un .not (.t 4)⟩] (some [5]))
 (.cond (.t 5) (.seq (.reg [
  ⟨some 2,none,.mv (.c (.p (.int .i64 4)))⟩] (some [2]))
 .ret)
 .skip))
 (.seq (.reg [
  ⟨some 2,none,.mv (.c (.p (.int .i64 0)))⟩] (some [2]))
 .ret)))
def a_q059 : AFun:=⟨1,[.t 2],P_q059,false,false⟩
def d_q059 (C : Hd) (gl : Nat → Option PV) (v0 : AV) (h : Heap) (x : Esc) (K : Ex → St → Prop) : Prop:=
 C f_q05l [v0,(.p (.int .i64 1)),(.p (.int .i64 3))] h fun t1 h2 y3=>
 pK (oUn .not t1) fun t4=>
 condB t4 (K .ret ⟨[(2,(.p (.int .i64 4)))],h2,(y3 ++ x)⟩)
 (K .ret ⟨[(2,(.p (.int .i64 0)))],h2,(y3 ++ x)⟩)
theorem E_q059 {C gl v0 h x K} : NW C gl (P_q059) ⟨enter [v0],h,x⟩ K = d_q059 C gl v0 h x K:=by kernel_rfl
theorem e_q059 {C gl v0 h x K} : NW C gl a_q059.body ⟨enter [v0],h,x⟩ K = d_q059 C gl v0 h x K:=E_q059
def p_q04r_k1 : ACode:=.pr [0,1,2,7,8,9,19,20,21] (.reg [
  ⟨some 32,none,.bin .add (.t 21) (.c (.p (.int .i64 1)))⟩,
  ⟨some 21,none,.mv (.t 32)⟩] (some [0,1,2,7,8,9,19,20,21]))
def d_q04r_k1 (C : Hd) (gl : Nat → Option PV) (v0 v1 v2 v7 v8 v9 v19 v20 v21 : AV) (h : Heap) (x : Esc) (K : Ex → St → Prop) : Prop:=
 pK (oBin .add v21 (.p (.int .i64 1))) fun t1=>
 K .normal ⟨[(0,v0),(1,v1),(2,v2),(7,v7),(8,v8),(9,v9),(19,v19),(20,v20),(21,t1)],h,x⟩
theorem e_q04r_k1 {C gl e h x K} : NW C gl p_q04r_k1 ⟨e,h,x⟩ K = d_q04r_k1 C gl (aget e 0) (aget e 1) (aget e 2) (aget e 7) (aget e 8) (aget e 9) (aget e 19) (aget e 20) (aget e 21) h x K:=by kernel_rfl
def P_q04r_k2 (q1 : ACode) : ACode:=.pr [0,1,2,7,8,9,19,20,21] (.seq (.reg [
  ⟨some 22,none,.bin .lss (.t 21) (.t 20)⟩] (some [0,1,2,7,8,9,19,20,21,22]))
 (.seq (.cond (.t 22) .skip
 (.exit 2))
 (.seq (.block 3 (.seq (.reg [
  ⟨some 23,none,.iaddr (some 2) (.t 19) (.t 21)⟩,
  ⟨some 24,none,.load (some 2) (.t 23)⟩,
  ⟨some 11,none,.alloc [.p (.str []),.p (.str [])]⟩,
  ⟨none,none,.store (some 2) (.t 11) (.t 24)⟩] (some [0,1,2,7,8,9,11,19,20,21]))
 (.seq (.draw [
   ⟨⟨some 25,none,.faddr 1 none (.t 11)⟩,[11],false,[],[]⟩,
   ⟨⟨some 26,none,.load none (.t 25)⟩,[25],false,[],[]⟩,
   ⟨⟨some 27,none,.mv (.t 8)⟩,[8],false,[],[]⟩,
   ⟨⟨some 28,none,.call f_q08p [(.t 27)]⟩,[27],true,[],[1]⟩,
   ⟨⟨some 29,none,.bin .eql (.t 26) (.t 28)⟩,[26,28],false,[],[]⟩] (some [0,1,2,7,8,9,19,20,21,29]))
 (.cond (.t 29) (.reg [
  ⟨some 30,none,.mv (.t 9)⟩,
  ⟨some 31,none,.bin .add (.t 30) (.c (.p (.int .i64 1)))⟩,
  ⟨some 9,none,.mv (.t 31)⟩] (some [0,1,2,7,8,9,19,20,21]))
 .skip))))
 q1)))
def p_q04r_k2 : ACode:=P_q04r_k2 p_q04r_k1
def d_q04r_k2 (C : Hd) (gl : Nat → Option PV) (q1 : ACode) (v0 v1 v2 v7 v8 v9 v19 v20 v21 : AV) (h : Heap) (x : Esc) (K : Ex → St → Prop) : Prop:=
 pK (oBin .lss v21 v20) fun t1=>
 condB t1 (pK (oIaddr (some 2) v19 v21 h) fun t2=>
 pK (oLoad (some 2) t2 h) fun t3=>
 alK [.p (.str []),.p (.str [])] h fun t4 h5 y6=>
 wK (oStore (some 2) t4 t3 h5) fun t7 h8 y9=>
 pK (oFaddr 1 none t4) fun t10=>
 pK (oLoad none t10 h8) fun t11=>
 callE C f_q08p [v8] h8 fun t12 h13 y14=>
 (pK (oLoad none t10 h13) fun v=>(fun u (g1 : Heap) (y1 : Esc)=>u = t11 ∧ g1 = h13 ∧ y1 = []) v h13 []) ∧ (pK (oBin .eql t11 t12) fun t15=>
 condB t15 (pK (oBin .add v9 (.p (.int .i64 1))) fun t16=>
 NW C gl q1 ⟨[(0,v0),(1,v1),(2,v2),(7,v7),(8,v8),(9,t16),(19,v19),(20,v20),(21,v21)],h13,(y14 ++ (y9 ++ (y6 ++ x)))⟩ K)
 (NW C gl q1 ⟨[(0,v0),(1,v1),(2,v2),(7,v7),(8,v8),(9,v9),(19,v19),(20,v20),(21,v21),(29,t15)],h13,(y14 ++ (y9 ++ (y6 ++ x)))⟩ K)))
 (K (.exit 2) ⟨[(0,v0),(1,v1),(2,v2),(7,v7),(8,v8),(9,v9),(19,v19),(20,v20),(21,v21),(22,t1)],h,x⟩)
theorem E_q04r_k2 {C gl q1 e h x K} : NW C gl (P_q04r_k2 q1) ⟨e,h,x⟩ K = d_q04r_k2 C gl q1 (aget e 0) (aget e 1) (aget e 2) (aget e 7) (aget e 8) (aget e 9) (aget e 19) (aget e 20) (aget e 21) h x K:=by kernel_rfl
theorem e_q04r_k2 {C gl e h x K} : NW C gl p_q04r_k2 ⟨e,h,x⟩ K = d_q04r_k2 C gl p_q04r_k1 (aget e 0) (aget e 1) (aget e 2) (aget e 7) (aget e 8) (aget e 9) (aget e 19) (aget e 20) (aget e 21) h x K:=E_q04r_k2
theorem l_q04r_k2 {C gl e h x K} : NW C gl (.loop (.scope p_q04r_k2)) ⟨e,h,x⟩ K = NLoop C gl (.scope p_q04r_k2) K [(0,aget e 0),(1,aget e 1),(2,aget e 2),(7,aget e 7),(8,aget e 8),(9,aget e 9),(19,aget e 19),(20,aget e 20),(21,aget e 21)] h x:=NLoop_sc
def p_q04r_k3 : ACode:=.pr [0,1,2,7,8,9] (.seq (.reg [
  ⟨some 33,none,.mv (.t 9)⟩,
  ⟨some 34,none,.bin .gtr (.t 33) (.c (.p (.int .i64 0)))⟩] (some [0,1,2,7,8,9,34]))
 (.cond (.t 34) (.reg [
  ⟨some 35,none,.mv (.t 7)⟩,
  ⟨some 36,none,.mv (.t 8)⟩,
  ⟨some 37,none,.call f_q08p [(.t 36)]⟩,
  ⟨some 38,none,.mv (.t 9)⟩,
  ⟨some 39,none,.call f_q08p [(.t 38)]⟩,
  ⟨some 40,none,.build [.p (.str []),.p (.str [])] [(0,1,(.t 37)),(1,1,(.t 39))]⟩,
  ⟨some 41,none,.bsl false (some 2) 1 (.agg [.str [],.str []]) [(0,(.t 40))]⟩,
  ⟨some 42,none,.app (some 2) (.t 35) (.t 41)⟩,
  ⟨some 7,none,.mv (.t 42)⟩] (some [0,1,2,7,8]))
 .skip))
def d_q04r_k3 (C : Hd) (gl : Nat → Option PV) (v0 v1 v2 v7 v8 v9 : AV) (h : Heap) (x : Esc) (K : Ex → St → Prop) : Prop:=
 pK (oBin .gtr v9 (.p (.int .i64 0))) fun t1=>
 condB t1 (C f_q08p [v8] h fun t2 h3 y4=>
 C f_q08p [v9] h3 fun t5 h6 y7=>
 pK (oBuild [.p (.str []),.p (.str [])] [(0,1,t2),(1,1,t5)]) fun t8=>
 wK (oBsl false (some 2) 1 (.agg [.str [],.str []]) [(0,t8)] h6) fun t9 h10 y11=>
 wK (oApp (some 2) v7 t9 h10) fun t12 h13 y14=>
 K .normal ⟨[(0,v0),(1,v1),(2,v2),(7,t12),(8,v8)],h13,(y14 ++ (y11 ++ (y7 ++ (y4 ++ x))))⟩)
 (K .normal ⟨[(0,v0),(1,v1),(2,v2),(7,v7),(8,v8),(9,v9),(34,t1)],h,x⟩)
theorem e_q04r_k3 {C gl e h x K} : NW C gl p_q04r_k3 ⟨e,h,x⟩ K = d_q04r_k3 C gl (aget e 0) (aget e 1) (aget e 2) (aget e 7) (aget e 8) (aget e 9) h x K:=by kernel_rfl
def p_q04r_k4 : ACode:=.pr [0,1,2,7,8] (.reg [
  ⟨some 14,none,.mv (.t 8)⟩,
  ⟨some 15,none,.bin .add (.t 14) (.c (.p (.int .i64 1)))⟩,
  ⟨some 8,none,.mv (.t 15)⟩] (some [0,1,2,7,8]))
def d_q04r_k4 (C : Hd) (gl : Nat → Option PV) (v0 v1 v2 v7 v8 : AV) (h : Heap) (x : Esc) (K : Ex → St → Prop) : Prop:=
 pK (oBin .add v8 (.p (.int .i64 1))) fun t1=>
 K .normal ⟨[(0,v0),(1,v1),(2,v2),(7,v7),(8,t1)],h,x⟩
theorem e_q04r_k4 {C gl e h x K} : NW C gl p_q04r_k4 ⟨e,h,x⟩ K = d_q04r_k4 C gl (aget e 0) (aget e 1) (aget e 2) (aget e 7) (aget e 8) h x K:=by kernel_rfl
def P_q04r_k5 (q2 q3 q4 : ACode) : ACode:=.pr [0,1,2,7,8] (.seq (.seq (.reg [
  ⟨some 12,none,.mv (.t 8)⟩,
  ⟨some 13,none,.bin .leq (.t 12) (.c (.p (.int .i64 100)))⟩] (some [0,1,2,7,8,13]))
 (.cond (.t 13) .skip
 (.exit 0)))
 (.seq (.block 1 (.seq (.reg [
  ⟨some 9,none,.mv (.c (.p (.int .i64 0)))⟩] (some [0,1,2,7,8,9]))
 (.seq (.seq (.reg [
  ⟨some 16,none,.mv (.t 0)⟩,
  ⟨some 17,none,.mv (.t 1)⟩,
  ⟨some 18,none,.mv (.t 2)⟩,
  ⟨some 19,none,.call f_q04t [(.t 16),(.t 17),(.t 18)]⟩,
  ⟨some 20,none,.len (.t 19)⟩,
  ⟨some 21,none,.mv (.c (.p (.int .i64 0)))⟩] (some [0,1,2,7,8,9,19,20,21]))
 (.block 2 (.loop (.scope q2))))
 q3)))
 q4))
def p_q04r_k5 : ACode:=P_q04r_k5 p_q04r_k2 p_q04r_k3 p_q04r_k4
def d_q04r_k5 (C : Hd) (gl : Nat → Option PV) (q2 q3 q4 : ACode) (v0 v1 v2 v7 v8 : AV) (h : Heap) (x : Esc) (K : Ex → St → Prop) : Prop:=
 pK (oBin .leq v8 (.p (.int .i64 100))) fun t1=>
 condB t1 (C f_q04t [v0,v1,v2] h fun t2 h3 y4=>
 pK (oLen t2) fun t5=>
 NW C gl (.loop (.scope q2)) ⟨[(0,v0),(1,v1),(2,v2),(7,v7),(8,v8),(9,(.p (.int .i64 0))),(19,t2),(20,t5),(21,(.p (.int .i64 0)))],h3,(y4 ++ x)⟩ (blockN 2 (seqN C gl q3 (blockN 1 (seqN C gl q4 K)))))
 (K (.exit 0) ⟨[(0,v0),(1,v1),(2,v2),(7,v7),(8,v8),(13,t1)],h,x⟩)
theorem E_q04r_k5 {C gl q2 q3 q4 e h x K} : NW C gl (P_q04r_k5 q2 q3 q4) ⟨e,h,x⟩ K = d_q04r_k5 C gl q2 q3 q4 (aget e 0) (aget e 1) (aget e 2) (aget e 7) (aget e 8) h x K:=by kernel_rfl
theorem e_q04r_k5 {C gl e h x K} : NW C gl p_q04r_k5 ⟨e,h,x⟩ K = d_q04r_k5 C gl p_q04r_k2 p_q04r_k3 p_q04r_k4 (aget e 0) (aget e 1) (aget e 2) (aget e 7) (aget e 8) h x K:=E_q04r_k5
theorem l_q04r_k5 {C gl e h x K} : NW C gl (.loop (.scope p_q04r_k5)) ⟨e,h,x⟩ K = NLoop C gl (.scope p_q04r_k5) K [(0,aget e 0),(1,aget e 1),(2,aget e 2),(7,aget e 7),(8,aget e 8)] h x:=NLoop_sc
def p_q04r_k6 : ACode:=.pr [7] (.seq (.reg [
  ⟨some 43,none,.mv (.t 7)⟩,
  ⟨some 6,none,.mv (.t 43)⟩] (some [6]))
 .ret)
def d_q04r_k6 (C : Hd) (gl : Nat → Option PV) (v7 : AV) (h : Heap) (x : Esc) (K : Ex → St → Prop) : Prop:=
 K .ret ⟨[(6,v7)],h,x⟩
theorem e_q04r_k6 {C gl e h x K} : NW C gl p_q04r_k6 ⟨e,h,x⟩ K = d_q04r_k6 C gl (aget e 7) h x K:=by kernel_rfl
def P_q04r (q5 q6 : ACode) : ACode:=(.seq (.reg [
  ⟨some 6,none,.mv (.c (.p (.sl (some 2) [])))⟩] (some [0,1,2]))
 (.seq (.reg [
  ⟨some 7,none,.new0 (some 2)⟩] (some [0,1,2,7]))
 (.seq (.seq (.reg [
  ⟨some 8,none,.mv (.c (.p (.int .i64 1)))⟩] (some [0,1,2,7,8]))
 (.block 0 (.loop (.scope q5))))
 q6)))
def a_q04r : AFun:=⟨3,[.t 6],P_q04r p_q04r_k5 p_q04r_k6,false,false⟩
def d_q04r (C : Hd) (gl : Nat → Option PV) (q5 q6 : ACode) (v0 v1 v2 : AV) (h : Heap) (x : Esc) (K : Ex → St → Prop) : Prop:=
 nwK (some 2) h fun t1 h2 y3=>
 NW C gl (.loop (.scope q5)) ⟨[(0,v0),(1,v1),(2,v2),(7,t1),(8,(.p (.int .i64 1)))],h2,(y3 ++ x)⟩ (blockN 0 (seqN C gl q6 K))
theorem E_q04r {C gl q5 q6 v0 v1 v2 h x K} : NW C gl (P_q04r q5 q6) ⟨enter [v0,v1,v2],h,x⟩ K = d_q04r C gl q5 q6 v0 v1 v2 h x K:=by kernel_rfl
theorem e_q04r {C gl v0 v1 v2 h x K} : NW C gl a_q04r.body ⟨enter [v0,v1,v2],h,x⟩ K = d_q04r C gl p_q04r_k5 p_q04r_k6 v0 v1 v2 h x K:=E_q04r
def p_q052_k1 : ACode:=.pr [0,1,2,7,20,21,22] (.reg [
  ⟨some 44,none,.bin .add (.t 22) (.c (.p (.int .i64 1)))⟩,
  ⟨some 22,none,.mv (.t 44)⟩] (some [0,1,2,7,20,21,22]))
def d_q052_k1 (C : Hd) (gl : Nat → Option PV) (v0 v1 v2 v7 v20 v21 v22 : AV) (h : Heap) (x : Esc) (K : Ex → St → Prop) : Prop:=
 pK (oBin .add v22 (.p (.int .i64 1))) fun t1=>
 K .normal ⟨[(0,v0),(1,v1),(2,v2),(7,v7),(20,v20),(21,v21),(22,t1)],h,x⟩
theorem e_q052_k1 {C gl e h x K} : NW C gl p_q052_k1 ⟨e,h,x⟩ K = d_q052_k1 C gl (aget e 0) (aget e 1) (aget e 2) (aget e 7) (aget e 20) (aget e 21) (aget e 22) h x K:=by kernel_rfl
def P_q052_k2 (q1 : ACode) : ACode:=.pr [0,1,2,7,20,21,22] (.seq (.reg [
  ⟨some 23,none,.bin .lss (.t 22) (.t 21)⟩] (some [0,1,2,7,20,21,22,23]))
 (.seq (.cond (.t 23) .skip
 (.exit 0))
 (.seq (.block 1 (.seq (.reg [
  ⟨some 24,none,.iaddr none (.t 20) (.t 22)⟩,
  ⟨some 25,none,.load none (.t 24)⟩,
  ⟨some 9,none,.mv (.t 25)⟩] (some [0,1,2,7,9,20,21,22]))
 (.seq (.reg [
  ⟨some 27,none,.mv (.t 0)⟩,
  ⟨some 28,none,.mv (.t 0)⟩,
  ⟨some 29,none,.mv (.t 1)⟩,
  ⟨some 30,none,.mv (.t 9)⟩,
  ⟨some 31,none,.mv (.t 2)⟩,
  ⟨some 32,none,.call f_q05g [(.t 28),(.t 29),(.t 30),(.t 31)]⟩,
  ⟨some 33,none,.call f_q04q [(.t 27),(.t 32)]⟩,
  ⟨some 26,none,.mv (.t 33)⟩,
  ⟨some 34,none,.ext (.t 26) 0⟩,
  ⟨some 35,none,.ext (.t 26) 1⟩,
  ⟨some 10,none,.mv (.t 34)⟩,
  ⟨some 11,none,.mv (.t 35)⟩] (some [0,1,2,7,11,20,21,22]))
 (.seq (.reg [
  ⟨some 36,none,.mv (.t 11)⟩,
  ⟨some 37,none,.bin .geq (.t 36) (.c (.p (.int .i64 0)))⟩] (some [0,1,2,7,11,20,21,22,37]))
 (.cond (.t 37) (.reg [
  ⟨some 38,none,.mv (.t 7)⟩,
  ⟨some 39,none,.mv (.t 11)⟩,
  ⟨some 40,none,.iaddr none (.t 38) (.t 39)⟩,
  ⟨some 41,none,.load none (.t 40)⟩,
  ⟨some 42,none,.bin .add (.t 41) (.c (.p (.int .i64 1)))⟩,
  ⟨some 43,none,.iaddr none (.t 38) (.t 39)⟩,
  ⟨none,none,.store none (.t 43) (.t 42)⟩] (some [0,1,2,7,20,21,22]))
 .skip)))))
 q1)))
def p_q052_k2 : ACode:=P_q052_k2 p_q052_k1
def d_q052_k2 (C : Hd) (gl : Nat → Option PV) (q1 : ACode) (v0 v1 v2 v7 v20 v21 v22 : AV) (h : Heap) (x : Esc) (K : Ex → St → Prop) : Prop:=
 pK (oBin .lss v22 v21) fun t1=>
 condB t1 (pK (oIaddr none v20 v22 h) fun t2=>
 pK (oLoad none t2 h) fun t3=>
 C f_q05g [v0,v1,t3,v2] h fun t4 h5 y6=>
 C f_q04q [v0,t4] h5 fun t7 h8 y9=>
 pK (oExt t7 0) fun t10=>
 pK (oExt t7 1) fun t11=>
 pK (oBin .geq t11 (.p (.int .i64 0))) fun t12=>
 condB t12 (pK (oIaddr none v7 t11 h8) fun t13=>
 pK (oLoad none t13 h8) fun t14=>
 pK (oBin .add t14 (.p (.int .i64 1))) fun t15=>
 pK (oIaddr none v7 t11 h8) fun t16=>
 wK (oStore none t16 t15 h8) fun t17 h18 y19=>
 NW C gl q1 ⟨[(0,v0),(1,v1),(2,v2),(7,v7),(20,v20),(21,v21),(22,v22)],h18,(y19 ++ (y9 ++ (y6 ++ x)))⟩ K)
 (NW C gl q1 ⟨[(0,v0),(1,v1),(2,v2),(7,v7),(11,t11),(20,v20),(21,v21),(22,v22),(37,t12)],h8,(y9 ++ (y6 ++ x))⟩ K))
 (K (.exit 0) ⟨[(0,v0),(1,v1),(2,v2),(7,v7),(20,v20),(21,v21),(22,v22),(23,t1)],h,x⟩)
theorem E_q052_k2 {C gl q1 e h x K} : NW C gl (P_q052_k2 q1) ⟨e,h,x⟩ K = d_q052_k2 C gl q1 (aget e 0) (aget e 1) (aget e 2) (aget e 7) (aget e 20) (aget e 21) (aget e 22) h x K:=by kernel_rfl
theorem e_q052_k2 {C gl e h x K} : NW C gl p_q052_k2 ⟨e,h,x⟩ K = d_q052_k2 C gl p_q052_k1 (aget e 0) (aget e 1) (aget e 2) (aget e 7) (aget e 20) (aget e 21) (aget e 22) h x K:=E_q052_k2
theorem l_q052_k2 {C gl e h x K} : NW C gl (.loop p_q052_k2) ⟨e,h,x⟩ K = NLoop C gl p_q052_k2 K [(0,aget e 0),(1,aget e 1),(2,aget e 2),(7,aget e 7),(20,aget e 20),(21,aget e 21),(22,aget e 22)] h x:=NLoop_pr
def p_q052_k3 : ACode:=.pr [0,7,12,13,51,52,53] (.reg [
  ⟨some 72,none,.bin .add (.t 53) (.c (.p (.int .i64 1)))⟩,
  ⟨some 53,none,.mv (.t 72)⟩] (some [0,7,12,13,51,52,53]))
def d_q052_k3 (C : Hd) (gl : Nat → Option PV) (v0 v7 v12 v13 v51 v52 v53 : AV) (h : Heap) (x : Esc) (K : Ex → St → Prop) : Prop:=
 pK (oBin .add v53 (.p (.int .i64 1))) fun t1=>
 K .normal ⟨[(0,v0),(7,v7),(12,v12),(13,v13),(51,v51),(52,v52),(53,t1)],h,x⟩
theorem e_q052_k3 {C gl e h x K} : NW C gl p_q052_k3 ⟨e,h,x⟩ K = d_q052_k3 C gl (aget e 0) (aget e 7) (aget e 12) (aget e 13) (aget e 51) (aget e 52) (aget e 53) h x K:=by kernel_rfl
def P_q052_k4 (q3 : ACode) : ACode:=.pr [0,7,12,13,51,52,53] (.seq (.reg [
  ⟨some 54,none,.bin .lss (.t 53) (.t 52)⟩] (some [0,7,12,13,51,52,53,54]))
 (.seq (.cond (.t 54) .skip
 (.exit 4))
 (.seq (.block 5 (.seq (.reg [
  ⟨some 55,none,.mv (.t 53)⟩,
  ⟨some 56,none,.iaddr none (.t 51) (.t 53)⟩,
  ⟨some 57,none,.load none (.t 56)⟩,
  ⟨some 14,none,.mv (.t 55)⟩,
  ⟨some 15,none,.mv (.t 57)⟩] (some [0,7,12,13,14,15,51,52,53]))
 (.seq (.reg [
  ⟨some 58,none,.mv (.t 15)⟩,
  ⟨some 59,none,.mv (.t 13)⟩,
  ⟨some 60,none,.bin .eql (.t 58) (.t 59)⟩] (some [0,7,12,13,14,51,52,53,60]))
 (.cond (.t 60) (.draw [
   ⟨⟨some 61,none,.mv (.t 12)⟩,[12],false,[],[]⟩,
   ⟨⟨some 62,none,.mv (.t 0)⟩,[0],false,[],[]⟩,
   ⟨⟨some 63,none,.mv (.t 14)⟩,[14],false,[],[]⟩,
   ⟨⟨some 64,none,.iaddr (some 4) (.t 62) (.t 63)⟩,[62,63],false,[],[]⟩,
   ⟨⟨some 65,none,.faddr 0 none (.t 64)⟩,[64],false,[],[]⟩,
   ⟨⟨some 66,none,.load none (.t 65)⟩,[65],false,[],[]⟩,
   ⟨⟨some 67,none,.mv (.t 13)⟩,[13],false,[],[]⟩,
   ⟨⟨some 68,none,.call f_q08p [(.t 67)]⟩,[67],true,[],[3,5]⟩,
   ⟨⟨some 69,none,.build [.p (.str []),.p (.str [])] [(0,1,(.t 66)),(1,1,(.t 68))]⟩,[66,68],false,[],[]⟩,
   ⟨⟨some 70,none,.bsl false (some 2) 1 (.agg [.str [],.str []]) [(0,(.t 69))]⟩,[69],false,[],[]⟩,
   ⟨⟨some 71,none,.app (some 2) (.t 61) (.t 70)⟩,[61,70],true,[],[]⟩,
   ⟨⟨some 12,none,.mv (.t 71)⟩,[71],false,[],[]⟩] (some [0,7,12,13,51,52,53]))
 .skip))))
 q3)))
def p_q052_k4 : ACode:=P_q052_k4 p_q052_k3
def d_q052_k4 (C : Hd) (gl : Nat → Option PV) (q3 : ACode) (v0 v7 v12 v13 v51 v52 v53 : AV) (h : Heap) (x : Esc) (K : Ex → St → Prop) : Prop:=
 pK (oBin .lss v53 v52) fun t1=>
 condB t1 (pK (oIaddr none v51 v53 h) fun t2=>
 pK (oLoad none t2 h) fun t3=>
 pK (oBin .eql t3 v13) fun t4=>
 condB t4 (pK (oIaddr (some 4) v0 v53 h) fun t5=>
 pK (oFaddr 0 none t5) fun t6=>
 pK (oLoad none t6 h) fun t7=>
 callE C f_q08p [v13] h fun t8 h9 y10=>
 (pK (oIaddr (some 4) v0 v53 h9) fun v=>(fun u (g1 : Heap) (y1 : Esc)=>u = t5 ∧ g1 = h9 ∧ y1 = []) v h9 []) ∧ ((pK (oLoad none t6 h9) fun v=>(fun u (g1 : Heap) (y1 : Esc)=>u = t7 ∧ g1 = h9 ∧ y1 = []) v h9 []) ∧ (pK (oBuild [.p (.str []),.p (.str [])] [(0,1,t7),(1,1,t8)]) fun t11=>
 wK (oBsl false (some 2) 1 (.agg [.str [],.str []]) [(0,t11)] h9) fun t12 h13 y14=>
 (h13 = h9 ∧ y14 = []) ∧ (wK (oApp (some 2) v12 t12 h13) fun t15 h16 y17=>
 NW C gl q3 ⟨[(0,v0),(7,v7),(12,t15),(13,v13),(51,v51),(52,v52),(53,v53)],h16,(y17 ++ (y14 ++ (y10 ++ x)))⟩ K))))
 (NW C gl q3 ⟨[(0,v0),(7,v7),(12,v12),(13,v13),(14,v53),(51,v51),(52,v52),(53,v53),(60,t4)],h,x⟩ K))
 (K (.exit 4) ⟨[(0,v0),(7,v7),(12,v12),(13,v13),(51,v51),(52,v52),(53,v53),(54,t1)],h,x⟩)
theorem E_q052_k4 {C gl q3 e h x K} : NW C gl (P_q052_k4 q3) ⟨e,h,x⟩ K = d_q052_k4 C gl q3 (aget e 0) (aget e 7) (aget e 12) (aget e 13) (aget e 51) (aget e 52) (aget e 53) h x K:=by kernel_rfl
theorem e_q052_k4 {C gl e h x K} : NW C gl p_q052_k4 ⟨e,h,x⟩ K = d_q052_k4 C gl p_q052_k3 (aget e 0) (aget e 7) (aget e 12) (aget e 13) (aget e 51) (aget e 52) (aget e 53) h x K:=E_q052_k4
theorem l_q052_k4 {C gl e h x K} : NW C gl (.loop (.scope p_q052_k4)) ⟨e,h,x⟩ K = NLoop C gl (.scope p_q052_k4) K [(0,aget e 0),(7,aget e 7),(12,aget e 12),(13,aget e 13),(51,aget e 51),(52,aget e 52),(53,aget e 53)] h x:=NLoop_sc
def p_q052_k5 : ACode:=.pr [0,7,12,13] (.reg [
  ⟨some 49,none,.mv (.t 13)⟩,
  ⟨some 50,none,.bin .sub (.t 49) (.c (.p (.int .i64 1)))⟩,
  ⟨some 13,none,.mv (.t 50)⟩] (some [0,7,12,13]))
def d_q052_k5 (C : Hd) (gl : Nat → Option PV) (v0 v7 v12 v13 : AV) (h : Heap) (x : Esc) (K : Ex → St → Prop) : Prop:=
 pK (oBin .sub v13 (.p (.int .i64 1))) fun t1=>
 K .normal ⟨[(0,v0),(7,v7),(12,v12),(13,t1)],h,x⟩
theorem e_q052_k5 {C gl e h x K} : NW C gl p_q052_k5 ⟨e,h,x⟩ K = d_q052_k5 C gl (aget e 0) (aget e 7) (aget e 12) (aget e 13) h x K:=by kernel_rfl
def P_q052_k6 (q4 q5 : ACode) : ACode:=.pr [0,7,12,13] (.seq (.seq (.reg [
  ⟨some 47,none,.mv (.t 13)⟩,
  ⟨some 48,none,.bin .gtr (.t 47) (.c (.p (.int .i64 0)))⟩] (some [0,7,12,13,48]))
 (.cond (.t 48) .skip
 (.exit 2)))
 (.seq (.block 3 (.seq (.reg [
  ⟨some 51,none,.mv (.t 7)⟩,
  ⟨some 52,none,.len (.t 51)⟩,
  ⟨some 53,none,.mv (.c (.p (.int .i64 0)))⟩] (some [0,7,12,13,51,52,53]))
 (.block 4 (.loop (.scope q4)))))
 q5))
def p_q052_k6 : ACode:=P_q052_k6 p_q052_k4 p_q052_k5
def d_q052_k6 (C : Hd) (gl : Nat → Option PV) (q4 q5 : ACode) (v0 v7 v12 v13 : AV) (h : Heap) (x : Esc) (K : Ex → St → Prop) : Prop:=
 pK (oBin .gtr v13 (.p (.int .i64 0))) fun t1=>
 condB t1 (pK (oLen v7) fun t2=>
 NW C gl (.loop (.scope q4)) ⟨[(0,v0),(7,v7),(12,v12),(13,v13),(51,v7),(52,t2),(53,(.p (.int .i64 0)))],h,x⟩ (blockN 4 (blockN 3 (seqN C gl q5 K))))
 (K (.exit 2) ⟨[(0,v0),(7,v7),(12,v12),(13,v13),(48,t1)],h,x⟩)
theorem E_q052_k6 {C gl q4 q5 e h x K} : NW C gl (P_q052_k6 q4 q5) ⟨e,h,x⟩ K = d_q052_k6 C gl q4 q5 (aget e 0) (aget e 7) (aget e 12) (aget e 13) h x K:=by kernel_rfl
theorem e_q052_k6 {C gl e h x K} : NW C gl p_q052_k6 ⟨e,h,x⟩ K = d_q052_k6 C gl p_q052_k4 p_q052_k5 (aget e 0) (aget e 7) (aget e 12) (aget e 13) h x K:=E_q052_k6
theorem l_q052_k6 {C gl e h x K} : NW C gl (.loop (.scope p_q052_k6)) ⟨e,h,x⟩ K = NLoop C gl (.scope p_q052_k6) K [(0,aget e 0),(7,aget e 7),(12,aget e 12),(13,aget e 13)] h x:=NLoop_sc
def p_q052_k7 : ACode:=.pr [12] (.seq (.reg [
  ⟨some 73,none,.mv (.t 12)⟩,
  ⟨some 6,none,.mv (.t 73)⟩] (some [6]))
 .ret)
def d_q052_k7 (C : Hd) (gl : Nat → Option PV) (v12 : AV) (h : Heap) (x : Esc) (K : Ex → St → Prop) : Prop:=
 K .ret ⟨[(6,v12)],h,x⟩
theorem e_q052_k7 {C gl e h x K} : NW C gl p_q052_k7 ⟨e,h,x⟩ K = d_q052_k7 C gl (aget e 12) h x K:=by kernel_rfl
def P_q052_k8 (q6 q7 : ACode) : ACode:=.pr [0,1,7] (.seq (.reg [
  ⟨some 12,none,.new0 (some 2)⟩] (some [0,1,7,12]))
 (.seq (.seq (.reg [
  ⟨some 45,none,.mv (.t 1)⟩,
  ⟨some 46,none,.len (.t 45)⟩,
  ⟨some 13,none,.mv (.t 46)⟩] (some [0,7,12,13]))
 (.block 2 (.loop (.scope q6))))
 q7))
def p_q052_k8 : ACode:=P_q052_k8 p_q052_k6 p_q052_k7
def d_q052_k8 (C : Hd) (gl : Nat → Option PV) (q6 q7 : ACode) (v0 v1 v7 : AV) (h : Heap) (x : Esc) (K : Ex → St → Prop) : Prop:=
 nwK (some 2) h fun t1 h2 y3=>
 pK (oLen v1) fun t4=>
 NW C gl (.loop (.scope q6)) ⟨[(0,v0),(7,v7),(12,t1),(13,t4)],h2,(y3 ++ x)⟩ (blockN 2 (seqN C gl q7 K))
theorem E_q052_k8 {C gl q6 q7 e h x K} : NW C gl (P_q052_k8 q6 q7) ⟨e,h,x⟩ K = d_q052_k8 C gl q6 q7 (aget e 0) (aget e 1) (aget e 7) h x K:=by kernel_rfl
theorem e_q052_k8 {C gl e h x K} : NW C gl p_q052_k8 ⟨e,h,x⟩ K = d_q052_k8 C gl p_q052_k6 p_q052_k7 (aget e 0) (aget e 1) (aget e 7) h x K:=E_q052_k8
def P_q052 (q2 q8 : ACode) : ACode:=(.seq (.reg [
  ⟨some 6,none,.mv (.c (.p (.sl (some 2) [])))⟩] (some [0,1,2]))
 (.seq (.reg [
  ⟨some 16,none,.mv (.t 0)⟩,
  ⟨some 17,none,.len (.t 16)⟩,
  ⟨some 18,none,.mksl none (.int .i64 0) (.t 17) (.t 17)⟩,
  ⟨some 7,none,.mv (.t 18)⟩] (some [0,1,2,7]))
 (.seq (.seq (.reg [
  ⟨some 19,none,.mv (.t 1)⟩,
  ⟨some 20,none,.call f_q05s [(.t 19)]⟩,
  ⟨some 21,none,.len (.t 20)⟩,
  ⟨some 22,none,.mv (.c (.p (.int .i64 0)))⟩] (some [0,1,2,7,20,21,22]))
 (.block 0 (.loop q2)))
 q8)))
def a_q052 : AFun:=⟨3,[.t 6],P_q052 p_q052_k2 p_q052_k8,false,false⟩
def d_q052 (C : Hd) (gl : Nat → Option PV) (q2 q8 : ACode) (v0 v1 v2 : AV) (h : Heap) (x : Esc) (K : Ex → St → Prop) : Prop:=
 pK (oLen v0) fun t1=>
 wK (oMksl none (.int .i64 0) t1 t1 h) fun t2 h3 y4=>
 C f_q05s [v1] h3 fun t5 h6 y7=>
 pK (oLen t5) fun t8=>
 NW C gl (.loop q2) ⟨[(0,v0),(1,v1),(2,v2),(7,t2),(20,t5),(21,t8),(22,(.p (.int .i64 0)))],h6,(y7 ++ (y4 ++ x))⟩ (blockN 0 (seqN C gl q8 K))
theorem E_q052 {C gl q2 q8 v0 v1 v2 h x K} : NW C gl (P_q052 q2 q8) ⟨enter [v0,v1,v2],h,x⟩ K = d_q052 C gl q2 q8 v0 v1 v2 h x K:=by kernel_rfl
theorem e_q052 {C gl v0 v1 v2 h x K} : NW C gl a_q052.body ⟨enter [v0,v1,v2],h,x⟩ K = d_q052 C gl p_q052_k2 p_q052_k8 v0 v1 v2 h x K:=E_q052
def P_q057 : ACode:=(.seq (.reg [
  ⟨some 2,none,.box (.t 0)⟩,
  ⟨some 3,none,.box (.t 1)⟩,
  ⟨some 4,none,.mv (.c (.p (.sl none [])))⟩] (some [2,3]))
 (.seq (.reg [
  ⟨some 5,none,.load none (.t 3)⟩,
  ⟨some 6,none,.call f_q05s [(.t 5)]⟩,
  ⟨some 7,none,.mkfn f_q058 [(.t 2),(.t 3)]⟩,
  ⟨some 8,none,.call f_q066 [(.t 6),(.t 7)]⟩,
  ⟨some 4,none,.mv (.t 8)⟩] (some [4]))
 .ret))
def a_q057 : AFun:=⟨2,[.t 4],P_q057,false,false⟩
def d_q057 (C : Hd) (gl : Nat → Option PV) (v0 v1 : AV) (h : Heap) (x : Esc) (K : Ex → St → Prop) : Prop:=
 wK (oBox v0 h) fun t1 h2 y3=>
 wK (oBox v1 h2) fun t4 h5 y6=>
 pK (oLoad none t4 h5) fun t7=>
 C f_q05s [t7] h5 fun t8 h9 y10=>
 C f_q066 [t8,(.fn f_q058 [t1,t4])] h9 fun t11 h12 y13=>
 K .ret ⟨[(4,t11)],h12,(y13 ++ (y10 ++ (y6 ++ (y3 ++ x))))⟩
theorem E_q057 {C gl v0 v1 h x K} : NW C gl (P_q057) ⟨enter [v0,v1],h,x⟩ K = d_q057 C gl v0 v1 h x K:=by kernel_rfl
theorem e_q057 {C gl v0 v1 h x K} : NW C gl a_q057.body ⟨enter [v0,v1],h,x⟩ K = d_q057 C gl v0 v1 h x K:=E_q057
def p_q04s_k1 : ACode:=.pr [0,1,5,15,16,17] (.seq (.reg [
  ⟨some 18,none,.bin .lss (.t 17) (.t 16)⟩] (some [0,1,5,15,16,17,18]))
 (.seq (.cond (.t 18) .skip
 (.exit 0))
 (.seq (.block 1 (.seq (.reg [
  ⟨some 19,none,.iaddr (some 4) (.t 15) (.t 17)⟩,
  ⟨some 20,none,.load (some 4) (.t 19)⟩,
  ⟨some 7,none,.alloc [.p (.str []),.p (.int .i64 0),.p (.str []),.sl0 none]⟩,
  ⟨none,none,.store (some 4) (.t 7) (.t 20)⟩] (some [0,1,5,7,15,16,17]))
 (.reg [
  ⟨some 21,none,.mv (.t 5)⟩,
  ⟨some 22,none,.faddr 2 none (.t 7)⟩,
  ⟨some 23,none,.load none (.t 22)⟩,
  ⟨some 24,none,.bsl false none 1 (.str []) [(0,(.t 23))]⟩,
  ⟨some 25,none,.app none (.t 21) (.t 24)⟩,
  ⟨some 5,none,.mv (.t 25)⟩] (some [0,1,5,15,16,17]))))
 (.reg [
  ⟨some 26,none,.bin .add (.t 17) (.c (.p (.int .i64 1)))⟩,
  ⟨some 17,none,.mv (.t 26)⟩] (some [0,1,5,15,16,17])))))
def d_q04s_k1 (C : Hd) (gl : Nat → Option PV) (v0 v1 v5 v15 v16 v17 : AV) (h : Heap) (x : Esc) (K : Ex → St → Prop) : Prop:=
 pK (oBin .lss v17 v16) fun t1=>
 condB t1 (pK (oIaddr (some 4) v15 v17 h) fun t2=>
 pK (oLoad (some 4) t2 h) fun t3=>
 alK [.p (.str []),.p (.int .i64 0),.p (.str []),.sl0 none] h fun t4 h5 y6=>
 wK (oStore (some 4) t4 t3 h5) fun t7 h8 y9=>
 pK (oFaddr 2 none t4) fun t10=>
 pK (oLoad none t10 h8) fun t11=>
 wK (oBsl false none 1 (.str []) [(0,t11)] h8) fun t12 h13 y14=>
 wK (oApp none v5 t12 h13) fun t15 h16 y17=>
 pK (oBin .add v17 (.p (.int .i64 1))) fun t18=>
 K .normal ⟨[(0,v0),(1,v1),(5,t15),(15,v15),(16,v16),(17,t18)],h16,(y17 ++ (y14 ++ (y9 ++ (y6 ++ x))))⟩)
 (K (.exit 0) ⟨[(0,v0),(1,v1),(5,v5),(15,v15),(16,v16),(17,v17),(18,t1)],h,x⟩)
theorem e_q04s_k1 {C gl e h x K} : NW C gl p_q04s_k1 ⟨e,h,x⟩ K = d_q04s_k1 C gl (aget e 0) (aget e 1) (aget e 5) (aget e 15) (aget e 16) (aget e 17) h x K:=by kernel_rfl
theorem l_q04s_k1 {C gl e h x K} : NW C gl (.loop (.scope p_q04s_k1)) ⟨e,h,x⟩ K = NLoop C gl (.scope p_q04s_k1) K [(0,aget e 0),(1,aget e 1),(5,aget e 5),(15,aget e 15),(16,aget e 16),(17,aget e 17)] h x:=NLoop_sc
def p_q04s_k2 : ACode:=.pr [0,1,8,10,11,12,30,31,32,36,37,38] (.reg [
  ⟨some 55,none,.bin .add (.t 38) (.c (.p (.int .i64 1)))⟩,
  ⟨some 38,none,.mv (.t 55)⟩] (some [0,1,8,10,11,12,30,31,32,36,37,38]))
def d_q04s_k2 (C : Hd) (gl : Nat → Option PV) (v0 v1 v8 v10 v11 v12 v30 v31 v32 v36 v37 v38 : AV) (h : Heap) (x : Esc) (K : Ex → St → Prop) : Prop:=
 pK (oBin .add v38 (.p (.int .i64 1))) fun t1=>
 K .normal ⟨[(0,v0),(1,v1),(8,v8),(10,v10),(11,v11),(12,v12),(30,v30),(31,v31),(32,v32),(36,v36),(37,v37),(38,t1)],h,x⟩
theorem e_q04s_k2 {C gl e h x K} : NW C gl p_q04s_k2 ⟨e,h,x⟩ K = d_q04s_k2 C gl (aget e 0) (aget e 1) (aget e 8) (aget e 10) (aget e 11) (aget e 12) (aget e 30) (aget e 31) (aget e 32) (aget e 36) (aget e 37) (aget e 38) h x K:=by kernel_rfl
def P_q04s_k3 (q2 : ACode) : ACode:=.pr [0,1,8,10,11,12,30,31,32,36,37,38] (.seq (.reg [
  ⟨some 39,none,.bin .lss (.t 38) (.t 37)⟩] (some [0,1,8,10,11,12,30,31,32,36,37,38,39]))
 (.seq (.cond (.t 39) .skip
 (.exit 4))
 (.seq (.block 5 (.seq (.reg [
  ⟨some 40,none,.iaddr (some 4) (.t 36) (.t 38)⟩,
  ⟨some 41,none,.load (some 4) (.t 40)⟩,
  ⟨some 14,none,.alloc [.p (.str []),.p (.int .i64 0),.p (.str []),.sl0 none]⟩,
  ⟨none,none,.store (some 4) (.t 14) (.t 41)⟩] (some [0,1,8,10,11,12,14,30,31,32,36,37,38]))
 (.seq (.reg [
  ⟨some 42,none,.faddr 2 none (.t 14)⟩,
  ⟨some 43,none,.load none (.t 42)⟩,
  ⟨some 44,none,.mv (.t 10)⟩,
  ⟨some 45,none,.bin .eql (.t 43) (.t 44)⟩] (some [0,1,8,10,11,12,14,30,31,32,36,37,38,45]))
 (.cond (.t 45) (.seq (.reg [
  ⟨some 46,none,.mv (.t 12)⟩,
  ⟨some 47,none,.bin .add (.t 46) (.c (.p (.int .i64 1)))⟩,
  ⟨some 12,none,.mv (.t 47)⟩] (some [0,1,8,10,11,12,14,30,31,32,36,37,38]))
 (.seq (.reg [
  ⟨some 48,none,.mv (.t 0)⟩,
  ⟨some 49,none,.faddr 3 none (.t 14)⟩,
  ⟨some 50,none,.load none (.t 49)⟩,
  ⟨some 51,none,.call f_q05k [(.t 48),(.t 50)]⟩,
  ⟨some 52,none,.bin .lss (.t 51) (.c (.p (.int .i64 0)))⟩] (some [0,1,8,10,11,12,30,31,32,36,37,38,52]))
 (.cond (.t 52) (.reg [
  ⟨some 53,none,.mv (.t 11)⟩,
  ⟨some 54,none,.bin .add (.t 53) (.c (.p (.int .i64 1)))⟩,
  ⟨some 11,none,.mv (.t 54)⟩] (some [0,1,8,10,11,12,30,31,32,36,37,38]))
 .skip)))
 .skip))))
 q2)))
def p_q04s_k3 : ACode:=P_q04s_k3 p_q04s_k2
def d_q04s_k3 (C : Hd) (gl : Nat → Option PV) (q2 : ACode) (v0 v1 v8 v10 v11 v12 v30 v31 v32 v36 v37 v38 : AV) (h : Heap) (x : Esc) (K : Ex → St → Prop) : Prop:=
 pK (oBin .lss v38 v37) fun t1=>
 condB t1 (pK (oIaddr (some 4) v36 v38 h) fun t2=>
 pK (oLoad (some 4) t2 h) fun t3=>
 alK [.p (.str []),.p (.int .i64 0),.p (.str []),.sl0 none] h fun t4 h5 y6=>
 wK (oStore (some 4) t4 t3 h5) fun t7 h8 y9=>
 pK (oFaddr 2 none t4) fun t10=>
 pK (oLoad none t10 h8) fun t11=>
 pK (oBin .eql t11 v10) fun t12=>
 condB t12 (pK (oBin .add v12 (.p (.int .i64 1))) fun t13=>
 pK (oFaddr 3 none t4) fun t14=>
 pK (oLoad none t14 h8) fun t15=>
 C f_q05k [v0,t15] h8 fun t16 h17 y18=>
 pK (oBin .lss t16 (.p (.int .i64 0))) fun t19=>
 condB t19 (pK (oBin .add v11 (.p (.int .i64 1))) fun t20=>
 NW C gl q2 ⟨[(0,v0),(1,v1),(8,v8),(10,v10),(11,t20),(12,t13),(30,v30),(31,v31),(32,v32),(36,v36),(37,v37),(38,v38)],h17,(y18 ++ (y9 ++ (y6 ++ x)))⟩ K)
 (NW C gl q2 ⟨[(0,v0),(1,v1),(8,v8),(10,v10),(11,v11),(12,t13),(30,v30),(31,v31),(32,v32),(36,v36),(37,v37),(38,v38),(52,t19)],h17,(y18 ++ (y9 ++ (y6 ++ x)))⟩ K))
 (NW C gl q2 ⟨[(0,v0),(1,v1),(8,v8),(10,v10),(11,v11),(12,v12),(14,t4),(30,v30),(31,v31),(32,v32),(36,v36),(37,v37),(38,v38),(45,t12)],h8,(y9 ++ (y6 ++ x))⟩ K))
 (K (.exit 4) ⟨[(0,v0),(1,v1),(8,v8),(10,v10),(11,v11),(12,v12),(30,v30),(31,v31),(32,v32),(36,v36),(37,v37),(38,v38),(39,t1)],h,x⟩)
theorem E_q04s_k3 {C gl q2 e h x K} : NW C gl (P_q04s_k3 q2) ⟨e,h,x⟩ K = d_q04s_k3 C gl q2 (aget e 0) (aget e 1) (aget e 8) (aget e 10) (aget e 11) (aget e 12) (aget e 30) (aget e 31) (aget e 32) (aget e 36) (aget e 37) (aget e 38) h x K:=by kernel_rfl
theorem e_q04s_k3 {C gl e h x K} : NW C gl p_q04s_k3 ⟨e,h,x⟩ K = d_q04s_k3 C gl p_q04s_k2 (aget e 0) (aget e 1) (aget e 8) (aget e 10) (aget e 11) (aget e 12) (aget e 30) (aget e 31) (aget e 32) (aget e 36) (aget e 37) (aget e 38) h x K:=E_q04s_k3
theorem l_q04s_k3 {C gl e h x K} : NW C gl (.loop (.scope p_q04s_k3)) ⟨e,h,x⟩ K = NLoop C gl (.scope p_q04s_k3) K [(0,aget e 0),(1,aget e 1),(8,aget e 8),(10,aget e 10),(11,aget e 11),(12,aget e 12),(30,aget e 30),(31,aget e 31),(32,aget e 32),(36,aget e 36),(37,aget e 37),(38,aget e 38)] h x:=NLoop_sc
def p_q04s_k4 : ACode:=.pr [0,1,8,10,11,12,30,31,32] (.reg [
  ⟨some 56,none,.mv (.t 8)⟩,
  ⟨some 57,none,.mv (.t 10)⟩,
  ⟨some 58,none,.mv (.t 11)⟩,
  ⟨some 59,none,.call f_q08p [(.t 58)]⟩,
  ⟨some 60,none,.bin .add (.t 59) (.c (.p (.str [47])))⟩,
  ⟨some 61,none,.mv (.t 12)⟩,
  ⟨some 62,none,.call f_q08p [(.t 61)]⟩,
  ⟨some 63,none,.bin .add (.t 60) (.t 62)⟩,
  ⟨some 64,none,.build [.p (.str []),.p (.str [])] [(0,1,(.t 57)),(1,1,(.t 63))]⟩,
  ⟨some 65,none,.bsl false (some 2) 1 (.agg [.str [],.str []]) [(0,(.t 64))]⟩,
  ⟨some 66,none,.app (some 2) (.t 56) (.t 65)⟩,
  ⟨some 8,none,.mv (.t 66)⟩] (some [0,1,8,30,31,32]))
def d_q04s_k4 (C : Hd) (gl : Nat → Option PV) (v0 v1 v8 v10 v11 v12 v30 v31 v32 : AV) (h : Heap) (x : Esc) (K : Ex → St → Prop) : Prop:=
 C f_q08p [v11] h fun t1 h2 y3=>
 pK (oBin .add t1 (.p (.str [47]))) fun t4=>
 C f_q08p [v12] h2 fun t5 h6 y7=>
 pK (oBin .add t4 t5) fun t8=>
 pK (oBuild [.p (.str []),.p (.str [])] [(0,1,v10),(1,1,t8)]) fun t9=>
 wK (oBsl false (some 2) 1 (.agg [.str [],.str []]) [(0,t9)] h6) fun t10 h11 y12=>
 wK (oApp (some 2) v8 t10 h11) fun t13 h14 y15=>
 K .normal ⟨[(0,v0),(1,v1),(8,t13),(30,v30),(31,v31),(32,v32)],h14,(y15 ++ (y12 ++ (y7 ++ (y3 ++ x))))⟩
theorem e_q04s_k4 {C gl e h x K} : NW C gl p_q04s_k4 ⟨e,h,x⟩ K = d_q04s_k4 C gl (aget e 0) (aget e 1) (aget e 8) (aget e 10) (aget e 11) (aget e 12) (aget e 30) (aget e 31) (aget e 32) h x K:=by kernel_rfl
def p_q04s_k5 : ACode:=.pr [0,1,8,30,31,32] (.reg [
  ⟨some 67,none,.bin .add (.t 32) (.c (.p (.int .i64 1)))⟩,
  ⟨some 32,none,.mv (.t 67)⟩] (some [0,1,8,30,31,32]))
def d_q04s_k5 (C : Hd) (gl : Nat → Option PV) (v0 v1 v8 v30 v31 v32 : AV) (h : Heap) (x : Esc) (K : Ex → St → Prop) : Prop:=
 pK (oBin .add v32 (.p (.int .i64 1))) fun t1=>
 K .normal ⟨[(0,v0),(1,v1),(8,v8),(30,v30),(31,v31),(32,t1)],h,x⟩
theorem e_q04s_k5 {C gl e h x K} : NW C gl p_q04s_k5 ⟨e,h,x⟩ K = d_q04s_k5 C gl (aget e 0) (aget e 1) (aget e 8) (aget e 30) (aget e 31) (aget e 32) h x K:=by kernel_rfl
def P_q04s_k6 (q3 q4 q5 : ACode) : ACode:=.pr [0,1,8,30,31,32] (.seq (.reg [
  ⟨some 33,none,.bin .lss (.t 32) (.t 31)⟩] (some [0,1,8,30,31,32,33]))
 (.seq (.cond (.t 33) .skip
 (.exit 2))
 (.seq (.block 3 (.seq (.reg [
  ⟨some 34,none,.iaddr none (.t 30) (.t 32)⟩,
  ⟨some 35,none,.load none (.t 34)⟩,
  ⟨some 10,none,.mv (.t 35)⟩] (some [0,1,8,10,30,31,32]))
 (.seq (.reg [
  ⟨some 11,none,.mv (.c (.p (.int .i64 0)))⟩,
  ⟨some 12,none,.mv (.c (.p (.int .i64 0)))⟩] (some [0,1,8,10,11,12,30,31,32]))
 (.seq (.seq (.reg [
  ⟨some 36,none,.mv (.t 1)⟩,
  ⟨some 37,none,.len (.t 36)⟩,
  ⟨some 38,none,.mv (.c (.p (.int .i64 0)))⟩] (some [0,1,8,10,11,12,30,31,32,36,37,38]))
 (.block 4 (.loop (.scope q3))))
 q4))))
 q5)))
def p_q04s_k6 : ACode:=P_q04s_k6 p_q04s_k3 p_q04s_k4 p_q04s_k5
def d_q04s_k6 (C : Hd) (gl : Nat → Option PV) (q3 q4 q5 : ACode) (v0 v1 v8 v30 v31 v32 : AV) (h : Heap) (x : Esc) (K : Ex → St → Prop) : Prop:=
 pK (oBin .lss v32 v31) fun t1=>
 condB t1 (pK (oIaddr none v30 v32 h) fun t2=>
 pK (oLoad none t2 h) fun t3=>
 pK (oLen v1) fun t4=>
 NW C gl (.loop (.scope q3)) ⟨[(0,v0),(1,v1),(8,v8),(10,t3),(11,(.p (.int .i64 0))),(12,(.p (.int .i64 0))),(30,v30),(31,v31),(32,v32),(36,v1),(37,t4),(38,(.p (.int .i64 0)))],h,x⟩ (blockN 4 (seqN C gl q4 (blockN 3 (seqN C gl q5 K)))))
 (K (.exit 2) ⟨[(0,v0),(1,v1),(8,v8),(30,v30),(31,v31),(32,v32),(33,t1)],h,x⟩)
theorem E_q04s_k6 {C gl q3 q4 q5 e h x K} : NW C gl (P_q04s_k6 q3 q4 q5) ⟨e,h,x⟩ K = d_q04s_k6 C gl q3 q4 q5 (aget e 0) (aget e 1) (aget e 8) (aget e 30) (aget e 31) (aget e 32) h x K:=by kernel_rfl
theorem e_q04s_k6 {C gl e h x K} : NW C gl p_q04s_k6 ⟨e,h,x⟩ K = d_q04s_k6 C gl p_q04s_k3 p_q04s_k4 p_q04s_k5 (aget e 0) (aget e 1) (aget e 8) (aget e 30) (aget e 31) (aget e 32) h x K:=E_q04s_k6
theorem l_q04s_k6 {C gl e h x K} : NW C gl (.loop (.scope p_q04s_k6)) ⟨e,h,x⟩ K = NLoop C gl (.scope p_q04s_k6) K [(0,aget e 0),(1,aget e 1),(8,aget e 8),(30,aget e 30),(31,aget e 31),(32,aget e 32)] h x:=NLoop_sc
def p_q04s_k7 : ACode:=.pr [8] (.seq (.reg [
  ⟨some 68,none,.mv (.t 8)⟩,
  ⟨some 4,none,.mv (.t 68)⟩] (some [4]))
 .ret)
def d_q04s_k7 (C : Hd) (gl : Nat → Option PV) (v8 : AV) (h : Heap) (x : Esc) (K : Ex → St → Prop) : Prop:=
 K .ret ⟨[(4,v8)],h,x⟩
theorem e_q04s_k7 {C gl e h x K} : NW C gl p_q04s_k7 ⟨e,h,x⟩ K = d_q04s_k7 C gl (aget e 8) h x K:=by kernel_rfl
def P_q04s_k8 (q6 q7 : ACode) : ACode:=.pr [0,1,5] (.seq (.reg [
  ⟨some 27,none,.mv (.t 5)⟩,
  ⟨some 28,none,.call f_q06r [(.t 27)]⟩] (some [0,1,5]))
 (.seq (.reg [
  ⟨some 8,none,.new0 (some 2)⟩] (some [0,1,5,8]))
 (.seq (.seq (.reg [
  ⟨some 29,none,.mv (.t 5)⟩,
  ⟨some 30,none,.call f_q05x [(.t 29)]⟩,
  ⟨some 31,none,.len (.t 30)⟩,
  ⟨some 32,none,.mv (.c (.p (.int .i64 0)))⟩] (some [0,1,8,30,31,32]))
 (.block 2 (.loop (.scope q6))))
 q7)))
def p_q04s_k8 : ACode:=P_q04s_k8 p_q04s_k6 p_q04s_k7
def d_q04s_k8 (C : Hd) (gl : Nat → Option PV) (q6 q7 : ACode) (v0 v1 v5 : AV) (h : Heap) (x : Esc) (K : Ex → St → Prop) : Prop:=
 C f_q06r [v5] h fun t1 h2 y3=>
 nwK (some 2) h2 fun t4 h5 y6=>
 C f_q05x [v5] h5 fun t7 h8 y9=>
 pK (oLen t7) fun t10=>
 NW C gl (.loop (.scope q6)) ⟨[(0,v0),(1,v1),(8,t4),(30,t7),(31,t10),(32,(.p (.int .i64 0)))],h8,(y9 ++ (y6 ++ (y3 ++ x)))⟩ (blockN 2 (seqN C gl q7 K))
theorem E_q04s_k8 {C gl q6 q7 e h x K} : NW C gl (P_q04s_k8 q6 q7) ⟨e,h,x⟩ K = d_q04s_k8 C gl q6 q7 (aget e 0) (aget e 1) (aget e 5) h x K:=by kernel_rfl
theorem e_q04s_k8 {C gl e h x K} : NW C gl p_q04s_k8 ⟨e,h,x⟩ K = d_q04s_k8 C gl p_q04s_k6 p_q04s_k7 (aget e 0) (aget e 1) (aget e 5) h x K:=E_q04s_k8
def P_q04s (q1 q8 : ACode) : ACode:=(.seq (.reg [
  ⟨some 4,none,.mv (.c (.p (.sl (some 2) [])))⟩] (some [0,1]))
 (.seq (.reg [
  ⟨some 5,none,.new0 none⟩] (some [0,1,5]))
 (.seq (.seq (.reg [
  ⟨some 15,none,.mv (.t 1)⟩,
  ⟨some 16,none,.len (.t 15)⟩,
  ⟨some 17,none,.mv (.c (.p (.int .i64 0)))⟩] (some [0,1,5,15,16,17]))
 (.block 0 (.loop (.scope q1))))
 q8)))
def a_q04s : AFun:=⟨2,[.t 4],P_q04s p_q04s_k1 p_q04s_k8,false,false⟩
def d_q04s (C : Hd) (gl : Nat → Option PV) (q1 q8 : ACode) (v0 v1 : AV) (h : Heap) (x : Esc) (K : Ex → St → Prop) : Prop:=
 nwK none h fun t1 h2 y3=>
 pK (oLen v1) fun t4=>
 NW C gl (.loop (.scope q1)) ⟨[(0,v0),(1,v1),(5,t1),(15,v1),(16,t4),(17,(.p (.int .i64 0)))],h2,(y3 ++ x)⟩ (blockN 0 (seqN C gl q8 K))
theorem E_q04s {C gl q1 q8 v0 v1 h x K} : NW C gl (P_q04s q1 q8) ⟨enter [v0,v1],h,x⟩ K = d_q04s C gl q1 q8 v0 v1 h x K:=by kernel_rfl
theorem e_q04s {C gl v0 v1 h x K} : NW C gl a_q04s.body ⟨enter [v0,v1],h,x⟩ K = d_q04s C gl p_q04s_k1 p_q04s_k8 v0 v1 h x K:=E_q04s
def p_q069_k1 : ACode:=.pr [0,1,12,13] (.seq (.reg [
  ⟨some 14,none,.bin .lss (.t 13) (.t 12)⟩] (some [0,1,12,13,14]))
 (.seq (.cond (.t 14) .skip
 (.exit 0))
 (.seq (.block 1 (.seq (.reg [
  ⟨some 15,none,.mv (.t 13)⟩,
  ⟨some 5,none,.mv (.t 15)⟩] (some [0,1,5,12,13]))
 (.seq (.draw [
   ⟨⟨some 16,none,.mv (.t 0)⟩,[0],false,[],[]⟩,
   ⟨⟨some 17,none,.mv (.t 5)⟩,[5],false,[],[]⟩,
   ⟨⟨some 18,none,.iaddr (some 2) (.t 16) (.t 17)⟩,[16,17],false,[],[]⟩,
   ⟨⟨some 19,none,.load (some 2) (.t 18)⟩,[18],false,[],[]⟩,
   ⟨⟨some 20,none,.mv (.t 1)⟩,[1],false,[],[]⟩,
   ⟨⟨some 21,none,.mv (.t 5)⟩,[5],false,[],[]⟩,
   ⟨⟨some 22,none,.iaddr (some 2) (.t 20) (.t 21)⟩,[20,21],false,[],[]⟩,
   ⟨⟨some 23,none,.load (some 2) (.t 22)⟩,[22],false,[],[]⟩,
   ⟨⟨some 24,none,.eqa [2,2] true (.t 19) (.t 23)⟩,[19,23],false,[],[]⟩] (some [0,1,12,13,24]))
 (.cond (.t 24) (.seq (.reg [
  ⟨some 4,none,.mv (.c (.p (.bool false)))⟩] (some [4]))
 .ret)
 .skip))))
 (.reg [
  ⟨some 25,none,.bin .add (.t 13) (.c (.p (.int .i64 1)))⟩,
  ⟨some 13,none,.mv (.t 25)⟩] (some [0,1,12,13])))))
def d_q069_k1 (C : Hd) (gl : Nat → Option PV) (v0 v1 v12 v13 : AV) (h : Heap) (x : Esc) (K : Ex → St → Prop) : Prop:=
 pK (oBin .lss v13 v12) fun t1=>
 condB t1 (pK (oIaddr (some 2) v0 v13 h) fun t2=>
 pK (oLoad (some 2) t2 h) fun t3=>
 pK (oIaddr (some 2) v1 v13 h) fun t4=>
 pK (oLoad (some 2) t4 h) fun t5=>
 pK (oEqa [2,2] true t3 t5) fun t6=>
 condB t6 (K .ret ⟨[(4,(.p (.bool false)))],h,x⟩)
 (pK (oBin .add v13 (.p (.int .i64 1))) fun t7=>
 K .normal ⟨[(0,v0),(1,v1),(12,v12),(13,t7)],h,x⟩))
 (K (.exit 0) ⟨[(0,v0),(1,v1),(12,v12),(13,v13),(14,t1)],h,x⟩)
theorem e_q069_k1 {C gl e h x K} : NW C gl p_q069_k1 ⟨e,h,x⟩ K = d_q069_k1 C gl (aget e 0) (aget e 1) (aget e 12) (aget e 13) h x K:=by kernel_rfl
theorem l_q069_k1 {C gl e h x K} : NW C gl (.loop p_q069_k1) ⟨e,h,x⟩ K = NLoop C gl p_q069_k1 K [(0,aget e 0),(1,aget e 1),(12,aget e 12),(13,aget e 13)] h x:=NLoop_pr
def p_q069_k2 : ACode:=.pr [] (.seq (.reg [
  ⟨some 4,none,.mv (.c (.p (.bool true)))⟩] (some [4]))
 .ret)
def d_q069_k2 (C : Hd) (gl : Nat → Option PV) (h : Heap) (x : Esc) (K : Ex → St → Prop) : Prop:=
 K .ret ⟨[(4,(.p (.bool true)))],h,x⟩
theorem e_q069_k2 {C gl e h x K} : NW C gl p_q069_k2 ⟨e,h,x⟩ K = d_q069_k2 C gl h x K:=by kernel_rfl
def P_q069 (q1 q2 : ACode) : ACode:=(.seq (.reg [
  ⟨some 4,none,.mv (.c (.p (.bool false)))⟩] (some [0,1]))
 (.seq (.seq (.reg [
  ⟨some 6,none,.mv (.t 0)⟩,
  ⟨some 7,none,.len (.t 6)⟩,
  ⟨some 8,none,.mv (.t 1)⟩,
  ⟨some 9,none,.len (.t 8)⟩,
  ⟨some 10,none,.bin .neq (.t 7) (.t 9)⟩] (some [0,1,10]))
 (.cond (.t 10) (.seq (.reg [
  ⟨some 4,none,.mv (.c (.p (.bool false)))⟩] (some [4]))
 .ret)
 .skip))
 (.seq (.seq (.reg [
  ⟨some 11,none,.mv (.t 0)⟩,
  ⟨some 12,none,.len (.t 11)⟩,
  ⟨some 13,none,.mv (.c (.p (.int .i64 0)))⟩] (some [0,1,12,13]))
 (.block 0 (.loop q1)))
 q2)))
def a_q069 : AFun:=⟨2,[.t 4],P_q069 p_q069_k1 p_q069_k2,false,false⟩
def d_q069 (C : Hd) (gl : Nat → Option PV) (q1 q2 : ACode) (v0 v1 : AV) (h : Heap) (x : Esc) (K : Ex → St → Prop) : Prop:=
 pK (oLen v0) fun t1=>
 pK (oLen v1) fun t2=>
 pK (oBin .neq t1 t2) fun t3=>
 condB t3 (K .ret ⟨[(4,(.p (.bool false)))],h,x⟩)
 (pK (oLen v0) fun t4=>
 NW C gl (.loop q1) ⟨[(0,v0),(1,v1),(12,t4),(13,(.p (.int .i64 0)))],h,x⟩ (blockN 0 (seqN C gl q2 K)))
theorem E_q069 {C gl q1 q2 v0 v1 h x K} : NW C gl (P_q069 q1 q2) ⟨enter [v0,v1],h,x⟩ K = d_q069 C gl q1 q2 v0 v1 h x K:=by kernel_rfl
theorem e_q069 {C gl v0 v1 h x K} : NW C gl a_q069.body ⟨enter [v0,v1],h,x⟩ K = d_q069 C gl p_q069_k1 p_q069_k2 v0 v1 h x K:=E_q069
def p_q06b_k1 : ACode:=.pr [0,1,12,13] (.seq (.reg [
  ⟨some 14,none,.bin .lss (.t 13) (.t 12)⟩] (some [0,1,12,13,14]))
 (.seq (.cond (.t 14) .skip
 (.exit 0))
 (.seq (.block 1 (.seq (.reg [
  ⟨some 15,none,.mv (.t 13)⟩,
  ⟨some 5,none,.mv (.t 15)⟩] (some [0,1,5,12,13]))
 (.seq (.draw [
   ⟨⟨some 16,none,.mv (.t 0)⟩,[0],false,[],[]⟩,
   ⟨⟨some 17,none,.mv (.t 5)⟩,[5],false,[],[]⟩,
   ⟨⟨some 18,none,.iaddr none (.t 16) (.t 17)⟩,[16,17],false,[],[]⟩,
   ⟨⟨some 19,none,.load none (.t 18)⟩,[18],false,[],[]⟩,
   ⟨⟨some 20,none,.mv (.t 1)⟩,[1],false,[],[]⟩,
   ⟨⟨some 21,none,.mv (.t 5)⟩,[5],false,[],[]⟩,
   ⟨⟨some 22,none,.iaddr none (.t 20) (.t 21)⟩,[20,21],false,[],[]⟩,
   ⟨⟨some 23,none,.load none (.t 22)⟩,[22],false,[],[]⟩,
   ⟨⟨some 24,none,.bin .neq (.t 19) (.t 23)⟩,[19,23],false,[],[]⟩] (some [0,1,12,13,24]))
 (.cond (.t 24) (.seq (.reg [
  ⟨some 4,none,.mv (.c (.p (.bool false)))⟩] (some [4]))
 .ret)
 .skip))))
 (.reg [
  ⟨some 25,none,.bin .add (.t 13) (.c (.p (.int .i64 1)))⟩,
  ⟨some 13,none,.mv (.t 25)⟩] (some [0,1,12,13])))))
def d_q06b_k1 (C : Hd) (gl : Nat → Option PV) (v0 v1 v12 v13 : AV) (h : Heap) (x : Esc) (K : Ex → St → Prop) : Prop:=
 pK (oBin .lss v13 v12) fun t1=>
 condB t1 (pK (oIaddr none v0 v13 h) fun t2=>
 pK (oLoad none t2 h) fun t3=>
 pK (oIaddr none v1 v13 h) fun t4=>
 pK (oLoad none t4 h) fun t5=>
 pK (oBin .neq t3 t5) fun t6=>
 condB t6 (K .ret ⟨[(4,(.p (.bool false)))],h,x⟩)
 (pK (oBin .add v13 (.p (.int .i64 1))) fun t7=>
 K .normal ⟨[(0,v0),(1,v1),(12,v12),(13,t7)],h,x⟩))
 (K (.exit 0) ⟨[(0,v0),(1,v1),(12,v12),(13,v13),(14,t1)],h,x⟩)
theorem e_q06b_k1 {C gl e h x K} : NW C gl p_q06b_k1 ⟨e,h,x⟩ K = d_q06b_k1 C gl (aget e 0) (aget e 1) (aget e 12) (aget e 13) h x K:=by kernel_rfl
theorem l_q06b_k1 {C gl e h x K} : NW C gl (.loop p_q06b_k1) ⟨e,h,x⟩ K = NLoop C gl p_q06b_k1 K [(0,aget e 0),(1,aget e 1),(12,aget e 12),(13,aget e 13)] h x:=NLoop_pr
def p_q06b_k2 : ACode:=.pr [] (.seq (.reg [
  ⟨some 4,none,.mv (.c (.p (.bool true)))⟩] (some [4]))
 .ret)
def d_q06b_k2 (C : Hd) (gl : Nat → Option PV) (h : Heap) (x : Esc) (K : Ex → St → Prop) : Prop:=
 K .ret ⟨[(4,(.p (.bool true)))],h,x⟩
theorem e_q06b_k2 {C gl e h x K} : NW C gl p_q06b_k2 ⟨e,h,x⟩ K = d_q06b_k2 C gl h x K:=by kernel_rfl
def P_q06b (q1 q2 : ACode) : ACode:=(.seq (.reg [
  ⟨some 4,none,.mv (.c (.p (.bool false)))⟩] (some [0,1]))
 (.seq (.seq (.reg [
  ⟨some 6,none,.mv (.t 0)⟩,
  ⟨some 7,none,.len (.t 6)⟩,
  ⟨some 8,none,.mv (.t 1)⟩,
  ⟨some 9,none,.len (.t 8)⟩,
  ⟨some 10,none,.bin .neq (.t 7) (.t 9)⟩] (some [0,1,10]))
 (.cond (.t 10) (.seq (.reg [
  ⟨some 4,none,.mv (.c (.p (.bool false)))⟩] (some [4]))
 .ret)
 .skip))
 (.seq (.seq (.reg [
  ⟨some 11,none,.mv (.t 0)⟩,
  ⟨some 12,none,.len (.t 11)⟩,
  ⟨some 13,none,.mv (.c (.p (.int .i64 0)))⟩] (some [0,1,12,13]))
 (.block 0 (.loop q1)))
 q2)))
def a_q06b : AFun:=⟨2,[.t 4],P_q06b p_q06b_k1 p_q06b_k2,false,false⟩
def d_q06b (C : Hd) (gl : Nat → Option PV) (q1 q2 : ACode) (v0 v1 : AV) (h : Heap) (x : Esc) (K : Ex → St → Prop) : Prop:=
 pK (oLen v0) fun t1=>
 pK (oLen v1) fun t2=>
 pK (oBin .neq t1 t2) fun t3=>
 condB t3 (K .ret ⟨[(4,(.p (.bool false)))],h,x⟩)
 (pK (oLen v0) fun t4=>
 NW C gl (.loop q1) ⟨[(0,v0),(1,v1),(12,t4),(13,(.p (.int .i64 0)))],h,x⟩ (blockN 0 (seqN C gl q2 K)))
theorem E_q06b {C gl q1 q2 v0 v1 h x K} : NW C gl (P_q06b q1 q2) ⟨enter [v0,v1],h,x⟩ K = d_q06b C gl q1 q2 v0 v1 h x K:=by kernel_rfl
theorem e_q06b {C gl v0 v1 h x K} : NW C gl a_q06b.body ⟨enter [v0,v1],h,x⟩ K = d_q06b C gl p_q06b_k1 p_q06b_k2 v0 v1 h x K:=E_q06b
def p_q04t_k1 : ACode:=.pr [0,1,2,7,13,14,15] (.seq (.reg [
  ⟨some 16,none,.bin .lss (.t 15) (.t 14)⟩] (some [0,1,2,7,13,14,15,16]))
 (.seq (.cond (.t 16) .skip
 (.exit 0))
 (.seq (.block 1 (.seq (.reg [
  ⟨some 17,none,.iaddr none (.t 13) (.t 15)⟩,
  ⟨some 18,none,.load none (.t 17)⟩,
  ⟨some 9,none,.mv (.t 18)⟩] (some [0,1,2,7,9,13,14,15]))
 (.seq (.reg [
  ⟨some 20,none,.mv (.t 0)⟩,
  ⟨some 21,none,.mv (.t 0)⟩,
  ⟨some 22,none,.mv (.t 1)⟩,
  ⟨some 23,none,.mv (.t 9)⟩,
  ⟨some 24,none,.mv (.t 2)⟩,
  ⟨some 25,none,.call f_q05g [(.t 21),(.t 22),(.t 23),(.t 24)]⟩,
  ⟨some 26,none,.call f_q04q [(.t 20),(.t 25)]⟩,
  ⟨some 19,none,.mv (.t 26)⟩,
  ⟨some 27,none,.ext (.t 19) 0⟩,
  ⟨some 28,none,.ext (.t 19) 1⟩,
  ⟨some 10,none,.mv (.t 27)⟩,
  ⟨some 11,none,.mv (.t 28)⟩] (some [0,1,2,7,9,10,13,14,15]))
 (.reg [
  ⟨some 29,none,.mv (.t 7)⟩,
  ⟨some 30,none,.mv (.t 9)⟩,
  ⟨some 31,none,.mv (.t 10)⟩,
  ⟨some 32,none,.call f_q08p [(.t 31)]⟩,
  ⟨some 33,none,.build [.p (.str []),.p (.str [])] [(0,1,(.t 30)),(1,1,(.t 32))]⟩,
  ⟨some 34,none,.bsl false (some 2) 1 (.agg [.str [],.str []]) [(0,(.t 33))]⟩,
  ⟨some 35,none,.app (some 2) (.t 29) (.t 34)⟩,
  ⟨some 7,none,.mv (.t 35)⟩] (some [0,1,2,7,13,14,15])))))
 (.reg [
  ⟨some 36,none,.bin .add (.t 15) (.c (.p (.int .i64 1)))⟩,
  ⟨some 15,none,.mv (.t 36)⟩] (some [0,1,2,7,13,14,15])))))
def d_q04t_k1 (C : Hd) (gl : Nat → Option PV) (v0 v1 v2 v7 v13 v14 v15 : AV) (h : Heap) (x : Esc) (K : Ex → St → Prop) : Prop:=
 pK (oBin .lss v15 v14) fun t1=>
 condB t1 (pK (oIaddr none v13 v15 h) fun t2=>
 pK (oLoad none t2 h) fun t3=>
 C f_q05g [v0,v1,t3,v2] h fun t4 h5 y6=>
 C f_q04q [v0,t4] h5 fun t7 h8 y9=>
 pK (oExt t7 0) fun t10=>
 pK (oExt t7 1) fun t11=>
 C f_q08p [t10] h8 fun t12 h13 y14=>
 pK (oBuild [.p (.str []),.p (.str [])] [(0,1,t3),(1,1,t12)]) fun t15=>
 wK (oBsl false (some 2) 1 (.agg [.str [],.str []]) [(0,t15)] h13) fun t16 h17 y18=>
 wK (oApp (some 2) v7 t16 h17) fun t19 h20 y21=>
 pK (oBin .add v15 (.p (.int .i64 1))) fun t22=>
 K .normal ⟨[(0,v0),(1,v1),(2,v2),(7,t19),(13,v13),(14,v14),(15,t22)],h20,(y21 ++ (y18 ++ (y14 ++ (y9 ++ (y6 ++ x)))))⟩)
 (K (.exit 0) ⟨[(0,v0),(1,v1),(2,v2),(7,v7),(13,v13),(14,v14),(15,v15),(16,t1)],h,x⟩)
theorem e_q04t_k1 {C gl e h x K} : NW C gl p_q04t_k1 ⟨e,h,x⟩ K = d_q04t_k1 C gl (aget e 0) (aget e 1) (aget e 2) (aget e 7) (aget e 13) (aget e 14) (aget e 15) h x K:=by kernel_rfl
theorem l_q04t_k1 {C gl e h x K} : NW C gl (.loop (.scope p_q04t_k1)) ⟨e,h,x⟩ K = NLoop C gl (.scope p_q04t_k1) K [(0,aget e 0),(1,aget e 1),(2,aget e 2),(7,aget e 7),(13,aget e 13),(14,aget e 14),(15,aget e 15)] h x:=NLoop_sc
def p_q04t_k2 : ACode:=.pr [7] (.seq (.reg [
  ⟨some 37,none,.mv (.t 7)⟩,
  ⟨some 6,none,.mv (.t 37)⟩] (some [6]))
 .ret)
def d_q04t_k2 (C : Hd) (gl : Nat → Option PV) (v7 : AV) (h : Heap) (x : Esc) (K : Ex → St → Prop) : Prop:=
 K .ret ⟨[(6,v7)],h,x⟩
theorem e_q04t_k2 {C gl e h x K} : NW C gl p_q04t_k2 ⟨e,h,x⟩ K = d_q04t_k2 C gl (aget e 7) h x K:=by kernel_rfl
def P_q04t (q1 q2 : ACode) : ACode:=(.seq (.reg [
  ⟨some 6,none,.mv (.c (.p (.sl (some 2) [])))⟩] (some [0,1,2]))
 (.seq (.reg [
  ⟨some 7,none,.new0 (some 2)⟩] (some [0,1,2,7]))
 (.seq (.seq (.reg [
  ⟨some 12,none,.mv (.t 1)⟩,
  ⟨some 13,none,.call f_q05s [(.t 12)]⟩,
  ⟨some 14,none,.len (.t 13)⟩,
  ⟨some 15,none,.mv (.c (.p (.int .i64 0)))⟩] (some [0,1,2,7,13,14,15]))
 (.block 0 (.loop (.scope q1))))
 q2)))
def a_q04t : AFun:=⟨3,[.t 6],P_q04t p_q04t_k1 p_q04t_k2,false,false⟩
def d_q04t (C : Hd) (gl : Nat → Option PV) (q1 q2 : ACode) (v0 v1 v2 : AV) (h : Heap) (x : Esc) (K : Ex → St → Prop) : Prop:=
 nwK (some 2) h fun t1 h2 y3=>
 C f_q05s [v1] h2 fun t4 h5 y6=>
 pK (oLen t4) fun t7=>
 NW C gl (.loop (.scope q1)) ⟨[(0,v0),(1,v1),(2,v2),(7,t1),(13,t4),(14,t7),(15,(.p (.int .i64 0)))],h5,(y6 ++ (y3 ++ x))⟩ (blockN 0 (seqN C gl q2 K))
theorem E_q04t {C gl q1 q2 v0 v1 v2 h x K} : NW C gl (P_q04t q1 q2) ⟨enter [v0,v1,v2],h,x⟩ K = d_q04t C gl q1 q2 v0 v1 v2 h x K:=by kernel_rfl
theorem e_q04t {C gl v0 v1 v2 h x K} : NW C gl a_q04t.body ⟨enter [v0,v1,v2],h,x⟩ K = d_q04t C gl p_q04t_k1 p_q04t_k2 v0 v1 v2 h x K:=E_q04t
def P_q04f : ACode:=(.seq (.reg [
  ⟨some 4,none,.mv (.c (.p (.int .i64 0)))⟩] (some [0,1]))
 (.seq (.reg [
  ⟨some 7,none,.mv (.t 0)⟩,
  ⟨some 8,none,.nilchk (.t 7)⟩,
  ⟨some 9,none,.faddr 1 none (.t 8)⟩,
  ⟨some 10,none,.load none (.t 9)⟩,
  ⟨some 11,none,.bin .add (.t 10) (.c (.p (.int .i64 1)))⟩,
  ⟨some 12,none,.nilchk (.t 7)⟩,
  ⟨some 13,none,.faddr 1 none (.t 12)⟩,
  ⟨none,none,.store none (.t 13) (.t 11)⟩] (some [0,1]))
 (.seq (.seq (.reg [
  ⟨some 14,none,.mv (.t 0)⟩,
  ⟨some 15,none,.nilchk (.t 14)⟩,
  ⟨some 16,none,.faddr 0 none (.t 15)⟩,
  ⟨some 17,none,.load none (.t 16)⟩,
  ⟨some 18,none,.len (.t 17)⟩,
  ⟨some 19,none,.bin .eql (.t 18) (.c (.p (.int .i64 0)))⟩] (some [0,1,19]))
 (.cond (.t 19) (.seq (.reg [
  ⟨some 20,none,.mv (.t 0)⟩,
  ⟨some 21,none,.nilchk (.t 20)⟩,
  ⟨some 22,none,.faddr 1 none (.t 21)⟩,
  ⟨some 23,none,.load none (.t 22)⟩,
  ⟨some 24,none,.bin .mul (.t 23) (.c (.p (.int .i64 7919)))⟩,
  ⟨some 25,none,.mv (.t 1)⟩,
  ⟨some 26,none,.call f_q04b [(.t 24),(.t 25)]⟩,
  ⟨some 4,none,.mv (.t 26)⟩] (some [4]))
 .ret)
 .skip))
 (.seq (.draw [
   ⟨⟨some 27,none,.mv (.t 0)⟩,[0],false,[],[]⟩,
   ⟨⟨some 28,none,.nilchk (.t 27)⟩,[27],false,[],[]⟩,
   ⟨⟨some 29,none,.faddr 1 none (.t 28)⟩,[28],false,[],[]⟩,
   ⟨⟨some 30,none,.load none (.t 29)⟩,[29],false,[],[]⟩,
   ⟨⟨some 31,none,.bin .sub (.t 30) (.c (.p (.int .i64 1)))⟩,[30],false,[],[]⟩,
   ⟨⟨some 32,none,.mv (.t 0)⟩,[0],false,[],[]⟩,
   ⟨⟨some 33,none,.nilchk (.t 32)⟩,[32],false,[],[]⟩,
   ⟨⟨some 34,none,.faddr 0 none (.t 33)⟩,[33],false,[],[]⟩,
   ⟨⟨some 35,none,.load none (.t 34)⟩,[34],false,[],[]⟩,
   ⟨⟨some 36,none,.len (.t 35)⟩,[35],false,[],[]⟩,
   ⟨⟨some 37,none,.bin .rem (.t 31) (.t 36)⟩,[31,36],false,[],[]⟩,
   ⟨⟨some 5,none,.mv (.t 37)⟩,[37],false,[],[]⟩] (some [0,1,5]))
 (.seq (.draw [
   ⟨⟨some 38,none,.mv (.t 0)⟩,[0],false,[],[]⟩,
   ⟨⟨some 39,none,.nilchk (.t 38)⟩,[38],false,[],[]⟩,
   ⟨⟨some 40,none,.faddr 1 none (.t 39)⟩,[39],false,[],[]⟩,
   ⟨⟨some 41,none,.load none (.t 40)⟩,[40],false,[],[]⟩,
   ⟨⟨some 42,none,.bin .sub (.t 41) (.c (.p (.int .i64 1)))⟩,[41],false,[],[]⟩,
   ⟨⟨some 43,none,.mv (.t 0)⟩,[0],false,[],[]⟩,
   ⟨⟨some 44,none,.nilchk (.t 43)⟩,[43],false,[],[]⟩,
   ⟨⟨some 45,none,.faddr 0 none (.t 44)⟩,[44],false,[],[]⟩,
   ⟨⟨some 46,none,.load none (.t 45)⟩,[45],false,[],[]⟩,
   ⟨⟨some 47,none,.len (.t 46)⟩,[46],false,[],[]⟩,
   ⟨⟨some 48,none,.bin .quo (.t 42) (.t 47)⟩,[42,47],false,[],[]⟩,
   ⟨⟨some 6,none,.mv (.t 48)⟩,[48],false,[],[]⟩] (some [0,1,5,6]))
 (.seq (.reg [
  ⟨some 49,none,.mv (.t 0)⟩,
  ⟨some 50,none,.nilchk (.t 49)⟩,
  ⟨some 51,none,.faddr 0 none (.t 50)⟩,
  ⟨some 52,none,.load none (.t 51)⟩,
  ⟨some 53,none,.mv (.t 5)⟩,
  ⟨some 54,none,.iaddr none (.t 52) (.t 53)⟩,
  ⟨some 55,none,.load none (.t 54)⟩,
  ⟨some 56,none,.call f_q04b [(.t 55),(.c (.p (.int .i64 1073741824)))]⟩,
  ⟨some 57,none,.mv (.t 6)⟩,
  ⟨some 58,none,.mv (.t 5)⟩,
  ⟨some 59,none,.bin .add (.c (.p (.int .i64 7919))) (.t 58)⟩,
  ⟨some 60,none,.bin .mul (.t 57) (.t 59)⟩,
  ⟨some 61,none,.bin .add (.t 56) (.t 60)⟩,
  ⟨some 62,none,.mv (.t 1)⟩,
  ⟨some 63,none,.call f_q04b [(.t 61),(.t 62)]⟩,
  ⟨some 4,none,.mv (.t 63)⟩] (some [4]))
 .ret))))))
def a_q04f : AFun:=⟨2,[.t 4],P_q04f,false,false⟩
def d_q04f (C : Hd) (gl : Nat → Option PV) (v0 v1 : AV) (h : Heap) (x : Esc) (K : Ex → St → Prop) : Prop:=
 pK (oNil v0) fun t1=>
 pK (oFaddr 1 none t1) fun t2=>
 pK (oLoad none t2 h) fun t3=>
 pK (oBin .add t3 (.p (.int .i64 1))) fun t4=>
 pK (oNil v0) fun t5=>
 pK (oFaddr 1 none t5) fun t6=>
 wK (oStore none t6 t4 h) fun t7 h8 y9=>
 pK (oNil v0) fun t10=>
 pK (oFaddr 0 none t10) fun t11=>
 pK (oLoad none t11 h8) fun t12=>
 pK (oLen t12) fun t13=>
 pK (oBin .eql t13 (.p (.int .i64 0))) fun t14=>
 condB t14 (pK (oNil v0) fun t15=>
 pK (oFaddr 1 none t15) fun t16=>
 pK (oLoad none t16 h8) fun t17=>
 pK (oBin .mul t17 (.p (.int .i64 7919))) fun t18=>
 C f_q04b [t18,v1] h8 fun t19 h20 y21=>
 K .ret ⟨[(4,t19)],h20,(y21 ++ (y9 ++ x))⟩)
 (pK (oNil v0) fun t22=>
 pK (oFaddr 1 none t22) fun t23=>
 pK (oLoad none t23 h8) fun t24=>
 pK (oBin .sub t24 (.p (.int .i64 1))) fun t25=>
 pK (oNil v0) fun t26=>
 pK (oFaddr 0 none t26) fun t27=>
 pK (oLoad none t27 h8) fun t28=>
 pK (oLen t28) fun t29=>
 pK (oBin .rem t25 t29) fun t30=>
 pK (oNil v0) fun t31=>
 pK (oFaddr 1 none t31) fun t32=>
 pK (oLoad none t32 h8) fun t33=>
 pK (oBin .sub t33 (.p (.int .i64 1))) fun t34=>
 pK (oNil v0) fun t35=>
 pK (oFaddr 0 none t35) fun t36=>
 pK (oLoad none t36 h8) fun t37=>
 pK (oLen t37) fun t38=>
 pK (oBin .quo t34 t38) fun t39=>
 pK (oNil v0) fun t40=>
 pK (oFaddr 0 none t40) fun t41=>
 pK (oLoad none t41 h8) fun t42=>
 pK (oIaddr none t42 t30 h8) fun t43=>
 pK (oLoad none t43 h8) fun t44=>
 C f_q04b [t44,(.p (.int .i64 1073741824))] h8 fun t45 h46 y47=>
 pK (oBin .add (.p (.int .i64 7919)) t30) fun t48=>
 pK (oBin .mul t39 t48) fun t49=>
 pK (oBin .add t45 t49) fun t50=>
 C f_q04b [t50,v1] h46 fun t51 h52 y53=>
 K .ret ⟨[(4,t51)],h52,(y53 ++ (y47 ++ (y9 ++ x)))⟩)
theorem E_q04f {C gl v0 v1 h x K} : NW C gl (P_q04f) ⟨enter [v0,v1],h,x⟩ K = d_q04f C gl v0 v1 h x K:=by kernel_rfl
theorem e_q04f {C gl v0 v1 h x K} : NW C gl a_q04f.body ⟨enter [v0,v1],h,x⟩ K = d_q04f C gl v0 v1 h x K:=E_q04f
def P_q04h : ACode:=(.seq (.reg [
  ⟨some 4,none,.mv (.c (.p (.int .i64 0)))⟩] (some [0,1]))
 (.seq (.reg [
  ⟨some 5,none,.mv (.t 1)⟩,
  ⟨some 6,none,.mv (.t 0)⟩,
  ⟨some 7,none,.mv (.t 1)⟩,
  ⟨some 8,none,.len (.t 7)⟩,
  ⟨some 9,none,.call f_q04f [(.t 6),(.t 8)]⟩,
  ⟨some 10,none,.iaddr none (.t 5) (.t 9)⟩,
  ⟨some 11,none,.load none (.t 10)⟩,
  ⟨some 4,none,.mv (.t 11)⟩] (some [4]))
 .ret))
def a_q04h : AFun:=⟨2,[.t 4],P_q04h,false,false⟩
def d_q04h (C : Hd) (gl : Nat → Option PV) (v0 v1 : AV) (h : Heap) (x : Esc) (K : Ex → St → Prop) : Prop:=
 pK (oLen v1) fun t1=>
 C f_q04f [v0,t1] h fun t2 h3 y4=>
 pK (oIaddr none v1 t2 h3) fun t5=>
 pK (oLoad none t5 h3) fun t6=>
 K .ret ⟨[(4,t6)],h3,(y4 ++ x)⟩
theorem E_q04h {C gl v0 v1 h x K} : NW C gl (P_q04h) ⟨enter [v0,v1],h,x⟩ K = d_q04h C gl v0 v1 h x K:=by kernel_rfl
theorem e_q04h {C gl v0 v1 h x K} : NW C gl a_q04h.body ⟨enter [v0,v1],h,x⟩ K = d_q04h C gl v0 v1 h x K:=E_q04h
def P_q04d : ACode:=(.seq (.reg [
  ⟨some 4,none,.mv (.c (.p (.bool false)))⟩] (some [0,1]))
 (.seq (.reg [
  ⟨some 5,none,.mv (.t 0)⟩,
  ⟨some 6,none,.mv (.t 1)⟩,
  ⟨some 7,none,.call f_q04f [(.t 5),(.t 6)]⟩,
  ⟨some 8,none,.bin .eql (.t 7) (.c (.p (.int .i64 0)))⟩,
  ⟨some 4,none,.mv (.t 8)⟩] (some [4]))
 .ret))
def a_q04d : AFun:=⟨2,[.t 4],P_q04d,false,false⟩
def d_q04d (C : Hd) (gl : Nat → Option PV) (v0 v1 : AV) (h : Heap) (x : Esc) (K : Ex → St → Prop) : Prop:=
 C f_q04f [v0,v1] h fun t1 h2 y3=>
 pK (oBin .eql t1 (.p (.int .i64 0))) fun t4=>
 K .ret ⟨[(4,t4)],h2,(y3 ++ x)⟩
theorem E_q04d {C gl v0 v1 h x K} : NW C gl (P_q04d) ⟨enter [v0,v1],h,x⟩ K = d_q04d C gl v0 v1 h x K:=by kernel_rfl
theorem e_q04d {C gl v0 v1 h x K} : NW C gl a_q04d.body ⟨enter [v0,v1],h,x⟩ K = d_q04d C gl v0 v1 h x K:=E_q04d
def P_q04p : ACode:=(.seq (.reg [
  ⟨some 4,none,.mv (.c (.p (.str [])))⟩] (some [0,1]))
 (.seq (.reg [
  ⟨some 5,none,.mv (.t 1)⟩,
  ⟨some 6,none,.mv (.t 0)⟩,
  ⟨some 7,none,.mv (.t 1)⟩,
  ⟨some 8,none,.len (.t 7)⟩,
  ⟨some 9,none,.call f_q04f [(.t 6),(.t 8)]⟩,
  ⟨some 10,none,.iaddr none (.t 5) (.t 9)⟩,
  ⟨some 11,none,.load none (.t 10)⟩,
  ⟨some 4,none,.mv (.t 11)⟩] (some [4]))
 .ret))
def a_q04p : AFun:=⟨2,[.t 4],P_q04p,false,false⟩
def d_q04p (C : Hd) (gl : Nat → Option PV) (v0 v1 : AV) (h : Heap) (x : Esc) (K : Ex → St → Prop) : Prop:=
 pK (oLen v1) fun t1=>
 C f_q04f [v0,t1] h fun t2 h3 y4=>
 pK (oIaddr none v1 t2 h3) fun t5=>
 pK (oLoad none t5 h3) fun t6=>
 K .ret ⟨[(4,t6)],h3,(y4 ++ x)⟩
theorem E_q04p {C gl v0 v1 h x K} : NW C gl (P_q04p) ⟨enter [v0,v1],h,x⟩ K = d_q04p C gl v0 v1 h x K:=by kernel_rfl
theorem e_q04p {C gl v0 v1 h x K} : NW C gl a_q04p.body ⟨enter [v0,v1],h,x⟩ K = d_q04p C gl v0 v1 h x K:=E_q04p
def P_q06o : ACode:=(.reg [
  ⟨some 4,none,.mv (.t 0)⟩,
  ⟨some 5,none,.mv (.t 0)⟩,
  ⟨some 6,none,.len (.t 5)⟩,
  ⟨some 7,none,.mv (.t 1)⟩,
  ⟨some 8,none,.call f_q07z [(.t 4),(.t 6),(.t 7)]⟩] (some []))
def a_q06o : AFun:=⟨2,[],P_q06o,true,false⟩
def d_q06o (C : Hd) (gl : Nat → Option PV) (v0 v1 : AV) (h : Heap) (x : Esc) (K : Ex → St → Prop) : Prop:=
 pK (oLen v0) fun t1=>
 C f_q07z [v0,t1,v1] h fun t2 h3 y4=>
 K .normal ⟨[],h3,(y4 ++ x)⟩
theorem E_q06o {C gl v0 v1 h x K} : NW C gl (P_q06o) ⟨enter [v0,v1],h,x⟩ K = d_q06o C gl v0 v1 h x K:=by kernel_rfl
theorem e_q06o {C gl v0 v1 h x K} : NW C gl a_q06o.body ⟨enter [v0,v1],h,x⟩ K = d_q06o C gl v0 v1 h x K:=E_q06o
def P_q04l : ACode:=(.seq (.reg [
  ⟨some 2,none,.box (.t 0)⟩,
  ⟨some 3,none,.box (.t 1)⟩,
  ⟨some 4,none,.mv (.c (.p (.int .i64 0)))⟩] (some [2,3]))
 (.seq (.draw [
   ⟨⟨some 5,none,.faddr 1 none (.t 2)⟩,[2],false,[],[]⟩,
   ⟨⟨some 6,none,.load none (.t 5)⟩,[5],false,[],[]⟩,
   ⟨⟨some 7,none,.faddr 1 none (.t 3)⟩,[3],false,[],[]⟩,
   ⟨⟨some 8,none,.load none (.t 7)⟩,[7],false,[],[]⟩,
   ⟨⟨some 9,none,.call f_q00w [(.t 6),(.t 8)]⟩,[6,8],true,[],[]⟩,
   ⟨⟨some 10,none,.faddr 0 none (.t 2)⟩,[2],false,[],[]⟩,
   ⟨⟨some 11,none,.load none (.t 10)⟩,[10],false,[4],[]⟩,
   ⟨⟨some 12,none,.faddr 0 none (.t 3)⟩,[3],false,[],[]⟩,
   ⟨⟨some 13,none,.load none (.t 12)⟩,[12],false,[4],[]⟩,
   ⟨⟨some 14,none,.call f_q092 [(.t 11),(.t 13)]⟩,[11,13],true,[],[]⟩,
   ⟨⟨some 15,none,.bsl false none 2 (.int .i64 0) [(0,(.t 9)),(1,(.t 14))]⟩,[9,14],false,[],[]⟩,
   ⟨⟨some 16,none,.call f_q00z [(.t 15)]⟩,[15],true,[],[]⟩,
   ⟨⟨some 4,none,.mv (.t 16)⟩,[16],false,[],[]⟩] (some [4]))
 .ret))
def a_q04l : AFun:=⟨2,[.t 4],P_q04l,false,false⟩
def d_q04l (C : Hd) (gl : Nat → Option PV) (v0 v1 : AV) (h : Heap) (x : Esc) (K : Ex → St → Prop) : Prop:=
 wK (oBox v0 h) fun t1 h2 y3=>
 wK (oBox v1 h2) fun t4 h5 y6=>
 pK (oFaddr 1 none t1) fun t7=>
 pK (oLoad none t7 h5) fun t8=>
 pK (oFaddr 1 none t4) fun t9=>
 pK (oLoad none t9 h5) fun t10=>
 callE C f_q00w [t8,t10] h5 fun t11 h12 y13=>
 pK (oFaddr 0 none t1) fun t14=>
 pK (oLoad none t14 h12) fun t15=>
 (pK (oLoad none t14 h5) fun v=>(fun u (g1 : Heap) (y1 : Esc)=>u = t15 ∧ g1 = h5 ∧ y1 = []) v h5 []) ∧ (pK (oFaddr 0 none t4) fun t16=>
 pK (oLoad none t16 h12) fun t17=>
 (pK (oLoad none t16 h5) fun v=>(fun u (g1 : Heap) (y1 : Esc)=>u = t17 ∧ g1 = h5 ∧ y1 = []) v h5 []) ∧ (callE C f_q092 [t15,t17] h12 fun t18 h19 y20=>
 wK (oBsl false none 2 (.int .i64 0) [(0,t11),(1,t18)] h19) fun t21 h22 y23=>
 (h22 = h19 ∧ y23 = []) ∧ (callE C f_q00z [t21] h22 fun t24 h25 y26=>
 K .ret ⟨[(4,t24)],h25,(y26 ++ (y23 ++ (y20 ++ (y13 ++ (y6 ++ (y3 ++ x))))))⟩)))
theorem E_q04l {C gl v0 v1 h x K} : NW C gl (P_q04l) ⟨enter [v0,v1],h,x⟩ K = d_q04l C gl v0 v1 h x K:=by kernel_rfl
theorem e_q04l {C gl v0 v1 h x K} : NW C gl a_q04l.body ⟨enter [v0,v1],h,x⟩ K = d_q04l C gl v0 v1 h x K:=E_q04l
def p_q00z_k1 : ACode:=.pr [3,6,7,8] (.seq (.reg [
  ⟨some 9,none,.bin .lss (.t 8) (.t 7)⟩] (some [3,6,7,8,9]))
 (.seq (.cond (.t 9) .skip
 (.exit 0))
 (.seq (.block 1 (.seq (.reg [
  ⟨some 10,none,.iaddr none (.t 6) (.t 8)⟩,
  ⟨some 11,none,.load none (.t 10)⟩,
  ⟨some 5,none,.mv (.t 11)⟩] (some [3,5,6,7,8]))
 (.seq (.reg [
  ⟨some 12,none,.mv (.t 5)⟩,
  ⟨some 13,none,.mv (.t 3)⟩,
  ⟨some 14,none,.bin .neq (.t 12) (.t 13)⟩] (some [3,5,6,7,8,14]))
 (.cond (.t 14) (.seq (.reg [
  ⟨some 15,none,.mv (.t 5)⟩,
  ⟨some 2,none,.mv (.t 15)⟩] (some [2]))
 .ret)
 .skip))))
 (.reg [
  ⟨some 16,none,.bin .add (.t 8) (.c (.p (.int .i64 1)))⟩,
  ⟨some 8,none,.mv (.t 16)⟩] (some [3,6,7,8])))))
def d_q00z_k1 (C : Hd) (gl : Nat → Option PV) (v3 v6 v7 v8 : AV) (h : Heap) (x : Esc) (K : Ex → St → Prop) : Prop:=
 pK (oBin .lss v8 v7) fun t1=>
 condB t1 (pK (oIaddr none v6 v8 h) fun t2=>
 pK (oLoad none t2 h) fun t3=>
 pK (oBin .neq t3 v3) fun t4=>
 condB t4 (K .ret ⟨[(2,t3)],h,x⟩)
 (pK (oBin .add v8 (.p (.int .i64 1))) fun t5=>
 K .normal ⟨[(3,v3),(6,v6),(7,v7),(8,t5)],h,x⟩))
 (K (.exit 0) ⟨[(3,v3),(6,v6),(7,v7),(8,v8),(9,t1)],h,x⟩)
theorem e_q00z_k1 {C gl e h x K} : NW C gl p_q00z_k1 ⟨e,h,x⟩ K = d_q00z_k1 C gl (aget e 3) (aget e 6) (aget e 7) (aget e 8) h x K:=by kernel_rfl
theorem l_q00z_k1 {C gl e h x K} : NW C gl (.loop p_q00z_k1) ⟨e,h,x⟩ K = NLoop C gl p_q00z_k1 K [(3,aget e 3),(6,aget e 6),(7,aget e 7),(8,aget e 8)] h x:=NLoop_pr
def p_q00z_k2 : ACode:=.pr [3] (.seq (.reg [
  ⟨some 17,none,.mv (.t 3)⟩,
  ⟨some 2,none,.mv (.t 17)⟩] (some [2]))
 .ret)
def d_q00z_k2 (C : Hd) (gl : Nat → Option PV) (v3 : AV) (h : Heap) (x : Esc) (K : Ex → St → Prop) : Prop:=
 K .ret ⟨[(2,v3)],h,x⟩
theorem e_q00z_k2 {C gl e h x K} : NW C gl p_q00z_k2 ⟨e,h,x⟩ K = d_q00z_k2 C gl (aget e 3) h x K:=by kernel_rfl
def P_q00z (q1 q2 : ACode) : ACode:=(.seq (.reg [
  ⟨some 2,none,.mv (.c (.p (.int .i64 0)))⟩] (some [0]))
 (.seq (.reg [
  ⟨some 3,none,.mv (.c (.p (.int .i64 0)))⟩] (some [0,3]))
 (.seq (.seq (.reg [
  ⟨some 6,none,.mv (.t 0)⟩,
  ⟨some 7,none,.len (.t 6)⟩,
  ⟨some 8,none,.mv (.c (.p (.int .i64 0)))⟩] (some [3,6,7,8]))
 (.block 0 (.loop q1)))
 q2)))
def a_q00z : AFun:=⟨1,[.t 2],P_q00z p_q00z_k1 p_q00z_k2,false,false⟩
def d_q00z (C : Hd) (gl : Nat → Option PV) (q1 q2 : ACode) (v0 : AV) (h : Heap) (x : Esc) (K : Ex → St → Prop) : Prop:=
 pK (oLen v0) fun t1=>
 NW C gl (.loop q1) ⟨[(3,(.p (.int .i64 0))),(6,v0),(7,t1),(8,(.p (.int .i64 0)))],h,x⟩ (blockN 0 (seqN C gl q2 K))
theorem E_q00z {C gl q1 q2 v0 h x K} : NW C gl (P_q00z q1 q2) ⟨enter [v0],h,x⟩ K = d_q00z C gl q1 q2 v0 h x K:=by kernel_rfl
theorem e_q00z {C gl v0 h x K} : NW C gl a_q00z.body ⟨enter [v0],h,x⟩ K = d_q00z C gl p_q00z_k1 p_q00z_k2 v0 h x K:=E_q00z
def P_q00w : ACode:=(.seq (.reg [
  ⟨some 4,none,.mv (.c (.p (.int .i64 0)))⟩] (some [0,1]))
 (.seq (.reg [
  ⟨some 7,none,.mv (.t 0)⟩,
  ⟨some 8,none,.call f_q010 [(.t 7)]⟩,
  ⟨some 5,none,.mv (.t 8)⟩] (some [0,1,5]))
 (.seq (.reg [
  ⟨some 9,none,.mv (.t 1)⟩,
  ⟨some 10,none,.call f_q010 [(.t 9)]⟩,
  ⟨some 6,none,.mv (.t 10)⟩] (some [0,1,5,6]))
 (.seq (.seq (.reg [
  ⟨some 11,none,.mv (.t 5)⟩] (some [0,1,6,11]))
 (.cond (.t 11) (.seq (.seq (.reg [
  ⟨some 12,none,.mv (.t 6)⟩] (some [12]))
 (.cond (.t 12) (.seq (.reg [
  ⟨some 4,none,.mv (.c (.p (.int .i64 0)))⟩] (some [4]))
 .ret)
 .skip))
 (.seq (.reg [
  ⟨some 4,none,.mv (.c (.p (.int .i64 (-1))))⟩] (some [4]))
 .ret))
 .skip))
 (.seq (.seq (.reg [
  ⟨some 13,none,.mv (.t 6)⟩] (some [0,1,13]))
 (.cond (.t 13) (.seq (.reg [
  ⟨some 4,none,.mv (.c (.p (.int .i64 1)))⟩] (some [4]))
 .ret)
 .skip))
 (.seq (.seq (.reg [
  ⟨some 14,none,.mv (.t 0)⟩,
  ⟨some 15,none,.mv (.t 1)⟩,
  ⟨some 16,none,.bin .lss (.t 14) (.t 15)⟩] (some [0,1,16]))
 (.cond (.t 16) (.seq (.reg [
  ⟨some 4,none,.mv (.c (.p (.int .i64 (-1))))⟩] (some [4]))
 .ret)
 .skip))
 (.seq (.seq (.reg [
  ⟨some 17,none,.mv (.t 0)⟩,
  ⟨some 18,none,.mv (.t 1)⟩,
  ⟨some 19,none,.bin .gtr (.t 17) (.t 18)⟩] (some [19]))
 (.cond (.t 19) (.seq (.reg [
  ⟨some 4,none,.mv (.c (.p (.int .i64 1)))⟩] (some [4]))
 .ret)
 .skip))
 (.seq (.reg [
  ⟨some 4,none,.mv (.c (.p (.int .i64 0)))⟩] (some [4]))
 .ret))))))))
def a_q00w : AFun:=⟨2,[.t 4],P_q00w,false,false⟩
def d_q00w (C : Hd) (gl : Nat → Option PV) (v0 v1 : AV) (h : Heap) (x : Esc) (K : Ex → St → Prop) : Prop:=
 C f_q010 [v0] h fun t1 h2 y3=>
 C f_q010 [v1] h2 fun t4 h5 y6=>
 condB t1 (condB t4 (K .ret ⟨[(4,(.p (.int .i64 0)))],h5,(y6 ++ (y3 ++ x))⟩)
 (K .ret ⟨[(4,(.p (.int .i64 (-1))))],h5,(y6 ++ (y3 ++ x))⟩))
 (condB t4 (K .ret ⟨[(4,(.p (.int .i64 1)))],h5,(y6 ++ (y3 ++ x))⟩)
 (pK (oBin .lss v0 v1) fun t7=>
 condB t7 (K .ret ⟨[(4,(.p (.int .i64 (-1))))],h5,(y6 ++ (y3 ++ x))⟩)
 (pK (oBin .gtr v0 v1) fun t8=>
 condB t8 (K .ret ⟨[(4,(.p (.int .i64 1)))],h5,(y6 ++ (y3 ++ x))⟩)
 (K .ret ⟨[(4,(.p (.int .i64 0)))],h5,(y6 ++ (y3 ++ x))⟩))))
theorem E_q00w {C gl v0 v1 h x K} : NW C gl (P_q00w) ⟨enter [v0,v1],h,x⟩ K = d_q00w C gl v0 v1 h x K:=by kernel_rfl
theorem e_q00w {C gl v0 v1 h x K} : NW C gl a_q00w.body ⟨enter [v0,v1],h,x⟩ K = d_q00w C gl v0 v1 h x K:=E_q00w
def P_q092 : ACode:=(.seq (.reg [
  ⟨some 4,none,.mv (.c (.p (.int .i64 0)))⟩] (some [0,1]))
 (.seq (.reg [
  ⟨some 5,none,.mv (.t 0)⟩,
  ⟨some 6,none,.mv (.t 1)⟩,
  ⟨some 7,none,.call f_q01h [(.t 5),(.t 6)]⟩,
  ⟨some 4,none,.mv (.t 7)⟩] (some [4]))
 .ret))
def a_q092 : AFun:=⟨2,[.t 4],P_q092,false,false⟩
def d_q092 (C : Hd) (gl : Nat → Option PV) (v0 v1 : AV) (h : Heap) (x : Esc) (K : Ex → St → Prop) : Prop:=
 C f_q01h [v0,v1] h fun t1 h2 y3=>
 K .ret ⟨[(4,t1)],h2,(y3 ++ x)⟩
theorem E_q092 {C gl v0 v1 h x K} : NW C gl (P_q092) ⟨enter [v0,v1],h,x⟩ K = d_q092 C gl v0 v1 h x K:=by kernel_rfl
theorem e_q092 {C gl v0 v1 h x K} : NW C gl a_q092.body ⟨enter [v0,v1],h,x⟩ K = d_q092 C gl v0 v1 h x K:=E_q092
def p_q05w_k1 : ACode:=.pr [0,1,5,6,7] (.reg [
  ⟨some 36,none,.mv (.t 7)⟩,
  ⟨some 37,none,.bin .add (.t 36) (.c (.p (.int .i64 1)))⟩,
  ⟨some 7,none,.mv (.t 37)⟩] (some [0,1,5,6,7]))
def d_q05w_k1 (C : Hd) (gl : Nat → Option PV) (v0 v1 v5 v6 v7 : AV) (h : Heap) (x : Esc) (K : Ex → St → Prop) : Prop:=
 pK (oBin .add v7 (.p (.int .i64 1))) fun t1=>
 K .normal ⟨[(0,v0),(1,v1),(5,v5),(6,v6),(7,t1)],h,x⟩
theorem e_q05w_k1 {C gl e h x K} : NW C gl p_q05w_k1 ⟨e,h,x⟩ K = d_q05w_k1 C gl (aget e 0) (aget e 1) (aget e 5) (aget e 6) (aget e 7) h x K:=by kernel_rfl
def P_q05w_k2 (q1 : ACode) : ACode:=.pr [0,1,5,6,7] (.seq (.seq (.reg [
  ⟨some 32,none,.mv (.t 7)⟩,
  ⟨some 33,none,.mv (.t 6)⟩,
  ⟨some 34,none,.len (.t 33)⟩,
  ⟨some 35,none,.bin .lss (.t 32) (.t 34)⟩] (some [0,1,5,6,7,35]))
 (.cond (.t 35) .skip
 (.exit 2)))
 (.seq (.block 3 (.seq (.draw [
   ⟨⟨some 38,none,.mv (.t 1)⟩,[1],false,[],[]⟩,
   ⟨⟨some 39,none,.mv (.t 6)⟩,[6],false,[],[]⟩,
   ⟨⟨some 40,none,.mv (.t 7)⟩,[7],false,[],[]⟩,
   ⟨⟨some 41,none,.iaddr (some 4) (.t 39) (.t 40)⟩,[39,40],false,[],[]⟩,
   ⟨⟨some 42,none,.load (some 4) (.t 41)⟩,[41],false,[],[]⟩,
   ⟨⟨some 43,none,.mv (.t 6)⟩,[6],false,[],[]⟩,
   ⟨⟨some 44,none,.mv (.t 7)⟩,[7],false,[],[]⟩,
   ⟨⟨some 45,none,.bin .sub (.t 44) (.c (.p (.int .i64 1)))⟩,[44],false,[],[]⟩,
   ⟨⟨some 46,none,.iaddr (some 4) (.t 43) (.t 45)⟩,[43,45],false,[],[]⟩,
   ⟨⟨some 47,none,.load (some 4) (.t 46)⟩,[46],false,[],[]⟩,
   ⟨⟨some 48,none,.callv (.t 38) [(.t 42),(.t 47)]⟩,[38,42,47],true,[],[]⟩,
   ⟨⟨some 49,none,.un .not (.t 48)⟩,[48],false,[],[]⟩] (some [0,1,5,6,7,49]))
 (.cond (.t 49) (.seq (.reg [
  ⟨some 50,none,.mv (.t 0)⟩,
  ⟨some 51,none,.mv (.t 5)⟩,
  ⟨some 52,none,.mv (.t 6)⟩,
  ⟨some 53,none,.mv (.t 7)⟩,
  ⟨some 54,none,.iaddr (some 4) (.t 52) (.t 53)⟩,
  ⟨some 55,none,.load (some 4) (.t 54)⟩,
  ⟨some 56,none,.iaddr (some 4) (.t 50) (.t 51)⟩,
  ⟨none,none,.store (some 4) (.t 56) (.t 55)⟩] (some [0,1,5,6,7]))
 (.reg [
  ⟨some 57,none,.mv (.t 5)⟩,
  ⟨some 58,none,.bin .add (.t 57) (.c (.p (.int .i64 1)))⟩,
  ⟨some 5,none,.mv (.t 58)⟩] (some [0,1,5,6,7])))
 .skip)))
 q1))
def p_q05w_k2 : ACode:=P_q05w_k2 p_q05w_k1
def d_q05w_k2 (C : Hd) (gl : Nat → Option PV) (q1 : ACode) (v0 v1 v5 v6 v7 : AV) (h : Heap) (x : Esc) (K : Ex → St → Prop) : Prop:=
 pK (oLen v6) fun t1=>
 pK (oBin .lss v7 t1) fun t2=>
 condB t2 (pK (oIaddr (some 4) v6 v7 h) fun t3=>
 pK (oLoad (some 4) t3 h) fun t4=>
 pK (oBin .sub v7 (.p (.int .i64 1))) fun t5=>
 pK (oIaddr (some 4) v6 t5 h) fun t6=>
 pK (oLoad (some 4) t6 h) fun t7=>
 callvE C v1 [t4,t7] h fun t8 h9 y10=>
 pK (oUn .not t8) fun t11=>
 condB t11 (pK (oIaddr (some 4) v6 v7 h9) fun t12=>
 pK (oLoad (some 4) t12 h9) fun t13=>
 pK (oIaddr (some 4) v0 v5 h9) fun t14=>
 wK (oStore (some 4) t14 t13 h9) fun t15 h16 y17=>
 pK (oBin .add v5 (.p (.int .i64 1))) fun t18=>
 NW C gl q1 ⟨[(0,v0),(1,v1),(5,t18),(6,v6),(7,v7)],h16,(y17 ++ (y10 ++ x))⟩ K)
 (NW C gl q1 ⟨[(0,v0),(1,v1),(5,v5),(6,v6),(7,v7),(49,t11)],h9,(y10 ++ x)⟩ K))
 (K (.exit 2) ⟨[(0,v0),(1,v1),(5,v5),(6,v6),(7,v7),(35,t2)],h,x⟩)
theorem E_q05w_k2 {C gl q1 e h x K} : NW C gl (P_q05w_k2 q1) ⟨e,h,x⟩ K = d_q05w_k2 C gl q1 (aget e 0) (aget e 1) (aget e 5) (aget e 6) (aget e 7) h x K:=by kernel_rfl
theorem e_q05w_k2 {C gl e h x K} : NW C gl p_q05w_k2 ⟨e,h,x⟩ K = d_q05w_k2 C gl p_q05w_k1 (aget e 0) (aget e 1) (aget e 5) (aget e 6) (aget e 7) h x K:=E_q05w_k2
theorem l_q05w_k2 {C gl e h x K} : NW C gl (.loop p_q05w_k2) ⟨e,h,x⟩ K = NLoop C gl p_q05w_k2 K [(0,aget e 0),(1,aget e 1),(5,aget e 5),(6,aget e 6),(7,aget e 7)] h x:=NLoop_pr
def p_q05w_k3 : ACode:=.pr [0,5] (.seq (.reg [
  ⟨some 59,none,.mv (.t 0)⟩,
  ⟨some 60,none,.mv (.t 5)⟩,
  ⟨some 61,none,.slice (some 4) (.t 59) (some (.t 60)) none none⟩,
  ⟨none,none,.clr (some 4) (.agg [.str [],.int .i64 0,.str [],.sl none []]) (.t 61)⟩] (some [0,5]))
 (.seq (.reg [
  ⟨some 62,none,.mv (.t 0)⟩,
  ⟨some 63,none,.mv (.t 5)⟩,
  ⟨some 64,none,.slice (some 4) (.t 62) none (some (.t 63)) none⟩,
  ⟨some 4,none,.mv (.t 64)⟩] (some [4]))
 .ret))
def d_q05w_k3 (C : Hd) (gl : Nat → Option PV) (v0 v5 : AV) (h : Heap) (x : Esc) (K : Ex → St → Prop) : Prop:=
 pK (oSlice (some 4) v0 (some v5) none none h) fun t1=>
 wK (oClr (some 4) (.agg [.str [],.int .i64 0,.str [],.sl none []]) t1 h) fun t2 h3 y4=>
 pK (oSlice (some 4) v0 none (some v5) none h3) fun t5=>
 K .ret ⟨[(4,t5)],h3,(y4 ++ x)⟩
theorem e_q05w_k3 {C gl e h x K} : NW C gl p_q05w_k3 ⟨e,h,x⟩ K = d_q05w_k3 C gl (aget e 0) (aget e 5) h x K:=by kernel_rfl
def p_q05w_k4 : ACode:=.pr [0,1,5] (.reg [
  ⟨some 16,none,.mv (.t 5)⟩,
  ⟨some 17,none,.bin .add (.t 16) (.c (.p (.int .i64 1)))⟩,
  ⟨some 5,none,.mv (.t 17)⟩] (some [0,1,5]))
def d_q05w_k4 (C : Hd) (gl : Nat → Option PV) (v0 v1 v5 : AV) (h : Heap) (x : Esc) (K : Ex → St → Prop) : Prop:=
 pK (oBin .add v5 (.p (.int .i64 1))) fun t1=>
 K .normal ⟨[(0,v0),(1,v1),(5,t1)],h,x⟩
theorem e_q05w_k4 {C gl e h x K} : NW C gl p_q05w_k4 ⟨e,h,x⟩ K = d_q05w_k4 C gl (aget e 0) (aget e 1) (aget e 5) h x K:=by kernel_rfl
def P_q05w_k5 (q2 q3 q4 : ACode) : ACode:=.pr [0,1,5] (.seq (.seq (.reg [
  ⟨some 12,none,.mv (.t 5)⟩,
  ⟨some 13,none,.mv (.t 0)⟩,
  ⟨some 14,none,.len (.t 13)⟩,
  ⟨some 15,none,.bin .lss (.t 12) (.t 14)⟩] (some [0,1,5,15]))
 (.cond (.t 15) .skip
 (.exit 0)))
 (.seq (.block 1 (.seq (.draw [
   ⟨⟨some 18,none,.mv (.t 1)⟩,[1],false,[],[]⟩,
   ⟨⟨some 19,none,.mv (.t 0)⟩,[0],false,[],[]⟩,
   ⟨⟨some 20,none,.mv (.t 5)⟩,[5],false,[],[]⟩,
   ⟨⟨some 21,none,.iaddr (some 4) (.t 19) (.t 20)⟩,[19,20],false,[],[]⟩,
   ⟨⟨some 22,none,.load (some 4) (.t 21)⟩,[21],false,[],[]⟩,
   ⟨⟨some 23,none,.mv (.t 0)⟩,[0],false,[],[]⟩,
   ⟨⟨some 24,none,.mv (.t 5)⟩,[5],false,[],[]⟩,
   ⟨⟨some 25,none,.bin .sub (.t 24) (.c (.p (.int .i64 1)))⟩,[24],false,[],[]⟩,
   ⟨⟨some 26,none,.iaddr (some 4) (.t 23) (.t 25)⟩,[23,25],false,[],[]⟩,
   ⟨⟨some 27,none,.load (some 4) (.t 26)⟩,[26],false,[],[]⟩,
   ⟨⟨some 28,none,.callv (.t 18) [(.t 22),(.t 27)]⟩,[18,22,27],true,[],[]⟩] (some [0,1,5,28]))
 (.cond (.t 28) (.seq (.reg [
  ⟨some 29,none,.mv (.t 0)⟩,
  ⟨some 30,none,.mv (.t 5)⟩,
  ⟨some 31,none,.slice (some 4) (.t 29) (some (.t 30)) none none⟩,
  ⟨some 6,none,.mv (.t 31)⟩] (some [0,1,5,6]))
 (.seq (.seq (.reg [
  ⟨some 7,none,.mv (.c (.p (.int .i64 1)))⟩] (some [0,1,5,6,7]))
 (.block 2 (.loop q2)))
 q3))
 .skip)))
 q4))
def p_q05w_k5 : ACode:=P_q05w_k5 p_q05w_k2 p_q05w_k3 p_q05w_k4
def d_q05w_k5 (C : Hd) (gl : Nat → Option PV) (q2 q3 q4 : ACode) (v0 v1 v5 : AV) (h : Heap) (x : Esc) (K : Ex → St → Prop) : Prop:=
 pK (oLen v0) fun t1=>
 pK (oBin .lss v5 t1) fun t2=>
 condB t2 (pK (oIaddr (some 4) v0 v5 h) fun t3=>
 pK (oLoad (some 4) t3 h) fun t4=>
 pK (oBin .sub v5 (.p (.int .i64 1))) fun t5=>
 pK (oIaddr (some 4) v0 t5 h) fun t6=>
 pK (oLoad (some 4) t6 h) fun t7=>
 callvE C v1 [t4,t7] h fun t8 h9 y10=>
 condB t8 (pK (oSlice (some 4) v0 (some v5) none none h9) fun t11=>
 NW C gl (.loop q2) ⟨[(0,v0),(1,v1),(5,v5),(6,t11),(7,(.p (.int .i64 1)))],h9,(y10 ++ x)⟩ (blockN 2 (seqN C gl q3 (blockN 1 (seqN C gl q4 K)))))
 (NW C gl q4 ⟨[(0,v0),(1,v1),(5,v5),(28,t8)],h9,(y10 ++ x)⟩ K))
 (K (.exit 0) ⟨[(0,v0),(1,v1),(5,v5),(15,t2)],h,x⟩)
theorem E_q05w_k5 {C gl q2 q3 q4 e h x K} : NW C gl (P_q05w_k5 q2 q3 q4) ⟨e,h,x⟩ K = d_q05w_k5 C gl q2 q3 q4 (aget e 0) (aget e 1) (aget e 5) h x K:=by kernel_rfl
theorem e_q05w_k5 {C gl e h x K} : NW C gl p_q05w_k5 ⟨e,h,x⟩ K = d_q05w_k5 C gl p_q05w_k2 p_q05w_k3 p_q05w_k4 (aget e 0) (aget e 1) (aget e 5) h x K:=E_q05w_k5
theorem l_q05w_k5 {C gl e h x K} : NW C gl (.loop p_q05w_k5) ⟨e,h,x⟩ K = NLoop C gl p_q05w_k5 K [(0,aget e 0),(1,aget e 1),(5,aget e 5)] h x:=NLoop_pr
def p_q05w_k6 : ACode:=.pr [0] (.seq (.reg [
  ⟨some 65,none,.mv (.t 0)⟩,
  ⟨some 4,none,.mv (.t 65)⟩] (some [4]))
 .ret)
def d_q05w_k6 (C : Hd) (gl : Nat → Option PV) (v0 : AV) (h : Heap) (x : Esc) (K : Ex → St → Prop) : Prop:=
 K .ret ⟨[(4,v0)],h,x⟩
theorem e_q05w_k6 {C gl e h x K} : NW C gl p_q05w_k6 ⟨e,h,x⟩ K = d_q05w_k6 C gl (aget e 0) h x K:=by kernel_rfl
def P_q05w (q5 q6 : ACode) : ACode:=(.seq (.reg [
  ⟨some 4,none,.mv (.c (.p (.sl (some 4) [])))⟩] (some [0,1]))
 (.seq (.seq (.reg [
  ⟨some 8,none,.mv (.t 0)⟩,
  ⟨some 9,none,.len (.t 8)⟩,
  ⟨some 10,none,.bin .lss (.t 9) (.c (.p (.int .i64 2)))⟩] (some [0,1,10]))
 (.cond (.t 10) (.seq (.reg [
  ⟨some 11,none,.mv (.t 0)⟩,
  ⟨some 4,none,.mv (.t 11)⟩] (some [4]))
 .ret)
 .skip))
 (.seq (.seq (.reg [
  ⟨some 5,none,.mv (.c (.p (.int .i64 1)))⟩] (some [0,1,5]))
 (.block 0 (.loop q5)))
 q6)))
def a_q05w : AFun:=⟨2,[.t 4],P_q05w p_q05w_k5 p_q05w_k6,true,false⟩
def d_q05w (C : Hd) (gl : Nat → Option PV) (q5 q6 : ACode) (v0 v1 : AV) (h : Heap) (x : Esc) (K : Ex → St → Prop) : Prop:=
 pK (oLen v0) fun t1=>
 pK (oBin .lss t1 (.p (.int .i64 2))) fun t2=>
 condB t2 (K .ret ⟨[(4,v0)],h,x⟩)
 (NW C gl (.loop q5) ⟨[(0,v0),(1,v1),(5,(.p (.int .i64 1)))],h,x⟩ (blockN 0 (seqN C gl q6 K)))
theorem E_q05w {C gl q5 q6 v0 v1 h x K} : NW C gl (P_q05w q5 q6) ⟨enter [v0,v1],h,x⟩ K = d_q05w C gl q5 q6 v0 v1 h x K:=by kernel_rfl
theorem e_q05w {C gl v0 v1 h x K} : NW C gl a_q05w.body ⟨enter [v0,v1],h,x⟩ K = d_q05w C gl p_q05w_k5 p_q05w_k6 v0 v1 h x K:=E_q05w
end Go.Am
end
