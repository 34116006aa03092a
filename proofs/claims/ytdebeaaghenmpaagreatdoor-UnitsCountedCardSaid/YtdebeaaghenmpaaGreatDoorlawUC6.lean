/- Texts of the proof, laid together: CodesC. -/
import Derived.KernelRfl
import Derived.Test.YtdebeaaghenmpaaGreatDoorlawUC5
set_option linter.all false
section
/- The functions as abstract code,and as formulas over their values: printed by program out of the translation. -/
set_option linter.unusedVariables false
set_option maxRecDepth 100000
namespace Go.Am
def P_q04m : ACode:=(.seq (.reg [
  ⟨some 2,none,.box (.t 0)⟩,
  ⟨some 3,none,.box (.t 1)⟩,
  ⟨some 4,none,.mv (.c (.p (.bool false)))⟩] (some [2,3]))
 (.seq (.reg [
  ⟨some 5,none,.faddr 1 none (.t 2)⟩,
  ⟨some 6,none,.load none (.t 5)⟩,
  ⟨some 7,none,.faddr 1 none (.t 3)⟩,
  ⟨some 8,none,.load none (.t 7)⟩,
  ⟨some 9,none,.bin .eql (.t 6) (.t 8)⟩,
  ⟨some 10,none,.mv (.t 9)⟩,
  ⟨some 11,(some (10,true)),.faddr 0 none (.t 2)⟩,
  ⟨some 12,(some (10,true)),.load none (.t 11)⟩,
  ⟨some 13,(some (10,true)),.faddr 0 none (.t 3)⟩,
  ⟨some 14,(some (10,true)),.load none (.t 13)⟩,
  ⟨some 15,(some (10,true)),.bin .eql (.t 12) (.t 14)⟩,
  ⟨some 16,none,.pick (.t 10) (.t 15) (.c (.p (.bool false)))⟩,
  ⟨some 4,none,.mv (.t 16)⟩] (some [4]))
 .ret))
def a_q04m : AFun:=⟨2,[.t 4],P_q04m,false,false⟩
def d_q04m (C : Hd) (gl : Nat → Option PV) (v0 v1 : AV) (h : Heap) (x : Esc) (K : Ex → St → Prop) : Prop:=
 wK (oBox v0 h) fun t1 h2 y3=>
 wK (oBox v1 h2) fun t4 h5 y6=>
 pK (oFaddr 1 none t1) fun t7=>
 pK (oLoad none t7 h5) fun t8=>
 pK (oFaddr 1 none t4) fun t9=>
 pK (oLoad none t9 h5) fun t10=>
 pK (oBin .eql t8 t10) fun t11=>
 gP t11 true (oFaddr 0 none t1) h5 fun t12 h13 y14=>
 gP t11 true (oLoad none t12 h13) h13 fun t15 h16 y17=>
 gP t11 true (oFaddr 0 none t4) h16 fun t18 h19 y20=>
 gP t11 true (oLoad none t18 h19) h19 fun t21 h22 y23=>
 gP t11 true (oBin .eql t15 t21) h22 fun t24 h25 y26=>
 pK (oPick t11 t24 (.p (.bool false))) fun t27=>
 K .ret ⟨[(4,t27)],h25,(y26 ++ (y23 ++ (y20 ++ (y17 ++ (y14 ++ (y6 ++ (y3 ++ x)))))))⟩
theorem E_q04m {C gl v0 v1 h x K} : NW C gl (P_q04m) ⟨enter [v0,v1],h,x⟩ K = d_q04m C gl v0 v1 h x K:=by kernel_rfl
theorem e_q04m {C gl v0 v1 h x K} : NW C gl a_q04m.body ⟨enter [v0,v1],h,x⟩ K = d_q04m C gl v0 v1 h x K:=E_q04m
def p_q04v_k1 : ACode:=.pr [0,13,14,15] (.seq (.reg [
  ⟨some 16,none,.bin .lss (.t 15) (.t 14)⟩] (some [0,13,14,15,16]))
 (.seq (.cond (.t 16) .skip
 (.exit 1))
 (.seq (.block 2 (.seq (.reg [
  ⟨some 17,none,.mv (.t 15)⟩,
  ⟨some 18,none,.iaddr (some 4) (.t 13) (.t 15)⟩,
  ⟨some 19,none,.load (some 4) (.t 18)⟩,
  ⟨some 4,none,.alloc [.p (.str []),.p (.int .i64 0),.p (.int .i64 0),.p (.int .i64 0)]⟩,
  ⟨some 3,none,.mv (.t 17)⟩,
  ⟨none,none,.store (some 4) (.t 4) (.t 19)⟩] (some [0,3,4,13,14,15]))
 (.block 3 (.seq (.reg [
  ⟨some 21,none,.faddr 0 none (.t 4)⟩,
  ⟨some 22,none,.load none (.t 21)⟩,
  ⟨some 23,none,.call f_q04u [(.t 22)]⟩,
  ⟨some 24,none,.un .not (.t 23)⟩,
  ⟨some 20,none,.mv (.t 24)⟩] (some [0,3,4,13,14,15,20]))
 (.cond (.t 20) (.seq (.reg [
  ⟨some 2,none,.mv (.c (.p (.int .i64 5)))⟩] (some [2]))
 .ret)
 (.seq (.draw [
   ⟨⟨some 26,none,.mv (.t 0)⟩,[0],false,[],[]⟩,
   ⟨⟨some 27,none,.mv (.t 3)⟩,[3],false,[],[]⟩,
   ⟨⟨some 28,none,.slice (some 4) (.t 26) none (some (.t 27)) none⟩,[26,27],false,[],[]⟩,
   ⟨⟨some 29,none,.faddr 0 none (.t 4)⟩,[4],false,[],[]⟩,
   ⟨⟨some 30,none,.load none (.t 29)⟩,[29],false,[],[]⟩,
   ⟨⟨some 31,none,.call f_q05b [(.t 28),(.t 30)]⟩,[28,30],true,[],[]⟩,
   ⟨⟨some 32,none,.bin .geq (.t 31) (.c (.p (.int .i64 0)))⟩,[31],false,[],[]⟩,
   ⟨⟨some 25,none,.mv (.t 32)⟩,[32],false,[],[]⟩] (some [0,4,13,14,15,25]))
 (.cond (.t 25) (.seq (.reg [
  ⟨some 2,none,.mv (.c (.p (.int .i64 6)))⟩] (some [2]))
 .ret)
 (.seq (.reg [
  ⟨some 34,none,.faddr 1 none (.t 4)⟩,
  ⟨some 35,none,.load none (.t 34)⟩,
  ⟨some 36,none,.faddr 2 none (.t 4)⟩,
  ⟨some 37,none,.load none (.t 36)⟩,
  ⟨some 38,none,.call f_q05l [(.t 35),(.c (.p (.int .i64 (-100000)))),(.t 37)]⟩,
  ⟨some 39,none,.un .not (.t 38)⟩,
  ⟨some 40,none,.mv (.t 39)⟩,
  ⟨some 41,(some (40,false)),.faddr 2 none (.t 4)⟩,
  ⟨some 42,(some (40,false)),.load none (.t 41)⟩,
  ⟨some 43,(some (40,false)),.bin .gtr (.t 42) (.c (.p (.int .i64 100000)))⟩,
  ⟨some 44,none,.pick (.t 40) (.c (.p (.bool true))) (.t 43)⟩,
  ⟨some 45,none,.mv (.t 44)⟩,
  ⟨some 46,(some (45,false)),.faddr 3 none (.t 4)⟩,
  ⟨some 47,(some (45,false)),.load none (.t 46)⟩,
  ⟨some 48,(some (45,false)),.call f_q05l [(.t 47),(.c (.p (.int .i64 2))),(.c (.p (.int .i64 100)))]⟩,
  ⟨some 49,(some (45,false)),.un .not (.t 48)⟩,
  ⟨some 50,none,.pick (.t 45) (.c (.p (.bool true))) (.t 49)⟩,
  ⟨some 33,none,.mv (.t 50)⟩] (some [0,13,14,15,33]))
 (.cond (.t 33) (.seq (.reg [
  ⟨some 2,none,.mv (.c (.p (.int .i64 1)))⟩] (some [2]))
 .ret)
 .skip)))))))))
 (.reg [
  ⟨some 51,none,.bin .add (.t 15) (.c (.p (.int .i64 1)))⟩,
  ⟨some 15,none,.mv (.t 51)⟩] (some [0,13,14,15])))))
def d_q04v_k1 (C : Hd) (gl : Nat → Option PV) (v0 v13 v14 v15 : AV) (h : Heap) (x : Esc) (K : Ex → St → Prop) : Prop:=
 pK (oBin .lss v15 v14) fun t1=>
 condB t1 (pK (oIaddr (some 4) v13 v15 h) fun t2=>
 pK (oLoad (some 4) t2 h) fun t3=>
 alK [.p (.str []),.p (.int .i64 0),.p (.int .i64 0),.p (.int .i64 0)] h fun t4 h5 y6=>
 wK (oStore (some 4) t4 t3 h5) fun t7 h8 y9=>
 pK (oFaddr 0 none t4) fun t10=>
 pK (oLoad none t10 h8) fun t11=>
 C f_q04u [t11] h8 fun t12 h13 y14=>
 pK (oUn .not t12) fun t15=>
 condB t15 (K .ret ⟨[(2,(.p (.int .i64 5)))],h13,(y14 ++ (y9 ++ (y6 ++ x)))⟩)
 (pK (oSlice (some 4) v0 none (some v15) none h13) fun t16=>
 pK (oFaddr 0 none t4) fun t17=>
 pK (oLoad none t17 h13) fun t18=>
 callE C f_q05b [t16,t18] h13 fun t19 h20 y21=>
 pK (oBin .geq t19 (.p (.int .i64 0))) fun t22=>
 condB t22 (K .ret ⟨[(2,(.p (.int .i64 6)))],h20,(y21 ++ (y14 ++ (y9 ++ (y6 ++ x))))⟩)
 (pK (oFaddr 1 none t4) fun t23=>
 pK (oLoad none t23 h20) fun t24=>
 pK (oFaddr 2 none t4) fun t25=>
 pK (oLoad none t25 h20) fun t26=>
 C f_q05l [t24,(.p (.int .i64 (-100000))),t26] h20 fun t27 h28 y29=>
 pK (oUn .not t27) fun t30=>
 gP t30 false (oFaddr 2 none t4) h28 fun t31 h32 y33=>
 gP t30 false (oLoad none t31 h32) h32 fun t34 h35 y36=>
 gP t30 false (oBin .gtr t34 (.p (.int .i64 100000))) h35 fun t37 h38 y39=>
 pK (oPick t30 (.p (.bool true)) t37) fun t40=>
 gP t40 false (oFaddr 3 none t4) h38 fun t41 h42 y43=>
 gP t40 false (oLoad none t41 h42) h42 fun t44 h45 y46=>
 gV t40 false h45 (C f_q05l [t44,(.p (.int .i64 2)),(.p (.int .i64 100))] h45) fun t47 h48 y49=>
 gP t40 false (oUn .not t47) h48 fun t50 h51 y52=>
 pK (oPick t40 (.p (.bool true)) t50) fun t53=>
 condB t53 (K .ret ⟨[(2,(.p (.int .i64 1)))],h51,(y52 ++ (y49 ++ (y46 ++ (y43 ++ (y39 ++ (y36 ++ (y33 ++ (y29 ++ (y21 ++ (y14 ++ (y9 ++ (y6 ++ x))))))))))))⟩)
 (pK (oBin .add v15 (.p (.int .i64 1))) fun t54=>
 K .normal ⟨[(0,v0),(13,v13),(14,v14),(15,t54)],h51,(y52 ++ (y49 ++ (y46 ++ (y43 ++ (y39 ++ (y36 ++ (y33 ++ (y29 ++ (y21 ++ (y14 ++ (y9 ++ (y6 ++ x))))))))))))⟩))))
 (K (.exit 1) ⟨[(0,v0),(13,v13),(14,v14),(15,v15),(16,t1)],h,x⟩)
theorem e_q04v_k1 {C gl e h x K} : NW C gl p_q04v_k1 ⟨e,h,x⟩ K = d_q04v_k1 C gl (aget e 0) (aget e 13) (aget e 14) (aget e 15) h x K:=by kernel_rfl
theorem l_q04v_k1 {C gl e h x K} : NW C gl (.loop (.scope p_q04v_k1)) ⟨e,h,x⟩ K = NLoop C gl (.scope p_q04v_k1) K [(0,aget e 0),(13,aget e 13),(14,aget e 14),(15,aget e 15)] h x:=NLoop_sc
def p_q04v_k2 : ACode:=.pr [] (.seq (.reg [
  ⟨some 2,none,.mv (.c (.p (.int .i64 0)))⟩] (some [2]))
 .ret)
def d_q04v_k2 (C : Hd) (gl : Nat → Option PV) (h : Heap) (x : Esc) (K : Ex → St → Prop) : Prop:=
 K .ret ⟨[(2,(.p (.int .i64 0)))],h,x⟩
theorem e_q04v_k2 {C gl e h x K} : NW C gl p_q04v_k2 ⟨e,h,x⟩ K = d_q04v_k2 C gl h x K:=by kernel_rfl
def P_q04v (q1 q2 : ACode) : ACode:=(.seq (.reg [
  ⟨some 2,none,.mv (.c (.p (.int .i64 0)))⟩] (some [0]))
 (.seq (.block 0 (.seq (.reg [
  ⟨some 6,none,.mv (.t 0)⟩,
  ⟨some 7,none,.len (.t 6)⟩,
  ⟨some 8,none,.bin .eql (.t 7) (.c (.p (.int .i64 0)))⟩,
  ⟨some 5,none,.mv (.t 8)⟩] (some [0,5]))
 (.cond (.t 5) (.seq (.reg [
  ⟨some 2,none,.mv (.c (.p (.int .i64 8)))⟩] (some [2]))
 .ret)
 (.seq (.reg [
  ⟨some 10,none,.mv (.t 0)⟩,
  ⟨some 11,none,.len (.t 10)⟩,
  ⟨some 12,none,.bin .gtr (.t 11) (.c (.p (.int .i64 100)))⟩,
  ⟨some 9,none,.mv (.t 12)⟩] (some [0,9]))
 (.cond (.t 9) (.seq (.reg [
  ⟨some 2,none,.mv (.c (.p (.int .i64 2)))⟩] (some [2]))
 .ret)
 .skip)))))
 (.seq (.seq (.reg [
  ⟨some 13,none,.mv (.t 0)⟩,
  ⟨some 14,none,.len (.t 13)⟩,
  ⟨some 15,none,.mv (.c (.p (.int .i64 0)))⟩] (some [0,13,14,15]))
 (.block 1 (.loop (.scope q1))))
 q2)))
def a_q04v : AFun:=⟨1,[.t 2],P_q04v p_q04v_k1 p_q04v_k2,false,false⟩
def d_q04v (C : Hd) (gl : Nat → Option PV) (q1 q2 : ACode) (v0 : AV) (h : Heap) (x : Esc) (K : Ex → St → Prop) : Prop:=
 pK (oLen v0) fun t1=>
 pK (oBin .eql t1 (.p (.int .i64 0))) fun t2=>
 condB t2 (K .ret ⟨[(2,(.p (.int .i64 8)))],h,x⟩)
 (pK (oLen v0) fun t3=>
 pK (oBin .gtr t3 (.p (.int .i64 100))) fun t4=>
 condB t4 (K .ret ⟨[(2,(.p (.int .i64 2)))],h,x⟩)
 (pK (oLen v0) fun t5=>
 NW C gl (.loop (.scope q1)) ⟨[(0,v0),(13,v0),(14,t5),(15,(.p (.int .i64 0)))],h,x⟩ (blockN 1 (seqN C gl q2 K))))
theorem E_q04v {C gl q1 q2 v0 h x K} : NW C gl (P_q04v q1 q2) ⟨enter [v0],h,x⟩ K = d_q04v C gl q1 q2 v0 h x K:=by kernel_rfl
theorem e_q04v {C gl v0 h x K} : NW C gl a_q04v.body ⟨enter [v0],h,x⟩ K = d_q04v C gl p_q04v_k1 p_q04v_k2 v0 h x K:=E_q04v
def P_q02b : ACode:=(.seq (.reg [
  ⟨some 4,none,.mv (.c (.p (.int .i64 0)))⟩] (some [0,1]))
 (.seq (.seq (.reg [
  ⟨some 6,none,.mv (.t 0)⟩,
  ⟨some 7,none,.call f_q02a [(.t 6)]⟩,
  ⟨some 5,none,.mv (.t 7)⟩] (some [0,1,5]))
 (.seq (.reg [
  ⟨some 8,none,.mv (.t 5)⟩,
  ⟨some 9,none,.bin .neq (.t 8) (.c (.p (.int .i64 0)))⟩] (some [0,1,5,9]))
 (.cond (.t 9) (.seq (.reg [
  ⟨some 10,none,.mv (.t 5)⟩,
  ⟨some 4,none,.mv (.t 10)⟩] (some [4]))
 .ret)
 .skip)))
 (.seq (.reg [
  ⟨some 11,none,.mv (.t 0)⟩,
  ⟨some 12,none,.mv (.t 1)⟩,
  ⟨some 13,none,.call f_q03b [(.t 11),(.t 12)]⟩,
  ⟨some 4,none,.mv (.t 13)⟩] (some [4]))
 .ret)))
def a_q02b : AFun:=⟨2,[.t 4],P_q02b,false,false⟩
def d_q02b (C : Hd) (gl : Nat → Option PV) (v0 v1 : AV) (h : Heap) (x : Esc) (K : Ex → St → Prop) : Prop:=
 C f_q02a [v0] h fun t1 h2 y3=>
 pK (oBin .neq t1 (.p (.int .i64 0))) fun t4=>
 condB t4 (K .ret ⟨[(4,t1)],h2,(y3 ++ x)⟩)
 (C f_q03b [v0,v1] h2 fun t5 h6 y7=>
 K .ret ⟨[(4,t5)],h6,(y7 ++ (y3 ++ x))⟩)
theorem E_q02b {C gl v0 v1 h x K} : NW C gl (P_q02b) ⟨enter [v0,v1],h,x⟩ K = d_q02b C gl v0 v1 h x K:=by kernel_rfl
theorem e_q02b {C gl v0 v1 h x K} : NW C gl a_q02b.body ⟨enter [v0,v1],h,x⟩ K = d_q02b C gl v0 v1 h x K:=E_q02b
def P_q05o : ACode:=(.seq (.reg [
  ⟨some 3,none,.box (.t 1)⟩,
  ⟨some 4,none,.mv (.c (.p (.int .i64 0)))⟩] (some [0,3]))
 (.seq (.block 0 (.seq (.reg [
  ⟨some 8,none,.faddr 0 none (.t 3)⟩,
  ⟨some 9,none,.load none (.t 8)⟩,
  ⟨some 10,none,.call f_q04u [(.t 9)]⟩,
  ⟨some 11,none,.un .not (.t 10)⟩,
  ⟨some 12,none,.mv (.t 11)⟩,
  ⟨some 13,(some (12,false)),.faddr 2 none (.t 3)⟩,
  ⟨some 14,(some (12,false)),.load none (.t 13)⟩,
  ⟨some 15,(some (12,false)),.call f_q04u [(.t 14)]⟩,
  ⟨some 16,(some (12,false)),.un .not (.t 15)⟩,
  ⟨some 17,none,.pick (.t 12) (.c (.p (.bool true))) (.t 16)⟩,
  ⟨some 7,none,.mv (.t 17)⟩] (some [0,3,7]))
 (.cond (.t 7) (.seq (.reg [
  ⟨some 4,none,.mv (.c (.p (.int .i64 5)))⟩] (some [4]))
 .ret)
 (.seq (.reg [
  ⟨some 19,none,.faddr 1 none (.t 3)⟩,
  ⟨some 20,none,.load none (.t 19)⟩,
  ⟨some 21,none,.call f_q04y [(.t 20)]⟩,
  ⟨some 22,none,.un .not (.t 21)⟩,
  ⟨some 18,none,.mv (.t 22)⟩] (some [0,3,18]))
 (.cond (.t 18) (.seq (.reg [
  ⟨some 4,none,.mv (.c (.p (.int .i64 1)))⟩] (some [4]))
 .ret)
 (.seq (.reg [
  ⟨some 24,none,.faddr 3 none (.t 3)⟩,
  ⟨some 25,none,.load none (.t 24)⟩,
  ⟨some 26,none,.call f_q060 [(.t 25),(.f f_q05p)]⟩,
  ⟨some 23,none,.mv (.t 26)⟩] (some [0,3,23]))
 (.cond (.t 23) (.seq (.reg [
  ⟨some 4,none,.mv (.c (.p (.int .i64 1)))⟩] (some [4]))
 .ret)
 .skip)))))))
 (.seq (.reg [
  ⟨some 27,none,.faddr 3 none (.t 3)⟩,
  ⟨some 28,none,.load none (.t 27)⟩,
  ⟨some 29,none,.len (.t 28)⟩,
  ⟨some 5,none,.mv (.t 29)⟩] (some [0,3,5]))
 (.seq (.seq (.reg [
  ⟨some 30,none,.mv (.t 0)⟩,
  ⟨some 31,none,.faddr 3 none (.t 3)⟩,
  ⟨some 32,none,.load none (.t 31)⟩,
  ⟨some 33,none,.call f_q05k [(.t 30),(.t 32)]⟩,
  ⟨some 6,none,.mv (.t 33)⟩] (some [0,5,6]))
 (.seq (.reg [
  ⟨some 34,none,.mv (.t 5)⟩,
  ⟨some 35,none,.mv (.t 0)⟩,
  ⟨some 36,none,.len (.t 35)⟩,
  ⟨some 37,none,.call f_q05l [(.t 34),(.c (.p (.int .i64 1))),(.t 36)]⟩,
  ⟨some 38,none,.un .not (.t 37)⟩,
  ⟨some 39,none,.mv (.t 38)⟩,
  ⟨some 40,(some (39,false)),.mv (.t 6)⟩,
  ⟨some 41,(some (39,false)),.bin .geq (.t 40) (.c (.p (.int .i64 0)))⟩,
  ⟨some 42,(some (39,false)),.mv (.t 41)⟩,
  ⟨some 43,(some (42,true)),.mv (.t 6)⟩,
  ⟨some 44,(some (42,true)),.mv (.t 5)⟩,
  ⟨some 45,(some (42,true)),.bin .sub (.t 44) (.c (.p (.int .i64 1)))⟩,
  ⟨some 46,(some (42,true)),.bin .neq (.t 43) (.t 45)⟩,
  ⟨some 47,(some (39,false)),.pick (.t 42) (.t 46) (.c (.p (.bool false)))⟩,
  ⟨some 48,none,.pick (.t 39) (.c (.p (.bool true))) (.t 47)⟩,
  ⟨some 49,none,.mv (.t 48)⟩,
  ⟨some 50,(some (49,false)),.mv (.t 6)⟩,
  ⟨some 51,(some (49,false)),.bin .lss (.t 50) (.c (.p (.int .i64 0)))⟩,
  ⟨some 52,(some (49,false)),.mv (.t 51)⟩,
  ⟨some 53,(some (52,true)),.mv (.t 5)⟩,
  ⟨some 54,(some (52,true)),.mv (.t 0)⟩,
  ⟨some 55,(some (52,true)),.len (.t 54)⟩,
  ⟨some 56,(some (52,true)),.bin .neq (.t 53) (.t 55)⟩,
  ⟨some 57,(some (49,false)),.pick (.t 52) (.t 56) (.c (.p (.bool false)))⟩,
  ⟨some 58,none,.pick (.t 49) (.c (.p (.bool true))) (.t 57)⟩] (some [58]))
 (.cond (.t 58) (.seq (.reg [
  ⟨some 4,none,.mv (.c (.p (.int .i64 3)))⟩] (some [4]))
 .ret)
 .skip)))
 (.seq (.reg [
  ⟨some 4,none,.mv (.c (.p (.int .i64 0)))⟩] (some [4]))
 .ret)))))
def a_q05o : AFun:=⟨2,[.t 4],P_q05o,false,false⟩
def d_q05o (C : Hd) (gl : Nat → Option PV) (v0 v1 : AV) (h : Heap) (x : Esc) (K : Ex → St → Prop) : Prop:=
 wK (oBox v1 h) fun t1 h2 y3=>
 pK (oFaddr 0 none t1) fun t4=>
 pK (oLoad none t4 h2) fun t5=>
 C f_q04u [t5] h2 fun t6 h7 y8=>
 pK (oUn .not t6) fun t9=>
 gP t9 false (oFaddr 2 none t1) h7 fun t10 h11 y12=>
 gP t9 false (oLoad none t10 h11) h11 fun t13 h14 y15=>
 gV t9 false h14 (C f_q04u [t13] h14) fun t16 h17 y18=>
 gP t9 false (oUn .not t16) h17 fun t19 h20 y21=>
 pK (oPick t9 (.p (.bool true)) t19) fun t22=>
 condB t22 (K .ret ⟨[(4,(.p (.int .i64 5)))],h20,(y21 ++ (y18 ++ (y15 ++ (y12 ++ (y8 ++ (y3 ++ x))))))⟩)
 (pK (oFaddr 1 none t1) fun t23=>
 pK (oLoad none t23 h20) fun t24=>
 C f_q04y [t24] h20 fun t25 h26 y27=>
 pK (oUn .not t25) fun t28=>
 condB t28 (K .ret ⟨[(4,(.p (.int .i64 1)))],h26,(y27 ++ (y21 ++ (y18 ++ (y15 ++ (y12 ++ (y8 ++ (y3 ++ x)))))))⟩)
 (pK (oFaddr 3 none t1) fun t29=>
 pK (oLoad none t29 h26) fun t30=>
 C f_q060 [t30,(.fn f_q05p [])] h26 fun t31 h32 y33=>
 condB t31 (K .ret ⟨[(4,(.p (.int .i64 1)))],h32,(y33 ++ (y27 ++ (y21 ++ (y18 ++ (y15 ++ (y12 ++ (y8 ++ (y3 ++ x))))))))⟩)
 (pK (oFaddr 3 none t1) fun t34=>
 pK (oLoad none t34 h32) fun t35=>
 pK (oLen t35) fun t36=>
 pK (oFaddr 3 none t1) fun t37=>
 pK (oLoad none t37 h32) fun t38=>
 C f_q05k [v0,t38] h32 fun t39 h40 y41=>
 pK (oLen v0) fun t42=>
 C f_q05l [t36,(.p (.int .i64 1)),t42] h40 fun t43 h44 y45=>
 pK (oUn .not t43) fun t46=>
 gM t46 false t39 h44 fun t47 h48 y49=>
 gP t46 false (oBin .geq t47 (.p (.int .i64 0))) h48 fun t50 h51 y52=>
 gM t46 false t50 h51 fun t53 h54 y55=>
 gM t53 true t39 h54 fun t56 h57 y58=>
 gM t53 true t36 h57 fun t59 h60 y61=>
 gP t53 true (oBin .sub t59 (.p (.int .i64 1))) h60 fun t62 h63 y64=>
 gP t53 true (oBin .neq t56 t62) h63 fun t65 h66 y67=>
 gP t46 false (oPick t53 t65 (.p (.bool false))) h66 fun t68 h69 y70=>
 pK (oPick t46 (.p (.bool true)) t68) fun t71=>
 gM t71 false t39 h69 fun t72 h73 y74=>
 gP t71 false (oBin .lss t72 (.p (.int .i64 0))) h73 fun t75 h76 y77=>
 gM t71 false t75 h76 fun t78 h79 y80=>
 gM t78 true t36 h79 fun t81 h82 y83=>
 gM t78 true v0 h82 fun t84 h85 y86=>
 gP t78 true (oLen t84) h85 fun t87 h88 y89=>
 gP t78 true (oBin .neq t81 t87) h88 fun t90 h91 y92=>
 gP t71 false (oPick t78 t90 (.p (.bool false))) h91 fun t93 h94 y95=>
 pK (oPick t71 (.p (.bool true)) t93) fun t96=>
 condB t96 (K .ret ⟨[(4,(.p (.int .i64 3)))],h94,(y95 ++ (y92 ++ (y89 ++ (y86 ++ (y83 ++ (y80 ++ (y77 ++ (y74 ++ (y70 ++ (y67 ++ (y64 ++ (y61 ++ (y58 ++ (y55 ++ (y52 ++ (y49 ++ (y45 ++ (y41 ++ (y33 ++ (y27 ++ (y21 ++ (y18 ++ (y15 ++ (y12 ++ (y8 ++ (y3 ++ x))))))))))))))))))))))))))⟩)
 (K .ret ⟨[(4,(.p (.int .i64 0)))],h94,(y95 ++ (y92 ++ (y89 ++ (y86 ++ (y83 ++ (y80 ++ (y77 ++ (y74 ++ (y70 ++ (y67 ++ (y64 ++ (y61 ++ (y58 ++ (y55 ++ (y52 ++ (y49 ++ (y45 ++ (y41 ++ (y33 ++ (y27 ++ (y21 ++ (y18 ++ (y15 ++ (y12 ++ (y8 ++ (y3 ++ x))))))))))))))))))))))))))⟩))))
theorem E_q05o {C gl v0 v1 h x K} : NW C gl (P_q05o) ⟨enter [v0,v1],h,x⟩ K = d_q05o C gl v0 v1 h x K:=by kernel_rfl
theorem e_q05o {C gl v0 v1 h x K} : NW C gl a_q05o.body ⟨enter [v0,v1],h,x⟩ K = d_q05o C gl v0 v1 h x K:=E_q05o
def P_q05q : ACode:=(.seq (.reg [
  ⟨some 2,none,.box (.t 0)⟩,
  ⟨some 3,none,.box (.t 1)⟩,
  ⟨some 4,none,.mv (.c (.p (.int .i64 0)))⟩] (some [2,3]))
 (.seq (.seq (.reg [
  ⟨some 5,none,.faddr 1 none (.t 2)⟩,
  ⟨some 6,none,.load none (.t 5)⟩,
  ⟨some 7,none,.faddr 1 none (.t 3)⟩,
  ⟨some 8,none,.load none (.t 7)⟩,
  ⟨some 9,none,.bin .neq (.t 6) (.t 8)⟩] (some [2,3,9]))
 (.cond (.t 9) (.seq (.reg [
  ⟨some 10,none,.faddr 1 none (.t 2)⟩,
  ⟨some 11,none,.load none (.t 10)⟩,
  ⟨some 12,none,.faddr 1 none (.t 3)⟩,
  ⟨some 13,none,.load none (.t 12)⟩,
  ⟨some 14,none,.bin .sub (.t 11) (.t 13)⟩,
  ⟨some 15,none,.call f_q05r [(.t 14)]⟩,
  ⟨some 4,none,.mv (.t 15)⟩] (some [4]))
 .ret)
 .skip))
 (.seq (.reg [
  ⟨some 16,none,.faddr 0 none (.t 2)⟩,
  ⟨some 17,none,.load none (.t 16)⟩,
  ⟨some 18,none,.faddr 0 none (.t 3)⟩,
  ⟨some 19,none,.load none (.t 18)⟩,
  ⟨some 20,none,.call f_q092 [(.t 17),(.t 19)]⟩,
  ⟨some 4,none,.mv (.t 20)⟩] (some [4]))
 .ret)))
def a_q05q : AFun:=⟨2,[.t 4],P_q05q,false,false⟩
def d_q05q (C : Hd) (gl : Nat → Option PV) (v0 v1 : AV) (h : Heap) (x : Esc) (K : Ex → St → Prop) : Prop:=
 wK (oBox v0 h) fun t1 h2 y3=>
 wK (oBox v1 h2) fun t4 h5 y6=>
 pK (oFaddr 1 none t1) fun t7=>
 pK (oLoad none t7 h5) fun t8=>
 pK (oFaddr 1 none t4) fun t9=>
 pK (oLoad none t9 h5) fun t10=>
 pK (oBin .neq t8 t10) fun t11=>
 condB t11 (pK (oFaddr 1 none t1) fun t12=>
 pK (oLoad none t12 h5) fun t13=>
 pK (oFaddr 1 none t4) fun t14=>
 pK (oLoad none t14 h5) fun t15=>
 pK (oBin .sub t13 t15) fun t16=>
 C f_q05r [t16] h5 fun t17 h18 y19=>
 K .ret ⟨[(4,t17)],h18,(y19 ++ (y6 ++ (y3 ++ x)))⟩)
 (pK (oFaddr 0 none t1) fun t20=>
 pK (oLoad none t20 h5) fun t21=>
 pK (oFaddr 0 none t4) fun t22=>
 pK (oLoad none t22 h5) fun t23=>
 C f_q092 [t21,t23] h5 fun t24 h25 y26=>
 K .ret ⟨[(4,t24)],h25,(y26 ++ (y6 ++ (y3 ++ x)))⟩)
theorem E_q05q {C gl v0 v1 h x K} : NW C gl (P_q05q) ⟨enter [v0,v1],h,x⟩ K = d_q05q C gl v0 v1 h x K:=by kernel_rfl
theorem e_q05q {C gl v0 v1 h x K} : NW C gl a_q05q.body ⟨enter [v0,v1],h,x⟩ K = d_q05q C gl v0 v1 h x K:=E_q05q
def p_q02a_k1 : ACode:=.pr [0,13,14,15] (.seq (.reg [
  ⟨some 16,none,.bin .lss (.t 15) (.t 14)⟩] (some [0,13,14,15,16]))
 (.seq (.cond (.t 16) .skip
 (.exit 1))
 (.seq (.block 2 (.seq (.reg [
  ⟨some 17,none,.mv (.t 15)⟩,
  ⟨some 18,none,.iaddr (some 4) (.t 13) (.t 15)⟩,
  ⟨some 19,none,.load (some 4) (.t 18)⟩,
  ⟨some 4,none,.alloc [.p (.str []),.p (.int .i64 0),.p (.int .i64 0),.p (.int .i64 0)]⟩,
  ⟨some 3,none,.mv (.t 17)⟩,
  ⟨none,none,.store (some 4) (.t 4) (.t 19)⟩] (some [0,3,4,13,14,15]))
 (.block 3 (.seq (.reg [
  ⟨some 21,none,.faddr 0 none (.t 4)⟩,
  ⟨some 22,none,.load none (.t 21)⟩,
  ⟨some 23,none,.call f_q007 [(.t 22)]⟩,
  ⟨some 24,none,.un .not (.t 23)⟩,
  ⟨some 20,none,.mv (.t 24)⟩] (some [0,3,4,13,14,15,20]))
 (.cond (.t 20) (.seq (.reg [
  ⟨some 2,none,.mv (.c (.p (.int .i64 5)))⟩] (some [2]))
 .ret)
 (.seq (.draw [
   ⟨⟨some 26,none,.mv (.t 0)⟩,[0],false,[],[]⟩,
   ⟨⟨some 27,none,.mv (.t 3)⟩,[3],false,[],[]⟩,
   ⟨⟨some 28,none,.slice (some 4) (.t 26) none (some (.t 27)) none⟩,[26,27],false,[],[]⟩,
   ⟨⟨some 29,none,.faddr 0 none (.t 4)⟩,[4],false,[],[]⟩,
   ⟨⟨some 30,none,.load none (.t 29)⟩,[29],false,[],[]⟩,
   ⟨⟨some 31,none,.call f_q032 [(.t 28),(.t 30)]⟩,[28,30],true,[],[]⟩,
   ⟨⟨some 32,none,.bin .geq (.t 31) (.c (.p (.int .i64 0)))⟩,[31],false,[],[]⟩,
   ⟨⟨some 25,none,.mv (.t 32)⟩,[32],false,[],[]⟩] (some [0,4,13,14,15,25]))
 (.cond (.t 25) (.seq (.reg [
  ⟨some 2,none,.mv (.c (.p (.int .i64 6)))⟩] (some [2]))
 .ret)
 (.seq (.reg [
  ⟨some 34,none,.faddr 1 none (.t 4)⟩,
  ⟨some 35,none,.load none (.t 34)⟩,
  ⟨some 36,none,.faddr 2 none (.t 4)⟩,
  ⟨some 37,none,.load none (.t 36)⟩,
  ⟨some 38,none,.call f_q00c [(.t 35),(.c (.p (.int .i64 (-100000)))),(.t 37)]⟩,
  ⟨some 39,none,.mv (.t 38)⟩,
  ⟨some 40,(some (39,false)),.faddr 2 none (.t 4)⟩,
  ⟨some 41,(some (39,false)),.load none (.t 40)⟩,
  ⟨some 42,(some (39,false)),.bin .gtr (.t 41) (.c (.p (.int .i64 100000)))⟩,
  ⟨some 43,none,.pick (.t 39) (.c (.p (.bool true))) (.t 42)⟩,
  ⟨some 44,none,.mv (.t 43)⟩,
  ⟨some 45,(some (44,false)),.faddr 3 none (.t 4)⟩,
  ⟨some 46,(some (44,false)),.load none (.t 45)⟩,
  ⟨some 47,(some (44,false)),.call f_q00c [(.t 46),(.c (.p (.int .i64 2))),(.c (.p (.int .i64 100)))]⟩,
  ⟨some 48,none,.pick (.t 44) (.c (.p (.bool true))) (.t 47)⟩,
  ⟨some 33,none,.mv (.t 48)⟩] (some [0,13,14,15,33]))
 (.cond (.t 33) (.seq (.reg [
  ⟨some 2,none,.mv (.c (.p (.int .i64 1)))⟩] (some [2]))
 .ret)
 .skip)))))))))
 (.reg [
  ⟨some 49,none,.bin .add (.t 15) (.c (.p (.int .i64 1)))⟩,
  ⟨some 15,none,.mv (.t 49)⟩] (some [0,13,14,15])))))
def d_q02a_k1 (C : Hd) (gl : Nat → Option PV) (v0 v13 v14 v15 : AV) (h : Heap) (x : Esc) (K : Ex → St → Prop) : Prop:=
 pK (oBin .lss v15 v14) fun t1=>
 condB t1 (pK (oIaddr (some 4) v13 v15 h) fun t2=>
 pK (oLoad (some 4) t2 h) fun t3=>
 alK [.p (.str []),.p (.int .i64 0),.p (.int .i64 0),.p (.int .i64 0)] h fun t4 h5 y6=>
 wK (oStore (some 4) t4 t3 h5) fun t7 h8 y9=>
 pK (oFaddr 0 none t4) fun t10=>
 pK (oLoad none t10 h8) fun t11=>
 C f_q007 [t11] h8 fun t12 h13 y14=>
 pK (oUn .not t12) fun t15=>
 condB t15 (K .ret ⟨[(2,(.p (.int .i64 5)))],h13,(y14 ++ (y9 ++ (y6 ++ x)))⟩)
 (pK (oSlice (some 4) v0 none (some v15) none h13) fun t16=>
 pK (oFaddr 0 none t4) fun t17=>
 pK (oLoad none t17 h13) fun t18=>
 callE C f_q032 [t16,t18] h13 fun t19 h20 y21=>
 pK (oBin .geq t19 (.p (.int .i64 0))) fun t22=>
 condB t22 (K .ret ⟨[(2,(.p (.int .i64 6)))],h20,(y21 ++ (y14 ++ (y9 ++ (y6 ++ x))))⟩)
 (pK (oFaddr 1 none t4) fun t23=>
 pK (oLoad none t23 h20) fun t24=>
 pK (oFaddr 2 none t4) fun t25=>
 pK (oLoad none t25 h20) fun t26=>
 C f_q00c [t24,(.p (.int .i64 (-100000))),t26] h20 fun t27 h28 y29=>
 gP t27 false (oFaddr 2 none t4) h28 fun t30 h31 y32=>
 gP t27 false (oLoad none t30 h31) h31 fun t33 h34 y35=>
 gP t27 false (oBin .gtr t33 (.p (.int .i64 100000))) h34 fun t36 h37 y38=>
 pK (oPick t27 (.p (.bool true)) t36) fun t39=>
 gP t39 false (oFaddr 3 none t4) h37 fun t40 h41 y42=>
 gP t39 false (oLoad none t40 h41) h41 fun t43 h44 y45=>
 gV t39 false h44 (C f_q00c [t43,(.p (.int .i64 2)),(.p (.int .i64 100))] h44) fun t46 h47 y48=>
 pK (oPick t39 (.p (.bool true)) t46) fun t49=>
 condB t49 (K .ret ⟨[(2,(.p (.int .i64 1)))],h47,(y48 ++ (y45 ++ (y42 ++ (y38 ++ (y35 ++ (y32 ++ (y29 ++ (y21 ++ (y14 ++ (y9 ++ (y6 ++ x)))))))))))⟩)
 (pK (oBin .add v15 (.p (.int .i64 1))) fun t50=>
 K .normal ⟨[(0,v0),(13,v13),(14,v14),(15,t50)],h47,(y48 ++ (y45 ++ (y42 ++ (y38 ++ (y35 ++ (y32 ++ (y29 ++ (y21 ++ (y14 ++ (y9 ++ (y6 ++ x)))))))))))⟩))))
 (K (.exit 1) ⟨[(0,v0),(13,v13),(14,v14),(15,v15),(16,t1)],h,x⟩)
theorem e_q02a_k1 {C gl e h x K} : NW C gl p_q02a_k1 ⟨e,h,x⟩ K = d_q02a_k1 C gl (aget e 0) (aget e 13) (aget e 14) (aget e 15) h x K:=by kernel_rfl
theorem l_q02a_k1 {C gl e h x K} : NW C gl (.loop (.scope p_q02a_k1)) ⟨e,h,x⟩ K = NLoop C gl (.scope p_q02a_k1) K [(0,aget e 0),(13,aget e 13),(14,aget e 14),(15,aget e 15)] h x:=NLoop_sc
def p_q02a_k2 : ACode:=.pr [] (.seq (.reg [
  ⟨some 2,none,.mv (.c (.p (.int .i64 0)))⟩] (some [2]))
 .ret)
def d_q02a_k2 (C : Hd) (gl : Nat → Option PV) (h : Heap) (x : Esc) (K : Ex → St → Prop) : Prop:=
 K .ret ⟨[(2,(.p (.int .i64 0)))],h,x⟩
theorem e_q02a_k2 {C gl e h x K} : NW C gl p_q02a_k2 ⟨e,h,x⟩ K = d_q02a_k2 C gl h x K:=by kernel_rfl
def P_q02a (q1 q2 : ACode) : ACode:=(.seq (.reg [
  ⟨some 2,none,.mv (.c (.p (.int .i64 0)))⟩] (some [0]))
 (.seq (.block 0 (.seq (.reg [
  ⟨some 6,none,.mv (.t 0)⟩,
  ⟨some 7,none,.len (.t 6)⟩,
  ⟨some 8,none,.bin .eql (.t 7) (.c (.p (.int .i64 0)))⟩,
  ⟨some 5,none,.mv (.t 8)⟩] (some [0,5]))
 (.cond (.t 5) (.seq (.reg [
  ⟨some 2,none,.mv (.c (.p (.int .i64 8)))⟩] (some [2]))
 .ret)
 (.seq (.reg [
  ⟨some 10,none,.mv (.t 0)⟩,
  ⟨some 11,none,.len (.t 10)⟩,
  ⟨some 12,none,.bin .gtr (.t 11) (.c (.p (.int .i64 100)))⟩,
  ⟨some 9,none,.mv (.t 12)⟩] (some [0,9]))
 (.cond (.t 9) (.seq (.reg [
  ⟨some 2,none,.mv (.c (.p (.int .i64 2)))⟩] (some [2]))
 .ret)
 .skip)))))
 (.seq (.seq (.reg [
  ⟨some 13,none,.mv (.t 0)⟩,
  ⟨some 14,none,.len (.t 13)⟩,
  ⟨some 15,none,.mv (.c (.p (.int .i64 0)))⟩] (some [0,13,14,15]))
 (.block 1 (.loop (.scope q1))))
 q2)))
def a_q02a : AFun:=⟨1,[.t 2],P_q02a p_q02a_k1 p_q02a_k2,false,false⟩
def d_q02a (C : Hd) (gl : Nat → Option PV) (q1 q2 : ACode) (v0 : AV) (h : Heap) (x : Esc) (K : Ex → St → Prop) : Prop:=
 pK (oLen v0) fun t1=>
 pK (oBin .eql t1 (.p (.int .i64 0))) fun t2=>
 condB t2 (K .ret ⟨[(2,(.p (.int .i64 8)))],h,x⟩)
 (pK (oLen v0) fun t3=>
 pK (oBin .gtr t3 (.p (.int .i64 100))) fun t4=>
 condB t4 (K .ret ⟨[(2,(.p (.int .i64 2)))],h,x⟩)
 (pK (oLen v0) fun t5=>
 NW C gl (.loop (.scope q1)) ⟨[(0,v0),(13,v0),(14,t5),(15,(.p (.int .i64 0)))],h,x⟩ (blockN 1 (seqN C gl q2 K))))
theorem E_q02a {C gl q1 q2 v0 h x K} : NW C gl (P_q02a q1 q2) ⟨enter [v0],h,x⟩ K = d_q02a C gl q1 q2 v0 h x K:=by kernel_rfl
theorem e_q02a {C gl v0 h x K} : NW C gl a_q02a.body ⟨enter [v0],h,x⟩ K = d_q02a C gl p_q02a_k1 p_q02a_k2 v0 h x K:=E_q02a
def p_q03b_k1 : ACode:=.pr [0,1,11,12,13] (.seq (.reg [
  ⟨some 14,none,.bin .lss (.t 13) (.t 12)⟩] (some [0,1,11,12,13,14]))
 (.seq (.cond (.t 14) .skip
 (.exit 0))
 (.seq (.block 1 (.seq (.reg [
  ⟨some 15,none,.mv (.t 13)⟩,
  ⟨some 16,none,.iaddr (some 4) (.t 11) (.t 13)⟩,
  ⟨some 17,none,.load (some 4) (.t 16)⟩,
  ⟨some 6,none,.alloc [.p (.str []),.p (.int .i64 0),.p (.str []),.sl0 none]⟩,
  ⟨some 5,none,.mv (.t 15)⟩,
  ⟨none,none,.store (some 4) (.t 6) (.t 17)⟩] (some [0,1,5,6,11,12,13]))
 (.seq (.seq (.reg [
  ⟨some 18,none,.mv (.t 0)⟩,
  ⟨some 19,none,.load (some 4) (.t 6)⟩,
  ⟨some 20,none,.call f_q039 [(.t 18),(.t 19)]⟩,
  ⟨some 7,none,.mv (.t 20)⟩] (some [0,1,5,6,7,11,12,13]))
 (.seq (.reg [
  ⟨some 21,none,.mv (.t 7)⟩,
  ⟨some 22,none,.bin .neq (.t 21) (.c (.p (.int .i64 0)))⟩] (some [0,1,5,6,7,11,12,13,22]))
 (.cond (.t 22) (.seq (.reg [
  ⟨some 23,none,.mv (.t 7)⟩,
  ⟨some 4,none,.mv (.t 23)⟩] (some [4]))
 .ret)
 .skip)))
 (.seq (.draw [
   ⟨⟨some 24,none,.mv (.t 5)⟩,[5],false,[],[]⟩,
   ⟨⟨some 25,none,.bin .gtr (.t 24) (.c (.p (.int .i64 0)))⟩,[24],false,[],[]⟩,
   ⟨⟨some 26,none,.mv (.t 25)⟩,[25],false,[],[]⟩,
   ⟨⟨some 27,(some (26,true)),.load (some 4) (.t 6)⟩,[6,26],false,[],[]⟩,
   ⟨⟨some 28,(some (26,true)),.mv (.t 1)⟩,[1,26],false,[],[]⟩,
   ⟨⟨some 29,(some (26,true)),.mv (.t 5)⟩,[5,26],false,[],[]⟩,
   ⟨⟨some 30,(some (26,true)),.bin .sub (.t 29) (.c (.p (.int .i64 1)))⟩,[29,26],false,[],[]⟩,
   ⟨⟨some 31,(some (26,true)),.iaddr (some 4) (.t 28) (.t 30)⟩,[28,30,26],false,[],[]⟩,
   ⟨⟨some 32,(some (26,true)),.load (some 4) (.t 31)⟩,[31,26],false,[],[]⟩,
   ⟨⟨some 33,(some (26,true)),.call f_q02t [(.t 27),(.t 32)]⟩,[27,32,26],true,[],[]⟩,
   ⟨⟨some 34,(some (26,true)),.bin .leq (.t 33) (.c (.p (.int .i64 0)))⟩,[33,26],false,[],[]⟩,
   ⟨⟨some 35,none,.pick (.t 26) (.t 34) (.c (.p (.bool false)))⟩,[26,34],false,[],[]⟩] (some [0,1,11,12,13,35]))
 (.cond (.t 35) (.seq (.reg [
  ⟨some 4,none,.mv (.c (.p (.int .i64 7)))⟩] (some [4]))
 .ret)
 .skip)))))
 (.reg [
  ⟨some 36,none,.bin .add (.t 13) (.c (.p (.int .i64 1)))⟩,
  ⟨some 13,none,.mv (.t 36)⟩] (some [0,1,11,12,13])))))
def d_q03b_k1 (C : Hd) (gl : Nat → Option PV) (v0 v1 v11 v12 v13 : AV) (h : Heap) (x : Esc) (K : Ex → St → Prop) : Prop:=
 pK (oBin .lss v13 v12) fun t1=>
 condB t1 (pK (oIaddr (some 4) v11 v13 h) fun t2=>
 pK (oLoad (some 4) t2 h) fun t3=>
 alK [.p (.str []),.p (.int .i64 0),.p (.str []),.sl0 none] h fun t4 h5 y6=>
 wK (oStore (some 4) t4 t3 h5) fun t7 h8 y9=>
 pK (oLoad (some 4) t4 h8) fun t10=>
 C f_q039 [v0,t10] h8 fun t11 h12 y13=>
 pK (oBin .neq t11 (.p (.int .i64 0))) fun t14=>
 condB t14 (K .ret ⟨[(4,t11)],h12,(y13 ++ (y9 ++ (y6 ++ x)))⟩)
 (pK (oBin .gtr v13 (.p (.int .i64 0))) fun t15=>
 gP t15 true (oLoad (some 4) t4 h12) h12 fun t16 h17 y18=>
 gM t15 true v1 h17 fun t19 h20 y21=>
 gM t15 true v13 h20 fun t22 h23 y24=>
 gP t15 true (oBin .sub t22 (.p (.int .i64 1))) h23 fun t25 h26 y27=>
 gP t15 true (oIaddr (some 4) t19 t25 h26) h26 fun t28 h29 y30=>
 gP t15 true (oLoad (some 4) t28 h29) h29 fun t31 h32 y33=>
 gV t15 true h32 (callE C f_q02t [t16,t31] h32) fun t34 h35 y36=>
 gP t15 true (oBin .leq t34 (.p (.int .i64 0))) h35 fun t37 h38 y39=>
 pK (oPick t15 t37 (.p (.bool false))) fun t40=>
 condB t40 (K .ret ⟨[(4,(.p (.int .i64 7)))],h38,(y39 ++ (y36 ++ (y33 ++ (y30 ++ (y27 ++ (y24 ++ (y21 ++ (y18 ++ (y13 ++ (y9 ++ (y6 ++ x)))))))))))⟩)
 (pK (oBin .add v13 (.p (.int .i64 1))) fun t41=>
 K .normal ⟨[(0,v0),(1,v1),(11,v11),(12,v12),(13,t41)],h38,(y39 ++ (y36 ++ (y33 ++ (y30 ++ (y27 ++ (y24 ++ (y21 ++ (y18 ++ (y13 ++ (y9 ++ (y6 ++ x)))))))))))⟩)))
 (K (.exit 0) ⟨[(0,v0),(1,v1),(11,v11),(12,v12),(13,v13),(14,t1)],h,x⟩)
theorem e_q03b_k1 {C gl e h x K} : NW C gl p_q03b_k1 ⟨e,h,x⟩ K = d_q03b_k1 C gl (aget e 0) (aget e 1) (aget e 11) (aget e 12) (aget e 13) h x K:=by kernel_rfl
theorem l_q03b_k1 {C gl e h x K} : NW C gl (.loop (.scope p_q03b_k1)) ⟨e,h,x⟩ K = NLoop C gl (.scope p_q03b_k1) K [(0,aget e 0),(1,aget e 1),(11,aget e 11),(12,aget e 12),(13,aget e 13)] h x:=NLoop_sc
def p_q03b_k2 : ACode:=.pr [] (.seq (.reg [
  ⟨some 4,none,.mv (.c (.p (.int .i64 0)))⟩] (some [4]))
 .ret)
def d_q03b_k2 (C : Hd) (gl : Nat → Option PV) (h : Heap) (x : Esc) (K : Ex → St → Prop) : Prop:=
 K .ret ⟨[(4,(.p (.int .i64 0)))],h,x⟩
theorem e_q03b_k2 {C gl e h x K} : NW C gl p_q03b_k2 ⟨e,h,x⟩ K = d_q03b_k2 C gl h x K:=by kernel_rfl
def P_q03b (q1 q2 : ACode) : ACode:=(.seq (.reg [
  ⟨some 4,none,.mv (.c (.p (.int .i64 0)))⟩] (some [0,1]))
 (.seq (.seq (.reg [
  ⟨some 8,none,.mv (.t 1)⟩,
  ⟨some 9,none,.len (.t 8)⟩,
  ⟨some 10,none,.bin .gtr (.t 9) (.c (.p (.int .i64 5000)))⟩] (some [0,1,10]))
 (.cond (.t 10) (.seq (.reg [
  ⟨some 4,none,.mv (.c (.p (.int .i64 2)))⟩] (some [4]))
 .ret)
 .skip))
 (.seq (.seq (.reg [
  ⟨some 11,none,.mv (.t 1)⟩,
  ⟨some 12,none,.len (.t 11)⟩,
  ⟨some 13,none,.mv (.c (.p (.int .i64 0)))⟩] (some [0,1,11,12,13]))
 (.block 0 (.loop (.scope q1))))
 q2)))
def a_q03b : AFun:=⟨2,[.t 4],P_q03b p_q03b_k1 p_q03b_k2,false,false⟩
def d_q03b (C : Hd) (gl : Nat → Option PV) (q1 q2 : ACode) (v0 v1 : AV) (h : Heap) (x : Esc) (K : Ex → St → Prop) : Prop:=
 pK (oLen v1) fun t1=>
 pK (oBin .gtr t1 (.p (.int .i64 5000))) fun t2=>
 condB t2 (K .ret ⟨[(4,(.p (.int .i64 2)))],h,x⟩)
 (pK (oLen v1) fun t3=>
 NW C gl (.loop (.scope q1)) ⟨[(0,v0),(1,v1),(11,v1),(12,t3),(13,(.p (.int .i64 0)))],h,x⟩ (blockN 0 (seqN C gl q2 K)))
theorem E_q03b {C gl q1 q2 v0 v1 h x K} : NW C gl (P_q03b q1 q2) ⟨enter [v0,v1],h,x⟩ K = d_q03b C gl q1 q2 v0 v1 h x K:=by kernel_rfl
theorem e_q03b {C gl v0 v1 h x K} : NW C gl a_q03b.body ⟨enter [v0,v1],h,x⟩ K = d_q03b C gl p_q03b_k1 p_q03b_k2 v0 v1 h x K:=E_q03b
def P_q03h : ACode:=(.seq (.reg [
  ⟨some 4,none,.mv (.c (.p (.int .i64 0)))⟩] (some [0,1]))
 (.seq (.block 0 (.seq (.reg [
  ⟨some 6,none,.mv (.t 0)⟩,
  ⟨some 7,none,.len (.t 6)⟩,
  ⟨some 8,none,.mv (.t 1)⟩,
  ⟨some 9,none,.bin .lss (.t 7) (.t 8)⟩,
  ⟨some 5,none,.mv (.t 9)⟩] (some [0,5]))
 (.cond (.t 5) (.seq (.reg [
  ⟨some 4,none,.mv (.c (.p (.int .i64 8)))⟩] (some [4]))
 .ret)
 (.seq (.reg [
  ⟨some 11,none,.mv (.t 0)⟩,
  ⟨some 12,none,.len (.t 11)⟩,
  ⟨some 13,none,.bin .gtr (.t 12) (.c (.p (.int .i64 5000)))⟩,
  ⟨some 10,none,.mv (.t 13)⟩] (some [0,10]))
 (.cond (.t 10) (.seq (.reg [
  ⟨some 4,none,.mv (.c (.p (.int .i64 2)))⟩] (some [4]))
 .ret)
 (.seq (.reg [
  ⟨some 15,none,.mv (.t 0)⟩,
  ⟨some 16,none,.call f_q060 [(.t 15),(.f f_q03i)]⟩,
  ⟨some 14,none,.mv (.t 16)⟩] (some [14]))
 (.cond (.t 14) (.seq (.reg [
  ⟨some 4,none,.mv (.c (.p (.int .i64 1)))⟩] (some [4]))
 .ret)
 .skip)))))))
 (.seq (.reg [
  ⟨some 4,none,.mv (.c (.p (.int .i64 0)))⟩] (some [4]))
 .ret)))
def a_q03h : AFun:=⟨2,[.t 4],P_q03h,false,false⟩
def d_q03h (C : Hd) (gl : Nat → Option PV) (v0 v1 : AV) (h : Heap) (x : Esc) (K : Ex → St → Prop) : Prop:=
 pK (oLen v0) fun t1=>
 pK (oBin .lss t1 v1) fun t2=>
 condB t2 (K .ret ⟨[(4,(.p (.int .i64 8)))],h,x⟩)
 (pK (oLen v0) fun t3=>
 pK (oBin .gtr t3 (.p (.int .i64 5000))) fun t4=>
 condB t4 (K .ret ⟨[(4,(.p (.int .i64 2)))],h,x⟩)
 (C f_q060 [v0,(.fn f_q03i [])] h fun t5 h6 y7=>
 condB t5 (K .ret ⟨[(4,(.p (.int .i64 1)))],h6,(y7 ++ x)⟩)
 (K .ret ⟨[(4,(.p (.int .i64 0)))],h6,(y7 ++ x)⟩)))
theorem E_q03h {C gl v0 v1 h x K} : NW C gl (P_q03h) ⟨enter [v0,v1],h,x⟩ K = d_q03h C gl v0 v1 h x K:=by kernel_rfl
theorem e_q03h {C gl v0 v1 h x K} : NW C gl a_q03h.body ⟨enter [v0,v1],h,x⟩ K = d_q03h C gl v0 v1 h x K:=E_q03h
def p_q03e_k1 : ACode:=.pr [0,2,4,7,8,9] (.seq (.reg [
  ⟨some 10,none,.bin .lss (.t 9) (.t 8)⟩] (some [0,2,4,7,8,9,10]))
 (.seq (.cond (.t 10) .skip
 (.exit 0))
 (.seq (.block 1 (.seq (.reg [
  ⟨some 11,none,.iaddr none (.t 7) (.t 9)⟩,
  ⟨some 12,none,.load none (.t 11)⟩,
  ⟨some 6,none,.mv (.t 12)⟩] (some [0,2,4,6,7,8,9]))
 (.seq (.reg [
  ⟨some 13,none,.mv (.t 2)⟩,
  ⟨some 14,none,.mv (.t 6)⟩,
  ⟨some 15,none,.bin .add (.t 13) (.t 14)⟩,
  ⟨some 2,none,.mv (.t 15)⟩] (some [0,2,4,6,7,8,9]))
 (.reg [
  ⟨some 16,none,.mv (.t 4)⟩,
  ⟨some 17,none,.mv (.t 6)⟩,
  ⟨some 18,none,.mv (.t 6)⟩,
  ⟨some 19,none,.bin .mul (.t 17) (.t 18)⟩,
  ⟨some 20,none,.bin .add (.t 16) (.t 19)⟩,
  ⟨some 4,none,.mv (.t 20)⟩] (some [0,2,4,7,8,9])))))
 (.reg [
  ⟨some 21,none,.bin .add (.t 9) (.c (.p (.int .i64 1)))⟩,
  ⟨some 9,none,.mv (.t 21)⟩] (some [0,2,4,7,8,9])))))
def d_q03e_k1 (C : Hd) (gl : Nat → Option PV) (v0 v2 v4 v7 v8 v9 : AV) (h : Heap) (x : Esc) (K : Ex → St → Prop) : Prop:=
 pK (oBin .lss v9 v8) fun t1=>
 condB t1 (pK (oIaddr none v7 v9 h) fun t2=>
 pK (oLoad none t2 h) fun t3=>
 pK (oBin .add v2 t3) fun t4=>
 pK (oBin .mul t3 t3) fun t5=>
 pK (oBin .add v4 t5) fun t6=>
 pK (oBin .add v9 (.p (.int .i64 1))) fun t7=>
 K .normal ⟨[(0,v0),(2,t4),(4,t6),(7,v7),(8,v8),(9,t7)],h,x⟩)
 (K (.exit 0) ⟨[(0,v0),(2,v2),(4,v4),(7,v7),(8,v8),(9,v9),(10,t1)],h,x⟩)
theorem e_q03e_k1 {C gl e h x K} : NW C gl p_q03e_k1 ⟨e,h,x⟩ K = d_q03e_k1 C gl (aget e 0) (aget e 2) (aget e 4) (aget e 7) (aget e 8) (aget e 9) h x K:=by kernel_rfl
theorem l_q03e_k1 {C gl e h x K} : NW C gl (.loop p_q03e_k1) ⟨e,h,x⟩ K = NLoop C gl p_q03e_k1 K [(0,aget e 0),(2,aget e 2),(4,aget e 4),(7,aget e 7),(8,aget e 8),(9,aget e 9)] h x:=NLoop_pr
def p_q03e_k2 : ACode:=.pr [0,2,4] (.seq (.reg [
  ⟨some 22,none,.mv (.t 2)⟩,
  ⟨some 23,none,.mv (.t 0)⟩,
  ⟨some 24,none,.len (.t 23)⟩,
  ⟨some 25,none,.mv (.t 4)⟩,
  ⟨some 26,none,.bin .mul (.t 24) (.t 25)⟩,
  ⟨some 27,none,.mv (.t 2)⟩,
  ⟨some 28,none,.mv (.t 2)⟩,
  ⟨some 29,none,.bin .mul (.t 27) (.t 28)⟩,
  ⟨some 30,none,.bin .sub (.t 26) (.t 29)⟩,
  ⟨some 2,none,.mv (.t 22)⟩,
  ⟨some 3,none,.mv (.t 30)⟩] (some [2,3]))
 .ret)
def d_q03e_k2 (C : Hd) (gl : Nat → Option PV) (v0 v2 v4 : AV) (h : Heap) (x : Esc) (K : Ex → St → Prop) : Prop:=
 pK (oLen v0) fun t1=>
 pK (oBin .mul t1 v4) fun t2=>
 pK (oBin .mul v2 v2) fun t3=>
 pK (oBin .sub t2 t3) fun t4=>
 K .ret ⟨[(2,v2),(3,t4)],h,x⟩
theorem e_q03e_k2 {C gl e h x K} : NW C gl p_q03e_k2 ⟨e,h,x⟩ K = d_q03e_k2 C gl (aget e 0) (aget e 2) (aget e 4) h x K:=by kernel_rfl
def P_q03e (q1 q2 : ACode) : ACode:=(.seq (.reg [
  ⟨some 2,none,.mv (.c (.p (.int .i64 0)))⟩,
  ⟨some 3,none,.mv (.c (.p (.int .i64 0)))⟩] (some [0,2]))
 (.seq (.reg [
  ⟨some 4,none,.mv (.c (.p (.int .i64 0)))⟩] (some [0,2,4]))
 (.seq (.seq (.reg [
  ⟨some 7,none,.mv (.t 0)⟩,
  ⟨some 8,none,.len (.t 7)⟩,
  ⟨some 9,none,.mv (.c (.p (.int .i64 0)))⟩] (some [0,2,4,7,8,9]))
 (.block 0 (.loop q1)))
 q2)))
def a_q03e : AFun:=⟨1,[.t 2,.t 3],P_q03e p_q03e_k1 p_q03e_k2,false,false⟩
def d_q03e (C : Hd) (gl : Nat → Option PV) (q1 q2 : ACode) (v0 : AV) (h : Heap) (x : Esc) (K : Ex → St → Prop) : Prop:=
 pK (oLen v0) fun t1=>
 NW C gl (.loop q1) ⟨[(0,v0),(2,(.p (.int .i64 0))),(4,(.p (.int .i64 0))),(7,v0),(8,t1),(9,(.p (.int .i64 0)))],h,x⟩ (blockN 0 (seqN C gl q2 K))
theorem E_q03e {C gl q1 q2 v0 h x K} : NW C gl (P_q03e q1 q2) ⟨enter [v0],h,x⟩ K = d_q03e C gl q1 q2 v0 h x K:=by kernel_rfl
theorem e_q03e {C gl v0 h x K} : NW C gl a_q03e.body ⟨enter [v0],h,x⟩ K = d_q03e C gl p_q03e_k1 p_q03e_k2 v0 h x K:=E_q03e
def P_q005 : ACode:=(.seq (.reg [
  ⟨some 4,none,.alloc [.p (.int .i64 0),.p (.int .i64 0)]⟩] (some [0,1,4]))
 (.seq (.reg [
  ⟨some 6,none,.mv (.t 0)⟩,
  ⟨some 7,none,.mv (.t 0)⟩,
  ⟨some 8,none,.un .neg (.t 7)⟩,
  ⟨some 9,none,.mx [(.t 6),(.t 8)]⟩,
  ⟨some 10,none,.mv (.t 1)⟩,
  ⟨some 11,none,.call f_q006 [(.t 9),(.t 10)]⟩,
  ⟨some 5,none,.mv (.t 11)⟩] (some [0,1,4,5]))
 (.seq (.draw [
   ⟨⟨some 12,none,.mv (.t 0)⟩,[0],false,[],[]⟩,
   ⟨⟨some 13,none,.mv (.t 5)⟩,[5],false,[],[]⟩,
   ⟨⟨some 14,none,.bin .quo (.t 12) (.t 13)⟩,[12,13],false,[],[]⟩,
   ⟨⟨some 15,none,.mv (.t 1)⟩,[1],false,[],[]⟩,
   ⟨⟨some 16,none,.mv (.t 5)⟩,[5],false,[],[]⟩,
   ⟨⟨some 17,none,.bin .quo (.t 15) (.t 16)⟩,[15,16],false,[],[]⟩,
   ⟨⟨some 18,none,.build [.p (.int .i64 0),.p (.int .i64 0)] [(0,1,(.t 14)),(1,1,(.t 17))]⟩,[14,17],false,[],[]⟩,
   ⟨⟨none,none,.store (some 2) (.t 4) (.t 18)⟩,[4,18],true,[],[]⟩] (some [4]))
 .ret)))
def a_q005 : AFun:=⟨2,[.cell 4 (some 2)],P_q005,false,false⟩
def d_q005 (C : Hd) (gl : Nat → Option PV) (v0 v1 : AV) (h : Heap) (x : Esc) (K : Ex → St → Prop) : Prop:=
 alK [.p (.int .i64 0),.p (.int .i64 0)] h fun t1 h2 y3=>
 pK (oUn .neg v0) fun t4=>
 pK (oMx [v0,t4]) fun t5=>
 C f_q006 [t5,v1] h2 fun t6 h7 y8=>
 pK (oBin .quo v0 t6) fun t9=>
 pK (oBin .quo v1 t6) fun t10=>
 pK (oBuild [.p (.int .i64 0),.p (.int .i64 0)] [(0,1,t9),(1,1,t10)]) fun t11=>
 wK (oStore (some 2) t1 t11 h7) fun t12 h13 y14=>
 K .ret ⟨[(4,t1)],h13,(y14 ++ (y8 ++ (y3 ++ x)))⟩
theorem E_q005 {C gl v0 v1 h x K} : NW C gl (P_q005) ⟨enter [v0,v1],h,x⟩ K = d_q005 C gl v0 v1 h x K:=by kernel_rfl
theorem e_q005 {C gl v0 v1 h x K} : NW C gl a_q005.body ⟨enter [v0,v1],h,x⟩ K = d_q005 C gl v0 v1 h x K:=E_q005
def p_q03c_k1 : ACode:=.pr [7] (.seq (.reg [
  ⟨some 17,none,.mv (.t 7)⟩,
  ⟨some 6,none,.mv (.t 17)⟩] (some [6]))
 .ret)
def d_q03c_k1 (C : Hd) (gl : Nat → Option PV) (v7 : AV) (h : Heap) (x : Esc) (K : Ex → St → Prop) : Prop:=
 K .ret ⟨[(6,v7)],h,x⟩
theorem e_q03c_k1 {C gl e h x K} : NW C gl p_q03c_k1 ⟨e,h,x⟩ K = d_q03c_k1 C gl (aget e 7) h x K:=by kernel_rfl
def P_q03c (q1 : ACode) : ACode:=(.seq (.reg [
  ⟨some 6,none,.mv (.c (.p (.int .i64 0)))⟩] (some [0,1,2]))
 (.seq (.reg [
  ⟨some 8,none,.mv (.t 0)⟩,
  ⟨some 9,none,.mv (.t 1)⟩,
  ⟨some 10,none,.call f_q02b [(.t 8),(.t 9)]⟩,
  ⟨some 7,none,.mv (.t 10)⟩] (some [2,7]))
 (.seq (.seq (.reg [
  ⟨some 11,none,.mv (.t 7)⟩,
  ⟨some 12,none,.bin .eql (.t 11) (.c (.p (.int .i64 0)))⟩,
  ⟨some 13,none,.mv (.t 12)⟩,
  ⟨some 14,(some (13,true)),.mv (.t 2)⟩,
  ⟨some 15,(some (13,true)),.call f_q00c [(.t 14),(.c (.p (.int .i64 1))),(.c (.p (.int .i64 3)))]⟩,
  ⟨some 16,none,.pick (.t 13) (.t 15) (.c (.p (.bool false)))⟩] (some [7,16]))
 (.cond (.t 16) (.reg [
  ⟨some 7,none,.mv (.c (.p (.int .i64 4)))⟩] (some [7]))
 .skip))
 q1)))
def a_q03c : AFun:=⟨3,[.t 6],P_q03c p_q03c_k1,false,false⟩
def d_q03c (C : Hd) (gl : Nat → Option PV) (q1 : ACode) (v0 v1 v2 : AV) (h : Heap) (x : Esc) (K : Ex → St → Prop) : Prop:=
 C f_q02b [v0,v1] h fun t1 h2 y3=>
 pK (oBin .eql t1 (.p (.int .i64 0))) fun t4=>
 gM t4 true v2 h2 fun t5 h6 y7=>
 gV t4 true h6 (C f_q00c [t5,(.p (.int .i64 1)),(.p (.int .i64 3))] h6) fun t8 h9 y10=>
 pK (oPick t4 t8 (.p (.bool false))) fun t11=>
 condB t11 (NW C gl q1 ⟨[(7,(.p (.int .i64 4)))],h9,(y10 ++ (y7 ++ (y3 ++ x)))⟩ K)
 (NW C gl q1 ⟨[(7,t1),(16,t11)],h9,(y10 ++ (y7 ++ (y3 ++ x)))⟩ K)
theorem E_q03c {C gl q1 v0 v1 v2 h x K} : NW C gl (P_q03c q1) ⟨enter [v0,v1,v2],h,x⟩ K = d_q03c C gl q1 v0 v1 v2 h x K:=by kernel_rfl
theorem e_q03c {C gl v0 v1 v2 h x K} : NW C gl a_q03c.body ⟨enter [v0,v1,v2],h,x⟩ K = d_q03c C gl p_q03c_k1 v0 v1 v2 h x K:=E_q03c
def p_q030_k1 : ACode:=.pr [0,2,7,8,14,15,16] (.reg [
  ⟨some 57,none,.bin .add (.t 16) (.c (.p (.int .i64 1)))⟩,
  ⟨some 16,none,.mv (.t 57)⟩] (some [0,2,7,8,14,15,16]))
def d_q030_k1 (C : Hd) (gl : Nat → Option PV) (v0 v2 v7 v8 v14 v15 v16 : AV) (h : Heap) (x : Esc) (K : Ex → St → Prop) : Prop:=
 pK (oBin .add v16 (.p (.int .i64 1))) fun t1=>
 K .normal ⟨[(0,v0),(2,v2),(7,v7),(8,v8),(14,v14),(15,v15),(16,t1)],h,x⟩
theorem e_q030_k1 {C gl e h x K} : NW C gl p_q030_k1 ⟨e,h,x⟩ K = d_q030_k1 C gl (aget e 0) (aget e 2) (aget e 7) (aget e 8) (aget e 14) (aget e 15) (aget e 16) h x K:=by kernel_rfl
def P_q030_k2 (q1 : ACode) : ACode:=.pr [0,2,7,8,14,15,16] (.seq (.reg [
  ⟨some 17,none,.bin .lss (.t 16) (.t 15)⟩] (some [0,2,7,8,14,15,16,17]))
 (.seq (.cond (.t 17) .skip
 (.exit 0))
 (.seq (.block 1 (.seq (.reg [
  ⟨some 18,none,.iaddr (some 4) (.t 14) (.t 16)⟩,
  ⟨some 19,none,.load (some 4) (.t 18)⟩,
  ⟨some 10,none,.alloc [.p (.str []),.p (.int .i64 0),.p (.str []),.sl0 none]⟩,
  ⟨none,none,.store (some 4) (.t 10) (.t 19)⟩] (some [0,2,7,8,10,14,15,16]))
 (.seq (.reg [
  ⟨some 21,none,.mv (.t 7)⟩,
  ⟨some 22,none,.faddr 0 none (.t 10)⟩,
  ⟨some 23,none,.load none (.t 22)⟩,
  ⟨some 24,none,.look (none,[2]) true (.p (.int .i64 0)) (.t 21) (.t 23)⟩,
  ⟨some 20,none,.mv (.t 24)⟩,
  ⟨some 25,none,.ext (.t 20) 0⟩,
  ⟨some 26,none,.ext (.t 20) 1⟩,
  ⟨some 11,none,.mv (.t 25)⟩,
  ⟨some 12,none,.mv (.t 26)⟩] (some [0,2,7,8,10,11,12,14,15,16]))
 (.seq (.seq (.reg [
  ⟨some 27,none,.mv (.t 12)⟩,
  ⟨some 28,none,.un .not (.t 27)⟩] (some [0,2,7,8,10,11,14,15,16,28]))
 (.cond (.t 28) (.seq (.reg [
  ⟨some 29,none,.mv (.t 7)⟩,
  ⟨some 30,none,.faddr 0 none (.t 10)⟩,
  ⟨some 31,none,.load none (.t 30)⟩,
  ⟨some 32,none,.mv (.t 8)⟩,
  ⟨some 33,none,.len (.t 32)⟩,
  ⟨none,none,.mupd (none,[2]) (.t 29) (.t 31) (.t 33)⟩] (some [0,2,7,8,10,14,15,16]))
 (.seq (.reg [
  ⟨some 34,none,.mv (.t 8)⟩,
  ⟨some 35,none,.load (some 4) (.t 10)⟩,
  ⟨some 36,none,.bsl false (some 4) 1 (.agg [.str [],.int .i64 0,.str [],.sl none []]) [(0,(.t 35))]⟩,
  ⟨some 37,none,.app (some 4) (.t 34) (.t 36)⟩,
  ⟨some 8,none,.mv (.t 37)⟩] (some [0,2,7,8,14,15,16]))
 (.exit 1)))
 .skip))
 (.seq (.reg [
  ⟨some 38,none,.mv (.t 2)⟩,
  ⟨some 39,none,.bin .eql (.t 38) (.c (.p (.int .i64 2)))⟩,
  ⟨some 40,none,.mv (.t 39)⟩,
  ⟨some 41,(some (40,false)),.mv (.t 2)⟩,
  ⟨some 42,(some (40,false)),.bin .eql (.t 41) (.c (.p (.int .i64 3)))⟩,
  ⟨some 43,(some (40,false)),.mv (.t 42)⟩,
  ⟨some 44,(some (43,true)),.mv (.t 0)⟩,
  ⟨some 45,(some (43,true)),.mv (.t 8)⟩,
  ⟨some 46,(some (43,true)),.mv (.t 11)⟩,
  ⟨some 47,(some (43,true)),.iaddr (some 4) (.t 45) (.t 46)⟩,
  ⟨some 48,(some (43,true)),.load (some 4) (.t 47)⟩,
  ⟨some 49,(some (43,true)),.call f_q02z [(.t 44),(.t 48)]⟩,
  ⟨some 50,(some (43,true)),.bin .geq (.t 49) (.c (.p (.int .i64 0)))⟩,
  ⟨some 51,(some (40,false)),.pick (.t 43) (.t 50) (.c (.p (.bool false)))⟩,
  ⟨some 52,none,.pick (.t 40) (.c (.p (.bool true))) (.t 51)⟩] (some [0,2,7,8,10,11,14,15,16,52]))
 (.cond (.t 52) (.reg [
  ⟨some 53,none,.mv (.t 8)⟩,
  ⟨some 54,none,.mv (.t 11)⟩,
  ⟨some 55,none,.load (some 4) (.t 10)⟩,
  ⟨some 56,none,.iaddr (some 4) (.t 53) (.t 54)⟩,
  ⟨none,none,.store (some 4) (.t 56) (.t 55)⟩] (some [0,2,7,8,14,15,16]))
 .skip))))))
 q1)))
def p_q030_k2 : ACode:=P_q030_k2 p_q030_k1
def d_q030_k2 (C : Hd) (gl : Nat → Option PV) (q1 : ACode) (v0 v2 v7 v8 v14 v15 v16 : AV) (h : Heap) (x : Esc) (K : Ex → St → Prop) : Prop:=
 pK (oBin .lss v16 v15) fun t1=>
 condB t1 (pK (oIaddr (some 4) v14 v16 h) fun t2=>
 pK (oLoad (some 4) t2 h) fun t3=>
 alK [.p (.str []),.p (.int .i64 0),.p (.str []),.sl0 none] h fun t4 h5 y6=>
 wK (oStore (some 4) t4 t3 h5) fun t7 h8 y9=>
 pK (oFaddr 0 none t4) fun t10=>
 pK (oLoad none t10 h8) fun t11=>
 pK (oLook (none,[2]) true (.p (.int .i64 0)) v7 t11 h8) fun t12=>
 pK (oExt t12 0) fun t13=>
 pK (oExt t12 1) fun t14=>
 pK (oUn .not t14) fun t15=>
 condB t15 (pK (oFaddr 0 none t4) fun t16=>
 pK (oLoad none t16 h8) fun t17=>
 pK (oLen v8) fun t18=>
 wK (oMupd (none,[2]) v7 t17 t18 h8) fun t19 h20 y21=>
 pK (oLoad (some 4) t4 h20) fun t22=>
 wK (oBsl false (some 4) 1 (.agg [.str [],.int .i64 0,.str [],.sl none []]) [(0,t22)] h20) fun t23 h24 y25=>
 wK (oApp (some 4) v8 t23 h24) fun t26 h27 y28=>
 NW C gl q1 ⟨[(0,v0),(2,v2),(7,v7),(8,t26),(14,v14),(15,v15),(16,v16)],h27,(y28 ++ (y25 ++ (y21 ++ (y9 ++ (y6 ++ x)))))⟩ K)
 (pK (oBin .eql v2 (.p (.int .i64 2))) fun t29=>
 gM t29 false v2 h8 fun t30 h31 y32=>
 gP t29 false (oBin .eql t30 (.p (.int .i64 3))) h31 fun t33 h34 y35=>
 gM t29 false t33 h34 fun t36 h37 y38=>
 gM t36 true v0 h37 fun t39 h40 y41=>
 gM t36 true v8 h40 fun t42 h43 y44=>
 gM t36 true t13 h43 fun t45 h46 y47=>
 gP t36 true (oIaddr (some 4) t42 t45 h46) h46 fun t48 h49 y50=>
 gP t36 true (oLoad (some 4) t48 h49) h49 fun t51 h52 y53=>
 gV t36 true h52 (C f_q02z [t39,t51] h52) fun t54 h55 y56=>
 gP t36 true (oBin .geq t54 (.p (.int .i64 0))) h55 fun t57 h58 y59=>
 gP t29 false (oPick t36 t57 (.p (.bool false))) h58 fun t60 h61 y62=>
 pK (oPick t29 (.p (.bool true)) t60) fun t63=>
 condB t63 (pK (oLoad (some 4) t4 h61) fun t64=>
 pK (oIaddr (some 4) v8 t13 h61) fun t65=>
 wK (oStore (some 4) t65 t64 h61) fun t66 h67 y68=>
 NW C gl q1 ⟨[(0,v0),(2,v2),(7,v7),(8,v8),(14,v14),(15,v15),(16,v16)],h67,(y68 ++ (y62 ++ (y59 ++ (y56 ++ (y53 ++ (y50 ++ (y47 ++ (y44 ++ (y41 ++ (y38 ++ (y35 ++ (y32 ++ (y9 ++ (y6 ++ x))))))))))))))⟩ K)
 (NW C gl q1 ⟨[(0,v0),(2,v2),(7,v7),(8,v8),(10,t4),(11,t13),(14,v14),(15,v15),(16,v16),(52,t63)],h61,(y62 ++ (y59 ++ (y56 ++ (y53 ++ (y50 ++ (y47 ++ (y44 ++ (y41 ++ (y38 ++ (y35 ++ (y32 ++ (y9 ++ (y6 ++ x)))))))))))))⟩ K)))
 (K (.exit 0) ⟨[(0,v0),(2,v2),(7,v7),(8,v8),(14,v14),(15,v15),(16,v16),(17,t1)],h,x⟩)
theorem E_q030_k2 {C gl q1 e h x K} : NW C gl (P_q030_k2 q1) ⟨e,h,x⟩ K = d_q030_k2 C gl q1 (aget e 0) (aget e 2) (aget e 7) (aget e 8) (aget e 14) (aget e 15) (aget e 16) h x K:=by kernel_rfl
theorem e_q030_k2 {C gl e h x K} : NW C gl p_q030_k2 ⟨e,h,x⟩ K = d_q030_k2 C gl p_q030_k1 (aget e 0) (aget e 2) (aget e 7) (aget e 8) (aget e 14) (aget e 15) (aget e 16) h x K:=E_q030_k2
theorem l_q030_k2 {C gl e h x K} : NW C gl (.loop (.scope p_q030_k2)) ⟨e,h,x⟩ K = NLoop C gl (.scope p_q030_k2) K [(0,aget e 0),(2,aget e 2),(7,aget e 7),(8,aget e 8),(14,aget e 14),(15,aget e 15),(16,aget e 16)] h x:=NLoop_sc
def p_q030_k3 : ACode:=.pr [8] (.seq (.reg [
  ⟨some 58,none,.mv (.t 8)⟩,
  ⟨some 59,none,.call f_q06n [(.t 58),(.f f_q031)]⟩] (some [8]))
 (.seq (.reg [
  ⟨some 60,none,.mv (.t 8)⟩,
  ⟨some 6,none,.mv (.t 60)⟩] (some [6]))
 .ret))
def d_q030_k3 (C : Hd) (gl : Nat → Option PV) (v8 : AV) (h : Heap) (x : Esc) (K : Ex → St → Prop) : Prop:=
 C f_q06n [v8,(.fn f_q031 [])] h fun t1 h2 y3=>
 K .ret ⟨[(6,v8)],h2,(y3 ++ x)⟩
theorem e_q030_k3 {C gl e h x K} : NW C gl p_q030_k3 ⟨e,h,x⟩ K = d_q030_k3 C gl (aget e 8) h x K:=by kernel_rfl
def P_q030 (q2 q3 : ACode) : ACode:=(.seq (.reg [
  ⟨some 6,none,.mv (.c (.p (.sl (some 4) [])))⟩] (some [0,1,2]))
 (.seq (.reg [
  ⟨some 13,none,.mkmap⟩,
  ⟨some 7,none,.mv (.t 13)⟩] (some [0,1,2,7]))
 (.seq (.reg [
  ⟨some 8,none,.new0 (some 4)⟩] (some [0,1,2,7,8]))
 (.seq (.seq (.reg [
  ⟨some 14,none,.mv (.t 1)⟩,
  ⟨some 15,none,.len (.t 14)⟩,
  ⟨some 16,none,.mv (.c (.p (.int .i64 0)))⟩] (some [0,2,7,8,14,15,16]))
 (.block 0 (.loop (.scope q2))))
 q3))))
def a_q030 : AFun:=⟨3,[.t 6],P_q030 p_q030_k2 p_q030_k3,false,false⟩
def d_q030 (C : Hd) (gl : Nat → Option PV) (q2 q3 : ACode) (v0 v1 v2 : AV) (h : Heap) (x : Esc) (K : Ex → St → Prop) : Prop:=
 mmK h fun t1 h2 y3=>
 nwK (some 4) h2 fun t4 h5 y6=>
 pK (oLen v1) fun t7=>
 NW C gl (.loop (.scope q2)) ⟨[(0,v0),(2,v2),(7,t1),(8,t4),(14,v1),(15,t7),(16,(.p (.int .i64 0)))],h5,(y6 ++ (y3 ++ x))⟩ (blockN 0 (seqN C gl q3 K))
theorem E_q030 {C gl q2 q3 v0 v1 v2 h x K} : NW C gl (P_q030 q2 q3) ⟨enter [v0,v1,v2],h,x⟩ K = d_q030 C gl q2 q3 v0 v1 v2 h x K:=by kernel_rfl
theorem e_q030 {C gl v0 v1 v2 h x K} : NW C gl a_q030.body ⟨enter [v0,v1,v2],h,x⟩ K = d_q030 C gl p_q030_k2 p_q030_k3 v0 v1 v2 h x K:=E_q030
def P_q02s : ACode:=(.seq (.reg [
  ⟨some 3,none,.box (.t 1)⟩,
  ⟨some 4,none,.mv (.c (.p (.int .i64 0)))⟩] (some [0,3]))
 (.seq (.seq (.reg [
  ⟨some 6,none,.mv (.t 0)⟩,
  ⟨some 7,none,.load (some 4) (.t 3)⟩,
  ⟨some 8,none,.call f_q02z [(.t 6),(.t 7)]⟩,
  ⟨some 5,none,.mv (.t 8)⟩] (some [0,5]))
 (.seq (.reg [
  ⟨some 9,none,.mv (.t 5)⟩,
  ⟨some 10,none,.bin .geq (.t 9) (.c (.p (.int .i64 0)))⟩] (some [0,5,10]))
 (.cond (.t 10) (.seq (.reg [
  ⟨some 11,none,.mv (.t 0)⟩,
  ⟨some 12,none,.mv (.t 5)⟩,
  ⟨some 13,none,.iaddr (some 4) (.t 11) (.t 12)⟩,
  ⟨some 14,none,.faddr 3 none (.t 13)⟩,
  ⟨some 15,none,.load none (.t 14)⟩,
  ⟨some 4,none,.mv (.t 15)⟩] (some [4]))
 .ret)
 .skip)))
 (.seq (.reg [
  ⟨some 4,none,.mv (.c (.p (.int .i64 1)))⟩] (some [4]))
 .ret)))
def a_q02s : AFun:=⟨2,[.t 4],P_q02s,false,false⟩
def d_q02s (C : Hd) (gl : Nat → Option PV) (v0 v1 : AV) (h : Heap) (x : Esc) (K : Ex → St → Prop) : Prop:=
 wK (oBox v1 h) fun t1 h2 y3=>
 pK (oLoad (some 4) t1 h2) fun t4=>
 C f_q02z [v0,t4] h2 fun t5 h6 y7=>
 pK (oBin .geq t5 (.p (.int .i64 0))) fun t8=>
 condB t8 (pK (oIaddr (some 4) v0 t5 h6) fun t9=>
 pK (oFaddr 3 none t9) fun t10=>
 pK (oLoad none t10 h6) fun t11=>
 K .ret ⟨[(4,t11)],h6,(y7 ++ (y3 ++ x))⟩)
 (K .ret ⟨[(4,(.p (.int .i64 1)))],h6,(y7 ++ (y3 ++ x))⟩)
theorem E_q02s {C gl v0 v1 h x K} : NW C gl (P_q02s) ⟨enter [v0,v1],h,x⟩ K = d_q02s C gl v0 v1 h x K:=by kernel_rfl
theorem e_q02s {C gl v0 v1 h x K} : NW C gl a_q02s.body ⟨enter [v0,v1],h,x⟩ K = d_q02s C gl v0 v1 h x K:=E_q02s
def P_q037 : ACode:=(.seq (.reg [
  ⟨some 4,none,.alloc [.p (.str []),.p (.str [])]⟩] (some [0,1,4]))
 (.seq (.reg [
  ⟨some 5,none,.mv (.t 0)⟩,
  ⟨some 6,none,.mv (.t 1)⟩,
  ⟨some 7,none,.call f_q08p [(.t 6)]⟩,
  ⟨some 8,none,.build [.p (.str []),.p (.str [])] [(0,1,(.t 5)),(1,1,(.t 7))]⟩,
  ⟨none,none,.store (some 2) (.t 4) (.t 8)⟩] (some [4]))
 .ret))
def a_q037 : AFun:=⟨2,[.cell 4 (some 2)],P_q037,false,false⟩
def d_q037 (C : Hd) (gl : Nat → Option PV) (v0 v1 : AV) (h : Heap) (x : Esc) (K : Ex → St → Prop) : Prop:=
 alK [.p (.str []),.p (.str [])] h fun t1 h2 y3=>
 C f_q08p [v1] h2 fun t4 h5 y6=>
 pK (oBuild [.p (.str []),.p (.str [])] [(0,1,v0),(1,1,t4)]) fun t7=>
 wK (oStore (some 2) t1 t7 h5) fun t8 h9 y10=>
 K .ret ⟨[(4,t1)],h9,(y10 ++ (y6 ++ (y3 ++ x)))⟩
theorem E_q037 {C gl v0 v1 h x K} : NW C gl (P_q037) ⟨enter [v0,v1],h,x⟩ K = d_q037 C gl v0 v1 h x K:=by kernel_rfl
theorem e_q037 {C gl v0 v1 h x K} : NW C gl a_q037.body ⟨enter [v0,v1],h,x⟩ K = d_q037 C gl v0 v1 h x K:=E_q037
def P_q02z : ACode:=(.seq (.reg [
  ⟨some 3,none,.box (.t 1)⟩,
  ⟨some 4,none,.mv (.c (.p (.int .i64 0)))⟩] (some [0,3]))
 (.seq (.reg [
  ⟨some 6,none,.faddr 3 none (.t 3)⟩,
  ⟨some 7,none,.load none (.t 6)⟩,
  ⟨some 8,none,.len (.t 7)⟩,
  ⟨some 9,none,.bin .sub (.t 8) (.c (.p (.int .i64 1)))⟩,
  ⟨some 5,none,.mv (.t 9)⟩] (some [0,3,5]))
 (.seq (.seq (.draw [
   ⟨⟨some 10,none,.mv (.t 0)⟩,[0],false,[],[]⟩,
   ⟨⟨some 11,none,.mv (.t 5)⟩,[5],false,[],[]⟩,
   ⟨⟨some 12,none,.iaddr (some 4) (.t 10) (.t 11)⟩,[10,11],false,[],[]⟩,
   ⟨⟨some 13,none,.load (some 4) (.t 12)⟩,[12],false,[],[]⟩,
   ⟨⟨some 14,none,.faddr 3 none (.t 3)⟩,[3],false,[],[]⟩,
   ⟨⟨some 15,none,.load none (.t 14)⟩,[14],false,[],[]⟩,
   ⟨⟨some 16,none,.mv (.t 5)⟩,[5],false,[],[]⟩,
   ⟨⟨some 17,none,.iaddr none (.t 15) (.t 16)⟩,[15,16],false,[],[]⟩,
   ⟨⟨some 18,none,.load none (.t 17)⟩,[17],false,[],[]⟩,
   ⟨⟨some 19,none,.call f_q034 [(.t 13),(.t 18)]⟩,[13,18],true,[],[]⟩] (some [5,19]))
 (.cond (.t 19) (.seq (.reg [
  ⟨some 4,none,.mv (.c (.p (.int .i64 (-1))))⟩] (some [4]))
 .ret)
 .skip))
 (.seq (.reg [
  ⟨some 20,none,.mv (.t 5)⟩,
  ⟨some 4,none,.mv (.t 20)⟩] (some [4]))
 .ret))))
def a_q02z : AFun:=⟨2,[.t 4],P_q02z,false,false⟩
def d_q02z (C : Hd) (gl : Nat → Option PV) (v0 v1 : AV) (h : Heap) (x : Esc) (K : Ex → St → Prop) : Prop:=
 wK (oBox v1 h) fun t1 h2 y3=>
 pK (oFaddr 3 none t1) fun t4=>
 pK (oLoad none t4 h2) fun t5=>
 pK (oLen t5) fun t6=>
 pK (oBin .sub t6 (.p (.int .i64 1))) fun t7=>
 pK (oIaddr (some 4) v0 t7 h2) fun t8=>
 pK (oLoad (some 4) t8 h2) fun t9=>
 pK (oFaddr 3 none t1) fun t10=>
 pK (oLoad none t10 h2) fun t11=>
 pK (oIaddr none t11 t7 h2) fun t12=>
 pK (oLoad none t12 h2) fun t13=>
 callE C f_q034 [t9,t13] h2 fun t14 h15 y16=>
 condB t14 (K .ret ⟨[(4,(.p (.int .i64 (-1))))],h15,(y16 ++ (y3 ++ x))⟩)
 (K .ret ⟨[(4,t7)],h15,(y16 ++ (y3 ++ x))⟩)
theorem E_q02z {C gl v0 v1 h x K} : NW C gl (P_q02z) ⟨enter [v0,v1],h,x⟩ K = d_q02z C gl v0 v1 h x K:=by kernel_rfl
theorem e_q02z {C gl v0 v1 h x K} : NW C gl a_q02z.body ⟨enter [v0,v1],h,x⟩ K = d_q02z C gl v0 v1 h x K:=E_q02z
def P_q06p : ACode:=(.reg [
  ⟨some 4,none,.mv (.t 0)⟩,
  ⟨some 5,none,.mv (.t 0)⟩,
  ⟨some 6,none,.len (.t 5)⟩,
  ⟨some 7,none,.mv (.t 1)⟩,
  ⟨some 8,none,.call f_q080 [(.t 4),(.t 6),(.t 7)]⟩] (some []))
def a_q06p : AFun:=⟨2,[],P_q06p,true,false⟩
def d_q06p (C : Hd) (gl : Nat → Option PV) (v0 v1 : AV) (h : Heap) (x : Esc) (K : Ex → St → Prop) : Prop:=
 pK (oLen v0) fun t1=>
 C f_q080 [v0,t1,v1] h fun t2 h3 y4=>
 K .normal ⟨[],h3,(y4 ++ x)⟩
theorem E_q06p {C gl v0 v1 h x K} : NW C gl (P_q06p) ⟨enter [v0,v1],h,x⟩ K = d_q06p C gl v0 v1 h x K:=by kernel_rfl
theorem e_q06p {C gl v0 v1 h x K} : NW C gl a_q06p.body ⟨enter [v0,v1],h,x⟩ K = d_q06p C gl v0 v1 h x K:=E_q06p
def P_q02g : ACode:=(.seq (.reg [
  ⟨some 5,none,.mv (.c (.p (.int .i64 0)))⟩] (some [0,1,2]))
 (.seq (.draw [
   ⟨⟨some 6,none,.load none (.t 2)⟩,[2],false,[],[]⟩,
   ⟨⟨some 7,none,.mv (.t 1)⟩,[1],false,[],[]⟩,
   ⟨⟨some 8,none,.iaddr none (.t 6) (.t 7)⟩,[6,7],false,[],[]⟩,
   ⟨⟨some 9,none,.load none (.t 8)⟩,[8],false,[],[]⟩,
   ⟨⟨some 10,none,.load none (.t 2)⟩,[2],false,[],[]⟩,
   ⟨⟨some 11,none,.mv (.t 0)⟩,[0],false,[],[]⟩,
   ⟨⟨some 12,none,.iaddr none (.t 10) (.t 11)⟩,[10,11],false,[],[]⟩,
   ⟨⟨some 13,none,.load none (.t 12)⟩,[12],false,[],[]⟩,
   ⟨⟨some 14,none,.call f_q00w [(.t 9),(.t 13)]⟩,[9,13],true,[],[]⟩,
   ⟨⟨some 5,none,.mv (.t 14)⟩,[14],false,[],[]⟩] (some [5]))
 .ret))
def a_q02g : AFun:=⟨3,[.t 5],P_q02g,false,false⟩
def d_q02g (C : Hd) (gl : Nat → Option PV) (v0 v1 v2 : AV) (h : Heap) (x : Esc) (K : Ex → St → Prop) : Prop:=
 pK (oLoad none v2 h) fun t1=>
 pK (oIaddr none t1 v1 h) fun t2=>
 pK (oLoad none t2 h) fun t3=>
 pK (oLoad none v2 h) fun t4=>
 pK (oIaddr none t4 v0 h) fun t5=>
 pK (oLoad none t5 h) fun t6=>
 callE C f_q00w [t3,t6] h fun t7 h8 y9=>
 K .ret ⟨[(5,t7)],h8,(y9 ++ x)⟩
theorem E_q02g {C gl v0 v1 v2 h x K} : NW C gl (P_q02g) ⟨enter [v0,v1,v2],h,x⟩ K = d_q02g C gl v0 v1 v2 h x K:=by kernel_rfl
theorem e_q02g {C gl v0 v1 v2 h x K} : NW C gl a_q02g.body ⟨enter [v0,v1,v2],h,x⟩ K = d_q02g C gl v0 v1 v2 h x K:=E_q02g
def P_q06r : ACode:=(.seq (.reg [
  ⟨some 3,none,.mv (.t 0)⟩,
  ⟨some 4,none,.len (.t 3)⟩,
  ⟨some 2,none,.mv (.t 4)⟩] (some [0,2]))
 (.reg [
  ⟨some 5,none,.mv (.t 0)⟩,
  ⟨some 6,none,.mv (.t 2)⟩,
  ⟨some 7,none,.mv (.t 2)⟩,
  ⟨some 8,none,.conv (.i .u64) (.t 7)⟩,
  ⟨some 9,none,.call f_q03l [(.t 8)]⟩,
  ⟨some 10,none,.call f_q07q [(.t 5),(.c (.p (.int .i64 0))),(.t 6),(.t 9)]⟩] (some [])))
def a_q06r : AFun:=⟨1,[],P_q06r,true,false⟩
def d_q06r (C : Hd) (gl : Nat → Option PV) (v0 : AV) (h : Heap) (x : Esc) (K : Ex → St → Prop) : Prop:=
 pK (oLen v0) fun t1=>
 pK (oConvI .u64 t1) fun t2=>
 C f_q03l [t2] h fun t3 h4 y5=>
 C f_q07q [v0,(.p (.int .i64 0)),t1,t3] h4 fun t6 h7 y8=>
 K .normal ⟨[],h7,(y8 ++ (y5 ++ x))⟩
theorem E_q06r {C gl v0 h x K} : NW C gl (P_q06r) ⟨enter [v0],h,x⟩ K = d_q06r C gl v0 h x K:=by kernel_rfl
theorem e_q06r {C gl v0 h x K} : NW C gl a_q06r.body ⟨enter [v0],h,x⟩ K = d_q06r C gl v0 h x K:=E_q06r
def P_q05l : ACode:=(.seq (.reg [
  ⟨some 6,none,.mv (.c (.p (.bool false)))⟩] (some [0,1,2]))
 (.seq (.reg [
  ⟨some 7,none,.mv (.t 1)⟩,
  ⟨some 8,none,.mv (.t 0)⟩,
  ⟨some 9,none,.bin .leq (.t 7) (.t 8)⟩,
  ⟨some 10,none,.mv (.t 9)⟩,
  ⟨some 11,(some (10,true)),.mv (.t 0)⟩,
  ⟨some 12,(some (10,true)),.mv (.t 2)⟩,
  ⟨some 13,(some (10,true)),.bin .leq (.t 11) (.t 12)⟩,
  ⟨some 14,none,.pick (.t 10) (.t 13) (.c (.p (.bool false)))⟩,
  ⟨some 6,none,.mv (.t 14)⟩] (some [6]))
 .ret))
def a_q05l : AFun:=⟨3,[.t 6],P_q05l,false,false⟩
def d_q05l (C : Hd) (gl : Nat → Option PV) (v0 v1 v2 : AV) (h : Heap) (x : Esc) (K : Ex → St → Prop) : Prop:=
 pK (oBin .leq v1 v0) fun t1=>
 gM t1 true v0 h fun t2 h3 y4=>
 gM t1 true v2 h3 fun t5 h6 y7=>
 gP t1 true (oBin .leq t2 t5) h6 fun t8 h9 y10=>
 pK (oPick t1 t8 (.p (.bool false))) fun t11=>
 K .ret ⟨[(6,t11)],h9,(y10 ++ (y7 ++ (y4 ++ x)))⟩
theorem E_q05l {C gl v0 v1 v2 h x K} : NW C gl (P_q05l) ⟨enter [v0,v1,v2],h,x⟩ K = d_q05l C gl v0 v1 v2 h x K:=by kernel_rfl
theorem e_q05l {C gl v0 v1 v2 h x K} : NW C gl a_q05l.body ⟨enter [v0,v1,v2],h,x⟩ K = d_q05l C gl v0 v1 v2 h x K:=E_q05l
def p_q05s_k1 : ACode:=.pr [3,6,7,8] (.seq (.reg [
  ⟨some 9,none,.bin .lss (.t 8) (.t 7)⟩] (some [3,6,7,8,9]))
 (.seq (.cond (.t 9) .skip
 (.exit 0))
 (.seq (.block 1 (.seq (.reg [
  ⟨some 10,none,.iaddr (some 4) (.t 6) (.t 8)⟩,
  ⟨some 11,none,.load (some 4) (.t 10)⟩,
  ⟨some 5,none,.alloc [.p (.str []),.p (.int .i64 0),.p (.str []),.sl0 none]⟩,
  ⟨none,none,.store (some 4) (.t 5) (.t 11)⟩] (some [3,5,6,7,8]))
 (.reg [
  ⟨some 12,none,.mv (.t 3)⟩,
  ⟨some 13,none,.faddr 0 none (.t 5)⟩,
  ⟨some 14,none,.load none (.t 13)⟩,
  ⟨some 15,none,.bsl false none 1 (.str []) [(0,(.t 14))]⟩,
  ⟨some 16,none,.app none (.t 12) (.t 15)⟩,
  ⟨some 3,none,.mv (.t 16)⟩] (some [3,6,7,8]))))
 (.reg [
  ⟨some 17,none,.bin .add (.t 8) (.c (.p (.int .i64 1)))⟩,
  ⟨some 8,none,.mv (.t 17)⟩] (some [3,6,7,8])))))
def d_q05s_k1 (C : Hd) (gl : Nat → Option PV) (v3 v6 v7 v8 : AV) (h : Heap) (x : Esc) (K : Ex → St → Prop) : Prop:=
 pK (oBin .lss v8 v7) fun t1=>
 condB t1 (pK (oIaddr (some 4) v6 v8 h) fun t2=>
 pK (oLoad (some 4) t2 h) fun t3=>
 alK [.p (.str []),.p (.int .i64 0),.p (.str []),.sl0 none] h fun t4 h5 y6=>
 wK (oStore (some 4) t4 t3 h5) fun t7 h8 y9=>
 pK (oFaddr 0 none t4) fun t10=>
 pK (oLoad none t10 h8) fun t11=>
 wK (oBsl false none 1 (.str []) [(0,t11)] h8) fun t12 h13 y14=>
 wK (oApp none v3 t12 h13) fun t15 h16 y17=>
 pK (oBin .add v8 (.p (.int .i64 1))) fun t18=>
 K .normal ⟨[(3,t15),(6,v6),(7,v7),(8,t18)],h16,(y17 ++ (y14 ++ (y9 ++ (y6 ++ x))))⟩)
 (K (.exit 0) ⟨[(3,v3),(6,v6),(7,v7),(8,v8),(9,t1)],h,x⟩)
theorem e_q05s_k1 {C gl e h x K} : NW C gl p_q05s_k1 ⟨e,h,x⟩ K = d_q05s_k1 C gl (aget e 3) (aget e 6) (aget e 7) (aget e 8) h x K:=by kernel_rfl
theorem l_q05s_k1 {C gl e h x K} : NW C gl (.loop (.scope p_q05s_k1)) ⟨e,h,x⟩ K = NLoop C gl (.scope p_q05s_k1) K [(3,aget e 3),(6,aget e 6),(7,aget e 7),(8,aget e 8)] h x:=NLoop_sc
def p_q05s_k2 : ACode:=.pr [3] (.seq (.reg [
  ⟨some 18,none,.mv (.t 3)⟩,
  ⟨some 19,none,.call f_q06r [(.t 18)]⟩] (some [3]))
 (.seq (.reg [
  ⟨some 20,none,.mv (.t 3)⟩,
  ⟨some 21,none,.call f_q05x [(.t 20)]⟩,
  ⟨some 2,none,.mv (.t 21)⟩] (some [2]))
 .ret))
def d_q05s_k2 (C : Hd) (gl : Nat → Option PV) (v3 : AV) (h : Heap) (x : Esc) (K : Ex → St → Prop) : Prop:=
 C f_q06r [v3] h fun t1 h2 y3=>
 C f_q05x [v3] h2 fun t4 h5 y6=>
 K .ret ⟨[(2,t4)],h5,(y6 ++ (y3 ++ x))⟩
theorem e_q05s_k2 {C gl e h x K} : NW C gl p_q05s_k2 ⟨e,h,x⟩ K = d_q05s_k2 C gl (aget e 3) h x K:=by kernel_rfl
def P_q05s (q1 q2 : ACode) : ACode:=(.seq (.reg [
  ⟨some 2,none,.mv (.c (.p (.sl none [])))⟩] (some [0]))
 (.seq (.reg [
  ⟨some 3,none,.new0 none⟩] (some [0,3]))
 (.seq (.seq (.reg [
  ⟨some 6,none,.mv (.t 0)⟩,
  ⟨some 7,none,.len (.t 6)⟩,
  ⟨some 8,none,.mv (.c (.p (.int .i64 0)))⟩] (some [3,6,7,8]))
 (.block 0 (.loop (.scope q1))))
 q2)))
def a_q05s : AFun:=⟨1,[.t 2],P_q05s p_q05s_k1 p_q05s_k2,false,true⟩
def d_q05s (C : Hd) (gl : Nat → Option PV) (q1 q2 : ACode) (v0 : AV) (h : Heap) (x : Esc) (K : Ex → St → Prop) : Prop:=
 nwK none h fun t1 h2 y3=>
 pK (oLen v0) fun t4=>
 NW C gl (.loop (.scope q1)) ⟨[(3,t1),(6,v0),(7,t4),(8,(.p (.int .i64 0)))],h2,(y3 ++ x)⟩ (blockN 0 (seqN C gl q2 K))
theorem E_q05s {C gl q1 q2 v0 h x K} : NW C gl (P_q05s q1 q2) ⟨enter [v0],h,x⟩ K = d_q05s C gl q1 q2 v0 h x K:=by kernel_rfl
theorem e_q05s {C gl v0 h x K} : NW C gl a_q05s.body ⟨enter [v0],h,x⟩ K = d_q05s C gl p_q05s_k1 p_q05s_k2 v0 h x K:=E_q05s
def P_q04q : ACode:=(.seq (.reg [
  ⟨some 3,none,.box (.t 1)⟩,
  ⟨some 4,none,.mv (.c (.p (.int .i64 0)))⟩,
  ⟨some 5,none,.mv (.c (.p (.int .i64 0)))⟩] (some [0,3]))
 (.seq (.seq (.reg [
  ⟨some 7,none,.mv (.t 0)⟩,
  ⟨some 8,none,.faddr 3 none (.t 3)⟩,
  ⟨some 9,none,.load none (.t 8)⟩,
  ⟨some 10,none,.call f_q05k [(.t 7),(.t 9)]⟩,
  ⟨some 6,none,.mv (.t 10)⟩] (some [0,6]))
 (.seq (.reg [
  ⟨some 11,none,.mv (.t 6)⟩,
  ⟨some 12,none,.bin .geq (.t 11) (.c (.p (.int .i64 0)))⟩] (some [0,6,12]))
 (.cond (.t 12) (.seq (.reg [
  ⟨some 13,none,.mv (.t 0)⟩,
  ⟨some 14,none,.mv (.t 6)⟩,
  ⟨some 15,none,.iaddr (some 4) (.t 13) (.t 14)⟩,
  ⟨some 16,none,.faddr 3 none (.t 15)⟩,
  ⟨some 17,none,.load none (.t 16)⟩,
  ⟨some 18,none,.mv (.t 6)⟩,
  ⟨some 4,none,.mv (.t 17)⟩,
  ⟨some 5,none,.mv (.t 18)⟩] (some [4,5]))
 .ret)
 .skip)))
 (.seq (.reg [
  ⟨some 4,none,.mv (.c (.p (.int .i64 1)))⟩,
  ⟨some 5,none,.mv (.c (.p (.int .i64 (-1))))⟩] (some [4,5]))
 .ret)))
def a_q04q : AFun:=⟨2,[.t 4,.t 5],P_q04q,false,false⟩
def d_q04q (C : Hd) (gl : Nat → Option PV) (v0 v1 : AV) (h : Heap) (x : Esc) (K : Ex → St → Prop) : Prop:=
 wK (oBox v1 h) fun t1 h2 y3=>
 pK (oFaddr 3 none t1) fun t4=>
 pK (oLoad none t4 h2) fun t5=>
 C f_q05k [v0,t5] h2 fun t6 h7 y8=>
 pK (oBin .geq t6 (.p (.int .i64 0))) fun t9=>
 condB t9 (pK (oIaddr (some 4) v0 t6 h7) fun t10=>
 pK (oFaddr 3 none t10) fun t11=>
 pK (oLoad none t11 h7) fun t12=>
 K .ret ⟨[(4,t12),(5,t6)],h7,(y8 ++ (y3 ++ x))⟩)
 (K .ret ⟨[(4,(.p (.int .i64 1))),(5,(.p (.int .i64 (-1))))],h7,(y8 ++ (y3 ++ x))⟩)
theorem E_q04q {C gl v0 v1 h x K} : NW C gl (P_q04q) ⟨enter [v0,v1],h,x⟩ K = d_q04q C gl v0 v1 h x K:=by kernel_rfl
theorem e_q04q {C gl v0 v1 h x K} : NW C gl a_q04q.body ⟨enter [v0,v1],h,x⟩ K = d_q04q C gl v0 v1 h x K:=E_q04q
def P_q05g : ACode:=(.seq (.reg [
  ⟨some 4,none,.box (.t 0)⟩,
  ⟨some 6,none,.box (.t 2)⟩,
  ⟨some 8,none,.alloc [.p (.str []),.p (.int .i64 0),.p (.str []),.sl0 none]⟩] (some [1,3,4,6,8]))
 (.seq (.reg [
  ⟨some 10,none,.mv (.t 1)⟩,
  ⟨some 11,none,.call f_q05u [(.t 10)]⟩,
  ⟨some 12,none,.mkfn f_q05h [(.t 6)]⟩,
  ⟨some 13,none,.call f_q064 [(.t 11),(.t 12)]⟩,
  ⟨some 1,none,.mv (.t 13)⟩] (some [1,3,4,8]))
 (.seq (.seq (.reg [
  ⟨some 14,none,.mv (.t 3)⟩,
  ⟨some 15,none,.bin .eql (.t 14) (.c (.p (.int .i64 1)))⟩] (some [1,3,4,8,15]))
 (.cond (.t 15) (.seq (.reg [
  ⟨some 16,none,.mv (.t 1)⟩,
  ⟨some 17,none,.iaddr (some 4) (.t 16) (.c (.p (.int .i64 0)))⟩,
  ⟨some 18,none,.load (some 4) (.t 17)⟩,
  ⟨none,none,.store (some 4) (.t 8) (.t 18)⟩] (some [8]))
 .ret)
 .skip))
 (.seq (.seq (.reg [
  ⟨some 19,none,.mv (.t 1)⟩,
  ⟨some 20,none,.mkfn f_q05i [(.t 4)]⟩,
  ⟨some 21,none,.call f_q06f [(.t 19),(.t 20)]⟩,
  ⟨some 9,none,.mv (.t 21)⟩] (some [1,3,8,9]))
 (.seq (.reg [
  ⟨some 22,none,.mv (.t 9)⟩,
  ⟨some 23,none,.bin .geq (.t 22) (.c (.p (.int .i64 0)))⟩,
  ⟨some 24,none,.mv (.t 23)⟩,
  ⟨some 25,(some (24,true)),.mv (.t 3)⟩,
  ⟨some 26,(some (24,true)),.bin .eql (.t 25) (.c (.p (.int .i64 3)))⟩,
  ⟨some 27,none,.pick (.t 24) (.t 26) (.c (.p (.bool false)))⟩] (some [1,8,9,27]))
 (.cond (.t 27) (.seq (.reg [
  ⟨some 28,none,.mv (.t 1)⟩,
  ⟨some 29,none,.mv (.t 9)⟩,
  ⟨some 30,none,.iaddr (some 4) (.t 28) (.t 29)⟩,
  ⟨some 31,none,.load (some 4) (.t 30)⟩,
  ⟨none,none,.store (some 4) (.t 8) (.t 31)⟩] (some [8]))
 .ret)
 .skip)))
 (.seq (.reg [
  ⟨some 32,none,.mv (.t 1)⟩,
  ⟨some 33,none,.mv (.t 1)⟩,
  ⟨some 34,none,.len (.t 33)⟩,
  ⟨some 35,none,.bin .sub (.t 34) (.c (.p (.int .i64 1)))⟩,
  ⟨some 36,none,.iaddr (some 4) (.t 32) (.t 35)⟩,
  ⟨some 37,none,.load (some 4) (.t 36)⟩,
  ⟨none,none,.store (some 4) (.t 8) (.t 37)⟩] (some [8]))
 .ret)))))
def a_q05g : AFun:=⟨4,[.cell 8 (some 4)],P_q05g,false,false⟩
def d_q05g (C : Hd) (gl : Nat → Option PV) (v0 v1 v2 v3 : AV) (h : Heap) (x : Esc) (K : Ex → St → Prop) : Prop:=
 wK (oBox v0 h) fun t1 h2 y3=>
 wK (oBox v2 h2) fun t4 h5 y6=>
 alK [.p (.str []),.p (.int .i64 0),.p (.str []),.sl0 none] h5 fun t7 h8 y9=>
 C f_q05u [v1] h8 fun t10 h11 y12=>
 C f_q064 [t10,(.fn f_q05h [t4])] h11 fun t13 h14 y15=>
 pK (oBin .eql v3 (.p (.int .i64 1))) fun t16=>
 condB t16 (pK (oIaddr (some 4) t13 (.p (.int .i64 0)) h14) fun t17=>
 pK (oLoad (some 4) t17 h14) fun t18=>
 wK (oStore (some 4) t7 t18 h14) fun t19 h20 y21=>
 K .ret ⟨[(8,t7)],h20,(y21 ++ (y15 ++ (y12 ++ (y9 ++ (y6 ++ (y3 ++ x))))))⟩)
 (C f_q06f [t13,(.fn f_q05i [t1])] h14 fun t22 h23 y24=>
 pK (oBin .geq t22 (.p (.int .i64 0))) fun t25=>
 gM t25 true v3 h23 fun t26 h27 y28=>
 gP t25 true (oBin .eql t26 (.p (.int .i64 3))) h27 fun t29 h30 y31=>
 pK (oPick t25 t29 (.p (.bool false))) fun t32=>
 condB t32 (pK (oIaddr (some 4) t13 t22 h30) fun t33=>
 pK (oLoad (some 4) t33 h30) fun t34=>
 wK (oStore (some 4) t7 t34 h30) fun t35 h36 y37=>
 K .ret ⟨[(8,t7)],h36,(y37 ++ (y31 ++ (y28 ++ (y24 ++ (y15 ++ (y12 ++ (y9 ++ (y6 ++ (y3 ++ x)))))))))⟩)
 (pK (oLen t13) fun t38=>
 pK (oBin .sub t38 (.p (.int .i64 1))) fun t39=>
 pK (oIaddr (some 4) t13 t39 h30) fun t40=>
 pK (oLoad (some 4) t40 h30) fun t41=>
 wK (oStore (some 4) t7 t41 h30) fun t42 h43 y44=>
 K .ret ⟨[(8,t7)],h43,(y44 ++ (y31 ++ (y28 ++ (y24 ++ (y15 ++ (y12 ++ (y9 ++ (y6 ++ (y3 ++ x)))))))))⟩))
theorem E_q05g {C gl v0 v1 v2 v3 h x K} : NW C gl (P_q05g) ⟨enter [v0,v1,v2,v3],h,x⟩ K = d_q05g C gl v0 v1 v2 v3 h x K:=by kernel_rfl
theorem e_q05g {C gl v0 v1 v2 v3 h x K} : NW C gl a_q05g.body ⟨enter [v0,v1,v2,v3],h,x⟩ K = d_q05g C gl v0 v1 v2 v3 h x K:=E_q05g
def p_q066_k1 : ACode:=.pr [0,1,5,6] (.reg [
  ⟨some 20,none,.mv (.t 6)⟩,
  ⟨some 21,none,.bin .add (.t 20) (.c (.p (.int .i64 1)))⟩,
  ⟨some 6,none,.mv (.t 21)⟩] (some [0,1,5,6]))
def d_q066_k1 (C : Hd) (gl : Nat → Option PV) (v0 v1 v5 v6 : AV) (h : Heap) (x : Esc) (K : Ex → St → Prop) : Prop:=
 pK (oBin .add v6 (.p (.int .i64 1))) fun t1=>
 K .normal ⟨[(0,v0),(1,v1),(5,v5),(6,t1)],h,x⟩
theorem e_q066_k1 {C gl e h x K} : NW C gl p_q066_k1 ⟨e,h,x⟩ K = d_q066_k1 C gl (aget e 0) (aget e 1) (aget e 5) (aget e 6) h x K:=by kernel_rfl
def P_q066_k2 (q1 : ACode) : ACode:=.pr [0,1,5,6] (.seq (.seq (.reg [
  ⟨some 16,none,.mv (.t 6)⟩,
  ⟨some 17,none,.mv (.t 0)⟩,
  ⟨some 18,none,.len (.t 17)⟩,
  ⟨some 19,none,.bin .lss (.t 16) (.t 18)⟩] (some [0,1,5,6,19]))
 (.cond (.t 19) .skip
 (.exit 0)))
 (.seq (.block 1 (.seq (.reg [
  ⟨some 22,none,.mv (.t 0)⟩,
  ⟨some 23,none,.mv (.t 6)⟩,
  ⟨some 24,none,.iaddr none (.t 22) (.t 23)⟩,
  ⟨some 25,none,.load none (.t 24)⟩,
  ⟨some 7,none,.mv (.t 25)⟩] (some [0,1,5,6,7]))
 (.seq (.reg [
  ⟨some 26,none,.mv (.t 1)⟩,
  ⟨some 27,none,.mv (.t 7)⟩,
  ⟨some 28,none,.callv (.t 26) [(.t 27)]⟩,
  ⟨some 29,none,.un .not (.t 28)⟩] (some [0,1,5,6,7,29]))
 (.cond (.t 29) (.seq (.reg [
  ⟨some 30,none,.mv (.t 0)⟩,
  ⟨some 31,none,.mv (.t 5)⟩,
  ⟨some 32,none,.mv (.t 7)⟩,
  ⟨some 33,none,.iaddr none (.t 30) (.t 31)⟩,
  ⟨none,none,.store none (.t 33) (.t 32)⟩] (some [0,1,5,6]))
 (.reg [
  ⟨some 34,none,.mv (.t 5)⟩,
  ⟨some 35,none,.bin .add (.t 34) (.c (.p (.int .i64 1)))⟩,
  ⟨some 5,none,.mv (.t 35)⟩] (some [0,1,5,6])))
 .skip))))
 q1))
def p_q066_k2 : ACode:=P_q066_k2 p_q066_k1
def d_q066_k2 (C : Hd) (gl : Nat → Option PV) (q1 : ACode) (v0 v1 v5 v6 : AV) (h : Heap) (x : Esc) (K : Ex → St → Prop) : Prop:=
 pK (oLen v0) fun t1=>
 pK (oBin .lss v6 t1) fun t2=>
 condB t2 (pK (oIaddr none v0 v6 h) fun t3=>
 pK (oLoad none t3 h) fun t4=>
 callvK C v1 [t4] h fun t5 h6 y7=>
 pK (oUn .not t5) fun t8=>
 condB t8 (pK (oIaddr none v0 v5 h6) fun t9=>
 wK (oStore none t9 t4 h6) fun t10 h11 y12=>
 pK (oBin .add v5 (.p (.int .i64 1))) fun t13=>
 NW C gl q1 ⟨[(0,v0),(1,v1),(5,t13),(6,v6)],h11,(y12 ++ (y7 ++ x))⟩ K)
 (NW C gl q1 ⟨[(0,v0),(1,v1),(5,v5),(6,v6),(7,t4),(29,t8)],h6,(y7 ++ x)⟩ K))
 (K (.exit 0) ⟨[(0,v0),(1,v1),(5,v5),(6,v6),(19,t2)],h,x⟩)
theorem E_q066_k2 {C gl q1 e h x K} : NW C gl (P_q066_k2 q1) ⟨e,h,x⟩ K = d_q066_k2 C gl q1 (aget e 0) (aget e 1) (aget e 5) (aget e 6) h x K:=by kernel_rfl
theorem e_q066_k2 {C gl e h x K} : NW C gl p_q066_k2 ⟨e,h,x⟩ K = d_q066_k2 C gl p_q066_k1 (aget e 0) (aget e 1) (aget e 5) (aget e 6) h x K:=E_q066_k2
theorem l_q066_k2 {C gl e h x K} : NW C gl (.loop p_q066_k2) ⟨e,h,x⟩ K = NLoop C gl p_q066_k2 K [(0,aget e 0),(1,aget e 1),(5,aget e 5),(6,aget e 6)] h x:=NLoop_pr
def p_q066_k3 : ACode:=.pr [0,5] (.seq (.reg [
  ⟨some 36,none,.mv (.t 0)⟩,
  ⟨some 37,none,.mv (.t 5)⟩,
  ⟨some 38,none,.slice none (.t 36) (some (.t 37)) none none⟩,
  ⟨none,none,.clr none (.str []) (.t 38)⟩] (some [0,5]))
 (.seq (.reg [
  ⟨some 39,none,.mv (.t 0)⟩,
  ⟨some 40,none,.mv (.t 5)⟩,
  ⟨some 41,none,.slice none (.t 39) none (some (.t 40)) none⟩,
  ⟨some 4,none,.mv (.t 41)⟩] (some [4]))
 .ret))
def d_q066_k3 (C : Hd) (gl : Nat → Option PV) (v0 v5 : AV) (h : Heap) (x : Esc) (K : Ex → St → Prop) : Prop:=
 pK (oSlice none v0 (some v5) none none h) fun t1=>
 wK (oClr none (.str []) t1 h) fun t2 h3 y4=>
 pK (oSlice none v0 none (some v5) none h3) fun t5=>
 K .ret ⟨[(4,t5)],h3,(y4 ++ x)⟩
theorem e_q066_k3 {C gl e h x K} : NW C gl p_q066_k3 ⟨e,h,x⟩ K = d_q066_k3 C gl (aget e 0) (aget e 5) h x K:=by kernel_rfl
def P_q066 (q2 q3 : ACode) : ACode:=(.seq (.reg [
  ⟨some 4,none,.mv (.c (.p (.sl none [])))⟩] (some [0,1]))
 (.seq (.reg [
  ⟨some 8,none,.mv (.t 0)⟩,
  ⟨some 9,none,.mv (.t 1)⟩,
  ⟨some 10,none,.call f_q06h [(.t 8),(.t 9)]⟩,
  ⟨some 5,none,.mv (.t 10)⟩] (some [0,1,5]))
 (.seq (.seq (.reg [
  ⟨some 11,none,.mv (.t 5)⟩,
  ⟨some 12,none,.bin .eql (.t 11) (.c (.p (.int .i64 (-1))))⟩] (some [0,1,5,12]))
 (.cond (.t 12) (.seq (.reg [
  ⟨some 13,none,.mv (.t 0)⟩,
  ⟨some 4,none,.mv (.t 13)⟩] (some [4]))
 .ret)
 .skip))
 (.seq (.seq (.reg [
  ⟨some 14,none,.mv (.t 5)⟩,
  ⟨some 15,none,.bin .add (.t 14) (.c (.p (.int .i64 1)))⟩,
  ⟨some 6,none,.mv (.t 15)⟩] (some [0,1,5,6]))
 (.block 0 (.loop q2)))
 q3))))
def a_q066 : AFun:=⟨2,[.t 4],P_q066 p_q066_k2 p_q066_k3,true,false⟩
def d_q066 (C : Hd) (gl : Nat → Option PV) (q2 q3 : ACode) (v0 v1 : AV) (h : Heap) (x : Esc) (K : Ex → St → Prop) : Prop:=
 C f_q06h [v0,v1] h fun t1 h2 y3=>
 pK (oBin .eql t1 (.p (.int .i64 (-1)))) fun t4=>
 condB t4 (K .ret ⟨[(4,v0)],h2,(y3 ++ x)⟩)
 (pK (oBin .add t1 (.p (.int .i64 1))) fun t5=>
 NW C gl (.loop q2) ⟨[(0,v0),(1,v1),(5,t1),(6,t5)],h2,(y3 ++ x)⟩ (blockN 0 (seqN C gl q3 K)))
theorem E_q066 {C gl q2 q3 v0 v1 h x K} : NW C gl (P_q066 q2 q3) ⟨enter [v0,v1],h,x⟩ K = d_q066 C gl q2 q3 v0 v1 h x K:=by kernel_rfl
theorem e_q066 {C gl v0 v1 h x K} : NW C gl a_q066.body ⟨enter [v0,v1],h,x⟩ K = d_q066 C gl p_q066_k2 p_q066_k3 v0 v1 h x K:=E_q066
def P_q058 : ACode:=(.seq (.reg [
  ⟨some 4,none,.mv (.c (.p (.bool false)))⟩] (some [0,1,2]))
 (.seq (.draw [
   ⟨⟨some 5,none,.load none (.t 1)⟩,[1],false,[],[]⟩,
   ⟨⟨some 6,none,.load none (.t 1)⟩,[1],false,[],[]⟩,
   ⟨⟨some 7,none,.load none (.t 2)⟩,[2],false,[],[]⟩,
   ⟨⟨some 8,none,.mv (.t 0)⟩,[0],false,[],[]⟩,
   ⟨⟨some 9,none,.call f_q05g [(.t 6),(.t 7),(.t 8),(.c (.p (.int .i64 1)))]⟩,[6,7,8],true,[],[0]⟩,
   ⟨⟨some 10,none,.field 3 none (.t 9)⟩,[9],false,[],[]⟩,
   ⟨⟨some 11,none,.call f_q05k [(.t 5),(.t 10)]⟩,[5,10],true,[],[]⟩,
   ⟨⟨some 12,none,.bin .lss (.t 11) (.c (.p (.int .i64 0)))⟩,[11],false,[],[]⟩,
   ⟨⟨some 13,none,.mv (.t 12)⟩,[12],false,[],[]⟩,
   ⟨⟨some 14,(some (13,false)),.load none (.t 1)⟩,[1,13],false,[],[]⟩,
   ⟨⟨some 15,(some (13,false)),.load none (.t 1)⟩,[1,13],false,[],[]⟩,
   ⟨⟨some 16,(some (13,false)),.load none (.t 2)⟩,[2,13],false,[],[]⟩,
   ⟨⟨some 17,(some (13,false)),.mv (.t 0)⟩,[0,13],false,[],[]⟩,
   ⟨⟨some 18,(some (13,false)),.call f_q05g [(.t 15),(.t 16),(.t 17),(.c (.p (.int .i64 3)))]⟩,[15,16,17,13],true,[],[9]⟩,
   ⟨⟨some 19,(some (13,false)),.field 3 none (.t 18)⟩,[18,13],false,[],[]⟩,
   ⟨⟨some 20,(some (13,false)),.call f_q05k [(.t 14),(.t 19)]⟩,[14,19,13],true,[],[]⟩,
   ⟨⟨some 21,(some (13,false)),.bin .geq (.t 20) (.c (.p (.int .i64 0)))⟩,[20,13],false,[],[]⟩,
   ⟨⟨some 22,none,.pick (.t 13) (.c (.p (.bool true))) (.t 21)⟩,[13,21],false,[],[]⟩,
   ⟨⟨some 4,none,.mv (.t 22)⟩,[22],false,[],[]⟩] (some [4]))
 .ret))
def a_q058 : AFun:=⟨3,[.t 4],P_q058,false,false⟩
def d_q058 (C : Hd) (gl : Nat → Option PV) (v0 v1 v2 : AV) (h : Heap) (x : Esc) (K : Ex → St → Prop) : Prop:=
 pK (oLoad none v1 h) fun t1=>
 pK (oLoad none v1 h) fun t2=>
 pK (oLoad none v2 h) fun t3=>
 callE C f_q05g [t2,t3,v0,(.p (.int .i64 1))] h fun t4 h5 y6=>
 (pK (oLoad none v1 h5) fun v=>(fun u (g1 : Heap) (y1 : Esc)=>u = t1 ∧ g1 = h5 ∧ y1 = []) v h5 []) ∧ (pK (oField 3 none t4) fun t7=>
 callE C f_q05k [t1,t7] h5 fun t8 h9 y10=>
 pK (oBin .lss t8 (.p (.int .i64 0))) fun t11=>
 gP t11 false (oLoad none v1 h9) h9 fun t12 h13 y14=>
 gP t11 false (oLoad none v1 h13) h13 fun t15 h16 y17=>
 gP t11 false (oLoad none v2 h16) h16 fun t18 h19 y20=>
 gM t11 false v0 h19 fun t21 h22 y23=>
 gV t11 false h22 (callE C f_q05g [t15,t18,t21,(.p (.int .i64 3))] h22) fun t24 h25 y26=>
 (gV t11 false h25 (fun kk=>pK (oLoad none v1 h25) fun v=>(kk) v h25 []) (fun u (g1 : Heap) (y1 : Esc)=>u = t12 ∧ g1 = h25 ∧ y1 = [])) ∧ (gP t11 false (oField 3 none t24) h25 fun t27 h28 y29=>
 gV t11 false h28 (callE C f_q05k [t12,t27] h28) fun t30 h31 y32=>
 gP t11 false (oBin .geq t30 (.p (.int .i64 0))) h31 fun t33 h34 y35=>
 pK (oPick t11 (.p (.bool true)) t33) fun t36=>
 K .ret ⟨[(4,t36)],h34,(y35 ++ (y32 ++ (y29 ++ (y26 ++ (y23 ++ (y20 ++ (y17 ++ (y14 ++ (y10 ++ (y6 ++ x))))))))))⟩))
theorem E_q058 {C gl v0 v1 v2 h x K} : NW C gl (P_q058) ⟨enter [v0,v1,v2],h,x⟩ K = d_q058 C gl v0 v1 v2 h x K:=by kernel_rfl
theorem e_q058 {C gl v0 v1 v2 h x K} : NW C gl a_q058.body ⟨enter [v0,v1,v2],h,x⟩ K = d_q058 C gl v0 v1 v2 h x K:=E_q058
def p_q05k_k1 : ACode:=.pr [0,7,8,9] (.seq (.reg [
  ⟨some 10,none,.bin .lss (.t 9) (.t 8)⟩] (some [0,7,8,9,10]))
 (.seq (.cond (.t 10) .skip
 (.exit 0))
 (.seq (.block 1 (.seq (.reg [
  ⟨some 11,none,.mv (.t 9)⟩,
  ⟨some 12,none,.iaddr none (.t 7) (.t 9)⟩,
  ⟨some 13,none,.load none (.t 12)⟩,
  ⟨some 5,none,.mv (.t 11)⟩,
  ⟨some 6,none,.mv (.t 13)⟩] (some [0,5,6,7,8,9]))
 (.seq (.draw [
   ⟨⟨some 14,none,.mv (.t 5)⟩,[5],false,[],[]⟩,
   ⟨⟨some 15,none,.mv (.t 0)⟩,[0],false,[],[]⟩,
   ⟨⟨some 16,none,.len (.t 15)⟩,[15],false,[],[]⟩,
   ⟨⟨some 17,none,.bin .lss (.t 14) (.t 16)⟩,[14,16],false,[],[]⟩,
   ⟨⟨some 18,none,.mv (.t 17)⟩,[17],false,[],[]⟩,
   ⟨⟨some 19,(some (18,true)),.mv (.t 6)⟩,[6,18],false,[],[]⟩,
   ⟨⟨some 20,(some (18,true)),.mv (.t 0)⟩,[0,18],false,[],[]⟩,
   ⟨⟨some 21,(some (18,true)),.mv (.t 5)⟩,[5,18],false,[],[]⟩,
   ⟨⟨some 22,(some (18,true)),.iaddr (some 4) (.t 20) (.t 21)⟩,[20,21,18],false,[],[]⟩,
   ⟨⟨some 23,(some (18,true)),.faddr 1 none (.t 22)⟩,[22,18],false,[],[]⟩,
   ⟨⟨some 24,(some (18,true)),.load none (.t 23)⟩,[23,18],false,[],[]⟩,
   ⟨⟨some 25,(some (18,true)),.mv (.t 0)⟩,[0,18],false,[],[]⟩,
   ⟨⟨some 26,(some (18,true)),.mv (.t 5)⟩,[5,18],false,[],[]⟩,
   ⟨⟨some 27,(some (18,true)),.iaddr (some 4) (.t 25) (.t 26)⟩,[25,26,18],false,[],[]⟩,
   ⟨⟨some 28,(some (18,true)),.faddr 2 none (.t 27)⟩,[27,18],false,[],[]⟩,
   ⟨⟨some 29,(some (18,true)),.load none (.t 28)⟩,[28,18],false,[],[]⟩,
   ⟨⟨some 30,(some (18,true)),.call f_q05l [(.t 19),(.t 24),(.t 29)]⟩,[19,24,29,18],true,[],[]⟩,
   ⟨⟨some 31,(some (18,true)),.un .not (.t 30)⟩,[30,18],false,[],[]⟩,
   ⟨⟨some 32,none,.pick (.t 18) (.t 31) (.c (.p (.bool false)))⟩,[18,31],false,[],[]⟩] (some [0,5,7,8,9,32]))
 (.cond (.t 32) (.seq (.reg [
  ⟨some 33,none,.mv (.t 5)⟩,
  ⟨some 4,none,.mv (.t 33)⟩] (some [4]))
 .ret)
 .skip))))
 (.reg [
  ⟨some 34,none,.bin .add (.t 9) (.c (.p (.int .i64 1)))⟩,
  ⟨some 9,none,.mv (.t 34)⟩] (some [0,7,8,9])))))
def d_q05k_k1 (C : Hd) (gl : Nat → Option PV) (v0 v7 v8 v9 : AV) (h : Heap) (x : Esc) (K : Ex → St → Prop) : Prop:=
 pK (oBin .lss v9 v8) fun t1=>
 condB t1 (pK (oIaddr none v7 v9 h) fun t2=>
 pK (oLoad none t2 h) fun t3=>
 pK (oLen v0) fun t4=>
 pK (oBin .lss v9 t4) fun t5=>
 gM t5 true t3 h fun t6 h7 y8=>
 gM t5 true v0 h7 fun t9 h10 y11=>
 gM t5 true v9 h10 fun t12 h13 y14=>
 gP t5 true (oIaddr (some 4) t9 t12 h13) h13 fun t15 h16 y17=>
 gP t5 true (oFaddr 1 none t15) h16 fun t18 h19 y20=>
 gP t5 true (oLoad none t18 h19) h19 fun t21 h22 y23=>
 gM t5 true v0 h22 fun t24 h25 y26=>
 gM t5 true v9 h25 fun t27 h28 y29=>
 gP t5 true (oIaddr (some 4) t24 t27 h28) h28 fun t30 h31 y32=>
 gP t5 true (oFaddr 2 none t30) h31 fun t33 h34 y35=>
 gP t5 true (oLoad none t33 h34) h34 fun t36 h37 y38=>
 gV t5 true h37 (callE C f_q05l [t6,t21,t36] h37) fun t39 h40 y41=>
 gP t5 true (oUn .not t39) h40 fun t42 h43 y44=>
 pK (oPick t5 t42 (.p (.bool false))) fun t45=>
 condB t45 (K .ret ⟨[(4,v9)],h43,(y44 ++ (y41 ++ (y38 ++ (y35 ++ (y32 ++ (y29 ++ (y26 ++ (y23 ++ (y20 ++ (y17 ++ (y14 ++ (y11 ++ (y8 ++ x)))))))))))))⟩)
 (pK (oBin .add v9 (.p (.int .i64 1))) fun t46=>
 K .normal ⟨[(0,v0),(7,v7),(8,v8),(9,t46)],h43,(y44 ++ (y41 ++ (y38 ++ (y35 ++ (y32 ++ (y29 ++ (y26 ++ (y23 ++ (y20 ++ (y17 ++ (y14 ++ (y11 ++ (y8 ++ x)))))))))))))⟩))
 (K (.exit 0) ⟨[(0,v0),(7,v7),(8,v8),(9,v9),(10,t1)],h,x⟩)
theorem e_q05k_k1 {C gl e h x K} : NW C gl p_q05k_k1 ⟨e,h,x⟩ K = d_q05k_k1 C gl (aget e 0) (aget e 7) (aget e 8) (aget e 9) h x K:=by kernel_rfl
theorem l_q05k_k1 {C gl e h x K} : NW C gl (.loop p_q05k_k1) ⟨e,h,x⟩ K = NLoop C gl p_q05k_k1 K [(0,aget e 0),(7,aget e 7),(8,aget e 8),(9,aget e 9)] h x:=NLoop_pr
def p_q05k_k2 : ACode:=.pr [] (.seq (.reg [
  ⟨some 4,none,.mv (.c (.p (.int .i64 (-1))))⟩] (some [4]))
 .ret)
def d_q05k_k2 (C : Hd) (gl : Nat → Option PV) (h : Heap) (x : Esc) (K : Ex → St → Prop) : Prop:=
 K .ret ⟨[(4,(.p (.int .i64 (-1))))],h,x⟩
theorem e_q05k_k2 {C gl e h x K} : NW C gl p_q05k_k2 ⟨e,h,x⟩ K = d_q05k_k2 C gl h x K:=by kernel_rfl
def P_q05k (q1 q2 : ACode) : ACode:=(.seq (.reg [
  ⟨some 4,none,.mv (.c (.p (.int .i64 0)))⟩] (some [0,1]))
 (.seq (.seq (.reg [
  ⟨some 7,none,.mv (.t 1)⟩,
  ⟨some 8,none,.len (.t 7)⟩,
  ⟨some 9,none,.mv (.c (.p (.int .i64 0)))⟩] (some [0,7,8,9]))
 (.block 0 (.loop q1)))
 q2))
def a_q05k : AFun:=⟨2,[.t 4],P_q05k p_q05k_k1 p_q05k_k2,false,false⟩
def d_q05k (C : Hd) (gl : Nat → Option PV) (q1 q2 : ACode) (v0 v1 : AV) (h : Heap) (x : Esc) (K : Ex → St → Prop) : Prop:=
 pK (oLen v1) fun t1=>
 NW C gl (.loop q1) ⟨[(0,v0),(7,v1),(8,t1),(9,(.p (.int .i64 0)))],h,x⟩ (blockN 0 (seqN C gl q2 K))
theorem E_q05k {C gl q1 q2 v0 v1 h x K} : NW C gl (P_q05k q1 q2) ⟨enter [v0,v1],h,x⟩ K = d_q05k C gl q1 q2 v0 v1 h x K:=by kernel_rfl
theorem e_q05k {C gl v0 v1 h x K} : NW C gl a_q05k.body ⟨enter [v0,v1],h,x⟩ K = d_q05k C gl p_q05k_k1 p_q05k_k2 v0 v1 h x K:=E_q05k
def p_q05x_k1 : ACode:=.pr [0,3,4,5] (.reg [
  ⟨some 33,none,.mv (.t 5)⟩,
  ⟨some 34,none,.bin .add (.t 33) (.c (.p (.int .i64 1)))⟩,
  ⟨some 5,none,.mv (.t 34)⟩] (some [0,3,4,5]))
def d_q05x_k1 (C : Hd) (gl : Nat → Option PV) (v0 v3 v4 v5 : AV) (h : Heap) (x : Esc) (K : Ex → St → Prop) : Prop:=
 pK (oBin .add v5 (.p (.int .i64 1))) fun t1=>
 K .normal ⟨[(0,v0),(3,v3),(4,v4),(5,t1)],h,x⟩
theorem e_q05x_k1 {C gl e h x K} : NW C gl p_q05x_k1 ⟨e,h,x⟩ K = d_q05x_k1 C gl (aget e 0) (aget e 3) (aget e 4) (aget e 5) h x K:=by kernel_rfl
def P_q05x_k2 (q1 : ACode) : ACode:=.pr [0,3,4,5] (.seq (.seq (.reg [
  ⟨some 29,none,.mv (.t 5)⟩,
  ⟨some 30,none,.mv (.t 4)⟩,
  ⟨some 31,none,.len (.t 30)⟩,
  ⟨some 32,none,.bin .lss (.t 29) (.t 31)⟩] (some [0,3,4,5,32]))
 (.cond (.t 32) .skip
 (.exit 2)))
 (.seq (.block 3 (.seq (.draw [
   ⟨⟨some 35,none,.mv (.t 4)⟩,[4],false,[],[]⟩,
   ⟨⟨some 36,none,.mv (.t 5)⟩,[5],false,[],[]⟩,
   ⟨⟨some 37,none,.iaddr none (.t 35) (.t 36)⟩,[35,36],false,[],[]⟩,
   ⟨⟨some 38,none,.load none (.t 37)⟩,[37],false,[],[]⟩,
   ⟨⟨some 39,none,.mv (.t 4)⟩,[4],false,[],[]⟩,
   ⟨⟨some 40,none,.mv (.t 5)⟩,[5],false,[],[]⟩,
   ⟨⟨some 41,none,.bin .sub (.t 40) (.c (.p (.int .i64 1)))⟩,[40],false,[],[]⟩,
   ⟨⟨some 42,none,.iaddr none (.t 39) (.t 41)⟩,[39,41],false,[],[]⟩,
   ⟨⟨some 43,none,.load none (.t 42)⟩,[42],false,[],[]⟩,
   ⟨⟨some 44,none,.bin .neq (.t 38) (.t 43)⟩,[38,43],false,[],[]⟩] (some [0,3,4,5,44]))
 (.cond (.t 44) (.seq (.reg [
  ⟨some 45,none,.mv (.t 0)⟩,
  ⟨some 46,none,.mv (.t 3)⟩,
  ⟨some 47,none,.mv (.t 4)⟩,
  ⟨some 48,none,.mv (.t 5)⟩,
  ⟨some 49,none,.iaddr none (.t 47) (.t 48)⟩,
  ⟨some 50,none,.load none (.t 49)⟩,
  ⟨some 51,none,.iaddr none (.t 45) (.t 46)⟩,
  ⟨none,none,.store none (.t 51) (.t 50)⟩] (some [0,3,4,5]))
 (.reg [
  ⟨some 52,none,.mv (.t 3)⟩,
  ⟨some 53,none,.bin .add (.t 52) (.c (.p (.int .i64 1)))⟩,
  ⟨some 3,none,.mv (.t 53)⟩] (some [0,3,4,5])))
 .skip)))
 q1))
def p_q05x_k2 : ACode:=P_q05x_k2 p_q05x_k1
def d_q05x_k2 (C : Hd) (gl : Nat → Option PV) (q1 : ACode) (v0 v3 v4 v5 : AV) (h : Heap) (x : Esc) (K : Ex → St → Prop) : Prop:=
 pK (oLen v4) fun t1=>
 pK (oBin .lss v5 t1) fun t2=>
 condB t2 (pK (oIaddr none v4 v5 h) fun t3=>
 pK (oLoad none t3 h) fun t4=>
 pK (oBin .sub v5 (.p (.int .i64 1))) fun t5=>
 pK (oIaddr none v4 t5 h) fun t6=>
 pK (oLoad none t6 h) fun t7=>
 pK (oBin .neq t4 t7) fun t8=>
 condB t8 (pK (oIaddr none v4 v5 h) fun t9=>
 pK (oLoad none t9 h) fun t10=>
 pK (oIaddr none v0 v3 h) fun t11=>
 wK (oStore none t11 t10 h) fun t12 h13 y14=>
 pK (oBin .add v3 (.p (.int .i64 1))) fun t15=>
 NW C gl q1 ⟨[(0,v0),(3,t15),(4,v4),(5,v5)],h13,(y14 ++ x)⟩ K)
 (NW C gl q1 ⟨[(0,v0),(3,v3),(4,v4),(5,v5),(44,t8)],h,x⟩ K))
 (K (.exit 2) ⟨[(0,v0),(3,v3),(4,v4),(5,v5),(32,t2)],h,x⟩)
theorem E_q05x_k2 {C gl q1 e h x K} : NW C gl (P_q05x_k2 q1) ⟨e,h,x⟩ K = d_q05x_k2 C gl q1 (aget e 0) (aget e 3) (aget e 4) (aget e 5) h x K:=by kernel_rfl
theorem e_q05x_k2 {C gl e h x K} : NW C gl p_q05x_k2 ⟨e,h,x⟩ K = d_q05x_k2 C gl p_q05x_k1 (aget e 0) (aget e 3) (aget e 4) (aget e 5) h x K:=E_q05x_k2
theorem l_q05x_k2 {C gl e h x K} : NW C gl (.loop p_q05x_k2) ⟨e,h,x⟩ K = NLoop C gl p_q05x_k2 K [(0,aget e 0),(3,aget e 3),(4,aget e 4),(5,aget e 5)] h x:=NLoop_pr
def p_q05x_k3 : ACode:=.pr [0,3] (.seq (.reg [
  ⟨some 54,none,.mv (.t 0)⟩,
  ⟨some 55,none,.mv (.t 3)⟩,
  ⟨some 56,none,.slice none (.t 54) (some (.t 55)) none none⟩,
  ⟨none,none,.clr none (.str []) (.t 56)⟩] (some [0,3]))
 (.seq (.reg [
  ⟨some 57,none,.mv (.t 0)⟩,
  ⟨some 58,none,.mv (.t 3)⟩,
  ⟨some 59,none,.slice none (.t 57) none (some (.t 58)) none⟩,
  ⟨some 2,none,.mv (.t 59)⟩] (some [2]))
 .ret))
def d_q05x_k3 (C : Hd) (gl : Nat → Option PV) (v0 v3 : AV) (h : Heap) (x : Esc) (K : Ex → St → Prop) : Prop:=
 pK (oSlice none v0 (some v3) none none h) fun t1=>
 wK (oClr none (.str []) t1 h) fun t2 h3 y4=>
 pK (oSlice none v0 none (some v3) none h3) fun t5=>
 K .ret ⟨[(2,t5)],h3,(y4 ++ x)⟩
theorem e_q05x_k3 {C gl e h x K} : NW C gl p_q05x_k3 ⟨e,h,x⟩ K = d_q05x_k3 C gl (aget e 0) (aget e 3) h x K:=by kernel_rfl
def p_q05x_k4 : ACode:=.pr [0,3] (.reg [
  ⟨some 14,none,.mv (.t 3)⟩,
  ⟨some 15,none,.bin .add (.t 14) (.c (.p (.int .i64 1)))⟩,
  ⟨some 3,none,.mv (.t 15)⟩] (some [0,3]))
def d_q05x_k4 (C : Hd) (gl : Nat → Option PV) (v0 v3 : AV) (h : Heap) (x : Esc) (K : Ex → St → Prop) : Prop:=
 pK (oBin .add v3 (.p (.int .i64 1))) fun t1=>
 K .normal ⟨[(0,v0),(3,t1)],h,x⟩
theorem e_q05x_k4 {C gl e h x K} : NW C gl p_q05x_k4 ⟨e,h,x⟩ K = d_q05x_k4 C gl (aget e 0) (aget e 3) h x K:=by kernel_rfl
def P_q05x_k5 (q2 q3 q4 : ACode) : ACode:=.pr [0,3] (.seq (.seq (.reg [
  ⟨some 10,none,.mv (.t 3)⟩,
  ⟨some 11,none,.mv (.t 0)⟩,
  ⟨some 12,none,.len (.t 11)⟩,
  ⟨some 13,none,.bin .lss (.t 10) (.t 12)⟩] (some [0,3,13]))
 (.cond (.t 13) .skip
 (.exit 0)))
 (.seq (.block 1 (.seq (.draw [
   ⟨⟨some 16,none,.mv (.t 0)⟩,[0],false,[],[]⟩,
   ⟨⟨some 17,none,.mv (.t 3)⟩,[3],false,[],[]⟩,
   ⟨⟨some 18,none,.iaddr none (.t 16) (.t 17)⟩,[16,17],false,[],[]⟩,
   ⟨⟨some 19,none,.load none (.t 18)⟩,[18],false,[],[]⟩,
   ⟨⟨some 20,none,.mv (.t 0)⟩,[0],false,[],[]⟩,
   ⟨⟨some 21,none,.mv (.t 3)⟩,[3],false,[],[]⟩,
   ⟨⟨some 22,none,.bin .sub (.t 21) (.c (.p (.int .i64 1)))⟩,[21],false,[],[]⟩,
   ⟨⟨some 23,none,.iaddr none (.t 20) (.t 22)⟩,[20,22],false,[],[]⟩,
   ⟨⟨some 24,none,.load none (.t 23)⟩,[23],false,[],[]⟩,
   ⟨⟨some 25,none,.bin .eql (.t 19) (.t 24)⟩,[19,24],false,[],[]⟩] (some [0,3,25]))
 (.cond (.t 25) (.seq (.reg [
  ⟨some 26,none,.mv (.t 0)⟩,
  ⟨some 27,none,.mv (.t 3)⟩,
  ⟨some 28,none,.slice none (.t 26) (some (.t 27)) none none⟩,
  ⟨some 4,none,.mv (.t 28)⟩] (some [0,3,4]))
 (.seq (.seq (.reg [
  ⟨some 5,none,.mv (.c (.p (.int .i64 1)))⟩] (some [0,3,4,5]))
 (.block 2 (.loop q2)))
 q3))
 .skip)))
 q4))
def p_q05x_k5 : ACode:=P_q05x_k5 p_q05x_k2 p_q05x_k3 p_q05x_k4
def d_q05x_k5 (C : Hd) (gl : Nat → Option PV) (q2 q3 q4 : ACode) (v0 v3 : AV) (h : Heap) (x : Esc) (K : Ex → St → Prop) : Prop:=
 pK (oLen v0) fun t1=>
 pK (oBin .lss v3 t1) fun t2=>
 condB t2 (pK (oIaddr none v0 v3 h) fun t3=>
 pK (oLoad none t3 h) fun t4=>
 pK (oBin .sub v3 (.p (.int .i64 1))) fun t5=>
 pK (oIaddr none v0 t5 h) fun t6=>
 pK (oLoad none t6 h) fun t7=>
 pK (oBin .eql t4 t7) fun t8=>
 condB t8 (pK (oSlice none v0 (some v3) none none h) fun t9=>
 NW C gl (.loop q2) ⟨[(0,v0),(3,v3),(4,t9),(5,(.p (.int .i64 1)))],h,x⟩ (blockN 2 (seqN C gl q3 (blockN 1 (seqN C gl q4 K)))))
 (NW C gl q4 ⟨[(0,v0),(3,v3),(25,t8)],h,x⟩ K))
 (K (.exit 0) ⟨[(0,v0),(3,v3),(13,t2)],h,x⟩)
theorem E_q05x_k5 {C gl q2 q3 q4 e h x K} : NW C gl (P_q05x_k5 q2 q3 q4) ⟨e,h,x⟩ K = d_q05x_k5 C gl q2 q3 q4 (aget e 0) (aget e 3) h x K:=by kernel_rfl
theorem e_q05x_k5 {C gl e h x K} : NW C gl p_q05x_k5 ⟨e,h,x⟩ K = d_q05x_k5 C gl p_q05x_k2 p_q05x_k3 p_q05x_k4 (aget e 0) (aget e 3) h x K:=E_q05x_k5
theorem l_q05x_k5 {C gl e h x K} : NW C gl (.loop p_q05x_k5) ⟨e,h,x⟩ K = NLoop C gl p_q05x_k5 K [(0,aget e 0),(3,aget e 3)] h x:=NLoop_pr
def p_q05x_k6 : ACode:=.pr [0] (.seq (.reg [
  ⟨some 60,none,.mv (.t 0)⟩,
  ⟨some 2,none,.mv (.t 60)⟩] (some [2]))
 .ret)
def d_q05x_k6 (C : Hd) (gl : Nat → Option PV) (v0 : AV) (h : Heap) (x : Esc) (K : Ex → St → Prop) : Prop:=
 K .ret ⟨[(2,v0)],h,x⟩
theorem e_q05x_k6 {C gl e h x K} : NW C gl p_q05x_k6 ⟨e,h,x⟩ K = d_q05x_k6 C gl (aget e 0) h x K:=by kernel_rfl
def P_q05x (q5 q6 : ACode) : ACode:=(.seq (.reg [
  ⟨some 2,none,.mv (.c (.p (.sl none [])))⟩] (some [0]))
 (.seq (.seq (.reg [
  ⟨some 6,none,.mv (.t 0)⟩,
  ⟨some 7,none,.len (.t 6)⟩,
  ⟨some 8,none,.bin .lss (.t 7) (.c (.p (.int .i64 2)))⟩] (some [0,8]))
 (.cond (.t 8) (.seq (.reg [
  ⟨some 9,none,.mv (.t 0)⟩,
  ⟨some 2,none,.mv (.t 9)⟩] (some [2]))
 .ret)
 .skip))
 (.seq (.seq (.reg [
  ⟨some 3,none,.mv (.c (.p (.int .i64 1)))⟩] (some [0,3]))
 (.block 0 (.loop q5)))
 q6)))
def a_q05x : AFun:=⟨1,[.t 2],P_q05x p_q05x_k5 p_q05x_k6,true,false⟩
def d_q05x (C : Hd) (gl : Nat → Option PV) (q5 q6 : ACode) (v0 : AV) (h : Heap) (x : Esc) (K : Ex → St → Prop) : Prop:=
 pK (oLen v0) fun t1=>
 pK (oBin .lss t1 (.p (.int .i64 2))) fun t2=>
 condB t2 (K .ret ⟨[(2,v0)],h,x⟩)
 (NW C gl (.loop q5) ⟨[(0,v0),(3,(.p (.int .i64 1)))],h,x⟩ (blockN 0 (seqN C gl q6 K)))
theorem E_q05x {C gl q5 q6 v0 h x K} : NW C gl (P_q05x q5 q6) ⟨enter [v0],h,x⟩ K = d_q05x C gl q5 q6 v0 h x K:=by kernel_rfl
theorem e_q05x {C gl v0 h x K} : NW C gl a_q05x.body ⟨enter [v0],h,x⟩ K = d_q05x C gl p_q05x_k5 p_q05x_k6 v0 h x K:=E_q05x
def P_q034 : ACode:=(.seq (.reg [
  ⟨some 2,none,.box (.t 0)⟩,
  ⟨some 4,none,.mv (.c (.p (.bool false)))⟩] (some [1,2]))
 (.seq (.reg [
  ⟨some 5,none,.mv (.t 1)⟩,
  ⟨some 6,none,.faddr 1 none (.t 2)⟩,
  ⟨some 7,none,.load none (.t 6)⟩,
  ⟨some 8,none,.faddr 2 none (.t 2)⟩,
  ⟨some 9,none,.load none (.t 8)⟩,
  ⟨some 10,none,.call f_q00c [(.t 5),(.t 7),(.t 9)]⟩,
  ⟨some 11,none,.un .not (.t 10)⟩,
  ⟨some 4,none,.mv (.t 11)⟩] (some [4]))
 .ret))
def a_q034 : AFun:=⟨2,[.t 4],P_q034,false,false⟩
def d_q034 (C : Hd) (gl : Nat → Option PV) (v0 v1 : AV) (h : Heap) (x : Esc) (K : Ex → St → Prop) : Prop:=
 wK (oBox v0 h) fun t1 h2 y3=>
 pK (oFaddr 1 none t1) fun t4=>
 pK (oLoad none t4 h2) fun t5=>
 pK (oFaddr 2 none t1) fun t6=>
 pK (oLoad none t6 h2) fun t7=>
 C f_q00c [v1,t5,t7] h2 fun t8 h9 y10=>
 pK (oUn .not t8) fun t11=>
 K .ret ⟨[(4,t11)],h9,(y10 ++ (y3 ++ x))⟩
theorem E_q034 {C gl v0 v1 h x K} : NW C gl (P_q034) ⟨enter [v0,v1],h,x⟩ K = d_q034 C gl v0 v1 h x K:=by kernel_rfl
theorem e_q034 {C gl v0 v1 h x K} : NW C gl a_q034.body ⟨enter [v0,v1],h,x⟩ K = d_q034 C gl v0 v1 h x K:=E_q034
def p_q04b_k1 : ACode:=.pr [0] (.seq (.reg [
  ⟨some 15,none,.mv (.t 0)⟩,
  ⟨some 4,none,.mv (.t 15)⟩] (some [4]))
 .ret)
def d_q04b_k1 (C : Hd) (gl : Nat → Option PV) (v0 : AV) (h : Heap) (x : Esc) (K : Ex → St → Prop) : Prop:=
 K .ret ⟨[(4,v0)],h,x⟩
theorem e_q04b_k1 {C gl e h x K} : NW C gl p_q04b_k1 ⟨e,h,x⟩ K = d_q04b_k1 C gl (aget e 0) h x K:=by kernel_rfl
def P_q04b (q1 : ACode) : ACode:=(.seq (.reg [
  ⟨some 4,none,.mv (.c (.p (.int .i64 0)))⟩] (some [0,1]))
 (.seq (.seq (.reg [
  ⟨some 5,none,.mv (.t 1)⟩,
  ⟨some 6,none,.bin .lss (.t 5) (.c (.p (.int .i64 1)))⟩] (some [0,1,6]))
 (.cond (.t 6) (.seq (.reg [
  ⟨some 4,none,.mv (.c (.p (.int .i64 0)))⟩] (some [4]))
 .ret)
 .skip))
 (.seq (.reg [
  ⟨some 7,none,.mv (.t 0)⟩,
  ⟨some 8,none,.mv (.t 1)⟩,
  ⟨some 9,none,.bin .rem (.t 7) (.t 8)⟩,
  ⟨some 0,none,.mv (.t 9)⟩] (some [0,1]))
 (.seq (.seq (.reg [
  ⟨some 10,none,.mv (.t 0)⟩,
  ⟨some 11,none,.bin .lss (.t 10) (.c (.p (.int .i64 0)))⟩] (some [0,1,11]))
 (.cond (.t 11) (.reg [
  ⟨some 12,none,.mv (.t 0)⟩,
  ⟨some 13,none,.mv (.t 1)⟩,
  ⟨some 14,none,.bin .add (.t 12) (.t 13)⟩,
  ⟨some 0,none,.mv (.t 14)⟩] (some [0]))
 .skip))
 q1))))
def a_q04b : AFun:=⟨2,[.t 4],P_q04b p_q04b_k1,false,false⟩
def d_q04b (C : Hd) (gl : Nat → Option PV) (q1 : ACode) (v0 v1 : AV) (h : Heap) (x : Esc) (K : Ex → St → Prop) : Prop:=
 pK (oBin .lss v1 (.p (.int .i64 1))) fun t1=>
 condB t1 (K .ret ⟨[(4,(.p (.int .i64 0)))],h,x⟩)
 (pK (oBin .rem v0 v1) fun t2=>
 pK (oBin .lss t2 (.p (.int .i64 0))) fun t3=>
 condB t3 (pK (oBin .add t2 v1) fun t4=>
 NW C gl q1 ⟨[(0,t4)],h,x⟩ K)
 (NW C gl q1 ⟨[(0,t2),(1,v1),(11,t3)],h,x⟩ K))
theorem E_q04b {C gl q1 v0 v1 h x K} : NW C gl (P_q04b q1) ⟨enter [v0,v1],h,x⟩ K = d_q04b C gl q1 v0 v1 h x K:=by kernel_rfl
theorem e_q04b {C gl v0 v1 h x K} : NW C gl a_q04b.body ⟨enter [v0,v1],h,x⟩ K = d_q04b C gl p_q04b_k1 v0 v1 h x K:=E_q04b
def P_q032 : ACode:=(.seq (.reg [
  ⟨some 3,none,.box (.t 1)⟩,
  ⟨some 4,none,.mv (.c (.p (.int .i64 0)))⟩] (some [0,3]))
 (.seq (.reg [
  ⟨some 5,none,.mv (.t 0)⟩,
  ⟨some 6,none,.mkfn f_q033 [(.t 3)]⟩,
  ⟨some 7,none,.call f_q06e [(.t 5),(.t 6)]⟩,
  ⟨some 4,none,.mv (.t 7)⟩] (some [4]))
 .ret))
def a_q032 : AFun:=⟨2,[.t 4],P_q032,false,false⟩
def d_q032 (C : Hd) (gl : Nat → Option PV) (v0 v1 : AV) (h : Heap) (x : Esc) (K : Ex → St → Prop) : Prop:=
 wK (oBox v1 h) fun t1 h2 y3=>
 C f_q06e [v0,(.fn f_q033 [t1])] h2 fun t4 h5 y6=>
 K .ret ⟨[(4,t4)],h5,(y6 ++ (y3 ++ x))⟩
theorem E_q032 {C gl v0 v1 h x K} : NW C gl (P_q032) ⟨enter [v0,v1],h,x⟩ K = d_q032 C gl v0 v1 h x K:=by kernel_rfl
theorem e_q032 {C gl v0 v1 h x K} : NW C gl a_q032.body ⟨enter [v0,v1],h,x⟩ K = d_q032 C gl v0 v1 h x K:=E_q032
end Go.Am
end
