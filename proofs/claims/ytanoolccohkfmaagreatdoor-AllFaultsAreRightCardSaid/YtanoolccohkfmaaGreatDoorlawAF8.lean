/- Texts of the proof, laid together: SpNums, SpQNum, SpFlt1, SpFlt2, SpWords, SpJoin, SpBld, PBits, SpFlt3, SpFlt4, SpFlt5, SpArg, SpFlt6, SpFltT, SpEach, SpFltR, SpFltR2, SpFltR3, SpSortO, SpGenF, SpChg, SpGenA2, SpDelF, SpGenF2, SpInts, SpFltE, PAll, SpAll, SpPath, SpReady, SpKeep, SpContF, SpLawAF, Bridge, AmL2, AmL3. -/
import Derived.KernelRfl
import Derived.ProofKit
import Derived.Shelf.Strconv.Itoa3
import Derived.Lib.LaidTab
import Derived.Shelf.Strconv.AtoiAll
import Derived.Test.YtanoolccohkfmaaGreatDoorlawAF7
set_option linter.all false
section
/- Several numbers read. -/
open Go
set_option linter.all false
namespace Go.Am
variable {h : Heap} {K : Post}
attribute [-go_sem] e_q009_k2
theorem s_NumbersB (ws : List (List UInt8)) (dg : Nat) (hd : dg ≤ 17) (hs : ∀ s ∈ ws,s.length ≤ 1000000) (hl : ws.length ≤ 1000000) : ACall X f_q009 [AStr ws,AI dg] h K = K (.tup [AL (if ws.all (numF dg) then ws.map numV else []),AB (ws.all (numF dg))]) h []:=by
  refine rule ?_
  rw [c_q009 rfl]
  simp only [d_q009,go_sem]
  refine N_loop (fun k : Nat=>⟨[(1,AI dg),(6,.own h.length k 0 k),(11,AStr ws),(12,AI ws.length),(13,AI k)],h ++ [.row none ((ws.take k).map fun s=>eI (numV s)) 0],[]⟩) (fun k=>k ≤ ws.length ∧ (ws.take k).all (numF dg) = true) (fun k=>ws.length - k) 0 (by simp) ⟨by omega,by simp⟩ ?_
  rintro k ⟨hk,hp⟩
  have hrl : ((ws.take k).map fun s=>eI (numV s)).length = k:=by simp; omega
  rcases Nat.lt_or_ge k ws.length with hlt | hge
  · have hlt' : (k : Int) < (ws.length : Int) := by omega
    have hg:=map_get PV.str hlt
    have cz : cutP none 0 (PV.str ws[k]) = some (PV.str ws[k]):=rfl
    have wk : IntKind.i64.wrap ((k : Int) + 1) = ((k + 1 : Nat) : Int):=i64_wrap _ (by omega) (by omega)
    have q:=fun h K=>s_NumberB (h:=h) (K:=K) ws[k] dg hd (hs _ (List.getElem_mem hlt))
    cases e : numF dg ws[k] with
    | false=>
      have ea : ws.all (numF dg) = false:=by
        rw [← Bool.not_eq_true,List.all_eq_true]
        intro ha
        have:=ha _ (List.getElem_mem hlt)
        rw [e] at this
        cases this
      rw [e] at q
      simp only [go_sem,hlt',hlt,hg,cz,↓q,q,ea]
      rfl
    | true=>
      rw [e] at q
      have hm : k + 1 ≤ maxSl:=by unfold maxSl; omega
      simp only [go_sem,hlt',hlt,hg,cz,↓q,q,hrl,hm,wk]
      refine ⟨k + 1,?_,⟨by omega,?_⟩,by omega⟩
      · rw [List.take_succ, List.getElem?_eq_getElem hlt, List.map_append]
        rfl
      · rw [List.take_succ, List.getElem?_eq_getElem hlt, List.all_append, hp]
        simp [e]
  · have hk' : k = ws.length := by omega
    subst hk'
    rw [List.take_length] at hp hrl
    rw [List.take_length]
    have hlt' : ¬ (ws.length : Int) < (ws.length : Int):=by omega
    simp only [go_sem,Nat.lt_irrefl,decide_false,hrl,hp]
    rw [e_q009_k2]
    simp only [d_q009_k2,go_sem,hrl]
    rw [show win (ws.map fun s=>eI (numV s)) 0 ws.length = (ws.map numV).map eI from by unfold win; rw [List.drop_zero,List.take_of_length_le (by simp),List.map_map]; rfl]
end Go.Am
end
section
/- Numbers read,the reference's way. -/
open Go
set_option linter.all false
namespace Go.Am
variable {h : Heap} {K : Post}
theorem s_ItoaQ (n : Int) (h1 : -1000000000000000000 ≤ n) (h2 : n ≤ 1000000000000000000) : ACall X f_q07q [AI n] h K = K (AS (itoa n)) h []:=by
  refine lib_call (X:=X) (by kernel_rfl) ?_
  rw [X_ex2]
  exact libF_pure (vs:=[.int .i64 n]) (by kernel_rfl) (s:=itoaS) (by kernel_rfl) rfl (by
    unfold itoaS
    have a1 : decide (-9223372036854775808 ≤ n) = true:=by simp; omega
    have a2 : decide (n ≤ 9223372036854775807) = true:=by simp; omega
    show (bif decide (-9223372036854775808 ≤ n) && decide (n ≤ 9223372036854775807) then some (AV.p (PV.str (itoa n))) else none) = _
    rw [a1,a2]
    rfl)
end Go.Am
end
section
/- Tests and faults: what is wrong with them,both ways. -/
open Go
set_option linter.all false
namespace Go.Am
variable {h : Heap} {K : Post}
end Go.Am
end
section
/- Faults: what is wrong with them,both ways. -/
open Go
set_option linter.all false
namespace Go.Am
variable {h : Heap} {K : Post}
def Flt.pv (f : Flt) : PV:=.agg [eI f.kind,.sl none (f.nets.map eI)]
abbrev AFlt (l : List Flt) : AV:=.p (.sl (some 2) (l.map Flt.pv))
theorem IndexI {v : AV} (l : List Int) (hv : Shows none v (l.map eI) h) (x : Int) (hl : l.length ≤ 1000000) : ACall X f_q066 [v,AI x] h K = K (AI (if l.findIdx (fun y=>decide (y = x)) < l.length then (l.findIdx (fun y=>decide (y = x)) : Int) else -1)) h []:=by
  refine rule ?_
  rw [c_q066]
  have vl:=hv.len
  rw [List.length_map] at vl
  simp only [d_q066,go_sem,vl]
  refine N_loop (fun k : Nat=>⟨[(0,v),(1,AI x),(7,AI l.length),(8,AI k)],h,[]⟩) (fun k=>k ≤ l.length ∧ ∀ y ∈ l.take k,decide (y = x) = false) (fun k=>l.length - k) 0 rfl (by simp) ?_
  rintro k ⟨hk,hn⟩
  rcases Nat.lt_or_ge k l.length with hlt | hge
  · obtain ⟨a, ha, hb⟩ := hv.get k (by simpa using hlt)
    rw [List.getElem_map] at hb
    have w2 : IntKind.i64.wrap ((k : Int) + 1) = ((k + 1 : Nat) : Int):=i64_wrap _ (by omega) (by omega)
    by_cases hpk : x = l[k]
    · have hf : l.findIdx (fun y=>decide (y = x)) = k:=by
        rw [List.findIdx_eq hlt]
        refine ⟨by simp [hpk],fun j hj=>?_⟩
        have:=hn l[j] (by rw [List.mem_take_iff_getElem]; exact ⟨j,by omega,rfl⟩)
        simpa using this
      simp only [go_sem,hlt,ha,hb,hpk.symm,w2]
      simp only [hf,hlt,if_true]
    · simp only [go_sem, hlt, ha, hb, hpk, w2]
      refine ⟨k + 1,rfl,⟨by omega,fun y hy=>?_⟩,by omega⟩
      rw [List.take_succ_eq_append_getElem hlt,List.mem_append,List.mem_singleton] at hy
      rcases hy with hy | hy
      · exact hn y hy
      · rw [hy]; simp; exact fun e=>hpk e.symm
  · have e1 : k = l.length := by omega
    subst e1
    simp only [go_sem,Nat.lt_irrefl]
    rw [List.take_length] at hn
    have : ¬ l.findIdx (fun y=>decide (y = x)) < l.length:=by
      rw [Nat.not_lt,Nat.le_iff_lt_or_eq]; right
      exact (List.findIdx_eq_length.2 (fun y hy=>by simp [hn y hy])).symm
    rw [if_neg this]
theorem ContainsI {v : AV} (l : List Int) (hv : ∀ h' : Heap,h' = h → Shows none v (l.map eI) h') (x : Int) (hl : l.length ≤ 1000000) : ACall X f_q05q [v,AI x] h K = K (AB (l.contains x)) h []:=by
  refine rule ?_
  rw [c_q05q]
  have e:=fun K=>IndexI (h:=h) (K:=K) l (hv h rfl) x hl
  have hd : decide (0 ≤ (if l.findIdx (fun y=>decide (y = x)) < l.length then (l.findIdx (fun y=>decide (y = x)) : Int) else -1)) = l.contains x:=by
    rw [Bool.eq_iff_iff,decide_eq_true_eq,List.contains_iff_mem]
    constructor
    · intro hq
      split at hq
      · rename_i hlt
        have:=List.findIdx_getElem (w:=hlt)
        simp only [decide_eq_true_eq] at this
        exact this ▸ List.getElem_mem hlt
      · omega
    · intro hm
      rw [if_pos (List.findIdx_lt_length_of_exists ⟨x,hm,by simp⟩)]; omega
  simp only [d_q05q,go_sem,e,hd]
theorem s_ContainsI (l : List Int) (x : Int) (hl : l.length ≤ 1000000) : ACall X f_q05q [AL l,AI x] h K = K (AB (l.contains x)) h []:=ContainsI l (fun h' _=>shows_sl shps_eI) x hl
def riseV (f : Flt) (r : List Int) : Int:=if risL r = false then 7 else if f.kind = 5 ∧ r.contains (f.nets.headD 0) = true then 6 else 0
theorem head_get {l : List Int} (hl : 0 < l.length) : (l.map eI)[0]? = some (eI (l.headD 0)):=by
  cases l with
  | nil=>simp at hl
  | cons a r=>rfl
theorem rise_P (f : Flt) (r : List Int) (hr : r.length ≤ 1000000) (h0 : 0 < f.nets.length) {id : Nat} (hh : h[id]? = some (.box [AI f.kind,AL f.nets])) {K : Ex → St → Prop} (hK : K .ret ⟨[(4,AI (riseV f r))],h,[]⟩) :
    d_q013_k4 (ACall X) X.gl p_q013_k2 p_q013_k3 (.ref id 0) (AL r) h [] K:=by
  simp only [d_q013_k4,go_sem]
  refine N_loop (fun k : Nat=>⟨[(3,.ref id 0),(7,AL r),(8,AI ((k + 1 : Nat) : Int))],h,[]⟩) (fun k=>(k + 1 ≤ r.length ∨ k = 0) ∧ risL (r.drop k) = risL r) (fun k=>r.length - k) 0 rfl ⟨.inr rfl,by simp⟩ ?_
  rintro k ⟨hk,hp⟩
  rcases Nat.lt_or_ge (k + 1) r.length with hlt | hge
  · have g1 := map_get eI (show k < r.length by omega)
    have g2:=map_get eI hlt
    have w1 : IntKind.i64.wrap (((k + 1 : Nat) : Int) - 1) = (k : Int):=by rw [i64_wrap _ (by omega) (by omega)]; omega
    have w2 : IntKind.i64.wrap (((k + 1 : Nat) : Int) + 1) = ((k + 1 + 1 : Nat) : Int):=i64_wrap _ (by omega) (by omega)
    rw [risL_take r k hlt] at hp
    by_cases hq : r[k + 1] ≤ r[k]
    · have : ¬ r[k] < r[k + 1] := by omega
      simp only [this,decide_false,Bool.false_and] at hp
      simp only [go_sem,hlt,g1,g2,w1,hq]
      have e : riseV f r = 7:=by unfold riseV; rw [← hp]; rfl
      rw [e] at hK
      exact hK
    · have : r[k] < r[k + 1] := by omega
      simp only [this,decide_true,Bool.true_and] at hp
      simp only [go_sem,hlt,g1,g2,w1,w2,hq]
      exact ⟨k + 1,rfl,⟨.inl (by omega),hp⟩,by omega⟩
  · have hge' : ¬ (((k + 1 : Nat) : Int) < (r.length : Int)) := by omega
    rw [risL_end r k hge] at hp
    have c:=fun h K=>s_ContainsI (h:=h) (K:=K) r (f.nets.headD 0) hr
    have g0:=head_get h0
    unfold riseV at hK
    rw [← hp] at hK
    simp only [Bool.true_eq_false,if_false] at hK
    by_cases h5 : f.kind = 5
    · cases hc : r.contains (f.nets.headD 0) with
      | true=>
        rw [hc] at hK
        simp only [h5,and_self,if_true] at hK
        rw [h5] at hh
        simp only [go_sem,hge',hh,c,g0,hc]
        exact hK
      | false=>
        rw [hc] at hK
        simp only [Bool.false_eq_true,and_false,if_false] at hK
        rw [h5] at hh
        simp only [go_sem,hge',hh,c,g0,hc]
        exact hK
    · simp only [h5, false_and, if_false] at hK
      simp only [go_sem,hge',hh,h5]
      exact hK
theorem s_isShort (k : Int) : ACall X f_q01n [AI k] h K = K (AB (shortK k)) h []:=by
  refine rule ?_
  rw [c_q01n rfl]
  have e : (!(decide (k < 3) || decide (5 < k))) = shortK k:=by unfold shortK; rw [Bool.eq_iff_iff]; simp
  simp only [d_q01n,go_sem,s_Out,e]
theorem any_drop {p : Int → Bool} {l : List Int} {k : Nat} (hk : k < l.length) (hp : (l.drop k).any p = l.any p) : (p l[k] || (l.drop (k + 1)).any p) = l.any p:=by
  rw [List.drop_eq_getElem_cons hk,List.any_cons] at hp
  exact hp
attribute [-go_sem] d_q013_k4
theorem s_CheckFault (n : Int) (f : Flt) (hn : -1000000000000000 ≤ n) (hl : f.nets.length ≤ 1000000) : ACall X f_q013 [AI n,.p f.pv] h K = K (AI (fltF n f)) h []:=by
  refine rule ?_
  rw [c_q013 rfl]
  unfold fltF
  by_cases h1 : n < 1 ∨ 100 < n
  · have e : (decide (n < 1) || decide (100 < n)) = true := by rw [Bool.or_eq_true, decide_eq_true_eq, decide_eq_true_eq]; exact h1
    simp only [d_q013,Flt.pv,go_sem,s_Out,e,h1]
  have e1 : (decide (n < 1) || decide (100 < n)) = false:=by rw [Bool.or_eq_false_iff,decide_eq_false_iff_not,decide_eq_false_iff_not]; omega
  by_cases h2 : f.kind < 1 ∨ 6 < f.kind
  · have e : (decide (f.kind < 1) || decide (6 < f.kind)) = true := by rw [Bool.or_eq_true, decide_eq_true_eq, decide_eq_true_eq]; exact h2
    simp only [d_q013,Flt.pv,go_sem,s_Out,e1,e,h1,h2]
  have e2 : (decide (f.kind < 1) || decide (6 < f.kind)) = false:=by rw [Bool.or_eq_false_iff,decide_eq_false_iff_not,decide_eq_false_iff_not]; omega
  by_cases h3 : f.nets.length = 0
  · simp only [d_q013,Flt.pv,go_sem,s_Out,e1,e2,h1,h2,h3]
  have h3' : ¬ ((f.nets.length : Int) = 0):=by omega
  by_cases h4 : 6 < f.nets.length
  · have h4' : (6 : Int) < f.nets.length := by omega
    simp only [d_q013,Flt.pv,go_sem,s_Out,e1,e2,h1,h2,h3,h3',h4,h4']
  have h4' : ¬ (6 : Int) < f.nets.length:=by omega
  simp only [d_q013,Flt.pv,go_sem,s_Out,e1,e2,h1,h2,h3,h3',h4,h4']
  refine N_loop (fun k : Nat=>⟨[(0,AI n),(3,.ref h.length 0),(27,AL f.nets),(28,AI f.nets.length),(29,AI k)],h ++ [.box [AI f.kind,AL f.nets]],[]⟩) (fun k=>k ≤ f.nets.length ∧ (f.nets.drop k).any (outN n) = f.nets.any (outN n)) (fun k=>f.nets.length - k) 0 rfl ⟨by omega,by simp⟩ ?_
  rintro k ⟨hk,hp⟩
  have w1 : IntKind.i64.wrap (n - 1) = n - 1:=i64_wrap _ (by omega) (by omega)
  rcases Nat.lt_or_ge k f.nets.length with hlt | hge
  · have hg := map_get eI hlt
    have w2 : IntKind.i64.wrap ((k : Int) + 1) = ((k + 1 : Nat) : Int):=i64_wrap _ (by omega) (by omega)
    have hp2:=any_drop hlt hp
    cases ho : outN n f.nets[k] with
    | true=>
      rw [ho,Bool.true_or] at hp2
      unfold outN at ho
      simp only [go_sem,hlt,hg,w1,s_Out,ho,← hp2]
    | false=>
      rw [ho,Bool.false_or] at hp2
      unfold outN at ho
      simp only [go_sem,hlt,hg,w1,s_Out,ho,w2]
      exact ⟨k + 1,rfl,⟨by omega,hp2⟩,by omega⟩
  · have e1 : k = f.nets.length := by omega
    subst e1
    rw [List.drop_length] at hp
    rw [← hp]
    simp only [List.any_nil,Bool.false_eq_true,if_false]
    have hi : (1 < (f.nets.length : Int)) = (1 < f.nets.length):=by simp only [eq_iff_iff]; omega
    have h0 : 0 < f.nets.length:=by omega
    have hh : (h ++ [Obj.box [AI f.kind,AL f.nets]])[h.length]? = some (.box [AI f.kind,AL f.nets]):=app_get0 _ _
    have R:=fun r hr (K : Ex → St → Prop)=>rise_P (h:=h ++ [Obj.box [AI f.kind,AL f.nets]]) f r hr h0 hh (K:=K)
    obtain ⟨kd,ns⟩:=f
    dsimp only at *
    have hw : win (ns.map eI) 1 (ns.length - 1) = (ns.drop 1).map eI:=by rw [win_map]; congr 1; unfold win; exact List.take_of_length_le (by simp)
    have hle : 1 ≤ ns.length:=h0
    by_cases h6 : kd = 5
    · subst h6
      have s5 : shortK 5 = true:=rfl
      by_cases hm : 1 < ns.length
      · have q := R (ns.drop 1) (by simp; omega)
        simp only [go_sem,Nat.lt_irrefl,s_isShort,s5,hi,hm,hw,hle]
        refine q _ ?_
        simp only [go_sem,riseV]
      · simp only [go_sem,Nat.lt_irrefl,s_isShort,s5,hi,hm]
    · have q := R ns hl
      cases hs : shortK kd with
      | true=>
        by_cases hm : 1 < ns.length
        · simp only [go_sem, Nat.lt_irrefl, s_isShort, hs, hi, hm, h6]
          refine q _ ?_
          simp only [go_sem,riseV,h6]
        · simp only [go_sem,Nat.lt_irrefl,s_isShort,hs,hi,hm]
      | false=>
        by_cases hm : 1 < ns.length
        · simp only [go_sem,Nat.lt_irrefl,s_isShort,hs,hi,hm]
        · simp only [go_sem, Nat.lt_irrefl, s_isShort, hs, hi, hm, h6]
          refine q _ ?_
          simp only [go_sem,riseV,h6]
end Go.Am
end
section
/- Where a string stands among strings; words. -/
open Go
set_option linter.all false
namespace Go.Am
variable {h : Heap} {K : Post}
theorem splitC_mem {c : UInt8} : ∀ {s p : List UInt8},p ∈ splitC c s → p.length ≤ s.length
  | [],p,h=>by simp [splitC] at h; subst h; simp
  | b :: r,p,h=>by
    rw [splitC.eq_2] at h
    split at h
    · rcases List.mem_cons.1 h with rfl | h
      · simp
      · have:=splitC_mem h; simp; omega
    · split at h
      · rename_i hq; exact absurd hq (splitC_ne c r)
      · rename_i p0 q hq
        rcases List.mem_cons.1 h with rfl | h
        · have:=splitC_mem (s:=r) (p:=p0) (by rw [hq]; simp); simp; omega
        · have:=splitC_mem (s:=r) (p:=p) (by rw [hq]; simp [h]); simp; omega
end Go.Am
end
section
/- Numbers written,joined. -/
open Go
set_option linter.all false
namespace Go.Am
variable {h : Heap} {K : Post}
end Go.Am
end
section
/- A builder of strings. -/
open Go
set_option linter.all false
namespace Go.Am
variable {h : Heap} {K : Post}
theorem reif_nili {b : Nat} : reif b h .nili = some .nili:=by simp only [reif]
attribute [local go_sem] reif_nili
def bldB (u : Bool) (id n : Nat) : Obj:=.box [bif u then .ref id 0 else .bt 0 bldT id 0,.bt 1 bldE (id + 1) n]
theorem bldB_t (id n : Nat) : bldB true id n = .box [.ref id 0,.bt 1 bldE (id + 1) n]:=rfl
theorem bldB_f (id n : Nat) : bldB false id n = .box [.bt 0 bldT id 0,.bt 1 bldE (id + 1) n]:=rfl
theorem set_id {o : Obj} {id : Nat} (hh : h[id]? = some o) : h.set id o = h:=by
  apply List.ext_getElem?
  intro j
  by_cases e : id = j
  · subst e; rw [List.getElem?_set_self (get_lt hh),hh]
  · rw [List.getElem?_set_ne e]
theorem s_copyCheck (u : Bool) (id n : Nat) (hh : h[id]? = some (bldB u id n)) : ACall X f_q081 [.ref id 0] h K = K (.tup []) (h.set id (bldB true id n)) []:=by
  refine rule ?_
  rw [c_q081 rfl]
  cases u with
  | true=>
    rw [set_id hh]
    rw [bldB_t] at hh
    simp only [d_q081,go_sem,hh]
  | false=>
    rw [bldB_f] at hh
    rw [bldB_t]
    simp only [bldT] at hh
    simp only [d_q081,go_sem,hh]
theorem set_comm' {h : Heap} {i j : Nat} {a b : Obj} (e : i ≠ j) : (h.set i a).set j b = (h.set j b).set i a:=List.set_comm a b e
def Holds (h : Heap) (u : Bool) (id : Nat) (s : List UInt8) : Prop:=h[id]? = some (bldB u id s.length) ∧ h[id + 1]? = some (.row none (bytesP s) 0)
def held (h : Heap) (id : Nat) (s : List UInt8) : Heap:=(h.set id (bldB true id s.length)).set (id + 1) (.row none (bytesP s) 0)
theorem bytesP_len (s : List UInt8) : (bytesP s).length = s.length:=by simp [bytesP]
theorem bytesP_app (s t : List UInt8) : bytesP s ++ bytesP t = bytesP (s ++ t):=by simp [bytesP]
theorem s_WriteString {u : Bool} {id : Nat} {s t : List UInt8} (H : Holds h u id s) (hm : s.length + t.length ≤ 200000000000) : ACall X f_q080 [.ref id 0,AS t] h K = K (.tup [AI t.length,.nili]) (held h id (s ++ t)) []:=by
  refine rule ?_
  rw [c_q080 rfl]
  have l:=get_lt H.1
  have l2:=get_lt H.2
  have e:=fun K=>s_copyCheck (K:=K) u id s.length H.1
  have g1 : (h.set id (bldB true id s.length))[id]? = some (.box [.ref id 0,.bt 1 bldE (id + 1) s.length]):=by rw [List.getElem?_set_self l,bldB_t]
  have g2 : (h.set id (bldB true id s.length))[id + 1]? = some (.row none (bytesP s) 0):=by rw [List.getElem?_set_ne (by omega)]; exact H.2
  have g3 : ∀ o,((h.set id (bldB true id s.length)).set (id + 1) o)[id]? = some (.box [.ref id 0,.bt 1 bldE (id + 1) s.length]):=fun o=>by rw [List.getElem?_set_ne (by omega)]; exact g1
  have hl : s.length + t.length ≤ maxSl:=by unfold maxSl; omega
  simp only [bldE] at g1 g3
  simp only [d_q080,go_sem,e,g1,g2,g3,bytesP_len,hl]
  rw [List.take_of_length_le (by simp)]
  unfold held
  rw [set_comm' (i:=id + 1) (j:=id) (by omega),List.set_set,bytesP_app,List.length_append]
  rfl
theorem s_WriteByte {u : Bool} {id : Nat} {s : List UInt8} {c : UInt8} (H : Holds h u id s) (hm : s.length + 1 ≤ 200000000000) : ACall X f_q07z [.ref id 0,.p (.int .u8 c.toNat)] h K = K .nili (held h id (s ++ [c])) []:=by
  refine rule ?_
  rw [c_q07z rfl]
  have l:=get_lt H.1
  have l2:=get_lt H.2
  have e:=fun K=>s_copyCheck (K:=K) u id s.length H.1
  have g1 : (h.set id (bldB true id s.length))[id]? = some (.box [.ref id 0,.bt 1 bldE (id + 1) s.length]):=by rw [List.getElem?_set_self l,bldB_t]
  have g2 : (h.set id (bldB true id s.length))[id + 1]? = some (.row none (bytesP s) 0):=by rw [List.getElem?_set_ne (by omega)]; exact H.2
  have g3 : ∀ o,((h.set id (bldB true id s.length)).set (id + 1) o)[id]? = some (.box [.ref id 0,.bt 1 bldE (id + 1) s.length]):=fun o=>by rw [List.getElem?_set_ne (by omega)]; exact g1
  have hl : s.length + 1 ≤ maxSl:=by unfold maxSl; omega
  simp only [bldE] at g1 g3
  simp only [d_q07z,go_sem,e,g1,g2,g3,bytesP_len,hl]
  rw [List.take_of_length_le (by simp)]
  unfold held
  rw [set_comm' (i:=id + 1) (j:=id) (by omega),List.set_set,show [PV.int .u8 (c.toNat : Int)] = bytesP [c] from rfl,bytesP_app,List.length_append]
  rfl
theorem s_BLen {u : Bool} {id : Nat} {s : List UInt8} (H : Holds h u id s) : ACall X f_q07x [.ref id 0] h K = K (AI s.length) h []:=by
  refine rule ?_
  rw [c_q07x rfl]
  have g1:=H.1
  unfold bldB at g1
  simp only [d_q07x,go_sem,g1]
def sealedH (h : Heap) (id : Nat) (s : List UInt8) : Heap:=if s = [] then h else h.set (id + 1) (.row none (bytesP s) (s.length + 1))
theorem toBytes_bytesP (s : List UInt8) : toBytes (bytesP s) = some s:=by
  induction s with
  | nil=>rfl
  | cons a r ih=>
    have h1 : (0 : Int) ≤ (a.toNat : Int) ∧ (a.toNat : Int) < 256:=⟨by omega,by have:=a.toNat_lt; omega⟩
    have e : bytesP (a :: r) = .int .u8 a.toNat :: bytesP r:=rfl
    rw [e]
    unfold toBytes
    rw [if_pos h1,ih]
    simp
theorem s_BString {u : Bool} {id : Nat} {s : List UInt8} (H : Holds h u id s) (hm : s.length ≤ 200000000000) : ACall X f_q07y [.ref id 0] h K = K (AS s) (sealedH h id s) []:=by
  refine rule ?_
  rw [c_q07y rfl]
  have l:=get_lt H.1
  have l2:=get_lt H.2
  have g1:=H.1
  have g2:=H.2
  unfold bldB at g1
  have hl : s.length ≤ maxSl:=by unfold maxSl; omega
  unfold sealedH
  by_cases h0 : s = []
  · subst h0
    simp only [bldE,List.length_nil] at g1
    simp only [d_q07y,go_sem,g1,g2,bytesP_len,hl]
    exact if_pos rfl ▸ trivial
  · have h0' : ¬ s.length = 0 := by simpa using h0
    have h1 : 1 ≤ s.length:=by omega
    simp only [bldE] at g1
    have e0 : (0 : Int) ≤ (s.length : Int):=by omega
    simp only [d_q07y,go_sem,g1,g2,bytesP_len,hl,h0',h1,toBytes_bytesP,e0,Int.toNat_natCast,h0]
def bh (h : Heap) (u : Bool) (s : List UInt8) (l : Heap) : Heap:=h ++ bldB u h.length s.length :: .row none (bytesP s) 0 :: l
theorem bh_holds {u : Bool} {s : List UInt8} {l : Heap} : Holds (bh h u s l) u h.length s:=by
  unfold bh
  exact ⟨by simp,by rw [List.getElem?_append_right (by omega)]; simp⟩
theorem bh_held {u : Bool} {s t : List UInt8} {l : Heap} : held (bh h u s l) h.length t = bh h true t l:=by
  unfold held bh
  rw [List.set_append_right _ _ (by omega),List.set_append_right _ _ (by omega),Nat.sub_self,show h.length + 1 - h.length = 1 by omega]
  rfl
theorem s_WS {u : Bool} {s t : List UInt8} {l : Heap} (hm : s.length + t.length ≤ 200000000000) : ACall X f_q080 [.ref h.length 0,AS t] (bh h u s l) K = K (.tup [AI t.length,.nili]) (bh h true (s ++ t) l) []:=by
  rw [s_WriteString bh_holds hm,bh_held]
theorem s_WB {u : Bool} {s : List UInt8} {c : UInt8} {l : Heap} (hm : s.length + 1 ≤ 200000000000) : ACall X f_q07z [.ref h.length 0,.p (.int .u8 c.toNat)] (bh h u s l) K = K .nili (bh h true (s ++ [c]) l) []:=by
  rw [s_WriteByte bh_holds hm,bh_held]
theorem s_BL {u : Bool} {s : List UInt8} {l : Heap} : ACall X f_q07x [.ref h.length 0] (bh h u s l) K = K (AI s.length) (bh h u s l) []:=s_BLen bh_holds
theorem bh_len {u : Bool} {s : List UInt8} {l : Heap} : (bh h u s l).length = h.length + (l.length + 2):=by
  unfold bh
  simp
theorem bh_app {u : Bool} {s : List UInt8} {l l2 : Heap} : bh h u s l ++ l2 = bh h u s (l ++ l2):=by
  unfold bh
  simp
theorem bh_get {u : Bool} {s : List UInt8} {l : Heap} {n : Nat} : (bh h u s l)[h.length + (n + 2)]? = l[n]?:=by
  unfold bh
  rw [List.getElem?_append_right (by omega),show h.length + (n + 2) - h.length = n + 2 by omega]
  rfl
theorem bh_set {u : Bool} {s : List UInt8} {l : Heap} {n : Nat} {o : Obj} : (bh h u s l).set (h.length + (n + 2)) o = bh h u s (l.set n o):=by
  unfold bh
  rw [List.set_append_right _ _ (by omega),show h.length + (n + 2) - h.length = n + 2 by omega]
  rfl
theorem bh_take {u : Bool} {s : List UInt8} {l : Heap} {n : Nat} : (bh h u s l).take (h.length + (n + 2)) = bh h u s (l.take n):=by
  unfold bh
  rw [List.take_length_add_append]
  rfl
end Go.Am
end
section
/- Numbers asv sets of bits; rows of a test asv numbers. -/
set_option linter.all false
namespace Go.Am
end Go.Am
end
section
/- Lists of faults: what is wrong with them,both ways. -/
open Go
set_option linter.all false
namespace Go.Am
variable {h : Heap} {K : Post}
theorem flt_cut {f : Flt} : cutP (some 2) 0 f.pv = some f.pv:=rfl
end Go.Am
end
section
/- Rows of a test asv numbers. -/
open Go
set_option linter.all false
namespace Go.Am
variable {h : Heap} {K : Post}
end Go.Am
end
section
/- Faults on rows: what the program makes of them. -/
open Go
set_option linter.all false
namespace Go.Am
variable {h : Heap} {K : Post}
end Go.Am
end
section
/- Rows that are handed to a function: it sees their values. -/
open Go
namespace Go.Am
theorem arg_pur {X : Ctx} {f : Nat} {F : AFun} {a : List AV} {vs : List PV} {h h1 : Heap} {P : Post} (hf : X.fn f = some F) (hr : F.byref = false) (hp : puras h a = some (vs.map .p,h1)) (hq : puras h1 (vs.map .p) = some (vs.map .p,h1)) (hl : vs.length = F.nparams) (hlen : h1.length = h.length) : ACall X f a h P = ACall X f (vs.map .p) h1 P:=by
  cases hd : F.isDet with
  | false=>rw [call_val hf hr hp (by simpa using hl) hd,call_val hf hr hq (by simpa using hl) hd,hlen]
  | true=>rw [call_val_det hf hr hp (by simpa using hl) hd,call_val_det hf hr hq (by simpa using hl) hd,hlen]
theorem frz_len {h : Heap} {id k : Nat} : (frz h id k).length = h.length:=by
  unfold frz
  split <;> simp
end Go.Am
end
section
/- Responses,asv the program computes them. -/
open Go
set_option linter.all false
namespace Go.Am
variable {h : Heap} {K : Post}
theorem fltF_ok {n : Int} {f : Flt} (h : fltF n f = 0) : f.nets ≠ [] ∧ f.nets.length ≤ 6 ∧ (∀ x ∈ f.nets,0 ≤ x ∧ x < n) ∧ 1 ≤ f.kind ∧ f.kind ≤ 6 ∧ shortK f.kind = decide (1 < f.nets.length):=by
  unfold fltF at h
  split at h
  · cases h
  split at h
  · cases h
  split at h
  · cases h
  split at h
  · cases h
  split at h
  · cases h
  split at h
  · cases h
  rename_i h1 h2 h3 h4 h5 h6
  refine ⟨fun e=>h3 (by rw [e]; rfl),by omega,fun x hx=>?_,by omega,by omega,Decidable.not_not.1 h6⟩
  have : outN n x = false:=by
    cases hq : outN n x with
    | false=>rfl
    | true=>exact absurd (List.any_eq_true.2 ⟨x,hx,hq⟩) h5
  unfold outN at this
  rw [Bool.or_eq_false_iff,decide_eq_false_iff_not,decide_eq_false_iff_not] at this
  omega
theorem fltsF_ok {n : Int} : ∀ {l : List Flt},fltsF n l = 0 → ∀ f ∈ l,fltF n f = 0
  | [],_,f,hf=>by cases hf
  | g :: r,h,f,hf=>by
    unfold fltsF at h
    split at h
    · rename_i h1; exact absurd h h1
    · rename_i h1
      rcases List.mem_cons.1 hf with rfl | hf
      · exact Decidable.not_not.1 h1
      · exact fltsF_ok h f hf
end Go.Am
end
section
/- Faults written. -/
open Go
set_option linter.all false
namespace Go.Am
variable {h : Heap} {K : Post}
def faultLine (f : Flt) : List UInt8:=wordK f.kind ++ [32] ++ numsL f.nets ++ [10]
def faultLines (l : List Flt) : List UInt8:=(l.map faultLine).flatten
theorem fl_succ {l : List Flt} {k : Nat} (h : k < l.length) : faultLines (l.take (k + 1)) = faultLines (l.take k) ++ faultLine l[k]:=by
  unfold faultLines
  rw [List.take_succ,List.getElem?_eq_getElem h,List.map_append,List.flatten_append]
  simp
theorem fl_take (l : List Flt) (k : Nat) : (faultLines (l.take k)).length ≤ (faultLines l).length:=by
  conv=>rhs; rw [← List.take_append_drop k l]
  unfold faultLines
  rw [List.map_append,List.flatten_append,List.length_append]
  omega
theorem s_word (k : Int) (h1 : 1 ≤ k) (h2 : k ≤ 6) : ACall X f_q01x [AI k] h K = K (AS (wordK k)) h []:=by
  refine rule ?_
  rw [c_q01x rfl]
  obtain ⟨n,rfl⟩:=Int.eq_ofNat_of_zero_le (show 0 ≤ k by omega)
  have hn : 1 ≤ n ∧ n ≤ 6:=by omega
  match n,hn with
  | 1,_=>
    have w : IntKind.i64.wrap 0 = 0:=rfl
    simp only [d_q01x,go_sem,w]
    first | rfl | trivial
  | 2,_=>
    have w : IntKind.i64.wrap 1 = 1:=rfl
    simp only [d_q01x,go_sem,w]
    first | rfl | trivial
  | 3,_=>
    have w : IntKind.i64.wrap 2 = 2:=rfl
    simp only [d_q01x,go_sem,w]
    first | rfl | trivial
  | 4,_=>
    have w : IntKind.i64.wrap 3 = 3:=rfl
    simp only [d_q01x,go_sem,w]
    first | rfl | trivial
  | 5,_=>
    have w : IntKind.i64.wrap 4 = 4:=rfl
    simp only [d_q01x,go_sem,w]
    first | rfl | trivial
  | 6,_=>
    have w : IntKind.i64.wrap 5 = 5:=rfl
    simp only [d_q01x,go_sem,w]
    first | rfl | trivial
def tailN (ns : List Int) : List UInt8:=(ns.map fun n=>32 :: itoa n).flatten
theorem tailN_succ {ns : List Int} {k : Nat} (h : k < ns.length) : tailN (ns.take (k + 1)) = tailN (ns.take k) ++ 32 :: itoa ns[k]:=by
  unfold tailN
  rw [List.take_succ,List.getElem?_eq_getElem h,List.map_append,List.flatten_append]
  simp
theorem tailN_take (ns : List Int) (k : Nat) : (tailN (ns.take k)).length ≤ (tailN ns).length:=by
  conv=>rhs; rw [← List.take_append_drop k ns]
  unfold tailN
  rw [List.map_append,List.flatten_append,List.length_append]
  omega
theorem tailN_nums : ∀ (ns : List Int),ns ≠ [] → 32 :: numsL ns = tailN ns
  | [],h=>absurd rfl h
  | [a],_=>by simp [numsL,tailN,List.intercalate]
  | a :: b :: r,_=>by
    have ih:=tailN_nums (b :: r) (by simp)
    have e : numsL (a :: b :: r) = itoa a ++ 32 :: numsL (b :: r):=by
      unfold numsL
      simp [List.intercalate,List.intersperse]
    have e2 : tailN (a :: b :: r) = 32 :: itoa a ++ tailN (b :: r):=by simp [tailN]
    rw [e,e2,← ih]
    simp
theorem loop_nets {K' : Ex → St → Prop} (ns : List Int) (s0 : List UInt8) (v27 v28 v29 : AV) (l : Heap) (hb : ∀ n ∈ ns,-1000000000000000000 ≤ n ∧ n ≤ 1000000000000000000) (hl : ns.length ≤ 1000000) (ht : s0.length + (tailN ns).length ≤ 1000000000)
    (hK : K' (.exit 4) ⟨[(7,.ref h.length 0),(27,v27),(28,v28),(29,v29),(38,AL ns),(39,AI ns.length),(40,AI ns.length),(41,AB false)],bh h true (s0 ++ tailN ns) l,[]⟩) :
    NLoop (ACall X) X.gl p_q01g_k2 K' [(7,.ref h.length 0),(27,v27),(28,v28),(29,v29),(38,AL ns),(39,AI ns.length),(40,AI 0)] (bh h true s0 l) []:=by
  refine N_loop (fun k : Nat=>⟨[(7,.ref h.length 0),(27,v27),(28,v28),(29,v29),(38,AL ns),(39,AI ns.length),(40,AI k)],bh h true (s0 ++ tailN (ns.take k)) l,[]⟩) (fun k=>k ≤ ns.length) (fun k=>ns.length - k) 0 (by simp [tailN]) (by omega) ?_
  intro k hk
  rcases Nat.lt_or_ge k ns.length with hlt | hge
  · have hg := map_get eI hlt
    have cz : cutP none 0 (eI ns[k]) = some (eI ns[k]):=rfl
    have wk : IntKind.i64.wrap ((k : Int) + 1) = ((k + 1 : Nat) : Int):=i64_wrap _ (by omega) (by omega)
    have b:=hb _ (List.getElem_mem hlt)
    have q:=fun h K=>s_ItoaQ (h:=h) (K:=K) ns[k] b.1 b.2
    have hs:=tailN_succ hlt
    have ht2:=tailN_take ns (k + 1)
    have hll : (tailN (ns.take (k + 1))).length = (tailN (ns.take k)).length + ((itoa ns[k]).length + 1):=by rw [hs]; simp
    have m0 : 1000000000 ≤ maxStr:=by unfold maxStr; omega
    have m1 : (itoa ns[k]).length + 1 ≤ maxStr:=by omega
    have qw:=fun K=>s_WS (h:=h) (K:=K) (u:=true) (s:=s0 ++ tailN (ns.take k)) (t:=32 :: itoa ns[k]) (l:=l) (by simp; omega)
    simp only [go_sem,hlt,hg,cz,↓q,q,↓qw,qw,wk,m1]
    rw [if_pos (by omega)]
    exact ⟨k + 1,by rw [hs],by omega,by omega⟩
  · have hk' : k = ns.length := by omega
    subst hk'
    rw [List.take_length]
    simp only [go_sem,Nat.lt_irrefl,decide_false,hK]
attribute [-go_sem] e_q01g_k3 e_q01g_k4 e_q01g_k6
theorem faultLine_tail {f : Flt} (h : f.nets ≠ []) : faultLine f = wordK f.kind ++ tailN f.nets ++ [10]:=by
  unfold faultLine
  rw [← tailN_nums f.nets h]
  simp
theorem loop_faults {K' : Ex → St → Prop} {x : Esc} (fs : List Flt) (hk : ∀ f ∈ fs,1 ≤ f.kind ∧ f.kind ≤ 6) (hb : ∀ f ∈ fs,∀ n ∈ f.nets,-1000000000000000000 ≤ n ∧ n ≤ 1000000000000000000) (hl : fs.length ≤ 1000000) (hn : ∀ f ∈ fs,f.nets ≠ [] ∧ f.nets.length ≤ 1000000) (ht : (faultLines fs).length ≤ 1000000000)
    (hK : ∀ u,K' (.exit 2) ⟨[(7,.ref h.length 0),(27,AFlt fs),(28,AI fs.length),(29,AI fs.length),(30,AB false)],bh h u (faultLines fs) [],x⟩) :
    NLoop (ACall X) X.gl (.scope p_q01g_k5) K' [(7,.ref h.length 0),(27,AFlt fs),(28,AI fs.length),(29,AI 0)] (bh h false [] []) x:=by
  refine N_loop (fun k : Nat=>⟨[(7,.ref h.length 0),(27,AFlt fs),(28,AI fs.length),(29,AI k)],bh h (decide (0 < k)) (faultLines (fs.take k)) [],x⟩) (fun k=>k ≤ fs.length) (fun k=>fs.length - k) 0 (by simp [faultLines]) (by omega) ?_
  intro k hkl
  rcases Nat.lt_or_ge k fs.length with hlt | hge
  · have hg := map_get Flt.pv hlt
    have wk : IntKind.i64.wrap ((k : Int) + 1) = ((k + 1 : Nat) : Int):=i64_wrap _ (by omega) (by omega)
    have hm:=List.getElem_mem hlt
    obtain ⟨k1,k2⟩:=hk _ hm
    obtain ⟨n0,n1⟩:=hn _ hm
    have hs:=fl_succ hlt
    have ht2:=fl_take fs (k + 1)
    have hll : (faultLine fs[k]).length = (wordK fs[k].kind).length + (tailN fs[k].nets).length + 1:=by rw [faultLine_tail n0]; simp; omega
    rw [hs,List.length_append,hll] at ht2
    have fp : Flt.pv fs[k] = .agg [eI fs[k].kind,.sl none (fs[k].nets.map eI)]:=rfl
    have qw:=fun h K=>s_word (h:=h) (K:=K) fs[k].kind k1 k2
    have q1:=fun l K=>s_WS (h:=h) (K:=K) (u:=decide (0 < k)) (s:=faultLines (fs.take k)) (t:=wordK fs[k].kind) (l:=l) (by omega)
    simp only [go_sem,hlt,hg,fp,bh_len,bh_app,bh_get,bh_set,bh_take,↓qw,qw,↓q1,q1]
    refine loop_nets fs[k].nets _ _ _ _ _ (hb _ hm) n1 (by simp; omega) ?_
    have e10 : ((10 : UInt8).toNat : Int) = 10:=rfl
    have qB:=fun l K=>s_WB (h:=h) (K:=K) (u:=true) (s:=faultLines (fs.take k) ++ (wordK fs[k].kind ++ tailN fs[k].nets)) (c:=10) (l:=l) (by simp; omega)
    rw [e10] at qB
    rw [blockN_same,seqN_normal,e_q01g_k3]
    simp only [d_q01g_k3,go_sem,↓qB,qB]
    rw [e_q01g_k4]
    simp only [d_q01g_k4,go_sem,wk,bh_len,bh_take]
    refine ⟨k + 1,?_,by omega,by omega⟩
    rw [hs,faultLine_tail n0,show decide (0 < k + 1) = true by simp]
    simp
  · have hk' : k = fs.length := by omega
    subst hk'
    rw [List.take_length]
    have:=hK (decide (0 < fs.length))
    simp only [go_sem,Nat.lt_irrefl,decide_false,bh_len,bh_take,this]
def textF (fs : List Flt) : Int:=if 20000 < fs.length then 2 else if fltsF 100 fs ≠ 0 then fltsF 100 fs else if 200000 < (faultLines fs).length then 2 else 0
attribute [-go_sem] e_q01g_k7
theorem ret_fin {b : Nat} {P : Post} {s : List UInt8} {n : Int} {g : Heap} (k : P (.tup [AS s,AI n]) (g.take b) []) : retK false b P (some [AS s,AI n]) g [(b,b + 2)]:=by
  have e1 : ∀ m,reif m g (.tup [AS s,AI n]) = some (.tup [AS s,AI n]):=fun m=>by simp [reif,reifs]
  have e2 : AV.top (.tup [AS s,AI n]) = 0:=by simp [AV.top,AV.tops]
  have e3 : close 1 [(b,b + 2)] b = b:=by simp [close,bump]
  have e4 : closed [(b,b + 2)] b = true:=by simp [closed]
  simp only [retK,oneOf,e1,e2,Nat.max_zero,List.length_cons,List.length_nil,Nat.zero_add,e3,e4,if_true]
  refine ⟨Nat.zero_le _,?_⟩
  simpa using k
theorem s_FaultText (fs : List Flt) (hl : fs.length ≤ 1000000) (hf : ∀ f ∈ fs,f.nets.length ≤ 1000000) (ht : (faultLines fs).length ≤ 1000000000) : ACall X f_q01g [AFlt fs] h K = K (.tup [AS (if textF fs = 0 then faultLines fs else []),AI (textF fs)]) h []:=by
  refine rule ?_
  rw [c_q01g rfl]
  by_cases h0 : 20000 < fs.length
  · have h0' : (20000 : Int) < (fs.length : Int) := by omega
    have t : textF fs = 2:=by unfold textF; rw [if_pos h0]
    simp only [d_q01g,go_sem,h0',h0,t]
  have h0' : ¬ (20000 : Int) < (fs.length : Int):=by omega
  simp only [d_q01g,go_sem,h0',h0]
  refine N_loop (fun k : Nat=>⟨[(0,AFlt fs),(15,AFlt fs),(16,AI fs.length),(17,AI k)],h,[]⟩) (fun k=>k ≤ fs.length ∧ fltsF 100 (fs.drop k) = fltsF 100 fs) (fun k=>fs.length - k) 0 rfl ⟨by omega,by simp⟩ ?_
  rintro k ⟨hk,hp⟩
  rcases Nat.lt_or_ge k fs.length with hlt | hge
  · have hg := map_get Flt.pv hlt
    have w2 : IntKind.i64.wrap ((k : Int) + 1) = ((k + 1 : Nat) : Int):=i64_wrap _ (by omega) (by omega)
    have e:=fun h K=>s_CheckFault (h:=h) (K:=K) 100 fs[k] (by omega) (hf _ (List.getElem_mem hlt))
    have cx:=flt_cut (f:=fs[k])
    rw [List.drop_eq_getElem_cons hlt,fltsF] at hp
    simp only [Flt.pv] at hg cx e
    by_cases h2 : fltF 100 fs[k] = 0
    · rw [if_neg (by simp [h2])] at hp
      simp only [go_sem,hlt,hg,cx,e,h2,w2]
      exact ⟨k + 1,rfl,⟨by omega,hp⟩,by omega⟩
    · rw [if_pos h2] at hp
      simp only [go_sem,hlt,hg,cx,e,h2]
      have t : textF fs = fltF 100 fs[k]:=by unfold textF; rw [if_neg h0,← hp,if_pos h2]
      rw [t,if_neg h2]
  · have ek : k = fs.length := by omega
    subst ek
    rw [List.drop_length] at hp
    have hz : fltsF 100 fs = 0:=hp.symm
    have ok:=fun f hm=>fltF_ok (fltsF_ok hz f hm)
    simp only [go_sem,Nat.lt_irrefl,decide_false]
    rw [e_q01g_k7]
    simp only [d_q01g_k7,go_sem]
    refine loop_faults fs (fun f hm=>⟨(ok f hm).2.2.2.1,(ok f hm).2.2.2.2.1⟩) (fun f hm n hn=>by have:=(ok f hm).2.2.1 n hn; omega) hl (fun f hm=>⟨(ok f hm).1,hf f hm⟩) ht (fun u=>?_)
    rw [blockN_same,seqN_normal,e_q01g_k6]
    have q1:=fun K=>s_BL (h:=h) (K:=K) (u:=u) (s:=faultLines fs) (l:=[])
    have q2:=fun K=>s_BString (K:=K) (bh_holds (h:=h) (u:=u) (s:=faultLines fs) (l:=[])) (by omega)
    by_cases h3 : 200000 < (faultLines fs).length
    · have h3' : (200000 : Int) < ((faultLines fs).length : Int) := by omega
      have t : textF fs = 2:=by unfold textF; rw [if_neg h0,if_neg (by simp [hz]),if_pos h3]
      simp only [d_q01g_k6,go_sem,↓q1,q1,h3,h3',t]
      refine ret_fin ?_
      exact ⟨rfl,by unfold bh; simp,rfl⟩
    · have h3' : ¬ (200000 : Int) < ((faultLines fs).length : Int) := by omega
      have t : textF fs = 0:=by unfold textF; rw [if_neg h0,if_neg (by simp [hz]),if_neg h3]
      simp only [d_q01g_k6,go_sem,↓q1,q1,↓q2,q2,h3,h3',t]
      refine ret_fin ?_
      refine ⟨rfl,?_,rfl⟩
      unfold sealedH bh
      split
      · simp
      · rw [List.set_append_right _ _ (by omega)]; simp
end Go.Am
end
section
/- A text taken line by line: base.Each,scanref2.Lines. -/
open Go
set_option linter.all false
namespace Go.Am
variable {h : Heap} {K : Post}
attribute [-go_sem] e_q001_k2
theorem lnsL_cases (s : List UInt8) : (endsB s = true ∧ linesB s = lnsD s ∧ lnsT s = false) ∨ (endsB s = false ∧ (∃ t,linesB s = lnsD s ++ [t]) ∧ lnsT s = true):=by
  by_cases h0 : s = []
  · subst h0
    exact .inl ⟨rfl,rfl,rfl⟩
  · by_cases h1 : s.getLast? = some 10
    · left
      obtain ⟨e1,e2⟩:=lnsD_ended h1
      refine ⟨by simp [endsB,endsNL,h1],?_,e2⟩
      unfold linesB bodyNL endsNL
      rw [if_neg h0,if_pos (by simpa using h1),e1]
    · right
      obtain ⟨t,e1,e2⟩:=lnsD_tail h0 h1
      refine ⟨by simp [endsB,endsNL,h0,h1],⟨t,?_⟩,e2⟩
      unfold linesB bodyNL endsNL
      rw [if_neg h0,if_neg (by simpa using h1),e1]
theorem lnsD_mem {s l : List UInt8} (h : l ∈ lnsD s) : l.length ≤ s.length:=splitC_mem (List.dropLast_subset _ h)
theorem lnsD_len (s : List UInt8) : (lnsD s).length ≤ s.length:=by
  unfold lnsD
  rw [List.length_dropLast,splitC_len]
  have : s.count 10 ≤ s.length:=List.count_le_length
  omega
theorem s_Each {σ : Type} (c : Nat) (caps : List AV) (take : σ → List UInt8 → Bool × σ) (H : σ → Heap) (I : Nat → σ → Prop) (s : List UInt8) (hs : s.length ≤ 900000) (n : Nat) (hn : ∀ t,(H t).length = n)
    (hc : ∀ (k : Nat) (t : σ) (l : List UInt8) (K : Post),I k t → k ≤ 900000 → l.length ≤ s.length → ACall X c (AS l :: caps) (H t) K = K (AB (take t l).1) (H (take t l).2) [])
    (hI : ∀ (k : Nat) (t : σ) (l : List UInt8),I k t → l.length ≤ s.length → (take t l).1 = true → I (k + 1) (take t l).2) (t0 : σ) (h0 : I 0 t0) {K : Post} :
    ACall X f_q001 [AS s,.fn c caps] (H t0) K = K (.tup [AI (lnsF take (lnsT s) 0 (lnsD s) t0).1.1,AB (lnsF take (lnsT s) 0 (lnsD s) t0).1.2]) (H (lnsF take (lnsT s) 0 (lnsD s) t0).2) []:=by
  refine rule ?_
  rw [c_q001 rfl]
  have q:=fun h K=>s_Lines (h:=h) (K:=K) s (by omega)
  have hD:=lnsD_len s
  simp only [d_q001,go_sem,↓q,q]
  have hT : ∀ t,List.take (List.length (H t0)) (H t) = H t:=fun t=>List.take_of_length_le (by rw [hn,hn]; exact Nat.le_refl _)
  have hLl : (linesB s).length ≤ (lnsD s).length + 1 ∧ (lnsD s).length ≤ (linesB s).length:=by
    rcases lnsL_cases s with ⟨e1,e2,e3⟩ | ⟨e1,⟨t,e2⟩,e3⟩ <;> rw [e2] <;> simp
  refine N_loop (fun y : Nat × σ=>⟨[(1,.fn c caps),(6,AStr (linesB s)),(7,AB (endsB s)),(15,AStr (linesB s)),(16,AI (linesB s).length),(17,AI y.1)],H y.2,[]⟩) (fun y=>I y.1 y.2 ∧ y.1 ≤ (lnsD s).length ∧ lnsF take (lnsT s) 0 (lnsD s) t0 = lnsF take (lnsT s) y.1 ((lnsD s).drop y.1) y.2) (fun y=>(lnsD s).length - y.1) (0,t0) (by simp) ⟨h0,by omega,rfl⟩ ?_
  rintro ⟨k,t⟩ ⟨hi,hk,hF⟩
  dsimp only at hi hk hF ⊢
  rw [hF]
  rcases Nat.lt_or_ge k (lnsD s).length with hlt | hge
  · have hL : k < (linesB s).length := by omega
    have hg : (linesB s)[k] = (lnsD s)[k]:=by
      rcases lnsL_cases s with ⟨e1,e2,e3⟩ | ⟨e1,⟨t,e2⟩,e3⟩
      · simp only [e2]
      · simp only [e2]
        rw [List.getElem_append_left hlt]
    have hL' : (k : Int) < ((linesB s).length : Int):=by omega
    have hgm:=map_get PV.str hL
    rw [hg] at hgm
    have cz : cutP none 0 (PV.str (lnsD s)[k]) = some (PV.str (lnsD s)[k]):=rfl
    have hll : ((lnsD s)[k]).length ≤ s.length:=lnsD_mem (List.getElem_mem hlt)
    have wk : IntKind.i64.wrap ((k : Int) + 1) = ((k + 1 : Nat) : Int):=i64_wrap _ (by omega) (by omega)
    have wl : IntKind.i64.wrap (((linesB s).length : Int) - 1) = (((linesB s).length - 1 : Nat) : Int):=by rw [i64_wrap _ (by omega) (by omega)]; omega
    have hq:=fun K=>hc k t (lnsD s)[k] K hi (by omega) hll
    rw [List.drop_eq_getElem_cons hlt,lnsF_cons]
    rcases lnsL_cases s with ⟨e1,e2,e3⟩ | ⟨e1,⟨t1,e2⟩,e3⟩
    · cases hb : (take t (lnsD s)[k]).1 with
      | true=>
        rw [hb] at hq
        simp only [go_sem,hL',hL,hgm,cz,e1,↓hq,hq,wk,cond_true]
        exact ⟨(k + 1,(take t (lnsD s)[k]).2),rfl,⟨hI k t _ hi hll hb,by omega,rfl⟩,by simp; omega⟩
      | false=>
        rw [hb] at hq
        simp only [go_sem,hL',hL,hgm,cz,e1,↓hq,hq,wk,cond_false,hT]
    · have hne : ¬ (k : Int) = (((linesB s).length - 1 : Nat) : Int):=by
        rw [e2]; simp; omega
      cases hb : (take t (lnsD s)[k]).1 with
      | true=>
        rw [hb] at hq
        simp only [go_sem,hL',hL,hgm,cz,e1,wl,hne,↓hq,hq,wk,cond_true]
        exact ⟨(k + 1,(take t (lnsD s)[k]).2),rfl,⟨hI k t _ hi hll hb,by omega,rfl⟩,by simp; omega⟩
      | false=>
        rw [hb] at hq
        simp only [go_sem,hL',hL,hgm,cz,e1,wl,hne,↓hq,hq,wk,cond_false,hT]
  · have hk' : k = (lnsD s).length := by omega
    subst hk'
    rw [List.drop_length,lnsF_nil]
    rcases lnsL_cases s with ⟨e1,e2,e3⟩ | ⟨e1,⟨t1,e2⟩,e3⟩
    · have hL' : ¬ ((lnsD s).length : Int) < ((linesB s).length : Int) := by rw [e2]; omega
      have hL : ¬ (lnsD s).length < (linesB s).length:=by rw [e2]; omega
      simp only [go_sem,hL',hL,decide_false,e3,cond_false]
      rw [e_q001_k2]
      simp only [d_q001_k2,go_sem,hT]
    · have hL : (lnsD s).length < (linesB s).length := by rw [e2]; simp
      have hL' : ((lnsD s).length : Int) < ((linesB s).length : Int):=by omega
      have hgm:=map_get PV.str hL
      have cz : cutP none 0 (PV.str (linesB s)[(lnsD s).length]) = some (PV.str (linesB s)[(lnsD s).length]):=rfl
      have wl : IntKind.i64.wrap (((linesB s).length : Int) - 1) = ((lnsD s).length : Int):=by rw [i64_wrap _ (by omega) (by omega),e2]; simp
      simp only [go_sem,hL',hL,hgm,cz,e1,wl,e3,cond_true,hT]
end Go.Am
end
section
/- Faults read. -/
open Go
set_option linter.all false
namespace Go.Am
variable {h : Heap} {K : Post}
attribute [-go_sem] e_q01r_k2
abbrev tl32 (s : List UInt8) : List (List UInt8):=(splitC 32 s).tail
theorem tl32_bd {s : List UInt8} : (∀ w ∈ tl32 s,w.length ≤ s.length) ∧ (tl32 s).length ≤ s.length:=by
  refine ⟨fun w hw=>splitC_mem (List.mem_of_mem_tail hw),?_⟩
  rw [List.length_tail,splitC_len]
  have : s.count 32 ≤ s.length:=List.count_le_length
  omega
theorem win_tl (s : List UInt8) : win ((splitC 32 s).map PV.str) 1 ((splitC 32 s).length - 1) = (tl32 s).map PV.str:=by
  unfold win
  rw [← List.map_drop,List.drop_one,List.take_of_length_le (by simp)]
theorem kW_min {w : List UInt8} {k : Nat} (h : wordsK[k]? = some w) : kW w ≤ k:=by
  have hk : k < wordsK.length:=(List.getElem?_eq_some_iff.1 h).1
  rcases Nat.lt_or_ge k (kW w) with h1 | h1
  · have := List.not_of_lt_findIdx h1
    rw [List.getElem?_eq_getElem hk] at h
    injection h with h
    simp [h] at this
  · exact h1
theorem wordK_eq {k : Nat} (hk : k ≤ 6) (w : List UInt8) (h1 : 1 ≤ k) (hw : ∀ j,1 ≤ j → j < k → wordK (j : Int) ≠ w) (h0 : w ≠ []) : decide (wordK (k : Int) = w) = decide (kW w = k):=by
  rw [decide_eq_decide]
  have hg : wordsK[k]? = some (wordK k):=by
    have hl : k < wordsK.length:=by show k < 7; omega
    unfold wordK
    rw [Int.toNat_natCast,List.getElem?_eq_getElem hl]
    rfl
  constructor
  · intro e
    have hle:=kW_min (w:=w) (k:=k) (by rw [hg,e])
    rcases Nat.lt_or_ge (kW w) k with h2 | h2
    · exfalso
      have hg2:=kW_get (w:=w) (by omega)
      rcases Nat.eq_zero_or_pos (kW w) with h3 | h3
      · rw [h3] at hg2
        injection hg2 with hg2
        exact h0 hg2.symm
      · refine hw _ h3 h2 ?_
        unfold wordK
        rw [Int.toNat_natCast,hg2]
        rfl
    · omega
  · intro e
    have hg2:=kW_get (w:=w) (by omega)
    rw [e,hg] at hg2
    injection hg2
theorem s_readLine (s : List UInt8) (hs : s.length ≤ 900000) : ACall X f_q01r [AS s] h K = K (.tup [.p (readP s).2.pv,AB (readP s).1]) h []:=by
  refine rule ?_
  rw [c_q01r rfl]
  have q:=fun h K=>s_Split (h:=h) (K:=K) s 32 (by omega)
  obtain ⟨b1,b2⟩:=tl32_bd (s:=s)
  have q2:=fun h K=>s_NumbersB (h:=h) (K:=K) (tl32 s) 15 (by omega) (fun w hw=>by have:=b1 w hw; omega) (by omega)
  have e15 : ((15 : Nat) : Int) = 15:=rfl
  rw [e15] at q2
  have hl1 : 1 ≤ (splitC 32 s).length:=by rw [splitC_len]; omega
  have hw:=win_tl s
  have hZ : ∀ (x : Esc),(∀ y ∈ x,h.length ≤ y.1) → retK false (List.length h) (fun v1 h1 x1=>v1 = AV.tup [AV.p (readP s).2.pv,AB (readP s).1] ∧ h1 = h ∧ x1 = []) (some [AV.agg [AV.p (PV.int IntKind.i64 0),AV.sl0 none],AV.p (PV.bool false)]) (h ++ [Obj.box [AV.p (PV.int IntKind.i64 0),AV.sl0 none]]) x = ((AV.tup [.p (.agg [eI 0,.sl none []]),AB false] : AV) = AV.tup [AV.p (readP s).2.pv,AB (readP s).1]):=fun x hx=>by
    rw [retK_out (v:=.tup [.p (.agg [eI 0,.sl none []]),AB false]) hx rfl (by simp [AV.top,AV.tops])]
    simp
  have hE : ∀ y ∈ escOf (List.length h) (AV.agg [AV.p (PV.int IntKind.i64 0),AV.sl0 none]),h.length ≤ y.1:=by simp [escOf,AV.top,AV.tops]
  cases hall : (tl32 s).all (numF 15) with
  | false=>
    have e : readP s = (false,⟨0,[]⟩):=by unfold readP; rw [if_neg (by simp [hall])]
    rw [hall] at q2
    simp only [d_q01r,go_sem,↓q,q,hl1,hw,↓q2,q2]
    rw [hZ _ hE,e]
    rfl
  | true=>
    rw [hall,if_pos rfl] at q2
    by_cases h0 : (tl32 s).length = 0
    · have e : readP s = (false, ⟨0, []⟩) := by unfold readP; rw [if_neg (by simp [List.length_eq_zero_iff.1 h0])]
      have h0' : (((tl32 s).length : Nat) : Int) = 0:=by omega
      simp only [d_q01r,go_sem,↓q,q,hl1,hw,↓q2,q2,h0']
      rw [hZ _ hE,e]
      rfl
    · have h0' : ¬ (((tl32 s).length : Nat) : Int) = 0 := by omega
      simp only [d_q01r,go_sem,↓q,q,hl1,hw,↓q2,q2,h0']
      have hg0 : ((splitC 32 s).map PV.str)[0]? = some (.str ((splitC 32 s).headD [])):=by
        cases hs0 : splitC 32 s with
        | nil=>rw [hs0] at hl1; simp at hl1
        | cons a b=>rfl
      have hc0 : ∀ w : List UInt8,cutP none 0 (PV.str w) = some (PV.str w):=fun _=>rfl
      refine N_loop (fun k : Nat=>⟨[(2,AV.ref (List.length h) 0),(4,AStr (splitC 32 s)),(5,AL (List.map numV (tl32 s))),(7,AI k)],h ++ [Obj.box [AV.p (PV.int IntKind.i64 0),AV.sl0 none]],[]⟩) (fun k=>1 ≤ k ∧ k ≤ 7 ∧ ∀ j,1 ≤ j → j < k → wordK (j : Int) ≠ (splitC 32 s).headD []) (fun k=>7 - k) 1 rfl ⟨by omega,by omega,fun j h1 h2=>by omega⟩ ?_
      rintro k ⟨k1,k2,k3⟩
      generalize hw0 : (splitC 32 s).headD [] = w0 at *
      rcases Nat.lt_or_ge k 7 with hlt | hge
      · have hk6 : (k : Int) ≤ 6 := by omega
        have qw:=fun h K=>s_word (h:=h) (K:=K) (k : Int) (by omega) hk6
        have wk : IntKind.i64.wrap ((k : Int) + 1) = ((k + 1 : Nat) : Int):=i64_wrap _ (by omega) (by omega)
        by_cases he : wordK (k : Int) = w0
        · simp only [go_sem, hk6, ↓qw, qw, hg0, hc0, he]
          have hw0n : w0 ≠ []:=by
            rw [← he]
            have : k = 1 ∨ k = 2 ∨ k = 3 ∨ k = 4 ∨ k = 5 ∨ k = 6:=by omega
            rcases this with rfl | rfl | rfl | rfl | rfl | rfl <;> decide
          have hk:=wordK_eq (k:=k) (by omega) w0 k1 k3 hw0n
          rw [decide_eq_true he] at hk
          have hk:=of_decide_eq_true hk.symm
          have e : readP s = (true,⟨(k : Int),(tl32 s).map numV⟩):=by
            unfold readP
            rw [hw0,hk,if_pos]
            have : (tl32 s).isEmpty = false:=by cases hq : tl32 s with | nil=>rw [hq] at h0; exact absurd rfl h0 | cons _ _=>rfl
            simp [hall,this]
            omega
          rw [e]
          rfl
        · simp only [go_sem, hk6, ↓qw, qw, hg0, hc0, he, wk]
          refine ⟨k + 1,rfl,⟨by omega,by omega,fun j j1 j2=>?_⟩,by omega⟩
          by_cases hj : j = k
          · subst hj; exact he
          · exact k3 j j1 (by omega)
      · have hk7 : k = 7 := by omega
        subst hk7
        have h67 : ¬ ((7 : Nat) : Int) ≤ 6:=by omega
        have e : readP s = (false,⟨0,[]⟩):=by
          unfold readP
          rw [hw0,if_neg]
          simp only [Bool.and_eq_true,decide_eq_true_eq,not_and]
          intro _ q1
          intro q2
          have hg2:=kW_get (w:=w0) (by omega)
          refine k3 (kW w0) q1 (by omega) ?_
          unfold wordK
          rw [Int.toNat_natCast,hg2]
          rfl
        simp only [go_sem,h67]
        rw [e_q01r_k2]
        simp only [d_q01r_k2,go_sem]
        rw [hZ _ hE,e]
        rfl
end Go.Am
end
section
/- Lists of faults read. -/
open Go
set_option linter.all false
namespace Go.Am
variable {h : Heap} {K : Post}
def HF (h : Heap) (fs : List Flt) : Heap:=h ++ [.row (some 2) (fs.map Flt.pv) 0,.box [.own h.length fs.length 0 fs.length]]
theorem HF_len (h : Heap) (fs : List Flt) : (HF h fs).length = h.length + 2:=by simp [HF]
theorem s_FR1 (fs : List Flt) (s : List UInt8) (hs : s.length ≤ 900000) (hf : fs.length ≤ 1000000) : ACall X f_q01b [AS s,.ref (h.length + 1) 0] (HF h fs) K = K (AB (takeP fs s).1) (HF h (takeP fs s).2) []:=by
  refine rule ?_
  rw [c_q01b rfl]
  have q:=fun h K=>s_readLine (h:=h) (K:=K) s hs
  have hm : fs.length + 1 ≤ maxSl:=by unfold maxSl; omega
  have fp : Flt.pv (readP s).2 = .agg [eI (readP s).2.kind,.sl none ((readP s).2.nets.map eI)]:=rfl
  have hl : (fs.map Flt.pv).length = fs.length:=List.length_map ..
  rw [fp] at q
  unfold HF takeP
  simp only [d_q01b,go_sem,↓q,q,hm,hl,escOf,AV.top,Nat.lt_irrefl,Nat.not_lt_zero,List.map_append,fp]
end Go.Am
end
section
/- fault.Read,scanref2.FaultsRead. -/
open Go
set_option linter.all false
namespace Go.Am
variable {h : Heap} {K : Post}
def takeG (g : List UInt8 → Bool × Flt) (fs : List Flt) (l : List UInt8) : Bool × List Flt:=((g l).1,fs ++ [(g l).2])
theorem takeG_inv (g : List UInt8 → Bool × Flt) (tail : Bool) (n : Nat) : ∀ (ls : List (List UInt8)) (i : Nat) (fs : List Flt),(∀ l ∈ ls,(g l).2.nets.length ≤ n) → (∀ f ∈ fs,f.nets.length ≤ n) →
    (∀ f ∈ (lnsF (takeG g) tail i ls fs).2,f.nets.length ≤ n) ∧ (lnsF (takeG g) tail i ls fs).2.length ≤ fs.length + ls.length
  | [],i,fs,_,h=>by
    rw [lnsF_nil]
    cases tail <;> exact ⟨h,by simp⟩
  | l :: r,i,fs,hl,h=>by
    rw [lnsF_cons]
    have h1 : ∀ f ∈ (takeG g fs l).2,f.nets.length ≤ n:=fun f hf=>by
      rcases List.mem_append.1 hf with hf | hf
      · exact h f hf
      · rw [List.mem_singleton.1 hf]; exact hl l (by simp)
    have h2 : (takeG g fs l).2.length = fs.length + 1:=by simp [takeG]
    cases (takeG g fs l).1 with
    | true=>
      obtain ⟨q1,q2⟩:=takeG_inv g tail n r (i + 1) (takeG g fs l).2 (fun x hx=>hl x (by simp [hx])) h1
      refine ⟨q1,?_⟩
      simp only [cond_true,List.length_cons]
      omega
    | false=>
      refine ⟨h1,?_⟩
      simp only [cond_false,List.length_cons]
      omega
theorem readP_nets (s : List UInt8) : (readP s).2.nets.length ≤ s.length:=by
  have:=(tl32_bd (s:=s)).2
  unfold readP
  split
  · simpa using this
  · simp
abbrev rdT (g : List UInt8 → Bool × Flt) (s : List UInt8) : (Nat × Bool) × List Flt:=lnsF (takeG g) (lnsT s) 0 (lnsD s) []
def frV (g : List UInt8 → Bool × Flt) (n : Int) (s : List UInt8) : List Flt × Int × Int:=
  if n < 1 ∨ 100 < n then ([],0,1) else if 200000 < s.length then ([],0,2) else if (rdT g s).1.2 = false then ([],((rdT g s).1.1 : Nat),9)
  else if 20000 < (rdT g s).2.length then ([],0,2) else if fltsF n (rdT g s).2 ≠ 0 then ([],0,fltsF n (rdT g s).2) else ((rdT g s).2,0,0)
attribute [-go_sem] e_q01a_k2
theorem s_FaultRead (n : Int) (s : List UInt8) (hn : -1000000000000000 ≤ n) (hs : s.length ≤ 900000) : ACall X f_q01a [AI n,AS s] h K = K (.tup [AFlt (frV readP n s).1,AI (frV readP n s).2.1,AI (frV readP n s).2.2]) h []:=by
  refine rule ?_
  rw [c_q01a rfl]
  have q0:=fun h K=>s_Out (h:=h) (K:=K) n 1 100
  unfold frV
  by_cases h1 : n < 1 ∨ 100 < n
  · have e1 : (decide (n < 1) || decide (100 < n)) = true:=by
      rw [← Bool.decide_or,decide_eq_true_eq]; exact h1
    rw [e1] at q0
    rw [if_pos h1]
    simp only [d_q01a,go_sem,↓q0,q0]
    rfl
  · have e1 : (decide (n < 1) || decide (100 < n)) = false:=by
      rw [← Bool.decide_or,decide_eq_false_iff_not]; exact h1
    rw [e1] at q0
    rw [if_neg h1]
    by_cases h2 : 200000 < s.length
    · have h2' : (200000 : Int) < (s.length : Int) := by omega
      rw [if_pos h2]
      simp only [d_q01a,go_sem,↓q0,q0,h2']
      rfl
    · have h2' : ¬ (200000 : Int) < (s.length : Int) := by omega
      rw [if_neg h2]
      have hL:=fun K=>s_Each (K:=K) f_q01b [.ref (h.length + 1) 0] (takeG readP) (HF h) (fun k fs=>fs.length = k) s hs (h.length + 2) (HF_len h)
        (fun k t l K hi hk hll=>s_FR1 t l (by omega) (by omega)) (fun k t l hi hll _=>by simp [takeG,hi]) [] rfl
      obtain ⟨i1,i2⟩:=takeG_inv readP (lnsT s) s.length (lnsD s) 0 [] (fun l hl=>Nat.le_trans (readP_nets l) (lnsD_mem hl)) (by simp)
      have hD:=lnsD_len s
      unfold rdT
      generalize lnsF (takeG readP) (lnsT s) 0 (lnsD s) [] = R at *
      obtain ⟨⟨i,ok⟩,fs⟩:=R
      dsimp only at i1 i2 hL ⊢
      rw [List.length_nil,Nat.zero_add] at i2
      simp only [HF,List.map_nil,List.length_nil] at hL
      have hw : win (fs.map Flt.pv) 0 fs.length = fs.map Flt.pv:=win_full (by simp)
      have hll : (fs.map Flt.pv).length = fs.length:=List.length_map ..
      cases ok with
      | false=>
        simp only [d_q01a,go_sem,↓q0,q0,h2',↓hL,hL]
        rfl
      | true=>
        by_cases h3 : 20000 < fs.length
        · have h3' : (20000 : Int) < (fs.length : Int) := by omega
          simp only [d_q01a,go_sem,↓q0,q0,h2',↓hL,hL,h3',h3]
          rfl
        · have h3' : ¬ (20000 : Int) < (fs.length : Int) := by omega
          simp only [d_q01a,go_sem,↓q0,q0,h2',↓hL,hL,h3',h3]
          refine N_loop (fun k : Nat=>⟨[(0,AI n),(7,.ref (h.length + 1) 0),(34,.own h.length fs.length 0 fs.length),(35,AI fs.length),(36,AI k)],h ++ [.row (some 2) (fs.map Flt.pv) 0,.box [.own h.length fs.length 0 fs.length]],[]⟩) (fun k=>k ≤ fs.length ∧ fltsF n (fs.drop k) = fltsF n fs) (fun k=>fs.length - k) 0 rfl ⟨by omega,by simp⟩ ?_
          rintro k ⟨hk,hp⟩
          rcases Nat.lt_or_ge k fs.length with hlt | hge
          · have hg := map_get Flt.pv hlt
            have w2 : IntKind.i64.wrap ((k : Int) + 1) = ((k + 1 : Nat) : Int):=i64_wrap _ (by omega) (by omega)
            have e:=fun h K=>s_CheckFault (h:=h) (K:=K) n fs[k] (by omega) (by have:=i1 _ (List.getElem_mem hlt); omega)
            have cx:=flt_cut (f:=fs[k])
            rw [List.drop_eq_getElem_cons hlt,fltsF] at hp
            simp only [Flt.pv] at hg cx e
            by_cases h4 : fltF n fs[k] = 0
            · rw [if_neg (by simp [h4])] at hp
              simp only [go_sem,hlt,hll,hg,cx,↓e,e,h4,w2]
              exact ⟨k + 1,rfl,⟨by omega,hp⟩,by omega⟩
            · rw [if_pos h4] at hp
              simp only [go_sem,hlt,hll,hg,cx,↓e,e,h4]
              rw [← hp,if_pos h4]
              rfl
          · have ek : k = fs.length := by omega
            subst ek
            rw [List.drop_length] at hp
            have hp : fltsF n fs = 0:=hp.symm
            simp only [go_sem,Nat.lt_irrefl]
            rw [e_q01a_k2]
            simp only [d_q01a_k2,go_sem,hp,hw,hll]
            first | done | rfl | trace_state
end Go.Am
end
section
/- Sorting the middle of a row: printed by program. -/
open Go
set_option linter.unusedSimpArgs false
namespace Go.Am
attribute [-go_sem] PV.cells splice
variable {h : Heap} {K : Post}
end Go.Am
end
section
/- What is drawn: orders,tests. -/
open Go
set_option linter.all false
namespace Go.Am
variable {L : List Int} {a : Int} {h l : Heap} {id : Nat} {K : Post}
def GenK (f : Nat) (args : List AV) (L : List Int) (a : Int) (sh : Sh) (Q : List PV → Int → Prop) : Prop:=∀ (h : Heap) (id : Nat),h[id]? = some (strm L a) → ∃ xs a2,Q xs a2 ∧ ∀ K : Post,ACall X f (.ref id 0 :: args) h K = K (.own h.length xs.length 0 xs.length) (h.set id (strm L a2) ++ [.row sh xs 0]) []
theorem GenK.of {f : Nat} {args : List AV} {L : List Int} {a : Int} {sh : Sh} {Q : List PV → Int → Prop} (H : ∀ (h : Heap) (id : Nat),id < h.length → ACall X f (.ref id 0 :: args) (h.set id (strm L a)) fun v1 h1 x1=>∃ xs a2,Q xs a2 ∧ v1 = .own h.length xs.length 0 xs.length ∧ h1 = h.set id (strm L a2) ++ [.row sh xs 0] ∧ x1 = []) : GenK f args L a sh Q:=by
  intro h id hh
  have hid:=get_lt hh
  have k:=H h id hid
  rw [set_self hh] at k
  obtain ⟨v,h',x,⟨xs,a2,q,e0,e1,e2⟩,r⟩:=ACall.one X_noNext k
  subst e0; subst e1; subst e2
  exact ⟨xs,a2,q,r⟩
end Go.Am
end
section
/- A text changed at random. -/
open Go
set_option linter.all false
namespace Go.Am
variable {L : List Int} {a : Int} {h l : Heap} {id : Nat} {K : Post}
theorem decN18 {n : Nat} (h : n ≤ 9000000000000000000) : (decN n).length ≤ 19:=(decN_len 18 n (by omega)).2
theorem itoa_len {n : Int} (h1 : -9000000000000000000 ≤ n) (h2 : n ≤ 9000000000000000000) : (itoa n).length ≤ 20:=by
  unfold itoa
  have:=decN18 (n:=n.natAbs) (by omega)
  split
  · simp; omega
  · omega
end Go.Am
end
section
/- What is drawn: faults. -/
open Go
set_option linter.all false
namespace Go.Am
variable {L : List Int} {a : Int} {h l : Heap} {id : Nat} {K : Post}
end Go.Am
end
section
/- Deleting faults: printed by program. -/
open Go
set_option linter.unusedSimpArgs false
namespace Go.Am
attribute [-go_sem] PV.cells splice
variable {h : Heap} {K : Post}
theorem IndexFunc_Fault {v : AV} {g : Nat} {caps : List AV} {p : PV → Bool} {xs : List PV} (hv : Shows (some 2) v xs h) (hp : Tells g caps p xs h) (hl : xs.length ≤ 1000000000) :
    ACall X f_q062 [v,.fn g caps] h K = K (AI (idxP p xs)) h []:=by
  refine rule ?_
  rw [c_q062]
  have vl:=hv.len
  simp only [d_q062,go_sem,vl]
  refine N_loop (fun k : Nat=>⟨[(0,v),(1,.fn g caps),(7,AI xs.length),(8,AI k)],h,[]⟩) (fun k=>k ≤ xs.length ∧ ∀ x ∈ xs.take k,p x = false) (fun k=>xs.length - k) 0 rfl (by simp) ?_
  rintro k ⟨hk,hn⟩
  rcases Nat.lt_or_ge k xs.length with hlt | hge
  · obtain ⟨a, ha, hb⟩ := hv.get k hlt
    have w2 : IntKind.i64.wrap ((k : Int) + 1) = ((k + 1 : Nat) : Int):=i64_wrap _ (by omega) (by omega)
    have ht:=hp _ (List.getElem_mem hlt)
    cases hpk : p xs[k] with
    | true=>
      have hf : xs.findIdx p = k:=by
        rw [List.findIdx_eq hlt]
        refine ⟨hpk,fun j hj=>?_⟩
        have:=hn xs[j] (by rw [List.mem_take_iff_getElem]; exact ⟨j,by omega,rfl⟩)
        simpa using this
      simp only [go_sem,hlt,ha,hb,ht,hpk,w2]
      simp only [idxP,hf,hlt,if_true]
    | false=>
      simp only [go_sem,hlt,ha,hb,ht,hpk,w2]
      refine ⟨k + 1,rfl,⟨by omega,fun x hx=>?_⟩,by omega⟩
      rw [List.take_succ_eq_append_getElem hlt,List.mem_append,List.mem_singleton] at hx
      rcases hx with hx | hx
      · exact hn x hx
      · rw [hx]; exact hpk
  · have e1 : k = xs.length := by omega
    subst e1
    simp only [go_sem,Nat.lt_irrefl]
    rw [List.take_length] at hn
    have : ¬ xs.findIdx p < xs.length:=by
      rw [Nat.not_lt,Nat.le_iff_lt_or_eq]; right
      exact (List.findIdx_eq_length.2 (fun x hx=>by simp [hn x hx])).symm
    simp [idxP,this]
attribute [-go_sem] AV.cells cut
attribute [go_sem] AV.cells cut
end Go.Am
end
section
/- What is drawn: lists of faults. -/
open Go
set_option linter.all false
namespace Go.Am
variable {L : List Int} {a : Int} {h l : Heap} {id : Nat} {K : Post}
def unFlt : PV → Flt
  | .agg [.int _ k,.sl _ xs]=>⟨k,xs.map unI⟩
  | _=>⟨0,[]⟩
theorem unFlt_pv (f : Flt) : unFlt f.pv = f:=by
  have : (f.nets.map eI).map unI = f.nets:=by
    rw [List.map_map]
    exact (List.map_congr_left fun x _=>rfl).trans (List.map_id _)
  obtain ⟨k,ns⟩:=f
  show (⟨k,(ns.map eI).map unI⟩ : Flt) = ⟨k,ns⟩
  rw [this]
theorem fltPs {fs : List Flt} : shps (some 2) (fs.map Flt.pv):=fun x hx=>by obtain ⟨f,_,rfl⟩:=List.mem_map.1 hx; rfl
end Go.Am
end
section
/- Stable sorts of numbers: printed by program. -/
open Go
set_option linter.unusedSimpArgs false
namespace Go.Am
attribute [-go_sem] PV.cells splice
variable {h : Heap} {K : Post}
end Go.Am
end
section
/- Faults compared; texts of faults drawn. -/
open Go
set_option linter.all false
namespace Go.Am
variable {L : List Int} {a : Int} {h : Heap} {K : Post}
theorem own_arg2 {f : Nat} {F : AFun} {id fz : Nat} {sh : Sh} {xs : List PV} {v : PV} (hf : X.fn f = some F) (hr : F.byref = false) (hl : F.nparams = 2) (hh : h[id]? = some (.row sh xs fz)) : ACall X f [.p v,.own id xs.length 0 xs.length] h K = ACall X f [.p v,.p (.sl sh xs)] (frz h id xs.length) K:=
  arg_pur (X:=X) (a:=[.p v,.own id xs.length 0 xs.length]) (vs:=[v,.sl sh xs]) hf hr (by
    have : win xs 0 xs.length = xs:=win_full rfl
    simp [puras,pur,rd,hh,this]) rfl (by simp [hl]) frz_len
theorem s_SameFault (x y : Flt) (hx : x.nets.length ≤ 1000000) : ACall X f_q04s [.p x.pv,.p y.pv] h K = K (AB (decide (x = y))) h []:=by
  refine rule ?_
  rw [c_q04s rfl]
  have q:=fun h K=>s_EqualI (h:=h) (K:=K) x.nets y.nets (by omega)
  have fx : Flt.pv x = .agg [eI x.kind,.sl none (x.nets.map eI)]:=rfl
  have fy : Flt.pv y = .agg [eI y.kind,.sl none (y.nets.map eI)]:=rfl
  have e : decide (x = y) = (decide (x.kind = y.kind) && decide (x.nets = y.nets)):=by
    obtain ⟨k,n⟩:=x; obtain ⟨k2,n2⟩:=y
    simp [Flt.mk.injEq]
  rw [fx,fy,e]
  by_cases hk : x.kind = y.kind
  · simp only [d_q04s,go_sem,hk,↓q,q]
  · simp only [d_q04s,go_sem,hk]
theorem s_EqualFuncF (x y : List Flt) (ha : x.length ≤ 1000000) (hr : ∀ f ∈ x,f.nets.length ≤ 1000000) : ACall X f_q05w [AFlt x,AFlt y,.fn f_q04s []] h K = K (AB (decide (x = y))) h []:=by
  refine rule ?_
  rw [c_q05w rfl]
  by_cases hl : x.length = y.length
  · have hl' : (x.length : Int) = (y.length : Int) := by omega
    simp only [d_q05w,go_sem,eq_true hl']
    refine N_loop (fun k : Nat=>⟨[(1,AFlt y),(2,.fn f_q04s []),(15,AFlt x),(16,AI x.length),(17,AI k)],h,[]⟩) (fun k=>k ≤ x.length ∧ x.take k = y.take k) (fun k=>x.length - k) 0 rfl ⟨by omega,rfl⟩ ?_
    rintro k ⟨hk,hp⟩
    rcases Nat.lt_or_ge k x.length with hlt | hge
    · have hkb : k < y.length := by omega
      have g1:=map_get Flt.pv hlt
      have g2:=map_get Flt.pv hkb
      have c1:=flt_cut (f:=x[k])
      have c2:=flt_cut (f:=y[k])
      have q:=fun h K=>s_SameFault (h:=h) (K:=K) x[k] y[k] (hr _ (List.getElem_mem hlt))
      simp only [Flt.pv] at q g1 g2 c1 c2
      have w2 : IntKind.i64.wrap ((k : Int) + 1) = ((k + 1 : Nat) : Int):=i64_wrap _ (by omega) (by omega)
      by_cases hs : x[k] = y[k]
      · rw [decide_eq_true hs] at q
        simp only [go_sem,hlt,hkb,g1,g2,c1,c2,↓q,q,w2]
        refine ⟨k + 1,rfl,⟨by omega,?_⟩,by omega⟩
        rw [List.take_succ_eq_append_getElem hlt,List.take_succ_eq_append_getElem hkb,hp,hs]
      · rw [decide_eq_false hs] at q
        have : ¬ x = y:=fun e=>by subst e; exact hs rfl
        simp only [go_sem,hlt,hkb,g1,g2,c1,c2,↓q,q,this]
    · have ek : k = x.length := by omega
      subst ek
      have : x = y:=by rw [List.take_length,hl,List.take_length] at hp; exact hp
      simp only [go_sem,Nat.lt_irrefl,eq_true this]
  · have hl' : ¬ (x.length : Int) = (y.length : Int) := by omega
    have : ¬ x = y:=fun e=>hl (by rw [e])
    simp only [d_q05w,go_sem,hl',this]
theorem wordK_len (k : Int) : (wordK k).length ≤ 6:=by
  unfold wordK
  cases h : wordsK[k.toNat]? with
  | none=>simp
  | some w=>
    have : w ∈ wordsK:=List.mem_of_getElem? h
    have : ∀ w ∈ wordsK,w.length ≤ 6:=by decide
    exact this _ (List.mem_of_getElem? h)
theorem numsL_len : ∀ (l : List Int),(∀ n ∈ l,-9000000000000000000 ≤ n ∧ n ≤ 9000000000000000000) → (numsL l).length ≤ 21 * l.length
  | [],_=>by simp [numsL]
  | [x],h=>by
    have:=itoa_len (h x (by simp)).1 (h x (by simp)).2
    simp [numsL,List.intercalate]
    omega
  | x :: y :: r,h=>by
    have ih:=numsL_len (y :: r) (fun n hn=>h n (by simp [hn]))
    have e : numsL (x :: y :: r) = itoa x ++ 32 :: numsL (y :: r):=by
      unfold numsL
      simp [List.intercalate,List.intersperse]
    have:=itoa_len (h x (by simp)).1 (h x (by simp)).2
    rw [e]
    simp only [List.length_append,List.length_cons] at ih ⊢
    omega
theorem faultLine_len {f : Flt} (h : ∀ n ∈ f.nets,-9000000000000000000 ≤ n ∧ n ≤ 9000000000000000000) : (faultLine f).length ≤ 8 + 21 * f.nets.length:=by
  have h1:=wordK_len f.kind
  have h2:=numsL_len f.nets h
  unfold faultLine
  simp only [List.length_append,List.length_cons,List.length_nil]
  omega
theorem faultLines_len (m : Nat) : ∀ (fs : List Flt),(∀ f ∈ fs,f.nets.length ≤ m ∧ ∀ n ∈ f.nets,-9000000000000000000 ≤ n ∧ n ≤ 9000000000000000000) → (faultLines fs).length ≤ (8 + 21 * m) * fs.length
  | [],_=>by simp [faultLines]
  | f :: r,h=>by
    have ih:=faultLines_len m r (fun g hg=>h g (by simp [hg]))
    have h1:=faultLine_len (h f (by simp)).2
    have h2:=(h f (by simp)).1
    have e : faultLines (f :: r) = faultLine f ++ faultLines r:=by simp [faultLines]
    rw [e,List.length_append,List.length_cons,Nat.mul_succ]
    have : 21 * f.nets.length ≤ 21 * m:=Nat.mul_le_mul_left _ h2
    omega
end Go.Am
end
section
/- All single faults of some kinds. -/
set_option linter.all false
namespace Go.Am
def pairB (k : Int) (a b : Nat) : Bool:=decide (a < b) || decide (b < a) && decide (k = 5)
def pairL (k : Int) (a m : Nat) : List Flt:=((List.range m).filter (pairB k a)).map fun (b : Nat)=>⟨k,[(a : Int),(b : Int)]⟩
def oneL (n : Nat) (k : Int) (a : Nat) : List Flt:=if shortK k then pairL k a n else [⟨k,[(a : Int)]⟩]
def kindL (n : Nat) (k : Int) (m : Nat) : List Flt:=(List.range m).flatMap (oneL n k)
def allL (n : Nat) (ks : List Int) : List Flt:=ks.flatMap fun k=>kindL n k n
theorem pairL_succ (k : Int) (a m : Nat) : pairL k a (m + 1) = pairL k a m ++ if pairB k a m = true then [⟨k,[(a : Int),(m : Int)]⟩] else []:=by
  unfold pairL
  rw [List.range_succ,List.filter_append,List.map_append]
  congr 1
  by_cases h : pairB k a m = true
  · simp [h]
  · simp [h]
theorem kindL_succ (n : Nat) (k : Int) (m : Nat) : kindL n k (m + 1) = kindL n k m ++ oneL n k m:=by
  unfold kindL
  rw [List.range_succ,List.flatMap_append]
  simp
theorem allL_take (n : Nat) (ks : List Int) (m : Nat) (h : m < ks.length) : allL n (ks.take (m + 1)) = allL n (ks.take m) ++ kindL n ks[m] n:=by
  unfold allL
  rw [List.take_succ_eq_append_getElem h,List.flatMap_append]
  simp
theorem pairL_len (k : Int) (a : Nat) : ∀ m,(pairL k a m).length ≤ m
  | 0=>by simp [pairL]
  | m + 1=>by
    have:=pairL_len k a m
    rw [pairL_succ,List.length_append]
    split <;> simp <;> omega
theorem oneL_len (n : Nat) (k : Int) (a : Nat) (hn : 1 ≤ n) : (oneL n k a).length ≤ n:=by
  unfold oneL
  split
  · exact pairL_len k a n
  · simpa using hn
theorem kindL_len (n : Nat) (k : Int) (hn : 1 ≤ n) : ∀ m,(kindL n k m).length ≤ m * n
  | 0=>by simp [kindL]
  | m + 1=>by
    have:=kindL_len n k hn m
    have:=oneL_len n k m hn
    rw [kindL_succ,List.length_append,Nat.succ_mul]
    omega
theorem allL_len (n : Nat) (hn : 1 ≤ n) : ∀ ks : List Int,(allL n ks).length ≤ ks.length * (n * n)
  | []=>by simp [allL]
  | k :: r=>by
    have:=allL_len n hn r
    have:=kindL_len n k hn n
    have e : allL n (k :: r) = kindL n k n ++ allL n r:=by simp [allL]
    rw [e,List.length_append,List.length_cons,Nat.succ_mul]
    omega
def leP (p : Option Int) (k : Int) : Bool:=match p with
  | some j=>decide (k ≤ j)
  | none=>false
def kindsR : Option Int → List Int → Int
  | _,[]=>0
  | p,k :: r=>if k < 1 ∨ 6 < k then 4 else if leP p k = true then 7 else kindsR (some k) r
def kindsF (n : Int) (ks : List Int) : Int:=if n < 1 ∨ 100 < n then 1 else if 6 < ks.length then 2 else kindsR none ks
def lastP (ks : List Int) (m : Nat) : Option Int:=if m = 0 then none else ks[m - 1]?
structure Kinds (ks : List Int) : Prop where
  inc : ks.Pairwise (· < ·)
  bd : ∀ k ∈ ks,1 ≤ k ∧ k ≤ 6
theorem kinds_R : ∀ (p : Option Int) (ks : List Int),Kinds ks → (∀ k ∈ ks,leP p k = false) → kindsR p ks = 0
  | p,[],_,_=>rfl
  | p,k :: r,h,hp=>by
    have h1:=h.bd k (by simp)
    unfold kindsR
    rw [if_neg (by omega),hp k (by simp),if_neg (by simp)]
    have hi:=List.pairwise_cons.1 h.inc
    refine kinds_R (some k) r ⟨hi.2,fun x hx=>h.bd x (by simp [hx])⟩ (fun x hx=>?_)
    have:=hi.1 x hx
    simp [leP]
    omega
theorem mem_pairL {k : Int} {a m : Nat} {f : Flt} (h : f ∈ pairL k a m) : ∃ b,b < m ∧ pairB k a b = true ∧ f = ⟨k,[(a : Int),(b : Int)]⟩:=by
  unfold pairL at h
  obtain ⟨b,hb,rfl⟩:=List.mem_map.1 h
  rw [List.mem_filter,List.mem_range] at hb
  exact ⟨b,hb.1,hb.2,rfl⟩
theorem mem_oneL {n : Nat} {k : Int} {a : Nat} {f : Flt} (h : f ∈ oneL n k a) : f.kind = k ∧ f.nets.head? = some (a : Int) ∧ ((shortK k = true ∧ ∃ b,b < n ∧ pairB k a b = true ∧ f = ⟨k,[(a : Int),(b : Int)]⟩) ∨ (shortK k = false ∧ f = ⟨k,[(a : Int)]⟩)):=by
  unfold oneL at h
  split at h
  · rename_i hs
    obtain ⟨b,h1,h2,rfl⟩:=mem_pairL h
    exact ⟨rfl,rfl,.inl ⟨hs,b,h1,h2,rfl⟩⟩
  · rename_i hs
    rw [List.mem_singleton] at h
    subst h
    exact ⟨rfl,rfl,.inr ⟨by simpa using hs,rfl⟩⟩
theorem mem_allL {n : Nat} {ks : List Int} {f : Flt} (h : f ∈ allL n ks) : ∃ k ∈ ks,∃ a,a < n ∧ f ∈ oneL n k a:=by
  unfold allL kindL at h
  rw [List.mem_flatMap] at h
  obtain ⟨k,hk,h⟩:=h
  rw [List.mem_flatMap] at h
  obtain ⟨a,ha,h⟩:=h
  exact ⟨k,hk,a,List.mem_range.1 ha,h⟩
theorem all_right {n : Nat} {ks : List Int} (hn1 : 1 ≤ n) (hn : n ≤ 100) (hk : Kinds ks) (m : Nat) (hm : n ≤ m) (hm2 : m ≤ 100) {f : Flt} (h : f ∈ allL n ks) : fltF m f = 0 ∧ ks.contains f.kind = true:=by
  obtain ⟨k,hkm,a,ha,hf⟩:=mem_allL h
  obtain ⟨h1,h2,h3⟩:=mem_oneL hf
  have hkb:=hk.bd k hkm
  refine ⟨?_,by rw [List.contains_iff_mem,h1]; exact hkm⟩
  rcases h3 with ⟨hs,b,hb,hp,rfl⟩ | ⟨hs,rfl⟩
  · unfold pairB at hp
    simp only [Bool.or_eq_true,Bool.and_eq_true,decide_eq_true_eq] at hp
    unfold fltF
    have o1 : outN m (a : Int) = false:=by unfold outN; simp; omega
    have o2 : outN m (b : Int) = false:=by unfold outN; simp; omega
    rw [if_neg (by omega),if_neg (by omega),if_neg (by simp),if_neg (by simp),if_neg (by simp [o1,o2]),if_neg (by simp [hs])]
    by_cases h5 : k = 5
    · rw [if_pos h5, if_neg (by simp [risL]), if_neg]
      simp
      intro _
      omega
    · have hab : a < b := by omega
      rw [if_neg h5,if_neg (by simp [risL]; omega),if_neg (by simp [h5])]
  · have h5 : ¬ k = 5 := by intro e; subst e; revert hs; decide
    unfold fltF
    have o1 : outN m (a : Int) = false:=by unfold outN; simp; omega
    rw [if_neg (by omega),if_neg (by omega),if_neg (by simp),if_neg (by simp),if_neg (by simp [o1]),if_neg (by simp [hs]),if_neg h5,if_neg (by simp [risL]),if_neg (by simp [h5])]
theorem pairL_nodup (k : Int) (a m : Nat) : (pairL k a m).Nodup:=by
  unfold pairL
  rw [List.nodup_iff_pairwise_ne,List.pairwise_map]
  have:=(List.nodup_range (n:=m)).filter (pairB k a)
  refine this.imp fun hab e=>hab ?_
  injection e with _ e
  injection e with _ e
  injection e with e
  omega
theorem oneL_nodup (n : Nat) (k : Int) (a : Nat) : (oneL n k a).Nodup:=by
  unfold oneL
  split
  · exact pairL_nodup k a n
  · simp
theorem nodup_flat {α β : Type} {f : α → List β} : ∀ {l : List α},(∀ a ∈ l,(f a).Nodup) → l.Pairwise (fun a b=>∀ x ∈ f a,∀ y ∈ f b,x ≠ y) → (l.flatMap f).Nodup
  | [],_,_=>by simp
  | a :: r,h,hp=>by
    rw [List.flatMap_cons,List.nodup_append]
    have hp:=List.pairwise_cons.1 hp
    refine ⟨h a (by simp),nodup_flat (fun b hb=>h b (by simp [hb])) hp.2,fun x hx y hy=>?_⟩
    rw [List.mem_flatMap] at hy
    obtain ⟨b,hb,hy⟩:=hy
    exact hp.1 b hb x hx y hy
theorem kindL_nodup (n : Nat) (k : Int) (m : Nat) : (kindL n k m).Nodup:=by
  unfold kindL
  refine nodup_flat (fun a _=>oneL_nodup n k a) ?_
  have:=List.nodup_iff_pairwise_ne.1 (List.nodup_range (n:=m))
  refine this.imp fun {a b} hab x hx y hy e=>hab ?_
  have h1:=(mem_oneL hx).2.1
  have h2:=(mem_oneL hy).2.1
  rw [e,h2] at h1
  injection h1 with h1
  omega
theorem all_nodup {n : Nat} {ks : List Int} (hk : Kinds ks) : (allL n ks).Nodup:=by
  unfold allL
  refine nodup_flat (fun k _=>kindL_nodup n k n) ?_
  refine hk.inc.imp fun {a b} hab x hx y hy e=>?_
  unfold kindL at hx hy
  rw [List.mem_flatMap] at hx hy
  obtain ⟨_,_,hx⟩:=hx
  obtain ⟨_,_,hy⟩:=hy
  have h1:=(mem_oneL hx).1
  have h2:=(mem_oneL hy).1
  rw [e,h2] at h1
  omega
theorem all_some {n : Nat} {ks : List Int} (hk : ks ≠ []) (hn : 2 ≤ n) : 0 < (allL n ks).length:=by
  cases ks with
  | nil=>exact absurd rfl hk
  | cons k r=>
    have e : allL n (k :: r) = kindL n k n ++ allL n r:=by simp [allL]
    have h1 : 0 < (oneL n k 0).length:=by
      unfold oneL
      split
      · have : (⟨k,[((0 : Nat) : Int),((1 : Nat) : Int)]⟩ : Flt) ∈ pairL k 0 n:=by
          unfold pairL
          exact List.mem_map.2 ⟨1,by rw [List.mem_filter,List.mem_range]; exact ⟨by omega,by simp [pairB]⟩,rfl⟩
        exact List.length_pos_of_mem this
      · simp
    have h2 : 0 < (kindL n k n).length:=by
      obtain ⟨x,hx⟩:=List.exists_mem_of_length_pos h1
      have : x ∈ kindL n k n:=by
        unfold kindL
        rw [List.mem_flatMap]
        exact ⟨0,List.mem_range.2 (by omega),hx⟩
      exact List.length_pos_of_mem this
    rw [e,List.length_append]
    omega
end Go.Am
end
section
/- fault.All. -/
open Go
set_option linter.all false
namespace Go.Am
variable {h : Heap} {K : Post}
attribute [-go_sem] e_q01o_k2 e_q012_k7
theorem s_kindsFault (n : Int) (ks : List Int) (hl : ks.length ≤ 1000000) : ACall X f_q01o [AI n,AL ks] h K = K (AI (kindsF n ks)) h []:=by
  refine rule ?_
  rw [c_q01o rfl]
  have q0:=fun h K=>s_Out (h:=h) (K:=K) n 1 100
  unfold kindsF
  by_cases h1 : n < 1 ∨ 100 < n
  · have e1 : (decide (n < 1) || decide (100 < n)) = true := by rw [← Bool.decide_or, decide_eq_true_eq]; exact h1
    rw [e1] at q0
    rw [if_pos h1]
    simp only [d_q01o,go_sem,↓q0,q0]
  · have e1 : (decide (n < 1) || decide (100 < n)) = false := by rw [← Bool.decide_or, decide_eq_false_iff_not]; exact h1
    rw [e1] at q0
    rw [if_neg h1]
    by_cases h2 : 6 < ks.length
    · have h2' : (6 : Int) < (ks.length : Int) := by omega
      rw [if_pos h2]
      simp only [d_q01o,go_sem,↓q0,q0,h2']
    · have h2' : ¬ (6 : Int) < (ks.length : Int) := by omega
      rw [if_neg h2]
      simp only [d_q01o,go_sem,↓q0,q0,h2']
      refine N_loop (fun k : Nat=>⟨[(1,AL ks),(14,AL ks),(15,AI ks.length),(16,AI k)],h,[]⟩) (fun k=>k ≤ ks.length ∧ kindsR (lastP ks k) (ks.drop k) = kindsR none ks) (fun k=>ks.length - k) 0 rfl ⟨by omega,by simp [lastP]⟩ ?_
      rintro k ⟨hk,hp⟩
      rcases Nat.lt_or_ge k ks.length with hlt | hge
      · have hlt' : (k : Int) < (ks.length : Int) := by omega
        have hg:=map_get eI hlt
        have cz : ∀ x : Int,cutP none 0 (eI x) = some (eI x):=fun _=>rfl
        have wk : IntKind.i64.wrap ((k : Int) + 1) = ((k + 1 : Nat) : Int):=i64_wrap _ (by omega) (by omega)
        have q1:=fun h K=>s_Out (h:=h) (K:=K) ks[k] 1 6
        have hl1 : lastP ks (k + 1) = some ks[k]:=by simp [lastP,hlt]
        rw [List.drop_eq_getElem_cons hlt,kindsR] at hp
        by_cases h3 : ks[k] < 1 ∨ 6 < ks[k]
        · have e3 : (decide (ks[k] < 1) || decide (6 < ks[k])) = true := by rw [← Bool.decide_or, decide_eq_true_eq]; exact h3
          rw [e3] at q1
          rw [if_pos h3] at hp
          simp only [go_sem,hlt',hlt,hg,cz,↓q1,q1,← hp]
        · have e3 : (decide (ks[k] < 1) || decide (6 < ks[k])) = false := by rw [← Bool.decide_or, decide_eq_false_iff_not]; exact h3
          rw [e3] at q1
          rw [if_neg h3] at hp
          by_cases h0 : k = 0
          · subst h0
            have h00 : ¬ (0 : Int) < ((0 : Nat) : Int):=by omega
            have hlp : leP (lastP ks 0) ks[0] = false:=rfl
            rw [hlp,if_neg (by simp),← hl1] at hp
            have hlt0 : (0 : Int) < (ks.length : Int):=by omega
            have h01 : ¬ (0 : Int) < 0:=by omega
            have w01 : IntKind.i64.wrap (0 + 1) = ((1 : Nat) : Int):=i64_wrap _ (by omega) (by omega)
            have n0 : ((0 : Nat) : Int) = 0:=rfl
            simp only [go_sem,n0,hlt0,hlt,hg,cz,↓q1,q1,h01,w01]
            exact ⟨1,rfl,⟨by omega,hp⟩,by omega⟩
          · have h00 : (0 : Int) < (k : Int) := by omega
            have wj : IntKind.i64.wrap ((k : Int) - 1) = ((k - 1 : Nat) : Int):=by rw [i64_wrap _ (by omega) (by omega)]; omega
            have hj : k - 1 < ks.length:=by omega
            have hgj:=map_get eI hj
            have hlk : lastP ks k = some ks[k - 1]:=by simp [lastP,h0,hj]
            have hlp : leP (lastP ks k) ks[k] = decide (ks[k] ≤ ks[k - 1]):=by rw [hlk]; rfl
            rw [hlp,← hl1] at hp
            by_cases h4 : ks[k] ≤ ks[k - 1]
            · rw [if_pos (by simpa using h4)] at hp
              simp only [go_sem,hlt',hlt,hg,cz,↓q1,q1,h00,wj,hgj,h4,← hp]
            · rw [if_neg (by simpa using h4)] at hp
              simp only [go_sem,hlt',hlt,hg,cz,↓q1,q1,h00,wj,hgj,h4,wk]
              exact ⟨k + 1,rfl,⟨by omega,hp⟩,by omega⟩
      · have ek : k = ks.length := by omega
        subst ek
        rw [List.drop_length] at hp
        have hp : kindsR none ks = 0:=hp.symm
        have hlt' : ¬ (ks.length : Int) < (ks.length : Int):=by omega
        simp only [go_sem,hlt']
        rw [e_q01o_k2]
        simp only [d_q01o_k2,go_sem,hp]
abbrev rwF (h : Heap) (l : List Flt) : Heap:=h ++ [.row (some 2) (l.map Flt.pv) 0]
theorem loop_b {K' : Ex → St → Prop} (n : Nat) (k : Int) (a : Nat) (acc : List Flt) (v18 v19 v20 v24 : PV) (hn : n ≤ 100) (ha : a < n) (hl : acc.length ≤ 100000)
    (hK : ∀ R,R = acc ++ pairL k a n → K' (.exit 4) ⟨[(0,AI n),(7,.own h.length R.length 0 R.length),(9,AI k),(10,AI a),(18,.p v18),(19,.p v19),(20,.p v20),(24,.p v24),(25,AI a),(38,AI n),(39,AI n),(40,AB false)],rwF h R,[]⟩) :
    NLoop (ACall X) X.gl (.scope p_q012_k2) K' [(0,AI n),(7,.own h.length acc.length 0 acc.length),(9,AI k),(10,AI a),(18,.p v18),(19,.p v19),(20,.p v20),(24,.p v24),(25,AI a),(38,AI n),(39,AI 0)] (rwF h acc) []:=by
  obtain ⟨B,hB⟩ : ∃ B : Nat → List Flt,B = fun m=>acc ++ pairL k a m:=⟨_,rfl⟩
  have hB0 : B 0 = acc:=by rw [hB]; simp [pairL]
  have hBs : ∀ m,B (m + 1) = B m ++ if pairB k a m = true then [⟨k,[(a : Int),(m : Int)]⟩] else []:=fun m=>by simp only [hB]; rw [pairL_succ,List.append_assoc]
  have hBl : ∀ m,m ≤ n → (B m).length ≤ 100100:=fun m hm=>by simp only [hB]; have:=pairL_len k a m; rw [List.length_append]; omega
  have hKB:=hK (B n) (by rw [hB])
  clear hK hB
  refine N_loop (fun m : Nat=>⟨[(0,AI n),(7,.own h.length (B m).length 0 (B m).length),(9,AI k),(10,AI a),(18,.p v18),(19,.p v19),(20,.p v20),(24,.p v24),(25,AI a),(38,AI n),(39,AI m)],rwF h (B m),[]⟩) (fun m=>m ≤ n) (fun m=>n - m) 0 (by rw [hB0]; rfl) (by omega) ?_
  intro m hm
  rcases Nat.lt_or_ge m n with hlt | hge
  · have hlt' : (m : Int) < (n : Int) := by omega
    have wm : IntKind.i64.wrap ((m : Int) + 1) = ((m + 1 : Nat) : Int):=i64_wrap _ (by omega) (by omega)
    have hll : ((B m).map Flt.pv).length = (B m).length:=List.length_map ..
    have hal:=hBl m hm
    have hm1 : (B m).length + 1 ≤ maxSl:=by unfold maxSl; omega
    have hs:=hBs m
    by_cases hp : pairB k a m = true
    · rw [if_pos hp] at hs
      have hbl : (B (m + 1)).length = (B m).length + 1:=by rw [hs]; simp
      have hbm : (B (m + 1)).map Flt.pv = (B m).map Flt.pv ++ [.agg [.int .i64 k,.sl none [.int .i64 (a : Int),.int .i64 (m : Int)]]]:=by rw [hs,List.map_append]; rfl
      unfold pairB at hp
      simp only [Bool.or_eq_true,Bool.and_eq_true,decide_eq_true_eq] at hp
      by_cases hab : a < m
      · have hab' : (a : Int) < (m : Int) := by omega
        simp only [go_sem,hlt',hab',wm,hm1,hll]
        exact ⟨m + 1,by simp only [hbl,rwF,hbm],by omega,by omega⟩
      · have hab' : ¬ (a : Int) < (m : Int) := by omega
        have hba : (m : Int) < (a : Int):=by omega
        obtain rfl : k = 5:=by omega
        simp only [go_sem,hlt',hab',hba,wm,hm1,hll]
        exact ⟨m + 1,by simp only [hbl,rwF,hbm],by omega,by omega⟩
    · rw [if_neg hp, List.append_nil] at hs
      unfold pairB at hp
      simp only [Bool.or_eq_true,Bool.and_eq_true,decide_eq_true_eq,not_or,not_and] at hp
      have hab' : ¬ (a : Int) < (m : Int):=by omega
      by_cases hba : (m : Int) < (a : Int)
      · have hk5 : ¬ k = 5 := hp.2 (by omega)
        simp only [go_sem,hlt',hab',hba,hk5,wm]
        exact ⟨m + 1,by simp only [hs],by omega,by omega⟩
      · simp only [go_sem, hlt', hab', hba, wm]
        exact ⟨m + 1,by simp only [hs],by omega,by omega⟩
  · have hk : m = n := by omega
    subst hk
    have hlt' : ¬ (m : Int) < (m : Int):=by omega
    simp only [go_sem,hlt',hKB]
theorem loop_a {K' : Ex → St → Prop} (n : Nat) (k : Int) (acc : List Flt) (v18 v19 v20 : PV) (hn1 : 1 ≤ n) (hn : n ≤ 100) (hl : acc.length ≤ 80000)
    (hK : ∀ R,R = acc ++ kindL n k n → K' (.exit 2) ⟨[(0,AI n),(7,.own h.length R.length 0 R.length),(9,AI k),(18,.p v18),(19,.p v19),(20,.p v20),(24,AI n),(25,AI n),(26,AB false)],rwF h R,[]⟩) :
    NLoop (ACall X) X.gl (.scope p_q012_k4) K' [(0,AI n),(7,.own h.length acc.length 0 acc.length),(9,AI k),(18,.p v18),(19,.p v19),(20,.p v20),(24,AI n),(25,AI 0)] (rwF h acc) []:=by
  obtain ⟨B,hB⟩ : ∃ B : Nat → List Flt,B = fun m=>acc ++ kindL n k m:=⟨_,rfl⟩
  have hB0 : B 0 = acc:=by rw [hB]; simp [kindL]
  have hBs : ∀ m,B (m + 1) = B m ++ oneL n k m:=fun m=>by simp only [hB]; rw [kindL_succ,List.append_assoc]
  have hBl : ∀ m,m ≤ n → (B m).length ≤ 90000:=fun m hm=>by
    simp only [hB]
    have:=kindL_len n k hn1 m
    have h2 : m * n ≤ 100 * 100:=Nat.mul_le_mul (by omega) hn
    rw [List.length_append]; omega
  have hKB:=hK (B n) (by rw [hB])
  clear hK hB
  refine N_loop (fun m : Nat=>⟨[(0,AI n),(7,.own h.length (B m).length 0 (B m).length),(9,AI k),(18,.p v18),(19,.p v19),(20,.p v20),(24,AI n),(25,AI m)],rwF h (B m),[]⟩) (fun m=>m ≤ n) (fun m=>n - m) 0 (by rw [hB0]; rfl) (by omega) ?_
  intro m hm
  rcases Nat.lt_or_ge m n with hlt | hge
  · have hlt' : (m : Int) < (n : Int) := by omega
    have wm : IntKind.i64.wrap ((m : Int) + 1) = ((m + 1 : Nat) : Int):=i64_wrap _ (by omega) (by omega)
    have hll : ((B m).map Flt.pv).length = (B m).length:=List.length_map ..
    have hal:=hBl m hm
    have hm1 : (B m).length + 1 ≤ maxSl:=by unfold maxSl; omega
    have hs:=hBs m
    have q:=fun h K=>s_isShort (h:=h) (K:=K) k
    unfold oneL at hs
    cases hk : shortK k with
    | false=>
      rw [hk] at q hs
      rw [if_neg (by simp)] at hs
      have hbl : (B (m + 1)).length = (B m).length + 1:=by rw [hs]; simp
      have hbm : (B (m + 1)).map Flt.pv = (B m).map Flt.pv ++ [.agg [.int .i64 k,.sl none [.int .i64 (m : Int)]]]:=by rw [hs,List.map_append]; rfl
      simp only [go_sem,hlt',↓q,q,wm,hm1,hll]
      exact ⟨m + 1,by simp only [hbl,rwF,hbm],by omega,by omega⟩
    | true=>
      rw [hk] at q hs
      rw [if_pos rfl] at hs
      simp only [go_sem,hlt',↓q,q]
      refine loop_b n k m (B m) v18 v19 v20 (.int .i64 n) hn hlt (by omega) (fun R hR=>?_)
      rw [← hs] at hR
      subst hR
      simp only [go_sem,wm]
      exact ⟨m + 1,rfl,by omega,by omega⟩
  · have hk : m = n := by omega
    subst hk
    have hlt' : ¬ (m : Int) < (m : Int):=by omega
    simp only [go_sem,hlt',hKB]
def allV (n : Int) (ks : List Int) : List Flt × Int:=if kindsF n ks ≠ 0 then ([],kindsF n ks) else if 20000 < (allL n.toNat ks).length then ([],2) else (allL n.toNat ks,0)
theorem s_All (n : Int) (ks : List Int) (hkl : ks.length ≤ 1000000) : ACall X f_q012 [AI n,AL ks] h K = K (.tup [AFlt (allV n ks).1,AI (allV n ks).2]) h []:=by
  refine rule ?_
  rw [c_q012 rfl]
  have q0:=fun h K=>s_kindsFault (h:=h) (K:=K) n ks hkl
  unfold allV
  by_cases h0 : kindsF n ks = 0
  · rw [h0] at q0
    rw [if_neg (by simp [h0])]
    have hb : ¬ (n < 1 ∨ 100 < n) ∧ ¬ 6 < ks.length:=by
      unfold kindsF at h0
      split at h0
      · cases h0
      · split at h0
        · cases h0
        · exact ⟨by assumption,by assumption⟩
    obtain ⟨m,rfl⟩:=Int.eq_ofNat_of_zero_le (show 0 ≤ n by omega)
    rw [Int.toNat_natCast]
    simp only [d_q012,go_sem,↓q0,q0]
    obtain ⟨B,hB⟩ : ∃ B : Nat → List Flt,B = fun j=>allL m (ks.take j):=⟨_,rfl⟩
    have hB0 : B 0 = []:=by rw [hB]; simp [allL]
    have hBs : ∀ j (hj : j < ks.length),B (j + 1) = B j ++ kindL m ks[j] m:=fun j hj=>by simp only [hB]; exact allL_take m ks j hj
    have hBl : ∀ j,j ≤ ks.length → (B j).length ≤ 60000:=fun j hj=>by
      simp only [hB]
      have:=allL_len m (by omega) (ks.take j)
      have h2 : m * m ≤ 100 * 100:=Nat.mul_le_mul (by omega) (by omega)
      have h3 : (ks.take j).length ≤ 6:=by rw [List.length_take]; omega
      have : (ks.take j).length * (m * m) ≤ 6 * (100 * 100):=Nat.mul_le_mul h3 h2
      omega
    have hBe : B ks.length = allL m ks:=by rw [hB]; simp
    rw [← hBe]
    clear hB
    refine N_loop (fun j : Nat=>⟨[(0,AI m),(7,.own h.length (B j).length 0 (B j).length),(18,AL ks),(19,AI ks.length),(20,AI j)],rwF h (B j),[]⟩) (fun j=>j ≤ ks.length) (fun j=>ks.length - j) 0 (by rw [hB0]; rfl) (by omega) ?_
    intro j hj
    rcases Nat.lt_or_ge j ks.length with hlt | hge
    · have hlt' : (j : Int) < (ks.length : Int) := by omega
      have wm : IntKind.i64.wrap ((j : Int) + 1) = ((j + 1 : Nat) : Int):=i64_wrap _ (by omega) (by omega)
      have hg:=map_get eI hlt
      have cz : ∀ x : Int,cutP none 0 (eI x) = some (eI x):=fun _=>rfl
      have hal:=hBl j hj
      simp only [go_sem,hlt',hlt,hg,cz]
      refine loop_a m ks[j] (B j) (.sl none (ks.map eI)) (.int .i64 ks.length) (.int .i64 j) (by omega) (by omega) (by omega) (fun R hR=>?_)
      rw [← hBs j hlt] at hR
      subst hR
      simp only [go_sem,wm]
      exact ⟨j + 1,rfl,by omega,by omega⟩
    · have hk : j = ks.length := by omega
      subst hk
      have hlt' : ¬ (ks.length : Int) < (ks.length : Int):=by omega
      have hll : ((B ks.length).map Flt.pv).length = (B ks.length).length:=List.length_map ..
      have hw : win ((B ks.length).map Flt.pv) 0 (B ks.length).length = (B ks.length).map Flt.pv:=win_full (by simp)
      simp only [go_sem,hlt']
      rw [e_q012_k7]
      by_cases h2 : 20000 < (B ks.length).length
      · have h2' : (20000 : Int) < ((B ks.length).length : Int) := by omega
        simp only [d_q012_k7,go_sem,h2,h2']
        first | done | rfl
      · have h2' : ¬ (20000 : Int) < ((B ks.length).length : Int) := by omega
        simp only [d_q012_k7,go_sem,h2,h2',hll,hw]
        first | done | rfl
  · rw [if_pos h0]
    simp only [d_q012,go_sem,↓q0,q0,h0]
    first | done | rfl
end Go.Am
end
section
/- The shortest way between two states of a test access port: a search over a queue. -/
open Go
set_option linter.all false
namespace Go.Am
variable {h : Heap} {K : Post}
attribute [-go_sem] oLook oMupd oMentry oMrange
def nxtT : List (List Nat):=[[1,0],[1,2],[3,9],[4,5],[4,5],[6,8],[6,7],[4,8],[1,2],[10,0],[11,12],[11,12],[13,15],[13,14],[11,15],[1,2]]
def nxt (s t : Nat) : Nat:=(nxtT.getD s []).getD t 0
theorem nxt_get {s t : Nat} (hs : s < 16) (ht : t < 2) : ([AI 1,AI 0,AI 1,AI 2,AI 3,AI 9,AI 4,AI 5,AI 4,AI 5,AI 6,AI 8,AI 6,AI 7,AI 4,AI 8,AI 1,AI 2,AI 10,AI 0,AI 11,AI 12,AI 11,AI 12,AI 13,AI 15,AI 13,AI 14,AI 11,AI 15,AI 1,AI 2] : List AV)[s * 2 + t * 1]? = some (AI (nxt s t)):=by
  have hs' : s = 0 ∨ s = 1 ∨ s = 2 ∨ s = 3 ∨ s = 4 ∨ s = 5 ∨ s = 6 ∨ s = 7 ∨ s = 8 ∨ s = 9 ∨ s = 10 ∨ s = 11 ∨ s = 12 ∨ s = 13 ∨ s = 14 ∨ s = 15:=by omega
  have ht' : t = 0 ∨ t = 1:=by omega
  rcases hs' with rfl | rfl | rfl | rfl | rfl | rfl | rfl | rfl | rfl | rfl | rfl | rfl | rfl | rfl | rfl | rfl <;> rcases ht' with rfl | rfl <;> rfl
theorem g_tapnext {Y : Ctx} (hY : Y.fn f_q08t = some a_q08t) (s t : Nat) (hs : s < 16) (ht : t < 2) : ACall Y f_q08t [AI s,AI t] h K = K (AI (nxt s t)) h []:=by
  refine rule ?_
  rw [call_val hY rfl (show puras h [AI s,AI t] = some ([AI s,AI t],h) from rfl) rfl,e_q08t]
  show d_q08t _ _ _ _ _ _ (finR [.t 4] false _ _)
  have g:=nxt_get hs ht
  simp only [d_q08t,go_sem,hs,ht,g]
abbrev Ways:=List (Int × List UInt8)
def keyP (n : Int) : PV:=.int .i64 n
def valP (s : List UInt8) : AV:=.p (.str s)
def bit1 (t : Nat) : List UInt8:=[UInt8.ofNat (48 + t)]
def visit (at_ t : Nat) (s : Ways × List Nat) : Ways × List Nat:=
  if (getM (nxt at_ t : Int) s.1).isSome then s else (updM (nxt at_ t : Int) ((getM (at_ : Int) s.1).getD [] ++ bit1 t) s.1,s.2 ++ [nxt at_ t])
def visits (at_ : Nat) : Nat → Ways × List Nat → Ways × List Nat
  | 0,s=>s
  | t + 1,s=>visit at_ t (visits at_ t s)
def popS (s : Ways × List Nat) : Ways × List Nat:=match s.2 with
  | []=>s
  | a :: r=>visits a 2 (s.1,r)
def bfs (a : Nat) : Nat → Ways × List Nat
  | 0=>([((a : Int),[])],[a])
  | k + 1=>popS (bfs a k)
def pathV (a b : Nat) : List UInt8:=(getM (b : Int) (bfs a 16).1).getD []
def fineS (s : Ways × List Nat) : Bool:=decide (s.1.length ≤ 16) && decide (s.2.length ≤ 16) && s.2.all (fun x=>decide (x < 16)) && s.1.all (fun e=>decide (e.2.length ≤ 16))
theorem bfs_all : (List.range 16).all (fun a=>(List.range 16).all (fun k=>fineS (bfs a k) && !(bfs a k).2.isEmpty) && fineS (bfs a 16) && (bfs a 16).2.isEmpty) = true:=by kernel_rfl
theorem bfs_fine {a k : Nat} (ha : a < 16) (hk : k < 16) : fineS (bfs a k) = true ∧ (bfs a k).2 ≠ []:=by
  have h1:=List.all_eq_true.1 bfs_all a (List.mem_range.2 ha)
  simp only [Bool.and_eq_true] at h1
  have h2:=List.all_eq_true.1 h1.1.1 k (List.mem_range.2 hk)
  simp only [Bool.and_eq_true,Bool.not_eq_true',List.isEmpty_eq_false_iff] at h2
  exact h2
theorem bfs_end {a : Nat} (ha : a < 16) : fineS (bfs a 16) = true ∧ (bfs a 16).2 = []:=by
  have h1:=List.all_eq_true.1 bfs_all a (List.mem_range.2 ha)
  simp only [Bool.and_eq_true,List.isEmpty_iff] at h1
  exact ⟨h1.1.2,h1.2⟩
theorem fine_inv {s : Ways × List Nat} (hf : fineS s = true) : s.1.length ≤ 16 ∧ s.2.length ≤ 16 ∧ (∀ x ∈ s.2,x < 16) ∧ ∀ e ∈ s.1,e.2.length ≤ 16:=by
  unfold fineS at hf
  simp only [Bool.and_eq_true,decide_eq_true_eq,List.all_eq_true] at hf
  exact ⟨hf.1.1.1,hf.1.1.2,hf.1.2,hf.2⟩
theorem lookP {hp : Heap} {id : Nat} {m : Ways} {b : Int} (hh : hp[id]? = some (mobj keyP valP m)) : oLook (none,[0]) false (.p (.str [])) (.mp id) (AI b) hp = some (.p (.str ((getM b m).getD []))):=by
  have:=look_mes (key:=keyP) (val:=valP) (fun a b=>keyI_int a b) hh (kk:=(none,[0])) (k:=b) keyOf_int (ok:=false) (z:=.p (.str []))
  rw [cond_false] at this
  refine this.trans ?_
  cases getM b m <;> rfl
theorem lookQ {hp : Heap} {id : Nat} {m : Ways} {b : Int} (hh : hp[id]? = some (mobj keyP valP m)) : oLook (none,[0]) true (.p (.str [])) (.mp id) (AI b) hp = some (.tup [.p (.str ((getM b m).getD [])),AB (getM b m).isSome]):=by
  have:=look_mes (key:=keyP) (val:=valP) (fun a b=>keyI_int a b) hh (kk:=(none,[0])) (k:=b) keyOf_int (ok:=true) (z:=.p (.str []))
  rw [cond_true] at this
  refine this.trans ?_
  cases getM b m <;> rfl
theorem updP {hp : Heap} {id : Nat} {m : Ways} {b : Int} {v : List UInt8} (hh : hp[id]? = some (mobj keyP valP m)) : oMupd (none,[0]) (.mp id) (AI b) (.p (.str v)) hp = some (.und,hp.set id (mobj keyP valP (updM b v m)),[]):=
  mupd_mes (key:=keyP) (val:=valP) (fun a b=>keyI_int a b) hh (kk:=(none,[0])) (k:=b) keyOf_int (v:=v) rfl
structure Que (R : Heap) (i : Nat) (xs : List Nat) (off : Nat) (q : List Nat) : Prop where
  get : R[i]? = some (.row none (xs.map fun n : Nat=>eI n) 0)
  le : off ≤ xs.length
  eq : xs.drop off = q
theorem nq_one {hp : Heap} {id : Nat} {xs : List Nat} {off : Nat} {n : Int} {k : AV → Heap → Esc → Prop} (hh : hp[id]? = some (.row none (xs.map fun n : Nat=>eI n) 0)) (ho : off ≤ xs.length) (hm : xs.length ≤ 1000000)
    (k1 : k (.own id (xs.length + 1) off (xs.length - off + 1)) (hp.set id (.row none (xs.map (fun n : Nat=>eI n) ++ [eI n]) 0)) [])
    (k2 : k (.own hp.length (xs.length - off + 1) 0 (xs.length - off + 1)) (hp ++ [.row none ((xs.drop off).map (fun n : Nat=>eI n) ++ [eI n]) 0]) []) :
    nqK (some none) [.own id xs.length off (xs.length - off),.p (.sl none [eI n])] hp k:=by
  have hx : xs.length - off + 1 ≤ maxSl:=by unfold maxSl; omega
  have hr : rds hp (.p (.sl none [eI n])) = some (none,[eI n]):=rfl
  have hw : win (xs.map fun n : Nat=>eI n) off (xs.length - off) = (xs.drop off).map fun n : Nat=>eI n:=by
    unfold win
    rw [← List.map_drop]
    exact List.take_of_length_le (by simp)
  unfold nqK choices appq
  simp only [hr,if_true,hh,List.length_map,List.length_cons,List.length_nil,Nat.zero_add]
  rw [if_pos ⟨trivial,trivial,by omega,hx,Nat.zero_le _⟩,hw]
  refine ⟨by simp,fun y hy=>?_⟩
  simp only [List.mem_cons,List.not_mem_nil,or_false] at hy
  rcases hy with rfl | rfl
  · exact k1
  · exact k2
theorem mem_updM {α β : Type} [DecidableEq α] {k : α} {v : β} : ∀ {l : List (α × β)} {e : α × β},e ∈ updM k v l → e ∈ l ∨ e = (k,v)
  | [],e,h=>by simp [updM] at h; exact .inr h
  | x :: r,e,h=>by
    unfold updM at h
    split at h
    · rcases List.mem_cons.1 h with h | h
      · exact .inr h
      · exact .inl (List.mem_cons_of_mem _ h)
    · rcases List.mem_cons.1 h with h | h
      · exact .inl (h ▸ List.mem_cons_self)
      · rcases mem_updM h with h | h
        · exact .inl (List.mem_cons_of_mem _ h)
        · exact .inr h
theorem getM_mem {α β : Type} [DecidableEq α] {k : α} {v : β} : ∀ {l : List (α × β)},getM k l = some v → (k,v) ∈ l
  | [],h=>by cases h
  | x :: r,h=>by
    unfold getM at h
    split at h
    · rename_i he; cases h; subst he; simp
    · exact List.mem_cons_of_mem _ (getM_mem h)
theorem ways_len {n : Nat} {w : Ways} (hw : ∀ e ∈ w,e.2.length ≤ n) (k : Int) : ((getM k w).getD []).length ≤ n:=by
  cases hg : getM k w with
  | none=>simp
  | some v=>exact hw _ (getM_mem hg)
theorem visit_len {n at_ t : Nat} {s : Ways × List Nat} (hw : ∀ e ∈ s.1,e.2.length ≤ n) : ∀ e ∈ (visit at_ t s).1,e.2.length ≤ n + 1:=by
  unfold visit
  split
  · intro e he; have:=hw e he; omega
  · intro e he
    rcases mem_updM he with h | h
    · have:=hw e h; omega
    · subst h
      have:=ways_len hw (at_ : Int)
      simp [bit1]; omega
theorem visits_len {n at_ : Nat} {s : Ways × List Nat} (hw : ∀ e ∈ s.1,e.2.length ≤ n) : ∀ (t : Nat),∀ e ∈ (visits at_ t s).1,e.2.length ≤ n + t
  | 0=>hw
  | t + 1=>visit_len (visits_len hw t)
set_option maxHeartbeats 1000000 in
theorem g_path {Y : Ctx} (hY1 : Y.fn f_q08u = some a_q08u) (hY2 : Y.fn f_q08t = some a_q08t) (a b : Nat) (ha : a < 16) (hb : b < 16) : ACall Y f_q08u [AI a,AI b] h K = K (.p (.str (pathV a b))) h []:=by
  refine rule ?_
  rw [call_val_det hY1 rfl (show puras h [AI a,AI b] = some ([AI a,AI b],h) from rfl) rfl]
  simp only [e_q08u]
  show ∃ v h' x,_ ∧ d_q08u _ _ _ _ _ _ _ _ (finR [.t 4] false _ _)
  simp only [d_q08u]
  refine ⟨_,_,_,⟨rfl,rfl,rfl⟩,?_⟩
  have em : mobj keyP valP [((a : Int),([] : List UInt8))] = .amap [⟨.int .i64 a,.p (.str []),0⟩] 1:=rfl
  have u0:=fun (hp : Heap) (hh : hp[h.length]? = some (mobj keyP valP []))=>updP (b:=(a : Int)) (v:=[]) hh
  have e0 : updM (a : Int) [] ([] : Ways) = [((a : Int),[])]:=rfl
  have em0 : mobj keyP valP ([] : Ways) = .amap [] 0:=rfl
  rw [e0] at u0
  simp only [em0] at u0
  simp only [go_sem,u0]
  refine N_loop (fun t : Nat × Heap × Nat × List Nat × Nat × Option Nat=>⟨[(1,AI b),(5,.mp h.length),(6,.own (h.length + (t.2.2.1 + 1)) t.2.2.2.1.length t.2.2.2.2.1 (t.2.2.2.1.length - t.2.2.2.2.1))] ++ (match t.2.2.2.2.2 with | none=>[] | some q=>[(7,AI q),(25,AI 2),(26,AB false)]),h ++ mobj keyP valP (bfs a t.1).1 :: t.2.1,[]⟩)
    (fun t=>t.1 ≤ 16 ∧ Que t.2.1 t.2.2.1 t.2.2.2.1 t.2.2.2.2.1 (bfs a t.1).2 ∧ t.2.2.2.1.length ≤ 1 + 2 * t.1) (fun t=>16 - t.1) (0,[.row none [eI a] 0],0,[a],0,none) (by simp [bfs]) ⟨by simp,⟨rfl,by simp,rfl⟩,by simp⟩ ?_
  rintro ⟨k,R,i,xs,off,oq⟩ ⟨h1,hq,h2⟩
  dsimp only at h1 hq h2 ⊢
  have hqg:=hq.get
  have hle:=hq.le
  have heq:=hq.eq
  have hln : xs.length - off = (bfs a k).2.length:=by rw [← heq]; simp
  by_cases hk : k < 16
  · obtain ⟨hf, hne⟩ := bfs_fine ha hk
    obtain ⟨f1,f2,f3,f4⟩:=fine_inv hf
    have hpos : 0 < xs.length - off:=by rw [hln]; exact List.length_pos_iff.2 hne
    have hoff : off < xs.length:=by omega
    obtain ⟨q0,qr,hqe⟩ : ∃ q0 qr,(bfs a k).2 = q0 :: qr:=by
      cases hb2 : (bfs a k).2 with
      | nil=>exact absurd hb2 hne
      | cons x y=>exact ⟨x,y,rfl⟩
    have hx0 : xs[off]? = some q0:=by
      have : (xs.drop off)[0]? = some q0:=by rw [heq,hqe]; rfl
      rwa [List.getElem?_drop,Nat.add_zero] at this
    have hdr : xs.drop (off + 1) = qr:=by
      rw [← List.drop_drop,heq,hqe]; rfl
    have hq0 : q0 < 16:=f3 q0 (by rw [hqe]; simp)
    have hgq : (xs.map fun n : Nat=>eI n)[off]? = some (eI q0):=by rw [List.getElem?_map,hx0]; rfl
    have hpi : (0 : Int) < ((xs.length - off : Nat) : Int):=by omega
    have hl1 : 1 ≤ xs.length - off:=by omega
    have hbn : bfs a (k + 1) = visits q0 2 ((bfs a k).1,qr):=by show popS _ = _; unfold popS; rw [hqe]
    have e3 : xs.length - off - 1 = xs.length - (off + 1):=by omega
    have hcond : off + (xs.length - off) ≤ xs.length:=by omega
    have hNL : ∀ (e : List (Nat × AV)),prune (some [1,5,6,7,25]) e = prune (some [1,5,6,7,25]) e:=fun _=>rfl
    rcases oq with _ | oq
    all_goals
    simp only [List.append_nil,List.cons_append,List.nil_append,go_sem,List.getElem?_cons_succ,hqg,hpi,hpos,hgq,hl1,hcond]
    all_goals
    clear u0 em em0 e0
    generalize hw0 : ((bfs a k).1,qr) = s0 at *
    have es1 : (bfs a k).1 = s0.1:=by rw [← hw0]
    have es2 : qr = s0.2:=by rw [← hw0]
    rw [es1,e3]
    refine N_loop (fun t : Nat × Heap × Nat × List Nat × Nat=>⟨[(1,AI b),(5,.mp h.length),(6,.own (h.length + (t.2.2.1 + 1)) t.2.2.2.1.length t.2.2.2.2 (t.2.2.2.1.length - t.2.2.2.2)),(7,AI q0),(25,AI t.1)],h ++ mobj keyP valP (visits q0 t.1 s0).1 :: t.2.1,[]⟩)
      (fun t=>t.1 ≤ 2 ∧ Que t.2.1 t.2.2.1 t.2.2.2.1 t.2.2.2.2 (visits q0 t.1 s0).2 ∧ t.2.2.2.1.length ≤ 1 + 2 * k + t.1) (fun t=>2 - t.1) (0,R,i,xs,off + 1) rfl ⟨by simp,⟨hqg,hoff,by rw [hdr,es2]; rfl⟩,by simp; omega⟩ ?_
    rintro ⟨j,R',i',ys,of'⟩ ⟨j1,jq,j2⟩
    dsimp only at j1 jq j2 ⊢
    have jg:=jq.get
    have jle:=jq.le
    have jeq:=jq.eq
    by_cases hj : j < 2
    · have hji : (j : Int) < 2 := by omega
      have qn:=fun h K=>g_tapnext (h:=h) (K:=K) hY2 q0 j hq0 hj
      have hvis : visits q0 (j + 1) s0 = visit q0 j (visits q0 j s0):=rfl
      generalize hsj : visits q0 j s0 = s at *
      have lq:=fun (hp : Heap) (hh : hp[h.length]? = some (mobj keyP valP s.1))=>lookQ (b:=(nxt q0 j : Int)) hh
      have lp:=fun (hp : Heap) (hh : hp[h.length]? = some (mobj keyP valP s.1))=>lookP (b:=(q0 : Int)) hh
      have up:=fun (hp : Heap) (v : List UInt8) (hh : hp[h.length]? = some (mobj keyP valP s.1))=>updP (b:=(nxt q0 j : Int)) (v:=v) hh
      have w1 : IntKind.i64.wrap ((j : Int) + 1) = ((j + 1 : Nat) : Int):=i64_wrap _ (by omega) (by omega)
      cases hs : (getM (nxt q0 j : Int) s.1).isSome with
      | true=>
        have hv : visit q0 j s = s:=by unfold visit; rw [if_pos hs]
        rw [hv] at hvis
        simp only [go_sem,hji,↓qn,qn,lq,hs,w1]
        exact ⟨(j + 1,R',i',ys,of'),by dsimp only; rw [hvis],⟨by dsimp only; omega,by dsimp only; rw [hvis]; exact jq,by dsimp only; omega⟩,by dsimp only; omega⟩
      | false=>
        have hv : visit q0 j s = (updM (nxt q0 j : Int) ((getM (q0 : Int) s.1).getD [] ++ bit1 j) s.1,s.2 ++ [nxt q0 j]):=by unfold visit; rw [hs]; rfl
        rw [hv] at hvis
        have w2 : IntKind.i64.wrap (48 + (j : Int)) = ((48 + j : Nat) : Int):=i64_wrap _ (by omega) (by omega)
        have w3 : IntKind.i32.wrap ((48 + j : Nat) : Int) = ((48 + j : Nat) : Int):=by
          have : j = 0 ∨ j = 1:=by omega
          rcases this with rfl | rfl <;> rfl
        have w4 : (0 : Int) ≤ ((48 + j : Nat) : Int) ∧ ((48 + j : Nat) : Int) < 128:=by omega
        have hln2:=ways_len (visits_len (n:=16) (at_:=q0) (s:=s0) (by rw [← es1]; exact f4) j) (q0 : Int)
        rw [hsj] at hln2
        have w5 : ((getM (q0 : Int) s.1).getD []).length + (bit1 j).length ≤ maxStr:=by have : (bit1 j).length = 1:=rfl; unfold maxStr; omega
        have w6 : [UInt8.ofNat ((48 + j : Nat) : Int).toNat] = bit1 j:=rfl
        simp only [go_sem,hji,↓qn,qn,lq,hs,lp,up,w1,w2,w3,w4,w5,w6]
        have hh1 : (h ++ mobj keyP valP (updM (nxt q0 j : Int) ((getM (q0 : Int) s.1).getD [] ++ bit1 j) s.1) :: R')[h.length + (i' + 1)]? = some (.row none (ys.map fun n : Nat=>eI n) 0):=by
          rw [List.getElem?_append_right (by omega)]; simpa using jg
        have hi' : i' < R'.length:=lt_of_get jg
        refine nq_one hh1 jle (by omega) ?_ ?_
        · refine ⟨(j + 1, R'.set i' (.row none (ys.map (fun n : Nat => eI n) ++ [eI (nxt q0 j)]) 0), i', ys ++ [nxt q0 j], of'), ?_, ⟨by dsimp only; omega, ⟨?_, ?_, ?_⟩, ?_⟩, by dsimp only; omega⟩
          · dsimp only
            rw [hvis,List.set_append_right _ _ (by omega)]
            simp only [List.length_append,List.length_cons,List.length_nil,Nat.add_sub_cancel_left,List.set_cons_succ]
            rw [show ys.length + 1 - of' = ys.length - of' + 1 by omega]
          · dsimp only
            rw [List.getElem?_set_self hi']; simp
          · simp; omega
          · dsimp only
            rw [hvis,List.drop_append_of_le_length jle,jeq]
          · simp; omega
        · refine ⟨(j + 1, R' ++ [.row none ((ys.drop of').map (fun n : Nat => eI n) ++ [eI (nxt q0 j)]) 0], R'.length, ys.drop of' ++ [nxt q0 j], 0), ?_, ⟨by dsimp only; omega, ⟨?_, ?_, ?_⟩, ?_⟩, by dsimp only; omega⟩
          · dsimp only
            rw [hvis]
            simp
          · simp
          · simp
          · dsimp only
            rw [hvis,jeq,List.drop_zero]
          · simp; omega
    · have hj2 : j = 2 := by omega
      subst hj2
      simp only [go_sem]
      refine ⟨(k + 1,R',i',ys,of',some q0),?_,⟨by dsimp only; omega,by dsimp only; rw [hbn]; exact jq,by dsimp only; omega⟩,by dsimp only; omega⟩
      dsimp only
      rw [hbn]
  · have hk16 : k = 16 := by omega
    subst hk16
    obtain ⟨_,hne⟩:=bfs_end ha
    have hz : xs.length - off = 0:=by rw [hln,hne]; rfl
    have lk:=fun (hp : Heap) (hh : hp[h.length]? = some (mobj keyP valP (bfs a 16).1))=>lookP (b:=(b : Int)) hh
    have hpv : (getM (b : Int) (bfs a 16).1).getD [] = pathV a b:=rfl
    rcases oq with _ | oq <;> simp only [List.append_nil,List.cons_append,List.nil_append,go_sem,hz,lk,hpv]
end Go.Am
end
section
/- ready: a closed call,computed. -/
open Go
set_option linter.all false
namespace Go.Am
def orcP (f : Nat) (a : List AV) : Option AV:=bif Nat.beq f f_q08u then match a with
  | [.p (.int .i64 x),.p (.int .i64 y)]=>bif decide (0 ≤ x) && decide (x < 16) && decide (0 ≤ y) && decide (y < 16) then some (.p (.str (pathV x.toNat y.toNat))) else none
  | _=>none else none
theorem orcP_ok : ∀ f a v,orcP f a = some v → ∀ h (K : Post),K v h [] → ACall X0 f a h K:=by
  intro f a v hv h K hK
  unfold orcP at hv
  cases hf : Nat.beq f f_q08u with
  | false=>rw [hf] at hv; cases hv
  | true=>
    have hf':=Nat.eq_of_beq_eq_true hf
    rw [hf] at hv
    subst hf'
    simp only [cond_true] at hv
    split at hv
    · rename_i x y
      cases hc : (decide (0 ≤ x) && decide (x < 16) && decide (0 ≤ y) && decide (y < 16)) with
      | false=>rw [hc] at hv; cases hv
      | true=>
        rw [hc] at hv
        simp only [cond_true,Option.some.injEq] at hv
        simp only [Bool.and_eq_true,decide_eq_true_eq] at hc
        obtain ⟨a,rfl⟩:=Int.eq_ofNat_of_zero_le hc.1.1.1
        obtain ⟨b,rfl⟩:=Int.eq_ofNat_of_zero_le hc.1.2
        have:=g_path (h:=h) (K:=K) x0_tap_path x0_tap_next a b (by omega) (by omega)
        rw [this]
        subst hv
        exact hK
    · cases hv
theorem ready_ev : evCallO X0 orcP 1000 60 f_q03f [] [] = some (AB true,[],[]):=by kernel_rfl
theorem ready_true : ACall X0 f_q03f [] [] fun v h x=>v = AB true ∧ h = [] ∧ x = []:=(ACall_evO orcP_ok 1000 60 ready_ev _).2 ⟨rfl,rfl,rfl⟩
theorem s_ready {h : Heap} {K : Post} : ACall X f_q03f [] h K = K (AB true) h []:=lib_call (by kernel_rfl) rfl
end Go.Am
end
section
/- What all laws of the keep package use. -/
open Go
set_option linter.all false
namespace Go.Am
variable {h : Heap} {K : Post}
theorem s_errsK (l : List Int) (hl : l.length ≤ 1000) : ACall X f_q03e [AL l] h K = K (AI (firstErr l)) h []:=by
  refine rule ?_
  rw [c_q03e rfl]
  simp only [d_q03e,go_sem]
  refine N_loop (fun k : Nat=>⟨[(5,AL l),(6,AI l.length),(7,AI k)],h,[]⟩) (fun k=>k ≤ l.length ∧ firstErr (l.drop k) = firstErr l) (fun k=>l.length - k) 0 rfl (by simp) ?_
  rintro k ⟨hk,hp⟩
  rcases Nat.lt_or_ge k l.length with hlt | hge
  · have hg := map_get eI hlt
    have w2 : IntKind.i64.wrap ((k : Int) + 1) = ((k + 1 : Nat) : Int):=i64_wrap _ (by omega) (by omega)
    rw [List.drop_eq_getElem_cons hlt,firstErr] at hp
    by_cases he : l[k] = 0
    · rw [if_pos he] at hp
      simp only [go_sem,hlt,hg,w2,he]
      exact ⟨k + 1,rfl,⟨by omega,hp⟩,by omega⟩
    · rw [if_neg he] at hp
      simp only [go_sem,hlt,hg,w2,he]
      rw [hp]
  · have e1 : k = l.length := by omega
    subst e1
    simp only [go_sem,Nat.lt_irrefl]
    rw [List.drop_length] at hp
    rw [← hp]; rfl
end Go.Am
end
section
/- A fault among faults: printed by program. -/
open Go
set_option linter.unusedSimpArgs false
namespace Go.Am
attribute [-go_sem] PV.cells splice
variable {h : Heap} {K : Post}
theorem ContainsFunc_Fault {g : Nat} {caps : List AV} {p : PV → Bool} {xs : List PV} (hp : Tells g caps p xs h) (hs : shps (some 2) xs) (hl : xs.length ≤ 1000000000) :
    ACall X f_q05n [.p (.sl (some 2) xs),.fn g caps] h K = K (AB (xs.any p)) h []:=by
  refine rule ?_
  rw [c_q05n]
  have vi:=fun K=>IndexFunc_Fault (h:=h) (K:=K) (shows_sl hs) hp hl
  simp only [d_q05n,go_sem,vi,idxP_any]
end Go.Am
end
section
/- AllFaultsAreRight returns true. -/
open Go
set_option linter.all false
set_option maxRecDepth 100000
namespace Go.Am
variable {h : Heap} {K : Post}
attribute [-go_sem] e_q039_k4 e_q039_k5
theorem faultLines_0 (fs : List Flt) : faultLines fs = ((fs.map faultLine0).map fun l=>l ++ [10]).flatten:=by
  unfold faultLines
  rw [List.map_map]
  congr 1
  refine List.map_congr_left fun f _=>?_
  unfold faultLine faultLine0
  simp
theorem rd_written {fs : List Flt} {n : Int} (h : ∀ f ∈ fs,fltF n f = 0) : rdT readP (faultLines fs) = ((0,true),fs):=by
  obtain ⟨e1,e2⟩:=lns_lines (ls:=fs.map faultLine0) (fun l hl=>by obtain ⟨f,_,rfl⟩:=List.mem_map.1 hl; exact faultLine_no10 f)
  unfold rdT
  rw [faultLines_0,e1,e2]
  have:=read_lines fs 0 [] (fun f hf=>by
    obtain ⟨q1,q2,q3,q4,q5,q6⟩:=fltF_ok (h f hf)
    have hn : n ≤ 100:=by
      have:=h f hf
      unfold fltF at this
      split at this
      · cases this
      · omega
    exact readP_line f q1 q4 q5 (fun x hx=>by have:=q3 x hx; omega))
  exact this
theorem flts_zero {n : Int} : ∀ {fs : List Flt},(∀ f ∈ fs,fltF n f = 0) → fltsF n fs = 0
  | [],_=>rfl
  | f :: r,h=>by
    unfold fltsF
    rw [if_neg (by simp [h f (by simp)])]
    exact flts_zero fun g hg=>h g (by simp [hg])
theorem fr_written {fs : List Flt} {n : Int} (h1 : 1 ≤ n) (h2 : n ≤ 100) (hl : fs.length ≤ 20000) (ht : (faultLines fs).length ≤ 200000) (h : ∀ f ∈ fs,fltF n f = 0) : frV readP n (faultLines fs) = (fs,0,0):=by
  unfold frV
  rw [rd_written h]
  rw [if_neg (by omega),if_neg (by omega),if_neg (by simp),if_neg (by dsimp only; omega),if_neg (by simp [flts_zero h])]
theorem law_AF (L : List Int) {K : Post} : ACall X f_q039 [AL L] [] K = K (AB true) [] []:=by
  refine rule ?_
  rw [c_q039 rfl]
  have p00 : posN 0 0:=by unfold posN; omega
  obtain ⟨r1,r2⟩:=rangeV_bd (u:=1) (v:=5) L 0 (by omega) (by omega)
  generalize hn : rangeV 1 5 L 0 = n at *
  obtain ⟨m,rfl⟩:=Int.eq_ofNat_of_zero_le (show 0 ≤ n by omega)
  simp only [d_q039,go_sem,p00,hn]
  refine N_loop (fun y : Nat × List Int=>⟨[(3,.ref 0 0),(4,AI m),(5,.own 1 y.2.length 0 y.2.length),(6,AI (y.1 + 1 : Nat))],[strm L (y.1 + 1 : Nat),.row none (y.2.map eI) 0],[]⟩) (fun y=>y.1 ≤ 6 ∧ y.2.length ≤ y.1 ∧ Kinds y.2 ∧ ∀ k ∈ y.2,k ≤ (y.1 : Int)) (fun y=>6 - y.1) (0,[]) rfl ⟨by simp,by simp,⟨List.Pairwise.nil,by simp⟩,by simp⟩ ?_
  rintro ⟨j,ks⟩ ⟨k1,k2,k3,k4⟩
  dsimp only at k1 k2 k3 k4 ⊢
  rcases Nat.lt_or_ge j 6 with hlt | hge
  · have hlt' : ((j + 1 : Nat) : Int) ≤ 6 := by omega
    have pj : posN 0 ((j + 1 : Nat) : Int):=by unfold posN; omega
    have wj : IntKind.i64.wrap (((j + 1 : Nat) : Int) + 1) = ((j + 1 + 1 : Nat) : Int):=i64_wrap _ (by omega) (by omega)
    have hm1 : ks.length + 1 ≤ maxSl:=by unfold maxSl; omega
    have hll : (ks.map eI).length = ks.length:=List.length_map ..
    by_cases hf : nextV L ((j + 1 : Nat) : Int) 2 = 0
    · simp only [go_sem, hlt', pj, hf, hm1, hll, wj]
      refine ⟨(j + 1,ks ++ [((j + 1 : Nat) : Int)]),?_,⟨by dsimp only; omega,by simp; omega,⟨?_,fun k hk=>?_⟩,fun k hk=>?_⟩,by dsimp only; omega⟩
      · simp only [List.length_append,List.map_append]; rfl
      · refine List.pairwise_append.2 ⟨k3.inc, by simp, fun x hx y hy => ?_⟩
        rw [List.mem_singleton.1 hy]
        have:=k4 x hx
        omega
      · rcases List.mem_append.1 hk with hk | hk
        · exact k3.bd k hk
        · rw [List.mem_singleton.1 hk]; omega
      · rcases List.mem_append.1 hk with hk | hk
        · have:=k4 k hk; dsimp only; omega
        · rw [List.mem_singleton.1 hk]; dsimp only; omega
    · simp only [go_sem, hlt', pj, hf, wj]
      exact ⟨(j + 1,ks),rfl,⟨by dsimp only; omega,by dsimp only; omega,k3,fun k hk=>by have:=k4 k hk; dsimp only; omega⟩,by dsimp only; omega⟩
  · have hj : j = 6 := by omega
    subst hj
    have hlt' : ¬ ((6 + 1 : Nat) : Int) ≤ 6:=by omega
    simp only [go_sem,hlt']
    rw [e_q039_k5]
    have hm5 : 1 ≤ m ∧ m ≤ 5:=by omega
    have hkf : kindsF m ks = 0:=by
      unfold kindsF
      rw [if_neg (by omega),if_neg (by omega)]
      exact kinds_R none ks k3 (fun _ _=>rfl)
    have hal:=allL_len m (by omega) ks
    have hmm : m * m ≤ 5 * 5:=Nat.mul_le_mul hm5.2 hm5.2
    have hal2 : ks.length * (m * m) ≤ 6 * (5 * 5):=Nat.mul_le_mul k2 hmm
    have hav : allV m ks = (allL m ks,0):=by
      unfold allV
      rw [if_neg (by simp [hkf]),Int.toNat_natCast,if_neg (by omega)]
    have hr:=fun f (hf : f ∈ allL m ks)=>all_right hm5.1 (by omega) k3 m (Nat.le_refl _) (by omega) hf
    have hr100:=fun f (hf : f ∈ allL m ks)=>(all_right hm5.1 (by omega) k3 100 (by omega) (by omega) hf).1
    have hnd:=all_nodup (n:=m) k3
    have hso:=fun h=>all_some (n:=m) (ks:=ks) h
    have A1 : ∀ (o : Obj) (z : Nat) (K : Post),ACall X f_q012 [AI m,.own 1 ks.length 0 ks.length] [o,.row none (ks.map eI) z] K = K (.tup [AFlt (allL m ks),AI 0]) [o,.row none (ks.map eI) (max z ks.length)] []:=fun o z K=>by
      have:=own_arg2 (K:=K) (f:=f_q012) (F:=a_q012) (id:=1) (fz:=z) (sh:=none) (xs:=ks.map eI) (v:=.int .i64 m) (h:=[o,.row none (ks.map eI) z]) x_q012 rfl rfl rfl
      rw [List.length_map] at this
      rw [this]
      have q:=s_All (h:=[o,.row none (ks.map eI) (max z ks.length)]) (K:=K) m ks (by omega)
      rw [hav] at q
      exact q
    generalize allL m ks = fs at *
    have hfl : (faultLines fs).length ≤ 200000:=by
      have:=faultLines_len 6 fs (fun f hf=>by obtain ⟨q1,q2,q3,_⟩:=fltF_ok (hr f hf).1; exact ⟨q2,fun x hx=>by have:=q3 x hx; omega⟩)
      omega
    have htx : textF fs = 0:=by
      unfold textF
      have e : fltsF 100 fs = 0:=flts_zero hr100
      rw [if_neg (by omega),if_neg (by simp [e]),if_neg (by omega)]
    have T1:=fun h K=>s_FaultText (h:=h) (K:=K) fs (by omega) (fun f hf=>by obtain ⟨_,q,_⟩:=fltF_ok (hr f hf).1; omega) (by omega)
    rw [htx,if_pos rfl] at T1
    have R1:=fun h K=>s_FaultRead (h:=h) (K:=K) m (faultLines fs) (by omega) (by omega)
    rw [fr_written (by omega) (by omega) (by omega) hfl (fun f hf=>(hr f hf).1)] at R1
    have E1 : ∀ (h : Heap) (K : Post),ACall X f_q03e [.p (.sl none [.int .i64 0,.int .i64 0,.int .i64 0])] h K = K (AI 0) h []:=fun h K=>s_errsK [0,0,0] (by simp)
    have Q1:=fun h K=>s_EqualFuncF (h:=h) (K:=K) fs fs (by omega) (fun f hf=>by obtain ⟨_,q,_⟩:=fltF_ok (hr f hf).1; omega)
    rw [decide_eq_true rfl] at Q1
    simp only [d_q039_k5,go_sem,↓A1,A1,↓T1,T1,↓R1,R1,↓E1,E1,↓Q1,Q1]
    refine N_loop (fun i : Nat=>⟨[(4,AI m),(5,.own 1 ks.length 0 ks.length),(7,AFlt fs),(61,AFlt fs),(62,AI fs.length),(63,AI i)],[strm L 7,.row none (ks.map eI) ks.length],[]⟩) (fun i=>i ≤ fs.length) (fun i=>fs.length - i) 0 rfl (by omega) ?_
    intro i hi
    rcases Nat.lt_or_ge i fs.length with hlt | hge
    · have hlt' : (i : Int) < (fs.length : Int) := by omega
      have hg:=map_get Flt.pv hlt
      have wi : IntKind.i64.wrap ((i : Int) + 1) = ((i + 1 : Nat) : Int):=i64_wrap _ (by omega) (by omega)
      have hmm:=List.getElem_mem hlt
      obtain ⟨hr1,hr2⟩:=hr _ hmm
      have e:=fun h K=>s_CheckFault (h:=h) (K:=K) m fs[i] (by omega) (by obtain ⟨_,q,_⟩:=fltF_ok hr1; omega)
      rw [hr1] at e
      have cx:=flt_cut (f:=fs[i])
      have C1 : ∀ (t : Heap) (x : Int) (K : Post),ACall X f_q05q [.own 1 ks.length 0 ks.length,AI x] (strm L 7 :: .row none (ks.map eI) ks.length :: t) K = K (AB (ks.contains x)) (strm L 7 :: .row none (ks.map eI) ks.length :: t) []:=fun t x K=>
        ContainsI ks (fun h' hh=>by
          have:=shows_own (sh:=none) (id:=1) (off:=0) (len:=ks.length) (fz:=ks.length) (xs:=ks.map eI) (h:=h') shps_eI (by rw [hh]; rfl) (by simp)
          rwa [List.length_map,show win (ks.map eI) 0 ks.length = ks.map eI from win_full (by simp)] at this) x (by omega)
      have hwt : win (fs.map Flt.pv) 0 i = (fs.take i).map Flt.pv:=by unfold win; rw [List.drop_zero,List.map_take]
      have hni : fs[i] ∉ fs.take i:=by
        intro hm
        obtain ⟨j,hj,e⟩:=List.mem_take_iff_getElem.1 hm
        have hji : j < i:=by omega
        have:=List.nodup_iff_pairwise_ne.1 hnd
        have:=List.pairwise_iff_getElem.1 this j i (by omega) hlt hji
        exact this e
      obtain ⟨H2,hH2⟩ : ∃ H2 : Heap,H2 = [strm L 7,.row none (ks.map eI) ks.length,.box [.p (eI fs[i].kind),.p (.sl none (fs[i].nets.map eI))]]:=⟨_,rfl⟩
      have F1 : ∀ (K : Post),ACall X f_q05n [.p (.sl (some 2) ((fs.take i).map Flt.pv)),.fn f_q03a [.ref 2 0]] H2 K = K (AB false) H2 []:=fun K=>by
        have q:=ContainsFunc_Fault (h:=H2) (K:=K) (g:=f_q03a) (caps:=[.ref 2 0]) (p:=fun x=>decide (fs[i] = unFlt x)) (xs:=(fs.take i).map Flt.pv) (fun x hx K=>by
          obtain ⟨y,hy,rfl⟩:=List.mem_map.1 hx
          show ACall X _ _ _ K = K (AB (decide (fs[i] = unFlt y.pv))) _ []
          rw [unFlt_pv]
          have hy' : fltF m y = 0:=(hr y (List.mem_of_mem_take hy)).1
          have S:=fun h K=>s_SameFault (h:=h) (K:=K) fs[i] y (by obtain ⟨_,q,_⟩:=fltF_ok hr1; omega)
          have fy : Flt.pv y = .agg [eI y.kind,.sl none (y.nets.map eI)]:=rfl
          have fx : Flt.pv fs[i] = .agg [eI fs[i].kind,.sl none (fs[i].nets.map eI)]:=rfl
          rw [fx,fy] at S
          rw [fy,hH2]
          refine rule ?_
          rw [c_q03a rfl]
          simp only [d_q03a,go_sem,↓S,S]
          first | done | exact ⟨rfl,rfl,rfl⟩ | trace_state) fltPs (by simp; omega)
        rw [q]
        have : ((fs.take i).map Flt.pv).any (fun x=>decide (fs[i] = unFlt x)) = false:=by
          rw [List.any_map,← Bool.not_eq_true,List.any_eq_true]
          rintro ⟨y,hy,he⟩
          simp only [Function.comp,unFlt_pv,decide_eq_true_eq] at he
          exact hni (he ▸ hy)
        rw [this]
      rw [hH2] at F1
      simp only [Flt.pv] at hg cx e
      have hile : i ≤ fs.length:=hi
      simp only [go_sem,hlt',hlt,hg,cx,↓e,e,↓C1,C1,hr2,hile,hwt,wi,↓F1,F1]
      exact ⟨i + 1,rfl,by omega,by omega⟩
    · have hk : i = fs.length := by omega
      subst hk
      have hlt' : ¬ (fs.length : Int) < (fs.length : Int):=by omega
      simp only [go_sem,hlt']
      rw [e_q039_k4]
      by_cases c1 : (ks.length : Int) = 0
      · simp only [d_q039_k4,go_sem,c1,s_ready]
      · by_cases c2 : (m : Int) = 1
        · simp only [d_q039_k4,go_sem,c1,c2,s_ready]
        · have c3 : (0 : Int) < (fs.length : Int):=by
            have:=hso (by intro e; rw [e] at c1; simp at c1) (by omega)
            omega
          simp only [d_q039_k4,go_sem,c1,c2,c3,s_ready]
end Go.Am
end
section
/- From a law that is true here to the model's calls at what came in. -/
open Go
namespace Go.Am
variable {P : Program}
theorem law_nil {X : Ctx} (HX : Fits P X) {f : Nat} {F : AFun} (hF : X.fn f = some F) (H : ∀ L : List Int,ACall X f [pints L] [] fun v _ _=>v = .p (.bool true)) (W : World) (hG : GInv X.gl (imm [] [] W)) :
    Calls P f #[.slice none 0 0] W fun e W'=>e = .returned (.bool true) ∧ RowKit.Below W.heap.size W W':=by
  refine (calls_of HX hF (H []) (W:=W) (vs:=[.slice none 0 0]) hG rfl (fun j y v hy hv=>?_)).mono fun e W' he=>?_
  · cases j with
    | zero=>cases hy; cases hv; exact came_nil W
    | succ j=>cases hy
  · cases e with
    | returned r=>
      obtain ⟨⟨v,h,x,μ,hk,hr⟩,hb⟩:=he
      subst hk
      exact ⟨by rw [hr.p_bool],hb⟩
    | panicked _=>exact he.elim
    | outgrown=>exact he.elim
theorem law_ints {X : Ctx} (HX : Fits P X) {f : Nat} {F : AFun} (hF : X.fn f = some F) (H : ∀ L : List Int,ACall X f [pints L] [] fun v _ _=>v = .p (.bool true)) {W : World} (hG : GInv X.gl (imm [] [] W)) {a : Addr} {len cap : Nat} {zs : List Int}
    (hl : len ≤ cap) (hz : len ≤ zs.length) (hc : ∀ i,i < zs.length → W.cell? (a.add i) = some (.int .i64 (zs.getD i 0))) :
    Calls P f #[.slice (some a) len cap] W fun e W'=>e = .returned (.bool true) ∧ RowKit.Below W.heap.size W W':=by
  refine (calls_of HX hF (H (zs.take len)) (W:=W) (vs:=[.slice (some a) len cap]) hG rfl (fun j y v hy hv=>?_)).mono fun e W' he=>?_
  · cases j with
    | zero=>
      cases hy; cases hv
      rcases Nat.eq_zero_or_pos len with h0 | h0
      · subst h0
        exact .p _ _ (.nils _ _ _)
      · exact came_ints (by simpa [Addr.add] using World.cell?_spot (hc 0 (by omega))) hl hz hc
    | succ j=>cases hy
  · cases e with
    | returned r=>
      obtain ⟨⟨v,h,x,μ,hk,hr⟩,hb⟩:=he
      subst hk
      exact ⟨by rw [hr.p_bool],hb⟩
    | panicked _=>exact he.elim
    | outgrown=>exact he.elim
end Go.Am
namespace Go.ChangeShapes
open Go.RowKit Go.WideShapes
section
variable {H : Type} {enc : TypeId × Value → H} {P : Program}
end
end Go.ChangeShapes
end
section
/- The abstract machine,part L2: the kit's contracts asv rows. -/
set_option linter.unusedSimpArgs false
set_option linter.unusedVariables false
namespace Go.Am
variable {P : Program} {gl : Nat → Option PV}
open Go.Shelf
theorem lib_dec : ∀ n : Nat,Go.Lib.decDigits n = decN n:=by
  intro n
  induction n using Nat.strongRecOn with
  | _ n ih=>
    rw [Go.Lib.decDigits,decN]
    split
    · rfl
    · rw [ih _ (by omega)]; rfl
theorem lib_itoa (n : Int) : Go.Lib.itoa n = itoa n:=by
  unfold Go.Lib.itoa itoa
  split
  · rw [lib_dec]
  · rw [lib_dec]; congr 1; omega
theorem tab_of {M : Mem} {w : World} {g : Nat} {name : String} {k : IntKind} {zs : List Int} (hn : P.globalNamed name = some g) (hg : gl g = some (.agg (zs.map (PV.int k)))) (hc : ∀ b o v,M.c b o = some v → w.cell? ⟨b,o,none⟩ = some v) (hb : ∀ b o,M.b b = some o → w.heap[b]? = some o) (hG : GInv gl M) :
    Go.Lib.TabIs P w name k zs:=by
  obtain ⟨hv,cs,t,x,h2,h3⟩:=hG g _ hg
  have h4:=hb _ _ h2
  unfold Go.Lib.TabIs World.var?
  rw [hn]
  simp only [Option.bind_some,h4,Option.some.injEq]
  simp only [PV.cells,List.length_map] at h3
  apply Array.ext
  · simpa using h3
  · intro i hi1 hi2
    have hi : i < zs.length:=by omega
    cases hv with
    | vp _ _ _ f hm hr=>
      have hy : (PV.agg (zs.map (PV.int k))).cells[i]? = some (.int k zs[i]):=by simp [PV.cells,hi]
      have q1:=hc _ _ _ (hm i _ hy)
      have q2:=hr i _ hy
      have q3 : f i = .int k zs[i]:=by
        generalize f i = u at q2
        cases q2; rfl
      rw [q3] at q1
      have q4 : cs[i]? = some (.int k zs[i]):=by simpa [World.cell?,h4] using q1
      rw [Array.getElem?_eq_getElem hi1] at q4
      simpa using q4
theorem ginv_tab {W : World} {g : Nat} {name : String} {k : IntKind} {zs : List Int} {v : PV} (hn : P.globalNamed name = some g) (ht : Go.Lib.TabIs P W name k zs) (hv : v = .agg (zs.map (PV.int k))) : GInv (glOf [(g,v)]) (imm [] [] W):=by
  intro n v' hv'
  unfold glOf at hv'
  cases hq : Nat.beq n g with
  | false=>rw [hq] at hv'; cases hv'
  | true=>
    rw [hq] at hv'
    have e:=Nat.eq_of_beq_eq_true hq
    subst e
    simp only [cond_true,Option.some.injEq] at hv'
    subst hv'
    subst hv
    unfold Go.Lib.TabIs World.var? at ht
    rw [hn] at ht
    simp only [Option.bind_some] at ht
    cases hb : W.heap[n]? with
    | none=>rw [hb] at ht; cases ht
    | some o=>
      rw [hb] at ht
      cases o with
      | cells cs t x=>
        simp only [Option.some.injEq] at ht
        refine ⟨.vp _ n 0 (fun j=>(zs.map fun z=>Value.int k z).getD j undef) (fun j y hy=>?_) (fun j y hy=>?_),cs,t,x,imm0_blk hb,by rw [ht]; simp [PV.cells]⟩
        · have hj : j < zs.length := by have := lt_of_get hy; simpa [PV.cells] using this
          refine imm0_cell ?_
          simp [World.cell?,hb,ht,hj,List.getD_eq_getElem?_getD]
        · have hj : j < zs.length := by have := lt_of_get hy; simpa [PV.cells] using this
          have e1 : y = .int k zs[j]:=by simpa [PV.cells,hj] using hy.symm
          have e2 : (zs.map fun z=>Value.int k z).getD j undef = .int k zs[j]:=by simp [List.getD_eq_getElem?_getD,hj]
          rw [e1,e2]
          exact .int k _
      | _=>cases ht
theorem grow_ext (w : World) (k : Nat) (os : Array Go.Obj) : WExt w (Go.Sort.grow (w.drewN k) os):=by
  refine ⟨?_,fun b hb=>?_,rfl⟩
  · show w.heap.size ≤ (w.heap ++ os).size
    simp
  · show (w.heap ++ os)[b]? = _
    rw [Array.getElem?_append_left hb]
theorem itoaRow {ρ : Ren} (L : Go.Proofs.LaysM.n171 P ρ) (g : Nat) (hn : P.globalNamed "internal/strconv.uint64pow10" = some g) (hg : gl g = some pow10PV) (he : ∀ us w,(callFunc (ρ.f 171) us).run P w = .ok (.enter (ρ.f 171) us) w) : PureRow P gl (ρ.f 171) itoaS where
  enter:=he
  run M w vs r us hc hb hG hl hr hs:=by
    unfold itoaS at hs
    split at hs
    · rename_i n
      match us,hl with
      | [u],_=>
        have q:=hr 0 _ u rfl rfl
        cases q
        cases hbd : (decide (-9223372036854775808 ≤ n) && decide (n ≤ 9223372036854775807)) with
        | false=>rw [hbd] at hs; cases hs
        | true=>
          rw [hbd] at hs
          simp only [cond_true,Option.some.injEq] at hs
          subst hs
          simp only [Bool.and_eq_true,decide_eq_true_eq] at hbd
          have hpw : pow10PV = .agg (Go.Lib.pow10Tab.map (PV.int .u64)):=by unfold pow10PV Go.Lib.pow10Tab; rw [List.map_map]; rfl
          rw [hpw] at hg
          refine (Go.Proofs.Any.strconv_Itoa L n hbd.1 hbd.2 w (tab_of hn hg hc hb hG)).mono fun e w' h=>?_
          obtain ⟨rfl,k,os,rfl⟩:=h
          exact ⟨_,rfl,grow_ext w k os,by rw [lib_itoa]; exact .p _ _ (.str _)⟩
    · cases hs
end Go.Am
end
section
/- The abstract machine,part L3: strconv.Atoi asv a row. -/
set_option linter.all false
namespace Go.Am
variable {P : Program} {gl : Nat → Option PV}
open Go.Shelf
theorem lib_digs : ∀ (l : List UInt8) (acc n k : Nat),digN acc l = some n → acc < 10 ^ k → l.length + k ≤ 18 → Go.Lib.parseUint10 acc l = .ok n ∧ n < 10 ^ (k + l.length)
  | [],acc,n,k,h,ha,hl=>by
    simp only [digN,Option.some.injEq] at h
    subst h
    exact ⟨rfl,by simpa using ha⟩
  | c :: r,acc,n,k,h,ha,hl=>by
    simp only [digN] at h
    split at h
    · rename_i hc
      simp only [List.length_cons] at hl ⊢
      have h18 : 10 ^ (k + 1) ≤ 10 ^ 18:=Nat.pow_le_pow_right (by omega) (by omega)
      have e18 : (10 : Nat) ^ 18 = 1000000000000000000:=rfl
      have hp : acc * 10 + (c.toNat - 48) < 10 ^ (k + 1):=by rw [Nat.pow_succ]; omega
      obtain ⟨q1,q2⟩:=lib_digs r _ n (k + 1) h hp (by omega)
      refine ⟨?_,by rw [show k + (r.length + 1) = k + 1 + r.length by omega]; exact q2⟩
      unfold Go.Lib.parseUint10
      rw [if_pos hc,if_neg (by omega),if_neg (by omega)]
      exact q1
    · cases h
theorem lib_atoi {s : List UInt8} {n : Nat} (h1 : 1 ≤ s.length) (h2 : s.length ≤ 18) (h : digN 0 s = some n) : Go.Lib.atoiAll s = .ok (n : Int):=by
  obtain ⟨q1,q2⟩:=lib_digs s 0 n 0 h (by simp) (by omega)
  have h18 : 10 ^ (0 + s.length) ≤ 10 ^ 18:=Nat.pow_le_pow_right (by omega) (by omega)
  have e18 : (10 : Nat) ^ 18 = 1000000000000000000:=rfl
  cases s with
  | nil=>simp at h1
  | cons c r=>
    have hc : 48 ≤ c.toNat ∧ c.toNat ≤ 57:=by
      simp only [digN] at h
      split at h
      · assumption
      · cases h
    unfold Go.Lib.atoiAll
    dsimp only
    rw [if_neg (by omega)]
    have hm : Go.Lib.parseMag (c :: r) = .ok n:=by unfold Go.Lib.parseMag; rw [if_neg (by simp)]; exact q1
    rw [hm]
    dsimp only
    rw [if_neg (by omega),if_neg (by omega),if_neg (by omega)]
theorem lib_atoiN {s : List UInt8} {n : Nat} (h1 : 2 ≤ s.length) (h2 : s.length ≤ 18) (h0 : s.head? = some 45) (h : digN 0 s.tail = some n) : Go.Lib.atoiAll s = .ok (-(n : Int)):=by
  cases s with
  | nil=>simp at h1
  | cons c r=>
    simp only [List.head?_cons,Option.some.injEq] at h0
    subst h0
    simp only [List.tail_cons,List.length_cons] at h h1 h2
    obtain ⟨q1,q2⟩:=lib_digs r 0 n 0 h (by simp) (by omega)
    have h18 : 10 ^ (0 + r.length) ≤ 10 ^ 18:=Nat.pow_le_pow_right (by omega) (by omega)
    have e18 : (10 : Nat) ^ 18 = 1000000000000000000:=rfl
    have hm : Go.Lib.parseMag r = .ok n:=by
      unfold Go.Lib.parseMag
      rw [if_neg (by intro e; subst e; simp at h1)]
      exact q1
    have e45 : (45 : UInt8).toNat = 45:=rfl
    unfold Go.Lib.atoiAll
    dsimp only
    rw [if_pos (Or.inr e45),hm]
    dsimp only
    rw [if_neg (by simp [e45]),if_neg (by omega),if_pos e45]
theorem bytes_ext (w : World) (e : TypeId) (t : ByteArray) : WExt w (Go.Lib.bytesWorld w e t):=
  ⟨by rw [Go.Lib.bytesWorld_size]; omega,fun b hb=>Go.Lib.bytesWorld_at_old w e t b hb,by unfold zed Go.Lib.bytesWorld World.freeze; split <;> rfl⟩
theorem atoiRow {ρ : Ren} (L : Go.Proofs.LaysC.n172 P ρ) (he : ∀ us w,(callFunc (ρ.f 172) us).run P w = .ok (.enter (ρ.f 172) us) w) : PureRow P gl (ρ.f 172) atoiS where
  enter:=he
  run M w vs r us hc hb hG hl hr hs:=by
    unfold atoiS at hs
    split at hs
    · rename_i s
      match us,hl with
      | [u],_=>
        have q:=hr 0 _ u rfl rfl
        cases q
        split at hs
        · rename_i hbd
          have hv : ∃ v : Int,Go.Lib.atoiAll s = .ok v ∧ r = .tup [.p (.int .i64 v),.nili]:=by
            split at hs
            · rename_i n hn
              simp only [Option.some.injEq] at hs
              exact ⟨_,lib_atoi hbd.1 hbd.2 hn,hs.symm⟩
            · split at hs
              · rename_i h45
                obtain ⟨n,hn,rfl⟩:=Option.map_eq_some_iff.1 hs
                exact ⟨_,lib_atoiN h45.2 hbd.2 h45.1 hn,rfl⟩
              · cases hs
          obtain ⟨n,hn,rfl⟩:=hv
          have hsz : (⟨s.toArray⟩ : ByteArray).size = s.length:=by simp [ByteArray.size]
          refine (Go.Proofs.Any.strconv_Atoi_ok L ⟨s.toArray⟩ (by rw [hsz]; omega) n hn w).mono fun e w' h=>?_
          obtain ⟨rfl,h⟩:=h
          refine ⟨_,rfl,?_,?_⟩
          · rcases h with h | ⟨t, h⟩
            · rw [h]; exact WExt.refl _
            · rw [h]; exact bytes_ext _ _ t
          · refine .tup _ [.int .i64 n, .nilIface] rfl (fun j y v h1 h2 => ?_)
            match j with
            | 0=>simp at h1 h2; subst h1; subst h2; exact .p _ _ (.int _ _)
            | 1=>simp at h1 h2; subst h1; subst h2; exact .nili
            | j + 2=>simp at h1
        · cases hs
    · cases hs
end Go.Am
end
