/- Texts of the proof, laid together: SpVec2, SpBld, SpVec12, SpVec13, SpVec14, SpVec15, SpVec3, SpFlt3, SpFlt4, SpFlt5, SpArg, SpFlt6, SpSortO, SpGenF, SpVec4, SpVec4b, SpVec4c, SpVec4d, SpVec4e, SpVec5, SpVec6, SpVec7, SpVec8, SpVec9, SpVec10, SpVec11, SpVec16, SpVec17, SpVec18. -/
import Derived.Test.YtilloflkgbfjfaaDoorlawSM7
set_option linter.all false
section
/- A command's fault on both sides. -/
open Go
set_option linter.all false
namespace Go.Am
variable {h : Heap} {K : Post}
theorem eqs6 {k s cl k' s' cl' : Int} {b w m b' w' m' : List UInt8} : eqs [.int .i64 k,.int .i64 s,.int .i64 cl,.str b,.str w,.str m] [.int .i64 k',.int .i64 s',.int .i64 cl',.str b',.str w',.str m'] = some (decide ((⟨k,s,cl,b,w,m⟩ : Cmd) = ⟨k',s',cl',b',w',m'⟩)):=by
  by_cases e1 : k = k' <;> by_cases e2 : s = s' <;> by_cases e3 : cl = cl' <;> by_cases e4 : b = b' <;> by_cases e5 : w = w' <;> by_cases e6 : m = m' <;> simp [eqs,PV.eq1,e1,e2,e3,e4,e5,e6]
def kindE (c : Cmd) : Nat:=
  if c.k = 1 ∨ c.k = 2 ∨ c.k = 10 then (if !stableB c.s then 1 else 0)
  else if c.k = 9 then (if c.cl < 0 ∨ 20000 < c.cl then 1 else 0)
  else if c.k = 7 ∨ c.k = 8 then scanF c
  else (if !bitsB c.b then 9 else if 2000 < c.b.length then 2 else 0)
def bareC (c : Cmd) : Cmd:=
  if c.k = 1 ∨ c.k = 2 ∨ c.k = 10 then { c with s:=0 }
  else if c.k = 9 then { c with cl:=0 }
  else if c.k = 7 ∨ c.k = 8 then { c with b:=[],w:=[],m:=[] }
  else { c with b:=[] }
theorem cmdF_bare {c : Cmd} (h : 1 ≤ c.k ∧ c.k ≤ 10) : cmdF c = if kindE c ≠ 0 then kindE c else if bareC c = ⟨c.k,0,0,[],[],[]⟩ then 0 else 3:=by
  obtain ⟨k,s,cl,b,w,m⟩:=c
  unfold cmdF kindE bareC
  dsimp only at h ⊢
  by_cases h1 : k = 1 ∨ k = 2 ∨ k = 10
  · simp only [if_pos h1]
    rcases stableB s with _ | _ <;> simp [Cmd.mk.injEq]
  simp only [if_neg h1]
  by_cases h2 : k = 9
  · simp only [if_pos h2]
    by_cases h3 : cl < 0 ∨ 20000 < cl <;> simp [h3,Cmd.mk.injEq]
  simp only [if_neg h2]
  by_cases h3 : k = 7 ∨ k = 8
  · simp only [if_pos h3]
    by_cases h4 : scanF ⟨k,s,cl,b,w,m⟩ = 0 <;> simp [h4,Cmd.mk.injEq]
  simp only [if_neg h3]
  rw [if_pos (by omega)]
  rcases bitsB b with _ | _
  · simp
  · by_cases h4 : 2000 < b.length <;> simp [h4,Cmd.mk.injEq]
theorem cmdF_kind {c : Cmd} (h : ¬ (1 ≤ c.k ∧ c.k ≤ 10)) : cmdF c = 4:=by
  unfold cmdF
  rw [if_neg (by omega),if_neg (by omega),if_neg (by omega),if_neg (by omega)]
theorem len2 (n : Nat) : n + 1 + 1 = n + 2:=rfl
set_option maxHeartbeats 4000000 in
theorem s_kindFault (c : Cmd) (hc : CmdOk c) : ACall X f_q02a [ACm c] h K = K (.tup [ACm (bareC c),AI (kindE c : Nat)]) h []:=by
  refine rule ?_
  rw [c_q02a rfl]
  have b1:=hc.b; have b2:=hc.w; have b3:=hc.m
  have k1:=fun (h' : Heap) (K' : Post)=>s_BitsP (h:=h') (K:=K') c.b (show c.b.length ≤ 1000000 by omega)
  have k2:=fun (h' : Heap) (K' : Post)=>s_scanF (h:=h') (K:=K') c hc
  obtain ⟨k,s,cl,b,w,m⟩:=c
  simp only at b1 b2 b3 k1 k2
  unfold kindE bareC
  dsimp only
  by_cases h1 : k = 1
  · rcases hs : stableB s with _ | _ <;> (simp only [d_q02a,go_sem,len2,h1,s_stable,hs]; simp [h1,hs])
  by_cases h2 : k = 2
  · rcases hs : stableB s with _ | _ <;> (simp only [d_q02a,go_sem,len2,h1,h2,s_stable,hs]; simp [h1,h2,hs])
  by_cases h3 : k = 10
  · rcases hs : stableB s with _ | _ <;> (simp only [d_q02a,go_sem,len2,h1,h2,h3,s_stable,hs]; simp [h1,h2,h3,hs])
  by_cases h4 : k = 9
  · by_cases g1 : cl < 0
    · (simp only [d_q02a,go_sem,len2,h1,h2,h3,h4,s_Out,g1]; simp [h1,h2,h3,h4,g1])
    · by_cases g2 : 20000 < cl
      · (simp only [d_q02a,go_sem,len2,h1,h2,h3,h4,s_Out,g1,g2]; simp [h1,h2,h3,h4,g1,g2])
      · (simp only [d_q02a,go_sem,len2,h1,h2,h3,h4,s_Out,g1,g2]; simp [h1,h2,h3,h4,g1,g2])
  by_cases h5 : k = 7
  · subst h5
    (simp only [d_q02a,go_sem,len2,s_isScan,k2]; simp [len2])
  by_cases h6 : k = 8
  · subst h6
    (simp only [d_q02a,go_sem,len2,s_isScan,k2]; simp [len2])
  rcases hb : bitsB b with _ | _
  · (simp only [d_q02a,go_sem,len2,h1,h2,h3,h4,h5,h6,s_isScan,k1,hb]; simp [h1,h2,h3,h4,h5,h6,hb])
  · by_cases h7 : 2000 < b.length
    · have h7' : (2000 : Int) < (b.length : Int) := by omega
      (simp only [d_q02a,go_sem,len2,h1,h2,h3,h4,h5,h6,s_isScan,k1,hb,h7,h7']; simp [h1,h2,h3,h4,h5,h6,hb,h7])
    · have h7' : ¬ (2000 : Int) < (b.length : Int) := by omega
      (simp only [d_q02a,go_sem,len2,h1,h2,h3,h4,h5,h6,s_isScan,k1,hb,h7,h7']; simp [h1,h2,h3,h4,h5,h6,hb,h7])
end Go.Am
end
section
/- A builder of strings. -/
open Go
set_option linter.all false
namespace Go.Am
variable {h : Heap} {K : Post}
theorem reif_nili {b : Nat} : reif b h .nili = some .nili:=by simp only [reif]
attribute [local go_sem] reif_nili
def bldB (u : Bool) (id n : Nat) : Obj:=.box [bif u then .ref id 0 else .bt 0 bldT id 0,.bt 1 bldE (id + 1) n]
theorem bldB_t (id n : Nat) : bldB true id n = .box [.ref id 0,.bt 1 bldE (id + 1) n]:=rfl
theorem bldB_f (id n : Nat) : bldB false id n = .box [.bt 0 bldT id 0,.bt 1 bldE (id + 1) n]:=rfl
theorem set_id {o : Obj} {id : Nat} (hh : h[id]? = some o) : h.set id o = h:=by
  apply List.ext_getElem?
  intro j
  by_cases e : id = j
  · subst e; rw [List.getElem?_set_self (get_lt hh),hh]
  · rw [List.getElem?_set_ne e]
theorem s_copyCheck (u : Bool) (id n : Nat) (hh : h[id]? = some (bldB u id n)) : ACall X f_q01c [.ref id 0] h K = K (.tup []) (h.set id (bldB true id n)) []:=by
  refine rule ?_
  rw [c_q01c rfl]
  cases u with
  | true=>
    rw [set_id hh]
    rw [bldB_t] at hh
    simp only [d_q01c,go_sem,hh]
  | false=>
    rw [bldB_f] at hh
    rw [bldB_t]
    simp only [bldT] at hh
    simp only [d_q01c,go_sem,hh]
theorem set_comm' {h : Heap} {i j : Nat} {a b : Obj} (e : i ≠ j) : (h.set i a).set j b = (h.set j b).set i a:=List.set_comm a b e
def Holds (h : Heap) (u : Bool) (id : Nat) (s : List UInt8) : Prop:=h[id]? = some (bldB u id s.length) ∧ h[id + 1]? = some (.row none (bytesP s) 0)
def held (h : Heap) (id : Nat) (s : List UInt8) : Heap:=(h.set id (bldB true id s.length)).set (id + 1) (.row none (bytesP s) 0)
theorem bytesP_len (s : List UInt8) : (bytesP s).length = s.length:=by simp [bytesP]
theorem bytesP_app (s t : List UInt8) : bytesP s ++ bytesP t = bytesP (s ++ t):=by simp [bytesP]
theorem s_WriteString {u : Bool} {id : Nat} {s t : List UInt8} (H : Holds h u id s) (hm : s.length + t.length ≤ 200000000000) : ACall X f_q01b [.ref id 0,AS t] h K = K (.tup [AI t.length,.nili]) (held h id (s ++ t)) []:=by
  refine rule ?_
  rw [c_q01b rfl]
  have l:=get_lt H.1
  have l2:=get_lt H.2
  have e:=fun K=>s_copyCheck (K:=K) u id s.length H.1
  have g1 : (h.set id (bldB true id s.length))[id]? = some (.box [.ref id 0,.bt 1 bldE (id + 1) s.length]):=by rw [List.getElem?_set_self l,bldB_t]
  have g2 : (h.set id (bldB true id s.length))[id + 1]? = some (.row none (bytesP s) 0):=by rw [List.getElem?_set_ne (by omega)]; exact H.2
  have g3 : ∀ o,((h.set id (bldB true id s.length)).set (id + 1) o)[id]? = some (.box [.ref id 0,.bt 1 bldE (id + 1) s.length]):=fun o=>by rw [List.getElem?_set_ne (by omega)]; exact g1
  have hl : s.length + t.length ≤ maxSl:=by unfold maxSl; omega
  simp only [bldE] at g1 g3
  simp only [d_q01b,go_sem,e,g1,g2,g3,bytesP_len,hl]
  rw [List.take_of_length_le (by simp)]
  unfold held
  rw [set_comm' (i:=id + 1) (j:=id) (by omega),List.set_set,bytesP_app,List.length_append]
  rfl
def sealedH (h : Heap) (id : Nat) (s : List UInt8) : Heap:=if s = [] then h else h.set (id + 1) (.row none (bytesP s) (s.length + 1))
theorem toBytes_bytesP (s : List UInt8) : toBytes (bytesP s) = some s:=by
  induction s with
  | nil=>rfl
  | cons a r ih=>
    have h1 : (0 : Int) ≤ (a.toNat : Int) ∧ (a.toNat : Int) < 256:=⟨by omega,by have:=a.toNat_lt; omega⟩
    have e : bytesP (a :: r) = .int .u8 a.toNat :: bytesP r:=rfl
    rw [e]
    unfold toBytes
    rw [if_pos h1,ih]
    simp
theorem s_BString {u : Bool} {id : Nat} {s : List UInt8} (H : Holds h u id s) (hm : s.length ≤ 200000000000) : ACall X f_q01a [.ref id 0] h K = K (AS s) (sealedH h id s) []:=by
  refine rule ?_
  rw [c_q01a rfl]
  have l:=get_lt H.1
  have l2:=get_lt H.2
  have g1:=H.1
  have g2:=H.2
  unfold bldB at g1
  have hl : s.length ≤ maxSl:=by unfold maxSl; omega
  unfold sealedH
  by_cases h0 : s = []
  · subst h0
    simp only [bldE,List.length_nil] at g1
    simp only [d_q01a,go_sem,g1,g2,bytesP_len,hl]
    exact if_pos rfl ▸ trivial
  · have h0' : ¬ s.length = 0 := by simpa using h0
    have h1 : 1 ≤ s.length:=by omega
    simp only [bldE] at g1
    have e0 : (0 : Int) ≤ (s.length : Int):=by omega
    simp only [d_q01a,go_sem,g1,g2,bytesP_len,hl,h0',h1,toBytes_bytesP,e0,Int.toNat_natCast,h0]
end Go.Am
end
section
/- The program: a run in the heap; a clock. -/
open Go
set_option linter.all false
namespace Go.Am
variable {h l : Heap} {K : Post} {r : Run}
attribute [-go_sem] oEqa splice
def rc (s : Sett) (st ck ni nd : Int) (a b c d e : AV) (w : Bool) : List AV:=
  [AI s.e1.k,AI s.e1.s,AI s.e1.cl,AS s.e1.b,AS s.e1.w,AS s.e1.m,AI s.e2.k,AI s.e2.s,AI s.e2.cl,AS s.e2.b,AS s.e2.w,AS s.e2.m,
   AI s.h1.k,AI s.h1.s,AI s.h1.cl,AS s.h1.b,AS s.h1.w,AS s.h1.m,AI s.t1.k,AI s.t1.s,AI s.t1.cl,AS s.t1.b,AS s.t1.w,AS s.t1.m,
   AI s.h2.k,AI s.h2.s,AI s.h2.cl,AS s.h2.b,AS s.h2.w,AS s.h2.m,AI s.t2.k,AI s.t2.s,AI s.t2.cl,AS s.t2.b,AS s.t2.w,AS s.t2.m,
   AI st,AI ck,AI ni,AI nd,a,b,c,d,e,AB w]
section
variable {s : Sett} {st ck ni nd x : Int} {a b c d e o : AV} {w : Bool}
theorem rc_len : (rc s st ck ni nd a b c d e w).length = 46:=(rfl)
theorem rc_bld : isBld (rc s st ck ni nd a b c d e w) = false:=(rfl)
theorem rc_1 : (rc s st ck ni nd a b c d e w)[1]? = some (AI s.e1.s):=(rfl)
theorem rc_7 : (rc s st ck ni nd a b c d e w)[7]? = some (AI s.e2.s):=(rfl)
theorem rc_15 : (rc s st ck ni nd a b c d e w)[15]? = some (AS s.h1.b):=(rfl)
theorem rc_21 : (rc s st ck ni nd a b c d e w)[21]? = some (AS s.t1.b):=(rfl)
theorem rc_27 : (rc s st ck ni nd a b c d e w)[27]? = some (AS s.h2.b):=(rfl)
theorem rc_33 : (rc s st ck ni nd a b c d e w)[33]? = some (AS s.t2.b):=(rfl)
theorem rc_36 : (rc s st ck ni nd a b c d e w)[36]? = some (AI st):=(rfl)
theorem rc_37 : (rc s st ck ni nd a b c d e w)[37]? = some (AI ck):=(rfl)
theorem rc_38 : (rc s st ck ni nd a b c d e w)[38]? = some (AI ni):=(rfl)
theorem rc_39 : (rc s st ck ni nd a b c d e w)[39]? = some (AI nd):=(rfl)
theorem rc_40 : (rc s st ck ni nd a b c d e w)[40]? = some a:=(rfl)
theorem rc_41 : (rc s st ck ni nd a b c d e w)[41]? = some b:=(rfl)
theorem rc_42 : (rc s st ck ni nd a b c d e w)[42]? = some c:=(rfl)
theorem rc_43 : (rc s st ck ni nd a b c d e w)[43]? = some d:=(rfl)
theorem rc_44 : (rc s st ck ni nd a b c d e w)[44]? = some e:=(rfl)
theorem rc_45 : (rc s st ck ni nd a b c d e w)[45]? = some (AB w):=(rfl)
theorem rcs_36 : splice (rc s st ck ni nd a b c d e w) 36 [AI x] = rc s x ck ni nd a b c d e w:=(rfl)
theorem rcs_37 : splice (rc s st ck ni nd a b c d e w) 37 [AI x] = rc s st x ni nd a b c d e w:=(rfl)
theorem rcs_38 : splice (rc s st ck ni nd a b c d e w) 38 [AI x] = rc s st ck x nd a b c d e w:=(rfl)
theorem rcs_39 : splice (rc s st ck ni nd a b c d e w) 39 [AI x] = rc s st ck ni x a b c d e w:=(rfl)
theorem rcs_40 : splice (rc s st ck ni nd a b c d e w) 40 [o] = rc s st ck ni nd o b c d e w:=(rfl)
theorem rcs_41 : splice (rc s st ck ni nd a b c d e w) 41 [o] = rc s st ck ni nd a o c d e w:=(rfl)
theorem rcs_42 : splice (rc s st ck ni nd a b c d e w) 42 [o] = rc s st ck ni nd a b o d e w:=(rfl)
theorem rcs_43 : splice (rc s st ck ni nd a b c d e w) 43 [o] = rc s st ck ni nd a b c o e w:=(rfl)
theorem rcs_44 : splice (rc s st ck ni nd a b c d e w) 44 [o] = rc s st ck ni nd a b c d o w:=(rfl)
variable {q : Cmd}
theorem rcs_0 : splice (rc s st ck ni nd a b c d e w) 0 [AI q.k,AI q.s,AI q.cl,AS q.b,AS q.w,AS q.m] = rc { s with e1:=q } st ck ni nd a b c d e w:=(rfl)
theorem rcs_6 : splice (rc s st ck ni nd a b c d e w) 6 [AI q.k,AI q.s,AI q.cl,AS q.b,AS q.w,AS q.m] = rc { s with e2:=q } st ck ni nd a b c d e w:=(rfl)
theorem rcs_12 : splice (rc s st ck ni nd a b c d e w) 12 [AI q.k,AI q.s,AI q.cl,AS q.b,AS q.w,AS q.m] = rc { s with h1:=q } st ck ni nd a b c d e w:=(rfl)
theorem rcs_18 : splice (rc s st ck ni nd a b c d e w) 18 [AI q.k,AI q.s,AI q.cl,AS q.b,AS q.w,AS q.m] = rc { s with t1:=q } st ck ni nd a b c d e w:=(rfl)
theorem rcs_24 : splice (rc s st ck ni nd a b c d e w) 24 [AI q.k,AI q.s,AI q.cl,AS q.b,AS q.w,AS q.m] = rc { s with h2:=q } st ck ni nd a b c d e w:=(rfl)
theorem rcs_30 : splice (rc s st ck ni nd a b c d e w) 30 [AI q.k,AI q.s,AI q.cl,AS q.b,AS q.w,AS q.m] = rc { s with t2:=q } st ck ni nd a b c d e w:=(rfl)
end
abbrev eN (n : Nat) : PV:=eI n
def rh (h : Heap) (r : Run) (l : Heap) : Heap:=h ++ .row none (r.sts.map eN) 0 :: .row none (r.frs.map eN) 0 :: .row none (bytesP r.tms) 0 :: .row none (bytesP r.tdi) 0 :: .row none (bytesP r.want) 0 ::
  .box (rc r.se r.st r.ck r.ni r.nd (.own h.length r.sts.length 0 r.sts.length) (.own (h.length + 1) r.frs.length 0 r.frs.length) (.own (h.length + 2) r.tms.length 0 r.tms.length) (.own (h.length + 3) r.tdi.length 0 r.tdi.length) (.own (h.length + 4) r.want.length 0 r.want.length) r.wr) :: l
structure RunOk (r : Run) : Prop where
  t : r.tms.length ≤ r.ck
  i : r.tdi.length ≤ r.ck
  w : r.want.length ≤ r.ck
theorem runOk_clk {L : List (UInt8 × UInt8 × UInt8)} (R : RunOk r) : RunOk (r.clk L):=by
  unfold Run.clk
  have:=R.t; have:=R.i; have:=R.w
  split <;> (refine ⟨?_,?_,?_⟩ <;> simp <;> omega)
attribute [local go_sem] rc_len rc_bld rc_1 rc_7 rc_15 rc_21 rc_27 rc_33 rc_36 rc_37 rc_38 rc_39 rc_40 rc_41 rc_42 rc_43 rc_44 rc_45 rcs_36 rcs_37 rcs_38 rcs_39 rcs_40 rcs_41 rcs_42 rcs_43 rcs_44
set_option maxHeartbeats 2000000 in
theorem s_clock (R : RunOk r) (hck : r.ck ≤ 1000000000) (a b c : UInt8) : ACall X f_q02c [.ref (h.length + 5) 0,.p (.int .u8 a.toNat),.p (.int .u8 b.toNat),.p (.int .u8 c.toNat)] (rh h r l) K = K (.tup []) (rh h (r.clk [(a,b,c)]) l) []:=by
  refine rule ?_
  rw [c_q02c rfl]
  have hr:=R.t; have:=R.i; have:=R.w
  have w1 : IntKind.i64.wrap ((r.ck : Int) + 1) = ((r.ck + 1 : Nat) : Int):=i64_wrap _ (by omega) (by omega)
  obtain ⟨se,st,ck,ni,nd,sts,frs,tms,tdi,want,wr⟩:=r
  dsimp only at *
  unfold rh Run.clk
  have m1 : tms.length + 1 ≤ maxSl:=by unfold maxSl; omega
  have m2 : tdi.length + 1 ≤ maxSl:=by unfold maxSl; omega
  have m3 : want.length + 1 ≤ maxSl:=by unfold maxSl; omega
  have e2 : ∀ k n o m,k < 5 → escOf (h.length + 5) (.own (h.length + k) n o m) = []:=fun k n o m hk=>by unfold escOf; rw [top_own,if_neg (by omega)]
  have e3:=fun n o m=>e2 2 n o m (by decide)
  have e4:=fun n o m=>e2 3 n o m (by decide)
  have e5:=fun n o m=>e2 4 n o m (by decide)
  cases wr with
  | false=>simp only [d_q02c,go_sem,w1]
  | true=>
    simp only [d_q02c,go_sem,w1,bytesP_len,m1,m2,m3,e3,e4,e5,List.take_length]
    simp [bytesP]
end Go.Am
end
section
/- The program: a walk. -/
open Go
set_option linter.all false
namespace Go.Am
variable {h l l2 : Heap} {K : Post} {r : Run} {n : Nat} {o : Obj}
attribute [-go_sem] oEqa splice
attribute [local go_sem] rc_len rc_bld rc_1 rc_7 rc_15 rc_21 rc_27 rc_33 rc_36 rc_37 rc_38 rc_39 rc_40 rc_41 rc_42 rc_43 rc_44 rc_45 rcs_36 rcs_37 rcs_38 rcs_39 rcs_40 rcs_41 rcs_42 rcs_43 rcs_44 rcs_0 rcs_6 rcs_12 rcs_18 rcs_24 rcs_30
theorem rh_len : (rh h r l).length = h.length + (l.length + 6):=by unfold rh; simp
theorem rh_app : rh h r l ++ l2 = rh h r (l ++ l2):=by unfold rh; simp
theorem rh_get : (rh h r l)[h.length + (n + 6)]? = l[n]?:=by unfold rh; rw [app_get]; rfl
theorem rh_set : (rh h r l).set (h.length + (n + 6)) o = rh h r (l.set n o):=by unfold rh; rw [app_set]; rfl
theorem rh_take : (rh h r l).take (h.length + (n + 6)) = rh h r (l.take n):=by unfold rh; rw [app_take]; rfl
theorem rh_take0 : (rh h r l).take h.length = h:=by unfold rh; rw [app_take0]
theorem rh_box : (rh h r l)[h.length + 5]? = some (.box (rc r.se r.st r.ck r.ni r.nd (.own h.length r.sts.length 0 r.sts.length) (.own (h.length + 1) r.frs.length 0 r.frs.length) (.own (h.length + 2) r.tms.length 0 r.tms.length) (.own (h.length + 3) r.tdi.length 0 r.tdi.length) (.own (h.length + 4) r.want.length 0 r.want.length) r.wr)):=by unfold rh; rw [app_get]; rfl
section
variable {s : Sett} {x y z : Nat}
theorem rh_put : (rh h r l).set (h.length + 5) (.box (rc s x r.ck y z (.own h.length r.sts.length 0 r.sts.length) (.own (h.length + 1) r.frs.length 0 r.frs.length) (.own (h.length + 2) r.tms.length 0 r.tms.length) (.own (h.length + 3) r.tdi.length 0 r.tdi.length) (.own (h.length + 4) r.want.length 0 r.want.length) r.wr)) = rh h { r with se:=s,st:=x,ni:=y,nd:=z } l:=by unfold rh; rw [app_set]; rfl
end
attribute [local go_sem] rh_len rh_app rh_get rh_set rh_take rh_take0 rh_box rh_put
theorem clk_nil : r.clk [] = r:=by unfold Run.clk; split <;> simp
theorem clk_snoc {L : List (UInt8 × UInt8 × UInt8)} {x : UInt8 × UInt8 × UInt8} : (r.clk L).clk [x] = r.clk (L ++ [x]):=by
  unfold Run.clk
  cases hw : r.wr <;> simp [hw,Nat.add_assoc]
theorem clk_ck {L : List (UInt8 × UInt8 × UInt8)} : (r.clk L).ck = r.ck + L.length:=(clk_se r L).2.2.2.2.2.1
theorem runOk_go {tov : Nat} (R : RunOk r) : RunOk (r.go pathV tov):=by
  have Q:=runOk_clk (L:=(pathV r.st tov).map fun c=>(c,48,120)) R
  exact ⟨Q.t,Q.i,Q.w⟩
theorem go_ck {tov : Nat} : (r.go pathV tov).ck = r.ck + (pathV r.st tov).length:=(go_facts pathV r tov).2.2.2.2.2.1
set_option maxHeartbeats 2000000 in
theorem s_walk (R : RunOk r) (hck : r.ck ≤ 900000000) (hf : r.st ∈ frS) {tov : Nat} (ht : tov ∈ toS) : ACall X f_q02f [.ref (h.length + 5) 0,AI tov] (rh h r l) K = K (.tup []) (rh h (r.go pathV tov) l) []:=by
  refine rule ?_
  rw [c_q02f rfl]
  have to16 : tov < 16:=by simp only [toS,List.mem_cons,List.not_mem_nil,or_false] at ht; omega
  have hp:=fun (h' : Heap) (K' : Post)=>s_Path (h:=h') (K:=K') (fr_lt hf) to16
  obtain ⟨pb,pl,_⟩:=path_facts hf ht
  have hgo : r.go pathV tov = { r.clk ((pathV r.st tov).map fun c=>(c,48,120)) with st:=tov }:=rfl
  rw [hgo]
  simp only [d_q02f,go_sem,hp]
  generalize pathV r.st tov = w at pl ⊢
  refine N_loop (fun k : Nat=>⟨[(0,.ref (h.length + 5) 0),(1,AI tov),(4,AS w),(17,AI w.length),(18,AI k)],rh h (r.clk ((w.take k).map fun c=>(c,48,120))) l,[]⟩) (fun k=>k ≤ w.length) (fun k=>w.length - k) 0 (by rw [List.take_zero,List.map_nil,clk_nil]; rfl) (by omega) ?_
  intro k hk
  have hc:=fun (a : UInt8) (K' : Post)=>s_clock (h:=h) (l:=l) (K:=K') (runOk_clk (L:=(w.take k).map fun c=>(c,48,120)) R) (by rw [clk_ck]; simp; omega) a 48 120
  rcases Nat.lt_or_ge k w.length with hlt | hge
  · have w2 : IntKind.i64.wrap ((k : Int) + 1) = ((k + 1 : Nat) : Int) := i64_wrap _ (by omega) (by omega)
    have hg : w[k]? = some w[k]:=List.getElem?_eq_getElem hlt
    have hlt' : (k : Int) < (w.length : Int):=by omega
    have hc':=fun (K' : Post)=>hc w[k] K'
    simp only [show (((48 : UInt8).toNat : Nat) : Int) = 48 from rfl,show (((120 : UInt8).toNat : Nat) : Int) = 120 from rfl] at hc'
    simp only [go_sem,hlt,hlt',hg,w2,hc']
    refine ⟨k + 1,?_,by omega,by omega⟩
    rw [clk_snoc,List.take_succ_eq_append_getElem hlt,List.map_append]; rfl
  · obtain rfl : k = w.length := by omega
    have hs:=(clk_se r ((w.map fun c=>((c,48,120) : UInt8 × UInt8 × UInt8)))).1
    simp only [go_sem,Nat.lt_irrefl,Int.lt_irrefl,List.take_length]
end Go.Am
end
section
/- The program: a scan. -/
open Go
set_option linter.all false
namespace Go.Am
variable {h l l2 : Heap} {K : Post} {r : Run} {n : Nat} {o : Obj}
attribute [-go_sem] oEqa splice
attribute [local go_sem] rc_len rc_bld rc_1 rc_7 rc_15 rc_21 rc_27 rc_33 rc_36 rc_37 rc_38 rc_39 rc_40 rc_41 rc_42 rc_43 rc_44 rc_45 rcs_36 rcs_37 rcs_38 rcs_39 rcs_40 rcs_41 rcs_42 rcs_43 rcs_44 rcs_0 rcs_6 rcs_12 rcs_18 rcs_24 rcs_30
attribute [local go_sem] rh_len rh_app rh_get rh_set rh_take rh_take0 rh_box rh_put
def RunN (r : Run) : Prop:=r.ni ≤ r.ck ∧ r.nd ≤ r.ck
theorem runN_go {tov : Nat} (N : RunN r) : RunN (r.go pathV tov):=by
  obtain ⟨_,_,_,_,_,c,a,b⟩:=go_facts pathV r tov
  obtain ⟨x,y⟩:=N
  exact ⟨by rw [a,c]; omega,by rw [b,c]; omega⟩
structure SetR (s : Sett) : Prop where
  s1 : stableB s.e1.s = true
  s2 : stableB s.e2.s = true
  h1 : s.h1.b.length ≤ 2000
  t1 : s.t1.b.length ≤ 2000
  h2 : s.h2.b.length ≤ 2000
  t2 : s.t2.b.length ≤ 2000
theorem scanL_get {c : Cmd} {hd al : List UInt8} {k : Nat} (hk : k < al.length) : (scanL c hd al)[k]? = some (if k = al.length - 1 then 49 else 48,al[k],if hd.length ≤ k then (if k - hd.length < c.m.length then expAt c (k - hd.length) else 120) else 120):=by
  unfold scanL
  rw [List.getElem?_map,List.getElem?_range hk,Option.map_some,List.getElem?_eq_getElem hk]; rfl
theorem scn_IR {c : Cmd} (h7 : c.k = 7) : r.scn pathV c = Run.go pathV { Run.clk { r.go pathV 11 with ni:=(r.go pathV 11).ni + (r.se.h1.b ++ c.b ++ r.se.t1.b).length } (scanL c r.se.h1.b (r.se.h1.b ++ c.b ++ r.se.t1.b)) with st:=12 } r.se.e1.s.toNat ∧ r.scnF pathV c = (r.go pathV 11).ck + r.se.h1.b.length:=by
  unfold Run.scn Run.scnF
  simp [h7]
set_option maxHeartbeats 4000000 in
theorem s_scanIR (R : RunOk r) (N : RunN r) (hck : r.ck ≤ 800000000) (hst : r.st ∈ stb) (S : SetR r.se) (c : Cmd) (h7 : c.k = 7) (hs : scanF c = 0) : ACall X f_q02d [.ref (h.length + 5) 0,ACm c] (rh h r l) K = K (AI (r.scnF pathV c : Nat)) (rh h (r.scn pathV c) l) []:=by
  refine rule ?_
  rw [c_q02d rfl,(scn_IR h7).1,(scn_IR h7).2]
  have hw1:=fun (l : Heap) (K' : Post)=>s_walk (h:=h) (l:=l) (K:=K') R (by omega) (stb_fr hst) (show 11 ∈ toS by decide)
  simp only [show (((11 : Nat)) : Int) = 11 from rfl] at hw1
  have R1:=runOk_go (tov:=11) R
  have c1 : (r.go pathV 11).ck ≤ 800000008:=by have:=(path_facts (stb_fr hst) (show 11 ∈ toS by decide)).2.1; rw [go_ck]; omega
  have N1:=runN_go (tov:=11) N
  generalize r.go pathV 11 = r1 at *
  obtain ⟨q1,q2,q3,q4,q5,q6⟩:=scanF_ok hs
  obtain ⟨n1,n2⟩:=stable_mem S.s1
  have hh:=S.h1; have ht:=S.t1
  generalize hhd : r.se.h1.b = hd at *
  generalize htl : r.se.t1.b = tl at *
  generalize hen : r.se.e1.s = en at *
  obtain ⟨en',rfl⟩ : ∃ n : Nat,en = n:=⟨en.toNat,n2.symm⟩
  simp only [Int.toNat_natCast] at n1 n2 ⊢
  obtain ⟨k,s,cl,b,w,m⟩:=c
  dsimp only at h7 q1 q3 q6 ⊢
  subst h7
  have hbp:=List.length_pos_iff.2 q1
  have x1 : hd.length + b.length ≤ maxStr:=by unfold maxStr; omega
  have x2 : hd.length + (b.length + tl.length) ≤ maxStr:=by unfold maxStr; omega
  have x3 : hd.length + b.length + tl.length ≤ maxStr:=by unfold maxStr; omega
  obtain ⟨hn,hd'⟩:=N1
  obtain ⟨al,hal⟩ : ∃ al,al = hd ++ b ++ tl:=⟨_,rfl⟩
  have hall : al.length = hd.length + b.length + tl.length:=by rw [hal]; simp; omega
  have hal2:=hal
  rw [List.append_assoc] at hal2
  have w1 : IntKind.i64.wrap ((r1.ni : Int) + (al.length : Int)) = ((r1.ni + al.length : Nat) : Int):=i64_wrap _ (by omega) (by omega)
  have w2 : IntKind.i64.wrap ((r1.ck : Int) + (hd.length : Int)) = ((r1.ck + hd.length : Nat) : Int):=i64_wrap _ (by omega) (by omega)
  simp only [d_q02d,go_sem,hw1,hhd,htl,hen,x1,x2,x3,← hal,← hal2,w1,w2]
  have R2 : RunOk { r1 with ni:=r1.ni + al.length }:=⟨R1.t,R1.i,R1.w⟩
  have c2 : { r1 with ni:=r1.ni + al.length : Run }.ck = r1.ck:=rfl
  show NLoop (ACall X) X.gl _ _ _ (rh h { r1 with ni:=r1.ni + al.length } _) []
  generalize { r1 with ni:=r1.ni + al.length : Run } = r2 at R2 c2 ⊢
  generalize hq : (⟨7,s,cl,b,w,m⟩ : Cmd) = c at *
  have hcm : c.m = m:=by rw [← hq]
  have hcw : c.w = w:=by rw [← hq]
  have hml : m.length ≤ b.length ∧ m.length ≤ w.length:=by
    rcases q6 with ⟨e1,e2⟩ | ⟨e1,e2⟩
    · rw [e2]; exact ⟨Nat.zero_le _,Nat.zero_le _⟩
    · omega
  have hal0 : 0 < al.length:=by omega
  refine N_loop (fun k : Nat=>⟨[(0,.ref (h.length + 5) 0),(3,.ref (h.length + (l.length + 6)) 0),(5,AS hd),(7,AI en'),(9,AI 12),(10,AS al),(11,AI (r1.ck + hd.length : Nat)),(93,AI al.length),(94,AI k)],
    rh h (r2.clk ((scanL c hd al).take k)) (l ++ [.box [AI 7,AI s,AI cl,AS b,AS w,AS m]]),[]⟩) (fun k=>k ≤ al.length) (fun k=>al.length - k) 0 (by rw [List.take_zero,clk_nil]; rfl) (by omega) ?_
  intro k hk
  have hlen : (scanL c hd al).length = al.length:=scanL_length c hd al
  have R3:=runOk_clk (L:=(scanL c hd al).take k) R2
  have c3 : (r2.clk ((scanL c hd al).take k)).ck ≤ 900000000:=by rw [clk_ck,c2,List.length_take]; omega
  rcases Nat.lt_or_ge k al.length with hlt | hge
  · have w3 : IntKind.i64.wrap ((k : Int) + 1) = ((k + 1 : Nat) : Int) := i64_wrap _ (by omega) (by omega)
    have w4 : IntKind.i64.wrap ((al.length : Int) - 1) = ((al.length - 1 : Nat) : Int):=by
      rw [show (al.length : Int) - 1 = ((al.length - 1 : Nat) : Int) by omega]; exact i64_wrap _ (by omega) (by omega)
    have hlt' : (k : Int) < (al.length : Int):=by omega
    have hg : al[k]? = some al[k]:=List.getElem?_eq_getElem hlt
    have hcl:=fun (t v : UInt8) (K' : Post)=>s_clock (h:=h) (l:=l ++ [.box [AI 7,AI s,AI cl,AS b,AS w,AS m]]) (K:=K') R3 (by omega) t al[k] v
    have hsg:=scanL_get (c:=c) (hd:=hd) hlt
    have hstep : ∀ t v : UInt8,(scanL c hd al)[k]? = some (t,al[k],v) → (r2.clk ((scanL c hd al).take k)).clk [(t,al[k],v)] = r2.clk ((scanL c hd al).take (k + 1)):=fun t v e=>by
      rw [clk_snoc,List.take_succ,e]; rfl
    have e48 : (((48 : UInt8).toNat : Nat) : Int) = 48:=rfl
    have e49 : (((49 : UInt8).toNat : Nat) : Int) = 49:=rfl
    have e120 : (((120 : UInt8).toNat : Nat) : Int) = 120:=rfl
    generalize r2.clk ((scanL c hd al).take k) = r3 at R3 c3 hcl hstep ⊢
    -- what is expected
    by_cases hk0 : hd.length ≤ k
    · have w5 : IntKind.i64.wrap ((k : Int) - (hd.length : Int)) = ((k - hd.length : Nat) : Int):=by
        rw [show (k : Int) - (hd.length : Int) = ((k - hd.length : Nat) : Int) by omega]; exact i64_wrap _ (by omega) (by omega)
      have z0 : (0 : Int) ≤ ((k - hd.length : Nat) : Int):=by omega
      rw [if_pos hk0] at hsg
      by_cases hm : k - hd.length < m.length
      · have hm' : ((k - hd.length : Nat) : Int) < (m.length : Int) := by omega
        rw [hcm,if_pos hm] at hsg
        have hgm : m[k - hd.length]? = some m[k - hd.length]:=List.getElem?_eq_getElem hm
        have hgw : w[k - hd.length]? = some (w[k - hd.length]'(by omega)):=List.getElem?_eq_getElem (by omega)
        by_cases h49 : m[k - hd.length] = 49
        · have hx : expAt c (k - hd.length) = w[k - hd.length]'(by omega) := by unfold expAt; rw [hcm, hgm, h49, if_pos rfl, hcw, hgw]; rfl
          rw [hx] at hsg
          by_cases hl1 : k = al.length - 1
          · have hl2 : ((k : Int) = ((al.length - 1 : Nat) : Int)) = True := eq_true (by omega)
            have hcl1:=fun K'=>hcl 49 (w[k - hd.length]'(by omega)) K'
            rw [if_pos hl1] at hsg
            rw [e49] at hcl1
            simp only [go_sem,hlt,hlt',hg,w3,w4,w5,z0,hm,hm',hgm,hgw,h49,e49,hl2,hcl1]
            exact ⟨k + 1,by rw [hstep _ _ hsg],by omega,by omega⟩
          · have hl2 : ((k : Int) = ((al.length - 1 : Nat) : Int)) = False := eq_false (by omega)
            have hcl1:=fun K'=>hcl 48 (w[k - hd.length]'(by omega)) K'
            rw [if_neg hl1] at hsg
            rw [e48] at hcl1
            simp only [go_sem,hlt,hlt',hg,w3,w4,w5,z0,hm,hm',hgm,hgw,h49,e49,hl2,hcl1]
            exact ⟨k + 1,by rw [hstep _ _ hsg],by omega,by omega⟩
        · have hx : expAt c (k - hd.length) = 120 := by unfold expAt; rw [hcm, hgm, if_neg (fun e => h49 (Option.some.inj e))]
          rw [hx] at hsg
          have h49' : ¬ ((m[k - hd.length].toNat : Int) = 49):=fun e=>h49 (UInt8.toNat_inj.1 (by rw [show (49 : UInt8).toNat = 49 from rfl]; omega))
          by_cases hl1 : k = al.length - 1
          · have hl2 : ((k : Int) = ((al.length - 1 : Nat) : Int)) = True := eq_true (by omega)
            have hcl1:=fun K'=>hcl 49 120 K'
            rw [if_pos hl1] at hsg
            rw [e49] at hcl1
            rw [e120] at hcl1
            simp only [go_sem,hlt,hlt',hg,w3,w4,w5,z0,hm,hm',hgm,h49',hl2,hcl1]
            exact ⟨k + 1,by rw [hstep _ _ hsg],by omega,by omega⟩
          · have hl2 : ((k : Int) = ((al.length - 1 : Nat) : Int)) = False := eq_false (by omega)
            have hcl1:=fun K'=>hcl 48 120 K'
            rw [if_neg hl1] at hsg
            rw [e48] at hcl1
            rw [e120] at hcl1
            simp only [go_sem,hlt,hlt',hg,w3,w4,w5,z0,hm,hm',hgm,h49',hl2,hcl1]
            exact ⟨k + 1,by rw [hstep _ _ hsg],by omega,by omega⟩
      · have hm' : ¬ ((k - hd.length : Nat) : Int) < (m.length : Int) := by omega
        rw [hcm,if_neg hm] at hsg
        by_cases hl1 : k = al.length - 1
        · have hl2 : ((k : Int) = ((al.length - 1 : Nat) : Int)) = True := eq_true (by omega)
          have hcl1:=fun K'=>hcl 49 120 K'
          rw [if_pos hl1] at hsg
          rw [e49] at hcl1
          rw [e120] at hcl1
          simp only [go_sem,hlt,hlt',hg,w3,w4,w5,z0,hm,hm',hl2,hcl1]
          exact ⟨k + 1,by rw [hstep _ _ hsg],by omega,by omega⟩
        · have hl2 : ((k : Int) = ((al.length - 1 : Nat) : Int)) = False := eq_false (by omega)
          have hcl1:=fun K'=>hcl 48 120 K'
          rw [if_neg hl1] at hsg
          rw [e48] at hcl1
          rw [e120] at hcl1
          simp only [go_sem,hlt,hlt',hg,w3,w4,w5,z0,hm,hm',hl2,hcl1]
          exact ⟨k + 1,by rw [hstep _ _ hsg],by omega,by omega⟩
    · have w5 : IntKind.i64.wrap ((k : Int) - (hd.length : Int)) = (k : Int) - (hd.length : Int) := i64_wrap _ (by omega) (by omega)
      have z0 : ¬ (0 : Int) ≤ (k : Int) - (hd.length : Int):=by omega
      rw [if_neg hk0] at hsg
      by_cases hl1 : k = al.length - 1
      · have hl2 : ((k : Int) = ((al.length - 1 : Nat) : Int)) = True := eq_true (by omega)
        have hcl1:=fun K'=>hcl 49 120 K'
        rw [if_pos hl1] at hsg
        rw [e49] at hcl1
        rw [e120] at hcl1
        simp only [go_sem,hlt,hlt',hg,w3,w4,w5,z0,hl2,hcl1]
        exact ⟨k + 1,by rw [hstep _ _ hsg],by omega,by omega⟩
      · have hl2 : ((k : Int) = ((al.length - 1 : Nat) : Int)) = False := eq_false (by omega)
        have hcl1:=fun K'=>hcl 48 120 K'
        rw [if_neg hl1] at hsg
        rw [e48] at hcl1
        rw [e120] at hcl1
        simp only [go_sem,hlt,hlt',hg,w3,w4,w5,z0,hl2,hcl1]
        exact ⟨k + 1,by rw [hstep _ _ hsg],by omega,by omega⟩
  · obtain rfl : k = al.length := by omega
    have e1 : (scanL c hd al).take al.length = scanL c hd al:=by rw [← hlen]; exact List.take_length
    rw [e1] at R3 c3
    simp only [go_sem,Nat.lt_irrefl,Int.lt_irrefl,e1]
    generalize r2.clk (scanL c hd al) = r3 at R3 c3 ⊢
    have hw2:=fun (l : Heap) (K' : Post)=>s_walk (h:=h) (l:=l) (K:=K') (r:={ r3 with st:=12 }) ⟨R3.t,R3.i,R3.w⟩ c3 (show 12 ∈ frS by decide) (stb_to n1)
    have hp:=fun l=>rh_put (h:=h) (l:=l) (r:=r3) (s:=r3.se) (x:=12) (y:=r3.ni) (z:=r3.nd)
    simp only [show ((12 : Nat) : Int) = 12 from rfl] at hp
    simp only [go_sem,hp,hw2]
theorem scn_DR {c : Cmd} (h7 : c.k = 8) : r.scn pathV c = Run.go pathV { Run.clk { r.go pathV 4 with nd:=(r.go pathV 4).nd + (r.se.h2.b ++ c.b ++ r.se.t2.b).length } (scanL c r.se.h2.b (r.se.h2.b ++ c.b ++ r.se.t2.b)) with st:=5 } r.se.e2.s.toNat ∧ r.scnF pathV c = (r.go pathV 4).ck + r.se.h2.b.length:=by
  unfold Run.scn Run.scnF
  simp [h7]
set_option maxHeartbeats 4000000 in
theorem s_scanDR (R : RunOk r) (N : RunN r) (hck : r.ck ≤ 800000000) (hst : r.st ∈ stb) (S : SetR r.se) (c : Cmd) (h7 : c.k = 8) (hs : scanF c = 0) : ACall X f_q02d [.ref (h.length + 5) 0,ACm c] (rh h r l) K = K (AI (r.scnF pathV c : Nat)) (rh h (r.scn pathV c) l) []:=by
  refine rule ?_
  rw [c_q02d rfl,(scn_DR h7).1,(scn_DR h7).2]
  have hw1:=fun (l : Heap) (K' : Post)=>s_walk (h:=h) (l:=l) (K:=K') R (by omega) (stb_fr hst) (show 4 ∈ toS by decide)
  simp only [show (((4 : Nat)) : Int) = 4 from rfl] at hw1
  have R1:=runOk_go (tov:=4) R
  have c1 : (r.go pathV 4).ck ≤ 800000008:=by have:=(path_facts (stb_fr hst) (show 4 ∈ toS by decide)).2.1; rw [go_ck]; omega
  have N1:=runN_go (tov:=4) N
  generalize r.go pathV 4 = r1 at *
  obtain ⟨q1,q2,q3,q4,q5,q6⟩:=scanF_ok hs
  obtain ⟨n1,n2⟩:=stable_mem S.s2
  have hh:=S.h2; have ht:=S.t2
  generalize hhd : r.se.h2.b = hd at *
  generalize htl : r.se.t2.b = tl at *
  generalize hen : r.se.e2.s = en at *
  obtain ⟨en',rfl⟩ : ∃ n : Nat,en = n:=⟨en.toNat,n2.symm⟩
  simp only [Int.toNat_natCast] at n1 n2 ⊢
  obtain ⟨k,s,cl,b,w,m⟩:=c
  dsimp only at h7 q1 q3 q6 ⊢
  subst h7
  have hbp:=List.length_pos_iff.2 q1
  have x1 : hd.length + b.length ≤ maxStr:=by unfold maxStr; omega
  have x2 : hd.length + (b.length + tl.length) ≤ maxStr:=by unfold maxStr; omega
  have x3 : hd.length + b.length + tl.length ≤ maxStr:=by unfold maxStr; omega
  obtain ⟨hn,hd'⟩:=N1
  obtain ⟨al,hal⟩ : ∃ al,al = hd ++ b ++ tl:=⟨_,rfl⟩
  have hall : al.length = hd.length + b.length + tl.length:=by rw [hal]; simp; omega
  have hal2:=hal
  rw [List.append_assoc] at hal2
  have w1 : IntKind.i64.wrap ((r1.nd : Int) + (al.length : Int)) = ((r1.nd + al.length : Nat) : Int):=i64_wrap _ (by omega) (by omega)
  have w2 : IntKind.i64.wrap ((r1.ck : Int) + (hd.length : Int)) = ((r1.ck + hd.length : Nat) : Int):=i64_wrap _ (by omega) (by omega)
  simp only [d_q02d,go_sem,hw1,hhd,htl,hen,x1,x2,x3,← hal,← hal2,w1,w2]
  have R2 : RunOk { r1 with nd:=r1.nd + al.length }:=⟨R1.t,R1.i,R1.w⟩
  have c2 : { r1 with nd:=r1.nd + al.length : Run }.ck = r1.ck:=rfl
  show NLoop (ACall X) X.gl _ _ _ (rh h { r1 with nd:=r1.nd + al.length } _) []
  generalize { r1 with nd:=r1.nd + al.length : Run } = r2 at R2 c2 ⊢
  generalize hq : (⟨8,s,cl,b,w,m⟩ : Cmd) = c at *
  have hcm : c.m = m:=by rw [← hq]
  have hcw : c.w = w:=by rw [← hq]
  have hml : m.length ≤ b.length ∧ m.length ≤ w.length:=by
    rcases q6 with ⟨e1,e2⟩ | ⟨e1,e2⟩
    · rw [e2]; exact ⟨Nat.zero_le _,Nat.zero_le _⟩
    · omega
  have hal0 : 0 < al.length:=by omega
  refine N_loop (fun k : Nat=>⟨[(0,.ref (h.length + 5) 0),(3,.ref (h.length + (l.length + 6)) 0),(5,AS hd),(7,AI en'),(9,AI 5),(10,AS al),(11,AI (r1.ck + hd.length : Nat)),(93,AI al.length),(94,AI k)],
    rh h (r2.clk ((scanL c hd al).take k)) (l ++ [.box [AI 8,AI s,AI cl,AS b,AS w,AS m]]),[]⟩) (fun k=>k ≤ al.length) (fun k=>al.length - k) 0 (by rw [List.take_zero,clk_nil]; rfl) (by omega) ?_
  intro k hk
  have hlen : (scanL c hd al).length = al.length:=scanL_length c hd al
  have R3:=runOk_clk (L:=(scanL c hd al).take k) R2
  have c3 : (r2.clk ((scanL c hd al).take k)).ck ≤ 900000000:=by rw [clk_ck,c2,List.length_take]; omega
  rcases Nat.lt_or_ge k al.length with hlt | hge
  · have w3 : IntKind.i64.wrap ((k : Int) + 1) = ((k + 1 : Nat) : Int) := i64_wrap _ (by omega) (by omega)
    have w4 : IntKind.i64.wrap ((al.length : Int) - 1) = ((al.length - 1 : Nat) : Int):=by
      rw [show (al.length : Int) - 1 = ((al.length - 1 : Nat) : Int) by omega]; exact i64_wrap _ (by omega) (by omega)
    have hlt' : (k : Int) < (al.length : Int):=by omega
    have hg : al[k]? = some al[k]:=List.getElem?_eq_getElem hlt
    have hcl:=fun (t v : UInt8) (K' : Post)=>s_clock (h:=h) (l:=l ++ [.box [AI 8,AI s,AI cl,AS b,AS w,AS m]]) (K:=K') R3 (by omega) t al[k] v
    have hsg:=scanL_get (c:=c) (hd:=hd) hlt
    have hstep : ∀ t v : UInt8,(scanL c hd al)[k]? = some (t,al[k],v) → (r2.clk ((scanL c hd al).take k)).clk [(t,al[k],v)] = r2.clk ((scanL c hd al).take (k + 1)):=fun t v e=>by
      rw [clk_snoc,List.take_succ,e]; rfl
    have e48 : (((48 : UInt8).toNat : Nat) : Int) = 48:=rfl
    have e49 : (((49 : UInt8).toNat : Nat) : Int) = 49:=rfl
    have e120 : (((120 : UInt8).toNat : Nat) : Int) = 120:=rfl
    generalize r2.clk ((scanL c hd al).take k) = r3 at R3 c3 hcl hstep ⊢
    -- what is expected
    by_cases hk0 : hd.length ≤ k
    · have w5 : IntKind.i64.wrap ((k : Int) - (hd.length : Int)) = ((k - hd.length : Nat) : Int):=by
        rw [show (k : Int) - (hd.length : Int) = ((k - hd.length : Nat) : Int) by omega]; exact i64_wrap _ (by omega) (by omega)
      have z0 : (0 : Int) ≤ ((k - hd.length : Nat) : Int):=by omega
      rw [if_pos hk0] at hsg
      by_cases hm : k - hd.length < m.length
      · have hm' : ((k - hd.length : Nat) : Int) < (m.length : Int) := by omega
        rw [hcm,if_pos hm] at hsg
        have hgm : m[k - hd.length]? = some m[k - hd.length]:=List.getElem?_eq_getElem hm
        have hgw : w[k - hd.length]? = some (w[k - hd.length]'(by omega)):=List.getElem?_eq_getElem (by omega)
        by_cases h49 : m[k - hd.length] = 49
        · have hx : expAt c (k - hd.length) = w[k - hd.length]'(by omega) := by unfold expAt; rw [hcm, hgm, h49, if_pos rfl, hcw, hgw]; rfl
          rw [hx] at hsg
          by_cases hl1 : k = al.length - 1
          · have hl2 : ((k : Int) = ((al.length - 1 : Nat) : Int)) = True := eq_true (by omega)
            have hcl1:=fun K'=>hcl 49 (w[k - hd.length]'(by omega)) K'
            rw [if_pos hl1] at hsg
            rw [e49] at hcl1
            simp only [go_sem,hlt,hlt',hg,w3,w4,w5,z0,hm,hm',hgm,hgw,h49,e49,hl2,hcl1]
            exact ⟨k + 1,by rw [hstep _ _ hsg],by omega,by omega⟩
          · have hl2 : ((k : Int) = ((al.length - 1 : Nat) : Int)) = False := eq_false (by omega)
            have hcl1:=fun K'=>hcl 48 (w[k - hd.length]'(by omega)) K'
            rw [if_neg hl1] at hsg
            rw [e48] at hcl1
            simp only [go_sem,hlt,hlt',hg,w3,w4,w5,z0,hm,hm',hgm,hgw,h49,e49,hl2,hcl1]
            exact ⟨k + 1,by rw [hstep _ _ hsg],by omega,by omega⟩
        · have hx : expAt c (k - hd.length) = 120 := by unfold expAt; rw [hcm, hgm, if_neg (fun e => h49 (Option.some.inj e))]
          rw [hx] at hsg
          have h49' : ¬ ((m[k - hd.length].toNat : Int) = 49):=fun e=>h49 (UInt8.toNat_inj.1 (by rw [show (49 : UInt8).toNat = 49 from rfl]; omega))
          by_cases hl1 : k = al.length - 1
          · have hl2 : ((k : Int) = ((al.length - 1 : Nat) : Int)) = True := eq_true (by omega)
            have hcl1:=fun K'=>hcl 49 120 K'
            rw [if_pos hl1] at hsg
            rw [e49] at hcl1
            rw [e120] at hcl1
            simp only [go_sem,hlt,hlt',hg,w3,w4,w5,z0,hm,hm',hgm,h49',hl2,hcl1]
            exact ⟨k + 1,by rw [hstep _ _ hsg],by omega,by omega⟩
          · have hl2 : ((k : Int) = ((al.length - 1 : Nat) : Int)) = False := eq_false (by omega)
            have hcl1:=fun K'=>hcl 48 120 K'
            rw [if_neg hl1] at hsg
            rw [e48] at hcl1
            rw [e120] at hcl1
            simp only [go_sem,hlt,hlt',hg,w3,w4,w5,z0,hm,hm',hgm,h49',hl2,hcl1]
            exact ⟨k + 1,by rw [hstep _ _ hsg],by omega,by omega⟩
      · have hm' : ¬ ((k - hd.length : Nat) : Int) < (m.length : Int) := by omega
        rw [hcm,if_neg hm] at hsg
        by_cases hl1 : k = al.length - 1
        · have hl2 : ((k : Int) = ((al.length - 1 : Nat) : Int)) = True := eq_true (by omega)
          have hcl1:=fun K'=>hcl 49 120 K'
          rw [if_pos hl1] at hsg
          rw [e49] at hcl1
          rw [e120] at hcl1
          simp only [go_sem,hlt,hlt',hg,w3,w4,w5,z0,hm,hm',hl2,hcl1]
          exact ⟨k + 1,by rw [hstep _ _ hsg],by omega,by omega⟩
        · have hl2 : ((k : Int) = ((al.length - 1 : Nat) : Int)) = False := eq_false (by omega)
          have hcl1:=fun K'=>hcl 48 120 K'
          rw [if_neg hl1] at hsg
          rw [e48] at hcl1
          rw [e120] at hcl1
          simp only [go_sem,hlt,hlt',hg,w3,w4,w5,z0,hm,hm',hl2,hcl1]
          exact ⟨k + 1,by rw [hstep _ _ hsg],by omega,by omega⟩
    · have w5 : IntKind.i64.wrap ((k : Int) - (hd.length : Int)) = (k : Int) - (hd.length : Int) := i64_wrap _ (by omega) (by omega)
      have z0 : ¬ (0 : Int) ≤ (k : Int) - (hd.length : Int):=by omega
      rw [if_neg hk0] at hsg
      by_cases hl1 : k = al.length - 1
      · have hl2 : ((k : Int) = ((al.length - 1 : Nat) : Int)) = True := eq_true (by omega)
        have hcl1:=fun K'=>hcl 49 120 K'
        rw [if_pos hl1] at hsg
        rw [e49] at hcl1
        rw [e120] at hcl1
        simp only [go_sem,hlt,hlt',hg,w3,w4,w5,z0,hl2,hcl1]
        exact ⟨k + 1,by rw [hstep _ _ hsg],by omega,by omega⟩
      · have hl2 : ((k : Int) = ((al.length - 1 : Nat) : Int)) = False := eq_false (by omega)
        have hcl1:=fun K'=>hcl 48 120 K'
        rw [if_neg hl1] at hsg
        rw [e48] at hcl1
        rw [e120] at hcl1
        simp only [go_sem,hlt,hlt',hg,w3,w4,w5,z0,hl2,hcl1]
        exact ⟨k + 1,by rw [hstep _ _ hsg],by omega,by omega⟩
  · obtain rfl : k = al.length := by omega
    have e1 : (scanL c hd al).take al.length = scanL c hd al:=by rw [← hlen]; exact List.take_length
    rw [e1] at R3 c3
    simp only [go_sem,Nat.lt_irrefl,Int.lt_irrefl,e1]
    generalize r2.clk (scanL c hd al) = r3 at R3 c3 ⊢
    have hw2:=fun (l : Heap) (K' : Post)=>s_walk (h:=h) (l:=l) (K:=K') (r:={ r3 with st:=5 }) ⟨R3.t,R3.i,R3.w⟩ c3 (show 5 ∈ frS by decide) (stb_to n1)
    have hp:=fun l=>rh_put (h:=h) (l:=l) (r:=r3) (s:=r3.se) (x:=5) (y:=r3.ni) (z:=r3.nd)
    simp only [show ((5 : Nat) : Int) = 5 from rfl] at hp
    simp only [go_sem,hp,hw2]
end Go.Am
end
section
/- The program: a step. -/
open Go
set_option linter.all false
namespace Go.Am
variable {h l l2 : Heap} {K : Post} {r : Run} {n : Nat} {o : Obj} {x : Esc}
attribute [-go_sem] oEqa splice d_q02e_k2
attribute [local go_sem] rc_len rc_bld rc_1 rc_7 rc_15 rc_21 rc_27 rc_33 rc_36 rc_37 rc_38 rc_39 rc_40 rc_41 rc_42 rc_43 rc_44 rc_45 rcs_36 rcs_37 rcs_38 rcs_39 rcs_40 rcs_41 rcs_42 rcs_43 rcs_44
section
variable {s : Sett} {st ck ni nd : Int} {a b c d e : AV} {w : Bool} {q1 q2 q3 : Int} {q4 q5 q6 : List UInt8}
theorem rct_0 : splice (rc s st ck ni nd a b c d e w) 0 [AI q1,AI q2,AI q3,AS q4,AS q5,AS q6] = rc { s with e1:=⟨q1,q2,q3,q4,q5,q6⟩ } st ck ni nd a b c d e w:=(rfl)
theorem rct_6 : splice (rc s st ck ni nd a b c d e w) 6 [AI q1,AI q2,AI q3,AS q4,AS q5,AS q6] = rc { s with e2:=⟨q1,q2,q3,q4,q5,q6⟩ } st ck ni nd a b c d e w:=(rfl)
theorem rct_12 : splice (rc s st ck ni nd a b c d e w) 12 [AI q1,AI q2,AI q3,AS q4,AS q5,AS q6] = rc { s with h1:=⟨q1,q2,q3,q4,q5,q6⟩ } st ck ni nd a b c d e w:=(rfl)
theorem rct_18 : splice (rc s st ck ni nd a b c d e w) 18 [AI q1,AI q2,AI q3,AS q4,AS q5,AS q6] = rc { s with t1:=⟨q1,q2,q3,q4,q5,q6⟩ } st ck ni nd a b c d e w:=(rfl)
theorem rct_24 : splice (rc s st ck ni nd a b c d e w) 24 [AI q1,AI q2,AI q3,AS q4,AS q5,AS q6] = rc { s with h2:=⟨q1,q2,q3,q4,q5,q6⟩ } st ck ni nd a b c d e w:=(rfl)
theorem rct_30 : splice (rc s st ck ni nd a b c d e w) 30 [AI q1,AI q2,AI q3,AS q4,AS q5,AS q6] = rc { s with t2:=⟨q1,q2,q3,q4,q5,q6⟩ } st ck ni nd a b c d e w:=(rfl)
end
attribute [local go_sem] rct_0 rct_6 rct_12 rct_18 rct_24 rct_30
def ofsK (k : Int) : Nat:=if k = 1 then 0 else if k = 2 then 6 else if k = 3 then 12 else if k = 4 then 18 else if k = 5 then 24 else 30
theorem s_ofK {id : Nat} (hid : id < h.length) (k : Int) : ACall X f_q02h [.ref id 0,AI k] h K = K (.ref id (ofsK k)) h []:=by
  refine rule ?_
  rw [c_q02h rfl]
  have e1 : max h.length (id + 1) = h.length:=by omega
  have e2 : id + 1 ≤ h.length:=by omega
  unfold ofsK
  by_cases h1 : k = 1
  · simp only [d_q02h,go_sem,h1,e1,e2]
  by_cases h2 : k = 2
  · simp only [d_q02h,go_sem,h1,h2,e1,e2]
  by_cases h3 : k = 3
  · simp only [d_q02h,go_sem,h1,h2,h3,e1,e2]
  by_cases h4 : k = 4
  · simp only [d_q02h,go_sem,h1,h2,h3,h4,e1,e2]
  by_cases h5 : k = 5
  · simp only [d_q02h,go_sem,h1,h2,h3,h4,h5,e1,e2]
  simp only [d_q02h,go_sem,h1,h2,h3,h4,h5,e1,e2]
set_option maxHeartbeats 2000000 in
theorem d_step_k2 {Kx : Ex → St → Prop} (hs : r.sts.length ≤ 100000) (hf : r.frs.length ≤ 100000) (f : Nat) : d_q02e_k2 (ACall X) X.gl (.ref (h.length + 5) 0) (AI f) (rh h r l) x Kx = Kx .normal ⟨[],rh h { r with sts:=r.sts ++ [r.st],frs:=r.frs ++ [f] } l,x⟩:=by
  obtain ⟨se,st,ck,ni,nd,sts,frs,tms,tdi,want,wr⟩:=r
  dsimp only at *
  unfold rh
  have m1 : sts.length + 1 ≤ maxSl:=by unfold maxSl; omega
  have m2 : frs.length + 1 ≤ maxSl:=by unfold maxSl; omega
  have e2 : ∀ k n o m,k < 5 → escOf (h.length + 5) (.own (h.length + k) n o m) = []:=fun k n o m hk=>by unfold escOf; rw [top_own,if_neg (by omega)]
  have e3:=fun n o m=>e2 0 n o m (by decide)
  have e4:=fun n o m=>e2 1 n o m (by decide)
  simp only [Nat.add_zero] at e3
  simp only [d_q02e_k2,go_sem,m1,m2,e3,e4,List.length_map]
  simp
attribute [local go_sem] rh_len rh_app rh_get rh_set rh_take rh_take0 rh_box rh_put
theorem scn_same (c : Cmd) : (r.scn pathV c).sts = r.sts ∧ (r.scn pathV c).frs = r.frs ∧ (r.scn pathV c).se = r.se:=by
  unfold Run.scn
  by_cases h7 : c.k = 7
  · simp only [h7, if_true]
    obtain ⟨a1,a2,a3,a4,_⟩:=go_facts pathV ({ Run.clk { r.go pathV 11 with ni:=(r.go pathV 11).ni + (r.se.h1.b ++ c.b ++ r.se.t1.b).length } (scanL c r.se.h1.b (r.se.h1.b ++ c.b ++ r.se.t1.b)) with st:=12 }) r.se.e1.s.toNat
    obtain ⟨b1,b2,b3,b4,_⟩:=clk_se { r.go pathV 11 with ni:=(r.go pathV 11).ni + (r.se.h1.b ++ c.b ++ r.se.t1.b).length } (scanL c r.se.h1.b (r.se.h1.b ++ c.b ++ r.se.t1.b))
    obtain ⟨d1,d2,d3,d4,_⟩:=go_facts pathV r 11
    exact ⟨a3.trans (b3.trans d3),a4.trans (b4.trans d4),a1.trans (b1.trans d1)⟩
  · simp only [h7, if_false]
    obtain ⟨a1,a2,a3,a4,_⟩:=go_facts pathV ({ Run.clk { r.go pathV 4 with nd:=(r.go pathV 4).nd + (r.se.h2.b ++ c.b ++ r.se.t2.b).length } (scanL c r.se.h2.b (r.se.h2.b ++ c.b ++ r.se.t2.b)) with st:=5 }) r.se.e2.s.toNat
    obtain ⟨b1,b2,b3,b4,_⟩:=clk_se { r.go pathV 4 with nd:=(r.go pathV 4).nd + (r.se.h2.b ++ c.b ++ r.se.t2.b).length } (scanL c r.se.h2.b (r.se.h2.b ++ c.b ++ r.se.t2.b))
    obtain ⟨d1,d2,d3,d4,_⟩:=go_facts pathV r 4
    exact ⟨a3.trans (b3.trans d3),a4.trans (b4.trans d4),a1.trans (b1.trans d1)⟩
set_option maxHeartbeats 4000000 in
theorem s_step (R : RunOk r) (N : RunN r) (hck : r.ck ≤ 700000000) (hst : r.st ∈ stb) (S : SetR r.se) (hl1 : r.sts.length ≤ 100000) (hl2 : r.frs.length ≤ 100000) (c : Cmd) (hc : cmdF c = 0) :
    ACall X f_q02e [.ref (h.length + 5) 0,ACm c] (rh h r l) K = K (.tup []) (rh h (r.step pathV c) l) []:=by
  refine rule ?_
  rw [c_q02e rfl]
  have e0 : (AI ((0 : Nat) : Int)) = AI 0:=rfl
  have setf : ∀ h1 : 1 ≤ c.k ∧ c.k ≤ 6,d_q02e (ACall X) X.gl p_q02e_k1 p_q02e_k2 (.ref (h.length + 5) 0) (ACm c) (rh h r l) [] (finR [] false (rh h r l).length fun v1 h1 x1=>v1 = .tup [] ∧ h1 = rh h (r.step pathV c) l ∧ x1 = []):=by
    intro h1
    rw [step_set pathV h1]
    have k2:=fun (l : Heap) (x : Esc) (Kx : Ex → St → Prop)=>d_step_k2 (h:=h) (l:=l) (x:=x) (Kx:=Kx) (r:={ r with se:=r.se.put c }) hl1 hl2 0
    rw [e0] at k2
    have ho:=fun (l : Heap) (k : Int) (K' : Post)=>s_ofK (h:=rh h r l) (K:=K') (id:=h.length + 5) (by rw [rh_len]; omega) k
    obtain ⟨k,s,cl,b,w,m⟩:=c
    dsimp only at h1
    have : k = 1 ∨ k = 2 ∨ k = 3 ∨ k = 4 ∨ k = 5 ∨ k = 6:=by omega
    rcases this with rfl | rfl | rfl | rfl | rfl | rfl
    · have ep : r.se.put ⟨1, s, cl, b, w, m⟩ = { r.se with e1 := ⟨1, s, cl, b, w, m⟩ } := rfl
      rw [ep]
      simp only [ep] at k2
      simp only [d_q02e,go_sem,s_isSetting,ho,ofsK,k2]
    · have ep : r.se.put ⟨2, s, cl, b, w, m⟩ = { r.se with e2 := ⟨2, s, cl, b, w, m⟩ } := rfl
      rw [ep]
      simp only [ep] at k2
      simp only [d_q02e,go_sem,s_isSetting,ho,ofsK,k2]
    · have ep : r.se.put ⟨3, s, cl, b, w, m⟩ = { r.se with h1 := ⟨3, s, cl, b, w, m⟩ } := rfl
      rw [ep]
      simp only [ep] at k2
      simp only [d_q02e,go_sem,s_isSetting,ho,ofsK,k2]
    · have ep : r.se.put ⟨4, s, cl, b, w, m⟩ = { r.se with t1 := ⟨4, s, cl, b, w, m⟩ } := rfl
      rw [ep]
      simp only [ep] at k2
      simp only [d_q02e,go_sem,s_isSetting,ho,ofsK,k2]
    · have ep : r.se.put ⟨5, s, cl, b, w, m⟩ = { r.se with h2 := ⟨5, s, cl, b, w, m⟩ } := rfl
      rw [ep]
      simp only [ep] at k2
      simp only [d_q02e,go_sem,s_isSetting,ho,ofsK,k2]
    · have ep : r.se.put ⟨6, s, cl, b, w, m⟩ = { r.se with t2 := ⟨6, s, cl, b, w, m⟩ } := rfl
      rw [ep]
      simp only [ep] at k2
      simp only [d_q02e,go_sem,s_isSetting,ho,ofsK,k2]
  cases cmdF_kinds hc with
  | set h hs e=>exact setf (by omega)
  | pad h0 h1 hb hl e=>exact setf ⟨by omega,h1⟩
  | go hk hs e=>
    rw [step_go pathV hk]
    obtain ⟨g1,g2,g3,g4,g5,g6,_,_⟩:=go_facts pathV r c.s.toNat
    obtain ⟨n1,n2⟩:=stable_mem hs
    have k2:=fun (l : Heap) (x : Esc) (Kx : Ex → St → Prop)=>d_step_k2 (h:=h) (l:=l) (x:=x) (Kx:=Kx) (r:=r.go pathV c.s.toNat) (by rw [g3]; exact hl1) (by rw [g4]; exact hl2) 0
    rw [e0] at k2
    have hw:=fun (l : Heap) (K' : Post)=>s_walk (h:=h) (l:=l) (K:=K') R (by omega) (stb_fr hst) (stb_to n1)
    obtain ⟨k,s,cl,b,w,m⟩:=c
    dsimp only at hk n2 hw k2 ⊢
    subst hk
    rw [n2] at hw
    simp only [d_q02e,go_sem,s_isSetting,s_isScan,hw,k2]
  | idle hk h0 h1 e=>
    rw [step_idle pathV hk]
    obtain ⟨g1,g2,g3,g4,g5,g6,_,_⟩:=go_facts pathV r 1
    have hw:=fun (l : Heap) (K' : Post)=>s_walk (h:=h) (l:=l) (K:=K') R (by omega) (stb_fr hst) (show 1 ∈ toS by decide)
    have R1:=runOk_go (tov:=1) R
    have c1 : (r.go pathV 1).ck ≤ 700000008:=by have:=(path_facts (stb_fr hst) (show 1 ∈ toS by decide)).2.1; rw [go_ck]; omega
    simp only [show ((1 : Nat) : Int) = 1 from rfl] at hw
    obtain ⟨k,s,cl,b,w,m⟩:=c
    dsimp only at hk h0 h1 ⊢
    subst hk
    obtain ⟨n,rfl⟩ : ∃ n : Nat,cl = n:=⟨cl.toNat,by omega⟩
    simp only [Int.toNat_natCast]
    generalize r.go pathV 1 = r1 at *
    simp only [d_q02e,go_sem,s_isSetting,s_isScan,hw]
    refine N_loop (fun k : Nat=>⟨[(0,.ref (h.length + 5) 0),(4,AI 0),(35,AI n),(36,AI k)],rh h (r1.clk (List.replicate k (48,48,120))) (l ++ [.box [AI 9,AI s,AI n,AS b,AS w,AS m]]),[]⟩) (fun k=>k ≤ n) (fun k=>n - k) 0 (by rw [List.replicate_zero,clk_nil]; rfl) (by omega) ?_
    intro k hk
    have R2:=runOk_clk (L:=List.replicate k (48,48,120)) R1
    rcases Nat.lt_or_ge k n with hlt | hge
    · have w2 : IntKind.i64.wrap ((k : Int) + 1) = ((k + 1 : Nat) : Int) := i64_wrap _ (by omega) (by omega)
      have hc:=fun (l : Heap) (K' : Post)=>s_clock (h:=h) (l:=l) (K:=K') R2 (by rw [clk_ck,List.length_replicate]; omega) 48 48 120
      simp only [show (((48 : UInt8).toNat : Nat) : Int) = 48 from rfl,show (((120 : UInt8).toNat : Nat) : Int) = 120 from rfl] at hc
      simp only [go_sem,hlt,w2,hc]
      exact ⟨k + 1,by rw [clk_snoc,← List.replicate_succ'],by omega,by omega⟩
    · obtain rfl : k = n := by omega
      have q:=clk_se r1 (List.replicate k (48,48,120))
      have k2:=fun (l : Heap) (x : Esc) (Kx : Ex → St → Prop)=>d_step_k2 (h:=h) (l:=l) (x:=x) (Kx:=Kx) (r:=r1.clk (List.replicate k (48,48,120))) (by rw [q.2.2.1,g3]; exact hl1) (by rw [q.2.2.2.1,g4]; exact hl2) 0
      rw [e0] at k2
      simp only [go_sem,Nat.lt_irrefl,k2]
  | scan hk hs e=>
    rw [step_scan pathV hk]
    obtain ⟨g3,g4,_⟩:=scn_same (r:=r) c
    have k2:=fun (l : Heap) (x : Esc) (Kx : Ex → St → Prop)=>d_step_k2 (h:=h) (l:=l) (x:=x) (Kx:=Kx) (r:=r.scn pathV c) (by rw [g3]; exact hl1) (by rw [g4]; exact hl2) (r.scnF pathV c)
    have hscan : ∀ (l : Heap) (K' : Post),ACall X f_q02d [.ref (h.length + 5) 0,ACm c] (rh h r l) K' = K' (AI (r.scnF pathV c : Nat)) (rh h (r.scn pathV c) l) []:=fun l K'=>by
      rcases hk with h7 | h8
      · exact s_scanIR R N (by omega) hst S c h7 hs
      · exact s_scanDR R N (by omega) hst S c h8 hs
    have f1 : ¬ c.k ≤ 6:=by omega
    have f2 : 1 ≤ c.k:=by omega
    have f3 : (decide (c.k = 7) || decide (c.k = 8)) = true:=by simpa using hk
    generalize r.scn pathV c = r9 at k2 hscan ⊢
    generalize r.scnF pathV c = f9 at k2 hscan ⊢
    simp only [d_q02e,go_sem,s_isSetting,s_isScan,f1,f2,f3,hscan,k2]
end Go.Am
end
section
/- A command's fault,the reference. -/
open Go
set_option linter.all false
namespace Go.Am
variable {h : Heap} {K : Post} {Kx : Ex → St → Prop} {q q2 : ACode} {k s cl k' s' cl' v9 : Int} {b w m b' w' m' : List UInt8} {x : Esc}
theorem eqa6 {k s cl k' s' cl' : Int} {b w m b' w' m' : List UInt8} : oEqa [0,0,0,2,2,2] true (.p (.agg [.int .i64 k,.int .i64 s,.int .i64 cl,.str b,.str w,.str m])) (.p (.agg [.int .i64 k',.int .i64 s',.int .i64 cl',.str b',.str w',.str m'])) = some (AB (!decide ((⟨k,s,cl,b,w,m⟩ : Cmd) = ⟨k',s',cl',b',w',m'⟩))):=by
  unfold oEqa
  dsimp only
  rw [if_pos ⟨rfl,rfl,by simp⟩,eqs6]
  rfl
attribute [-go_sem] oEqa d_q00u_k1 d_q00u_k2 d_q00u_k3 d_q00u_k4
abbrev cfH (h : Heap) (k s cl : Int) (b w m : List UInt8) (k' s' cl' : Int) (b' w' m' : List UInt8) : Heap:=h ++ [.box [AI k,AI s,AI cl,AS b,AS w,AS m],.box [AI k',AI s',AI cl',AS b',AS w',AS m']]
theorem cf_k4 : d_q00u_k4 (ACall X) X.gl (.ref h.length 0) (.ref (h.length + 1) 0) (cfH h k s cl b w m k' s' cl' b' w' m') x Kx = Kx .ret ⟨[(2,AI (if (⟨k,s,cl,b,w,m⟩ : Cmd) = ⟨k',s',cl',b',w',m'⟩ then 0 else 3 : Nat))],cfH h k s cl b w m k' s' cl' b' w' m',x⟩:=by
  by_cases he : (⟨k,s,cl,b,w,m⟩ : Cmd) = ⟨k',s',cl',b',w',m'⟩
  · simp only [d_q00u_k4,go_sem,eqa6,he]
  · simp only [d_q00u_k4,go_sem,eqa6,he]
theorem cf_k3 : d_q00u_k3 (ACall X) X.gl q2 (.ref h.length 0) (.ref (h.length + 1) 0) (AI v9) (AB true) (cfH h k s cl b w m k 0 0 [] [] []) [] Kx =
    if stableB s = true then Kx .normal ⟨[(1,.ref h.length 0),(3,.ref (h.length + 1) 0),(20,AB false)],cfH h k s cl b w m k s 0 [] [] [],[]⟩ else Kx .ret ⟨[(2,AI 1)],cfH h k s cl b w m k s 0 [] [] [],[]⟩:=by
  rcases hs : stableB s with _ | _
  · simp only [d_q00u_k3,go_sem,s_stableQ,hs,splice]
  · simp only [d_q00u_k3,go_sem,s_stableQ,hs,splice]
theorem cf_k2 (hb : b.length ≤ 100000) : d_q00u_k2 (ACall X) X.gl q (.ref h.length 0) (.ref (h.length + 1) 0) (AI v9) (AB true) (cfH h k s cl b w m k 0 0 [] [] []) [] Kx =
    if bitsB b = true then (if 2000 < b.length then Kx .ret ⟨[(2,AI 2)],cfH h k s cl b w m k 0 0 b [] [],[]⟩ else Kx .normal ⟨[(1,.ref h.length 0),(3,.ref (h.length + 1) 0),(43,AB false)],cfH h k s cl b w m k 0 0 b [] [],[]⟩) else Kx .ret ⟨[(2,AI 9)],cfH h k s cl b w m k 0 0 b [] [],[]⟩:=by
  have k1:=fun (h' : Heap) (K' : Post)=>s_BitsQ (h:=h') (K:=K') b (by omega)
  rcases hs : bitsB b with _ | _
  · simp only [d_q00u_k2,go_sem,k1,hs,splice]
  · by_cases g1 : 2000 < b.length
    · have g2 : (2000 : Int) < (b.length : Int) := by omega
      simp only [d_q00u_k2,go_sem,k1,hs,g1,g2,splice]
    · have g2 : ¬ (2000 : Int) < (b.length : Int) := by omega
      simp only [d_q00u_k2,go_sem,k1,hs,g1,g2,splice]
theorem cf_k1 (hc : CmdOk ⟨k,s,cl,b,w,m⟩) : d_q00u_k1 (ACall X) X.gl (.ref h.length 0) (.ref (h.length + 1) 0) (AB true) (cfH h k s cl b w m k 0 0 [] [] []) [] Kx =
    if scanF ⟨k,s,cl,b,w,m⟩ = 0 then Kx .normal ⟨[(1,.ref h.length 0),(3,.ref (h.length + 1) 0),(4,AI 0),(63,AB false)],cfH h k s cl b w m k 0 0 b w m,[]⟩ else Kx .ret ⟨[(2,AI (scanF ⟨k,s,cl,b,w,m⟩ : Nat))],cfH h k s cl b w m k 0 0 b w m,[]⟩:=by
  have k2:=fun (h' : Heap) (K' : Post)=>s_scanFQ (h:=h') (K:=K') ⟨k,s,cl,b,w,m⟩ hc
  by_cases g1 : scanF ⟨k,s,cl,b,w,m⟩ = 0
  · simp only [d_q00u_k1,go_sem,k2,g1,splice]
  · have g2 : ¬ ((scanF ⟨k, s, cl, b, w, m⟩ : Nat) : Int) = 0 := by omega
    simp only [d_q00u_k1,go_sem,k2,g1,g2,splice]
set_option maxHeartbeats 4000000 in
theorem s_commandFault (c : Cmd) (hc : CmdOk c) : ACall X f_q00u [ACm c] h K = K (AI (cmdF c : Nat)) h []:=by
  refine rule ?_
  rw [c_q00u rfl]
  have b1:=hc.b
  obtain ⟨k,s,cl,b,w,m⟩:=c
  simp only at b1
  have st : ∀ k,(k = 1 ∨ k = 2 ∨ k = 10) → cmdF ⟨k,s,cl,b,w,m⟩ = if stableB s = true then (if (⟨k,s,cl,b,w,m⟩ : Cmd) = ⟨k,s,0,[],[],[]⟩ then 0 else 3) else 1:=fun k hk=>by
    unfold cmdF; dsimp only; rw [if_pos hk]; cases stableB s <;> simp
  have sc : ∀ k,(k = 7 ∨ k = 8) → cmdF ⟨k,s,cl,b,w,m⟩ = if scanF ⟨k,s,cl,b,w,m⟩ = 0 then (if (⟨k,s,cl,b,w,m⟩ : Cmd) = ⟨k,0,0,b,w,m⟩ then 0 else 3) else scanF ⟨k,s,cl,b,w,m⟩:=fun k hk=>by
    unfold cmdF; dsimp only; rw [if_neg (by omega),if_neg (by omega),if_pos hk]; split <;> simp_all
  have pd : ∀ k,3 ≤ k ∧ k ≤ 6 → cmdF ⟨k,s,cl,b,w,m⟩ = if bitsB b = true then (if 2000 < b.length then 2 else if (⟨k,s,cl,b,w,m⟩ : Cmd) = ⟨k,0,0,b,[],[]⟩ then 0 else 3) else 9:=fun k hk=>by
    unfold cmdF; dsimp only; rw [if_neg (by omega),if_neg (by omega),if_neg (by omega),if_pos hk]; cases bitsB b <;> simp
  by_cases h1 : k = 1
  · subst h1
    rw [st 1 (by omega)]
    simp only [d_q00u,go_sem,cf_k3,cf_k4,splice]
    split <;> simp only [go_sem,cf_k4] <;> rfl
  by_cases h2 : k = 2
  · subst h2
    rw [st 2 (by omega)]
    simp only [d_q00u,go_sem,cf_k3,cf_k4,splice]
    split <;> simp only [go_sem,cf_k4] <;> rfl
  by_cases h10 : k = 10
  · subst h10
    rw [st 10 (by omega)]
    simp only [d_q00u,go_sem,cf_k3,cf_k4,splice]
    split <;> simp only [go_sem,cf_k4] <;> rfl
  by_cases h9 : k = 9
  · subst h9
    by_cases g1 : 0 ≤ cl
    · by_cases g2 : cl ≤ 20000
      · have g3 : ¬ (cl < 0 ∨ 20000 < cl) := by omega
        rw [show cmdF ⟨9,s,cl,b,w,m⟩ = if (⟨9,s,cl,b,w,m⟩ : Cmd) = ⟨9,0,cl,[],[],[]⟩ then 0 else 3 by simp only [cmdF,g3]; simp]
        simp only [d_q00u,d_q00u_k3,go_sem,s_in,g1,g2,cf_k4,splice]
      · have g3 : cl < 0 ∨ 20000 < cl := by omega
        rw [show cmdF ⟨9,s,cl,b,w,m⟩ = 1 by simp [cmdF,g3]]
        simp only [d_q00u,d_q00u_k3,go_sem,s_in,g1,g2,splice]
    · have g3 : cl < 0 ∨ 20000 < cl := by omega
      rw [show cmdF ⟨9,s,cl,b,w,m⟩ = 1 by simp [cmdF,g3]]
      simp only [d_q00u,d_q00u_k3,go_sem,s_in,g1,splice]
  by_cases h3 : k = 3
  · subst h3
    rw [pd 3 (by omega)]
    simp only [d_q00u,d_q00u_k3,go_sem,cf_k2 (show b.length ≤ 100000 by omega),splice]
    split
    · split <;> simp only [go_sem,cf_k4] <;> rfl
    · simp only [go_sem] <;> rfl
  by_cases h4 : k = 4
  · subst h4
    rw [pd 4 (by omega)]
    simp only [d_q00u,d_q00u_k3,go_sem,cf_k2 (show b.length ≤ 100000 by omega),splice]
    split
    · split <;> simp only [go_sem,cf_k4] <;> rfl
    · simp only [go_sem] <;> rfl
  by_cases h5 : k = 5
  · subst h5
    rw [pd 5 (by omega)]
    simp only [d_q00u,d_q00u_k3,go_sem,cf_k2 (show b.length ≤ 100000 by omega),splice]
    split
    · split <;> simp only [go_sem,cf_k4] <;> rfl
    · simp only [go_sem] <;> rfl
  by_cases h6 : k = 6
  · subst h6
    rw [pd 6 (by omega)]
    simp only [d_q00u,d_q00u_k3,go_sem,cf_k2 (show b.length ≤ 100000 by omega),splice]
    split
    · split <;> simp only [go_sem,cf_k4] <;> rfl
    · simp only [go_sem] <;> rfl
  by_cases h7 : k = 7
  · subst h7
    rw [sc 7 (by omega)]
    simp only [d_q00u,d_q00u_k3,d_q00u_k2,go_sem,cf_k1 hc,splice]
    split <;> simp only [go_sem,cf_k4] <;> rfl
  by_cases h8 : k = 8
  · subst h8
    rw [sc 8 (by omega)]
    simp only [d_q00u,d_q00u_k3,d_q00u_k2,go_sem,cf_k1 hc,splice]
    split <;> simp only [go_sem,cf_k4] <;> rfl
  rw [show cmdF ⟨k,s,cl,b,w,m⟩ = 4 from cmdF_kind (by dsimp only; omega)]
  simp only [d_q00u,d_q00u_k3,d_q00u_k2,d_q00u_k1,go_sem,h1,h2,h3,h4,h5,h6,h7,h8,h9,h10,splice]
end Go.Am
end
section
/- Lists of faults: what is wrong with them,both ways. -/
open Go
set_option linter.all false
namespace Go.Am
variable {h : Heap} {K : Post}
end Go.Am
end
section
/- Rows of a test asv numbers. -/
open Go
set_option linter.all false
namespace Go.Am
variable {h : Heap} {K : Post}
end Go.Am
end
section
/- Faults on rows: what the program makes of them. -/
open Go
set_option linter.all false
namespace Go.Am
variable {h : Heap} {K : Post}
end Go.Am
end
section
/- Rows that are handed tov a function: it sees their values. -/
open Go
namespace Go.Am
end Go.Am
end
section
/- Responses,asv the program computes them. -/
open Go
set_option linter.all false
namespace Go.Am
variable {h : Heap} {K : Post}
end Go.Am
end
section
/- Sorting the middle of a row: printed by program. -/
open Go
set_option linter.unusedSimpArgs false
namespace Go.Am
attribute [-go_sem] PV.cells splice
variable {h : Heap} {K : Post}
end Go.Am
end
section
/- What is drawn: orders,tests. -/
open Go
set_option linter.all false
namespace Go.Am
variable {L : List Int} {a : Int} {h l : Heap} {id : Nat} {K : Post}
def GenK (f : Nat) (args : List AV) (L : List Int) (a : Int) (sh : Sh) (Q : List PV → Int → Prop) : Prop:=∀ (h : Heap) (id : Nat),h[id]? = some (strm L a) → ∃ xs a2,Q xs a2 ∧ ∀ K : Post,ACall X f (.ref id 0 :: args) h K = K (.own h.length xs.length 0 xs.length) (h.set id (strm L a2) ++ [.row sh xs 0]) []
theorem GenK.of {f : Nat} {args : List AV} {L : List Int} {a : Int} {sh : Sh} {Q : List PV → Int → Prop} (H : ∀ (h : Heap) (id : Nat),id < h.length → ACall X f (.ref id 0 :: args) (h.set id (strm L a)) fun v1 h1 x1=>∃ xs a2,Q xs a2 ∧ v1 = .own h.length xs.length 0 xs.length ∧ h1 = h.set id (strm L a2) ++ [.row sh xs 0] ∧ x1 = []) : GenK f args L a sh Q:=by
  intro h id hh
  have hid:=get_lt hh
  have k:=H h id hid
  rw [set_self hh] at k
  obtain ⟨v,h',x,⟨xs,a2,q,e0,e1,e2⟩,r⟩:=ACall.one X_noNext k
  subst e0; subst e1; subst e2
  exact ⟨xs,a2,q,r⟩
theorem s_Repeat (s : List UInt8) (c : Int) (h0 : 0 ≤ c) (hc : s.length * c.toNat ≤ 1000000) (h1 : c ≤ 1000000) : ACall X f_q01i [AS s,AI c] h K = K (AS (repL s c.toNat)) h []:=by
  refine lib_call (X:=X) (by kernel_rfl) ?_
  rw [X_ex2]
  exact libF_pure (vs:=[.str s,.int .i64 c]) (by kernel_rfl) (s:=repeatS) (by kernel_rfl) rfl (by simp only [repeatS]; rw [if_pos ⟨h0,hc,h1⟩])
end Go.Am
end
section
/- The reference: what is expected,the part of a command. -/
open Go
set_option linter.all false
namespace Go.Am
variable {h : Heap} {K : Post}
theorem repL_x (c : UInt8) : ∀ n,repL [c] n = List.replicate n c
  | 0=>rfl
  | n + 1=>by rw [repL,repL_x c n]; rfl
theorem s_RepX (n : Int) (h0 : 0 ≤ n) (h1 : n ≤ 1000000) : ACall X f_q01i [AS [120],AI n] h K = K (AS (xsL n.toNat)) h []:=by
  rw [s_Repeat [120] n h0 (by simp; omega) h1,repL_x]; rfl
theorem s_RepZ (n : Int) (h0 : 0 ≤ n) (h1 : n ≤ 1000000) : ACall X f_q01i [AS [48],AI n] h K = K (AS (zs n.toNat)) h []:=by
  rw [s_Repeat [48] n h0 (by simp; omega) h1,repL_x]; rfl
def expI (c : Cmd) (i : Nat) : List UInt8:=(List.range c.b.length).map fun j=>if j < i then expAt c j else 120
theorem expI_0 (c : Cmd) : expI c 0 = xsL c.b.length:=by
  unfold expI xsL
  apply List.ext_getElem
  · simp
  · intro i h1 h2; simp
theorem expI_len (c : Cmd) (i : Nat) : (expI c i).length = c.b.length:=by simp [expI]
theorem expI_end (c : Cmd) : expI c c.m.length = expC c:=by
  unfold expI expC
  apply List.map_congr_left
  intro j _
  split
  · rfl
  · rename_i h
    unfold expAt
    rw [List.getElem?_eq_none (by omega)]; rfl
theorem expI_succ (c : Cmd) (i : Nat) (hi : i < c.b.length) : expI c (i + 1) = (expI c i).set i (expAt c i):=by
  apply List.ext_getElem
  · simp [expI]
  · intro j h1 h2
    simp only [expI,List.length_map,List.length_range] at h1
    rw [List.getElem_set]
    simp only [expI,List.getElem_map,List.getElem_range]
    by_cases hj : i = j
    · subst hj; simp
    · rw [if_neg hj]
      by_cases h3 : j < i
      · rw [if_pos h3,if_pos (by omega)]
      · rw [if_neg h3,if_neg (by omega)]
theorem expI_same (c : Cmd) (i : Nat) (hn : c.m[i]? ≠ some 49) : expI c (i + 1) = expI c i:=by
  unfold expI
  apply List.map_congr_left
  intro j _
  by_cases hj : j = i
  · subst hj
    simp [expAt,hn]
  · by_cases h3 : j < i
    · rw [if_pos h3,if_pos (by omega)]
    · rw [if_neg h3,if_neg (by omega)]
theorem s_expected (c : Cmd) (hl : c.b.length ≤ 100000) (hm : c.m.length ≤ c.b.length) (hw : c.m.length ≤ c.w.length) : ACall X f_q00v [ACm c] h K = K (AS (expC c)) h []:=by
  refine rule ?_
  rw [c_q00v rfl]
  have hmx : c.b.length ≤ maxSl:=by unfold maxSl; omega
  have hx : (xsL c.b.length).length = c.b.length:=by simp [xsL]
  have r1:=fun (h' : Heap) (K' : Post)=>s_RepX (h:=h') (K:=K') (c.b.length : Int) (by omega) (by omega)
  simp only [Int.toNat_natCast] at r1
  simp only [d_q00v,go_sem,r1,hx,hmx]
  refine N_loop (fun i : Nat=>⟨[(1,.ref h.length 0),(3,.own (h.length + 1) c.b.length 0 c.b.length),(12,AI c.m.length),(13,AI i)],h ++ [.box [AI c.k,AI c.s,AI c.cl,AS c.b,AS c.w,AS c.m],.row none (bytesP (expI c i)) 0],[]⟩) (fun i=>i ≤ c.m.length) (fun i=>c.m.length - i) 0 (by rw [expI_0]; rfl) (by omega) ?_
  intro i hi
  have hbl : (bytesP (expI c i)).length = c.b.length:=by simp [bytesP,expI_len]
  rcases Nat.lt_or_ge i c.m.length with hlt | hge
  · have hlt' : (i : Int) < (c.m.length : Int) := by omega
    have hg : c.m[i]? = some c.m[i]:=List.getElem?_eq_getElem hlt
    have hgw : c.w[i]? = some (c.w[i]'(by omega)):=List.getElem?_eq_getElem (by omega)
    have w2 : IntKind.i64.wrap ((i : Int) + 1) = ((i + 1 : Nat) : Int):=i64_wrap _ (by omega) (by omega)
    by_cases h49 : c.m[i] = 49
    · have hb' : i < c.b.length := by omega
      have hgb : (bytesP (expI c i))[i]? = some (.int .u8 ((expI c i)[i]'(by rw [expI_len]; omega)).toNat):=by
        unfold bytesP; rw [List.getElem?_map,List.getElem?_eq_getElem (by rw [expI_len]; omega)]; rfl
      have t1:=fun (y : Int) (h1 : Heap)=>shp_st (sh:=none) (x:=.int .u8 ((c.w[i]'(by omega)).toNat : Int)) (y:=.int .u8 y) rfl rfl (h.length + 1) i 0 (bytesP (expI c i)) h1
      have e49 : ((49 : UInt8).toNat : Int) = 49:=rfl
      simp only [go_sem,hlt,hlt',hg,h49,w2,hgw,hbl,hb',hgb,t1,e49]
      refine ⟨i + 1,?_,by omega,by omega⟩
      have e1 : expAt c i = c.w[i]'(by omega):=by unfold expAt; rw [hg,h49,hgw]; rfl
      have e2 : bytesP (expI c (i + 1)) = (bytesP (expI c i)).set i (.int .u8 ((c.w[i]'(by omega)).toNat : Int)):=by
        rw [expI_succ c i hb',e1]; unfold bytesP; rw [List.map_set]
      rw [e2]
    · have h49' : ¬ ((c.m[i].toNat : Int) = 49) := fun e => h49 (UInt8.toNat_inj.1 (by rw [show (49 : UInt8).toNat = 49 from rfl]; omega))
      simp only [go_sem,hlt,hlt',hg,h49',w2]
      refine ⟨i + 1,?_,by omega,by omega⟩
      rw [expI_same c i (by rw [hg]; exact fun e=>h49 (Option.some.inj e))]
  · obtain rfl : i = c.m.length := by omega
    have hw0 : win (bytesP (expI c c.m.length)) 0 c.b.length = bytesP (expI c c.m.length):=by
      unfold win; rw [List.drop_zero]; exact List.take_of_length_le (by omega)
    have hbe : (bytesP (expC c)).length = c.b.length:=by rw [← expI_end]; exact hbl
    have hwe : win (bytesP (expC c)) 0 c.b.length = bytesP (expC c):=by rw [← expI_end]; exact hw0
    simp only [go_sem,Nat.lt_irrefl,Int.lt_irrefl,hbl,hw0,toBytes_bytesP,expI_end,hbe,hwe]
abbrev partP (p : Part) : PV:=.agg [.str p.tms,.str p.tdi,.str p.want,.int .i64 (p.fr : Int),.int .i64 (p.st : Int)]
theorem lastKind_map (l : List Cmd) (k : Int) : lastKind (l.map cmdP) k = cmdP (setC l k):=by
  unfold lastKind setC
  rw [← List.map_reverse,List.find?_map]
  have : ((fun c=>cmdKind c == k) ∘ cmdP) = fun c : Cmd=>c.k == k:=rfl
  rw [this]
  cases (l.reverse.find? fun c=>c.k == k) with
  | none=>rfl
  | some c=>rfl
theorem isCmd_map (l : List Cmd) : (l.map cmdP).all isCmd = true:=by
  rw [List.all_map]; exact List.all_eq_true.2 fun x _=>rfl
abbrev ACs (l : List Cmd) : AV:=.p (.sl (some 6) (l.map cmdP))
theorem s_setting (l : List Cmd) (i : Nat) (k : Int) (hi : i ≤ l.length) (hl : l.length ≤ 1000000) : ACall X f_q011 [ACs l,AI i,AI k] h K = K (ACm (setC (l.take i) k)) h []:=by
  have e : settingS [.sl (some 6) (l.map cmdP),.int .i64 (i : Int),.int .i64 k] = some (ACm (setC (l.take i) k)):=by
    show (if 0 ≤ (i : Int) ∧ (i : Int) ≤ ((l.map cmdP).length : Int) ∧ (l.map cmdP).length ≤ 1000000 ∧ (l.map cmdP).all isCmd = true then some (AV.p (lastKind ((l.map cmdP).take (i : Int).toNat) k)) else none) = _
    rw [if_pos ⟨by omega,by simp; omega,by simpa using hl,isCmd_map l⟩,Int.toNat_natCast,← List.map_take,lastKind_map]
  refine lib_call (X:=X) (by kernel_rfl) ?_
  rw [X_ex2]
  exact libF_pure (vs:=[.sl (some 6) (l.map cmdP),.int .i64 (i : Int),.int .i64 k]) (by kernel_rfl) (s:=settingS) (by kernel_rfl) rfl e
structure SetOk (pre : List Cmd) : Prop where
  s1 : stableB (setC pre 1).s = true
  s2 : stableB (setC pre 2).s = true
  b1 : ∀ k,3 ≤ k → k ≤ 6 → bitsB (setC pre k).b = true ∧ (setC pre k).b.length ≤ 2000
attribute [-go_sem] oEqa d_q00y_k3
variable {Kx : Ex → St → Prop}
theorem pk3 {T D W : List UInt8} {fr st : Int} {z1 z2 z3 z4 z5 c1 c2 c3 c4 c5 c6 : AV} (hD : D.length ≤ T.length) (hW : W.length ≤ T.length) (hT : T.length ≤ 1000000) :
    d_q00y_k3 (ACall X) X.gl (.ref h.length 0) (.ref (h.length + 2) 0) (h ++ [.box [z1,z2,z3,z4,z5],.box [c1,c2,c3,c4,c5,c6],.box [AS T,AS D,AS W,AI fr,AI st]]) [] Kx =
      Kx .ret ⟨[(6,.ref h.length 0)],h ++ [.box [AS T,AS (D ++ zs (T.length - D.length)),AS (W ++ xsL (T.length - W.length)),AI fr,AI st],.box [c1,c2,c3,c4,c5,c6],.box [AS T,AS (D ++ zs (T.length - D.length)),AS (W ++ xsL (T.length - W.length)),AI fr,AI st]],[]⟩:=by
  have hz : ∀ n,(zs n).length = n:=fun n=>by simp [zs]
  have hx : ∀ n,(xsL n).length = n:=fun n=>by simp [xsL]
  have w3 : IntKind.i64.wrap ((T.length : Int) - (D.length : Int)) = ((T.length - D.length : Nat) : Int):=by
    rw [show (T.length : Int) - (D.length : Int) = ((T.length - D.length : Nat) : Int) by omega]; exact i64_wrap _ (by omega) (by omega)
  have w4 : IntKind.i64.wrap ((T.length : Int) - (W.length : Int)) = ((T.length - W.length : Nat) : Int):=by
    rw [show (T.length : Int) - (W.length : Int) = ((T.length - W.length : Nat) : Int) by omega]; exact i64_wrap _ (by omega) (by omega)
  have r4:=fun (h' : Heap) (K' : Post)=>s_RepZ (h:=h') (K:=K') ((T.length - D.length : Nat) : Int) (by omega) (by omega)
  have r5:=fun (h' : Heap) (K' : Post)=>s_RepX (h:=h') (K:=K') ((T.length - W.length : Nat) : Int) (by omega) (by omega)
  simp only [Int.toNat_natCast] at r4 r5
  have lD2 : D.length + (zs (T.length - D.length)).length ≤ maxStr:=by rw [hz]; unfold maxStr; omega
  have lW2 : W.length + (xsL (T.length - W.length)).length ≤ maxStr:=by rw [hx]; unfold maxStr; omega
  generalize zs (T.length - D.length) = Z at r4 lD2 ⊢
  generalize xsL (T.length - W.length) = Z2 at r5 lW2 ⊢
  simp only [d_q00y_k3,go_sem,splice,w3,w4,r4,r5,lD2,lW2]
set_option maxHeartbeats 4000000 in
theorem s_partGo (l : List Cmd) (i : Nat) (c : Cmd) (hi : l[i]? = some c) (h10 : c.k = 10) (hs : stableB c.s = true) (state : Nat) (hst : state ∈ stb) :
    ACall X f_q00y [ACs l,AI i,AI state] h K = K (.p (partP (partC pathV (l.take i) c state))) h []:=by
  refine rule ?_
  rw [c_q00y rfl]
  obtain ⟨n1,n2⟩:=stable_mem hs
  have hg : (l.map cmdP)[i]? = some (cmdP c):=by rw [List.getElem?_map,hi]; rfl
  have hilt : i < l.length:=by
    rcases Nat.lt_or_ge i l.length with h | h
    · exact h
    · rw [List.getElem?_eq_none h] at hi; cases hi
  rw [part_go pathV h10]
  obtain ⟨k,s,cl,b,w,m⟩:=c
  dsimp only at h10 hs n1 n2 hg ⊢
  obtain ⟨n,rfl⟩ : ∃ n : Nat,s = n:=⟨s.toNat,n2.symm⟩
  simp only [Int.toNat_natCast] at n1 ⊢
  have p1:=fun (h' : Heap) (K' : Post)=>s_Way (h:=h') (K:=K') (stb_fr hst) (stb_to n1)
  have pl:=(path_facts (stb_fr hst) (stb_to n1)).2.1
  subst h10
  generalize pathV state n = w at p1 pl ⊢
  have e1 : partP ⟨w,zs w.length,xsL w.length,0,n⟩ = partP (padP ⟨w,[],[],0,n⟩):=by rw [padP_go0]
  rw [e1]
  unfold padP partP
  dsimp only
  have P3:=fun (z1 z2 z3 z4 z5 c1 c2 c3 c4 c5 c6 : AV) (Kx : Ex → St → Prop)=>pk3 (h:=h) (Kx:=Kx) (T:=w) (D:=[]) (W:=[]) (fr:=0) (st:=n) (z1:=z1) (z2:=z2) (z3:=z3) (z4:=z4) (z5:=z5) (c1:=c1) (c2:=c2) (c3:=c3) (c4:=c4) (c5:=c5) (c6:=c6) (Nat.zero_le _) (Nat.zero_le _) (by omega)
  simp only [d_q00y,go_sem,len2,hg,hilt,p1,P3]
end Go.Am
end
section
/- The reference: the part of a command that waits,or sets something. -/
open Go
set_option linter.all false
namespace Go.Am
variable {h : Heap} {K : Post}
attribute [-go_sem] oEqa d_q00y_k3 d_q00y_k1
set_option maxHeartbeats 4000000 in
theorem s_partIdle (l : List Cmd) (i : Nat) (c : Cmd) (hi : l[i]? = some c) (h9 : c.k = 9) (h0 : 0 ≤ c.cl) (h1 : c.cl ≤ 20000) (state : Nat) (hst : state ∈ stb) :
    ACall X f_q00y [ACs l,AI i,AI state] h K = K (.p (partP (partC pathV (l.take i) c state))) h []:=by
  refine rule ?_
  rw [c_q00y rfl]
  have hg : (l.map cmdP)[i]? = some (cmdP c):=by rw [List.getElem?_map,hi]; rfl
  have hilt : i < l.length:=by
    rcases Nat.lt_or_ge i l.length with h | h
    · exact h
    · rw [List.getElem?_eq_none h] at hi; cases hi
  rw [part_idle pathV h9]
  obtain ⟨k,s,cl,b,w,m⟩:=c
  dsimp only at h9 h0 h1 hg ⊢
  obtain ⟨n,rfl⟩ : ∃ n : Nat,cl = n:=⟨cl.toNat,by omega⟩
  simp only [Int.toNat_natCast]
  have ht : (1 : Nat) ∈ toS:=by decide
  have p1 : ∀ (h' : Heap) (K' : Post),ACall X f_q00m [AI state,AI 1] h' K' = K' (AS (pathV state 1)) h' []:=fun h' K'=>s_Way (h:=h') (K:=K') (stb_fr hst) ht
  have pl:=(path_facts (stb_fr hst) ht).2.1
  subst h9
  generalize pathV state 1 = w1 at p1 pl ⊢
  have hz : ∀ n,(zs n).length = n:=fun n=>by simp [zs]
  have r0:=fun (h' : Heap) (K' : Post)=>s_RepZ (h:=h') (K:=K') (n : Int) (by omega) (by omega)
  simp only [Int.toNat_natCast] at r0
  have l0 : w1.length + n ≤ maxStr:=by simp [maxStr]; omega
  have l0' : w1.length + (zs n).length ≤ maxStr:=by rw [hz]; exact l0
  have l3 : (w1 ++ zs n).length = w1.length + n:=by rw [List.length_append,hz]
  have P3:=fun (z1 z2 z3 z4 z5 c1 c2 c3 c4 c5 c6 : AV) (Kx : Ex → St → Prop)=>pk3 (h:=h) (Kx:=Kx) (T:=w1 ++ zs n) (D:=[]) (W:=[]) (fr:=0) (st:=1) (z1:=z1) (z2:=z2) (z3:=z3) (z4:=z4) (z5:=z5) (c1:=c1) (c2:=c2) (c3:=c3) (c4:=c4) (c5:=c5) (c6:=c6) (Nat.zero_le _) (Nat.zero_le _) (by omega)
  rw [← padP_go]
  unfold padP partP
  dsimp only
  generalize hT : w1 ++ zs n = T at P3 ⊢
  simp only [d_q00y,go_sem,len2,hg,hilt,p1,r0,l0,l0',hT,P3]
end Go.Am
end
section
/- The reference: the part of a command that sets something. -/
open Go
set_option linter.all false
namespace Go.Am
variable {h : Heap} {K : Post}
attribute [-go_sem] oEqa d_q00y_k3 d_q00y_k1
set_option maxHeartbeats 4000000 in
theorem s_partNone (l : List Cmd) (i : Nat) (c : Cmd) (hi : l[i]? = some c) (h6 : c.k ≤ 6) (state : Nat) :
    ACall X f_q00y [ACs l,AI i,AI state] h K = K (.p (partP (partC pathV (l.take i) c state))) h []:=by
  refine rule ?_
  rw [c_q00y rfl]
  have hg : (l.map cmdP)[i]? = some (cmdP c):=by rw [List.getElem?_map,hi]; rfl
  have hilt : i < l.length:=by
    rcases Nat.lt_or_ge i l.length with h | h
    · exact h
    · rw [List.getElem?_eq_none h] at hi; cases hi
  rw [part_none pathV h6]
  obtain ⟨k,s,cl,b,w,m⟩:=c
  dsimp only at h6 hg ⊢
  have k10 : ¬ k = 10:=by omega
  have k9 : ¬ k = 9:=by omega
  have k7 : ¬ k = 7:=by omega
  have k8 : ¬ k = 8:=by omega
  have P3:=fun (z1 z2 z3 z4 z5 c1 c2 c3 c4 c5 c6 : AV) (Kx : Ex → St → Prop)=>pk3 (h:=h) (Kx:=Kx) (T:=[]) (D:=[]) (W:=[]) (fr:=0) (st:=state) (z1:=z1) (z2:=z2) (z3:=z3) (z4:=z4) (z5:=z5) (c1:=c1) (c2:=c2) (c3:=c3) (c4:=c4) (c5:=c5) (c6:=c6) (Nat.zero_le _) (Nat.zero_le _) (Nat.zero_le _)
  simp only [d_q00y,go_sem,len2,hg,hilt,k10,k9,k7,k8,P3]
  rfl
end Go.Am
end
section
/- The reference: the part of a scan. -/
open Go
set_option linter.all false
namespace Go.Am
variable {h : Heap} {K : Post} {Kx : Ex → St → Prop}
attribute [-go_sem] oEqa d_q00y_k3 d_q00y_k1
set_option maxHeartbeats 8000000 in
theorem pk1 {z1 z2 z3 z4 z5 : AV} (l : List Cmd) (i : Nat) (c : Cmd) (hi : i ≤ l.length) (hs : scanF c = 0) (hl : l.length ≤ 1000000) (state sh ex : Nat) (a b e : Int) (n1 : stableB (setC (l.take i) e).s = true) (hst : state ∈ stb) (m1 : sh ∈ toS) (m2 : ex ∈ frS)
    (b1 : (setC (l.take i) a).b.length ≤ 2000) (b2 : (setC (l.take i) b).b.length ≤ 2000) :
    d_q00y_k1 (ACall X) X.gl (ACs l) (AI i) (AI state) (.ref h.length 0) (.ref (h.length + 1) 0) (.ref (h.length + 2) 0) (AI sh) (AI ex) (.p (.sl none [.int .i64 a,.int .i64 b,.int .i64 e]))
      (h ++ [.box [z1,z2,z3,z4,z5],.box [AI c.k,AI c.s,AI c.cl,AS c.b,AS c.w,AS c.m],.box [AS [],AS [],AS [],AI 0,AI state]]) [] Kx =
    Kx .normal ⟨[(6,.ref h.length 0),(8,.ref (h.length + 2) 0)],h ++ [.box [z1,z2,z3,z4,z5],.box [AI c.k,AI c.s,AI c.cl,AS c.b,AS c.w,AS c.m],
      .box [AS (scanP pathV c state sh ex (setC (l.take i) a).b (setC (l.take i) b).b (setC (l.take i) e).s.toNat).tms,AS (scanP pathV c state sh ex (setC (l.take i) a).b (setC (l.take i) b).b (setC (l.take i) e).s.toNat).tdi,AS (scanP pathV c state sh ex (setC (l.take i) a).b (setC (l.take i) b).b (setC (l.take i) e).s.toNat).want,
        AI ((scanP pathV c state sh ex (setC (l.take i) a).b (setC (l.take i) b).b (setC (l.take i) e).s.toNat).fr : Nat),AI ((setC (l.take i) e).s.toNat : Nat)]],[]⟩:=by
  obtain ⟨q1,q2,q3,q4,q5,q6⟩:=scanF_ok hs
  have hm : c.m.length ≤ c.b.length:=by rcases q6 with ⟨_,h⟩ | ⟨_,h⟩ <;> simp [h]
  have hw : c.m.length ≤ c.w.length:=by rcases q6 with ⟨h0,h⟩ | ⟨h0,h⟩ <;> simp [h0,h]
  obtain ⟨n1,n2⟩:=stable_mem n1
  have x1:=fun (h' : Heap) (K' : Post)=>s_setting (h:=h') (K:=K') l i a hi hl
  have x2:=fun (h' : Heap) (K' : Post)=>s_setting (h:=h') (K:=K') l i b hi hl
  have x3:=fun (h' : Heap) (K' : Post)=>s_setting (h:=h') (K:=K') l i e hi hl
  generalize setC (l.take i) a = ca at x1 b1 ⊢
  generalize setC (l.take i) b = cb at x2 b2 ⊢
  generalize setC (l.take i) e = ce at x3 n1 n2 ⊢
  obtain ⟨ak,as_,acl,hd,aw,am⟩:=ca
  obtain ⟨bk,bs,bcl,tl,bw,bm⟩:=cb
  obtain ⟨ek,es,ecl,eb,ew,em⟩:=ce
  have x4:=fun (h' : Heap) (K' : Post)=>s_expected (h:=h') (K:=K') c (by omega) hm hw
  dsimp only at n1 n2 x1 x2 x3 b1 b2 ⊢
  obtain ⟨n,rfl⟩ : ∃ n : Nat,es = n:=⟨es.toNat,n2.symm⟩
  simp only [Int.toNat_natCast] at n1 ⊢
  have p1 : ∀ (h' : Heap) (K' : Post),ACall X f_q00m [AI state,AI sh] h' K' = K' (AS (pathV state sh)) h' []:=fun h' K'=>s_Way (h:=h') (K:=K') (stb_fr hst) m1
  have p2 : ∀ (h' : Heap) (K' : Post),ACall X f_q00m [AI ex,AI n] h' K' = K' (AS (pathV ex n)) h' []:=fun h' K'=>s_Way (h:=h') (K:=K') m2 (stb_to n1)
  have pl1:=(path_facts (stb_fr hst) m1).2.1
  have pl2:=(path_facts m2 (stb_to n1)).2.1
  unfold scanP
  dsimp only
  generalize pathV state sh = P1 at p1 pl1 ⊢
  generalize pathV ex n = P2 at p2 pl2 ⊢
  obtain ⟨k,s,cl,b',w,m⟩:=c
  dsimp only at q1 q3 hm hw x4 ⊢
  have hpos:=List.length_pos_iff.2 q1
  have hal : (hd ++ b' ++ tl).length = hd.length + b'.length + tl.length:=by simp only [List.length_append]
  generalize hale : hd ++ b' ++ tl = al at hal ⊢
  have hz : ∀ n,(zs n).length = n:=fun n=>by simp [zs]
  have hx : ∀ n,(xsL n).length = n:=fun n=>by simp [xsL]
  have hec : (expC ⟨k,s,cl,b',w,m⟩).length = b'.length:=by simp [expC]
  generalize expC ⟨k,s,cl,b',w,m⟩ = ec at x4 hec ⊢
  have w1 : IntKind.i64.wrap ((al.length : Int) - 1) = ((al.length - 1 : Nat) : Int):=by
    rw [show (al.length : Int) - 1 = ((al.length - 1 : Nat) : Int) by omega]; exact i64_wrap _ (by omega) (by omega)
  have w2 : IntKind.i64.wrap ((P1.length : Int) + (hd.length : Int)) = ((P1.length + hd.length : Nat) : Int):=by
    rw [show (P1.length : Int) + (hd.length : Int) = ((P1.length + hd.length : Nat) : Int) by omega]; exact i64_wrap _ (by omega) (by omega)
  have r1:=fun (h' : Heap) (K' : Post)=>s_RepZ (h:=h') (K:=K') ((al.length - 1 : Nat) : Int) (by omega) (by omega)
  have r2:=fun (h' : Heap) (K' : Post)=>s_RepZ (h:=h') (K:=K') (P1.length : Int) (by omega) (by omega)
  have r3:=fun (h' : Heap) (K' : Post)=>s_RepX (h:=h') (K:=K') ((P1.length + hd.length : Nat) : Int) (by omega) (by omega)
  simp only [Int.toNat_natCast] at r1 r2 r3
  have lT2b : P1.length + (zs (al.length - 1)).length + 1 ≤ maxStr:=by rw [hz]; unfold maxStr; omega
  have lT1 : P1.length + (zs (al.length - 1)).length ≤ maxStr:=by rw [hz]; unfold maxStr; omega
  have lT2 : (P1 ++ zs (al.length - 1)).length + 1 ≤ maxStr:=by rw [List.length_append,hz]; unfold maxStr; omega
  have lT3 : (P1 ++ zs (al.length - 1) ++ [49]).length + P2.length ≤ maxStr:=by simp only [List.length_append,hz,List.length_singleton]; unfold maxStr; omega
  have lT3b : P1.length + ((zs (al.length - 1)).length + 1) + P2.length ≤ maxStr:=by rw [hz]; unfold maxStr; omega
  have lD : (zs P1.length).length + al.length ≤ maxStr:=by rw [hz]; unfold maxStr; omega
  have lW : (xsL (P1.length + hd.length)).length + ec.length ≤ maxStr:=by rw [hx,hec]; unfold maxStr; omega
  have la : hd.length + b'.length ≤ maxStr:=by unfold maxStr; omega
  have lbn : hd.length + b'.length + tl.length ≤ maxStr:=by unfold maxStr; omega
  have lb : (hd ++ b').length + tl.length ≤ maxStr:=by rw [List.length_append]; unfold maxStr; omega
  have hTn : P1 ++ (zs (al.length - 1) ++ 49 :: P2) = P1 ++ zs (al.length - 1) ++ [49] ++ P2:=by simp
  generalize hTe : P1 ++ zs (al.length - 1) ++ [49] ++ P2 = T at hTn ⊢
  clear hTe
  simp (config:={maxSteps:=4000000}) only [d_q00y_k1,go_sem,splice,x1,x2,x3,x4,p1,p2,w1,w2,r1,r2,r3,hale,hTn,lT2b,lT3b,lbn,lT1,lT2,lT3,lD,lW,la,lb]
end Go.Am
end
section
/- The reference: the part of a scan. -/
open Go
set_option linter.all false
namespace Go.Am
variable {h : Heap} {K : Post}
attribute [-go_sem] oEqa d_q00y_k3 d_q00y_k1
set_option maxHeartbeats 4000000 in
theorem s_partIR (l : List Cmd) (i : Nat) (c : Cmd) (hi : l[i]? = some c) (h7 : c.k = 7) (hs : scanF c = 0) (hl : l.length ≤ 1000000) (S : SetOk (l.take i)) (state : Nat) (hst : state ∈ stb) :
    ACall X f_q00y [ACs l,AI i,AI state] h K = K (.p (partP (partC pathV (l.take i) c state))) h []:=by
  refine rule ?_
  rw [c_q00y rfl]
  have hg : (l.map cmdP)[i]? = some (cmdP c):=by rw [List.getElem?_map,hi]; rfl
  have hilt : i < l.length:=by
    rcases Nat.lt_or_ge i l.length with h | h
    · exact h
    · rw [List.getElem?_eq_none h] at hi; cases hi
  obtain ⟨q1,q2,q3,q4,q5,q6⟩:=scanF_ok hs
  have ep : partC pathV (l.take i) c state = padP (scanP pathV c state 11 12 (setC (l.take i) 3).b (setC (l.take i) 4).b (setC (l.take i) 1).s.toNat):=by
    unfold partC
    rw [if_neg (by omega),if_neg (by omega),if_pos h7]
  rw [ep]
  obtain ⟨_,b1⟩:=S.b1 3 (by omega) (by omega)
  obtain ⟨_,b2⟩:=S.b1 4 (by omega) (by omega)
  obtain ⟨n1,n2⟩:=stable_mem S.s1
  have P1:=fun (z1 z2 z3 z4 z5 : AV) (Kx : Ex → St → Prop)=>pk1 (h:=h) (z1:=z1) (z2:=z2) (z3:=z3) (z4:=z4) (z5:=z5) (Kx:=Kx) l i c (by omega) hs hl state 11 12 3 4 1 S.s1 hst (by decide) (by decide) b1 b2
  have pl1:=(path_facts (stb_fr hst) (show 11 ∈ toS by decide)).2.1
  have pl2:=(path_facts (show 12 ∈ frS by decide) (stb_to n1)).2.1
  have hz : ∀ n,(zs n).length = n:=fun n=>by simp [zs]
  have hx : ∀ n,(xsL n).length = n:=fun n=>by simp [xsL]
  have hec : (expC c).length = c.b.length:=by simp [expC]
  have hpos:=List.length_pos_iff.2 q1
  have lens : (scanP pathV c state 11 12 (setC (l.take i) 3).b (setC (l.take i) 4).b (setC (l.take i) 1).s.toNat).tdi.length ≤ (scanP pathV c state 11 12 (setC (l.take i) 3).b (setC (l.take i) 4).b (setC (l.take i) 1).s.toNat).tms.length ∧
      (scanP pathV c state 11 12 (setC (l.take i) 3).b (setC (l.take i) 4).b (setC (l.take i) 1).s.toNat).want.length ≤ (scanP pathV c state 11 12 (setC (l.take i) 3).b (setC (l.take i) 4).b (setC (l.take i) 1).s.toNat).tms.length ∧
      (scanP pathV c state 11 12 (setC (l.take i) 3).b (setC (l.take i) 4).b (setC (l.take i) 1).s.toNat).tms.length ≤ 1000000:=by
    unfold scanP
    simp only [List.length_append,hz,hx,hec,List.length_singleton]
    omega
  have est : (scanP pathV c state 11 12 (setC (l.take i) 3).b (setC (l.take i) 4).b (setC (l.take i) 1).s.toNat).st = (setC (l.take i) 1).s.toNat:=rfl
  generalize scanP pathV c state 11 12 (setC (l.take i) 3).b (setC (l.take i) 4).b (setC (l.take i) 1).s.toNat = p at P1 lens est ⊢
  rw [← est] at P1
  obtain ⟨l1,l2,l3⟩:=lens
  have P3:=fun (z1 z2 z3 z4 z5 c1 c2 c3 c4 c5 c6 : AV) (Kx : Ex → St → Prop)=>pk3 (h:=h) (Kx:=Kx) (T:=p.tms) (D:=p.tdi) (W:=p.want) (fr:=(p.fr : Nat)) (st:=(p.st : Nat)) (z1:=z1) (z2:=z2) (z3:=z3) (z4:=z4) (z5:=z5) (c1:=c1) (c2:=c2) (c3:=c3) (c4:=c4) (c5:=c5) (c6:=c6) l1 l2 l3
  obtain ⟨k,s,cl,b',w,m⟩:=c
  dsimp only at h7 hg P1 ⊢
  subst h7
  simp only [show ((11 : Nat) : Int) = 11 from rfl,show ((12 : Nat) : Int) = 12 from rfl] at P1
  unfold padP partP
  dsimp only
  simp only [d_q00y,go_sem,len2,hg,hilt,P1,P3]
set_option maxHeartbeats 4000000 in
theorem s_partDR (l : List Cmd) (i : Nat) (c : Cmd) (hi : l[i]? = some c) (h7 : c.k = 8) (hs : scanF c = 0) (hl : l.length ≤ 1000000) (S : SetOk (l.take i)) (state : Nat) (hst : state ∈ stb) :
    ACall X f_q00y [ACs l,AI i,AI state] h K = K (.p (partP (partC pathV (l.take i) c state))) h []:=by
  refine rule ?_
  rw [c_q00y rfl]
  have hg : (l.map cmdP)[i]? = some (cmdP c):=by rw [List.getElem?_map,hi]; rfl
  have hilt : i < l.length:=by
    rcases Nat.lt_or_ge i l.length with h | h
    · exact h
    · rw [List.getElem?_eq_none h] at hi; cases hi
  obtain ⟨q1,q2,q3,q4,q5,q6⟩:=scanF_ok hs
  have ep : partC pathV (l.take i) c state = padP (scanP pathV c state 4 5 (setC (l.take i) 5).b (setC (l.take i) 6).b (setC (l.take i) 2).s.toNat):=by
    unfold partC
    rw [if_neg (by omega),if_neg (by omega),if_neg (by omega),if_pos h7]
  rw [ep]
  obtain ⟨_,b1⟩:=S.b1 5 (by omega) (by omega)
  obtain ⟨_,b2⟩:=S.b1 6 (by omega) (by omega)
  obtain ⟨n1,n2⟩:=stable_mem S.s2
  have P1:=fun (z1 z2 z3 z4 z5 : AV) (Kx : Ex → St → Prop)=>pk1 (h:=h) (z1:=z1) (z2:=z2) (z3:=z3) (z4:=z4) (z5:=z5) (Kx:=Kx) l i c (by omega) hs hl state 4 5 5 6 2 S.s2 hst (by decide) (by decide) b1 b2
  have pl1:=(path_facts (stb_fr hst) (show 4 ∈ toS by decide)).2.1
  have pl2:=(path_facts (show 5 ∈ frS by decide) (stb_to n1)).2.1
  have hz : ∀ n,(zs n).length = n:=fun n=>by simp [zs]
  have hx : ∀ n,(xsL n).length = n:=fun n=>by simp [xsL]
  have hec : (expC c).length = c.b.length:=by simp [expC]
  have hpos:=List.length_pos_iff.2 q1
  have lens : (scanP pathV c state 4 5 (setC (l.take i) 5).b (setC (l.take i) 6).b (setC (l.take i) 2).s.toNat).tdi.length ≤ (scanP pathV c state 4 5 (setC (l.take i) 5).b (setC (l.take i) 6).b (setC (l.take i) 2).s.toNat).tms.length ∧
      (scanP pathV c state 4 5 (setC (l.take i) 5).b (setC (l.take i) 6).b (setC (l.take i) 2).s.toNat).want.length ≤ (scanP pathV c state 4 5 (setC (l.take i) 5).b (setC (l.take i) 6).b (setC (l.take i) 2).s.toNat).tms.length ∧
      (scanP pathV c state 4 5 (setC (l.take i) 5).b (setC (l.take i) 6).b (setC (l.take i) 2).s.toNat).tms.length ≤ 1000000:=by
    unfold scanP
    simp only [List.length_append,hz,hx,hec,List.length_singleton]
    omega
  have est : (scanP pathV c state 4 5 (setC (l.take i) 5).b (setC (l.take i) 6).b (setC (l.take i) 2).s.toNat).st = (setC (l.take i) 2).s.toNat:=rfl
  generalize scanP pathV c state 4 5 (setC (l.take i) 5).b (setC (l.take i) 6).b (setC (l.take i) 2).s.toNat = p at P1 lens est ⊢
  rw [← est] at P1
  obtain ⟨l1,l2,l3⟩:=lens
  have P3:=fun (z1 z2 z3 z4 z5 c1 c2 c3 c4 c5 c6 : AV) (Kx : Ex → St → Prop)=>pk3 (h:=h) (Kx:=Kx) (T:=p.tms) (D:=p.tdi) (W:=p.want) (fr:=(p.fr : Nat)) (st:=(p.st : Nat)) (z1:=z1) (z2:=z2) (z3:=z3) (z4:=z4) (z5:=z5) (c1:=c1) (c2:=c2) (c3:=c3) (c4:=c4) (c5:=c5) (c6:=c6) l1 l2 l3
  obtain ⟨k,s,cl,b',w,m⟩:=c
  dsimp only at h7 hg P1 ⊢
  subst h7
  simp only [show ((4 : Nat) : Int) = 4 from rfl,show ((5 : Nat) : Int) = 5 from rfl] at P1
  unfold padP partP
  dsimp only
  simp only [d_q00y,go_sem,len2,hg,hilt,P1,P3]
end Go.Am
end
section
/- The reference: the parts of a program. -/
open Go
set_option linter.all false
namespace Go.Am
variable {h : Heap} {K : Post}
attribute [-go_sem] oEqa
theorem s_partOf (l : List Cmd) (i : Nat) (c : Cmd) (hi : l[i]? = some c) (hc : cmdF c = 0) (hl : l.length ≤ 1000000) (S : SetOk (l.take i)) (state : Nat) (hst : state ∈ stb) :
    ACall X f_q00y [ACs l,AI i,AI state] h K = K (.p (partP (partC pathV (l.take i) c state))) h []:=by
  cases cmdF_kinds hc with
  | set h hs e=>exact s_partNone l i c hi (by omega) state
  | pad h0 h1 hb hl e=>exact s_partNone l i c hi h1 state
  | go h hs e=>exact s_partGo l i c hi h hs state hst
  | idle h h0 h1 e=>exact s_partIdle l i c hi h h0 h1 state hst
  | scan h hs e=>
    rcases h with h | h
    · exact s_partIR l i c hi h hs hl S state hst
    · exact s_partDR l i c hi h hs hl S state hst
theorem setOk_snoc {pre : List Cmd} {c : Cmd} (S : SetOk pre) (hc : cmdF c = 0) : SetOk (pre ++ [c]):=by
  have K:=cmdF_kinds hc
  refine ⟨?_,?_,fun k h1 h2=>?_⟩
  · rw [setC_snoc]; split
    · cases K with
      | set h hs e=>exact hs
      | pad h0 h1 hb hl e=>omega
      | go h hs e=>omega
      | idle h h0 h1 e=>omega
      | scan h hs e=>omega
    · exact S.s1
  · rw [setC_snoc]; split
    · cases K with
      | set h hs e=>exact hs
      | pad h0 h1 hb hl e=>omega
      | go h hs e=>omega
      | idle h h0 h1 e=>omega
      | scan h hs e=>omega
    · exact S.s2
  · rw [setC_snoc]; split
    · cases K with
      | set h hs e=>omega
      | pad h0 h1 hb hl e=>exact ⟨hb,hl⟩
      | go h hs e=>omega
      | idle h h0 h1 e=>omega
      | scan h hs e=>omega
    · exact S.b1 k h1 h2
theorem setOk_nil : SetOk []:=⟨rfl,rfl,fun k _ _=>⟨rfl,Nat.zero_le _⟩⟩
end Go.Am
end
section
/- The reference: the parts of a program,one by one. -/
open Go
set_option linter.all false
namespace Go.Am
variable {h : Heap} {K : Post}
def stAt (pre : List Cmd) (state : Nat) : List Cmd → Nat
  | []=>state
  | c :: r=>stAt (pre ++ [c]) (partC pathV pre c state).st r
theorem partsC_snoc (c : Cmd) : ∀ (l pre : List Cmd) (state : Nat),partsC pathV pre state (l ++ [c]) = partsC pathV pre state l ++ [partC pathV (pre ++ l) c (stAt pre state l)] ∧ stAt pre state (l ++ [c]) = (partC pathV (pre ++ l) c (stAt pre state l)).st
  | [],pre,state=>by simp [partsC,stAt]
  | d :: l,pre,state=>by
    obtain ⟨a,b⟩:=partsC_snoc c l (pre ++ [d]) (partC pathV pre d state).st
    have e : pre ++ [d] ++ l = pre ++ d :: l:=by rw [List.append_assoc]; rfl
    rw [e] at a b
    constructor
    · simp only [List.cons_append,partsC]; rw [a]; rfl
    · exact b
theorem cmdsF_mem : ∀ {l : List Cmd},cmdsF l = 0 → ∀ c ∈ l,cmdF c = 0
  | [],_,c,hc=>by cases hc
  | d :: l,h,c,hc=>by
    unfold cmdsF at h
    split at h
    · rename_i h1; exact absurd h h1
    · rename_i h1
      rcases List.mem_cons.1 hc with rfl | hc
      · omega
      · exact cmdsF_mem h c hc
theorem part_inv {l : List Cmd} (hc : ∀ c ∈ l,cmdF c = 0) : ∀ k,k ≤ l.length → SetOk (l.take k) ∧ stAt [] 0 (l.take k) ∈ stb
  | 0,_=>⟨setOk_nil,by show 0 ∈ stb; decide⟩
  | k + 1,hk=>by
    obtain ⟨S,T⟩:=part_inv hc k (by omega)
    have hlt : k < l.length:=by omega
    have h0:=hc _ (List.getElem_mem hlt)
    rw [List.take_succ_eq_append_getElem hlt]
    refine ⟨setOk_snoc S h0,?_⟩
    rw [(partsC_snoc l[k] (l.take k) [] 0).2,List.nil_append]
    cases cmdF_kinds h0 with
    | set h hs e=>rw [part_none pathV (by omega)]; exact T
    | pad h0 h1 hb hl e=>rw [part_none pathV h1]; exact T
    | go h hs e=>rw [part_go pathV h]; exact (stable_mem hs).1
    | idle h h0 h1 e=>rw [part_idle pathV h]; show 1 ∈ stb; decide
    | scan h hs e=>
      unfold partC
      rcases h with h | h
      · rw [if_neg (by omega),if_neg (by omega),if_pos h]; exact (stable_mem S.s1).1
      · rw [if_neg (by omega),if_neg (by omega),if_neg (by omega),if_pos h]; exact (stable_mem S.s2).1
abbrev APs (l : List Part) : AV:=.p (.sl (some 5) (l.map partP))
set_option maxHeartbeats 2000000 in
theorem s_partsOf (l : List Cmd) (hc : ∀ c ∈ l,cmdF c = 0) (hl : l.length ≤ 1000) : ACall X f_q00z [ACs l] h K = K (APs (partsC pathV [] 0 l)) h []:=by
  refine rule ?_
  rw [c_q00z rfl]
  simp only [d_q00z,go_sem]
  refine N_loop (fun k : Nat=>⟨[(0,ACs l),(3,.own h.length k 0 k),(4,AI (stAt [] 0 (l.take k))),(8,AI l.length),(9,AI k)],h ++ [.row (some 5) ((partsC pathV [] 0 (l.take k)).map partP) 0],[]⟩) (fun k=>k ≤ l.length) (fun k=>l.length - k) 0 rfl (by omega) ?_
  intro k hk
  have hpl : ∀ j,j ≤ l.length → (partsC pathV [] 0 (l.take j)).length = j:=by
    intro j hj
    have : ∀ (l : List Cmd) (pre : List Cmd) (s : Nat),(partsC pathV pre s l).length = l.length:=by
      intro l
      induction l with
      | nil=>intro pre s; rfl
      | cons c l ih=>intro pre s; simp [partsC,ih]
    rw [this]; simp; omega
  have hlen : ((partsC pathV [] 0 (l.take k)).map partP).length = k:=by rw [List.length_map,hpl k hk]
  rcases Nat.lt_or_ge k l.length with hlt | hge
  · obtain ⟨S, T⟩ := part_inv hc k hk
    have hi : l[k]? = some l[k]:=List.getElem?_eq_getElem hlt
    have h0:=hc _ (List.getElem_mem hlt)
    have w2 : IntKind.i64.wrap ((k : Int) + 1) = ((k + 1 : Nat) : Int):=i64_wrap _ (by omega) (by omega)
    have hmx : k + 1 ≤ maxSl:=by unfold maxSl; omega
    have hp:=fun (h' : Heap) (K' : Post)=>s_partOf (h:=h') (K:=K') l k l[k] hi h0 (by omega) S _ T
    simp only [go_sem,hlt,hp,w2,hmx,hlen]
    refine ⟨k + 1,?_,by omega,by omega⟩
    obtain ⟨e1,e2⟩:=partsC_snoc l[k] (l.take k) [] 0
    rw [List.take_succ_eq_append_getElem hlt,e1,e2,List.nil_append,List.map_append]
    rfl
  · obtain rfl : k = l.length := by omega
    have hpe : (partsC pathV [] 0 l).length = l.length:=by have:=hpl l.length (Nat.le_refl _); rwa [List.take_length] at this
    simp only [go_sem,Nat.lt_irrefl,hlen,List.take_length,hpe]
    exact congrArg (fun x=>AV.p (PV.sl (some 5) x)) (List.take_of_length_le (by simp [hpe]))
end Go.Am
end
section
/- The reference: the signals of a program: three builders. -/
open Go
set_option linter.all false
namespace Go.Am
variable {h : Heap} {K : Post}
def b3 (h : Heap) (u1 : Bool) (s1 : List UInt8) (u2 : Bool) (s2 : List UInt8) (u3 : Bool) (s3 : List UInt8) (l : Heap) : Heap:=
  h ++ bldB u1 h.length s1.length :: .row none (bytesP s1) 0 :: bldB u2 (h.length + 2) s2.length :: .row none (bytesP s2) 0 :: bldB u3 (h.length + 4) s3.length :: .row none (bytesP s3) 0 :: l
variable {u1 u2 u3 : Bool} {s1 s2 s3 t : List UInt8} {l : Heap}
theorem b3_at {n : Nat} : (b3 h u1 s1 u2 s2 u3 s3 l)[h.length + n]? = (bldB u1 h.length s1.length :: Obj.row none (bytesP s1) 0 :: bldB u2 (h.length + 2) s2.length :: Obj.row none (bytesP s2) 0 :: bldB u3 (h.length + 4) s3.length :: Obj.row none (bytesP s3) 0 :: l)[n]?:=by
  unfold b3
  rw [List.getElem?_append_right (by omega),show h.length + n - h.length = n by omega]
theorem b3_h1 : Holds (b3 h u1 s1 u2 s2 u3 s3 l) u1 h.length s1:=⟨b3_at (n:=0),b3_at (n:=1)⟩
theorem b3_h2 : Holds (b3 h u1 s1 u2 s2 u3 s3 l) u2 (h.length + 2) s2:=⟨b3_at (n:=2),b3_at (n:=3)⟩
theorem b3_h3 : Holds (b3 h u1 s1 u2 s2 u3 s3 l) u3 (h.length + 4) s3:=⟨b3_at (n:=4),b3_at (n:=5)⟩
theorem b3_e1 : held (b3 h u1 s1 u2 s2 u3 s3 l) h.length t = b3 h true t u2 s2 u3 s3 l:=by
  unfold held b3
  rw [List.set_append_right _ _ (by omega),List.set_append_right _ _ (by omega),Nat.sub_self,show h.length + 1 - h.length = 1 by omega]
  rfl
theorem b3_e2 : held (b3 h u1 s1 u2 s2 u3 s3 l) (h.length + 2) t = b3 h u1 s1 true t u3 s3 l:=by
  unfold held b3
  rw [List.set_append_right _ _ (by omega),List.set_append_right _ _ (by omega),show h.length + 2 - h.length = 2 by omega,show h.length + 2 + 1 - h.length = 3 by omega]
  rfl
theorem b3_e3 : held (b3 h u1 s1 u2 s2 u3 s3 l) (h.length + 4) t = b3 h u1 s1 u2 s2 true t l:=by
  unfold held b3
  rw [List.set_append_right _ _ (by omega),List.set_append_right _ _ (by omega),show h.length + 4 - h.length = 4 by omega,show h.length + 4 + 1 - h.length = 5 by omega]
  rfl
theorem b3_ws1 (hm : s1.length + t.length ≤ 200000000000) : ACall X f_q01b [.ref h.length 0,AS t] (b3 h u1 s1 u2 s2 u3 s3 l) K = K (.tup [AI t.length,.nili]) (b3 h true (s1 ++ t) u2 s2 u3 s3 l) []:=by
  rw [s_WriteString b3_h1 hm,b3_e1]
theorem b3_ws2 (hm : s2.length + t.length ≤ 200000000000) : ACall X f_q01b [.ref (h.length + 2) 0,AS t] (b3 h u1 s1 u2 s2 u3 s3 l) K = K (.tup [AI t.length,.nili]) (b3 h u1 s1 true (s2 ++ t) u3 s3 l) []:=by
  rw [s_WriteString b3_h2 hm,b3_e2]
theorem b3_ws3 (hm : s3.length + t.length ≤ 200000000000) : ACall X f_q01b [.ref (h.length + 4) 0,AS t] (b3 h u1 s1 u2 s2 u3 s3 l) K = K (.tup [AI t.length,.nili]) (b3 h u1 s1 u2 s2 true (s3 ++ t) l) []:=by
  rw [s_WriteString b3_h3 hm,b3_e3]
theorem b3_len : (b3 h u1 s1 u2 s2 u3 s3 l).length = h.length + (l.length + 6):=by unfold b3; simp
theorem b3_app {l2 : Heap} : b3 h u1 s1 u2 s2 u3 s3 l ++ l2 = b3 h u1 s1 u2 s2 u3 s3 (l ++ l2):=by unfold b3; simp
theorem b3_get {n : Nat} : (b3 h u1 s1 u2 s2 u3 s3 l)[h.length + (n + 6)]? = l[n]?:=b3_at
theorem b3_set {n : Nat} {o : Obj} : (b3 h u1 s1 u2 s2 u3 s3 l).set (h.length + (n + 6)) o = b3 h u1 s1 u2 s2 u3 s3 (l.set n o):=by
  unfold b3
  rw [List.set_append_right _ _ (by omega),show h.length + (n + 6) - h.length = n + 6 by omega]
  rfl
theorem b3_take {n : Nat} : (b3 h u1 s1 u2 s2 u3 s3 l).take (h.length + (n + 6)) = b3 h u1 s1 u2 s2 u3 s3 (l.take n):=by
  unfold b3
  rw [List.take_length_add_append]
  rfl
theorem b3_take0 : (b3 h u1 s1 u2 s2 u3 s3 l).take h.length = h:=by unfold b3; exact List.take_left
theorem seal_other {hp : Heap} {id id' : Nat} {u : Bool} {s s' : List UInt8} (H : Holds hp u id' s') (h1 : id' ≠ id + 1) (h2 : id' + 1 ≠ id + 1) : Holds (sealedH hp id s) u id' s':=by
  unfold sealedH
  split
  · exact H
  · exact ⟨by rw [List.getElem?_set_ne (by omega)]; exact H.1,by rw [List.getElem?_set_ne (by omega)]; exact H.2⟩
theorem seal_take {hp : Heap} {id n : Nat} {s : List UInt8} (hn : n ≤ id + 1) : (sealedH hp id s).take n = hp.take n:=by
  unfold sealedH
  split
  · rfl
  · exact List.take_set_of_le (by omega)
end Go.Am
end
section
/- The reference: the signals of a program. -/
open Go
set_option linter.all false
namespace Go.Am
variable {h : Heap} {K : Post}
attribute [-go_sem] oEqa
section
variable {u1 u2 u3 : Bool} {s1 s2 s3 : List UInt8} {l : Heap} {o : Obj}
theorem b3_get6 : (b3 h u1 s1 u2 s2 u3 s3 l)[h.length + 6]? = l[0]?:=b3_get (n:=0)
theorem b3_set6 : (b3 h u1 s1 u2 s2 u3 s3 l).set (h.length + 6) o = b3 h u1 s1 u2 s2 u3 s3 (l.set 0 o):=b3_set (n:=0)
theorem b3_take6 : (b3 h u1 s1 u2 s2 u3 s3 l).take (h.length + 6) = b3 h u1 s1 u2 s2 u3 s3 (l.take 0):=b3_take (n:=0)
end
theorem flat_upto {β : Type} (f : Part → List β) (ps : List Part) {k : Nat} (hk : k < ps.length) : ((ps.take k).flatMap f).length + (f ps[k]).length ≤ (ps.flatMap f).length:=by
  have e : ps.flatMap f = (ps.take (k + 1)).flatMap f ++ (ps.drop (k + 1)).flatMap f:=by rw [← List.flatMap_append,List.take_append_drop]
  rw [e,List.take_succ_eq_append_getElem hk,List.flatMap_append,List.length_append,List.length_append]
  simp
theorem partsC_len : ∀ (l pre : List Cmd) (s : Nat),(partsC pathV pre s l).length = l.length
  | [],_,_=>rfl
  | c :: l,pre,s=>by simp [partsC,partsC_len l]
set_option maxHeartbeats 2000000 in
theorem s_SignalsOf (l : List Cmd) (hc : ∀ c ∈ l,cmdF c = 0) (hl : l.length ≤ 1000) (hT : (sigT (partsC pathV [] 0 l)).length ≤ 1000000000) (hI : (sigI (partsC pathV [] 0 l)).length ≤ 1000000000) (hW : (sigW (partsC pathV [] 0 l)).length ≤ 1000000000) : ACall X f_q00s [ACs l] h K = K (.tup [AS (sigT (partsC pathV [] 0 l)),AS (sigI (partsC pathV [] 0 l)),AS (sigW (partsC pathV [] 0 l))]) h []:=by
  refine rule ?_
  rw [c_q00s rfl]
  have hp:=fun (h' : Heap) (K' : Post)=>s_partsOf (h:=h') (K:=K') l hc hl
  simp only [d_q00s,go_sem,hp]
  have hpl:=partsC_len l [] 0
  generalize partsC pathV [] 0 l = ps at hT hI hW hpl ⊢
  refine N_loop (fun k : Nat=>⟨[(5,.ref h.length 0),(6,.ref (h.length + 2) 0),(7,.ref (h.length + 4) 0),(11,APs ps),(12,AI ps.length),(13,AI k)],b3 h (decide (0 < k)) (sigT (ps.take k)) (decide (0 < k)) (sigI (ps.take k)) (decide (0 < k)) (sigW (ps.take k)) [],[(h.length + 4,h.length + 6),(h.length + 2,h.length + 4),(h.length,h.length + 2)]⟩) (fun k=>k ≤ ps.length) (fun k=>ps.length - k) 0 rfl (by omega) ?_
  intro k hk
  rcases Nat.lt_or_ge k ps.length with hlt | hge
  · have hg := map_get partP hlt
    have w2 : IntKind.i64.wrap ((k : Int) + 1) = ((k + 1 : Nat) : Int):=i64_wrap _ (by omega) (by omega)
    have m1 : (sigT (ps.take k)).length + (ps[k].tms).length ≤ 200000000000:=by have:=flat_upto Part.tms ps hlt; unfold sigT at *; omega
    have m2 : (sigI (ps.take k)).length + (ps[k].tdi).length ≤ 200000000000:=by have:=flat_upto Part.tdi ps hlt; unfold sigI at *; omega
    have m3 : (sigW (ps.take k)).length + (ps[k].want).length ≤ 200000000000:=by have:=flat_upto Part.want ps hlt; unfold sigW at *; omega
    simp only [go_sem,hlt,hg,w2,b3_app,b3_len,b3_get6,b3_set6,b3_take6,b3_ws1 m1,b3_ws2 m2,b3_ws3 m3]
    refine ⟨k + 1,?_,by omega,by omega⟩
    obtain ⟨e1,e2,e3⟩:=sig_snoc (ps.take k) ps[k]
    rw [List.take_succ_eq_append_getElem hlt,e1,e2,e3]
    simp
  · obtain rfl : k = ps.length := by omega
    have H1:=fun (u : Bool) (s1 s2 s3 : List UInt8)=>b3_h1 (h:=h) (u1:=u) (s1:=s1) (u2:=u) (s2:=s2) (u3:=u) (s3:=s3) (l:=[])
    have H2:=fun (u : Bool) (s1 s2 s3 : List UInt8)=>b3_h2 (h:=h) (u1:=u) (s1:=s1) (u2:=u) (s2:=s2) (u3:=u) (s3:=s3) (l:=[])
    have H3:=fun (u : Bool) (s1 s2 s3 : List UInt8)=>b3_h3 (h:=h) (u1:=u) (s1:=s1) (u2:=u) (s2:=s2) (u3:=u) (s3:=s3) (l:=[])
    have d1 : h.length + 1 ≤ h.length + 6:=by omega
    have d2 : h.length + 2 + 1 ≤ h.length + 6:=by omega
    have d3 : h.length + 4 + 1 ≤ h.length + 6:=by omega
    simp only [go_sem,Nat.lt_irrefl,List.take_length,b3_len,List.length_nil,Nat.zero_add,d1,d2,d3,b3_take6,List.take_nil]
    rw [s_BString (H1 _ _ _ _) (by omega)]
    rw [s_BString (seal_other (H2 _ _ _ _) (by omega) (by omega)) (by omega)]
    rw [s_BString (seal_other (seal_other (H3 _ _ _ _) (by omega) (by omega)) (by omega) (by omega)) (by omega)]
    simp only [go_sem]
    have ht : (sealedH (sealedH (sealedH (b3 h (decide (0 < ps.length)) (sigT ps) (decide (0 < ps.length)) (sigI ps) (decide (0 < ps.length)) (sigW ps) []) h.length (sigT ps)) (h.length + 2) (sigI ps)) (h.length + 4) (sigW ps)).take h.length = h:=by
      rw [seal_take (by omega),seal_take (by omega),seal_take (by omega),b3_take0]
    revert ht
    generalize sealedH _ (h.length + 4) (sigW ps) = hp1
    intro ht
    have n4 : ¬ (h.length + 4 < h.length):=by omega
    have n2 : ¬ (h.length + 2 < h.length):=by omega
    have n0 : ¬ (h.length < h.length):=by omega
    have e3 : close 3 [(h.length + 4,h.length + 6),(h.length + 2,h.length + 4),(h.length,h.length + 2)] h.length = h.length:=by simp only [close,bump,List.foldl_cons,List.foldl_nil,n4,n2,n0,if_false]; try simp [n4,n2]
    have e4 : closed [(h.length + 4,h.length + 6),(h.length + 2,h.length + 4),(h.length,h.length + 2)] h.length = true:=by simp [closed]
    simp only [retK,go_sem,e3,e4,ht]
    simp
end Go.Am
end
section
/- The reference: the fault of a program. -/
open Go
set_option linter.all false
namespace Go.Am
variable {h : Heap} {K : Post}
attribute [-go_sem] oEqa
theorem part_len {pre : List Cmd} {c : Cmd} {state : Nat} (S : SetOk pre) (hst : state ∈ stb) (hc : cmdF c = 0) :
    (partC pathV pre c state).tms.length ≤ 20008 ∧ (partC pathV pre c state).tdi.length = (partC pathV pre c state).tms.length ∧ (partC pathV pre c state).want.length = (partC pathV pre c state).tms.length:=by
  have hz : ∀ n,(zs n).length = n:=fun n=>by simp [zs]
  have hx : ∀ n,(xsL n).length = n:=fun n=>by simp [xsL]
  cases cmdF_kinds hc with
  | set h hs e=>rw [part_none pathV (by omega)]; exact ⟨Nat.zero_le _,rfl,rfl⟩
  | pad h0 h1 hb hl e=>rw [part_none pathV h1]; exact ⟨Nat.zero_le _,rfl,rfl⟩
  | go h hs e=>
    rw [part_go pathV h]
    have:=(path_facts (stb_fr hst) (stb_to (stable_mem hs).1)).2.1
    exact ⟨by show (pathV state c.s.toNat).length ≤ _; omega,hz _,hx _⟩
  | idle h h0 h1 e=>
    rw [part_idle pathV h]
    have:=(path_facts (stb_fr hst) (show 1 ∈ toS by decide)).2.1
    refine ⟨?_,?_,?_⟩ <;> simp only [List.length_append,hz,hx] <;> omega
  | scan h hs e=>
    obtain ⟨q1,q2,q3,q4,q5,q6⟩:=scanF_ok hs
    have hpos:=List.length_pos_iff.2 q1
    have he : (expC c).length = c.b.length:=by simp [expC]
    have key : ∀ (sh ex : Nat) (hd tl : List UInt8) (en : Nat),sh ∈ toS → ex ∈ frS → en ∈ stb → hd.length ≤ 2000 → tl.length ≤ 2000 →
        (padP (scanP pathV c state sh ex hd tl en)).tms.length ≤ 20008 ∧ (padP (scanP pathV c state sh ex hd tl en)).tdi.length = (padP (scanP pathV c state sh ex hd tl en)).tms.length ∧ (padP (scanP pathV c state sh ex hd tl en)).want.length = (padP (scanP pathV c state sh ex hd tl en)).tms.length:=by
      intro sh ex hd tl en h1 h2 h3 h4 h5
      have p1:=(path_facts (stb_fr hst) h1).2.1
      have p2:=(path_facts h2 (stb_to h3)).2.1
      rw [padP_scan pathV c state sh ex hd tl en q1]
      refine ⟨?_,?_,?_⟩ <;> simp only [List.length_append,hz,hx,he,List.length_singleton] <;> omega
    rcases h with h | h
    · have ep : partC pathV pre c state = padP (scanP pathV c state 11 12 (setC pre 3).b (setC pre 4).b (setC pre 1).s.toNat):=by
        unfold partC; rw [if_neg (by omega),if_neg (by omega),if_pos h]
      rw [ep]
      exact key _ _ _ _ _ (by decide) (by decide) (stable_mem S.s1).1 (S.b1 3 (by omega) (by omega)).2 (S.b1 4 (by omega) (by omega)).2
    · have ep : partC pathV pre c state = padP (scanP pathV c state 4 5 (setC pre 5).b (setC pre 6).b (setC pre 2).s.toNat):=by
        unfold partC; rw [if_neg (by omega),if_neg (by omega),if_neg (by omega),if_pos h]
      rw [ep]
      exact key _ _ _ _ _ (by decide) (by decide) (stable_mem S.s2).1 (S.b1 5 (by omega) (by omega)).2 (S.b1 6 (by omega) (by omega)).2
theorem sig_len {l : List Cmd} (hc : ∀ c ∈ l,cmdF c = 0) : ∀ k,k ≤ l.length → (sigT (partsC pathV [] 0 (l.take k))).length ≤ k * 20008 ∧ (sigI (partsC pathV [] 0 (l.take k))).length = (sigT (partsC pathV [] 0 (l.take k))).length ∧ (sigW (partsC pathV [] 0 (l.take k))).length = (sigT (partsC pathV [] 0 (l.take k))).length
  | 0,_=>⟨Nat.zero_le _,rfl,rfl⟩
  | k + 1,hk=>by
    obtain ⟨a,b,c⟩:=sig_len hc k (by omega)
    obtain ⟨S,T⟩:=part_inv hc k (by omega)
    have hlt : k < l.length:=by omega
    obtain ⟨x,y,z⟩:=part_len S T (hc _ (List.getElem_mem hlt))
    rw [List.take_succ_eq_append_getElem hlt,(partsC_snoc l[k] (l.take k) [] 0).1,List.nil_append]
    obtain ⟨e1,e2,e3⟩:=sig_snoc (partsC pathV [] 0 (l.take k)) (partC pathV (l.take k) l[k] (stAt [] 0 (l.take k)))
    rw [e1,e2,e3,List.length_append,List.length_append,List.length_append]
    refine ⟨?_,by omega,by omega⟩
    rw [Nat.add_mul]; omega
theorem sig_bound {l : List Cmd} (hc : ∀ c ∈ l,cmdF c = 0) (hl : l.length ≤ 40) : (sigT (partsC pathV [] 0 l)).length ≤ 1000000 ∧ (sigI (partsC pathV [] 0 l)).length = (sigT (partsC pathV [] 0 l)).length ∧ (sigW (partsC pathV [] 0 l)).length = (sigT (partsC pathV [] 0 l)).length:=by
  obtain ⟨a,b,c⟩:=sig_len hc l.length (Nat.le_refl _)
  rw [List.take_length] at a b c
  have : l.length * 20008 ≤ 40 * 20008:=Nat.mul_le_mul_right _ hl
  exact ⟨by omega,b,c⟩
theorem s_Sig (l : List Cmd) (hc : ∀ c ∈ l,cmdF c = 0) (hl : l.length ≤ 40) : ACall X f_q00s [ACs l] h K = K (.tup [AS (sigT (partsC pathV [] 0 l)),AS (sigI (partsC pathV [] 0 l)),AS (sigW (partsC pathV [] 0 l))]) h []:=by
  obtain ⟨a,b,c⟩:=sig_bound hc hl
  exact s_SignalsOf l hc (by omega) (by omega) (by omega) (by omega)
theorem cmdsF_all : ∀ {l : List Cmd},(∀ c ∈ l,cmdF c = 0) → cmdsF l = 0
  | [],_=>rfl
  | d :: l,h=>by
    unfold cmdsF
    rw [if_neg (by rw [h d (List.mem_cons_self ..)]; simp)]
    exact cmdsF_all fun c hc=>h c (List.mem_cons_of_mem _ hc)
theorem cmdsF_pre : ∀ {l : List Cmd} {k : Nat} (hk : k < l.length),(∀ c ∈ l.take k,cmdF c = 0) → cmdF l[k] ≠ 0 → cmdsF l = cmdF l[k]
  | d :: l,0,hk,_,h2=>by unfold cmdsF; rw [if_pos (by simpa using h2)]; rfl
  | d :: l,k + 1,hk,h1,h2=>by
    unfold cmdsF
    rw [if_neg (by rw [h1 d (by simp)]; simp)]
    exact cmdsF_pre (l:=l) (k:=k) (by simpa using hk) (fun c hc=>h1 c (by simp [hc])) (by simpa using h2)
set_option maxHeartbeats 2000000 in
theorem s_CommandsFault (l : List Cmd) (hok : ∀ c ∈ l,CmdOk c) (hl : l.length ≤ 40) : ACall X f_q00q [ACs l] h K = K (AI (progF pathV l : Nat)) h []:=by
  refine rule ?_
  rw [c_q00q rfl]
  have h1 : ¬ (1000 : Int) < (l.length : Int):=by omega
  simp only [d_q00q,go_sem,h1]
  refine N_loop (fun k : Nat=>⟨[(0,ACs l),(12,ACs l),(13,AI l.length),(14,AI k)],h,[]⟩) (fun k=>k ≤ l.length ∧ ∀ c ∈ l.take k,cmdF c = 0) (fun k=>l.length - k) 0 rfl ⟨Nat.zero_le _,by simp⟩ ?_
  rintro k ⟨hk,hn⟩
  rcases Nat.lt_or_ge k l.length with hlt | hge
  · have hg := map_get cmdP hlt
    have w2 : IntKind.i64.wrap ((k : Int) + 1) = ((k + 1 : Nat) : Int):=i64_wrap _ (by omega) (by omega)
    have hf:=fun (h' : Heap) (K' : Post)=>s_commandFault (h:=h') (K:=K') l[k] (hok _ (List.getElem_mem hlt))
    by_cases h0 : cmdF l[k] = 0
    · have h0' : ((cmdF l[k] : Nat) : Int) = 0 := by omega
      simp only [go_sem,hlt,hg,w2,hf,h0']
      refine ⟨k + 1,rfl,⟨by omega,?_⟩,by omega⟩
      intro c hc
      rw [List.take_succ_eq_append_getElem hlt] at hc
      rcases List.mem_append.1 hc with hc | hc
      · exact hn c hc
      · obtain rfl : c = l[k] := by simpa using hc
        exact h0
    · have h0' : ¬ ((cmdF l[k] : Nat) : Int) = 0 := by omega
      simp only [go_sem,hlt,hg,w2,hf,h0']
      have e : progF pathV l = cmdF l[k]:=by
        unfold progF
        rw [if_neg (by omega),cmdsF_pre hlt hn h0,if_pos h0]
      rw [e]
  · obtain rfl : k = l.length := by omega
    rw [List.take_length] at hn
    have hs:=fun (h' : Heap) (K' : Post)=>s_Sig (h:=h') (K:=K') l hn hl
    have e : progF pathV l = if 20000 < (sigT (partsC pathV [] 0 l)).length then 2 else 0:=by
      unfold progF
      rw [if_neg (by omega),cmdsF_all hn,if_neg (by simp)]
    rw [e]
    by_cases h2 : 20000 < (sigT (partsC pathV [] 0 l)).length
    · have h2' : (20000 : Int) < ((sigT (partsC pathV [] 0 l)).length : Int) := by omega
      simp only [go_sem,Nat.lt_irrefl,Int.lt_irrefl,hs,h2,h2']
    · have h2' : ¬ (20000 : Int) < ((sigT (partsC pathV [] 0 l)).length : Int) := by omega
      simp only [go_sem,Nat.lt_irrefl,Int.lt_irrefl,hs,h2,h2']
end Go.Am
end
section
/- The reference: states,bits that are shifted. -/
open Go
set_option linter.all false
namespace Go.Am
variable {h : Heap} {K : Post}
attribute [-go_sem] oEqa
theorem part_end {l : List Cmd} (hc : ∀ c ∈ l,cmdF c = 0) {k : Nat} (hk : k < l.length) :
    endL (stAt [] 0 (l.take k)) (partC pathV (l.take k) l[k] (stAt [] 0 (l.take k))).tms = (partC pathV (l.take k) l[k] (stAt [] 0 (l.take k))).st ∧ bitsB (partC pathV (l.take k) l[k] (stAt [] 0 (l.take k))).tms = true:=by
  obtain ⟨S,T⟩:=part_inv hc k (by omega)
  have h0:=hc _ (List.getElem_mem hk)
  have bz : ∀ n,bitsB (zs n) = true:=fun n=>by simp [bitsB,zs,isBit]
  have ba : ∀ a b,bitsB a = true → bitsB b = true → bitsB (a ++ b) = true:=fun a b h1 h2=>by unfold bitsB at *; rw [List.all_append,h1,h2]; rfl
  generalize stAt [] 0 (l.take k) = state at T ⊢
  generalize l.take k = pre at S ⊢
  generalize l[k] = c at h0 ⊢
  cases cmdF_kinds h0 with
  | set h hs e=>rw [part_none pathV (by omega)]; exact ⟨rfl,rfl⟩
  | pad h0 h1 hb hl e=>rw [part_none pathV h1]; exact ⟨rfl,rfl⟩
  | go h hs e=>
    rw [part_go pathV h]
    have:=path_facts (stb_fr T) (stb_to (stable_mem hs).1)
    exact ⟨this.2.2,this.1⟩
  | idle h h0 h1 e=>
    rw [part_idle pathV h]
    have:=path_facts (stb_fr T) (show 1 ∈ toS by decide)
    refine ⟨?_,ba _ _ this.1 (bz _)⟩
    show endL state (pathV state 1 ++ zs c.cl.toNat) = 1
    rw [endL_append,this.2.2]
    exact (vis_stay rfl _).2
  | scan h hs e=>
    obtain ⟨q1,q2,q3,q4,q5,q6⟩:=scanF_ok hs
    have hpos:=List.length_pos_iff.2 q1
    rcases h with h | h
    · have ep : partC pathV pre c state = padP (scanP pathV c state 11 12 (setC pre 3).b (setC pre 4).b (setC pre 1).s.toNat):=by
        unfold partC; rw [if_neg (by omega),if_neg (by omega),if_pos h]
      have hen:=(stable_mem S.s1).1
      rw [ep,padP_scan pathV c state 11 12 _ _ _ q1]
      refine ⟨(scan_vis pathOk T (.inl ⟨rfl,rfl⟩) hen _ (by simp only [List.length_append]; omega)).1,?_⟩
      exact ba _ _ (ba _ _ (path_facts (stb_fr T) (by decide)).1 (ba _ _ (bz _) rfl)) (path_facts (by decide) (stb_to hen)).1
    · have ep : partC pathV pre c state = padP (scanP pathV c state 4 5 (setC pre 5).b (setC pre 6).b (setC pre 2).s.toNat):=by
        unfold partC; rw [if_neg (by omega),if_neg (by omega),if_neg (by omega),if_pos h]
      have hen:=(stable_mem S.s2).1
      rw [ep,padP_scan pathV c state 4 5 _ _ _ q1]
      refine ⟨(scan_vis pathOk T (.inr ⟨rfl,rfl⟩) hen _ (by simp only [List.length_append]; omega)).1,?_⟩
      exact ba _ _ (ba _ _ (path_facts (stb_fr T) (by decide)).1 (ba _ _ (bz _) rfl)) (path_facts (by decide) (stb_to hen)).1
theorem partsC_get {l : List Cmd} {k : Nat} (hk : k < l.length) : (partsC pathV [] 0 l)[k]? = some (partC pathV (l.take k) l[k] (stAt [] 0 (l.take k))):=by
  have key : ∀ (l pre : List Cmd) (s k : Nat) (hk : k < l.length),(partsC pathV pre s l)[k]? = some (partC pathV (pre ++ l.take k) l[k] (stAt pre s (l.take k))):=by
    intro l
    induction l with
    | nil=>intro pre s k hk; simp at hk
    | cons c l ih=>
      intro pre s k hk
      cases k with
      | zero=>simp [partsC,stAt]
      | succ k=>
        have:=ih (pre ++ [c]) (partC pathV pre c s).st k (by simpa using hk)
        rw [partsC,List.getElem?_cons_succ,this,List.append_assoc]
        rfl
  have:=key l [] 0 k hk
  rwa [List.nil_append] at this
theorem bits_sig {l : List Cmd} (hc : ∀ c ∈ l,cmdF c = 0) : bitsB (sigT (partsC pathV [] 0 l)) = true:=by
  unfold bitsB sigT
  rw [List.all_flatMap]
  rw [List.all_eq_true]
  intro p hp
  obtain ⟨k,hk⟩:=List.mem_iff_getElem?.1 hp
  have hlt : k < l.length:=by
    have:=(List.getElem?_eq_some_iff.1 hk).1
    rwa [partsC_len] at this
  rw [partsC_get hlt] at hk
  cases hk
  exact (part_end hc hlt).2
theorem stAt_succ {l : List Cmd} {k : Nat} (hk : k < l.length) : stAt [] 0 (l.take (k + 1)) = (partC pathV (l.take k) l[k] (stAt [] 0 (l.take k))).st:=by
  rw [List.take_succ_eq_append_getElem hk,(partsC_snoc l[k] (l.take k) [] 0).2,List.nil_append]
end Go.Am
end
section
/- The reference: StatesOf,ShiftedBits. -/
open Go
set_option linter.all false
namespace Go.Am
variable {h : Heap} {K : Post}
attribute [-go_sem] oEqa
theorem sts_take {l : List Cmd} {k : Nat} (hk : k < l.length) : (partsC pathV [] 0 (l.take (k + 1))).map Part.st = (partsC pathV [] 0 (l.take k)).map Part.st ++ [stAt [] 0 (l.take (k + 1))]:=by
  rw [stAt_succ hk,List.take_succ_eq_append_getElem hk,(partsC_snoc l[k] (l.take k) [] 0).1,List.nil_append,List.map_append]
  rfl
set_option maxHeartbeats 2000000 in
theorem s_StatesOf (l : List Cmd) (hc : ∀ c ∈ l,cmdF c = 0) (hl : l.length ≤ 40) : ACall X f_q00t [ACs l] h K = K (AIs ((partsC pathV [] 0 l).map Part.st)) h []:=by
  refine rule ?_
  rw [c_q00t rfl]
  have hp:=fun (h' : Heap) (K' : Post)=>s_partsOf (h:=h') (K:=K') l hc (by omega)
  have hpl:=partsC_len l [] 0
  simp only [d_q00t,go_sem,hp]
  refine N_loop (fun k : Nat=>⟨[(3,.own h.length k 0 k),(4,AI (stAt [] 0 (l.take k))),(9,APs (partsC pathV [] 0 l)),(10,AI (partsC pathV [] 0 l).length),(11,AI k)],h ++ [.row none (((partsC pathV [] 0 (l.take k)).map Part.st).map fun n : Nat=>eI n) 0],[]⟩) (fun k=>k ≤ l.length) (fun k=>l.length - k) 0 rfl (by omega) ?_
  intro k hk
  have hlen : (((partsC pathV [] 0 (l.take k)).map Part.st).map fun n : Nat=>eI n).length = k:=by rw [List.length_map,List.length_map,partsC_len,List.length_take,Nat.min_eq_left hk]
  rcases Nat.lt_or_ge k l.length with hlt | hge
  · have hlt' : k < (partsC pathV [] 0 l).length := by rw [hpl]; exact hlt
    have hg : ((partsC pathV [] 0 l).map partP)[k]? = some (partP (partC pathV (l.take k) l[k] (stAt [] 0 (l.take k)))):=by rw [List.getElem?_map,partsC_get hlt]; rfl
    have w2 : IntKind.i64.wrap ((k : Int) + 1) = ((k + 1 : Nat) : Int):=i64_wrap _ (by omega) (by omega)
    obtain ⟨S,T⟩:=part_inv hc k hk
    obtain ⟨pe,pb⟩:=part_end hc hlt
    have pl:=(part_len S T (hc _ (List.getElem_mem hlt))).1
    have hst:=stAt_succ hlt
    rw [← pe] at hst
    have hsk:=sts_take hlt
    rw [hst] at hsk
    have hmx : k + 1 ≤ maxSl:=by unfold maxSl; omega
    have T16:=fr_lt (stb_fr T)
    generalize partC pathV (l.take k) l[k] (stAt [] 0 (l.take k)) = p at hg pe pb pl hst hsk
    generalize hs0 : stAt [] 0 (l.take k) = s0 at *
    have hw:=fun (h' : Heap) (K' : Post)=>s_WalkOf (h:=h') (K:=K') s0 p.tms T16 pb (by omega)
    have hwl : ((walkL s0 p.tms).map fun n : Nat=>eI n).length = p.tms.length:=by rw [List.length_map,walkL_length]
    by_cases he : p.tms = []
    · have e0 : ¬ (0 : Int) < (p.tms.length : Int) := by rw [he]; decide
      have e1 : endL s0 p.tms = s0:=by rw [he]; rfl
      rw [e1] at hst hsk
      simp only [go_sem,hlt',hg,hw,hwl,w2,e0,hlen,hmx]
      refine ⟨k + 1,?_,by omega,by omega⟩
      rw [hsk,hst,List.map_append]; rfl
    · have hpos := List.length_pos_iff.2 he
      have e0 : (0 : Int) < (p.tms.length : Int):=by omega
      have w3 : IntKind.i64.wrap ((p.tms.length : Int) - 1) = ((p.tms.length - 1 : Nat) : Int):=by
        rw [show (p.tms.length : Int) - 1 = ((p.tms.length - 1 : Nat) : Int) by omega]; exact i64_wrap _ (by omega) (by omega)
      have hwg : ((walkL s0 p.tms).map fun n : Nat=>eI n)[p.tms.length - 1]? = some (eI (endL s0 p.tms)):=by
        rw [List.getElem?_map,walkL_last s0 p.tms hpos]; rfl
      have hlt2 : p.tms.length - 1 < p.tms.length:=by omega
      simp only [go_sem,hlt',hg,hw,hwl,w2,e0,hlen,hmx,w3,hwg,hlt2]
      refine ⟨k + 1,?_,by omega,by omega⟩
      rw [hsk,hst,List.map_append]; rfl
  · obtain rfl : k = l.length := by omega
    have hlt' : ¬ l.length < (partsC pathV [] 0 l).length:=by rw [hpl]; omega
    rw [List.take_length] at hlen
    simp only [go_sem,Nat.lt_irrefl,Int.lt_irrefl,hlen,List.take_length,hlt']
    exact congrArg (fun x=>AV.p (PV.sl none x)) (List.take_of_length_le (by simp [hpl]))
end Go.Am
end
section
/- The program: a program that is played. -/
open Go
set_option linter.all false
namespace Go.Am
variable {h l2 : Heap} {K : Post} {r : Run} {n : Nat} {o : Obj} {x : Esc}
attribute [-go_sem] oEqa splice
attribute [local go_sem] rh_len rh_app rh_get rh_set rh_take rh_take0
theorem rh_get6 {l : Heap} : (rh h r l)[h.length + 6]? = l[0]?:=rh_get (n:=0)
theorem rh_set6 {l : Heap} : (rh h r l).set (h.length + 6) o = rh h r (l.set 0 o):=rh_set (n:=0)
theorem rh_take6 {l : Heap} : (rh h r l).take (h.length + 6) = rh h r (l.take 0):=rh_take (n:=0)
attribute [local go_sem] rh_get6 rh_set6 rh_take6
structure RunI (r : Run) (k : Nat) : Prop where
  R : RunOk r
  N : RunN r
  st : r.st ∈ stb
  S : SetR r.se
  sl : r.sts.length = k
  fl : r.frs.length = k
theorem runI_0 (w : Bool) : RunI (run0 w) 0:=⟨⟨Nat.le_refl _,Nat.le_refl _,Nat.le_refl _⟩,⟨Nat.le_refl _,Nat.le_refl _⟩,by show 0 ∈ stb; decide,⟨rfl,rfl,Nat.zero_le _,Nat.zero_le _,Nat.zero_le _,Nat.zero_le _⟩,rfl,rfl⟩
theorem setR_put {s : Sett} {c : Cmd} (S : SetR s) (hc : cmdF c = 0) (h1 : 1 ≤ c.k ∧ c.k ≤ 6) : SetR (s.put c):=by
  have hb : c.k ≤ 2 → stableB c.s = true:=fun h=>by
    cases cmdF_kinds hc with
    | set h hs e=>exact hs
    | pad h0 h1 hb hl e=>omega
    | go h hs e=>omega
    | idle h h0 h1 e=>omega
    | scan h hs e=>omega
  have hp : 3 ≤ c.k → c.b.length ≤ 2000:=fun h=>by
    cases cmdF_kinds hc with
    | set h hs e=>omega
    | pad h0 h1 hb hl e=>exact hl
    | go h hs e=>omega
    | idle h h0 h1 e=>omega
    | scan h hs e=>omega
  obtain ⟨s1,s2,a1,a2,a3,a4⟩:=S
  unfold Sett.put
  split
  · exact ⟨hb (by omega),s2,a1,a2,a3,a4⟩
  split
  · exact ⟨s1,hb (by omega),a1,a2,a3,a4⟩
  split
  · exact ⟨s1,s2,hp (by omega),a2,a3,a4⟩
  split
  · exact ⟨s1,s2,a1,hp (by omega),a3,a4⟩
  split
  · exact ⟨s1,s2,a1,a2,hp (by omega),a4⟩
  · exact ⟨s1,s2,a1,a2,a3,hp (by omega)⟩
theorem runI_step {k : Nat} (I : RunI r k) {c : Cmd} (hc : cmdF c = 0) : RunI (r.step pathV c) (k + 1) ∧ (r.step pathV c).ck ≤ r.ck + 20016:=by
  obtain ⟨R,N,st,S,sl,fl⟩:=I
  have setf : 1 ≤ c.k ∧ c.k ≤ 6 → RunI (r.step pathV c) (k + 1) ∧ (r.step pathV c).ck ≤ r.ck + 20016:=fun h1=>by
    rw [step_set pathV h1]
    exact ⟨⟨⟨R.t,R.i,R.w⟩,N,st,setR_put S hc h1,by simp [sl],by simp [fl]⟩,by dsimp only; omega⟩
  cases cmdF_kinds hc with
  | set h hs e=>exact setf (by omega)
  | pad h0 h1 hb hl e=>exact setf ⟨by omega,h1⟩
  | go hk hs e=>
    rw [step_go pathV hk]
    obtain ⟨g1,g2,g3,g4,g5,g6,_,_⟩:=go_facts pathV r c.s.toNat
    obtain ⟨n1,n2⟩:=stable_mem hs
    have R1:=runOk_go (tov:=c.s.toNat) R
    have N1:=runN_go (tov:=c.s.toNat) N
    have pl:=(path_facts (stb_fr st) (stb_to n1)).2.1
    refine ⟨⟨⟨R1.t,R1.i,R1.w⟩,N1,?_,?_,?_,?_⟩,?_⟩
    · show (r.go pathV c.s.toNat).st ∈ stb; rw [g2]; exact n1
    · show SetR (r.go pathV c.s.toNat).se; rw [g1]; exact S
    · simp [g3,sl]
    · simp [g4,fl]
    · show (r.go pathV c.s.toNat).ck ≤ _; rw [go_ck]; omega
  | idle hk h0 h1 e=>
    rw [step_idle pathV hk]
    obtain ⟨g1,g2,g3,g4,g5,g6,g7,g8⟩:=go_facts pathV r 1
    obtain ⟨q1,q2,q3,q4,q5,q6,q7,q8⟩:=clk_se (r.go pathV 1) (List.replicate c.cl.toNat (48,48,120))
    have R1:=runOk_clk (L:=List.replicate c.cl.toNat (48,48,120)) (runOk_go (tov:=1) R)
    have N1:=runN_go (tov:=1) N
    have pl:=(path_facts (stb_fr st) (show 1 ∈ toS by decide)).2.1
    refine ⟨⟨⟨R1.t,R1.i,R1.w⟩,?_,?_,?_,?_,?_⟩,?_⟩
    · obtain ⟨x, y⟩ := N1
      exact ⟨by show Run.ni (Run.clk _ _) ≤ Run.ck (Run.clk _ _); rw [q7,q6]; omega,by show Run.nd (Run.clk _ _) ≤ Run.ck (Run.clk _ _); rw [q8,q6]; omega⟩
    · show Run.st (Run.clk _ _) ∈ stb; rw [q2,g2]; decide
    · show SetR (Run.se (Run.clk _ _)); rw [q1,g1]; exact S
    · simp [q3,g3,sl]
    · simp [q4,g4,fl]
    · show Run.ck (Run.clk _ _) ≤ _; rw [q6,go_ck,List.length_replicate]; omega
  | scan hk hs e=>
    rw [step_scan pathV hk]
    obtain ⟨g3,g4,g1⟩:=scn_same (r:=r) c
    obtain ⟨q1,q2,q3,q4,q5,q6⟩:=scanF_ok hs
    have key : ∀ (sh ex : Nat) (en : Int) (hd tl : List UInt8) (r2 : Run),sh ∈ toS → ex ∈ frS → stableB en = true → hd.length ≤ 2000 → tl.length ≤ 2000 → RunOk r2 → r2.ck = (r.go pathV sh).ck → r2.ni ≤ r2.ck + (hd ++ c.b ++ tl).length → r2.nd ≤ r2.ck + (hd ++ c.b ++ tl).length →
        r.scn pathV c = Run.go pathV { Run.clk r2 (scanL c hd (hd ++ c.b ++ tl)) with st:=ex } en.toNat → RunI { r.scn pathV c with sts:=(r.scn pathV c).sts ++ [(r.scn pathV c).st],frs:=(r.scn pathV c).frs ++ [r.scnF pathV c] } (k + 1) ∧ (r.scn pathV c).ck ≤ r.ck + 20016:=by
      intro sh ex en hd tl r2 m1 m2 m3 m4 m5 R2 m6 m7 m8 e
      obtain ⟨n1,n2⟩:=stable_mem m3
      have R3:=runOk_clk (L:=scanL c hd (hd ++ c.b ++ tl)) R2
      have R4:=runOk_go (r:={ Run.clk r2 (scanL c hd (hd ++ c.b ++ tl)) with st:=ex }) (tov:=en.toNat) ⟨R3.t,R3.i,R3.w⟩
      have N4:=runN_go (r:={ Run.clk r2 (scanL c hd (hd ++ c.b ++ tl)) with st:=ex }) (tov:=en.toNat) (by
        obtain ⟨_,_,_,_,_,z1,z2,z3⟩:=clk_se r2 (scanL c hd (hd ++ c.b ++ tl))
        have z4:=scanL_length c hd (hd ++ c.b ++ tl)
        exact ⟨by show Run.ni (Run.clk _ _) ≤ Run.ck (Run.clk _ _); omega,by show Run.nd (Run.clk _ _) ≤ Run.ck (Run.clk _ _); omega⟩)
      have st4:=(go_facts pathV { Run.clk r2 (scanL c hd (hd ++ c.b ++ tl)) with st:=ex } en.toNat).2.1
      have ck4:=go_ck (r:={ Run.clk r2 (scanL c hd (hd ++ c.b ++ tl)) with st:=ex }) (tov:=en.toNat)
      have ck3:=clk_ck (r:=r2) (L:=scanL c hd (hd ++ c.b ++ tl))
      have ck2:=go_ck (r:=r) (tov:=sh)
      have p1:=(path_facts (stb_fr st) m1).2.1
      have p2:=(path_facts m2 (stb_to n1)).2.1
      have z4:=scanL_length c hd (hd ++ c.b ++ tl)
      simp only [List.length_append] at z4
      rw [← e] at R4 N4 st4 ck4
      refine ⟨⟨⟨R4.t,R4.i,R4.w⟩,N4,by show (r.scn pathV c).st ∈ stb; rw [st4]; exact n1,by show SetR (r.scn pathV c).se; rw [g1]; exact S,by simp [g3,sl],by simp [g4,fl]⟩,?_⟩
      dsimp only at ck4
      omega
    have N1:=fun sh=>runN_go (tov:=sh) N
    have R1:=fun sh=>runOk_go (tov:=sh) R
    rcases hk with h7 | h8
    · refine key 11 12 r.se.e1.s r.se.h1.b r.se.t1.b { r.go pathV 11 with ni := (r.go pathV 11).ni + (r.se.h1.b ++ c.b ++ r.se.t1.b).length } (by decide) (by decide) S.s1 S.h1 S.t1 ⟨(R1 11).t, (R1 11).i, (R1 11).w⟩ rfl ?_ ?_ (scn_IR h7).1
      · have:=(N1 11).1; dsimp only; omega
      · have:=(N1 11).2; dsimp only; omega
    · refine key 4 5 r.se.e2.s r.se.h2.b r.se.t2.b { r.go pathV 4 with nd := (r.go pathV 4).nd + (r.se.h2.b ++ c.b ++ r.se.t2.b).length } (by decide) (by decide) S.s2 S.h2 S.t2 ⟨(R1 4).t, (R1 4).i, (R1 4).w⟩ rfl ?_ ?_ (scn_DR h8).1
      · have:=(N1 4).1; dsimp only; omega
      · have:=(N1 4).2; dsimp only; omega
theorem s_start : ACall X f_q02k [] h K = K (.p (.agg [eI 1,eI 1,eI 0,.str [],.str [],.str [],eI 2,eI 1,eI 0,.str [],.str [],.str [],eI 3,eI 0,eI 0,.str [],.str [],.str [],eI 4,eI 0,eI 0,.str [],.str [],.str [],eI 5,eI 0,eI 0,.str [],.str [],.str [],eI 6,eI 0,eI 0,.str [],.str [],.str []])) h []:=by
  refine rule ?_
  rw [c_q02k rfl]
  simp only [d_q02k,go_sem,splice]
set_option maxHeartbeats 4000000 in
theorem s_played (l : List Cmd) (hc : ∀ c ∈ l,cmdF c = 0) (hl : l.length ≤ 1000) (p : AV) (w : Bool) (hp : (p = .nilp ∧ w = false) ∨ (∃ i,p = .ref i 0) ∧ w = true) :
    ACall X f_q02b [ACs l,p] h K = K (.ref (h.length + 5) 0) (rh h ((run0 w).play pathV l) []) []:=by
  refine rule ?_
  have main : ∀ Kx : Ex → St → Prop,(∀ r,(run0 w).play pathV l = r → Kx .ret ⟨[(4,.ref (h.length + 5) 0)],rh h r [],[]⟩) → NLoop (ACall X) X.gl (.scope p_q02b_k1) (blockN 0 (seqN (ACall X) X.gl p_q02b_k2 Kx)) [(5,.ref (h.length + 5) 0),(13,ACs l),(14,AI l.length),(15,AI 0)] (rh h (run0 w) []) []:=by
    intro Kx hK
    refine N_loop (fun t : Nat × Run=>⟨[(5,.ref (h.length + 5) 0),(13,ACs l),(14,AI l.length),(15,AI t.1)],rh h t.2 [],[]⟩) (fun t=>t.1 ≤ l.length ∧ RunI t.2 t.1 ∧ t.2.ck ≤ 50000 ∧ (run0 w).play pathV l = t.2.play pathV (l.drop t.1)) (fun t=>l.length - t.1) (0,run0 w) rfl ⟨Nat.zero_le _,runI_0 w,Nat.zero_le _,rfl⟩ ?_
    rintro ⟨k,r⟩ ⟨hk,I,hck,hpl⟩
    dsimp only at hk I hck hpl ⊢
    rcases Nat.lt_or_ge k l.length with hlt | hge
    · have hg := map_get cmdP hlt
      have w2 : IntKind.i64.wrap ((k : Int) + 1) = ((k + 1 : Nat) : Int):=i64_wrap _ (by omega) (by omega)
      have hdr : l.drop k = l[k] :: l.drop (k + 1):=(List.getElem_cons_drop hlt).symm
      rw [hdr] at hpl
      have hpc : ∀ (c : Cmd) (L : List Cmd),r.play pathV (c :: L) = if 20000 < r.ck then r else (r.step pathV c).play pathV L:=fun c L=>rfl
      rw [hpc] at hpl
      have h0:=hc _ (List.getElem_mem hlt)
      by_cases hb : 20000 < r.ck
      · have hb' : (20000 : Int) < (r.ck : Int) := by omega
        rw [if_pos hb] at hpl
        simp only [go_sem,hlt,hg,rh_box,rc_37,hb',splice]
        exact hK r hpl
      · have hb' : ¬ (20000 : Int) < (r.ck : Int) := by omega
        rw [if_neg hb] at hpl
        have hs:=fun (l2 : Heap) (K' : Post)=>s_step (h:=h) (l:=l2) (K:=K') I.R I.N (by omega) I.st I.S (by rw [I.sl]; omega) (by rw [I.fl]; omega) l[k] h0
        obtain ⟨I2,c2⟩:=runI_step I h0
        simp only [go_sem,hlt,hg,rh_box,rc_37,hb',hs,w2,splice]
        exact ⟨(k + 1,r.step pathV l[k]),rfl,⟨by dsimp only; omega,I2,by dsimp only; omega,hpl⟩,by dsimp only; omega⟩
    · obtain rfl : k = l.length := by omega
      rw [List.drop_length] at hpl
      simp only [go_sem,Nat.lt_irrefl]
      exact hK r hpl
  rcases hp with ⟨rfl,rfl⟩ | ⟨⟨i,rfl⟩,rfl⟩
  · rw [c_q02b rfl]
    simp only [d_q02b,go_sem,s_start,splice]
    refine main _ fun r e=>?_
    rw [e]
    have q1 : h.length + 5 + 1 = h.length + 6:=rfl
    have q2 : max h.length (h.length + 6) = h.length + 6:=by omega
    simp only [go_sem,q1,q2,List.take_nil]
  · rw [c_q02b rfl]
    simp only [d_q02b,go_sem,s_start,splice]
    refine main _ fun r e=>?_
    rw [e]
    have q1 : h.length + 5 + 1 = h.length + 6:=rfl
    have q2 : max h.length (h.length + 6) = h.length + 6:=by omega
    simp only [go_sem,q1,q2,List.take_nil]
end Go.Am
end
section
/- The program: what is wrong with a program; clocks,signals,states,bits. -/
open Go
set_option linter.all false
namespace Go.Am
variable {h : Heap} {K : Post} {r : Run} {n : Nat} {o : Obj} {x : Esc}
attribute [-go_sem] oEqa splice
attribute [local go_sem] rh_len rh_app rh_get rh_set rh_take rh_take0 rh_get6 rh_set6 rh_take6 rh_box rc_36 rc_37 rc_38 rc_39 rc_40 rc_41 rc_42 rc_43 rc_44
theorem play_more {l : List Cmd} (hc : ∀ c ∈ l,cmdF c = 0) (w : Bool) : 20000 < ((run0 w).play pathV l).ck ↔ 20000 < (sigT (partsC pathV [] 0 l)).length:=by
  have e:=cmdsF_all hc
  constructor
  · intro h
    rcases Nat.lt_or_ge 20000 (sigT (partsC pathV [] 0 l)).length with h1 | h1
    · exact h1
    · have:=(play_all pathOk e w h1).1; omega
  · intro h
    have:=(play_rel pathV l (rel0 w) e).2
    simp only [List.nil_append] at this
    exact this h
theorem s_playedN (l : List Cmd) (hc : ∀ c ∈ l,cmdF c = 0) (hl : l.length ≤ 1000) : ACall X f_q02b [ACs l,.nilp] h K = K (.ref (h.length + 5) 0) (rh h ((run0 false).play pathV l) []) []:=s_played l hc hl .nilp false (.inl ⟨rfl,rfl⟩)
theorem s_playedS (l : List Cmd) (hc : ∀ c ∈ l,cmdF c = 0) (hl : l.length ≤ 1000) (i : Nat) : ACall X f_q02b [ACs l,.ref i 0] h K = K (.ref (h.length + 5) 0) (rh h ((run0 true).play pathV l) []) []:=s_played l hc hl _ true (.inr ⟨⟨i,rfl⟩,rfl⟩)
set_option maxHeartbeats 4000000 in
theorem s_CheckCommands (l : List Cmd) (hok : ∀ c ∈ l,CmdOk c) (hl : l.length ≤ 40) : ACall X f_q024 [ACs l] h K = K (AI (progF pathV l : Nat)) h []:=by
  refine rule ?_
  rw [c_q024 rfl]
  have h1 : ¬ (1000 : Int) < (l.length : Int):=by omega
  simp only [d_q024,go_sem,h1]
  refine N_loop (fun k : Nat=>⟨[(0,ACs l),(10,ACs l),(11,AI l.length),(12,AI k)],h,[]⟩) (fun k=>k ≤ l.length ∧ ∀ c ∈ l.take k,cmdF c = 0) (fun k=>l.length - k) 0 rfl ⟨Nat.zero_le _,by simp⟩ ?_
  rintro k ⟨hk,hn⟩
  rcases Nat.lt_or_ge k l.length with hlt | hge
  · have hg := map_get cmdP hlt
    have w2 : IntKind.i64.wrap ((k : Int) + 1) = ((k + 1 : Nat) : Int):=i64_wrap _ (by omega) (by omega)
    have hf:=fun (h' : Heap) (K' : Post)=>s_kindFault (h:=h') (K:=K') l[k] (hok _ (List.getElem_mem hlt))
    have hsn : cmdF l[k] = 0 → ∀ c ∈ l.take (k + 1),cmdF c = 0:=fun h0 c hc=>by
      rw [List.take_succ_eq_append_getElem hlt] at hc
      rcases List.mem_append.1 hc with hc | hc
      · exact hn c hc
      · obtain rfl : c = l[k] := by simpa using hc
        exact h0
    have hpf : cmdF l[k] ≠ 0 → progF pathV l = cmdF l[k]:=fun h0=>by
      unfold progF
      rw [if_neg (by omega),cmdsF_pre hlt hn h0,if_pos h0]
    have hbr:=cmdF_bare (c:=l[k])
    have hkd:=cmdF_kind (c:=l[k])
    generalize l[k] = c at *
    generalize hke : kindE c = ke at *
    generalize hbc : bareC c = bc at *
    obtain ⟨k0,s0,cl0,b0,w0,m0⟩:=c
    obtain ⟨k1,s1,cl1,b1,w1,m1⟩:=bc
    dsimp only at hbr hkd hf hg
    by_cases i1 : k0 < 1
    · have e := hkd (by omega)
      rw [hpf (by omega),e]
      simp only [go_sem,hlt,hg,w2,hf,s_Out,i1,splice]
    by_cases i2 : 10 < k0
    · have e := hkd (by omega)
      rw [hpf (by omega),e]
      simp only [go_sem,hlt,hg,w2,hf,s_Out,i1,i2,splice]
    have e:=hbr (by omega)
    by_cases i3 : ke = 0
    · subst i3
      rw [if_neg (by simp)] at e
      by_cases i4 : (⟨k1,s1,cl1,b1,w1,m1⟩ : Cmd) = ⟨k0,0,0,[],[],[]⟩
      · rw [if_pos i4] at e
        simp only [go_sem,hlt,hg,w2,hf,s_Out,i1,i2,splice,eqa6,i4]
        exact ⟨k + 1,rfl,⟨by omega,hsn e⟩,by omega⟩
      · rw [if_neg i4] at e
        rw [hpf (by omega),e]
        simp only [go_sem,hlt,hg,w2,hf,s_Out,i1,i2,splice,eqa6,i4]
    · have i3' : ¬ ((ke : Nat) : Int) = 0 := by omega
      rw [if_pos i3] at e
      rw [hpf (by omega),e]
      simp only [go_sem,hlt,hg,w2,hf,s_Out,i1,i2,splice,i3']
  · obtain rfl : k = l.length := by omega
    rw [List.take_length] at hn
    have hs:=fun (h' : Heap) (K' : Post)=>s_playedN (h:=h') (K:=K') l hn (by omega)
    have e : progF pathV l = if 20000 < (sigT (partsC pathV [] 0 l)).length then 2 else 0:=by
      unfold progF
      rw [if_neg (by omega),cmdsF_all hn,if_neg (by simp)]
    rw [e]
    have hm:=play_more hn false
    by_cases h2 : 20000 < (sigT (partsC pathV [] 0 l)).length
    · have h3 := hm.2 h2
      have h2' : (20000 : Int) < (((run0 false).play pathV l).ck : Int):=by omega
      simp only [go_sem,Nat.lt_irrefl,Int.lt_irrefl,hs,h2,h2',splice]
    · have h3 := fun q => h2 (hm.1 q)
      have h2' : ¬ (20000 : Int) < (((run0 false).play pathV l).ck : Int):=by omega
      simp only [go_sem,Nat.lt_irrefl,Int.lt_irrefl,hs,h2,h2',splice]
theorem progF_0 {l : List Cmd} (h : progF pathV l = 0) : (∀ c ∈ l,cmdF c = 0) ∧ (sigT (partsC pathV [] 0 l)).length ≤ 20000 ∧ l.length ≤ 1000:=by
  unfold progF at h
  split at h
  · cases h
  split at h
  · rename_i h1; exact absurd h h1
  split at h
  · cases h
  · rename_i h0 h1 h2
    exact ⟨cmdsF_mem (by omega),by omega,by omega⟩
theorem rh_r0 {l : Heap} : (rh h r l)[h.length]? = some (.row none (r.sts.map eN) 0):=by unfold rh; rw [app_get0]; rfl
theorem rh_r1 {l : Heap} : (rh h r l)[h.length + 1]? = some (.row none (r.frs.map eN) 0):=by unfold rh; rw [app_get]; rfl
theorem rh_r2 {l : Heap} : (rh h r l)[h.length + 2]? = some (.row none (bytesP r.tms) 0):=by unfold rh; rw [app_get]; rfl
theorem rh_r3 {l : Heap} : (rh h r l)[h.length + 3]? = some (.row none (bytesP r.tdi) 0):=by unfold rh; rw [app_get]; rfl
theorem rh_r4 {l : Heap} : (rh h r l)[h.length + 4]? = some (.row none (bytesP r.want) 0):=by unfold rh; rw [app_get]; rfl
attribute [local go_sem] rh_r0 rh_r1 rh_r2 rh_r3 rh_r4
def clkV (l : List Cmd) : AV:=.tup [AI (if progF pathV l = 0 then (sigT (partsC pathV [] 0 l)).length else 0 : Nat),AI (progF pathV l : Nat)]
theorem s_Clocks (l : List Cmd) (hok : ∀ c ∈ l,CmdOk c) (hl : l.length ≤ 40) : ACall X f_q025 [ACs l] h K = K (clkV l) h []:=by
  refine rule ?_
  rw [c_q025 rfl]
  have hk:=fun (h' : Heap) (K' : Post)=>s_CheckCommands (h:=h') (K:=K') l hok hl
  unfold clkV
  by_cases h0 : progF pathV l = 0
  · obtain ⟨hc, hn, _⟩ := progF_0 h0
    have hp:=fun (h' : Heap) (K' : Post)=>s_playedN (h:=h') (K:=K') l hc (by omega)
    obtain ⟨a1,a2,a3,a4,a5⟩:=play_all pathOk (cmdsF_all hc) false hn
    simp only [d_q025,go_sem,hk,h0,hp,a1,show ((0 : Nat) : Int) = 0 from rfl]
  · have h0' : ¬ ((progF pathV l : Nat) : Int) = 0 := by omega
    simp only [d_q025,go_sem,hk,h0,h0',show ((0 : Nat) : Int) = 0 from rfl]
def bitV (l : List Cmd) : AV:=.tup [AI (if progF pathV l = 0 then (visL 0 (sigT (partsC pathV [] 0 l))).count 11 else 0 : Nat),AI (if progF pathV l = 0 then (visL 0 (sigT (partsC pathV [] 0 l))).count 4 else 0 : Nat),AI (progF pathV l : Nat)]
theorem s_VBits (l : List Cmd) (hok : ∀ c ∈ l,CmdOk c) (hl : l.length ≤ 40) : ACall X f_q023 [ACs l] h K = K (bitV l) h []:=by
  refine rule ?_
  rw [c_q023 rfl]
  have hk:=fun (h' : Heap) (K' : Post)=>s_CheckCommands (h:=h') (K:=K') l hok hl
  unfold bitV
  by_cases h0 : progF pathV l = 0
  · obtain ⟨hc, hn, _⟩ := progF_0 h0
    have hp:=fun (h' : Heap) (K' : Post)=>s_playedN (h:=h') (K:=K') l hc (by omega)
    obtain ⟨a1,a2,a3,a4,a5⟩:=play_all pathOk (cmdsF_all hc) false hn
    simp only [d_q023,go_sem,hk,h0,hp,a3,a4,show ((0 : Nat) : Int) = 0 from rfl]
  · have h0' : ¬ ((progF pathV l : Nat) : Int) = 0 := by omega
    simp only [d_q023,go_sem,hk,h0,h0',show ((0 : Nat) : Int) = 0 from rfl]
def stsV (l : List Cmd) : AV:=.tup [AIs (if progF pathV l = 0 then (partsC pathV [] 0 l).map Part.st else []),AI (progF pathV l : Nat)]
theorem s_States (l : List Cmd) (hok : ∀ c ∈ l,CmdOk c) (hl : l.length ≤ 40) : ACall X f_q027 [ACs l] h K = K (stsV l) h []:=by
  refine rule ?_
  rw [c_q027 rfl]
  have hk:=fun (h' : Heap) (K' : Post)=>s_CheckCommands (h:=h') (K:=K') l hok hl
  unfold stsV
  by_cases h0 : progF pathV l = 0
  · obtain ⟨hc, hn, _⟩ := progF_0 h0
    have hp:=fun (h' : Heap) (K' : Post)=>s_playedN (h:=h') (K:=K') l hc (by omega)
    obtain ⟨a1,a2,a3,a4,a5⟩:=play_all pathOk (cmdsF_all hc) false hn
    simp only [d_q027,go_sem,hk,h0,hp,a2,List.length_map,show ((0 : Nat) : Int) = 0 from rfl]
    exact congrArg (fun x=>AV.tup [AV.p (PV.sl none x),AI 0]) (List.take_of_length_le (by simp))
  · have h0' : ¬ ((progF pathV l : Nat) : Int) = 0 := by omega
    simp only [d_q027,go_sem,hk,h0,h0',show ((0 : Nat) : Int) = 0 from rfl]
    rfl
def hbx (h : Heap) : Heap:=h ++ [.box [AB true]]
theorem s_signalsP (l : List Cmd) (hc : ∀ c ∈ l,cmdF c = 0) (hl : l.length ≤ 1000) : ACall X f_q02i [ACs l] h K = K (.ref ((hbx h).length + 5) 0) (rh (hbx h) ((run0 true).play pathV l) []) []:=by
  refine rule ?_
  rw [c_q02i rfl]
  have hp:=fun (K' : Post)=>s_playedS (h:=h ++ [.box [AB true]]) (K:=K') l hc (by omega) h.length
  have el : (h ++ [Obj.box [AB true]]).length = h.length + 1:=by simp
  have el2 : (hbx h).length = h.length + 1:=by simp [hbx]
  have et : (rh (h ++ [Obj.box [AB true]]) ((run0 true).play pathV l) []).length = h.length + 7:=by rw [rh_len,el]; simp
  simp only [d_q02i,go_sem,hp,splice]
  refine ⟨by omega,by rw [el2],?_⟩
  exact List.take_of_length_le (by rw [et]; omega)
def sigV (l : List Cmd) : AV:=.tup [AS (if progF pathV l = 0 then sigT (partsC pathV [] 0 l) else []),AS (if progF pathV l = 0 then sigI (partsC pathV [] 0 l) else []),AS (if progF pathV l = 0 then sigW (partsC pathV [] 0 l) else []),AI (progF pathV l : Nat)]
theorem s_Signals (l : List Cmd) (hok : ∀ c ∈ l,CmdOk c) (hl : l.length ≤ 40) : ACall X f_q026 [ACs l] h K = K (sigV l) h []:=by
  refine rule ?_
  rw [c_q026 rfl]
  have hk:=fun (h' : Heap) (K' : Post)=>s_CheckCommands (h:=h') (K:=K') l hok hl
  unfold sigV
  by_cases h0 : progF pathV l = 0
  · obtain ⟨hc, hn, _⟩ := progF_0 h0
    have hp:=fun (h' : Heap) (K' : Post)=>s_signalsP (h:=h') (K:=K') l hc (by omega)
    obtain ⟨a1,a2,a3,a4,a5⟩:=play_all pathOk (cmdsF_all hc) true hn
    obtain ⟨b1,b2,b3⟩:=a5 rfl
    have ww : ∀ s : List UInt8,win (bytesP s) 0 s.length = bytesP s:=fun s=>by unfold win; rw [List.drop_zero]; exact List.take_of_length_le (by rw [bytesP_len]; omega)
    have et : (rh (hbx h) ((run0 true).play pathV l) []).take h.length = h:=by unfold rh hbx; rw [List.append_assoc]; exact app_take0 ..
    simp only [d_q026,go_sem,hk,h0,hp,b1,b2,b3,show ((0 : Nat) : Int) = 0 from rfl,bytesP_len,ww,toBytes_bytesP,et,Nat.le_refl]
  · have h0' : ¬ ((progF pathV l : Nat) : Int) = 0 := by omega
    simp only [d_q026,go_sem,hk,h0,h0',show ((0 : Nat) : Int) = 0 from rfl]
end Go.Am
end
section
/- The reference: bits that are shifted. -/
open Go
set_option linter.all false
namespace Go.Am
variable {h : Heap} {K : Post}
attribute [-go_sem] oEqa splice
def cellsC (L : List Nat) : List AV:=(List.range 16).map fun s=>AI (L.count s : Nat)
theorem cellsC_len (L : List Nat) : (cellsC L).length = 16:=by simp [cellsC]
theorem cellsC_get (L : List Nat) {s : Nat} (hs : s < 16) : (cellsC L)[s]? = some (AI (L.count s : Nat)):=by
  unfold cellsC
  rw [List.getElem?_map,List.getElem?_range hs]; rfl
theorem cellsC_snoc (L : List Nat) {s : Nat} (hs : s < 16) : cellsC (L ++ [s]) = (cellsC L).set s (AI (L.count s + 1 : Nat)):=by
  apply List.ext_getElem?
  intro i
  rw [List.getElem?_set]
  rcases Nat.lt_or_ge i 16 with hi | hi
  · rw [cellsC_get _ hi, cellsC_get _ hi]
    by_cases e : s = i
    · subst e
      rw [if_pos rfl,if_pos (by rw [cellsC_len]; exact hi),List.count_append,List.count_singleton]; simp
    · rw [if_neg e, List.count_append, List.count_singleton]
      have : (s == i) = false:=by simpa using e
      simp [this]
  · rw [List.getElem?_eq_none (by rw [cellsC_len]; exact hi), List.getElem?_eq_none (by rw [cellsC_len]; exact hi)]
    by_cases e : s = i
    · omega
    · rw [if_neg e]
theorem splice_set {cs : List AV} {i : Nat} {v : AV} (hi : i < cs.length) : splice cs i [v] = cs.set i v:=by
  unfold splice
  rw [List.set_eq_take_append_cons_drop,if_pos hi]
  simp
theorem visL_snoc (c : UInt8) (l : List UInt8) (s : Nat) : visL s (l ++ [c]) = visL s l ++ [endL s l]:=by rw [visL_append]; rfl
theorem visL_len : ∀ (l : List UInt8) (s : Nat),(visL s l).length = l.length
  | [],s=>rfl
  | d :: l,s=>by simp [visL,visL_len l]
theorem walkL_get : ∀ (l : List UInt8) (s k : Nat),k < l.length → (walkL s l)[k]? = some (endL s (l.take (k + 1)))
  | [],s,k,h=>by simp at h
  | d :: l,s,0,_=>rfl
  | d :: l,s,k + 1,h=>by
    have:=walkL_get l (stW s d) k (by simpa using h)
    simpa [walkL,endL] using this
set_option maxHeartbeats 2000000 in
theorem s_ShiftedBits (l : List Cmd) (hc : ∀ c ∈ l,cmdF c = 0) (hl : l.length ≤ 40) : ACall X f_q00r [ACs l] h K = K (.tup [AI ((visL 0 (sigT (partsC pathV [] 0 l))).count 11 : Nat),AI ((visL 0 (sigT (partsC pathV [] 0 l))).count 4 : Nat)]) h []:=by
  refine rule ?_
  rw [c_q00r rfl]
  have hs:=fun (h' : Heap) (K' : Post)=>s_Sig (h:=h') (K:=K') l hc hl
  have hb:=bits_sig hc
  obtain ⟨a,_,_⟩:=sig_bound hc hl
  have hw:=fun (h' : Heap) (K' : Post)=>s_WalkOf (h:=h') (K:=K') 0 (sigT (partsC pathV [] 0 l)) (by decide) hb (by omega)
  simp only [show ((0 : Nat) : Int) = 0 from rfl] at hw
  generalize sigT (partsC pathV [] 0 l) = w at hs hb a hw ⊢
  simp only [d_q00r,go_sem,hs,hw]
  have hwl : (walkL 0 w).length = w.length:=walkL_length w 0
  refine N_loop (fun k : Nat=>⟨[(7,.ref h.length 0),(8,AI (endL 0 (w.take k))),(19,AIs (walkL 0 w)),(20,AI w.length),(21,AI k)],h ++ [.box (cellsC (visL 0 (w.take k)))],[]⟩) (fun k=>k ≤ w.length) (fun k=>w.length - k) 0 (by rw [hwl]; rfl) (by omega) ?_
  intro k hk
  have hbt : bitsB (w.take k) = true:=by
    unfold bitsB at *
    exact List.all_eq_true.2 fun x hx=>List.all_eq_true.1 hb x (List.mem_of_mem_take hx)
  have h16 : endL 0 (w.take k) < 16:=endL_lt (by decide) hbt
  rcases Nat.lt_or_ge k w.length with hlt | hge
  · have w2 : IntKind.i64.wrap ((k : Int) + 1) = ((k + 1 : Nat) : Int) := i64_wrap _ (by omega) (by omega)
    have hg : ((walkL 0 w).map fun n : Nat=>eI n)[k]? = some (eI (endL 0 (w.take (k + 1)))):=by rw [List.getElem?_map,walkL_get w 0 k hlt]; rfl
    have hvs : visL 0 (w.take (k + 1)) = visL 0 (w.take k) ++ [endL 0 (w.take k)]:=by rw [List.take_succ_eq_append_getElem hlt,visL_snoc]
    have hcn : (visL 0 (w.take k)).count (endL 0 (w.take k)) ≤ k:=by
      have:=List.count_le_length (a:=endL 0 (w.take k)) (l:=visL 0 (w.take k))
      rw [visL_len,List.length_take] at this; omega
    have hcg:=cellsC_get (visL 0 (w.take k)) h16
    have hsn:=cellsC_snoc (visL 0 (w.take k)) h16
    rw [← hvs] at hsn
    have w3 : IntKind.i64.wrap (((visL 0 (w.take k)).count (endL 0 (w.take k)) : Int) + 1) = (((visL 0 (w.take k)).count (endL 0 (w.take k)) + 1 : Nat) : Int):=i64_wrap _ (by omega) (by omega)
    have hsp:=fun v=>splice_set (cs:=cellsC (visL 0 (w.take k))) (v:=v) (show endL 0 (w.take k) < _ by rw [cellsC_len]; exact h16)
    generalize (visL 0 (w.take k)).count (endL 0 (w.take k)) = cn at *
    generalize hC : cellsC (visL 0 (w.take k)) = C at *
    have hCl : C.length = 16:=by rw [← hC]; exact cellsC_len _
    have hCb : isBld C = false:=by rw [← hC]; rfl
    generalize endL 0 (w.take k) = s0 at *
    have h17 : s0 + 1 ≤ 16:=h16
    simp only [go_sem,hwl,hlt,hg,w2,h16,h17,hcg,w3,hCl,hCb,hsp,Nat.mul_one]
    refine ⟨k + 1,?_,by omega,by omega⟩
    rw [hsn]
  · obtain rfl : k = w.length := by omega
    have c11:=cellsC_get (visL 0 w) (show 11 < 16 by decide)
    have c4:=cellsC_get (visL 0 w) (show 4 < 16 by decide)
    simp only [go_sem,hwl,Nat.lt_irrefl,List.take_length,c11,c4]
end Go.Am
end
