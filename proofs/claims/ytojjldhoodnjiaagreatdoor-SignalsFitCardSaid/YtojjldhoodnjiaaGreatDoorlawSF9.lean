/- Texts of the proof, laid together: SpVec8, SpVec9, SpVec12, SpVec13, SpVec14, SpVec15, SpVec10, SpVec11, SpVec16, SpVec17, SpGenV, SpSig, SpVec18, SpReady, SpKeep, PSplit, SpIdx, AmL4, AmL5, SpSplit, SpLawSF, Bridge, AmL2, AmL6. -/
import Derived.KernelRfl
import Derived.Shelf.Strings.Repeat
import Derived.Shelf.Strings.SlTrimAscii
import Derived.Shelf.Spec.TrailingZeros
import Derived.Shelf.Strings.Count
import Derived.Shelf.Strings.OnBuilder
import Derived.ProofKit
import Derived.Shelf.Strconv.Itoa3
import Derived.Lib.LaidTab
import Derived.Test.YtojjldhoodnjiaaGreatDoorlawSF8
set_option linter.all false
section
/- The reference: the signals of a program. -/
open Go
set_option linter.all false
namespace Go.Am
variable {h : Heap} {K : Post}
attribute [-go_sem] oEqa
section
variable {u1 u2 u3 : Bool} {s1 s2 s3 : List UInt8} {l : Heap} {o : Obj}
theorem ztN : (b3 h u1 s1 u2 s2 u3 s3 l)[h.length + 6]? = l[0]?:=b3_get (n:=0)
theorem ztO : (b3 h u1 s1 u2 s2 u3 s3 l).set (h.length + 6) o = b3 h u1 s1 u2 s2 u3 s3 (l.set 0 o):=b3_set (n:=0)
theorem zek : (b3 h u1 s1 u2 s2 u3 s3 l).take (h.length + 6) = b3 h u1 s1 u2 s2 u3 s3 (l.take 0):=ztP (n:=0)
end
theorem z7G {β : Type} (f : Part → List β) (ps : List Part) {k : Nat} (hk : k < ps.length) : ((ps.take k).flatMap f).length + (f ps[k]).length ≤ (ps.flatMap f).length:=by
 have e : ps.flatMap f = (ps.take (k + 1)).flatMap f ++ (ps.drop (k + 1)).flatMap f:=by rw [← List.flatMap_append,List.take_append_drop]
 rw [e,List.take_succ_eq_append_getElem hk,List.flatMap_append,List.length_append,List.length_append]
 simp
theorem z2j : ∀ (l pre : List Cmd) (s : Nat),(z0j z0c pre s l).length = l.length
 | [],_,_=>rfl
 | c :: l,pre,s=>by simp [z0j,z2j l]
set_option maxHeartbeats 2000000 in
theorem zd5 (l : List Cmd) (hc : ∀ c ∈ l,cmdF c = 0) (hl : l.length ≤ 1000) (hT : (sigT (z0j z0c [] 0 l)).length ≤ 1000000000) (hI : (sigI (z0j z0c [] 0 l)).length ≤ 1000000000) (hW : (sigW (z0j z0c [] 0 l)).length ≤ 1000000000) : z0d X z71 [ACs l] h K = K (.tup [AS (sigT (z0j z0c [] 0 l)),AS (sigI (z0j z0c [] 0 l)),AS (sigW (z0j z0c [] 0 l))]) h []:=by
 refine rule ?_
 rw [c_q03a rfl]
 have hp:=fun (h' : Heap) (K' : Post)=>zoI (h:=h') (K:=K') l hc hl
 simp only [zez,go_sem,hp]
 have hpl:=z2j l [] 0
 generalize z0j z0c [] 0 l = ps at hT hI hW hpl ⊢
 refine z1m (fun k : Nat=>⟨[(5,.ref h.length 0),(6,.ref (h.length + 2) 0),(7,.ref (h.length + 4) 0),(11,APs ps),(12,AI ps.length),(13,AI k)],b3 h (decide (0 < k)) (sigT (ps.take k)) (decide (0 < k)) (sigI (ps.take k)) (decide (0 < k)) (sigW (ps.take k)) [],[(h.length + 4,h.length + 6),(h.length + 2,h.length + 4),(h.length,h.length + 2)]⟩) (fun k=>k ≤ ps.length) (fun k=>ps.length - k) 0 rfl (by omega) ?_
 intro k hk
 rcases Nat.lt_or_ge k ps.length with hlt | hge
 ·have hg:=z2t z47 hlt
  have w2 : IntKind.i64.wrap ((k : Int) + 1) = ((k + 1 : Nat) : Int):=z0l _ (by omega) (by omega)
  have m1 : (sigT (ps.take k)).length + (ps[k].tms).length ≤ 200000000000:=by have:=z7G Part.tms ps hlt; unfold sigT at *; omega
  have m2 : (sigI (ps.take k)).length + (ps[k].tdi).length ≤ 200000000000:=by have:=z7G Part.tdi ps hlt; unfold sigI at *; omega
  have m3 : (sigW (ps.take k)).length + (ps[k].want).length ≤ 200000000000:=by have:=z7G Part.want ps hlt; unfold sigW at *; omega
  simp only [go_sem,hlt,hg,w2,b3_app,zsm,ztN,ztO,zek,b3_ws1 m1,b3_ws2 m2,b3_ws3 m3]
  refine ⟨k + 1,?_,by omega,by omega⟩
  obtain ⟨e1,e2,e3⟩:=z5T (ps.take k) ps[k]
  rw [List.take_succ_eq_append_getElem hlt,e1,e2,e3]
  simp
 ·obtain rfl : k = ps.length:=by omega
  have H1:=fun (u : Bool) (s1 s2 s3 : List UInt8)=>b3_h1 (h:=h) (u1:=u) (s1:=s1) (u2:=u) (s2:=s2) (u3:=u) (s3:=s3) (l:=[])
  have H2:=fun (u : Bool) (s1 s2 s3 : List UInt8)=>b3_h2 (h:=h) (u1:=u) (s1:=s1) (u2:=u) (s2:=s2) (u3:=u) (s3:=s3) (l:=[])
  have H3:=fun (u : Bool) (s1 s2 s3 : List UInt8)=>b3_h3 (h:=h) (u1:=u) (s1:=s1) (u2:=u) (s2:=s2) (u3:=u) (s3:=s3) (l:=[])
  have d1 : h.length + 1 ≤ h.length + 6:=by omega
  have d2 : h.length + 2 + 1 ≤ h.length + 6:=by omega
  have d3 : h.length + 4 + 1 ≤ h.length + 6:=by omega
  simp only [go_sem,Nat.lt_irrefl,List.take_length,zsm,List.length_nil,Nat.zero_add,d1,d2,d3,zek,List.take_nil]
  rw [z8q (H1 _ _ _ _) (by omega)]
  rw [z8q (z6l (H2 _ _ _ _) (by omega) (by omega)) (by omega)]
  rw [z8q (z6l (z6l (H3 _ _ _ _) (by omega) (by omega)) (by omega) (by omega)) (by omega)]
  simp only [go_sem]
  have ht : (z2N (z2N (z2N (b3 h (decide (0 < ps.length)) (sigT ps) (decide (0 < ps.length)) (sigI ps) (decide (0 < ps.length)) (sigW ps) []) h.length (sigT ps)) (h.length + 2) (sigI ps)) (h.length + 4) (sigW ps)).take h.length = h:=by
   rw [z8w (by omega),z8w (by omega),z8w (by omega),zpC]
  revert ht
  generalize z2N _ (h.length + 4) (sigW ps) = hp1
  intro ht
  have n4 : ¬ (h.length + 4 < h.length):=by omega
  have n2 : ¬ (h.length + 2 < h.length):=by omega
  have n0 : ¬ (h.length < h.length):=by omega
  have e3 : z28 3 [(h.length + 4,h.length + 6),(h.length + 2,h.length + 4),(h.length,h.length + 2)] h.length = h.length:=by simp only [z28,bump,List.foldl_cons,List.foldl_nil,n4,n2,n0,if_false]; try simp [n4,n2]
  have e4 : z1p [(h.length + 4,h.length + 6),(h.length + 2,h.length + 4),(h.length,h.length + 2)] h.length = true:=by simp [z1p]
  simp only [retK,go_sem,e3,e4,ht]
  simp
end Go.Am
end
section
/- The reference: the fault of a program. -/
open Go
set_option linter.all false
namespace Go.Am
variable {h : Heap} {K : Post}
attribute [-go_sem] oEqa
theorem zqP {pre : List Cmd} {c : Cmd} {state : Nat} (S : SetOk pre) (hst : state ∈ stb) (hc : cmdF c = 0) :
 (z01 z0c pre c state).tms.length ≤ 20008 ∧ (z01 z0c pre c state).tdi.length = (z01 z0c pre c state).tms.length ∧ (z01 z0c pre c state).want.length = (z01 z0c pre c state).tms.length:=by
 have hz : ∀ n,(zs n).length = n:=fun n=>by simp [zs]
 have hx : ∀ n,(xsL n).length = n:=fun n=>by simp [xsL]
 cases z0U hc with
 | set h hs e=>rw [z1t z0c (by omega)]; exact ⟨Nat.zero_le _,rfl,rfl⟩
 | pad h0 h1 hb hl e=>rw [z1t z0c h1]; exact ⟨Nat.zero_le _,rfl,rfl⟩
 | go h hs e=>
  rw [z4R z0c h]
  have:=(z0p (z0Y hst) (z1B (z0v hs).1)).2.1
  exact ⟨by show (z0c state c.s.toNat).length ≤ _; omega,hz _,hx _⟩
 | idle h h0 h1 e=>
  rw [z2z z0c h]
  have:=(z0p (z0Y hst) (show 1 ∈ toS by decide)).2.1
  refine ⟨?_,?_,?_⟩ <;> simp only [List.length_append,hz,hx] <;> omega
 | scan h hs e=>
  obtain ⟨q1,q2,q3,q4,q5,q6⟩:=z1H hs
  have hpos:=List.length_pos_iff.2 q1
  have he : (expC c).length = c.b.length:=by simp [expC]
  have key : ∀ (sh ex : Nat) (hd tl : List UInt8) (en : Nat),sh ∈ toS → ex ∈ frS → en ∈ stb → hd.length ≤ 2000 → tl.length ≤ 2000 →
   (padP (z1c z0c c state sh ex hd tl en)).tms.length ≤ 20008 ∧ (padP (z1c z0c c state sh ex hd tl en)).tdi.length = (padP (z1c z0c c state sh ex hd tl en)).tms.length ∧ (padP (z1c z0c c state sh ex hd tl en)).want.length = (padP (z1c z0c c state sh ex hd tl en)).tms.length:=by
   intro sh ex hd tl en h1 h2 h3 h4 h5
   have p1:=(z0p (z0Y hst) h1).2.1
   have p2:=(z0p h2 (z1B h3)).2.1
   rw [z2y z0c c state sh ex hd tl en q1]
   refine ⟨?_,?_,?_⟩ <;> simp only [List.length_append,hz,hx,he,List.length_singleton] <;> omega
  rcases h with h | h
  ·have ep : z01 z0c pre c state = padP (z1c z0c c state 11 12 (setC pre 3).b (setC pre 4).b (setC pre 1).s.toNat):=by
    unfold z01; rw [if_neg (by omega),if_neg (by omega),if_pos h]
   rw [ep]
   exact key _ _ _ _ _ (by decide) (by decide) (z0v S.s1).1 (S.b1 3 (by omega) (by omega)).2 (S.b1 4 (by omega) (by omega)).2
  ·have ep : z01 z0c pre c state = padP (z1c z0c c state 4 5 (setC pre 5).b (setC pre 6).b (setC pre 2).s.toNat):=by
    unfold z01; rw [if_neg (by omega),if_neg (by omega),if_neg (by omega),if_pos h]
   rw [ep]
   exact key _ _ _ _ _ (by decide) (by decide) (z0v S.s2).1 (S.b1 5 (by omega) (by omega)).2 (S.b1 6 (by omega) (by omega)).2
theorem zoW {l : List Cmd} (hc : ∀ c ∈ l,cmdF c = 0) : ∀ k,k ≤ l.length → (sigT (z0j z0c [] 0 (l.take k))).length ≤ k * 20008 ∧ (sigI (z0j z0c [] 0 (l.take k))).length = (sigT (z0j z0c [] 0 (l.take k))).length ∧ (sigW (z0j z0c [] 0 (l.take k))).length = (sigT (z0j z0c [] 0 (l.take k))).length
 | 0,_=>⟨Nat.zero_le _,rfl,rfl⟩
 | k + 1,hk=>by
  obtain ⟨a,b,c⟩:=zoW hc k (by omega)
  obtain ⟨S,T⟩:=z6H hc k (by omega)
  have hlt : k < l.length:=by omega
  obtain ⟨x,y,z⟩:=zqP S T (hc _ (List.getElem_mem hlt))
  rw [List.take_succ_eq_append_getElem hlt,(z1M l[k] (l.take k) [] 0).1,List.nil_append]
  obtain ⟨e1,e2,e3⟩:=z5T (z0j z0c [] 0 (l.take k)) (z01 z0c (l.take k) l[k] (stAt [] 0 (l.take k)))
  rw [e1,e2,e3,List.length_append,List.length_append,List.length_append]
  refine ⟨?_,by omega,by omega⟩
  rw [Nat.add_mul]; omega
theorem s_SigW (l : List Cmd) (hc : ∀ c ∈ l,cmdF c = 0) (hl : l.length ≤ 1000) : z0d X z71 [ACs l] h K = K (.tup [AS (sigT (z0j z0c [] 0 l)),AS (sigI (z0j z0c [] 0 l)),AS (sigW (z0j z0c [] 0 l))]) h []:=by
 obtain ⟨a,b,c⟩:=zoW hc l.length (Nat.le_refl _)
 rw [List.take_length] at a b c
 have : l.length * 20008 ≤ 1000 * 20008:=Nat.mul_le_mul_right _ hl
 exact zd5 l hc (by omega) (by omega) (by omega) (by omega)
theorem z1V : ∀ {l : List Cmd},(∀ c ∈ l,cmdF c = 0) → z4N l = 0
 | [],_=>rfl
 | d :: l,h=>by
  unfold z4N
  rw [if_neg (by rw [h d (List.mem_cons_self ..)]; simp)]
  exact z1V fun c hc=>h c (List.mem_cons_of_mem _ hc)
theorem z7i : ∀ {l : List Cmd} {k : Nat} (hk : k < l.length),(∀ c ∈ l.take k,cmdF c = 0) → cmdF l[k] ≠ 0 → z4N l = cmdF l[k]
 | d :: l,0,hk,_,h2=>by unfold z4N; rw [if_pos (by simpa using h2)]; rfl
 | d :: l,k + 1,hk,h1,h2=>by
  unfold z4N
  rw [if_neg (by rw [h1 d (by simp)]; simp)]
  exact z7i (l:=l) (k:=k) (by simpa using hk) (fun c hc=>h1 c (by simp [hc])) (by simpa using h2)
set_option maxHeartbeats 2000000 in
theorem z6B (l : List Cmd) (hok : ∀ c ∈ l,CmdOk c) (hl : l.length ≤ 1000000) : z0d X z7z [ACs l] h K = K (AI (z1e z0c l : Nat)) h []:=by
 refine rule ?_
 rw [c_q033 rfl]
 by_cases hbig : 1000 < l.length
 ·have h1 : (1000 : Int) < (l.length : Int):=by omega
  have e : z1e z0c l = 2:=by unfold z1e; rw [if_pos hbig]
  rw [e]
  simp only [zb0,go_sem,h1]
 have h1 : ¬ (1000 : Int) < (l.length : Int):=by omega
 simp only [zb0,go_sem,h1]
 refine z1m (fun k : Nat=>⟨[(0,ACs l),(12,ACs l),(13,AI l.length),(14,AI k)],h,[]⟩) (fun k=>k ≤ l.length ∧ ∀ c ∈ l.take k,cmdF c = 0) (fun k=>l.length - k) 0 rfl ⟨Nat.zero_le _,by simp⟩ ?_
 rintro k ⟨hk,hn⟩
 rcases Nat.lt_or_ge k l.length with hlt | hge
 ·have hg:=z2t cmdP hlt
  have w2 : IntKind.i64.wrap ((k : Int) + 1) = ((k + 1 : Nat) : Int):=z0l _ (by omega) (by omega)
  have hf:=fun (h' : Heap) (K' : Post)=>z8A (h:=h') (K:=K') l[k] (hok _ (List.getElem_mem hlt))
  by_cases h0 : cmdF l[k] = 0
  ·have h0' : ((cmdF l[k] : Nat) : Int) = 0:=by omega
   simp only [go_sem,hlt,hg,w2,hf,h0']
   refine ⟨k + 1,rfl,⟨by omega,?_⟩,by omega⟩
   intro c hc
   rw [List.take_succ_eq_append_getElem hlt] at hc
   rcases List.mem_append.1 hc with hc | hc
   ·exact hn c hc
   ·obtain rfl : c = l[k]:=by simpa using hc
    exact h0
  ·have h0' : ¬ ((cmdF l[k] : Nat) : Int) = 0:=by omega
   simp only [go_sem,hlt,hg,w2,hf,h0']
   have e : z1e z0c l = cmdF l[k]:=by
    unfold z1e
    rw [if_neg (by omega),z7i hlt hn h0,if_pos h0]
   rw [e]
 ·obtain rfl : k = l.length:=by omega
  rw [List.take_length] at hn
  have hs:=fun (h' : Heap) (K' : Post)=>s_SigW (h:=h') (K:=K') l hn (by omega)
  have e : z1e z0c l = if 20000 < (sigT (z0j z0c [] 0 l)).length then 2 else 0:=by
   unfold z1e
   rw [if_neg (by omega),z1V hn,if_neg (by simp)]
  rw [e]
  by_cases h2 : 20000 < (sigT (z0j z0c [] 0 l)).length
  ·have h2' : (20000 : Int) < ((sigT (z0j z0c [] 0 l)).length : Int):=by omega
   simp only [go_sem,Nat.lt_irrefl,Int.lt_irrefl,hs,h2,h2']
  ·have h2' : ¬ (20000 : Int) < ((sigT (z0j z0c [] 0 l)).length : Int):=by omega
   simp only [go_sem,Nat.lt_irrefl,Int.lt_irrefl,hs,h2,h2']
theorem z8r (l : List Cmd) (hok : ∀ c ∈ l,CmdOk c) (hl : l.length ≤ 40) : z0d X z7z [ACs l] h K = K (AI (z1e z0c l : Nat)) h []:=z6B l hok (by omega)
end Go.Am
end
section
/- The program: a run in the heap; a clock. -/
open Go
set_option linter.all false
namespace Go.Am
variable {h l : Heap} {K : Post} {r : Run}
attribute [-go_sem] oEqa splice
def rc (s : Sett) (st ck ni nd : Int) (a b c d e : AV) (w : Bool) : List AV:=
 [AI s.e1.k,AI s.e1.s,AI s.e1.cl,AS s.e1.b,AS s.e1.w,AS s.e1.m,AI s.e2.k,AI s.e2.s,AI s.e2.cl,AS s.e2.b,AS s.e2.w,AS s.e2.m,
  AI s.h1.k,AI s.h1.s,AI s.h1.cl,AS s.h1.b,AS s.h1.w,AS s.h1.m,AI s.t1.k,AI s.t1.s,AI s.t1.cl,AS s.t1.b,AS s.t1.w,AS s.t1.m,
  AI s.h2.k,AI s.h2.s,AI s.h2.cl,AS s.h2.b,AS s.h2.w,AS s.h2.m,AI s.t2.k,AI s.t2.s,AI s.t2.cl,AS s.t2.b,AS s.t2.w,AS s.t2.m,
  AI st,AI ck,AI ni,AI nd,a,b,c,d,e,AB w]
section
variable {s : Sett} {st ck ni nd x : Int} {a b c d e o : AV} {w : Bool}
theorem zfv : (rc s st ck ni nd a b c d e w).length = 46:=(rfl)
theorem zfu : z6g (rc s st ck ni nd a b c d e w) = false:=(rfl)
theorem rc_1 : (rc s st ck ni nd a b c d e w)[1]? = some (AI s.e1.s):=(rfl)
theorem rc_7 : (rc s st ck ni nd a b c d e w)[7]? = some (AI s.e2.s):=(rfl)
theorem zqU : (rc s st ck ni nd a b c d e w)[15]? = some (AS s.h1.b):=(rfl)
theorem zqV : (rc s st ck ni nd a b c d e w)[21]? = some (AS s.t1.b):=(rfl)
theorem zqW : (rc s st ck ni nd a b c d e w)[27]? = some (AS s.h2.b):=(rfl)
theorem zqX : (rc s st ck ni nd a b c d e w)[33]? = some (AS s.t2.b):=(rfl)
theorem zon : (rc s st ck ni nd a b c d e w)[36]? = some (AI st):=(rfl)
theorem zd3 : (rc s st ck ni nd a b c d e w)[37]? = some (AI ck):=(rfl)
theorem zoo : (rc s st ck ni nd a b c d e w)[38]? = some (AI ni):=(rfl)
theorem zop : (rc s st ck ni nd a b c d e w)[39]? = some (AI nd):=(rfl)
theorem zoq : (rc s st ck ni nd a b c d e w)[40]? = some a:=(rfl)
theorem zor : (rc s st ck ni nd a b c d e w)[41]? = some b:=(rfl)
theorem zos : (rc s st ck ni nd a b c d e w)[42]? = some c:=(rfl)
theorem zot : (rc s st ck ni nd a b c d e w)[43]? = some d:=(rfl)
theorem zou : (rc s st ck ni nd a b c d e w)[44]? = some e:=(rfl)
theorem zqY : (rc s st ck ni nd a b c d e w)[45]? = some (AB w):=(rfl)
theorem zfw : splice (rc s st ck ni nd a b c d e w) 36 [AI x] = rc s x ck ni nd a b c d e w:=(rfl)
theorem zfx : splice (rc s st ck ni nd a b c d e w) 37 [AI x] = rc s st x ni nd a b c d e w:=(rfl)
theorem zfy : splice (rc s st ck ni nd a b c d e w) 38 [AI x] = rc s st ck x nd a b c d e w:=(rfl)
theorem zfz : splice (rc s st ck ni nd a b c d e w) 39 [AI x] = rc s st ck ni x a b c d e w:=(rfl)
theorem zf0 : splice (rc s st ck ni nd a b c d e w) 40 [o] = rc s st ck ni nd o b c d e w:=(rfl)
theorem zf1 : splice (rc s st ck ni nd a b c d e w) 41 [o] = rc s st ck ni nd a o c d e w:=(rfl)
theorem zf2 : splice (rc s st ck ni nd a b c d e w) 42 [o] = rc s st ck ni nd a b o d e w:=(rfl)
theorem zf3 : splice (rc s st ck ni nd a b c d e w) 43 [o] = rc s st ck ni nd a b c o e w:=(rfl)
theorem zf4 : splice (rc s st ck ni nd a b c d e w) 44 [o] = rc s st ck ni nd a b c d o w:=(rfl)
variable {q : Cmd}
theorem rcs_0 : splice (rc s st ck ni nd a b c d e w) 0 [AI q.k,AI q.s,AI q.cl,AS q.b,AS q.w,AS q.m] = rc { s with e1:=q } st ck ni nd a b c d e w:=(rfl)
theorem rcs_6 : splice (rc s st ck ni nd a b c d e w) 6 [AI q.k,AI q.s,AI q.cl,AS q.b,AS q.w,AS q.m] = rc { s with e2:=q } st ck ni nd a b c d e w:=(rfl)
theorem zt1 : splice (rc s st ck ni nd a b c d e w) 12 [AI q.k,AI q.s,AI q.cl,AS q.b,AS q.w,AS q.m] = rc { s with h1:=q } st ck ni nd a b c d e w:=(rfl)
theorem zt2 : splice (rc s st ck ni nd a b c d e w) 18 [AI q.k,AI q.s,AI q.cl,AS q.b,AS q.w,AS q.m] = rc { s with t1:=q } st ck ni nd a b c d e w:=(rfl)
theorem zt3 : splice (rc s st ck ni nd a b c d e w) 24 [AI q.k,AI q.s,AI q.cl,AS q.b,AS q.w,AS q.m] = rc { s with h2:=q } st ck ni nd a b c d e w:=(rfl)
theorem zt4 : splice (rc s st ck ni nd a b c d e w) 30 [AI q.k,AI q.s,AI q.cl,AS q.b,AS q.w,AS q.m] = rc { s with t2:=q } st ck ni nd a b c d e w:=(rfl)
end
abbrev eN (n : Nat) : PV:=eI n
def rh (h : Heap) (r : Run) (l : Heap) : Heap:=h ++ .row none (r.sts.map eN) 0 :: .row none (r.frs.map eN) 0 :: .row none (z0o r.tms) 0 :: .row none (z0o r.tdi) 0 :: .row none (z0o r.want) 0 ::
 .box (rc r.se r.st r.ck r.ni r.nd (.own h.length r.sts.length 0 r.sts.length) (.own (h.length + 1) r.frs.length 0 r.frs.length) (.own (h.length + 2) r.tms.length 0 r.tms.length) (.own (h.length + 3) r.tdi.length 0 r.tdi.length) (.own (h.length + 4) r.want.length 0 r.want.length) r.wr) :: l
structure RunOk (r : Run) : Prop where
 t : r.tms.length ≤ r.ck
 i : r.tdi.length ≤ r.ck
 w : r.want.length ≤ r.ck
theorem z23 {L : List (UInt8 × UInt8 × UInt8)} (R : RunOk r) : RunOk (r.clk L):=by
 unfold Run.clk
 have:=R.t; have:=R.i; have:=R.w
 split <;> (refine ⟨?_,?_,?_⟩ <;> simp <;> omega)
attribute [local go_sem] zfv zfu rc_1 rc_7 zqU zqV zqW zqX zon zd3 zoo zop zoq zor zos zot zou zqY zfw zfx zfy zfz zf0 zf1 zf2 zf3 zf4
set_option maxHeartbeats 2000000 in
theorem za1 (R : RunOk r) (hck : r.ck ≤ 1000000000) (a b c : UInt8) : z0d X z3O [.ref (h.length + 5) 0,.p (.int .u8 a.toNat),.p (.int .u8 b.toNat),.p (.int .u8 c.toNat)] (rh h r l) K = K (.tup []) (rh h (r.clk [(a,b,c)]) l) []:=by
 refine rule ?_
 rw [c_q06j rfl]
 have hr:=R.t; have:=R.i; have:=R.w
 have w1 : IntKind.i64.wrap ((r.ck : Int) + 1) = ((r.ck + 1 : Nat) : Int):=z0l _ (by omega) (by omega)
 obtain ⟨se,st,ck,ni,nd,sts,frs,tms,tdi,want,wr⟩:=r
 dsimp only at *
 unfold rh Run.clk
 have m1 : tms.length + 1 ≤ z0I:=by unfold z0I; omega
 have m2 : tdi.length + 1 ≤ z0I:=by unfold z0I; omega
 have m3 : want.length + 1 ≤ z0I:=by unfold z0I; omega
 have e2 : ∀ k n o m,k < 5 → z2X (h.length + 5) (.own (h.length + k) n o m) = []:=fun k n o m hk=>by unfold z2X; rw [zdE,if_neg (by omega)]
 have e3:=fun n o m=>e2 2 n o m (by decide)
 have e4:=fun n o m=>e2 3 n o m (by decide)
 have e5:=fun n o m=>e2 4 n o m (by decide)
 cases wr with
 | false=>simp only [zeB,go_sem,w1]
 | true=>
  simp only [zeB,go_sem,w1,z2i,m1,m2,m3,e3,e4,e5,List.take_length]
  simp [z0o]
end Go.Am
end
section
/- The program: a walk. -/
open Go
set_option linter.all false
namespace Go.Am
variable {h l l2 : Heap} {K : Post} {r : Run} {n : Nat} {o : Obj}
attribute [-go_sem] oEqa splice
attribute [local go_sem] zfv zfu rc_1 rc_7 zqU zqV zqW zqX zon zd3 zoo zop zoq zor zos zot zou zqY zfw zfx zfy zfz zf0 zf1 zf2 zf3 zf4 rcs_0 rcs_6 zt1 zt2 zt3 zt4
theorem z8k : (rh h r l).length = h.length + (l.length + 6):=by unfold rh; simp
theorem zc3 : rh h r l ++ l2 = rh h r (l ++ l2):=by unfold rh; simp
theorem z9z : (rh h r l)[h.length + (n + 6)]? = l[n]?:=by unfold rh; rw [z3t]; rfl
theorem z90 : (rh h r l).set (h.length + (n + 6)) o = rh h r (l.set n o):=by unfold rh; rw [z6T]; rfl
theorem z6i : (rh h r l).take (h.length + (n + 6)) = rh h r (l.take n):=by unfold rh; rw [z9P]; rfl
theorem z5L : (rh h r l).take h.length = h:=by unfold rh; rw [z5a]
theorem z9y : (rh h r l)[h.length + 5]? = some (.box (rc r.se r.st r.ck r.ni r.nd (.own h.length r.sts.length 0 r.sts.length) (.own (h.length + 1) r.frs.length 0 r.frs.length) (.own (h.length + 2) r.tms.length 0 r.tms.length) (.own (h.length + 3) r.tdi.length 0 r.tdi.length) (.own (h.length + 4) r.want.length 0 r.want.length) r.wr)):=by unfold rh; rw [z3t]; rfl
section
variable {s : Sett} {x y z : Nat}
theorem zc4 : (rh h r l).set (h.length + 5) (.box (rc s x r.ck y z (.own h.length r.sts.length 0 r.sts.length) (.own (h.length + 1) r.frs.length 0 r.frs.length) (.own (h.length + 2) r.tms.length 0 r.tms.length) (.own (h.length + 3) r.tdi.length 0 r.tdi.length) (.own (h.length + 4) r.want.length 0 r.want.length) r.wr)) = rh h { r with se:=s,st:=x,ni:=y,nd:=z } l:=by unfold rh; rw [z6T]; rfl
end
attribute [local go_sem] z8k zc3 z9z z90 z6i z5L z9y zc4
theorem z9V : r.clk [] = r:=by unfold Run.clk; split <;> simp
theorem z6D {L : List (UInt8 × UInt8 × UInt8)} {x : UInt8 × UInt8 × UInt8} : (r.clk L).clk [x] = r.clk (L ++ [x]):=by
 unfold Run.clk
 cases hw : r.wr <;> simp [hw,Nat.add_assoc]
theorem zbb {L : List (UInt8 × UInt8 × UInt8)} : (r.clk L).ck = r.ck + L.length:=(z1U r L).2.2.2.2.2.1
theorem z30 {tov : Nat} (R : RunOk r) : RunOk (r.go z0c tov):=by
 have Q:=z23 (L:=(z0c r.st tov).map fun c=>(c,48,120)) R
 exact ⟨Q.t,Q.i,Q.w⟩
theorem zdu {tov : Nat} : (r.go z0c tov).ck = r.ck + (z0c r.st tov).length:=(z06 z0c r tov).2.2.2.2.2.1
set_option maxHeartbeats 2000000 in
theorem z9E (R : RunOk r) (hck : r.ck ≤ 900000000) (hf : r.st ∈ frS) {tov : Nat} (ht : tov ∈ toS) : z0d X z2Z [.ref (h.length + 5) 0,AI tov] (rh h r l) K = K (.tup []) (rh h (r.go z0c tov) l) []:=by
 refine rule ?_
 rw [c_q06m rfl]
 have to16 : tov < 16:=by simp only [toS,List.mem_cons,List.not_mem_nil,or_false] at ht; omega
 have hp:=fun (h' : Heap) (K' : Post)=>s_Path (h:=h') (K:=K') (fr_lt hf) to16
 obtain ⟨pb,pl,_⟩:=z0p hf ht
 have hgo : r.go z0c tov = { r.clk ((z0c r.st tov).map fun c=>(c,48,120)) with st:=tov }:=rfl
 rw [hgo]
 simp only [zeC,go_sem,hp]
 generalize z0c r.st tov = w at pl ⊢
 refine z1m (fun k : Nat=>⟨[(0,.ref (h.length + 5) 0),(1,AI tov),(4,AS w),(17,AI w.length),(18,AI k)],rh h (r.clk ((w.take k).map fun c=>(c,48,120))) l,[]⟩) (fun k=>k ≤ w.length) (fun k=>w.length - k) 0 (by rw [List.take_zero,List.map_nil,z9V]; rfl) (by omega) ?_
 intro k hk
 have hc:=fun (a : UInt8) (K' : Post)=>za1 (h:=h) (l:=l) (K:=K') (z23 (L:=(w.take k).map fun c=>(c,48,120)) R) (by rw [zbb]; simp; omega) a 48 120
 rcases Nat.lt_or_ge k w.length with hlt | hge
 ·have w2 : IntKind.i64.wrap ((k : Int) + 1) = ((k + 1 : Nat) : Int):=z0l _ (by omega) (by omega)
  have hg : w[k]? = some w[k]:=List.getElem?_eq_getElem hlt
  have hlt' : (k : Int) < (w.length : Int):=by omega
  have hc':=fun (K' : Post)=>hc w[k] K'
  simp only [show (((48 : UInt8).toNat : Nat) : Int) = 48 from rfl,show (((120 : UInt8).toNat : Nat) : Int) = 120 from rfl] at hc'
  simp only [go_sem,hlt,hlt',hg,w2,hc']
  refine ⟨k + 1,?_,by omega,by omega⟩
  rw [z6D,List.take_succ_eq_append_getElem hlt,List.map_append]; rfl
 ·obtain rfl : k = w.length:=by omega
  have hs:=(z1U r ((w.map fun c=>((c,48,120) : UInt8 × UInt8 × UInt8)))).1
  simp only [go_sem,Nat.lt_irrefl,Int.lt_irrefl,List.take_length]
end Go.Am
end
section
/- The program: a scan. -/
open Go
set_option linter.all false
namespace Go.Am
variable {h l l2 : Heap} {K : Post} {r : Run} {n : Nat} {o : Obj}
attribute [-go_sem] oEqa splice
attribute [local go_sem] zfv zfu rc_1 rc_7 zqU zqV zqW zqX zon zd3 zoo zop zoq zor zos zot zou zqY zfw zfx zfy zfz zf0 zf1 zf2 zf3 zf4 rcs_0 rcs_6 zt1 zt2 zt3 zt4
attribute [local go_sem] z8k zc3 z9z z90 z6i z5L z9y zc4
def RunN (r : Run) : Prop:=r.ni ≤ r.ck ∧ r.nd ≤ r.ck
theorem z6k {tov : Nat} (N : RunN r) : RunN (r.go z0c tov):=by
 obtain ⟨_,_,_,_,_,c,a,b⟩:=z06 z0c r tov
 obtain ⟨x,y⟩:=N
 exact ⟨by rw [a,c]; omega,by rw [b,c]; omega⟩
structure SetR (s : Sett) : Prop where
 s1 : z0C s.e1.s = true
 s2 : z0C s.e2.s = true
 h1 : s.h1.b.length ≤ 2000
 t1 : s.t1.b.length ≤ 2000
 h2 : s.h2.b.length ≤ 2000
 t2 : s.t2.b.length ≤ 2000
theorem zcF {c : Cmd} {hd al : List UInt8} {k : Nat} (hk : k < al.length) : (z0L c hd al)[k]? = some (if k = al.length - 1 then 49 else 48,al[k],if hd.length ≤ k then (if k - hd.length < c.m.length then z2L c (k - hd.length) else 120) else 120):=by
 unfold z0L
 rw [List.getElem?_map,List.getElem?_range hk,Option.map_some,List.getElem?_eq_getElem hk]; rfl
theorem zoR {c : Cmd} (h7 : c.k = 7) : r.scn z0c c = Run.go z0c { Run.clk { r.go z0c 11 with ni:=(r.go z0c 11).ni + (r.se.h1.b ++ c.b ++ r.se.t1.b).length } (z0L c r.se.h1.b (r.se.h1.b ++ c.b ++ r.se.t1.b)) with st:=12 } r.se.e1.s.toNat ∧ r.scnF z0c c = (r.go z0c 11).ck + r.se.h1.b.length:=by
 unfold Run.scn Run.scnF
 simp [h7]
set_option maxHeartbeats 4000000 in
theorem zrv (R : RunOk r) (N : RunN r) (hck : r.ck ≤ 800000000) (hst : r.st ∈ stb) (S : SetR r.se) (c : Cmd) (h7 : c.k = 7) (hs : z29 c = 0) : z0d X z5m [.ref (h.length + 5) 0,ACm c] (rh h r l) K = K (AI (r.scnF z0c c : Nat)) (rh h (r.scn z0c c) l) []:=by
 refine rule ?_
 rw [zss rfl,(zoR h7).1,(zoR h7).2]
 have hw1:=fun (l : Heap) (K' : Post)=>z9E (h:=h) (l:=l) (K:=K') R (by omega) (z0Y hst) (show 11 ∈ toS by decide)
 simp only [show (((11 : Nat)) : Int) = 11 from rfl] at hw1
 have R1:=z30 (tov:=11) R
 have c1 : (r.go z0c 11).ck ≤ 800000008:=by have:=(z0p (z0Y hst) (show 11 ∈ toS by decide)).2.1; rw [zdu]; omega
 have N1:=z6k (tov:=11) N
 generalize r.go z0c 11 = r1 at *
 obtain ⟨q1,q2,q3,q4,q5,q6⟩:=z1H hs
 obtain ⟨n1,n2⟩:=z0v S.s1
 have hh:=S.h1; have ht:=S.t1
 generalize hhd : r.se.h1.b = hd at *
 generalize htl : r.se.t1.b = tl at *
 generalize hen : r.se.e1.s = en at *
 obtain ⟨en',rfl⟩ : ∃ n : Nat,en = n:=⟨en.toNat,n2.symm⟩
 simp only [Int.toNat_natCast] at n1 n2 ⊢
 obtain ⟨k,s,cl,b,w,m⟩:=c
 dsimp only at h7 q1 q3 q6 ⊢
 subst h7
 have hbp:=List.length_pos_iff.2 q1
 have x1 : hd.length + b.length ≤ z0z:=by unfold z0z; omega
 have x2 : hd.length + (b.length + tl.length) ≤ z0z:=by unfold z0z; omega
 have x3 : hd.length + b.length + tl.length ≤ z0z:=by unfold z0z; omega
 obtain ⟨hn,hd'⟩:=N1
 obtain ⟨al,hal⟩ : ∃ al,al = hd ++ b ++ tl:=⟨_,rfl⟩
 have hall : al.length = hd.length + b.length + tl.length:=by rw [hal]; simp; omega
 have hal2:=hal
 rw [List.append_assoc] at hal2
 have w1 : IntKind.i64.wrap ((r1.ni : Int) + (al.length : Int)) = ((r1.ni + al.length : Nat) : Int):=z0l _ (by omega) (by omega)
 have w2 : IntKind.i64.wrap ((r1.ck : Int) + (hd.length : Int)) = ((r1.ck + hd.length : Nat) : Int):=z0l _ (by omega) (by omega)
 simp only [zbP,go_sem,hw1,hhd,htl,hen,x1,x2,x3,← hal,← hal2,w1,w2]
 have R2 : RunOk { r1 with ni:=r1.ni + al.length }:=⟨R1.t,R1.i,R1.w⟩
 have c2 : { r1 with ni:=r1.ni + al.length : Run }.ck = r1.ck:=rfl
 show z14 (z0d X) X.gl _ _ _ (rh h { r1 with ni:=r1.ni + al.length } _) []
 generalize { r1 with ni:=r1.ni + al.length : Run } = r2 at R2 c2 ⊢
 generalize hq : (⟨7,s,cl,b,w,m⟩ : Cmd) = c at *
 have hcm : c.m = m:=by rw [← hq]
 have hcw : c.w = w:=by rw [← hq]
 have hml : m.length ≤ b.length ∧ m.length ≤ w.length:=by
  rcases q6 with ⟨e1,e2⟩ | ⟨e1,e2⟩
  ·rw [e2]; exact ⟨Nat.zero_le _,Nat.zero_le _⟩
  ·omega
 have hal0 : 0 < al.length:=by omega
 refine z1m (fun k : Nat=>⟨[(0,.ref (h.length + 5) 0),(3,.ref (h.length + (l.length + 6)) 0),(5,AS hd),(7,AI en'),(9,AI 12),(10,AS al),(11,AI (r1.ck + hd.length : Nat)),(93,AI al.length),(94,AI k)],
  rh h (r2.clk ((z0L c hd al).take k)) (l ++ [.box [AI 7,AI s,AI cl,AS b,AS w,AS m]]),[]⟩) (fun k=>k ≤ al.length) (fun k=>al.length - k) 0 (by rw [List.take_zero,z9V]; rfl) (by omega) ?_
 intro k hk
 have hlen : (z0L c hd al).length = al.length:=z2a c hd al
 have R3:=z23 (L:=(z0L c hd al).take k) R2
 have c3 : (r2.clk ((z0L c hd al).take k)).ck ≤ 900000000:=by rw [zbb,c2,List.length_take]; omega
 rcases Nat.lt_or_ge k al.length with hlt | hge
 ·have w3 : IntKind.i64.wrap ((k : Int) + 1) = ((k + 1 : Nat) : Int):=z0l _ (by omega) (by omega)
  have w4 : IntKind.i64.wrap ((al.length : Int) - 1) = ((al.length - 1 : Nat) : Int):=by
   rw [show (al.length : Int) - 1 = ((al.length - 1 : Nat) : Int) by omega]; exact z0l _ (by omega) (by omega)
  have hlt' : (k : Int) < (al.length : Int):=by omega
  have hg : al[k]? = some al[k]:=List.getElem?_eq_getElem hlt
  have hcl:=fun (t v : UInt8) (K' : Post)=>za1 (h:=h) (l:=l ++ [.box [AI 7,AI s,AI cl,AS b,AS w,AS m]]) (K:=K') R3 (by omega) t al[k] v
  have hsg:=zcF (c:=c) (hd:=hd) hlt
  have hstep : ∀ t v : UInt8,(z0L c hd al)[k]? = some (t,al[k],v) → (r2.clk ((z0L c hd al).take k)).clk [(t,al[k],v)] = r2.clk ((z0L c hd al).take (k + 1)):=fun t v e=>by
   rw [z6D,List.take_succ,e]; rfl
  have e48 : (((48 : UInt8).toNat : Nat) : Int) = 48:=rfl
  have e49 : (((49 : UInt8).toNat : Nat) : Int) = 49:=rfl
  have e120 : (((120 : UInt8).toNat : Nat) : Int) = 120:=rfl
  generalize r2.clk ((z0L c hd al).take k) = r3 at R3 c3 hcl hstep ⊢
  -- what is expected
  by_cases hk0 : hd.length ≤ k
  ·have w5 : IntKind.i64.wrap ((k : Int) - (hd.length : Int)) = ((k - hd.length : Nat) : Int):=by
    rw [show (k : Int) - (hd.length : Int) = ((k - hd.length : Nat) : Int) by omega]; exact z0l _ (by omega) (by omega)
   have z0 : (0 : Int) ≤ ((k - hd.length : Nat) : Int):=by omega
   rw [if_pos hk0] at hsg
   by_cases hm : k - hd.length < m.length
   ·have hm' : ((k - hd.length : Nat) : Int) < (m.length : Int):=by omega
    rw [hcm,if_pos hm] at hsg
    have hgm : m[k - hd.length]? = some m[k - hd.length]:=List.getElem?_eq_getElem hm
    have hgw : w[k - hd.length]? = some (w[k - hd.length]'(by omega)):=List.getElem?_eq_getElem (by omega)
    by_cases h49 : m[k - hd.length] = 49
    ·have hx : z2L c (k - hd.length) = w[k - hd.length]'(by omega):=by unfold z2L; rw [hcm,hgm,h49,if_pos rfl,hcw,hgw]; rfl
     rw [hx] at hsg
     by_cases hl1 : k = al.length - 1
     ·have hl2 : ((k : Int) = ((al.length - 1 : Nat) : Int)) = True:=eq_true (by omega)
      have hcl1:=fun K'=>hcl 49 (w[k - hd.length]'(by omega)) K'
      rw [if_pos hl1] at hsg
      rw [e49] at hcl1
      simp only [go_sem,hlt,hlt',hg,w3,w4,w5,z0,hm,hm',hgm,hgw,h49,e49,hl2,hcl1]
      exact ⟨k + 1,by rw [hstep _ _ hsg],by omega,by omega⟩
     ·have hl2 : ((k : Int) = ((al.length - 1 : Nat) : Int)) = False:=eq_false (by omega)
      have hcl1:=fun K'=>hcl 48 (w[k - hd.length]'(by omega)) K'
      rw [if_neg hl1] at hsg
      rw [e48] at hcl1
      simp only [go_sem,hlt,hlt',hg,w3,w4,w5,z0,hm,hm',hgm,hgw,h49,e49,hl2,hcl1]
      exact ⟨k + 1,by rw [hstep _ _ hsg],by omega,by omega⟩
    ·have hx : z2L c (k - hd.length) = 120:=by unfold z2L; rw [hcm,hgm,if_neg (fun e=>h49 (Option.some.inj e))]
     rw [hx] at hsg
     have h49' : ¬ ((m[k - hd.length].toNat : Int) = 49):=fun e=>h49 (UInt8.toNat_inj.1 (by rw [show (49 : UInt8).toNat = 49 from rfl]; omega))
     by_cases hl1 : k = al.length - 1
     ·have hl2 : ((k : Int) = ((al.length - 1 : Nat) : Int)) = True:=eq_true (by omega)
      have hcl1:=fun K'=>hcl 49 120 K'
      rw [if_pos hl1] at hsg
      rw [e49] at hcl1
      rw [e120] at hcl1
      simp only [go_sem,hlt,hlt',hg,w3,w4,w5,z0,hm,hm',hgm,h49',hl2,hcl1]
      exact ⟨k + 1,by rw [hstep _ _ hsg],by omega,by omega⟩
     ·have hl2 : ((k : Int) = ((al.length - 1 : Nat) : Int)) = False:=eq_false (by omega)
      have hcl1:=fun K'=>hcl 48 120 K'
      rw [if_neg hl1] at hsg
      rw [e48] at hcl1
      rw [e120] at hcl1
      simp only [go_sem,hlt,hlt',hg,w3,w4,w5,z0,hm,hm',hgm,h49',hl2,hcl1]
      exact ⟨k + 1,by rw [hstep _ _ hsg],by omega,by omega⟩
   ·have hm' : ¬ ((k - hd.length : Nat) : Int) < (m.length : Int):=by omega
    rw [hcm,if_neg hm] at hsg
    by_cases hl1 : k = al.length - 1
    ·have hl2 : ((k : Int) = ((al.length - 1 : Nat) : Int)) = True:=eq_true (by omega)
     have hcl1:=fun K'=>hcl 49 120 K'
     rw [if_pos hl1] at hsg
     rw [e49] at hcl1
     rw [e120] at hcl1
     simp only [go_sem,hlt,hlt',hg,w3,w4,w5,z0,hm,hm',hl2,hcl1]
     exact ⟨k + 1,by rw [hstep _ _ hsg],by omega,by omega⟩
    ·have hl2 : ((k : Int) = ((al.length - 1 : Nat) : Int)) = False:=eq_false (by omega)
     have hcl1:=fun K'=>hcl 48 120 K'
     rw [if_neg hl1] at hsg
     rw [e48] at hcl1
     rw [e120] at hcl1
     simp only [go_sem,hlt,hlt',hg,w3,w4,w5,z0,hm,hm',hl2,hcl1]
     exact ⟨k + 1,by rw [hstep _ _ hsg],by omega,by omega⟩
  ·have w5 : IntKind.i64.wrap ((k : Int) - (hd.length : Int)) = (k : Int) - (hd.length : Int):=z0l _ (by omega) (by omega)
   have z0 : ¬ (0 : Int) ≤ (k : Int) - (hd.length : Int):=by omega
   rw [if_neg hk0] at hsg
   by_cases hl1 : k = al.length - 1
   ·have hl2 : ((k : Int) = ((al.length - 1 : Nat) : Int)) = True:=eq_true (by omega)
    have hcl1:=fun K'=>hcl 49 120 K'
    rw [if_pos hl1] at hsg
    rw [e49] at hcl1
    rw [e120] at hcl1
    simp only [go_sem,hlt,hlt',hg,w3,w4,w5,z0,hl2,hcl1]
    exact ⟨k + 1,by rw [hstep _ _ hsg],by omega,by omega⟩
   ·have hl2 : ((k : Int) = ((al.length - 1 : Nat) : Int)) = False:=eq_false (by omega)
    have hcl1:=fun K'=>hcl 48 120 K'
    rw [if_neg hl1] at hsg
    rw [e48] at hcl1
    rw [e120] at hcl1
    simp only [go_sem,hlt,hlt',hg,w3,w4,w5,z0,hl2,hcl1]
    exact ⟨k + 1,by rw [hstep _ _ hsg],by omega,by omega⟩
 ·obtain rfl : k = al.length:=by omega
  have e1 : (z0L c hd al).take al.length = z0L c hd al:=by rw [← hlen]; exact List.take_length
  rw [e1] at R3 c3
  simp only [go_sem,Nat.lt_irrefl,Int.lt_irrefl,e1]
  generalize r2.clk (z0L c hd al) = r3 at R3 c3 ⊢
  have hw2:=fun (l : Heap) (K' : Post)=>z9E (h:=h) (l:=l) (K:=K') (r:={ r3 with st:=12 }) ⟨R3.t,R3.i,R3.w⟩ c3 (show 12 ∈ frS by decide) (z1B n1)
  have hp:=fun l=>zc4 (h:=h) (l:=l) (r:=r3) (s:=r3.se) (x:=12) (y:=r3.ni) (z:=r3.nd)
  simp only [show ((12 : Nat) : Int) = 12 from rfl] at hp
  simp only [go_sem,hp,hw2]
theorem zoQ {c : Cmd} (h7 : c.k = 8) : r.scn z0c c = Run.go z0c { Run.clk { r.go z0c 4 with nd:=(r.go z0c 4).nd + (r.se.h2.b ++ c.b ++ r.se.t2.b).length } (z0L c r.se.h2.b (r.se.h2.b ++ c.b ++ r.se.t2.b)) with st:=5 } r.se.e2.s.toNat ∧ r.scnF z0c c = (r.go z0c 4).ck + r.se.h2.b.length:=by
 unfold Run.scn Run.scnF
 simp [h7]
set_option maxHeartbeats 4000000 in
theorem zrt (R : RunOk r) (N : RunN r) (hck : r.ck ≤ 800000000) (hst : r.st ∈ stb) (S : SetR r.se) (c : Cmd) (h7 : c.k = 8) (hs : z29 c = 0) : z0d X z5m [.ref (h.length + 5) 0,ACm c] (rh h r l) K = K (AI (r.scnF z0c c : Nat)) (rh h (r.scn z0c c) l) []:=by
 refine rule ?_
 rw [zss rfl,(zoQ h7).1,(zoQ h7).2]
 have hw1:=fun (l : Heap) (K' : Post)=>z9E (h:=h) (l:=l) (K:=K') R (by omega) (z0Y hst) (show 4 ∈ toS by decide)
 simp only [show (((4 : Nat)) : Int) = 4 from rfl] at hw1
 have R1:=z30 (tov:=4) R
 have c1 : (r.go z0c 4).ck ≤ 800000008:=by have:=(z0p (z0Y hst) (show 4 ∈ toS by decide)).2.1; rw [zdu]; omega
 have N1:=z6k (tov:=4) N
 generalize r.go z0c 4 = r1 at *
 obtain ⟨q1,q2,q3,q4,q5,q6⟩:=z1H hs
 obtain ⟨n1,n2⟩:=z0v S.s2
 have hh:=S.h2; have ht:=S.t2
 generalize hhd : r.se.h2.b = hd at *
 generalize htl : r.se.t2.b = tl at *
 generalize hen : r.se.e2.s = en at *
 obtain ⟨en',rfl⟩ : ∃ n : Nat,en = n:=⟨en.toNat,n2.symm⟩
 simp only [Int.toNat_natCast] at n1 n2 ⊢
 obtain ⟨k,s,cl,b,w,m⟩:=c
 dsimp only at h7 q1 q3 q6 ⊢
 subst h7
 have hbp:=List.length_pos_iff.2 q1
 have x1 : hd.length + b.length ≤ z0z:=by unfold z0z; omega
 have x2 : hd.length + (b.length + tl.length) ≤ z0z:=by unfold z0z; omega
 have x3 : hd.length + b.length + tl.length ≤ z0z:=by unfold z0z; omega
 obtain ⟨hn,hd'⟩:=N1
 obtain ⟨al,hal⟩ : ∃ al,al = hd ++ b ++ tl:=⟨_,rfl⟩
 have hall : al.length = hd.length + b.length + tl.length:=by rw [hal]; simp; omega
 have hal2:=hal
 rw [List.append_assoc] at hal2
 have w1 : IntKind.i64.wrap ((r1.nd : Int) + (al.length : Int)) = ((r1.nd + al.length : Nat) : Int):=z0l _ (by omega) (by omega)
 have w2 : IntKind.i64.wrap ((r1.ck : Int) + (hd.length : Int)) = ((r1.ck + hd.length : Nat) : Int):=z0l _ (by omega) (by omega)
 simp only [zbP,go_sem,hw1,hhd,htl,hen,x1,x2,x3,← hal,← hal2,w1,w2]
 have R2 : RunOk { r1 with nd:=r1.nd + al.length }:=⟨R1.t,R1.i,R1.w⟩
 have c2 : { r1 with nd:=r1.nd + al.length : Run }.ck = r1.ck:=rfl
 show z14 (z0d X) X.gl _ _ _ (rh h { r1 with nd:=r1.nd + al.length } _) []
 generalize { r1 with nd:=r1.nd + al.length : Run } = r2 at R2 c2 ⊢
 generalize hq : (⟨8,s,cl,b,w,m⟩ : Cmd) = c at *
 have hcm : c.m = m:=by rw [← hq]
 have hcw : c.w = w:=by rw [← hq]
 have hml : m.length ≤ b.length ∧ m.length ≤ w.length:=by
  rcases q6 with ⟨e1,e2⟩ | ⟨e1,e2⟩
  ·rw [e2]; exact ⟨Nat.zero_le _,Nat.zero_le _⟩
  ·omega
 have hal0 : 0 < al.length:=by omega
 refine z1m (fun k : Nat=>⟨[(0,.ref (h.length + 5) 0),(3,.ref (h.length + (l.length + 6)) 0),(5,AS hd),(7,AI en'),(9,AI 5),(10,AS al),(11,AI (r1.ck + hd.length : Nat)),(93,AI al.length),(94,AI k)],
  rh h (r2.clk ((z0L c hd al).take k)) (l ++ [.box [AI 8,AI s,AI cl,AS b,AS w,AS m]]),[]⟩) (fun k=>k ≤ al.length) (fun k=>al.length - k) 0 (by rw [List.take_zero,z9V]; rfl) (by omega) ?_
 intro k hk
 have hlen : (z0L c hd al).length = al.length:=z2a c hd al
 have R3:=z23 (L:=(z0L c hd al).take k) R2
 have c3 : (r2.clk ((z0L c hd al).take k)).ck ≤ 900000000:=by rw [zbb,c2,List.length_take]; omega
 rcases Nat.lt_or_ge k al.length with hlt | hge
 ·have w3 : IntKind.i64.wrap ((k : Int) + 1) = ((k + 1 : Nat) : Int):=z0l _ (by omega) (by omega)
  have w4 : IntKind.i64.wrap ((al.length : Int) - 1) = ((al.length - 1 : Nat) : Int):=by
   rw [show (al.length : Int) - 1 = ((al.length - 1 : Nat) : Int) by omega]; exact z0l _ (by omega) (by omega)
  have hlt' : (k : Int) < (al.length : Int):=by omega
  have hg : al[k]? = some al[k]:=List.getElem?_eq_getElem hlt
  have hcl:=fun (t v : UInt8) (K' : Post)=>za1 (h:=h) (l:=l ++ [.box [AI 8,AI s,AI cl,AS b,AS w,AS m]]) (K:=K') R3 (by omega) t al[k] v
  have hsg:=zcF (c:=c) (hd:=hd) hlt
  have hstep : ∀ t v : UInt8,(z0L c hd al)[k]? = some (t,al[k],v) → (r2.clk ((z0L c hd al).take k)).clk [(t,al[k],v)] = r2.clk ((z0L c hd al).take (k + 1)):=fun t v e=>by
   rw [z6D,List.take_succ,e]; rfl
  have e48 : (((48 : UInt8).toNat : Nat) : Int) = 48:=rfl
  have e49 : (((49 : UInt8).toNat : Nat) : Int) = 49:=rfl
  have e120 : (((120 : UInt8).toNat : Nat) : Int) = 120:=rfl
  generalize r2.clk ((z0L c hd al).take k) = r3 at R3 c3 hcl hstep ⊢
  -- what is expected
  by_cases hk0 : hd.length ≤ k
  ·have w5 : IntKind.i64.wrap ((k : Int) - (hd.length : Int)) = ((k - hd.length : Nat) : Int):=by
    rw [show (k : Int) - (hd.length : Int) = ((k - hd.length : Nat) : Int) by omega]; exact z0l _ (by omega) (by omega)
   have z0 : (0 : Int) ≤ ((k - hd.length : Nat) : Int):=by omega
   rw [if_pos hk0] at hsg
   by_cases hm : k - hd.length < m.length
   ·have hm' : ((k - hd.length : Nat) : Int) < (m.length : Int):=by omega
    rw [hcm,if_pos hm] at hsg
    have hgm : m[k - hd.length]? = some m[k - hd.length]:=List.getElem?_eq_getElem hm
    have hgw : w[k - hd.length]? = some (w[k - hd.length]'(by omega)):=List.getElem?_eq_getElem (by omega)
    by_cases h49 : m[k - hd.length] = 49
    ·have hx : z2L c (k - hd.length) = w[k - hd.length]'(by omega):=by unfold z2L; rw [hcm,hgm,h49,if_pos rfl,hcw,hgw]; rfl
     rw [hx] at hsg
     by_cases hl1 : k = al.length - 1
     ·have hl2 : ((k : Int) = ((al.length - 1 : Nat) : Int)) = True:=eq_true (by omega)
      have hcl1:=fun K'=>hcl 49 (w[k - hd.length]'(by omega)) K'
      rw [if_pos hl1] at hsg
      rw [e49] at hcl1
      simp only [go_sem,hlt,hlt',hg,w3,w4,w5,z0,hm,hm',hgm,hgw,h49,e49,hl2,hcl1]
      exact ⟨k + 1,by rw [hstep _ _ hsg],by omega,by omega⟩
     ·have hl2 : ((k : Int) = ((al.length - 1 : Nat) : Int)) = False:=eq_false (by omega)
      have hcl1:=fun K'=>hcl 48 (w[k - hd.length]'(by omega)) K'
      rw [if_neg hl1] at hsg
      rw [e48] at hcl1
      simp only [go_sem,hlt,hlt',hg,w3,w4,w5,z0,hm,hm',hgm,hgw,h49,e49,hl2,hcl1]
      exact ⟨k + 1,by rw [hstep _ _ hsg],by omega,by omega⟩
    ·have hx : z2L c (k - hd.length) = 120:=by unfold z2L; rw [hcm,hgm,if_neg (fun e=>h49 (Option.some.inj e))]
     rw [hx] at hsg
     have h49' : ¬ ((m[k - hd.length].toNat : Int) = 49):=fun e=>h49 (UInt8.toNat_inj.1 (by rw [show (49 : UInt8).toNat = 49 from rfl]; omega))
     by_cases hl1 : k = al.length - 1
     ·have hl2 : ((k : Int) = ((al.length - 1 : Nat) : Int)) = True:=eq_true (by omega)
      have hcl1:=fun K'=>hcl 49 120 K'
      rw [if_pos hl1] at hsg
      rw [e49] at hcl1
      rw [e120] at hcl1
      simp only [go_sem,hlt,hlt',hg,w3,w4,w5,z0,hm,hm',hgm,h49',hl2,hcl1]
      exact ⟨k + 1,by rw [hstep _ _ hsg],by omega,by omega⟩
     ·have hl2 : ((k : Int) = ((al.length - 1 : Nat) : Int)) = False:=eq_false (by omega)
      have hcl1:=fun K'=>hcl 48 120 K'
      rw [if_neg hl1] at hsg
      rw [e48] at hcl1
      rw [e120] at hcl1
      simp only [go_sem,hlt,hlt',hg,w3,w4,w5,z0,hm,hm',hgm,h49',hl2,hcl1]
      exact ⟨k + 1,by rw [hstep _ _ hsg],by omega,by omega⟩
   ·have hm' : ¬ ((k - hd.length : Nat) : Int) < (m.length : Int):=by omega
    rw [hcm,if_neg hm] at hsg
    by_cases hl1 : k = al.length - 1
    ·have hl2 : ((k : Int) = ((al.length - 1 : Nat) : Int)) = True:=eq_true (by omega)
     have hcl1:=fun K'=>hcl 49 120 K'
     rw [if_pos hl1] at hsg
     rw [e49] at hcl1
     rw [e120] at hcl1
     simp only [go_sem,hlt,hlt',hg,w3,w4,w5,z0,hm,hm',hl2,hcl1]
     exact ⟨k + 1,by rw [hstep _ _ hsg],by omega,by omega⟩
    ·have hl2 : ((k : Int) = ((al.length - 1 : Nat) : Int)) = False:=eq_false (by omega)
     have hcl1:=fun K'=>hcl 48 120 K'
     rw [if_neg hl1] at hsg
     rw [e48] at hcl1
     rw [e120] at hcl1
     simp only [go_sem,hlt,hlt',hg,w3,w4,w5,z0,hm,hm',hl2,hcl1]
     exact ⟨k + 1,by rw [hstep _ _ hsg],by omega,by omega⟩
  ·have w5 : IntKind.i64.wrap ((k : Int) - (hd.length : Int)) = (k : Int) - (hd.length : Int):=z0l _ (by omega) (by omega)
   have z0 : ¬ (0 : Int) ≤ (k : Int) - (hd.length : Int):=by omega
   rw [if_neg hk0] at hsg
   by_cases hl1 : k = al.length - 1
   ·have hl2 : ((k : Int) = ((al.length - 1 : Nat) : Int)) = True:=eq_true (by omega)
    have hcl1:=fun K'=>hcl 49 120 K'
    rw [if_pos hl1] at hsg
    rw [e49] at hcl1
    rw [e120] at hcl1
    simp only [go_sem,hlt,hlt',hg,w3,w4,w5,z0,hl2,hcl1]
    exact ⟨k + 1,by rw [hstep _ _ hsg],by omega,by omega⟩
   ·have hl2 : ((k : Int) = ((al.length - 1 : Nat) : Int)) = False:=eq_false (by omega)
    have hcl1:=fun K'=>hcl 48 120 K'
    rw [if_neg hl1] at hsg
    rw [e48] at hcl1
    rw [e120] at hcl1
    simp only [go_sem,hlt,hlt',hg,w3,w4,w5,z0,hl2,hcl1]
    exact ⟨k + 1,by rw [hstep _ _ hsg],by omega,by omega⟩
 ·obtain rfl : k = al.length:=by omega
  have e1 : (z0L c hd al).take al.length = z0L c hd al:=by rw [← hlen]; exact List.take_length
  rw [e1] at R3 c3
  simp only [go_sem,Nat.lt_irrefl,Int.lt_irrefl,e1]
  generalize r2.clk (z0L c hd al) = r3 at R3 c3 ⊢
  have hw2:=fun (l : Heap) (K' : Post)=>z9E (h:=h) (l:=l) (K:=K') (r:={ r3 with st:=5 }) ⟨R3.t,R3.i,R3.w⟩ c3 (show 5 ∈ frS by decide) (z1B n1)
  have hp:=fun l=>zc4 (h:=h) (l:=l) (r:=r3) (s:=r3.se) (x:=5) (y:=r3.ni) (z:=r3.nd)
  simp only [show ((5 : Nat) : Int) = 5 from rfl] at hp
  simp only [go_sem,hp,hw2]
end Go.Am
end
section
/- The program: a step. -/
open Go
set_option linter.all false
namespace Go.Am
variable {h l l2 : Heap} {K : Post} {r : Run} {n : Nat} {o : Obj} {x : Esc}
attribute [-go_sem] oEqa splice z3I
attribute [local go_sem] zfv zfu rc_1 rc_7 zqU zqV zqW zqX zon zd3 zoo zop zoq zor zos zot zou zqY zfw zfx zfy zfz zf0 zf1 zf2 zf3 zf4
section
variable {s : Sett} {st ck ni nd : Int} {a b c d e : AV} {w : Bool} {q1 q2 q3 : Int} {q4 q5 q6 : List UInt8}
theorem rct_0 : splice (rc s st ck ni nd a b c d e w) 0 [AI q1,AI q2,AI q3,AS q4,AS q5,AS q6] = rc { s with e1:=⟨q1,q2,q3,q4,q5,q6⟩ } st ck ni nd a b c d e w:=(rfl)
theorem rct_6 : splice (rc s st ck ni nd a b c d e w) 6 [AI q1,AI q2,AI q3,AS q4,AS q5,AS q6] = rc { s with e2:=⟨q1,q2,q3,q4,q5,q6⟩ } st ck ni nd a b c d e w:=(rfl)
theorem rct_12 : splice (rc s st ck ni nd a b c d e w) 12 [AI q1,AI q2,AI q3,AS q4,AS q5,AS q6] = rc { s with h1:=⟨q1,q2,q3,q4,q5,q6⟩ } st ck ni nd a b c d e w:=(rfl)
theorem rct_18 : splice (rc s st ck ni nd a b c d e w) 18 [AI q1,AI q2,AI q3,AS q4,AS q5,AS q6] = rc { s with t1:=⟨q1,q2,q3,q4,q5,q6⟩ } st ck ni nd a b c d e w:=(rfl)
theorem rct_24 : splice (rc s st ck ni nd a b c d e w) 24 [AI q1,AI q2,AI q3,AS q4,AS q5,AS q6] = rc { s with h2:=⟨q1,q2,q3,q4,q5,q6⟩ } st ck ni nd a b c d e w:=(rfl)
theorem rct_30 : splice (rc s st ck ni nd a b c d e w) 30 [AI q1,AI q2,AI q3,AS q4,AS q5,AS q6] = rc { s with t2:=⟨q1,q2,q3,q4,q5,q6⟩ } st ck ni nd a b c d e w:=(rfl)
end
attribute [local go_sem] rct_0 rct_6 rct_12 rct_18 rct_24 rct_30
def ofsK (k : Int) : Nat:=if k = 1 then 0 else if k = 2 then 6 else if k = 3 then 12 else if k = 4 then 18 else if k = 5 then 24 else 30
theorem s_ofK {id : Nat} (hid : id < h.length) (k : Int) : z0d X z7C [.ref id 0,AI k] h K = K (.ref id (ofsK k)) h []:=by
 refine rule ?_
 rw [c_q06o rfl]
 have e1 : max h.length (id + 1) = h.length:=by omega
 have e2 : id + 1 ≤ h.length:=by omega
 unfold ofsK
 by_cases h1 : k = 1
 ·simp only [z6x,go_sem,h1,e1,e2]
 by_cases h2 : k = 2
 ·simp only [z6x,go_sem,h1,h2,e1,e2]
 by_cases h3 : k = 3
 ·simp only [z6x,go_sem,h1,h2,h3,e1,e2]
 by_cases h4 : k = 4
 ·simp only [z6x,go_sem,h1,h2,h3,h4,e1,e2]
 by_cases h5 : k = 5
 ·simp only [z6x,go_sem,h1,h2,h3,h4,h5,e1,e2]
 simp only [z6x,go_sem,h1,h2,h3,h4,h5,e1,e2]
set_option maxHeartbeats 2000000 in
theorem z5g {Kx : Ex → St → Prop} (hs : r.sts.length ≤ 100000) (hf : r.frs.length ≤ 100000) (f : Nat) : z3I (z0d X) X.gl (.ref (h.length + 5) 0) (AI f) (rh h r l) x Kx = Kx .normal ⟨[],rh h { r with sts:=r.sts ++ [r.st],frs:=r.frs ++ [f] } l,x⟩:=by
 obtain ⟨se,st,ck,ni,nd,sts,frs,tms,tdi,want,wr⟩:=r
 dsimp only at *
 unfold rh
 have m1 : sts.length + 1 ≤ z0I:=by unfold z0I; omega
 have m2 : frs.length + 1 ≤ z0I:=by unfold z0I; omega
 have e2 : ∀ k n o m,k < 5 → z2X (h.length + 5) (.own (h.length + k) n o m) = []:=fun k n o m hk=>by unfold z2X; rw [zdE,if_neg (by omega)]
 have e3:=fun n o m=>e2 0 n o m (by decide)
 have e4:=fun n o m=>e2 1 n o m (by decide)
 simp only [Nat.add_zero] at e3
 simp only [z3I,go_sem,m1,m2,e3,e4,List.length_map]
 simp
attribute [local go_sem] z8k zc3 z9z z90 z6i z5L z9y zc4
theorem zfG (c : Cmd) : (r.scn z0c c).sts = r.sts ∧ (r.scn z0c c).frs = r.frs ∧ (r.scn z0c c).se = r.se:=by
 unfold Run.scn
 by_cases h7 : c.k = 7
 ·simp only [h7,if_true]
  obtain ⟨a1,a2,a3,a4,_⟩:=z06 z0c ({ Run.clk { r.go z0c 11 with ni:=(r.go z0c 11).ni + (r.se.h1.b ++ c.b ++ r.se.t1.b).length } (z0L c r.se.h1.b (r.se.h1.b ++ c.b ++ r.se.t1.b)) with st:=12 }) r.se.e1.s.toNat
  obtain ⟨b1,b2,b3,b4,_⟩:=z1U { r.go z0c 11 with ni:=(r.go z0c 11).ni + (r.se.h1.b ++ c.b ++ r.se.t1.b).length } (z0L c r.se.h1.b (r.se.h1.b ++ c.b ++ r.se.t1.b))
  obtain ⟨d1,d2,d3,d4,_⟩:=z06 z0c r 11
  exact ⟨a3.trans (b3.trans d3),a4.trans (b4.trans d4),a1.trans (b1.trans d1)⟩
 ·simp only [h7,if_false]
  obtain ⟨a1,a2,a3,a4,_⟩:=z06 z0c ({ Run.clk { r.go z0c 4 with nd:=(r.go z0c 4).nd + (r.se.h2.b ++ c.b ++ r.se.t2.b).length } (z0L c r.se.h2.b (r.se.h2.b ++ c.b ++ r.se.t2.b)) with st:=5 }) r.se.e2.s.toNat
  obtain ⟨b1,b2,b3,b4,_⟩:=z1U { r.go z0c 4 with nd:=(r.go z0c 4).nd + (r.se.h2.b ++ c.b ++ r.se.t2.b).length } (z0L c r.se.h2.b (r.se.h2.b ++ c.b ++ r.se.t2.b))
  obtain ⟨d1,d2,d3,d4,_⟩:=z06 z0c r 4
  exact ⟨a3.trans (b3.trans d3),a4.trans (b4.trans d4),a1.trans (b1.trans d1)⟩
set_option maxHeartbeats 4000000 in
theorem s_step (R : RunOk r) (N : RunN r) (hck : r.ck ≤ 700000000) (hst : r.st ∈ stb) (S : SetR r.se) (hl1 : r.sts.length ≤ 100000) (hl2 : r.frs.length ≤ 100000) (c : Cmd) (hc : cmdF c = 0) :
 z0d X z7A [.ref (h.length + 5) 0,ACm c] (rh h r l) K = K (.tup []) (rh h (r.step z0c c) l) []:=by
 refine rule ?_
 rw [c_q06l rfl]
 have e0 : (AI ((0 : Nat) : Int)) = AI 0:=rfl
 have setf : ∀ h1 : 1 ≤ c.k ∧ c.k ≤ 6,z2V (z0d X) X.gl z2x z4b (.ref (h.length + 5) 0) (ACm c) (rh h r l) [] (finR [] false (rh h r l).length fun v1 h1 x1=>v1 = .tup [] ∧ h1 = rh h (r.step z0c c) l ∧ x1 = []):=by
  intro h1
  rw [z42 z0c h1]
  have k2:=fun (l : Heap) (x : Esc) (Kx : Ex → St → Prop)=>z5g (h:=h) (l:=l) (x:=x) (Kx:=Kx) (r:={ r with se:=r.se.put c }) hl1 hl2 0
  rw [e0] at k2
  have ho:=fun (l : Heap) (k : Int) (K' : Post)=>s_ofK (h:=rh h r l) (K:=K') (id:=h.length + 5) (by rw [z8k]; omega) k
  obtain ⟨k,s,cl,b,w,m⟩:=c
  dsimp only at h1
  have : k = 1 ∨ k = 2 ∨ k = 3 ∨ k = 4 ∨ k = 5 ∨ k = 6:=by omega
  rcases this with rfl | rfl | rfl | rfl | rfl | rfl
  ·have ep : r.se.put ⟨1,s,cl,b,w,m⟩ = { r.se with e1:=⟨1,s,cl,b,w,m⟩ }:=rfl
   rw [ep]
   simp only [ep] at k2
   simp only [z2V,go_sem,z1j,ho,ofsK,k2]
  ·have ep : r.se.put ⟨2,s,cl,b,w,m⟩ = { r.se with e2:=⟨2,s,cl,b,w,m⟩ }:=rfl
   rw [ep]
   simp only [ep] at k2
   simp only [z2V,go_sem,z1j,ho,ofsK,k2]
  ·have ep : r.se.put ⟨3,s,cl,b,w,m⟩ = { r.se with h1:=⟨3,s,cl,b,w,m⟩ }:=rfl
   rw [ep]
   simp only [ep] at k2
   simp only [z2V,go_sem,z1j,ho,ofsK,k2]
  ·have ep : r.se.put ⟨4,s,cl,b,w,m⟩ = { r.se with t1:=⟨4,s,cl,b,w,m⟩ }:=rfl
   rw [ep]
   simp only [ep] at k2
   simp only [z2V,go_sem,z1j,ho,ofsK,k2]
  ·have ep : r.se.put ⟨5,s,cl,b,w,m⟩ = { r.se with h2:=⟨5,s,cl,b,w,m⟩ }:=rfl
   rw [ep]
   simp only [ep] at k2
   simp only [z2V,go_sem,z1j,ho,ofsK,k2]
  ·have ep : r.se.put ⟨6,s,cl,b,w,m⟩ = { r.se with t2:=⟨6,s,cl,b,w,m⟩ }:=rfl
   rw [ep]
   simp only [ep] at k2
   simp only [z2V,go_sem,z1j,ho,ofsK,k2]
 cases z0U hc with
 | set h hs e=>exact setf (by omega)
 | pad h0 h1 hb hl e=>exact setf ⟨by omega,h1⟩
 | go hk hs e=>
  rw [za4 z0c hk]
  obtain ⟨g1,g2,g3,g4,g5,g6,_,_⟩:=z06 z0c r c.s.toNat
  obtain ⟨n1,n2⟩:=z0v hs
  have k2:=fun (l : Heap) (x : Esc) (Kx : Ex → St → Prop)=>z5g (h:=h) (l:=l) (x:=x) (Kx:=Kx) (r:=r.go z0c c.s.toNat) (by rw [g3]; exact hl1) (by rw [g4]; exact hl2) 0
  rw [e0] at k2
  have hw:=fun (l : Heap) (K' : Post)=>z9E (h:=h) (l:=l) (K:=K') R (by omega) (z0Y hst) (z1B n1)
  obtain ⟨k,s,cl,b,w,m⟩:=c
  dsimp only at hk n2 hw k2 ⊢
  subst hk
  rw [n2] at hw
  simp only [z2V,go_sem,z1j,z2I,hw,k2]
 | idle hk h0 h1 e=>
  rw [z4h z0c hk]
  obtain ⟨g1,g2,g3,g4,g5,g6,_,_⟩:=z06 z0c r 1
  have hw:=fun (l : Heap) (K' : Post)=>z9E (h:=h) (l:=l) (K:=K') R (by omega) (z0Y hst) (show 1 ∈ toS by decide)
  have R1:=z30 (tov:=1) R
  have c1 : (r.go z0c 1).ck ≤ 700000008:=by have:=(z0p (z0Y hst) (show 1 ∈ toS by decide)).2.1; rw [zdu]; omega
  simp only [show ((1 : Nat) : Int) = 1 from rfl] at hw
  obtain ⟨k,s,cl,b,w,m⟩:=c
  dsimp only at hk h0 h1 ⊢
  subst hk
  obtain ⟨n,rfl⟩ : ∃ n : Nat,cl = n:=⟨cl.toNat,by omega⟩
  simp only [Int.toNat_natCast]
  generalize r.go z0c 1 = r1 at *
  simp only [z2V,go_sem,z1j,z2I,hw]
  refine z1m (fun k : Nat=>⟨[(0,.ref (h.length + 5) 0),(4,AI 0),(35,AI n),(36,AI k)],rh h (r1.clk (List.replicate k (48,48,120))) (l ++ [.box [AI 9,AI s,AI n,AS b,AS w,AS m]]),[]⟩) (fun k=>k ≤ n) (fun k=>n - k) 0 (by rw [List.replicate_zero,z9V]; rfl) (by omega) ?_
  intro k hk
  have R2:=z23 (L:=List.replicate k (48,48,120)) R1
  rcases Nat.lt_or_ge k n with hlt | hge
  ·have w2 : IntKind.i64.wrap ((k : Int) + 1) = ((k + 1 : Nat) : Int):=z0l _ (by omega) (by omega)
   have hc:=fun (l : Heap) (K' : Post)=>za1 (h:=h) (l:=l) (K:=K') R2 (by rw [zbb,List.length_replicate]; omega) 48 48 120
   simp only [show (((48 : UInt8).toNat : Nat) : Int) = 48 from rfl,show (((120 : UInt8).toNat : Nat) : Int) = 120 from rfl] at hc
   simp only [go_sem,hlt,w2,hc]
   exact ⟨k + 1,by rw [z6D,← List.replicate_succ'],by omega,by omega⟩
  ·obtain rfl : k = n:=by omega
   have q:=z1U r1 (List.replicate k (48,48,120))
   have k2:=fun (l : Heap) (x : Esc) (Kx : Ex → St → Prop)=>z5g (h:=h) (l:=l) (x:=x) (Kx:=Kx) (r:=r1.clk (List.replicate k (48,48,120))) (by rw [q.2.2.1,g3]; exact hl1) (by rw [q.2.2.2.1,g4]; exact hl2) 0
   rw [e0] at k2
   simp only [go_sem,Nat.lt_irrefl,k2]
 | scan hk hs e=>
  rw [z4i z0c hk]
  obtain ⟨g3,g4,_⟩:=zfG (r:=r) c
  have k2:=fun (l : Heap) (x : Esc) (Kx : Ex → St → Prop)=>z5g (h:=h) (l:=l) (x:=x) (Kx:=Kx) (r:=r.scn z0c c) (by rw [g3]; exact hl1) (by rw [g4]; exact hl2) (r.scnF z0c c)
  have hscan : ∀ (l : Heap) (K' : Post),z0d X z5m [.ref (h.length + 5) 0,ACm c] (rh h r l) K' = K' (AI (r.scnF z0c c : Nat)) (rh h (r.scn z0c c) l) []:=fun l K'=>by
   rcases hk with h7 | h8
   ·exact zrv R N (by omega) hst S c h7 hs
   ·exact zrt R N (by omega) hst S c h8 hs
  have f1 : ¬ c.k ≤ 6:=by omega
  have f2 : 1 ≤ c.k:=by omega
  have f3 : (decide (c.k = 7) || decide (c.k = 8)) = true:=by simpa using hk
  generalize r.scn z0c c = r9 at k2 hscan ⊢
  generalize r.scnF z0c c = f9 at k2 hscan ⊢
  simp only [z2V,go_sem,z1j,z2I,f1,f2,f3,hscan,k2]
end Go.Am
end
section
/- The reference: states,bits that are shifted. -/
open Go
set_option linter.all false
namespace Go.Am
variable {h : Heap} {K : Post}
attribute [-go_sem] oEqa
theorem zfp {l : List Cmd} (hc : ∀ c ∈ l,cmdF c = 0) {k : Nat} (hk : k < l.length) :
 endL (stAt [] 0 (l.take k)) (z01 z0c (l.take k) l[k] (stAt [] 0 (l.take k))).tms = (z01 z0c (l.take k) l[k] (stAt [] 0 (l.take k))).st ∧ z0F (z01 z0c (l.take k) l[k] (stAt [] 0 (l.take k))).tms = true:=by
 obtain ⟨S,T⟩:=z6H hc k (by omega)
 have h0:=hc _ (List.getElem_mem hk)
 have bz : ∀ n,z0F (zs n) = true:=fun n=>by simp [z0F,zs,zq9]
 have ba : ∀ a b,z0F a = true → z0F b = true → z0F (a ++ b) = true:=fun a b h1 h2=>by unfold z0F at *; rw [List.all_append,h1,h2]; rfl
 generalize stAt [] 0 (l.take k) = state at T ⊢
 generalize l.take k = pre at S ⊢
 generalize l[k] = c at h0 ⊢
 cases z0U h0 with
 | set h hs e=>rw [z1t z0c (by omega)]; exact ⟨rfl,rfl⟩
 | pad h0 h1 hb hl e=>rw [z1t z0c h1]; exact ⟨rfl,rfl⟩
 | go h hs e=>
  rw [z4R z0c h]
  have:=z0p (z0Y T) (z1B (z0v hs).1)
  exact ⟨this.2.2,this.1⟩
 | idle h h0 h1 e=>
  rw [z2z z0c h]
  have:=z0p (z0Y T) (show 1 ∈ toS by decide)
  refine ⟨?_,ba _ _ this.1 (bz _)⟩
  show endL state (z0c state 1 ++ zs c.cl.toNat) = 1
  rw [z17,this.2.2]
  exact (z6M rfl _).2
 | scan h hs e=>
  obtain ⟨q1,q2,q3,q4,q5,q6⟩:=z1H hs
  have hpos:=List.length_pos_iff.2 q1
  rcases h with h | h
  ·have ep : z01 z0c pre c state = padP (z1c z0c c state 11 12 (setC pre 3).b (setC pre 4).b (setC pre 1).s.toNat):=by
    unfold z01; rw [if_neg (by omega),if_neg (by omega),if_pos h]
   have hen:=(z0v S.s1).1
   rw [ep,z2y z0c c state 11 12 _ _ _ q1]
   refine ⟨(z6L z8f T (.inl ⟨rfl,rfl⟩) hen _ (by simp only [List.length_append]; omega)).1,?_⟩
   exact ba _ _ (ba _ _ (z0p (z0Y T) (by decide)).1 (ba _ _ (bz _) rfl)) (z0p (by decide) (z1B hen)).1
  ·have ep : z01 z0c pre c state = padP (z1c z0c c state 4 5 (setC pre 5).b (setC pre 6).b (setC pre 2).s.toNat):=by
    unfold z01; rw [if_neg (by omega),if_neg (by omega),if_neg (by omega),if_pos h]
   have hen:=(z0v S.s2).1
   rw [ep,z2y z0c c state 4 5 _ _ _ q1]
   refine ⟨(z6L z8f T (.inr ⟨rfl,rfl⟩) hen _ (by simp only [List.length_append]; omega)).1,?_⟩
   exact ba _ _ (ba _ _ (z0p (z0Y T) (by decide)).1 (ba _ _ (bz _) rfl)) (z0p (by decide) (z1B hen)).1
theorem z4y {l : List Cmd} {k : Nat} (hk : k < l.length) : (z0j z0c [] 0 l)[k]? = some (z01 z0c (l.take k) l[k] (stAt [] 0 (l.take k))):=by
 have key : ∀ (l pre : List Cmd) (s k : Nat) (hk : k < l.length),(z0j z0c pre s l)[k]? = some (z01 z0c (pre ++ l.take k) l[k] (stAt pre s (l.take k))):=by
  intro l
  induction l with
  | nil=>intro pre s k hk; simp at hk
  | cons c l ih=>
   intro pre s k hk
   cases k with
   | zero=>simp [z0j,stAt]
   | succ k=>
    have:=ih (pre ++ [c]) (z01 z0c pre c s).st k (by simpa using hk)
    rw [z0j,List.getElem?_cons_succ,this,List.append_assoc]
    rfl
 have:=key l [] 0 k hk
 rwa [List.nil_append] at this
theorem zpH {l : List Cmd} (hc : ∀ c ∈ l,cmdF c = 0) : z0F (sigT (z0j z0c [] 0 l)) = true:=by
 unfold z0F sigT
 rw [List.all_flatMap]
 rw [List.all_eq_true]
 intro p hp
 obtain ⟨k,hk⟩:=List.mem_iff_getElem?.1 hp
 have hlt : k < l.length:=by
  have:=(List.getElem?_eq_some_iff.1 hk).1
  rwa [z2j] at this
 rw [z4y hlt] at hk
 cases hk
 exact (zfp hc hlt).2
theorem zcL {l : List Cmd} {k : Nat} (hk : k < l.length) : stAt [] 0 (l.take (k + 1)) = (z01 z0c (l.take k) l[k] (stAt [] 0 (l.take k))).st:=by
 rw [List.take_succ_eq_append_getElem hk,(z1M l[k] (l.take k) [] 0).2,List.nil_append]
end Go.Am
end
section
/- The reference: StatesOf,ShiftedBits. -/
open Go
set_option linter.all false
namespace Go.Am
variable {h : Heap} {K : Post}
attribute [-go_sem] oEqa
end Go.Am
end
section
/- The program: a program that is played. -/
open Go
set_option linter.all false
namespace Go.Am
variable {h l2 : Heap} {K : Post} {r : Run} {n : Nat} {o : Obj} {x : Esc}
attribute [-go_sem] oEqa splice
attribute [local go_sem] z8k zc3 z9z z90 z6i z5L
theorem zo2 {l : Heap} : (rh h r l)[h.length + 6]? = l[0]?:=z9z (n:=0)
theorem zo3 {l : Heap} : (rh h r l).set (h.length + 6) o = rh h r (l.set 0 o):=z90 (n:=0)
theorem zf8 {l : Heap} : (rh h r l).take (h.length + 6) = rh h r (l.take 0):=z6i (n:=0)
attribute [local go_sem] zo2 zo3 zf8
structure RunI (r : Run) (k : Nat) : Prop where
 R : RunOk r
 N : RunN r
 st : r.st ∈ stb
 S : SetR r.se
 sl : r.sts.length = k
 fl : r.frs.length = k
theorem runI_0 (w : Bool) : RunI (run0 w) 0:=⟨⟨Nat.le_refl _,Nat.le_refl _,Nat.le_refl _⟩,⟨Nat.le_refl _,Nat.le_refl _⟩,by show 0 ∈ stb; decide,⟨rfl,rfl,Nat.zero_le _,Nat.zero_le _,Nat.zero_le _,Nat.zero_le _⟩,rfl,rfl⟩
theorem zry {s : Sett} {c : Cmd} (S : SetR s) (hc : cmdF c = 0) (h1 : 1 ≤ c.k ∧ c.k ≤ 6) : SetR (s.put c):=by
 have hb : c.k ≤ 2 → z0C c.s = true:=fun h=>by
  cases z0U hc with
  | set h hs e=>exact hs
  | pad h0 h1 hb hl e=>omega
  | go h hs e=>omega
  | idle h h0 h1 e=>omega
  | scan h hs e=>omega
 have hp : 3 ≤ c.k → c.b.length ≤ 2000:=fun h=>by
  cases z0U hc with
  | set h hs e=>omega
  | pad h0 h1 hb hl e=>exact hl
  | go h hs e=>omega
  | idle h h0 h1 e=>omega
  | scan h hs e=>omega
 obtain ⟨s1,s2,a1,a2,a3,a4⟩:=S
 unfold Sett.put
 split
 ·exact ⟨hb (by omega),s2,a1,a2,a3,a4⟩
 split
 ·exact ⟨s1,hb (by omega),a1,a2,a3,a4⟩
 split
 ·exact ⟨s1,s2,hp (by omega),a2,a3,a4⟩
 split
 ·exact ⟨s1,s2,a1,hp (by omega),a3,a4⟩
 split
 ·exact ⟨s1,s2,a1,a2,hp (by omega),a4⟩
 ·exact ⟨s1,s2,a1,a2,a3,hp (by omega)⟩
theorem zoC {k : Nat} (I : RunI r k) {c : Cmd} (hc : cmdF c = 0) : RunI (r.step z0c c) (k + 1) ∧ (r.step z0c c).ck ≤ r.ck + 20016:=by
 obtain ⟨R,N,st,S,sl,fl⟩:=I
 have setf : 1 ≤ c.k ∧ c.k ≤ 6 → RunI (r.step z0c c) (k + 1) ∧ (r.step z0c c).ck ≤ r.ck + 20016:=fun h1=>by
  rw [z42 z0c h1]
  exact ⟨⟨⟨R.t,R.i,R.w⟩,N,st,zry S hc h1,by simp [sl],by simp [fl]⟩,by dsimp only; omega⟩
 cases z0U hc with
 | set h hs e=>exact setf (by omega)
 | pad h0 h1 hb hl e=>exact setf ⟨by omega,h1⟩
 | go hk hs e=>
  rw [za4 z0c hk]
  obtain ⟨g1,g2,g3,g4,g5,g6,_,_⟩:=z06 z0c r c.s.toNat
  obtain ⟨n1,n2⟩:=z0v hs
  have R1:=z30 (tov:=c.s.toNat) R
  have N1:=z6k (tov:=c.s.toNat) N
  have pl:=(z0p (z0Y st) (z1B n1)).2.1
  refine ⟨⟨⟨R1.t,R1.i,R1.w⟩,N1,?_,?_,?_,?_⟩,?_⟩
  ·show (r.go z0c c.s.toNat).st ∈ stb; rw [g2]; exact n1
  ·show SetR (r.go z0c c.s.toNat).se; rw [g1]; exact S
  ·simp [g3,sl]
  ·simp [g4,fl]
  ·show (r.go z0c c.s.toNat).ck ≤ _; rw [zdu]; omega
 | idle hk h0 h1 e=>
  rw [z4h z0c hk]
  obtain ⟨g1,g2,g3,g4,g5,g6,g7,g8⟩:=z06 z0c r 1
  obtain ⟨q1,q2,q3,q4,q5,q6,q7,q8⟩:=z1U (r.go z0c 1) (List.replicate c.cl.toNat (48,48,120))
  have R1:=z23 (L:=List.replicate c.cl.toNat (48,48,120)) (z30 (tov:=1) R)
  have N1:=z6k (tov:=1) N
  have pl:=(z0p (z0Y st) (show 1 ∈ toS by decide)).2.1
  refine ⟨⟨⟨R1.t,R1.i,R1.w⟩,?_,?_,?_,?_,?_⟩,?_⟩
  ·obtain ⟨x,y⟩:=N1
   exact ⟨by show Run.ni (Run.clk _ _) ≤ Run.ck (Run.clk _ _); rw [q7,q6]; omega,by show Run.nd (Run.clk _ _) ≤ Run.ck (Run.clk _ _); rw [q8,q6]; omega⟩
  ·show Run.st (Run.clk _ _) ∈ stb; rw [q2,g2]; decide
  ·show SetR (Run.se (Run.clk _ _)); rw [q1,g1]; exact S
  ·simp [q3,g3,sl]
  ·simp [q4,g4,fl]
  ·show Run.ck (Run.clk _ _) ≤ _; rw [q6,zdu,List.length_replicate]; omega
 | scan hk hs e=>
  rw [z4i z0c hk]
  obtain ⟨g3,g4,g1⟩:=zfG (r:=r) c
  obtain ⟨q1,q2,q3,q4,q5,q6⟩:=z1H hs
  have key : ∀ (sh ex : Nat) (en : Int) (hd tl : List UInt8) (r2 : Run),sh ∈ toS → ex ∈ frS → z0C en = true → hd.length ≤ 2000 → tl.length ≤ 2000 → RunOk r2 → r2.ck = (r.go z0c sh).ck → r2.ni ≤ r2.ck + (hd ++ c.b ++ tl).length → r2.nd ≤ r2.ck + (hd ++ c.b ++ tl).length →
   r.scn z0c c = Run.go z0c { Run.clk r2 (z0L c hd (hd ++ c.b ++ tl)) with st:=ex } en.toNat → RunI { r.scn z0c c with sts:=(r.scn z0c c).sts ++ [(r.scn z0c c).st],frs:=(r.scn z0c c).frs ++ [r.scnF z0c c] } (k + 1) ∧ (r.scn z0c c).ck ≤ r.ck + 20016:=by
   intro sh ex en hd tl r2 m1 m2 m3 m4 m5 R2 m6 m7 m8 e
   obtain ⟨n1,n2⟩:=z0v m3
   have R3:=z23 (L:=z0L c hd (hd ++ c.b ++ tl)) R2
   have R4:=z30 (r:={ Run.clk r2 (z0L c hd (hd ++ c.b ++ tl)) with st:=ex }) (tov:=en.toNat) ⟨R3.t,R3.i,R3.w⟩
   have N4:=z6k (r:={ Run.clk r2 (z0L c hd (hd ++ c.b ++ tl)) with st:=ex }) (tov:=en.toNat) (by
    obtain ⟨_,_,_,_,_,z1,z2,z3⟩:=z1U r2 (z0L c hd (hd ++ c.b ++ tl))
    have z4:=z2a c hd (hd ++ c.b ++ tl)
    exact ⟨by show Run.ni (Run.clk _ _) ≤ Run.ck (Run.clk _ _); omega,by show Run.nd (Run.clk _ _) ≤ Run.ck (Run.clk _ _); omega⟩)
   have st4:=(z06 z0c { Run.clk r2 (z0L c hd (hd ++ c.b ++ tl)) with st:=ex } en.toNat).2.1
   have ck4:=zdu (r:={ Run.clk r2 (z0L c hd (hd ++ c.b ++ tl)) with st:=ex }) (tov:=en.toNat)
   have ck3:=zbb (r:=r2) (L:=z0L c hd (hd ++ c.b ++ tl))
   have ck2:=zdu (r:=r) (tov:=sh)
   have p1:=(z0p (z0Y st) m1).2.1
   have p2:=(z0p m2 (z1B n1)).2.1
   have z4:=z2a c hd (hd ++ c.b ++ tl)
   simp only [List.length_append] at z4
   rw [← e] at R4 N4 st4 ck4
   refine ⟨⟨⟨R4.t,R4.i,R4.w⟩,N4,by show (r.scn z0c c).st ∈ stb; rw [st4]; exact n1,by show SetR (r.scn z0c c).se; rw [g1]; exact S,by simp [g3,sl],by simp [g4,fl]⟩,?_⟩
   dsimp only at ck4
   omega
  have N1:=fun sh=>z6k (tov:=sh) N
  have R1:=fun sh=>z30 (tov:=sh) R
  rcases hk with h7 | h8
  ·refine key 11 12 r.se.e1.s r.se.h1.b r.se.t1.b { r.go z0c 11 with ni:=(r.go z0c 11).ni + (r.se.h1.b ++ c.b ++ r.se.t1.b).length } (by decide) (by decide) S.s1 S.h1 S.t1 ⟨(R1 11).t,(R1 11).i,(R1 11).w⟩ rfl ?_ ?_ (zoR h7).1
   ·have:=(N1 11).1; dsimp only; omega
   ·have:=(N1 11).2; dsimp only; omega
  ·refine key 4 5 r.se.e2.s r.se.h2.b r.se.t2.b { r.go z0c 4 with nd:=(r.go z0c 4).nd + (r.se.h2.b ++ c.b ++ r.se.t2.b).length } (by decide) (by decide) S.s2 S.h2 S.t2 ⟨(R1 4).t,(R1 4).i,(R1 4).w⟩ rfl ?_ ?_ (zoQ h8).1
   ·have:=(N1 4).1; dsimp only; omega
   ·have:=(N1 4).2; dsimp only; omega
theorem zoK : z0d X z7E [] h K = K (.p (.agg [eI 1,eI 1,eI 0,.str [],.str [],.str [],eI 2,eI 1,eI 0,.str [],.str [],.str [],eI 3,eI 0,eI 0,.str [],.str [],.str [],eI 4,eI 0,eI 0,.str [],.str [],.str [],eI 5,eI 0,eI 0,.str [],.str [],.str [],eI 6,eI 0,eI 0,.str [],.str [],.str []])) h []:=by
 refine rule ?_
 rw [c_q06r rfl]
 simp only [zjG,go_sem,splice]
set_option maxHeartbeats 4000000 in
theorem zfA (l : List Cmd) (hc : ∀ c ∈ l,cmdF c = 0) (hl : l.length ≤ 1000) (p : AV) (w : Bool) (hp : (p = .nilp ∧ w = false) ∨ (∃ i,p = .ref i 0) ∧ w = true) :
 z0d X z1Z [ACs l,p] h K = K (.ref (h.length + 5) 0) (rh h ((run0 w).play z0c l) []) []:=by
 refine rule ?_
 have main : ∀ Kx : Ex → St → Prop,(∀ r,(run0 w).play z0c l = r → Kx .ret ⟨[(4,.ref (h.length + 5) 0)],rh h r [],[]⟩) → z14 (z0d X) X.gl (.scope z2w) (z05 0 (seqN (z0d X) X.gl z3Z Kx)) [(5,.ref (h.length + 5) 0),(13,ACs l),(14,AI l.length),(15,AI 0)] (rh h (run0 w) []) []:=by
  intro Kx hK
  refine z1m (fun t : Nat × Run=>⟨[(5,.ref (h.length + 5) 0),(13,ACs l),(14,AI l.length),(15,AI t.1)],rh h t.2 [],[]⟩) (fun t=>t.1 ≤ l.length ∧ RunI t.2 t.1 ∧ t.2.ck ≤ 50000 ∧ (run0 w).play z0c l = t.2.play z0c (l.drop t.1)) (fun t=>l.length - t.1) (0,run0 w) rfl ⟨Nat.zero_le _,runI_0 w,Nat.zero_le _,rfl⟩ ?_
  rintro ⟨k,r⟩ ⟨hk,I,hck,hpl⟩
  dsimp only at hk I hck hpl ⊢
  rcases Nat.lt_or_ge k l.length with hlt | hge
  ·have hg:=z2t cmdP hlt
   have w2 : IntKind.i64.wrap ((k : Int) + 1) = ((k + 1 : Nat) : Int):=z0l _ (by omega) (by omega)
   have hdr : l.drop k = l[k] :: l.drop (k + 1):=(List.getElem_cons_drop hlt).symm
   rw [hdr] at hpl
   have hpc : ∀ (c : Cmd) (L : List Cmd),r.play z0c (c :: L) = if 20000 < r.ck then r else (r.step z0c c).play z0c L:=fun c L=>rfl
   rw [hpc] at hpl
   have h0:=hc _ (List.getElem_mem hlt)
   by_cases hb : 20000 < r.ck
   ·have hb' : (20000 : Int) < (r.ck : Int):=by omega
    rw [if_pos hb] at hpl
    simp only [go_sem,hlt,hg,z9y,zd3,hb',splice]
    exact hK r hpl
   ·have hb' : ¬ (20000 : Int) < (r.ck : Int):=by omega
    rw [if_neg hb] at hpl
    have hs:=fun (l2 : Heap) (K' : Post)=>s_step (h:=h) (l:=l2) (K:=K') I.R I.N (by omega) I.st I.S (by rw [I.sl]; omega) (by rw [I.fl]; omega) l[k] h0
    obtain ⟨I2,c2⟩:=zoC I h0
    simp only [go_sem,hlt,hg,z9y,zd3,hb',hs,w2,splice]
    exact ⟨(k + 1,r.step z0c l[k]),rfl,⟨by dsimp only; omega,I2,by dsimp only; omega,hpl⟩,by dsimp only; omega⟩
  ·obtain rfl : k = l.length:=by omega
   rw [List.drop_length] at hpl
   simp only [go_sem,Nat.lt_irrefl]
   exact hK r hpl
 rcases hp with ⟨rfl,rfl⟩ | ⟨⟨i,rfl⟩,rfl⟩
 ·rw [zsr rfl]
  simp only [zbM,go_sem,zoK,splice]
  refine main _ fun r e=>?_
  rw [e]
  have q1 : h.length + 5 + 1 = h.length + 6:=rfl
  have q2 : max h.length (h.length + 6) = h.length + 6:=by omega
  simp only [go_sem,q1,q2,List.take_nil]
 ·rw [zsr rfl]
  simp only [zbM,go_sem,zoK,splice]
  refine main _ fun r e=>?_
  rw [e]
  have q1 : h.length + 5 + 1 = h.length + 6:=rfl
  have q2 : max h.length (h.length + 6) = h.length + 6:=by omega
  simp only [go_sem,q1,q2,List.take_nil]
end Go.Am
end
section
/- The program: what is wrong with a program; clocks,signals,states,bits. -/
open Go
set_option linter.all false
namespace Go.Am
variable {h : Heap} {K : Post} {r : Run} {n : Nat} {o : Obj} {x : Esc}
attribute [-go_sem] oEqa splice
attribute [local go_sem] z8k zc3 z9z z90 z6i z5L zo2 zo3 zf8 z9y zon zd3 zoo zop zoq zor zos zot zou
theorem zol {l : List Cmd} (hc : ∀ c ∈ l,cmdF c = 0) (w : Bool) : 20000 < ((run0 w).play z0c l).ck ↔ 20000 < (sigT (z0j z0c [] 0 l)).length:=by
 have e:=z1V hc
 constructor
 ·intro h
  rcases Nat.lt_or_ge 20000 (sigT (z0j z0c [] 0 l)).length with h1 | h1
  ·exact h1
  ·have:=(z5J z8f e w h1).1; omega
 ·intro h
  have:=(zat z0c l (rel0 w) e).2
  simp only [List.nil_append] at this
  exact this h
theorem z5R (l : List Cmd) (hc : ∀ c ∈ l,cmdF c = 0) (hl : l.length ≤ 1000) : z0d X z1Z [ACs l,.nilp] h K = K (.ref (h.length + 5) 0) (rh h ((run0 false).play z0c l) []) []:=zfA l hc hl .nilp false (.inl ⟨rfl,rfl⟩)
theorem zoJ (l : List Cmd) (hc : ∀ c ∈ l,cmdF c = 0) (hl : l.length ≤ 1000) (i : Nat) : z0d X z1Z [ACs l,.ref i 0] h K = K (.ref (h.length + 5) 0) (rh h ((run0 true).play z0c l) []) []:=zfA l hc hl _ true (.inr ⟨⟨i,rfl⟩,rfl⟩)
set_option maxHeartbeats 4000000 in
theorem z6A (l : List Cmd) (hok : ∀ c ∈ l,CmdOk c) (hl : l.length ≤ 1000000) : z0d X z2B [ACs l] h K = K (AI (z1e z0c l : Nat)) h []:=by
 refine rule ?_
 rw [c_q062 rfl]
 by_cases hbig : 1000 < l.length
 ·have h1 : (1000 : Int) < (l.length : Int):=by omega
  have e : z1e z0c l = 2:=by unfold z1e; rw [if_pos hbig]
  rw [e]
  simp only [zbG,go_sem,h1]
 have h1 : ¬ (1000 : Int) < (l.length : Int):=by omega
 simp only [zbG,go_sem,h1]
 refine z1m (fun k : Nat=>⟨[(0,ACs l),(10,ACs l),(11,AI l.length),(12,AI k)],h,[]⟩) (fun k=>k ≤ l.length ∧ ∀ c ∈ l.take k,cmdF c = 0) (fun k=>l.length - k) 0 rfl ⟨Nat.zero_le _,by simp⟩ ?_
 rintro k ⟨hk,hn⟩
 rcases Nat.lt_or_ge k l.length with hlt | hge
 ·have hg:=z2t cmdP hlt
  have w2 : IntKind.i64.wrap ((k : Int) + 1) = ((k + 1 : Nat) : Int):=z0l _ (by omega) (by omega)
  have hf:=fun (h' : Heap) (K' : Post)=>zd7 (h:=h') (K:=K') l[k] (hok _ (List.getElem_mem hlt))
  have hsn : cmdF l[k] = 0 → ∀ c ∈ l.take (k + 1),cmdF c = 0:=fun h0 c hc=>by
   rw [List.take_succ_eq_append_getElem hlt] at hc
   rcases List.mem_append.1 hc with hc | hc
   ·exact hn c hc
   ·obtain rfl : c = l[k]:=by simpa using hc
    exact h0
  have hpf : cmdF l[k] ≠ 0 → z1e z0c l = cmdF l[k]:=fun h0=>by
   unfold z1e
   rw [if_neg (by omega),z7i hlt hn h0,if_pos h0]
  have hbr:=zjp (c:=l[k])
  have hkd:=zbd (c:=l[k])
  generalize l[k] = c at *
  generalize hke : zgK c = ke at *
  generalize hbc : ziZ c = bc at *
  obtain ⟨k0,s0,cl0,b0,w0,m0⟩:=c
  obtain ⟨k1,s1,cl1,b1,w1,m1⟩:=bc
  dsimp only at hbr hkd hf hg
  by_cases i1 : k0 < 1
  ·have e:=hkd (by omega)
   rw [hpf (by omega),e]
   simp only [go_sem,hlt,hg,w2,hf,z6C,i1,splice]
  by_cases i2 : 10 < k0
  ·have e:=hkd (by omega)
   rw [hpf (by omega),e]
   simp only [go_sem,hlt,hg,w2,hf,z6C,i1,i2,splice]
  have e:=hbr (by omega)
  by_cases i3 : ke = 0
  ·subst i3
   rw [if_neg (by simp)] at e
   by_cases i4 : (⟨k1,s1,cl1,b1,w1,m1⟩ : Cmd) = ⟨k0,0,0,[],[],[]⟩
   ·rw [if_pos i4] at e
    simp only [go_sem,hlt,hg,w2,hf,z6C,i1,i2,splice,eqa6,i4]
    exact ⟨k + 1,rfl,⟨by omega,hsn e⟩,by omega⟩
   ·rw [if_neg i4] at e
    rw [hpf (by omega),e]
    simp only [go_sem,hlt,hg,w2,hf,z6C,i1,i2,splice,eqa6,i4]
  ·have i3' : ¬ ((ke : Nat) : Int) = 0:=by omega
   rw [if_pos i3] at e
   rw [hpf (by omega),e]
   simp only [go_sem,hlt,hg,w2,hf,z6C,i1,i2,splice,i3']
 ·obtain rfl : k = l.length:=by omega
  rw [List.take_length] at hn
  have hs:=fun (h' : Heap) (K' : Post)=>z5R (h:=h') (K:=K') l hn (by omega)
  have e : z1e z0c l = if 20000 < (sigT (z0j z0c [] 0 l)).length then 2 else 0:=by
   unfold z1e
   rw [if_neg (by omega),z1V hn,if_neg (by simp)]
  rw [e]
  have hm:=zol hn false
  by_cases h2 : 20000 < (sigT (z0j z0c [] 0 l)).length
  ·have h3:=hm.2 h2
   have h2' : (20000 : Int) < (((run0 false).play z0c l).ck : Int):=by omega
   simp only [go_sem,Nat.lt_irrefl,Int.lt_irrefl,hs,h2,h2',splice]
  ·have h3:=fun q=>h2 (hm.1 q)
   have h2' : ¬ (20000 : Int) < (((run0 false).play z0c l).ck : Int):=by omega
   simp only [go_sem,Nat.lt_irrefl,Int.lt_irrefl,hs,h2,h2',splice]
theorem z1G (l : List Cmd) (hok : ∀ c ∈ l,CmdOk c) (hl : l.length ≤ 40) : z0d X z2B [ACs l] h K = K (AI (z1e z0c l : Nat)) h []:=z6A l hok (by omega)
theorem z8h {l : List Cmd} (h : z1e z0c l = 0) : (∀ c ∈ l,cmdF c = 0) ∧ (sigT (z0j z0c [] 0 l)).length ≤ 20000 ∧ l.length ≤ 1000:=by
 unfold z1e at h
 split at h
 ·cases h
 split at h
 ·rename_i h1; exact absurd h h1
 split at h
 ·cases h
 ·rename_i h0 h1 h2
  exact ⟨zbe (by omega),by omega,by omega⟩
theorem rh_r0 {l : Heap} : (rh h r l)[h.length]? = some (.row none (r.sts.map eN) 0):=by unfold rh; rw [zej]; rfl
theorem rh_r1 {l : Heap} : (rh h r l)[h.length + 1]? = some (.row none (r.frs.map eN) 0):=by unfold rh; rw [z3t]; rfl
theorem rh_r2 {l : Heap} : (rh h r l)[h.length + 2]? = some (.row none (z0o r.tms) 0):=by unfold rh; rw [z3t]; rfl
theorem rh_r3 {l : Heap} : (rh h r l)[h.length + 3]? = some (.row none (z0o r.tdi) 0):=by unfold rh; rw [z3t]; rfl
theorem rh_r4 {l : Heap} : (rh h r l)[h.length + 4]? = some (.row none (z0o r.want) 0):=by unfold rh; rw [z3t]; rfl
attribute [local go_sem] rh_r0 rh_r1 rh_r2 rh_r3 rh_r4
def clkV (l : List Cmd) : AV:=.tup [AI (if z1e z0c l = 0 then (sigT (z0j z0c [] 0 l)).length else 0 : Nat),AI (z1e z0c l : Nat)]
theorem zrk (l : List Cmd) (hok : ∀ c ∈ l,CmdOk c) (hl : l.length ≤ 40) : z0d X z63 [ACs l] h K = K (clkV l) h []:=by
 refine rule ?_
 rw [c_q063 rfl]
 have hk:=fun (h' : Heap) (K' : Post)=>z1G (h:=h') (K:=K') l hok hl
 unfold clkV
 by_cases h0 : z1e z0c l = 0
 ·obtain ⟨hc,hn,_⟩:=z8h h0
  have hp:=fun (h' : Heap) (K' : Post)=>z5R (h:=h') (K:=K') l hc (by omega)
  obtain ⟨a1,a2,a3,a4,a5⟩:=z5J z8f (z1V hc) false hn
  simp only [ze8,go_sem,hk,h0,hp,a1,show ((0 : Nat) : Int) = 0 from rfl]
 ·have h0' : ¬ ((z1e z0c l : Nat) : Int) = 0:=by omega
  simp only [ze8,go_sem,hk,h0,h0',show ((0 : Nat) : Int) = 0 from rfl]
def bitV (l : List Cmd) : AV:=.tup [AI (if z1e z0c l = 0 then (visL 0 (sigT (z0j z0c [] 0 l))).count 11 else 0 : Nat),AI (if z1e z0c l = 0 then (visL 0 (sigT (z0j z0c [] 0 l))).count 4 else 0 : Nat),AI (z1e z0c l : Nat)]
theorem zvp (l : List Cmd) (hok : ∀ c ∈ l,CmdOk c) (hl : l.length ≤ 40) : z0d X z9l [ACs l] h K = K (bitV l) h []:=by
 refine rule ?_
 rw [c_q061 rfl]
 have hk:=fun (h' : Heap) (K' : Post)=>z1G (h:=h') (K:=K') l hok hl
 unfold bitV
 by_cases h0 : z1e z0c l = 0
 ·obtain ⟨hc,hn,_⟩:=z8h h0
  have hp:=fun (h' : Heap) (K' : Post)=>z5R (h:=h') (K:=K') l hc (by omega)
  obtain ⟨a1,a2,a3,a4,a5⟩:=z5J z8f (z1V hc) false hn
  simp only [ze7,go_sem,hk,h0,hp,a3,a4,show ((0 : Nat) : Int) = 0 from rfl]
 ·have h0' : ¬ ((z1e z0c l : Nat) : Int) = 0:=by omega
  simp only [ze7,go_sem,hk,h0,h0',show ((0 : Nat) : Int) = 0 from rfl]
def stsV (l : List Cmd) : AV:=.tup [AIs (if z1e z0c l = 0 then (z0j z0c [] 0 l).map Part.st else []),AI (z1e z0c l : Nat)]
theorem zrm (l : List Cmd) (hok : ∀ c ∈ l,CmdOk c) (hl : l.length ≤ 40) : z0d X z9n [ACs l] h K = K (stsV l) h []:=by
 refine rule ?_
 rw [c_q068 rfl]
 have hk:=fun (h' : Heap) (K' : Post)=>z1G (h:=h') (K:=K') l hok hl
 unfold stsV
 by_cases h0 : z1e z0c l = 0
 ·obtain ⟨hc,hn,_⟩:=z8h h0
  have hp:=fun (h' : Heap) (K' : Post)=>z5R (h:=h') (K:=K') l hc (by omega)
  obtain ⟨a1,a2,a3,a4,a5⟩:=z5J z8f (z1V hc) false hn
  simp only [zeA,go_sem,hk,h0,hp,a2,List.length_map,show ((0 : Nat) : Int) = 0 from rfl]
  exact congrArg (fun x=>AV.tup [AV.p (PV.sl none x),AI 0]) (List.take_of_length_le (by simp))
 ·have h0' : ¬ ((z1e z0c l : Nat) : Int) = 0:=by omega
  simp only [zeA,go_sem,hk,h0,h0',show ((0 : Nat) : Int) = 0 from rfl]
  rfl
def hbx (h : Heap) : Heap:=h ++ [.box [AB true]]
theorem zha (l : List Cmd) (hc : ∀ c ∈ l,cmdF c = 0) (hl : l.length ≤ 1000) : z0d X z9o [ACs l] h K = K (.ref ((hbx h).length + 5) 0) (rh (hbx h) ((run0 true).play z0c l) []) []:=by
 refine rule ?_
 rw [c_q06p rfl]
 have hp:=fun (K' : Post)=>zoJ (h:=h ++ [.box [AB true]]) (K:=K') l hc (by omega) h.length
 have el : (h ++ [Obj.box [AB true]]).length = h.length + 1:=by simp
 have el2 : (hbx h).length = h.length + 1:=by simp [hbx]
 have et : (rh (h ++ [Obj.box [AB true]]) ((run0 true).play z0c l) []).length = h.length + 7:=by rw [z8k,el]; simp
 simp only [zjF,go_sem,hp,splice]
 refine ⟨by omega,by rw [el2],?_⟩
 exact List.take_of_length_le (by rw [et]; omega)
def sigV (l : List Cmd) : AV:=.tup [AS (if z1e z0c l = 0 then sigT (z0j z0c [] 0 l) else []),AS (if z1e z0c l = 0 then sigI (z0j z0c [] 0 l) else []),AS (if z1e z0c l = 0 then sigW (z0j z0c [] 0 l) else []),AI (z1e z0c l : Nat)]
theorem zoH (l : List Cmd) (hok : ∀ c ∈ l,CmdOk c) (hl : l.length ≤ 40) : z0d X z9m [ACs l] h K = K (sigV l) h []:=by
 refine rule ?_
 rw [c_q067 rfl]
 have hk:=fun (h' : Heap) (K' : Post)=>z1G (h:=h') (K:=K') l hok hl
 unfold sigV
 by_cases h0 : z1e z0c l = 0
 ·obtain ⟨hc,hn,_⟩:=z8h h0
  have hp:=fun (h' : Heap) (K' : Post)=>zha (h:=h') (K:=K') l hc (by omega)
  obtain ⟨a1,a2,a3,a4,a5⟩:=z5J z8f (z1V hc) true hn
  obtain ⟨b1,b2,b3⟩:=a5 rfl
  have ww : ∀ s : List UInt8,win (z0o s) 0 s.length = z0o s:=fun s=>by unfold win; rw [List.drop_zero]; exact List.take_of_length_le (by rw [z2i]; omega)
  have et : (rh (hbx h) ((run0 true).play z0c l) []).take h.length = h:=by unfold rh hbx; rw [List.append_assoc]; exact z5a ..
  simp only [ze9,go_sem,hk,h0,hp,b1,b2,b3,show ((0 : Nat) : Int) = 0 from rfl,z2i,ww,z2O,et,Nat.le_refl]
 ·have h0' : ¬ ((z1e z0c l : Nat) : Int) = 0:=by omega
  simp only [ze9,go_sem,hk,h0,h0',show ((0 : Nat) : Int) = 0 from rfl]
end Go.Am
end
section
/- What is drawn and right: programs. -/
open Go
set_option linter.all false
namespace Go.Am
variable {L : List Int} {a : Int} {h l : Heap} {id : Nat} {K : Post}
theorem z7H (n : Nat) (hn : n ≤ 20) (hp : posN 20000 a) : GenE z8Z [AI n] L a (fun v a2=>a ≤ a2 ∧ a2 ≤ a + 7800 ∧ ∃ l : List Cmd,l.length ≤ n ∧ (∀ c ∈ l,CmdB 2100 c) ∧ z1e z0c l = 0 ∧ v = ACs l):=by
 refine GenE.of fun h id hid=>?_
 rw [c_q02v rfl]
 simp only [zev,go_sem,hid]
 refine z1m (fun t : Nat × Int=>⟨[(0,.ref id 0),(1,AI n),(6,AI t.1)],h.set id (strm L t.2),[]⟩) (fun t=>t.1 ≤ 6 ∧ a ≤ t.2 ∧ t.2 ≤ a + 1300 * t.1) (fun t=>6 - t.1) (0,a) rfl ⟨by simp,by simp,by simp⟩ ?_
 rintro ⟨k,b⟩ ⟨h1,h2,h3⟩
 dsimp only at h1 h2 h3 ⊢
 rcases Nat.lt_or_ge k 6 with hlt | hge
 ·have hk : (k : Int) < 6:=by omega
  have w1 : IntKind.i64.wrap ((k : Int) + 1) = ((k + 1 : Nat) : Int):=z0l _ (by omega) (by omega)
  obtain ⟨_,a2,⟨c1,c2,l,l1,lb,rfl⟩,V⟩:=(zgG (L:=L) (a:=b) n hn (z1u hp h2 (by omega))).set (h:=h) hid
  have F:=fun h K=>z8r (h:=h) (K:=K) l (fun c hc=>(lb c hc).ok (by omega)) (by omega)
  by_cases hf : z1e z0c l = 0
  ·have hf' : ((z1e z0c l : Nat) : Int) = 0:=by omega
   by_cases hl : l.length ≤ n
   ·have hl' : (l.length : Int) ≤ (n : Int):=by omega
    simp only [go_sem,hid,hk,↓V,V,↓F,F,hf,hf',hl,hl']
    exact ⟨a2,⟨by omega,by omega,l,hl,lb,hf,rfl⟩,rfl⟩
   ·have hl' : ¬ (l.length : Int) ≤ (n : Int):=by omega
    simp only [go_sem,hid,hk,↓V,V,↓F,F,hf,hf',hl,hl',w1]
    exact ⟨(k + 1,a2),rfl,⟨by dsimp only; omega,by dsimp only; omega,by dsimp only; omega⟩,by dsimp only; omega⟩
  ·have hf' : ¬ ((z1e z0c l : Nat) : Int) = 0:=by omega
   simp only [go_sem,hid,hk,↓V,V,↓F,F,hf,hf',w1]
   exact ⟨(k + 1,a2),rfl,⟨by dsimp only; omega,by dsimp only; omega,by dsimp only; omega⟩,by dsimp only; omega⟩
 ·have hk : ¬ (k : Int) < 6:=by omega
  simp only [go_sem,hid,hk]
  exact ⟨b,⟨by omega,by omega,[],by simp,by simp,rfl,rfl⟩,rfl⟩
end Go.Am
end
section
/- The signals of a program: asv long asv there are clocks; what is expected in them. -/
open Go
set_option linter.all false
namespace Go.Am
theorem zbf : ∀ (m : List UInt8) (n : Nat),m.length ≤ n → (List.range n).countP (fun i=>m[i]? == some 49) = m.count 49
 | [],n,_=>by simp [List.countP_eq_zero]
 | x :: r,0,h=>by simp at h
 | x :: r,n + 1,h=>by
  rw [List.range_succ_eq_map,List.countP_cons,List.countP_map,List.count_cons]
  have ih:=zbf r n (by simpa using h)
  have e : ((fun i=>(x :: r)[i]? == some 49) ∘ Nat.succ) = fun i=>r[i]? == some 49:=by funext i; simp
  rw [e,ih]
  simp
theorem zlj {c : Cmd} (hb : c.m.length ≤ c.b.length) (hw : c.m ≠ [] → c.w.length = c.b.length) (hwb : z0F c.w = true) : (expC c).count 120 + c.m.count 49 = c.b.length:=by
 rw [← zbf c.m c.b.length hb,expC,List.count_eq_countP,List.countP_map]
 have e : (List.range c.b.length).countP ((fun x=>x == (120 : UInt8)) ∘ z2L c) = (List.range c.b.length).countP (fun i=>¬ (c.m[i]? == some 49) = true):=by
  apply List.countP_congr
  intro i hi
  have hi' : i < c.b.length:=List.mem_range.1 hi
  simp only [Function.comp,z2L,beq_iff_eq,decide_eq_true_eq]
  by_cases h : c.m[i]? = some 49
  ·rw [if_pos h]
   have hm : c.m ≠ []:=by intro e; rw [e] at h; simp at h
   have hlt : i < c.w.length:=by rw [hw hm]; exact hi'
   rw [List.getElem?_eq_getElem hlt]
   have:=z8I hwb (List.getElem_mem hlt)
   simp only [Option.getD_some,h,not_true,iff_false]
   rcases this with e | e <;> rw [e] <;> decide
  ·rw [if_neg h]; simp [h]
 have key:=List.length_eq_countP_add_countP (l:=List.range c.b.length) (fun i=>c.m[i]? == some 49)
 rw [List.length_range] at key
 rw [e]
 omega
theorem zar {l : List Cmd} (hc : ∀ c ∈ l,cmdF c = 0) {k : Nat} (hk : k < l.length) :
 (z01 z0c (l.take k) l[k] (stAt [] 0 (l.take k))).tdi.length = (z01 z0c (l.take k) l[k] (stAt [] 0 (l.take k))).tms.length ∧ (z01 z0c (l.take k) l[k] (stAt [] 0 (l.take k))).want.length = (z01 z0c (l.take k) l[k] (stAt [] 0 (l.take k))).tms.length ∧
 (z01 z0c (l.take k) l[k] (stAt [] 0 (l.take k))).want.length = (z01 z0c (l.take k) l[k] (stAt [] 0 (l.take k))).want.count 120 + l[k].m.count 49:=by
 have h0:=hc _ (List.getElem_mem hk)
 have hz : ∀ n,(zs n).length = n:=fun n=>by simp [zs]
 have hx : ∀ n,(xsL n).length = n:=fun n=>by simp [xsL]
 have hxc : ∀ n,(xsL n).count 120 = n:=fun n=>by simp [xsL]
 generalize stAt [] 0 (l.take k) = state
 generalize l.take k = pre
 generalize l[k] = c at h0 ⊢
 cases z0U h0 with
 | set h hs e=>rw [z1t z0c (by omega),e]; exact ⟨rfl,rfl,rfl⟩
 | pad h0 h1 hb hl e=>rw [z1t z0c h1,e]; exact ⟨rfl,rfl,rfl⟩
 | go h hs e=>
  have em : c.m = []:=by rw [e]
  rw [z4R z0c h,em]
  simp [hz,hx,hxc]
 | idle h h0 h1 e=>
  have em : c.m = []:=by rw [e]
  rw [z2z z0c h,em]
  simp [hz,hx,hxc]
 | scan h hs e=>
  obtain ⟨q1,q2,q3,q4,q5,q6⟩:=z1H hs
  have hpos:=List.length_pos_iff.2 q1
  have hml : c.m.length ≤ c.b.length:=by rcases q6 with ⟨_,e⟩ | ⟨_,e⟩ <;> simp [e]
  have hec:=zlj hml (fun hm=>by rcases q6 with ⟨_,e⟩ | ⟨e,_⟩; exact absurd e hm; exact e) q4
  have hel : (expC c).length = c.b.length:=by simp [expC]
  have key : ∀ (sh ex : Nat) (hd tl : List UInt8) (en : Nat),z01 z0c pre c state = padP (z1c z0c c state sh ex hd tl en) →
   (z01 z0c pre c state).tdi.length = (z01 z0c pre c state).tms.length ∧ (z01 z0c pre c state).want.length = (z01 z0c pre c state).tms.length ∧ (z01 z0c pre c state).want.length = (z01 z0c pre c state).want.count 120 + c.m.count 49:=by
   intro sh ex hd tl en ep
   rw [ep,z2y z0c c state sh ex hd tl en q1]
   simp only [List.length_append,List.count_append,hz,hx,hxc,hel,List.length_singleton]
   omega
  rcases h with h | h
  ·exact key 11 12 _ _ _ (by unfold z01; rw [if_neg (by omega),if_neg (by omega),if_pos h])
  ·exact key 4 5 _ _ _ (by unfold z01; rw [if_neg (by omega),if_neg (by omega),if_neg (by omega),if_pos h])
def z4P (l : List Cmd) : Nat:=(l.map fun c=>c.m.count 49).sum
theorem zfJ : ∀ ps : List Part,(∀ p ∈ ps,p.tdi.length = p.tms.length ∧ p.want.length = p.tms.length) → (sigI ps).length = (sigT ps).length ∧ (sigW ps).length = (sigT ps).length
 | [],_=>⟨rfl,rfl⟩
 | p :: ps,h=>by
  obtain ⟨a,b⟩:=zfJ ps (fun q hq=>h q (List.mem_cons_of_mem _ hq))
  obtain ⟨c,d⟩:=h p (List.mem_cons_self ..)
  simp only [sigI,sigT,sigW,List.flatMap_cons,List.length_append] at a b ⊢
  omega
theorem zcK : ∀ (ps : List Part),(sigW ps).length = (sigW ps).count 120 + (ps.map fun p=>p.want.length - p.want.count 120).sum
 | []=>rfl
 | p :: ps=>by
  have a:=zcK ps
  have b : p.want.count 120 ≤ p.want.length:=List.count_le_length
  simp only [sigW,List.flatMap_cons,List.length_append,List.count_append,List.map_cons,List.sum_cons] at a ⊢
  omega
theorem zoi {l : List Cmd} (hc : ∀ c ∈ l,cmdF c = 0) {p : Part} (hp : p ∈ z0j z0c [] 0 l) : ∃ k,∃ hk : k < l.length,p = z01 z0c (l.take k) l[k] (stAt [] 0 (l.take k)):=by
 obtain ⟨k,hk⟩:=List.mem_iff_getElem?.1 hp
 have hlt : k < l.length:=by
  have:=(List.getElem?_eq_some_iff.1 hk).1
  rwa [z2j] at this
 rw [z4y hlt] at hk
 exact ⟨k,hlt,(Option.some.inj hk).symm⟩
theorem zv2 {l : List Cmd} (hc : ∀ c ∈ l,cmdF c = 0) :
 (sigI (z0j z0c [] 0 l)).length = (sigT (z0j z0c [] 0 l)).length ∧ (sigW (z0j z0c [] 0 l)).length = (sigT (z0j z0c [] 0 l)).length ∧
 (sigT (z0j z0c [] 0 l)).length = (sigW (z0j z0c [] 0 l)).count 120 + z4P l:=by
 obtain ⟨a,b⟩:=zfJ (z0j z0c [] 0 l) (fun p hp=>by
  obtain ⟨k,hk,rfl⟩:=zoi hc hp
  exact ⟨(zar hc hk).1,(zar hc hk).2.1⟩)
 have c:=zcK (z0j z0c [] 0 l)
 have e : (z0j z0c [] 0 l).map (fun p=>p.want.length - p.want.count 120) = l.map fun c=>c.m.count 49:=by
  apply List.ext_getElem?
  intro k
  rw [List.getElem?_map,List.getElem?_map]
  rcases Nat.lt_or_ge k l.length with hk | hk
  ·rw [z4y hk,List.getElem?_eq_getElem hk]
   have:=(zar hc hk).2.2
   simp only [Option.map_some]
   congr 1
   omega
  ·rw [List.getElem?_eq_none (by rw [z2j]; exact hk),List.getElem?_eq_none hk]; rfl
 rw [e] at c
 exact ⟨a,b,by rw [← b]; exact c⟩
theorem zfK {l : List Cmd} (hc : ∀ c ∈ l,cmdF c = 0) : ∀ k,k ≤ l.length → endL 0 (sigT (z0j z0c [] 0 (l.take k))) = stAt [] 0 (l.take k)
 | 0,_=>rfl
 | k + 1,hk=>by
  have hlt : k < l.length:=by omega
  rw [zcL hlt,List.take_succ_eq_append_getElem hlt,(z1M l[k] (l.take k) [] 0).1,List.nil_append,(z5T _ _).1,z17,zfK hc k (by omega)]
  exact (zfp hc hlt).1
theorem z82 : ∀ (l : List UInt8) (s : Nat),(visL s l).length = l.length
 | [],_=>rfl
 | c :: l,s=>by simp [visL,z82 l]
theorem zjv (l : List Nat) : l.count 11 + l.count 4 ≤ l.length:=by
 induction l with
 | nil=>simp
 | cons x l ih=>
  rw [List.count_cons,List.count_cons,List.length_cons]
  by_cases h1 : x = 11
  ·subst h1; simp; omega
  ·by_cases h2 : x = 4
   ·subst h2; simp; omega
   ·simp [h1,h2]; omega
end Go.Am
end
section
/- The reference: bits that are shifted. -/
open Go
set_option linter.all false
namespace Go.Am
variable {h : Heap} {K : Post}
attribute [-go_sem] oEqa splice
end Go.Am
end
section
/- ready: a z1p call,computed. -/
open Go
set_option linter.all false
namespace Go.Am
def orcP (f : Nat) (a : List AV) : Option AV:=bif Nat.beq f z3N then match a with
 | [.p (.int .i64 x),.p (.int .i64 y)]=>bif decide (0 ≤ x) && decide (x < 16) && decide (0 ≤ y) && decide (y < 16) then some (.p (.str (z0c x.toNat y.toNat))) else none
 | _=>none else none
theorem zvi : ∀ f a v,orcP f a = some v → ∀ h (K : Post),K v h [] → z0d X0 f a h K:=by
 intro f a v hv h K hK
 unfold orcP at hv
 cases hf : Nat.beq f z3N with
 | false=>rw [hf] at hv; cases hv
 | true=>
  have hf':=Nat.eq_of_beq_eq_true hf
  rw [hf] at hv
  subst hf'
  simp only [cond_true] at hv
  split at hv
  ·rename_i x y
   cases hc : (decide (0 ≤ x) && decide (x < 16) && decide (0 ≤ y) && decide (y < 16)) with
   | false=>rw [hc] at hv; cases hv
   | true=>
    rw [hc] at hv
    simp only [cond_true,Option.some.injEq] at hv
    simp only [Bool.and_eq_true,decide_eq_true_eq] at hc
    obtain ⟨a,rfl⟩:=Int.eq_ofNat_of_zero_le hc.1.1.1
    obtain ⟨b,rfl⟩:=Int.eq_ofNat_of_zero_le hc.1.2
    have:=ztw (h:=h) (K:=K) zdI zdH a b (by omega) (by omega)
    rw [this]
    subst hv
    exact hK
  ·cases hv
theorem zqZ : z7x X0 orcP 1000 60 z7y [] [] = some (AB true,[],[]):=by kernel_rfl
theorem zvW : z0d X0 z7y [] [] fun v h x=>v = AB true ∧ h = [] ∧ x = []:=(zhn zvi 1000 60 zqZ _).2 ⟨rfl,rfl,rfl⟩
theorem zvs {h : Heap} {K : Post} : z0d X z7y [] h K = K (AB true) h []:=z5r (by kernel_rfl) rfl
end Go.Am
end
section
/- What all laws of the keep package use. -/
open Go
set_option linter.all false
namespace Go.Am
variable {h : Heap} {K : Post}
theorem zvr (l : List Int) (hl : l.length ≤ 1000) : z0d X z60 [AL l] h K = K (AI (z4u l)) h []:=by
 refine rule ?_
 rw [c_q02f rfl]
 simp only [zeq,go_sem]
 refine z1m (fun k : Nat=>⟨[(5,AL l),(6,AI l.length),(7,AI k)],h,[]⟩) (fun k=>k ≤ l.length ∧ z4u (l.drop k) = z4u l) (fun k=>l.length - k) 0 rfl (by simp) ?_
 rintro k ⟨hk,hp⟩
 rcases Nat.lt_or_ge k l.length with hlt | hge
 ·have hg:=z2t eI hlt
  have w2 : IntKind.i64.wrap ((k : Int) + 1) = ((k + 1 : Nat) : Int):=z0l _ (by omega) (by omega)
  rw [List.drop_eq_getElem_cons hlt,z4u] at hp
  by_cases he : l[k] = 0
  ·rw [if_pos he] at hp
   simp only [go_sem,hlt,hg,w2,he]
   exact ⟨k + 1,rfl,⟨by omega,hp⟩,by omega⟩
  ·rw [if_neg he] at hp
   simp only [go_sem,hlt,hg,w2,he]
   rw [hp]
 ·have e1 : k = l.length:=by omega
  subst e1
  simp only [go_sem,Nat.lt_irrefl]
  rw [List.drop_length] at hp
  rw [← hp]; rfl
end Go.Am
end
section
/- A text split at a byte. -/
set_option linter.all false
namespace Go.Am
end Go.Am
end
section
/- Where a byte stands in a text. -/
open Go
set_option linter.all false
namespace Go.Am
variable {h : Heap} {K : Post}
end Go.Am
end
section
/- The abstract machine,part L4: strings.Repeat,strings.Trim,math/bits.TrailingZeros64 asv rows. -/
set_option linter.all false
namespace Go.Am
variable {P : Program} {gl : Nat → Option PV}
open Go.Shelf
theorem z3F {w w' : World} (h : Go.RowKit.Below w.heap.size w w') : WExt w w':=⟨h.size,fun b hb=>h.block b hb,by unfold zed; rw [h.os,h.tape,h.output]⟩
theorem zmd (s : List UInt8) : ∀ c,Go.Lib.repeatL s c = repL s c
 | 0=>rfl
 | c + 1=>by rw [Go.Lib.repeatL,repL,zmd s c]
theorem repeatRow {ρ : Ren} (L : Go.Proofs.Lays.n105 P ρ) (E : Go.Proofs.Builder.Extra P ρ) (he : ∀ us w,(callFunc (ρ.f 105) us).run P w = .ok (.enter (ρ.f 105) us) w) : PureRow P gl (ρ.f 105) z6h where
 enter:=he
 run M w vs r us hc hb hG hl hr hs:=by
  unfold z6h at hs
  split at hs
  ·rename_i s c
   split at hs
   ·rename_i hbd
    match us,hl with
    | [u,v],_=>
     have q:=hr 0 _ u rfl rfl
     cases q
     have q2:=hr 1 _ v rfl rfl
     cases q2
     simp only [Option.some.injEq] at hs
     subst hs
     obtain ⟨n,rfl⟩:=Int.eq_ofNat_of_zero_le hbd.1
     have hsz : (⟨s.toArray⟩ : ByteArray).size = s.length:=by simp [ByteArray.size]
     simp only [Int.toNat_natCast] at hbd ⊢
     refine (Go.Proofs.Any.strings_Repeat L E ⟨s.toArray⟩ n w (by omega) (by rw [hsz]; omega)).mono fun e w' h=>?_
     obtain ⟨rfl,h⟩:=h
     exact ⟨_,rfl,z3F h,by rw [zmd]; exact .p _ _ (.str _)⟩
   ·cases hs
  ·cases hs
theorem zqC (s cs : List UInt8) : Go.Lib.trimS s cs = zrJ s cs:=rfl
theorem trimRow {ρ : Ren} (L : Go.Proofs.Lays.n160 P ρ) (h116 : (P.info? (ρ.t 116)).map (fun i=>(i.zero,i.size)) = some (some (.agg (Array.replicate 256 (.bool false))),256)) (he : ∀ us w,(callFunc (ρ.f 160) us).run P w = .ok (.enter (ρ.f 160) us) w) : PureRow P gl (ρ.f 160) trimS where
 enter:=he
 run M w vs r us hc hb hG hl hr hs:=by
  unfold trimS at hs
  split at hs
  ·rename_i s cs
   split at hs
   ·rename_i hbd
    match us,hl with
    | [u,v],_=>
     have q:=hr 0 _ u rfl rfl
     cases q
     have q2:=hr 1 _ v rfl rfl
     cases q2
     simp only [Option.some.injEq] at hs
     subst hs
     have hsz : ∀ l : List UInt8,(⟨l.toArray⟩ : ByteArray).size = l.length:=fun l=>by simp [ByteArray.size]
     refine (Go.Proofs.Any.strings_Trim_laid L h116 ⟨s.toArray⟩ ⟨cs.toArray⟩ w (by rw [hsz]; omega) (by rw [hsz]; omega) (Go.Proofs.ascii_of_all hbd.2.2)).mono fun e w' h=>?_
     obtain ⟨rfl,h⟩:=h
     exact ⟨_,rfl,z3F h,by rw [← zqC]; exact .p _ _ (.str _)⟩
   ·cases hs
  ·cases hs
end Go.Am
end
section
/- The abstract machine,part L5: strings.Count at one byte,strings.Join asv rows. -/
set_option linter.all false
namespace Go.Am
variable {P : Program} {gl : Nat → Option PV}
open Go.Shelf
theorem countRow {ρ : Ren} (L : Go.Proofs.Lays.n138 P ρ) (he : ∀ us w,(callFunc (ρ.f 138) us).run P w = .ok (.enter (ρ.f 138) us) w) : PureRow P gl (ρ.f 138) zbg where
 enter:=he
 run M w vs r us hc hb hG hl hr hs:=by
  unfold zbg at hs
  split at hs
  ·rename_i s c
   match us,hl with
   | [u,v],_=>
    have q:=hr 0 _ u rfl rfl
    cases q
    have q2:=hr 1 _ v rfl rfl
    cases q2
    simp only [Option.some.injEq] at hs
    subst hs
    refine (Go.Proofs.Any.strings_Count_one L ⟨s.toArray⟩ c w).mono fun e w' h=>?_
    obtain ⟨rfl,rfl⟩:=h
    exact ⟨_,rfl,WExt.refl _,.p _ _ (.int _ _)⟩
  ·cases hs
end Go.Am
end
section
/- Texts split at a byte. -/
open Go
set_option linter.all false
namespace Go.Am
variable {h : Heap} {K : Post}
theorem zoF (s : List UInt8) (c : UInt8) : z0d X z74 [AS s,AS [c]] h K = K (AI (s.count c)) h []:=by
 refine z5r (X:=X) (by kernel_rfl) ?_
 rw [zp6]
 exact z5q (vs:=[.str s,.str [c]]) (by kernel_rfl) (s:=zbg) (by kernel_rfl) rfl rfl
end Go.Am
end
section
/- SignalsFit returns true. -/
open Go
set_option linter.all false
set_option maxRecDepth 100000
namespace Go.Am
variable {h : Heap} {K : Post}
theorem z9u (l : List Cmd) {k : Nat} (hk : k < l.length) : z4P (l.take (k + 1)) = z4P (l.take k) + l[k].m.count 49:=by
 unfold z4P
 rw [List.take_succ_eq_append_getElem hk,List.map_append,List.sum_append]
 simp only [List.map_cons,List.map_nil,List.sum_cons,List.sum_nil,Nat.add_zero]
theorem zqF {l : List Cmd} (hm : ∀ c ∈ l,c.m.length ≤ 100000) : z4P l ≤ l.length * 100000:=by
 induction l with
 | nil=>simp [z4P]
 | cons c l ih=>
  have a:=ih (fun d hd=>hm d (List.mem_cons_of_mem c hd))
  have b:=hm c (List.mem_cons_self ..)
  have d : c.m.count 49 ≤ c.m.length:=List.count_le_length
  simp only [z4P,List.map_cons,List.sum_cons,List.length_cons] at a ⊢
  omega
set_option maxHeartbeats 8000000 in
theorem law_SF (L : List Int) {K : Post} : z0d X zeL [AL L] [] K = K (AB true) [] []:=by
 refine rule ?_
 rw [c_q02d rfl]
 have p0 : posN 100000 0:=by unfold posN; omega
 have p00 : posN 0 0:=by unfold posN; omega
 have rb : 0 ≤ z2H 0 8 L 0 ∧ z2H 0 8 L 0 ≤ 8:=z8j L 0 (by omega) (by omega)
 obtain ⟨n,hn⟩ : ∃ n : Nat,z2H 0 8 L 0 = n:=⟨(z2H 0 8 L 0).toNat,by omega⟩
 obtain ⟨_,a2,⟨d1,d2,l,hl,hb,h0,rfl⟩,V⟩:=(z7H (L:=L) (a:=1) n (by omega) (z1u p0 (by omega) (by omega))).hd (l:=[])
 have hok : ∀ c ∈ l,CmdOk c:=fun c hc=>(hb c hc).ok (by omega)
 have hl4 : l.length ≤ 40:=by omega
 obtain ⟨hc,hT,h1⟩:=z8h h0
 obtain ⟨f1,f2,f3⟩:=zv2 hc
 have C1:=fun h K=>zrk (h:=h) (K:=K) l hok hl4
 have C2:=fun h K=>zoH (h:=h) (K:=K) l hok hl4
 have C3:=fun h K=>zrm (h:=h) (K:=K) l hok hl4
 have C4:=fun h K=>zvp (h:=h) (K:=K) l hok hl4
 simp only [clkV,sigV,stsV,bitV,h0,if_true] at C1 C2 C3 C4
 have bT:=zpH hc
 have WO:=fun h K=>z5Q (h:=h) (K:=K) 0 (sigT (z0j z0c [] 0 l)) (by omega) bT (by omega)
 simp only [show ((0 : Nat) : Int) = 0 from rfl] at WO
 have hw : (z36 0 (sigT (z0j z0c [] 0 l))).length = (sigT (z0j z0c [] 0 l)).length:=z1x _ _
 have hct:=zjv (visL 0 (sigT (z0j z0c [] 0 l)))
 rw [z82] at hct
 have hend:=zfK hc l.length (Nat.le_refl _)
 rw [List.take_length] at hend
 have hlast : ∀ (hl0 : 0 < l.length),((z0j z0c [] 0 l).map Part.st)[l.length - 1]? = some (stAt [] 0 l):=fun hl0=>by
  have e:=zcL (l:=l) (k:=l.length - 1) (by omega)
  rw [show l.length - 1 + 1 = l.length by omega,List.take_length] at e
  rw [List.getElem?_map,z4y (by omega),e]
  rfl
 have hwl : ∀ (h : 0 < (sigT (z0j z0c [] 0 l)).length),(z36 0 (sigT (z0j z0c [] 0 l)))[(sigT (z0j z0c [] 0 l)).length - 1]? = some (stAt [] 0 l):=fun h=>by
  rw [z9J 0 _ h,hend]
 have hpl : ((z0j z0c [] 0 l).map Part.st).length = l.length:=by rw [List.length_map,z2j]
 have ke:=fun h K=>zvr (h:=h) (K:=K) [0,0,0,0] (by simp)
 simp only [AL,List.map_cons,List.map_nil] at ke
 have k0 : z4u [0,0,0,0] = 0:=rfl
 rw [k0] at ke
 generalize hst : stAt [] 0 l = sl at *
 generalize (visL 0 (sigT (z0j z0c [] 0 l))).count 11 = n1 at *
 generalize (visL 0 (sigT (z0j z0c [] 0 l))).count 4 = n2 at *
 generalize z36 0 (sigT (z0j z0c [] 0 l)) = ww at *
 generalize (z0j z0c [] 0 l).map Part.st = ts at *
 generalize sigT (z0j z0c [] 0 l) = t1 at *
 generalize sigI (z0j z0c [] 0 l) = t2 at *
 generalize sigW (z0j z0c [] 0 l) = t3 at *
 have q2 : ((t2.length : Nat) : Int) = (t1.length : Int):=by omega
 have q3 : ((t3.length : Nat) : Int) = (t1.length : Int):=by omega
 have wsum : IntKind.i64.wrap ((n1 : Int) + (n2 : Int)) = ((n1 + n2 : Nat) : Int):=by
  rw [show (n1 : Int) + (n2 : Int) = ((n1 + n2 : Nat) : Int) by omega]; exact z0l _ (by omega) (by omega)
 have q4 : ¬ ((t1.length : Nat) : Int) < ((n1 + n2 : Nat) : Int):=by omega
 have hmk : ∀ k,k ≤ l.length → z4P (l.take k) ≤ 4000000:=fun k hk=>by
  have:=zqF (l:=l.take k) (fun c hc=>(hok c (List.mem_of_mem_take hc)).m)
  rw [List.length_take] at this
  have : min k l.length * 100000 ≤ 40 * 100000:=Nat.mul_le_mul_right _ (by omega)
  omega
 have loop : ∀ h,List.length h = 1 → z14 (z0d X) X.gl (.scope z2v) (z05 0 (seqN (z0d X) X.gl z3U (finR [.t 2] false 0 fun v1 h1 x1=>v1 = AB true ∧ h1 = [] ∧ x1 = []))) [(5,AI t1.length),(9,AS t3),(17,AI 0),(114,ACs l),(115,AI l.length),(116,AI 0)] h []:=by
  intro h hh
  refine z1m (fun k : Nat=>⟨[(5,AI t1.length),(9,AS t3),(17,AI (z4P (l.take k) : Nat)),(114,ACs l),(115,AI l.length),(116,AI k)],h,[]⟩) (fun k=>k ≤ l.length) (fun k=>l.length - k) 0 rfl (by omega) ?_
  intro k hk
  rcases Nat.lt_or_ge k l.length with hlt | hge
  ·have hg:=z2t cmdP hlt
   have w2 : IntKind.i64.wrap ((k : Int) + 1) = ((k + 1 : Nat) : Int):=z0l _ (by omega) (by omega)
   have hm1:=hmk (k + 1) (by omega)
   rw [z9u l hlt] at hm1
   have w3 : IntKind.i64.wrap (((z4P (l.take k) : Nat) : Int) + ((l[k].m.count 49 : Nat) : Int)) = ((z4P (l.take k) + l[k].m.count 49 : Nat) : Int):=by
    rw [show ((z4P (l.take k) : Nat) : Int) + ((l[k].m.count 49 : Nat) : Int) = ((z4P (l.take k) + l[k].m.count 49 : Nat) : Int) by omega]; exact z0l _ (by omega) (by omega)
   have sc:=fun h K=>zoF (h:=h) (K:=K) l[k].m 49
   simp only [go_sem,hlt,hg,w2,w3,sc]
   exact ⟨k + 1,by rw [z9u l hlt],by omega,by omega⟩
  ·obtain rfl : k = l.length:=by omega
   rw [List.take_length]
   have sc:=fun h K=>zoF (h:=h) (K:=K) t3 120
   have hcl : t3.count 120 ≤ t3.length:=List.count_le_length
   have w4 : IntKind.i64.wrap ((t1.length : Int) - ((t3.count 120 : Nat) : Int)) = ((z4P l : Nat) : Int):=by
    rw [show (t1.length : Int) - ((t3.count 120 : Nat) : Int) = ((z4P l : Nat) : Int) by omega]; exact z0l _ (by omega) (by omega)
   simp only [go_sem,Nat.lt_irrefl,Int.lt_irrefl,sc,w4,zvs]
 have lp:=loop [strm L a2] rfl
 by_cases c0 : 0 < l.length
 ·have c0' : (0 : Int) < (l.length : Int):=by omega
  by_cases c1 : 0 < t1.length
  ·have c1' : (0 : Int) < (t1.length : Int):=by omega
   have g1:=hlast c0
   have g2:=hwl c1
   have w5 : IntKind.i64.wrap ((l.length : Int) - 1) = ((l.length - 1 : Nat) : Int):=by
    rw [show (l.length : Int) - 1 = ((l.length - 1 : Nat) : Int) by omega]; exact z0l _ (by omega) (by omega)
   have w6 : IntKind.i64.wrap ((t1.length : Int) - 1) = ((t1.length - 1 : Nat) : Int):=by
    rw [show (t1.length : Int) - 1 = ((t1.length - 1 : Nat) : Int) by omega]; exact z0l _ (by omega) (by omega)
   have m1 : (ts.map fun n : Nat=>eI n)[l.length - 1]? = some (eI sl):=by rw [List.getElem?_map,g1]; rfl
   have m2 : (ww.map fun n : Nat=>eI n)[t1.length - 1]? = some (eI sl):=by rw [List.getElem?_map,g2]; rfl
   have b1 : l.length - 1 < l.length:=by omega
   have b2 : t1.length - 1 < t1.length:=by omega
   simp (config:={ maxSteps:=4000000 }) only [z8U,go_sem,p00,hn,V,C1,C2,C3,C4,ke,WO,hpl,hw,q2,q3,q4,wsum,c0',c1',w5,w6,m1,m2,b1,b2,lp,List.length_map]
  ·have c1' : ¬ (0 : Int) < (t1.length : Int):=by omega
   simp (config:={ maxSteps:=4000000 }) only [z8U,go_sem,p00,hn,V,C1,C2,C3,C4,ke,WO,hpl,hw,q2,q3,q4,wsum,c0',c1',lp,List.length_map]
 ·have c0' : ¬ (0 : Int) < (l.length : Int):=by omega
  simp (config:={ maxSteps:=4000000 }) only [z8U,go_sem,p00,hn,V,C1,C2,C3,C4,ke,WO,hpl,hw,q2,q3,q4,wsum,c0',lp,List.length_map]
end Go.Am
end
section
/- From a law that is true here tov the model's calls at what came in. -/
open Go
namespace Go.Am
variable {P : Program}
theorem law_nil {X : Ctx} (HX : Fits P X) {f : Nat} {F : AFun} (hF : X.fn f = some F) (H : ∀ L : List Int,z0d X f [zqQ L] [] fun v _ _=>v = .p (.bool true)) (W : World) (hG : GInv X.gl (imm [] [] W)) :
 Calls P f #[.slice none 0 0] W fun e W'=>e = .returned (.bool true) ∧ RowKit.Below W.heap.size W W':=by
 refine (zem HX hF (H []) (W:=W) (vs:=[.slice none 0 0]) hG rfl (fun j y v hy hv=>?_)).mono fun e W' he=>?_
 ·cases j with
  | zero=>cases hy; cases hv; exact zpJ W
  | succ j=>cases hy
 ·cases e with
  | returned r=>
   obtain ⟨⟨v,h,x,μ,hk,hr⟩,hb⟩:=he
   subst hk
   exact ⟨by rw [hr.p_bool],hb⟩
  | panicked _=>exact he.elim
  | outgrown=>exact he.elim
theorem law_ints {X : Ctx} (HX : Fits P X) {f : Nat} {F : AFun} (hF : X.fn f = some F) (H : ∀ L : List Int,z0d X f [zqQ L] [] fun v _ _=>v = .p (.bool true)) {W : World} (hG : GInv X.gl (imm [] [] W)) {a : Addr} {len cap : Nat} {zs : List Int}
 (hl : len ≤ cap) (hz : len ≤ zs.length) (hc : ∀ i,i < zs.length → W.cell? (a.add i) = some (.int .i64 (zs.getD i 0))) :
 Calls P f #[.slice (some a) len cap] W fun e W'=>e = .returned (.bool true) ∧ RowKit.Below W.heap.size W W':=by
 refine (zem HX hF (H (zs.take len)) (W:=W) (vs:=[.slice (some a) len cap]) hG rfl (fun j y v hy hv=>?_)).mono fun e W' he=>?_
 ·cases j with
  | zero=>
   cases hy; cases hv
   rcases Nat.eq_zero_or_pos len with h0 | h0
   ·subst h0
    exact .p _ _ (.nils _ _ _)
   ·exact zjg (by simpa [Addr.add] using World.cell?_spot (hc 0 (by omega))) hl hz hc
  | succ j=>cases hy
 ·cases e with
  | returned r=>
   obtain ⟨⟨v,h,x,μ,hk,hr⟩,hb⟩:=he
   subst hk
   exact ⟨by rw [hr.p_bool],hb⟩
  | panicked _=>exact he.elim
  | outgrown=>exact he.elim
end Go.Am
namespace Go.ChangeShapes
open Go.RowKit Go.WideShapes
section
variable {H : Type} {enc : TypeId × Value → H} {P : Program}
end
end Go.ChangeShapes
end
section
/- The abstract machine,part L2: the kit's contracts asv rows. -/
set_option linter.unusedSimpArgs false
set_option linter.unusedVariables false
namespace Go.Am
variable {P : Program} {gl : Nat → Option PV}
open Go.Shelf
end Go.Am
end
section
/- The abstract machine,part L6: scanref2.setting (a range over slices.Backward with a return inside) asv a row,out of what the walk says of it. -/
set_option linter.all false
namespace Go.Am
variable {P : Program} {gl : Nat → Option PV}
theorem zfb {y : PV} (h : zdv y = true) : ∃ a b c s t u,y = .agg [.int .i64 a,.int .i64 b,.int .i64 c,.str s,.str t,.str u]:=by
 unfold zdv at h
 split at h
 ·exact ⟨_,_,_,_,_,_,rfl⟩
 ·cases h
def cmdW (a b c : Int) (s t u : List UInt8) : Value:=.agg #[.int .i64 a,.int .i64 b,.int .i64 c,.string ⟨s.toArray⟩,.string ⟨t.toArray⟩,.string ⟨u.toArray⟩]
theorem zeo (M : Mem) (a b c : Int) (s t u : List UInt8) : RPV M (.agg [.int .i64 a,.int .i64 b,.int .i64 c,.str s,.str t,.str u]) (cmdW a b c s t u):=by
 refine .agg _ [_,_,_,_,_,_] rfl fun j y v h1 h2=>?_
 match j with
 | 0=>cases h1; cases h2; exact .int _ _
 | 1=>cases h1; cases h2; exact .int _ _
 | 2=>cases h1; cases h2; exact .int _ _
 | 3=>cases h1; cases h2; exact .str _
 | 4=>cases h1; cases h2; exact .str _
 | 5=>cases h1; cases h2; exact .str _
 | j + 6=>simp at h1
def z4M (xs : List PV) (j q : Nat) : Value:=match xs[j]? with
 | some (.agg [.int .i64 a,.int .i64 b,.int .i64 c,.str s,.str t,.str u])=>match q with
  | 0=>.int .i64 a | 1=>.int .i64 b | 2=>.int .i64 c | 3=>.string ⟨s.toArray⟩ | 4=>.string ⟨t.toArray⟩ | _=>.string ⟨u.toArray⟩
 | _=>match q with
  | 0=>.int .i64 0 | 1=>.int .i64 1 | 2=>.int .i64 0 | _=>.string ⟨#[]⟩
theorem z3H {xs : List PV} {j : Nat} {a b c : Int} {s t u : List UInt8} (h : xs[j]? = some (.agg [.int .i64 a,.int .i64 b,.int .i64 c,.str s,.str t,.str u])) (q : Nat) :
 z4M xs j q = match q with
 | 0=>.int .i64 a | 1=>.int .i64 b | 2=>.int .i64 c | 3=>.string ⟨s.toArray⟩ | 4=>.string ⟨t.toArray⟩ | _=>.string ⟨u.toArray⟩:=by
 unfold z4M; rw [h]
theorem zbc {xs : List PV} {j : Nat} (h : xs[j]? = none) (q : Nat) :
 z4M xs j q = match q with
 | 0=>.int .i64 0 | 1=>.int .i64 1 | 2=>.int .i64 0 | _=>.string ⟨#[]⟩:=by
 unfold z4M; rw [h]
def Cmds (f : Nat → Nat → Value) (kd : Nat → Int) : Prop:=∀ j,∃ b c s t u,f j 0 = .int .i64 (kd j) ∧ f j 1 = .int .i64 b ∧ f j 2 = .int .i64 c ∧ f j 3 = .string s ∧ f j 4 = .string t ∧ f j 5 = .string u
def ztJ (P : Program) (fn : Nat) : Prop:=
 (∀ (b off len cap i : Nat) (k : Int) (f : Nat → Nat → Value) (kd : Nat → Int) (w : World),i ≤ len → len ≤ cap → Cmds f kd → len * 200 ≤ 140737488351232 →
  (b < w.heap.size ∧ ∀ j q,j < len → q < 6 → w.cell? ⟨b,off + (6 * j + q),none⟩ = some (f j q)) →
  Calls P fn #[.slice (some ⟨b,off,none⟩) len cap,.int .i64 i,.int .i64 k] w fun e W'=>
   ((∃ j,j < i ∧ e = .returned (.agg #[f j 0,f j 1,f j 2,f j 3,f j 4,f j 5]) ∧ kd j = k ∧ ∀ j',j < j' → j' < i → kd j' ≠ k) ∨
    (e = .returned (.agg #[.int .i64 0,.int .i64 1,.int .i64 0,.string ⟨#[]⟩,.string ⟨#[]⟩,.string ⟨#[]⟩]) ∧ ∀ j,j < i → kd j ≠ k)) ∧ Go.RowKit.Below w.heap.size w W') ∧
 (∀ (a : Option Addr) (cap : Nat) (k : Int) (w : World),Calls P fn #[.slice a 0 cap,.int .i64 0,.int .i64 k] w fun e W'=>
  e = .returned (.agg #[.int .i64 0,.int .i64 1,.int .i64 0,.string ⟨#[]⟩,.string ⟨#[]⟩,.string ⟨#[]⟩]) ∧ Go.RowKit.Below w.heap.size w W')
theorem z7h {xs : List PV} (h : xs.all zdv = true) (j : Nat) :
 (xs.length ≤ j ∧ xs[j]? = none) ∨ (j < xs.length ∧ ∃ a b c s t u,xs[j]? = some (.agg [.int .i64 a,.int .i64 b,.int .i64 c,.str s,.str t,.str u])):=by
 rcases Nat.lt_or_ge j xs.length with h1 | h1
 ·obtain ⟨a,b,c,s,t,u,e⟩:=zfb (List.all_eq_true.1 h _ (List.getElem_mem h1))
  exact .inr ⟨h1,a,b,c,s,t,u,by rw [List.getElem?_eq_getElem h1,e]⟩
 ·exact .inl ⟨h1,List.getElem?_eq_none h1⟩
theorem zjq {xs : List PV} (h : xs.all zdv = true) : Cmds (z4M xs) fun j=>z9W ((xs[j]?).getD zlA):=fun j=>by
 rcases z7h h j with ⟨_,e⟩ | ⟨_,a,b,c,s,t,u,e⟩
 ·simp only [zbc e,e]
  exact ⟨_,_,_,_,_,rfl,rfl,rfl,rfl,rfl,rfl⟩
 ·simp only [z3H e,e]
  exact ⟨_,_,_,_,_,rfl,rfl,rfl,rfl,rfl,rfl⟩
theorem zai {p : PV → Bool} : ∀ {l : List PV} {j : Nat} {y : PV},l[j]? = some y → p y = true → (∀ j' z,j < j' → l[j']? = some z → p z = false) → l.reverse.find? p = some y:=by
 intro l
 induction l with
 | nil=>intro j y h; simp at h
 | cons a r ih=>
  intro j y h hp hn
  rw [List.reverse_cons,List.find?_append]
  cases j with
  | succ j=>
   rw [ih (j:=j) (by simpa using h) hp (fun j' z h1 h2=>hn (j' + 1) z (by omega) (by simpa using h2))]
   rfl
  | zero=>
   simp only [List.getElem?_cons_zero,Option.some.injEq] at h
   subst h
   have : r.reverse.find? p = none:=by
    rw [List.find?_eq_none]
    intro z hz
    obtain ⟨j',h1⟩:=List.mem_iff_getElem?.1 (List.mem_reverse.1 hz)
    simp [hn (j' + 1) z (by omega) (by simpa using h1)]
   rw [this]
   simp [hp]
theorem zvX {fn : Nat} (H : ztJ P fn) (he : ∀ us w,(callFunc fn us).run P w = .ok (.enter fn us) w) : PureRow P gl fn z41 where
 enter:=he
 run M w vs r us hc hb hG hl hr hs:=by
  unfold z41 at hs
  split at hs
  ·rename_i xs i k
   split at hs
   ·rename_i hcd
    obtain ⟨h0,hi,hlen,hall⟩:=hcd
    simp only [Option.some.injEq] at hs
    subst hs
    match us,hl with
    | [u0,u1,u2],_=>
     have q0:=hr 0 _ u0 rfl rfl
     have q1:=hr 1 _ u1 rfl rfl
     cases q1
     have q2:=hr 2 _ u2 rfl rfl
     cases q2
     obtain ⟨n,rfl⟩ : ∃ n : Nat,i = n:=⟨i.toNat,by omega⟩
     simp only [Int.toNat_natCast]
     have hidle : ∀ M',RAV M' [] [] (.p zlA) (.agg #[.int .i64 0,.int .i64 1,.int .i64 0,.string ⟨#[]⟩,.string ⟨#[]⟩,.string ⟨#[]⟩]):=fun M'=>.p _ _ (zeo M' 0 1 0 [] [] [])
     generalize hsh : (some 6 : Sh) = sh at q0
     cases q0 with
     | nils _ a cap=>
      obtain rfl : n = 0:=by simpa using hi
      refine (H.2 a cap k w).mono fun e w' h=>?_
      obtain ⟨rfl,h⟩:=h
      exact ⟨_,rfl,z3F h,hidle _⟩
     | sl _ _ b o cap f hne hcap hshp hm hrr=>
      have hn6 : ∀ x ∈ xs,x.cells.length = 6:=fun x hx=>by
       obtain ⟨a,b,c,s,t,u,e⟩:=zfb (List.all_eq_true.1 hall x hx)
       rw [e]; rfl
      have hcell : ∀ j q,j < xs.length → q < 6 → w.cell? ⟨b,o + (6 * j + q),none⟩ = some (z4M xs j q):=by
       intro j q hj hq
       rcases z7h hall j with ⟨h1,_⟩ | ⟨_,a,b',c,s,t,u,e⟩
       ·omega
       ·have hf:=z2C hn6 j q hq
        rw [e] at hf
        rw [Nat.mul_comm 6 j]
        rw [z3H e]
        have hq' : q = 0 ∨ q = 1 ∨ q = 2 ∨ q = 3 ∨ q = 4 ∨ q = 5:=by omega
        rcases hq' with rfl | rfl | rfl | rfl | rfl | rfl <;>
        ·have h1:=hc _ _ _ (hm _ _ hf)
         have h2:=hrr _ _ hf
         revert h1 h2
         generalize f _ = fj
         intro h1 h2
         cases h2
         exact h1
      have hb0 : b < w.heap.size:=z6W (hcell 0 0 (List.length_pos_iff.2 hne) (by omega))
      refine (H.1 b o xs.length cap n k (z4M xs) (fun j=>z9W ((xs[j]?).getD zlA)) w (by omega) hcap (zjq hall) (by omega) ⟨hb0,hcell⟩).mono fun e w' h=>?_
      obtain ⟨h,hB⟩:=h
      rcases h with ⟨j,hj,rfl,hk,hlast⟩ | ⟨rfl,hnone⟩
      ·rcases z7h hall j with ⟨h1,_⟩ | ⟨_,a,b',c,s,t,u,e⟩
       ·omega
       ·have hfd : z2D (xs.take n) k = .agg [.int .i64 a,.int .i64 b',.int .i64 c,.str s,.str t,.str u]:=by
         unfold z2D
         rw [zai (j:=j) (y:=.agg [.int .i64 a,.int .i64 b',.int .i64 c,.str s,.str t,.str u]) (by rw [List.getElem?_take,if_pos hj]; exact e) (by rw [e] at hk; simpa using hk) (fun j' z h1 h2=>by
          rw [List.getElem?_take] at h2
          split at h2
          ·rename_i h3
           have:=hlast j' h1 h3
           rw [h2] at this
           simpa using this
          ·cases h2)]
         rfl
        refine ⟨_,rfl,z3F hB,?_⟩
        rw [hfd]
        simp only [z3H e]
        exact .p _ _ (zeo _ a b' c s t u)
      ·have hfd : z2D (xs.take n) k = zlA:=by
        unfold z2D
        rw [List.find?_eq_none.2]
        ·rfl
        ·intro z hz
         obtain ⟨j',h1⟩:=List.mem_iff_getElem?.1 (List.mem_reverse.1 hz)
         rw [List.getElem?_take] at h1
         split at h1
         ·rename_i h3
          have:=hnone j' h3
          rw [h1] at this
          simpa using this
         ·cases h1
       refine ⟨_,rfl,z3F hB,?_⟩
       rw [hfd]
       exact hidle _
   ·cases hs
  ·cases hs
end Go.Am
end
