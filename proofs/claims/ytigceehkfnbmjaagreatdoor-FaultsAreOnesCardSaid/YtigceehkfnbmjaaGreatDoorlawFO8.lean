/- Texts of the proof, laid together: SpPath, SpReady, SpKeep, SpLawSA, SpLawFO, Bridge, AmL2, AmL4. -/
import Derived.KernelRfl
import Derived.ProofKit
import Derived.Shelf.Strconv.Itoa3
import Derived.Lib.LaidTab
import Derived.Shelf.Strings.Repeat
import Derived.Shelf.Strings.SlTrimAscii
import Derived.Shelf.Spec.TrailingZeros
import Derived.Test.YtigceehkfnbmjaaGreatDoorlawFO7
set_option linter.all false
section
/- The shortest way between two states of a test access port: a search over a queue. -/
open Go
set_option linter.all false
namespace Go.Am
variable {h : Heap} {K : Post}
attribute [-go_sem] oLook oMupd oMentry oMrange
def nxtT : List (List Nat):=[[1,0],[1,2],[3,9],[4,5],[4,5],[6,8],[6,7],[4,8],[1,2],[10,0],[11,12],[11,12],[13,15],[13,14],[11,15],[1,2]]
def nxt (s t : Nat) : Nat:=(nxtT.getD s []).getD t 0
theorem nxt_get {s t : Nat} (hs : s < 16) (ht : t < 2) : ([AI 1,AI 0,AI 1,AI 2,AI 3,AI 9,AI 4,AI 5,AI 4,AI 5,AI 6,AI 8,AI 6,AI 7,AI 4,AI 8,AI 1,AI 2,AI 10,AI 0,AI 11,AI 12,AI 11,AI 12,AI 13,AI 15,AI 13,AI 14,AI 11,AI 15,AI 1,AI 2] : List AV)[s * 2 + t * 1]? = some (AI (nxt s t)):=by
  have hs' : s = 0 ∨ s = 1 ∨ s = 2 ∨ s = 3 ∨ s = 4 ∨ s = 5 ∨ s = 6 ∨ s = 7 ∨ s = 8 ∨ s = 9 ∨ s = 10 ∨ s = 11 ∨ s = 12 ∨ s = 13 ∨ s = 14 ∨ s = 15:=by omega
  have ht' : t = 0 ∨ t = 1:=by omega
  rcases hs' with rfl | rfl | rfl | rfl | rfl | rfl | rfl | rfl | rfl | rfl | rfl | rfl | rfl | rfl | rfl | rfl <;> rcases ht' with rfl | rfl <;> rfl
theorem g_tapnext {Y : Ctx} (hY : Y.fn f_q04r = some a_q04r) (s t : Nat) (hs : s < 16) (ht : t < 2) : ACall Y f_q04r [AI s,AI t] h K = K (AI (nxt s t)) h []:=by
  refine rule ?_
  rw [call_val hY rfl (show puras h [AI s,AI t] = some ([AI s,AI t],h) from rfl) rfl,e_q04r]
  show d_q04r _ _ _ _ _ _ (finR [.t 4] false _ _)
  have g:=nxt_get hs ht
  simp only [d_q04r,go_sem,hs,ht,g]
abbrev Ways:=List (Int × List UInt8)
def keyP (n : Int) : PV:=.int .i64 n
def valP (s : List UInt8) : AV:=.p (.str s)
def bit1 (t : Nat) : List UInt8:=[UInt8.ofNat (48 + t)]
def visit (at_ t : Nat) (s : Ways × List Nat) : Ways × List Nat:=
  if (getM (nxt at_ t : Int) s.1).isSome then s else (updM (nxt at_ t : Int) ((getM (at_ : Int) s.1).getD [] ++ bit1 t) s.1,s.2 ++ [nxt at_ t])
def visits (at_ : Nat) : Nat → Ways × List Nat → Ways × List Nat
  | 0,s=>s
  | t + 1,s=>visit at_ t (visits at_ t s)
def popS (s : Ways × List Nat) : Ways × List Nat:=match s.2 with
  | []=>s
  | a :: r=>visits a 2 (s.1,r)
def bfs (a : Nat) : Nat → Ways × List Nat
  | 0=>([((a : Int),[])],[a])
  | k + 1=>popS (bfs a k)
def pathV (a b : Nat) : List UInt8:=(getM (b : Int) (bfs a 16).1).getD []
def fineS (s : Ways × List Nat) : Bool:=decide (s.1.length ≤ 16) && decide (s.2.length ≤ 16) && s.2.all (fun x=>decide (x < 16)) && s.1.all (fun e=>decide (e.2.length ≤ 16))
theorem bfs_all : (List.range 16).all (fun a=>(List.range 16).all (fun k=>fineS (bfs a k) && !(bfs a k).2.isEmpty) && fineS (bfs a 16) && (bfs a 16).2.isEmpty) = true:=by kernel_rfl
theorem bfs_fine {a k : Nat} (ha : a < 16) (hk : k < 16) : fineS (bfs a k) = true ∧ (bfs a k).2 ≠ []:=by
  have h1:=List.all_eq_true.1 bfs_all a (List.mem_range.2 ha)
  simp only [Bool.and_eq_true] at h1
  have h2:=List.all_eq_true.1 h1.1.1 k (List.mem_range.2 hk)
  simp only [Bool.and_eq_true,Bool.not_eq_true',List.isEmpty_eq_false_iff] at h2
  exact h2
theorem bfs_end {a : Nat} (ha : a < 16) : fineS (bfs a 16) = true ∧ (bfs a 16).2 = []:=by
  have h1:=List.all_eq_true.1 bfs_all a (List.mem_range.2 ha)
  simp only [Bool.and_eq_true,List.isEmpty_iff] at h1
  exact ⟨h1.1.2,h1.2⟩
theorem fine_inv {s : Ways × List Nat} (hf : fineS s = true) : s.1.length ≤ 16 ∧ s.2.length ≤ 16 ∧ (∀ x ∈ s.2,x < 16) ∧ ∀ e ∈ s.1,e.2.length ≤ 16:=by
  unfold fineS at hf
  simp only [Bool.and_eq_true,decide_eq_true_eq,List.all_eq_true] at hf
  exact ⟨hf.1.1.1,hf.1.1.2,hf.1.2,hf.2⟩
theorem lookP {hp : Heap} {id : Nat} {m : Ways} {b : Int} (hh : hp[id]? = some (mobj keyP valP m)) : oLook (none,[0]) false (.p (.str [])) (.mp id) (AI b) hp = some (.p (.str ((getM b m).getD []))):=by
  have:=look_mes (key:=keyP) (val:=valP) (fun a b=>keyI_int a b) hh (kk:=(none,[0])) (k:=b) keyOf_int (ok:=false) (z:=.p (.str []))
  rw [cond_false] at this
  refine this.trans ?_
  cases getM b m <;> rfl
theorem lookQ {hp : Heap} {id : Nat} {m : Ways} {b : Int} (hh : hp[id]? = some (mobj keyP valP m)) : oLook (none,[0]) true (.p (.str [])) (.mp id) (AI b) hp = some (.tup [.p (.str ((getM b m).getD [])),AB (getM b m).isSome]):=by
  have:=look_mes (key:=keyP) (val:=valP) (fun a b=>keyI_int a b) hh (kk:=(none,[0])) (k:=b) keyOf_int (ok:=true) (z:=.p (.str []))
  rw [cond_true] at this
  refine this.trans ?_
  cases getM b m <;> rfl
theorem updP {hp : Heap} {id : Nat} {m : Ways} {b : Int} {v : List UInt8} (hh : hp[id]? = some (mobj keyP valP m)) : oMupd (none,[0]) (.mp id) (AI b) (.p (.str v)) hp = some (.und,hp.set id (mobj keyP valP (updM b v m)),[]):=
  mupd_mes (key:=keyP) (val:=valP) (fun a b=>keyI_int a b) hh (kk:=(none,[0])) (k:=b) keyOf_int (v:=v) rfl
structure Que (R : Heap) (i : Nat) (xs : List Nat) (off : Nat) (q : List Nat) : Prop where
  get : R[i]? = some (.row none (xs.map fun n : Nat=>eI n) 0)
  le : off ≤ xs.length
  eq : xs.drop off = q
theorem nq_one {hp : Heap} {id : Nat} {xs : List Nat} {off : Nat} {n : Int} {k : AV → Heap → Esc → Prop} (hh : hp[id]? = some (.row none (xs.map fun n : Nat=>eI n) 0)) (ho : off ≤ xs.length) (hm : xs.length ≤ 1000000)
    (k1 : k (.own id (xs.length + 1) off (xs.length - off + 1)) (hp.set id (.row none (xs.map (fun n : Nat=>eI n) ++ [eI n]) 0)) [])
    (k2 : k (.own hp.length (xs.length - off + 1) 0 (xs.length - off + 1)) (hp ++ [.row none ((xs.drop off).map (fun n : Nat=>eI n) ++ [eI n]) 0]) []) :
    nqK (some none) [.own id xs.length off (xs.length - off),.p (.sl none [eI n])] hp k:=by
  have hx : xs.length - off + 1 ≤ maxSl:=by unfold maxSl; omega
  have hr : rds hp (.p (.sl none [eI n])) = some (none,[eI n]):=rfl
  have hw : win (xs.map fun n : Nat=>eI n) off (xs.length - off) = (xs.drop off).map fun n : Nat=>eI n:=by
    unfold win
    rw [← List.map_drop]
    exact List.take_of_length_le (by simp)
  unfold nqK choices appq
  simp only [hr,if_true,hh,List.length_map,List.length_cons,List.length_nil,Nat.zero_add]
  rw [if_pos ⟨trivial,trivial,by omega,hx⟩,hw]
  refine ⟨by simp,fun y hy=>?_⟩
  simp only [List.mem_cons,List.not_mem_nil,or_false] at hy
  rcases hy with rfl | rfl
  · exact k1
  · exact k2
theorem mem_updM {α β : Type} [DecidableEq α] {k : α} {v : β} : ∀ {l : List (α × β)} {e : α × β},e ∈ updM k v l → e ∈ l ∨ e = (k,v)
  | [],e,h=>by simp [updM] at h; exact .inr h
  | x :: r,e,h=>by
    unfold updM at h
    split at h
    · rcases List.mem_cons.1 h with h | h
      · exact .inr h
      · exact .inl (List.mem_cons_of_mem _ h)
    · rcases List.mem_cons.1 h with h | h
      · exact .inl (h ▸ List.mem_cons_self)
      · rcases mem_updM h with h | h
        · exact .inl (List.mem_cons_of_mem _ h)
        · exact .inr h
theorem getM_mem {α β : Type} [DecidableEq α] {k : α} {v : β} : ∀ {l : List (α × β)},getM k l = some v → (k,v) ∈ l
  | [],h=>by cases h
  | x :: r,h=>by
    unfold getM at h
    split at h
    · rename_i he; cases h; subst he; simp
    · exact List.mem_cons_of_mem _ (getM_mem h)
theorem ways_len {n : Nat} {w : Ways} (hw : ∀ e ∈ w,e.2.length ≤ n) (k : Int) : ((getM k w).getD []).length ≤ n:=by
  cases hg : getM k w with
  | none=>simp
  | some v=>exact hw _ (getM_mem hg)
theorem visit_len {n at_ t : Nat} {s : Ways × List Nat} (hw : ∀ e ∈ s.1,e.2.length ≤ n) : ∀ e ∈ (visit at_ t s).1,e.2.length ≤ n + 1:=by
  unfold visit
  split
  · intro e he; have:=hw e he; omega
  · intro e he
    rcases mem_updM he with h | h
    · have:=hw e h; omega
    · subst h
      have:=ways_len hw (at_ : Int)
      simp [bit1]; omega
theorem visits_len {n at_ : Nat} {s : Ways × List Nat} (hw : ∀ e ∈ s.1,e.2.length ≤ n) : ∀ (t : Nat),∀ e ∈ (visits at_ t s).1,e.2.length ≤ n + t
  | 0=>hw
  | t + 1=>visit_len (visits_len hw t)
set_option maxHeartbeats 1000000 in
theorem g_path {Y : Ctx} (hY1 : Y.fn f_q04s = some a_q04s) (hY2 : Y.fn f_q04r = some a_q04r) (a b : Nat) (ha : a < 16) (hb : b < 16) : ACall Y f_q04s [AI a,AI b] h K = K (.p (.str (pathV a b))) h []:=by
  refine rule ?_
  rw [call_val_det hY1 rfl (show puras h [AI a,AI b] = some ([AI a,AI b],h) from rfl) rfl]
  simp only [e_q04s]
  show ∃ v h' x,_ ∧ d_q04s _ _ _ _ _ _ _ _ (finR [.t 4] false _ _)
  simp only [d_q04s]
  refine ⟨_,_,_,⟨rfl,rfl,rfl⟩,?_⟩
  have em : mobj keyP valP [((a : Int),([] : List UInt8))] = .amap [⟨.int .i64 a,.p (.str []),0⟩] 1:=rfl
  have u0:=fun (hp : Heap) (hh : hp[h.length]? = some (mobj keyP valP []))=>updP (b:=(a : Int)) (v:=[]) hh
  have e0 : updM (a : Int) [] ([] : Ways) = [((a : Int),[])]:=rfl
  have em0 : mobj keyP valP ([] : Ways) = .amap [] 0:=rfl
  rw [e0] at u0
  simp only [em0] at u0
  simp only [go_sem,u0]
  refine N_loop (fun t : Nat × Heap × Nat × List Nat × Nat × Option Nat=>⟨[(1,AI b),(5,.mp h.length),(6,.own (h.length + (t.2.2.1 + 1)) t.2.2.2.1.length t.2.2.2.2.1 (t.2.2.2.1.length - t.2.2.2.2.1))] ++ (match t.2.2.2.2.2 with | none=>[] | some q=>[(7,AI q),(25,AI 2),(26,AB false)]),h ++ mobj keyP valP (bfs a t.1).1 :: t.2.1,[]⟩)
    (fun t=>t.1 ≤ 16 ∧ Que t.2.1 t.2.2.1 t.2.2.2.1 t.2.2.2.2.1 (bfs a t.1).2 ∧ t.2.2.2.1.length ≤ 1 + 2 * t.1) (fun t=>16 - t.1) (0,[.row none [eI a] 0],0,[a],0,none) (by simp [bfs]) ⟨by simp,⟨rfl,by simp,rfl⟩,by simp⟩ ?_
  rintro ⟨k,R,i,xs,off,oq⟩ ⟨h1,hq,h2⟩
  dsimp only at h1 hq h2 ⊢
  have hqg:=hq.get
  have hle:=hq.le
  have heq:=hq.eq
  have hln : xs.length - off = (bfs a k).2.length:=by rw [← heq]; simp
  by_cases hk : k < 16
  · obtain ⟨hf, hne⟩ := bfs_fine ha hk
    obtain ⟨f1,f2,f3,f4⟩:=fine_inv hf
    have hpos : 0 < xs.length - off:=by rw [hln]; exact List.length_pos_iff.2 hne
    have hoff : off < xs.length:=by omega
    obtain ⟨q0,qr,hqe⟩ : ∃ q0 qr,(bfs a k).2 = q0 :: qr:=by
      cases hb2 : (bfs a k).2 with
      | nil=>exact absurd hb2 hne
      | cons x y=>exact ⟨x,y,rfl⟩
    have hx0 : xs[off]? = some q0:=by
      have : (xs.drop off)[0]? = some q0:=by rw [heq,hqe]; rfl
      rwa [List.getElem?_drop,Nat.add_zero] at this
    have hdr : xs.drop (off + 1) = qr:=by
      rw [← List.drop_drop,heq,hqe]; rfl
    have hq0 : q0 < 16:=f3 q0 (by rw [hqe]; simp)
    have hgq : (xs.map fun n : Nat=>eI n)[off]? = some (eI q0):=by rw [List.getElem?_map,hx0]; rfl
    have hpi : (0 : Int) < ((xs.length - off : Nat) : Int):=by omega
    have hl1 : 1 ≤ xs.length - off:=by omega
    have hbn : bfs a (k + 1) = visits q0 2 ((bfs a k).1,qr):=by show popS _ = _; unfold popS; rw [hqe]
    have e3 : xs.length - off - 1 = xs.length - (off + 1):=by omega
    have hcond : off + (xs.length - off) ≤ xs.length:=by omega
    have hNL : ∀ (e : List (Nat × AV)),prune (some [1,5,6,7,25]) e = prune (some [1,5,6,7,25]) e:=fun _=>rfl
    rcases oq with _ | oq
    all_goals
    simp only [List.append_nil,List.cons_append,List.nil_append,go_sem,List.getElem?_cons_succ,hqg,hpi,hpos,hgq,hl1,hcond]
    all_goals
    clear u0 em em0 e0
    generalize hw0 : ((bfs a k).1,qr) = s0 at *
    have es1 : (bfs a k).1 = s0.1:=by rw [← hw0]
    have es2 : qr = s0.2:=by rw [← hw0]
    rw [es1,e3]
    refine N_loop (fun t : Nat × Heap × Nat × List Nat × Nat=>⟨[(1,AI b),(5,.mp h.length),(6,.own (h.length + (t.2.2.1 + 1)) t.2.2.2.1.length t.2.2.2.2 (t.2.2.2.1.length - t.2.2.2.2)),(7,AI q0),(25,AI t.1)],h ++ mobj keyP valP (visits q0 t.1 s0).1 :: t.2.1,[]⟩)
      (fun t=>t.1 ≤ 2 ∧ Que t.2.1 t.2.2.1 t.2.2.2.1 t.2.2.2.2 (visits q0 t.1 s0).2 ∧ t.2.2.2.1.length ≤ 1 + 2 * k + t.1) (fun t=>2 - t.1) (0,R,i,xs,off + 1) rfl ⟨by simp,⟨hqg,hoff,by rw [hdr,es2]; rfl⟩,by simp; omega⟩ ?_
    rintro ⟨j,R',i',ys,of'⟩ ⟨j1,jq,j2⟩
    dsimp only at j1 jq j2 ⊢
    have jg:=jq.get
    have jle:=jq.le
    have jeq:=jq.eq
    by_cases hj : j < 2
    · have hji : (j : Int) < 2 := by omega
      have qn:=fun h K=>g_tapnext (h:=h) (K:=K) hY2 q0 j hq0 hj
      have hvis : visits q0 (j + 1) s0 = visit q0 j (visits q0 j s0):=rfl
      generalize hsj : visits q0 j s0 = s at *
      have lq:=fun (hp : Heap) (hh : hp[h.length]? = some (mobj keyP valP s.1))=>lookQ (b:=(nxt q0 j : Int)) hh
      have lp:=fun (hp : Heap) (hh : hp[h.length]? = some (mobj keyP valP s.1))=>lookP (b:=(q0 : Int)) hh
      have up:=fun (hp : Heap) (v : List UInt8) (hh : hp[h.length]? = some (mobj keyP valP s.1))=>updP (b:=(nxt q0 j : Int)) (v:=v) hh
      have w1 : IntKind.i64.wrap ((j : Int) + 1) = ((j + 1 : Nat) : Int):=i64_wrap _ (by omega) (by omega)
      cases hs : (getM (nxt q0 j : Int) s.1).isSome with
      | true=>
        have hv : visit q0 j s = s:=by unfold visit; rw [if_pos hs]
        rw [hv] at hvis
        simp only [go_sem,hji,↓qn,qn,lq,hs,w1]
        exact ⟨(j + 1,R',i',ys,of'),by dsimp only; rw [hvis],⟨by dsimp only; omega,by dsimp only; rw [hvis]; exact jq,by dsimp only; omega⟩,by dsimp only; omega⟩
      | false=>
        have hv : visit q0 j s = (updM (nxt q0 j : Int) ((getM (q0 : Int) s.1).getD [] ++ bit1 j) s.1,s.2 ++ [nxt q0 j]):=by unfold visit; rw [hs]; rfl
        rw [hv] at hvis
        have w2 : IntKind.i64.wrap (48 + (j : Int)) = ((48 + j : Nat) : Int):=i64_wrap _ (by omega) (by omega)
        have w3 : IntKind.i32.wrap ((48 + j : Nat) : Int) = ((48 + j : Nat) : Int):=by
          have : j = 0 ∨ j = 1:=by omega
          rcases this with rfl | rfl <;> rfl
        have w4 : (0 : Int) ≤ ((48 + j : Nat) : Int) ∧ ((48 + j : Nat) : Int) < 128:=by omega
        have hln2:=ways_len (visits_len (n:=16) (at_:=q0) (s:=s0) (by rw [← es1]; exact f4) j) (q0 : Int)
        rw [hsj] at hln2
        have w5 : ((getM (q0 : Int) s.1).getD []).length + (bit1 j).length ≤ maxStr:=by have : (bit1 j).length = 1:=rfl; unfold maxStr; omega
        have w6 : [UInt8.ofNat ((48 + j : Nat) : Int).toNat] = bit1 j:=rfl
        simp only [go_sem,hji,↓qn,qn,lq,hs,lp,up,w1,w2,w3,w4,w5,w6]
        have hh1 : (h ++ mobj keyP valP (updM (nxt q0 j : Int) ((getM (q0 : Int) s.1).getD [] ++ bit1 j) s.1) :: R')[h.length + (i' + 1)]? = some (.row none (ys.map fun n : Nat=>eI n) 0):=by
          rw [List.getElem?_append_right (by omega)]; simpa using jg
        have hi' : i' < R'.length:=lt_of_get jg
        refine nq_one hh1 jle (by omega) ?_ ?_
        · refine ⟨(j + 1, R'.set i' (.row none (ys.map (fun n : Nat => eI n) ++ [eI (nxt q0 j)]) 0), i', ys ++ [nxt q0 j], of'), ?_, ⟨by dsimp only; omega, ⟨?_, ?_, ?_⟩, ?_⟩, by dsimp only; omega⟩
          · dsimp only
            rw [hvis,List.set_append_right _ _ (by omega)]
            simp only [List.length_append,List.length_cons,List.length_nil,Nat.add_sub_cancel_left,List.set_cons_succ]
            rw [show ys.length + 1 - of' = ys.length - of' + 1 by omega]
          · dsimp only
            rw [List.getElem?_set_self hi']; simp
          · simp; omega
          · dsimp only
            rw [hvis,List.drop_append_of_le_length jle,jeq]
          · simp; omega
        · refine ⟨(j + 1, R' ++ [.row none ((ys.drop of').map (fun n : Nat => eI n) ++ [eI (nxt q0 j)]) 0], R'.length, ys.drop of' ++ [nxt q0 j], 0), ?_, ⟨by dsimp only; omega, ⟨?_, ?_, ?_⟩, ?_⟩, by dsimp only; omega⟩
          · dsimp only
            rw [hvis]
            simp
          · simp
          · simp
          · dsimp only
            rw [hvis,jeq,List.drop_zero]
          · simp; omega
    · have hj2 : j = 2 := by omega
      subst hj2
      simp only [go_sem]
      refine ⟨(k + 1,R',i',ys,of',some q0),?_,⟨by dsimp only; omega,by dsimp only; rw [hbn]; exact jq,by dsimp only; omega⟩,by dsimp only; omega⟩
      dsimp only
      rw [hbn]
  · have hk16 : k = 16 := by omega
    subst hk16
    obtain ⟨_,hne⟩:=bfs_end ha
    have hz : xs.length - off = 0:=by rw [hln,hne]; rfl
    have lk:=fun (hp : Heap) (hh : hp[h.length]? = some (mobj keyP valP (bfs a 16).1))=>lookP (b:=(b : Int)) hh
    have hpv : (getM (b : Int) (bfs a 16).1).getD [] = pathV a b:=rfl
    rcases oq with _ | oq <;> simp only [List.append_nil,List.cons_append,List.nil_append,go_sem,hz,lk,hpv]
end Go.Am
end
section
/- ready: a closed call,computed. -/
open Go
set_option linter.all false
namespace Go.Am
def orcP (f : Nat) (a : List AV) : Option AV:=bif Nat.beq f f_q04s then match a with
  | [.p (.int .i64 x),.p (.int .i64 y)]=>bif decide (0 ≤ x) && decide (x < 16) && decide (0 ≤ y) && decide (y < 16) then some (.p (.str (pathV x.toNat y.toNat))) else none
  | _=>none else none
theorem orcP_ok : ∀ f a v,orcP f a = some v → ∀ h (K : Post),K v h [] → ACall X0 f a h K:=by
  intro f a v hv h K hK
  unfold orcP at hv
  cases hf : Nat.beq f f_q04s with
  | false=>rw [hf] at hv; cases hv
  | true=>
    have hf':=Nat.eq_of_beq_eq_true hf
    rw [hf] at hv
    subst hf'
    simp only [cond_true] at hv
    split at hv
    · rename_i x y
      cases hc : (decide (0 ≤ x) && decide (x < 16) && decide (0 ≤ y) && decide (y < 16)) with
      | false=>rw [hc] at hv; cases hv
      | true=>
        rw [hc] at hv
        simp only [cond_true,Option.some.injEq] at hv
        simp only [Bool.and_eq_true,decide_eq_true_eq] at hc
        obtain ⟨a,rfl⟩:=Int.eq_ofNat_of_zero_le hc.1.1.1
        obtain ⟨b,rfl⟩:=Int.eq_ofNat_of_zero_le hc.1.2
        have:=g_path (h:=h) (K:=K) x0_tap_path x0_tap_next a b (by omega) (by omega)
        rw [this]
        subst hv
        exact hK
    · cases hv
theorem ready_ev : evCallO X0 orcP 1000 60 f_q01v [] [] = some (AB true,[],[]):=by kernel_rfl
theorem ready_true : ACall X0 f_q01v [] [] fun v h x=>v = AB true ∧ h = [] ∧ x = []:=(ACall_evO orcP_ok 1000 60 ready_ev _).2 ⟨rfl,rfl,rfl⟩
theorem s_ready {h : Heap} {K : Post} : ACall X f_q01v [] h K = K (AB true) h []:=lib_call (by kernel_rfl) rfl
end Go.Am
end
section
/- What all laws of the keep package use. -/
open Go
set_option linter.all false
namespace Go.Am
variable {h : Heap} {K : Post}
theorem s_errsK (l : List Int) (hl : l.length ≤ 1000) : ACall X f_q01u [AL l] h K = K (AI (firstErr l)) h []:=by
  refine rule ?_
  rw [c_q01u rfl]
  simp only [d_q01u,go_sem]
  refine N_loop (fun k : Nat=>⟨[(5,AL l),(6,AI l.length),(7,AI k)],h,[]⟩) (fun k=>k ≤ l.length ∧ firstErr (l.drop k) = firstErr l) (fun k=>l.length - k) 0 rfl (by simp) ?_
  rintro k ⟨hk,hp⟩
  rcases Nat.lt_or_ge k l.length with hlt | hge
  · have hg := map_get eI hlt
    have w2 : IntKind.i64.wrap ((k : Int) + 1) = ((k + 1 : Nat) : Int):=i64_wrap _ (by omega) (by omega)
    rw [List.drop_eq_getElem_cons hlt,firstErr] at hp
    by_cases he : l[k] = 0
    · rw [if_pos he] at hp
      simp only [go_sem,hlt,hg,w2,he]
      exact ⟨k + 1,rfl,⟨by omega,hp⟩,by omega⟩
    · rw [if_neg he] at hp
      simp only [go_sem,hlt,hg,w2,he]
      rw [hp]
  · have e1 : k = l.length := by omega
    subst e1
    simp only [go_sem,Nat.lt_irrefl]
    rw [List.drop_length] at hp
    rw [← hp]; rfl
end Go.Am
end
section
/- ShortsAreAlike returns true. -/
open Go
set_option linter.all false
namespace Go.Am
variable {h : Heap} {K : Post}
theorem combT_eq {t : List (List UInt8)} {lg : Nat} {f : Flt} (e : (t.headD []).length = lg) (hf : NetsIn f.nets t.length) : combT t [f] = (List.range t.length).map fun i=>textN lg (resp (t.map rowN) (2 ^ lg - 1) f i):=by
  unfold combT
  rw [e]
  apply List.ext_getElem?
  intro i
  rw [List.getElem?_map,List.getElem?_map]
  show Option.map (textN lg) (fwithN (t.map rowN) f (2 ^ lg - 1))[i]? = _
  unfold fwithN
  rw [setNs_get _ _ _ _ (fun n hn=>(hf.2.2 n hn).1),List.length_map]
  by_cases hi : i < t.length
  · rw [List.getElem?_range hi, Option.map_some]
    unfold resp
    by_cases hm : (i : Int) ∈ f.nets
    · rw [if_pos ⟨hm,hi⟩,if_pos hm]; rfl
    · rw [if_neg (fun q=>hm q.1),if_neg hm,List.getElem?_eq_getElem (by simpa using hi),List.getD_eq_getElem?_getD,List.getElem?_eq_getElem (by simpa using hi)]; rfl
  · rw [if_neg (fun q=>hi q.2),List.getElem?_eq_none (by simpa using hi),List.getElem?_eq_none (by simpa using hi)]; rfl
end Go.Am
end
section
/- FaultsAreOnes returns true. -/
open Go
set_option linter.all false
namespace Go.Am
variable {h : Heap} {K : Post}
theorem rows_text {t : List (List UInt8)} {lg : Nat} (T : TestOk t lg) : (t.map rowN).map (textN lg) = t:=by
  rw [List.map_map]
  conv=>rhs; rw [← List.map_id t]
  apply List.map_congr_left
  intro s hs
  show textN lg (rowN s) = s
  rw [← T.e s hs]
  exact textN_row (T.b s hs)
theorem text_inj {lg : Nat} : ∀ {a b : List Nat},(∀ x ∈ a,x < 2 ^ lg) → (∀ x ∈ b,x < 2 ^ lg) → a.map (textN lg) = b.map (textN lg) → a = b
  | [],[],_,_,_=>rfl
  | [],_ :: _,_,_,h=>by simp at h
  | _ :: _,[],_,_,h=>by simp at h
  | x :: a,y :: b,ha,hb,h=>by
    rw [List.map_cons,List.map_cons,List.cons.injEq] at h
    have e:=congrArg rowN h.1
    rw [rowN_text (ha x (by simp)),rowN_text (hb y (by simp))] at e
    rw [e,text_inj (fun z hz=>ha z (by simp [hz])) (fun z hz=>hb z (by simp [hz])) h.2]
theorem comb_same {t : List (List UInt8)} {lg : Nat} {f : Flt} (T : TestOk t lg) (e : (t.headD []).length = lg) : combT t [f] = t ↔ detT t f = 0:=by
  have r0:=rows_lt T
  have hl : (fwithN (t.map rowN) f (2 ^ lg - 1)).length = (t.map rowN).length:=fwithN_len _ _ _
  unfold detT detN
  rw [e,dtK_zero hl]
  unfold combT
  rw [e]
  show (fwithN (t.map rowN) f (2 ^ lg - 1)).map (textN lg) = t ↔ _
  constructor
  · intro h
    exact text_inj (fwithN_lt r0 (ones_lt lg)) r0 (h.trans (rows_text T).symm)
  · intro h
    rw [h,rows_text T]
theorem comb_twice {t : List (List UInt8)} {lg : Nat} {f : Flt} (e : (t.headD []).length = lg) (hf : NetsIn f.nets t.length) : combT t [f,f] = combT t [f]:=by
  unfold combT
  rw [e]
  show (fwithN (fwithN (t.map rowN) f (2 ^ lg - 1)) f (2 ^ lg - 1)).map (textN lg) = (fwithN (t.map rowN) f (2 ^ lg - 1)).map (textN lg)
  rw [fwith_again hf.1 (by rw [List.length_map]; exact hf.2.2)]
theorem resp_before {t : List (List UInt8)} {lg : Nat} {f : Flt} (T : TestOk t lg) (e : (t.headD []).length = lg) (hf : NetsIn f.nets t.length) (h0 : detT t f ≠ 0) {k : Nat} (hk : k < t.length) (v : Nat) (hv : v < ctzN (detT t f)) :
    (resp (t.map rowN) (2 ^ lg - 1) f k).testBit v = (rowN t[k]).testBit v:=by
  have r0:=rows_lt T
  have hd : detT t f < 18446744073709551616:=by unfold detT; rw [e]; exact Nat.lt_of_lt_of_le (detN_lt r0) (le64 T.l)
  have hb:=(ctzN_spec h0 hd).2.2 v hv
  have hr : (t.map rowN).getD k 0 = rowN t[k]:=by simp [List.getD_eq_getElem?_getD,List.getElem?_eq_getElem hk]
  have hq : (fwithN (t.map rowN) f (2 ^ lg - 1)).getD k 0 = resp (t.map rowN) (2 ^ lg - 1) f k:=by
    unfold fwithN resp
    rw [List.getD_eq_getElem?_getD,setNs_get _ _ _ _ (fun n hn=>(hf.2.2 n hn).1),List.length_map]
    by_cases hm : (k : Int) ∈ f.nets
    · rw [if_pos ⟨hm,hk⟩,if_pos hm]; rfl
    · rw [if_neg (fun q=>hm q.1),if_neg hm,List.getD_eq_getElem?_getD]
  apply Decidable.byContradiction
  intro hne
  have : (detT t f).testBit v = true:=by
    unfold detT detN
    rw [e,dtK_bit,List.length_map]
    exact ⟨k,hk,by rw [hq,hr]; exact hne⟩
  rw [hb] at this
  cases this
set_option maxHeartbeats 4000000 in
theorem law_FO (L : List Int) {K : Post} : ACall X f_q01s [AL L] [] K = K (AB true) [] []:=by
  refine rule ?_
  rw [c_q01s rfl]
  have p0 : posN 2000 0:=by unfold posN; omega
  obtain ⟨_,a2,⟨c1,c2,t,ts,tz,tl,rfl⟩,V⟩:=(g_RightTest (L:=L) (a:=0) p0).hd (l:=[])
  have T:=testF_ok tz
  obtain ⟨lg,hlg⟩ : ∃ n,(t.headD []).length = n:=⟨_,rfl⟩
  rw [hlg] at T
  have hp2 : posN 3000 a2:=by unfold posN; omega
  obtain ⟨_,a3,⟨d1,d2,f,sf,rfl⟩,V2⟩:=(g_AFault (L:=L) (a:=a2) t.length T.n1 hp2).hd (l:=[])
  have hb : ∀ s ∈ t,s.length ≤ 1000000:=fun s hs=>by have:=ts.2 s hs; omega
  have ht : t.length ≤ 1000000:=by have:=ts.1; omega
  have hfl : f.nets.length ≤ 1000000:=by have:=sf.1; omega
  have RS:=fun h K=>s_Response (h:=h) (K:=K) t f hb ht hfl
  have FF:=fun h K=>s_FaultFault (h:=h) (K:=K) t.length f (by omega) hfl
  simp only [Flt.pv] at V2 RS FF
  by_cases hF : fltF t.length f = 0
  case neg=>
    have ha : allF t [f] = fltF t.length f:=by unfold allF; rw [if_neg (by simp [tz])]; simp [fltsF,hF]
    have hv : combV t [f] = .tup [.p (.sl none []),AI (fltF t.length f)]:=by unfold combV; rw [ha,if_pos hF]
    rw [hv] at RS
    simp only [d_q01s,go_sem,V,V2,RS,FF,hF,s_ready]
  have hni:=fltF_in hF
  have ha : allF t [f] = 0:=by unfold allF; rw [if_neg (by simp [tz])]; simp [fltsF,hF]
  have ha2 : allF t [f,f] = 0:=by unfold allF; rw [if_neg (by simp [tz])]; simp [fltsF,hF]
  have hv : combV t [f] = .tup [AStr (combT t [f]),AI 0]:=by unfold combV; rw [if_neg (by simp [ha])]
  have hv2 : combV t [f,f] = .tup [AStr (combT t [f]),AI 0]:=by unfold combV; rw [if_neg (by simp [ha2]),comb_twice hlg hni]
  have CB:=fun h K=>s_Combined (h:=h) (K:=K) t [f,f] hb ht (fun g hg=>by simp at hg; rw [hg]; exact hfl) (by simp)
  have DT:=fun h K=>s_Detects (h:=h) (K:=K) t f hb ht hfl
  have FI:=fun h K=>s_First (h:=h) (K:=K) t f hb ht hfl
  have n0 : ¬ allF t [f] ≠ 0:=by simp [ha]
  simp only [if_neg n0] at DT FI
  rw [hv] at RS
  rw [hv2] at CB
  have hcl : (combT t [f]).length = t.length:=by unfold combT; rw [List.length_map,foldN_len,List.length_map]
  have E1:=fun h K=>s_EqualS (h:=h) (K:=K) (combT t [f]) (combT t [f]) (by omega)
  have E2:=fun h K=>s_EqualS (h:=h) (K:=K) (combT t [f]) t (by omega)
  have hse : decide (combT t [f] = t) = decide (detT t f = 0):=decide_eq_decide.2 (comb_same T hlg)
  rw [hse] at E2
  have hce:=combT_eq hlg hni
  simp only [AFlt,List.map_cons,List.map_nil,Flt.pv] at CB DT FI
  have ke:=fun h K=>s_errsK (h:=h) (K:=K) [0,0,0] (by simp)
  simp only [AL,List.map_cons,List.map_nil] at ke
  have k0 : firstErr [0,0,0] = 0:=rfl
  rw [k0] at ke
  have hz : PV.shp (some 2) (.agg [.int .i64 0,.sl none []]) = true:=rfl
  have hz2 : PV.shp (some 2) (.agg [eI f.kind,.sl none (f.nets.map eI)]) = true:=rfl
  by_cases h0 : detT t f = 0
  · simp only [h0, if_true] at FI
    simp only [d_q01s,go_sem,V,V2,RS,CB,DT,FI,ke,hz,hz2,E1,E2,hcl,h0]
    have rg : ∀ i,i < t.length → ((combT t [f]).map PV.str)[i]? = some (.str (textN lg (resp (t.map rowN) (2 ^ lg - 1) f i))):=fun i hi=>by
      rw [hce,List.getElem?_map,List.getElem?_map,List.getElem?_range hi]; rfl
    refine N_loop (fun k : Nat=>⟨[(4,AStr t),(5,.ref 1 0),(6,AStr (combT t [f])),(12,AI 0),(13,AB false),(95,AI t.length),(96,AI k)],[strm L a3,.box [AI f.kind,AL f.nets]],[]⟩) (fun k=>k ≤ t.length) (fun k=>t.length - k) 0 rfl (by omega) ?_
    intro k hk
    rcases Nat.lt_or_ge k t.length with hlt | hge
    · have w2 : IntKind.i64.wrap ((k : Int) + 1) = ((k + 1 : Nat) : Int) := i64_wrap _ (by omega) (by omega)
      have gt:=map_get PV.str hlt
      have gr:=rg k hlt
      have te:=T.e _ (List.getElem_mem hlt)
      have CO:=fun h K=>s_ContainsI (h:=h) (K:=K) f.nets k hfl
      have tk:=rows_text T
      have hres : f.nets.contains (k : Int) = false → textN lg (resp (t.map rowN) (2 ^ lg - 1) f k) = t[k]:=by
        intro hc
        have hc' : ¬ (k : Int) ∈ f.nets:=fun hm=>by rw [List.contains_iff_mem.2 hm] at hc; cases hc
        unfold resp
        rw [if_neg hc']
        have : (t.map rowN).getD k 0 = rowN t[k]:=by simp [List.getD_eq_getElem?_getD,List.getElem?_eq_getElem hlt]
        rw [this,← te]
        exact textN_row (T.b _ (List.getElem_mem hlt))
      cases hc : f.nets.contains (k : Int) with
      | true=>
        simp only [go_sem,hlt,gt,gr,te,textN_len,CO,hc,w2]
        exact ⟨k + 1,rfl,by omega,by omega⟩
      | false=>
        have e1:=hres hc
        rw [e1] at gr
        simp only [go_sem,hlt,gt,gr,te,CO,hc,w2]
        exact ⟨k + 1,rfl,by omega,by omega⟩
    · have hge' : ¬ k < t.length := by omega
      simp only [go_sem,hge',s_ready]
  · simp only [h0, if_false] at FI
    simp only [d_q01s,go_sem,V,V2,RS,CB,DT,FI,ke,hz,hz2,E1,E2,hcl,h0]
    have rg : ∀ i,i < t.length → ((combT t [f]).map PV.str)[i]? = some (.str (textN lg (resp (t.map rowN) (2 ^ lg - 1) f i))):=fun i hi=>by
      rw [hce,List.getElem?_map,List.getElem?_map,List.getElem?_range hi]; rfl
    refine N_loop (fun k : Nat=>⟨[(4,AStr t),(5,.ref 1 0),(6,AStr (combT t [f])),(12,AI (ctzN (detT t f) : Nat)),(13,AB true),(95,AI t.length),(96,AI k)],[strm L a3,.box [AI f.kind,AL f.nets]],[]⟩) (fun k=>k ≤ t.length) (fun k=>t.length - k) 0 rfl (by omega) ?_
    intro k hk
    rcases Nat.lt_or_ge k t.length with hlt | hge
    · have w2 : IntKind.i64.wrap ((k : Int) + 1) = ((k + 1 : Nat) : Int) := i64_wrap _ (by omega) (by omega)
      have gt:=map_get PV.str hlt
      have gr:=rg k hlt
      have te:=T.e _ (List.getElem_mem hlt)
      have CO:=fun h K=>s_ContainsI (h:=h) (K:=K) f.nets k hfl
      have tk:=rows_text T
      have hres : f.nets.contains (k : Int) = false → textN lg (resp (t.map rowN) (2 ^ lg - 1) f k) = t[k]:=by
        intro hc
        have hc' : ¬ (k : Int) ∈ f.nets:=fun hm=>by rw [List.contains_iff_mem.2 hm] at hc; cases hc
        unfold resp
        rw [if_neg hc']
        have : (t.map rowN).getD k 0 = rowN t[k]:=by simp [List.getD_eq_getElem?_getD,List.getElem?_eq_getElem hlt]
        rw [this,← te]
        exact textN_row (T.b _ (List.getElem_mem hlt))
      have hmin : min ((ctzN (detT t f) : Nat) : Int) (lg : Int) = ((min (ctzN (detT t f)) lg : Nat) : Int):=by omega
      have hml : min (ctzN (detT t f)) lg ≤ lg:=Nat.min_le_right _ _
      have hpre : win (textN lg (resp (t.map rowN) (2 ^ lg - 1) f k)) 0 (min (ctzN (detT t f)) lg) = win t[k] 0 (min (ctzN (detT t f)) lg):=by
        have e2 : t[k] = textN lg (rowN t[k]):=by conv=>lhs; rw [← textN_row (T.b _ (List.getElem_mem hlt)),te]
        rw [e2,win_pre,win_pre]
        apply List.ext_getElem?
        intro v
        rw [List.getElem?_take,List.getElem?_take]
        by_cases hv : v < min (ctzN (detT t f)) lg
        · rw [if_pos hv,if_pos hv,textN_get (by omega),textN_get (by omega),resp_before T hlg hni h0 hlt v (by omega)]
        · rw [if_neg hv,if_neg hv]
      cases hc : f.nets.contains (k : Int) with
      | true=>
        simp only [go_sem,hlt,gt,gr,te,textN_len,CO,hc,w2,hmin,hml,hpre]
        exact ⟨k + 1,rfl,by omega,by omega⟩
      | false=>
        have e1:=hres hc
        rw [e1] at gr
        simp only [go_sem,hlt,gt,gr,te,CO,hc,w2,hmin,hml,hpre]
        exact ⟨k + 1,rfl,by omega,by omega⟩
    · have hge' : ¬ k < t.length := by omega
      simp only [go_sem,hge',s_ready]
end Go.Am
end
section
/- From a law that is true here to the model's calls at what came in. -/
open Go
namespace Go.Am
variable {P : Program}
theorem law_nil {X : Ctx} (HX : Fits P X) {f : Nat} {F : AFun} (hF : X.fn f = some F) (H : ∀ L : List Int,ACall X f [pints L] [] fun v _ _=>v = .p (.bool true)) (W : World) (hG : GInv X.gl (imm [] [] W)) :
    Calls P f #[.slice none 0 0] W fun e W'=>e = .returned (.bool true) ∧ RowKit.Below W.heap.size W W':=by
  refine (calls_of HX hF (H []) (W:=W) (vs:=[.slice none 0 0]) hG rfl (fun j y v hy hv=>?_)).mono fun e W' he=>?_
  · cases j with
    | zero=>cases hy; cases hv; exact came_nil W
    | succ j=>cases hy
  · cases e with
    | returned r=>
      obtain ⟨⟨v,h,x,μ,hk,hr⟩,hb⟩:=he
      subst hk
      exact ⟨by rw [hr.p_bool],hb⟩
    | panicked _=>exact he.elim
    | outgrown=>exact he.elim
theorem law_ints {X : Ctx} (HX : Fits P X) {f : Nat} {F : AFun} (hF : X.fn f = some F) (H : ∀ L : List Int,ACall X f [pints L] [] fun v _ _=>v = .p (.bool true)) {W : World} (hG : GInv X.gl (imm [] [] W)) {a : Addr} {len cap : Nat} {zs : List Int}
    (hl : len ≤ cap) (hz : len ≤ zs.length) (hc : ∀ i,i < zs.length → W.cell? (a.add i) = some (.int .i64 (zs.getD i 0))) :
    Calls P f #[.slice (some a) len cap] W fun e W'=>e = .returned (.bool true) ∧ RowKit.Below W.heap.size W W':=by
  refine (calls_of HX hF (H (zs.take len)) (W:=W) (vs:=[.slice (some a) len cap]) hG rfl (fun j y v hy hv=>?_)).mono fun e W' he=>?_
  · cases j with
    | zero=>
      cases hy; cases hv
      rcases Nat.eq_zero_or_pos len with h0 | h0
      · subst h0
        exact .p _ _ (.nils _ _ _)
      · exact came_ints (by simpa [Addr.add] using World.cell?_spot (hc 0 (by omega))) hl hz hc
    | succ j=>cases hy
  · cases e with
    | returned r=>
      obtain ⟨⟨v,h,x,μ,hk,hr⟩,hb⟩:=he
      subst hk
      exact ⟨by rw [hr.p_bool],hb⟩
    | panicked _=>exact he.elim
    | outgrown=>exact he.elim
end Go.Am
namespace Go.ChangeShapes
open Go.RowKit Go.WideShapes
section
variable {H : Type} {enc : TypeId × Value → H} {P : Program}
end
end Go.ChangeShapes
end
section
/- The abstract machine,part L2: the kit's contracts asv rows. -/
set_option linter.unusedSimpArgs false
set_option linter.unusedVariables false
namespace Go.Am
variable {P : Program} {gl : Nat → Option PV}
open Go.Shelf
theorem ginv_tab {W : World} {g : Nat} {name : String} {k : IntKind} {zs : List Int} {v : PV} (hn : P.globalNamed name = some g) (ht : Go.Lib.TabIs P W name k zs) (hv : v = .agg (zs.map (PV.int k))) : GInv (glOf [(g,v)]) (imm [] [] W):=by
  intro n v' hv'
  unfold glOf at hv'
  cases hq : Nat.beq n g with
  | false=>rw [hq] at hv'; cases hv'
  | true=>
    rw [hq] at hv'
    have e:=Nat.eq_of_beq_eq_true hq
    subst e
    simp only [cond_true,Option.some.injEq] at hv'
    subst hv'
    subst hv
    unfold Go.Lib.TabIs World.var? at ht
    rw [hn] at ht
    simp only [Option.bind_some] at ht
    cases hb : W.heap[n]? with
    | none=>rw [hb] at ht; cases ht
    | some o=>
      rw [hb] at ht
      cases o with
      | cells cs t x=>
        simp only [Option.some.injEq] at ht
        refine ⟨.vp _ n 0 (fun j=>(zs.map fun z=>Value.int k z).getD j undef) (fun j y hy=>?_) (fun j y hy=>?_),cs,t,x,imm0_blk hb,by rw [ht]; simp [PV.cells]⟩
        · have hj : j < zs.length := by have := lt_of_get hy; simpa [PV.cells] using this
          refine imm0_cell ?_
          simp [World.cell?,hb,ht,hj,List.getD_eq_getElem?_getD]
        · have hj : j < zs.length := by have := lt_of_get hy; simpa [PV.cells] using this
          have e1 : y = .int k zs[j]:=by simpa [PV.cells,hj] using hy.symm
          have e2 : (zs.map fun z=>Value.int k z).getD j undef = .int k zs[j]:=by simp [List.getD_eq_getElem?_getD,hj]
          rw [e1,e2]
          exact .int k _
      | _=>cases ht
end Go.Am
end
section
/- The abstract machine,part L4: strings.Repeat,strings.Trim,math/bits.TrailingZeros64 asv rows. -/
set_option linter.all false
namespace Go.Am
variable {P : Program} {gl : Nat → Option PV}
open Go.Shelf
theorem below_ext {w w' : World} (h : Go.RowKit.Below w.heap.size w w') : WExt w w':=⟨h.size,fun b hb=>h.block b hb,by unfold zed; rw [h.os,h.tape,h.output]⟩
theorem lib_rep (s : List UInt8) : ∀ c,Go.Lib.repeatL s c = repL s c
  | 0=>rfl
  | c + 1=>by rw [Go.Lib.repeatL,repL,lib_rep s c]
theorem repeatRow {ρ : Ren} (L : Go.Proofs.Lays.n105 P ρ) (E : Go.Proofs.Builder.Extra P ρ) (he : ∀ us w,(callFunc (ρ.f 105) us).run P w = .ok (.enter (ρ.f 105) us) w) : PureRow P gl (ρ.f 105) repeatS where
  enter:=he
  run M w vs r us hc hb hG hl hr hs:=by
    unfold repeatS at hs
    split at hs
    · rename_i s c
      split at hs
      · rename_i hbd
        match us,hl with
        | [u,v],_=>
          have q:=hr 0 _ u rfl rfl
          cases q
          have q2:=hr 1 _ v rfl rfl
          cases q2
          simp only [Option.some.injEq] at hs
          subst hs
          obtain ⟨n,rfl⟩:=Int.eq_ofNat_of_zero_le hbd.1
          have hsz : (⟨s.toArray⟩ : ByteArray).size = s.length:=by simp [ByteArray.size]
          simp only [Int.toNat_natCast] at hbd ⊢
          refine (Go.Proofs.Any.strings_Repeat L E ⟨s.toArray⟩ n w (by omega) (by rw [hsz]; omega)).mono fun e w' h=>?_
          obtain ⟨rfl,h⟩:=h
          exact ⟨_,rfl,below_ext h,by rw [lib_rep]; exact .p _ _ (.str _)⟩
      · cases hs
    · cases hs
theorem lib_trim (s cs : List UInt8) : Go.Lib.trimS s cs = trimL s cs:=rfl
theorem trimRow {ρ : Ren} (L : Go.Proofs.Lays.n160 P ρ) (h116 : (P.info? (ρ.t 116)).map (fun i=>(i.zero,i.size)) = some (some (.agg (Array.replicate 256 (.bool false))),256)) (he : ∀ us w,(callFunc (ρ.f 160) us).run P w = .ok (.enter (ρ.f 160) us) w) : PureRow P gl (ρ.f 160) trimS where
  enter:=he
  run M w vs r us hc hb hG hl hr hs:=by
    unfold trimS at hs
    split at hs
    · rename_i s cs
      split at hs
      · rename_i hbd
        match us,hl with
        | [u,v],_=>
          have q:=hr 0 _ u rfl rfl
          cases q
          have q2:=hr 1 _ v rfl rfl
          cases q2
          simp only [Option.some.injEq] at hs
          subst hs
          have hsz : ∀ l : List UInt8,(⟨l.toArray⟩ : ByteArray).size = l.length:=fun l=>by simp [ByteArray.size]
          refine (Go.Proofs.Any.strings_Trim_laid L h116 ⟨s.toArray⟩ ⟨cs.toArray⟩ w (by rw [hsz]; omega) (by rw [hsz]; omega) (Go.Proofs.ascii_of_all hbd.2.2)).mono fun e w' h=>?_
          obtain ⟨rfl,h⟩:=h
          exact ⟨_,rfl,below_ext h,by rw [← lib_trim]; exact .p _ _ (.str _)⟩
      · cases hs
    · cases hs
theorem lib_ctzF : ∀ f x,Go.Lib.ctzFrom f x = ctzF f x
  | 0,_=>rfl
  | f + 1,x=>by rw [Go.Lib.ctzFrom,ctzF,lib_ctzF f]
theorem lib_ctz (x : Nat) : Go.Lib.ctz 64 x = ctzN x:=by unfold Go.Lib.ctz ctzN; rw [lib_ctzF]
theorem bruijn_tab : bruijnL = Go.Lib.deBruijn64tab:=by decide
theorem ctzRow {ρ : Ren} (L : Go.Proofs.Lays7.n29 P ρ) (hg : gl (ρ.g 1) = some bruijnPV) (he : ∀ us w,(callFunc (ρ.f 29) us).run P w = .ok (.enter (ρ.f 29) us) w) : PureRow P gl (ρ.f 29) ctzS where
  enter:=he
  run M w vs r us hc hb hG hl hr hs:=by
    unfold ctzS at hs
    split at hs
    · rename_i n
      split at hs
      · rename_i hbd
        match us,hl with
        | [u],_=>
          have q:=hr 0 _ u rfl rfl
          cases q
          simp only [Option.some.injEq] at hs
          subst hs
          obtain ⟨n,rfl⟩:=Int.eq_ofNat_of_zero_le hbd.1
          have hT : Go.Proofs.TabAt (ρ.g 1) Go.Lib.deBruijn64tab w:=by
            rw [← bruijn_tab]
            intro j hj
            obtain ⟨h1,cs,t,x,h2,h3⟩:=hG _ _ hg
            cases h1 with
            | vp _ _ _ f hm hr=>
              have hy : bruijnPV.cells[j]? = some (.int .u8 (bruijnL.getD j 0 : Nat)):=by
                simp [bruijnPV,PV.cells,List.getD_eq_getElem?_getD,hj]
              have q1:=hc _ _ _ (hm j _ hy)
              have q2:=hr j _ hy
              generalize f j = z at *
              cases q2
              simpa using q1
          refine (Go.Proofs.Any7.bits_TrailingZeros64 L n (by omega) w (fun _=>hT)).mono fun e w' h=>?_
          obtain ⟨rfl,rfl⟩:=h
          exact ⟨_,rfl,WExt.refl _,by rw [lib_ctz]; simp only [Int.toNat_natCast]; exact .p _ _ (.int _ _)⟩
      · cases hs
    · cases hs
end Go.Am
end
