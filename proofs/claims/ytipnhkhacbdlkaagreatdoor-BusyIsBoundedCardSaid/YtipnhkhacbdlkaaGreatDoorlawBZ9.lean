/- Texts of the proof, laid together: SpPath, SpReady, SpLawUN, SpKeep, SpLawBZ, Bridge, AmL2. -/
import Derived.KernelRfl
import Derived.ProofKit
import Derived.Shelf.Strconv.Itoa3
import Derived.Lib.LaidTab
import Derived.Test.YtipnhkhacbdlkaaGreatDoorlawBZ8
set_option linter.all false
section
/- The shortest way between two states of a test access port: a search over a queue. -/
open Go
set_option linter.all false
namespace Go.Am
variable {h:Heap} {K:Post}
attribute [-go_sem] z1p z17 zdA zdB
def nxtT:List (List Nat):=[[1,0],[1,2],[3,9],[4,5],[4,5],[6,8],[6,7],[4,8],[1,2],[10,0],[11,12],[11,12],[13,15],[13,14],[11,15],[1,2]]
def nxt (s t:Nat):Nat:=(nxtT.getD s []).getD t 0
theorem zuZ {s t:Nat} (hs:s<16) (ht:t<2):([AI 1,AI 0,AI 1,AI 2,AI 3,AI 9,AI 4,AI 5,AI 4,AI 5,AI 6,AI 8,AI 6,AI 7,AI 4,AI 8,AI 1,AI 2,AI 10,AI 0,AI 11,AI 12,AI 11,AI 12,AI 13,AI 15,AI 13,AI 14,AI 11,AI 15,AI 1,AI 2]:List AV)[s*2+t*1]?=some (AI (nxt s t)):=by
 have hs':s=0∨s=1∨s=2∨s=3∨s=4∨s=5∨s=6∨s=7∨s=8∨s=9∨s=10∨s=11∨s=12∨s=13∨s=14∨s=15:=by omega
 have ht':t=0∨t=1:=by omega
 rcases hs' with rfl | rfl | rfl | rfl | rfl | rfl | rfl | rfl | rfl | rfl | rfl | rfl | rfl | rfl | rfl | rfl <;> rcases ht' with rfl | rfl <;> rfl
theorem zlW {Y:Ctx} (hY:Y.fn z77=some zaO) (s t:Nat) (hs:s<16) (ht:t<2):z0d Y z77 [AI s,AI t] h K=K (AI (nxt s t)) h []:=by
 refine rule ?_
 rw[z0j hY rfl (show z0u h [AI s,AI t]=some ([AI s,AI t],h) from rfl) rfl,e_q09p]
 show zkd _ _ _ _ _ _ (finR [.t 4] false _ _)
 have g:=zuZ hs ht
 simp only[zkd,go_sem,hs,ht,g]
abbrev Ways:=List (Int × List UInt8)
def keyP (n:Int):PV:=.int .i64 n
def valP (s:List UInt8):AV:=.p (.str s)
def bit1 (t:Nat):List UInt8:=[UInt8.ofNat (48+t)]
def zcX (at_ t:Nat) (s:Ways × List Nat):Ways × List Nat:=
 if (getM (nxt at_ t:Int) s.1).isSome then s else (updM (nxt at_ t:Int) ((getM (at_:Int) s.1).getD []++bit1 t) s.1,s.2++[nxt at_ t])
def z5E (at_:Nat):Nat→Ways × List Nat→Ways × List Nat
 | 0,s=>s
 | t+1,s=>zcX at_ t (z5E at_ t s)
def popS (s:Ways × List Nat):Ways × List Nat:=match s.2 with
 | []=>s
 | a::r=>z5E a 2 (s.1,r)
def bfs (a:Nat):Nat→Ways × List Nat
 | 0=>([((a:Int),[])],[a])
 | k+1=>popS (bfs a k)
def zvk (a b:Nat):List UInt8:=(getM (b:Int) (bfs a 16).1).getD []
def zgO (s:Ways × List Nat):Bool:=decide (s.1.length≤16)&&decide (s.2.length≤16)&&s.2.all (fun x=>decide (x<16))&&s.1.all (fun e=>decide (e.2.length≤16))
theorem zjq:(List.range 16).all (fun a=>(List.range 16).all (fun k=>zgO (bfs a k) && !(bfs a k).2.isEmpty)&&zgO (bfs a 16)&&(bfs a 16).2.isEmpty)=true:=by kernel_rfl
theorem zpS {a k:Nat} (ha:a<16) (hk:k<16):zgO (bfs a k)=true∧(bfs a k).2≠[]:=by
 have h1:=List.all_eq_true.1 zjq a (List.mem_range.2 ha)
 simp only[Bool.and_eq_true] at h1
 have h2:=List.all_eq_true.1 h1.1.1 k (List.mem_range.2 hk)
 simp only[Bool.and_eq_true,Bool.not_eq_true',List.isEmpty_eq_false_iff] at h2
 exact h2
theorem ztO {a:Nat} (ha:a<16):zgO (bfs a 16)=true∧(bfs a 16).2=[]:=by
 have h1:=List.all_eq_true.1 zjq a (List.mem_range.2 ha)
 simp only[Bool.and_eq_true,List.isEmpty_iff] at h1
 exact⟨h1.1.2,h1.2⟩
theorem zq7 {s:Ways × List Nat} (hf:zgO s=true):s.1.length≤16∧s.2.length≤16∧(∀ x∈s.2,x<16)∧∀ e∈s.1,e.2.length≤16:=by
 unfold zgO at hf
 simp only[Bool.and_eq_true,decide_eq_true_eq,List.all_eq_true] at hf
 exact⟨hf.1.1.1,hf.1.1.2,hf.1.2,hf.2⟩
theorem lookP {hp:Heap} {id:Nat} {m:Ways} {b:Int} (hh:hp[id]?=some (mobj keyP valP m)):z1p (none,[0]) false (.p (.str [])) (.mp id) (AI b) hp=some (.p (.str ((getM b m).getD []))):=by
 have:=z3g (key:=keyP) (val:=valP) (fun a b=>zal a b) hh (kk:=(none,[0])) (k:=b) z7D (ok:=false) (z:=.p (.str []))
 rw[cond_false] at this
 refine this.trans ?_
 cases getM b m <;> rfl
theorem lookQ {hp:Heap} {id:Nat} {m:Ways} {b:Int} (hh:hp[id]?=some (mobj keyP valP m)):z1p (none,[0]) true (.p (.str [])) (.mp id) (AI b) hp=some (.tup [.p (.str ((getM b m).getD [])),AB (getM b m).isSome]):=by
 have:=z3g (key:=keyP) (val:=valP) (fun a b=>zal a b) hh (kk:=(none,[0])) (k:=b) z7D (ok:=true) (z:=.p (.str []))
 rw[cond_true] at this
 refine this.trans ?_
 cases getM b m <;> rfl
theorem updP {hp:Heap} {id:Nat} {m:Ways} {b:Int} {v:List UInt8} (hh:hp[id]?=some (mobj keyP valP m)):z17 (none,[0]) (.mp id) (AI b) (.p (.str v)) hp=some (.und,hp.set id (mobj keyP valP (updM b v m)),[]):=
 z5a (key:=keyP) (val:=valP) (fun a b=>zal a b) hh (kk:=(none,[0])) (k:=b) z7D (v:=v) rfl
structure Que (R:Heap) (i:Nat) (xs:List Nat) (off:Nat) (q:List Nat):Prop where
 get:R[i]?=some (.row none (xs.map fun n:Nat=>eI n) 0)
 le:off≤xs.length
 eq:xs.drop off=q
theorem nq_one {hp:Heap} {id:Nat} {xs:List Nat} {off:Nat} {n:Int} {k:AV→Heap→Esc→Prop} (hh:hp[id]?=some (.row none (xs.map fun n:Nat=>eI n) 0)) (ho:off≤xs.length) (hm:xs.length≤1000000)
 (k1:k (.own id (xs.length+1) off (xs.length-off+1)) (hp.set id (.row none (xs.map (fun n:Nat=>eI n)++[eI n]) 0)) [])
 (k2:k (.own hp.length (xs.length-off+1) 0 (xs.length-off+1)) (hp++[.row none ((xs.drop off).map (fun n:Nat=>eI n)++[eI n]) 0]) []) :
 nqK (some none) [.own id xs.length off (xs.length-off),.p (.sl none [eI n])] hp k:=by
 have hx:xs.length-off+1≤z1f:=by unfold z1f;omega
 have hr:rds hp (.p (.sl none [eI n]))=some (none,[eI n]):=rfl
 have hw:win (xs.map fun n:Nat=>eI n) off (xs.length-off)=(xs.drop off).map fun n:Nat=>eI n:=by
  unfold win
  rw[← List.map_drop]
  exact List.take_of_length_le (by simp)
 unfold nqK z4s appq
 simp only[hr,if_true,hh,List.length_map,List.length_cons,List.length_nil,Nat.zero_add]
 rw[if_pos ⟨trivial,trivial,by omega,hx,Nat.zero_le _⟩,hw]
 refine⟨by simp,fun y hy=>?_⟩
 simp only[List.mem_cons,List.not_mem_nil,or_false] at hy
 rcases hy with rfl | rfl
 ·exact k1
 ·exact k2
theorem zf9 {α β:Type} [DecidableEq α] {k:α} {v:β}:∀ {l:List (α × β)} {e:α × β},e∈updM k v l→e∈l∨e=(k,v)
 | [],e,h=>by simp [updM] at h;exact .inr h
 | x::r,e,h=>by
  unfold updM at h
  split at h
  ·rcases List.mem_cons.1 h with h | h
   ·exact .inr h
   ·exact .inl (List.mem_cons_of_mem _ h)
  ·rcases List.mem_cons.1 h with h | h
   ·exact .inl (h ▸ List.mem_cons_self)
   ·rcases zf9 h with h | h
    ·exact .inl (List.mem_cons_of_mem _ h)
    ·exact .inr h
theorem zf3 {α β:Type} [DecidableEq α] {k:α} {v:β}:∀ {l:List (α × β)},getM k l=some v→(k,v)∈l
 | [],h=>by cases h
 | x::r,h=>by
  unfold getM at h
  split at h
  ·rename_i he;cases h;subst he;simp
  ·exact List.mem_cons_of_mem _ (zf3 h)
theorem zgi {n:Nat} {w:Ways} (hw:∀ e∈w,e.2.length≤n) (k:Int):((getM k w).getD []).length≤n:=by
 cases hg:getM k w with
 | none=>simp
 | some v=>exact hw _ (zf3 hg)
theorem zps {n at_ t:Nat} {s:Ways × List Nat} (hw:∀ e∈s.1,e.2.length≤n):∀ e∈(zcX at_ t s).1,e.2.length≤n+1:=by
 unfold zcX
 split
 ·intro e he;have:=hw e he;omega
 ·intro e he
  rcases zf9 he with h | h
  ·have:=hw e h;omega
  ·subst h
   have:=zgi hw (at_:Int)
   simp [bit1];omega
theorem z97 {n at_:Nat} {s:Ways × List Nat} (hw:∀ e∈s.1,e.2.length≤n):∀ (t:Nat),∀ e∈(z5E at_ t s).1,e.2.length≤n+t
 | 0=>hw
 | t+1=>zps (z97 hw t)
set_option maxHeartbeats 1000000 in
theorem g_path {Y:Ctx} (hY1:Y.fn z78=some ze4) (hY2:Y.fn z77=some zaO) (a b:Nat) (ha:a<16) (hb:b<16):z0d Y z78 [AI a,AI b] h K=K (.p (.str (zvk a b))) h []:=by
 refine rule ?_
 rw[zaX hY1 rfl (show z0u h [AI a,AI b]=some ([AI a,AI b],h) from rfl) rfl]
 simp only[e_q09q]
 show ∃ v h' x,_∧zfe _ _ _ _ _ _ _ _ (finR [.t 4] false _ _)
 simp only[zfe]
 refine⟨_,_,_,⟨rfl,rfl,rfl⟩,?_⟩
 have em:mobj keyP valP [((a:Int),([]:List UInt8))] = .amap [⟨.int .i64 a,.p (.str []),0⟩] 1:=rfl
 have u0:=fun (hp:Heap) (hh:hp[h.length]?=some (mobj keyP valP []))=>updP (b:=(a:Int)) (v:=[]) hh
 have e0:updM (a:Int) [] ([]:Ways)=[((a:Int),[])]:=rfl
 have em0:mobj keyP valP ([]:Ways) = .amap [] 0:=rfl
 rw[e0] at u0
 simp only[em0] at u0
 simp only[go_sem,u0]
 refine z0U (fun t:Nat × Heap × Nat × List Nat × Nat × Option Nat=>⟨[(1,AI b),(5,.mp h.length),(6,.own (h.length+(t.2.2.1+1)) t.2.2.2.1.length t.2.2.2.2.1 (t.2.2.2.1.length-t.2.2.2.2.1))]++(match t.2.2.2.2.2 with | none=>[] | some q=>[(7,AI q),(25,AI 2),(26,AB false)]),h++mobj keyP valP (bfs a t.1).1::t.2.1,[]⟩)
  (fun t=>t.1≤16∧Que t.2.1 t.2.2.1 t.2.2.2.1 t.2.2.2.2.1 (bfs a t.1).2∧t.2.2.2.1.length≤1+2*t.1) (fun t=>16-t.1) (0,[.row none [eI a] 0],0,[a],0,none) (by simp [bfs]) ⟨by simp,⟨rfl,by simp,rfl⟩,by simp⟩ ?_
 rintro⟨k,R,i,xs,off,oq⟩ ⟨h1,hq,h2⟩
 dsimp only at h1 hq h2 ⊢
 have hqg:=hq.get
 have hle:=hq.le
 have heq:=hq.eq
 have hln:xs.length-off=(bfs a k).2.length:=by rw[← heq];simp
 by_cases hk:k<16
 ·obtain⟨hf,hne⟩:=zpS ha hk
  obtain⟨f1,f2,f3,f4⟩:=zq7 hf
  have hpos:0<xs.length-off:=by rw[hln];exact List.length_pos_iff.2 hne
  have hoff:off<xs.length:=by omega
  obtain⟨q0,qr,hqe⟩:∃ q0 qr,(bfs a k).2=q0::qr:=by
   cases hb2:(bfs a k).2 with
   | nil=>exact absurd hb2 hne
   | cons x y=>exact⟨x,y,rfl⟩
  have hx0:xs[off]?=some q0:=by
   have:(xs.drop off)[0]?=some q0:=by rw[heq,hqe];rfl
   rwa [List.getElem?_drop,Nat.add_zero] at this
  have hdr:xs.drop (off+1)=qr:=by
   rw[← List.drop_drop,heq,hqe];rfl
  have hq0:q0<16:=f3 q0 (by rw[hqe];simp)
  have hgq:(xs.map fun n:Nat=>eI n)[off]?=some (eI q0):=by rw[List.getElem?_map,hx0];rfl
  have hpi:(0:Int)<((xs.length-off:Nat):Int):=by omega
  have hl1:1≤xs.length-off:=by omega
  have hbn:bfs a (k+1)=z5E q0 2 ((bfs a k).1,qr):=by show popS _=_;unfold popS;rw[hqe]
  have e3:xs.length-off-1=xs.length-(off+1):=by omega
  have hcond:off+(xs.length-off)≤xs.length:=by omega
  have hNL:∀ (e:List (Nat × AV)),z01 (some [1,5,6,7,25]) e=z01 (some [1,5,6,7,25]) e:=fun _=>rfl
  rcases oq with _ | oq
  all_goals
  simp only[List.append_nil,List.cons_append,List.nil_append,go_sem,List.getElem?_cons_succ,hqg,hpi,hpos,hgq,hl1,hcond]
  all_goals
  clear u0 em em0 e0
  generalize hw0:((bfs a k).1,qr)=s0 at *
  have es1:(bfs a k).1=s0.1:=by rw[← hw0]
  have es2:qr=s0.2:=by rw[← hw0]
  rw[es1,e3]
  refine z0U (fun t:Nat × Heap × Nat × List Nat × Nat=>⟨[(1,AI b),(5,.mp h.length),(6,.own (h.length+(t.2.2.1+1)) t.2.2.2.1.length t.2.2.2.2 (t.2.2.2.1.length-t.2.2.2.2)),(7,AI q0),(25,AI t.1)],h++mobj keyP valP (z5E q0 t.1 s0).1::t.2.1,[]⟩)
   (fun t=>t.1≤2∧Que t.2.1 t.2.2.1 t.2.2.2.1 t.2.2.2.2 (z5E q0 t.1 s0).2∧t.2.2.2.1.length≤1+2*k+t.1) (fun t=>2-t.1) (0,R,i,xs,off+1) rfl ⟨by simp,⟨hqg,hoff,by rw[hdr,es2];rfl⟩,by simp;omega⟩ ?_
  rintro⟨j,R',i',ys,of'⟩ ⟨j1,jq,j2⟩
  dsimp only at j1 jq j2 ⊢
  have jg:=jq.get
  have jle:=jq.le
  have jeq:=jq.eq
  by_cases hj:j<2
  ·have hji:(j:Int)<2:=by omega
   have qn:=fun h K=>zlW (h:=h) (K:=K) hY2 q0 j hq0 hj
   have hvis:z5E q0 (j+1) s0=zcX q0 j (z5E q0 j s0):=rfl
   generalize hsj:z5E q0 j s0=s at *
   have lq:=fun (hp:Heap) (hh:hp[h.length]?=some (mobj keyP valP s.1))=>lookQ (b:=(nxt q0 j:Int)) hh
   have lp:=fun (hp:Heap) (hh:hp[h.length]?=some (mobj keyP valP s.1))=>lookP (b:=(q0:Int)) hh
   have up:=fun (hp:Heap) (v:List UInt8) (hh:hp[h.length]?=some (mobj keyP valP s.1))=>updP (b:=(nxt q0 j:Int)) (v:=v) hh
   have w1:IntKind.i64.wrap ((j:Int)+1)=((j+1:Nat):Int):=z0k _ (by omega) (by omega)
   cases hs:(getM (nxt q0 j:Int) s.1).isSome with
   | true=>
    have hv:zcX q0 j s=s:=by unfold zcX;rw[if_pos hs]
    rw[hv] at hvis
    simp only[go_sem,hji,↓qn,qn,lq,hs,w1]
    exact⟨(j+1,R',i',ys,of'),by dsimp only;rw[hvis],⟨by dsimp only;omega,by dsimp only;rw[hvis];exact jq,by dsimp only;omega⟩,by dsimp only;omega⟩
   | false=>
    have hv:zcX q0 j s=(updM (nxt q0 j:Int) ((getM (q0:Int) s.1).getD []++bit1 j) s.1,s.2++[nxt q0 j]):=by unfold zcX;rw[hs];rfl
    rw[hv] at hvis
    have w2:IntKind.i64.wrap (48+(j:Int))=((48+j:Nat):Int):=z0k _ (by omega) (by omega)
    have w3:IntKind.i32.wrap ((48+j:Nat):Int)=((48+j:Nat):Int):=by
     have:j=0∨j=1:=by omega
     rcases this with rfl | rfl <;> rfl
    have w4:(0:Int)≤((48+j:Nat):Int)∧((48+j:Nat):Int)<128:=by omega
    have hln2:=zgi (z97 (n:=16) (at_:=q0) (s:=s0) (by rw[← es1];exact f4) j) (q0:Int)
    rw[hsj] at hln2
    have w5:((getM (q0:Int) s.1).getD []).length+(bit1 j).length≤zcz:=by have:(bit1 j).length=1:=rfl;unfold zcz;omega
    have w6:[UInt8.ofNat ((48+j:Nat):Int).toNat]=bit1 j:=rfl
    simp only[go_sem,hji,↓qn,qn,lq,hs,lp,up,w1,w2,w3,w4,w5,w6]
    have hh1:(h++mobj keyP valP (updM (nxt q0 j:Int) ((getM (q0:Int) s.1).getD []++bit1 j) s.1)::R')[h.length+(i'+1)]?=some (.row none (ys.map fun n:Nat=>eI n) 0):=by
     rw[List.getElem?_append_right (by omega)];simpa using jg
    have hi':i'<R'.length:=z0f jg
    refine nq_one hh1 jle (by omega) ?_ ?_
    ·refine⟨(j+1,R'.set i' (.row none (ys.map (fun n:Nat=>eI n)++[eI (nxt q0 j)]) 0),i',ys++[nxt q0 j],of'),?_,⟨by dsimp only;omega,⟨?_,?_,?_⟩,?_⟩,by dsimp only;omega⟩
     ·dsimp only
      rw[hvis,List.set_append_right _ _ (by omega)]
      simp only[List.length_append,List.length_cons,List.length_nil,Nat.add_sub_cancel_left,List.set_cons_succ]
      rw[show ys.length+1-of'=ys.length-of'+1 by omega]
     ·dsimp only
      rw[List.getElem?_set_self hi'];simp
     ·simp;omega
     ·dsimp only
      rw[hvis,List.drop_append_of_le_length jle,jeq]
     ·simp;omega
    ·refine⟨(j+1,R'++[.row none ((ys.drop of').map (fun n:Nat=>eI n)++[eI (nxt q0 j)]) 0],R'.length,ys.drop of'++[nxt q0 j],0),?_,⟨by dsimp only;omega,⟨?_,?_,?_⟩,?_⟩,by dsimp only;omega⟩
     ·dsimp only
      rw[hvis]
      simp
     ·simp
     ·simp
     ·dsimp only
      rw[hvis,jeq,List.drop_zero]
     ·simp;omega
  ·have hj2:j=2:=by omega
   subst hj2
   simp only[go_sem]
   refine⟨(k+1,R',i',ys,of',some q0),?_,⟨by dsimp only;omega,by dsimp only;rw[hbn];exact jq,by dsimp only;omega⟩,by dsimp only;omega⟩
   dsimp only
   rw[hbn]
 ·have hk16:k=16:=by omega
  subst hk16
  obtain⟨_,hne⟩:=ztO ha
  have hz:xs.length-off=0:=by rw[hln,hne];rfl
  have lk:=fun (hp:Heap) (hh:hp[h.length]?=some (mobj keyP valP (bfs a 16).1))=>lookP (b:=(b:Int)) hh
  have hpv:(getM (b:Int) (bfs a 16).1).getD []=zvk a b:=rfl
  rcases oq with _ | oq <;> simp only[List.append_nil,List.cons_append,List.nil_append,go_sem,hz,lk,hpv]
end Go.Am
end
section
/- ready: a z0L call,computed. -/
open Go
set_option linter.all false
namespace Go.Am
def orcP (f:Nat) (a:List AV):Option AV:=bif Nat.beq f z78 then match a with
 | [.p (.int .i64 x),.p (.int .i64 y)]=>bif decide (0≤x)&&decide (x<16)&&decide (0≤y)&&decide (y<16) then some (.p (.str (zvk x.toNat y.toNat))) else none
 | _=>none else none
theorem zvj:∀ f a v,orcP f a=some v→∀ h (K:Post),K v h []→z0d X0 f a h K:=by
 intro f a v hv h K hK
 unfold orcP at hv
 cases hf:Nat.beq f z78 with
 | false=>rw[hf] at hv;cases hv
 | true=>
  have hf':=Nat.eq_of_beq_eq_true hf
  rw[hf] at hv
  subst hf'
  simp only[cond_true] at hv
  split at hv
  ·rename_i x y
   cases hc:(decide (0≤x)&&decide (x<16)&&decide (0≤y)&&decide (y<16)) with
   | false=>rw[hc] at hv;cases hv
   | true=>
    rw[hc] at hv
    simp only[cond_true,Option.some.injEq] at hv
    simp only[Bool.and_eq_true,decide_eq_true_eq] at hc
    obtain⟨a,rfl⟩:=Int.eq_ofNat_of_zero_le hc.1.1.1
    obtain⟨b,rfl⟩:=Int.eq_ofNat_of_zero_le hc.1.2
    have:=g_path (h:=h) (K:=K) zdV zdU a b (by omega) (by omega)
    rw[this]
    subst hv
    exact hK
  ·cases hv
theorem zrk:z7s X0 orcP 1000 60 z7w [] []=some (AB true,[],[]):=by kernel_rfl
theorem zvW:z0d X0 z7w [] [] fun v h x=>v=AB true∧h=[]∧x=[]:=(zh0 zvj 1000 60 zrk _).2 ⟨rfl,rfl,rfl⟩
theorem zvy {h:Heap} {K:Post}:z0d X z7w [] h K=K (AB true) h []:=zqU (by kernel_rfl) rfl
end Go.Am
end
section
/- UndoneIsNothing returns true. -/
open Go
set_option linter.all false
set_option maxRecDepth 100000
namespace Go.Am
variable {L:List Int} {a:Int} {h:Heap} {K:Post}
attribute [-go_sem] oEqa
def zah:List Nm:=[[115,99,97,110],[102,108,97,115,104],[98,117,114,110]]
theorem zu2 {n:Nat} {tries:Int} (h1:1≤n) (h2:n≤3) (t1:1≤tries) (t2:tries≤3):z5Q (zah.take n) tries=0∧(∀ s∈zah.take n,s.length≤1000000)∧(zah.take n).length≤1000:=by
 have hi:inB 1 tries 10=true:=by unfold inB;simp;omega
 refine⟨?_,fun s hs=>?_,by rw[List.length_take];show min n 3≤1000;omega⟩
 ·unfold z5Q
  have:n=1∨n=2∨n=3:=by omega
  rcases this with e | e | e <;> subst e
  ·rw[if_neg (by decide),if_neg (by decide),if_neg (by decide),hi];rfl
  ·rw[if_neg (by decide),if_neg (by decide),if_neg (by decide),hi];rfl
  ·rw[if_neg (by decide),if_neg (by decide),if_neg (by decide),hi];rfl
 ·have:=List.mem_of_mem_take hs
  simp only[zah,List.mem_cons,List.not_mem_nil,or_false] at this
  rcases this with e | e | e <;> rw[e] <;> simp
theorem zd0 (hp:posN 10 a):GenE z8S [] L a (fun v a2=>a2=a+1+1∧∃ (n:Nat) (tries:Int),1≤n∧n≤3∧1≤tries∧tries≤3∧v=z99 (zah.take n) tries):=by
 refine GenE.of fun h id hid=>?_
 rw[c_q03q rfl]
 have p0:posN 0 a:=z0J hp (by omega) (by omega)
 have p1:posN 0 (a+1):=z0J hp (by omega) (by omega)
 have r1:1≤z0Q 1 3 L a∧z0Q 1 3 L a≤3:=z1O L a (by omega) (by omega)
 have r2:1≤z0Q 1 3 L (a+1)∧z0Q 1 3 L (a+1)≤3:=z1O L (a+1) (by omega) (by omega)
 obtain⟨n,hn⟩:∃ n:Nat,z0Q 1 3 L a=n:=⟨(z0Q 1 3 L a).toNat,by omega⟩
 generalize ht:z0Q 1 3 L (a+1)=tries at *
 have n3:n≤3:=by omega
 have hw:win [PV.str [115,99,97,110],.str [102,108,97,115,104],.str [98,117,114,110]] 0 n=(zah.take n).map PV.str:=by simp [win,zah,List.map_take]
 simp only[zjP,go_sem,hid,p0,p1,hn,ht,n3,hw,splice]
 first
 | exact⟨a+1+1,⟨rfl,n,tries,by omega,n3,by omega,by omega,rfl⟩,rfl⟩
 | trace_state
theorem go_I (steps:List Nm) (tries:Int) (h0:steps≠[]):∀ (l:List (Ent × Bool)) (S:Flo) (i n:Nat),FlI S steps n→FlI (Flo.go steps tries S i l) steps (n+l.length)
 | [],S,i,n,I=>I
 | (x,c)::r,S,i,n,I=>by
  have e1:Flo.go steps tries S i ((x,c)::r)=if c=false∨x.kind=7 then Flo.go steps tries S (i+1) r else Flo.go steps tries (S.step steps tries i x) (i+1) r:=rfl
  have e:n+((x,c)::r).length=(n+1)+r.length:=by simp;omega
  rw[e1,e]
  split
  ·exact go_I steps tries h0 r S (i+1) (n+1) I.up
  ·exact go_I steps tries h0 r _ (i+1) (n+1) (zpd I h0 i x).1
end Go.Am
end
section
/- What all laws of the keep package use. -/
open Go
set_option linter.all false
namespace Go.Am
variable {h:Heap} {K:Post}
theorem zvw (l:List Int) (hl:l.length≤1000):z0d X z6o [AL l] h K=K (AI (z3V l)) h []:=by
 refine rule ?_
 rw[c_q02w rfl]
 simp only[zeM,go_sem]
 refine z0U (fun k:Nat=>⟨[(5,AL l),(6,AI l.length),(7,AI k)],h,[]⟩) (fun k=>k≤l.length∧z3V (l.drop k)=z3V l) (fun k=>l.length-k) 0 rfl (by simp) ?_
 rintro k ⟨hk,hp⟩
 rcases Nat.lt_or_ge k l.length with hlt | hge
 ·have hg:=z0X eI hlt
  have w2:IntKind.i64.wrap ((k:Int)+1)=((k+1:Nat):Int):=z0k _ (by omega) (by omega)
  rw[List.drop_eq_getElem_cons hlt,z3V] at hp
  by_cases he:l[k]=0
  ·rw[if_pos he] at hp
   simp only[go_sem,hlt,hg,w2,he]
   exact⟨k+1,rfl,⟨by omega,hp⟩,by omega⟩
  ·rw[if_neg he] at hp
   simp only[go_sem,hlt,hg,w2,he]
   rw[hp]
 ·have e1:k=l.length:=by omega
  subst e1
  simp only[go_sem,Nat.lt_irrefl]
  rw[List.drop_length] at hp
  rw[← hp];rfl
end Go.Am
end
section
/- BusyIsBounded returns true. -/
open Go
set_option linter.all false
set_option maxRecDepth 100000
namespace Go.Am
variable {L:List Int} {a:Int} {h:Heap} {K:Post}
attribute [-go_sem] oEqa
theorem ztF:∀ {l:List RunP} {lo hi:Int},CH lo hi l→lo≤hi∧∀ r∈l,lo≤r.frm∧r.frm≤hi∧r.til≤hi
 | [],lo,hi,h=>⟨h,fun r hr=>(by cases hr)⟩
 | y::rest,lo,hi,h=>by
  obtain⟨h1,h2,h3,h4⟩:=h
  obtain⟨i1,i2⟩:=ztF h4
  refine⟨by omega,fun r hr=>?_⟩
  rcases List.mem_cons.1 hr with e | e
  ·rw[e];omega
  ·have:=i2 r e;omega
theorem zvt {p:FlP} {Z:Int} (B:BI p Z) (hZ:0≤Z):∀ r∈p.runs,0≤r.frm∧r.frm≤Z∧r.til≤Z:=fun r hr=>by
 have hm:r∈ofS r.site p.runs:=List.mem_filter.2 ⟨hr,by simp⟩
 have h:=B.st r.site
 unfold zcQ at h
 split at h
 ·obtain⟨pre,q,e,h2,h3,h4,h5⟩:=h
  rw[e] at hm
  rcases List.mem_append.1 hm with g | g
  ·have:=(ztF h2).2 r g;omega
  ·rw[List.mem_singleton.1 g];omega
 ·have:=(ztF h).2 r hm;omega
theorem z93 (step:Nm):∀ (l:List EndP),(∀ e∈l,e.frm≤e.til)→∀ n∈z0Z step l,0≤n
 | [],_,n,hn=>by cases hn
 | e::r,h,n,hn=>by
  have ih:=z93 step r (fun y hy=>h y (List.mem_cons_of_mem _ hy))
  have h0:=h e (List.mem_cons_self ..)
  unfold z0Z at hn
  split at hn
  ·rcases List.mem_cons.1 hn with q | q
   ·omega
   ·exact ih n q
  ·exact ih n hn
theorem s_neg1 (n:Int):z0d X z7v [AI n] h K=K (AB (decide (n<0))) h []:=by
 refine rule ?_
 rw[c_q02u rfl]
 simp only[zjL,go_sem]
theorem lens (steps:List Nm) (tries:Int) {x:List Ent} (hl:x.length≤1000) (h0:steps≠[]):(z1d steps tries x).runs.length≤1000∧(z1d steps tries x).ends.length≤1000:=by
 have h1:=(go_I steps tries h0 (zipC x) flo0 0 0 (flI0 steps)).rl
 have h2:=(go_I steps tries h0 (zipC x) flo0 0 0 (flI0 steps)).el
 rw[z6E] at h1 h2
 unfold z1d
 omega
set_option maxHeartbeats 8000000 in
theorem law_BZ (L:List Int) {K:Post}:z0d X zfr [AL L] [] K=K (AB true) [] []:=by
 refine rule ?_
 rw[c_q02t rfl]
 have pp:posN 100000 0:=by unfold posN;omega
 obtain⟨_,a1,⟨d1,n,tries,n1,n3,t1,t3,rfl⟩,V1⟩:=(zd0 (L:=L) (a:=0) (z0J pp (by omega) (by omega))).hd (l:=[])
 have pr:posN 0 a1:=z0J pp (by omega) (by omega)
 have rb:0≤z0Q 0 16 L a1∧z0Q 0 16 L a1≤16:=z1O L a1 (by omega) (by omega)
 obtain⟨m,hm⟩:∃ m:Nat,z0Q 0 16 L a1=m:=⟨(z0Q 0 16 L a1).toNat,by omega⟩
 obtain⟨_,a2,⟨e1,e2,x,xl,xv,xf,rfl⟩,V2⟩:=(z8z (L:=L) (a:=a1+1) (z0J pp (by omega) (by omega)) m (by omega)).hd (l:=[])
 have p2:posN 0 a2:=z0J pp (by omega) (by omega)
 have p3:posN 0 (a2+1):=z0J pp (by omega) (by omega)
 have rA:0≤z0Q 0 40 L a2∧z0Q 0 40 L a2≤40:=z1O L a2 (by omega) (by omega)
 have rB:40≤z0Q 40 200 L (a2+1)∧z0Q 40 200 L (a2+1)≤200:=z1O L (a2+1) (by omega) (by omega)
 generalize hA:z0Q 0 40 L a2=fa at *
 generalize hB:z0Q 40 200 L (a2+1)=fb at *
 obtain⟨f1,f2,f3⟩:=zu2 n1 n3 t1 t3
 have hsc:(zah.take n).contains [115,99,97,110]=true:=by
  have:n=1∨n=2∨n=3:=by omega
  rcases this with e | e | e <;> subst e <;> decide
 generalize zah.take n=steps at *
 have Ox:StOk steps x:=⟨f3,f2,fun y hy=>(xv y hy).ok,by omega⟩
 have ea:=early xv xf
 have mo:momF fb=0:=by
  unfold momF z1D inB
  rw[if_pos (by simp;omega)]
 have fx:zai steps tries x fb=0:=by unfold zai;rw[f1,xf,mo];rfl
 have h0s:steps≠[]:=zcr fx
 have sub:∀ at_,(upL x at_).Sublist x:=fun at_=>List.take_sublist _ _
 have Bi:∀ at_,BI (z1d steps tries (upL x at_)).P 1000:=fun at_=>bi_flo steps tries h0s (zl6 (sub at_) xf) (fun y hy=>(ea y ((sub at_).subset hy)).1) (by omega)
 have Le:∀ at_,_:=fun at_=>lens steps tries (x:=upL x at_) (by have:=(sub at_).length_le;omega) h0s
 have BB:=fun h K=>s_Busy (h:=h) (K:=K) steps tries x Ox [115,97] (by simp) fa fb (by omega) (by omega) (by omega) (Le _).1 (fun r hr=>by have:=zvt (Bi (fb-1)) (by omega) r hr;omega)
 have TT:=fun h K=>zvu (h:=h) (K:=K) steps tries x Ox [115,99,97,110] fb (Le _).2 (fun e he=>by have:=(Bi fb).en e he;omega)
 have hov:0≤z1u fa fb (ofS [115,97] (z1d steps tries (upL x (fb-1))).runs)∧z1u fa fb (ofS [115,97] (z1d steps tries (upL x (fb-1))).runs)≤fb-fa:=⟨zdD _ _ _,zhq ((Bi (fb-1)).st [115,97]) (by omega) (by omega)⟩
 have bE:zjs steps tries x [115,97] fa fb=(z1u fa fb (ofS [115,97] (z1d steps tries (upL x (fb-1))).runs),0):=by
  unfold zjs
  have o0:orL [z5Q steps tries,z2y x]=0:=by rw[f1,xf];rfl
  have hw:(inB 0 fa fb&&decide (fb≤345686400000))=true:=by unfold inB;simp;omega
  have hk:keyB [115,97]=true:=by decide
  rw[if_neg (by simp [o0]),if_neg (by simp [hk]),if_neg (by simp [hw])]
 have tE:zcV steps tries x [115,99,97,110] fb=(z0Z [115,99,97,110] (z1d steps tries (upL x fb)).ends,0):=by
  unfold zcV zdO
  rw[fx,if_pos rfl,hsc]
  rfl
 have tn:=z93 [115,99,97,110] (z1d steps tries (upL x fb)).ends (fun e he=>by have:=(Bi fb).en e he;omega)
 have tl:=z5V [115,99,97,110] (z1d steps tries (upL x fb)).ends
 have le2:=(Le fb).2
 rw[bE] at BB
 rw[tE] at TT
 generalize z1u fa fb (ofS [115,97] (z1d steps tries (upL x (fb-1))).runs)=ov at *
 generalize z0Z [115,99,97,110] (z1d steps tries (upL x fb)).ends=ts at *
 have CF:=fun h K=>z6y (h:=h) (K:=K) (g:=z7v) (caps:=[]) (p:=fun v=>decide (unI v<0)) (xs:=ts.map eI) (fun v hv K=>by obtain⟨k,_,rfl⟩:=List.mem_map.1 hv;exact s_neg1 k) ztJ (by simp;omega)
 have an:(ts.map eI).any (fun v=>decide (unI v<0))=false:=by
  rw[List.any_map,List.any_eq_false]
  intro k hk
  have:=tn k hk
  show ¬ decide (k<0)=true
  rw[decide_eq_true_eq];omega
 rw[an] at CF
 have ER:=fun h K=>zvw (h:=h) (K:=K) [0,0] (by simp)
 have e0:z3V [0,0]=0:=rfl
 rw[e0] at ER
 simp only[AL,List.map_cons,List.map_nil] at ER
 have w1:IntKind.i64.wrap (fb-fa)=fb-fa:=z0k _ (by omega) (by omega)
 have c1:¬ ov<0:=by omega
 have c2:¬ fb-fa<ov:=by omega
 dsimp only at BB TT
 simp only[zjK,go_sem,V1,V2,pr,p2,p3,hm,hA,hB,splice,↓BB,BB,↓TT,TT,↓ER,ER,w1,c1,c2,↓CF,CF,zvy]
end Go.Am
end
section
/- From a law that is true here tov the model's calls at what came in. -/
open Go
namespace Go.Am
variable {P:Program}
theorem law_nil {X:Ctx} (HX:Fits P X) {f:Nat} {F:AFun} (hF:X.fn f=some F) (H:∀ L:List Int,z0d X f [zrg L] [] fun v _ _=>v = .p (.bool true)) (W:World) (hG:GInv X.gl (imm [] [] W)) :
 Calls P f #[.slice none 0 0] W fun e W'=>e = .returned (.bool true)∧RowKit.Below W.heap.size W W':=by
 refine (zeD HX hF (H []) (W:=W) (vs:=[.slice none 0 0]) hG rfl (fun j y v hy hv=>?_)).mono fun e W' he=>?_
 ·cases j with
  | zero=>cases hy;cases hv;exact zpV W
  | succ j=>cases hy
 ·cases e with
  | returned r=>
   obtain⟨⟨v,h,x,μ,hk,hr⟩,hb⟩:=he
   subst hk
   exact⟨by rw[hr.p_bool],hb⟩
  | panicked _=>exact he.elim
  | outgrown=>exact he.elim
theorem law_ints {X:Ctx} (HX:Fits P X) {f:Nat} {F:AFun} (hF:X.fn f=some F) (H:∀ L:List Int,z0d X f [zrg L] [] fun v _ _=>v = .p (.bool true)) {W:World} (hG:GInv X.gl (imm [] [] W)) {a:Addr} {len cap:Nat} {zs:List Int}
 (hl:len≤cap) (hz:len≤zs.length) (hc:∀ i,i<zs.length→W.cell? (a.add i)=some (.int .i64 (zs.getD i 0))) :
 Calls P f #[.slice (some a) len cap] W fun e W'=>e = .returned (.bool true)∧RowKit.Below W.heap.size W W':=by
 refine (zeD HX hF (H (zs.take len)) (W:=W) (vs:=[.slice (some a) len cap]) hG rfl (fun j y v hy hv=>?_)).mono fun e W' he=>?_
 ·cases j with
  | zero=>
   cases hy;cases hv
   rcases Nat.eq_zero_or_pos len with h0 | h0
   ·subst h0
    exact .p _ _ (.nils _ _ _)
   ·exact zjw (by simpa [Addr.add] using World.cell?_spot (hc 0 (by omega))) hl hz hc
  | succ j=>cases hy
 ·cases e with
  | returned r=>
   obtain⟨⟨v,h,x,μ,hk,hr⟩,hb⟩:=he
   subst hk
   exact⟨by rw[hr.p_bool],hb⟩
  | panicked _=>exact he.elim
  | outgrown=>exact he.elim
end Go.Am
namespace Go.ChangeShapes
open Go.RowKit Go.WideShapes
section
variable {H:Type} {enc:TypeId × Value→H} {P:Program}
end
end Go.ChangeShapes
end
section
/- The abstract machine,part L2: the kit's contracts asv rows. -/
set_option linter.unusedSimpArgs false
set_option linter.unusedVariables false
namespace Go.Am
variable {P:Program} {gl:Nat→Option PV}
open Go.Shelf
end Go.Am
end
