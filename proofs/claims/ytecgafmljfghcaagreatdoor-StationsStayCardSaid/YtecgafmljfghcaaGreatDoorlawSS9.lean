/- Texts of the proof, laid together: SpLawET, SpPath, SpReady, SpLawUN, SpQFlo10, AmR1, AmR2, AmR3, AmR4, AmR5, AmR6, SpRel, SpLawSS, Bridge, AmL2. -/
import Derived.KernelRfl
import Derived.ProofKit
import Derived.Shelf.Strconv.Itoa3
import Derived.Lib.LaidTab
import Derived.Test.YtecgafmljfghcaaGreatDoorlawSS8
set_option linter.all false
section
/- EntryTexts returns true. -/
open Go
set_option linter.all false
set_option maxRecDepth 100000
namespace Go.Am
variable {L:List Int} {a:Int} {h l:aA} {id:Nat} {K:jA}
theorem zes (hp:UA 20000 a)(n:Nat)(hn:n≤20) :
 aE fH [AI n] L a (fun v a2=>a≤a2∧a2≤a+8000∧∃rs:List Ent,rs.length≤n∧(∀r∈rs,EntV r)∧nB rs=0∧v=QA rs):=by
 refine aE.of fun h id hid=>?_
 rw[z9s rfl];simp only[kP,go_sem,hid];refine XA (fun t:Nat×Int=>⟨[(0,.ref id 0),(1,AI n),(6,AI t.1)],h.set id (nA L t.2),[]⟩) (fun t=>t.1≤8∧a≤t.2∧t.2≤a+1000*t.1) (fun t=>8-t.1) (0,a) rfl ⟨by simp,by simp,by simp⟩ ?_
 rintro⟨k,b⟩ ⟨h1,h2,h3⟩
 dsimp only at h1 h2 h3 ⊢;rcases Nat.lt_or_ge k 8 with hlt|hge
 ·have hk:(k:Int)<8:=by omega
  have w1:IntKind.i64.wrap ((k:Int)+1)=((k+1:Nat):Int):=BA _ (by omega) (by omega)
  obtain⟨_,a2,⟨c1,c2,rs,r1,r2,rfl⟩,V⟩:=(zeq (L:=L) (a:=b) (NC hp h2 (by omega)) n hn).set (h:=h) hid
  have F:=fun h K=>zjQ (h:=h) (K:=K) rs (fun x hx=>(r2 x hx).ok) (by omega)
  by_cases hf:nB rs=0
  ·simp only[go_sem,hid,hk,↓V,V,↓F,F,hf]
   exact⟨a2,⟨by omega,by omega,rs,r1,r2,hf,rfl⟩,rfl⟩
  ·simp only[go_sem,hid,hk,↓V,V,↓F,F,hf,w1]
   exact⟨(k+1,a2),rfl,⟨by dsimp only;omega,by dsimp only;omega,by dsimp only;omega⟩,by dsimp only;omega⟩
 ·have hk:¬(k:Int)<8:=by omega
  simp only[go_sem,hid,hk];exact⟨b,⟨by omega,by omega,[],by simp,by simp,by decide,rfl⟩,rfl⟩
end Go.Am
end
section
/- The shortest way between two states of a test access port: a search aF a queue. -/
open Go
set_option linter.all false
namespace Go.Am
variable {h:aA} {K:jA}
attribute [-go_sem] IA OA QB RB
def nxtT:List (List Nat):=[[1,0],[1,2],[3,9],[4,5],[4,5],[6,8],[6,7],[4,8],[1,2],[10,0],[11,12],[11,12],[13,15],[13,14],[11,15],[1,2]]
def nxt (s t:Nat):Nat:=(nxtT.getD s []).getD t 0
theorem zg1 {s t:Nat}(hs:s<16)(ht:t<2):([AI 1,AI 0,AI 1,AI 2,AI 3,AI 9,AI 4,AI 5,AI 4,AI 5,AI 6,AI 8,AI 6,AI 7,AI 4,AI 8,AI 1,AI 2,AI 10,AI 0,AI 11,AI 12,AI 11,AI 12,AI 13,AI 15,AI 13,AI 14,AI 11,AI 15,AI 1,AI 2]:List AV)[s*2+t*1]?=some (AI (nxt s t)):=by
 have hs':s=0∨s=1∨s=2∨s=3∨s=4∨s=5∨s=6∨s=7∨s=8∨s=9∨s=10∨s=11∨s=12∨s=13∨s=14∨s=15:=by omega
 have ht':t=0∨t=1:=by omega
 rcases hs' with rfl|rfl|rfl|rfl|rfl|rfl|rfl|rfl|rfl|rfl|rfl|rfl|rfl|rfl|rfl|rfl <;> rcases ht' with rfl|rfl <;> rfl
theorem zew {Y:Ctx}(hY:Y.fn rI=some vL)(s t:Nat)(hs:s<16)(ht:t<2):bA Y rI [AI s,AI t] h K=K (AI (nxt s t)) h []:=by
 refine tA ?_;rw[NA hY rfl (show mA h [AI s,AI t]=some ([AI s,AI t],h) from rfl) rfl,zdw]
 show eW _ _ _ _ _ _ (qA [.t 4] false _ _)
 have g:=zg1 hs ht
 simp only[eW,go_sem,hs,ht,g]
abbrev eD:=List (Int × List UInt8)
def mD (n:Int):PV:=.int .i64 n
def pD (s:List UInt8):AV:=.p (.str s)
def QH (t:Nat):List UInt8:=[UInt8.ofNat (48+t)]
def GH (at_ t:Nat)(s:eD × List Nat):eD×List Nat:=
 if(RA (nxt at_ t:Int) s.1).isSome then s else(gC (nxt at_ t:Int) ((RA (at_:Int) s.1).getD []++QH t) s.1,s.2++[nxt at_ t])
def QG (at_:Nat):Nat→eD×List Nat→eD×List Nat
 | 0,s=>s
 | t+1,s=>GH at_ t (QG at_ t s)
def popS (s:eD × List Nat):eD×List Nat:=match s.2 with
 | []=>s
 | a::r=>QG a 2 (s.1,r)
def bfs (a:Nat):Nat→eD×List Nat
 | 0=>([((a:Int),[])],[a])
 | k+1=>popS (bfs a k)
def MY (a b:Nat):List UInt8:=(RA (b:Int) (bfs a 16).1).getD []
def RJ (s:eD × List Nat):Bool:=decide (s.1.length≤16)&&decide (s.2.length≤16)&&s.2.all (fun x=>decide (x<16))&&s.1.all (fun e=>decide (e.2.length≤16))
theorem z0B:(List.range 16).all (fun a=>(List.range 16).all (fun k=>RJ (bfs a k) && !(bfs a k).2.isEmpty)&&RJ (bfs a 16)&&(bfs a 16).2.isEmpty)=true:=by kernel_rfl
theorem z8D {a k:Nat}(ha:a<16)(hk:k<16):RJ (bfs a k)=true∧(bfs a k).2≠[]:=by
 have h1:=List.all_eq_true.1 z0B a (List.mem_range.2 ha)
 simp only[Bool.and_eq_true]at h1;have h2:=List.all_eq_true.1 h1.1.1 k (List.mem_range.2 hk)
 simp only[Bool.and_eq_true,Bool.not_eq_true',List.isEmpty_eq_false_iff]at h2;exact h2
theorem z8C {a:Nat}(ha:a<16):RJ (bfs a 16)=true∧(bfs a 16).2=[]:=by
 have h1:=List.all_eq_true.1 z0B a (List.mem_range.2 ha)
 simp only[Bool.and_eq_true,List.isEmpty_iff]at h1;exact⟨h1.1.2,h1.2⟩
theorem zee {s:eD × List Nat}(hf:RJ s=true):s.1.length≤16∧s.2.length≤16∧(∀x∈s.2,x<16)∧∀e∈s.1,e.2.length≤16:=by
 unfold RJ at hf;simp only[Bool.and_eq_true,decide_eq_true_eq,List.all_eq_true]at hf;exact⟨hf.1.1.1,hf.1.1.2,hf.1.2,hf.2⟩
theorem z4j {hp:aA}{id:Nat}{m:eD}{b:Int}(hh:hp[id]?=some (vA mD pD m)):IA (none,[0]) false (.p (.str [])) (.mp id) (AI b) hp=some (.p (.str ((RA b m).getD []))):=by
 have:=oH (key:=mD) (val:=pD) (fun a b=>XW a b) hh (kk:=(none,[0])) (k:=b) YW (ok:=false) (z:=.p (.str []))
 rw[cond_false]at this;refine this.trans ?_;cases RA b m <;> rfl
theorem lookQ {hp:aA}{id:Nat}{m:eD}{b:Int}(hh:hp[id]?=some (vA mD pD m)):IA (none,[0]) true (.p (.str [])) (.mp id) (AI b) hp=some (.tup [.p (.str ((RA b m).getD [])),AB (RA b m).isSome]):=by
 have:=oH (key:=mD) (val:=pD) (fun a b=>XW a b) hh (kk:=(none,[0])) (k:=b) YW (ok:=true) (z:=.p (.str []))
 rw[cond_true]at this;refine this.trans ?_;cases RA b m <;> rfl
theorem updP {hp:aA}{id:Nat}{m:eD}{b:Int}{v:List UInt8}(hh:hp[id]?=some (vA mD pD m)):OA (none,[0]) (.mp id) (AI b) (.p (.str v)) hp=some (.und,hp.set id (vA mD pD (gC b v m)),[]):=
 ZJ (key:=mD) (val:=pD) (fun a b=>XW a b) hh (kk:=(none,[0])) (k:=b) YW (v:=v) rfl
structure Que (R:aA) (i:Nat) (xs:List Nat) (off:Nat) (q:List Nat):Prop where
 get:R[i]?=some (.row none (xs.map fun n:Nat=>eI n) 0)
 le:off≤xs.length
 eq:xs.drop off=q
theorem zgz {hp:aA}{id:Nat}{xs:List Nat}{off:Nat}{n:Int}{k:AV→aA→Esc→Prop}(hh:hp[id]?=some (.row none (xs.map fun n:Nat=>eI n) 0))(ho:off≤xs.length)(hm:xs.length≤1000000)
 (k1:k (.own id (xs.length+1) off (xs.length-off+1)) (hp.set id (.row none (xs.map (fun n:Nat=>eI n)++[eI n]) 0)) [])
 (k2:k (.own hp.length (xs.length-off+1) 0 (xs.length-off+1)) (hp++[.row none ((xs.drop off).map (fun n:Nat=>eI n)++[eI n]) 0]) []) :
 nqK (some none) [.own id xs.length off (xs.length-off),.p (.sl none [eI n])] hp k:=by
 have hx:xs.length-off+1≤YA:=by unfold YA;omega
 have hr:rds hp (.p (.sl none [eI n]))=some (none,[eI n]):=rfl
 have hw:win (xs.map fun n:Nat=>eI n) off (xs.length-off)=(xs.drop off).map fun n:Nat=>eI n:=by
  unfold win;rw[←List.map_drop];exact List.take_of_length_le (by simp)
 unfold nqK FF OH;simp only[hr,if_true,hh,List.length_map,List.length_cons,List.length_nil,Nat.zero_add];rw[if_pos ⟨trivial,trivial,by omega,hx,Nat.zero_le _⟩,hw]
 refine⟨by simp,fun y hy=>?_⟩
 simp only[List.mem_cons,List.not_mem_nil,or_false]at hy;rcases hy with rfl|rfl
 ·exact k1
 ·exact k2
theorem z4q {α β:Type}[DecidableEq α]{k:α}{v:β}:∀{l:List (α×β)} {e:α×β},e∈gC k v l→e∈l∨e=(k,v)
 | [],e,h=>by simp [gC]at h;exact .inr h
 | x::r,e,h=>by
  unfold gC at h;split at h
  ·rcases List.mem_cons.1 h with h|h
   ·exact .inr h
   ·exact .inl (List.mem_cons_of_mem _ h)
  ·rcases List.mem_cons.1 h with h|h
   ·exact .inl (h ▸ List.mem_cons_self)
   ·rcases z4q h with h|h
    ·exact .inl (List.mem_cons_of_mem _ h)
    ·exact .inr h
theorem z3J {α β:Type}[DecidableEq α]{k:α}{v:β}:∀{l:List (α×β)},RA k l=some v→(k,v)∈l
 | [],h=>by cases h
 | x::r,h=>by
  unfold RA at h;split at h
  ·rename_i he;cases h;subst he;simp
  ·exact List.mem_cons_of_mem _ (z3J h)
theorem z6l {n:Nat}{w:eD}(hw:∀ e∈w,e.2.length≤n)(k:Int):((RA k w).getD []).length≤n:=by
 cases hg:RA k w with
 | none=>simp
 | some v=>exact hw _ (z3J hg)
theorem zlN {n at_ t:Nat}{s:eD × List Nat}(hw:∀ e∈s.1,e.2.length≤n):∀e∈(GH at_ t s).1,e.2.length≤n+1:=by
 unfold GH;split
 ·intro e he;have:=hw e he;omega
 ·intro e he
  rcases z4q he with h|h
  ·have:=hw e h;omega
  ·subst h
   have:=z6l hw (at_:Int);simp [QH];omega
theorem z6f {n at_:Nat}{s:eD × List Nat}(hw:∀ e∈s.1,e.2.length≤n):∀(t:Nat),∀e∈(QG at_ t s).1,e.2.length≤n+t
 | 0=>hw
 | t+1=>zlN (z6f hw t)
set_option maxHeartbeats 1000000 in
theorem zev {Y:Ctx}(hY1:Y.fn sI=some oO)(hY2:Y.fn rI=some vL)(a b:Nat)(ha:a<16)(hb:b<16):bA Y sI [AI a,AI b] h K=K (.p (.str (MY a b))) h []:=by
 refine tA ?_;rw[z0V hY1 rfl (show mA h [AI a,AI b]=some ([AI a,AI b],h) from rfl) rfl]
 simp only[zdx];show ∃v h' x,_∧QP _ _ _ _ _ _ _ _ (qA [.t 4] false _ _)
 simp only[QP];refine⟨_,_,_,⟨rfl,rfl,rfl⟩,?_⟩;have em:vA mD pD [((a:Int),([]:List UInt8))] = .amap [⟨.int .i64 a,.p (.str []),0⟩] 1:=rfl
 have u0:=fun(hp:aA) (hh:hp[h.length]?=some (vA mD pD []))=>updP (b:=(a:Int)) (v:=[]) hh
 have e0:gC (a:Int) [] ([]:eD)=[((a:Int),[])]:=rfl
 have em0:vA mD pD ([]:eD) = .amap [] 0:=rfl
 rw[e0]at u0;simp only[em0]at u0;simp only[go_sem,u0];refine XA (fun t:Nat×aA×Nat×List Nat×Nat×Option Nat=>⟨[(1,AI b),(5,.mp h.length),(6,.own (h.length+(t.2.2.1+1)) t.2.2.2.1.length t.2.2.2.2.1 (t.2.2.2.1.length-t.2.2.2.2.1))]++(match t.2.2.2.2.2 with|none=>[]|some q=>[(7,AI q),(25,AI 2),(26,AB false)]),h++vA mD pD (bfs a t.1).1::t.2.1,[]⟩)
  (fun t=>t.1≤16∧Que t.2.1 t.2.2.1 t.2.2.2.1 t.2.2.2.2.1 (bfs a t.1).2∧t.2.2.2.1.length≤1+2*t.1) (fun t=>16-t.1) (0,[.row none [eI a] 0],0,[a],0,none) (by simp [bfs]) ⟨by simp,⟨rfl,by simp,rfl⟩,by simp⟩ ?_
 rintro⟨k,R,i,xs,off,oq⟩ ⟨h1,hq,h2⟩
 dsimp only at h1 hq h2 ⊢;have hqg:=hq.get
 have hle:=hq.le
 have heq:=hq.eq
 have hln:xs.length-off=(bfs a k).2.length:=by rw[←heq];simp
 by_cases hk:k<16
 ·obtain⟨hf,hne⟩:=z8D ha hk
  obtain⟨f1,f2,f3,f4⟩:=zee hf;have hpos:0<xs.length-off:=by rw[hln];exact List.length_pos_iff.2 hne
  have hoff:off<xs.length:=by omega
  obtain⟨q0,qr,hqe⟩:∃q0 qr,(bfs a k).2=q0::qr:=by
   cases hb2:(bfs a k).2 with
   | nil=>exact absurd hb2 hne
   | cons x y=>exact⟨x,y,rfl⟩
  have hx0:xs[off]?=some q0:=by
   have:(xs.drop off)[0]?=some q0:=by rw[heq,hqe];rfl
   rwa [List.getElem?_drop,Nat.add_zero]at this
  have hdr:xs.drop (off+1)=qr:=by
   rw[←List.drop_drop,heq,hqe];rfl
  have hq0:q0<16:=f3 q0 (by rw[hqe];simp)
  have hgq:(xs.map fun n:Nat=>eI n)[off]?=some (eI q0):=by rw[List.getElem?_map,hx0];rfl
  have hpi:(0:Int)<((xs.length-off:Nat):Int):=by omega
  have hl1:1≤xs.length-off:=by omega
  have hbn:bfs a (k+1)=QG q0 2 ((bfs a k).1,qr):=by show popS _=_;unfold popS;rw[hqe]
  have e3:xs.length-off-1=xs.length-(off+1):=by omega
  have hcond:off+(xs.length-off)≤xs.length:=by omega
  have hNL:∀(e:List (Nat×AV)),rA (some [1,5,6,7,25]) e=rA (some [1,5,6,7,25]) e:=fun _=>rfl
  rcases oq with _|oq
  all_goals
  simp only[List.append_nil,List.cons_append,List.nil_append,go_sem,List.getElem?_cons_succ,hqg,hpi,hpos,hgq,hl1,hcond];all_goals
  clear u0 em em0 e0;generalize hw0:((bfs a k).1,qr)=s0 at *;have es1:(bfs a k).1=s0.1:=by rw[←hw0]
  have es2:qr=s0.2:=by rw[←hw0]
  rw[es1,e3];refine XA (fun t:Nat×aA×Nat×List Nat×Nat=>⟨[(1,AI b),(5,.mp h.length),(6,.own (h.length+(t.2.2.1+1)) t.2.2.2.1.length t.2.2.2.2 (t.2.2.2.1.length-t.2.2.2.2)),(7,AI q0),(25,AI t.1)],h++vA mD pD (QG q0 t.1 s0).1::t.2.1,[]⟩)
   (fun t=>t.1≤2∧Que t.2.1 t.2.2.1 t.2.2.2.1 t.2.2.2.2 (QG q0 t.1 s0).2∧t.2.2.2.1.length≤1+2*k+t.1) (fun t=>2-t.1) (0,R,i,xs,off+1) rfl ⟨by simp,⟨hqg,hoff,by rw[hdr,es2];rfl⟩,by simp;omega⟩ ?_
  rintro⟨j,R',i',ys,of'⟩ ⟨j1,jq,j2⟩
  dsimp only at j1 jq j2 ⊢;have jg:=jq.get
  have jle:=jq.le
  have jeq:=jq.eq
  by_cases hj:j<2
  ·have hji:(j:Int)<2:=by omega
   have qn:=fun h K=>zew (h:=h) (K:=K) hY2 q0 j hq0 hj
   have hvis:QG q0 (j+1) s0=GH q0 j (QG q0 j s0):=rfl
   generalize hsj:QG q0 j s0=s at *;have lq:=fun(hp:aA) (hh:hp[h.length]?=some (vA mD pD s.1))=>lookQ (b:=(nxt q0 j:Int)) hh
   have lp:=fun(hp:aA) (hh:hp[h.length]?=some (vA mD pD s.1))=>z4j (b:=(q0:Int)) hh
   have up:=fun(hp:aA) (v:List UInt8) (hh:hp[h.length]?=some (vA mD pD s.1))=>updP (b:=(nxt q0 j:Int)) (v:=v) hh
   have w1:IntKind.i64.wrap ((j:Int)+1)=((j+1:Nat):Int):=BA _ (by omega) (by omega)
   cases hs:(RA (nxt q0 j:Int) s.1).isSome with
   | true=>
    have hv:GH q0 j s=s:=by unfold GH;rw[if_pos hs]
    rw[hv]at hvis;simp only[go_sem,hji,↓qn,qn,lq,hs,w1];exact⟨(j+1,R',i',ys,of'),by dsimp only;rw[hvis],⟨by dsimp only;omega,by dsimp only;rw[hvis];exact jq,by dsimp only;omega⟩,by dsimp only;omega⟩
   | false=>
    have hv:GH q0 j s=(gC (nxt q0 j:Int) ((RA (q0:Int) s.1).getD []++QH j) s.1,s.2++[nxt q0 j]):=by unfold GH;rw[hs];rfl
    rw[hv]at hvis;have w2:IntKind.i64.wrap (48+(j:Int))=((48+j:Nat):Int):=BA _ (by omega) (by omega)
    have w3:IntKind.i32.wrap ((48+j:Nat):Int)=((48+j:Nat):Int):=by
     have:j=0∨j=1:=by omega
     rcases this with rfl|rfl <;> rfl
    have w4:(0:Int)≤((48+j:Nat):Int)∧((48+j:Nat):Int)<128:=by omega
    have hln2:=z6l (z6f (n:=16) (at_:=q0) (s:=s0) (by rw[←es1];exact f4) j) (q0:Int)
    rw[hsj]at hln2;have w5:((RA (q0:Int) s.1).getD []).length+(QH j).length≤TM:=by have:(QH j).length=1:=rfl;unfold TM;omega
    have w6:[UInt8.ofNat ((48+j:Nat):Int).toNat]=QH j:=rfl
    simp only[go_sem,hji,↓qn,qn,lq,hs,lp,up,w1,w2,w3,w4,w5,w6];have hh1:(h++vA mD pD (gC (nxt q0 j:Int) ((RA (q0:Int) s.1).getD []++QH j) s.1)::R')[h.length+(i'+1)]?=some (.row none (ys.map fun n:Nat=>eI n) 0):=by
     rw[List.getElem?_append_right (by omega)];simpa using jg
    have hi':i'<R'.length:=uA jg
    refine zgz hh1 jle (by omega) ?_ ?_
    ·refine⟨(j+1,R'.set i' (.row none (ys.map (fun n:Nat=>eI n)++[eI (nxt q0 j)]) 0),i',ys++[nxt q0 j],of'),?_,⟨by dsimp only;omega,⟨?_,?_,?_⟩,?_⟩,by dsimp only;omega⟩
     ·dsimp only
      rw[hvis,List.set_append_right _ _ (by omega)]
      simp only[List.length_append,List.length_cons,List.length_nil,Nat.add_sub_cancel_left,List.set_cons_succ];rw[show ys.length+1-of'=ys.length-of'+1 by omega]
     ·dsimp only
      rw[List.getElem?_set_self hi'];simp
     ·simp;omega
     ·dsimp only
      rw[hvis,List.drop_append_of_le_length jle,jeq]
     ·simp;omega
    ·refine⟨(j+1,R'++[.row none ((ys.drop of').map (fun n:Nat=>eI n)++[eI (nxt q0 j)]) 0],R'.length,ys.drop of'++[nxt q0 j],0),?_,⟨by dsimp only;omega,⟨?_,?_,?_⟩,?_⟩,by dsimp only;omega⟩
     ·dsimp only
      rw[hvis];simp
     ·simp
     ·simp
     ·dsimp only
      rw[hvis,jeq,List.drop_zero]
     ·simp;omega
  ·have hj2:j=2:=by omega
   subst hj2;simp only[go_sem];refine⟨(k+1,R',i',ys,of',some q0),?_,⟨by dsimp only;omega,by dsimp only;rw[hbn];exact jq,by dsimp only;omega⟩,by dsimp only;omega⟩
   dsimp only;rw[hbn]
 ·have hk16:k=16:=by omega
  subst hk16;obtain⟨_,hne⟩:=z8C ha;have hz:xs.length-off=0:=by rw[hln,hne];rfl
  have lk:=fun(hp:aA) (hh:hp[h.length]?=some (vA mD pD (bfs a 16).1))=>z4j (b:=(b:Int)) hh
  have hpv:(RA (b:Int) (bfs a 16).1).getD []=MY a b:=rfl
  rcases oq with _|oq <;> simp only[List.append_nil,List.cons_append,List.nil_append,go_sem,hz,lk,hpv]
end Go.Am
end
section
/- ready: a bB call,computed. -/
open Go
set_option linter.all false
namespace Go.Am
def orcP (f:Nat)(a:List AV):Option AV:=bif Nat.beq f sI then match a with
 | [.p (.int .i64 x),.p (.int .i64 y)]=>bif decide (0≤x)&&decide (x<16)&&decide (0≤y)&&decide (y<16) then some (.p (.str (MY x.toNat y.toNat))) else none
 | _=>none else none
theorem zg6:∀ f a v,orcP f a=some v→∀ h (K:jA),K v h []→bA X0 f a h K:=by
 intro f a v hv h K hK;unfold orcP at hv;cases hf:Nat.beq f sI with
 | false=>rw[hf]at hv;cases hv
 | true=>
  have hf':=Nat.eq_of_beq_eq_true hf
  rw[hf]at hv;subst hf';simp only[cond_true]at hv;split at hv
  ·rename_i x y
   cases hc:(decide (0≤x)&&decide (x<16)&&decide (0≤y)&&decide (y<16)) with
   | false=>rw[hc]at hv;cases hv
   | true=>
    rw[hc]at hv;simp only[cond_true,Option.some.injEq]at hv;simp only[Bool.and_eq_true,decide_eq_true_eq]at hc;obtain⟨a,rfl⟩:=Int.eq_ofNat_of_zero_le hc.1.1.1;obtain⟨b,rfl⟩:=Int.eq_ofNat_of_zero_le hc.1.2;have:=zev (h:=h) (K:=K) zma zlZ a b (by omega) (by omega)
    rw[this];subst hv;exact hK
  ·cases hv
theorem zjy:YL X0 orcP 1000 60 BJ [] []=some (AB true,[],[]):=by kernel_rfl
theorem zns:bA X0 BJ [] [] fun v h x=>v=AB true∧h=[]∧x=[]:=(z6t zg6 1000 60 zjy _).2 ⟨rfl,rfl,rfl⟩
theorem oS {h:aA}{K:jA}:bA X BJ [] h K=K (AB true) h []:=z4g (by kernel_rfl) rfl
end Go.Am
end
section
/- UndoneIsNothing returns true. -/
open Go
set_option linter.all false
set_option maxRecDepth 100000
namespace Go.Am
variable {L:List Int} {a:Int} {h:aA} {K:jA}
attribute [-go_sem] GA
def AG:List Nm:=[[115,99,97,110],[102,108,97,115,104],[98,117,114,110]]
theorem zeg {n:Nat}{tries:Int}(h1:1≤n)(h2:n≤3)(t1:1≤tries)(t2:tries≤3):uI (AG.take n) tries=0∧(∀s∈AG.take n,s.length≤1000000)∧(AG.take n).length≤1000:=by
 have hi:inB 1 tries 10=true:=by unfold inB;simp;omega
 refine⟨?_,fun s hs=>?_,by rw[List.length_take];show min n 3≤1000;omega⟩
 ·unfold uI
  have:n=1∨n=2∨n=3:=by omega
  rcases this with e|e|e <;> subst e
  ·rw[if_neg (by decide),if_neg (by decide),if_neg (by decide),hi];rfl
  ·rw[if_neg (by decide),if_neg (by decide),if_neg (by decide),hi];rfl
  ·rw[if_neg (by decide),if_neg (by decide),if_neg (by decide),hi];rfl
 ·have:=List.mem_of_mem_take hs
  simp only[AG,List.mem_cons,List.not_mem_nil,or_false]at this;rcases this with e|e|e <;> rw[e] <;> simp
theorem zet (hp:UA 10 a):aE gH [] L a (fun v a2=>a2=a+1+1∧∃(n:Nat) (tries:Int),1≤n∧n≤3∧1≤tries∧tries≤3∧v=fF (AG.take n) tries):=by
 refine aE.of fun h id hid=>?_
 rw[z9t rfl];have p0:UA 0 a:=NC hp (by omega) (by omega)
 have p1:UA 0 (a+1):=NC hp (by omega) (by omega)
 have r1:1≤YC 1 3 L a∧YC 1 3 L a≤3:=sN L a (by omega) (by omega)
 have r2:1≤YC 1 3 L (a+1)∧YC 1 3 L (a+1)≤3:=sN L (a+1) (by omega) (by omega)
 obtain⟨n,hn⟩:∃n:Nat,YC 1 3 L a=n:=⟨(YC 1 3 L a).toNat,by omega⟩
 generalize ht:YC 1 3 L (a+1)=tries at *;have n3:n≤3:=by omega
 have hw:win [PV.str [115,99,97,110],.str [102,108,97,115,104],.str [98,117,114,110]] 0 n=(AG.take n).map PV.str:=by simp [win,AG,List.map_take]
 simp only[lP,go_sem,hid,p0,p1,hn,ht,n3,hw,splice];first
 | exact⟨a+1+1,⟨rfl,n,tries,by omega,n3,by omega,by omega,rfl⟩,rfl⟩
 | trace_state
end Go.Am
end
section
/- What the laws of boards followed ask besides: flows drawn,faults,equal lists. -/
open Go
set_option linter.all false
set_option maxRecDepth 100000
namespace Go.Am
variable {h:aA} {K:jA} {L:List Int} {a:Int}
attribute [-go_sem] GA
theorem zjU (l:List Nm)(hl:l.length≤1000000):bA X qM [rB l,rB l] h K=K (AB true) h []:=by
 refine tA ?_;rw[z9A rfl];simp only[wP,go_sem];refine XA (fun k:Nat=>⟨[(0,rB l),(1,rB l),(12,AI l.length),(13,AI k)],h,[]⟩) (fun k=>k≤l.length) (fun k=>l.length-k) 0 rfl (by simp) ?_
 intro k hk;rcases Nat.lt_or_ge k l.length with hlt|hge
 ·have hg:=dC PV.str hlt
  have w2:IntKind.i64.wrap ((k:Int)+1)=((k+1:Nat):Int):=BA _ (by omega) (by omega)
  simp only[go_sem,hlt,hg,w2];exact⟨k+1,rfl,by omega,by omega⟩
 ·have e1:k=l.length:=by omega
  subst e1;simp only[go_sem,Nat.lt_irrefl]
end Go.Am
end
section
/- The abstract machine,part R: objects renamed;a heap of one object and what is made behind it,laid into any heap. -/
set_option linter.unusedSimpArgs false
set_option linter.unusedVariables false
namespace Go.Am
structure Loc where
 h:aA
 id:Nat
 lt:id<h.length
def Loc.r (R:Loc):Nat→Nat
 | 0=>R.id
 | k+1=>R.h.length+k
def Loc.rt (R:Loc):Nat→Nat
 | 0=>0
 | k+1=>R.r k+1
mutual
def AV.ren (r:Nat→Nat):AV→AV
 | .own id g off len=>.own (r id) g off len
 | .ref id off=>.ref (r id) off
 | .rref id g i off=>.rref (r id) g i off
 | .mp id=>.mp (r id)
 | .it id=>.it (r id)
 | .bt k t id g=>.bt k t (r id) g
 | .fn f cs=>.fn f (AV.rens r cs)
 | .agg cs=>.agg (AV.rens r cs)
 | .tup vs=>.tup (AV.rens r vs)
 | .p v=>.p v
 | .sl0 sh=>.sl0 sh
 | .vp v=>.vp v
 | .nilp=>.nilp
 | .nilm=>.nilm
 | .nilf=>.nilf
 | .nili=>.nili
 | .ifc=>.ifc
 | .anyb=>.anyb
 | .skp=>.skp
 | .und=>.und
 | .anyp=>.anyp
def AV.rens (r:Nat→Nat):List AV→List AV
 | []=>[]
 | v::l=>v.ren r::AV.rens r l
end
theorem kE (r:Nat→Nat):∀l,AV.rens r l=l.map (AV.ren r)
 | []=>rfl
 | v::l=>by rw[AV.rens,kE r l];rfl
def ME.ren (r:Nat→Nat)(e:ME):ME:={ e with val:=e.val.ren r }
def Obj.ren (r:Nat→Nat):Obj→Obj
 | .box cs=>.box (cs.map (AV.ren r))
 | .row sh xs fz=>.row sh xs fz
 | .amap es c=>.amap (es.map (ME.ren r)) c
 | .iter m s l k=>.iter (m.map r) s l k
 | .arow sh cs=>.arow sh (cs.map (AV.ren r))
def Loc.T (R:Loc):aA→aA
 | []=>R.h
 | o::G=>R.h.set R.id (o.ren R.r)++G.map (Obj.ren R.r)
def Loc.xr (R:Loc)(x:Esc):Esc:=x.map fun y=>(R.r y.1,R.rt y.2)
variable (R:Loc)
theorem Loc.r_lt {i j:Nat}:R.r i<R.r j↔i<j:=by
 have:=R.lt;cases i <;> cases j <;> simp only[Loc.r] <;> omega
theorem Loc.r_inj {i j:Nat}:R.r i=R.r j↔i=j:=by
 have:=R.lt;cases i <;> cases j <;> simp only[Loc.r] <;> omega
theorem Loc.r_le {i j:Nat}:R.r i≤R.r j↔i≤j:=by
 have:=R.lt;cases i <;> cases j <;> simp only[Loc.r] <;> omega
theorem Loc.r_add {k:Nat}(h:1≤k)(n:Nat):R.r (k+n)=R.r k+n:=by
 obtain⟨m,rfl⟩:∃m,k=m+1:=⟨k-1,by omega⟩
 have:m+1+n=(m+n)+1:=by omega
 rw[this];simp only[Loc.r];omega
theorem Loc.T_len {H:aA}(h:H≠[]):(R.T H).length=R.r H.length:=by
 cases H with
 | nil=>exact absurd rfl h
 | cons o G=>simp [Loc.T,Loc.r]
theorem Loc.T_get {H:aA}(h:H≠[])(i:Nat):(R.T H)[R.r i]?=(H[i]?).map (Obj.ren R.r):=by
 have:=R.lt;cases H with
 | nil=>exact absurd rfl h
 | cons o G=>
  cases i with
  | zero=>simp only[Loc.T,Loc.r];rw[List.getElem?_append_left (by simpa using R.lt),List.getElem?_set_self (by exact R.lt)];rfl
  | succ k=>simp only[Loc.T,Loc.r];rw[List.getElem?_append_right (by simp),List.length_set,Nat.add_sub_cancel_left,List.getElem?_map];rfl
theorem Loc.T_set {H:aA}(h:H≠[])(i:Nat)(o:Obj):R.T (H.set i o)=(R.T H).set (R.r i) (o.ren R.r):=by
 cases H with
 | nil=>exact absurd rfl h
 | cons o' G=>
  cases i with
  | zero=>
   simp only[List.set_cons_zero,Loc.T,Loc.r];rw[List.set_append_left _ _ (by simpa using R.lt),List.set_set]
  | succ k=>
   simp only[List.set_cons_succ,Loc.T,Loc.r];rw[List.set_append_right _ _ (by simp),List.length_set,Nat.add_sub_cancel_left,List.map_set]
theorem Loc.T_app {H:aA}(h:H≠[])(G:aA):R.T (H++G)=R.T H++G.map (Obj.ren R.r):=by
 cases H with
 | nil=>exact absurd rfl h
 | cons o G'=>simp [Loc.T]
theorem Loc.T_take {H:aA}(h:H≠[]){n:Nat}(hn:1≤n):R.T (H.take n)=(R.T H).take (R.r n):=by
 cases H with
 | nil=>exact absurd rfl h
 | cons o G=>
  obtain⟨m,rfl⟩:∃m,n=m+1:=⟨n-1,by omega⟩
  simp only[List.take_succ_cons,Loc.T,Loc.r];rw[List.take_append,List.length_set,Nat.add_sub_cancel_left,List.map_take];congr 1
  exact(List.take_of_length_le (by simp)).symm
theorem Loc.rt_le {i j:Nat}(h:i≤j):R.rt i≤R.rt j:=by
 cases i with
 | zero=>simp [Loc.rt]
 | succ i=>
  cases j with
  | zero=>omega
  | succ j=>simp only[Loc.rt];have:=(R.r_le (i:=i) (j:=j)).2 (by omega);omega
theorem Loc.rt_max (i j:Nat):R.rt (max i j)=max (R.rt i) (R.rt j):=by
 rcases Nat.le_total i j with h|h
 ·rw[Nat.max_eq_right h,Nat.max_eq_right (R.rt_le h)]
 ·rw[Nat.max_eq_left h,Nat.max_eq_left (R.rt_le h)]
theorem Loc.lt_rt {i t:Nat}:R.r i<R.rt t↔i<t:=by
 cases t with
 | zero=>simp [Loc.rt]
 | succ t=>simp only[Loc.rt];have:=R.r_le (i:=i) (j:=t);omega
theorem Loc.rt_le_r {t n:Nat}:R.rt t≤R.r n↔t≤n:=by
 have:=R.lt;cases t with
 | zero=>simp [Loc.rt]
 | succ t=>simp only[Loc.rt];have:=R.r_lt (i:=t) (j:=n);omega
theorem Loc.rt_le_rt {s t:Nat}:R.rt s≤R.rt t↔s≤t:=by
 cases s with
 | zero=>simp [Loc.rt]
 | succ s=>
  cases t with
  | zero=>simp [Loc.rt]
  | succ t=>simp only[Loc.rt];have:=R.r_le (i:=s) (j:=t);omega
theorem Loc.rt_two {t:Nat}(h:2≤t):R.rt t=R.r t:=by
 obtain⟨m,rfl⟩:∃m,t=m+1+1:=⟨t-2,by omega⟩
 simp only[Loc.rt,Loc.r];omega
mutual
theorem Loc.top:∀ v:AV,(v.ren R.r).top=R.rt v.top
 | .own id _ _ _=>by simp [AV.ren,AV.top,Loc.rt]
 | .ref id _=>by simp [AV.ren,AV.top,Loc.rt]
 | .rref id _ _ _=>by simp [AV.ren,AV.top,Loc.rt]
 | .mp id=>by simp [AV.ren,AV.top,Loc.rt]
 | .it id=>by simp [AV.ren,AV.top,Loc.rt]
 | .bt _ _ id _=>by simp [AV.ren,AV.top,Loc.rt]
 | .fn _ cs=>by simp only[AV.ren,AV.top];exact Loc.tops cs
 | .agg cs=>by simp only[AV.ren,AV.top];exact Loc.tops cs
 | .tup cs=>by simp only[AV.ren,AV.top];exact Loc.tops cs
 | .p _ | .sl0 _ | .vp _ | .nilp | .nilm | .nilf | .nili | .ifc | .anyb | .skp | .und | .anyp=>by simp [AV.ren,AV.top,Loc.rt]
theorem Loc.tops:∀ l:List AV,AV.tops (AV.rens R.r l)=R.rt (AV.tops l)
 | []=>by simp [AV.rens,AV.tops,Loc.rt]
 | v::l=>by simp only[AV.rens,AV.tops,Loc.top v,Loc.tops l,Loc.rt_max]
end
mutual
theorem YK (r:Nat→Nat):∀v:AV,v.top=0→v.ren r=v
 | .own id _ _ _,h=>by simp [AV.top]at h
 | .ref id _,h=>by simp [AV.top]at h
 | .rref id _ _ _,h=>by simp [AV.top]at h
 | .mp id,h=>by simp [AV.top]at h
 | .it id,h=>by simp [AV.top]at h
 | .bt _ _ id _,h=>by simp [AV.top]at h
 | .fn _ cs,h=>by simp only[AV.ren];rw[uN r cs h]
 | .agg cs,h=>by simp only[AV.ren];rw[uN r cs h]
 | .tup cs,h=>by simp only[AV.ren];rw[uN r cs h]
 | .p _,_ | .sl0 _,_ | .vp _,_ | .nilp,_ | .nilm,_ | .nilf,_ | .nili,_ | .ifc,_ | .anyb,_ | .skp,_ | .und,_ | .anyp,_=>by simp [AV.ren]
theorem uN (r:Nat→Nat):∀l:List AV,AV.tops l=0→AV.rens r l=l
 | [],_=>rfl
 | v::l,h=>by
  simp only[AV.tops]at h;rw[AV.rens,YK r v (by omega),uN r l (by omega)]
end
theorem bX {r:Nat→Nat}{l:List AV}(h:AV.tops l=0):l.map (AV.ren r)=l:=by rw[←kE];exact uN r l h
variable {r:Nat→Nat}
@[simp] theorem ren_p (v:PV):(AV.p v).ren r = .p v:=rfl
theorem zk4 (v:AV):(v.ren r).sc=v.sc:=by cases v <;> rfl
theorem eJ (v:AV):(v.ren r).cells=v.cells.map (List.map (AV.ren r)):=by
 cases v with
 | p v=>
  cases v with
  | agg cs=>
   simp only[AV.ren,AV.cells];split
   ·simp [Function.comp_def,AV.ren]
   ·rfl
  | _=>rfl
 | agg cs=>
  have e:(AV.rens r cs).all AV.sc=cs.all AV.sc:=by rw[kE,List.all_map];congr 1;funext v;exact zk4 v
  simp only[AV.ren,AV.cells,e];split
  ·rw[kE];rfl
  ·rfl
 | _=>rfl
theorem nL:∀ l:List AV,unp (l.map (AV.ren r))=unp l
 | []=>rfl
 | v::l=>by cases v <;> simp [unp,AV.ren,nL l]
theorem fX (cs:List AV):mkA (cs.map (AV.ren r))=(mkA cs).ren r:=by
 unfold mkA;rw[nL];split
 ·rfl
 ·rw[AV.ren,kE]
theorem QO (sh:Sh)(off:Nat)(cs:List AV):cut sh off (cs.map (AV.ren r))=(cut sh off cs).map (AV.ren r):=by
 unfold cut;cases sh with
 | none=>simp only[List.getElem?_map]
 | some n=>
  simp only[List.length_map];split
  ·rw[←List.map_drop,←List.map_take,fX];rfl
  ·rfl
theorem oZ {α β:Type}(f:α→β)(cs vs:List α)(off:Nat):splice (cs.map f) off (vs.map f)=(splice cs off vs).map f:=by
 unfold splice;simp [List.map_take,List.map_drop]
theorem zeO (cs:List AV):RF (cs.map (AV.ren r))=RF cs:=by
 match cs with
 | []=>rfl
 | [a]=>rfl
 | [a,b]=>
  cases b with
  | bt k t id g=>
   match k with
   | 0=>rfl
   | 1=>rfl
   | (k+2)=>rfl
  | _=>rfl
 | a::b::c::l=>
  simp [RF]
theorem qH (v:AV):dB (v.ren r)=dB v:=by cases v <;> rfl
theorem z4x (v:AV):n64 (v.ren r)=n64 v:=by cases v <;> rfl
theorem iX (v:AV):yF (v.ren r)=yF v:=by cases v <;> rfl
theorem zgu (k:Nat)(v:AV):CI k (v.ren r)=CI k v:=by
 match k with
 | 0=>
  cases v with
  | bt k t id g=>cases k <;> rfl
  | p v=>rfl
  | _=>rfl
 | 1=>cases v <;> rfl
 | 2=>cases v <;> rfl
 | 3=>cases v <;> rfl
 | k+4=>cases v <;> rfl
theorem zgs (k:Nat)(v:AV):wF k (v.ren r)=wF k v:=by cases v <;> rfl
theorem tQ (kk:Sh × List Nat)(v:AV):cC kk (v.ren r)=cC kk v:=by cases v <;> rfl
theorem WM (k:PV):∀es:List ME,CB k (es.map (ME.ren r))=CB k es
 | []=>rfl
 | e::es=>by simp only[List.map_cons,CB,WM k es];rfl
theorem WL (id:Nat)(v:AV):YB (R.r id) (v.ren R.r)=R.xr (YB id v):=by
 unfold YB;rw[R.top];by_cases h:id<v.top
 ·rw[if_pos h,if_pos (R.lt_rt.2 h)];rfl
 ·rw[if_neg h,if_neg (by rw[R.lt_rt];exact h)];rfl
theorem zdE (id:Nat)(cs:List AV)(v:AV):oF (R.r id) (cs.map (AV.ren R.r)) (v.ren R.r)=R.xr (oF id cs v):=by
 unfold oF;rw[zeO,R.top,←kE,R.tops,WL];have:decide (R.rt v.top≤R.rt (AV.tops cs))=decide (v.top≤AV.tops cs):=by
  by_cases h:v.top≤AV.tops cs
  ·rw[decide_eq_true h,decide_eq_true (R.rt_le_rt.2 h)]
  ·rw[decide_eq_false h,decide_eq_false (by rw[R.rt_le_rt];exact h)]
 rw[this];cases (RF cs&&decide (v.top≤AV.tops cs)) <;> rfl
variable {H:aA}
theorem MI (hH:H≠[])(v:AV):rd (R.T H) (v.ren R.r)=rd H v:=by
 cases v with
 | own id g off len=>
  simp only[AV.ren,rd,R.T_get hH];cases H[id]? with
  | none=>rfl
  | some o=>cases o <;> rfl
 | p v=>cases v <;> rfl
 | _=>rfl
theorem WR (hH:H≠[])(v:AV):rds (R.T H) (v.ren R.r)=rds H v:=by
 unfold rds;cases v with
 | p v=>cases v <;> rfl
 | own id g off len=>exact MI R hH (.own id g off len)
 | _=>rfl
theorem FM {id k:Nat}(hH:H≠[]):frz H id k≠[]:=by
 unfold frz;split
 ·intro e;exact hH (by have:=congrArg List.length e;simpa using this)
 ·exact hH
theorem lQ (hH:H≠[])(id k:Nat):frz (R.T H) (R.r id) k=R.T (frz H id k):=by
 unfold frz;rw[R.T_get hH];cases H[id]? with
 | none=>rfl
 | some o=>
  cases o with
  | row sh xs fz=>simp only[Option.map_some,Obj.ren];rw[R.T_set hH];rfl
  | _=>rfl
abbrev Loc.y2 {α:Type}(y:α × aA):α×aA:=(y.1,R.T y.2)
theorem zjn (hH:H≠[])(v:AV):UD (R.T H) (v.ren R.r)=(UD H v).map R.y2:=by
 cases v with
 | own id g off len=>
  have:=MI R hH (.own id g off len);simp only[AV.ren]at this;simp only[AV.ren,UD,this,lQ R hH];cases rd H (.own id g off len) <;> rfl
 | _=>rfl
theorem z4F {v:AV}{y:PV × aA}(hH:H≠[])(h:UD H v=some y):y.2≠[]:=by
 cases v with
 | own id g off len=>
  simp only[UD]at h;obtain⟨z,_,rfl⟩:=Option.map_eq_some_iff.1 h;exact FM hH
 | p v=>simp only[UD,Option.some.injEq]at h;subst h;exact hH
 | sl0 v=>simp only[UD,Option.some.injEq]at h;subst h;exact hH
 | nilp=>simp only[UD,Option.some.injEq]at h;subst h;exact hH
 | _=>simp [UD]at h
theorem z4G:∀ {H:aA} (hH:H≠[]) (l:List AV),uD (R.T H) (l.map (AV.ren R.r))=(uD H l).map R.y2
 | H,hH,[]=>rfl
 | H,hH,v::l=>by
  simp only[List.map_cons,uD,zjn R hH];cases hv:UD H v with
  | none=>rfl
  | some y=>
   obtain⟨x,h1⟩:=y;have:=z4F hH hv;simp only[Option.map_some,z4G this l];cases uD h1 l <;> rfl
theorem SY:∀ {H:aA} (hH:H≠[]) (l:List AV) {y:List PV × aA},uD H l=some y→y.2≠[]
 | H,hH,[],y,h=>by simp only[uD,Option.some.injEq]at h;subst h;exact hH
 | H,hH,v::l,y,h=>by
  simp only[uD]at h;split at h
  ·rename_i x h1 hv
   split at h
   ·rename_i xs h2 hl
    cases h;exact SY (y:=(xs,h2)) (z4F hH hv) l hl
   ·cases h
  ·cases h
theorem zjq (hH:H≠[])(id g:Nat):uH (R.T H) (R.r id) g=(uH H id g).map R.y2:=by
 unfold uH;rw[R.T_get hH];cases H[id]? with
 | none=>rfl
 | some o=>
  cases o with
  | arow sh cs=>
   simp only[Option.map_some,Obj.ren,List.length_map];split
   ·rw[z4G R hH]
    cases hp:uD H cs with
    | none=>rfl
    | some y=>
     obtain⟨vs,h1⟩:=y;have hne:=SY hH cs hp
     simp only[Option.map_some];have e:(R.T h1).set (R.r id) (.row sh (FC sh g vs) 0)=R.T (h1.set id (.row sh (FC sh g vs) 0)):=by rw[R.T_set hne];rfl
     rw[e,lQ R (by intro q;exact hne (by have:=congrArg List.length q;simpa using this))]
   ·rfl
  | _=>rfl
theorem OC {o:Obj}{id:Nat}(hH:H≠[]):H.set id o≠[]:=fun q=>hH (by have:=congrArg List.length q;simpa using this)
theorem zjr {id g:Nat}{y:PV × aA}(hH:H≠[])(h:uH H id g=some y):y.2≠[]:=by
 unfold uH at h;split at h
 ·split at h
  ·split at h
   ·rename_i vs h1 hv
    cases h;exact FM (OC (SY hH _ hv))
   ·cases h
  ·cases h
 ·cases h
mutual
theorem QR:∀ {H:aA} (hH:H≠[]) (v:AV),pur (R.T H) (v.ren R.r)=(pur H v).map R.y2
 | H,hH,.own id g off len=>by
  have:=MI R hH (.own id g off len);simp only[AV.ren]at this;simp only[AV.ren,pur,this,lQ R hH];cases rd H (.own id g off len) <;> rfl
 | H,hH,.bt k t id g=>by
  simp only[AV.ren,pur,zjq R hH];cases Nat.beq k 3 <;> rfl
 | H,hH,.agg cs=>by
  simp only[AV.ren,pur,z4J hH cs];cases VD H cs <;> rfl
 | H,hH,.p _|H,hH,.sl0 _|H,hH,.vp _|H,hH,.nilp|H,hH,.nilm|H,hH,.nilf|H,hH,.nili|H,hH,.ifc|H,hH,.anyb|H,hH,.skp|H,hH,.und|H,hH,.anyp
 | H,hH,.ref _ _|H,hH,.rref _ _ _ _|H,hH,.mp _|H,hH,.it _|H,hH,.fn _ _|H,hH,.tup _=>by simp [AV.ren,pur]
theorem z4J:∀ {H:aA} (hH:H≠[]) (l:List AV),VD (R.T H) (AV.rens R.r l)=(VD H l).map R.y2
 | H,hH,[]=>by simp [AV.rens,VD]
 | H,hH,v::l=>by
  simp only[AV.rens,VD,QR hH v];cases hv:pur H v with
  | none=>rfl
  | some y=>
   obtain⟨x,h1⟩:=y;have:=KI hH v hv;simp only[Option.map_some,z4J this l];cases VD h1 l <;> rfl
theorem KI:∀ {H:aA} (hH:H≠[]) (v:AV) {y:PV × aA},pur H v=some y→y.2≠[]
 | H,hH,.own id g off len,y,h=>by
  simp only[pur]at h;obtain⟨z,_,rfl⟩:=Option.map_eq_some_iff.1 h;exact FM hH
 | H,hH,.bt k t id g,y,h=>by
  simp only[pur]at h;cases hk:Nat.beq k 3 with
  | true=>rw[hk]at h;exact zjr hH h
  | false=>rw[hk]at h;cases h
 | H,hH,.agg cs,y,h=>by
  simp only[pur]at h;split at h
  ·rename_i vs h1 hp
   cases h;exact z4K hH cs hp
  ·cases h
 | H,hH,.p v,y,h=>by simp only[pur,Option.some.injEq]at h;subst h;exact hH
 | H,hH,.sl0 v,y,h=>by simp only[pur,Option.some.injEq]at h;subst h;exact hH
 | H,hH,.nilp,y,h=>by simp only[pur,Option.some.injEq]at h;subst h;exact hH
 | H,hH,.vp _,y,h|H,hH,.nilm,y,h|H,hH,.nilf,y,h|H,hH,.nili,y,h|H,hH,.ifc,y,h|H,hH,.anyb,y,h|H,hH,.skp,y,h|H,hH,.und,y,h|H,hH,.anyp,y,h
 | H,hH,.ref _ _,y,h|H,hH,.rref _ _ _ _,y,h|H,hH,.mp _,y,h|H,hH,.it _,y,h|H,hH,.fn _ _,y,h|H,hH,.tup _,y,h=>by simp [pur]at h
theorem z4K:∀ {H:aA} (hH:H≠[]) (l:List AV) {y:List PV × aA},VD H l=some y→y.2≠[]
 | H,hH,[],y,h=>by simp only[VD,Option.some.injEq]at h;subst h;exact hH
 | H,hH,v::l,y,h=>by
  simp only[VD]at h;split at h
  ·rename_i x h1 hv
   split at h
   ·rename_i xs h2 hl
    cases h;exact z4K (y:=(xs,h2)) (KI hH v hv) l hl
   ·cases h
  ·cases h
end
theorem FG (hH:H≠[])(v:AV):oB (R.T H) (v.ren R.r)=(oB H v).map fun y=>(R.r y.1,y.2.1.map (ME.ren R.r),y.2.2):=by
 cases v with
 | mp id=>
  simp only[AV.ren,oB,R.T_get hH];cases H[id]? with
  | none=>rfl
  | some o=>cases o <;> rfl
 | _=>rfl
end Go.Am
end
section
/- The abstract machine,part R,2: operations on renamed objects. -/
set_option linter.unusedSimpArgs false
set_option linter.unusedVariables false
namespace Go.Am
variable (R:Loc) {H:aA}
def Opd.cl:Opd→Bool
 | .c v=>v.top==0
 | _=>true
def AO.opds:AO→List Opd
 | .mv x | .box x | .load _ x | .nilchk x | .isnil _ _ x | .mkif x | .un _ x | .conv _ x | .faddr _ _ x | .field _ _ x | .ext x _ | .len x | .lens x | .lenm x | .clr _ _ x | .mrange x | .mentry x=>[x]
 | .pick a b c | .mupd _ a b c | .estore a b c=>[a,b,c]
 | .build _ ps=>ps.map fun y=>y.2.2
 | .bsl _ _ _ _ ps=>ps.map fun y=>y.2
 | .store _ a b | .bin _ a b | .eqa _ _ a b | .mksl _ _ a b | .iaddr _ a b | .iaddra _ _ a b | .idxa _ _ a b | .idxs a b | .look _ _ _ a b | .ment _ _ a b | .mdel _ a b | .app _ a b | .copy _ a b=>[a,b]
 | .slice _ x lo hi m=>x::(lo.toList++hi.toList++m.toList)
 | .slstr x lo hi=>x::(lo.toList++hi.toList)
 | .mkfn _ l | .mx l | .mn l | .mnext _ l | .uns _ _ l | .call _ l=>l
 | .callv f l=>f::l
 | .alloc _ | .mkmap | .new0 _=>[]
def AO.cons:AO→List AV
 | .alloc z | .build z _=>z
 | .look _ _ z _ _ | .ment _ z _ _=>[z]
 | _=>[]
def AO.cl (o:AO):Bool:=o.opds.all Opd.cl&&AV.tops o.cons==0
def Res (o o':Option (AV × aA × Esc)):Prop:=∀v h x,o=some (v,h,x)→o'=some (v.ren R.r,R.T h,R.xr x)∧h≠[]
theorem UB {G:aA}(hH:H≠[]):H++G≠[]:=fun e=>hH (List.append_eq_nil_iff.1 e).1
theorem z3b {ev ev':Opd→AV}{r:Nat→Nat}:∀(ps:List (Nat×Nat×Opd)),(∀y∈ps,ev' y.2.2=(ev y.2.2).ren r)→∀cs,VE ev' ps (cs.map (AV.ren r))=(VE ev ps cs).map (List.map (AV.ren r))
 | [],_,cs=>rfl
 | (off,n,x)::l,h,cs=>by
  simp only[VE,h (off,n,x) List.mem_cons_self,eJ];cases (ev x).cells with
  | none=>rfl
  | some vs=>
   simp only[Option.map_some,List.length_map];split
   ·rw[oZ];exact z3b l (fun y hy=>h y (List.mem_cons_of_mem _ hy)) _
   ·rfl
theorem z3c {ev ev':Opd→AV}{sh:Sh}:∀(ps:List (Nat×Opd)),(∀y∈ps,ev' y.2=(ev y.2).ren R.r)→∀{H:aA},H≠[]→∀xs,ND ev' sh ps (R.T H) xs=(ND ev sh ps H xs).map R.y2
 | [],_,H,hH,xs=>rfl
 | (i,x)::l,h,H,hH,xs=>by
  simp only[ND,h (i,x) List.mem_cons_self,QR R hH];cases hp:pur H (ev x) with
  | none=>rfl
  | some y=>
   obtain⟨v,h1⟩:=y;have hne:=KI R hH _ hp
   simp only[Option.map_some];split
   ·exact z3c l (fun y hy=>h y (List.mem_cons_of_mem _ hy)) hne _
   ·rfl
theorem z3e (R:Loc){ev:Opd→AV}{sh:Sh}:∀(ps:List (Nat×Opd)) {H:aA},H≠[]→∀xs {y:List PV×aA},ND ev sh ps H xs=some y→y.2≠[]
 | [],H,hH,xs,y,h=>by simp only[ND,Option.some.injEq]at h;subst h;exact hH
 | (i,x)::l,H,hH,xs,y,h=>by
  simp only[ND]at h;split at h
  ·rename_i v h1 hp
   split at h
   ·exact z3e R l (KI R hH _ hp) _ h
   ·cases h
  ·cases h
theorem lF {ev ev':Opd→AV}{d:Nat}{o:Option Opd}(h:∀ x∈o.toList,ev' x=(ev x).ren R.r):bnd ev' d o=bnd ev d o:=by
 cases o with
 | none=>rfl
 | some x=>simp only[bnd,h x (by simp),qH]
theorem asl_T {ev ev':Opd→AV}{sh:Sh}{x:AV}{lo hi mx:Option Opd}(hH:H≠[])(h1:∀ x∈lo.toList,ev' x=(ev x).ren R.r)(h2:∀ x∈hi.toList,ev' x=(ev x).ren R.r)(h3:∀ x∈mx.toList,ev' x=(ev x).ren R.r) :
 asl sh ev' (R.T H) (x.ren R.r) lo hi mx=(asl sh ev H x lo hi mx).map (AV.ren R.r):=by
 cases x with
 | p v=>
  cases v with
  | sl sh' xs=>
   simp only[AV.ren,asl,lF R h1,lF R h2,lF R h3];split
   ·split
    ·split <;> rfl
    ·rfl
   ·rfl
  | _=>rfl
 | sl0 sh'=>
  simp only[AV.ren,asl,lF R h1,lF R h2,lF R h3];split
  ·split <;> rfl
  ·rfl
 | own id g off len=>
  simp only[AV.ren,asl,R.T_get hH];cases H[id]? with
  | none=>rfl
  | some o=>
   cases o with
   | row rsh xs fz=>
    simp only[Option.map_some,Obj.ren,lF R h1,lF R h2,lF R h3];split
    ·split
     ·split <;> rfl
     ·rfl
    ·rfl
   | _=>rfl
 | _=>rfl
theorem DC (hH:H≠[])(o:Obj):R.T (H++[o])=R.T H++[o.ren R.r]:=by rw[R.T_app hH];rfl
theorem z8i (hH:H≠[])(c:Cv)(v:AV):fD (R.T H) c (v.ren R.r)=(fD H c v).map fun y=>(y.1.ren R.r,R.T y.2):=by
 cases c with
 | b2s=>
  simp only[fD,MI R hH];cases rd H v with
  | none=>rfl
  | some y=>simp only;cases SI y.2 <;> rfl
 | s2b=>
  cases v with
  | p v=>
   cases v with
   | str s=>
    simp only[AV.ren,fD];split
    ·simp only[Option.map_some,AV.ren,R.T_len hH,DC R hH];rfl
    ·rfl
   | _=>rfl
  | _=>rfl
 | i k=>
  cases v with
  | p v=>cases v <;> rfl
  | _=>rfl
 | r2s=>
  cases v with
  | p v=>
   cases v with
   | int k n=>simp only[AV.ren,fD];split <;> rfl
   | _=>rfl
  | _=>rfl
 | same=>
  cases v with
  | p v=>cases v <;> rfl
  | _=>rfl
theorem z8j {c:Cv}{v:AV}{y:AV × aA}(hH:H≠[])(h:fD H c v=some y):y.2≠[]:=by
 unfold fD at h;split at h
 ·split at h
  ·cases h;exact hH
  ·cases h
 ·split at h
  ·split at h
   ·cases h;exact UB hH
   ·cases h
  ·cases h
 ·split at h
  ·obtain⟨_,_,rfl⟩:=Option.map_eq_some_iff.1 h;exact hH
  ·cases h
 ·split at h
  ·split at h
   ·cases h;exact hH
   ·cases h
  ·cases h
 ·split at h
  ·cases h;exact hH
  ·cases h
theorem ldA_T (hH:H≠[])(sh:Sh)(k off id g:Nat):ldA sh k off (R.r id) g (R.T H)=(ldA sh k off id g H).map (AV.ren R.r):=by
 unfold ldA;cases Nat.beq k 4 with
 | false=>rfl
 | true=>
  simp only[cond_true,R.T_get hH];cases H[id]? with
  | none=>rfl
  | some o=>
   cases o with
   | arow rsh cs=>
    simp only[Option.map_some,Obj.ren,List.length_map];split
    ·exact QO ..
    ·rfl
   | _=>rfl
theorem stA_T (hH:H≠[])(sh:Sh)(k off id g:Nat)(x:AV):Res R (stA sh k off id g x H) (stA sh k off (R.r id) g (x.ren R.r) (R.T H)):=by
 intro v h y hs;unfold stA at hs ⊢;cases hk:Nat.beq k 4 with
 | false=>rw[hk]at hs;cases hs
 | true=>
  rw[hk]at hs;simp only[cond_true,R.T_get hH,eJ]at hs ⊢;split at hs
  ·rename_i rsh cs vs h1 h2
   simp only[h1,h2,Option.map_some,Obj.ren,List.length_map];split at hs
   ·rename_i hc
    cases hs;rw[if_pos hc]
    refine⟨?_,OC hH⟩;rw[R.T_set hH,oZ,WL];rfl
   ·cases hs
  ·cases hs
theorem iaA_T (hH:H≠[])(sh:Sh)(k id g i:Nat):iaA sh k (R.r id) g i (R.T H)=(iaA sh k id g i H).map (AV.ren R.r):=by
 unfold iaA;cases Nat.beq k 3 with
 | false=>rfl
 | true=>
  simp only[cond_true,R.T_get hH];cases H[id]? with
  | none=>rfl
  | some o=>
   cases o with
   | arow rsh cs=>
    simp only[Option.map_some,Obj.ren,List.length_map];split <;> rfl
   | _=>rfl
theorem faA_T (k off o id g:Nat):faA k off o (R.r id) g=(faA k off o id g).map (AV.ren R.r):=by
 unfold faA;cases Nat.beq k 4 <;> rfl
theorem lnA_T (k g:Nat):lnA k g=(lnA k g).map (AV.ren R.r):=by
 unfold lnA;cases Nat.beq k 3 <;> rfl
theorem nlA_T (k:Nat)(x:AV):nlA k (x.ren R.r)=(nlA k x).map (AV.ren R.r):=by
 unfold nlA;cases Nat.beq k 4 <;> rfl
theorem zl8 (cs:List AV):AV.tops (cs.map (AV.ren R.r))=R.rt (AV.tops cs):=by rw[←kE];exact R.tops cs
theorem MS (x y:Esc):R.xr (x++y)=R.xr x++R.xr y:=by simp [Loc.xr]
theorem apA_T (hH:H≠[])(sh:Sh)(s x:AV):Res R (apA sh H s x) (apA sh (R.T H) (s.ren R.r) (x.ren R.r)):=by
 intro v h y hs;unfold apA at hs;split at hs
 ·rename_i k t id g k' t' id' g'
  simp only[AV.ren,apA];cases hk:(Nat.beq k 3&&Nat.beq k' 3) with
  | false=>rw[hk]at hs;cases hs
  | true=>
   rw[hk]at hs;simp only[cond_true,R.T_get hH]at hs ⊢;split at hs
   ·rename_i rsh cs rsh' ds h1 h2
    simp only[h1,h2,Option.map_some,Obj.ren,List.length_map];split at hs
    ·rename_i hc
     cases hs;rw[if_pos hc]
     refine⟨?_,OC hH⟩;rw[R.T_set hH,zl8];have hd:decide (R.r id<R.rt (AV.tops ds))=decide (id<AV.tops ds):=by
      by_cases q:id<AV.tops ds
      ·rw[decide_eq_true q,decide_eq_true (R.lt_rt.2 q)]
      ·rw[decide_eq_false q,decide_eq_false (by rw[R.lt_rt];exact q)]
     rw[hd];cases decide (id<AV.tops ds) <;> simp [AV.ren,Obj.ren,Loc.xr]
    ·cases hs
   ·cases hs
 ·cases hs
theorem zaH (hH:H≠[])(t:Nat)(s:AV):Res R (sJ t H s) (sJ t (R.T H) (s.ren R.r)):=by
 intro v h y hs;unfold sJ at hs;split at hs
 ·rename_i t' id g
  simp only[AV.ren,sJ,R.T_get hH];split at hs
  ·rename_i xs fz h1
   simp only[h1,Option.map_some,Obj.ren];split at hs
   ·rename_i hc
    rw[if_pos hc];split at hs
    ·rename_i hg;cases hs;rw[if_pos hg];exact⟨rfl,hH⟩
    ·rename_i hg;cases hs;rw[if_neg hg];exact⟨rfl,hH⟩
   ·cases hs
  ·cases hs
 ·cases hs
theorem zll (hH:H≠[])(t:Nat)(p:AV)(n:Nat):Res R (RI t H p n) (RI t (R.T H) (p.ren R.r) n):=by
 intro v h y hs;unfold RI at hs;split at hs
 ·simp only[AV.ren,RI]
  split at hs
  ·rename_i hc;cases hs;rw[if_pos hc];exact⟨rfl,hH⟩
  ·cases hs
 ·rename_i t' id g
  simp only[AV.ren,RI,R.T_get hH];split at hs
  ·rename_i xs fz h1
   simp only[h1,Option.map_some,Obj.ren];split at hs
   ·rename_i hc
    rw[if_pos hc];obtain⟨s,e1,e2⟩:=Option.map_eq_some_iff.1 hs;cases e2;rw[e1];refine⟨?_,OC hH⟩;rw[R.T_set hH];rfl
   ·cases hs
  ·cases hs
 ·cases hs
theorem z8u (hH:H≠[])(t:Nat)(s x:AV):Res R (aJ t H s x) (aJ t (R.T H) (s.ren R.r) (x.ren R.r)):=by
 intro v h y hs;unfold aJ at hs;split at hs
 ·rename_i ys hy
  split at hs
  ·rename_i t' id g
   simp only[aJ,WR R hH,hy];split at hs
   ·rename_i xs fz h1
    simp only[AV.ren,R.T_get hH,h1,Option.map_some,Obj.ren];split at hs
    ·rename_i hc
     cases hs;rw[if_pos hc]
     refine⟨?_,OC hH⟩;rw[R.T_set hH];rfl
    ·cases hs
   ·cases hs
  ·cases hs
 ·cases hs
theorem zlM (hH:H≠[])(t:Nat)(x:AV):Res R (pL t H x) (pL t (R.T H) (x.ren R.r)):=by
 intro v h y hs;unfold pL at hs;split at hs
 ·rename_i id
  split at hs
  ·rename_i t' id' g' b h1
   simp only[AV.ren,pL,R.T_get hH,h1,Option.map_some,Obj.ren,List.map_cons,List.map_nil];split at hs
   ·rename_i hc
    cases hs;rw[if_pos ⟨hc.1,by rw[hc.2]⟩]
    exact⟨rfl,hH⟩
   ·cases hs
  ·cases hs
 ·cases hs
theorem zgm (hH:H≠[])(x z:AV):Res R (cK H x z) (cK (R.T H) (x.ren R.r) (z.ren R.r)):=by
 intro v h y hs;unfold cK at hs;split at hs
 ·rename_i id o id' o'
  simp only[AV.ren,cK];split at hs
  ·rename_i hc
   cases hs;rw[if_pos ⟨by rw[hc.1],hc.2⟩]
   exact⟨rfl,hH⟩
  ·cases hs
 ·cases hs
theorem zkx (hH:H≠[])(t:Nat)(f x:AV):Res R (fL t H f x) (fL t (R.T H) (f.ren R.r) (x.ren R.r)):=by
 intro v h y hs;unfold fL at hs;split at hs
 ·rename_i g
  simp only[AV.ren,AV.rens,fL];split at hs
  ·rename_i hc
   cases hs;rw[if_pos hc]
   exact⟨rfl,hH⟩
  ·cases hs
 ·cases hs
theorem zfA {r:Nat→Nat}(v:AV):lenB (v.ren r)=lenB v:=by
 cases v with
 | bt k t id g=>
  match k with
  | 0=>rfl
  | 1=>rfl
  | k+2=>rfl
 | _=>rfl
theorem fS:∀ (l:List AV) {H:aA},H≠[]→vD (l.map (AV.ren R.r)) (R.T H)=((vD l H).1.map (AV.ren R.r),R.T (vD l H).2)
 | [],H,hH=>rfl
 | v::l,H,hH=>by
  cases v with
  | sl0 sh=>
   have e:R.T H++[Obj.row sh [] 0]=R.T (H++[.row sh [] 0]):=by rw[DC R hH];rfl
   simp only[List.map_cons,AV.ren,vD,e,fS l (UB hH),R.T_len hH]
  | bt k t id g=>
   have e:R.T H++[Obj.arow (IC t) []]=R.T (H++[.arow (IC t) []]):=by rw[DC R hH];rfl
   simp only[List.map_cons,AV.ren,vD,e,fS l (UB hH),R.T_len hH]
  | _=>simp only[List.map_cons,AV.ren,vD,fS l hH]
theorem gS:∀ (l:List AV) {H:aA},H≠[]→(vD l H).2≠[]
 | [],H,hH=>hH
 | v::l,H,hH=>by
  cases v with
  | sl0 sh=>exact gS l (UB hH)
  | bt k t id g=>exact gS l (UB hH)
  | _=>exact gS l hH
theorem ZR (t:Nat):∀(l:List AV) {H:aA},H≠[]→SA t (l.map (AV.ren R.r)) (R.T H)=((SA t l H).1.map (AV.ren R.r),R.T (SA t l H).2)
 | [],H,hH=>rfl
 | v::l,H,hH=>by
  cases v with
  | sl0 sh=>
   have e:R.T H++[Obj.row sh [] 0]=R.T (H++[.row sh [] 0]):=by rw[DC R hH];rfl
   have e2:R.T H++[Obj.arow (IC (t-1)) []]=R.T (H++[.arow (IC (t-1)) []]):=by rw[DC R hH];rfl
   simp only[List.map_cons,AV.ren,SA];cases dK t sh with
   | true=>simp only[cond_true,e2,ZR t l (UB hH),R.T_len hH,List.map_cons,AV.ren]
   | false=>simp only[cond_false,e,ZR t l (UB hH),R.T_len hH,List.map_cons,AV.ren]
  | _=>simp only[List.map_cons,AV.ren,SA,ZR t l hH]
theorem aS (t:Nat):∀(l:List AV) {H:aA},H≠[]→(SA t l H).2≠[]
 | [],H,hH=>hH
 | v::l,H,hH=>by
  cases v with
  | sl0 sh=>
   simp only[SA];cases dK t sh with
   | true=>exact aS t l (UB hH)
   | false=>exact aS t l (UB hH)
  | _=>exact aS t l hH
theorem zlK (hH:H≠[])(k t:Nat)(vs:List AV):Res R (fC k t vs H) (fC k t (vs.map (AV.ren R.r)) (R.T H)):=by
 intro v h y hs;have box:∀(cs:List AV) {G:aA},G≠[]→R.T G++[Obj.box (cs.map (AV.ren R.r))]=R.T (G++[.box cs]):=fun cs G hG=>by rw[DC R hG];rfl
 match k,vs with
 | 0,[v0]=>
  simp only[fC]at hs;simp only[List.map_cons,List.map_nil,fC,z4x];split at hs
  ·rename_i te he
   cases hs;refine⟨?_,UB hH⟩
   have l1:1≤H.length:=List.length_pos_iff.2 hH
   have q1:=R.r_add l1 1
   have q2:=R.r_add l1 2
   have q3:R.rt (H.length+2)=R.r H.length+2:=by rw[R.rt_two (by omega),q2]
   rw[R.T_app hH];simp only[AV.ren,Obj.ren,Loc.xr,List.map_cons,List.map_nil,R.T_len hH,q1,q3]
  ·cases hs
 | 1,[x]=>exact zlM R hH t x v h y hs
 | 2,[x,z]=>exact zgm R hH x z v h y hs
 | 3,[s,x]=>exact z8u R hH t s x v h y hs
 | 4,[s]=>
  simp only[fC]at hs;simp only[List.map_cons,List.map_nil,fC,zfA];obtain⟨n,e1,e2⟩:=Option.map_eq_some_iff.1 hs;cases e2;rw[e1];exact⟨rfl,hH⟩
 | 5,[s]=>exact zaH R hH t s v h y hs
 | 6,[p,n]=>
  simp only[fC]at hs;simp only[List.map_cons,List.map_nil,fC,z4x];split at hs
  ·rename_i m hm
   exact zll R hH t p m v h y hs
  ·cases hs
 | 7,[f,x]=>exact zkx R hH t f x v h y hs
 | 8,vs=>
  simp only[fC,Option.some.injEq,Prod.mk.injEq]at hs;obtain⟨rfl,rfl,rfl⟩:=hs;simp only[fC,fS R vs hH];have hne:=gS vs hH
  refine⟨?_,UB hne⟩;rw[box _ hne];simp only[AV.ren,R.T_len hne];rfl
 | 9,[x]=>
  simp only[fC]at hs;simp only[List.map_cons,List.map_nil,fC,eJ];split at hs
  ·rename_i cs hc
   simp only[hc,Option.map_some,List.length_map];split at hs
   ·rename_i hl
    cases hs;rw[if_pos hl]
    refine⟨?_,UB hH⟩;rw[DC R hH];simp only[AV.ren,R.T_len hH];rfl
   ·cases hs
  ·cases hs
 | 10,[]=>
  simp only[fC,Option.some.injEq,Prod.mk.injEq]at hs;obtain⟨rfl,rfl,rfl⟩:=hs;refine⟨?_,UB hH⟩;simp only[List.map_nil,fC];rw[DC R hH];simp only[AV.ren,R.T_len hH];rfl
 | 11,[s,x]=>exact apA_T R hH (IC t) s x v h y hs
 | 12,[x]=>
  simp only[fC]at hs;simp only[List.map_cons,List.map_nil,fC,eJ];split at hs
  ·rename_i cs hc
   simp only[Option.some.injEq,Prod.mk.injEq]at hs;obtain⟨rfl,rfl,rfl⟩:=hs;simp only[hc,Option.map_some,ZR R t cs hH];have hne:=aS t cs hH
   refine⟨?_,UB hne⟩;rw[box _ hne];simp only[AV.ren,R.T_len hne];rfl
  ·cases hs
 | 0,[]|0,_::_::_|1,[]|1,_::_::_|2,[]|2,[_]|2,_::_::_::_|3,[]|3,[_]|3,_::_::_::_|4,[]|4,_::_::_|5,[]|5,_::_::_|6,[]|6,[_]|6,_::_::_::_
 | 7,[]|7,[_]|7,_::_::_::_|9,[]|9,_::_::_|10,_::_|11,[]|11,[_]|11,_::_::_::_|12,[]|12,_::_::_=>cases hs
 | k+13,vs=>cases hs
end Go.Am
end
section
/- The abstract machine,part R,3: every operation that is no call. -/
set_option linter.unusedSimpArgs false
set_option linter.unusedVariables false
namespace Go.Am
variable (R:Loc) {H:aA}
theorem Res.vals (hH:H≠[])(o:Option AV):Res R (o.map fun v=>(v,H,[])) ((o.map (AV.ren R.r)).map fun v=>(v,R.T H,[])):=by
 intro v h x hs;obtain⟨a,rfl,e⟩:=Option.map_eq_some_iff.1 hs;cases e;exact⟨rfl,hH⟩
theorem Res.pv (hH:H≠[])(o:Option PV):Res R (o.map fun v=>(AV.p v,H,[])) (o.map fun v=>(AV.p v,R.T H,[])):=by
 intro v h x hs;obtain⟨a,rfl,e⟩:=Option.map_eq_some_iff.1 hs;cases e;exact⟨rfl,hH⟩
theorem zdA (es:List ME)(b:Nat)(r:Nat→Nat):(es.map (ME.ren r)).findIdx? (fun e=>e.born==b)=es.findIdx? (fun e=>e.born==b):=by
 rw[List.findIdx?_map];rfl
theorem zdB (es:List ME)(b:Nat)(r:Nat→Nat):(es.map (ME.ren r)).find? (fun e=>e.born==b)=(es.find? (fun e=>e.born==b)).map (ME.ren r):=by
 rw[List.find?_map];rfl
theorem z1S (es:List ME)(i:Nat)(x:AV)(r:Nat→Nat):(es.map (ME.ren r)).modify i (fun e=>{ e with val:=x.ren r })=(es.modify i fun e=>{ e with val:=x }).map (ME.ren r):=by
 apply List.ext_getElem?
 intro j;simp only[List.getElem?_modify,List.getElem?_map];cases es[j]? with
 | none=>rfl
 | some e=>
  simp only[Option.map_some];split <;> rfl
theorem z1R {α β:Type}(f:α→β):∀(l:List α) (i:Nat),(l.eraseIdx i).map f=(l.map f).eraseIdx i
 | [],i=>rfl
 | a::l,0=>rfl
 | a::l,i+1=>by simp only[List.eraseIdx_cons_succ,List.map_cons,z1R f l i]
theorem z00 {o:AO}{ev ev':Opd→AV}(hz:AV.tops o.cons=0)(hE:∀ x∈o.opds,ev' x=(ev x).ren R.r)(hH:H≠[]):Res R (aop o ev H) (aop o ev' (R.T H)):=by
 have hLen:=R.T_len hH
 intro v h y hs;cases o with
 | mv x=>
  have e1:=hE x (by simp [AO.opds])
  simp only[aop,Option.some.injEq,Prod.mk.injEq]at hs ⊢;obtain⟨rfl,rfl,rfl⟩:=hs;exact⟨⟨e1,rfl,rfl⟩,hH⟩
 | pick c a b=>
  have e1:=hE c (by simp [AO.opds]);have e2:=hE a (by simp [AO.opds]);have e3:=hE b (by simp [AO.opds])
  simp only[aop]at hs ⊢;split at hs
  ·rename_i t hc
   rw[e1,hc];cases hs;cases t
   ·exact⟨by simp only[ren_p,cond_false,e3];rfl,hH⟩
   ·exact⟨by simp only[ren_p,cond_true,e2];rfl,hH⟩
  ·cases hs
 | alloc z=>
  simp only[aop,Option.some.injEq,Prod.mk.injEq]at hs ⊢;obtain⟨rfl,rfl,rfl⟩:=hs;refine⟨⟨by simp only[AV.ren,hLen],?_,rfl⟩,UB hH⟩
  have hz:AV.tops z=0:=hz
  rw[DC R hH,Obj.ren,bX hz]
 | box x=>
  have e1:=hE x (by simp [AO.opds])
  simp only[aop]at hs ⊢;rw[e1,eJ];split at hs
  ·rename_i cs hc
   cases hs;try rw[hc]
   refine⟨?_,UB hH⟩;rw[DC R hH];simp only[Option.map_some,AV.ren,hLen];rfl
  ·cases hs
 | build z ps=>
  simp only[aop]at hs ⊢;have hf:=z3b (ev:=ev) (ev':=ev') (r:=R.r) ps (fun y hy=>hE _ (List.mem_map.2 ⟨y,hy,rfl⟩)) z
  have hz:AV.tops z=0:=hz
  rw[bX hz]at hf;try rw[hf]
  obtain⟨cs,e1,e2⟩:=Option.map_eq_some_iff.1 hs;cases e2;rw[e1];exact⟨by simp only[Option.map_some,fX];rfl,hH⟩
 | bsl own sh n z ps=>
  simp only[aop]at hs ⊢;have hf:=z3c R (ev:=ev) (ev':=ev') (sh:=sh) ps (fun y hy=>hE _ (List.mem_map.2 ⟨y,hy,rfl⟩)) hH (List.replicate n z)
  try rw[hf]
  split at hs
  ·rename_i xs h' hp
   have hne:=z3e R ps hH _ hp
   try rw[hp]
   simp only[Option.map_some];split at hs
   ·cases hs
   ·rename_i hc
    rw[if_neg hc];simp only[Option.some.injEq]at hs;cases own with
    | true=>
     simp only[cond_true]at hs;cases hs;refine⟨?_,UB hne⟩;rw[DC R hne];simp only[cond_true,AV.ren,R.T_len hne];rfl
    | false=>
     simp only[cond_false]at hs;cases hs;exact⟨rfl,hne⟩
  ·cases hs
 | load sh a=>
  have e1:=hE a (by simp [AO.opds])
  simp only[aop]at hs ⊢;rw[e1];split at hs
  ·rename_i id off ha
   try rw[ha]
   simp only[AV.ren,R.T_get hH];split at hs
   ·rename_i cs hc
    try rw[hc]
    simp only[Option.map_some,Obj.ren,QO];exact Res.vals R hH _ v h y hs
   ·cases hs
  ·rename_i id g i off ha
   try rw[ha]
   simp only[AV.ren,R.T_get hH];split at hs
   ·rename_i rsh xs fz hc
    try rw[hc]
    simp only[Option.map_some,Obj.ren];split at hs
    ·rename_i hg
     rw[if_pos hg];exact Res.pv R hH _ v h y hs
    ·cases hs
   ·cases hs
  ·rename_i w ha
   try rw[ha]
   exact Res.pv R hH _ v h y hs
  ·rename_i k off id g ha
   try rw[ha]
   simp only[AV.ren,ldA_T R hH];exact Res.vals R hH _ v h y hs
  ·cases hs
 | store sh a x=>
  have e1:=hE a (by simp [AO.opds]);have e2:=hE x (by simp [AO.opds])
  simp only[aop]at hs ⊢;rw[e1,e2];split at hs
  ·rename_i id off ha
   try rw[ha]
   simp only[AV.ren,R.T_get hH,eJ];split at hs
   ·rename_i cs vs hc hv
    try rw[hc,hv]
    simp only[Option.map_some,Obj.ren,List.length_map];split at hs
    ·rename_i hl
     cases hs;rw[if_pos hl]
     refine⟨?_,OC hH⟩;rw[R.T_set hH,oZ,zdE];rfl
    ·cases hs
   ·cases hs
  ·rename_i id g i off ha
   try rw[ha]
   simp only[AV.ren,QR R hH];split at hs
   ·rename_i w h1 hp
    have hne:=KI R hH _ hp
    try rw[hp]
    simp only[Option.map_some,R.T_get hne];split at hs
    ·rename_i rsh xs fz hc
     try rw[hc]
     simp only[Option.map_some,Obj.ren];split at hs
     ·rename_i hl
      rw[if_pos hl];split at hs
      ·rename_i cs hx
       try rw[hx]
       split at hs
       ·rename_i hq
        cases hs;simp only[if_pos hq]
        refine⟨?_,OC hne⟩;rw[R.T_set hne];rfl
       ·cases hs
      ·split at hs
       ·rename_i hq
        cases hs;simp only[hq,and_self,if_true]
        exact⟨by rw[R.T_set hne];rfl,OC hne⟩
       ·cases hs
      ·cases hs
     ·cases hs
    ·cases hs
   ·cases hs
  ·rename_i k off id g ha
   try rw[ha]
   exact stA_T R hH sh k off id g (ev x) v h y hs
  ·cases hs
 | nilchk x=>
  have e1:=hE x (by simp [AO.opds])
  simp only[aop]at hs ⊢;rw[e1];split at hs
  ·rename_i id off ha;rw[ha]at hs ⊢;cases hs;exact⟨rfl,hH⟩
  ·rename_i id off a b ha;rw[ha]at hs ⊢;cases hs;exact⟨rfl,hH⟩
  ·rename_i w ha;rw[ha]at hs ⊢;cases hs;exact⟨rfl,hH⟩
  ·rename_i f cs ha;rw[ha]at hs ⊢;cases hs;exact⟨rfl,hH⟩
  ·rename_i k t id g ha
   rw[ha]at hs ⊢;have e2:=nlA_T R k (.bt k t id g)
   simp only[AV.ren]at e2 ⊢;rw[e2];exact Res.vals R hH _ v h y hs
  ·cases hs
 | bin op x z=>
  have e1:=hE x (by simp [AO.opds]);have e2:=hE z (by simp [AO.opds])
  simp only[aop]at hs ⊢;rw[e1,e2];split at hs
  ·rename_i a b ha hb;rw[ha,hb];exact Res.pv R hH _ v h y hs
  ·cases hs
 | eqa ks neg x z=>
  have e1:=hE x (by simp [AO.opds]);have e2:=hE z (by simp [AO.opds])
  simp only[aop]at hs ⊢;rw[e1,e2];split at hs
  ·rename_i a b ha hb
   try rw[ha,hb]
   simp only[AV.ren];split at hs
   ·rename_i hc
    rw[if_pos hc];obtain⟨t,q1,q2⟩:=Option.map_eq_some_iff.1 hs;cases q2;try rw[q1]
    exact⟨rfl,hH⟩
   ·cases hs
  ·rename_i a b ha hb
   try rw[ha,hb]
   simp only[AV.ren];split at hs
   ·rename_i hc;rw[if_pos hc];cases hs;exact⟨rfl,hH⟩
   ·cases hs
  ·cases hs
 | isnil k neg x=>
  have e1:=hE x (by simp [AO.opds])
  simp only[aop]at hs ⊢;rw[e1,zgs,zgu];cases hn:wF k (ev x) with
  | true=>
   rw[hn]at hs;simp only[cond_true]at hs ⊢;cases hs;exact⟨rfl,hH⟩
  | false=>
   rw[hn]at hs;simp only[cond_false]at hs ⊢;obtain⟨t,q1,q2⟩:=Option.map_eq_some_iff.1 hs;cases q2;try rw[q1]
   exact⟨rfl,hH⟩
 | mkif x=>
  have e1:=hE x (by simp [AO.opds])
  simp only[aop]at hs ⊢;rw[e1,iX];split at hs
  ·rename_i hc;rw[if_pos hc];cases hs;exact⟨rfl,hH⟩
  ·cases hs
 | un op x=>
  have e1:=hE x (by simp [AO.opds])
  simp only[aop]at hs ⊢;rw[e1];split at hs
  ·rename_i a ha;rw[ha];exact Res.pv R hH _ v h y hs
  ·cases hs
 | conv c x=>
  have e1:=hE x (by simp [AO.opds])
  simp only[aop]at hs ⊢;rw[e1,z8i R hH];obtain⟨⟨w,h1⟩,q1,q2⟩:=Option.map_eq_some_iff.1 hs;have hne:=z8j hH q1
  cases q2;try rw[q1]
  exact⟨rfl,hne⟩
 | mkfn f caps=>
  simp only[aop,Option.some.injEq,Prod.mk.injEq]at hs ⊢;obtain⟨rfl,rfl,rfl⟩:=hs;refine⟨⟨?_,rfl,rfl⟩,hH⟩;simp only[AV.ren,kE,List.map_map];congr 1
  exact List.map_congr_left fun x hx=>hE x hx
 | mkmap=>
  simp only[aop,Option.some.injEq,Prod.mk.injEq]at hs ⊢;obtain⟨rfl,rfl,rfl⟩:=hs;refine⟨⟨by simp only[AV.ren,hLen],?_,rfl⟩,UB hH⟩
  rw[DC R hH];rfl
 | mksl sh z len cap=>
  have e1:=hE len (by simp [AO.opds]);have e2:=hE cap (by simp [AO.opds])
  simp only[aop]at hs ⊢;rw[e1,e2,qH,qH];split at hs
  ·rename_i n m hn hm
   try rw[hn,hm]
   split at hs
   ·rename_i hc
    cases hs;simp only[if_pos hc]
    refine⟨?_,UB hH⟩;rw[DC R hH];simp only[AV.ren,hLen];rfl
   ·cases hs
  ·cases hs
 | slstr x lo hi=>
  have e1:=hE x (by simp [AO.opds])
  have b1:=fun d=>lF R (ev:=ev) (ev':=ev') (d:=d) (o:=lo) fun z hz=>hE z (by simp [AO.opds]at hz ⊢;exact .inr (.inl hz))
  have b2:=fun d=>lF R (ev:=ev) (ev':=ev') (d:=d) (o:=hi) fun z hz=>hE z (by simp [AO.opds]at hz ⊢;exact .inr (.inr hz))
  simp only[aop]at hs ⊢;rw[e1];split at hs
  ·rename_i s ha
   try rw[ha]
   simp only[AV.ren,b1,b2];split at hs
   ·rename_i l r h1 h2
    try rw[h1,h2]
    split at hs
    ·rename_i hc;cases hs;simp only[if_pos hc];exact⟨rfl,hH⟩
    ·cases hs
   ·cases hs
  ·cases hs
 | slice sh x lo hi mx=>
  have e1:=hE x (by simp [AO.opds])
  simp only[aop]at hs ⊢;rw[e1,asl_T R hH (fun z hz=>hE z (by simp [AO.opds]at hz ⊢;exact .inr (.inl hz))) (fun z hz=>hE z (by simp [AO.opds]at hz ⊢;exact .inr (.inr (.inl hz)))) (fun z hz=>hE z (by simp [AO.opds]at hz ⊢;exact .inr (.inr (.inr hz))))]
  exact Res.vals R hH _ v h y hs
 | faddr off sh x=>
  have e1:=hE x (by simp [AO.opds])
  simp only[aop]at hs ⊢;rw[e1];split at hs
  ·rename_i id o ha;rw[ha];cases hs;exact⟨rfl,hH⟩
  ·rename_i id g i o ha;rw[ha];cases hs;exact⟨rfl,hH⟩
  ·rename_i w ha
   try rw[ha]
   obtain⟨u,q1,q2⟩:=Option.map_eq_some_iff.1 hs;cases q2;simp only[AV.ren,q1];exact⟨rfl,hH⟩
  ·rename_i k o id g ha
   try rw[ha]
   simp only[AV.ren,faA_T R];exact Res.vals R hH _ v h y hs
  ·cases hs
 | field off sh x=>
  have e1:=hE x (by simp [AO.opds])
  simp only[aop]at hs ⊢;rw[e1];split at hs
  ·rename_i w ha
   try rw[ha]
   simp only[AV.ren];split at hs
   ·exact Res.pv R hH _ v h y hs
   ·cases hs
  ·rename_i cs ha
   try rw[ha]
   simp only[AV.ren,kE,QO];exact Res.vals R hH _ v h y hs
  ·cases hs
 | iaddr sh x i=>
  have e1:=hE x (by simp [AO.opds]);have e2:=hE i (by simp [AO.opds])
  simp only[aop]at hs ⊢;rw[e1,e2,qH];split at hs
  ·rename_i sh' xs k ha hk
   try rw[ha,hk]
   simp only[AV.ren];split at hs
   ·rename_i hc
    rw[if_pos hc];obtain⟨u,q1,q2⟩:=Option.map_eq_some_iff.1 hs;cases q2;try rw[q1]
    exact⟨rfl,hH⟩
   ·cases hs
  ·rename_i id g off len k ha hk
   try rw[ha,hk]
   simp only[AV.ren,R.T_get hH];split at hs
   ·rename_i rsh xs fz hc
    try rw[hc]
    simp only[Option.map_some,Obj.ren];split at hs
    ·rename_i hq;cases hs;rw[if_pos hq];exact⟨rfl,hH⟩
    ·cases hs
   ·cases hs
  ·rename_i kk t id g k ha hk
   try rw[ha,hk]
   simp only[AV.ren,iaA_T R hH];exact Res.vals R hH _ v h y hs
  ·cases hs
 | iaddra n sh x i=>
  have e1:=hE x (by simp [AO.opds]);have e2:=hE i (by simp [AO.opds])
  simp only[aop]at hs ⊢;rw[e1,e2,qH];split at hs
  ·rename_i id o k ha hk
   try rw[ha,hk]
   simp only[AV.ren];split at hs
   ·rename_i hc;cases hs;rw[if_pos hc];exact⟨rfl,hH⟩
   ·cases hs
  ·rename_i id g j o k ha hk
   try rw[ha,hk]
   simp only[AV.ren];split at hs
   ·rename_i hc;cases hs;rw[if_pos hc];exact⟨rfl,hH⟩
   ·cases hs
  ·rename_i w k ha hk
   try rw[ha,hk]
   simp only[AV.ren];split at hs
   ·rename_i hc
    rw[if_pos hc];obtain⟨u,q1,q2⟩:=Option.map_eq_some_iff.1 hs;cases q2;try rw[q1]
    exact⟨rfl,hH⟩
   ·cases hs
  ·cases hs
 | idxa n sh x i=>
  have e1:=hE x (by simp [AO.opds]);have e2:=hE i (by simp [AO.opds])
  simp only[aop]at hs ⊢;rw[e1,e2,qH];split at hs
  ·rename_i cs k ha hk
   try rw[ha,hk]
   simp only[AV.ren];split at hs
   ·rename_i hc;rw[if_pos hc];exact Res.pv R hH _ v h y hs
   ·cases hs
  ·cases hs
 | idxs x i=>
  have e1:=hE x (by simp [AO.opds]);have e2:=hE i (by simp [AO.opds])
  simp only[aop]at hs ⊢;rw[e1,e2,qH];split at hs
  ·rename_i s k ha hk
   try rw[ha,hk]
   obtain⟨u,q1,q2⟩:=Option.map_eq_some_iff.1 hs;cases q2;simp only[AV.ren,q1];exact⟨rfl,hH⟩
  ·cases hs
 | look kk ok z x k=>
  have e1:=hE x (by simp [AO.opds]);have e2:=hE k (by simp [AO.opds])
  have z0:z.ren R.r=z:=YK _ _ (by simp [AO.cons,AV.tops]at hz;exact hz)
  simp only[aop]at hs ⊢;rw[e1,e2,tQ];split at hs
  ·rename_i key hk
   try rw[hk]
   have fin:∀es:List ME,(match CB key es with
    | some r=>some (bif ok then AV.tup [(((r.bind (es[·]?)).map ME.val)).getD z,pbool (((r.bind (es[·]?)).map ME.val)).isSome] else(((r.bind (es[·]?)).map ME.val)).getD z,H,([]:Esc))
    | none=>none)=some (v,h,y)→(match CB key (es.map (ME.ren R.r)) with
    | some r=>some (bif ok then AV.tup [(((r.bind ((es.map (ME.ren R.r))[·]?)).map ME.val)).getD z,pbool (((r.bind ((es.map (ME.ren R.r))[·]?)).map ME.val)).isSome] else(((r.bind ((es.map (ME.ren R.r))[·]?)).map ME.val)).getD z,R.T H,([]:Esc))
    | none=>none)=some (v.ren R.r,R.T h,R.xr y)∧h≠[]:=fun es hs=>by
    rw[WM];cases hr:CB key es with
    | none=>rw[hr]at hs;cases hs
    | some r=>
     rw[hr]at hs;simp only at hs ⊢;cases hs;refine⟨?_,hH⟩;have hv:((r.bind fun i=>(es.map (ME.ren R.r))[i]?).map ME.val)=((r.bind fun i=>es[i]?).map ME.val).map (AV.ren R.r):=by
      cases r with
      | none=>rfl
      | some i=>simp only[Option.bind_some,List.getElem?_map];cases es[i]? <;> rfl
     rw[hv];cases ((r.bind fun i=>es[i]?).map ME.val) with
     | none=>cases ok <;> simp [AV.ren,AV.rens,z0,Loc.xr,pbool]
     | some w=>cases ok <;> simp [AV.ren,AV.rens,Loc.xr,pbool]
   cases hx:ev x with
   | nilm=>rw[hx]at hs;exact fin [] hs
   | mp id=>
    rw[hx]at hs;have hm:=FG R hH (.mp id)
    simp only[AV.ren]at hm ⊢;rw[hm];simp only at hs;cases hg:oB H (.mp id) with
    | none=>rw[hg]at hs;cases hs
    | some q=>
     rw[hg]at hs;exact fin q.2.1 hs
   | _=>rw[hx]at hs;simp [oB]at hs
  ·cases hs
 | mupd kk m k x=>
  have e1:=hE m (by simp [AO.opds]);have e2:=hE k (by simp [AO.opds]);have e3:=hE x (by simp [AO.opds])
  simp only[aop]at hs ⊢;rw[e1,e2,e3,tQ,FG R hH,iX];split at hs
  ·rename_i key id es c hk hm ho
   try rw[hk,hm,ho]
   simp only[Option.map_some,WM];split at hs
   ·rename_i i hi
    try rw[hi]
    cases hs;refine⟨?_,OC hH⟩
    rw[R.T_set hH,WL];simp only[Obj.ren,z1S];rfl
   ·rename_i hi
    try rw[hi]
    cases hs;refine⟨?_,OC hH⟩
    rw[R.T_set hH,WL];simp only[Obj.ren,List.map_append];rfl
   ·cases hs
  ·cases hs
 | ment kk z m k=>
  have e1:=hE m (by simp [AO.opds]);have e2:=hE k (by simp [AO.opds])
  have z0:z.ren R.r=z:=YK _ _ (by simp [AO.cons,AV.tops]at hz;exact hz)
  simp only[aop]at hs ⊢;rw[e1,e2,tQ,FG R hH];split at hs
  ·rename_i key id es c hk hm
   try rw[hk,hm]
   simp only[Option.map_some,WM];split at hs
   ·rename_i i hi
    try rw[hi]
    obtain⟨u,q1,q2⟩:=Option.map_eq_some_iff.1 hs;cases q2;simp only[List.getElem?_map,q1,Option.map_some];exact⟨rfl,hH⟩
   ·rename_i hi
    try rw[hi]
    cases hs;refine⟨?_,OC hH⟩
    rw[R.T_set hH];simp only[Obj.ren,List.map_append,List.map_cons,List.map_nil,ME.ren,z0,AV.ren,AV.rens];rfl
   ·cases hs
  ·cases hs
 | estore m s x=>
  have e1:=hE m (by simp [AO.opds]);have e2:=hE s (by simp [AO.opds]);have e3:=hE x (by simp [AO.opds])
  simp only[aop]at hs ⊢;rw[e1,e2,e3,qH,FG R hH,iX];split at hs
  ·rename_i id es c b hm hb ho
   try rw[hb,hm,ho]
   simp only[Option.map_some,zdA];split at hs
   ·rename_i i hi
    try rw[hi]
    cases hs;refine⟨?_,OC hH⟩
    rw[R.T_set hH,WL];simp only[Obj.ren,z1S];rfl
   ·cases hs
  ·cases hs
 | mdel kk m k=>
  have e1:=hE m (by simp [AO.opds]);have e2:=hE k (by simp [AO.opds])
  simp only[aop]at hs ⊢;rw[e1,e2,tQ,FG R hH];split at hs
  ·rename_i key id es c hk hm
   try rw[hk,hm]
   simp only[Option.map_some,WM];split at hs
   ·rename_i i hi
    try rw[hi]
    cases hs;refine⟨?_,OC hH⟩
    rw[R.T_set hH];simp only[Obj.ren,z1R];rfl
   ·rename_i hi
    try rw[hi]
    cases hs;exact⟨rfl,hH⟩
   ·cases hs
  ·cases hs
 | ext x i=>
  have e1:=hE x (by simp [AO.opds])
  simp only[aop]at hs ⊢;rw[e1];split at hs
  ·rename_i vs ha
   try rw[ha]
   simp only[AV.ren,kE,List.getElem?_map];exact Res.vals R hH _ v h y hs
  ·cases hs
 | lens x=>
  have e1:=hE x (by simp [AO.opds])
  simp only[aop]at hs ⊢;rw[e1];split at hs
  ·rename_i s ha;rw[ha];cases hs;exact⟨rfl,hH⟩
  ·cases hs
 | len x=>
  have e1:=hE x (by simp [AO.opds])
  simp only[aop]at hs ⊢;rw[e1];split at hs
  ·rename_i sh xs ha;rw[ha];cases hs;exact⟨rfl,hH⟩
  ·rename_i sh ha;rw[ha];cases hs;exact⟨rfl,hH⟩
  ·rename_i a b c d ha;rw[ha];cases hs;exact⟨rfl,hH⟩
  ·rename_i k a b g ha
   try rw[ha]
   simp only[AV.ren];rw[lnA_T R];exact Res.vals R hH _ v h y hs
  ·cases hs
 | lenm x=>
  have e1:=hE x (by simp [AO.opds])
  simp only[aop]at hs ⊢;rw[e1];split at hs
  ·rename_i ha;rw[ha];cases hs;exact⟨rfl,hH⟩
  ·rename_i id ha
   try rw[ha]
   have hm:=FG R hH (.mp id)
   simp only[AV.ren]at hm ⊢;try rw[hm]
   obtain⟨u,q1,q2⟩:=Option.map_eq_some_iff.1 hs;cases q2;try rw[q1]
   exact⟨by simp only[Option.map_some,List.length_map];rfl,hH⟩
  ·cases hs
 | app sh s x=>
  have e1:=hE s (by simp [AO.opds]);have e2:=hE x (by simp [AO.opds])
  simp only[aop]at hs ⊢;rw[e1,e2,WR R hH];split at hs
  ·rename_i sh' ys hr
   try rw[hr]
   try simp only
   split at hs
   ·rename_i hsh
    rw[if_pos hsh];split at hs
    ·rename_i sh0 ha
     try rw[ha]
     simp only[AV.ren];split at hs
     ·rename_i hc
      cases hs;rw[if_pos hc]
      refine⟨?_,UB hH⟩;rw[DC R hH];simp only[AV.ren,hLen];rfl
     ·cases hs
    ·rename_i id g off len ha
     try rw[ha]
     simp only[AV.ren,R.T_get hH];split at hs
     ·rename_i rsh xs fz hc
      try rw[hc]
      simp only[Option.map_some,Obj.ren];split at hs
      ·rename_i hq
       cases hs;rw[if_pos hq]
       refine⟨?_,OC hH⟩;rw[R.T_set hH];rfl
      ·rename_i hq
       rw[if_neg hq];split at hs
       ·rename_i hq2
        cases hs;rw[if_pos hq2]
        refine⟨?_,OC hH⟩;rw[R.T_set hH];rfl
       ·cases hs
     ·cases hs
    ·cases hs
   ·cases hs
  ·cases hs
 | copy sh d s=>
  have e1:=hE d (by simp [AO.opds]);have e2:=hE s (by simp [AO.opds])
  simp only[aop]at hs ⊢;rw[e1,e2,WR R hH];split at hs
  ·rename_i id g off len sh' ys ha hr
   try rw[ha,hr]
   simp only[AV.ren,R.T_get hH];split at hs
   ·rename_i rsh xs fz hc
    try rw[hc]
    simp only[Option.map_some,Obj.ren];split at hs
    ·rename_i hq
     cases hs;rw[if_pos hq]
     refine⟨?_,OC hH⟩;rw[R.T_set hH];rfl
    ·cases hs
   ·cases hs
  ·cases hs
 | clr sh z x=>
  have e1:=hE x (by simp [AO.opds])
  simp only[aop]at hs ⊢;rw[e1];split at hs
  ·rename_i sh0 ha;rw[ha];cases hs;exact⟨rfl,hH⟩
  ·rename_i id g off len ha
   try rw[ha]
   simp only[AV.ren,R.T_get hH];split at hs
   ·rename_i rsh xs fz hc
    try rw[hc]
    simp only[Option.map_some,Obj.ren];split at hs
    ·rename_i hq
     cases hs;rw[if_pos hq]
     refine⟨?_,OC hH⟩;rw[R.T_set hH];rfl
    ·cases hs
   ·cases hs
  ·cases hs
 | mx xs=>
  have e1:xs.map ev'=(xs.map ev).map (AV.ren R.r):=by rw[List.map_map];exact List.map_congr_left fun x hx=>hE x hx
  simp only[aop]at hs ⊢;rw[e1];split at hs
  ·rename_i a r ha
   try rw[ha]
   simp only[List.map_cons,AV.ren,nL];exact Res.pv R hH _ v h y hs
  ·cases hs
 | mn xs=>
  have e1:xs.map ev'=(xs.map ev).map (AV.ren R.r):=by rw[List.map_map];exact List.map_congr_left fun x hx=>hE x hx
  simp only[aop]at hs ⊢;rw[e1];split at hs
  ·rename_i a r ha
   try rw[ha]
   simp only[List.map_cons,AV.ren,nL];exact Res.pv R hH _ v h y hs
  ·cases hs
 | new0 sh=>
  simp only[aop,Option.some.injEq,Prod.mk.injEq]at hs ⊢;obtain⟨rfl,rfl,rfl⟩:=hs;refine⟨⟨by simp only[AV.ren,hLen],?_,rfl⟩,UB hH⟩
  rw[DC R hH];rfl
 | mrange x=>
  have e1:=hE x (by simp [AO.opds])
  simp only[aop]at hs ⊢;rw[e1,FG R hH];split at hs
  ·rename_i id es c hm
   try rw[hm]
   cases hs;refine⟨?_,UB hH⟩
   rw[DC R hH];simp only[Option.map_some,AV.ren,hLen];rfl
  ·rename_i hm
   try rw[hm]
   simp only[Option.map_none];split at hs
   ·rename_i ha
    try rw[ha]
    cases hs;refine⟨?_,UB hH⟩
    rw[DC R hH];simp only[AV.ren,hLen];rfl
   ·cases hs
 | mentry i=>
  have e1:=hE i (by simp [AO.opds])
  simp only[aop]at hs ⊢;rw[e1];split at hs
  ·rename_i id ha
   try rw[ha]
   simp only[AV.ren,R.T_get hH];split at hs
   ·rename_i m since seen last hc
    have hm:=FG R hH (.mp m)
    simp only[AV.ren]at hm;try rw[hc]
    simp only[Option.map_some,Obj.ren,hm];split at hs
    ·rename_i mm es c b h1 h2
     try rw[h1,h2]
     simp only[Option.map_some];split at hs
     ·rename_i hq
      rw[if_pos hq,zdB];obtain⟨u,q1,q2⟩:=Option.map_eq_some_iff.1 hs;cases q2;try rw[q1]
      exact⟨rfl,hH⟩
     ·cases hs
    ·cases hs
   ·cases hs
  ·cases hs
 | uns k t xs=>
  have e1:xs.map ev'=(xs.map ev).map (AV.ren R.r):=by rw[List.map_map];exact List.map_congr_left fun x hx=>hE x hx
  simp only[aop]at hs ⊢;rw[e1];exact zlK R hH k t _ v h y hs
 | call f a=>cases hs
 | callv f a=>cases hs
 | mnext sh xs=>cases hs
end Go.Am
end
section
/- The abstract machine,part R,4: code and calls at renamed objects. -/
set_option linter.unusedSimpArgs false
set_option linter.unusedVariables false
namespace Go.Am
variable (R:Loc) {H:aA}
def SB (r:Nat→Nat)(e:List (Nat × AV)):List (Nat×AV):=e.map fun y=>(y.1,y.2.ren r)
variable {r:Nat→Nat} {gl:Nat→Option PV}
theorem NH:∀ (e:List (Nat × AV)) (n:Nat),eA (SB r e) n=(eA e n).ren r
 | [],n=>rfl
 | (k,v)::l,n=>by
  have ih:=NH l n
  unfold SB at ih ⊢;simp only[List.map_cons,eA];split
  ·rfl
  ·exact ih
theorem dI {e:List (Nat × AV)}{x:Opd}(h:x.cl=true):Opd.ev gl (SB r e) x=(Opd.ev gl e x).ren r:=by
 cases x with
 | t n=>exact NH e n
 | c v=>simp only[Opd.ev];exact(YK r v (by simpa [Opd.cl] using h)).symm
 | f id=>rfl
 | g n=>simp only[Opd.ev];cases gl n <;> rfl
theorem aM {e:List (Nat × AV)}{l:List Opd}(h:l.all Opd.cl=true):l.map (Opd.ev gl (SB r e))=(l.map (Opd.ev gl e)).map (AV.ren r):=by
 rw[List.map_map];exact List.map_congr_left fun x hx=>dI (List.all_eq_true.1 h x hx)
theorem z6k {e:List (Nat × AV)}(g:Option (Nat × Bool)):wanted g (SB r e)=wanted g e:=by
 cases g with
 | none=>rfl
 | some y=>
  obtain⟨t,b⟩:=y;simp only[wanted,NH];cases eA e t with
  | p v=>cases v <;> rfl
  | _=>rfl
theorem VY {e:List (Nat × AV)}(d:Option Nat)(v:AV):put d (v.ren r) (SB r e)=SB r (put d v e):=by cases d <;> rfl
theorem XK {e:List (Nat × AV)}(k:Option (List Nat)):rA k (SB r e)=SB r (rA k e):=by
 cases k with
 | none=>rfl
 | some l=>simp only[rA,SB,List.map_map];exact List.map_congr_left fun t _=>by simp only[Function.comp];rw[←NH];rfl
theorem cX {n t:Nat}(hn:1≤n):max (R.r n) (R.rt t)=R.r (max n t):=by
 rcases Nat.le_total t n with h|h
 ·rw[Nat.max_eq_left h,Nat.max_eq_left (R.rt_le_r.2 h)]
 ·rcases Nat.eq_or_lt_of_le h with e|e
  ·subst e;rw[Nat.max_self,Nat.max_eq_left (R.rt_le_r.2 (Nat.le_refl _))]
  ·rw[Nat.max_eq_right h,R.rt_two (by omega),Nat.max_eq_right (R.r_le.2 h)]
theorem z0K:∀ (x:Esc) {n:Nat},1≤n→FD (R.xr x) (R.r n)=R.r (FD x n)∧1≤FD x n
 | [],n,h=>⟨rfl,h⟩
 | y::x,n,h=>by
  unfold FD;simp only[Loc.xr,List.map_cons,List.foldl_cons];have e:(if R.r y.1<R.r n then max (R.r n) (R.rt y.2) else R.r n)=R.r (if y.1<n then max n y.2 else n):=by
   by_cases q:y.1<n
   ·rw[if_pos q,if_pos (R.r_lt.2 q),cX R h]
   ·rw[if_neg q,if_neg (by rw[R.r_lt];exact q)]
  have h2:1≤(if y.1<n then max n y.2 else n):=by split <;> omega
  rw[e];exact z0K x h2
theorem FO (x:Esc):∀(k:Nat) {n:Nat},1≤n→close k (R.xr x) (R.r n)=R.r (close k x n)∧1≤close k x n
 | 0,n,h=>⟨rfl,h⟩
 | k+1,n,h=>by
  obtain⟨a,b⟩:=z0K R x h;simp only[close,a];exact FO x k b
theorem tJ {p q:Prop}[Decidable p][Decidable q](h:p↔q):decide p=decide q:=by
 by_cases hp:p
 ·rw[decide_eq_true hp,decide_eq_true (h.1 hp)]
 ·rw[decide_eq_false hp,decide_eq_false (fun hq=>hp (h.2 hq))]
theorem HO (x:Esc)(n:Nat):bB (R.xr x) (R.r n)=bB x n:=by
 unfold bB Loc.xr;rw[List.all_map];congr 1
 funext y
 simp only[Function.comp,tJ (R.r_le (i:=n) (j:=y.1)),tJ (R.rt_le_r (t:=y.2) (n:=n))]
theorem zam (n:Nat)(e:List (Nat × AV)):bE (R.r n) (SB R.r e)=SB R.r (bE n e):=by
 unfold bE SB;rw[List.map_map,List.map_map];apply List.map_congr_left
 intro y _;simp only[Function.comp];rw[R.top];by_cases q:y.2.top≤n
 ·rw[if_pos q,if_pos (R.rt_le_r.2 q)]
 ·rw[if_neg q,if_neg (by rw[R.rt_le_r];exact q)];rfl
theorem gQ (x:Esc)(n:Nat):(R.xr x).filter (fun y=>decide (y.1<R.r n))=R.xr (x.filter fun y=>decide (y.1<n)):=by
 unfold Loc.xr;rw[List.filter_map];congr 1
 apply List.filter_congr
 intro y _;exact tJ R.r_lt
theorem mL {n:Nat}(hH:H≠[])(hn:1≤n):H.take n≠[]:=fun e=>by
 have:=congrArg List.length e;have h:=List.length_pos_iff.2 hH
 rw[List.length_take,List.length_nil]at this;omega
def Loc.S (s:St):St:=⟨SB R.r s.env,R.T s.h,R.xr s.esc⟩
theorem BZ (x:Esc):(R.xr x).length=x.length:=by simp [Loc.xr]
theorem zlA {b:Nat}(hb:1≤b)(x0:Esc){s:St}(hs:s.h≠[]):SC (R.r b) (R.xr x0) (R.S s)=R.S (SC b x0 s)∧(SC b x0 s).h≠[]:=by
 obtain⟨c1,c2⟩:=FO R s.esc s.esc.length hb;unfold SC Loc.S;simp only[BZ,c1,HO];split
 ·exact⟨by rw[zam,gQ,R.T_take hs c2,←MS],mL hs c2⟩
 ·exact⟨by rw[MS],hs⟩
theorem rd0_T (hH:H≠[])(b:Nat)(v:AV):rd0 (R.r b) (R.T H) (v.ren R.r)=rd0 b H v:=by
 cases v with
 | own id g off len=>
  have:=MI R hH (.own id g off len);simp only[AV.ren]at this;simp only[AV.ren,rd0,this];by_cases q:b≤id
  ·rw[if_pos q,if_pos (R.r_le.2 q)]
  ·rw[if_neg q,if_neg (by rw[R.r_le];exact q)]
 | _=>rfl
theorem z4O (hH:H≠[])(b:Nat):∀l:List AV,LG (R.r b) (R.T H) (l.map (AV.ren R.r))=LG b H l
 | []=>rfl
 | v::l=>by simp only[List.map_cons,LG,rd0_T R hH,z4O hH b l]
theorem rdA_T (hH:H≠[])(b id g:Nat):rdA (R.r b) (R.T H) (R.r id) g=(rdA b H id g).map (AV.ren R.r):=by
 unfold rdA;rw[R.T_get hH];cases H[id]? with
 | none=>rfl
 | some o=>
  cases o with
  | arow sh cs=>
   simp only[Option.map_some,Obj.ren,List.length_map,z4O R hH];split
   ·cases LG b H cs <;> rfl
   ·rfl
  | _=>rfl
mutual
theorem YY:∀ {H:aA} (hH:H≠[]) (b:Nat) (v:AV),PA (R.r b) (R.T H) (v.ren R.r)=(PA b H v).map (AV.ren R.r)
 | H,hH,b,.own id g off len=>by
  have:=MI R hH (.own id g off len);simp only[AV.ren]at this;simp only[AV.ren,PA,this];by_cases q:b≤id
  ·rw[if_pos q,if_pos (R.r_le.2 q)];cases rd H (.own id g off len) <;> rfl
  ·rw[if_neg q,if_neg (by rw[R.r_le];exact q)];rfl
 | H,hH,b,.bt k t id g=>by
  simp only[AV.ren,PA,rdA_T R hH,tJ (R.r_le (i:=b) (j:=id))];cases (Nat.beq k 3&&decide (b≤id)) <;> rfl
 | H,hH,b,.agg cs=>by
  simp only[AV.ren,PA,ZY hH b cs];cases zE b H cs with
  | none=>rfl
  | some l=>simp only[Option.map_some,kE,fX]
 | H,hH,b,.tup cs=>by
  simp only[AV.ren,PA,ZY hH b cs];cases zE b H cs <;> rfl
 | H,hH,b,.p _|H,hH,b,.sl0 _|H,hH,b,.vp _|H,hH,b,.nilp|H,hH,b,.nilm|H,hH,b,.nilf|H,hH,b,.nili|H,hH,b,.ifc|H,hH,b,.anyb|H,hH,b,.skp|H,hH,b,.und|H,hH,b,.anyp
 | H,hH,b,.ref _ _|H,hH,b,.rref _ _ _ _|H,hH,b,.mp _|H,hH,b,.it _|H,hH,b,.fn _ _=>by simp [AV.ren,PA]
theorem ZY:∀ {H:aA} (hH:H≠[]) (b:Nat) (l:List AV),zE (R.r b) (R.T H) (AV.rens R.r l)=(zE b H l).map (AV.rens R.r)
 | H,hH,b,[]=>by simp [AV.rens,zE]
 | H,hH,b,v::l=>by
  simp only[AV.rens,zE,YY hH b v,ZY hH b l];cases PA b H v with
  | none=>rfl
  | some x=>simp only[Option.map_some];cases zE b H l <;> rfl
end
theorem z80 {s:St}(hs:s.h≠[])(y:ARes):kF (R.S s) y=(kF s y).map (AV.ren R.r):=by
 cases y with
 | t n=>simp only[kF,Loc.S,NH];rfl
 | o n=>simp only[kF,Loc.S,NH];rfl
 | cell a sh=>
  simp only[kF,Loc.S,NH];cases eA s.env a with
  | ref id off=>
   simp only[AV.ren,R.T_get hs];cases s.h[id]? with
   | none=>rfl
   | some o=>cases o with
    | box cs=>simp only[Option.map_some,Obj.ren,QO]
    | _=>rfl
  | _=>rfl
theorem z06 {s:St}(hs:s.h≠[]):∀l:List ARes,jC (R.S s) l=(jC s l).map (List.map (AV.ren R.r))
 | []=>rfl
 | y::l=>by
  simp only[jC,z80 R hs,z06 hs l];cases kF s y with
  | none=>rfl
  | some v=>simp only[Option.map_some];cases jC s l <;> rfl
theorem lX (l:List AV):LA (l.map (AV.ren r))=(LA l).ren r:=by
 match l with
 | []=>rfl
 | [v]=>rfl
 | a::b::c=>simp only[List.map_cons,LA,AV.ren,AV.rens,kE]
theorem TR:∀ {H:aA} (hH:H≠[]) (l:List AV),mA (R.T H) (l.map (AV.ren R.r))=(mA H l).map (fun y=>(y.1.map (AV.ren R.r),R.T y.2))
 | H,hH,[]=>rfl
 | H,hH,v::l=>by
  have step:∀{G:aA} (hG:G≠[]) (x:AV),(mA (R.T G) (l.map (AV.ren R.r))).map (fun y=>(x.ren R.r::y.1,y.2))=((mA G l).map fun y=>(x::y.1,y.2)).map fun y=>(y.1.map (AV.ren R.r),R.T y.2):=fun hG x=>by
   rw[TR hG l];cases mA _ l <;> rfl
  cases v with
  | own id g off len=>
   have hr:=MI R hH (.own id g off len)
   simp only[AV.ren]at hr;simp only[List.map_cons,AV.ren,mA,hr,lQ R hH];cases rd H (.own id g off len) with
   | none=>rfl
   | some z=>exact step (FM hH) (.p (.sl z.1 z.2))
  | agg cs=>
   have hp:=QR R hH (.agg cs)
   simp only[AV.ren]at hp;simp only[List.map_cons,AV.ren,mA,hp];cases hc:pur H (.agg cs) with
   | none=>rfl
   | some y=>
    obtain⟨x,h1⟩:=y;exact step (G:=h1) (KI R hH _ hc) (.p x)
  | sl0 sh=>exact step hH (.p (.sl sh []))
  | p v=>exact step hH (.p v)
  | ref a b=>exact step hH (.ref a b)
  | rref a b c d=>exact step hH (.rref a b c d)
  | vp v=>exact step hH (.vp v)
  | nilp=>exact step hH .nilp
  | nilm=>exact step hH .nilm
  | nilf=>exact step hH .nilf
  | nili=>exact step hH .nili
  | ifc=>exact step hH .ifc
  | mp a=>exact step hH (.mp a)
  | it a=>exact step hH (.it a)
  | fn a b=>exact step hH (.fn a b)
  | tup a=>exact step hH (.tup a)
  | anyb=>exact step hH .anyb
  | skp=>exact step hH .skp
  | und=>exact step hH .und
  | anyp=>exact step hH .anyp
  | bt a b c d=>exact step hH (.bt a b c d)
theorem LI (R:Loc):∀{H:aA} (hH:H≠[]) (l:List AV) {y:List AV×aA},mA H l=some y→y.2≠[]
 | H,hH,[],y,h=>by simp only[mA,Option.some.injEq]at h;subst h;exact hH
 | H,hH,v::l,y,h=>by
  simp only[mA]at h;split at h
  ·split at h
   ·obtain⟨z,q1,rfl⟩:=Option.map_eq_some_iff.1 h
    exact LI R (FM hH) l (y:=z) q1
   ·cases h
  ·split at h
   ·rename_i x h1 hp
    obtain⟨z,q1,rfl⟩:=Option.map_eq_some_iff.1 h;exact LI R (KI R hH _ hp) l (y:=z) q1
   ·cases h
  ·obtain⟨z,q1,rfl⟩:=Option.map_eq_some_iff.1 h
   exact LI R hH l (y:=z) q1
  ·obtain⟨z,q1,rfl⟩:=Option.map_eq_some_iff.1 h
   exact LI R hH l (y:=z) q1
theorem zd6 (l:List AV):enter (l.map (AV.ren r))=SB r (enter l):=by
 unfold enter SB;rw[List.zipIdx_map,List.map_map,List.map_map];rfl
theorem zgg (hH:H≠[])(v:AV){l:List (AV × aA)}(h:GG H v=some l):GG (R.T H) (v.ren R.r)=some (l.map fun y=>(y.1.ren R.r,R.T y.2))∧∀y∈l,y.2≠[]:=by
 unfold GG at h;split at h
 ·rename_i id
  simp only[AV.ren,GG,R.T_get hH];split at h
  ·rename_i since a b hc
   simp only[hc,Option.map_some,Obj.ren,Option.map_none];split at h
   ·rename_i hq
    cases h;rw[if_pos hq]
    exact⟨rfl,fun y hy=>by rw[List.mem_singleton.1 hy];exact hH⟩
   ·cases h
  ·rename_i m since seen last hc
   have hm:=FG R hH (.mp m)
   simp only[AV.ren]at hm;simp only[hc,Option.map_some,Obj.ren,hm];split at h
   ·rename_i mm es c hg
    simp only[hg,Option.map_some];split at h
    ·rename_i hq
     rw[if_pos hq];have hf:(es.map (ME.ren R.r)).filter (fun e=>!seen.contains e.born)=(es.filter fun e=>!seen.contains e.born).map (ME.ren R.r):=by
      rw[List.filter_map];rfl
     simp only[hf];cases he:es.filter (fun e=>!seen.contains e.born) with
     | nil=>
      rw[he]at h;cases h;refine⟨?_,fun y hy=>by rw[List.mem_singleton.1 hy];exact OC hH⟩
      simp only[List.map_nil,List.map_cons];rw[R.T_set hH];rfl
     | cons e0 es0=>
      rw[he]at h;simp only[Option.some.injEq]at h;subst h;refine⟨?_,fun y hy=>?_⟩
      ·simp only[List.map_cons,Option.some.injEq]
       congr 1
       ·rw[R.T_set hH];rfl
       ·rw[List.map_map,List.map_map]
        apply List.map_congr_left
        intro e _;simp only[Function.comp];rw[R.T_set hH];rfl
      ·obtain⟨e,_,rfl⟩:=List.mem_map.1 hy
       exact OC hH
    ·cases h
   ·cases h
  ·cases h
 ·cases h
theorem z8y (hH:H≠[])(sh:Sh)(s x:AV){l:List (AV × aA)}(h:OH H sh s x=some l):OH (R.T H) sh (s.ren R.r) (x.ren R.r)=some (l.map fun y=>(y.1.ren R.r,R.T y.2))∧∀y∈l,y.2≠[]:=by
 unfold OH at h;split at h
 ·rename_i sh' ys hr
  simp only[OH,WR R hH,hr];split at h
  ·rename_i hsh
   rw[if_pos hsh];split at h
   ·rename_i id g off len
    simp only[AV.ren,R.T_get hH];split at h
    ·rename_i rsh xs fz hc
     simp only[hc,Option.map_some,Obj.ren];have two:∀(a b:AV) (o o':Obj) (i:Nat),∀y∈[(a,H.set i o),(b,H++[o'])],y.2≠[]:=fun a b o o' i y hy=>by
      simp only[List.mem_cons,List.not_mem_nil,or_false]at hy;rcases hy with e|e <;> rw[e]
      ·exact OC hH
      ·exact UB hH
     split at h
     ·rename_i hq
      cases h;rw[if_pos hq]
      refine⟨?_,two _ _ _ _ _⟩;simp only[List.map_cons,List.map_nil];rw[R.T_set hH,DC R hH,R.T_len hH];rfl
     ·rename_i hq
      rw[if_neg hq];split at h
      ·rename_i hq2
       cases h;rw[if_pos hq2]
       refine⟨?_,two _ _ _ _ _⟩;simp only[List.map_cons,List.map_nil];rw[R.T_set hH,DC R hH,R.T_len hH];rfl
      ·cases h
    ·cases h
   ·cases h
  ·cases h
 ·cases h
theorem zak (hH:H≠[])(sh:Option Sh)(xs:List AV){l:List (AV × aA)}(h:FF H sh xs=some l):FF (R.T H) sh (xs.map (AV.ren R.r))=some (l.map fun y=>(y.1.ren R.r,R.T y.2))∧∀y∈l,y.2≠[]:=by
 unfold FF at h;split at h
 ·exact zgg R hH _ h
 ·exact z8y R hH _ _ _ h
 ·cases h
end Go.Am
end
section
/- The abstract machine,part R,5: what a call at a heap of its own does,it does at any heap. -/
set_option linter.unusedSimpArgs false
set_option linter.unusedVariables false
namespace Go.Am
variable (R:Loc) {H:aA} {gl:Nat→Option PV} {C D:Hd}
def ImP (K:jA):jA:=fun v h x=>∃v0 h0 x0,v=v0.ren R.r∧h=R.T h0∧x=R.xr x0∧h0≠[]∧K v0 h0 x0
def ImR (K:List (Nat × AV)→aA→Esc→Prop):List (Nat×AV)→aA→Esc→Prop:=fun e h x=>∃e0 h0 x0,e=SB R.r e0∧h=R.T h0∧x=R.xr x0∧h0≠[]∧K e0 h0 x0
def ImS (K:Ex→St→Prop):Ex→St→Prop:=fun e s=>∃s0,s=R.S s0∧s0.h≠[]∧K e s0
def Sim (C D:Hd):Prop:=∀f a h K,h≠[]→C f a h K→D f (a.map (AV.ren R.r)) (R.T h) (ImP R K)
theorem SS (hC:Sim R C D)(hD:D.Mono):∀(ops:List AOp) e h x K,(ops.all fun o=>o.op.cl)=true→h≠[]→JA C gl ops e h x K→JA D gl ops (SB R.r e) (R.T h) (R.xr x) (ImR R K)
 | [],e,h,x,K,_,hh,H=>⟨e,h,x,rfl,rfl,rfl,hh,H⟩
 | o::r,e,h,x,K,hn,hh,H=>by
  obtain⟨dst,guard,op⟩:=o;simp only[List.all_cons,Bool.and_eq_true]at hn;obtain⟨hn1,hn2⟩:=hn;unfold AO.cl at hn1;simp only[Bool.and_eq_true,beq_iff_eq]at hn1;obtain⟨hn1,hz⟩:=hn1;unfold JA at H ⊢;dsimp only at H ⊢;rw[z6k];split at H
  ·rename_i hw
   have next:∀v h' x',h'≠[]→JA C gl r (put dst v e) h' (x'++x) K→JA D gl r (put dst (v.ren R.r) (SB R.r e)) (R.T h') (R.xr x'++R.xr x) (ImR R K):=fun v h' x' hne hk=>by
    rw[VY,←MS];exact SS hC hD r _ _ _ K hn2 hne hk
   have plain:∀{o:AO},o.opds.all Opd.cl=true→AV.tops o.cons=0→∀{v:AV} {h':aA} {x':Esc},aop o (Opd.ev gl e) h=some (v,h',x')→aop o (Opd.ev gl (SB R.r e)) (R.T h)=some (v.ren R.r,R.T h',R.xr x')∧h'≠[]:=fun {o} h1 h2 {v h' x'} ha=>
    z00 R (ev:=Opd.ev gl e) (ev':=Opd.ev gl (SB R.r e)) h2 (fun x hx=>dI (List.all_eq_true.1 h1 x hx)) hh v h' x' ha
   cases op;case call f args=>
    dsimp only at H ⊢;rw[aM (l:=args) hn1];refine hD _ _ _ _ _ (fun v h' x' q=>?_) (hC _ _ _ _ hh H)
    obtain⟨v0,h0,x0,rfl,rfl,rfl,hne,hk⟩:=q;exact next _ _ _ hne hk
   case callv f args=>
    simp only[AO.opds,List.all_cons,Bool.and_eq_true]at hn1;dsimp only at H ⊢;rw[aM hn1.2,dI hn1.1];split at H
    ·rename_i g caps hf
     rw[hf];simp only[AV.ren,kE];rw[←List.map_append];refine hD _ _ _ _ _ (fun v h' x' q=>?_) (hC _ _ _ _ hh H)
     obtain⟨v0,h0,x0,rfl,rfl,rfl,hne,hk⟩:=q;exact next _ _ _ hne hk
    ·exact H.elim
   case mnext sh xs=>
    dsimp only at H ⊢;rw[aM (l:=xs) hn1];split at H
    ·rename_i l hl
     obtain⟨q1,q2⟩:=zak R hh sh _ hl;rw[q1];refine⟨fun e=>H.1 (by simpa using e),fun y hy=>?_⟩
     obtain⟨z,hz1,rfl⟩:=List.mem_map.1 hy;have:=next z.1 z.2 [] (q2 z hz1) (H.2 z hz1);exact this
    ·exact H.elim
   all_goals
    dsimp only at H ⊢;split at H
    ·rename_i ha
     obtain⟨q1,q2⟩:=plain hn1 hz ha;rw[q1];exact next _ _ _ q2 H
    ·exact H.elim
  ·rename_i hw
   have:=SS hC hD r (put dst .skp e) h x K hn2 hh H;rw[←VY]at this;exact this
  ·exact H.elim
theorem OS (hC:Sim R C D)(hD:D.Mono)(hM:AD D D){o:AOp}{e:List (Nat × AV)}{h h':aA}{v:AV}{x:Esc}(hn:o.op.cl=true)(hh:h≠[])(H:ADo C gl o e h v h' x):ADo D gl o (SB R.r e) (R.T h) (v.ren R.r) (R.T h') (R.xr x)∧h'≠[]:=by
 obtain⟨dst,guard,op⟩:=o;unfold AO.cl at hn;simp only[Bool.and_eq_true,beq_iff_eq]at hn;obtain⟨hn1,hz⟩:=hn;have key:∀{f a} {Z:jA},Z=(fun v1 h1 x1=>v1=v∧h1=h'∧x1=x)→D f a (R.T h) (ImP R Z)→D f a (R.T h) (fun v1 h1 x1=>v1=v.ren R.r∧h1=R.T h'∧x1=R.xr x)∧h'≠[]:=fun {f a Z} hZ q=>by
  subst hZ;refine⟨hD _ _ _ _ _ (fun v1 h1 x1 k=>?_) q,?_⟩
  ·obtain⟨v0,h0,x0,rfl,rfl,rfl,hne,rfl,rfl,rfl⟩:=k
   exact⟨rfl,rfl,rfl⟩
  ·obtain⟨v1,h1,x1,k,_⟩:=hM _ _ _ _ _ q q
   obtain⟨v0,h0,x0,rfl,rfl,rfl,hne,rfl,rfl,rfl⟩:=k;exact hne
 unfold ADo at H ⊢;dsimp only at H ⊢;rw[z6k];split at H
 ·rename_i hw
  cases op;case call f args=>
   dsimp only at H ⊢;rw[aM (l:=args) hn1];exact key rfl (hC _ _ _ _ hh H)
  case callv f args=>
   simp only[AO.opds,List.all_cons,Bool.and_eq_true]at hn1;dsimp only at H ⊢;rw[aM hn1.2,dI hn1.1];split at H
   ·rename_i g caps hf
    rw[hf];simp only[AV.ren,kE];rw[←List.map_append];exact key rfl (hC _ _ _ _ hh H)
   ·exact H.elim
  case mnext sh xs=>exact H.elim
  all_goals
   exact z00 R (ev:=Opd.ev gl e) (ev':=Opd.ev gl (SB R.r e)) hz (fun x hx=>dI (List.all_eq_true.1 hn1 x hx)) hh v h' x H
 ·obtain⟨rfl,rfl,rfl⟩:=H
  exact⟨⟨rfl,rfl,rfl⟩,hh⟩
 ·exact H.elim
def tN (r:Nat→Nat)(d:yC):yC:=d.map fun q=>(q.1,SB r q.2.1,q.2.2.ren r)
theorem IZ (hC:Sim R C D)(hD:D.Mono)(hM:AD D D):∀(ds:List DOp) dn hs e h x K,(ds.all fun o=>o.op.op.cl)=true→(∀q∈dn,q.1.op.cl=true)→(∀g∈hs,g≠[])→h≠[]→PC C gl ds dn hs e h x K →
 PC D gl ds (tN R.r dn) (hs.map R.T) (SB R.r e) (R.T h) (R.xr x) (ImR R K)
 | [],dn,hs,e,h,x,K,_,_,_,hh,H=>⟨e,h,x,rfl,rfl,rfl,hh,H⟩
 | o::r,dn,hs,e,h,x,K,hn,hd,hg,hh,H=>by
  simp only[List.all_cons,Bool.and_eq_true]at hn;obtain⟨v,h',y,h1,h2,h3,h4,h5⟩:=H;obtain⟨a1,a2⟩:=OS R hC hD hM hn.1 hh h1;have ih:=IZ hC hD hM r _ _ _ _ _ K hn.2 (fun q hq=>by
   rcases List.mem_append.1 hq with k|k
   ·exact hd q k
   ·rw[List.mem_singleton.1 k];exact hn.1) (fun g hq=>by
   rcases List.mem_append.1 hq with k|k
   ·exact hg g k
   ·rw[List.mem_singleton.1 k];exact hh) a2 h5
  refine⟨v.ren R.r,R.T h',R.xr y,by rw[XK];exact a1,fun q=>?_,fun k hk=>?_,fun j hj=>?_,?_⟩
  ·obtain⟨e1,e2⟩:=h2 q
   subst e1;subst e2
   exact⟨rfl,rfl⟩
  ·obtain⟨g,q1,q2⟩:=h3 k hk
   have hgn:=hg g (List.mem_of_getElem? q1)
   refine⟨R.T g,by rw[List.getElem?_map,q1];rfl,?_⟩
   have:=(OS R hC hD hM hn.1 hgn q2).1;rw[XK];exact this
  ·obtain⟨q,q1,q2⟩:=h4 j hj
   have hqn:=hd q (List.mem_of_getElem? q1)
   refine⟨(q.1,SB R.r q.2.1,q.2.2.ren R.r),by unfold tN;rw[List.getElem?_map,q1];rfl,?_⟩
   exact(OS R hC hD hM hqn a2 q2).1
  ·have e1:tN R.r (dn++[(o.op,rA (some o.rd) e,v)])=tN R.r dn++[(o.op,rA (some o.rd) (SB R.r e),v.ren R.r)]:=by
    unfold tN;rw[List.map_append,XK];rfl
   rw[e1,List.map_append,MS,←VY]at ih;exact ih
def ACode.cl:ACode→Bool
 | .reg ops _=>ops.all fun o=>o.op.cl
 | .draw ds _=>ds.all fun o=>o.op.op.cl
 | .seq a b=>a.cl&&b.cl
 | .cond c a b | .condu c a b=>c.cl&&a.cl&&b.cl
 | .det b | .block _ b | .loop b | .scope b | .pr _ b=>b.cl
 | _=>true
theorem z6x {T U:St→(Ex→St→Prop)→Prop}(hT:∀ s K,s.h≠[]→T s K→U (R.S s) (ImS R K)){K:Ex→St→Prop}{s:St}(H:ALoop T K s):s.h≠[]→ALoop U (ImS R K) (R.S s):=by
 induction H with
 | mk s P h hn he hr ih=>
  intro hs;refine .mk _ (ImS R P) (hT s P hs h) (fun s' q=>?_) (fun i s' q=>?_) (fun s' q=>?_)
  ·obtain⟨s0,rfl,hne,k⟩:=q;exact ih s0 k hne
  ·obtain⟨s0,rfl,hne,k⟩:=q;exact⟨s0,rfl,hne,he i s0 k⟩
  ·obtain⟨s0,rfl,hne,k⟩:=q;exact⟨s0,rfl,hne,hr s0 k⟩
theorem YD (hC:Sim R C D)(hD:D.Mono)(hM:AD D D):∀(c:ACode),c.cl=true→∀s K,s.h≠[]→AW C gl c s K→AW D gl c (R.S s) (ImS R K)
 | .skip,_,s,K,hs,H=>⟨s,rfl,hs,H⟩
 | .reg ops keep,hn,s,K,hs,H=>by
  have:=SS R hC hD ops _ _ _ _ hn hs H;refine RG (C:=D) (C':=D) (fun f a h K K' hK h=>hD _ _ _ _ _ hK h) ops _ _ _ _ _ (fun e h x q=>?_) this
  obtain⟨e0,h0,x0,rfl,rfl,rfl,hne,k⟩:=q;exact⟨⟨rA keep e0,h0,x0⟩,by rw[XK];rfl,hne,k⟩
 | .draw ds keep,hn,s,K,hs,H=>by
  have:=IZ R hC hD hM ds [] [] _ _ _ _ hn (by simp) (by simp) hs H
  refine JN (C:=D) (C':=D) (fun f a h K K' hK h=>hD _ _ _ _ _ hK h) ds _ _ _ _ _ _ _ (fun e h x q=>?_) this
  obtain⟨e0,h0,x0,rfl,rfl,rfl,hne,k⟩:=q;exact⟨⟨rA keep e0,h0,x0⟩,by rw[XK];rfl,hne,k⟩
 | .seq a b,hn,s,K,hs,H=>by
  simp only[ACode.cl,Bool.and_eq_true]at hn;have:=YD hC hD hM a hn.1 s _ hs H;refine xC (C:=D) (C':=D) (gl:=gl) (fun f a h K K' hK h=>hD _ _ _ _ _ hK h) a _ _ _ (fun e s' q=>?_) this
  obtain⟨s0,rfl,hne,k⟩:=q;cases e with
  | normal=>exact YD hC hD hM b hn.2 s0 K hne k
  | exit i=>exact⟨s0,rfl,hne,k⟩
  | ret=>exact⟨s0,rfl,hne,k⟩
 | .condu c a b,hn,s,K,hs,H=>by
  simp only[ACode.cl,Bool.and_eq_true]at hn;obtain⟨⟨n1,n2⟩,n3⟩:=hn;unfold AW at H ⊢;have e1:Opd.ev gl (R.S s).env c=(Opd.ev gl s.env c).ren R.r:=dI n1
  rw[e1];split at H
  ·rename_i t ht
   rw[ht];split at H
   ·exact YD hC hD hM a n2 s K hs H
   ·exact YD hC hD hM b n3 s K hs H
  ·rename_i ht
   rw[ht];exact⟨YD hC hD hM a n2 s K hs H.1,YD hC hD hM b n3 s K hs H.2⟩
  ·exact H.elim
 | .det b,hn,s,K,hs,H=>YD hC hD hM b hn s K hs H
 | .cond c a b,hn,s,K,hs,H=>by
  simp only[ACode.cl,Bool.and_eq_true]at hn;obtain⟨⟨n1,n2⟩,n3⟩:=hn;unfold AW at H ⊢;have e1:Opd.ev gl (R.S s).env c=(Opd.ev gl s.env c).ren R.r:=dI n1
  rw[e1];split at H
  ·rename_i t ht
   rw[ht];split at H
   ·exact YD hC hD hM a n2 s K hs H
   ·exact YD hC hD hM b n3 s K hs H
  ·exact H.elim
 | .block id b,hn,s,K,hs,H=>by
  have:=YD hC hD hM b hn s _ hs H;refine xC (C:=D) (C':=D) (gl:=gl) (fun f a h K K' hK h=>hD _ _ _ _ _ hK h) b _ _ _ (fun e s' q=>?_) this
  obtain⟨s0,rfl,hne,k⟩:=q;cases e with
  | normal=>exact⟨s0,rfl,hne,k⟩
  | exit i=>
   dsimp only at k ⊢;split at k
   ·rename_i hi;rw[if_pos hi];exact⟨s0,rfl,hne,k⟩
   ·rename_i hi;rw[if_neg hi];exact⟨s0,rfl,hne,k⟩
  | ret=>exact⟨s0,rfl,hne,k⟩
 | .loop b,hn,s,K,hs,H=>z6x R (fun s K hs h=>YD hC hD hM b hn s K hs h) H hs
 | .scope b,hn,s,K,hs,H=>by
  have:=YD hC hD hM b hn ⟨s.env,s.h,[]⟩ _ hs H;have hl:1≤s.h.length:=List.length_pos_iff.2 hs
  refine xC (C:=D) (C':=D) (gl:=gl) (fun f a h K K' hK h=>hD _ _ _ _ _ hK h) b _ _ _ (fun e s' q=>?_) this
  obtain⟨s0,rfl,hne,k⟩:=q;obtain⟨t1,t2⟩:=zlA R hl s.esc hne;refine⟨_,?_,t2,k⟩;rw[←t1,←R.T_len hs];rfl
 | .pr l b,hn,s,K,hs,H=>by
  have:=YD hC hD hM b hn ⟨rA (some l) s.env,s.h,s.esc⟩ K hs H;unfold Loc.S at this;rw[←XK]at this;exact this
 | .exit id,_,s,K,hs,H=>⟨s,rfl,hs,H⟩
 | .ret,_,s,K,hs,H=>⟨s,rfl,hs,H⟩
 | .bad,_,s,K,hs,H=>H.elim
theorem iQ {r:Nat→Nat}:∀(rs:List ARes) (vs:List AV),PF rs (vs.map (AV.ren r))=(PF rs vs).ren r
 | [],_=>by simp [PF,AV.ren]
 | _::_,[]=>by simp [PF,AV.ren]
 | y::rs,v::vs=>by
  cases y with
  | o n=>rfl
  | t n=>exact iQ rs vs
  | cell n sh=>exact iQ rs vs
theorem z0A (i j:Nat):Nat.beq (R.r i) (R.r j)=Nat.beq i j:=by
 cases h:Nat.beq i j with
 | true=>rw[Nat.eq_of_beq_eq_true h,Nat.beq_refl]
 | false=>
  cases h2:Nat.beq (R.r i) (R.r j) with
  | false=>rfl
  | true=>
   have:=R.r_inj.1 (Nat.eq_of_beq_eq_true h2);rw[this,Nat.beq_refl]at h;cases h
theorem okO_T (id b:Nat)(v:AV):okO (R.r id) (R.r b) (v.ren R.r)=okO id b v:=by
 have low:decide ((v.ren R.r).top≤R.r b)=decide (v.top≤b):=by rw[R.top];exact tJ R.rt_le_r
 cases v with
 | own i g off len=>exact z0A R i id
 | _=>exact low
theorem mvO_T (id b:Nat)(v:AV):mvO (R.r id) (R.r b) (v.ren R.r)=(mvO id b v).ren R.r:=by
 cases v with
 | own i g off len=>
  simp only[AV.ren,mvO,z0A];cases Nat.beq i id <;> rfl
 | _=>rfl
theorem zav {b:Nat}(hb:1≤b){h:aA}(hh:h≠[])(rs:List ARes)(vs:List AV){y:AV × aA}(H:tE b h rs vs=some y):tE (R.r b) (R.T h) rs (vs.map (AV.ren R.r))=some (y.1.ren R.r,R.T y.2)∧y.2≠[]:=by
 unfold tE at H;split at H
 ·rename_i id g off len hf
  split at H
  ·rename_i sh xs fz ho
   split at H
   ·rename_i hc
    cases H;refine⟨?_,UB (mL hh hb)⟩
    have hall:(vs.map (AV.ren R.r)).all (okO (R.r id) (R.r b))=true:=by
     rw[List.all_map,←hc.2];congr 1
     funext v
     exact okO_T R id b v
    have e1:R.T (h.take b++[.row sh xs fz])=(R.T h).take (R.r b)++[.row sh xs fz]:=by
     rw[DC R (mL hh hb),R.T_take hh hb];rfl
    unfold tE;rw[iQ,hf];simp only[AV.ren,R.T_get hh,ho,Option.map_some,Obj.ren];rw[if_pos ⟨R.r_le.2 hc.1,hall⟩,e1];congr 2
    rw[←lX,List.map_map,List.map_map];congr 1
    exact List.map_congr_left fun v _=>mvO_T R id b v
   ·cases H
  ·cases H
 ·rename_i v0 hf
  split at H
  ·rename_i hc
   cases H;refine⟨?_,mL hh hb⟩
   unfold tE;rw[iQ,hf];simp only[AV.ren];have hall:((vs.map (AV.ren R.r)).all fun v=>decide (v.top≤R.r b))=true:=by
    rw[List.all_map,←hc];congr 1
    funext v
    show decide ((v.ren R.r).top≤R.r b)=_
    rw[R.top];exact tJ R.rt_le_r
   rw[if_pos hall,lX,R.T_take hh hb]
  ·cases H
 ·cases H
theorem z3m {F:AFun}{b:Nat}(hb:1≤b){s:St}{K:jA}(hs:s.h≠[])(H:fin F b s K):fin F (R.r b) (R.S s) (ImP R K):=by
 unfold fin at H ⊢;rw[z06 R hs];cases hO:XC F.results with
 | true=>
  rw[hO]at H;unfold rC at H ⊢;cases hv:jC s F.results with
  | none=>rw[hv]at H;exact H.elim
  | some vs=>
   rw[hv]at H;dsimp only at H;cases hc:tE b s.h F.results vs with
   | none=>rw[hc]at H;exact H.elim
   | some y=>
    rw[hc]at H;obtain⟨q1,q2⟩:=zav R hb hs _ _ hc;have hp:(R.S s).h=R.T s.h:=rfl
    simp only[Option.map_some,hp,q1];exact⟨by show bB (R.xr s.esc) (R.r b)=true;rw[HO];exact H.1,_,_,_,rfl,rfl,gQ R s.esc _,q2,H.2⟩
 | false=>
 rw[hO]at H;dsimp only at H ⊢;split at H
 ·rename_i vs hv
  rw[hv];simp only[Option.map_some,lX,R.top];have esc:(R.S s).esc=R.xr s.esc:=rfl
  have hp:(R.S s).h=R.T s.h:=rfl
  split at H
  ·rename_i hk
   try rw[hk]
   simp only[esc,hp,BZ,cX R hb];try dsimp only at H
   have h1:1≤max b (LA vs).top:=by omega
   obtain⟨c1,c2⟩:=FO R s.esc s.esc.length h1;rw[c1,HO];split at H
   ·rename_i hc
    rw[if_pos hc];exact⟨_,_,_,rfl,(R.T_take hs c2).symm,gQ R s.esc _,mL hs c2,H⟩
   ·rename_i hc
    rw[if_neg hc];exact⟨_,_,_,rfl,rfl,rfl,hs,H⟩
  ·rename_i hk
   try rw[hk]
   simp only[esc,hp,BZ,YY R hs];split at H
   ·rename_i v0 h0
    rw[h0];simp only[Option.map_some,R.top,cX R hb];try dsimp only at H
    have h1:1≤max b v0.top:=by omega
    obtain⟨c1,c2⟩:=FO R s.esc s.esc.length h1;rw[c1,HO];split at H
    ·rename_i hc
     rw[if_pos hc];simp only[YY R hs];split at H
     ·rename_i v hvv
      rw[hvv];simp only[Option.map_some,R.top];exact⟨R.rt_le_r.2 H.1,_,_,_,rfl,(R.T_take hs c2).symm,gQ R s.esc _,mL hs c2,H.2⟩
     ·exact H.elim
    ·rename_i hc
     rw[if_neg hc];exact⟨_,_,_,rfl,rfl,rfl,hs,H⟩
   ·exact H.elim
 ·exact H.elim
theorem z0q (hC:Sim R C D)(hD:D.Mono)(hM:AD D D){F:AFun}(hF:F.body.cl=true){a:List AV}{h:aA}{K:jA}(hh:h≠[])(H:iC C gl F a h K):iC D gl F (a.map (AV.ren R.r)) (R.T h) (ImP R K):=by
 unfold iC at H ⊢;have hl:1≤h.length:=List.length_pos_iff.2 hh
 have key:∀(asv:List AV) (h1:aA),h1≠[]→(asv.length=F.nparams∧AW C gl F.body ⟨enter asv,h1,[]⟩ fun e s=>match e with
  | .exit _=>False
  | _=>fin F h.length s K)→((asv.map (AV.ren R.r)).length=F.nparams∧AW D gl F.body ⟨enter (asv.map (AV.ren R.r)),R.T h1,[]⟩ fun e s=>match e with
  | .exit _=>False
  | _=>fin F (R.T h).length s (ImP R K)):=fun asv h1 hne q=>by
  refine⟨by simpa using q.1,?_⟩
  have:=YD R hC hD hM F.body hF ⟨enter asv,h1,[]⟩ _ hne q.2;rw[zd6,R.T_len hh];refine xC (C:=D) (C':=D) (gl:=gl) (fun f a h K K' hK h=>hD _ _ _ _ _ hK h) F.body _ _ _ (fun e s' q=>?_) this
  obtain⟨s0,rfl,hne,k⟩:=q;cases e with
  | normal=>exact z3m R hl hne k
  | exit i=>exact k
  | ret=>exact z3m R hl hne k
 cases hb:F.byref with
 | true=>
  rw[hb]at H;simp only[if_true]at H ⊢;exact key a h hh H
 | false=>
  rw[hb]at H;simp only[Bool.false_eq_true,if_false]at H ⊢;rw[TR R hh];cases hp:mA h a with
  | none=>rw[hp]at H;exact H.elim
  | some y=>
   obtain⟨asv,h1⟩:=y;rw[hp]at H;exact key asv h1 (LI R hh a hp) H
theorem zdW (hC:Sim R C D)(hD:D.Mono)(hM:AD D D){F:AFun}(hF:F.body.cl=true){a:List AV}{h:aA}{K:jA}(hh:h≠[])(H:WC C gl F a h K):WC D gl F (a.map (AV.ren R.r)) (R.T h) (ImP R K):=by
 unfold WC at H ⊢;cases hd:F.isDet with
 | false=>rw[hd]at H;exact z0q R hC hD hM hF hh H
 | true=>
  rw[hd]at H;obtain⟨v,h',x,k,H⟩:=H;have q:=z0q R hC hD hM hF hh H
  obtain⟨v1,h1,x1,k1,_⟩:=bU hM q q;obtain⟨v0,h0,x0,rfl,rfl,rfl,hne,rfl,rfl,rfl⟩:=k1;refine⟨_,_,_,⟨v0,h0,x0,rfl,rfl,rfl,hne,k⟩,?_⟩;refine wL (C:=D) (C':=D) (fun f a h K K' hK h2=>hD f a h K K' hK h2) (fun v1 h1 x1 q=>?_) q
  obtain⟨v2,h2,x2,rfl,rfl,rfl,hne,rfl,rfl,rfl⟩:=q;exact⟨rfl,rfl,rfl⟩
def Ctx.Ex2R (X:Ctx):Prop:=∀(R:Loc) f a h,h≠[]→X.ex2 f (a.map (AV.ren R.r)) (R.T h)=(X.ex2 f a h).map (fun y=>(y.1.ren R.r,R.T y.2.1,R.xr y.2.2))∧∀y,X.ex2 f a h=some y→y.2.1≠[]
def Ctx.Cl (X:Ctx):Prop:=∀f F,X.fn f=some F→F.body.cl=true
theorem z6Z {X:Ctx}(hX:X.Cl)(hE:X.Ex2R)(hC:Sim R C D)(hD:D.Mono)(hM:AD D D):Sim R (OB X C) (OB X D):=by
 intro f a h K hh H;unfold OB at H ⊢;split at H
 ·rename_i F hF
  exact zdW R hC hD hM (hX f F hF) hh H
 ·rename_i hF
  obtain⟨e1,e2⟩:=hE R f a h hh;rw[e1];split at H
  ·rename_i v h1 x hx
   rw[hx];exact⟨v,h1,x,rfl,rfl,rfl,e2 _ hx,H⟩
  ·rename_i hx
   rw[hx];simp only[Option.map_none,TR R hh];split at H
   ·rename_i asv h1 hp
    rw[hp];simp only[Option.map_some,nL];split at H
    ·rename_i vs hu
     try rw[hu]
     try simp only
     split at H
     ·rename_i r hr
      try rw[hr]
      exact⟨.p r,h1,[],rfl,rfl,rfl,LI R hh a hp,H⟩
     ·exact H.elim
    ·exact H.elim
   ·exact H.elim
theorem z6q {X:Ctx}(hX:X.Cl)(hE:X.Ex2R):Sim R (bA X) (bA X):=by
 intro f a h K hh H;refine H (fun f a h K=>h≠[]→bA X f (a.map (AV.ren R.r)) (R.T h) (ImP R K)) ?_ ?_ hh
 ·intro f a h K K' hK H' hh
  refine bA.mono X _ _ _ _ _ (fun v h' x q=>?_) (H' hh)
  obtain⟨v0,h0,x0,rfl,rfl,rfl,hne,k⟩:=q;exact⟨v0,h0,x0,rfl,rfl,rfl,hne,hK _ _ _ k⟩
 ·intro f a h K H' hh
  exact bA.fold (z6Z R (C:=fun f a h K=>h≠[]→bA X f (a.map (AV.ren R.r)) (R.T h) (ImP R K)) hX hE (fun f a h K hh q=>q hh) (bA.mono X) (GZ X) f a h K hh H')
end Go.Am
end
section
/- The abstract machine,part R,6: contracts at renamed objects;what is drawn at one heap is drawn at every heap. -/
set_option linter.unusedSimpArgs false
set_option linter.unusedVariables false
namespace Go.Am
variable (R:Loc)
abbrev ExR (F:List AV→aA→Option (AV × aA × Esc)):Prop:=∀(R:Loc) a h,h≠[]→F (a.map (AV.ren R.r)) (R.T h)=(F a h).map (fun y=>(y.1.ren R.r,R.T y.2.1,R.xr y.2.2))∧∀y,F a h=some y→y.2.1≠[]
def OE.top0 (ps:OE):Prop:=∀g s,(g,s)∈ps→∀vs v,s vs=some v→v.top=0
theorem z3M:∀ (gs:List (Nat × Sh)) (f:Nat),ExR (EG gs f)
 | [],f=>fun R a h hh=>⟨rfl,fun y hy=>by cases hy⟩
 | (g,s)::r,f=>by
  intro R a h hh;obtain⟨i1,i2⟩:=z3M r f R a h hh;unfold EG;cases Nat.beq f g with
  | false=>exact⟨i1,i2⟩
  | true=>
   simp only[cond_true];by_cases q:∃sh n,a=[.sl0 sh,.p (.int .i64 n)]
   ·obtain⟨sh,n,rfl⟩:=q
    simp only[List.map_cons,List.map_nil,AV.ren];cases (decide (0≤n)&&decide (n≤1048576)) with
    | false=>exact⟨rfl,fun y hy=>by cases hy⟩
    | true=>
     refine⟨?_,fun y hy=>by cases hy;exact UB hh⟩
     simp only[cond_true,Option.map_some,DC R hh,R.T_len hh,AV.ren];rfl
   ·have inv:∀{sh n},a.map (AV.ren R.r)=[.sl0 sh,.p (.int .i64 n)]→∃sh n,a=[.sl0 sh,.p (.int .i64 n)]:=fun {sh n} e=>by
     match a with
     | []=>cases e
     | [_]=>simp at e
     | _::_::_::_=>simp at e
     | [a0,a1]=>
      simp only[List.map_cons,List.map_nil,List.cons.injEq,and_true]at e;cases a0 <;> simp [AV.ren]at e
      cases a1 <;> simp [AV.ren]at e
      rw[e.2];exact⟨_,_,rfl⟩
    refine⟨?_,?_⟩
    ·split
     ·rename_i heq;exact absurd (inv heq) q
     ·split
      ·exact absurd ⟨_,_,rfl⟩ q
      ·rfl
    ·intro y hy
     split at hy
     ·exact absurd ⟨_,_,rfl⟩ q
     ·cases hy
theorem TY:∀ (ps:OE),ps.top0→∀ (f:Nat),ExR (KG ps f)
 | [],_,f=>fun R a h hh=>⟨rfl,fun y hy=>by cases hy⟩
 | (g,s)::r,hp,f=>by
  intro R a h hh;obtain⟨i1,i2⟩:=TY r (fun g s hm=>hp g s (List.mem_cons_of_mem _ hm)) f R a h hh
  unfold KG;cases Nat.beq f g with
  | false=>exact⟨i1,i2⟩
  | true=>
   simp only[cond_true,nL];cases hv:(unp a).bind s with
   | none=>exact⟨rfl,fun y hy=>by cases hy⟩
   | some v=>
    obtain⟨vs,_,hs⟩:=Option.bind_eq_some_iff.1 hv;have:=YK R.r v (hp g s List.mem_cons_self vs v hs);exact⟨by simp only[Option.map_some,this];rfl,fun y hy=>by cases hy;exact hh⟩
theorem zfI {gs:List (Nat × Sh)}{ps:OE}(hp:ps.top0)(f:Nat):ExR (SF gs ps f):=by
 intro R a h hh;obtain⟨g1,g2⟩:=z3M gs f R a h hh;obtain⟨p1,p2⟩:=TY ps hp f R a h hh;unfold SF;rw[g1,p1,TR R hh];cases hg:EG gs f a h with
 | some y=>exact⟨rfl,fun z hz=>by cases hz;exact g2 _ hg⟩
 | none=>
  simp only[Option.map_none];cases hq:KG ps f a h with
  | some y=>exact⟨rfl,fun z hz=>by cases hz;exact p2 _ hq⟩
  | none=>
   simp only[Option.map_none];cases hr:mA h a with
   | none=>exact⟨rfl,fun z hz=>by cases hz⟩
   | some y=>
    obtain⟨asv,h1⟩:=y;have hne:h1≠[]:=LI R hh a hr
    obtain⟨q1,q2⟩:=TY ps hp f R asv h1 hne;exact⟨q1,q2⟩
end Go.Am
end
section
/- What is drawn at one heap is drawn at every heap. -/
open Go
set_option linter.all false
set_option maxRecDepth 100000
namespace Go.Am
theorem X_cl:X.Cl:=fun f F h=>OW (p:=fun _ F=>F.body.cl) fns (by kernel_rfl) f F h
theorem zlz:∀ vs v,z4V vs=some v→v.top=0:=fun vs v h=>by
 unfold z4V at h;split at h
 ·split at h
  ·cases h;rfl
  ·cases h
 ·cases h
theorem zl1:∀ vs v,trimS vs=some v→v.top=0:=fun vs v h=>by
 unfold trimS at h;split at h
 ·split at h
  ·cases h;rfl
  ·cases h
 ·cases h
theorem zl2:∀ vs v,GN vs=some v→v.top=0:=fun vs v h=>by
 unfold GN at h;split at h
 ·cases h;rfl
 ·cases h
theorem zlx:∀ vs v,z4a vs=some v→v.top=0:=fun vs v h=>by
 unfold z4a at h;split at h
 ·rename_i n
  cases hc:(decide (-9223372036854775808≤n)&&decide (n≤9223372036854775807)) with
  | true=>rw[hc]at h;cases h;rfl
  | false=>rw[hc]at h;cases h
 ·cases h
theorem zlu:∀ vs v,z08 vs=some v→v.top=0:=fun vs v h=>by
 unfold z08 at h;split at h
 ·split at h
  ·split at h
   ·cases h;rfl
   ·split at h
    ·obtain⟨n,_,e⟩:=Option.map_eq_some_iff.1 h
     subst e;rfl
    ·cases h
  ·cases h
 ·cases h
theorem zlw:∀ vs v,ctzS vs=some v→v.top=0:=fun vs v h=>by
 unfold ctzS at h;split at h
 ·split at h
  ·cases h;rfl
  ·cases h
 ·cases h
theorem zlv:∀ vs v,z1u vs=some v→v.top=0:=fun vs v h=>by
 unfold z1u at h;split at h
 ·cases h;rfl
 ·cases h
theorem zly:∀ vs v,z4d vs=some v→v.top=0:=fun vs v h=>by
 unfold z4d at h;split at h
 ·obtain⟨l,_,e⟩:=Option.bind_eq_some_iff.1 h
  split at e
  ·cases e;rfl
  ·cases e
 ·cases h
theorem zl0:∀ vs v,z5J vs=some v→v.top=0:=fun vs v h=>by
 unfold z5J at h;split at h
 ·split at h
  ·cases h;rfl
  ·cases h
 ·cases h
theorem z6T:∀ y∈PRL,∀ vs v,y.2 vs=some v→v.top=0:=by
 unfold PRL;repeat (first|exact List.forall_mem_nil _|refine List.forall_mem_cons.2 ⟨by first|exact zlz|exact zl1|exact zl2|exact zlx|exact zlu|exact zlw|exact zlv|exact zly|exact zl0,?_⟩)
theorem z6U:PRL.top0:=fun g s hm vs v hv=>z6T (g,s) hm vs v hv
theorem z7c:X.Ex2R:=fun R f a h hh=>(show ExR (SF GRL PRL f) from zfI z6U f) R a h hh
theorem aE.same {f:Nat}{args:List AV}{L:List Int}{a:Int}{Q:AV→Int→Prop}(g:aE f args L a Q)(ha:AV.tops args=0)(hQ:∀ v a2,Q v a2→v.top=0):∃v a2,Q v a2∧Gen f args L a a2 v:=by
 obtain⟨v,a2,q,r⟩:=g [nA L a] 0 rfl;refine⟨v,a2,q,Gen.of fun h id hid=>?_⟩
 let R:Loc:=⟨h,id,hid⟩
 have H:bA X f (.ref 0 0::args) [nA L a] fun v1 h1 x1=>v1=v∧h1=[nA L a2]∧x1=[]:=by rw[r];exact⟨rfl,rfl,rfl⟩
 have T:=z6q R X_cl z7c f (.ref 0 0::args) [nA L a] _ (by simp) H
 have es:∀b,(nA L b).ren R.r=nA L b:=fun b=>rfl
 have e1:∀b,R.T [nA L b]=h.set id (nA L b):=fun b=>by
  show h.set id ((nA L b).ren R.r)++[]=_
  rw[es,List.append_nil]
 have e2:(AV.ref 0 0::args).map (AV.ren R.r) = .ref id 0::args:=by
  rw[List.map_cons,bX ha];rfl
 rw[e1,e2]at T;refine bA.mono X _ _ _ _ _ (fun v1 h1 x1 k=>?_) T
 obtain⟨v0,h0,x0,rfl,rfl,rfl,_,rfl,rfl,rfl⟩:=k;exact⟨YK _ _ (hQ _ _ q),e1 a2,rfl⟩
end Go.Am
end
section
/- StationsStay returns true. -/
open Go
set_option linter.all false
set_option maxRecDepth 100000
namespace Go.Am
variable {L:List Int} {h:aA} {K:jA}
attribute [-go_sem] GA
def wrE:Ent:=⟨[122,122],0,10000,1,[98,57],[],[],0⟩
theorem zlY {l:List Ent}{x:Ent}(h:(FB l x).2=0):(FB l x).1≠[]:=by
 unfold FB at h ⊢;by_cases h1:x.no≠0
 ·rw[if_pos h1]at h;cases h
 rw[if_neg h1]at h ⊢;by_cases h2:sB (RC l x)≠0
 ·rw[if_pos h2]at h;exact absurd h h2
 rw[if_neg h2]at h ⊢;by_cases h3:WJ l (RC l x)=true
 ·rw[if_pos h3]at h;cases h
 rw[if_neg h3];simp
theorem zlX {l:List Ent}{x:Ent}:(FB l x).1.length≤l.length+1:=by
 unfold FB;split
 ·simp
 split
 ·simp
 split
 ·simp
 simp
theorem zlQ (bs:aB)(step:Nm):(uB bs step).length≤bs.length:=by
 unfold uB bK;rw[sQ,List.length_map];exact List.length_filter_le _ _
theorem zkQ {steps:List Nm}{tries:Int}{x:List Ent}{at_:Int}(h0:steps≠[])(xv:∀ y∈x,EntV y):(yB steps tries (upL x at_)).bs.length≤6:=by
 have sub:(upL x at_).Sublist x:=List.take_sublist _ _
 have I:=(MW tries h0 (l:=upL x at_) (fun y hy=>by have:=(xv y (sub.subset hy)).s;omega)).1
 have N:=(zef steps tries sE (l:=upL x at_) fun y hy _=>(xv y (sub.subset hy)).w).nm
 have:=I.nb.length_le_of_subset (l₂:=sE) (fun k hk=>by obtain⟨e,he,rfl⟩:=List.mem_map.1 hk;exact N e he)
 rw[List.length_map]at this;exact this
structure TwoF (o:Obj) (H:aA):Prop where
 g2:H[2]?=some o
 g3:H[3]?=some o
theorem TwoF.app {o p:Obj}{H:aA}(t:TwoF o H):TwoF o (H++[p]):=
 ⟨by rw[List.getElem?_append_left (List.getElem?_eq_some_iff.1 t.g2).1];exact t.g2,by rw[List.getElem?_append_left (List.getElem?_eq_some_iff.1 t.g3).1];exact t.g3⟩
set_option maxHeartbeats 8000000 in
theorem law_SS (L:List Int){K:jA}:bA X dQ [AL L] [] K=K (AB true) [] []:=by
 refine tA ?_;rw[z9k rfl];have p0:UA 100000 0:=by unfold UA;omega
 obtain⟨_,a1,⟨b1,n,tries,n1,n3,t1,t3,rfl⟩,G1⟩:=(zet (L:=L) (a:=0) (NC p0 (by omega) (by omega))).same rfl (fun v a2 q=>by obtain⟨_,n,tries,_,_,_,_,rfl⟩:=q;rfl)
 obtain⟨_,a2,⟨d1,d2,x,hl,hv,h0,rfl⟩,G2⟩:=(zes (L:=L) (a:=a1) (NC p0 (by omega) (by omega)) 14 (by omega)).same rfl (fun v a2 q=>by obtain⟨_,_,l,_,_,_,rfl⟩:=q;rfl)
 obtain⟨f1,f2,f3⟩:=zeg n1 n3 t1 t3;have hsl:(AG.take n).length≤3:=by rw[List.length_take];omega
 generalize AG.take n=steps at *;have V1:∀K,bA X gH [.ref 0 0] [nA L 0,nA L 0] K=K (fF steps tries) [nA L a1,nA L 0] []:=fun K=>G1 [nA L 0,nA L 0] 0 K rfl
 have V2:∀K,bA X gH [.ref 1 0] [nA L a1,nA L 0] K=K (fF steps tries) [nA L a1,nA L a1] []:=fun K=>G1 [nA L a1,nA L 0] 1 K rfl
 have V3:∀K,bA X fH [.ref 0 0,AI 14] [nA L a1,nA L a1] K=K (QA x) [nA L a2,nA L a1] []:=fun K=>G2 [nA L a1,nA L a1] 0 K rfl
 have V4:∀K,bA X fH [.ref 1 0,AI 14] [nA L a2,nA L a1] K=K (QA x) [nA L a2,nA L a2] []:=fun K=>G2 [nA L a2,nA L a1] 1 K rfl
 have hok:∀y∈x,EntOk y:=fun y hy=>(hv y hy).ok
 have Ox:StOk steps x:=⟨f3,f2,hok,by omega⟩
 have fx:WE steps tries x 100=0:=by unfold WE;rw[f1,h0];rfl
 have h0s:steps≠[]:=DM fx
 have bl:(yB steps tries (upL x 100)).bs.length≤6:=zkQ h0s hv
 have wl:=fun s=>zlQ (yB steps tries (upL x 100)).bs s
 have nl:=z40 (uB (yB steps tries (upL x 100)).bs) steps
 have wrl:=zlX (l:=x) (x:=wrE)
 have C1:=fun h K=>zjX (h:=h) (K:=K) x hok h0 (by omega)
 have C2:∀(h:aA) (K:jA),bA X JJ [QA x,.p (.agg [.str [122,122],eI 0,eI 10000,eI 1,.str [98,57],.str [],.str [],eI 0])] h K=_:=fun h K=>zka (h:=h) (K:=K) x wrE hok ⟨by decide,by decide,by decide,by decide⟩ (by omega) h0 rfl zlY
 have C3:=fun h K=>zjY (h:=h) (K:=K) steps tries x Ox 100 (by omega)
 have C4:=fun h K=>zjZ (h:=h) (K:=K) steps tries x Ox [115,99,97,110] 100 (by omega)
 simp only[if_pos fx]at C3;have S1:=fun h K=>z58 (h:=h) (K:=K) x (by omega)
 have S2:=fun h K=>z58 (h:=h) (K:=K) (FB x wrE).1 (by omega)
 have S3:=fun h K=>zkk (h:=h) (K:=K) (nD (uB (yB steps tries (upL x 100)).bs) steps) (by omega)
 have S4:=fun h K=>zkl (h:=h) (K:=K) (uB (yB steps tries (upL x 100)).bs [115,99,97,110]) (by have:=wl [115,99,97,110];omega)
 have S0E:=fun h K=>zki (h:=h) (K:=K)
 have S0S:=fun h K=>zkj (h:=h) (K:=K)
 have E1:=fun h K=>zjU (h:=h) (K:=K) steps (by omega)
 have E2:=fun h K=>zjV (h:=h) (K:=K) x x (by omega)
 have ed:decide (x=x)=true:=by simp
 rw[ed]at E2;simp only[bP,go_sem,splice,↓V1,V1,↓V2,V2,↓V3,V3,↓V4,V4];have hT:TwoF (.box [rB steps,AI tries]) [nA L a2,nA L a2,.box [rB steps,AI tries],.box [rB steps,AI tries]]:=⟨rfl,rfl⟩
 generalize [nA L a2,nA L a2,Obj.box [rB steps,AI tries],Obj.box [rB steps,AI tries]]=H at *;rw[C1];simp only[go_sem,↓S1,S1];have hT1:=hT.app (p:=Obj.row (some 8) (List.replicate x.length zeE) 0)
 generalize H++[Obj.row (some 8) (List.replicate x.length zeE) 0]=H1 at *;rw[C2];have fin:∀(H2:aA),TwoF (.box [rB steps,AI tries]) H2→True:=fun _ _=>trivial
 by_cases q1:(FB x wrE).2=0
 ·rw[if_pos q1]
  simp only[go_sem,↓S2,S2];have hT2:=hT1.app (p:=Obj.row (some 8) (List.replicate (FB x wrE).1.length zeE) 0)
  generalize H1++[Obj.row (some 8) (List.replicate (FB x wrE).1.length zeE) 0]=H2 at *;simp only[go_sem,hT2.g2,↓C3,C3,↓S3,S3];have hT3:=hT2.app (p:=Obj.row (some 2) (List.replicate (nD (uB (yB steps tries (upL x 100)).bs) steps).length zeP) 0)
  generalize H2++[Obj.row (some 2) (List.replicate (nD (uB (yB steps tries (upL x 100)).bs) steps).length zeP) 0]=H3 at *;simp only[go_sem,hT3.g2];rw[C4];by_cases q2:PG steps tries x [115,99,97,110] 100=0
  ·rw[if_pos q2]
   simp only[go_sem,↓S4,S4];have hT4:=hT3.app (p:=Obj.row none (List.replicate (uB (yB steps tries (upL x 100)).bs [115,99,97,110]).length (.str [])) 0)
   generalize H3++[Obj.row none (List.replicate (uB (yB steps tries (upL x 100)).bs [115,99,97,110]).length (.str [])) 0]=H4 at *;simp only[go_sem,hT4.g2,hT4.g3,↓E1,E1,↓E2,E2,oS]
  ·rw[if_neg q2]
   simp only[go_sem,↓S0S,S0S,hT3.g2,hT3.g3,↓E1,E1,↓E2,E2,oS]
 ·rw[if_neg q1]
  simp only[go_sem,↓S0E,S0E];simp only[go_sem,hT1.g2,↓C3,C3,↓S3,S3];have hT3:=hT1.app (p:=Obj.row (some 2) (List.replicate (nD (uB (yB steps tries (upL x 100)).bs) steps).length zeP) 0)
  generalize H1++[Obj.row (some 2) (List.replicate (nD (uB (yB steps tries (upL x 100)).bs) steps).length zeP) 0]=H3 at *;simp only[go_sem,hT3.g2];rw[C4];by_cases q2:PG steps tries x [115,99,97,110] 100=0
  ·rw[if_pos q2]
   simp only[go_sem,↓S4,S4];have hT4:=hT3.app (p:=Obj.row none (List.replicate (uB (yB steps tries (upL x 100)).bs [115,99,97,110]).length (.str [])) 0)
   generalize H3++[Obj.row none (List.replicate (uB (yB steps tries (upL x 100)).bs [115,99,97,110]).length (.str [])) 0]=H4 at *;simp only[go_sem,hT4.g2,hT4.g3,↓E1,E1,↓E2,E2,oS]
  ·rw[if_neg q2]
   simp only[go_sem,↓S0S,S0S,hT3.g2,hT3.g3,↓E1,E1,↓E2,E2,oS]
end Go.Am
end
section
/- From a law that is true here tov the model's calls at what came in. -/
open Go
namespace Go.Am
variable {P:Program}
theorem law_nil {X:Ctx}(HX:Fits P X){f:Nat}{F:AFun}(hF:X.fn f=some F)(H:∀ L:List Int,bA X f [PR L] [] fun v _ _=>v = .p (.bool true))(W:World)(hG:ZD X.gl (imm [] [] W)) :
 Calls P f #[.slice none 0 0] W fun e W'=>e = .returned (.bool true)∧RowKit.Below W.heap.size W W':=by
 refine(z0W HX hF (H []) (W:=W) (vs:=[.slice none 0 0]) hG rfl (fun j y v hy hv=>?_)).mono fun e W' he=>?_
 ·cases j with
  | zero=>cases hy;cases hv;exact zai W
  | succ j=>cases hy
 ·cases e with
  | returned r=>
   obtain⟨⟨v,h,x,μ,hk,hr⟩,hb⟩:=he;subst hk;exact⟨by rw[hr.p_bool],hb⟩
  | panicked _=>exact he.elim
  | outgrown=>exact he.elim
theorem law_ints {X:Ctx}(HX:Fits P X){f:Nat}{F:AFun}(hF:X.fn f=some F)(H:∀ L:List Int,bA X f [PR L] [] fun v _ _=>v = .p (.bool true)){W:World}(hG:ZD X.gl (imm [] [] W)){a:Addr}{len cap:Nat}{zs:List Int}
 (hl:len≤cap) (hz:len≤zs.length) (hc:∀i,i<zs.length→W.cell? (a.add i)=some (.int .i64 (zs.getD i 0))) :
 Calls P f #[.slice (some a) len cap] W fun e W'=>e = .returned (.bool true)∧RowKit.Below W.heap.size W W':=by
 refine(z0W HX hF (H (zs.take len)) (W:=W) (vs:=[.slice (some a) len cap]) hG rfl (fun j y v hy hv=>?_)).mono fun e W' he=>?_
 ·cases j with
  | zero=>
   cases hy;cases hv
   rcases Nat.eq_zero_or_pos len with h0|h0
   ·subst h0
    exact .p _ _ (.nils _ _ _)
   ·exact zah (by simpa [Addr.add] using World.cell?_spot (hc 0 (by omega))) hl hz hc
  | succ j=>cases hy
 ·cases e with
  | returned r=>
   obtain⟨⟨v,h,x,μ,hk,hr⟩,hb⟩:=he;subst hk;exact⟨by rw[hr.p_bool],hb⟩
  | panicked _=>exact he.elim
  | outgrown=>exact he.elim
end Go.Am
namespace Go.ChangeShapes
open Go.RowKit Go.WideShapes
end Go.ChangeShapes
end
section
/- The abstract machine,part L2: the kit's contracts asv rows. -/
set_option linter.unusedSimpArgs false
set_option linter.unusedVariables false
namespace Go.Am
variable {P:Program} {gl:Nat→Option PV}
open Go.Shelf
end Go.Am
end
