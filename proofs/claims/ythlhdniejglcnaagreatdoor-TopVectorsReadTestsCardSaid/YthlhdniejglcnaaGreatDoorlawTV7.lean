/- Texts of the proof, laid together: SpPath, PBits, SpWalk, SpLen, SpStrs, SpFind, SpLimD, SpLim, SpLotA, SpRecD, SpGenA, SpSome, SpGenL, SpRec, SpSortRec, SpCompact, SpGenR, PMerge, SpMrgA, SpSort, SpMrgB, SpMrgC, SpMrgD, PFin, SpTxt, SpFlt1, SpFlt2, SpVec1, SpVec2, SpFlt3, SpFlt4, SpFlt5, SpArg, SpFlt6, SpSortO, SpGenF, SpVec4, SpTap3, SpEsc, SpTap4, SpTap5, SpTap6, SpTap7, SpVec12, SpVec13, SpVec14, SpVec15, SpVec3, SpVec4b, SpVec4c, SpVec4d, SpVec4e, SpVec5, SpVec6, SpVec7, SpVec8, SpVec9, SpVec10, SpVec11, SpVec16, SpVec17. -/
import Derived.Test.YthlhdniejglcnaaGreatDoorlawTV6
set_option linter.all false
section
/- The shortest way between two states of a test access port: a search over a queue. -/
open Go
set_option linter.all false
namespace Go.Am
variable {h:aA} {K:kA}
attribute [-go_sem] CB NB oJ pJ
def nxtT:List (List Nat):=[[1,0],[1,2],[3,9],[4,5],[4,5],[6,8],[6,7],[4,8],[1,2],[10,0],[11,12],[11,12],[13,15],[13,14],[11,15],[1,2]]
def nxt (s t:Nat):Nat:=(nxtT.getD s []).getD t 0
theorem zc1 {s t:Nat}(hs:s<16)(ht:t<2):([AI 1,AI 0,AI 1,AI 2,AI 3,AI 9,AI 4,AI 5,AI 4,AI 5,AI 6,AI 8,AI 6,AI 7,AI 4,AI 8,AI 1,AI 2,AI 10,AI 0,AI 11,AI 12,AI 11,AI 12,AI 13,AI 15,AI 13,AI 14,AI 11,AI 15,AI 1,AI 2]:List AV)[s*2+t*1]?=some (AI (nxt s t)):=by
 have hs':s=0∨s=1∨s=2∨s=3∨s=4∨s=5∨s=6∨s=7∨s=8∨s=9∨s=10∨s=11∨s=12∨s=13∨s=14∨s=15:=by omega
 have ht':t=0∨t=1:=by omega
 rcases hs' with rfl|rfl|rfl|rfl|rfl|rfl|rfl|rfl|rfl|rfl|rfl|rfl|rfl|rfl|rfl|rfl <;> rcases ht' with rfl|rfl <;> rfl
theorem z1u {Y:Ctx}(hY:Y.fn lE=some aH)(s t:Nat)(hs:s<16)(ht:t<2):eA Y lE [AI s,AI t] h K=K (AI (nxt s t)) h []:=by
 refine CA ?_;rw[BA hY rfl (show qA h [AI s,AI t]=some ([AI s,AI t],h) from rfl) rfl,MZ]
 show xO _ _ _ _ _ _ (sA [.t 4] false _ _)
 have g:=zc1 hs ht
 simp only[xO,go_sem,hs,ht,g]
abbrev MC:=List (Int × List UInt8)
def PC (n:Int):PV:=.int .i64 n
def UC (s:List UInt8):AV:=.p (.str s)
def eH (t:Nat):List UInt8:=[UInt8.ofNat (48+t)]
def UG (at_ t:Nat)(s:MC × List Nat):MC×List Nat:=
 if(TA (nxt at_ t:Int) s.1).isSome then s else(lB (nxt at_ t:Int) ((TA (at_:Int) s.1).getD []++eH t) s.1,s.2++[nxt at_ t])
def eG (at_:Nat):Nat→MC×List Nat→MC×List Nat
 | 0,s=>s
 | t+1,s=>UG at_ t (eG at_ t s)
def popS (s:MC × List Nat):MC×List Nat:=match s.2 with
 | []=>s
 | a::r=>eG a 2 (s.1,r)
def bfs (a:Nat):Nat→MC×List Nat
 | 0=>([((a:Int),[])],[a])
 | k+1=>popS (bfs a k)
def gA (a b:Nat):List UInt8:=(TA (b:Int) (bfs a 16).1).getD []
def dJ (s:MC × List Nat):Bool:=decide (s.1.length≤16)&&decide (s.2.length≤16)&&s.2.all (fun x=>decide (x<16))&&s.1.all (fun e=>decide (e.2.length≤16))
theorem DY:(List.range 16).all (fun a=>(List.range 16).all (fun k=>dJ (bfs a k) && !(bfs a k).2.isEmpty)&&dJ (bfs a 16)&&(bfs a 16).2.isEmpty)=true:=by kernel_rfl
theorem z5S {a k:Nat}(ha:a<16)(hk:k<16):dJ (bfs a k)=true∧(bfs a k).2≠[]:=by
 have h1:=List.all_eq_true.1 DY a (List.mem_range.2 ha)
 simp only[Bool.and_eq_true]at h1;have h2:=List.all_eq_true.1 h1.1.1 k (List.mem_range.2 hk)
 simp only[Bool.and_eq_true,Bool.not_eq_true',List.isEmpty_eq_false_iff]at h2;exact h2
theorem z5R {a:Nat}(ha:a<16):dJ (bfs a 16)=true∧(bfs a 16).2=[]:=by
 have h1:=List.all_eq_true.1 DY a (List.mem_range.2 ha)
 simp only[Bool.and_eq_true,List.isEmpty_iff]at h1;exact⟨h1.1.2,h1.2⟩
theorem za1 {s:MC × List Nat}(hf:dJ s=true):s.1.length≤16∧s.2.length≤16∧(∀x∈s.2,x<16)∧∀e∈s.1,e.2.length≤16:=by
 unfold dJ at hf;simp only[Bool.and_eq_true,decide_eq_true_eq,List.all_eq_true]at hf;exact⟨hf.1.1.1,hf.1.1.2,hf.1.2,hf.2⟩
theorem z1F {hp:aA}{id:Nat}{m:MC}{b:Int}(hh:hp[id]?=some (EA PC UC m)):CB (none,[0]) false (.p (.str [])) (.mp id) (AI b) hp=some (.p (.str ((TA b m).getD []))):=by
 have:=iV (key:=PC) (val:=UC) (fun a b=>cV a b) hh (kk:=(none,[0])) (k:=b) dV (ok:=false) (z:=.p (.str []))
 rw[cond_false]at this;refine this.trans ?_;cases TA b m <;> rfl
theorem lookQ {hp:aA}{id:Nat}{m:MC}{b:Int}(hh:hp[id]?=some (EA PC UC m)):CB (none,[0]) true (.p (.str [])) (.mp id) (AI b) hp=some (.tup [.p (.str ((TA b m).getD [])),AB (TA b m).isSome]):=by
 have:=iV (key:=PC) (val:=UC) (fun a b=>cV a b) hh (kk:=(none,[0])) (k:=b) dV (ok:=true) (z:=.p (.str []))
 rw[cond_true]at this;refine this.trans ?_;cases TA b m <;> rfl
theorem updP {hp:aA}{id:Nat}{m:MC}{b:Int}{v:List UInt8}(hh:hp[id]?=some (EA PC UC m)):NB (none,[0]) (.mp id) (AI b) (.p (.str v)) hp=some (.und,hp.set id (EA PC UC (lB b v m)),[]):=
 z1O (key:=PC) (val:=UC) (fun a b=>cV a b) hh (kk:=(none,[0])) (k:=b) dV (v:=v) rfl
structure Que (R:aA) (i:Nat) (xs:List Nat) (off:Nat) (q:List Nat):Prop where
 get:R[i]?=some (.row none (xs.map fun n:Nat=>eI n) 0)
 le:off≤xs.length
 eq:xs.drop off=q
theorem zc0 {hp:aA}{id:Nat}{xs:List Nat}{off:Nat}{n:Int}{k:AV→aA→Esc→Prop}(hh:hp[id]?=some (.row none (xs.map fun n:Nat=>eI n) 0))(ho:off≤xs.length)(hm:xs.length≤1000000)
 (k1:k (.own id (xs.length+1) off (xs.length-off+1)) (hp.set id (.row none (xs.map (fun n:Nat=>eI n)++[eI n]) 0)) [])
 (k2:k (.own hp.length (xs.length-off+1) 0 (xs.length-off+1)) (hp++[.row none ((xs.drop off).map (fun n:Nat=>eI n)++[eI n]) 0]) []) :
 nqK (some none) [.own id xs.length off (xs.length-off),.p (.sl none [eI n])] hp k:=by
 have hx:xs.length-off+1≤LA:=by unfold LA;omega
 have hr:rds hp (.p (.sl none [eI n]))=some (none,[eI n]):=rfl
 have hw:win (xs.map fun n:Nat=>eI n) off (xs.length-off)=(xs.drop off).map fun n:Nat=>eI n:=by
  unfold win;rw[←List.map_drop];exact List.take_of_length_le (by simp)
 unfold nqK mH appq;simp only[hr,if_true,hh,List.length_map,List.length_cons,List.length_nil,Nat.zero_add];rw[if_pos ⟨trivial,trivial,by omega,hx,Nat.zero_le _⟩,hw]
 refine⟨by simp,fun y hy=>?_⟩
 simp only[List.mem_cons,List.not_mem_nil,or_false]at hy;rcases hy with rfl|rfl
 ·exact k1
 ·exact k2
theorem z1K {α β:Type}[DecidableEq α]{k:α}{v:β}:∀{l:List (α×β)} {e:α×β},e∈lB k v l→e∈l∨e=(k,v)
 | [],e,h=>by simp [lB]at h;exact .inr h
 | x::r,e,h=>by
  unfold lB at h;split at h
  ·rcases List.mem_cons.1 h with h|h
   ·exact .inr h
   ·exact .inl (List.mem_cons_of_mem _ h)
  ·rcases List.mem_cons.1 h with h|h
   ·exact .inl (h ▸ List.mem_cons_self)
   ·rcases z1K h with h|h
    ·exact .inl (List.mem_cons_of_mem _ h)
    ·exact .inr h
theorem z1w {α β:Type}[DecidableEq α]{k:α}{v:β}:∀{l:List (α×β)},TA k l=some v→(k,v)∈l
 | [],h=>by cases h
 | x::r,h=>by
  unfold TA at h;split at h
  ·rename_i he;cases h;subst he;simp
  ·exact List.mem_cons_of_mem _ (z1w h)
theorem z3U {n:Nat}{w:MC}(hw:∀ e∈w,e.2.length≤n)(k:Int):((TA k w).getD []).length≤n:=by
 cases hg:TA k w with
 | none=>simp
 | some v=>exact hw _ (z1w hg)
theorem zgM {n at_ t:Nat}{s:MC × List Nat}(hw:∀ e∈s.1,e.2.length≤n):∀e∈(UG at_ t s).1,e.2.length≤n+1:=by
 unfold UG;split
 ·intro e he;have:=hw e he;omega
 ·intro e he
  rcases z1K he with h|h
  ·have:=hw e h;omega
  ·subst h
   have:=z3U hw (at_:Int);simp [eH];omega
theorem z3O {n at_:Nat}{s:MC × List Nat}(hw:∀ e∈s.1,e.2.length≤n):∀(t:Nat),∀e∈(eG at_ t s).1,e.2.length≤n+t
 | 0=>hw
 | t+1=>zgM (z3O hw t)
set_option maxHeartbeats 1000000 in
theorem z1t {Y:Ctx}(hY1:Y.fn jF=some nI)(hY2:Y.fn lE=some aH)(a b:Nat)(ha:a<16)(hb:b<16):eA Y jF [AI a,AI b] h K=K (.p (.str (gA a b))) h []:=by
 refine CA ?_;rw[tI hY1 rfl (show qA h [AI a,AI b]=some ([AI a,AI b],h) from rfl) rfl]
 simp only[NZ];show ∃v h' x,_∧WK _ _ _ _ _ _ _ _ (sA [.t 4] false _ _)
 simp only[WK];refine⟨_,_,_,⟨rfl,rfl,rfl⟩,?_⟩;have em:EA PC UC [((a:Int),([]:List UInt8))] = .amap [⟨.int .i64 a,.p (.str []),0⟩] 1:=rfl
 have u0:=fun(hp:aA) (hh:hp[h.length]?=some (EA PC UC []))=>updP (b:=(a:Int)) (v:=[]) hh
 have e0:lB (a:Int) [] ([]:MC)=[((a:Int),[])]:=rfl
 have em0:EA PC UC ([]:MC) = .amap [] 0:=rfl
 rw[e0]at u0;simp only[em0]at u0;simp only[go_sem,u0];refine nB (fun t:Nat×aA×Nat×List Nat×Nat×Option Nat=>⟨[(1,AI b),(5,.mp h.length),(6,.own (h.length+(t.2.2.1+1)) t.2.2.2.1.length t.2.2.2.2.1 (t.2.2.2.1.length-t.2.2.2.2.1))]++(match t.2.2.2.2.2 with|none=>[]|some q=>[(7,AI q),(25,AI 2),(26,AB false)]),h++EA PC UC (bfs a t.1).1::t.2.1,[]⟩)
  (fun t=>t.1≤16∧Que t.2.1 t.2.2.1 t.2.2.2.1 t.2.2.2.2.1 (bfs a t.1).2∧t.2.2.2.1.length≤1+2*t.1) (fun t=>16-t.1) (0,[.row none [eI a] 0],0,[a],0,none) (by simp [bfs]) ⟨by simp,⟨rfl,by simp,rfl⟩,by simp⟩ ?_
 rintro⟨k,R,i,xs,off,oq⟩ ⟨h1,hq,h2⟩
 dsimp only at h1 hq h2 ⊢;have hqg:=hq.get
 have hle:=hq.le
 have heq:=hq.eq
 have hln:xs.length-off=(bfs a k).2.length:=by rw[←heq];simp
 by_cases hk:k<16
 ·obtain⟨hf,hne⟩:=z5S ha hk
  obtain⟨f1,f2,f3,f4⟩:=za1 hf;have hpos:0<xs.length-off:=by rw[hln];exact List.length_pos_iff.2 hne
  have hoff:off<xs.length:=by omega
  obtain⟨q0,qr,hqe⟩:∃q0 qr,(bfs a k).2=q0::qr:=by
   cases hb2:(bfs a k).2 with
   | nil=>exact absurd hb2 hne
   | cons x y=>exact⟨x,y,rfl⟩
  have hx0:xs[off]?=some q0:=by
   have:(xs.drop off)[0]?=some q0:=by rw[heq,hqe];rfl
   rwa [List.getElem?_drop,Nat.add_zero]at this
  have hdr:xs.drop (off+1)=qr:=by
   rw[←List.drop_drop,heq,hqe];rfl
  have hq0:q0<16:=f3 q0 (by rw[hqe];simp)
  have hgq:(xs.map fun n:Nat=>eI n)[off]?=some (eI q0):=by rw[List.getElem?_map,hx0];rfl
  have hpi:(0:Int)<((xs.length-off:Nat):Int):=by omega
  have hl1:1≤xs.length-off:=by omega
  have hbn:bfs a (k+1)=eG q0 2 ((bfs a k).1,qr):=by show popS _=_;unfold popS;rw[hqe]
  have e3:xs.length-off-1=xs.length-(off+1):=by omega
  have hcond:off+(xs.length-off)≤xs.length:=by omega
  have hNL:∀(e:List (Nat×AV)),xA (some [1,5,6,7,25]) e=xA (some [1,5,6,7,25]) e:=fun _=>rfl
  rcases oq with _|oq
  all_goals
  simp only[List.append_nil,List.cons_append,List.nil_append,go_sem,List.getElem?_cons_succ,hqg,hpi,hpos,hgq,hl1,hcond];all_goals
  clear u0 em em0 e0;generalize hw0:((bfs a k).1,qr)=s0 at *;have es1:(bfs a k).1=s0.1:=by rw[←hw0]
  have es2:qr=s0.2:=by rw[←hw0]
  rw[es1,e3];refine nB (fun t:Nat×aA×Nat×List Nat×Nat=>⟨[(1,AI b),(5,.mp h.length),(6,.own (h.length+(t.2.2.1+1)) t.2.2.2.1.length t.2.2.2.2 (t.2.2.2.1.length-t.2.2.2.2)),(7,AI q0),(25,AI t.1)],h++EA PC UC (eG q0 t.1 s0).1::t.2.1,[]⟩)
   (fun t=>t.1≤2∧Que t.2.1 t.2.2.1 t.2.2.2.1 t.2.2.2.2 (eG q0 t.1 s0).2∧t.2.2.2.1.length≤1+2*k+t.1) (fun t=>2-t.1) (0,R,i,xs,off+1) rfl ⟨by simp,⟨hqg,hoff,by rw[hdr,es2];rfl⟩,by simp;omega⟩ ?_
  rintro⟨j,R',i',ys,of'⟩ ⟨j1,jq,j2⟩
  dsimp only at j1 jq j2 ⊢;have jg:=jq.get
  have jle:=jq.le
  have jeq:=jq.eq
  by_cases hj:j<2
  ·have hji:(j:Int)<2:=by omega
   have qn:=fun h K=>z1u (h:=h) (K:=K) hY2 q0 j hq0 hj
   have hvis:eG q0 (j+1) s0=UG q0 j (eG q0 j s0):=rfl
   generalize hsj:eG q0 j s0=s at *;have lq:=fun(hp:aA) (hh:hp[h.length]?=some (EA PC UC s.1))=>lookQ (b:=(nxt q0 j:Int)) hh
   have lp:=fun(hp:aA) (hh:hp[h.length]?=some (EA PC UC s.1))=>z1F (b:=(q0:Int)) hh
   have up:=fun(hp:aA) (v:List UInt8) (hh:hp[h.length]?=some (EA PC UC s.1))=>updP (b:=(nxt q0 j:Int)) (v:=v) hh
   have w1:IntKind.i64.wrap ((j:Int)+1)=((j+1:Nat):Int):=GA _ (by omega) (by omega)
   cases hs:(TA (nxt q0 j:Int) s.1).isSome with
   | true=>
    have hv:UG q0 j s=s:=by unfold UG;rw[if_pos hs]
    rw[hv]at hvis;simp only[go_sem,hji,↓qn,qn,lq,hs,w1];exact⟨(j+1,R',i',ys,of'),by dsimp only;rw[hvis],⟨by dsimp only;omega,by dsimp only;rw[hvis];exact jq,by dsimp only;omega⟩,by dsimp only;omega⟩
   | false=>
    have hv:UG q0 j s=(lB (nxt q0 j:Int) ((TA (q0:Int) s.1).getD []++eH j) s.1,s.2++[nxt q0 j]):=by unfold UG;rw[hs];rfl
    rw[hv]at hvis;have w2:IntKind.i64.wrap (48+(j:Int))=((48+j:Nat):Int):=GA _ (by omega) (by omega)
    have w3:IntKind.i32.wrap ((48+j:Nat):Int)=((48+j:Nat):Int):=by
     have:j=0∨j=1:=by omega
     rcases this with rfl|rfl <;> rfl
    have w4:(0:Int)≤((48+j:Nat):Int)∧((48+j:Nat):Int)<128:=by omega
    have hln2:=z3U (z3O (n:=16) (at_:=q0) (s:=s0) (by rw[←es1];exact f4) j) (q0:Int)
    rw[hsj]at hln2;have w5:((TA (q0:Int) s.1).getD []).length+(eH j).length≤xB:=by have:(eH j).length=1:=rfl;unfold xB;omega
    have w6:[UInt8.ofNat ((48+j:Nat):Int).toNat]=eH j:=rfl
    simp only[go_sem,hji,↓qn,qn,lq,hs,lp,up,w1,w2,w3,w4,w5,w6];have hh1:(h++EA PC UC (lB (nxt q0 j:Int) ((TA (q0:Int) s.1).getD []++eH j) s.1)::R')[h.length+(i'+1)]?=some (.row none (ys.map fun n:Nat=>eI n) 0):=by
     rw[List.getElem?_append_right (by omega)];simpa using jg
    have hi':i'<R'.length:=uA jg
    refine zc0 hh1 jle (by omega) ?_ ?_
    ·refine⟨(j+1,R'.set i' (.row none (ys.map (fun n:Nat=>eI n)++[eI (nxt q0 j)]) 0),i',ys++[nxt q0 j],of'),?_,⟨by dsimp only;omega,⟨?_,?_,?_⟩,?_⟩,by dsimp only;omega⟩
     ·dsimp only
      rw[hvis,List.set_append_right _ _ (by omega)]
      simp only[List.length_append,List.length_cons,List.length_nil,Nat.add_sub_cancel_left,List.set_cons_succ];rw[show ys.length+1-of'=ys.length-of'+1 by omega]
     ·dsimp only
      rw[List.getElem?_set_self hi'];simp
     ·simp;omega
     ·dsimp only
      rw[hvis,List.drop_append_of_le_length jle,jeq]
     ·simp;omega
    ·refine⟨(j+1,R'++[.row none ((ys.drop of').map (fun n:Nat=>eI n)++[eI (nxt q0 j)]) 0],R'.length,ys.drop of'++[nxt q0 j],0),?_,⟨by dsimp only;omega,⟨?_,?_,?_⟩,?_⟩,by dsimp only;omega⟩
     ·dsimp only
      rw[hvis];simp
     ·simp
     ·simp
     ·dsimp only
      rw[hvis,jeq,List.drop_zero]
     ·simp;omega
  ·have hj2:j=2:=by omega
   subst hj2;simp only[go_sem];refine⟨(k+1,R',i',ys,of',some q0),?_,⟨by dsimp only;omega,by dsimp only;rw[hbn];exact jq,by dsimp only;omega⟩,by dsimp only;omega⟩
   dsimp only;rw[hbn]
 ·have hk16:k=16:=by omega
  subst hk16;obtain⟨_,hne⟩:=z5R ha;have hz:xs.length-off=0:=by rw[hln,hne];rfl
  have lk:=fun(hp:aA) (hh:hp[h.length]?=some (EA PC UC (bfs a 16).1))=>z1F (b:=(b:Int)) hh
  have hpv:(TA (b:Int) (bfs a 16).1).getD []=gA a b:=rfl
  rcases oq with _|oq <;> simp only[List.append_nil,List.cons_append,List.nil_append,go_sem,hz,lk,hpv]
end Go.Am
end
section
/- Numbers asv sets of bits;rows of a test asv numbers. -/
set_option linter.all false
namespace Go.Am
end Go.Am
end
section
/- Walks over the states,and the ways that the reference looks for. -/
open Go
set_option linter.all false
namespace Go.Am
variable {h:aA} {K:kA}
attribute [-go_sem] CB NB oJ pJ
attribute [-go_sem] mJ
theorem zgT:(frS.all fun a=>toS.all fun b=>decide (AK a b 9 0=some (gA a b)))=true:=by kernel_rfl
theorem zgS {a b:Nat}(ha:a∈frS)(hb:b∈toS):AK a b 9 0=some (gA a b):=
 of_decide_eq_true (List.all_eq_true.1 (List.all_eq_true.1 zgT a ha) b hb)
theorem fr_lt {a:Nat}(ha:a∈frS):a<16:=of_decide_eq_true (List.all_eq_true.1 (show(frS.all fun a=>decide (a<16))=true from rfl) a ha)
theorem RC {a b:Nat}(ha:a∈frS)(hb:b∈toS):zA (gA a b)=true∧(gA a b).length≤8∧JB a (gA a b)=b:=by
 obtain⟨kw,h1,h2,_⟩:=zgR (zgS ha hb);have hm:=z2C (List.mem_of_find?_eq_some h2)
 have he:=List.find?_some h2
 exact⟨hm.1,by omega,by simpa using he⟩
theorem z3e {n:Nat}(hn:n<16):eA X sH [AI n] h K=K (AB true) h []:=by
 refine CA ?_;have h1:(0:Int)≤n:=by omega
 have h2:(n:Int)≤15:=by omega
 have h3:¬((n:Int)<0):=by omega
 have h4:¬((n:Int)>15):=by omega
 rw[z6R rfl];simp only[vO,go_sem,cC,h3,h4]
theorem zfo {a b:Nat}(ha:a<16)(hb:b<16):eA X UI [AI a,AI b] h K=K (.tup [AS (gA a b),AI 0]) h []:=by
 refine CA ?_;rw[z6L rfl];simp only[oO,go_sem,z3e ha,z3e hb,z1t z4b z4a a b ha hb]
theorem z3N:(frS.all fun a=>toS.all fun b=>decide ((mB a (gA a b)).count 11=0)&&decide ((mB a (gA a b)).count 4=0))=true:=by kernel_rfl
theorem AM:PathOk gA where
 bits a ha b hb:=(RC ha hb).1
 len a ha b hb:=(RC ha hb).2.1
 ends a ha b hb:=(RC ha hb).2.2
 no11 a ha b hb:=by
  have:=List.all_eq_true.1 (List.all_eq_true.1 z3N a ha) b hb;simp only[Bool.and_eq_true,decide_eq_true_eq]at this;exact this.1
 no4 a ha b hb:=by
  have:=List.all_eq_true.1 (List.all_eq_true.1 z3N a ha) b hb;simp only[Bool.and_eq_true,decide_eq_true_eq]at this;exact this.2
end Go.Am
end
section
/- Lengths of numbers in bits,and comparisons of plain values. -/
open Go
namespace Go.Am
variable {h:aA} {K:kA}
set_option maxRecDepth 20000
end Go.Am
end
section
/- Lists of strings sorted,left out: printed by program. -/
open Go
set_option linter.unusedSimpArgs false
namespace Go.Am
attribute [-go_sem] PV.cells splice
variable {h:aA} {K:kA}
end Go.Am
end
section
/- Finding values in lists: printed by program. -/
open Go
set_option linter.unusedSimpArgs false
namespace Go.Am
attribute [-go_sem] PV.cells
variable {h:aA} {K:kA}
end Go.Am
end
section
/- Limits: what they are,what is wrong with them. -/
open Go
namespace Go.Am
variable {h:aA} {K:kA}
end Go.Am
end
section
/- What is wrong with limits,both ways: printed by program. -/
open Go
set_option linter.unusedSimpArgs false
namespace Go.Am
variable {h:aA} {K:kA}
end Go.Am
end
section
/- Package lot on measured values,and what the reference says of them. -/
open Go
namespace Go.Am
variable {h:aA} {K:kA}
structure Meas (l:List Int):Prop where
 len:l.length≤5000
 bd:∀n∈l,-100000≤n∧n≤100000
theorem Meas.sum {l:List Int}(hm:Meas l)(k:Nat) : -500000000≤(l.take k).sum∧(l.take k).sum≤500000000:=by
 have:=zg1 hm.bd hm.len (by omega) k
 omega
end Go.Am
end
section
/- Records: what they are,what is wrong with them. -/
open Go
set_option linter.unusedSimpArgs false
namespace Go.Am
variable {h:aA} {K:kA}
structure Rec where
 unit:List UInt8
 time:Int
 site:List UInt8
 res:List Int
end Go.Am
end
section
/- What is drawn: numbers,measured values. -/
open Go
namespace Go.Am
variable {L:List Int} {a:Int}
end Go.Am
end
section
/- Strings that are drawn. -/
open Go
set_option linter.unusedSimpArgs false
namespace Go.Am
variable {L:List Int} {a:Int} {h l:aA} {id:Nat} {K:kA}
def isS:PV→Bool
 | .str _=>true
 | _=>false
def unS:PV→List UInt8
 | .str s=>s
 | _=>[]
def pE (l:List (List UInt8))(L:List Int)(a:Int):List UInt8:=l.getD (LB L a l.length).toNat []
theorem RW {l:List (List UInt8)}{L:List Int}{a:Int}(hl:0<l.length)(hl2:l.length<4611686018427387904):pE l L a∈l:=by
 obtain⟨b1,b2⟩:=jJ L a l.length (by omega) (by omega)
 unfold pE;have:(LB L a l.length).toNat<l.length:=by omega
 simp only[List.getD,List.getElem?_eq_getElem this,Option.getD_some];exact List.getElem_mem _
theorem zgI {xs:List PV}(h:xs.all isS=true):xs=(xs.map unS).map PV.str:=by
 induction xs with
 | nil=>rfl
 | cons x r ih=>
  simp only[List.all_cons,Bool.and_eq_true]at h;simp only[List.map_cons];rw[←ih h.2];cases x <;> first|rfl|cases h.1
theorem zaF (hp:jB 0 a)(xs:List PV)(hx:xs.all isS=true)(hl:0<xs.length)(hl2:xs.length<4611686018427387904) :
 Gen zG [.p (.sl none xs)] L a (a+1) (AS (pE (xs.map unS) L a)):=by
 refine Gen.of fun h id hid=>?_
 rw[z61 rfl];obtain⟨b1,b2⟩:=jJ L a xs.length (by omega) (by omega)
 have e4:=lV (k:=.i64) b1
 have e5:xs[(LB L a xs.length).toNat]?=some (.str (pE (xs.map unS) L a)):=by
  have hm:=zgI hx
  generalize hq:xs.map unS=q at *;subst hm;simp only[List.length_map]at *;rw[sC PV.str (show(LB L a q.length).toNat<q.length by omega)]
  simp [pE,List.getD,show(LB L a q.length).toNat<q.length by omega]
 simp only[TN,go_sem,sK hid hp,e4,e5]
theorem z3b (hid:id<h.length)(hp:jB 0 a){xs:List PV}(hx:xs.all isS=true)(hl:0<xs.length)(hl2:xs.length<4611686018427387904) :
 eA X zG [.ref id 0,.p (.sl none xs)] (h.set id (MA L a)++l) K=K (AS (pE (xs.map unS) L a)) (h.set id (MA L (a+1))++l) []:=(zaF hp xs hx hl hl2).app hid
attribute [go_sem ↓] z3b
attribute [go_sem] z3b isS unS
end Go.Am
end
section
/- What is drawn: strings,limits. -/
open Go
set_option linter.unusedSimpArgs false
namespace Go.Am
variable {L:List Int} {a:Int} {h l:aA} {id:Nat} {K:kA}
end Go.Am
end
section
/- Records: what is wrong with them,both ways. -/
open Go
set_option linter.unusedSimpArgs false
namespace Go.Am
variable {h:aA} {K:kA}
def orL:List Int→Int
 | []=>0
 | x::r=>if x≠0 then x else orL r
end Go.Am
end
section
/- Sorting records: printed by program. -/
open Go
set_option linter.unusedSimpArgs false
namespace Go.Am
attribute [-go_sem] PV.cells splice
variable {h:aA} {K:kA}
end Go.Am
end
section
/- Leaving out what is alike: printed by program. -/
open Go
set_option linter.unusedSimpArgs false
namespace Go.Am
attribute [-go_sem] PV.cells splice
variable {h:aA} {K:kA}
end Go.Am
end
section
/- What is drawn: records. -/
open Go
set_option linter.unusedSimpArgs false
namespace Go.Am
variable {L:List Int} {a:Int} {h l:aA} {id:Nat} {K:kA}
theorem z71 {b:Nat}{x:Esc}(hx:∀ y∈x,b≤y.1):∀k,sB k x b=b:=by
 have hb:VC x b=b:=by
  unfold VC;induction x with
  | nil=>rfl
  | cons y r ih=>
   simp only[List.foldl_cons];rw[if_neg (by have:=hx y (by simp);omega)]
   exact ih (fun z hz=>hx z (by simp [hz]))
 intro k;induction k with
 | zero=>rfl
 | succ k ih=>unfold sB;rw[hb,ih]
theorem zgF {b i t:Nat}{x0:Esc}{e:List (Nat × AV)}{h:aA}(hi:i<b):aE b x0 ⟨e,h,[(i,t)]⟩=⟨aF (max b t) e,h.take (max b t),(i,t)::x0⟩:=by
 unfold aE;have hb:sB [(i,t)].length [(i,t)] b=max b t:=by simp [sB,VC,hi]
 simp only[hb];have hc:GB [(i,t)] (max b t)=true:=by simp [GB];omega
 have hf:[(i,t)].filter (fun y=>decide (y.1<max b t))=[(i,t)]:=by simp;omega
 rw[if_pos hc,hf];rfl
end Go.Am
end
section
/- Merging two ordered lists: by sorting and leaving out what is alike,and by looking each one up. Plain lists. -/
namespace Go.Am
variable {α:Type}
structure Ordr (c:α→α→Int):Prop where
 neg:∀a b,c b a = - c a b
 trans:∀a b d,c a b≤0→c b d≤0→c a d≤0
theorem Ordr.refl {c:α→α→Int}(o:Ordr c)(a:α):c a a=0:=by have:=o.neg a a;omega
variable {c:α→α→Int} {q:α→α→Bool} {a b:List α}
end Go.Am
end
section
/- Records alike;copies;bins. -/
open Go
set_option linter.unusedSimpArgs false
namespace Go.Am
variable {h:aA} {K:kA}
def rX (a b:Rec):Bool:=decide (a.unit=b.unit)&&(decide (a.time=b.time)&&(decide (a.site=b.site)&&decide (a.res=b.res)))
theorem zfF (a b:Rec):rX a b=true↔a=b:=by
 cases a;cases b
 simp [rX]
theorem zeY {b:Nat}{P:kA}{vs:List AV}{h:aA}{x:Esc}(hx:∀ y∈x,b≤y.1){v:AV}(h1:QA b h (UA vs)=some v)(h2:v.top≤b):DD false b P (some vs) h x=P v (h.take b) []:=by
 have e:max b v.top=b:=by omega
 have c:GB x b=true:=by
  unfold GB;rw[List.all_eq_true];intro y hy;simp [hx y hy]
 have f:x.filter (fun y=>decide (y.1<b))=[]:=by
  rw[List.filter_eq_nil_iff];intro y hy;have:=hx y hy;simp;omega
 simp only[DD,h1,e,z71 hx,c,if_true,f];exact propext ⟨fun h=>h.2,fun h=>⟨h2,h⟩⟩
theorem z2U (l:List Int)(hl:l.length≤1000):eA X uG [AL l] h K=K (AI (orL l)) h []:=by
 refine CA ?_;rw[z6q rfl];simp only[KN,go_sem];refine nB (fun k:Nat=>⟨[(5,AL l),(6,AI l.length),(7,AI k)],h,[]⟩) (fun k=>k≤l.length∧orL (l.drop k)=orL l) (fun k=>l.length-k) 0 rfl ⟨by omega,rfl⟩ ?_
 rintro k ⟨hk,hp⟩
 rcases Nat.lt_or_ge k l.length with hlt|hge
 ·have g2:=sC eI hlt
  have w2:IntKind.i64.wrap ((k:Int)+1)=((k+1:Nat):Int):=GA _ (by omega) (by omega)
  rw[List.drop_eq_getElem_cons hlt,orL]at hp;by_cases hz:l[k]=0
  ·rw[if_neg (by simp [hz])]at hp
   simp only[go_sem,hlt,g2,hz,w2];exact⟨k+1,rfl,⟨by omega,hp⟩,by omega⟩
  ·rw[if_pos hz]at hp
   simp only[go_sem,hlt,g2,hz];rw[hp]
 ·have ek:k=l.length:=by omega
  subst ek;rw[List.drop_length]at hp;simp only[go_sem,Nat.lt_irrefl];rw[←hp];rfl
end Go.Am
end
section
/- Sorting numbers: printed by program. -/
open Go
set_option linter.unusedSimpArgs false
namespace Go.Am
attribute [-go_sem] PV.cells splice
variable {h:aA} {K:kA}
end Go.Am
end
section
/- Bins,both ways;lists joined;records sorted. -/
open Go
set_option linter.unusedSimpArgs false
namespace Go.Am
variable {h:aA} {K:kA}
end Go.Am
end
section
/- Lists of records joined,compared,merged. -/
open Go
set_option linter.unusedSimpArgs false
namespace Go.Am
variable {h:aA} {K:kA}
instance:DecidableEq Rec:=fun a b=>decidable_of_iff (rX a b=true) (zfF a b)
end Go.Am
end
section
/- Records merged asv the reference does it. -/
open Go
set_option linter.unusedSimpArgs false
namespace Go.Am
variable {h:aA} {K:kA}
end Go.Am
end
section
/- Retests: which record of a unit counts. Plain lists;both ways yield the same. -/
set_option linter.all false
namespace Go.Am
end Go.Am
end
section
/- Lists of strings. -/
open Go
set_option linter.all false
namespace Go.Am
variable {h:aA} {K:kA}
abbrev tF (us:List (List UInt8)):AV:=.p (.sl none (us.map PV.str))
end Go.Am
end
section
/- Tests and faults: what is wrong with them,both ways. -/
open Go
set_option linter.all false
namespace Go.Am
variable {h:aA} {K:kA}
theorem zfq (s cs:List UInt8)(hs:s.length≤1000000)(hc:cs.length≤1000)(ha:cs.all (fun b=>decide (b.toNat<128))=true):eA X KL [AS s,AS cs] h K=K (AS (TM s cs)) h []:=by
 refine fV (X:=X) (by kernel_rfl) ?_
 first|rw[show X.ex2=lF GRL PRL from rfl]|skip
 show lF GRL PRL KL [AS s,AS cs] h=some (AS (TM s cs),h,[])
 exact z1C (vs:=[.str s,.str cs]) (by kernel_rfl) (s:=trimS) (by kernel_rfl) rfl (by simp only[trimS];rw[if_pos ⟨hs,hc,ha⟩])
theorem YH (s:List UInt8)(hs:s.length≤1000000):eA X RD [AS s] h K=K (AB (zA s)) h []:=by
 refine CA ?_;rw[z6p rfl];have e:=fun h K=>zfq (h:=h) (K:=K) s [48,49] hs (by simp) (by decide)
 have b:decide (TM s [48,49]=[])=zA s:=zgC s
 simp only[JN,go_sem,e,b]
theorem zfk (s:List UInt8)(hs:s.length≤1000000):eA X wL [AS s] h K=K (AB (zA s)) h []:=by
 refine CA ?_;rw[z62 rfl];have e:=fun h K=>zfy (h:=h) (K:=K) s [48,49] (by omega)
 have b:(s.all fun c=>[48,49].contains c)=zA s:=rfl
 simp only[UN,go_sem,e,b]
theorem z3c (t:List (List UInt8))(hb:∀ s∈t,s.length≤1000000)(hn:t.length≤1000000):eA X RI [tF t] h K=K (AI (gI t)) h []:=by
 refine CA ?_;rw[z63 rfl];unfold gI;by_cases h0:t.length=0
 ·simp only[BI,go_sem,h0]
 have h0':¬((t.length:Int)=0):=by omega
 by_cases h1:100<t.length
 ·have h1':(100:Int)<(t.length:Int):=by omega
  simp only[BI,go_sem,h0',h0,h1,h1']
 have h1':¬(100:Int)<(t.length:Int):=by omega
 simp only[BI,go_sem,h0',h0,h1,h1'];obtain⟨lg,hlg⟩:∃n,(t.headD []).length=n:=⟨_,rfl⟩;rw[hlg];refine nB (fun k:Nat=>⟨[(0,tF t),(13,tF t),(14,AI t.length),(15,AI k)],h,[]⟩) (fun k=>k≤t.length∧dG lg (t.drop k)=dG lg t) (fun k=>t.length-k) 0 rfl ⟨by omega,by simp⟩ ?_
 rintro k ⟨hk,hp⟩
 rcases Nat.lt_or_ge k t.length with hlt|hge
 ·have hg:=sC PV.str hlt
  have hg0:=sC PV.str (show 0<t.length by omega)
  have cz:bB none 0 (PV.str t[k])=some (PV.str t[k]):=rfl
  have hz:t[0].length=lg:=by
   rw[←hlg];cases t with
   | nil=>exact absurd rfl h0
   | cons a r=>rfl
  have w2:IntKind.i64.wrap ((k:Int)+1)=((k+1:Nat):Int):=GA _ (by omega) (by omega)
  have eb:=fun h K=>zfk (h:=h) (K:=K) t[k] (hb _ (List.getElem_mem hlt))
  rw[List.drop_eq_getElem_cons hlt,dG]at hp;cases hbb:zA t[k]with
  | false=>
   rw[hbb]at hp;simp only[if_true]at hp;rw[←hp];simp only[go_sem,hlt,hg,eb,hbb]
  | true=>
   rw[hbb]at hp;simp only[Bool.true_eq_false,if_false]at hp;by_cases h2:64<t[k].length
   ·have h2':(64:Int)<(t[k].length:Int):=by omega
    rw[if_pos h2]at hp;rw[←hp];simp only[go_sem,hlt,hg,eb,hbb,h2']
   ·have h2':¬(64:Int)<(t[k].length:Int):=by omega
    rw[if_neg h2]at hp;by_cases h3:t[k].length=lg
    ·have h3':((t[k].length:Int)=(lg:Int)):=by omega
     rw[if_neg (by omega)]at hp
     have h2'':¬(64:Int)<(lg:Int):=by omega
     simp only[go_sem,hlt,hg,hg0,hz,eb,hbb,h2',h2'',h3',w2];exact⟨k+1,rfl,⟨by omega,hp⟩,by omega⟩
    ·have h3':¬((t[k].length:Int)=(lg:Int)):=by omega
     rw[if_pos h3]at hp;rw[←hp];simp only[go_sem,hlt,hg,hg0,hz,eb,hbb,h2',h3']
 ·have e1:k=t.length:=by omega
  subst e1;rw[List.drop_length]at hp;rw[←hp];simp only[go_sem,Nat.lt_irrefl];rfl
end Go.Am
end
section
/- Faults: what is wrong with them,both ways. -/
open Go
set_option linter.all false
namespace Go.Am
variable {h:aA} {K:kA}
end Go.Am
end
section
/- Commands: what is wrong with them,on both sides. -/
open Go
set_option linter.all false
namespace Go.Am
variable {h:aA} {K:kA}
abbrev jE (c:Cmd):PV:=.agg [.int .i64 c.k,.int .i64 c.s,.int .i64 c.cl,.str c.b,.str c.w,.str c.m]
abbrev ACm (c:Cmd):AV:=.p (jE c)
structure CmdOk (c:Cmd):Prop where
 b:c.b.length≤100000
 w:c.w.length≤100000
 m:c.m.length≤100000
theorem pX (n:Int):eA X bJ [AI n] h K=K (AB (dC n)) h []:=by
 refine CA ?_;rw[z7n rfl];unfold dC;by_cases h0:n=0
 ·subst h0;simp only[pG,go_sem]
 by_cases h1:n=1
 ·subst h1;simp only[pG,go_sem]
 by_cases h2:n=6
 ·subst h2;simp only[pG,go_sem]
 by_cases h3:n=13
 ·subst h3;simp only[pG,go_sem]
 have e:(n==0||n==1||n==6||n==13)=false:=by simp [h0,h1,h2,h3]
 rw[e];simp only[pG,go_sem,h0,h1,h2,h3]
theorem sF (n:Int):eA X KF [AI n] h K=K (AB (decide (n=7)||decide (n=8))) h []:=by
 refine CA ?_;rw[z7c rfl];by_cases h0:n=7
 ·subst h0;simp only[KI,go_sem]
 by_cases h1:n=8
 ·subst h1;simp only[KI,go_sem]
 simp only[KI,go_sem,h0,h1]
theorem YF (n:Int):eA X uH [AI n] h K=K (AB (decide (1≤n)&&decide (n≤6))) h []:=by
 refine CA ?_;rw[z7d rfl];by_cases h0:n<1
 ·have:¬(1≤n):=by omega
  simp only[LI,go_sem,cC,h0,this]
 ·have:1≤n:=by omega
  by_cases h1:6<n
  ·have h2:¬(n≤6):=by omega
   simp only[LI,go_sem,cC,h0,this,h1,h2]
  ·have h2:n≤6:=by omega
   simp only[LI,go_sem,cC,h0,this,h1,h2]
theorem zf4 (c:Cmd)(hc:CmdOk c):eA X aJ [ACm c] h K=K (AI (YD c:Nat)) h []:=by
 refine CA ?_;rw[z7k rfl];have b1:=hc.b;have b2:=hc.w;have b3:=hc.m
 have k1:=fun(h':aA) (K':kA)=>YH (h:=h') (K:=K') c.b (show c.b.length≤1000000 by omega)
 have k2:=fun(h':aA) (K':kA)=>YH (h:=h') (K:=K') c.w (show c.w.length≤1000000 by omega)
 have k3:=fun(h':aA) (K':kA)=>YH (h:=h') (K:=K') c.m (show c.m.length≤1000000 by omega)
 obtain⟨k,s,cl,b,w,m⟩:=c;simp only at b1 b2 b3 k1 k2 k3;have h0:=k1;have h0':=k2;have h0'':=k3
 unfold YD;by_cases h1:b=[]
 ·simp only[yD,go_sem,h1]
 rcases hb:zA b with _|_
 ·simp only[yD,go_sem,h1,k1,hb]
 by_cases h2:2000<b.length
 ·have h2':(2000:Int)<(b.length:Int):=by omega
  simp only[yD,go_sem,h1,k1,hb,h2,h2']
 have h2':¬(2000:Int)<(b.length:Int):=by omega
 by_cases h3:w=[]
 ·subst h3
  have hbn:zA []=true:=rfl
  rcases hm:zA m with _|_
  ·simp only[yD,go_sem,h1,k1,hb,h2,h2',k2,hbn,k3,hm]
  ·by_cases h4:m=[]
   ·subst h4
    simp only[yD,go_sem,h1,k1,hb,h2,h2',k2,hbn]
   ·simp only[yD,go_sem,h1,k1,hb,h2,h2',k2,hbn,k3,hm,h4]
 by_cases h4:w.length=b.length
 ·have h4':(w.length:Int)=(b.length:Int):=by omega
  by_cases h5:m.length=b.length
  ·have h5':(m.length:Int)=(b.length:Int):=by omega
   rcases hw:zA w with _|_
   ·simp only[yD,go_sem,h1,k1,hb,h2',h3,h4',h5',k2,hw]
    simp [h1,hb,h2,h3,h4,h5,hw]
   ·rcases hm:zA m with _|_
    ·simp only[yD,go_sem,h1,k1,hb,h2',h3,h4',h5',k2,hw,k3,hm]
     simp [h1,hb,h2,h3,h4,h5,hw,hm]
    ·simp only[yD,go_sem,h1,k1,hb,h2',h3,h4',h5',k2,hw,k3,hm]
     simp [h1,hb,h2,h3,h4,h5,hw,hm]
  ·have h5':¬(m.length:Int)=(b.length:Int):=by omega
   simp only[yD,go_sem,h1,k1,hb,h2',h3,h4',h5'];simp [h1,hb,h2,h3,h4,h5]
 ·have h4':¬(w.length:Int)=(b.length:Int):=by omega
  simp only[yD,go_sem,h1,k1,hb,h2',h3,h4'];simp [h1,hb,h2,h3,h4]
end Go.Am
end
section
/- A command's fault on both sides. -/
open Go
set_option linter.all false
namespace Go.Am
variable {h:aA} {K:kA}
theorem eqs6 {k s cl k' s' cl':Int}{b w m b' w' m':List UInt8}:eqs [.int .i64 k,.int .i64 s,.int .i64 cl,.str b,.str w,.str m] [.int .i64 k',.int .i64 s',.int .i64 cl',.str b',.str w',.str m']=some (decide ((⟨k,s,cl,b,w,m⟩:Cmd)=⟨k',s',cl',b',w',m'⟩)):=by
 by_cases e1:k=k' <;> by_cases e2:s=s' <;> by_cases e3:cl=cl' <;> by_cases e4:b=b' <;> by_cases e5:w=w' <;> by_cases e6:m=m' <;> simp [eqs,PV.eq1,e1,e2,e3,e4,e5,e6]
def gJ (c:Cmd):Nat:=
 if c.k=1∨c.k=2∨c.k=10 then(if !dC c.s then 1 else 0)
 else if c.k=9 then(if c.cl<0∨20000<c.cl then 1 else 0)
 else if c.k=7∨c.k=8 then YD c
 else(if !zA c.b then 9 else if 2000<c.b.length then 2 else 0)
def HK (c:Cmd):Cmd:=
 if c.k=1∨c.k=2∨c.k=10 then { c with s:=0 }
 else if c.k=9 then { c with cl:=0 }
 else if c.k=7∨c.k=8 then { c with b:=[],w:=[],m:=[] }
 else { c with b:=[] }
theorem z74 {c:Cmd}(h:1≤c.k∧c.k≤10):OA c=if gJ c≠0 then gJ c else if HK c=⟨c.k,0,0,[],[],[]⟩ then 0 else 3:=by
 obtain⟨k,s,cl,b,w,m⟩:=c;unfold OA gJ HK;dsimp only at h ⊢;by_cases h1:k=1∨k=2∨k=10
 ·simp only[if_pos h1]
  rcases dC s with _|_ <;> simp [Cmd.mk.injEq]
 simp only[if_neg h1];by_cases h2:k=9
 ·simp only[if_pos h2]
  by_cases h3:cl<0∨20000<cl <;> simp [h3,Cmd.mk.injEq]
 simp only[if_neg h2];by_cases h3:k=7∨k=8
 ·simp only[if_pos h3]
  by_cases h4:YD ⟨k,s,cl,b,w,m⟩=0 <;> simp [h4,Cmd.mk.injEq]
 simp only[if_neg h3];rw[if_pos (by omega)]
 rcases zA b with _|_
 ·simp
 ·by_cases h4:2000<b.length <;> simp [h4,Cmd.mk.injEq]
theorem z77 {c:Cmd}(h:¬ (1≤c.k∧c.k≤10)):OA c=4:=by
 unfold OA;rw[if_neg (by omega),if_neg (by omega),if_neg (by omega),if_neg (by omega)]
theorem UD (n:Nat):n+1+1=n+2:=rfl
set_option maxHeartbeats 4000000 in
theorem zfx (c:Cmd)(hc:CmdOk c):eA X YI [ACm c] h K=K (.tup [ACm (HK c),AI (gJ c:Nat)]) h []:=by
 refine CA ?_;rw[z7e rfl];have b1:=hc.b;have b2:=hc.w;have b3:=hc.m
 have k1:=fun(h':aA) (K':kA)=>YH (h:=h') (K:=K') c.b (show c.b.length≤1000000 by omega)
 have k2:=fun(h':aA) (K':kA)=>zf4 (h:=h') (K:=K') c hc
 obtain⟨k,s,cl,b,w,m⟩:=c;simp only at b1 b2 b3 k1 k2;unfold gJ HK;dsimp only;by_cases h1:k=1
 ·rcases hs:dC s with _|_ <;> (simp only[xD,go_sem,UD,h1,pX,hs];simp [h1,hs])
 by_cases h2:k=2
 ·rcases hs:dC s with _|_ <;> (simp only[xD,go_sem,UD,h1,h2,pX,hs];simp [h1,h2,hs])
 by_cases h3:k=10
 ·rcases hs:dC s with _|_ <;> (simp only[xD,go_sem,UD,h1,h2,h3,pX,hs];simp [h1,h2,h3,hs])
 by_cases h4:k=9
 ·by_cases g1:cl<0
  ·(simp only[xD,go_sem,UD,h1,h2,h3,h4,cC,g1];simp [h1,h2,h3,h4,g1])
  ·by_cases g2:20000<cl
   ·(simp only[xD,go_sem,UD,h1,h2,h3,h4,cC,g1,g2];simp [h1,h2,h3,h4,g1,g2])
   ·(simp only[xD,go_sem,UD,h1,h2,h3,h4,cC,g1,g2];simp [h1,h2,h3,h4,g1,g2])
 by_cases h5:k=7
 ·subst h5
  (simp only[xD,go_sem,UD,sF,k2];simp [UD])
 by_cases h6:k=8
 ·subst h6
  (simp only[xD,go_sem,UD,sF,k2];simp [UD])
 rcases hb:zA b with _|_
 ·(simp only[xD,go_sem,UD,h1,h2,h3,h4,h5,h6,sF,k1,hb];simp [h1,h2,h3,h4,h5,h6,hb])
 ·by_cases h7:2000<b.length
  ·have h7':(2000:Int)<(b.length:Int):=by omega
   (simp only[xD,go_sem,UD,h1,h2,h3,h4,h5,h6,sF,k1,hb,h7,h7'];simp [h1,h2,h3,h4,h5,h6,hb,h7])
  ·have h7':¬(2000:Int)<(b.length:Int):=by omega
   (simp only[xD,go_sem,UD,h1,h2,h3,h4,h5,h6,sF,k1,hb,h7,h7'];simp [h1,h2,h3,h4,h5,h6,hb,h7])
end Go.Am
end
section
/- Lists of faults: what is wrong with them,both ways. -/
open Go
set_option linter.all false
namespace Go.Am
variable {h:aA} {K:kA}
end Go.Am
end
section
/- Rows of a test asv numbers. -/
open Go
set_option linter.all false
namespace Go.Am
variable {h:aA} {K:kA}
theorem z3C {lg:Nat}:∀{t:List (List UInt8)},dG lg t=0→∀s∈t,zA s=true∧s.length=lg∧s.length≤64
 | [],_,s,hs=>by cases hs
 | a::r,h,s,hs=>by
  unfold dG at h;split at h
  ·cases h
  split at h
  ·cases h
  split at h
  ·cases h
  rename_i h1 h2 h3;rcases List.mem_cons.1 hs with rfl|hs
  ·exact⟨by simpa using h1,by simpa using h3,by omega⟩
  ·exact z3C h s hs
structure TestOk (t:List (List UInt8)) (lg:Nat):Prop where
 n0:0<t.length
 n1:t.length≤100
 l:lg≤64
 b:∀s∈t,zA s=true
 e:∀s∈t,s.length=lg
theorem zg5 {t:List (List UInt8)}(h:gI t=0):TestOk t (t.headD []).length:=by
 unfold gI at h;split at h
 ·cases h
 split at h
 ·cases h
 have k:=z3C h
 have hm:t.headD []∈t:=by
  cases t with
  | nil=>rename_i h0 _;exact absurd rfl h0
  | cons a r=>exact List.mem_cons_self ..
 exact⟨by omega,by omega,(k _ hm).2.2,fun s hs=>(k s hs).1,fun s hs=>(k s hs).2.1⟩
end Go.Am
end
section
/- Faults on rows: what the program makes of them. -/
open Go
set_option linter.all false
namespace Go.Am
variable {h:aA} {K:kA}
end Go.Am
end
section
/- Rows that are handed tov a function: it sees their values. -/
open Go
namespace Go.Am
theorem zY {X:Ctx}{f:Nat}{F:AFun}{a:List AV}{vs:List PV}{h h1:aA}{P:kA}(hf:X.fn f=some F)(hr:F.byref=false)(hp:qA h a=some (vs.map .p,h1))(hq:qA h1 (vs.map .p)=some (vs.map .p,h1))(hl:vs.length=F.nparams)(hlen:h1.length=h.length):eA X f a h P=eA X f (vs.map .p) h1 P:=by
 cases hd:F.isDet with
 | false=>rw[BA hf hr hp (by simpa using hl) hd,BA hf hr hq (by simpa using hl) hd,hlen]
 | true=>rw[tI hf hr hp (by simpa using hl) hd,tI hf hr hq (by simpa using hl) hd,hlen]
theorem z1b {h:aA}{id k:Nat}:(frz h id k).length=h.length:=by
 unfold frz;split <;> simp
end Go.Am
end
section
/- Responses,asv the program computes them. -/
open Go
set_option linter.all false
namespace Go.Am
variable {h:aA} {K:kA}
end Go.Am
end
section
/- Sorting the middle of a row: printed by program. -/
open Go
set_option linter.unusedSimpArgs false
namespace Go.Am
attribute [-go_sem] PV.cells splice
variable {h:aA} {K:kA}
end Go.Am
end
section
/- What is drawn: orders,tests. -/
open Go
set_option linter.all false
namespace Go.Am
variable {L:List Int} {a:Int} {h l:aA} {id:Nat} {K:kA}
def GenK (f:Nat)(args:List AV)(L:List Int)(a:Int)(sh:Sh)(Q:List PV→Int→Prop):Prop:=∀(h:aA) (id:Nat),h[id]?=some (MA L a)→∃xs a2,Q xs a2∧∀K:kA,eA X f (.ref id 0::args) h K=K (.own h.length xs.length 0 xs.length) (h.set id (MA L a2)++[.row sh xs 0]) []
theorem GenK.of {f:Nat}{args:List AV}{L:List Int}{a:Int}{sh:Sh}{Q:List PV→Int→Prop}(H:∀ (h:aA) (id:Nat),id<h.length→eA X f (.ref id 0::args) (h.set id (MA L a)) fun v1 h1 x1=>∃ xs a2,Q xs a2∧v1 = .own h.length xs.length 0 xs.length∧h1=h.set id (MA L a2)++[.row sh xs 0]∧x1=[]):GenK f args L a sh Q:=by
 intro h id hh;have hid:=iP hh
 have k:=H h id hid
 rw[zfV hh]at k;obtain⟨v,h',x,⟨xs,a2,q,e0,e1,e2⟩,r⟩:=eA.one jY k;subst e0;subst e1;subst e2
 exact⟨xs,a2,q,r⟩
def eY (t:List (List UInt8)):Prop:=t.length≤5∧∀s∈t,s.length≤1000
theorem oX (s:List UInt8)(c:Int)(h0:0≤c)(hc:s.length*c.toNat≤1000000)(h1:c≤1000000):eA X iF [AS s,AI c] h K=K (AS (oD s c.toNat)) h []:=by
 refine fV (X:=X) (by kernel_rfl) ?_
 first|rw[show X.ex2=lF GRL PRL from rfl]|skip
 show lF GRL PRL iF [AS s,AI c] h=some (AS (oD s c.toNat),h,[])
 exact z1C (vs:=[.str s,.int .i64 c]) (by kernel_rfl) (s:=lK) (by kernel_rfl) rfl (by simp only[lK];rw[if_pos ⟨h0,hc,h1⟩])
theorem ZW (s:List UInt8):∀c,(oD s c).length=c*s.length
 | 0=>by simp [oD]
 | c+1=>by rw[oD,List.length_append,ZW s c,Nat.add_mul,Nat.one_mul,Nat.add_comm]
theorem zaA (hp:jB 200 a):eE uL [] L a (fun v a2=>a≤a2∧a2≤a+60∧∃t:List (List UInt8),eY t∧v=tF t):=by
 refine eE.of fun h id hid=>?_
 rw[z6v rfl];have hid':id≤h.length:=by omega
 have p0:=OH (n:=0) hp (Int.le_refl a) (by omega)
 have p1:=OH (n:=0) hp (show a≤a+1 by omega) (by omega)
 have pl:=ze3 (l:=[0,1,2,3,4,5]) (L:=L) (a:=a) (by simp) (by simp)
 obtain⟨lg,hlg⟩:∃n,MH [0,1,2,3,4,5] L a=n:=⟨_,rfl⟩;rw[hlg]at pl;have hlg0:0≤lg∧lg≤5:=by simp only[List.mem_cons,List.not_mem_nil,or_false]at pl;omega
 obtain⟨long,rfl⟩:=Int.eq_ofNat_of_zero_le hlg0.1;obtain⟨n1,n2⟩:=JQ (u:=1) (v:=5) L (a+1) (by omega) (by omega)
 obtain⟨n,hn⟩:=Int.eq_ofNat_of_zero_le (show 0≤pF 1 5 L (a+1) by omega)
 rw[hn]at n1 n2;simp only[ON,go_sem,hid,p0,p1,hlg,hn];refine nB (fun t:List (List UInt8)×Int=>⟨[(0,.ref id 0),(3,.own h.length t.1.length 0 t.1.length),(4,AI long),(11,AI n),(12,AI t.1.length)],h.set id (MA L t.2)++[.row none (t.1.map PV.str) 0],[]⟩)
  (fun t=>t.1.length≤n∧(∀s∈t.1,s.length≤5)∧a≤t.2∧t.2≤a+2+5*t.1.length) (fun t=>n-t.1.length) ([],a+1+1) rfl ⟨by simp,by simp,by simp;omega,by simp;omega⟩ ?_
 rintro⟨t,b⟩ ⟨q1,q2,q3,q4⟩
 dsimp only at q1 q2 q3 q4 ⊢;rcases Nat.lt_or_ge t.length n with hlt|hge
 ·have w2:IntKind.i64.wrap ((t.length:Int)+1)=((t.length+1:Nat):Int):=GA _ (by omega) (by omega)
  simp only[go_sem,hid,hlt];refine nB (fun u:List UInt8×Int=>⟨[(0,.ref id 0),(3,.own h.length t.length 0 t.length),(4,AI long),(5,AS u.1),(11,AI n),(12,AI t.length),(14,AI long),(15,AI u.1.length)],h.set id (MA L u.2)++[.row none (t.map PV.str) 0],[]⟩)
   (fun u=>u.1.length≤long∧b≤u.2∧u.2≤b+u.1.length) (fun u=>long-u.1.length) ([],b) rfl ⟨by simp,by simp,by simp⟩ ?_
  rintro⟨s,c⟩ ⟨r1,r2,r3⟩
  dsimp only at r1 r2 r3 ⊢;rcases Nat.lt_or_ge s.length long with hlt2|hge2
  ·have pc:=OH (n:=0) hp (show a≤c by omega) (by omega)
   have w3:IntKind.i64.wrap ((s.length:Int)+1)=((s.length+1:Nat):Int):=GA _ (by omega) (by omega)
   have ps:=RW (l:=[[48],[49]]) (L:=L) (a:=c) (by simp) (by simp)
   have hs1:(pE [[48],[49]] L c).length=1:=by
    simp only[List.mem_cons,List.not_mem_nil,or_false]at ps;rcases ps with e|e <;> rw[e] <;> rfl
   obtain⟨z,hz⟩:∃z,pE [[48],[49]] L c=z:=⟨_,rfl⟩;rw[hz]at hs1;have hmx:s.length+1≤xB:=by unfold xB;omega
   simp only[go_sem,hid,hlt2,pc,hz,hs1,hmx,w3];exact⟨(s++z,c+1),by simp [hs1],⟨by simp [hs1];omega,by dsimp only;omega,by simp [hs1];omega⟩,by simp [hs1];omega⟩
  ·have hge2':¬s.length<long:=by omega
   have hmx:t.length+1≤LA:=by unfold LA;omega
   simp only[go_sem,hid,hid',hge2',hmx,w2];refine⟨(t++[s],c),by simp,⟨by simp;omega,fun z hz=>?_,by dsimp only;omega,by simp;omega⟩,by simp;omega⟩
   rcases List.mem_append.1 hz with hz|hz
   ·exact q2 z hz
   ·rw[List.mem_singleton.1 hz];omega
 ·have hge':¬t.length<n:=by omega
  have pb:=z2n (OH hp q3 (show b+14≤a+200 by omega))
  have hq2:∀s∈t,s.length≤1000:=fun s hs=>by have:=q2 s hs;omega
  by_cases f1:LB L b 20=0
  ·obtain⟨m1,m2⟩:=jJ L (b+1) t.length (by omega) (by omega)
   obtain⟨m,hm⟩:=Int.eq_ofNat_of_zero_le m1;rw[hm]at m2;have hml:m<t.length:=by omega
   have gm:=sC PV.str hml
   have ps:=RW (l:=[[48],[120]]) (L:=L) (a:=b+1+1) (by simp) (by simp)
   have hs1:(pE [[48],[120]] L (b+1+1)).length=1:=by
    simp only[List.mem_cons,List.not_mem_nil,or_false]at ps;rcases ps with e|e <;> rw[e] <;> rfl
   obtain⟨z,hz⟩:∃z,pE [[48],[120]] L (b+1+1)=z:=⟨_,rfl⟩;rw[hz]at hs1;have htm:=q2 _ (List.getElem_mem hml)
   have hmx:t[m].length+1≤xB:=by unfold xB;omega
   simp only[go_sem,hid,hid',hge',pb,f1,hm,hml,gm,hz,hs1,hmx];refine⟨b+1+1+1,⟨by omega,by omega,t.set m (t[m]++z),⟨by simp;omega,fun x hx=>?_⟩,?_⟩,rfl⟩
   ·rcases List.mem_or_eq_of_mem_set hx with hx|rfl
    ·exact hq2 x hx
    ·simp [hs1];omega
   ·have em:(t.map PV.str).set m (PV.str (t[m]++z))=(t.set m (t[m]++z)).map PV.str:=List.map_set.symm
    rw[em,dE (by simp)]
  ·by_cases f2:LB L (b+1) 40=0
   ·simp only[go_sem,hid,hid',hge',pb,f1,f2]
    exact⟨b+1+1,⟨by omega,by omega,[],⟨by simp,by simp⟩,rfl⟩,rfl⟩
   ·by_cases f3:LB L (b+1+1) 40=0
    ·simp only[go_sem,hid,hid',hge',pb,f1,f2,f3]
     refine nB (fun u:List (List UInt8)×Nat×Int=>⟨[(0,.ref id 0),(3,.own h.length t.length 0 t.length),(50,AI t.length),(51,AI u.2.1)],h.set id (MA L u.2.2)++[.row none (u.1.map PV.str) 0],[]⟩)
      (fun u=>u.1.length=t.length∧(∀s∈u.1,s.length≤1000)∧u.2.1≤t.length∧b+3≤u.2.2∧u.2.2≤b+3+3*u.2.1) (fun u=>t.length-u.2.1) (t,0,b+1+1+1) rfl ⟨rfl,hq2,by simp,by simp;omega,by simp;omega⟩ ?_
     rintro⟨u,j,c⟩ ⟨u1,u2,u3,u4,u5⟩
     dsimp only at u1 u2 u3 u4 u5 ⊢;rcases Nat.lt_or_ge j t.length with hlt|hge
     ·have pc:=z2n (OH hp (show a≤c by omega) (show c+14≤a+200 by omega))
      have w2:IntKind.i64.wrap ((j:Int)+1)=((j+1:Nat):Int):=GA _ (by omega) (by omega)
      have ps:=RW (l:=[[48],[49],[48,49]]) (L:=L) (a:=c) (by simp) (by simp)
      have hs1:(pE [[48],[49],[48,49]] L c).length≤2:=by
       simp only[List.mem_cons,List.not_mem_nil,or_false]at ps;rcases ps with e|e|e <;> rw[e] <;> decide
      obtain⟨z,hz⟩:∃z,pE [[48],[49],[48,49]] L c=z:=⟨_,rfl⟩;rw[hz]at hs1;obtain⟨v1,v2⟩:=JQ (u:=0) (v:=1) L (c+1) (by omega) (by omega)
      obtain⟨x1,x2⟩:=JQ (u:=0) (v:=32) L (c+1+1) (by omega) (by omega)
      obtain⟨d,hd⟩:∃z,pF 0 1 L (c+1)=z:=⟨_,rfl⟩;obtain⟨e,he⟩:∃z,pF 0 32 L (c+1+1)=z:=⟨_,rfl⟩;rw[hd]at v1 v2;rw[he]at x1 x2;have w5:IntKind.i64.wrap (32+d)=32+d:=GA _ (by omega) (by omega)
      have hm1:z.length*(32+d).toNat≤2*33:=Nat.mul_le_mul hs1 (by omega)
      have R1:=fun h K=>oX (h:=h) (K:=K) z (32+d) (by omega) (by omega) (by omega)
      have R2:=fun h K=>oX (h:=h) (K:=K) [49] e (by omega) (by simp;omega) (by omega)
      have l1:(oD z (32+d).toNat).length≤66:=by rw[ZW,Nat.mul_comm];exact hm1
      have l2:(oD [49] e.toNat).length≤32:=by rw[ZW];simp;omega
      generalize oD z (32+d).toNat=A at *;generalize oD [49] e.toNat=B at *;have hmx:A.length+B.length≤xB:=by unfold xB;omega
      have gu:=sC PV.str (l:=u) (k:=j) (by omega)
      have hul:(u.map PV.str).length=t.length:=by rw[List.length_map,u1]
      simp only[go_sem,hid,hid',hlt,pc,hz,hd,he,w5,R1,R2,hmx,hul,gu,w2];refine⟨(u.set j (A++B),j+1,c+1+1+1),?_,⟨by simp [u1],fun x hx=>?_,by dsimp only;omega,by dsimp only;omega,by dsimp only;omega⟩,by dsimp only;omega⟩
      ·rw[List.map_set]
      ·rcases List.mem_or_eq_of_mem_set hx with hx|rfl
       ·exact u2 x hx
       ·simp;omega
     ·have hge2:¬j<t.length:=by omega
      simp only[go_sem,hid,hid',hge2,u1];refine⟨c,⟨by omega,by omega,u,⟨by omega,u2⟩,?_⟩,rfl⟩
      rw[dE (by simp [u1])]
    ·simp only[go_sem,hid,hid',hge',pb,f1,f2,f3]
     refine⟨b+1+1+1,⟨by omega,by omega,t,⟨by omega,hq2⟩,?_⟩,rfl⟩
     rw[dE (by simp)]
theorem zaG {t:List (List UInt8)}(h:0<t.length):(t.map PV.str)[0]?=some (.str (t.headD [])):=by
 cases t with
 | nil=>cases h
 | cons a r=>rfl
theorem zaE (hp:jB 2000 a):eE vL [] L a (fun v a2=>a≤a2∧a2≤a+360∧∃t:List (List UInt8),eY t∧gI t=0∧(t.headD []).length<20∧v=tF t):=by
 refine eE.of fun h id hid=>?_
 rw[z60 rfl];have hid':id≤h.length:=by omega
 simp only[SN,go_sem,hid];refine nB (fun t:Nat×Int=>⟨[(0,.ref id 0),(4,AI t.1)],h.set id (MA L t.2),[]⟩) (fun t=>t.1≤6∧a≤t.2∧t.2≤a+60*t.1) (fun t=>6-t.1) (0,a) rfl ⟨by simp,by simp,by simp⟩ ?_
 rintro⟨k,b⟩ ⟨h1,h2,h3⟩
 dsimp only at h1 h2 h3 ⊢;rcases Nat.lt_or_ge k 6 with hlt|hge
 ·have hk:(k:Int)<6:=by omega
  have w1:IntKind.i64.wrap ((k:Int)+1)=((k+1:Nat):Int):=GA _ (by omega) (by omega)
  obtain⟨_,a2,⟨c1,c2,t,ts,rfl⟩,V⟩:=(zaA (L:=L) (a:=b) (OH hp h2 (by omega))).set (h:=h) hid
  have F:=fun h K=>z3c (h:=h) (K:=K) t (fun s hs=>by have:=ts.2 s hs;omega) (by have:=ts.1;omega)
  by_cases hf:gI t=0
  ·have T:=zg5 hf
   have g0:=zaG T.n0
   by_cases hl:(t.headD []).length<20
   ·have hl':((t.headD []).length:Int)<20:=by omega
    simp only[go_sem,hid,hk,↓V,V,↓F,F,hf,g0,hl'];exact⟨a2,⟨by omega,by omega,t,ts,hf,hl,rfl⟩,rfl⟩
   ·have hl':¬((t.headD []).length:Int)<20:=by omega
    simp only[go_sem,hid,hk,↓V,V,↓F,F,hf,g0,hl',w1];exact⟨(k+1,a2),rfl,⟨by dsimp only;omega,by dsimp only;omega,by dsimp only;omega⟩,by dsimp only;omega⟩
  ·simp only[go_sem,hid,hk,↓V,V,↓F,F,hf,w1]
   exact⟨(k+1,a2),rfl,⟨by dsimp only;omega,by dsimp only;omega,by dsimp only;omega⟩,by dsimp only;omega⟩
 ·have hk:¬(k:Int)<6:=by omega
  simp only[go_sem,hid,hk];exact⟨b,⟨by omega,by omega,[[48,49],[49,48]],⟨by decide,by decide⟩,by decide,by decide,rfl⟩,rfl⟩
end Go.Am
end
section
/- The reference: what is expected,the part of a command. -/
open Go
set_option linter.all false
namespace Go.Am
variable {h:aA} {K:kA}
theorem z25 (c:UInt8):∀n,oD [c] n=List.replicate n c
 | 0=>rfl
 | n+1=>by rw[oD,z25 c n];rfl
theorem nX (n:Int)(h0:0≤n)(h1:n≤1000000):eA X iF [AS [48],AI n] h K=K (AS (zs n.toNat)) h []:=by
 rw[oX [48] n h0 (by simp;omega) h1,z25];rfl
abbrev ACs (l:List Cmd):AV:=.p (.sl (some 6) (l.map jE))
structure SetOk (pre:List Cmd):Prop where
 s1:dC (DA pre 1).s=true
 s2:dC (DA pre 2).s=true
 b1:∀k,3≤k→k≤6→zA (DA pre k).b=true∧(DA pre k).b.length≤2000
attribute [-go_sem] PA
variable {Kx:Ex→St→Prop}
end Go.Am
end
section
/- A new chain: the program. -/
open Go
set_option linter.all false
set_option maxRecDepth 100000
namespace Go.Am
variable {h:aA} {K:kA}
attribute [-go_sem] PA CB NB
structure PortS where
 d:TDev
 p:YB
 mi:SM
 mo:SM
def dvH (b:Nat):List PortS→List Obj
 | []=>[]
 | q::r=>.box (ZB q.d)::EA PV.str YA q.mi::EA PV.str YA q.mo :: .box (IB q.d q.p (b+1) (b+2))::dvH (b+4) r
theorem DE:∀ (l:List PortS) (b:Nat),(dvH b l).length=4*l.length
 | [],_=>rfl
 | q::r,b=>by simp only[dvH,List.length_cons,DE r];omega
theorem JZ (q:PortS):∀(l:List PortS) (b:Nat),dvH b (l++[q])=dvH b l++[.box (ZB q.d),EA PV.str YA q.mi,EA PV.str YA q.mo,.box (IB q.d q.p (b+4*l.length+1) (b+4*l.length+2))]
 | [],b=>rfl
 | a::r,b=>by
  have e:b+4+4*r.length=b+4*(a::r).length:=by simp only[List.length_cons];omega
  simp only[List.cons_append,dvH,JZ q r (b+4),e]
theorem FZ {q:PortS}:∀{l:List PortS} {b i:Nat},l[i]?=some q→(dvH b l)[4*i+3]?=some (.box (IB q.d q.p (b+4*i+1) (b+4*i+2)))
 | [],b,i,h=>by simp at h
 | a::r,b,0,h=>by simp at h;subst h;rfl
 | a::r,b,i+1,h=>by
  have e1:4*(i+1)+3=(4*i+3)+4:=by omega
  have e2:b+4*(i+1)=b+4+4*i:=by omega
  rw[e1,e2];exact FZ (l:=r) (b:=b+4) (i:=i) (by simpa using h)
theorem DZ {q:PortS}:∀{l:List PortS} {b i:Nat},l[i]?=some q→(dvH b l)[4*i+1]?=some (EA PV.str YA q.mi)
 | [],b,i,h=>by simp at h
 | a::r,b,0,h=>by simp at h;subst h;rfl
 | a::r,b,i+1,h=>by
  have e1:4*(i+1)+1=(4*i+1)+4:=by omega
  rw[e1];exact DZ (l:=r) (b:=b+4) (i:=i) (by simpa using h)
theorem EZ {q:PortS}:∀{l:List PortS} {b i:Nat},l[i]?=some q→(dvH b l)[4*i+2]?=some (EA PV.str YA q.mo)
 | [],b,i,h=>by simp at h
 | a::r,b,0,h=>by simp at h;subst h;rfl
 | a::r,b,i+1,h=>by
  have e1:4*(i+1)+2=(4*i+2)+4:=by omega
  rw[e1];exact EZ (l:=r) (b:=b+4) (i:=i) (by simpa using h)
theorem IZ {q:PortS}{p:YB}:∀{l:List PortS} {b i:Nat},l[i]?=some q→(dvH b l).set (4*i+3) (.box (IB q.d p (b+4*i+1) (b+4*i+2)))=dvH b (l.set i { q with p:=p })
 | [],b,i,h=>by simp at h
 | a::r,b,0,h=>by simp at h;subst h;rfl
 | a::r,b,i+1,h=>by
  have e1:4*(i+1)+3=(4*i+3)+4:=by omega
  have e2:b+4*(i+1)=b+4+4*i:=by omega
  rw[e1,e2];have:=IZ (p:=p) (l:=r) (b:=b+4) (i:=i) (by simpa using h)
  simp only[dvH,List.set_cons_succ,this]
theorem GZ {q:PortS}{m:SM}:∀{l:List PortS} {b i:Nat},l[i]?=some q→(dvH b l).set (4*i+2) (EA PV.str YA m)=dvH b (l.set i { q with mo:=m })
 | [],b,i,h=>by simp at h
 | a::r,b,0,h=>by simp at h;subst h;rfl
 | a::r,b,i+1,h=>by
  have e1:4*(i+1)+2=(4*i+2)+4:=by omega
  rw[e1];have:=GZ (m:=m) (l:=r) (b:=b+4) (i:=i) (by simpa using h)
  simp only[dvH,List.set_cons_succ,this]
def GC (b n:Nat):List AV:=(List.range n).map fun i=>.ref (b+4*i+3) 0
theorem z2x {b n:Nat}:(GC b n).length=n:=by simp [GC]
theorem zeK {b n:Nat}:GC b (n+1)=GC b n++[.ref (b+4*n+3) 0]:=by simp [GC,List.range_succ]
theorem zeJ {b n i:Nat}(hi:i<n):(GC b n)[i]?=some (.ref (b+4*i+3) 0):=by simp [GC,hi]
def CH (h:aA)(st:Int)(l:List PortS)(t:aA):aA:=h++(.arow none (GC (h.length+2) l.length) :: .box [AI st,.bt 3 0 h.length l.length]::(dvH (h.length+2) l++t))
def EC (d:TDev):List TReg→SM→SM
 | [],m=>m
 | r::rs,m=>EC d rs (lB r.name (zs r.long.toNat) m)
theorem fP {k j:List UInt8}{v:List UInt8}:∀(m:SM),TA j (lB k v m)=if j=k then some v else TA j m
 | []=>by
  unfold lB TA;by_cases h:j=k
  ·simp [h]
  ·simp [h,TA]
 | e::r=>by
  unfold lB;by_cases h1:k=e.1
  ·rw[if_pos h1]
   unfold TA;by_cases h2:j=k
   ·simp [h2]
   ·have:¬j=e.1:=fun q=>h2 (by rw[q,h1])
    simp [h2,this]
  ·rw[if_neg h1]
   unfold TA;by_cases h2:j=e.1
   ·have:¬j=k:=fun q=>h1 (by rw[←q,h2])
    simp [h2,this];intro q;exact absurd q.symm h1
   ·rw[if_neg h2,if_neg h2]
    exact fP r
theorem z14 (d:TDev):∀(rs:List TReg) (m:SM) (k:List UInt8),(∀r∈rs,r.name≠k)→TA k (EC d rs m)=TA k m
 | [],m,k,_=>rfl
 | r::rs,m,k,h=>by
  unfold EC;rw[z14 d rs _ k fun x hx=>h x (List.mem_cons_of_mem _ hx),fP,if_neg fun e=>h r List.mem_cons_self e.symm]
theorem z15 (d:TDev):∀(rs:List TReg) (m:SM),(rs.map TReg.name).Nodup→∀r∈rs,TA r.name (EC d rs m)=some (zs r.long.toNat)
 | [],m,_,r,hr=>by cases hr
 | a::rs,m,h,r,hr=>by
  rw[List.map_cons,List.nodup_cons]at h;unfold EC;rcases List.mem_cons.1 hr with e|e
  ·subst e
   rw[z14 d rs _ r.name fun x hx e=>h.1 (e ▸ List.mem_map_of_mem hx),fP,if_pos rfl]
  ·exact z15 d rs _ h.2 r e
def nE (d:TDev):PortS:=⟨d,([],[48]),EC d d.regs [],EC d d.regs []⟩
def HF (h:aA):Nat→Esc
 | 0=>[]
 | n+1=>(h.length,h.length+(2+4*(n+1)))::HF h n
end Go.Am
end
section
/- What a scope leaves behind when rows made in it are named by one map. -/
open Go
set_option linter.all false
namespace Go.Am
theorem LY (mid:Nat):∀(X:Esc) (m:Nat),(∀y∈X,y.1=mid)→mid<m→m≤VC X m∧(∀y∈X,y.2≤VC X m)∧∀B,m≤B→(∀y∈X,y.2≤B)→VC X m≤B
 | [],m,_,_=>⟨Nat.le_refl _,fun _ h=>(by cases h),fun B h _=>h⟩
 | y::r,m,hX,hm=>by
  have e:VC (y::r) m=VC r (max m y.2):=by
   unfold VC;rw[List.foldl_cons,if_pos (by rw[hX y (by simp)];exact hm)]
  obtain⟨h1,h2,h3⟩:=LY mid r (max m y.2) (fun z hz=>hX z (by simp [hz])) (by omega)
  rw[e];refine⟨by omega,fun z hz=>?_,fun B hB hy=>h3 B (by have:=hy y (by simp);omega) fun z hz=>hy z (by simp [hz])⟩
  rcases List.mem_cons.1 hz with e|hz
  ·rw[e];omega
  ·exact h2 z hz
theorem dZ (mid:Nat):∀(k:Nat) (X:Esc) (m:Nat),(∀y∈X,y.1=mid)→mid<m→m≤sB k X m∧(k≠0→∀y∈X,y.2≤sB k X m)∧∀B,m≤B→(∀y∈X,y.2≤B)→sB k X m≤B
 | 0,X,m,_,_=>⟨Nat.le_refl _,fun h=>absurd rfl h,fun B h _=>h⟩
 | k+1,X,m,hX,hm=>by
  obtain⟨b1,b2,b3⟩:=LY mid X m hX hm;obtain⟨c1,_,c3⟩:=dZ mid k X (VC X m) hX (by omega)
  show m≤sB k X (VC X m)∧(_→∀y∈X,y.2≤sB k X (VC X m))∧∀B,m≤B→(∀y∈X,y.2≤B)→sB k X (VC X m)≤B
  exact⟨by omega,fun _ y hy=>by have:=b2 y hy;omega,fun B hB hy=>c3 B (b3 B hB hy) hy⟩
theorem z7z {X:Esc}{mid b L:Nat}(hX:∀ y∈X,y.1=mid∧y.2≤L)(hm:mid<b)(hb:b≤L):∃n,sB X.length X b=n∧b≤n∧n≤L∧(∀y∈X,y.2≤n)∧GB X n=true∧X.filter (fun y=>decide (y.1<n))=X:=by
 obtain⟨c1,c2,c3⟩:=dZ mid X.length X b (fun y hy=>(hX y hy).1) hm
 have c3':=c3 L hb fun y hy=>(hX y hy).2
 have c2':∀y∈X,y.2≤sB X.length X b:=by
  cases X with
  | nil=>intro y hy;cases hy
  | cons z r=>exact c2 (by simp)
 refine⟨_,rfl,c1,c3',c2',?_,?_⟩
 ·unfold GB
  rw[List.all_eq_true];intro y hy;have:=c2' y hy;simp [this]
 ·rw[List.filter_eq_self]
  intro y hy;have:=(hX y hy).1;simp only[decide_eq_true_eq];omega
end Go.Am
end
section
/- A new chain: the program,walked. -/
open Go
set_option linter.all false
set_option maxRecDepth 100000
namespace Go.Am
variable {h:aA} {K:kA}
attribute [-go_sem] PA CB NB
theorem XG {st:Int}{l:List PortS}{t:aA}:(CH h st l t).length=h.length+(2+4*l.length)+t.length:=by
 unfold CH;simp only[List.length_append,List.length_cons,DE];omega
theorem DR {st:Int}{l:List PortS}{t u:aA}:CH h st l t++u=CH h st l (t++u):=by unfold CH;simp
theorem CH_0 {st:Int}{l:List PortS}{t:aA}:(CH h st l t)[h.length]?=some (.arow none (GC (h.length+2) l.length)):=by unfold CH;rw[wY];rfl
theorem CH_1 {st:Int}{l:List PortS}{t:aA}:(CH h st l t)[h.length+1]?=some (.box [AI st,.bt 3 0 h.length l.length]):=by unfold CH;rw[tD];rfl
theorem CH_t {st:Int}{l:List PortS}{t:aA}{n:Nat}:(CH h st l t)[h.length+(2+4*l.length)+n]?=t[n]?:=by
 unfold CH;have e:h.length+(2+4*l.length)+n=h.length+(2+(4*l.length+n)):=by omega
 rw[e,tD];have e2:2+(4*l.length+n)=(4*l.length+n)+1+1:=by omega
 rw[e2,List.getElem?_cons_succ,List.getElem?_cons_succ];have:=tD (dvH (h.length+2) l) t n;rw[DE]at this;exact this
theorem ER {st:Int}{l:List PortS}{t:aA}{n:Nat}{o:Obj}:(CH h st l t).set (h.length+(2+4*l.length)+n) o=CH h st l (t.set n o):=by
 unfold CH;have e:h.length+(2+4*l.length)+n=h.length+(2+(4*l.length+n)):=by omega
 rw[e,yF];have e2:2+(4*l.length+n)=(4*l.length+n)+1+1:=by omega
 rw[e2,List.set_cons_succ,List.set_cons_succ];have:=yF (dvH (h.length+2) l) t n o;rw[DE]at this;rw[this]
theorem UX {st:Int}{l:List PortS}{t:aA}{n:Nat}:(CH h st l t).take (h.length+(2+4*l.length)+n)=CH h st l (t.take n):=by
 unfold CH;have e:h.length+(2+4*l.length)+n=h.length+(2+(4*l.length+n)):=by omega
 rw[e,bH];have e2:2+(4*l.length+n)=(4*l.length+n)+1+1:=by omega
 rw[e2,List.take_succ_cons,List.take_succ_cons];have:=bH (dvH (h.length+2) l) t n;rw[DE]at this;rw[this]
theorem zgL {k v:List UInt8}:∀(m:SM),(TA k (lB k v m)).getD []=v:=fun m=>by rw[fP,if_pos rfl];rfl
attribute [-go_sem] nL oG
theorem zcu {g:aA}{d:TDev}{pid mi mo:Nat}(D:DevOk d)(k:Nat)(m:SM)(hk:k<d.regs.length)
 (h1:g[pid]?=some (.box (IB d ([],[48]) mi mo))) (h2:g[mi]?=some (EA PV.str YA m)) (h3:g[mo]?=some (EA PV.str YA m)) (hne:mi≠mo) (hn1:pid≠mi) (hn2:pid≠mo) {v5 v18 v19 v20:AV} {x:Esc} {Kx:Ex→St→Prop} :
 (oG (eA X) X.gl [(5,v5),(8,.ref pid 0),(18,v18),(19,v19),(20,v20),(38,.p (.sl (some 2) (d.regs.map FA))),(39,AI d.regs.length),(40,AI k)] g x Kx).1 =
  Kx .normal ⟨[(5,v5),(8,.ref pid 0),(18,v18),(19,v19),(20,v20),(38,.p (.sl (some 2) (d.regs.map FA))),(39,AI d.regs.length),(40,AI ((k+1:Nat):Int))],((g.set mi (EA PV.str YA (lB d.regs[k].name (zs d.regs[k].long.toNat) m))).set mo (EA PV.str YA (lB d.regs[k].name (zs d.regs[k].long.toNat) m)))++[.box [AS d.regs[k].name,AI d.regs[k].long]],x⟩:=by
 have hg:=sC FA hk
 have w2:IntKind.i64.wrap ((k:Int)+1)=((k+1:Nat):Int):=GA _ (by have:=D.rn;omega) (by have:=D.rn;omega)
 have hrl:=D.rl _ (List.getElem_mem hk)
 have cx:bB (some 2) 0 (FA d.regs[k])=some (FA d.regs[k]):=rfl
 have fp:∀y:TReg,FA y = .agg [.str y.name,eI y.long]:=fun _=>rfl
 have hlt:(k:Int)<(d.regs.length:Int):=by omega
 generalize d.regs[k]=r at *;rw[fp]at hg cx;have lp:pid<g.length:=by rcases Nat.lt_or_ge pid g.length with q|q;exact q;rw[List.getElem?_eq_none q]at h1;cases h1
 have li:mi<g.length:=by rcases Nat.lt_or_ge mi g.length with q|q;exact q;rw[List.getElem?_eq_none q]at h2;cases h2
 have lo:mo<g.length:=by rcases Nat.lt_or_ge mo g.length with q|q;exact q;rw[List.getElem?_eq_none q]at h3;cases h3
 have a1:∀l:aA,(g++l)[pid]?=some (.box (IB d ([],[48]) mi mo)):=fun l=>by rw[List.getElem?_append_left lp];exact h1
 have rz:=fun h K=>nX (h:=h) (K:=K) r.long (by omega) (by omega)
 generalize hz:zs r.long.toNat=z at *;have hm1:∀l:aA,NB (none,[2]) (.mp mi) (AS r.name) (AS z) (g++l)=some (.und,(g.set mi (EA PV.str YA (lB r.name z m)))++l,[]):=fun l=>by
  rw[EX (by rw[List.getElem?_append_left li];exact h2),List.set_append_left _ _ li]
 have b1:∀l:aA,(g.set mi (EA PV.str YA (lB r.name z m))++l)[pid]?=some (.box (IB d ([],[48]) mi mo)):=fun l=>by
  rw[List.getElem?_append_left (by simpa using lp),List.getElem?_set_ne (Ne.symm hn1)];exact h1
 have lk:∀l:aA,CB (none,[2]) false (.p (.str [])) (.mp mi) (AS r.name) (g.set mi (EA PV.str YA (lB r.name z m))++l)=some (AS z):=fun l=>by
  rw[z1G (m:=lB r.name z m) (by rw[List.getElem?_append_left (by simpa using li),List.getElem?_set_self li]),zgL]
 have hm2:∀l:aA,NB (none,[2]) (.mp mo) (AS r.name) (AS z) (g.set mi (EA PV.str YA (lB r.name z m))++l)=some (.und,((g.set mi (EA PV.str YA (lB r.name z m))).set mo (EA PV.str YA (lB r.name z m)))++l,[]):=fun l=>by
  rw[EX (m:=m) (by rw[List.getElem?_append_left (by simpa using lo),List.getElem?_set_ne hne];exact h3),List.set_append_left _ _ (by simpa using lo)]
 have p7:∀y:YB,ldB none 7 (some (.box (IB d y mi mo)))=some (.mp mi):=fun _=>rfl
 have p8:∀y:YB,ldB none 8 (some (.box (IB d y mi mo)))=some (.mp mo):=fun _=>rfl
 have i1:mi≠g.length:=by omega
 have i2:mo≠g.length:=by omega
 simp only[oG,go_sem,hlt,hg,cx,fp,w2,a1,p7,p8,↓rz,rz,hm1,b1,lk,hm2,splice]
end Go.Am
end
section
/- A new chain: the program,walked tov its end. -/
open Go
set_option linter.all false
set_option maxRecDepth 100000
namespace Go.Am
variable {h:aA} {K:kA}
attribute [-go_sem] PA CB NB
attribute [-go_sem] nL oG zU TK AU UK QO GI BU VK
def iB (ds:List TDev)(k:Nat):List PortS:=(ds.take k).map nE
theorem z1T {ds:List TDev}{k:Nat}(hk:k≤ds.length):(iB ds k).length=k:=by simp [iB];omega
theorem zcq {ds:List TDev}{k:Nat}(hk:k<ds.length):iB ds (k+1)=iB ds k++[nE ds[k]]:=by
 unfold iB;rw[List.take_succ_eq_append_getElem hk,List.map_append];rfl
theorem z4r {st:Int}{l:List PortS}{q:PortS}:CH h st (l++[q]) []=h++(.arow none (GC (h.length+2) (l.length+1)) :: .box [AI st,.bt 3 0 h.length (l.length+1)]::(dvH (h.length+2) l++[.box (ZB q.d),EA PV.str YA q.mi,EA PV.str YA q.mo,.box (IB q.d q.p (h.length+2+4*l.length+1) (h.length+2+4*l.length+2))])):=by
 unfold CH;rw[JZ,List.length_append];simp
theorem z16 (d:TDev)(r:TReg):∀(rs:List TReg) (m:SM),EC d (rs++[r]) m=lB r.name (zs r.long.toNat) (EC d rs m)
 | [],m=>rfl
 | a::rs,m=>z16 d r rs _
theorem zct {st:Int}{l:List PortS}{d:TDev}(D:DevOk d){a b c:PV}{x:Esc}{Kx:Ex→St→Prop}
 (hK:Kx .normal ⟨[(5,.ref (h.length+1) 0),(8,.ref (h.length+(2+4*l.length)+3) 0),(18,.p a),(19,.p b),(20,.p c),(38,.p (.sl (some 2) (d.regs.map FA))),(39,AI d.regs.length),(40,AI d.regs.length),(41,AB false)],CH h st l [.box (ZB d),EA PV.str YA (EC d d.regs []),EA PV.str YA (EC d d.regs []),.box (IB d ([],[48]) (h.length+(2+4*l.length)+1) (h.length+(2+4*l.length)+2))],x⟩) :
 RA (eA X) X.gl (.scope GH) (cD 2 Kx) [(5,.ref (h.length+1) 0),(8,.ref (h.length+(2+4*l.length)+3) 0),(18,.p a),(19,.p b),(20,.p c),(38,.p (.sl (some 2) (d.regs.map FA))),(39,AI d.regs.length),(40,AI 0)] (CH h st l [.box (ZB d),EA PV.str YA [],EA PV.str YA [],.box (IB d ([],[48]) (h.length+(2+4*l.length)+1) (h.length+(2+4*l.length)+2))]) x:=by
 obtain⟨P,hP⟩:∃P,P=h.length+(2+4*l.length):=⟨_,rfl⟩;rw[←hP]at hK ⊢;have gl:∀t:aA,(CH h st l t).length=P+t.length:=fun t=>by rw[XG,hP]
 have gg:∀(t:aA) (n:Nat),(CH h st l t)[P+n]?=t[n]?:=fun t n=>by rw[hP];exact CH_t
 have gs:∀(t:aA) (n:Nat) (o:Obj),(CH h st l t).set (P+n) o=CH h st l (t.set n o):=fun t n o=>by rw[hP];exact ER
 have gk:∀(t:aA) (n:Nat),(CH h st l t).take (P+n)=CH h st l (t.take n):=fun t n=>by rw[hP];exact UX
 refine nB (fun j:Nat=>⟨[(5,.ref (h.length+1) 0),(8,.ref (P+3) 0),(18,.p a),(19,.p b),(20,.p c),(38,.p (.sl (some 2) (d.regs.map FA))),(39,AI d.regs.length),(40,AI j)],
  CH h st l [.box (ZB d),EA PV.str YA (EC d (d.regs.take j) []),EA PV.str YA (EC d (d.regs.take j) []),.box (IB d ([],[48]) (P+1) (P+2))],x⟩) (fun j=>j≤d.regs.length) (fun j=>d.regs.length-j) 0 rfl (by omega) ?_
 intro j hj;have hP1:h.length+1≤P+4:=by omega
 have hP2:h.length≤P+2:=by omega
 rw[jI];rcases Nat.lt_or_ge j d.regs.length with hlt|hge
 ·rw[nL,zcu (pid:=P+3) (mi:=P+1) (mo:=P+2) D j (EC d (d.regs.take j) []) hlt (by rw[gg];rfl) (by rw[gg];rfl) (by rw[gg];rfl) (by omega) (by omega) (by omega)]
  have em:EC d (d.regs.take (j+1)) []=lB d.regs[j].name (zs d.regs[j].long.toNat) (EC d (d.regs.take j) []):=by
   rw[List.take_succ_eq_append_getElem hlt,z16]
  rw[←em,gs,gs,DR];simp only[go_sem,gl,gk,hP1,hP2,List.length_cons,List.length_nil];exact⟨j+1,rfl,by omega,by omega⟩
 ·have ej:j=d.regs.length:=by omega
  subst ej;rw[List.take_length];rw[nL];simp only[oG,go_sem,Nat.lt_irrefl,gl,gk,hP1,hP2,List.length_cons,List.length_nil];exact hK
def CR (h:aA)(a b:Obj)(l:List PortS)(t:aA):aA:=h++(a::b::(dvH (h.length+2) l++t))
theorem CH_R {st:Int}{l:List PortS}{t:aA}:CH h st l t=CR h (.arow none (GC (h.length+2) l.length)) (.box [AI st,.bt 3 0 h.length l.length]) l t:=rfl
theorem CR_1 {a b:Obj}{l:List PortS}{t:aA}:(CR h a b l t)[h.length+1]?=some b:=by unfold CR;rw[tD];rfl
theorem CR_s0 {a b o:Obj}{l:List PortS}{t:aA}:(CR h a b l t).set h.length o=CR h o b l t:=by unfold CR;rw[xY];rfl
theorem VX {a b o:Obj}{l:List PortS}{t:aA}:(CR h a b l t).set (h.length+1) o=CR h a o l t:=by unfold CR;rw[yF];rfl
theorem z4t {a b:Obj}{l:List PortS}{t:aA}{n:Nat}:(CR h a b l t).take (h.length+(2+4*l.length)+n)=CR h a b l (t.take n):=by
 unfold CR;have e:h.length+(2+4*l.length)+n=h.length+(2+(4*l.length+n)):=by omega
 rw[e,bH];have e2:2+(4*l.length+n)=(4*l.length+n)+1+1:=by omega
 rw[e2,List.take_succ_cons,List.take_succ_cons];have:=bH (dvH (h.length+2) l) t n;rw[DE]at this;rw[this]
theorem z4s {l:List PortS}{d:TDev}{P:Nat}(hP:P=h.length+(2+4*l.length)):CR h (.arow none (GC (h.length+2) l.length++[.ref (P+3) 0])) (.box [AI 0,.bt 3 0 h.length (l.length+1)]) l [.box (ZB d),EA PV.str YA (EC d d.regs []),EA PV.str YA (EC d d.regs []),.box (IB d ([],[48]) (P+1) (P+2))]=CH h 0 (l++[nE d]) []:=by
 subst hP;have e1:h.length+(2+4*l.length)+3=h.length+2+4*l.length+3:=by omega
 have e2:h.length+(2+4*l.length)+1=h.length+2+4*l.length+1:=by omega
 have e3:h.length+(2+4*l.length)+2=h.length+2+4*l.length+2:=by omega
 rw[z4r,e1,e2,e3,zeK];rfl
theorem zeZ {L:Nat}{P:kA}{x:Esc}(hx:∀ y∈x,y.1=h.length∧y.2≤L)(hL:(h.length,L)∈x){H:aA}(hH:H.length=L)(h2:h.length+2≤L)(k:P (.tup [.ref (h.length+1) 0,AI 0]) H x):DD false h.length P (some [.ref (h.length+1) 0,AI 0]) H x:=by
 have ht:(AV.tup [.ref (h.length+1) 0,AI 0]).top=h.length+2:=by simp [AV.top,AV.tops]
 have hmx:max h.length (h.length+2)=h.length+2:=by omega
 subst hH;obtain⟨n,c0,c1,c2,c3,c4,c5⟩:=z7z (b:=h.length+2) (mid:=h.length) (L:=H.length) hx (by omega) h2
 have en:n=H.length:=by have:=c3 _ hL;dsimp only at this;omega
 subst en;have e:∀m,QA m H (UA [.ref (h.length+1) 0,AI 0])=some (.tup [.ref (h.length+1) 0,AI 0]):=fun m=>by
  simp only[go_sem]
 unfold DD;dsimp only;rw[e];dsimp only;rw[ht,hmx,c0,c4,if_pos rfl,e];dsimp only;rw[c5,ht,List.take_length];exact⟨c1,k⟩
theorem IU:∀ {n:Nat} {y:Nat × Nat},y∈HF h n→y.1=h.length∧y.2≤h.length+(2+4*n)
 | 0,y,hy=>by cases hy
 | n+1,y,hy=>by
  rcases List.mem_cons.1 hy with e|e
  ·rw[e];exact⟨rfl,Nat.le_refl _⟩
  ·have:=IU e;omega
set_option maxHeartbeats 2000000 in
theorem s_New (ds:List TDev)(hd:∀ d∈ds,DevOk d)(h0:ds≠[])(h20:ds.length≤20)(hck:∀ h K,eA X AG [qD ds] h K=K (AI 0) h []) :
 eA X NL [qD ds] h K=K (.tup [.ref (h.length+1) 0,AI 0]) (CH h 0 (iB ds ds.length) []) (HF h ds.length):=by
 refine CA ?_;rw[z6K rfl];simp only[nO,go_sem,↓hck,hck,List.length_map];refine nB (fun k:Nat=>⟨[(5,.ref (h.length+1) 0),(18,qD ds),(19,AI ds.length),(20,AI k)],CH h 0 (iB ds k) [],HF h k⟩) (fun k=>k≤ds.length) (fun k=>ds.length-k) 0 ?_ (by omega) ?_
 ·simp [CH,iB,dvH,GC,HF]
 intro k hk;have lk:=z1T hk
 have gl:∀t:aA,(CH h 0 (iB ds k) t).length=h.length+(2+4*k)+t.length:=fun t=>by rw[XG,lk]
 rw[jI];rcases Nat.lt_or_ge k ds.length with hlt|hge
 ·have D:=hd _ (List.getElem_mem hlt)
  have sn:=zcq hlt
  have hg:=sC dB hlt
  have w2:IntKind.i64.wrap ((k:Int)+1)=((k+1:Nat):Int):=GA _ (by omega) (by omega)
  have cx:bB (some 5) 0 (dB ds[k])=some (dB ds[k]):=rfl
  generalize ds[k]=d at *;have fp:∀y:TDev,dB y = .agg [.str y.name,eI y.long,eI y.id,.sl (some 2) (y.regs.map FA),.sl (some 2) (y.ins.map vB)]:=fun _=>rfl
  rw[fp]at hg cx;have c1:=fun h K=>zfn (h:=h) (K:=K) d.regs (by have:=D.rn;omega)
  have c2:=fun h K=>zfm (h:=h) (K:=K) d.ins (by have:=D.im;omega)
  have nin:=@zct h 0 (iB ds k) d D
  have put:=@z4s h (iB ds k) d
  have ap:∀t u:aA,CH h 0 (iB ds k) t++u=CH h 0 (iB ds k) (t++u):=fun t u=>DR
  have gg0:∀(t:aA) (n:Nat),(CH h 0 (iB ds k) t)[h.length+(2+4*(iB ds k).length)+n]?=t[n]?:=fun t n=>CH_t
  have gs0:∀(t:aA) (n:Nat) (o:Obj),(CH h 0 (iB ds k) t).set (h.length+(2+4*(iB ds k).length)+n) o=CH h 0 (iB ds k) (t.set n o):=fun t n o=>ER
  rw[lk]at nin put gg0 gs0;generalize hP:h.length+(2+4*k)=P at *;have gg1:∀(t:aA),(CH h 0 (iB ds k) t)[P]?=t[0]?:=fun t=>gg0 t 0
  have gs1:∀(t:aA) (o:Obj),(CH h 0 (iB ds k) t).set P o=CH h 0 (iB ds k) (t.set 0 o):=fun t o=>gs0 t 0 o
  rw[QO];simp only[GI,go_sem,hlt,hg,cx,fp,gl,ap,gg0,gs0,gg1,gs1,↓c1,c1,↓c2,c2,splice,List.length_nil,List.length_cons,List.nil_append,List.cons_append];refine nin ?_;have g0:∀t:aA,(CH h 0 (iB ds k) t)[h.length]?=some (.arow none (GC (h.length+2) k)):=fun t=>by rw[CH_0,lk]
  have g1:∀t:aA,(CH h 0 (iB ds k) t)[h.length+1]?=some (.box [AI 0,.bt 3 0 h.length k]):=fun t=>by rw[CH_1,lk]
  have rl:(GC (h.length+2) k).length=k:=z2x
  have ms:k+1≤LA:=by unfold LA;omega
  have f1:h.length<P+3+1:=by omega
  have s0:∀(t:aA) (o:Obj),(CH h 0 (iB ds k) t).set h.length o=CR h o (.box [AI 0,.bt 3 0 h.length k]) (iB ds k) t:=fun t o=>by rw[CH_R,CR_s0,lk]
  have r1:∀(t:aA) (a:Obj),(CR h a (.box [AI 0,.bt 3 0 h.length k]) (iB ds k) t)[h.length+1]?=some (.box [AI 0,.bt 3 0 h.length k]):=fun t a=>CR_1
  have s1:∀(t:aA) (a b o:Obj),(CR h a b (iB ds k) t).set (h.length+1) o=CR h a o (iB ds k) t:=fun t a b o=>VX
  have tk:∀(a b:Obj) (t:aA) (n:Nat),(CR h a b (iB ds k) t).take (P+n)=CR h a b (iB ds k) (t.take n):=fun a b t n=>by
   have:=@z4t h a b (iB ds k) t n;rw[lk,hP]at this;exact this
  simp only[go_sem,zU];simp only[TK,go_sem,g0,g1,gl,ap,gg0,rl,ms,f1,s0,r1,s1,List.length_nil,List.length_cons,List.nil_append,List.cons_append];rw[if_pos (by omega)]
  have es:gF (h.length+1) [AI 0,.bt 3 0 h.length k] (.bt 3 0 h.length (k+1))=[]:=by
   simp [gF,vC,RF,AV.top,AV.tops]
  rw[es,List.nil_append];have tr:∀(x0:Esc) (e:List (Nat×AV)) (H:aA),aE P x0 ⟨e,H,[(h.length,P+3+1)]⟩=⟨aF (P+4) e,H.take (P+4),(h.length,P+4)::x0⟩:=fun x0 e H=>by
   rw[zgF (by omega)]
   have e1:max P (P+3+1)=P+4:=by omega
   rw[e1]
  have f2:h.length+2≤P+4:=by omega
  have f3:h.length+1+1≤P+4:=by omega
  rw[AU];simp only[UK,go_sem,w2,tr,tk,f2,f3,put rfl];refine⟨k+1,?_,by omega,by omega⟩
  rw[sn];have e4:HF h (k+1)=(h.length,P+4)::HF h k:=by
   show(h.length,h.length+(2+4*(k+1)))::HF h k=_
   rw[←hP];congr 2
  rw[e4]
 ·have ek:k=ds.length:=by omega
  subst ek;rw[QO];have hl:h.length+1+1≤(CH h 0 (iB ds ds.length) []).length:=by rw[gl];simp;omega
  simp only[GI,go_sem,Nat.lt_irrefl,hl,BU,VK];have dl:0<ds.length:=List.length_pos_iff.2 h0
  refine zeZ (L:=h.length+(2+4*ds.length)) (fun y hy=>IU hy) ?_ (by rw[gl];simp) (by omega) ⟨rfl,rfl,rfl⟩
  obtain⟨n,hn⟩:∃n,ds.length=n+1:=⟨ds.length-1,by omega⟩
  rw[hn];exact List.mem_cons_self
end Go.Am
end
section
/- What a state does tov a device: the program. -/
open Go
set_option linter.all false
set_option maxRecDepth 100000
namespace Go.Am
variable {h:aA} {K:kA}
attribute [-go_sem] PA CB NB
def actH (H:aA)(st:Nat)(d:TDev)(p:YB)(b:UInt8)(id mi mo:Nat)(m:SM):aA:=
 if st=8 then(if(PB d p.1).name≠rB∧(PB d p.1).name≠DB then H.set mo (EA PV.str YA (lB (PB d p.1).name p.2 m)) else H)
 else if st=0∨st=3∨st=4∨st=11∨st=10∨st=15 then H.set id (.box (IB d (yB st d p b).1 mi mo)) else H
theorem ZU {H:aA}{i:Nat}{o:Obj}(h1:H[i]?=some o):i<H.length:=by
 rcases Nat.lt_or_ge i H.length with q|q
 ·exact q
 ·rw[List.getElem?_eq_none q]at h1;cases h1
theorem dI {H:aA}{i:Nat}{o:Obj}:(H.set i o).take H.length=H.set i o:=List.take_of_length_le (by simp)
attribute [-go_sem] xU kE yU vD
set_option maxHeartbeats 4000000 in
theorem s_act {H:aA}{c id mi mo a n:Nat}{st:Nat}(d:TDev)(D:DevOk d)(p:YB)(P:PortOk p)(hst:st<16)(b:UInt8)(hb:tC b)
 (hc:H[c]?=some (.box [AI st,.bt 3 0 a n])) (hh:H[id]?=some (.box (IB d p mi mo))) {m m2:SM} (hm:H[mi]?=some (EA PV.str YA m)) (hI:InM d m) (ho:H[mo]?=some (EA PV.str YA m2)) :
 eA X LL [.ref c 0,.ref id 0,.p (.int .u8 b.toNat)] H K=K (.p (.int .u8 (yB st d p b).2.toNat)) (actH H st d p b id mi mo m2) []:=by
 refine CA ?_;rw[z6H rfl];have lc:=ZU hc
 have li:=ZU hh
 have lm:=ZU ho
 have hl:d.regs.length≤1000000:=by have:=D.rn;omega
 have hi:d.ins.length≤1000000:=by have:=D.im;omega
 have q1:=fun K=>z3h (h:=H) (K:=K) d p mi mo hh hl hi
 have q2:=fun K=>zft (h:=H) (K:=K) d D p mi mo hh hm hI hl hi
 have e1:=@xU
 have e2:=@yU
 have c0:ldB none 0 H[c]?=some (AI st):=by rw[hc];rfl
 have g5:ldB none 5 H[id]?=some (AS p.1):=by rw[hh];rfl
 have g6:ldB none 6 H[id]?=some (AS p.2):=by rw[hh];rfl
 have g8:ldB none 8 H[id]?=some (.mp mo):=by rw[hh];rfl
 have g1:ldB none 1 H[id]?=some (AI d.long):=by rw[hh];rfl
 have w5:∀s:List UInt8,stB none id 5 (AS s) H H[id]? (some [AS s])=some (.und,H.set id (.box (IB d (s,p.2) mi mo)),[]):=fun s=>by rw[hh];rfl
 have w6:∀s:List UInt8,stB none id 6 (AS s) H H[id]? (some [AS s])=some (.und,H.set id (.box (IB d (p.1,s) mi mo)),[]):=fun s=>by rw[hh];rfl
 have hmu:NB (none,[2]) (.mp mo) (AS (PB d p.1).name) (AS p.2) H=some (.und,H.set mo (EA PV.str YA (lB (PB d p.1).name p.2 m2)),[]):=EX ho
 have fp:∀y:TReg,FA y = .agg [.str y.name,eI y.long]:=fun _=>rfl
 rw[fp]at q1;unfold actH;have fin:∀{a b:UInt8} {A B:aA},a=b→A=B→(AV.p (.int .u8 (a.toNat:Int))=AV.p (.int .u8 (b.toNat:Int))∧A=B∧([]:Esc)=[]):=fun h1 h2=>⟨by rw[h1],h2,rfl⟩
 by_cases s0:st=0
 ·subst s0
  rw[if_neg (by decide),if_pos (by decide)]
  simp only[OD,go_sem,c0,w5,e2,vD,dI];simp [yB]
 have s0':¬(st:Int)=0:=by omega
 by_cases s3:st=3
 ·subst s3
  rw[if_neg (by decide),if_pos (by decide)]
  simp only[OD,go_sem,c0,w6,e2,vD,dI,s0',↓q2,q2];simp [yB]
 have s3':¬(st:Int)=3:=by omega
 have mS:∀n:Nat,n≤2000000→n≤xB:=fun n h=>by unfold xB;omega
 by_cases s4:st=4∨st=11
 ·rw[if_neg (by omega),if_pos (by omega)]
  have hne:=P.ne
  have hn:=P.n
  have ea:yB st d p b=((p.1,p.2.tail++[b]),p.2.headD 0):=by unfold yB;rw[if_neg s0,if_neg s3,if_pos s4]
  rw[ea];obtain⟨p1,p2⟩:=p;cases p2 with
  | nil=>exact absurd rfl hne
  | cons x r=>
   have hr:r.length+1≤xB:=mS _ (by simp at hn;omega)
   dsimp only at w6 g6;simp only[List.tail_cons,List.headD_cons];have wb:IntKind.i32.wrap (b.toNat:Int)=(b.toNat:Int):=by rcases hb with rfl|rfl <;> rfl
   have b1:(b.toNat:Int)<128:=by rcases hb with rfl|rfl <;> decide
   have b2:UInt8.ofNat b.toNat=b:=by simp
   have b0:0≤(b.toNat:Int):=by omega
   have b3:((b.toNat:Int)).toNat=b.toNat:=by omega
   have wn:win (x::r) 1 (r.length+1-1)=r:=by simp [win]
   by_cases h4:st=4
   ·subst h4
    simp only[OD,go_sem,c0,e1,kE,e2,vD,g6,w6,dI,s0',s3',wb,b1,b2,b0,b3,wn,hr]
   ·have h4':¬(st:Int)=4:=by omega
    have h11:(st:Int)=11:=by omega
    simp only[OD,go_sem,c0,e1,kE,e2,vD,g6,w6,dI,s0',s3',h4',h11,wb,b1,b2,b0,b3,wn,hr]
 have s4':¬(st:Int)=4:=by omega
 have s11':¬(st:Int)=11:=by omega
 by_cases s8:st=8
 ·subst s8
  rw[if_pos rfl];have ea:yB 8 d p b=(p,b):=rfl
  rw[ea];by_cases n1:(PB d p.1).name=rB
  ·rw[if_neg (by simp [n1])]
   unfold rB at n1;simp only[OD,go_sem,c0,e1,kE,e2,vD,s0',s3',s4',s11',↓q1,q1,n1]
  ·by_cases n2:(PB d p.1).name=DB
   ·rw[if_neg (by simp [n2])]
    unfold DB at n2;unfold rB at n1;simp only[OD,go_sem,c0,e1,kE,e2,vD,s0',s3',s4',s11',↓q1,q1,eq_false n1,eq_true n2]
   ·rw[if_pos ⟨n1,n2⟩]
    unfold DB at n2;unfold rB at n1;simp only[OD,go_sem,c0,e1,kE,e2,vD,s0',s3',s4',s11',↓q1,q1,n1,n2,g8,g6,hmu,dI]
 have s8':¬(st:Int)=8:=by omega
 rw[if_neg s8];by_cases s10:st=10
 ·subst s10
  rw[if_pos (by decide)]
  have w1:IntKind.i64.wrap (d.long-1)=d.long-1:=GA _ (by have:=D.lo;omega) (by have:=D.hi;omega)
  have rz:=fun h K=>nX (h:=h) (K:=K) (d.long-1) (by have:=D.lo;omega) (by have:=D.hi;omega)
  have ln:(zs (d.long-1).toNat).length+1≤xB:=mS _ (by have:=D.hi;simp [zs];omega)
  have ln2:1+(zs (d.long-1).toNat).length≤xB:=by omega
  have ea:yB 10 d p b=((p.1,49::zs (d.long-1).toNat),b):=rfl
  rw[ea];simp only[OD,go_sem,c0,e1,kE,e2,vD,g1,w6,dI,s0',s3',s4',s11',s8',w1,↓rz,rz,ln,ln2]
 have s10':¬(st:Int)=10:=by omega
 by_cases s15:st=15
 ·subst s15
  rw[if_pos (by decide)]
  have ea:yB 15 d p b=((p.2,p.2),b):=rfl
  rw[ea];simp only[OD,go_sem,c0,e1,kE,e2,vD,g6,w5,dI,s0',s3',s4',s11',s8',s10']
 have s15':¬(st:Int)=15:=by omega
 rw[if_neg (by omega)]
 have ea:yB st d p b=(p,b):=by unfold yB;rw[if_neg s0,if_neg s3,if_neg s4,if_neg s10,if_neg s15]
 rw[ea];simp only[OD,go_sem,c0,e1,kE,e2,vD,s0',s3',s4',s11',s8',s10',s15']
end Go.Am
end
section
/- A chain is clocked: the program. -/
open Go
set_option linter.all false
set_option maxRecDepth 100000
namespace Go.Am
variable {h:aA} {K:kA}
attribute [-go_sem] PA CB NB
def PortS.act (st:Nat)(q:PortS)(b:UInt8):PortS×UInt8:=
 (⟨q.d,(yB st q.d q.p b).1,q.mi,if st=8∧(PB q.d q.p.1).name≠rB∧(PB q.d q.p.1).name≠DB then lB (PB q.d q.p.1).name q.p.2 q.mo else q.mo⟩,(yB st q.d q.p b).2)
structure PSOk (q:PortS):Prop where
 D:DevOk q.d
 P:PortOk q.p
 I:InM q.d q.mi
theorem CH_p {st:Int}{l:List PortS}{t:aA}{i:Nat}{q:PortS}(hi:l[i]?=some q):(CH h st l t)[h.length+2+4*i+3]?=some (.box (IB q.d q.p (h.length+2+4*i+1) (h.length+2+4*i+2))):=by
 unfold CH;have lt:i<l.length:=by rcases Nat.lt_or_ge i l.length with c|c;exact c;rw[List.getElem?_eq_none c]at hi;cases hi
 have e:h.length+2+4*i+3=h.length+((4*i+3)+1+1):=by omega
 rw[e,tD,List.getElem?_cons_succ,List.getElem?_cons_succ,List.getElem?_append_left (by rw[DE];omega),FZ hi]
theorem CH_mi {st:Int}{l:List PortS}{t:aA}{i:Nat}{q:PortS}(hi:l[i]?=some q):(CH h st l t)[h.length+2+4*i+1]?=some (EA PV.str YA q.mi):=by
 unfold CH;have lt:i<l.length:=by rcases Nat.lt_or_ge i l.length with c|c;exact c;rw[List.getElem?_eq_none c]at hi;cases hi
 have e:h.length+2+4*i+1=h.length+((4*i+1)+1+1):=by omega
 rw[e,tD,List.getElem?_cons_succ,List.getElem?_cons_succ,List.getElem?_append_left (by rw[DE];omega),DZ hi]
theorem CH_mo {st:Int}{l:List PortS}{t:aA}{i:Nat}{q:PortS}(hi:l[i]?=some q):(CH h st l t)[h.length+2+4*i+2]?=some (EA PV.str YA q.mo):=by
 unfold CH;have lt:i<l.length:=by rcases Nat.lt_or_ge i l.length with c|c;exact c;rw[List.getElem?_eq_none c]at hi;cases hi
 have e:h.length+2+4*i+2=h.length+((4*i+2)+1+1):=by omega
 rw[e,tD,List.getElem?_cons_succ,List.getElem?_cons_succ,List.getElem?_append_left (by rw[DE];omega),EZ hi]
theorem CH_sp {st:Int}{l:List PortS}{t:aA}{i:Nat}{q:PortS}{p:YB}(hi:l[i]?=some q):(CH h st l t).set (h.length+2+4*i+3) (.box (IB q.d p (h.length+2+4*i+1) (h.length+2+4*i+2)))=CH h st (l.set i { q with p:=p }) t:=by
 unfold CH;have lt:i<l.length:=by rcases Nat.lt_or_ge i l.length with c|c;exact c;rw[List.getElem?_eq_none c]at hi;cases hi
 have e:h.length+2+4*i+3=h.length+((4*i+3)+1+1):=by omega
 have e2:=IZ (p:=p) (b:=h.length+2) hi
 rw[e,yF,List.set_cons_succ,List.set_cons_succ,List.set_append_left _ _ (by rw[DE];omega),e2,List.length_set]
theorem CH_so {st:Int}{l:List PortS}{t:aA}{i:Nat}{q:PortS}{m:SM}(hi:l[i]?=some q):(CH h st l t).set (h.length+2+4*i+2) (EA PV.str YA m)=CH h st (l.set i { q with mo:=m }) t:=by
 unfold CH;have lt:i<l.length:=by rcases Nat.lt_or_ge i l.length with c|c;exact c;rw[List.getElem?_eq_none c]at hi;cases hi
 have e:h.length+2+4*i+2=h.length+((4*i+2)+1+1):=by omega
 have e2:=GZ (m:=m) (b:=h.length+2) hi
 rw[e,yF,List.set_cons_succ,List.set_cons_succ,List.set_append_left _ _ (by rw[DE];omega),e2,List.length_set]
theorem z3w {α:Type}{l:List α}{i:Nat}{a:α}(h:l[i]?=some a):l.set i a=l:=by
 apply List.ext_getElem?
 intro j;rw[List.getElem?_set];by_cases e:i=j
 ·subst e
  rw[if_pos rfl];rcases Nat.lt_or_ge i l.length with c|c
  ·rw[if_pos c,h]
  ·rw[List.getElem?_eq_none c]at h;cases h
 ·rw[if_neg e]
theorem z50 {st:Nat}{l:List PortS}{t:aA}{i:Nat}{q:PortS}{b:UInt8}(hi:l[i]?=some q) :
 actH (CH h st l t) st q.d q.p b (h.length+2+4*i+3) (h.length+2+4*i+1) (h.length+2+4*i+2) q.mo=CH h st (l.set i (q.act st b).1) t:=by
 unfold actH PortS.act;by_cases h8:st=8
 ·subst h8
  rw[if_pos rfl];have e:(yB 8 q.d q.p b).1=q.p:=rfl
  rw[e];by_cases hn:(PB q.d q.p.1).name≠rB∧(PB q.d q.p.1).name≠DB
  ·rw[if_pos hn,if_pos ⟨rfl,hn⟩,CH_so hi]
  ·rw[if_neg hn,if_neg (show ¬((8:Nat)=8∧(PB q.d q.p.1).name≠rB∧(PB q.d q.p.1).name≠DB) from fun c=>hn c.2)]
   exact congrArg (fun l=>CH h _ l t) (z3w hi).symm
 ·rw[if_neg h8,if_neg (show ¬(st=8∧(PB q.d q.p.1).name≠rB∧(PB q.d q.p.1).name≠DB) from fun c=>h8 c.1)]
  by_cases hs:st=0∨st=3∨st=4∨st=11∨st=10∨st=15
  ·rw[if_pos hs,CH_sp hi]
  ·rw[if_neg hs]
   have e:(yB st q.d q.p b).1=q.p:=by
    unfold yB;rw[if_neg (by omega),if_neg (by omega),if_neg (by omega),if_neg (by omega),if_neg (by omega)]
   rw[e];exact congrArg (fun l=>CH h _ l t) (z3w hi).symm
theorem MS {st:Nat}{q:PortS}{b:UInt8}(Q:PSOk q)(hb:tC b):PSOk (q.act st b).1∧tC (q.act st b).2:=by
 obtain⟨a1,a2⟩:=z52 Q.D Q.P st hb;exact⟨⟨Q.D,a1,Q.I⟩,a2⟩
def eC (st:Nat):List PortS→UInt8→List PortS×UInt8
 | q::r,b=>let y:=q.act st b;let z:=eC st r y.2; (y.1::z.1,z.2)
 | [],b=>([],b)
theorem mY (st:Nat):∀(l:List PortS) (b:UInt8),(eC st l b).2=(ID st (l.map PortS.d) (l.map PortS.p) b).2∧(eC st l b).1.map PortS.p=(ID st (l.map PortS.d) (l.map PortS.p) b).1∧(eC st l b).1.map PortS.d=l.map PortS.d
 | [],b=>⟨rfl,rfl,rfl⟩
 | q::r,b=>by
  obtain⟨a1,a2,a3⟩:=mY st r (q.act st b).2;exact⟨a1,by simp only[eC,ID,List.map_cons,a2];rfl,by simp only[eC,List.map_cons,a3];rfl⟩
theorem oY (st:Nat):∀(l:List PortS) (b:UInt8),(∀q∈l,PSOk q)→tC b→(∀q∈(eC st l b).1,PSOk q)∧tC (eC st l b).2
 | [],b,_,hb=>⟨by simp [eC],hb⟩
 | q::r,b,hl,hb=>by
  obtain⟨a1,a2⟩:=MS (st:=st) (hl q List.mem_cons_self) hb;obtain⟨b1,b2⟩:=oY st r _ (fun x hx=>hl x (List.mem_cons_of_mem _ hx)) a2
  refine⟨fun x hx=>?_,b2⟩
  rcases List.mem_cons.1 hx with e|e
  ·rw[e];exact a1
  ·exact b1 x e
theorem nY (st:Nat):∀(l:List PortS) (b:UInt8),(eC st l b).1.length=l.length
 | [],_=>rfl
 | q::r,b=>by simp [eC,nY st r]
theorem zc2:∀ s<16,∀ t<2,nxt s t=stp s t:=by decide
theorem zfC (s t:Nat)(hs:s<16)(ht:t<2):eA X lE [AI s,AI t] h K=K (AI (stp s t)) h []:=by
 rw[z1u (Y:=X) rfl s t hs ht,zc2 s hs t ht]
def clkO (st:Nat)(b:UInt8):Int:=if st=4∨st=11 then(b.toNat:Int)-48 else -1
attribute [-go_sem] lL pH mL qH
set_option maxHeartbeats 2000000 in
theorem zfB (tl:aA)(l:List PortS)(hl:∀ q∈l,PSOk q)(h20:l.length≤1000)(st:Nat)(hst:st<16)(tms tdi:UInt8)(h1:tC tms)(h2:tC tdi) :
 eA X ML [.ref (h.length+1) 0,AI ((tms.toNat-48:Nat):Int),AI ((tdi.toNat-48:Nat):Int)] (CH h st l tl) K=K (AI (clkO st (eC st l tdi).2)) (CH h (stW st tms) (eC st l tdi).1 tl) []:=by
 refine CA ?_;rw[z6I rfl];have w1:IntKind.i64.wrap (48+((tdi.toNat-48:Nat):Int))=((tdi.toNat:Nat):Int):=by rcases h2 with rfl|rfl <;> rfl
 have w2:IntKind.u8.wrap (tdi.toNat:Int)=(tdi.toNat:Int):=by rcases h2 with rfl|rfl <;> rfl
 have c1:(CH h st l tl)[h.length+1]?=some (.box [AI st,.bt 3 0 h.length l.length]):=CH_1
 have c1':ldB none 1 (CH h st l tl)[h.length+1]?=some (.bt 3 0 h.length l.length):=by rw[c1];rfl
 simp only[lO,go_sem,w1,w2,c1'];refine nB (fun t:List PortS×List PortS×UInt8=>⟨[(0,.ref (h.length+1) 0),(1,AI ((tms.toNat-48:Nat):Int)),(7,.p (.int .u8 t.2.2.toNat)),(17,.bt 3 0 h.length l.length),(18,AI l.length),(19,AI t.1.length)],CH h st (t.1++t.2.1) tl,[]⟩)
  (fun t=>(eC st l tdi=(t.1++(eC st t.2.1 t.2.2).1,(eC st t.2.1 t.2.2).2)∧t.1.length+t.2.1.length=l.length)∧(∀q∈t.1++t.2.1,PSOk q)∧tC t.2.2) (fun t=>t.2.1.length) ([],l,tdi) rfl ⟨⟨rfl,by simp⟩,by simpa using hl,h2⟩ ?_
 rintro⟨dn,rs,b⟩ ⟨⟨i1,i2⟩,i3,i4⟩
 dsimp only at i1 i2 i3 i4 ⊢;have ll:(dn++rs).length=l.length:=by simpa using i2
 cases rs with
 | cons q rs=>
  have hq:(dn++q::rs)[dn.length]?=some q:=by simp
  have Q:=i3 q (by simp)
  have hlt:dn.length<l.length:=by simp at i2;omega
  have hlt':(dn.length:Int)<(l.length:Int):=by omega
  have hs:(dn++q::rs).set dn.length (q.act st b).1=(dn++[(q.act st b).1])++rs:=by simp
  have w3:IntKind.i64.wrap ((dn.length:Int)+1)=((dn.length+1:Nat):Int):=GA _ (by omega) (by omega)
  have ac:=fun K=>s_act (H:=CH h st (dn++q::rs) tl) (K:=K) (c:=h.length+1) (a:=h.length) (n:=(dn++q::rs).length) q.d Q.D q.p Q.P hst b i4 CH_1 (CH_p hq) (CH_mi hq) Q.I (CH_mo hq)
  rw[z50 hq,hs]at ac;have c0:(CH h st (dn++q::rs) tl)[h.length]?=some (.arow none (GC (h.length+2) l.length)):=by rw[CH_0,ll]
  have rl:(GC (h.length+2) l.length).length=l.length:=z2x
  have rg:(GC (h.length+2) l.length)[dn.length]?=some (.ref (h.length+2+4*dn.length+3) 0):=zeJ hlt
  have eo:(yB st q.d q.p b).2=(q.act st b).2:=rfl
  rw[eo]at ac;have sh1:bA none=1:=rfl
  simp only[go_sem,Nat.mul_one,hlt',hlt,c0,rl,rg,↓ac,ac,w3];refine⟨(dn++[(q.act st b).1],rs,(q.act st b).2),by simp,⟨⟨?_,?_⟩,fun y hy=>?_,(MS Q i4).2⟩,by simp⟩
  ·rw[i1];simp [eC]
  ·simp at i2 ⊢;omega
  ·simp only[List.append_assoc,List.mem_append,List.mem_cons,List.not_mem_nil,or_false]at hy
   rcases hy with e|e|e
   ·exact i3 y (by simp [e])
   ·rw[e];exact(MS Q i4).1
   ·exact i3 y (by simp [e])
 | nil=>
  have hlen:dn.length=l.length:=by simpa using i2
  rw[List.append_nil]at ll i3 ⊢;have e1:(eC st l tdi).1=dn:=by rw[i1];simp [eC]
  have e2:(eC st l tdi).2=b:=by rw[i1];rfl
  rw[e1,e2];have n1:¬(dn.length:Int)<(l.length:Int):=by omega
  have c1:(CH h st dn tl)[h.length+1]?=some (.box [AI st,.bt 3 0 h.length dn.length]):=CH_1
  have c2:ldB none 0 (CH h st dn tl)[h.length+1]?=some (AI st):=by rw[c1];rfl
  have t2:tms.toNat-48<2:=by rcases h1 with rfl|rfl <;> decide
  have nx:=fun K=>zfC (h:=CH h st dn tl) (K:=K) st (tms.toNat-48) hst t2
  have s1:∀v:Int,stB none (h.length+1) 0 (AI v) (CH h st dn tl) (CH h st dn tl)[h.length+1]? (some [AI v])=some (.und,CH h v dn tl,[]):=fun v=>by
   rw[c1];show some (AV.und,(CH h st dn tl).set (h.length+1) _,_)=_
   rw[CH_R,VX];rfl
  have tk:∀v:Int,(CH h v dn tl).take (CH h st l tl).length=CH h v dn tl:=fun v=>List.take_of_length_le (by rw[XG,XG];omega)
  have f1:h.length+1+1≤(CH h st l tl).length:=by rw[XG];omega
  have es:stW st tms=stp st (tms.toNat-48):=rfl
  have w3:IntKind.u8.wrap ((b.toNat:Int)-48)=(b.toNat:Int)-48:=by rcases i4 with rfl|rfl <;> rfl
  have w4:IntKind.i64.wrap ((b.toNat:Int)-48)=(b.toNat:Int)-48:=by rcases i4 with rfl|rfl <;> rfl
  unfold clkO;by_cases s4:st=4
  ·rw[if_pos (by omega)]
   have s4':(st:Int)=4:=by omega
   simp only[go_sem,n1,mL,qH,lL,pH,c2,w3,w4,↓nx,nx,s1,tk,es,eq_true s4']
  ·have s4':¬(st:Int)=4:=by omega
   by_cases s11:st=11
   ·have s11':(st:Int)=11:=by omega
    rw[if_pos (by omega)]
    simp only[go_sem,n1,mL,qH,lL,pH,c2,w3,w4,↓nx,nx,s1,tk,es,s4',eq_true s11']
   ·have s11':¬(st:Int)=11:=by omega
    rw[if_neg (by omega)]
    simp only[go_sem,n1,mL,qH,lL,pH,c2,w3,w4,↓nx,nx,s1,tk,es,s4',s11']
end Go.Am
end
section
/- The program: a run in the heap;a clock. -/
open Go
set_option linter.all false
namespace Go.Am
variable {h l:aA} {K:kA} {r:Run}
attribute [-go_sem] PA splice
def rc (s:Sett)(st ck ni nd:Int)(a b c d e:AV)(w:Bool):List AV:=
 [AI s.e1.k,AI s.e1.s,AI s.e1.cl,AS s.e1.b,AS s.e1.w,AS s.e1.m,AI s.e2.k,AI s.e2.s,AI s.e2.cl,AS s.e2.b,AS s.e2.w,AS s.e2.m,
  AI s.h1.k,AI s.h1.s,AI s.h1.cl,AS s.h1.b,AS s.h1.w,AS s.h1.m,AI s.t1.k,AI s.t1.s,AI s.t1.cl,AS s.t1.b,AS s.t1.w,AS s.t1.m,
  AI s.h2.k,AI s.h2.s,AI s.h2.cl,AS s.h2.b,AS s.h2.w,AS s.h2.m,AI s.t2.k,AI s.t2.s,AI s.t2.cl,AS s.t2.b,AS s.t2.w,AS s.t2.m,
  AI st,AI ck,AI ni,AI nd,a,b,c,d,e,AB w]
section
variable {s:Sett} {st ck ni nd x:Int} {a b c d e o:AV} {w:Bool}
theorem QQ:(rc s st ck ni nd a b c d e w).length=46:=(rfl)
theorem PQ:RF (rc s st ck ni nd a b c d e w)=false:=(rfl)
theorem rc_1:(rc s st ck ni nd a b c d e w)[1]?=some (AI s.e1.s):=(rfl)
theorem rc_7:(rc s st ck ni nd a b c d e w)[7]?=some (AI s.e2.s):=(rfl)
theorem KQ:(rc s st ck ni nd a b c d e w)[15]?=some (AS s.h1.b):=(rfl)
theorem LQ:(rc s st ck ni nd a b c d e w)[21]?=some (AS s.t1.b):=(rfl)
theorem MQ:(rc s st ck ni nd a b c d e w)[27]?=some (AS s.h2.b):=(rfl)
theorem NQ:(rc s st ck ni nd a b c d e w)[33]?=some (AS s.t2.b):=(rfl)
theorem aK:(rc s st ck ni nd a b c d e w)[36]?=some (AI st):=(rfl)
theorem OG:(rc s st ck ni nd a b c d e w)[37]?=some (AI ck):=(rfl)
theorem bK:(rc s st ck ni nd a b c d e w)[38]?=some (AI ni):=(rfl)
theorem cK:(rc s st ck ni nd a b c d e w)[39]?=some (AI nd):=(rfl)
theorem dK:(rc s st ck ni nd a b c d e w)[40]?=some a:=(rfl)
theorem eK:(rc s st ck ni nd a b c d e w)[41]?=some b:=(rfl)
theorem fK:(rc s st ck ni nd a b c d e w)[42]?=some c:=(rfl)
theorem iK:(rc s st ck ni nd a b c d e w)[43]?=some d:=(rfl)
theorem jK:(rc s st ck ni nd a b c d e w)[44]?=some e:=(rfl)
theorem OQ:(rc s st ck ni nd a b c d e w)[45]?=some (AB w):=(rfl)
theorem RQ:splice (rc s st ck ni nd a b c d e w) 36 [AI x]=rc s x ck ni nd a b c d e w:=(rfl)
theorem SQ:splice (rc s st ck ni nd a b c d e w) 37 [AI x]=rc s st x ni nd a b c d e w:=(rfl)
theorem TQ:splice (rc s st ck ni nd a b c d e w) 38 [AI x]=rc s st ck x nd a b c d e w:=(rfl)
theorem UQ:splice (rc s st ck ni nd a b c d e w) 39 [AI x]=rc s st ck ni x a b c d e w:=(rfl)
theorem VQ:splice (rc s st ck ni nd a b c d e w) 40 [o]=rc s st ck ni nd o b c d e w:=(rfl)
theorem WQ:splice (rc s st ck ni nd a b c d e w) 41 [o]=rc s st ck ni nd a o c d e w:=(rfl)
theorem XQ:splice (rc s st ck ni nd a b c d e w) 42 [o]=rc s st ck ni nd a b o d e w:=(rfl)
theorem YQ:splice (rc s st ck ni nd a b c d e w) 43 [o]=rc s st ck ni nd a b c o e w:=(rfl)
theorem ZQ:splice (rc s st ck ni nd a b c d e w) 44 [o]=rc s st ck ni nd a b c d o w:=(rfl)
variable {q:Cmd}
end
abbrev eN (n:Nat):PV:=eI n
def rh (h:aA)(r:Run)(l:aA):aA:=h ++ .row none (r.sts.map eN) 0 :: .row none (r.frs.map eN) 0 :: .row none (AA r.tms) 0 :: .row none (AA r.tdi) 0 :: .row none (AA r.want) 0 ::
 .box (rc r.se r.st r.ck r.ni r.nd (.own h.length r.sts.length 0 r.sts.length) (.own (h.length+1) r.frs.length 0 r.frs.length) (.own (h.length+2) r.tms.length 0 r.tms.length) (.own (h.length+3) r.tdi.length 0 r.tdi.length) (.own (h.length+4) r.want.length 0 r.want.length) r.wr)::l
structure RunOk (r:Run):Prop where
 t:r.tms.length≤r.ck
 i:r.tdi.length≤r.ck
 w:r.want.length≤r.ck
theorem UH {L:List (UInt8 × UInt8 × UInt8)}(R:RunOk r):RunOk (r.clk L):=by
 unfold Run.clk;have:=R.t;have:=R.i;have:=R.w
 split <;> (refine⟨?_,?_,?_⟩ <;> simp <;> omega)
attribute [local go_sem] QQ PQ rc_1 rc_7 KQ LQ MQ NQ aK OG bK cK dK eK fK iK jK OQ RQ SQ TQ UQ VQ WQ XQ YQ ZQ
set_option maxHeartbeats 2000000 in
theorem mR (R:RunOk r)(hck:r.ck≤1000000000)(a b c:UInt8):eA X LF [.ref (h.length+5) 0,.p (.int .u8 a.toNat),.p (.int .u8 b.toNat),.p (.int .u8 c.toNat)] (rh h r l) K=K (.tup []) (rh h (r.clk [(a,b,c)]) l) []:=by
 refine CA ?_;rw[z7h rfl];have hr:=R.t;have:=R.i;have:=R.w
 have w1:IntKind.i64.wrap ((r.ck:Int)+1)=((r.ck+1:Nat):Int):=GA _ (by omega) (by omega)
 obtain⟨se,st,ck,ni,nd,sts,frs,tms,tdi,want,wr⟩:=r;dsimp only at *;unfold rh Run.clk;have m1:tms.length+1≤LA:=by unfold LA;omega
 have m2:tdi.length+1≤LA:=by unfold LA;omega
 have m3:want.length+1≤LA:=by unfold LA;omega
 have e2:∀k n o m,k<5→vC (h.length+5) (.own (h.length+k) n o m)=[]:=fun k n o m hk=>by unfold vC;rw[AX,if_neg (by omega)]
 have e3:=fun n o m=>e2 2 n o m (by decide)
 have e4:=fun n o m=>e2 3 n o m (by decide)
 have e5:=fun n o m=>e2 4 n o m (by decide)
 cases wr with
 | false=>simp only[fL,go_sem,w1]
 | true=>
  simp only[fL,go_sem,w1,qI,m1,m2,m3,e3,e4,e5,List.take_length];simp [AA]
end Go.Am
end
section
/- The program: a walk. -/
open Go
set_option linter.all false
namespace Go.Am
variable {h l l2:aA} {K:kA} {r:Run} {n:Nat} {o:Obj}
attribute [-go_sem] PA splice
attribute [local go_sem] QQ PQ rc_1 rc_7 KQ LQ MQ NQ aK OG bK cK dK eK fK iK jK OQ RQ SQ TQ UQ VQ WQ XQ YQ ZQ
theorem PG:(rh h r l).length=h.length+(l.length+6):=by unfold rh;simp
theorem mK:rh h r l++l2=rh h r (l++l2):=by unfold rh;simp
theorem RH:(rh h r l)[h.length+(n+6)]?=l[n]?:=by unfold rh;rw[tD];rfl
theorem SH:(rh h r l).set (h.length+(n+6)) o=rh h r (l.set n o):=by unfold rh;rw[yF];rfl
theorem TH:(rh h r l).take (h.length+(n+6))=rh h r (l.take n):=by unfold rh;rw[bH];rfl
theorem nK:(rh h r l).take h.length=h:=by unfold rh;rw[GK]
theorem QH:(rh h r l)[h.length+5]?=some (.box (rc r.se r.st r.ck r.ni r.nd (.own h.length r.sts.length 0 r.sts.length) (.own (h.length+1) r.frs.length 0 r.frs.length) (.own (h.length+2) r.tms.length 0 r.tms.length) (.own (h.length+3) r.tdi.length 0 r.tdi.length) (.own (h.length+4) r.want.length 0 r.want.length) r.wr)):=by unfold rh;rw[tD];rfl
section
variable {s:Sett} {x y z:Nat}
theorem HM:(rh h r l).set (h.length+5) (.box (rc s x r.ck y z (.own h.length r.sts.length 0 r.sts.length) (.own (h.length+1) r.frs.length 0 r.frs.length) (.own (h.length+2) r.tms.length 0 r.tms.length) (.own (h.length+3) r.tdi.length 0 r.tdi.length) (.own (h.length+4) r.want.length 0 r.want.length) r.wr))=rh h { r with se:=s,st:=x,ni:=y,nd:=z } l:=by unfold rh;rw[yF];rfl
end
attribute [local go_sem] PG mK RH SH TH nK QH HM
theorem CN:r.clk []=r:=by unfold Run.clk;split <;> simp
theorem DN {L:List (UInt8 × UInt8 × UInt8)}{x:UInt8 × UInt8 × UInt8}:(r.clk L).clk [x]=r.clk (L++[x]):=by
 unfold Run.clk;cases hw:r.wr <;> simp [hw,Nat.add_assoc]
theorem LK {L:List (UInt8 × UInt8 × UInt8)}:(r.clk L).ck=r.ck+L.length:=(qC r L).2.2.2.2.2.1
theorem VH {tov:Nat}(R:RunOk r):RunOk (r.go gA tov):=by
 have Q:=UH (L:=(gA r.st tov).map fun c=>(c,48,120)) R
 exact⟨Q.t,Q.i,Q.w⟩
theorem xH {tov:Nat}:(r.go gA tov).ck=r.ck+(gA r.st tov).length:=(uB gA r tov).2.2.2.2.2.1
set_option maxHeartbeats 2000000 in
theorem tK (R:RunOk r)(hck:r.ck≤900000000)(hf:r.st∈frS){tov:Nat}(ht:tov∈toS):eA X HE [.ref (h.length+5) 0,AI tov] (rh h r l) K=K (.tup []) (rh h (r.go gA tov) l) []:=by
 refine CA ?_;rw[z7j rfl];have to16:tov<16:=by simp only[toS,List.mem_cons,List.not_mem_nil,or_false]at ht;omega
 have hp:=fun(h':aA) (K':kA)=>zfo (h:=h') (K:=K') (fr_lt hf) to16
 obtain⟨pb,pl,_⟩:=RC hf ht;have hgo:r.go gA tov={ r.clk ((gA r.st tov).map fun c=>(c,48,120)) with st:=tov }:=rfl
 rw[hgo];simp only[HO,go_sem,hp];generalize gA r.st tov=w at pl ⊢;refine nB (fun k:Nat=>⟨[(0,.ref (h.length+5) 0),(1,AI tov),(4,AS w),(17,AI w.length),(18,AI k)],rh h (r.clk ((w.take k).map fun c=>(c,48,120))) l,[]⟩) (fun k=>k≤w.length) (fun k=>w.length-k) 0 (by rw[List.take_zero,List.map_nil,CN];rfl) (by omega) ?_
 intro k hk;have hc:=fun(a:UInt8) (K':kA)=>mR (h:=h) (l:=l) (K:=K') (UH (L:=(w.take k).map fun c=>(c,48,120)) R) (by rw[LK];simp;omega) a 48 120
 rcases Nat.lt_or_ge k w.length with hlt|hge
 ·have w2:IntKind.i64.wrap ((k:Int)+1)=((k+1:Nat):Int):=GA _ (by omega) (by omega)
  have hg:w[k]?=some w[k]:=List.getElem?_eq_getElem hlt
  have hlt':(k:Int)<(w.length:Int):=by omega
  have hc':=fun(K':kA)=>hc w[k] K'
  simp only[show(((48:UInt8).toNat:Nat):Int)=48 from rfl,show(((120:UInt8).toNat:Nat):Int)=120 from rfl]at hc'
  simp only[go_sem,hlt,hlt',hg,w2,hc'];refine⟨k+1,?_,by omega,by omega⟩
  rw[DN,List.take_succ_eq_append_getElem hlt,List.map_append];rfl
 ·obtain rfl:k=w.length:=by omega
  have hs:=(qC r ((w.map fun c=>((c,48,120):UInt8×UInt8×UInt8)))).1
  simp only[go_sem,Nat.lt_irrefl,Int.lt_irrefl,List.take_length]
end Go.Am
end
section
/- The program: a scan. -/
open Go
set_option linter.all false
namespace Go.Am
variable {h l l2:aA} {K:kA} {r:Run} {n:Nat} {o:Obj}
attribute [-go_sem] PA splice
attribute [local go_sem] QQ PQ rc_1 rc_7 KQ LQ MQ NQ aK OG bK cK dK eK fK iK jK OQ RQ SQ TQ UQ VQ WQ XQ YQ ZQ
attribute [local go_sem] PG mK RH SH TH nK QH HM
def kI (r:Run):Prop:=r.ni≤r.ck∧r.nd≤r.ck
theorem qK {tov:Nat}(N:kI r):kI (r.go gA tov):=by
 obtain⟨_,_,_,_,_,c,a,b⟩:=uB gA r tov;obtain⟨x,y⟩:=N;exact⟨by rw[a,c];omega,by rw[b,c];omega⟩
structure SetR (s:Sett):Prop where
 s1:dC s.e1.s=true
 s2:dC s.e2.s=true
 h1:s.h1.b.length≤2000
 t1:s.t1.b.length≤2000
 h2:s.h2.b.length≤2000
 t2:s.t2.b.length≤2000
theorem z3o {c:Cmd}{hd al:List UInt8}{k:Nat}(hk:k<al.length):(IA c hd al)[k]?=some (if k=al.length-1 then 49 else 48,al[k],if hd.length≤k then(if k-hd.length<c.m.length then iD c (k-hd.length) else 120) else 120):=by
 unfold IA;rw[List.getElem?_map,List.getElem?_range hk,Option.map_some,List.getElem?_eq_getElem hk];rfl
theorem tX {c:Cmd}(h7:c.k=7):r.scn gA c=Run.go gA { Run.clk { r.go gA 11 with ni:=(r.go gA 11).ni+(r.se.h1.b++c.b++r.se.t1.b).length } (IA c r.se.h1.b (r.se.h1.b++c.b++r.se.t1.b)) with st:=12 } r.se.e1.s.toNat∧r.scnF gA c=(r.go gA 11).ck+r.se.h1.b.length:=by
 unfold Run.scn Run.scnF;simp [h7]
set_option maxHeartbeats 4000000 in
theorem zf5 (R:RunOk r)(N:kI r)(hck:r.ck≤800000000)(hst:r.st∈stb)(S:SetR r.se)(c:Cmd)(h7:c.k=7)(hs:YD c=0):eA X MF [.ref (h.length+5) 0,ACm c] (rh h r l) K=K (AI (r.scnF gA c:Nat)) (rh h (r.scn gA c) l) []:=by
 refine CA ?_;rw[QY rfl,(tX h7).1,(tX h7).2];have hw1:=fun(l:aA) (K':kA)=>tK (h:=h) (l:=l) (K:=K') R (by omega) (JC hst) (show 11∈toS by decide)
 simp only[show(((11:Nat)):Int)=11 from rfl]at hw1
 have R1:=VH (tov:=11) R
 have c1:(r.go gA 11).ck≤800000008:=by have:=(RC (JC hst) (show 11∈toS by decide)).2.1;rw[xH];omega
 have N1:=qK (tov:=11) N
 generalize r.go gA 11=r1 at *;obtain⟨q1,q2,q3,q4,q5,q6⟩:=RG hs;obtain⟨n1,n2⟩:=TC S.s1;have hh:=S.h1;have ht:=S.t1
 generalize hhd:r.se.h1.b=hd at *;generalize htl:r.se.t1.b=tl at *;generalize hen:r.se.e1.s=en at *;obtain⟨en',rfl⟩:∃n:Nat,en=n:=⟨en.toNat,n2.symm⟩;simp only[Int.toNat_natCast]at n1 n2 ⊢;obtain⟨k,s,cl,b,w,m⟩:=c;dsimp only at h7 q1 q3 q6 ⊢;subst h7;have hbp:=List.length_pos_iff.2 q1
 have x1:hd.length+b.length≤xB:=by unfold xB;omega
 have x2:hd.length+(b.length+tl.length)≤xB:=by unfold xB;omega
 have x3:hd.length+b.length+tl.length≤xB:=by unfold xB;omega
 obtain⟨hn,hd'⟩:=N1;obtain⟨al,hal⟩:∃al,al=hd++b++tl:=⟨_,rfl⟩;have hall:al.length=hd.length+b.length+tl.length:=by rw[hal];simp;omega
 have hal2:=hal
 rw[List.append_assoc]at hal2;have w1:IntKind.i64.wrap ((r1.ni:Int)+(al.length:Int))=((r1.ni+al.length:Nat):Int):=GA _ (by omega) (by omega)
 have w2:IntKind.i64.wrap ((r1.ck:Int)+(hd.length:Int))=((r1.ck+hd.length:Nat):Int):=GA _ (by omega) (by omega)
 simp only[gL,go_sem,hw1,hhd,htl,hen,x1,x2,x3,←hal,←hal2,w1,w2];have R2:RunOk { r1 with ni:=r1.ni+al.length }:=⟨R1.t,R1.i,R1.w⟩
 have c2:{ r1 with ni:=r1.ni+al.length:Run }.ck=r1.ck:=rfl
 show RA (eA X) X.gl _ _ _ (rh h { r1 with ni:=r1.ni+al.length } _) []
 generalize { r1 with ni:=r1.ni+al.length:Run }=r2 at R2 c2 ⊢
 generalize hq:(⟨7,s,cl,b,w,m⟩:Cmd)=c at *;have hcm:c.m=m:=by rw[←hq]
 have hcw:c.w=w:=by rw[←hq]
 have hml:m.length≤b.length∧m.length≤w.length:=by
  rcases q6 with⟨e1,e2⟩|⟨e1,e2⟩
  ·rw[e2];exact⟨Nat.zero_le _,Nat.zero_le _⟩
  ·omega
 have hal0:0<al.length:=by omega
 refine nB (fun k:Nat=>⟨[(0,.ref (h.length+5) 0),(3,.ref (h.length+(l.length+6)) 0),(5,AS hd),(7,AI en'),(9,AI 12),(10,AS al),(11,AI (r1.ck+hd.length:Nat)),(93,AI al.length),(94,AI k)],
  rh h (r2.clk ((IA c hd al).take k)) (l++[.box [AI 7,AI s,AI cl,AS b,AS w,AS m]]),[]⟩) (fun k=>k≤al.length) (fun k=>al.length-k) 0 (by rw[List.take_zero,CN];rfl) (by omega) ?_
 intro k hk;have hlen:(IA c hd al).length=al.length:=KM c hd al
 have R3:=UH (L:=(IA c hd al).take k) R2
 have c3:(r2.clk ((IA c hd al).take k)).ck≤900000000:=by rw[LK,c2,List.length_take];omega
 rcases Nat.lt_or_ge k al.length with hlt|hge
 ·have w3:IntKind.i64.wrap ((k:Int)+1)=((k+1:Nat):Int):=GA _ (by omega) (by omega)
  have w4:IntKind.i64.wrap ((al.length:Int)-1)=((al.length-1:Nat):Int):=by
   rw[show(al.length:Int)-1=((al.length-1:Nat):Int) by omega];exact GA _ (by omega) (by omega)
  have hlt':(k:Int)<(al.length:Int):=by omega
  have hg:al[k]?=some al[k]:=List.getElem?_eq_getElem hlt
  have hcl:=fun(t v:UInt8) (K':kA)=>mR (h:=h) (l:=l++[.box [AI 7,AI s,AI cl,AS b,AS w,AS m]]) (K:=K') R3 (by omega) t al[k] v
  have hsg:=z3o (c:=c) (hd:=hd) hlt
  have hstep:∀t v:UInt8,(IA c hd al)[k]?=some (t,al[k],v)→(r2.clk ((IA c hd al).take k)).clk [(t,al[k],v)]=r2.clk ((IA c hd al).take (k+1)):=fun t v e=>by
   rw[DN,List.take_succ,e];rfl
  have e48:(((48:UInt8).toNat:Nat):Int)=48:=rfl
  have e49:(((49:UInt8).toNat:Nat):Int)=49:=rfl
  have e120:(((120:UInt8).toNat:Nat):Int)=120:=rfl
  generalize r2.clk ((IA c hd al).take k)=r3 at R3 c3 hcl hstep ⊢
  -- what is expected
  by_cases hk0:hd.length≤k
  ·have w5:IntKind.i64.wrap ((k:Int)-(hd.length:Int))=((k-hd.length:Nat):Int):=by
    rw[show(k:Int)-(hd.length:Int)=((k-hd.length:Nat):Int) by omega];exact GA _ (by omega) (by omega)
   have z0:(0:Int)≤((k-hd.length:Nat):Int):=by omega
   rw[if_pos hk0]at hsg;by_cases hm:k-hd.length<m.length
   ·have hm':((k-hd.length:Nat):Int)<(m.length:Int):=by omega
    rw[hcm,if_pos hm]at hsg;have hgm:m[k-hd.length]?=some m[k-hd.length]:=List.getElem?_eq_getElem hm
    have hgw:w[k-hd.length]?=some (w[k-hd.length]'(by omega)):=List.getElem?_eq_getElem (by omega)
    by_cases h49:m[k-hd.length]=49
    ·have hx:iD c (k-hd.length)=w[k-hd.length]'(by omega):=by unfold iD;rw[hcm,hgm,h49,if_pos rfl,hcw,hgw];rfl
     rw[hx]at hsg;by_cases hl1:k=al.length-1
     ·have hl2:((k:Int)=((al.length-1:Nat):Int))=True:=eq_true (by omega)
      have hcl1:=fun K'=>hcl 49 (w[k-hd.length]'(by omega)) K'
      rw[if_pos hl1]at hsg;rw[e49]at hcl1;simp only[go_sem,hlt,hlt',hg,w3,w4,w5,z0,hm,hm',hgm,hgw,h49,e49,hl2,hcl1];exact⟨k+1,by rw[hstep _ _ hsg],by omega,by omega⟩
     ·have hl2:((k:Int)=((al.length-1:Nat):Int))=False:=eq_false (by omega)
      have hcl1:=fun K'=>hcl 48 (w[k-hd.length]'(by omega)) K'
      rw[if_neg hl1]at hsg;rw[e48]at hcl1;simp only[go_sem,hlt,hlt',hg,w3,w4,w5,z0,hm,hm',hgm,hgw,h49,e49,hl2,hcl1];exact⟨k+1,by rw[hstep _ _ hsg],by omega,by omega⟩
    ·have hx:iD c (k-hd.length)=120:=by unfold iD;rw[hcm,hgm,if_neg (fun e=>h49 (Option.some.inj e))]
     rw[hx]at hsg;have h49':¬((m[k-hd.length].toNat:Int)=49):=fun e=>h49 (UInt8.toNat_inj.1 (by rw[show(49:UInt8).toNat=49 from rfl];omega))
     by_cases hl1:k=al.length-1
     ·have hl2:((k:Int)=((al.length-1:Nat):Int))=True:=eq_true (by omega)
      have hcl1:=fun K'=>hcl 49 120 K'
      rw[if_pos hl1]at hsg;rw[e49]at hcl1;rw[e120]at hcl1;simp only[go_sem,hlt,hlt',hg,w3,w4,w5,z0,hm,hm',hgm,h49',hl2,hcl1];exact⟨k+1,by rw[hstep _ _ hsg],by omega,by omega⟩
     ·have hl2:((k:Int)=((al.length-1:Nat):Int))=False:=eq_false (by omega)
      have hcl1:=fun K'=>hcl 48 120 K'
      rw[if_neg hl1]at hsg;rw[e48]at hcl1;rw[e120]at hcl1;simp only[go_sem,hlt,hlt',hg,w3,w4,w5,z0,hm,hm',hgm,h49',hl2,hcl1];exact⟨k+1,by rw[hstep _ _ hsg],by omega,by omega⟩
   ·have hm':¬((k-hd.length:Nat):Int)<(m.length:Int):=by omega
    rw[hcm,if_neg hm]at hsg;by_cases hl1:k=al.length-1
    ·have hl2:((k:Int)=((al.length-1:Nat):Int))=True:=eq_true (by omega)
     have hcl1:=fun K'=>hcl 49 120 K'
     rw[if_pos hl1]at hsg;rw[e49]at hcl1;rw[e120]at hcl1;simp only[go_sem,hlt,hlt',hg,w3,w4,w5,z0,hm,hm',hl2,hcl1];exact⟨k+1,by rw[hstep _ _ hsg],by omega,by omega⟩
    ·have hl2:((k:Int)=((al.length-1:Nat):Int))=False:=eq_false (by omega)
     have hcl1:=fun K'=>hcl 48 120 K'
     rw[if_neg hl1]at hsg;rw[e48]at hcl1;rw[e120]at hcl1;simp only[go_sem,hlt,hlt',hg,w3,w4,w5,z0,hm,hm',hl2,hcl1];exact⟨k+1,by rw[hstep _ _ hsg],by omega,by omega⟩
  ·have w5:IntKind.i64.wrap ((k:Int)-(hd.length:Int))=(k:Int)-(hd.length:Int):=GA _ (by omega) (by omega)
   have z0:¬(0:Int)≤(k:Int)-(hd.length:Int):=by omega
   rw[if_neg hk0]at hsg;by_cases hl1:k=al.length-1
   ·have hl2:((k:Int)=((al.length-1:Nat):Int))=True:=eq_true (by omega)
    have hcl1:=fun K'=>hcl 49 120 K'
    rw[if_pos hl1]at hsg;rw[e49]at hcl1;rw[e120]at hcl1;simp only[go_sem,hlt,hlt',hg,w3,w4,w5,z0,hl2,hcl1];exact⟨k+1,by rw[hstep _ _ hsg],by omega,by omega⟩
   ·have hl2:((k:Int)=((al.length-1:Nat):Int))=False:=eq_false (by omega)
    have hcl1:=fun K'=>hcl 48 120 K'
    rw[if_neg hl1]at hsg;rw[e48]at hcl1;rw[e120]at hcl1;simp only[go_sem,hlt,hlt',hg,w3,w4,w5,z0,hl2,hcl1];exact⟨k+1,by rw[hstep _ _ hsg],by omega,by omega⟩
 ·obtain rfl:k=al.length:=by omega
  have e1:(IA c hd al).take al.length=IA c hd al:=by rw[←hlen];exact List.take_length
  rw[e1]at R3 c3;simp only[go_sem,Nat.lt_irrefl,Int.lt_irrefl,e1];generalize r2.clk (IA c hd al)=r3 at R3 c3 ⊢;have hw2:=fun(l:aA) (K':kA)=>tK (h:=h) (l:=l) (K:=K') (r:={ r3 with st:=12 }) ⟨R3.t,R3.i,R3.w⟩ c3 (show 12∈frS by decide) (tE n1)
  have hp:=fun l=>HM (h:=h) (l:=l) (r:=r3) (s:=r3.se) (x:=12) (y:=r3.ni) (z:=r3.nd)
  simp only[show((12:Nat):Int)=12 from rfl]at hp
  simp only[go_sem,hp,hw2]
theorem sX {c:Cmd}(h7:c.k=8):r.scn gA c=Run.go gA { Run.clk { r.go gA 4 with nd:=(r.go gA 4).nd+(r.se.h2.b++c.b++r.se.t2.b).length } (IA c r.se.h2.b (r.se.h2.b++c.b++r.se.t2.b)) with st:=5 } r.se.e2.s.toNat∧r.scnF gA c=(r.go gA 4).ck+r.se.h2.b.length:=by
 unfold Run.scn Run.scnF;simp [h7]
set_option maxHeartbeats 4000000 in
theorem zf3 (R:RunOk r)(N:kI r)(hck:r.ck≤800000000)(hst:r.st∈stb)(S:SetR r.se)(c:Cmd)(h7:c.k=8)(hs:YD c=0):eA X MF [.ref (h.length+5) 0,ACm c] (rh h r l) K=K (AI (r.scnF gA c:Nat)) (rh h (r.scn gA c) l) []:=by
 refine CA ?_;rw[QY rfl,(sX h7).1,(sX h7).2];have hw1:=fun(l:aA) (K':kA)=>tK (h:=h) (l:=l) (K:=K') R (by omega) (JC hst) (show 4∈toS by decide)
 simp only[show(((4:Nat)):Int)=4 from rfl]at hw1
 have R1:=VH (tov:=4) R
 have c1:(r.go gA 4).ck≤800000008:=by have:=(RC (JC hst) (show 4∈toS by decide)).2.1;rw[xH];omega
 have N1:=qK (tov:=4) N
 generalize r.go gA 4=r1 at *;obtain⟨q1,q2,q3,q4,q5,q6⟩:=RG hs;obtain⟨n1,n2⟩:=TC S.s2;have hh:=S.h2;have ht:=S.t2
 generalize hhd:r.se.h2.b=hd at *;generalize htl:r.se.t2.b=tl at *;generalize hen:r.se.e2.s=en at *;obtain⟨en',rfl⟩:∃n:Nat,en=n:=⟨en.toNat,n2.symm⟩;simp only[Int.toNat_natCast]at n1 n2 ⊢;obtain⟨k,s,cl,b,w,m⟩:=c;dsimp only at h7 q1 q3 q6 ⊢;subst h7;have hbp:=List.length_pos_iff.2 q1
 have x1:hd.length+b.length≤xB:=by unfold xB;omega
 have x2:hd.length+(b.length+tl.length)≤xB:=by unfold xB;omega
 have x3:hd.length+b.length+tl.length≤xB:=by unfold xB;omega
 obtain⟨hn,hd'⟩:=N1;obtain⟨al,hal⟩:∃al,al=hd++b++tl:=⟨_,rfl⟩;have hall:al.length=hd.length+b.length+tl.length:=by rw[hal];simp;omega
 have hal2:=hal
 rw[List.append_assoc]at hal2;have w1:IntKind.i64.wrap ((r1.nd:Int)+(al.length:Int))=((r1.nd+al.length:Nat):Int):=GA _ (by omega) (by omega)
 have w2:IntKind.i64.wrap ((r1.ck:Int)+(hd.length:Int))=((r1.ck+hd.length:Nat):Int):=GA _ (by omega) (by omega)
 simp only[gL,go_sem,hw1,hhd,htl,hen,x1,x2,x3,←hal,←hal2,w1,w2];have R2:RunOk { r1 with nd:=r1.nd+al.length }:=⟨R1.t,R1.i,R1.w⟩
 have c2:{ r1 with nd:=r1.nd+al.length:Run }.ck=r1.ck:=rfl
 show RA (eA X) X.gl _ _ _ (rh h { r1 with nd:=r1.nd+al.length } _) []
 generalize { r1 with nd:=r1.nd+al.length:Run }=r2 at R2 c2 ⊢
 generalize hq:(⟨8,s,cl,b,w,m⟩:Cmd)=c at *;have hcm:c.m=m:=by rw[←hq]
 have hcw:c.w=w:=by rw[←hq]
 have hml:m.length≤b.length∧m.length≤w.length:=by
  rcases q6 with⟨e1,e2⟩|⟨e1,e2⟩
  ·rw[e2];exact⟨Nat.zero_le _,Nat.zero_le _⟩
  ·omega
 have hal0:0<al.length:=by omega
 refine nB (fun k:Nat=>⟨[(0,.ref (h.length+5) 0),(3,.ref (h.length+(l.length+6)) 0),(5,AS hd),(7,AI en'),(9,AI 5),(10,AS al),(11,AI (r1.ck+hd.length:Nat)),(93,AI al.length),(94,AI k)],
  rh h (r2.clk ((IA c hd al).take k)) (l++[.box [AI 8,AI s,AI cl,AS b,AS w,AS m]]),[]⟩) (fun k=>k≤al.length) (fun k=>al.length-k) 0 (by rw[List.take_zero,CN];rfl) (by omega) ?_
 intro k hk;have hlen:(IA c hd al).length=al.length:=KM c hd al
 have R3:=UH (L:=(IA c hd al).take k) R2
 have c3:(r2.clk ((IA c hd al).take k)).ck≤900000000:=by rw[LK,c2,List.length_take];omega
 rcases Nat.lt_or_ge k al.length with hlt|hge
 ·have w3:IntKind.i64.wrap ((k:Int)+1)=((k+1:Nat):Int):=GA _ (by omega) (by omega)
  have w4:IntKind.i64.wrap ((al.length:Int)-1)=((al.length-1:Nat):Int):=by
   rw[show(al.length:Int)-1=((al.length-1:Nat):Int) by omega];exact GA _ (by omega) (by omega)
  have hlt':(k:Int)<(al.length:Int):=by omega
  have hg:al[k]?=some al[k]:=List.getElem?_eq_getElem hlt
  have hcl:=fun(t v:UInt8) (K':kA)=>mR (h:=h) (l:=l++[.box [AI 8,AI s,AI cl,AS b,AS w,AS m]]) (K:=K') R3 (by omega) t al[k] v
  have hsg:=z3o (c:=c) (hd:=hd) hlt
  have hstep:∀t v:UInt8,(IA c hd al)[k]?=some (t,al[k],v)→(r2.clk ((IA c hd al).take k)).clk [(t,al[k],v)]=r2.clk ((IA c hd al).take (k+1)):=fun t v e=>by
   rw[DN,List.take_succ,e];rfl
  have e48:(((48:UInt8).toNat:Nat):Int)=48:=rfl
  have e49:(((49:UInt8).toNat:Nat):Int)=49:=rfl
  have e120:(((120:UInt8).toNat:Nat):Int)=120:=rfl
  generalize r2.clk ((IA c hd al).take k)=r3 at R3 c3 hcl hstep ⊢
  -- what is expected
  by_cases hk0:hd.length≤k
  ·have w5:IntKind.i64.wrap ((k:Int)-(hd.length:Int))=((k-hd.length:Nat):Int):=by
    rw[show(k:Int)-(hd.length:Int)=((k-hd.length:Nat):Int) by omega];exact GA _ (by omega) (by omega)
   have z0:(0:Int)≤((k-hd.length:Nat):Int):=by omega
   rw[if_pos hk0]at hsg;by_cases hm:k-hd.length<m.length
   ·have hm':((k-hd.length:Nat):Int)<(m.length:Int):=by omega
    rw[hcm,if_pos hm]at hsg;have hgm:m[k-hd.length]?=some m[k-hd.length]:=List.getElem?_eq_getElem hm
    have hgw:w[k-hd.length]?=some (w[k-hd.length]'(by omega)):=List.getElem?_eq_getElem (by omega)
    by_cases h49:m[k-hd.length]=49
    ·have hx:iD c (k-hd.length)=w[k-hd.length]'(by omega):=by unfold iD;rw[hcm,hgm,h49,if_pos rfl,hcw,hgw];rfl
     rw[hx]at hsg;by_cases hl1:k=al.length-1
     ·have hl2:((k:Int)=((al.length-1:Nat):Int))=True:=eq_true (by omega)
      have hcl1:=fun K'=>hcl 49 (w[k-hd.length]'(by omega)) K'
      rw[if_pos hl1]at hsg;rw[e49]at hcl1;simp only[go_sem,hlt,hlt',hg,w3,w4,w5,z0,hm,hm',hgm,hgw,h49,e49,hl2,hcl1];exact⟨k+1,by rw[hstep _ _ hsg],by omega,by omega⟩
     ·have hl2:((k:Int)=((al.length-1:Nat):Int))=False:=eq_false (by omega)
      have hcl1:=fun K'=>hcl 48 (w[k-hd.length]'(by omega)) K'
      rw[if_neg hl1]at hsg;rw[e48]at hcl1;simp only[go_sem,hlt,hlt',hg,w3,w4,w5,z0,hm,hm',hgm,hgw,h49,e49,hl2,hcl1];exact⟨k+1,by rw[hstep _ _ hsg],by omega,by omega⟩
    ·have hx:iD c (k-hd.length)=120:=by unfold iD;rw[hcm,hgm,if_neg (fun e=>h49 (Option.some.inj e))]
     rw[hx]at hsg;have h49':¬((m[k-hd.length].toNat:Int)=49):=fun e=>h49 (UInt8.toNat_inj.1 (by rw[show(49:UInt8).toNat=49 from rfl];omega))
     by_cases hl1:k=al.length-1
     ·have hl2:((k:Int)=((al.length-1:Nat):Int))=True:=eq_true (by omega)
      have hcl1:=fun K'=>hcl 49 120 K'
      rw[if_pos hl1]at hsg;rw[e49]at hcl1;rw[e120]at hcl1;simp only[go_sem,hlt,hlt',hg,w3,w4,w5,z0,hm,hm',hgm,h49',hl2,hcl1];exact⟨k+1,by rw[hstep _ _ hsg],by omega,by omega⟩
     ·have hl2:((k:Int)=((al.length-1:Nat):Int))=False:=eq_false (by omega)
      have hcl1:=fun K'=>hcl 48 120 K'
      rw[if_neg hl1]at hsg;rw[e48]at hcl1;rw[e120]at hcl1;simp only[go_sem,hlt,hlt',hg,w3,w4,w5,z0,hm,hm',hgm,h49',hl2,hcl1];exact⟨k+1,by rw[hstep _ _ hsg],by omega,by omega⟩
   ·have hm':¬((k-hd.length:Nat):Int)<(m.length:Int):=by omega
    rw[hcm,if_neg hm]at hsg;by_cases hl1:k=al.length-1
    ·have hl2:((k:Int)=((al.length-1:Nat):Int))=True:=eq_true (by omega)
     have hcl1:=fun K'=>hcl 49 120 K'
     rw[if_pos hl1]at hsg;rw[e49]at hcl1;rw[e120]at hcl1;simp only[go_sem,hlt,hlt',hg,w3,w4,w5,z0,hm,hm',hl2,hcl1];exact⟨k+1,by rw[hstep _ _ hsg],by omega,by omega⟩
    ·have hl2:((k:Int)=((al.length-1:Nat):Int))=False:=eq_false (by omega)
     have hcl1:=fun K'=>hcl 48 120 K'
     rw[if_neg hl1]at hsg;rw[e48]at hcl1;rw[e120]at hcl1;simp only[go_sem,hlt,hlt',hg,w3,w4,w5,z0,hm,hm',hl2,hcl1];exact⟨k+1,by rw[hstep _ _ hsg],by omega,by omega⟩
  ·have w5:IntKind.i64.wrap ((k:Int)-(hd.length:Int))=(k:Int)-(hd.length:Int):=GA _ (by omega) (by omega)
   have z0:¬(0:Int)≤(k:Int)-(hd.length:Int):=by omega
   rw[if_neg hk0]at hsg;by_cases hl1:k=al.length-1
   ·have hl2:((k:Int)=((al.length-1:Nat):Int))=True:=eq_true (by omega)
    have hcl1:=fun K'=>hcl 49 120 K'
    rw[if_pos hl1]at hsg;rw[e49]at hcl1;rw[e120]at hcl1;simp only[go_sem,hlt,hlt',hg,w3,w4,w5,z0,hl2,hcl1];exact⟨k+1,by rw[hstep _ _ hsg],by omega,by omega⟩
   ·have hl2:((k:Int)=((al.length-1:Nat):Int))=False:=eq_false (by omega)
    have hcl1:=fun K'=>hcl 48 120 K'
    rw[if_neg hl1]at hsg;rw[e48]at hcl1;rw[e120]at hcl1;simp only[go_sem,hlt,hlt',hg,w3,w4,w5,z0,hl2,hcl1];exact⟨k+1,by rw[hstep _ _ hsg],by omega,by omega⟩
 ·obtain rfl:k=al.length:=by omega
  have e1:(IA c hd al).take al.length=IA c hd al:=by rw[←hlen];exact List.take_length
  rw[e1]at R3 c3;simp only[go_sem,Nat.lt_irrefl,Int.lt_irrefl,e1];generalize r2.clk (IA c hd al)=r3 at R3 c3 ⊢;have hw2:=fun(l:aA) (K':kA)=>tK (h:=h) (l:=l) (K:=K') (r:={ r3 with st:=5 }) ⟨R3.t,R3.i,R3.w⟩ c3 (show 5∈frS by decide) (tE n1)
  have hp:=fun l=>HM (h:=h) (l:=l) (r:=r3) (s:=r3.se) (x:=5) (y:=r3.ni) (z:=r3.nd)
  simp only[show((5:Nat):Int)=5 from rfl]at hp
  simp only[go_sem,hp,hw2]
end Go.Am
end
section
/- The program: a step. -/
open Go
set_option linter.all false
namespace Go.Am
variable {h l l2:aA} {K:kA} {r:Run} {n:Nat} {o:Obj} {x:Esc}
attribute [-go_sem] PA splice iL
attribute [local go_sem] QQ PQ rc_1 rc_7 KQ LQ MQ NQ aK OG bK cK dK eK fK iK jK OQ RQ SQ TQ UQ VQ WQ XQ YQ ZQ
section
variable {s:Sett} {st ck ni nd:Int} {a b c d e:AV} {w:Bool} {q1 q2 q3:Int} {q4 q5 q6:List UInt8}
theorem rct_0:splice (rc s st ck ni nd a b c d e w) 0 [AI q1,AI q2,AI q3,AS q4,AS q5,AS q6]=rc { s with e1:=⟨q1,q2,q3,q4,q5,q6⟩ } st ck ni nd a b c d e w:=(rfl)
theorem rct_6:splice (rc s st ck ni nd a b c d e w) 6 [AI q1,AI q2,AI q3,AS q4,AS q5,AS q6]=rc { s with e2:=⟨q1,q2,q3,q4,q5,q6⟩ } st ck ni nd a b c d e w:=(rfl)
theorem zeF:splice (rc s st ck ni nd a b c d e w) 12 [AI q1,AI q2,AI q3,AS q4,AS q5,AS q6]=rc { s with h1:=⟨q1,q2,q3,q4,q5,q6⟩ } st ck ni nd a b c d e w:=(rfl)
theorem zeG:splice (rc s st ck ni nd a b c d e w) 18 [AI q1,AI q2,AI q3,AS q4,AS q5,AS q6]=rc { s with t1:=⟨q1,q2,q3,q4,q5,q6⟩ } st ck ni nd a b c d e w:=(rfl)
theorem zeH:splice (rc s st ck ni nd a b c d e w) 24 [AI q1,AI q2,AI q3,AS q4,AS q5,AS q6]=rc { s with h2:=⟨q1,q2,q3,q4,q5,q6⟩ } st ck ni nd a b c d e w:=(rfl)
theorem zeI:splice (rc s st ck ni nd a b c d e w) 30 [AI q1,AI q2,AI q3,AS q4,AS q5,AS q6]=rc { s with t2:=⟨q1,q2,q3,q4,q5,q6⟩ } st ck ni nd a b c d e w:=(rfl)
end
attribute [local go_sem] rct_0 rct_6 zeF zeG zeH zeI
def IG (k:Int):Nat:=if k=1 then 0 else if k=2 then 6 else if k=3 then 12 else if k=4 then 18 else if k=5 then 24 else 30
theorem s_ofK {id:Nat}(hid:id<h.length)(k:Int):eA X vH [.ref id 0,AI k] h K=K (.ref id (IG k)) h []:=by
 refine CA ?_;rw[z7l rfl];have e1:max h.length (id+1)=h.length:=by omega
 have e2:id+1≤h.length:=by omega
 unfold IG;by_cases h1:k=1
 ·simp only[FF,go_sem,h1,e1,e2]
 by_cases h2:k=2
 ·simp only[FF,go_sem,h1,h2,e1,e2]
 by_cases h3:k=3
 ·simp only[FF,go_sem,h1,h2,h3,e1,e2]
 by_cases h4:k=4
 ·simp only[FF,go_sem,h1,h2,h3,h4,e1,e2]
 by_cases h5:k=5
 ·simp only[FF,go_sem,h1,h2,h3,h4,h5,e1,e2]
 simp only[FF,go_sem,h1,h2,h3,h4,h5,e1,e2]
set_option maxHeartbeats 2000000 in
theorem LO {Kx:Ex→St→Prop}(hs:r.sts.length≤100000)(hf:r.frs.length≤100000)(f:Nat):iL (eA X) X.gl (.ref (h.length+5) 0) (AI f) (rh h r l) x Kx=Kx .normal ⟨[],rh h { r with sts:=r.sts++[r.st],frs:=r.frs++[f] } l,x⟩:=by
 obtain⟨se,st,ck,ni,nd,sts,frs,tms,tdi,want,wr⟩:=r;dsimp only at *;unfold rh;have m1:sts.length+1≤LA:=by unfold LA;omega
 have m2:frs.length+1≤LA:=by unfold LA;omega
 have e2:∀k n o m,k<5→vC (h.length+5) (.own (h.length+k) n o m)=[]:=fun k n o m hk=>by unfold vC;rw[AX,if_neg (by omega)]
 have e3:=fun n o m=>e2 0 n o m (by decide)
 have e4:=fun n o m=>e2 1 n o m (by decide)
 simp only[Nat.add_zero]at e3;simp only[iL,go_sem,m1,m2,e3,e4,List.length_map];simp
attribute [local go_sem] PG mK RH SH TH nK QH HM
theorem z3q (c:Cmd):(r.scn gA c).sts=r.sts∧(r.scn gA c).frs=r.frs∧(r.scn gA c).se=r.se:=by
 unfold Run.scn;by_cases h7:c.k=7
 ·simp only[h7,if_true]
  obtain⟨a1,a2,a3,a4,_⟩:=uB gA ({ Run.clk { r.go gA 11 with ni:=(r.go gA 11).ni+(r.se.h1.b++c.b++r.se.t1.b).length } (IA c r.se.h1.b (r.se.h1.b++c.b++r.se.t1.b)) with st:=12 }) r.se.e1.s.toNat
  obtain⟨b1,b2,b3,b4,_⟩:=qC { r.go gA 11 with ni:=(r.go gA 11).ni+(r.se.h1.b++c.b++r.se.t1.b).length } (IA c r.se.h1.b (r.se.h1.b++c.b++r.se.t1.b))
  obtain⟨d1,d2,d3,d4,_⟩:=uB gA r 11;exact⟨a3.trans (b3.trans d3),a4.trans (b4.trans d4),a1.trans (b1.trans d1)⟩
 ·simp only[h7,if_false]
  obtain⟨a1,a2,a3,a4,_⟩:=uB gA ({ Run.clk { r.go gA 4 with nd:=(r.go gA 4).nd+(r.se.h2.b++c.b++r.se.t2.b).length } (IA c r.se.h2.b (r.se.h2.b++c.b++r.se.t2.b)) with st:=5 }) r.se.e2.s.toNat
  obtain⟨b1,b2,b3,b4,_⟩:=qC { r.go gA 4 with nd:=(r.go gA 4).nd+(r.se.h2.b++c.b++r.se.t2.b).length } (IA c r.se.h2.b (r.se.h2.b++c.b++r.se.t2.b))
  obtain⟨d1,d2,d3,d4,_⟩:=uB gA r 4;exact⟨a3.trans (b3.trans d3),a4.trans (b4.trans d4),a1.trans (b1.trans d1)⟩
set_option maxHeartbeats 4000000 in
theorem zf9 (R:RunOk r)(N:kI r)(hck:r.ck≤700000000)(hst:r.st∈stb)(S:SetR r.se)(hl1:r.sts.length≤100000)(hl2:r.frs.length≤100000)(c:Cmd)(hc:OA c=0) :
 eA X ZI [.ref (h.length+5) 0,ACm c] (rh h r l) K=K (.tup []) (rh h (r.step gA c) l) []:=by
 refine CA ?_;rw[z7i rfl];have e0:(AI ((0:Nat):Int))=AI 0:=rfl
 have setf:∀h1:1≤c.k∧c.k≤6,PD (eA X) X.gl JH xM (.ref (h.length+5) 0) (ACm c) (rh h r l) [] (sA [] false (rh h r l).length fun v1 h1 x1=>v1 = .tup []∧h1=rh h (r.step gA c) l∧x1=[]):=by
  intro h1;rw[fI gA h1];have k2:=fun(l:aA) (x:Esc) (Kx:Ex→St→Prop)=>LO (h:=h) (l:=l) (x:=x) (Kx:=Kx) (r:={ r with se:=r.se.put c }) hl1 hl2 0
  rw[e0]at k2;have ho:=fun(l:aA) (k:Int) (K':kA)=>s_ofK (h:=rh h r l) (K:=K') (id:=h.length+5) (by rw[PG];omega) k
  obtain⟨k,s,cl,b,w,m⟩:=c;dsimp only at h1;have:k=1∨k=2∨k=3∨k=4∨k=5∨k=6:=by omega
  rcases this with rfl|rfl|rfl|rfl|rfl|rfl
  ·have ep:r.se.put ⟨1,s,cl,b,w,m⟩={ r.se with e1:=⟨1,s,cl,b,w,m⟩ }:=rfl
   rw[ep];simp only[ep]at k2;simp only[PD,go_sem,YF,ho,IG,k2]
  ·have ep:r.se.put ⟨2,s,cl,b,w,m⟩={ r.se with e2:=⟨2,s,cl,b,w,m⟩ }:=rfl
   rw[ep];simp only[ep]at k2;simp only[PD,go_sem,YF,ho,IG,k2]
  ·have ep:r.se.put ⟨3,s,cl,b,w,m⟩={ r.se with h1:=⟨3,s,cl,b,w,m⟩ }:=rfl
   rw[ep];simp only[ep]at k2;simp only[PD,go_sem,YF,ho,IG,k2]
  ·have ep:r.se.put ⟨4,s,cl,b,w,m⟩={ r.se with t1:=⟨4,s,cl,b,w,m⟩ }:=rfl
   rw[ep];simp only[ep]at k2;simp only[PD,go_sem,YF,ho,IG,k2]
  ·have ep:r.se.put ⟨5,s,cl,b,w,m⟩={ r.se with h2:=⟨5,s,cl,b,w,m⟩ }:=rfl
   rw[ep];simp only[ep]at k2;simp only[PD,go_sem,YF,ho,IG,k2]
  ·have ep:r.se.put ⟨6,s,cl,b,w,m⟩={ r.se with t2:=⟨6,s,cl,b,w,m⟩ }:=rfl
   rw[ep];simp only[ep]at k2;simp only[PD,go_sem,YF,ho,IG,k2]
 cases AE hc with
 | set h hs e=>exact setf (by omega)
 | pad h0 h1 hb hl e=>exact setf ⟨by omega,h1⟩
 | go hk hs e=>
  rw[QM gA hk];obtain⟨g1,g2,g3,g4,g5,g6,_,_⟩:=uB gA r c.s.toNat;obtain⟨n1,n2⟩:=TC hs;have k2:=fun(l:aA) (x:Esc) (Kx:Ex→St→Prop)=>LO (h:=h) (l:=l) (x:=x) (Kx:=Kx) (r:=r.go gA c.s.toNat) (by rw[g3];exact hl1) (by rw[g4];exact hl2) 0
  rw[e0]at k2;have hw:=fun(l:aA) (K':kA)=>tK (h:=h) (l:=l) (K:=K') R (by omega) (JC hst) (tE n1)
  obtain⟨k,s,cl,b,w,m⟩:=c;dsimp only at hk n2 hw k2 ⊢;subst hk;rw[n2]at hw;simp only[PD,go_sem,YF,sF,hw,k2]
 | idle hk h0 h1 e=>
  rw[xK gA hk];obtain⟨g1,g2,g3,g4,g5,g6,_,_⟩:=uB gA r 1;have hw:=fun(l:aA) (K':kA)=>tK (h:=h) (l:=l) (K:=K') R (by omega) (JC hst) (show 1∈toS by decide)
  have R1:=VH (tov:=1) R
  have c1:(r.go gA 1).ck≤700000008:=by have:=(RC (JC hst) (show 1∈toS by decide)).2.1;rw[xH];omega
  simp only[show((1:Nat):Int)=1 from rfl]at hw
  obtain⟨k,s,cl,b,w,m⟩:=c;dsimp only at hk h0 h1 ⊢;subst hk;obtain⟨n,rfl⟩:∃n:Nat,cl=n:=⟨cl.toNat,by omega⟩
  simp only[Int.toNat_natCast];generalize r.go gA 1=r1 at *;simp only[PD,go_sem,YF,sF,hw];refine nB (fun k:Nat=>⟨[(0,.ref (h.length+5) 0),(4,AI 0),(35,AI n),(36,AI k)],rh h (r1.clk (List.replicate k (48,48,120))) (l++[.box [AI 9,AI s,AI n,AS b,AS w,AS m]]),[]⟩) (fun k=>k≤n) (fun k=>n-k) 0 (by rw[List.replicate_zero,CN];rfl) (by omega) ?_
  intro k hk;have R2:=UH (L:=List.replicate k (48,48,120)) R1
  rcases Nat.lt_or_ge k n with hlt|hge
  ·have w2:IntKind.i64.wrap ((k:Int)+1)=((k+1:Nat):Int):=GA _ (by omega) (by omega)
   have hc:=fun(l:aA) (K':kA)=>mR (h:=h) (l:=l) (K:=K') R2 (by rw[LK,List.length_replicate];omega) 48 48 120
   simp only[show(((48:UInt8).toNat:Nat):Int)=48 from rfl,show(((120:UInt8).toNat:Nat):Int)=120 from rfl]at hc
   simp only[go_sem,hlt,w2,hc];exact⟨k+1,by rw[DN,←List.replicate_succ'],by omega,by omega⟩
  ·obtain rfl:k=n:=by omega
   have q:=qC r1 (List.replicate k (48,48,120))
   have k2:=fun(l:aA) (x:Esc) (Kx:Ex→St→Prop)=>LO (h:=h) (l:=l) (x:=x) (Kx:=Kx) (r:=r1.clk (List.replicate k (48,48,120))) (by rw[q.2.2.1,g3];exact hl1) (by rw[q.2.2.2.1,g4];exact hl2) 0
   rw[e0]at k2;simp only[go_sem,Nat.lt_irrefl,k2]
 | scan hk hs e=>
  rw[yK gA hk];obtain⟨g3,g4,_⟩:=z3q (r:=r) c;have k2:=fun(l:aA) (x:Esc) (Kx:Ex→St→Prop)=>LO (h:=h) (l:=l) (x:=x) (Kx:=Kx) (r:=r.scn gA c) (by rw[g3];exact hl1) (by rw[g4];exact hl2) (r.scnF gA c)
  have hscan:∀(l:aA) (K':kA),eA X MF [.ref (h.length+5) 0,ACm c] (rh h r l) K'=K' (AI (r.scnF gA c:Nat)) (rh h (r.scn gA c) l) []:=fun l K'=>by
   rcases hk with h7|h8
   ·exact zf5 R N (by omega) hst S c h7 hs
   ·exact zf3 R N (by omega) hst S c h8 hs
  have f1:¬c.k≤6:=by omega
  have f2:1≤c.k:=by omega
  have f3:(decide (c.k=7)||decide (c.k=8))=true:=by simpa using hk
  generalize r.scn gA c=r9 at k2 hscan ⊢;generalize r.scnF gA c=f9 at k2 hscan ⊢;simp only[PD,go_sem,YF,sF,f1,f2,f3,hscan,k2]
end Go.Am
end
section
/- A command's fault,the reference. -/
open Go
set_option linter.all false
namespace Go.Am
variable {h:aA} {K:kA} {Kx:Ex→St→Prop} {q q2:ACode} {k s cl k' s' cl' v9:Int} {b w m b' w' m':List UInt8} {x:Esc}
theorem eqa6 {k s cl k' s' cl':Int}{b w m b' w' m':List UInt8}:PA [0,0,0,2,2,2] true (.p (.agg [.int .i64 k,.int .i64 s,.int .i64 cl,.str b,.str w,.str m])) (.p (.agg [.int .i64 k',.int .i64 s',.int .i64 cl',.str b',.str w',.str m']))=some (AB (!decide ((⟨k,s,cl,b,w,m⟩:Cmd)=⟨k',s',cl',b',w',m'⟩))):=by
 unfold PA;dsimp only;rw[if_pos ⟨rfl,rfl,by simp⟩,eqs6]
 rfl
attribute [-go_sem] PA
end Go.Am
end
section
/- The reference: the part of a command that waits,or sets something. -/
open Go
set_option linter.all false
namespace Go.Am
variable {h:aA} {K:kA}
attribute [-go_sem] PA
end Go.Am
end
section
/- The reference: the part of a command that sets something. -/
open Go
set_option linter.all false
namespace Go.Am
variable {h:aA} {K:kA}
attribute [-go_sem] PA
end Go.Am
end
section
/- The reference: the part of a scan. -/
open Go
set_option linter.all false
namespace Go.Am
variable {h:aA} {K:kA} {Kx:Ex→St→Prop}
attribute [-go_sem] PA
end Go.Am
end
section
/- The reference: the part of a scan. -/
open Go
set_option linter.all false
namespace Go.Am
variable {h:aA} {K:kA}
attribute [-go_sem] PA
end Go.Am
end
section
/- The reference: the parts of a program. -/
open Go
set_option linter.all false
namespace Go.Am
variable {h:aA} {K:kA}
attribute [-go_sem] PA
theorem zfT {pre:List Cmd}{c:Cmd}(S:SetOk pre)(hc:OA c=0):SetOk (pre++[c]):=by
 have K:=AE hc
 refine⟨?_,?_,fun k h1 h2=>?_⟩
 ·rw[jC];split
  ·cases K with
   | set h hs e=>exact hs
   | pad h0 h1 hb hl e=>omega
   | go h hs e=>omega
   | idle h h0 h1 e=>omega
   | scan h hs e=>omega
  ·exact S.s1
 ·rw[jC];split
  ·cases K with
   | set h hs e=>exact hs
   | pad h0 h1 hb hl e=>omega
   | go h hs e=>omega
   | idle h h0 h1 e=>omega
   | scan h hs e=>omega
  ·exact S.s2
 ·rw[jC];split
  ·cases K with
   | set h hs e=>omega
   | pad h0 h1 hb hl e=>exact⟨hb,hl⟩
   | go h hs e=>omega
   | idle h h0 h1 e=>omega
   | scan h hs e=>omega
  ·exact S.b1 k h1 h2
theorem zfS:SetOk []:=⟨rfl,rfl,fun k _ _=>⟨rfl,Nat.zero_le _⟩⟩
end Go.Am
end
section
/- The reference: the parts of a program,one by one. -/
open Go
set_option linter.all false
namespace Go.Am
variable {h:aA} {K:kA}
def WB (pre:List Cmd)(state:Nat):List Cmd→Nat
 | []=>state
 | c::r=>WB (pre++[c]) (mA gA pre c state).st r
theorem z2j (c:Cmd):∀(l pre:List Cmd) (state:Nat),nA gA pre state (l++[c])=nA gA pre state l++[mA gA (pre++l) c (WB pre state l)]∧WB pre state (l++[c])=(mA gA (pre++l) c (WB pre state l)).st
 | [],pre,state=>by simp [nA,WB]
 | d::l,pre,state=>by
  obtain⟨a,b⟩:=z2j c l (pre++[d]) (mA gA pre d state).st;have e:pre++[d]++l=pre++d::l:=by rw[List.append_assoc];rfl
  rw[e]at a b;constructor
  ·simp only[List.cons_append,nA];rw[a];rfl
  ·exact b
theorem eZ:∀ {l:List Cmd},rC l=0→∀ c∈l,OA c=0
 | [],_,c,hc=>by cases hc
 | d::l,h,c,hc=>by
  unfold rC at h;split at h
  ·rename_i h1;exact absurd h h1
  ·rename_i h1
   rcases List.mem_cons.1 hc with rfl|hc
   ·omega
   ·exact eZ h c hc
theorem LW {l:List Cmd}(hc:∀ c∈l,OA c=0):∀k,k≤l.length→SetOk (l.take k)∧WB [] 0 (l.take k)∈stb
 | 0,_=>⟨zfS,by show 0∈stb;decide⟩
 | k+1,hk=>by
  obtain⟨S,T⟩:=LW hc k (by omega)
  have hlt:k<l.length:=by omega
  have h0:=hc _ (List.getElem_mem hlt)
  rw[List.take_succ_eq_append_getElem hlt];refine⟨zfT S h0,?_⟩;rw[(z2j l[k] (l.take k) [] 0).2,List.nil_append];cases AE h0 with
  | set h hs e=>rw[oF gA (by omega)];exact T
  | pad h0 h1 hb hl e=>rw[oF gA h1];exact T
  | go h hs e=>rw[XJ gA h];exact(TC hs).1
  | idle h h0 h1 e=>rw[YJ gA h];show 1∈stb;decide
  | scan h hs e=>
   unfold mA;rcases h with h|h
   ·rw[if_neg (by omega),if_neg (by omega),if_pos h];exact(TC S.s1).1
   ·rw[if_neg (by omega),if_neg (by omega),if_neg (by omega),if_pos h];exact(TC S.s2).1
end Go.Am
end
section
/- The reference: the signals of a program: three builders. -/
open Go
set_option linter.all false
namespace Go.Am
variable {h:aA} {K:kA}
def b3 (h:aA)(u1:Bool)(s1:List UInt8)(u2:Bool)(s2:List UInt8)(u3:Bool)(s3:List UInt8)(l:aA):aA:=
 h++bldB u1 h.length s1.length :: .row none (AA s1) 0::bldB u2 (h.length+2) s2.length :: .row none (AA s2) 0::bldB u3 (h.length+4) s3.length :: .row none (AA s3) 0::l
variable {u1 u2 u3:Bool} {s1 s2 s3 t:List UInt8} {l:aA}
end Go.Am
end
section
/- The reference: the signals of a program. -/
open Go
set_option linter.all false
namespace Go.Am
variable {h:aA} {K:kA}
attribute [-go_sem] PA
section
variable {u1 u2 u3:Bool} {s1 s2 s3:List UInt8} {l:aA} {o:Obj}
end
theorem zM:∀ (l pre:List Cmd) (s:Nat),(nA gA pre s l).length=l.length
 | [],_,_=>rfl
 | c::l,pre,s=>by simp [nA,zM l]
end Go.Am
end
section
/- The reference: the fault of a program. -/
open Go
set_option linter.all false
namespace Go.Am
variable {h:aA} {K:kA}
attribute [-go_sem] PA
theorem xI:∀ {l:List Cmd},(∀ c∈l,OA c=0)→rC l=0
 | [],_=>rfl
 | d::l,h=>by
  unfold rC;rw[if_neg (by rw[h d (List.mem_cons_self ..)];simp)]
  exact xI fun c hc=>h c (List.mem_cons_of_mem _ hc)
theorem fZ:∀ {l:List Cmd} {k:Nat} (hk:k<l.length),(∀ c∈l.take k,OA c=0)→OA l[k]≠0→rC l=OA l[k]
 | d::l,0,hk,_,h2=>by unfold rC;rw[if_pos (by simpa using h2)];rfl
 | d::l,k+1,hk,h1,h2=>by
  unfold rC;rw[if_neg (by rw[h1 d (by simp)];simp)]
  exact fZ (l:=l) (k:=k) (by simpa using hk) (fun c hc=>h1 c (by simp [hc])) (by simpa using h2)
end Go.Am
end
section
/- The reference: states,bits that are shifted. -/
open Go
set_option linter.all false
namespace Go.Am
variable {h:aA} {K:kA}
attribute [-go_sem] PA
theorem zez {l:List Cmd}(hc:∀ c∈l,OA c=0){k:Nat}(hk:k<l.length) :
 JB (WB [] 0 (l.take k)) (mA gA (l.take k) l[k] (WB [] 0 (l.take k))).tms=(mA gA (l.take k) l[k] (WB [] 0 (l.take k))).st∧zA (mA gA (l.take k) l[k] (WB [] 0 (l.take k))).tms=true:=by
 obtain⟨S,T⟩:=LW hc k (by omega)
 have h0:=hc _ (List.getElem_mem hk)
 have bz:∀n,zA (zs n)=true:=fun n=>by simp [zA,zs,mP]
 have ba:∀a b,zA a=true→zA b=true→zA (a++b)=true:=fun a b h1 h2=>by unfold zA at *;rw[List.all_append,h1,h2];rfl
 generalize WB [] 0 (l.take k)=state at T ⊢;generalize l.take k=pre at S ⊢;generalize l[k]=c at h0 ⊢;cases AE h0 with
 | set h hs e=>rw[oF gA (by omega)];exact⟨rfl,rfl⟩
 | pad h0 h1 hb hl e=>rw[oF gA h1];exact⟨rfl,rfl⟩
 | go h hs e=>
  rw[XJ gA h];have:=RC (JC T) (tE (TC hs).1);exact⟨this.2.2,this.1⟩
 | idle h h0 h1 e=>
  rw[YJ gA h];have:=RC (JC T) (show 1∈toS by decide)
  refine⟨?_,ba _ _ this.1 (bz _)⟩;show JB state (gA state 1++zs c.cl.toNat)=1
  rw[fF,this.2.2];exact(VM rfl _).2
 | scan h hs e=>
  obtain⟨q1,q2,q3,q4,q5,q6⟩:=RG hs;have hpos:=List.length_pos_iff.2 q1
  rcases h with h|h
  ·have ep:mA gA pre c state=yC (SC gA c state 11 12 (DA pre 3).b (DA pre 4).b (DA pre 1).s.toNat):=by
    unfold mA;rw[if_neg (by omega),if_neg (by omega),if_pos h]
   have hen:=(TC S.s1).1
   rw[ep,WJ gA c state 11 12 _ _ _ q1];refine⟨(nR AM T (.inl ⟨rfl,rfl⟩) hen _ (by simp only[List.length_append];omega)).1,?_⟩
   exact ba _ _ (ba _ _ (RC (JC T) (by decide)).1 (ba _ _ (bz _) rfl)) (RC (by decide) (tE hen)).1
  ·have ep:mA gA pre c state=yC (SC gA c state 4 5 (DA pre 5).b (DA pre 6).b (DA pre 2).s.toNat):=by
    unfold mA;rw[if_neg (by omega),if_neg (by omega),if_neg (by omega),if_pos h]
   have hen:=(TC S.s2).1
   rw[ep,WJ gA c state 4 5 _ _ _ q1];refine⟨(nR AM T (.inr ⟨rfl,rfl⟩) hen _ (by simp only[List.length_append];omega)).1,?_⟩
   exact ba _ _ (ba _ _ (RC (JC T) (by decide)).1 (ba _ _ (bz _) rfl)) (RC (by decide) (tE hen)).1
theorem CQ {l:List Cmd}{k:Nat}(hk:k<l.length):(nA gA [] 0 l)[k]?=some (mA gA (l.take k) l[k] (WB [] 0 (l.take k))):=by
 have key:∀(l pre:List Cmd) (s k:Nat) (hk:k<l.length),(nA gA pre s l)[k]?=some (mA gA (pre++l.take k) l[k] (WB pre s (l.take k))):=by
  intro l;induction l with
  | nil=>intro pre s k hk;simp at hk
  | cons c l ih=>
   intro pre s k hk;cases k with
   | zero=>simp [nA,WB]
   | succ k=>
    have:=ih (pre++[c]) (mA gA pre c s).st k (by simpa using hk)
    rw[nA,List.getElem?_cons_succ,this,List.append_assoc];rfl
 have:=key l [] 0 k hk;rwa [List.nil_append]at this
theorem z6h {l:List Cmd}(hc:∀ c∈l,OA c=0):zA (tA (nA gA [] 0 l))=true:=by
 unfold zA tA;rw[List.all_flatMap];rw[List.all_eq_true];intro p hp;obtain⟨k,hk⟩:=List.mem_iff_getElem?.1 hp;have hlt:k<l.length:=by
  have:=(List.getElem?_eq_some_iff.1 hk).1;rwa [zM]at this
 rw[CQ hlt]at hk;cases hk;exact(zez hc hlt).2
end Go.Am
end
section
/- The reference: StatesOf,ShiftedBits. -/
open Go
set_option linter.all false
namespace Go.Am
variable {h:aA} {K:kA}
attribute [-go_sem] PA
end Go.Am
end
section
/- The program: a program that is played. -/
open Go
set_option linter.all false
namespace Go.Am
variable {h l2:aA} {K:kA} {r:Run} {n:Nat} {o:Obj} {x:Esc}
attribute [-go_sem] PA splice
attribute [local go_sem] PG mK RH SH TH nK
theorem bX {l:aA}:(rh h r l)[h.length+6]?=l[0]?:=RH (n:=0)
theorem cX {l:aA}:(rh h r l).set (h.length+6) o=rh h r (l.set 0 o):=SH (n:=0)
theorem dX {l:aA}:(rh h r l).take (h.length+6)=rh h r (l.take 0):=TH (n:=0)
attribute [local go_sem] bX cX dX
structure RunI (r:Run) (k:Nat):Prop where
 R:RunOk r
 N:kI r
 st:r.st∈stb
 S:SetR r.se
 sl:r.sts.length=k
 fl:r.frs.length=k
theorem zfg (w:Bool):RunI (OB w) 0:=⟨⟨Nat.le_refl _,Nat.le_refl _,Nat.le_refl _⟩,⟨Nat.le_refl _,Nat.le_refl _⟩,by show 0∈stb;decide,⟨rfl,rfl,Nat.zero_le _,Nat.zero_le _,Nat.zero_le _,Nat.zero_le _⟩,rfl,rfl⟩
theorem zfU {s:Sett}{c:Cmd}(S:SetR s)(hc:OA c=0)(h1:1≤c.k∧c.k≤6):SetR (s.put c):=by
 have hb:c.k≤2→dC c.s=true:=fun h=>by
  cases AE hc with
  | set h hs e=>exact hs
  | pad h0 h1 hb hl e=>omega
  | go h hs e=>omega
  | idle h h0 h1 e=>omega
  | scan h hs e=>omega
 have hp:3≤c.k→c.b.length≤2000:=fun h=>by
  cases AE hc with
  | set h hs e=>omega
  | pad h0 h1 hb hl e=>exact hl
  | go h hs e=>omega
  | idle h h0 h1 e=>omega
  | scan h hs e=>omega
 obtain⟨s1,s2,a1,a2,a3,a4⟩:=S;unfold Sett.put;split
 ·exact⟨hb (by omega),s2,a1,a2,a3,a4⟩
 split
 ·exact⟨s1,hb (by omega),a1,a2,a3,a4⟩
 split
 ·exact⟨s1,s2,hp (by omega),a2,a3,a4⟩
 split
 ·exact⟨s1,s2,a1,hp (by omega),a3,a4⟩
 split
 ·exact⟨s1,s2,a1,a2,hp (by omega),a4⟩
 ·exact⟨s1,s2,a1,a2,a3,hp (by omega)⟩
theorem zfh {k:Nat}(I:RunI r k){c:Cmd}(hc:OA c=0):RunI (r.step gA c) (k+1)∧(r.step gA c).ck≤r.ck+20016:=by
 obtain⟨R,N,st,S,sl,fl⟩:=I;have setf:1≤c.k∧c.k≤6→RunI (r.step gA c) (k+1)∧(r.step gA c).ck≤r.ck+20016:=fun h1=>by
  rw[fI gA h1];exact⟨⟨⟨R.t,R.i,R.w⟩,N,st,zfU S hc h1,by simp [sl],by simp [fl]⟩,by dsimp only;omega⟩
 cases AE hc with
 | set h hs e=>exact setf (by omega)
 | pad h0 h1 hb hl e=>exact setf ⟨by omega,h1⟩
 | go hk hs e=>
  rw[QM gA hk];obtain⟨g1,g2,g3,g4,g5,g6,_,_⟩:=uB gA r c.s.toNat;obtain⟨n1,n2⟩:=TC hs;have R1:=VH (tov:=c.s.toNat) R
  have N1:=qK (tov:=c.s.toNat) N
  have pl:=(RC (JC st) (tE n1)).2.1
  refine⟨⟨⟨R1.t,R1.i,R1.w⟩,N1,?_,?_,?_,?_⟩,?_⟩
  ·show(r.go gA c.s.toNat).st∈stb;rw[g2];exact n1
  ·show SetR (r.go gA c.s.toNat).se;rw[g1];exact S
  ·simp [g3,sl]
  ·simp [g4,fl]
  ·show(r.go gA c.s.toNat).ck≤_;rw[xH];omega
 | idle hk h0 h1 e=>
  rw[xK gA hk];obtain⟨g1,g2,g3,g4,g5,g6,g7,g8⟩:=uB gA r 1;obtain⟨q1,q2,q3,q4,q5,q6,q7,q8⟩:=qC (r.go gA 1) (List.replicate c.cl.toNat (48,48,120));have R1:=UH (L:=List.replicate c.cl.toNat (48,48,120)) (VH (tov:=1) R)
  have N1:=qK (tov:=1) N
  have pl:=(RC (JC st) (show 1∈toS by decide)).2.1
  refine⟨⟨⟨R1.t,R1.i,R1.w⟩,?_,?_,?_,?_,?_⟩,?_⟩
  ·obtain⟨x,y⟩:=N1
   exact⟨by show Run.ni (Run.clk _ _)≤Run.ck (Run.clk _ _);rw[q7,q6];omega,by show Run.nd (Run.clk _ _)≤Run.ck (Run.clk _ _);rw[q8,q6];omega⟩
  ·show Run.st (Run.clk _ _)∈stb;rw[q2,g2];decide
  ·show SetR (Run.se (Run.clk _ _));rw[q1,g1];exact S
  ·simp [q3,g3,sl]
  ·simp [q4,g4,fl]
  ·show Run.ck (Run.clk _ _)≤_;rw[q6,xH,List.length_replicate];omega
 | scan hk hs e=>
  rw[yK gA hk];obtain⟨g3,g4,g1⟩:=z3q (r:=r) c;obtain⟨q1,q2,q3,q4,q5,q6⟩:=RG hs;have key:∀(sh ex:Nat) (en:Int) (hd tl:List UInt8) (r2:Run),sh∈toS→ex∈frS→dC en=true→hd.length≤2000→tl.length≤2000→RunOk r2→r2.ck=(r.go gA sh).ck→r2.ni≤r2.ck+(hd++c.b++tl).length→r2.nd≤r2.ck+(hd++c.b++tl).length →
   r.scn gA c=Run.go gA { Run.clk r2 (IA c hd (hd++c.b++tl)) with st:=ex } en.toNat→RunI { r.scn gA c with sts:=(r.scn gA c).sts++[(r.scn gA c).st],frs:=(r.scn gA c).frs++[r.scnF gA c] } (k+1)∧(r.scn gA c).ck≤r.ck+20016:=by
   intro sh ex en hd tl r2 m1 m2 m3 m4 m5 R2 m6 m7 m8 e;obtain⟨n1,n2⟩:=TC m3;have R3:=UH (L:=IA c hd (hd++c.b++tl)) R2
   have R4:=VH (r:={ Run.clk r2 (IA c hd (hd++c.b++tl)) with st:=ex }) (tov:=en.toNat) ⟨R3.t,R3.i,R3.w⟩
   have N4:=qK (r:={ Run.clk r2 (IA c hd (hd++c.b++tl)) with st:=ex }) (tov:=en.toNat) (by
    obtain⟨_,_,_,_,_,z1,z2,z3⟩:=qC r2 (IA c hd (hd++c.b++tl));have z4:=KM c hd (hd++c.b++tl)
    exact⟨by show Run.ni (Run.clk _ _)≤Run.ck (Run.clk _ _);omega,by show Run.nd (Run.clk _ _)≤Run.ck (Run.clk _ _);omega⟩)
   have st4:=(uB gA { Run.clk r2 (IA c hd (hd++c.b++tl)) with st:=ex } en.toNat).2.1
   have ck4:=xH (r:={ Run.clk r2 (IA c hd (hd++c.b++tl)) with st:=ex }) (tov:=en.toNat)
   have ck3:=LK (r:=r2) (L:=IA c hd (hd++c.b++tl))
   have ck2:=xH (r:=r) (tov:=sh)
   have p1:=(RC (JC st) m1).2.1
   have p2:=(RC m2 (tE n1)).2.1
   have z4:=KM c hd (hd++c.b++tl)
   simp only[List.length_append]at z4;rw[←e]at R4 N4 st4 ck4;refine⟨⟨⟨R4.t,R4.i,R4.w⟩,N4,by show(r.scn gA c).st∈stb;rw[st4];exact n1,by show SetR (r.scn gA c).se;rw[g1];exact S,by simp [g3,sl],by simp [g4,fl]⟩,?_⟩
   dsimp only at ck4;omega
  have N1:=fun sh=>qK (tov:=sh) N
  have R1:=fun sh=>VH (tov:=sh) R
  rcases hk with h7|h8
  ·refine key 11 12 r.se.e1.s r.se.h1.b r.se.t1.b { r.go gA 11 with ni:=(r.go gA 11).ni+(r.se.h1.b++c.b++r.se.t1.b).length } (by decide) (by decide) S.s1 S.h1 S.t1 ⟨(R1 11).t,(R1 11).i,(R1 11).w⟩ rfl ?_ ?_ (tX h7).1
   ·have:=(N1 11).1;dsimp only;omega
   ·have:=(N1 11).2;dsimp only;omega
  ·refine key 4 5 r.se.e2.s r.se.h2.b r.se.t2.b { r.go gA 4 with nd:=(r.go gA 4).nd+(r.se.h2.b++c.b++r.se.t2.b).length } (by decide) (by decide) S.s2 S.h2 S.t2 ⟨(R1 4).t,(R1 4).i,(R1 4).w⟩ rfl ?_ ?_ (sX h8).1
   ·have:=(N1 4).1;dsimp only;omega
   ·have:=(N1 4).2;dsimp only;omega
theorem z3i:eA X cJ [] h K=K (.p (.agg [eI 1,eI 1,eI 0,.str [],.str [],.str [],eI 2,eI 1,eI 0,.str [],.str [],.str [],eI 3,eI 0,eI 0,.str [],.str [],.str [],eI 4,eI 0,eI 0,.str [],.str [],.str [],eI 5,eI 0,eI 0,.str [],.str [],.str [],eI 6,eI 0,eI 0,.str [],.str [],.str []])) h []:=by
 refine CA ?_;rw[z7o rfl];simp only[KO,go_sem,splice]
set_option maxHeartbeats 4000000 in
theorem z3f (l:List Cmd)(hc:∀ c∈l,OA c=0)(hl:l.length≤1000)(p:AV)(w:Bool)(hp:(p = .nilp∧w=false)∨(∃ i,p = .ref i 0)∧w=true) :
 eA X GE [ACs l,p] h K=K (.ref (h.length+5) 0) (rh h ((OB w).play gA l) []) []:=by
 refine CA ?_;have main:∀Kx:Ex→St→Prop,(∀r,(OB w).play gA l=r→Kx .ret ⟨[(4,.ref (h.length+5) 0)],rh h r [],[]⟩)→RA (eA X) X.gl (.scope HH) (cD 0 (aG (eA X) X.gl wM Kx)) [(5,.ref (h.length+5) 0),(13,ACs l),(14,AI l.length),(15,AI 0)] (rh h (OB w) []) []:=by
  intro Kx hK;refine nB (fun t:Nat×Run=>⟨[(5,.ref (h.length+5) 0),(13,ACs l),(14,AI l.length),(15,AI t.1)],rh h t.2 [],[]⟩) (fun t=>t.1≤l.length∧RunI t.2 t.1∧t.2.ck≤50000∧(OB w).play gA l=t.2.play gA (l.drop t.1)) (fun t=>l.length-t.1) (0,OB w) rfl ⟨Nat.zero_le _,zfg w,Nat.zero_le _,rfl⟩ ?_
  rintro⟨k,r⟩ ⟨hk,I,hck,hpl⟩
  dsimp only at hk I hck hpl ⊢;rcases Nat.lt_or_ge k l.length with hlt|hge
  ·have hg:=sC jE hlt
   have w2:IntKind.i64.wrap ((k:Int)+1)=((k+1:Nat):Int):=GA _ (by omega) (by omega)
   have hdr:l.drop k=l[k]::l.drop (k+1):=(List.getElem_cons_drop hlt).symm
   rw[hdr]at hpl;have hpc:∀(c:Cmd) (L:List Cmd),r.play gA (c::L)=if 20000<r.ck then r else(r.step gA c).play gA L:=fun c L=>rfl
   rw[hpc]at hpl;have h0:=hc _ (List.getElem_mem hlt)
   by_cases hb:20000<r.ck
   ·have hb':(20000:Int)<(r.ck:Int):=by omega
    rw[if_pos hb]at hpl;simp only[go_sem,hlt,hg,QH,OG,hb',splice];exact hK r hpl
   ·have hb':¬(20000:Int)<(r.ck:Int):=by omega
    rw[if_neg hb]at hpl;have hs:=fun(l2:aA) (K':kA)=>zf9 (h:=h) (l:=l2) (K:=K') I.R I.N (by omega) I.st I.S (by rw[I.sl];omega) (by rw[I.fl];omega) l[k] h0
    obtain⟨I2,c2⟩:=zfh I h0;simp only[go_sem,hlt,hg,QH,OG,hb',hs,w2,splice];exact⟨(k+1,r.step gA l[k]),rfl,⟨by dsimp only;omega,I2,by dsimp only;omega,hpl⟩,by dsimp only;omega⟩
  ·obtain rfl:k=l.length:=by omega
   rw[List.drop_length]at hpl;simp only[go_sem,Nat.lt_irrefl];exact hK r hpl
 rcases hp with⟨rfl,rfl⟩|⟨⟨i,rfl⟩,rfl⟩
 ·rw[PY rfl]
  simp only[bL,go_sem,z3i,splice];refine main _ fun r e=>?_
  rw[e];have q1:h.length+5+1=h.length+6:=rfl
  have q2:max h.length (h.length+6)=h.length+6:=by omega
  simp only[go_sem,q1,q2,List.take_nil]
 ·rw[PY rfl]
  simp only[bL,go_sem,z3i,splice];refine main _ fun r e=>?_
  rw[e];have q1:h.length+5+1=h.length+6:=rfl
  have q2:max h.length (h.length+6)=h.length+6:=by omega
  simp only[go_sem,q1,q2,List.take_nil]
end Go.Am
end
section
/- The program: what is wrong with a program;clocks,signals,states,bits. -/
open Go
set_option linter.all false
namespace Go.Am
variable {h:aA} {K:kA} {r:Run} {n:Nat} {o:Obj} {x:Esc}
attribute [-go_sem] PA splice
attribute [local go_sem] PG mK RH SH TH nK bX cX dX QH aK OG bK cK dK eK fK iK jK
theorem ze6 {l:List Cmd}(hc:∀ c∈l,OA c=0)(w:Bool):20000<((OB w).play gA l).ck↔20000<(tA (nA gA [] 0 l)).length:=by
 have e:=xI hc
 constructor
 ·intro h
  rcases Nat.lt_or_ge 20000 (tA (nA gA [] 0 l)).length with h1|h1
  ·exact h1
  ·have:=(TW AM e w h1).1;omega
 ·intro h
  have:=(UW gA l (rel0 w) e).2;simp only[List.nil_append]at this;exact this h
theorem z3g (l:List Cmd)(hc:∀ c∈l,OA c=0)(hl:l.length≤1000):eA X GE [ACs l,.nilp] h K=K (.ref (h.length+5) 0) (rh h ((OB false).play gA l) []) []:=z3f l hc hl .nilp false (.inl ⟨rfl,rfl⟩)
theorem zfz (l:List Cmd)(hc:∀ c∈l,OA c=0)(hl:l.length≤1000)(i:Nat):eA X GE [ACs l,.ref i 0] h K=K (.ref (h.length+5) 0) (rh h ((OB true).play gA l) []) []:=z3f l hc hl _ true (.inr ⟨⟨i,rfl⟩,rfl⟩)
set_option maxHeartbeats 4000000 in
theorem z2S (l:List Cmd)(hok:∀ c∈l,CmdOk c)(hl:l.length≤1000000):eA X JF [ACs l] h K=K (AI (nC gA l:Nat)) h []:=by
 refine CA ?_;rw[z7a rfl];by_cases hbig:1000<l.length
 ·have h1:(1000:Int)<(l.length:Int):=by omega
  have e:nC gA l=2:=by unfold nC;rw[if_pos hbig]
  rw[e];simp only[ZK,go_sem,h1]
 have h1:¬(1000:Int)<(l.length:Int):=by omega
 simp only[ZK,go_sem,h1];refine nB (fun k:Nat=>⟨[(0,ACs l),(10,ACs l),(11,AI l.length),(12,AI k)],h,[]⟩) (fun k=>k≤l.length∧∀c∈l.take k,OA c=0) (fun k=>l.length-k) 0 rfl ⟨Nat.zero_le _,by simp⟩ ?_
 rintro k ⟨hk,hn⟩
 rcases Nat.lt_or_ge k l.length with hlt|hge
 ·have hg:=sC jE hlt
  have w2:IntKind.i64.wrap ((k:Int)+1)=((k+1:Nat):Int):=GA _ (by omega) (by omega)
  have hf:=fun(h':aA) (K':kA)=>zfx (h:=h') (K:=K') l[k] (hok _ (List.getElem_mem hlt))
  have hsn:OA l[k]=0→∀c∈l.take (k+1),OA c=0:=fun h0 c hc=>by
   rw[List.take_succ_eq_append_getElem hlt]at hc;rcases List.mem_append.1 hc with hc|hc
   ·exact hn c hc
   ·obtain rfl:c=l[k]:=by simpa using hc
    exact h0
  have hpf:OA l[k]≠0→nC gA l=OA l[k]:=fun h0=>by
   unfold nC;rw[if_neg (by omega),fZ hlt hn h0,if_pos h0]
  have hbr:=z74 (c:=l[k])
  have hkd:=z77 (c:=l[k])
  generalize l[k]=c at *;generalize hke:gJ c=ke at *;generalize hbc:HK c=bc at *;obtain⟨k0,s0,cl0,b0,w0,m0⟩:=c;obtain⟨k1,s1,cl1,b1,w1,m1⟩:=bc;dsimp only at hbr hkd hf hg;by_cases i1:k0<1
  ·have e:=hkd (by omega)
   rw[hpf (by omega),e]
   simp only[go_sem,hlt,hg,w2,hf,cC,i1,splice]
  by_cases i2:10<k0
  ·have e:=hkd (by omega)
   rw[hpf (by omega),e]
   simp only[go_sem,hlt,hg,w2,hf,cC,i1,i2,splice]
  have e:=hbr (by omega)
  by_cases i3:ke=0
  ·subst i3
   rw[if_neg (by simp)]at e
   by_cases i4:(⟨k1,s1,cl1,b1,w1,m1⟩:Cmd)=⟨k0,0,0,[],[],[]⟩
   ·rw[if_pos i4]at e
    simp only[go_sem,hlt,hg,w2,hf,cC,i1,i2,splice,eqa6,i4];exact⟨k+1,rfl,⟨by omega,hsn e⟩,by omega⟩
   ·rw[if_neg i4]at e
    rw[hpf (by omega),e]
    simp only[go_sem,hlt,hg,w2,hf,cC,i1,i2,splice,eqa6,i4]
  ·have i3':¬((ke:Nat):Int)=0:=by omega
   rw[if_pos i3]at e;rw[hpf (by omega),e]
   simp only[go_sem,hlt,hg,w2,hf,cC,i1,i2,splice,i3']
 ·obtain rfl:k=l.length:=by omega
  rw[List.take_length]at hn;have hs:=fun(h':aA) (K':kA)=>z3g (h:=h') (K:=K') l hn (by omega)
  have e:nC gA l=if 20000<(tA (nA gA [] 0 l)).length then 2 else 0:=by
   unfold nC;rw[if_neg (by omega),xI hn,if_neg (by simp)]
  rw[e];have hm:=ze6 hn false
  by_cases h2:20000<(tA (nA gA [] 0 l)).length
  ·have h3:=hm.2 h2
   have h2':(20000:Int)<(((OB false).play gA l).ck:Int):=by omega
   simp only[go_sem,Nat.lt_irrefl,Int.lt_irrefl,hs,h2,h2',splice]
  ·have h3:=fun q=>h2 (hm.1 q)
   have h2':¬(20000:Int)<(((OB false).play gA l).ck:Int):=by omega
   simp only[go_sem,Nat.lt_irrefl,Int.lt_irrefl,hs,h2,h2',splice]
theorem zfl (l:List Cmd)(hok:∀ c∈l,CmdOk c)(hl:l.length≤40):eA X JF [ACs l] h K=K (AI (nC gA l:Nat)) h []:=z2S l hok (by omega)
theorem z2o {l:List Cmd}(h:nC gA l=0):(∀c∈l,OA c=0)∧(tA (nA gA [] 0 l)).length≤20000∧l.length≤1000:=by
 unfold nC at h;split at h
 ·cases h
 split at h
 ·rename_i h1;exact absurd h h1
 split at h
 ·cases h
 ·rename_i h0 h1 h2
  exact⟨eZ (by omega),by omega,by omega⟩
theorem z28 {l:aA}:(rh h r l)[h.length+1]?=some (.row none (r.frs.map eN) 0):=by unfold rh;rw[tD];rfl
theorem z29 {l:aA}:(rh h r l)[h.length+2]?=some (.row none (AA r.tms) 0):=by unfold rh;rw[tD];rfl
theorem z2A {l:aA}:(rh h r l)[h.length+3]?=some (.row none (AA r.tdi) 0):=by unfold rh;rw[tD];rfl
attribute [local go_sem] z28 z29 z2A
def bitV (l:List Cmd):AV:=.tup [AI (if nC gA l=0 then(mB 0 (tA (nA gA [] 0 l))).count 11 else 0:Nat),AI (if nC gA l=0 then(mB 0 (tA (nA gA [] 0 l))).count 4 else 0:Nat),AI (nC gA l:Nat)]
theorem zfr (l:List Cmd)(hok:∀ c∈l,CmdOk c)(hl:l.length≤40):eA X WI [ACs l] h K=K (bitV l) h []:=by
 refine CA ?_;rw[z6Z rfl];have hk:=fun(h':aA) (K':kA)=>zfl (h:=h') (K:=K') l hok hl
 unfold bitV;by_cases h0:nC gA l=0
 ·obtain⟨hc,hn,_⟩:=z2o h0
  have hp:=fun(h':aA) (K':kA)=>z3g (h:=h') (K:=K') l hc (by omega)
  obtain⟨a1,a2,a3,a4,a5⟩:=TW AM (xI hc) false hn;simp only[YK,go_sem,hk,h0,hp,a3,a4,show((0:Nat):Int)=0 from rfl]
 ·have h0':¬((nC gA l:Nat):Int)=0:=by omega
  simp only[YK,go_sem,hk,h0,h0',show((0:Nat):Int)=0 from rfl]
def hbx (h:aA):aA:=h++[.box [AB true]]
theorem zf6 (l:List Cmd)(hc:∀ c∈l,OA c=0)(hl:l.length≤1000):eA X aM [ACs l] h K=K (.ref ((hbx h).length+5) 0) (rh (hbx h) ((OB true).play gA l) []) []:=by
 refine CA ?_;rw[z7m rfl];have hp:=fun(K':kA)=>zfz (h:=h++[.box [AB true]]) (K:=K') l hc (by omega) h.length
 have el:(h++[Obj.box [AB true]]).length=h.length+1:=by simp
 have el2:(hbx h).length=h.length+1:=by simp [hbx]
 have et:(rh (h++[Obj.box [AB true]]) ((OB true).play gA l) []).length=h.length+7:=by rw[PG,el];simp
 simp only[JO,go_sem,hp,splice];refine⟨by omega,by rw[el2],?_⟩
 exact List.take_of_length_le (by rw[et];omega)
end Go.Am
end
