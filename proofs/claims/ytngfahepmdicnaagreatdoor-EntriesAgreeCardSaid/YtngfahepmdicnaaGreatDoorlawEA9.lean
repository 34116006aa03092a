/- Texts of the proof, laid together: PEAg, PPdq, SpPdqE, SpPartE, SpPdqT, SpEMrg4, SpEMrg5, SpEMrg7, SpEMrg8, SpEMrg6, SpQFlo3, SpQFlo10, SpEMrg9, SpPath, SpReady, SpKeep, SpLawEA, Bridge, AmL2, AmL3. -/
import Derived.KernelRfl
import Derived.ProofKit
import Derived.Shelf.Strconv.Itoa3
import Derived.Lib.LaidTab
import Derived.Shelf.Strconv.AtoiAll
import Derived.Test.YtngfahepmdicnaaGreatDoorlawEA8
set_option linter.all false
section
/- Entries without undoing all count: plainly. -/
set_option linter.all false
namespace Go.Am
theorem z1W:∀ {U:List Ent},(∀x∈U,x.kind≠7)→YA U=U.map fun _=>true
 | [],_=>rfl
 | x::r,h=>by
  have ih:=z1W (U:=r) fun y hy=>h y (List.mem_cons_of_mem _ hy)
  unfold YA;rw[ih,List.map_cons];congr 1
  rw[Bool.not_eq_true',List.any_eq_false];intro y hy;have:=h y.1 (List.mem_cons_of_mem _ (List.of_mem_zip hy).1);unfold GS;simp [this]
theorem z5I (m:Nat):∀n:Nat,((List.range n).filter fun i=>decide (i<m)).length=min n m
 | 0=>by simp
 | n+1=>by
  rw[List.range_succ,List.filter_append,List.length_append,z5I m n];by_cases h:n<m
  ·simp [h];omega
  ·simp [h];omega
theorem zfe {l:List Ent}(h:WA l=0):l.Pairwise fun a b=>a.time≤b.time:=by
 obtain⟨s,_,_⟩:=gJ h;refine s.imp fun {a b} h=>?_
 have:=(SP (a:=a) (b:=b)).1 (by omega)
 omega
theorem zb5 {l:List Ent}(h:WA l=0)(h7:∀ x∈l,x.kind≠7)(at_:Int):(eF l at_).length=l.countP fun x=>decide (x.time≤at_):=by
 have ht:=zfe h
 have ul:=z0F l at_
 have hU:YA (upL l at_)=(upL l at_).map fun _=>true:=z1W fun x hx=>h7 x (List.mem_of_mem_take hx)
 have e:eF l at_=(List.range l.length).filter fun i=>decide (i<(upL l at_).length):=by
  unfold eF;congr 1
  funext i
  unfold DO;rw[hU,List.getD_eq_getElem?_getD,List.getElem?_map];by_cases hi:i<(upL l at_).length
  ·rw[List.getElem?_eq_getElem hi,decide_eq_true hi];rfl
  ·rw[List.getElem?_eq_none (by omega),decide_eq_false hi];rfl
 rw[e,z5I];generalize hm:(upL l at_).length=m at *;have k1:(l.take m).countP (fun x=>decide (x.time≤at_))=m:=by
  have:(l.take m).length=m:=by rw[List.length_take];omega
  conv=>rhs;rw[←this]
  rw[List.countP_eq_length];intro x hx;obtain⟨i,hi,rfl⟩:=List.mem_take_iff_getElem.1 hx;exact decide_eq_true ((z6V ht at_ i (by omega)).1 (by omega))
 have k2:(l.drop m).countP (fun x=>decide (x.time≤at_))=0:=by
  rw[List.countP_eq_zero];intro x hx;obtain⟨i,hi,rfl⟩:=List.mem_drop_iff_getElem.1 hx;have:=z6V ht at_ (m+i) (by omega)
  have n:¬l[m+i].time≤at_:=fun q=>by have:=this.2 q;omega
  simpa using n
 have:=List.countP_append (p:=fun x:Ent=>decide (x.time≤at_)) (l₁:=l.take m) (l₂:=l.drop m)
 rw[List.take_append_drop,k1,k2]at this;omega
def mC (x:List Ent):List Ent:=x.filter fun d=>!decide (d.kind=7)
def jH (x:List Ent)(at_:Int):Nat:=(mC x).countP fun d=>decide (d.time≤at_)
theorem YM (x:List Ent):(mC x).Sublist x:=List.filter_sublist
theorem z5x {x:List Ent}{k:Nat}(hk:k<x.length):mC (x.take (k+1))=mC (x.take k)++(if x[k].kind=7 then [] else [x[k]]):=by
 unfold mC;rw[List.take_succ_eq_append_getElem hk,List.filter_append];congr 1
 by_cases h:x[k].kind=7
 ·simp [h]
 ·simp [h]
theorem zny {x:List Ent}{k:Nat}(hk:k<x.length)(at_:Int):jH (x.take (k+1)) at_=jH (x.take k) at_+(if x[k].kind=7 then 0 else if x[k].time≤at_ then 1 else 0):=by
 unfold jH;rw[z5x hk,List.countP_append];congr 1
 by_cases h:x[k].kind=7
 ·simp [h]
 ·by_cases h2:x[k].time≤at_
  ·simp [h,h2]
  ·simp [h,h2]
theorem znx (x:List Ent)(at_:Int):jH x at_≤x.length:=Nat.le_trans List.countP_le_length (YM x).length_le
theorem zhZ {x:List Ent}(h:WA x=0)(at_:Int):WA (mC x)=0∧(eF (mC x) at_).length=jH x at_:=by
 have h1:=LL h (YM x)
 exact⟨h1,zb5 h1 (fun y hy=>by have:=(List.mem_filter.1 hy).2;simpa using this) at_⟩
end Go.Am
end
section
/- A list cut at a pivot and sorted on yD sides: plain. -/
namespace Go.Am
variable {α:Type}
structure PartI (lt:α→α→Bool) (l R:List α) (p:α) (i j:Nat):Prop where
 pm:R.Perm l
 z:R[0]?=some p
 i1:1≤i
 ij:i≤j+1
 jn:j<R.length
 lo:∀t,1≤t→t<i→∀y,R[t]?=some y→lt y p=true
 hi:∀t,j<t→∀y,R[t]?=some y→lt y p=false
theorem PartI.up {lt:α→α→Bool}{l R:List α}{p:α}{i j:Nat}(h:PartI lt l R p i j)(hij:i≤j){y:α}(hy:R[i]?=some y)(hl:lt y p=true):PartI lt l R p (i+1) j:=
 ⟨h.pm,h.z,by omega,by omega,h.jn,fun t h1 h2 z hz=>by
  by_cases e:t=i
  ·subst e;rw[hy]at hz;cases hz;exact hl
  ·exact h.lo t h1 (by omega) z hz,h.hi⟩
theorem PartI.dn {lt:α→α→Bool}{l R:List α}{p:α}{i j:Nat}(h:PartI lt l R p i j)(hij:i≤j){y:α}(hy:R[j]?=some y)(hl:lt y p=false):PartI lt l R p i (j-1):=
 ⟨h.pm,h.z,h.i1,by omega,by have:=h.jn;omega,h.lo,fun t h1 z hz=>by
  have:=h.i1;by_cases e:t=j
  ·subst e;rw[hy]at hz;cases hz;exact hl
  ·exact h.hi t (by omega) z hz⟩
end Go.Am
end
section
/- Sorting 13 or 14 entries: printed by program. -/
open Go
set_option linter.unusedSimpArgs false
namespace Go.Am
attribute [-go_sem] PV.cells splice
variable {h:aA} {K:kA}
end Go.Am
end
section
/- Cutting a list of entries at a pivot: printed by program. -/
open Go
set_option linter.unusedSimpArgs false
namespace Go.Am
attribute [-go_sem] PV.cells splice
variable {h:aA} {K:kA}
section
variable {K:Ex→St→Prop} {id i j:Nat} {l R:List PV} {p:PV} {g:Nat} {caps:List AV} {c:PV→PV→Int} {env:List (Nat × AV)}
theorem PartI.lens (hP:PartI (ltC c) l R p i j):R.length=l.length:=hP.pm.length_eq
theorem PartI.mems (hP:PartI (ltC c) l R p i j):∀x∈R,x∈l:=fun _ h=>hP.pm.mem_iff.1 h
theorem PartI.shp {sh:Sh}(hs:LC sh l)(hP:PartI (ltC c) l R p i j):LC sh R:=fun x h=>hs x (hP.mems x h)
end
end Go.Am
end
section
/- Sorting 13 or 14 entries,whole: printed by program. -/
open Go
set_option linter.unusedSimpArgs false
namespace Go.Am
attribute [-go_sem] PV.cells splice
variable {h:aA} {K:kA}
end Go.Am
end
section
/- Entries tB: the reference's walk. -/
open Go
set_option linter.all false
namespace Go.Am
variable {h:aA} {K:kA}
attribute [-go_sem] ZA
end Go.Am
end
section
/- An entry written: yD ways. -/
open Go
set_option linter.all false
namespace Go.Am
variable {h:aA} {K:kA}
attribute [-go_sem] ZA splice
end Go.Am
end
section
/- An entry written: the reference. -/
open Go
set_option linter.all false
namespace Go.Am
variable {h:aA} {K:kA}
attribute [-go_sem] ZA splice
end Go.Am
end
section
/- An entry written: the reference's loops. -/
open Go
set_option linter.all false
namespace Go.Am
variable {h:aA} {K:kA}
attribute [-go_sem] ZA
end Go.Am
end
section
/- An entry written: the loops. -/
open Go
set_option linter.all false
namespace Go.Am
variable {h:aA} {K:kA}
attribute [-go_sem] ZA
end Go.Am
end
section
/- The reference: which entries count. -/
open Go
set_option linter.all false
set_option maxRecDepth 100000
namespace Go.Am
variable {h:aA} {K:kA}
attribute [-go_sem] ZA vB EB JC WG XG splice
end Go.Am
end
section
/- What the laws of boards followed ask besides: flows drawn,faults,equal lists. -/
open Go
set_option linter.all false
set_option maxRecDepth 100000
namespace Go.Am
variable {h:aA} {K:kA} {L:List Int} {a:Int}
attribute [-go_sem] ZA
end Go.Am
end
section
/- Which entries count: the program's walk;an entry drawn. -/
open Go
set_option linter.all false
set_option maxRecDepth 100000
namespace Go.Am
variable {h:aA} {K:kA} {L:List Int} {a:Int}
attribute [-go_sem] ZA
def RC (U:List Ent)(k:Nat):List Nat:=(List.range k).filter fun i=>(YA U).getD i false
theorem zgc (U:List Ent)(k:Nat):RC U (k+1)=RC U k++(if(YA U).getD k false=true then [k] else []):=by
 unfold RC;rw[List.range_succ,List.filter_append,List.filter_cons,List.filter_nil]
theorem zgb (U:List Ent)(k:Nat):(RC U k).length≤k:=by
 unfold RC;have:=List.length_filter_le (fun i=>(YA U).getD i false) (List.range k)
 rw[List.length_range]at this;exact this
def lL (l:List Ent)(at_:Int):List Int×Int:=if orL [WA l,jG at_]≠0 then([],orL [WA l,jG at_]) else((eF l at_).map fun(i:Nat)=>(i:Int),0)
theorem zlM (l:List Ent)(at_:Int)(hr:∀ y∈l,EntOk y)(hl:l.length≤1000):bA X NG [lB l,AI at_] h K=K (.tup [AL (lL l at_).1,AI (lL l at_).2]) h []:=by
 refine xA ?_;rw[zaE rfl];have q1:=fun h K=>CN (h:=h) (K:=K) l hr (by omega)
 have q2:=fun h K=>zmn (h:=h) (K:=K) at_
 have q3:=fun h K=>z6h (h:=h) (K:=K) [WA l,jG at_] (by simp)
 simp only[AL,List.map_cons,List.map_nil]at q3;unfold lL;by_cases he:orL [WA l,jG at_]=0
 ·rw[if_neg (by simp [he])]
  rw[he]at q3;have q4:=fun h K=>zmw (h:=h) (K:=K) l at_ (by omega)
  have ul:=z0F l at_
  have q5:=fun h K=>zmg (h:=h) (K:=K) (upL l at_) (by omega)
  have cl:((YA (upL l at_)).map zB).length=(upL l at_).length:=by rw[List.length_map,JH]
  have fin:eF l at_=RC (upL l at_) (upL l at_).length:=by rw[zga];unfold RC;rw[List.range_eq_range']
  rw[fin];generalize hU:upL l at_=U at *;have hcb:(YA U).length=U.length:=JH U
  simp only[CL,go_sem,↓q1,q1,↓q2,q2,↓q3,q3,↓q4,q4,↓q5,q5,cl,hcb];refine NA (fun k:Nat=>⟨[(7,.own h.length (RC U k).length 0 (RC U k).length),(22,.p (.sl none ((YA U).map zB))),(23,AI U.length),(24,AI k)],h++[.row none ((RC U k).map fun(i:Nat)=>eI (i:Int)) 0],[]⟩) (fun k=>k≤U.length) (fun k=>U.length-k) 0 rfl (by omega) ?_
  intro k hk;rcases Nat.lt_or_ge k U.length with hlt|hge
  ·have hc:(k:Int)<(U.length:Int):=by omega
   have wk:IntKind.i64.wrap ((k:Int)+1)=((k+1:Nat):Int):=nA _ (by omega) (by omega)
   have hkc:k<(YA U).length:=by omega
   have g:=TB zB hkc
   have gd:(YA U).getD k false=(YA U)[k]:=by rw[List.getD_eq_getElem?_getD,List.getElem?_eq_getElem hkc];rfl
   have hx:=zgc U k
   rw[gd]at hx;have hle:=zgb U k
   have ml:((RC U k).map fun(i:Nat)=>eI (i:Int)).length=(RC U k).length:=List.length_map ..
   have m1:(RC U k).length+1≤UA:=by unfold UA;omega
   cases hcn:(YA U)[k]with
   | true=>
    rw[hcn]at g hx;rw[if_pos rfl]at hx;simp only[zB]at g;simp only[go_sem,hc,hlt,g,wk,m1,ml];refine⟨k+1,?_,by omega,by omega⟩
    rw[hx];simp
   | false=>
    rw[hcn]at g hx;rw[if_neg (by simp),List.append_nil]at hx
    simp only[zB]at g;simp only[go_sem,hc,hlt,g,wk,m1,ml];refine⟨k+1,?_,by omega,by omega⟩
    rw[hx]
  ·have e:k=U.length:=by omega
   subst e;have ml:((RC U U.length).map fun(i:Nat)=>eI (i:Int)).length=(RC U U.length).length:=List.length_map ..
   have hw:win ((RC U U.length).map fun(i:Nat)=>eI (i:Int)) 0 (RC U U.length).length=(RC U U.length).map fun(i:Nat)=>eI (i:Int):=oH (by simp)
   simp only[go_sem,Int.lt_irrefl,ml,hw];simp [AL]
 ·rw[if_pos he]
  have e12:IA .neq (.p (.int .i64 (orL [WA l,jG at_]))) (.p (.int .i64 0))=some (AB true):=by simp only[go_sem,he]
  simp only[CL,go_sem,↓q1,q1,↓q2,q2,↓q3,q3,↓e12];rfl
end Go.Am
end
section
/- The shortest way between two states of a test access port: a search UD a queue. -/
open Go
set_option linter.all false
namespace Go.Am
variable {h:aA} {K:kA}
attribute [-go_sem] vB EB WG XG
def nxtT:List (List Nat):=[[1,0],[1,2],[3,9],[4,5],[4,5],[6,8],[6,7],[4,8],[1,2],[10,0],[11,12],[11,12],[13,15],[13,14],[11,15],[1,2]]
def nxt (s t:Nat):Nat:=(nxtT.getD s []).getD t 0
theorem zib {s t:Nat}(hs:s<16)(ht:t<2):([AI 1,AI 0,AI 1,AI 2,AI 3,AI 9,AI 4,AI 5,AI 4,AI 5,AI 6,AI 8,AI 6,AI 7,AI 4,AI 8,AI 1,AI 2,AI 10,AI 0,AI 11,AI 12,AI 11,AI 12,AI 13,AI 15,AI 13,AI 14,AI 11,AI 15,AI 1,AI 2]:List AV)[s*2+t*1]?=some (AI (nxt s t)):=by
 have hs':s=0∨s=1∨s=2∨s=3∨s=4∨s=5∨s=6∨s=7∨s=8∨s=9∨s=10∨s=11∨s=12∨s=13∨s=14∨s=15:=by omega
 have ht':t=0∨t=1:=by omega
 rcases hs' with rfl|rfl|rfl|rfl|rfl|rfl|rfl|rfl|rfl|rfl|rfl|rfl|rfl|rfl|rfl|rfl <;> rcases ht' with rfl|rfl <;> rfl
theorem zfJ {Y:Ctx}(hY:Y.fn fI=some bL)(s t:Nat)(hs:s<16)(ht:t<2):bA Y fI [AI s,AI t] h K=K (AI (nxt s t)) h []:=by
 refine xA ?_;rw[yA hY rfl (show mA h [AI s,AI t]=some ([AI s,AI t],h) from rfl) rfl,zeQ]
 show cX _ _ _ _ _ _ (oA [.t 4] false _ _)
 have g:=zib hs ht
 simp only[cX,go_sem,hs,ht,g]
abbrev YC:=List (Int × List UInt8)
def bD (n:Int):PV:=.int .i64 n
def eD (s:List UInt8):AV:=.p (.str s)
def vH (t:Nat):List UInt8:=[UInt8.ofNat (48+t)]
def nH (at_ t:Nat)(s:YC × List Nat):YC×List Nat:=
 if(RA (nxt at_ t:Int) s.1).isSome then s else(VB (nxt at_ t:Int) ((RA (at_:Int) s.1).getD []++vH t) s.1,s.2++[nxt at_ t])
def pG (at_:Nat):Nat→YC×List Nat→YC×List Nat
 | 0,s=>s
 | t+1,s=>nH at_ t (pG at_ t s)
def popS (s:YC × List Nat):YC×List Nat:=match s.2 with
 | []=>s
 | a::r=>pG a 2 (s.1,r)
def bfs (a:Nat):Nat→YC×List Nat
 | 0=>([((a:Int),[])],[a])
 | k+1=>popS (bfs a k)
def z0d (a b:Nat):List UInt8:=(RA (b:Int) (bfs a 16).1).getD []
def yJ (s:YC × List Nat):Bool:=decide (s.1.length≤16)&&decide (s.2.length≤16)&&s.2.all (fun x=>decide (x<16))&&s.1.all (fun e=>decide (e.2.length≤16))
theorem z14:(List.range 16).all (fun a=>(List.range 16).all (fun k=>yJ (bfs a k) && !(bfs a k).2.isEmpty)&&yJ (bfs a 16)&&(bfs a 16).2.isEmpty)=true:=by kernel_rfl
theorem z92 {a k:Nat}(ha:a<16)(hk:k<16):yJ (bfs a k)=true∧(bfs a k).2≠[]:=by
 have h1:=List.all_eq_true.1 z14 a (List.mem_range.2 ha)
 simp only[Bool.and_eq_true]at h1;have h2:=List.all_eq_true.1 h1.1.1 k (List.mem_range.2 hk)
 simp only[Bool.and_eq_true,Bool.not_eq_true',List.isEmpty_eq_false_iff]at h2;exact h2
theorem z91 {a:Nat}(ha:a<16):yJ (bfs a 16)=true∧(bfs a 16).2=[]:=by
 have h1:=List.all_eq_true.1 z14 a (List.mem_range.2 ha)
 simp only[Bool.and_eq_true,List.isEmpty_iff]at h1;exact⟨h1.1.2,h1.2⟩
theorem zf2 {s:YC × List Nat}(hf:yJ s=true):s.1.length≤16∧s.2.length≤16∧(∀x∈s.2,x<16)∧∀e∈s.1,e.2.length≤16:=by
 unfold yJ at hf;simp only[Bool.and_eq_true,decide_eq_true_eq,List.all_eq_true]at hf;exact⟨hf.1.1.1,hf.1.1.2,hf.1.2,hf.2⟩
theorem z4Z {hp:aA}{id:Nat}{m:YC}{b:Int}(hh:hp[id]?=some (JA bD eD m)):vB (none,[0]) false (.p (.str [])) (.mp id) (AI b) hp=some (.p (.str ((RA b m).getD []))):=by
 have:=TM (key:=bD) (val:=eD) (fun a b=>cY a b) hh (kk:=(none,[0])) (k:=b) dY (ok:=false) (z:=.p (.str []))
 rw[cond_false]at this;refine this.trans ?_;cases RA b m <;> rfl
theorem lookQ {hp:aA}{id:Nat}{m:YC}{b:Int}(hh:hp[id]?=some (JA bD eD m)):vB (none,[0]) true (.p (.str [])) (.mp id) (AI b) hp=some (.tup [.p (.str ((RA b m).getD [])),AB (RA b m).isSome]):=by
 have:=TM (key:=bD) (val:=eD) (fun a b=>cY a b) hh (kk:=(none,[0])) (k:=b) dY (ok:=true) (z:=.p (.str []))
 rw[cond_true]at this;refine this.trans ?_;cases RA b m <;> rfl
theorem updP {hp:aA}{id:Nat}{m:YC}{b:Int}{v:List UInt8}(hh:hp[id]?=some (JA bD eD m)):EB (none,[0]) (.mp id) (AI b) (.p (.str v)) hp=some (.und,hp.set id (JA bD eD (VB b v m)),[]):=
 EQ (key:=bD) (val:=eD) (fun a b=>cY a b) hh (kk:=(none,[0])) (k:=b) dY (v:=v) rfl
structure Que (R:aA) (i:Nat) (xs:List Nat) (off:Nat) (q:List Nat):Prop where
 get:R[i]?=some (.row none (xs.map fun n:Nat=>eI n) 0)
 le:off≤xs.length
 eq:xs.drop off=q
theorem zia {hp:aA}{id:Nat}{xs:List Nat}{off:Nat}{n:Int}{k:AV→aA→Esc→Prop}(hh:hp[id]?=some (.row none (xs.map fun n:Nat=>eI n) 0))(ho:off≤xs.length)(hm:xs.length≤1000000)
 (k1:k (.own id (xs.length+1) off (xs.length-off+1)) (hp.set id (.row none (xs.map (fun n:Nat=>eI n)++[eI n]) 0)) [])
 (k2:k (.own hp.length (xs.length-off+1) 0 (xs.length-off+1)) (hp++[.row none ((xs.drop off).map (fun n:Nat=>eI n)++[eI n]) 0]) []) :
 nqK (some none) [.own id xs.length off (xs.length-off),.p (.sl none [eI n])] hp k:=by
 have hx:xs.length-off+1≤UA:=by unfold UA;omega
 have hr:rds hp (.p (.sl none [eI n]))=some (none,[eI n]):=rfl
 have hw:win (xs.map fun n:Nat=>eI n) off (xs.length-off)=(xs.drop off).map fun n:Nat=>eI n:=by
  unfold win;rw[←List.map_drop];exact List.take_of_length_le (by simp)
 unfold nqK DH appq;simp only[hr,if_true,hh,List.length_map,List.length_cons,List.length_nil,Nat.zero_add];rw[if_pos ⟨trivial,trivial,by omega,hx,Nat.zero_le _⟩,hw]
 refine⟨by simp,fun y hy=>?_⟩
 simp only[List.mem_cons,List.not_mem_nil,or_false]at hy;rcases hy with rfl|rfl
 ·exact k1
 ·exact k2
theorem z5f {α β:Type}[DecidableEq α]{k:α}{v:β}:∀{l:List (α×β)} {e:α×β},e∈VB k v l→e∈l∨e=(k,v)
 | [],e,h=>by simp [VB]at h;exact .inr h
 | x::r,e,h=>by
  unfold VB at h;split at h
  ·rcases List.mem_cons.1 h with h|h
   ·exact .inr h
   ·exact .inl (List.mem_cons_of_mem _ h)
  ·rcases List.mem_cons.1 h with h|h
   ·exact .inl (h ▸ List.mem_cons_self)
   ·rcases z5f h with h|h
    ·exact .inl (List.mem_cons_of_mem _ h)
    ·exact .inr h
theorem z42 {α β:Type}[DecidableEq α]{k:α}{v:β}:∀{l:List (α×β)},RA k l=some v→(k,v)∈l
 | [],h=>by cases h
 | x::r,h=>by
  unfold RA at h;split at h
  ·rename_i he;cases h;subst he;simp
  ·exact List.mem_cons_of_mem _ (z42 h)
theorem z7c {n:Nat}{w:YC}(hw:∀ e∈w,e.2.length≤n)(k:Int):((RA k w).getD []).length≤n:=by
 cases hg:RA k w with
 | none=>simp
 | some v=>exact hw _ (z42 hg)
theorem znK {n at_ t:Nat}{s:YC × List Nat}(hw:∀ e∈s.1,e.2.length≤n):∀e∈(nH at_ t s).1,e.2.length≤n+1:=by
 unfold nH;split
 ·intro e he;have:=hw e he;omega
 ·intro e he
  rcases z5f he with h|h
  ·have:=hw e h;omega
  ·subst h
   have:=z7c hw (at_:Int);simp [vH];omega
theorem z6X {n at_:Nat}{s:YC × List Nat}(hw:∀ e∈s.1,e.2.length≤n):∀(t:Nat),∀e∈(pG at_ t s).1,e.2.length≤n+t
 | 0=>hw
 | t+1=>znK (z6X hw t)
set_option maxHeartbeats 1000000 in
theorem zfI {Y:Ctx}(hY1:Y.fn gI=some mO)(hY2:Y.fn fI=some bL)(a b:Nat)(ha:a<16)(hb:b<16):bA Y gI [AI a,AI b] h K=K (.p (.str (z0d a b))) h []:=by
 refine xA ?_;rw[vU hY1 rfl (show mA h [AI a,AI b]=some ([AI a,AI b],h) from rfl) rfl]
 simp only[zeR];show ∃v h' x,_∧JP _ _ _ _ _ _ _ _ (oA [.t 4] false _ _)
 simp only[JP];refine⟨_,_,_,⟨rfl,rfl,rfl⟩,?_⟩;have em:JA bD eD [((a:Int),([]:List UInt8))] = .amap [⟨.int .i64 a,.p (.str []),0⟩] 1:=rfl
 have u0:=fun(hp:aA) (hh:hp[h.length]?=some (JA bD eD []))=>updP (b:=(a:Int)) (v:=[]) hh
 have e0:VB (a:Int) [] ([]:YC)=[((a:Int),[])]:=rfl
 have em0:JA bD eD ([]:YC) = .amap [] 0:=rfl
 rw[e0]at u0;simp only[em0]at u0;simp only[go_sem,u0];refine NA (fun t:Nat×aA×Nat×List Nat×Nat×Option Nat=>⟨[(1,AI b),(5,.mp h.length),(6,.own (h.length+(t.2.2.1+1)) t.2.2.2.1.length t.2.2.2.2.1 (t.2.2.2.1.length-t.2.2.2.2.1))]++(match t.2.2.2.2.2 with|none=>[]|some q=>[(7,AI q),(25,AI 2),(26,AB false)]),h++JA bD eD (bfs a t.1).1::t.2.1,[]⟩)
  (fun t=>t.1≤16∧Que t.2.1 t.2.2.1 t.2.2.2.1 t.2.2.2.2.1 (bfs a t.1).2∧t.2.2.2.1.length≤1+2*t.1) (fun t=>16-t.1) (0,[.row none [eI a] 0],0,[a],0,none) (by simp [bfs]) ⟨by simp,⟨rfl,by simp,rfl⟩,by simp⟩ ?_
 rintro⟨k,R,i,xs,off,oq⟩ ⟨h1,hq,h2⟩
 dsimp only at h1 hq h2 ⊢;have hqg:=hq.get
 have hle:=hq.le
 have heq:=hq.eq
 have hln:xs.length-off=(bfs a k).2.length:=by rw[←heq];simp
 by_cases hk:k<16
 ·obtain⟨hf,hne⟩:=z92 ha hk
  obtain⟨f1,f2,f3,f4⟩:=zf2 hf;have hpos:0<xs.length-off:=by rw[hln];exact List.length_pos_iff.2 hne
  have hoff:off<xs.length:=by omega
  obtain⟨q0,qr,hqe⟩:∃q0 qr,(bfs a k).2=q0::qr:=by
   cases hb2:(bfs a k).2 with
   | nil=>exact absurd hb2 hne
   | cons x y=>exact⟨x,y,rfl⟩
  have hx0:xs[off]?=some q0:=by
   have:(xs.drop off)[0]?=some q0:=by rw[heq,hqe];rfl
   rwa [List.getElem?_drop,Nat.add_zero]at this
  have hdr:xs.drop (off+1)=qr:=by
   rw[←List.drop_drop,heq,hqe];rfl
  have hq0:q0<16:=f3 q0 (by rw[hqe];simp)
  have hgq:(xs.map fun n:Nat=>eI n)[off]?=some (eI q0):=by rw[List.getElem?_map,hx0];rfl
  have hpi:(0:Int)<((xs.length-off:Nat):Int):=by omega
  have hl1:1≤xs.length-off:=by omega
  have hbn:bfs a (k+1)=pG q0 2 ((bfs a k).1,qr):=by show popS _=_;unfold popS;rw[hqe]
  have e3:xs.length-off-1=xs.length-(off+1):=by omega
  have hcond:off+(xs.length-off)≤xs.length:=by omega
  have hNL:∀(e:List (Nat×AV)),AA (some [1,5,6,7,25]) e=AA (some [1,5,6,7,25]) e:=fun _=>rfl
  rcases oq with _|oq
  all_goals
  simp only[List.append_nil,List.cons_append,List.nil_append,go_sem,List.getElem?_cons_succ,hqg,hpi,hpos,hgq,hl1,hcond];all_goals
  clear u0 em em0 e0;generalize hw0:((bfs a k).1,qr)=s0 at *;have es1:(bfs a k).1=s0.1:=by rw[←hw0]
  have es2:qr=s0.2:=by rw[←hw0]
  rw[es1,e3];refine NA (fun t:Nat×aA×Nat×List Nat×Nat=>⟨[(1,AI b),(5,.mp h.length),(6,.own (h.length+(t.2.2.1+1)) t.2.2.2.1.length t.2.2.2.2 (t.2.2.2.1.length-t.2.2.2.2)),(7,AI q0),(25,AI t.1)],h++JA bD eD (pG q0 t.1 s0).1::t.2.1,[]⟩)
   (fun t=>t.1≤2∧Que t.2.1 t.2.2.1 t.2.2.2.1 t.2.2.2.2 (pG q0 t.1 s0).2∧t.2.2.2.1.length≤1+2*k+t.1) (fun t=>2-t.1) (0,R,i,xs,off+1) rfl ⟨by simp,⟨hqg,hoff,by rw[hdr,es2];rfl⟩,by simp;omega⟩ ?_
  rintro⟨j,R',i',ys,of'⟩ ⟨j1,jq,j2⟩
  dsimp only at j1 jq j2 ⊢;have jg:=jq.get
  have jle:=jq.le
  have jeq:=jq.eq
  by_cases hj:j<2
  ·have hji:(j:Int)<2:=by omega
   have qn:=fun h K=>zfJ (h:=h) (K:=K) hY2 q0 j hq0 hj
   have hvis:pG q0 (j+1) s0=nH q0 j (pG q0 j s0):=rfl
   generalize hsj:pG q0 j s0=s at *;have lq:=fun(hp:aA) (hh:hp[h.length]?=some (JA bD eD s.1))=>lookQ (b:=(nxt q0 j:Int)) hh
   have lp:=fun(hp:aA) (hh:hp[h.length]?=some (JA bD eD s.1))=>z4Z (b:=(q0:Int)) hh
   have up:=fun(hp:aA) (v:List UInt8) (hh:hp[h.length]?=some (JA bD eD s.1))=>updP (b:=(nxt q0 j:Int)) (v:=v) hh
   have w1:IntKind.i64.wrap ((j:Int)+1)=((j+1:Nat):Int):=nA _ (by omega) (by omega)
   cases hs:(RA (nxt q0 j:Int) s.1).isSome with
   | true=>
    have hv:nH q0 j s=s:=by unfold nH;rw[if_pos hs]
    rw[hv]at hvis;simp only[go_sem,hji,↓qn,qn,lq,hs,w1];exact⟨(j+1,R',i',ys,of'),by dsimp only;rw[hvis],⟨by dsimp only;omega,by dsimp only;rw[hvis];exact jq,by dsimp only;omega⟩,by dsimp only;omega⟩
   | false=>
    have hv:nH q0 j s=(VB (nxt q0 j:Int) ((RA (q0:Int) s.1).getD []++vH j) s.1,s.2++[nxt q0 j]):=by unfold nH;rw[hs];rfl
    rw[hv]at hvis;have w2:IntKind.i64.wrap (48+(j:Int))=((48+j:Nat):Int):=nA _ (by omega) (by omega)
    have w3:IntKind.i32.wrap ((48+j:Nat):Int)=((48+j:Nat):Int):=by
     have:j=0∨j=1:=by omega
     rcases this with rfl|rfl <;> rfl
    have w4:(0:Int)≤((48+j:Nat):Int)∧((48+j:Nat):Int)<128:=by omega
    have hln2:=z7c (z6X (n:=16) (at_:=q0) (s:=s0) (by rw[←es1];exact f4) j) (q0:Int)
    rw[hsj]at hln2;have w5:((RA (q0:Int) s.1).getD []).length+(vH j).length≤AF:=by have:(vH j).length=1:=rfl;unfold AF;omega
    have w6:[UInt8.ofNat ((48+j:Nat):Int).toNat]=vH j:=rfl
    simp only[go_sem,hji,↓qn,qn,lq,hs,lp,up,w1,w2,w3,w4,w5,w6];have hh1:(h++JA bD eD (VB (nxt q0 j:Int) ((RA (q0:Int) s.1).getD []++vH j) s.1)::R')[h.length+(i'+1)]?=some (.row none (ys.map fun n:Nat=>eI n) 0):=by
     rw[List.getElem?_append_right (by omega)];simpa using jg
    have hi':i'<R'.length:=zA jg
    refine zia hh1 jle (by omega) ?_ ?_
    ·refine⟨(j+1,R'.set i' (.row none (ys.map (fun n:Nat=>eI n)++[eI (nxt q0 j)]) 0),i',ys++[nxt q0 j],of'),?_,⟨by dsimp only;omega,⟨?_,?_,?_⟩,?_⟩,by dsimp only;omega⟩
     ·dsimp only
      rw[hvis,List.set_append_right _ _ (by omega)]
      simp only[List.length_append,List.length_cons,List.length_nil,Nat.add_sub_cancel_left,List.set_cons_succ];rw[show ys.length+1-of'=ys.length-of'+1 by omega]
     ·dsimp only
      rw[List.getElem?_set_self hi'];simp
     ·simp;omega
     ·dsimp only
      rw[hvis,List.drop_append_of_le_length jle,jeq]
     ·simp;omega
    ·refine⟨(j+1,R'++[.row none ((ys.drop of').map (fun n:Nat=>eI n)++[eI (nxt q0 j)]) 0],R'.length,ys.drop of'++[nxt q0 j],0),?_,⟨by dsimp only;omega,⟨?_,?_,?_⟩,?_⟩,by dsimp only;omega⟩
     ·dsimp only
      rw[hvis];simp
     ·simp
     ·simp
     ·dsimp only
      rw[hvis,jeq,List.drop_zero]
     ·simp;omega
  ·have hj2:j=2:=by omega
   subst hj2;simp only[go_sem];refine⟨(k+1,R',i',ys,of',some q0),?_,⟨by dsimp only;omega,by dsimp only;rw[hbn];exact jq,by dsimp only;omega⟩,by dsimp only;omega⟩
   dsimp only;rw[hbn]
 ·have hk16:k=16:=by omega
  subst hk16;obtain⟨_,hne⟩:=z91 ha;have hz:xs.length-off=0:=by rw[hln,hne];rfl
  have lk:=fun(hp:aA) (hh:hp[h.length]?=some (JA bD eD (bfs a 16).1))=>z4Z (b:=(b:Int)) hh
  have hpv:(RA (b:Int) (bfs a 16).1).getD []=z0d a b:=rfl
  rcases oq with _|oq <;> simp only[List.append_nil,List.cons_append,List.nil_append,go_sem,hz,lk,hpv]
end Go.Am
end
section
/- ready: a XB call,computed. -/
open Go
set_option linter.all false
namespace Go.Am
def orcP (f:Nat)(a:List AV):Option AV:=bif Nat.beq f gI then match a with
 | [.p (.int .i64 x),.p (.int .i64 y)]=>bif decide (0≤x)&&decide (x<16)&&decide (0≤y)&&decide (y<16) then some (.p (.str (z0d x.toNat y.toNat))) else none
 | _=>none else none
theorem zih:∀ f a v,orcP f a=some v→∀h (K:kA),K v h []→bA X0 f a h K:=by
 intro f a v hv h K hK;unfold orcP at hv;cases hf:Nat.beq f gI with
 | false=>rw[hf]at hv;cases hv
 | true=>
  have hf':=Nat.eq_of_beq_eq_true hf
  rw[hf]at hv;subst hf';simp only[cond_true]at hv;split at hv
  ·rename_i x y
   cases hc:(decide (0≤x)&&decide (x<16)&&decide (0≤y)&&decide (y<16)) with
   | false=>rw[hc]at hv;cases hv
   | true=>
    rw[hc]at hv;simp only[cond_true,Option.some.injEq]at hv;simp only[Bool.and_eq_true,decide_eq_true_eq]at hc;obtain⟨a,rfl⟩:=Int.eq_ofNat_of_zero_le hc.1.1.1;obtain⟨b,rfl⟩:=Int.eq_ofNat_of_zero_le hc.1.2;have:=zfI (h:=h) (K:=K) znU znT a b (by omega) (by omega)
    rw[this];subst hv;exact hK
  ·cases hv
theorem zlu:QL X0 orcP 1000 60 lJ [] []=some (AB true,[],[]):=by kernel_rfl
theorem zpt:bA X0 lJ [] [] fun v h x=>v=AB true∧h=[]∧x=[]:=(z7n zih 1000 60 zlu _).2 ⟨rfl,rfl,rfl⟩
theorem zmp {h:aA}{K:kA}:bA X lJ [] h K=K (AB true) h []:=SM (by kernel_rfl) rfl
end Go.Am
end
section
/- What all laws of the keep package use. -/
open Go
set_option linter.all false
namespace Go.Am
variable {h:aA} {K:kA}
theorem zmi (l:List Int)(hl:l.length≤1000):bA X UH [AL l] h K=K (AI (zJ l)) h []:=by
 refine xA ?_;rw[zal rfl];simp only[UO,go_sem];refine NA (fun k:Nat=>⟨[(5,AL l),(6,AI l.length),(7,AI k)],h,[]⟩) (fun k=>k≤l.length∧zJ (l.drop k)=zJ l) (fun k=>l.length-k) 0 rfl (by simp) ?_
 rintro k ⟨hk,hp⟩
 rcases Nat.lt_or_ge k l.length with hlt|hge
 ·have hg:=TB eI hlt
  have w2:IntKind.i64.wrap ((k:Int)+1)=((k+1:Nat):Int):=nA _ (by omega) (by omega)
  rw[List.drop_eq_getElem_cons hlt,zJ]at hp;by_cases he:l[k]=0
  ·rw[if_pos he]at hp
   simp only[go_sem,hlt,hg,w2,he];exact⟨k+1,rfl,⟨by omega,hp⟩,by omega⟩
  ·rw[if_neg he]at hp
   simp only[go_sem,hlt,hg,w2,he];rw[hp]
 ·have e1:k=l.length:=by omega
  subst e1;simp only[go_sem,Nat.lt_irrefl];rw[List.drop_length]at hp;rw[←hp];rfl
end Go.Am
end
section
/- EntriesAgree returns true. -/
open Go
set_option linter.all false
set_option maxRecDepth 100000
namespace Go.Am
variable {L:List Int} {a:Int} {h:aA} {K:kA}
attribute [-go_sem] ZA
theorem zik {id fz:Nat}{xs:List PV}{c:PV}(hh:h[id]?=some (.row (some 8) xs fz)):bA X NG [.own id xs.length 0 xs.length,.p c] h K=bA X NG [.p (.sl (some 8) xs),.p c] (frz h id xs.length) K:=
 oU (X:=X) (f:=NG) (F:=cO) (a:=[.own id xs.length 0 xs.length,.p c]) (vs:=[.sl (some 8) xs,c]) z7i rfl (by
  have:win xs 0 xs.length=xs:=oH rfl
  simp [mA,pur,rd,hh,this]) rfl rfl RX
set_option maxHeartbeats 4000000 in
theorem law_EA (L:List Int){K:kA}:bA X bQ [AL L] [] K=K (AB true) [] []:=by
 refine xA ?_;rw[zak rfl];have pp:QA 100000 0:=by unfold QA;omega
 have p0:QA 0 0:=by unfold QA;omega
 have rb:0≤KC 0 12 L 0∧KC 0 12 L 0≤12:=yN L 0 (by omega) (by omega)
 obtain⟨m,hm⟩:∃m:Nat,KC 0 12 L 0=m:=⟨(KC 0 12 L 0).toNat,by omega⟩
 obtain⟨_,a2,⟨e1,e2,x,xl,xv,xf,rfl⟩,V2⟩:=(zfF (L:=L) (a:=1) (DC pp (by omega) (by omega)) m (by omega)).hd (l:=[])
 have p2:QA 0 a2:=DC pp (by omega) (by omega)
 obtain⟨_,a3,⟨d1,d2,p,q,hp,hq,hc,rfl⟩,V3⟩:=(zfH (L:=L) (a:=a2+1) x (by omega) (DC pp (by omega) (by omega))).hd (l:=[])
 have rA:0≤KC 0 100 L a2∧KC 0 100 L a2≤100:=yN L a2 (by omega) (by omega)
 generalize hA:KC 0 100 L a2=at_ at *;have ok:∀c∈x,EntOk c:=fun c hc=>(xv c hc).ok
 have lp:=hp.length_le
 have lq:=hq.length_le
 have M1:=fun h K=>z6l (h:=h) (K:=K) p q (fun c hc=>ok c (hp.subset hc)) (fun c hc=>ok c (hq.subset hc)) (by omega)
 have M2:=fun h K=>z6l (h:=h) (K:=K) q p (fun c hc=>ok c (hq.subset hc)) (fun c hc=>ok c (hp.subset hc)) (by omega)
 rw[z5g xf hp hq hc]at M1;rw[z5g xf hq hp (fun e he=>(hc e he).symm)]at M2
 have T1:=fun h K=>zlP (h:=h) (K:=K) x ok (by omega)
 simp only[xf,if_true]at T1;have fall:∀c∈x,mB c=0:=vX xf
 have ll:(aC x).length≤201*x.length:=xQ fun c hc=>z25 (fall c hc)
 have R1:=fun h K=>zlO (h:=h) (K:=K) (aC x) (by omega)
 have rd:NK dD (aC x)=(x,0,0):=by
  have e:yI dD (aC x)=((0,true),x):=zhw fall
  unfold NK;rw[e,if_neg (by simp),if_neg (by simpa using xf)]
 rw[rd]at R1;have ER:=fun h K=>zmi (h:=h) (K:=K) [0,0,0,0] (by simp)
 have e0:zJ [0,0,0,0]=0:=rfl
 rw[e0]at ER;simp only[AL,List.map_cons,List.map_nil]at ER;have E1:=fun h K=>zlV (h:=h) (K:=K) x x (by omega)
 simp only[decide_true]at E1;dsimp only at M1 M2 T1 R1;simp only[TO,go_sem,p0,hm,V2,p2,hA,V3,splice,↓M1,M1,↓M2,M2,↓T1,T1,↓R1,R1,↓ER,ER,↓E1,E1];have fp:∀y:Ent,Ent.pv y = .agg [.str y.site,eI y.no,eI y.time,eI y.kind,.str y.board,.str y.step,.str y.of,eI y.other]:=fun _=>rfl
 refine NA (fun k:Nat=>⟨[(5,AI at_),(17,.own 1 (mC (x.take k)).length 0 (mC (x.take k)).length),(18,AI ((jH (x.take k) at_:Nat):Int)),(86,lB x),(87,AI x.length),(88,AI k)],
  [BA L a3,.row (some 8) ((mC (x.take k)).map Ent.pv) 0],[]⟩) (fun k=>k≤x.length) (fun k=>x.length-k) 0 rfl (by omega) ?_
 intro k hk;rcases Nat.lt_or_ge k x.length with hlt|hge
 ·have hlt':(k:Int)<(x.length:Int):=by omega
  have hg:=TB Ent.pv hlt
  have cx:=AE (x:=x[k])
  have wk:IntKind.i64.wrap ((k:Int)+1)=((k+1:Nat):Int):=nA _ (by omega) (by omega)
  have s1:=z5x hlt
  have s2:=zny hlt at_
  have zl:=(YM (x.take k)).length_le
  have tl:=znx (x.take k) at_
  rw[List.length_take]at zl tl;generalize x[k]=e at *;generalize mC (x.take k)=Z at *;generalize jH (x.take k) at_=n at *;have wn:IntKind.i64.wrap ((n:Int)+1)=((n+1:Nat):Int):=nA _ (by omega) (by omega)
  have mz:Z.length+1≤UA:=by unfold UA;omega
  have zml:(Z.map Ent.pv).length=Z.length:=List.length_map ..
  have eZ:Z.map Ent.pv++[PV.agg [.str e.site,eI e.no,eI e.time,eI e.kind,.str e.board,.str e.step,.str e.of,eI e.other]]=(Z++[e]).map Ent.pv:=by rw[List.map_append];rfl
  have eZl:Z.length+1=(Z++[e]).length:=by simp
  by_cases k7:e.kind=7
  ·rw[if_pos k7,List.append_nil]at s1
   rw[if_pos k7]at s2;simp only[go_sem,hlt',hlt,hg,cx,fp,splice,wk,k7];refine⟨k+1,?_,by omega,by omega⟩
   rw[s1,s2];rfl
  ·rw[if_neg k7]at s1 s2
   by_cases ht:e.time≤at_
   ·rw[if_pos ht]at s2
    simp only[go_sem,hlt',hlt,hg,cx,fp,splice,wk,k7,ht,wn,mz,zml];refine⟨k+1,?_,by omega,by omega⟩
    rw[s1,s2,←eZ,←eZl]
   ·rw[if_neg ht]at s2
    simp only[go_sem,hlt',hlt,hg,cx,fp,splice,wk,k7,ht,wn,mz,zml];refine⟨k+1,?_,by omega,by omega⟩
    rw[s1,s2,←eZ,←eZl];rfl
 ·have ek:k=x.length:=by omega
  subst ek;have c3:¬(x.length:Int)<(x.length:Int):=by omega
  rw[List.take_length];obtain⟨nf,nc⟩:=zhZ xf at_;have zl:=(YM x).length_le
  have cl:=fun fz K=>zlM (h:=[BA L a3,.row (some 8) ((mC x).map Ent.pv) fz]) (K:=K) (mC x) at_ (fun y hy=>ok y ((YM x).subset hy)) (by omega)
  have mo:jG at_=0:=by
   unfold jG pD inB;rw[if_pos (by simp;omega)]
  have cv:lL (mC x) at_=((eF (mC x) at_).map fun(i:Nat)=>(i:Int),0):=by
   unfold lL;rw[if_neg (by rw[nf,mo];decide)]
  rw[cv]at cl;have ca:=fun K=>zik (h:=[BA L a3,.row (some 8) ((mC x).map Ent.pv) 0]) (K:=K) (id:=1) (fz:=0) (xs:=(mC x).map Ent.pv) (c:=.int .i64 at_) rfl
  have fr:∃z,frz [BA L a3,Obj.row (some 8) ((mC x).map Ent.pv) 0] 1 ((mC x).map Ent.pv).length=[BA L a3,Obj.row (some 8) ((mC x).map Ent.pv) z]:=⟨_,rfl⟩
  obtain⟨z,fr⟩:=fr;simp only[fr,cl]at ca;simp only[List.length_map]at ca;have il:((eF (mC x) at_).map fun(i:Nat)=>(i:Int)).length=jH x at_:=by rw[List.length_map,nc]
  generalize (eF (mC x) at_).map (fun(i:Nat)=>(i:Int))=is at *
  simp only[go_sem,c3,↓ca,ca,il,zmp]
end Go.Am
end
section
/- From a law that is true here tov the model's calls at what came in. -/
open Go
namespace Go.Am
variable {P:Program}
theorem law_nil {X:Ctx}(HX:Fits P X){f:Nat}{F:AFun}(hF:X.fn f=some F)(H:∀ L:List Int,bA X f [gS L] [] fun v _ _=>v = .p (.bool true))(W:World)(hG:uD X.gl (imm [] [] W)) :
 Calls P f #[.slice none 0 0] W fun e W'=>e = .returned (.bool true)∧RowKit.Below W.heap.size W W':=by
 refine(z1H HX hF (H []) (W:=W) (vs:=[.slice none 0 0]) hG rfl (fun j y v hy hv=>?_)).mono fun e W' he=>?_
 ·cases j with
  | zero=>cases hy;cases hv;exact zbl W
  | succ j=>cases hy
 ·cases e with
  | returned r=>
   obtain⟨⟨v,h,x,μ,hk,hr⟩,hb⟩:=he;subst hk;exact⟨by rw[hr.p_bool],hb⟩
  | panicked _=>exact he.elim
  | outgrown=>exact he.elim
theorem law_ints {X:Ctx}(HX:Fits P X){f:Nat}{F:AFun}(hF:X.fn f=some F)(H:∀ L:List Int,bA X f [gS L] [] fun v _ _=>v = .p (.bool true)){W:World}(hG:uD X.gl (imm [] [] W)){a:Addr}{len cap:Nat}{zs:List Int}
 (hl:len≤cap) (hz:len≤zs.length) (hc:∀i,i<zs.length→W.cell? (a.add i)=some (.int .i64 (zs.getD i 0))) :
 Calls P f #[.slice (some a) len cap] W fun e W'=>e = .returned (.bool true)∧RowKit.Below W.heap.size W W':=by
 refine(z1H HX hF (H (zs.take len)) (W:=W) (vs:=[.slice (some a) len cap]) hG rfl (fun j y v hy hv=>?_)).mono fun e W' he=>?_
 ·cases j with
  | zero=>
   cases hy;cases hv
   rcases Nat.eq_zero_or_pos len with h0|h0
   ·subst h0
    exact .p _ _ (.nils _ _ _)
   ·exact zbk (by simpa [Addr.add] using World.cell?_spot (hc 0 (by omega))) hl hz hc
  | succ j=>cases hy
 ·cases e with
  | returned r=>
   obtain⟨⟨v,h,x,μ,hk,hr⟩,hb⟩:=he;subst hk;exact⟨by rw[hr.p_bool],hb⟩
  | panicked _=>exact he.elim
  | outgrown=>exact he.elim
end Go.Am
namespace Go.ChangeShapes
open Go.RowKit Go.WideShapes
section
variable {H:Type} {enc:TypeId × Value→H} {P:Program}
end
end Go.ChangeShapes
end
section
/- The abstract machine,part L2: the kit's contracts asv rows. -/
set_option linter.unusedSimpArgs false
set_option linter.unusedVariables false
namespace Go.Am
variable {P:Program} {gl:Nat→Option PV}
open Go.Shelf
theorem z4T:∀ n:Nat,Go.Lib.decDigits n=xB n:=by
 intro n;induction n using Nat.strongRecOn with
 | _ n ih=>
  rw[Go.Lib.decDigits,xB];split
  ·rfl
  ·rw[ih _ (by omega)];rfl
theorem zhu (n:Int):Go.Lib.itoa n=itoa n:=by
 unfold Go.Lib.itoa itoa;split
 ·rw[z4T]
 ·rw[z4T];congr 1;omega
theorem znr {M:Mem}{w:World}{g:Nat}{name:String}{k:IntKind}{zs:List Int}(hn:P.globalNamed name=some g)(hg:gl g=some (.agg (zs.map (PV.int k))))(hc:∀ b o v,M.c b o=some v→w.cell? ⟨b,o,none⟩=some v)(hb:∀ b o,M.b b=some o→w.heap[b]?=some o)(hG:uD gl M) :
 Go.Lib.TabIs P w name k zs:=by
 obtain⟨hv,cs,t,x,h2,h3⟩:=hG g _ hg;have h4:=hb _ _ h2
 unfold Go.Lib.TabIs World.var?;rw[hn];simp only[Option.bind_some,h4,Option.some.injEq];simp only[PV.cells,List.length_map]at h3;apply Array.ext
 ·simpa using h3
 ·intro i hi1 hi2
  have hi:i<zs.length:=by omega
  cases hv with
  | vp _ _ _ f hm hr=>
   have hy:(PV.agg (zs.map (PV.int k))).cells[i]?=some (.int k zs[i]):=by simp [PV.cells,hi]
   have q1:=hc _ _ _ (hm i _ hy)
   have q2:=hr i _ hy
   have q3:f i = .int k zs[i]:=by
    generalize f i=u at q2;cases q2;rfl
   rw[q3]at q1;have q4:cs[i]?=some (.int k zs[i]):=by simpa [World.cell?,h4] using q1
   rw[Array.getElem?_eq_getElem hi1]at q4;simpa using q4
theorem ginv_tab {W:World}{g:Nat}{name:String}{k:IntKind}{zs:List Int}{v:PV}(hn:P.globalNamed name=some g)(ht:Go.Lib.TabIs P W name k zs)(hv:v = .agg (zs.map (PV.int k))):uD (HM [(g,v)]) (imm [] [] W):=by
 intro n v' hv';unfold HM at hv';cases hq:Nat.beq n g with
 | false=>rw[hq]at hv';cases hv'
 | true=>
  rw[hq]at hv';have e:=Nat.eq_of_beq_eq_true hq
  subst e;simp only[cond_true,Option.some.injEq]at hv';subst hv';subst hv;unfold Go.Lib.TabIs World.var? at ht;rw[hn]at ht;simp only[Option.bind_some]at ht;cases hb:W.heap[n]? with
  | none=>rw[hb]at ht;cases ht
  | some o=>
   rw[hb]at ht;cases o with
   | cells cs t x=>
    simp only[Option.some.injEq]at ht;refine⟨.vp _ n 0 (fun j=>(zs.map fun z=>Value.int k z).getD j undef) (fun j y hy=>?_) (fun j y hy=>?_),cs,t,x,z49 hb,by rw[ht];simp [PV.cells]⟩
    ·have hj:j<zs.length:=by have:=zA hy;simpa [PV.cells] using this
     refine z4A ?_;simp [World.cell?,hb,ht,hj,List.getD_eq_getElem?_getD]
    ·have hj:j<zs.length:=by have:=zA hy;simpa [PV.cells] using this
     have e1:y = .int k zs[j]:=by simpa [PV.cells,hj] using hy.symm
     have e2:(zs.map fun z=>Value.int k z).getD j undef = .int k zs[j]:=by simp [List.getD_eq_getElem?_getD,hj]
     rw[e1,e2];exact .int k _
   | _=>cases ht
theorem zfN (w:World)(k:Nat)(os:Array Go.Obj):WExt w (Go.Sort.grow (w.drewN k) os):=by
 refine⟨?_,fun b hb=>?_,rfl⟩
 ·show w.heap.size≤(w.heap++os).size
  simp
 ·show(w.heap++os)[b]?=_
  rw[Array.getElem?_append_left hb]
theorem itoaRow {ρ:Ren}(L:Go.Proofs.LaysM.n171 P ρ)(g:Nat)(hn:P.globalNamed "internal/strconv.uint64pow10" = some g)(hg:gl g=some iS)(he:∀ us w,(callFunc (ρ.f 171) us).run P w = .ok (.enter (ρ.f 171) us) w):PureRow P gl (ρ.f 171) GJ where
 enter:=he
 run M w vs r us hc hb hG hl hr hs:=by
  unfold GJ at hs;split at hs
  ·rename_i n
   match us,hl with
   | [u],_=>
    have q:=hr 0 _ u rfl rfl
    cases q;cases hbd:(decide (-9223372036854775808≤n)&&decide (n≤9223372036854775807)) with
    | false=>rw[hbd]at hs;cases hs
    | true=>
     rw[hbd]at hs;simp only[cond_true,Option.some.injEq]at hs;subst hs;simp only[Bool.and_eq_true,decide_eq_true_eq]at hbd;have hpw:iS = .agg (Go.Lib.pow10Tab.map (PV.int .u64)):=by unfold iS Go.Lib.pow10Tab;rw[List.map_map];rfl
     rw[hpw]at hg;refine(Go.Proofs.Any.strconv_Itoa L n hbd.1 hbd.2 w (znr hn hg hc hb hG)).mono fun e w' h=>?_
     obtain⟨rfl,k,os,rfl⟩:=h;exact⟨_,rfl,zfN w k os,by rw[zhu];exact .p _ _ (.str _)⟩
  ·cases hs
end Go.Am
end
section
/- The abstract machine,part L3: strconv.Atoi asv a row. -/
set_option linter.all false
namespace Go.Am
variable {P:Program} {gl:Nat→Option PV}
open Go.Shelf
theorem fY:∀ (l:List UInt8)(acc n k:Nat),tC acc l=some n→acc<10^k→l.length+k≤18→Go.Lib.parseUint10 acc l = .ok n∧n<10^(k+l.length)
 | [],acc,n,k,h,ha,hl=>by
  simp only[tC,Option.some.injEq]at h;subst h;exact⟨rfl,by simpa using ha⟩
 | c::r,acc,n,k,h,ha,hl=>by
  simp only[tC]at h;split at h
  ·rename_i hc
   simp only[List.length_cons]at hl ⊢;have h18:10^(k+1)≤10^18:=Nat.pow_le_pow_right (by omega) (by omega)
   have e18:(10:Nat)^18=1000000000000000000:=rfl
   have hp:acc*10+(c.toNat-48)<10^(k+1):=by rw[Nat.pow_succ];omega
   obtain⟨q1,q2⟩:=fY r _ n (k+1) h hp (by omega)
   refine⟨?_,by rw[show k+(r.length+1)=k+1+r.length by omega];exact q2⟩
   unfold Go.Lib.parseUint10;rw[if_pos hc,if_neg (by omega),if_neg (by omega)]
   exact q1
  ·cases h
theorem zhs {s:List UInt8}{n:Nat}(h1:1≤s.length)(h2:s.length≤18)(h:tC 0 s=some n):Go.Lib.atoiAll s = .ok (n:Int):=by
 obtain⟨q1,q2⟩:=fY s 0 n 0 h (by simp) (by omega)
 have h18:10^(0+s.length)≤10^18:=Nat.pow_le_pow_right (by omega) (by omega)
 have e18:(10:Nat)^18=1000000000000000000:=rfl
 cases s with
 | nil=>simp at h1
 | cons c r=>
  have hc:48≤c.toNat∧c.toNat≤57:=by
   simp only[tC]at h;split at h
   ·assumption
   ·cases h
  unfold Go.Lib.atoiAll;dsimp only;rw[if_neg (by omega)]
  have hm:Go.Lib.parseMag (c::r) = .ok n:=by unfold Go.Lib.parseMag;rw[if_neg (by simp)];exact q1
  rw[hm];dsimp only;rw[if_neg (by omega),if_neg (by omega),if_neg (by omega)]
theorem zht {s:List UInt8}{n:Nat}(h1:2≤s.length)(h2:s.length≤18)(h0:s.head?=some 45)(h:tC 0 s.tail=some n):Go.Lib.atoiAll s = .ok (-(n:Int)):=by
 cases s with
 | nil=>simp at h1
 | cons c r=>
  simp only[List.head?_cons,Option.some.injEq]at h0;subst h0;simp only[List.tail_cons,List.length_cons]at h h1 h2;obtain⟨q1,q2⟩:=fY r 0 n 0 h (by simp) (by omega)
  have h18:10^(0+r.length)≤10^18:=Nat.pow_le_pow_right (by omega) (by omega)
  have e18:(10:Nat)^18=1000000000000000000:=rfl
  have hm:Go.Lib.parseMag r = .ok n:=by
   unfold Go.Lib.parseMag;rw[if_neg (by intro e;subst e;simp at h1)]
   exact q1
  have e45:(45:UInt8).toNat=45:=rfl
  unfold Go.Lib.atoiAll;dsimp only;rw[if_pos (Or.inr e45),hm];dsimp only;rw[if_neg (by simp [e45]),if_neg (by omega),if_pos e45]
theorem z9S (w:World)(e:TypeId)(t:ByteArray):WExt w (Go.Lib.bytesWorld w e t):=
 ⟨by rw[Go.Lib.bytesWorld_size];omega,fun b hb=>Go.Lib.bytesWorld_at_old w e t b hb,by unfold zed Go.Lib.bytesWorld World.freeze;split <;> rfl⟩
theorem atoiRow {ρ:Ren}(L:Go.Proofs.LaysC.n172 P ρ)(he:∀ us w,(callFunc (ρ.f 172) us).run P w = .ok (.enter (ρ.f 172) us) w):PureRow P gl (ρ.f 172) uH where
 enter:=he
 run M w vs r us hc hb hG hl hr hs:=by
  unfold uH at hs;split at hs
  ·rename_i s
   match us,hl with
   | [u],_=>
    have q:=hr 0 _ u rfl rfl
    cases q;split at hs
    ·rename_i hbd
     have hv:∃v:Int,Go.Lib.atoiAll s = .ok v∧r = .tup [.p (.int .i64 v),.nili]:=by
      split at hs
      ·rename_i n hn
       simp only[Option.some.injEq]at hs;exact⟨_,zhs hbd.1 hbd.2 hn,hs.symm⟩
      ·split at hs
       ·rename_i h45
        obtain⟨n,hn,rfl⟩:=Option.map_eq_some_iff.1 hs;exact⟨_,zht h45.2 hbd.2 h45.1 hn,rfl⟩
       ·cases hs
     obtain⟨n,hn,rfl⟩:=hv;have hsz:(⟨s.toArray⟩:ByteArray).size=s.length:=by simp [ByteArray.size]
     refine(Go.Proofs.Any.strconv_Atoi_ok L ⟨s.toArray⟩ (by rw[hsz];omega) n hn w).mono fun e w' h=>?_
     obtain⟨rfl,h⟩:=h;refine⟨_,rfl,?_,?_⟩
     ·rcases h with h|⟨t,h⟩
      ·rw[h];exact WExt.refl _
      ·rw[h];exact z9S _ _ t
     ·refine .tup _ [.int .i64 n,.nilIface] rfl (fun j y v h1 h2=>?_)
      match j with
      | 0=>simp at h1 h2;subst h1;subst h2;exact .p _ _ (.int _ _)
      | 1=>simp at h1 h2;subst h1;subst h2;exact .nili
      | j+2=>simp at h1
    ·cases hs
  ·cases hs
end Go.Am
end
