import Derived.Lib.UnsafeStr
import Derived.Lib.Builder
import Derived.Laws.Externs
import GoSem.Extern.Table
import Derived.Orders
import Derived.Test.YthlhdniejglcnaaGreatDoorlawPY2
set_option linter.all false
set_option maxRecDepth 100000
set_option maxHeartbeats 0
namespace Go.Am
section
variable {h h':aA} {μ μ':Mu} {w w':World} {P:Program} {M M':Mem}
def DK (P:Program)(t:TypeId):Bool:=match P.info? t with
 | some i=>i.size==2&&(match i.zero with|some v=>(match v.cells.toList with|[.pointer none,.slice none 0 0]=>true|_=>false)|none=>false)&&liesAt P P.depth t (2 / P.cellsOf t) 0 t 1
 | none=>false
def fZ (P:Program)(t s d:TypeId):Bool:=match P.underlying s with
 | some (.pointer t')=>t'==t&&(match P.underlying d with|some .unsafePointer=>true|_=>false)
 | some .unsafePointer=>match P.underlying d with
  | some (.pointer t')=>t'==t
  | _=>false
 | _=>false
def ZY (P:Program)(s:TypeId):Bool:=match P.underlying s with
 | some (.pointer t)=>(P.info? t).isSome
 | _=>false
def aZ (P:Program)(t s:TypeId):Bool:=match P.underlying s with
 | some (.pointer t')=>t'==t
 | _=>false
def dZ (P:Program)(t s:TypeId):Bool:=match P.underlying s with
 | some (.slice t')=>t'==t
 | _=>false
theorem zmc {t te:TypeId}(hc:DK P t=true)(H:HeapRel h μ w) :
 lA P (do pure (.value (<-Instr.alloc t true (.tuple #[])))) h μ w (.ref h.length 0) (h++[.box [.bt 0 t h.length 0,.bt 1 te (h.length+1) 0],.row none [] 0]) [(h.length,h.length+2)]:=by
 unfold DK at hc;split at hc;case h_2=>cases hc
 rename_i i hi;simp only[Bool.and_eq_true,beq_iff_eq]at hc;obtain⟨⟨c1,c2⟩,c3⟩:=hc;split at c2;case h_2=>cases c2
 rename_i v hv;split at c2;case h_2=>cases c2
 rename_i hcells;have hvc:v.cells = #[.pointer none,.slice none 0 0]:=by rw[<-hcells]
 have hrun:(Instr.alloc t true (.tuple #[])).run P w = .ok (.pointer (some ⟨w.heap.size,0,none⟩)) { w with heap:=w.heap.push (.cells v.cells t (0,0)) }:=by
  unfold Instr.alloc;rw[Sem.run_bind];have:(zeroValue t).run P w = .ok v w:=by
   unfold zeroValue;rw[Sem.run_bind,xH hi];simp [hv]
  rw[this];simp [newVar,nG]
 have hB:gB { w with heap:=w.heap.push (.cells v.cells t (0,0)) } w.heap.size 2 v.cells:=by
  have:=gB.push (w:=w) v.cells t;rwa [show v.cells.size=2 by rw[hvc];rfl]at this
 obtain⟨h1,h2⟩:=z9k (cs:=[.nilp,.sl0 none]) H (WExt.push w _) (Nat.le_refl _) (by simp) hB (c:=v.cells) (λj x hx=>by
  rw[hvc];match j with
  | 0=>simp at hx;subst hx;exact⟨rfl,_,rfl,.nilp⟩
  | 1=>simp at hx;subst hx;exact⟨rfl,_,rfl,.sl0 _ _⟩
  | j+2=>simp at hx)
 simp only[List.length_cons,List.length_nil,Nat.zero_add,Nat.reduceAdd]at h1 h2;obtain⟨h3,h4⟩:=UP h1 none;simp only[List.append_assoc,List.cons_append,List.nil_append]at h3 h4;have ho:(h++[Obj.box [.nilp,.sl0 none],.row none [] 0])[h.length]?=some (.box [.nilp,.sl0 none]):=by simp
 have hm:(μ++[some (w.heap.size,2),none])[h.length]?=some (some (w.heap.size,2)):=by rw[<-H.len];simp
 have ho2:(h++[Obj.box [.nilp,.sl0 none],.row none [] 0])[h.length+1]?=some (.row none [] 0):=by
  rw[List.getElem?_append_right (by omega)];simp
 have hm2:(μ++[some (w.heap.size,2),none])[h.length+1]?=some none:=by
  rw[<-H.len,List.getElem?_append_right (by omega)];simp
 have hg:({ w with heap:=w.heap.push (.cells v.cells t (0,0)) }:World).heap[w.heap.size]?=some (.cells v.cells t (0,0)):=by simp
 have key:=h3.set (w':={ w with heap:=w.heap.push (.cells v.cells t (0,0)) }) (o':=.box [.bt 0 t h.length 0,.bt 1 te (h.length+1) 0]) (m':=some (w.heap.size,2)) ho hm ⟨⟨_,rfl⟩,rfl⟩ rfl (Nat.le_refl _) (λ_ _ _=>rfl)
  (λb n e=>.inl ⟨n,e⟩) (λb n sh xs fz _ e=>by cases e)
  (λM' E=>⟨w.heap.size,v.cells,rfl,hB,λj x hx=>by
   rw[hvc];match j with
   | 0=>simp at hx;subst hx;exact⟨rfl,_,rfl,.bt0 t h.length 0 w.heap.size 2 _ (YB ho) (YB hm) (E.le.s _ _ (DO hg))⟩
   | 1=>simp at hx;subst hx;exact⟨rfl,_,rfl,.bt1 te (h.length+1) 0 none 0 [] 0 none (Nat.le_refl _) (by rw[List.getElem?_set_ne (by omega)];exact ho2) (by rw[List.getElem?_set_ne (by omega)];exact hm2) (Nat.le_refl _) (λ_=>⟨rfl,rfl⟩)⟩
   | j+2=>simp at hx⟩)
  (λ_ _ _ _ h=>h)
 have es:(h++[Obj.box [.nilp,.sl0 none],.row none [] 0]).set h.length (.box [.bt 0 t h.length 0,.bt 1 te (h.length+1) 0])=h++[.box [.bt 0 t h.length 0,.bt 1 te (h.length+1) 0],.row none [] 0]:=by simp
 have em:(μ++[some (w.heap.size,2),none]).set h.length (some (w.heap.size,2))=μ++[some (w.heap.size,2),none]:=tE hm
 have hE:rA h (h++[.box [.bt 0 t h.length 0,.bt 1 te (h.length+1) 0],.row none [] 0]) [(h.length,h.length+2)]:=by
  have a:=rA.push (h:=h) (o:=.box [.nilp,.sl0 none]) (by simp [Obj.top,AV.tops,AV.top])
  have a2:=rA.push (h:=h++[.box [.nilp,.sl0 none]]) (o:=.row none [] 0) (by simp [Obj.top])
  have a3:=a.trans a2
  simp only[List.append_assoc,List.cons_append,List.nil_append]at a3;have b:=rA.set (x:=[(h.length,h.length+2)]) (o':=.box [.bt 0 t h.length 0,.bt 1 te (h.length+1) 0]) ho (by simp [Obj.top,AV.tops,AV.top,yC])
  rw[es]at b;exact a3.trans b
 rw[es,em]at key;exact⟨_,_,_,yA hrun,.inl ⟨_,rfl,.ref h.length 0 w.heap.size 2 [.bt 0 t h.length 0,.bt 1 te (h.length+1) 0] (by simp) (by rw[<-H.len];simp)⟩,key.1,(h2.trans h4).trans key.2,hE⟩
theorem zaL {w:World}{b:Nat}{c:Array Value}{E:TypeId}{f:Nat × Nat}(e:w.heap[b]?=some (.cells c E f)):w.shape? b=some (E,c.size):=by
 unfold World.shape?;simp only[e]
theorem zrx {t s d:TypeId}(hb:DK P t=true)(hc:fZ P t s d=true){id:Nat}{x:Value}(H:HeapRel h μ w)(R:RAV (imm h μ w) h μ (.ref id 0) x){t' id' g:Nat}{v2:AV}(ho:h[id]?=some (.box [.bt 0 t' id' g,v2]))(e1:t'=t)(e2:id'=id) :
 lA P (do pure (.value (<-convert s d x))) h μ w (.ref id 0) h []:=by
 subst e1;subst e2
 have R0:=R
 cases R with|ref _ _ b n cs ho' hm=>
 rw[ho]at ho';injection ho' with ho'
 injection ho' with ho'
 subst ho';obtain⟨b',c,hbn,hB,hcell⟩:=H.obj id' _ _ ho hm;injection hbn with hbn
 injection hbn with q1 q2
 subst q1;obtain⟨_,vv,_,hR⟩:=hcell 0 _ rfl;have hty:ety w b=some t':=by
  cases hR with|bt0 _ _ _ b2 n2 cs2 ho2 hm2 hs2=>
  rw[hm]at hm2;injection hm2 with hm2
  injection hm2 with hm2
  injection hm2 with r1 r2
  subst r1;exact hs2
 obtain⟨hsz,E,lo,hi,he,_⟩:=hB;have hE:E=t':=by rw[DO he]at hty;injection hty
 subst hE;have hsh:w.shape? b=some (E,2):=by rw[zaL he,hsz];rfl
 unfold DK at hb;split at hb;case h_2=>cases hb
 rename_i i hi;simp only[Bool.and_eq_true,beq_iff_eq]at hb;obtain⟨⟨c1,c2⟩,c3⟩:=hb;unfold fZ at hc;split at hc
 ·rename_i t'' hs
  simp only[Bool.and_eq_true,beq_iff_eq]at hc;obtain⟨rfl,hd⟩:=hc;have hd:P.underlying d=some .unsafePointer:=by split at hd <;> simp_all
  exact lA.pure H (yA (Lib.run_to_unsafe w ⟨b,0,none⟩ hs hd hi (by rw[c1];decide) hsh (Nat.zero_lt_succ 1))) R0
 ·rename_i hs
  split at hc;case h_2=>cases hc
  rename_i t'' hd;simp only[beq_iff_eq]at hc;subst hc;exact lA.pure H (yA (Lib.run_from_unsafe w ⟨b,0,none⟩ hs hd hi hsh c3)) R0
 ·cases hc
theorem zmb {t:TypeId}(hc:ZY P t=true){a b:Operand}{id o:Nat}{x y:Value}(H:HeapRel h μ w)(Rx:RAV (imm h μ w) h μ (.ref id o) x)(Ry:RAV (imm h μ w) h μ (.ref id o) y) :
 lA P (do pure (.value (<-(do eqGuard .neq t a b x y;binOp .neq t x y)))) h μ w (pbool false) h []:=by
 cases Rx with|ref _ _ b1 n1 cs1 ho1 hm1=>
 cases Ry with|ref _ _ b2 n2 cs2 ho2 hm2=>
 rw[hm1]at hm2;injection hm2 with hm2
 injection hm2 with hm2
 injection hm2 with r1 r2
 subst r1;unfold ZY at hc;split at hc;case h_2=>cases hc
 rename_i te ht;obtain⟨j,hj⟩:=Option.isSome_iff_exists.1 hc;refine lA.pure H (yA ?_) (RAV.pbool false);have hg:(eqGuard .neq t a b (.pointer (some ⟨b1,o,none⟩)) (.pointer (some ⟨b1,o,none⟩))).run P w = .ok () w:=rfl
 rw[Sem.run_bind,hg];exact Lib.run_neq_ptr_same w _ ht hj
theorem zl9 {t ty:TypeId}{ts:List TypeId}{n:Nat}{x:Value}{a:Option Addr}{cap:Nat}(hx:x = .slice a n cap)(H:HeapRel h μ w)(hc:TG P t=1) :
 lA P (do pure (.value (<-Builtin.len_ (t::ts).toArray ty #[x]))) h μ w (pint n) h []:=by
 have hu:∃el,P.underlying t=some (.slice el):=by
  unfold TG at hc;split at hc <;> simp_all
 obtain⟨el,hu⟩:=hu;subst hx;refine lA.pure H (yA ?_) (RAV.pint n);simp [Builtin.len_,TA hu]
theorem zd1 {t u ty te:TypeId}(hc:VE P none t u=true)(ht:dZ P te t=true){s x:Value}{vs vx v:AV}{h1:aA}{e:Esc}(H:HeapRel h μ w)(Rs:RAV (imm h μ w) h μ vs s)(Rx:RAV (imm h μ w) h μ vx x)
 (he:JH te h vs vx=some (v,h1,e)):lA P (do pure (.value (<-Builtin.append_ #[t,u] ty #[s,x]))) h μ w v h1 e:=by
 have htt:P.underlying t=some (.slice te):=by
  unfold dZ at ht;split at ht
  ·rename_i t' h'
   simp only[beq_iff_eq]at ht;subst ht;exact h'
  ·cases ht
 unfold JH at he;split at he;case h_2=>cases he
 rename_i ys hr;have S:=CQ (P:=P) H Rx hr
 obtain⟨c,hck,hc2⟩:=S.2 ys.length (Nat.le_refl _);rw[List.take_length]at hc2;have hck0:(Builtin.firstCells (gA none) ys.length x).run P w = .ok c w:=hck w.drawn
 split at he
 ·rename_i t0 id g
  split at he;case h_2=>cases he
  rename_i xs fz ho;split at he;case isFalse=>cases he
  rename_i hcond;obtain⟨rfl,rfl,hfz,hmax⟩:=hcond;simp only[Option.some.injEq,Prod.mk.injEq]at he;obtain⟨rfl,rfl,rfl⟩:=he;have Rs0:=Rs
  cases Rs with|bt1 _ _ _ a cap xs' fz' m hl ho' hm hg hv=>
  rw[ho]at ho';injection ho' with ho'
  injection ho' with _ q2 q3
  subst q2;subst q3
  have hb:=hv rfl
  obtain⟨kf,ks,kO⟩:=H.obj id _ _ ho hm;cases m with
  | none=>
   obtain⟨rfl,rfl⟩:=hb;have hx0:xs=[]:=kO
   subst hx0;by_cases hz:ys.length=0
   ·have hy0:ys=[]:=List.length_eq_zero_iff.1 hz
    subst hy0;have hrun:=oF (ty:=ty) (base:=none) (sLen:=0) (sCap:=0) hc S.1 hck0 (by simp) (w':=w) rfl
    have hs:h.set id (.row none ([]++[]) fz)=h:=tE ho
    rw[hs];exact⟨_,_,_,yA hrun,.inl ⟨_,rfl,Rs0⟩,H,Evo.refl _ _ _,rA.refl _ _⟩
   ·obtain⟨newCap,n,w',c',g1,g2,g3,g4,g5,g6,g7,g8⟩:=GJ (ty:=ty) (base:=none) (sCap:=0) (xs:=[]) (v0:=.sl0 none) hc H Rx hr (by simp;omega) (by simpa using hmax) (.sl0 none none) rfl
    have key:=H.set (w':=w') (o':=.row none ([]++ys) fz) (m':=some (w.heap.size,n)) ho hm ⟨[]++ys,fz,rfl,by simp,λhl=>by rw[List.length_append]at hl;simp only[List.length_nil]at hl;omega⟩
     g4.zz g4.1 (λb hb _=>g4.2 b hb) (λb n' e=>by injection e with e;injection e with e1 e2;subst e1;exact .inr ⟨Nat.le_refl _,g5⟩)
     (λb n' sh2 xs2 fz2 e1 e2=>by cases e1)
     (λM' Ev=>by
      refine⟨by have q:fz<=0:=hfz;omega,g7.2.1,c',g6.sealed _,?_,λi j x y hx hy=>?_⟩
      ·rw[<-g2];exact Nat.mul_le_mul_right _ (by simpa using g1)
      ·obtain⟨v,q1,q2⟩:=g7.2.2 i j x y hx hy
       exact⟨v,q1,q2.mono Ev.le⟩) (λb n t e ht=>by cases e)
    refine⟨_,_,_,yA g3,.inl ⟨_,rfl,?_⟩,key.1,key.2,rA.set ho (by simp [Obj.top])⟩
    exact .bt1 t0 id (0+ys.length) _ newCap ([]++ys) fz (some (w.heap.size,n)) (by simpa using g1) (YB ho) (YB hm) (by simp) (λ_=>⟨rfl,⟨by omega,by rw[<-g2];simp [gA]⟩,g8 _ htt⟩)
  | some m=>
   obtain⟨b,n⟩:=m;obtain⟨rfl,hcn,hst⟩:=hb;obtain⟨c',hB,hn2,hcell⟩:=kO;by_cases hroom:xs.length+ys.length<=cap
   ·obtain⟨w',r1,r2,r3,r4⟩:=fN (P:=P) (at_:=xs.length) H ho hm hB hc2 hfz (Nat.le_refl _) (by simp only[gA];omega)
    rw[z3T]at r2 r3 r4;have hrun:=oF (ty:=ty) (base:=some ⟨b,0,none⟩) (sLen:=xs.length) (sCap:=cap) hc S.1 hck0 hroom (w':=w') (by simpa [wC] using r1)
    refine⟨_,_,_,yA hrun,.inl ⟨_,rfl,?_⟩,r2,r3,r4⟩;exact .bt1 t0 id (xs.length+ys.length) _ cap (xs++ys) fz (some (b,n)) hroom (YB ho) hm (by simp) (λ_=>⟨rfl,hcn,r3.le.s _ _ hst⟩)
   ·have Ro:RAV (imm h μ w) h μ (.own id xs.length 0 xs.length) (.slice (some ⟨b,0,none⟩) xs.length cap):=.own id xs.length 0 xs.length _ cap none xs fz (some (b,n)) hl ho hm (Nat.le_refl _) (by simp) (λ_=>.inr ⟨by simp,by simp [gA];exact hcn.2⟩)
    have hr0:rds h (.own id xs.length 0 xs.length)=some (none,xs):=by simp [rds,rd,ho,win]
    obtain⟨newCap,n',w',c'',g1,g2,g3,g4,g5,g6,g7,g8⟩:=GJ (ty:=ty) (base:=some ⟨b,0,none⟩) (sCap:=cap) (xs:=xs) (v0:=.own id xs.length 0 xs.length) hc H Rx hr (by omega) hmax Ro hr0
    have hpos:0<ys.length:=by omega
    have key:=H.set (w':=w') (o':=.row none (xs++ys) fz) (m':=some (w.heap.size,n')) ho hm ⟨xs++ys,fz,rfl,by simp,λhl=>by rw[List.length_append]at hl;omega⟩
     g4.zz g4.1 (λb hb _=>g4.2 b hb) (λb n' e=>by injection e with e;injection e with e1 e2;subst e1;exact .inr ⟨Nat.le_refl _,g5⟩)
     (λb n' sh2 xs2 fz2 e1 e2=>by
      injection e2 with e2 e3 e4
      subst e2;subst e3;subst e4
      refine⟨_,fz,rfl,λj hj=>⟨JN (g4.2 b (H.inside id b n' (e1 ▸ hm))),λn'' e3=>hj⟩⟩)
     (λM' Ev=>by
      refine⟨by simp;omega,g7.2.1,c'',g6.sealed _,?_,λi j x y hx hy=>?_⟩
      ·rw[<-g2];exact Nat.mul_le_mul_right _ (by simpa using g1)
      ·obtain⟨v,q1,q2⟩:=g7.2.2 i j x y hx hy
       exact⟨v,q1,q2.mono Ev.le⟩) (λb n t e ht=>by rw[gL (g4.2 b (H.inside id b n (e ▸ hm)))];exact ht)
    refine⟨_,_,_,yA g3,.inl ⟨_,rfl,?_⟩,key.1,key.2,rA.set ho (by simp [Obj.top])⟩
    exact .bt1 t0 id (xs.length+ys.length) _ newCap (xs++ys) fz (some (w.heap.size,n')) g1 (YB ho) (YB hm) (by simp) (λ_=>⟨rfl,⟨by omega,by rw[<-g2];simp [gA]⟩,g8 _ htt⟩)
 ·cases he
theorem zgt {ts:Array TypeId}{ty te:TypeId}{x:Value}{vx v:AV}(H:HeapRel h μ w)(Rx:RAV (imm h μ w) h μ vx x){h1:aA}{e:Esc}
 (he:aI te h vx=some (v,h1,e)):lA P (do pure (.value (<-Builtin.unsafeSliceData_ ts ty #[x]))) h μ w v h1 e:=by
 unfold aI at he;split at he
 ·rename_i t0 id g
  split at he;case h_2=>cases he
  rename_i xs fz ho;split at he;case isFalse=>cases he
  rename_i hcond;obtain⟨rfl,rfl⟩:=hcond;cases Rx with|bt1 _ _ _ a cap xs' fz' m hl ho' hm hg hv=>
  rw[ho]at ho';injection ho' with ho'
  injection ho' with _ q2 q3
  subst q2;subst q3
  have hb:=hv rfl
  obtain⟨kf,ks,kO⟩:=H.obj id _ _ ho hm;cases m with
  | none=>
   obtain⟨rfl,rfl⟩:=hb;have hx0:xs=[]:=kO
   subst hx0;simp only[List.length_nil,if_true,Option.some.injEq,Prod.mk.injEq]at he;obtain⟨rfl,rfl,rfl⟩:=he;exact lA.pure H (yA (Lib.run_unsafeSliceData_nil w ts ty 0 0)) (.anyp none)
  | some m=>
   obtain⟨b,n⟩:=m;obtain⟨rfl,hcn,hst⟩:=hb;have hrun:=Lib.run_unsafeSliceData_row (P:=P) w ts ty ⟨b,0,none⟩ xs.length cap (by omega)
   split at he
   ·simp only[Option.some.injEq,Prod.mk.injEq]at he
    obtain⟨rfl,rfl,rfl⟩:=he;exact lA.pure H (yA hrun) (.anyp _)
   ·simp only[Option.some.injEq,Prod.mk.injEq]at he
    obtain⟨rfl,rfl,rfl⟩:=he;exact lA.pure H (yA hrun) (.bt2 t0 id xs.length _ xs fz (some (b,n)) ho hm (Nat.le_refl _) (λ_=>⟨b,n,rfl,rfl,hst⟩))
 ·cases he
theorem zkc {b n:Nat}{c:Array Value}{E:TypeId}{lo hi:Nat}(hb:w.heap[b]?=some (.cells c E (lo,hi)))(hn:n≠0):∃lo' hi',w.freeze ⟨b,0,none⟩ n=uB w b (.cells c E (lo',hi')):=by
 have hlt:b<w.heap.size:=iJ hb
 have hb':w.heap[b] = .cells c E (lo,hi):=by
  rw[Array.getElem?_eq_getElem hlt]at hb;injection hb
 refine⟨if lo==hi then 0 else min lo 0,if lo==hi then 0+n else max hi (0+n),?_⟩;unfold World.freeze;rw[if_neg hn];simp only[uB];congr 1
 apply Array.ext_getElem?
 intro i;by_cases hi':b=i
 ·subst hi'
  rw[Array.getElem?_setIfInBounds_self_of_lt hlt,Array.getElem?_modify];simp only[if_true,Array.getElem?_eq_getElem hlt,Option.map_some,hb'];by_cases hq:lo=hi <;> simp [hq]
 ·rw[Array.getElem?_setIfInBounds_ne hi',Array.getElem?_modify]
  simp [hi']
theorem zqP:∀ {xs:List PV} {s:List UInt8},PE xs=some s->s.length=xs.length/\∀ (j:Nat) (b:UInt8),s[j]?=some b->xs[j]?=some (.int .u8 b.toNat):=by
 intro xs s h;rw[z3Y h];exact⟨by simp [tA],λj b hb=>by rw[NY,hb];rfl⟩
theorem zqF {ts:List TypeId}{pt it ty te:TypeId}(ht:aZ P te pt=true)(hcell1:P.cellsOf te=1){x:Value}{vx v:AV}{n:Nat}(H:HeapRel h μ w)(Rx:RAV (imm h μ w) h μ vx x){h1:aA}{e:Esc}
 (he:BH te h vx n=some (v,h1,e)):lA P (do pure (.value (<-Builtin.unsafeString_ #[pt,it] ty #[x,.int .i64 n]))) h μ w v h1 e:=by
 have htt:P.underlying pt=some (.pointer te):=by
  unfold aZ at ht;split at ht
  ·rename_i t' h'
   simp only[beq_iff_eq]at ht;subst ht;exact h'
  ·cases ht
 unfold BH at he;split at he
 ·split at he
  case isFalse=>cases he
  rename_i h0;subst h0;simp only[Option.some.injEq,Prod.mk.injEq]at he;obtain⟨rfl,rfl,rfl⟩:=he;cases Rx with|anyp a=>
  exact lA.pure H (yA (Lib.run_unsafeString_none w pt it ty a)) (.p _ _ (.str []))
 ·rename_i t0 id g
  split at he;case h_2=>cases he
  rename_i xs fz ho;split at he;case isFalse=>cases he
  rename_i hcond;obtain⟨rfl,rfl,rfl,hpos,hmax⟩:=hcond;simp only[Option.map_eq_some_iff,Prod.mk.injEq]at he;obtain⟨s,hs,rfl,rfl,rfl⟩:=he;obtain⟨hsl,hsg⟩:=zqP hs;cases Rx with|bt2 _ _ _ a xs' fz' m ho' hm hg hv=>
  rw[ho]at ho';injection ho' with ho'
  injection ho' with _ q2 q3
  subst q2;subst q3
  obtain⟨b,n,rfl,rfl,hst⟩:=hv rfl;obtain⟨kf,ks,c,hB,hn2,hcell⟩:=H.obj id _ _ ho hm;obtain⟨hsz,E,lo,hi,hE,_⟩:=hB;have hEt:E=t0:=by
   have hst:ety w b=some t0:=hst
   rw[DO hE]at hst;injection hst
  subst hEt;have hne:s≠[]:=by intro h0;subst h0;simp at hsl;omega
  have hrun:=Lib.run_unsafeString_row (P:=P) w pt it ty E htt hcell1 b c.size (zaL hE) s hne (by simp only[gA]at hn2;omega) (by unfold LA at hmax;omega) (λj y hy=>by
   rw[wC,Nat.zero_add];obtain⟨v,v1,v2⟩:=hcell j 0 _ (.int .u8 y.toNat) (hsg j y hy) rfl;cases v2;have:w.cell? ⟨b,j,none⟩=c[j]?:=by
    unfold World.cell?;simp [hE]
   rw[this];simpa [gA] using v1)
  rw[hsl]at hrun;have hw2:∃lo' hi',w.freeze ⟨b,0,none⟩ xs.length=uB w b (.cells c E (lo',hi')):=zkc hE (by omega)
  obtain⟨lo',hi',hw2⟩:=hw2;have key:=H.set (w':=uB w b (.cells c E (lo',hi'))) (o':=.row none xs (xs.length+1)) (m':=some (b,n)) ho hm ⟨xs,_,rfl,Nat.le_refl _,λ_=>rfl⟩
   rfl (Nat.le_of_eq (QI _ _).symm) (λb' _ hb'=>PI (λe=>hb' n (by rw[e]))) (λb' n e=>.inl ⟨n,e⟩)
   (λb' n' sh2 xs2 fz2 e1 e2=>by
    injection e2 with e2 e3 e4
    subst e2;subst e3;subst e4
    injection e1 with e1;injection e1 with e1 _;subst e1
    refine⟨_,_,rfl,λj hj=>⟨?_,λ_ _=>by simp only[gA]at hj ⊢;omega⟩⟩
    unfold World.cell?;simp [hE,OE hE])
   (λM' Ev=>by
    refine⟨by omega,ks,c,⟨hsz,E,lo',hi',OE hE,λq=>absurd (by omega) q⟩,hn2,λi j x y hx hy=>?_⟩
    obtain⟨v,v1,v2⟩:=hcell i j x y hx hy;exact⟨v,v1,v2.mono Ev.le⟩) (iL hE)
  rw[tE hm]at key;rw[hw2]at hrun;exact⟨_,_,_,yA hrun,.inl ⟨_,rfl,.p _ _ (.str s)⟩,key.1,key.2,rA.set ho (by simp [Obj.top])⟩
 ·cases he
def MH (o:Op):Option (Operand×List Operand):=match o with
 | .call c=>match c.callee with
  | .value f=>some (f,c.args.toList)
  | _=>none
 | _=>none
theorem uQ {o:Oper}{f:Operand}{ys:List Operand}(hc:MH o.op=some (f,ys)){ρ:Operand->Value}{g:Nat}{caps:Array Value}(hf:ρ f = .func (.func g) #[] caps) :
 (execOp ρ o).run P w=(callFunc g ((ys.map ρ).toArray++caps)).run P w:=by
 unfold MH at hc;split at hc
 ·rename_i c hop
  split at hc
  ·rename_i f' hcal
   injection hc with hc
   injection hc with h1 h2
   subst h1;subst h2
   unfold execOp;rw[hop];simp only[resolve,hcal,Deferred.ofValue,hf,Sem.run_bind,Sem.run_pure,Result.andThen_ok,invoke];have e1:(List.map ρ c.args.toList).toArray=c.args.map ρ:=by rw[<-Array.toList_map]
   rw[e1];simp
  ·cases hc
 ·cases hc
def cZ (P:Program)(f:Nat):Bool:=match P.funcs[f]? with
 | some fn=>fn.name == "internal/abi.NoEscape" && fn.body.isNone&&(Extern.findNext fn).isNone
 | none=>false
theorem zjX {fn:Func}(h:fn.name = "internal/abi.NoEscape"):Extern.find fn=some Extern.AbiNoEscape.same:=by
 have h1:(Extern.allGenericRows.lookup "internal/abi.NoEscape").isNone=true:=by kernel_rfl
 have h2:(Extern.allTypedRows.lookup "internal/abi.NoEscape").isNone=true:=by kernel_rfl
 have h3:Extern.allRows.lookup "internal/abi.NoEscape" = some Extern.AbiNoEscape.same:=by kernel_rfl
 unfold Extern.find;rw[h];simp only[Option.isNone_iff_eq_none.1 h1,Option.isNone_iff_eq_none.1 h2,h3];rfl
theorem zpO {f:Nat}(hc:cZ P f=true){o:Oper}{g y:Operand}(ho:MH o.op=some (g,[y])){ρ:Operand->Value}(hg:ρ g = .func (.func f) #[] #[]){v:AV}(H:HeapRel h μ w)(R:RAV (imm h μ w) h μ v (ρ y)) :
 lA P (execOp ρ o) h μ w v h []:=by
 unfold cZ at hc;split at hc;case h_2=>cases hc
 rename_i fn hf;simp only[Bool.and_eq_true,beq_iff_eq]at hc;obtain⟨⟨c1,c2⟩,c3⟩:=hc;refine lA.pure H ?_ R;rw[uQ ho hg,run_callFunc_extern hf (by rw[c1];rfl) c2 (Option.isNone_iff_eq_none.1 c3) (zjX c1)]
 rfl
theorem uW (t:Nat):∀(z:List AV) (c:List Value) {h:aA} {μ:Mu},HeapRel h μ w->c.length=z.length->(∀(j:Nat) (x:AV),z[j]?=some x->x.sc=true/\∃v,c[j]?=some v/\RAV (imm h μ w) h μ x v) ->
 ∃μ',HeapRel (dB t z h).2 μ' w/\Evo (imm h μ w) h μ (imm (dB t z h).2 μ' w) (dB t z h).2 μ'/\rA h (dB t z h).2 []/\(dB t z h).1.length=z.length /\
  ∀(j:Nat) (x:AV),(dB t z h).1[j]?=some x->x.sc=true/\∃v,c[j]?=some v/\RAV (imm (dB t z h).2 μ' w) (dB t z h).2 μ' x v
 | [],c,h,μ,H,_,_=>⟨μ,H,Evo.refl _ _ _,rA.refl _ _,rfl,λj x hx=>by simp [dB]at hx⟩
 | a::r,[],h,μ,H,e,_=>by simp at e
 | a::r,b::s,h,μ,H,e,hr=>by
  have e3:s.length=r.length:=by simpa using e
  obtain⟨a1,b',hb',a2⟩:=hr 0 a rfl;have hbb:b'=b:=by simpa using hb'.symm
  subst hbb;by_cases ha:∃sh,a = .sl0 sh
  ·obtain⟨sh,rfl⟩:=ha
   cases hn:ML t sh with
   | true=>
    have hrw:dB t (.sl0 sh::r) h=(.bt 3 (t-1) h.length 0::(dB t r (h++[.arow (aC (t-1)) []])).1,(dB t r (h++[.arow (aC (t-1)) []])).2):=by
     show(bif ML t sh then _ else _)=_
     rw[hn];rfl
    rw[hrw];obtain⟨k1,k2⟩:=zmi H (aC (t-1));obtain⟨μ',g1,g2,g3,g4,g5⟩:=uW t r s k1 e3 (λj x hx=>by
     obtain⟨q1,v,q2,q3⟩:=hr (j+1) x (by simpa using hx)
     exact⟨q1,v,by simpa using q2,q3.evo k2⟩)
    refine⟨μ',g1,k2.trans g2,?_,by simp [g4],λj x hx=>?_⟩
    ·simpa using (rA.push (h:=h) (o:=.arow (aC (t-1)) []) (by simp [Obj.top,AV.tops])).trans g3
    ·cases j with
     | zero=>
      simp at hx;subst hx;refine⟨rfl,b',rfl,?_⟩;cases a2 with
      | sl0 _ aa=>
       have q:RAV (imm (h++[.arow (aC (t-1)) []]) (μ++[none]) w) (h++[.arow (aC (t-1)) []]) (μ++[none]) (.bt 3 (t-1) h.length 0) (.slice aa 0 0):=
        .bt3 (t-1) h.length 0 aa 0 (.arow (aC (t-1)) []) none (Nat.le_refl _) (by simp) (by rw[<-H.len];simp) (λsh cs e=>by
         injection e with q1 q2
         subst q1;subst q2
         exact⟨by simp,λ_=>by simp [vF]⟩)
       exact q.evo g2
     | succ j=>exact g5 j x (by simpa using hx)
   | false=>
    have hrw:dB t (.sl0 sh::r) h=(.own h.length 0 0 0::(dB t r (h++[.row sh [] 0])).1,(dB t r (h++[.row sh [] 0])).2):=by
     show(bif ML t sh then _ else _)=_
     rw[hn];rfl
    rw[hrw];obtain⟨k1,k2⟩:=UP H sh;obtain⟨μ',g1,g2,g3,g4,g5⟩:=uW t r s k1 e3 (λj x hx=>by
     obtain⟨q1,v,q2,q3⟩:=hr (j+1) x (by simpa using hx)
     exact⟨q1,v,by simpa using q2,q3.evo k2⟩)
    refine⟨μ',g1,k2.trans g2,?_,by simp [g4],λj x hx=>?_⟩
    ·simpa using (rA.push (h:=h) (o:=.row sh [] 0) (by simp [Obj.top])).trans g3
    ·cases j with
     | zero=>
      simp at hx;subst hx;refine⟨rfl,b',rfl,?_⟩;cases a2 with
      | sl0 _ aa=>
       have q:RAV (imm (h++[.row sh [] 0]) (μ++[none]) w) (h++[.row sh [] 0]) (μ++[none]) (.own h.length 0 0 0) (.slice aa 0 0):=
        .own h.length 0 0 0 aa 0 sh [] 0 none (Nat.le_refl _) (by simp) (by rw[<-H.len];simp) (Nat.zero_le _) (Nat.le_refl _) (λ_=>by simp [vF])
       exact q.evo g2
     | succ j=>exact g5 j x (by simpa using hx)
  ·obtain⟨μ',g1,g2,g3,g4,g5⟩:=uW t r s H e3 (λj x hx=>by
    obtain⟨q1,v,q2,q3⟩:=hr (j+1) x (by simpa using hx)
    exact⟨q1,v,by simpa using q2,q3⟩)
   have hrw:dB t (a::r) h=(a::(dB t r h).1,(dB t r h).2):=by
    cases a <;> first|rfl|exact absurd ⟨_,rfl⟩ ha
   rw[hrw];refine⟨μ',g1,g2,g3,by simp [g4],λj x hx=>?_⟩
   cases j with
   | zero=>
    simp at hx;subst hx;exact⟨a1,b',rfl,a2.evo g2⟩
   | succ j=>exact g5 j x (by simpa using hx)
theorem zel {t:TypeId}(tn:Nat){v:AV}{x:Value}{cs:List AV}(H:HeapRel h μ w)(R:RAV (imm h μ w) h μ v x)(hc:v.cells=some cs) :
 lA P (do pure (.value (<-Instr.box t x))) h μ w (.ref (dB tn cs h).2.length 0) ((dB tn cs h).2++[.box (dB tn cs h).1]) []:=by
 have hs:=kJ R hc
 obtain⟨μ',g1,g2,g3,g4,g5⟩:=uW tn cs x.cells.toList H (by simpa using hs.1) (λj y hy=>by
  obtain⟨q1,u,q2,q3⟩:=hs.2 j y hy;exact⟨q1,u,by simpa using q2,q3⟩)
 obtain⟨_,_,μ2,k1,k2,k3,k4,k5⟩:=z12 (P:=P) g1 (s:=do pure (.value (<-Instr.box t x))) (c:=x.cells) t (by rw[g4];exact hs.1) (λj y hy=>by simpa using g5 j y hy) (by
  refine yA ?_;simp [Instr.box,newVar,nG])
 exact⟨_,_,μ2,k1,k2,k3,g2.trans k4,by simpa using g3.trans k5⟩
end
section
variable {h h':aA} {μ μ':Mu} {w w':World} {P:Program} {M M':Mem}
def TE (b:Builtin)(o:Op):Option (List Operand×List TypeId):=match o with
 | .call c=>match c.callee with
  | .builtin b'=>if b=b' then some (c.args.toList,c.argTypes.toList) else none
  | _=>none
 | _=>none
def one9:Op->Option (TypeId × Operand)
 | .buildSlice t n qs=>if n=1 then match qs.toList with
  | [(0,y)]=>some (t,y)
  | _=>none
  else none
 | _=>none
theorem zmy {o:Op}{t:TypeId}{y:Operand}(h:one9 o=some (t,y)):o = .buildSlice t 1 #[(0,y)]:=by
 unfold one9 at h;split at h
 ·rename_i t' n qs
  split at h
  ·rename_i hn
   split at h
   ·rename_i y' hq
    simp only[Option.some.injEq,Prod.mk.injEq]at h;obtain⟨rfl,rfl⟩:=h;subst hn;have:qs = #[(0,y')]:=by rw[<-Array.toList_inj];exact hq
    rw[this]
   ·cases h
  ·cases h
 ·cases h
def eZ (P:Program)(k t:Nat)(xs:List Opd)(o:Op):Bool:=match k with
 | 0=>match o,xs with
  | .alloc t',[_]=>t'==t&&DK P t
  | _,_=>false
 | 1=>match o,xs with
  | .convert s d y,[x]=>DK P t&&fZ P t s d&&JA x y
  | _,_=>false
 | 2=>match o,xs with
  | .binOp op' t' x' y' _,[x,y]=>decide (op' = .neq)&&ZY P t'&&JA x x'&&JA y y'
  | _,_=>false
 | 3=>match TE .append o,xs with
  | some ([x',y'],[t0,u]),[x,y]=>VE P none t0 u&&dZ P t t0&&JA x x'&&JA y y'
  | _,_=>false
 | 4=>match TE .len o,xs with
  | some ([y],t0::_),[x]=>TG P t0==1&&JA x y
  | _,_=>false
 | 5=>match TE .unsafeSliceData o,xs with
  | some ([y],_),[x]=>JA x y
  | _,_=>false
 | 6=>match TE .unsafeString o,xs with
  | some ([p',n'],[pt,_]),[p,n]=>aZ P t pt&&P.cellsOf t==1&&JA p p'&&JA n n'
  | _,_=>false
 | 7=>match MH o,xs with
  | some (g,[y]),[f,x]=>cZ P t&&JA f g&&JA x y
  | _,_=>false
 | 9=>match one9 o,xs with
  | some (t',y),[x]=>chk9 P (aC t) t'&&JA x y
  | _,_=>false
 | 11=>match TE .append o,xs with
  | some ([x',y'],[t0,u]),[x,y]=>VE P (aC t) t0 u&&decide (gA (aC t)≠0)&&JA x x'&&JA y y'
  | _,_=>false
 | 12=>match o,xs with
  | .box _ y,[x]=>JA x y
  | _,_=>false
 | _=>false
def mR (P:Program)(a:AO)(o:Op):Bool:=match a with
 | .uns k t xs=>eZ P k t xs o
 | .mv x=>match o with
  | .move y=>JA x y
  | .assign y=>JA x y
  | _=>false
 | .pick c x y=>match o with
  | .pick c' x' y'=>JA c c'&&JA x x'&&JA y y'
  | _=>false
 | .alloc z=>match o with
  | .alloc t=>KN P z t
  | _=>false
 | .box x=>match o with
  | .box _ y=>JA x y
  | _=>false
 | .build z ps=>match o with
  | .build t qs=>TY P z ps t qs.toList
  | _=>false
 | .bsl _ sh n z ps=>match o with
  | .buildSlice t n' qs=>SY P sh n z ps t n' qs.toList
  | _=>false
 | .load sh x=>match o with
  | .load t y=>kB P t==some sh&&JA x y
  | _=>false
 | .store sh x v=>match o with
  | .store t y u=>kB P t==some sh&&JA x y&&JA v u
  | _=>false
 | .nilchk x=>match o with
  | .nilCheck y=>JA x y
  | _=>false
 | .bin op x y=>match o with
  | .binOp op' _ x' y' _=>decide (op=op')&&JA x x'&&JA y y'
  | _=>false
 | .eqa ks neg x y=>match o with
  | .binOp op' t x' y' _=>decide (op'=if neg then .neq else .eql)&&kR P t ks&&JA x x'&&JA y y'
  | _=>false
 | .isnil k neg x=>match o with
  | .binOp op' t x' y' _=>decide (op'=if neg then .neq else .eql)&&TF P k t y'&&JA x x'
  | _=>false
 | .mkif _=>false
 | .un op x=>match o with
  | .unOp op' _ y=>decide (op=op')&&JA x y
  | _=>false
 | .conv c x=>match o with
  | .convert s d y=>mJ P c s d&&JA x y
  | _=>false
 | .mkfn f caps=>match o with
  | .makeFunc fn first cs=>(match fn with | .func f'=>f==f'|_=>false)&&first.size==0&&XB caps cs.toList
  | _=>false
 | .mkmap=>match o with
  | .makeMap _ r=>r.isNone
  | _=>false
 | .mksl sh z l c=>match o with
  | .makeSlice t l' c'=>YY P sh z t&&JA l l'&&JA c c'
  | _=>false
 | .slice sh x lo hi mx=>match o with
  | .slice t x' lo' hi' mx'=>oJ P t sh&&JA x x'&&sC lo lo'&&sC hi hi'&&sC mx mx'&&(mx.isNone||hi.isSome)
  | _=>false
 | .slstr x lo hi=>match o with
  | .slice t x' lo' hi' mx'=>EK P t&&JA x x'&&sC lo lo'&&sC hi hi'&&mx'.isNone
  | _=>false
 | .faddr off sh x=>match o with
  | .fieldAddr s y f=>nJ P s f off sh&&JA x y
  | _=>false
 | .field off sh x=>match o with
  | .field s y f=>nJ P s f off sh&&JA x y
  | _=>false
 | .iaddr sh x i=>match o with
  | .indexAddr t y j=>oJ P t sh&&JA x y&&JA i j
  | _=>false
 | .iaddra n sh x i=>match o with
  | .indexAddr t y j=>lJ P t n sh&&JA x y&&JA i j
  | _=>false
 | .idxa n sh x i=>match o with
  | .index t y j=>lJ P t n sh&&JA x y&&JA i j
  | _=>false
 | .idxs x i=>match o with
  | .index t y j=>EK P t&&JA x y&&JA i j
  | _=>false
 | .ext x i=>match o with
  | .extract y j=>JA x y&&i==j
  | _=>false
 | .len x=>match TE .len o with
  | some ([y],t::_)=>TG P t==1&&JA x y
  | _=>false
 | .lens x=>match TE .len o with
  | some ([y],t::_)=>TG P t==2&&JA x y
  | _=>false
 | .lenm x=>false
 | .app sh x y=>match TE .append o with
  | some ([x',y'],[t,u])=>VE P sh t u&&JA x x'&&JA y y'
  | _=>false
 | .copy sh x y=>false
 | .clr sh z x=>match TE .clear o with
  | some ([x'],t::_)=>UY P sh z t&&JA x x'
  | _=>false
 | .look kk ok z x k=>match o with
  | .lookup t x' k' ok'=>lR P kk z t&&ok==ok'&&JA x x'&&JA k k'
  | _=>false
 | .mupd kk m k v=>match o with
  | .mapUpdate t m' k' v'=>LN P kk t&&JA m m'&&JA k k'&&JA v v'
  | .insert t m' k' v'=>LN P kk t&&JA m m'&&JA k k'&&JA v v'
  | _=>false
 | .ment kk z m k=>false
 | .estore m s v=>false
 | .mdel kk m k=>false
 | .mrange x=>match o with
  | .range t y=>bZ P t&&JA x y
  | _=>false
 | .mentry x=>match o with
  | .entry y=>JA x y
  | _=>false
 | .mx xs=>match TE .max o with
  | some (ys,_)=>XB xs ys
  | _=>false
 | .mn xs=>false
 | .new0 _=>match o with
  | .move (.const (.slice none 0 0))=>true
  | .assign (.const (.slice none 0 0))=>true
  | _=>false
 | _=>false
theorem QF {b:Builtin}{o:Oper}{ys:List Operand}{ts:List TypeId}(hb:TE b o.op=some (ys,ts)){ρ:Operand->Value} :
 ∃cs,(execOp ρ o).run P w=(builtin b ts.toArray o.type cs (ys.map ρ).toArray).run P w:=by
 unfold TE at hb;split at hb
 ·rename_i c hc
  split at hb
  ·rename_i b' hcb
   split at hb
   ·rename_i hbb
    subst hbb;injection hb with hb
    injection hb with h1 h2
    subst h1;subst h2
    refine⟨(c.args.map fun | .const _=>true|_=>false),?_⟩
    unfold execOp;rw[hc];simp only[resolve,hcb,Sem.run_bind,Sem.run_pure,Result.andThen_ok,invoke];have e1:(List.map ρ c.args.toList).toArray=c.args.map ρ:=by rw[<-Array.toList_map]
    rw[e1];rfl
   ·cases hb
  ·cases hb
 ·cases hb
theorem lA.congr {s s':Sem Next}{v:AV}{h1:aA}{e:Esc}(hr:s.run P w=s'.run P w)(H:lA P s' h μ w v h1 e):lA P s h μ w v h1 e:=by
 obtain⟨nx,w',μ',r,q⟩:=H;exact⟨nx,w',μ',hr.trans r,q⟩
theorem zlY {v:AV}{x:Value}{n:Nat}(H:RAV M h μ v x)(hn:n64 v=some n):x = .int .i64 n:=by
 unfold n64 at hn;split at hn
 ·rename_i m
  split at hn
  ·injection hn with hn
   have:=H.p_inv;cases this;rw[<-hn];congr 1
   omega
  ·cases hn
 ·cases hn
theorem zrw {k t:Nat}{xs:List Opd}{o:Oper}(hc:eZ P k t xs o.op=true){ev:Opd->AV}(hev:∀ v,ev (.c v)=v){ρ:Operand->Value}(hρ:∀ v,ρ (.const v)=v){v:AV}{h1:aA}{e:Esc}(H:HeapRel h μ w)(R:wE (imm h μ w) h μ ev ρ)
 (he:DB k t (xs.map ev) h=some (v,h1,e)):lA P (execOp ρ o) h μ w v h1 e:=by
 have E:∀{s:Sem Next},execOp ρ o=s->lA P s h μ w v h1 e->lA P (execOp ρ o) h μ w v h1 e:=λhs H=>hs ▸ H
 unfold eZ at hc;split at hc
 ·split at hc
  case h_2=>cases hc
  rename_i t' x ho;simp only[Bool.and_eq_true,beq_iff_eq]at hc;obtain⟨rfl,c2⟩:=hc;simp only[DB,List.map_cons,List.map_nil]at he;split at he;case h_2=>cases he
  simp only[Option.some.injEq,Prod.mk.injEq]at he;obtain⟨rfl,rfl,rfl⟩:=he;exact E (by unfold execOp;rw[ho]) (zmc c2 H)
 ·split at hc
  case h_2=>cases hc
  rename_i s d y x ho;simp only[Bool.and_eq_true]at hc;obtain⟨⟨c1,c2⟩,c3⟩:=hc;simp only[DB,List.map_cons,List.map_nil]at he;have Rx:=R _ _ c3
  unfold tK at he;split at he;case h_2=>cases he
  rename_i id hx;split at he;case h_2=>cases he
  rename_i t' id' g v2 hob;split at he;case isFalse=>cases he
  rename_i hcond;simp only[Option.some.injEq,Prod.mk.injEq]at he;obtain⟨rfl,rfl,rfl⟩:=he;rw[hx]at Rx;exact E (by unfold execOp;rw[ho]) (zrx c1 c2 H Rx hob hcond.1 hcond.2)
 ·split at hc
  case h_2=>cases hc
  rename_i op' t' x' y' u x y ho;simp only[Bool.and_eq_true,decide_eq_true_eq]at hc;obtain⟨⟨⟨rfl,c2⟩,c3⟩,c4⟩:=hc;simp only[DB,List.map_cons,List.map_nil]at he;have Rx:=R _ _ c3
  have Ry:=R _ _ c4
  unfold KJ at he;split at he;case h_2=>cases he
  rename_i id o1 id' o2 hx hy;split at he;case isFalse=>cases he
  rename_i hcond;obtain⟨rfl,rfl⟩:=hcond;simp only[Option.some.injEq,Prod.mk.injEq]at he;obtain⟨rfl,rfl,rfl⟩:=he;rw[hx]at Rx;rw[hy]at Ry;exact E (by unfold execOp;rw[ho]) (zmb c2 H Rx Ry)
 ·split at hc
  case h_2=>cases hc
  rename_i x' y' t0 u x y hb;simp only[Bool.and_eq_true]at hc;obtain⟨⟨⟨c1,c2⟩,c3⟩,c4⟩:=hc;simp only[DB,List.map_cons,List.map_nil]at he;obtain⟨cs,hr⟩:=QF (P:=P) (w:=w) hb (ρ:=ρ);exact lA.congr hr (zd1 c1 c2 H (R _ _ c3) (R _ _ c4) he)
 ·split at hc
  case h_2=>cases hc
  rename_i y t0 ts x hb;simp only[Bool.and_eq_true,beq_iff_eq]at hc;simp only[DB,List.map_cons,List.map_nil,Option.map_eq_some_iff,Prod.mk.injEq]at he;obtain⟨n,hn,rfl,rfl,rfl⟩:=he;obtain⟨cs,hr⟩:=QF (P:=P) (w:=w) hb (ρ:=ρ);have Rx:=R _ _ hc.2
  have hx:∃a cap,ρ y = .slice a n cap:=by
   unfold SP at hn;split at hn
   ·rename_i hx
    rw[hx]at Rx;injection hn with hn
    subst hn;generalize ρ y=z at Rx;cases Rx with|bt1 _ _ _ a cap xs' fz' m hl ho' hm hg hv=>exact⟨_,_,rfl⟩
   ·cases hn
  obtain⟨a,cap,hx⟩:=hx;exact lA.congr hr (zl9 hx H hc.1)
 ·split at hc
  case h_2=>cases hc
  rename_i y ts x hb;simp only[DB,List.map_cons,List.map_nil]at he;obtain⟨cs,hr⟩:=QF (P:=P) (w:=w) hb (ρ:=ρ);exact lA.congr hr (zgt H (R _ _ hc) he)
 ·split at hc
  case h_2=>cases hc
  rename_i p' n' pt it p n hb;simp only[Bool.and_eq_true,beq_iff_eq]at hc;obtain⟨⟨⟨c1,c2⟩,c3⟩,c4⟩:=hc;simp only[DB,List.map_cons,List.map_nil]at he;obtain⟨cs,hr⟩:=QF (P:=P) (w:=w) hb (ρ:=ρ);split at he
  ·rename_i m hm
   have hn:=zlY (R _ _ c4) hm
   refine lA.congr hr ?_;simp only[List.map_cons,List.map_nil,hn];exact zqF (ts:=[]) c1 c2 H (R _ _ c3) he
  ·cases he
 ·split at hc
  case h_2=>cases hc
  rename_i g y f x hb;simp only[Bool.and_eq_true]at hc;obtain⟨⟨c1,c2⟩,c3⟩:=hc;simp only[DB,List.map_cons,List.map_nil]at he;have Rf:=R _ _ c2
  have Rx:=R _ _ c3
  unfold mK at he;split at he;case h_2=>cases he
  rename_i g' hf;split at he;case isFalse=>cases he
  rename_i hcond;subst hcond;simp only[Option.some.injEq,Prod.mk.injEq]at he;obtain⟨rfl,rfl,rfl⟩:=he;rw[hf]at Rf;have hg:ρ g = .func (.func g') #[] #[]:=by
   generalize ρ g=z at Rf;cases Rf with|fn _ cs vs hl hr=>
   have:vs=[]:=List.length_eq_zero_iff.1 (by rw[<-hl];rfl)
   subst this;rfl
  exact zpO c1 hb hg H Rx
 ·split at hc
  case h_2=>cases hc
  rename_i t' y x ho;simp only[Bool.and_eq_true]at hc;obtain⟨c1,c2⟩:=hc;have ho:=zmy ho
  simp only[DB,List.map_cons,List.map_nil]at he;split at he;case h_2=>cases he
  rename_i cs hv;split at he;case isFalse=>cases he
  rename_i hl;simp only[Option.some.injEq,Prod.mk.injEq]at he;obtain⟨rfl,rfl,rfl⟩:=he;exact E (s:=do pure (.value (<-Instr.buildSlice t' 1 #[(0,ρ y)]))) (by unfold execOp;rw[ho];simp) (zen rfl c1 H (R _ _ c2) hv hl)
 ·split at hc
  case h_2=>cases hc
  rename_i x' y' t0 u x y hb;simp only[Bool.and_eq_true,decide_eq_true_eq]at hc;obtain⟨⟨⟨c1,c2⟩,c3⟩,c4⟩:=hc;simp only[DB,List.map_cons,List.map_nil]at he;obtain⟨cs,hr⟩:=QF (P:=P) (w:=w) hb (ρ:=ρ);exact lA.congr hr (zdy rfl c1 c2 H (R _ _ c3) (R _ _ c4) he)
 ·split at hc
  case h_2=>cases hc
  rename_i t' y x ho;simp only[DB,List.map_cons,List.map_nil]at he;split at he;case h_2=>cases he
  rename_i cs hv;simp only[Option.some.injEq,Prod.mk.injEq]at he;obtain⟨rfl,rfl,rfl⟩:=he;exact E (by unfold execOp;rw[ho]) (zel _ H (R _ _ hc) hv)
 ·cases hc
theorem z9s {a:AO}{o:Oper}(hc:mR P a o.op=true){ev:Opd->AV}(hev:∀ v,ev (.c v)=v){ρ:Operand->Value}(hρ:∀ v,ρ (.const v)=v){v:AV}{h1:aA}{e:Esc}(H:HeapRel h μ w)(R:wE (imm h μ w) h μ ev ρ)
 (he:aop a ev h=some (v,h1,e)):lA P (execOp ρ o) h μ w v h1 e:=by
 have E:∀{s:Sem Next},execOp ρ o=s->lA P s h μ w v h1 e->lA P (execOp ρ o) h μ w v h1 e:=λhs H=>hs ▸ H
 cases a <;> simp only[mR]at hc
 case mv x=>
  split at hc
  ·rename_i y ho;exact E (by unfold execOp;rw[ho]) (z9g H (R _ _ hc) he)
  ·rename_i y ho;exact E (by unfold execOp;rw[ho]) (z9g H (R _ _ hc) he)
  ·cases hc
 case uns k t xs=>exact zrw hc hev hρ H R he
 case pick c x y=>
  split at hc
  ·rename_i c' x' y' ho
   simp only[Bool.and_eq_true]at hc;exact E (by unfold execOp;rw[ho]) (znX H (R _ _ hc.1.1) (R _ _ hc.1.2) (R _ _ hc.2) he)
  ·cases hc
 case alloc z=>
  split at hc
  ·rename_i t ho
   simp only[aop,Option.some.injEq,Prod.mk.injEq]at he;obtain⟨rfl,rfl,rfl⟩:=he;exact E (by unfold execOp;rw[ho]) (zdq hc H)
  ·cases hc
 case box x=>
  split at hc
  ·rename_i t y ho
   simp only[aop]at he;split at he
   ·rename_i cs hcs
    simp only[Option.some.injEq,Prod.mk.injEq]at he;obtain⟨rfl,rfl,rfl⟩:=he;exact E (by unfold execOp;rw[ho]) (zek H (R _ _ hc) hcs)
   ·cases he
  ·cases hc
 case build z ps=>
  split at hc
  ·rename_i t qs ho
   simp only[aop,Option.map_eq_some_iff,Prod.mk.injEq]at he;obtain⟨cs,hcs,rfl,rfl,rfl⟩:=he;exact E (by unfold execOp;rw[ho]) (zeo hc H R hcs)
  ·cases hc
 case bsl own sh n z ps=>
  split at hc
  ·rename_i t n' qs ho
   exact E (by unfold execOp;rw[ho]) (zem hc H R he)
  ·cases hc
 case load sh x=>
  split at hc
  ·rename_i t y ho
   simp only[Bool.and_eq_true,beq_iff_eq]at hc;exact E (by unfold execOp;rw[ho]) (zlK hc.1 H (R _ _ hc.2) ev x rfl he)
  ·cases hc
 case store sh x u=>
  split at hc
  ·rename_i t y z ho
   simp only[Bool.and_eq_true,beq_iff_eq]at hc;exact E (by unfold execOp;rw[ho]) (zqB hc.1.1 H ev x u (R _ _ hc.1.2) (R _ _ hc.2) he)
  ·cases hc
 case nilchk x=>
  split at hc
  ·rename_i y ho;exact zmr H (R _ _ hc) he rfl ho
  ·cases hc
 case bin op x y=>
  split at hc
  ·rename_i op' t x' y' u ho
   simp only[Bool.and_eq_true,decide_eq_true_eq]at hc;obtain⟨⟨rfl,c2⟩,c3⟩:=hc;exact E (by unfold execOp;rw[ho]) (zdY H (R _ _ c2) (R _ _ c3) he)
  ·cases hc
 case eqa ks neg x y=>
  split at hc
  ·rename_i op' t x' y' u ho
   simp only[Bool.and_eq_true,decide_eq_true_eq]at hc;obtain⟨⟨⟨c1,c2⟩,c3⟩,c4⟩:=hc;exact E (by unfold execOp;rw[ho]) (zj0 c1 c2 H (R _ _ c3) (R _ _ c4) he)
  ·cases hc
 case isnil k neg x=>
  split at hc
  ·rename_i op' t x' y' u ho
   simp only[Bool.and_eq_true,decide_eq_true_eq]at hc;obtain⟨⟨c1,c2⟩,c3⟩:=hc;have hy:∃z,y' = .const z:=by
    unfold TF at c2;split at c2 <;> first|exact⟨_,rfl⟩|cases c2
   obtain⟨z,rfl⟩:=hy;have:=zkE (P:=P) (a:=x') c1 c2 H (R _ _ c3) he;refine E (by unfold execOp;rw[ho]) ?_
   simp only[hρ];exact this
  ·cases hc
 case un op x=>
  split at hc
  ·rename_i op' t y ho
   simp only[Bool.and_eq_true,decide_eq_true_eq]at hc;obtain⟨rfl,c2⟩:=hc;exact E (by unfold execOp;rw[ho]) (un_ok H (R _ _ c2) he)
  ·cases hc
 case conv c x=>
  split at hc
  ·rename_i s d y ho
   simp only[Bool.and_eq_true]at hc;exact E (by unfold execOp;rw[ho]) (zgm hc.1 H (R _ _ hc.2) he)
  ·cases hc
 case mkfn f caps=>
  split at hc
  ·rename_i fn first cs ho
   simp only[Bool.and_eq_true,beq_iff_eq]at hc;obtain⟨⟨c1,c2⟩,c3⟩:=hc;split at c1
   ·simp only[beq_iff_eq]at c1
    subst c1;exact E (by unfold execOp;rw[ho]) (zlS c3 (Array.eq_empty_of_size_eq_zero c2) H R he)
   ·cases c1
  ·cases hc
 case mkmap=>
  split at hc
  ·rename_i t r ho
   rw[Option.isNone_iff_eq_none]at hc;subst hc;exact E (s:=do pure (.value (<-Instr.makeMap t none))) (by unfold execOp;rw[ho];rfl) (zlT rfl H he)
  ·cases hc
 case mksl sh z l c=>
  split at hc
  ·rename_i t l' c' ho
   simp only[Bool.and_eq_true]at hc;exact E (by unfold execOp;rw[ho]) (zlU hc.1.1 H (R _ _ hc.1.2) (R _ _ hc.2) he)
  ·cases hc
 case slice sh x lo hi mx=>
  split at hc
  ·rename_i t x' lo' hi' mx' ho
   simp only[Bool.and_eq_true,Bool.or_eq_true]at hc;obtain⟨⟨⟨⟨⟨c1,c2⟩,c3⟩,c4⟩,c5⟩,c6⟩:=hc;refine E (by unfold execOp;rw[ho]) (zqr c1 H R c2 c3 c4 c5 (λhm=>?_) he)
   rcases c6 with c6|c6
   ·cases mx <;> simp_all
   ·exact c6
  ·cases hc
 case slstr x lo hi=>
  split at hc
  ·rename_i t x' lo' hi' mx' ho
   simp only[Bool.and_eq_true]at hc;obtain⟨⟨⟨⟨c1,c2⟩,c3⟩,c4⟩,c5⟩:=hc;rw[Option.isNone_iff_eq_none]at c5;subst c5;exact E (s:=do pure (.value (<-Instr.sliceAt t (ρ x') (lo'.map ρ) (hi'.map ρ) none))) (by unfold execOp;rw[ho];rfl) (zqs c1 H R c2 c3 c4 he)
  ·cases hc
 case faddr off sh x=>
  split at hc
  ·rename_i s y f ho
   simp only[Bool.and_eq_true]at hc;exact E (by unfold execOp;rw[ho]) (zjK hc.1 H ev x (R _ _ hc.2) he)
  ·cases hc
 case field off sh x=>
  split at hc
  ·rename_i s y f ho
   simp only[Bool.and_eq_true]at hc;exact E (by unfold execOp;rw[ho]) (zjR hc.1 H ev x (R _ _ hc.2) he)
  ·cases hc
 case iaddr sh x i=>
  split at hc
  ·rename_i t y j ho
   simp only[Bool.and_eq_true]at hc;exact E (by unfold execOp;rw[ho]) (zkv hc.1.1 H ev x i (R _ _ hc.1.2) (R _ _ hc.2) he)
  ·cases hc
 case iaddra n sh x i=>
  split at hc
  ·rename_i t y j ho
   simp only[Bool.and_eq_true]at hc;exact E (by unfold execOp;rw[ho]) (zky hc.1.1 H ev x i (R _ _ hc.1.2) (R _ _ hc.2) he)
  ·cases hc
 case idxa n sh x i=>
  split at hc
  ·rename_i t y j ho
   simp only[Bool.and_eq_true]at hc;exact E (by unfold execOp;rw[ho]) (zk3 hc.1.1 H ev x i (R _ _ hc.1.2) (R _ _ hc.2) he)
  ·cases hc
 case idxs x i=>
  split at hc
  ·rename_i t y j ho
   simp only[Bool.and_eq_true]at hc;exact E (by unfold execOp;rw[ho]) (zk4 hc.1.1 H ev x i (R _ _ hc.1.2) (R _ _ hc.2) he)
  ·cases hc
 case ext x i=>
  split at hc
  ·rename_i y j ho
   simp only[Bool.and_eq_true,beq_iff_eq]at hc;obtain⟨c1,rfl⟩:=hc;exact E (by unfold execOp;rw[ho]) (zjF H (R _ _ c1) he)
  ·cases hc
 case len x=>
  split at hc
  ·rename_i y t ts hb
   simp only[Bool.and_eq_true,beq_iff_eq]at hc;obtain⟨cs,hr⟩:=QF (P:=P) (w:=w) hb (ρ:=ρ);exact lA.congr hr (zlC hc.1 H (R _ _ hc.2) he)
  ·cases hc
 case lens x=>
  split at hc
  ·rename_i y t ts hb
   simp only[Bool.and_eq_true,beq_iff_eq]at hc;obtain⟨cs,hr⟩:=QF (P:=P) (w:=w) hb (ρ:=ρ);exact lA.congr hr (zlF hc.1 H (R _ _ hc.2) he)
  ·cases hc
 case app sh x y=>
  split at hc
  ·rename_i x' y' t u hb
   simp only[Bool.and_eq_true]at hc;obtain⟨cs,hr⟩:=QF (P:=P) (w:=w) hb (ρ:=ρ);exact lA.congr hr (zd2 hc.1.1 H (R _ _ hc.1.2) (R _ _ hc.2) he)
  ·cases hc
 case clr sh z x=>
  split at hc
  ·rename_i x' t ts hb
   simp only[Bool.and_eq_true]at hc;obtain⟨cs,hr⟩:=QF (P:=P) (w:=w) hb (ρ:=ρ);exact lA.congr hr (zgc hc.1 H (R _ _ hc.2) he)
  ·cases hc
 case look kk ok z x k=>
  split at hc
  ·rename_i t x' k' ok' ho
   simp only[Bool.and_eq_true,beq_iff_eq]at hc;obtain⟨⟨⟨c1,rfl⟩,c3⟩,c4⟩:=hc;exact E (by unfold execOp;rw[ho]) (zlM c1 H (R _ _ c3) (R _ _ c4) he)
  ·cases hc
 case mupd kk m k u=>
  split at hc
  ·rename_i t m' k' v' ho
   simp only[Bool.and_eq_true]at hc;obtain⟨⟨⟨c1,c2⟩,c3⟩,c4⟩:=hc;exact E (by unfold execOp;rw[ho]) (z9f c1 H (R _ _ c2) (R _ _ c3) (R _ _ c4) he)
  ·rename_i t m' k' v' ho
   simp only[Bool.and_eq_true]at hc;obtain⟨⟨⟨c1,c2⟩,c3⟩,c4⟩:=hc;exact E (by unfold execOp;rw[ho]) (z9f c1 H (R _ _ c2) (R _ _ c3) (R _ _ c4) he)
  ·cases hc
 case mrange x=>
  split at hc
  ·rename_i t y ho
   simp only[Bool.and_eq_true]at hc;exact E (by unfold execOp;rw[ho]) (zlX hc.1 H (R _ _ hc.2) he)
  ·cases hc
 case mentry x=>
  split at hc
  ·rename_i y ho
   exact E (by unfold execOp;rw[ho]) (zlQ H (R _ _ hc) he)
  ·cases hc
 case mx xs=>
  split at hc
  ·rename_i ys ts hb
   obtain⟨cs,hr⟩:=QF (P:=P) (w:=w) hb (ρ:=ρ);refine lA.congr hr ?_;have:=mx_ok (P:=P) (cs:=ys.toArray) (ts:=ts.toArray) (ty:=o.type) hc H R he;have h2:Array.map ρ ys.toArray=(List.map ρ ys).toArray:=by simp
   rw[h2]at this;exact this
  ·cases hc
 case new0 sh=>
  split at hc
  ·rename_i ho
   refine E (s:=pure (.value (.slice none 0 0))) (by unfold execOp;rw[ho];simp only[hρ]) (z9j H he)
  ·rename_i ho
   refine E (s:=pure (.value (.slice none 0 0))) (by unfold execOp;rw[ho];simp only[hρ]) (z9j H he)
  ·cases hc
 all_goals cases hc
end
section
variable {h h':aA} {μ μ':Mu} {w w':World} {P:Program} {M M':Mem}
def vE (gl:Nat->Option PV)(M:Mem):Prop:=∀n v,gl n=some v->RAV M [] [] (.vp v) (.pointer (some ⟨n,0,none⟩))/\∃cs t x,M.b n=some (.cells cs t x)/\cs.size=v.cells.length
theorem RAV.vp_any {v:PV}{x:Value}{h':aA}{μ':Mu}(H:RAV M h μ (.vp v) x):RAV M h' μ' (.vp v) x:=by
 cases H with|vp _ b o f hm hr=>exact .vp v b o f hm hr
theorem vE.mono {gl:Nat->Option PV}(hM:M.le M')(H:vE gl M):vE gl M':=λn v hv=>by
 obtain⟨h1,cs,t,x,h2,h3⟩:=H n v hv;refine⟨?_,cs,t,x,hM.b _ _ h2,h3⟩;cases h1 with|vp _ _ _ f hm hr=>exact .vp v n 0 f (λj y hy=>hM.c _ _ _ (hm j y hy)) (λj y hy=>(hr j y hy).mono hM)
structure Rel (gl:Nat->Option PV) (nt:Nat) (M0:Mem) (h0:aA) (μ0:Mu) (e:List (Nat × AV)) (h:aA) (x:Esc) (a:Act) (w:World) (μ:Mu):Prop where
 heap:HeapRel h μ w
 env:∀t,RAV (imm h μ w) h μ (eA e t) (a.tmps.getD t undef)
 glob:vE gl (imm h μ w)
 evo:Evo M0 h0 μ0 (imm h μ w) h μ
 esc:rA h0 h x
 size:nt<=a.tmps.size
 defers:a.defers=[]
variable {gl:Nat->Option PV} {nt:Nat} {M0:Mem} {h0:aA} {μ0:Mu} {e:List (Nat × AV)} {x:Esc} {a:Act}
theorem Rel.opds (H:Rel gl nt M0 h0 μ0 e h x a w μ):wE (imm h μ w) h μ (Opd.ev gl e) a.eval:=by
 intro p q hpq;unfold JA at hpq;split at hpq
 ·simp only[beq_iff_eq]at hpq
  subst hpq;exact H.env _
 ·exact wR hpq
 ·simp only[beq_iff_eq]at hpq
  subst hpq;exact .fn _ [] [] rfl (λj y v h1 h2=>by simp at h1)
 ·simp only[beq_iff_eq]at hpq
  subst hpq;simp only[Opd.ev];split
  ·rename_i v hv;exact(H.glob _ v hv).1.vp_any
  ·exact .und _
 ·cases hpq
theorem BK {d:Option Nat}{v:AV}{t:Nat}:eA (put d v e) t=if d=some t then v else eA e t:=by
 cases d with
 | none=>simp [put]
 | some d=>simp [put,eA]
theorem zoh {d:Option Nat}{u:Value}{t:Nat}(hd:∀ i,d=some i->i<a.tmps.size):(a.put d u).tmps.getD t undef=if d=some t then u else a.tmps.getD t undef:=by
 cases d with
 | none=>simp [Act.put]
 | some d=>
  have:=hd d rfl;by_cases h:d=t
  ·subst h;simp [Act.put,this]
  ·simp [Act.put,h,Array.getElem?_setIfInBounds]
theorem zoi {d:Option Nat}{u:Value}:(a.put d u).tmps.size=a.tmps.size:=by
 cases d <;> simp [Act.put]
theorem zog {d:Option Nat}{u:Value}:(a.put d u).defers=a.defers:=by
 cases d <;> rfl
theorem Rel.step (H:Rel gl nt M0 h0 μ0 e h x a w μ){d:Option Nat}(hd:∀ i,d=some i->i<nt){v:AV}{u:Value}{h':aA}{x':Esc}{w':World}{μ':Mu}(H':HeapRel h' μ' w')(E:Evo (imm h μ w) h μ (imm h' μ' w') h' μ')(I:rA h h' x')
 (hv:RAV (imm h' μ' w') h' μ' v u):Rel gl nt M0 h0 μ0 (put d v e) h' (x'++x) (a.put d u) w' μ':=by
 have hd':∀i,d=some i->i<a.tmps.size:=λi hi=>Nat.lt_of_lt_of_le (hd i hi) H.size
 refine⟨H',λt=>?_,H.glob.mono E.le,H.evo.trans E,rA.trans H.esc I,by rw[zoi];exact H.size,by rw[zog];exact H.defers⟩
 rw[BK,zoh hd'];split
 ·exact hv
 ·exact(H.env t).evo E
theorem Rel.skip (H:Rel gl nt M0 h0 μ0 e h x a w μ){d:Option Nat}(hd:∀ i,d=some i->i<nt):Rel gl nt M0 h0 μ0 (put d .skp e) h x (a.put d undef) w μ:=by
 have:=H.step hd H.heap (Evo.refl _ _ _) (rA.refl h []) (.skp);simpa using this
def MC (P:Program)(gl:Nat->Option PV):Hd:=λf asv h K=>
 ∀(μ:Mu) (w:World) (vs:List Value),HeapRel h μ w->vE gl (imm h μ w)->asv.length=vs.length->(∀(j:Nat) (y:AV) (v:Value),asv[j]?=some y->vs[j]?=some v->RAV (imm h μ w) h μ y v) ->
  ((∀w,(callFunc f vs.toArray).run P w = .ok (.enter f vs.toArray) w) /\
  Calls P f vs.toArray w fun
   | .returned r,w'=>∃v h' x μ',K v h' x/\RAV (imm h' μ' w') h' μ' v r/\HeapRel h' μ' w'/\Evo (imm h μ w) h μ (imm h' μ' w') h' μ'/\rA h h' x
   | _,_=>False) ∨
  ∃r w' v h' x μ',(callFunc f vs.toArray).run P w = .ok (.value r) w'/\K v h' x/\RAV (imm h' μ' w') h' μ' v r/\HeapRel h' μ' w'/\Evo (imm h μ w) h μ (imm h' μ' w') h' μ'/\rA h h' x
theorem MC.mono (P:Program)(gl:Nat->Option PV):(MC P gl).Mono:=by
 intro f asv h K K' hK H μ w vs h1 h2 h3 h4;rcases H μ w vs h1 h2 h3 h4 with⟨q1,q2⟩|⟨r,w',v,h',x,μ',q1,k,rest⟩
 case inr=>exact .inr ⟨r,w',v,h',x,μ',q1,hK _ _ _ k,rest⟩
 refine .inl ⟨q1,q2.mono λe w' he=>?_⟩
 cases e with
 | returned r=>obtain⟨v,h',x,μ',k,rest⟩:=he;exact⟨v,h',x,μ',hK _ _ _ k,rest⟩
 | panicked _=>exact he
 | outgrown=>exact he
def WY (ops:Array Oper)(nt:Nat):Option (Nat×Bool)->Option (Nat×Bool)->Bool
 | none,none=>true
 | some (t,b),some (j,b')=>b==b'&&decide (t<nt)&&(match ops[j]? with|some o=>o.dst==some t|none=>false)
 | _,_=>false
def PH (P:Program)(nt:Nat)(ops:Array Oper)(o:AOp)(p:Oper):Bool:=
 o.dst==p.dst&&(match o.dst with|some d=>decide (d<nt)|none=>true)&&WY ops nt o.guard p.guard&&match o.op with
  | .call f args=>match MH p.op with
   | some (g,ys)=>JA (.f f) g&&XB args ys
   | none=>false
  | .callv f args=>match MH p.op with
   | some (g,ys)=>JA f g&&XB args ys
   | none=>false
  | .mnext none xs=>match p.op with
   | .next y isS=>!isS&&XB xs [y]
   | _=>false
  | .mnext (some sh) xs=>match TE .append p.op with
   | some ([x',y'],[t,u])=>VE P sh t u&&XB xs [x',y']
   | _=>false
  | op=>mR P op p.op
def UG (P:Program)(nt:Nat)(ops:Array Oper):List AOp->Nat->Bool
 | [],i=>i==ops.size
 | o::r,i=>match ops[i]? with
  | some p=>PH P nt ops o p&&UG P nt ops r (i+1)
  | none=>false
theorem RW (H:Rel gl nt M0 h0 μ0 e h x a w μ){ops:Array Oper}{g:Option (Nat × Bool)}{p:Oper}(hc:WY ops nt g p.guard=true){b:Bool}(hw:wanted g e=some b):Region.wanted p (yielded ops a.tmps)=b:=by
 unfold Region.wanted;unfold WY at hc;split at hc
 ·rename_i hg
  rw[hg];simp only[wanted,Option.some.injEq]at hw;exact hw
 ·rename_i t b1 j b2 hg
  rw[hg];simp only[Bool.and_eq_true,beq_iff_eq,decide_eq_true_eq]at hc;obtain⟨⟨rfl,ht⟩,hj⟩:=hc;split at hj
  ·rename_i o ho
   simp only[beq_iff_eq]at hj;have hsz:t<a.tmps.size:=Nat.lt_of_lt_of_le ht H.size
   have hR:=H.env t
   have hget:a.tmps[t]?=some (a.tmps.getD t undef):=by simp [Array.getElem?_eq_getElem hsz,Array.getD,hsz]
   simp only[yielded,ho,Option.bind_some,hj,hget];unfold wanted at hw;dsimp only at hw;split at hw
   ·rename_i c hv
    rw[hv]at hR;rw[hR.p_bool];have hw':=Option.some.inj hw
    rw[<-hw'];cases c <;> cases b1 <;> rfl
   ·rename_i hv
    rw[hv]at hR;generalize a.tmps.getD t undef=z at hR;injection hw with hw
    subst hw;cases hR;cases b1 <;> rfl
   ·cases hw
  ·cases hj
 ·cases hc
theorem JG {C:Hd}(hC:∀ f a h K,C f a h K->MC P gl f a h K){ops:Array Oper}{Q:Exit->Act->World->Prop} :
 ∀(aops:List AOp) (i:Nat) {e:List (Nat×AV)} {h:aA} {x:Esc} {K:List (Nat×AV)->aA->Esc->Prop} {a:Act} {w:World} {μ:Mu},UG P nt ops aops i=true->WA C gl aops e h x K->Rel gl nt M0 h0 μ0 e h x a w μ ->
  (∀e h x a w μ,K e h x->Rel gl nt M0 h0 μ0 e h x a w μ->Q .normal a w)->wpOps P ops Q (List.range' i (ops.size-i)) a w
 | [],i,e,h,x,K,a,w,μ,hc,H,R,hK=>by
  simp only[UG,beq_iff_eq]at hc;subst hc;simp only[Nat.sub_self,List.range'_zero,wpOps];exact hK _ _ _ _ _ _ H R
 | o::r,i,e,h,x,K,a,w,μ,hc,H,R,hK=>by
  simp only[UG]at hc;split at hc
  ·rename_i p hp
   have hi:i<ops.size:=by
    rcases Nat.lt_or_ge i ops.size with q|q
    ·exact q
    ·rw[Array.getElem?_eq_none q]at hp;cases hp
   simp only[Bool.and_eq_true]at hc;obtain⟨c1,c2⟩:=hc;have hr:List.range' i (ops.size-i)=i::List.range' (i+1) (ops.size-(i+1)):=by
    rw[show ops.size-i=(ops.size-(i+1))+1 by omega,List.range'_succ]
   rw[hr];simp only[wpOps,hp];obtain⟨dst,guard,op⟩:=o;unfold PH at c1;simp only[Bool.and_eq_true,beq_iff_eq]at c1;obtain⟨⟨⟨d1,d2⟩,d3⟩,d4⟩:=c1;have hd:∀j,dst=some j->j<nt:=λj hj=>by subst hj;simpa using d2
   subst d1;unfold WA at H;dsimp only at H;split at H
   ·rename_i hw
    rw[if_pos (RW R d3 hw)];left;have call:∀(f:Nat) (asv:List AV) (g:Operand) (ys:List Operand) (caps:List AV) (cvs:List Value),MH p.op=some (g,ys)->a.eval g = .func (.func f) #[] cvs.toArray->caps.length=cvs.length ->
     (∀(j:Nat) (y:AV) (v:Value),caps[j]?=some y->cvs[j]?=some v->RAV (imm h μ w) h μ y v)->asv.length=ys.length ->
     (∀(j:Nat) (y:AV) (v:Value),asv[j]?=some y->(ys.map a.eval)[j]?=some v->RAV (imm h μ w) h μ y v) ->
     C f (asv++caps) h (λv h' x'=>WA C gl r (put p.dst v e) h' (x'++x) K)->p.wp P a w (wpOps P ops Q (List.range' (i+1) (ops.size-(i+1)))) Q:=by
     intro f asv g ys caps cvs hcall hg hcl hcr hal har HC;have hco:=hC _ _ _ _ HC μ w (ys.map a.eval++cvs) R.heap R.glob (by simp [hal,hcl]) (λj y v hy hv=>by
      rcases Nat.lt_or_ge j asv.length with q|q
      ·rw[List.getElem?_append_left q]at hy
       rw[List.getElem?_append_left (by simpa [<-hal] using q)]at hv
       exact har j y v hy hv
      ·rw[List.getElem?_append_right q]at hy
       rw[List.getElem?_append_right (by simpa [<-hal] using q)]at hv
       exact hcr _ y v hy (by simpa [<-hal] using hv))
     unfold Oper.wp;have harr:(ys.map a.eval++cvs).toArray=(ys.map a.eval).toArray++cvs.toArray:=by simp
     rcases hco with⟨q1,q2⟩|⟨u,w',v,h',x',μ',q1,k1,k2,k3,k4,k5⟩
     case inr=>
      rw[uQ hcall hg,<-harr,q1,Oper.upon_value];exact JG hC r (i+1) c2 k1 (R.step hd k3 k4 k5 k2) hK
     rw[uQ hcall hg,<-harr,q1 w];rw[Oper.upon_enter];refine q2.mono λen w' he=>?_
     cases en with
     | returned u=>
      obtain⟨v,h',x',μ',k1,k2,k3,k4,k5⟩:=he;exact JG hC r (i+1) c2 k1 (R.step hd k3 k4 k5 k2) hK
     | panicked _=>exact he.elim
     | outgrown=>exact he.elim
    cases op;case call f args=>
     dsimp only at H d4;split at d4
     ·rename_i g ys hcall
      simp only[Bool.and_eq_true]at d4;have hg:=R.opds _ _ d4.1
      have hgv:a.eval g = .func (.func f) #[] #[]:=by
       simp only[Opd.ev]at hg;generalize a.eval g=z at hg;cases hg with
       | fn _ _ vs hl hr=>
        have:vs=[]:=List.length_eq_zero_iff.1 (by simpa using hl.symm)
        subst this;rfl
      exact call f _ g ys [] [] hcall hgv rfl (λj y v h1 h2=>by simp at h1) (by simp [RJ d4.2]) (SJ R.opds d4.2) (by simpa using H)
     ·cases d4
    case callv f args=>
     dsimp only at H d4;split at d4
     ·rename_i g ys hcall
      simp only[Bool.and_eq_true]at d4;split at H
      ·rename_i fn caps hf
       have hg:=R.opds _ _ d4.1
       rw[hf]at hg;generalize hz:a.eval g=z at hg;cases hg with
       | fn _ _ vs hl hr=>exact call fn _ g ys caps vs hcall hz hl hr (by simp [RJ d4.2]) (SJ R.opds d4.2) H
      ·exact H.elim
     ·cases d4
    case mnext osh xs=>
     cases osh with
     | some sh=>
      dsimp only at H d4;split at d4
      ·rename_i x' y' t u hb
       simp only[Bool.and_eq_true]at d4;obtain⟨d5,d6⟩:=d4;obtain⟨q1,q2,rfl,d7,d8⟩:=zm2 d6;split at H
       ·rename_i l hl
        obtain⟨z,hz,hok⟩:=zd4 (ty:=p.type) d5 R.heap (R.opds _ _ d7) (R.opds _ _ d8) hl;obtain⟨cs,hr⟩:=QF (P:=P) (w:=w) hb (ρ:=a.eval);obtain⟨nx,w',μ',r1,r2,r3,r4,r5⟩:=lA.congr hr hok;unfold Oper.wp;rw[r1];rcases r2 with⟨u,rfl,hu⟩|⟨rfl,hv⟩
        ·rw[Oper.upon_value]
         exact JG hC r (i+1) c2 (H.2 z hz) (R.step hd r3 r4 r5 hu) hK
        ·rw[Oper.upon_skip]
         exact JG hC r (i+1) c2 (H.2 z hz) (R.step hd r3 r4 r5 (by rw[hv];exact .und undef)) hK
       ·exact H.elim
      ·cases d4
     | none=>
     dsimp only at H d4;split at d4
     ·rename_i y isS hop
      simp only[Bool.and_eq_true,Bool.not_eq_true']at d4;obtain⟨rfl,d5⟩:=d4;obtain⟨q1,rfl,d6⟩:=zm1 d5;split at H
      ·rename_i l hl
       obtain⟨z,hz,nx,w',μ',r1,r2,r3,r4,r5⟩:=zlV (ty:=p.type) R.heap (R.opds _ _ d6) hl;unfold Oper.wp;have e1:execOp a.eval p=(do pure (.value (<-Instr.next (a.eval y) false p.type)):Sem Next):=by unfold execOp;rw[hop]
       rw[e1,r1];rcases r2 with⟨u,rfl,hu⟩|⟨rfl,hv⟩
       ·rw[Oper.upon_value]
        exact JG hC r (i+1) c2 (H.2 z hz) (R.step hd r3 r4 r5 hu) hK
       ·rw[Oper.upon_skip]
        exact JG hC r (i+1) c2 (H.2 z hz) (R.step hd r3 r4 r5 (by rw[hv];exact .und undef)) hK
      ·exact H.elim
     ·cases d4
    all_goals
     dsimp only at H d4;split at H
     ·rename_i v h' x' ha
      obtain⟨nx,w',μ',r1,r2,r3,r4,r5⟩:=z9s (o:=p) d4 (λ_=>rfl) (λ_=>rfl) R.heap R.opds ha
      unfold Oper.wp;rw[r1];rcases r2 with⟨u,rfl,hu⟩|⟨rfl,rfl⟩
      ·rw[Oper.upon_value]
       exact JG hC r (i+1) c2 H (R.step hd r3 r4 r5 hu) hK
      ·rw[Oper.upon_skip]
       exact JG hC r (i+1) c2 H (R.step hd r3 r4 r5 (.und _)) hK
     ·exact H.elim
   ·rename_i hw
    rw[if_neg (by rw[RW R d3 hw];simp)]
    exact JG hC r (i+1) c2 H (R.skip hd) hK
   ·exact H.elim
  ·cases hc
end
section
variable {h h':aA} {μ μ':Mu} {w w':World} {P:Program} {M M':Mem}
variable {gl:Nat->Option PV} {nt:Nat} {M0:Mem} {h0:aA} {μ0:Mu} {e:List (Nat × AV)} {x:Esc} {a:Act}
theorem z6f {C:Hd}(hC:∀ f a h K,C f a h K->MC P gl f a h K){ops:Array Oper}{Q:Exit->Act->World->Prop}{o:AOp}{p:Oper}{i:Nat}(hp:ops[i]?=some p)(hc:PH P nt ops o p=true)
 {g g':aA} {v:AV} {y:Esc} (R:Rel gl nt M0 h0 μ0 e g x a w μ) (H:ADo C gl o e g v g' y) {K:Act->World->Prop}
 (hK:∀a' w' μ' u,a'=a.put p.dst u->HeapRel g' μ' w'->Evo (imm g μ w) g μ (imm g' μ' w') g' μ'->rA g g' y->RAV (imm g' μ' w') g' μ' v u->K a' w'):wpOp P ops Q i K a w:=by
 unfold wpOp;rw[hp];dsimp only;obtain⟨dst,guard,op⟩:=o;unfold PH at hc;simp only[Bool.and_eq_true,beq_iff_eq]at hc;obtain⟨⟨⟨d1,d2⟩,d3⟩,d4⟩:=hc;subst d1;unfold ADo at H;dsimp only at H;split at H
 ·rename_i hw
  rw[if_pos (RW R d3 hw)];left;have call:∀(f:Nat) (asv:List AV) (gg:Operand) (ys:List Operand) (caps:List AV) (cvs:List Value),MH p.op=some (gg,ys)->a.eval gg = .func (.func f) #[] cvs.toArray->caps.length=cvs.length ->
   (∀(j:Nat) (y:AV) (v:Value),caps[j]?=some y->cvs[j]?=some v->RAV (imm g μ w) g μ y v)->asv.length=ys.length ->
   (∀(j:Nat) (y:AV) (v:Value),asv[j]?=some y->(ys.map a.eval)[j]?=some v->RAV (imm g μ w) g μ y v) ->
   C f (asv++caps) g (λv1 h1 x1=>v1=v/\h1=g'/\x1=y)->p.wp P a w K Q:=by
   intro f asv gg ys caps cvs hcall hg hcl hcr hal har HC;have hco:=hC _ _ _ _ HC μ w (ys.map a.eval++cvs) R.heap R.glob (by simp [hal,hcl]) (λj y v hy hv=>by
    rcases Nat.lt_or_ge j asv.length with q|q
    ·rw[List.getElem?_append_left q]at hy
     rw[List.getElem?_append_left (by simpa [<-hal] using q)]at hv
     exact har j y v hy hv
    ·rw[List.getElem?_append_right q]at hy
     rw[List.getElem?_append_right (by simpa [<-hal] using q)]at hv
     exact hcr _ y v hy (by simpa [<-hal] using hv))
   unfold Oper.wp;have harr:(ys.map a.eval++cvs).toArray=(ys.map a.eval).toArray++cvs.toArray:=by simp
   rcases hco with⟨q1,q2⟩|⟨u,w',v1,h1,x1,μ',q1,⟨rfl,rfl,rfl⟩,k2,k3,k4,k5⟩
   case inr=>
    rw[uQ hcall hg,<-harr,q1,Oper.upon_value];exact hK _ _ μ' u rfl k3 k4 k5 k2
   rw[uQ hcall hg,<-harr,q1 w];rw[Oper.upon_enter];refine q2.mono λen w' he=>?_
   cases en with
   | returned u=>
    obtain⟨v1,h1,x1,μ',⟨rfl,rfl,rfl⟩,k2,k3,k4,k5⟩:=he;exact hK _ _ μ' u rfl k3 k4 k5 k2
   | panicked _=>exact he.elim
   | outgrown=>exact he.elim
  cases op;case call f args=>
   dsimp only at H d4;split at d4
   ·rename_i gg ys hcall
    simp only[Bool.and_eq_true]at d4;have hg:=R.opds _ _ d4.1
    have hgv:a.eval gg = .func (.func f) #[] #[]:=by
     simp only[Opd.ev]at hg;generalize a.eval gg=z at hg;cases hg with
     | fn _ _ vs hl hr=>
      have:vs=[]:=List.length_eq_zero_iff.1 (by simpa using hl.symm)
      subst this;rfl
    exact call f _ gg ys [] [] hcall hgv rfl (λj y v h1 h2=>by simp at h1) (by simp [RJ d4.2]) (SJ R.opds d4.2) (by simpa using H)
   ·cases d4
  case callv f args=>
   dsimp only at H d4;split at d4
   ·rename_i gg ys hcall
    simp only[Bool.and_eq_true]at d4;split at H
    ·rename_i fn caps hf
     have hg:=R.opds _ _ d4.1
     rw[hf]at hg;generalize hz:a.eval gg=z at hg;cases hg with
     | fn _ _ vs hl hr=>exact call fn _ gg ys caps vs hcall hz hl hr (by simp [RJ d4.2]) (SJ R.opds d4.2) H
    ·exact H.elim
   ·cases d4
  case mnext sh xs=>exact H.elim
  all_goals
   dsimp only at H d4;obtain⟨nx,w',μ',r1,r2,r3,r4,r5⟩:=z9s (o:=p) d4 (λ_=>rfl) (λ_=>rfl) R.heap R.opds H
   unfold Oper.wp;rw[r1];rcases r2 with⟨u,rfl,hu⟩|⟨rfl,hv⟩
   ·rw[Oper.upon_value]
    exact hK _ _ μ' u rfl r3 r4 r5 hu
   ·rw[Oper.upon_skip]
    exact hK _ _ μ' undef rfl r3 r4 r5 (hv ▸ .und _)
 ·rename_i hw
  obtain⟨rfl,rfl,rfl⟩:=H;rw[if_neg (by rw[RW R d3 hw];simp)]
  exact hK _ _ μ undef rfl R.heap (Evo.refl _ _ _) (rA.refl _ _) .skp
 ·exact H.elim
def AO.hfree:AO->Bool
 | .mv _ | .pick _ _ _ | .build _ _ | .nilchk _ | .bin _ _ _ | .eqa _ _ _ _ | .isnil _ _ _ | .mkif _ | .un _ _ | .mkfn _ _ | .slstr _ _ _ | .faddr _ _ _ | .field _ _ _ | .iaddra _ _ _ _ | .idxa _ _ _ _ | .idxs _ _ | .ext _ _ | .len _ | .lens _ | .mx _ | .mn _=>true
 | _=>false
theorem JJ {α:Type}{F:α->AV}{X:Option α}{h h1 g:aA}{v:AV}{y:Esc}(H:Option.map (λv=>(F v,h,([]:Esc))) X=some (v,h1,y)):Option.map (λv=>(F v,g,([]:Esc))) X=some (v,g,[]):=by
 cases X with
 | none=>cases H
 | some z=>simp at H ⊢;exact H.1
theorem nilc {α:Type}{b:Bool}{F:α->AV}{X:Option α}{h h1 g:aA}{u v:AV}{y:Esc}(H:(bif b then some (u,h,([]:Esc)) else Option.map (λv=>(F v,h,([]:Esc))) X)=some (v,h1,y)):(bif b then some (u,g,([]:Esc)) else Option.map (λv=>(F v,g,([]:Esc))) X)=some (v,g,[]):=by
 cases b with
 | true=>simp at H ⊢;exact H.1
 | false=>exact JJ H
theorem zkq {op:AO}(hf:op.hfree=true){ev:Opd->AV}{v:AV}{h1:aA}{y:Esc}(H:aop op ev h=some (v,h1,y))(g:aA):aop op ev g=some (v,g,[]):=by
 cases op <;> first
  | (cases hf;done)
  | (simp only[aop]at H ⊢;simp_all;done)
  | (simp only[aop]at H ⊢;exact JJ H)
  | (simp only[aop]at H ⊢;exact nilc H)
  | (simp only[aop]at H ⊢;split at H <;> first|(simp_all;done)|exact JJ H|(split at H <;> first|(simp_all;done)|exact JJ H|(rw[if_pos ‹_›];exact JJ H)|(split at H <;> first|(simp_all;done)|exact JJ H|(rw[if_pos ‹_›];exact JJ H))))
structure Tr (C:Hd) (gl:Nat->Option PV) (ds:List DOp) (m:Nat) (dn:DC) (hs:List aA) (E:Nat->List (Nat × AV)) (H:Nat->aA) (V:Nat->AV) (X Y:Nat->Esc) (i:Nat) (o:DOp):Prop where
 run:ADo C gl o.op (EA (some o.rd) (E (m+i))) (H (m+i)) (V (m+i)) (H (m+i+1)) (Y (m+i))
 env:E (m+i+1)=put o.op.dst (V (m+i)) (E (m+i))
 esc:X (m+i+1)=Y (m+i)++X (m+i)
 still:o.eff=false->H (m+i+1)=H (m+i)/\Y (m+i)=[]
 early:∀k∈o.early,∃g,(k<m/\hs[k]?=some g∨m<=k/\k<m+i/\g=H k)/\ADo C gl o.op (EA (some o.rd) (E (m+i))) g (V (m+i)) g []
 again:∀j∈o.again,(∃q,j<m/\dn[j]?=some q/\ADo C gl q.1 q.2.1 (H (m+i+1)) q.2.2 (H (m+i+1)) []) ∨
  (m<=j/\∃q,ds[j-m]?=some q/\ADo C gl q.op (EA (some q.rd) (E j)) (H (m+i+1)) (V j) (H (m+i+1)) [])
end
section
variable {h h':aA} {μ μ':Mu} {w w':World} {P:Program} {M M':Mem}
variable {gl:Nat->Option PV} {nt:Nat} {M0:Mem} {h0:aA} {μ0:Mu} {e:List (Nat × AV)} {x:Esc} {a:Act}
theorem zbd {C:Hd}:∀(ds:List DOp) (m:Nat) (dn:DC) (hs:List aA) (e:List (Nat×AV)) (h:aA) (x:Esc) (K:List (Nat×AV)->aA->Esc->Prop),iD C gl ds dn hs e h x K->dn.length=m->hs.length=m ->
 ∃E H V X Y,E m=e/\H m=h/\X m=x/\(∀i o,ds[i]?=some o->Tr C gl ds m dn hs E H V X Y i o)/\K (E (m+ds.length)) (H (m+ds.length)) (X (m+ds.length))
 | [],m,dn,hs,e,h,x,K,HD,h1,h2=>⟨λ_=>e,λ_=>h,λ_=>.und,λ_=>x,λ_=>[],rfl,rfl,rfl,λi o ho=>by simp at ho,HD⟩
 | o::r,m,dn,hs,e,h,x,K,HD,h1,h2=>by
  obtain⟨v,h',y,d1,d2,d3,d4,d5⟩:=HD;obtain⟨E,H,V,X,Y,e1,e2,e3,e4,e5⟩:=zbd r (m+1) _ _ _ _ _ K d5 (by simp [h1]) (by simp [h2])
  refine⟨λi=>if i=m then e else E i,λi=>if i=m then h else H i,λi=>if i=m then v else V i,λi=>if i=m then x else X i,λi=>if i=m then y else Y i,by simp,by simp,by simp,?_,?_⟩
  ·intro i o' ho'
   cases i with
   | zero=>
    simp only[List.getElem?_cons_zero,Option.some.injEq]at ho';subst ho';refine⟨?_,?_,?_,λhf=>?_,λk hk=>?_,λj hj=>?_⟩
    ·simp only[Nat.add_zero,if_true,Nat.succ_ne_self,if_false,e2];exact d1
    ·simp only[Nat.add_zero,if_true,Nat.succ_ne_self,if_false,e1]
    ·simp only[Nat.add_zero,if_true,Nat.succ_ne_self,if_false,e3]
    ·simp only[Nat.add_zero,if_true,Nat.succ_ne_self,if_false,e2];exact d2 hf
    ·obtain⟨g,q1,q2⟩:=d3 k hk
     refine⟨g,.inl ⟨by rw[<-h2];exact IA q1,q1⟩,?_⟩
     simp only[Nat.add_zero,if_true];exact q2
    ·obtain⟨q,q1,q2⟩:=d4 j hj
     refine .inl ⟨q,by rw[<-h1];exact IA q1,q1,?_⟩
     simp only[Nat.add_zero,Nat.succ_ne_self,if_false,e2];exact q2
   | succ i=>
    simp only[List.getElem?_cons_succ]at ho';have T:=e4 i o' ho'
    have hm2:m+(i+1)=m+1+i:=by omega
    have hm3:¬(m+1+i=m):=by omega
    have hm4:¬(m+1+i+1=m):=by omega
    refine⟨?_,?_,?_,λhf=>?_,λk hk=>?_,λj hj=>?_⟩
    ·simp only[hm2,hm3,hm4,if_false];exact T.run
    ·simp only[hm2,hm3,hm4,if_false];exact T.env
    ·simp only[hm2,hm3,hm4,if_false];exact T.esc
    ·simp only[hm2,hm3,hm4,if_false];exact T.still hf
    ·obtain⟨g,q1,q2⟩:=T.early k hk
     refine⟨g,?_,by simp only[hm2,hm3,if_false];exact q2⟩
     rcases q1 with⟨q1,q3⟩|⟨q1,q3,q4⟩
     ·rcases Nat.lt_or_ge k m with q5|q5
      ·left
       rw[List.getElem?_append_left (by omega)]at q3
       exact⟨q5,q3⟩
      ·have:k=m:=by omega
       subst this;right;rw[List.getElem?_append_right (by omega),h2,Nat.sub_self]at q3
       simp at q3;exact⟨Nat.le_refl _,by omega,by simp [q3]⟩
     ·right
      exact⟨by omega,by omega,by rw[if_neg (by omega)];exact q4⟩
    ·rcases T.again j hj with⟨q,q1,q2,q3⟩|⟨q1,q,q2,q3⟩
     ·rcases Nat.lt_or_ge j m with q5|q5
      ·left
       rw[List.getElem?_append_left (by omega)]at q2
       exact⟨q,q5,q2,by simp only[hm2,hm4,if_false];exact q3⟩
      ·have:j=m:=by omega
       subst this;right;rw[List.getElem?_append_right (by omega),h1,Nat.sub_self]at q2
       simp at q2;subst q2;exact⟨Nat.le_refl _,o,by simp,by simp only[hm2,hm4,if_false,if_true];exact q3⟩
     ·right
      refine⟨by omega,q,?_,?_⟩
      ·rw[show j-m=(j-(m+1))+1 by omega]
       simpa using q2
      ·simp only[hm2,hm4,if_false]
       rw[if_neg (by omega),if_neg (by omega)]
       exact q3
  ·dsimp only
   rw[if_neg (by simp),if_neg (by simp),if_neg (by simp)]
   rw[show m+(o::r).length=m+1+r.length by simp;omega]
   exact e5
def lk (dst:Nat->Option Nat)(V:Nat->AV)(e:List (Nat × AV))(sel:Nat->Bool):Nat->Nat->AV
 | 0,t=>eA e t
 | m+1,t=>if sel m=true/\dst m=some t then V m else lk dst V e sel m t
theorem ST {dst:Nat->Option Nat}{V:Nat->AV}{e:List (Nat × AV)}{s s':Nat->Bool}{t:Nat}:∀(n:Nat),(∀j,j<n->dst j=some t->s j=s' j)->lk dst V e s n t=lk dst V e s' n t
 | 0,_=>rfl
 | n+1,h=>by
  simp only[lk];rw[ST n (λj hj=>h j (by omega))]
  by_cases hd:dst n=some t
  ·rw[h n (by omega) hd]
  ·simp [hd]
theorem TT {dst:Nat->Option Nat}{V:Nat->AV}{e:List (Nat × AV)}{s:Nat->Bool}{t:Nat}{i:Nat}:∀(n:Nat),i<=n->(∀j,i<=j->j<n->dst j=some t->s j=false)->lk dst V e s n t=lk dst V e s i t
 | 0,hi,_=>by
  have:i=0:=by omega
  subst this;rfl
 | n+1,hi,h=>by
  rcases Nat.lt_or_ge n i with q|q
  ·have:i=n+1:=by omega
   subst this;rfl
  ·simp only[lk]
   rw[if_neg,TT n q (λj h1 h2=>h j h1 (by omega))]
   rintro⟨h1,h2⟩
   rw[h n q (by omega) h2]at h1
   cases h1
end
section
variable {h h':aA} {μ μ':Mu} {w w':World} {P:Program} {M M':Mem}
variable {gl:Nat->Option PV} {nt:Nat} {M0:Mem} {h0:aA} {μ0:Mu} {e:List (Nat × AV)} {x:Esc} {a:Act} {ops:Array Oper}
def kE (o:Oper):List Nat:=(o.after.toList.filter (Region.binds .any)).map (·.on)
inductive Bef (ops:Array Oper):Nat->Nat->Prop
 | one {k i:Nat} {o:Oper} (ho:ops[i]?=some o) (hk:k∈kE o):Bef ops k i
 | more {k m i:Nat} {o:Oper} (h:Bef ops k m) (ho:ops[i]?=some o) (hm:m∈kE o):Bef ops k i
def qR:List (List Nat)->List (List Nat)->List (List Nat)
 | [],t=>t
 | es::r,t=>qR r (t++[(es++es.flatMap λm=>t.getD m []).eraseDups])
theorem z5E:∀ (os:List Oper) (m:Nat) (t:List (List Nat)),ops.toList.drop m=os->t.length=m->(∀ i l,t[i]?=some l->∀ k∈l,Bef ops k i) ->
 ∀i l,(qR (os.map kE) t)[i]?=some l->∀k∈l,Bef ops k i
 | [],m,t,_,_,ht=>ht
 | o::r,m,t,ho,hm,ht=>by
  have hom:ops[m]?=some o:=by
   have:(ops.toList.drop m)[0]?=some o:=by rw[ho];rfl
   rw[List.getElem?_drop]at this;simpa using this
  have hr:ops.toList.drop (m+1)=r:=by
   rw[<-List.drop_drop,ho];rfl
  simp only[List.map_cons,qR];refine z5E r (m+1) _ hr (by simp [hm]) (λi l hi k hk=>?_)
  rcases EG hi with hi|⟨hi,hl⟩
  ·exact ht i l hi k hk
  ·rw[hi,hm]
   rw[hl]at hk;rw[List.mem_eraseDups]at hk;rcases List.mem_append.1 hk with hk|hk
   ·exact .one hom hk
   ·obtain⟨q,q1,q2⟩:=List.mem_flatMap.1 hk
    cases hq:t[q]? with
    | none=>simp [List.getD,hq]at q2
    | some l'=>
     simp [List.getD,hq]at q2;exact .more (ht q l' hq k q2) hom q1
def kQ (tab:List (List Nat))(i j:Nat)(p q:DOp):Bool:=
 (tab.getD j []).contains i ||
  (!(p.eff&&q.eff)&&(match p.op.dst with|some t=>q.op.dst != some t && !q.rd.contains t|none=>true)&&(match q.op.dst with|some t=>!p.rd.contains t|none=>true) &&
   (!(q.eff && !p.eff)||p.op.op.hfree||q.again.contains i)&&(!(p.eff && !q.eff)||q.op.op.hfree||q.early.contains i))
def qW (tab:List (List Nat))(j:Nat)(q:DOp):List DOp->Nat->Bool
 | [],_=>true
 | p::r,i=>decide (j<=i)||(kQ tab i j p q&&qW tab j q r (i+1))
def vW (tab:List (List Nat))(all:List DOp):List DOp->Nat->Bool
 | [],_=>true
 | q::r,j=>qW tab j q all 0&&vW tab all r (j+1)
def zT:List Oper->Nat->Bool
 | [],_=>true
 | o::r,i=>(kE o).all (λk=>decide (k<i))&&zT r (i+1)
def jR (P:Program)(nt:Nat)(ops:Array Oper)(ds:List DOp):Bool:=
 UG P nt ops (ds.map (·.op)) 0&&zT ops.toList 0&&vW (qR (ops.toList.map kE) []) ds ds 0
theorem z9Q {tab:List (List Nat)}{j:Nat}{q:DOp}:∀{l:List DOp} {i:Nat},qW tab j q l i=true->∀k p,l[k]?=some p->i+k<j->kQ tab (i+k) j p q=true
 | [],i,_,k,p,h,_=>by simp at h
 | p0::r,i,h,k,p,hk,hlt=>by
  simp only[qW,Bool.or_eq_true,decide_eq_true_eq,Bool.and_eq_true]at h;rcases h with h|⟨h1,h2⟩
  ·omega
  ·cases k with
   | zero=>simp at hk;subst hk;exact h1
   | succ k=>
    have:=z9Q h2 k p (by simpa using hk) (by omega)
    rwa [show i+1+k=i+(k+1) by omega]at this
theorem z9T {tab:List (List Nat)}{all:List DOp}:∀{l:List DOp} {j:Nat},vW tab all l j=true->∀k q,l[k]?=some q->∀i p,all[i]?=some p->i<j+k->kQ tab i (j+k) p q=true
 | [],j,_,k,q,h,_,_,_,_=>by simp at h
 | q0::r,j,h,k,q,hk,i,p,hp,hlt=>by
  simp only[vW,Bool.and_eq_true]at h;cases k with
  | zero=>
   simp at hk;subst hk;have:=z9Q h.1 i p hp (by simpa using hlt)
   simpa using this
  | succ k=>
   have:=z9T h.2 k q (by simpa using hk) i p hp (by omega)
   rwa [show j+1+k=j+(k+1) by omega]at this
theorem z62:∀ {l:List Oper} {i:Nat},zT l i=true->∀ j o,l[j]?=some o->∀ k∈kE o,k<i+j
 | [],_,_,j,o,h,_,_=>by simp at h
 | o0::r,i,h,j,o,hj,k,hk=>by
  simp only[zT,Bool.and_eq_true,List.all_eq_true,decide_eq_true_eq]at h;cases j with
  | zero=>simp at hj;subst hj;simpa using h.1 k hk
  | succ j=>have:=z62 h.2 j o (by simpa using hj) k hk;omega
theorem z57:∀ {l:List AOp} {i:Nat},UG P nt ops l i=true->i+l.length=ops.size/\∀ j o,l[j]?=some o->∃ p,ops[i+j]?=some p/\PH P nt ops o p=true
 | [],i,h=>by simp [UG]at h;exact⟨by simpa using h,λj o hj=>by simp at hj⟩
 | o0::r,i,h=>by
  simp only[UG]at h;split at h
  ·rename_i p hp
   simp only[Bool.and_eq_true]at h;obtain⟨h1,h2⟩:=z57 h.2;refine⟨by simp;omega,λj o hj=>?_⟩
   cases j with
   | zero=>simp at hj;subst hj;exact⟨p,hp,h.1⟩
   | succ j=>
    obtain⟨p',q1,q2⟩:=h2 j o (by simpa using hj)
    exact⟨p',by rw[<-q1];congr 1;omega,q2⟩
  ·cases h
theorem zfT {o:AOp}{p:Oper}(h:PH P nt ops o p=true):o.dst=p.dst/\∀j,o.dst=some j->j<nt:=by
 unfold PH at h;simp only[Bool.and_eq_true,beq_iff_eq]at h;obtain⟨⟨⟨d1,d2⟩,d3⟩,d4⟩:=h;exact⟨d1,λj hj=>by rw[hj]at d2;simpa using d2⟩
theorem zdn (l:List Nat)(e:List (Nat × AV))(t:Nat):eA (EA (some l) e) t=if t∈l then eA e t else .und:=by
 simp only[EA];induction l with
 | nil=>simp [eA]
 | cons k r ih=>
  simp only[List.map_cons,eA];by_cases hk:k=t
  ·subst hk;simp
  ·rw[if_neg hk,ih]
   have:¬t=k:=λh=>hk h.symm
   simp [this]
def Down (ops:Array Oper)(sel:Nat->Bool):Prop:=∀i o,ops[i]?=some o->sel i=true->∀k∈kE o,sel k=true
theorem Bef.down {sel:Nat->Bool}(hD:Down ops sel){k i:Nat}(hb:Bef ops k i):sel i=true->sel k=true:=by
 induction hb with
 | one ho hk=>exact λhi=>hD _ _ ho hi _ hk
 | more _ ho hm ih=>exact λhi=>ih (hD _ _ ho hi _ hm)
theorem Bef.ready {sel:Nat->Bool}(hD:Down ops sel){k i:Nat}(hb:Bef ops k i)(hr:∀ o,ops[i]?=some o->∀ k∈kE o,sel k=true):sel k=true:=by
 cases hb with
 | one ho hk=>exact hr _ ho _ hk
 | more hb ho hm=>exact hb.down hD (hr _ ho _ hm)
end
section
variable {h h':aA} {μ μ':Mu} {w w':World} {P:Program} {M M':Mem}
variable {gl:Nat->Option PV} {nt:Nat} {M0:Mem} {h0:aA} {μ0:Mu} {e:List (Nat × AV)} {x:Esc} {a:Act} {ops:Array Oper}
theorem znQ {tab:List (List Nat)}(ht:∀ i l,tab[i]?=some l->∀ k∈l,Bef ops k i){i j:Nat}{p q:DOp}(h:kQ tab i j p q=true) :
 Bef ops i j∨(¬(p.eff=true/\q.eff=true)/\(∀t,p.op.dst=some t->q.op.dst≠some t/\t∉q.rd)/\(∀t,q.op.dst=some t->t∉p.rd) /\
  (q.eff=true->p.eff=false->p.op.op.hfree=true∨i∈q.again)/\(p.eff=true->q.eff=false->q.op.op.hfree=true∨i∈q.early)):=by
 unfold kQ at h;rw[Bool.or_eq_true]at h;rcases h with h|h
 ·left
  cases hq:tab[j]? with
  | none=>simp [List.getD,hq]at h
  | some l=>simp [List.getD,hq]at h;exact ht j l hq i h
 ·right
  simp only[Bool.and_eq_true,Bool.not_eq_true',Bool.or_eq_true]at h;obtain⟨⟨⟨⟨h1,h2⟩,h3⟩,h4⟩,h5⟩:=h;refine⟨λhab=>by(rw[hab.1,hab.2]at h1;cases h1),λt ht=>?_,λt ht=>?_,λha hb=>?_,λha hb=>?_⟩
  ·rw[ht]at h2
   simpa using h2
  ·rw[ht]at h3
   simpa using h3
  ·rw[ha,hb]at h4
   simpa using h4
  ·rw[ha,hb]at h5
   simpa using h5
theorem z65 {C:Hd}{ds:List DOp}{E:Nat->List (Nat × AV)}{H:Nat->aA}{V:Nat->AV}{X Y:Nat->Esc}(T:∀ i o,ds[i]?=some o->Tr C gl ds 0 [] [] E H V X Y i o)(e0:E 0=e)(t:Nat) :
 ∀i,i<=ds.length->eA (E i) t=lk (λi=>(ds[i]?).bind (·.op.dst)) V e (λ_=>true) i t
 | 0,_=>by simp [lk,e0]
 | i+1,hi=>by
  have ho:=List.getElem?_eq_getElem (show i<ds.length by omega)
  have hT:=(T i _ ho).env
  simp only[Nat.zero_add]at hT;rw[hT,BK,z65 T e0 t i (by omega)]
  simp only[lk,ho,Option.bind_some,true_and]
theorem zaV {C:Hd}{ds:List DOp}{E:Nat->List (Nat × AV)}{H:Nat->aA}{V:Nat->AV}{X Y:Nat->Esc}(T:∀ i o,ds[i]?=some o->Tr C gl ds 0 [] [] E H V X Y i o){c:Nat} :
 ∀d,c+d<=ds.length->(∀k o,c<=k->k<c+d->ds[k]?=some o->o.eff=false)->H (c+d)=H c/\X (c+d)=X c
 | 0,_,_=>⟨rfl,rfl⟩
 | d+1,hd,hn=>by
  have ho:=List.getElem?_eq_getElem (show c+d<ds.length by omega)
  have hT:=T _ _ ho
  have hs:=hT.still (hn _ _ (by omega) (by omega) ho)
  obtain⟨h1,h2⟩:=zaV T d (by omega) (λk o h1 h2 h3=>hn k o h1 (by omega) h3)
  simp only[Nat.zero_add]at hs;have he:=hT.esc
  simp only[Nat.zero_add]at he;rw[hs.2]at he;exact⟨by rw[<-Nat.add_assoc,hs.1,h1],by rw[<-Nat.add_assoc,he,List.nil_append,h2]⟩
theorem zb3 {C:Hd}{o:AOp}(hf:o.op.hfree=true){v:AV}{y:Esc}(H:ADo C gl o e h v h' y)(g:aA):ADo C gl o e g v g []:=by
 obtain⟨dst,guard,op⟩:=o;unfold ADo at H ⊢;dsimp only at H hf ⊢;split at H
 ·cases op
  case call f args=>cases hf
  case callv f args=>cases hf
  case mnext sh xs=>cases hf
  all_goals exact zkq hf H g
 ·exact⟨H.1,rfl,rfl⟩
 ·exact H.elim
theorem z1q {p:Nat->Prop}{c i:Nat}(h:∃ k,c<=k/\k<i/\p k):∃k,c<=k/\k<i/\p k/\∀k',c<=k'->k'<k->¬p k':=by
 obtain⟨k,h1,h2,h3⟩:=h;induction k using Nat.strongRecOn with
 | _ k ih=>
  by_cases hq:∃k',c<=k'/\k'<k/\p k'
  ·obtain⟨k',q1,q2,q3⟩:=hq
   exact ih k' q2 q1 (by omega) q3
  ·exact⟨k,h1,h2,h3,λk' q1 q2 q3=>hq ⟨k',q1,q2,q3⟩⟩
theorem z6h {C:Hd}(hC:∀ f a h K,C f a h K->MC P gl f a h K){ds:List DOp}{K:List (Nat × AV)->aA->Esc->Prop}{Q:Exit->Act->World->Prop}(hc:jR P nt ops ds=true)
 (HD:iD C gl ds [] [] e h x K) (R:Rel gl nt M0 h0 μ0 e h x a w μ) (hK:∀e h x a w μ,K e h x->Rel gl nt M0 h0 μ0 e h x a w μ->Q .normal a w) :
 wpAny P .any ops Q ops.size (Array.replicate ops.size false) a w:=by
 unfold jR at hc;simp only[Bool.and_eq_true]at hc;obtain⟨⟨c1,c2⟩,c3⟩:=hc;obtain⟨c4,c5⟩:=z57 c1;have hn:ds.length=ops.size:=by simpa using c4
 have htab:=z5E (ops:=ops) ops.toList 0 [] (by simp) rfl (λi l hi=>by simp at hi)
 have hpair:∀(i j:Nat) (p q:DOp),ds[i]?=some p->ds[j]?=some q->i<j->Bef ops i j∨(¬(p.eff=true/\q.eff=true)/\(∀t,p.op.dst=some t->q.op.dst≠some t/\t∉q.rd)/\(∀t,q.op.dst=some t->t∉p.rd) /\
  (q.eff=true->p.eff=false->p.op.op.hfree=true∨i∈q.again)/\(p.eff=true->q.eff=false->q.op.op.hfree=true∨i∈q.early)):=λi j p q hp hq hlt=>by
  have:=z9T c3 j q hq i p hp (by omega)
  rw[Nat.zero_add]at this;exact znQ htab this
 have hop:∀(i:Nat) (o:DOp),ds[i]?=some o->∃p,ops[i]?=some p/\PH P nt ops o.op p=true:=λi o ho=>by
  obtain⟨p,q1,q2⟩:=c5 i o.op (by simp [ho])
  rw[Nat.zero_add]at q1;exact⟨p,q1,q2⟩
 obtain⟨E,H,V,X,Y,e1,e2,e3,T,e5⟩:=zbd ds 0 [] [] e h x K HD rfl rfl;simp only[Nat.zero_add]at e5;have hE:=λt i hi=>z65 (e:=e) T e1 t i hi
 let dst:Nat->Option Nat:=λi=>(ds[i]?).bind (·.op.dst)
 have hdst:∀(i:Nat) (o:DOp),ds[i]?=some o->dst i=o.op.dst:=λi o ho=>by show(ds[i]?).bind _=_;rw[ho];rfl
 have hdst':∀(i t:Nat),dst i=some t->∃o,ds[i]?=some o/\o.op.dst=some t:=λi t ht=>by
  cases ho:ds[i]? with
  | none=>exact absurd ht (by show(ds[i]?).bind _≠_;rw[ho];simp)
  | some o=>exact⟨o,rfl,by rw[<-hdst i o ho];exact ht⟩
 have hstill:∀c i,c<=i->i<=ds.length->(∀(k:Nat) (o:DOp),c<=k->k<i->ds[k]?=some o->o.eff=false)->H i=H c/\X i=X c:=λc i hci hi hk=>by
  have:=zaV T (c:=c) (i-c) (by omega) (λk o h1 h2 h3=>hk k o h1 (by omega) h3)
  rwa [show c+(i-c)=i by omega]at this
 have done:∀(listed:Array Bool) (c:Nat) (en:List (Nat×AV)) (a:Act) (w:World) (μ:Mu),(∀i,i<ops.size->listed.getD i false=true)->(∀(k:Nat) (o:DOp),ds[k]?=some o->o.eff=true->(listed.getD k false=true↔k<c))->c<=ds.length ->
  (∀t,eA en t=lk dst V e (λi=>listed.getD i false) ds.length t)->Rel gl nt M0 h0 μ0 en (H c) (X c) a w μ->Q .normal a w:=by
  intro listed c en a w μ hall hce hcl hen R;have hHn:=hstill c ds.length hcl (Nat.le_refl _) (λk o h1 h2 h3=>by
   cases hb:o.eff with
   | false=>rfl
   | true=>have:=(hce k o h3 hb).1 (hall k (by omega));omega)
  refine hK _ _ _ a w μ e5 ?_;rw[hHn.1,hHn.2];refine⟨R.heap,λt=>?_,R.glob,R.evo,R.esc,R.size,R.defers⟩
  rw[hE t _ (Nat.le_refl _)];have:=hen t;rw[ST (s':=λ_=>true) ds.length (λj hj _=>hall j (by omega))]at this
  rw[<-this];exact R.env t
 have key:∀(fuel:Nat) (listed:Array Bool) (U:List Nat) (c:Nat) (en:List (Nat×AV)) (a:Act) (w:World) (μ:Mu),listed.size=ops.size->(∀i,i<ops.size->listed.getD i false=false->i∈U)->U.length<=fuel ->
  Down ops (λi=>listed.getD i false)->(∀(k:Nat) (o:DOp),ds[k]?=some o->o.eff=true->(listed.getD k false=true↔k<c))->(c=0∨∃(k:Nat) (o:DOp),c=k+1/\ds[k]?=some o/\o.eff=true)->c<=ds.length ->
  (∀t,eA en t=lk dst V e (λi=>listed.getD i false) ds.length t)->Rel gl nt M0 h0 μ0 en (H c) (X c) a w μ->wpAny P .any ops Q fuel listed a w:=by
  intro fuel;induction fuel with
  | zero=>
   intro listed U c en a w μ hsz hU hUl hD hce hc0 hcl hen R;have hall:∀i,i<ops.size->listed.getD i false=true:=λi hi=>by
    cases hb:listed.getD i false with
    | true=>rfl
    | false=>
     have:=hU i hi hb;have hnil:U=[]:=List.length_eq_zero_iff.1 (by omega)
     rw[hnil]at this;cases this
   refine⟨?_,done listed c en a w μ hall hce hcl hen R⟩;rw[List.eq_nil_iff_forall_not_mem];intro i hi;rw[mem_ready]at hi;obtain⟨q1,o,q2,_⟩:=hi;have hi:i<ops.size:=(Array.getElem?_eq_some_iff.1 q2).1
   have:=hall i hi;simp [Array.getD,hsz,hi]at q1 this;rw[q1]at this;cases this
  | succ fuel ih=>
   intro listed U c en a w μ hsz hU hUl hD hce hc0 hcl hen R;refine⟨λhr=>?_,λi hi=>?_⟩
   ·have hall:∀i,i<ops.size->listed.getD i false=true:=by
     intro i;induction i using Nat.strongRecOn with
     | _ i ihi=>
      intro hi;cases hb:listed.getD i false with
      | true=>rfl
      | false=>
       have hm:i∈Region.ready .any ops listed:=by
        rw[mem_ready];refine⟨by simp [Array.getD,hsz,hi]at hb ⊢;exact hb,ops[i],Array.getElem?_eq_getElem hi,λed hed hbd=>?_⟩
        have hk:ed.on∈kE ops[i]:=List.mem_map.2 ⟨ed,List.mem_filter.2 ⟨by simpa using hed,hbd⟩,rfl⟩
        have hlt:=z62 c2 i ops[i] (by simp [hi]) ed.on hk
        exact ihi ed.on (by omega) (by omega)
       rw[hr]at hm;cases hm
    exact done listed c en a w μ hall hce hcl hen R
   ·rw[mem_ready]at hi
    obtain⟨q1,p,hp,q3⟩:=hi;have hin:i<ops.size:=(Array.getElem?_eq_some_iff.1 hp).1
    have hnl:listed.getD i false=false:=by
     simp [Array.getD,hsz,hin]at q1 ⊢;exact q1
    have hready:∀o,ops[i]?=some o->∀k∈kE o,listed.getD k false=true:=by
     intro o ho k hk;rw[hp]at ho;injection ho with ho
     subst ho;obtain⟨ed,q4,rfl⟩:=List.mem_map.1 hk;obtain⟨q5,q6⟩:=List.mem_filter.1 q4;exact q3 ed (by simpa using q5) q6
    have ho:=List.getElem?_eq_getElem (show i<ds.length by omega)
    generalize ds[i]'(by omega)=o at ho
    obtain⟨p',hp',hck⟩:=hop i o ho;rw[hp]at hp';injection hp' with hp'
    subst hp';obtain⟨hd1,hd2⟩:=zfT hck;have hT:=T i o ho
    have hrun:=hT.run
    simp only[Nat.zero_add]at hrun;have before:∀(k:Nat) (q:DOp),ds[k]?=some q->k<i->Bef ops k i->listed.getD k false=true:=λk q _ _ hb=>hb.ready hD hready
    have behind:∀(k:Nat),Bef ops i k->listed.getD k false=false:=λk hb=>by
     cases hs:listed.getD k false with
     | false=>rfl
     | true=>have:=hb.down hD hs;rw[hnl]at this;cases this
    have Renv:Rel gl nt M0 h0 μ0 (EA (some o.rd) (E i)) (H c) (X c) a w μ:=by
     refine⟨R.heap,λt=>?_,R.glob,R.evo,R.esc,R.size,R.defers⟩
     rw[zdn];split
     ·rename_i htr
      have h1:=hen t
      rw[TT (i:=i) ds.length (by omega) (λj hij hj hdj=>by
       obtain⟨q,hq,hqd⟩:=hdst' j t hdj;rcases Nat.eq_or_lt_of_le hij with hh|hh
       ·subst hh;exact hnl
       ·rcases hpair i j o q ho hq hh with hb|⟨_,_,k3,_⟩
        ·exact behind j hb
        ·exact absurd htr (k3 t hqd)),ST (s':=λ_=>true) i (λj hj hdj=>by
       obtain⟨q,hq,hqd⟩:=hdst' j t hdj;rcases hpair j i q o hq ho hj with hb|⟨_,k2,_⟩
       ·exact before j q hq hj hb
       ·exact absurd htr (k2 t hqd).2),<-hE t i (by omega)]at h1
      rw[<-h1];exact R.env t
     ·exact .und _
    have next:∀(c':Nat) (a':Act) (w':World) (μ':Mu) (u:Value),a'=a.put p.dst u->(∀(k:Nat) (q:DOp),ds[k]?=some q->q.eff=true->((listed.setIfInBounds i true).getD k false=true↔k<c'))->(c'=0∨∃(k:Nat) (o:DOp),c'=k+1/\ds[k]?=some o/\o.eff=true)->c'<=ds.length ->
     (∀e',(∀t,eA e' t=if o.op.dst=some t then V i else eA en t)->Rel gl nt M0 h0 μ0 e' (H c') (X c') a' w' μ')->wpAny P .any ops Q fuel (listed.setIfInBounds i true) a' w':=by
     intro c' a' w' μ' u ha k1 k2 k3 k4;refine ih (listed.setIfInBounds i true) (U.erase i) c' (put o.op.dst (V i) en) a' w' μ' (by simp [hsz]) (λj hj hb=>?_) ?_ ?_ k1 k2 k3 (λt=>?_) (k4 _ (λt=>BK))
     ·by_cases hji:i=j
      ·subst hji
       simp [Array.getD,hsz,hin]at hb
      ·rw[getD_set_ne false hji]at hb
       exact(List.mem_erase_of_ne (λh=>hji h.symm)).2 (hU j hj hb)
     ·have:=List.length_erase_of_mem (hU i hin hnl)
      omega
     ·intro j q hq hs k hk
      by_cases hji:i=j
      ·subst hji
       exact getD_set_true (hready q hq k hk)
      ·have hs':listed.getD j false=true:=by
        have:=hs;simp only[getD_set_ne false hji]at this;exact this
       exact getD_set_true (hD j q hq hs' k hk)
     ·rw[BK]
      by_cases hdt:o.op.dst=some t
      ·rw[if_pos hdt]
       rw[TT (i:=i+1) ds.length (by omega) (λj hij hj hdj=>by
        obtain⟨q,hq,hqd⟩:=hdst' j t hdj;show(listed.setIfInBounds i true).getD j false=false
        rw[getD_set_ne false (show i≠j by omega)]
        rcases hpair i j o q ho hq (by omega) with hb|⟨_,k2,_⟩
        ·exact behind j hb
        ·exact absurd hqd (k2 t hdt).1)]
       simp only[lk];rw[if_pos ⟨by simp [Array.getD,hsz,hin],by rw[hdst i o ho];exact hdt⟩]
      ·rw[if_neg hdt,hen t]
       refine ST _ (λj hj hdj=>?_)
       have hji:i≠j:=by
        intro hji;subst hji;rw[hdst i o ho]at hdj;exact hdt hdj
       exact(getD_set_ne false hji).symm
    cases heff:o.eff with
    | true=>
     have hci:c<=i:=by
      rcases hc0 with hc0|⟨k,q,hck2,hq,hqe⟩
      ·omega
      ·rcases Nat.lt_trichotomy k i with hh|hh|hh
       ·omega
       ·subst hh
        have:=(hce k q hq hqe).2 (by omega)
        rw[hnl]at this;cases this
       ·rcases hpair i k o q ho hq hh with hb|⟨k1,_⟩
        ·have:=behind k hb
         have h2:=(hce k q hq hqe).2 (by omega)
         rw[this]at h2;cases h2
        ·exact absurd ⟨heff,hqe⟩ k1
     have hbe:∀(k:Nat) (q:DOp),k<i->ds[k]?=some q->q.eff=true->k<c:=λk q hk hq hqe=>by
      rcases hpair k i q o hq ho hk with hb|⟨k1,_⟩
      ·exact(hce k q hq hqe).1 (before k q hq hk hb)
      ·exact absurd ⟨hqe,heff⟩ k1
     have hHi:=hstill c i hci (by omega) (λk q h1 h2 h3=>by
      cases hb:q.eff with
      | false=>rfl
      | true=>have:=hbe k q h2 h3 hb;omega)
     rw[hHi.1]at hrun;refine z6f hC hp hck Renv hrun (λa' w' μ' u ha hH hEv hI hV=>?_)
     refine next (i+1) a' w' μ' u ha (λk q hq hqe=>?_) (.inr ⟨i,o,rfl,ho,heff⟩) (by omega) (λe' he'=>?_)
     ·by_cases hki:i=k
      ·subst hki
       simp [Array.getD,hsz,hin]
      ·rw[getD_set_ne false hki,hce k q hq hqe]
       constructor
       ·intro _;omega
       ·intro _;exact hbe k q (by omega) hq hqe
     ·have hst:=R.step (d:=p.dst) (λj hj=>hd2 j (by rw[hd1];exact hj)) hH hEv hI hV
      have hX:X (i+1)=Y i++X c:=by have:=hT.esc;simp only[Nat.zero_add]at this;rw[this,hHi.2]
      rw[hX,ha];refine⟨hst.heap,λt=>?_,hst.glob,hst.evo,hst.esc,hst.size,hst.defers⟩
      have:=hst.env t;rw[BK,<-hd1]at this;rw[he' t];rw[hd1]at this ⊢;exact this
    | false=>
     have hs:=hT.still heff
     simp only[Nat.zero_add]at hs;rw[hs.1,hs.2]at hrun;have hdo:ADo C gl o.op (EA (some o.rd) (E i)) (H c) (V i) (H c) []:=by
      by_cases hf:o.op.op.hfree=true
      ·exact zb3 hf hrun _
      ·rcases Nat.lt_or_ge i c with hic|hci
       ·rcases hc0 with hc0|⟨k,q,hck2,hq,hqe⟩
        ·omega
        ·have hik:i<k:=by
          rcases Nat.eq_or_lt_of_le (show i<=k by omega) with hh|hh
          ·subst hh
           rw[ho]at hq;injection hq with hq
           subst hq;rw[heff]at hqe;cases hqe
          ·exact hh
         rcases hpair i k o q ho hq hik with hb|⟨_,_,_,k4,_⟩
         ·have:=behind k hb
          have h2:=(hce k q hq hqe).2 (by omega)
          rw[this]at h2;cases h2
         ·rcases k4 hqe heff with k4|k4
          ·exact absurd k4 hf
          ·rcases(T k q hq).again i k4 with⟨_,h1,_⟩|⟨_,q',h1,h2⟩
           ·omega
           ·simp only[Nat.sub_zero]at h1
            rw[ho]at h1;injection h1 with h1
            subst h1;simp only[Nat.zero_add]at h2;rw[hck2];exact h2
       ·by_cases hk:∃k,c<=k/\k<i/\∃q,ds[k]?=some q/\q.eff=true
        ·obtain⟨k,hck2,hki,⟨q,hq,hqe⟩,hmin⟩:=z1q hk
         have hHk:=hstill c k hck2 (by omega) (λk' q' h1 h2 h3=>by
          cases hb:q'.eff with
          | false=>rfl
          | true=>exact absurd ⟨q',h3,hb⟩ (hmin k' h1 h2))
         rcases hpair k i q o hq ho hki with hb|⟨_,_,_,_,k5⟩
         ·have:=(hce k q hq hqe).1 (before k q hq hki hb)
          omega
         ·rcases k5 hqe heff with k5|k5
          ·exact absurd k5 hf
          ·obtain⟨g,h1,h2⟩:=hT.early k k5
           simp only[Nat.zero_add]at h1 h2;rcases h1 with⟨h1,_⟩|⟨_,_,h1⟩
           ·omega
           ·rw[h1,hHk.1]at h2
            exact h2
        ·have hHi:=hstill c i hci (by omega) (λk q h1 h2 h3=>by
          cases hb:q.eff with
          | false=>rfl
          | true=>exact absurd ⟨k,h1,h2,q,h3,hb⟩ hk)
         rw[hHi.1]at hrun;exact hrun
     refine z6f hC hp hck Renv hdo (λa' w' μ' u ha hH hEv hI hV=>?_)
     refine next c a' w' μ' u ha (λk q hq hqe=>?_) hc0 hcl (λe' he'=>?_)
     ·have hki:i≠k:=by
       intro hki;subst hki;rw[ho]at hq;injection hq with hq
       subst hq;rw[heff]at hqe;cases hqe
      rw[getD_set_ne false hki];exact hce k q hq hqe
     ·have hst:=R.step (d:=p.dst) (λj hj=>hd2 j (by rw[hd1];exact hj)) hH hEv hI hV
      rw[List.nil_append]at hst;rw[ha];refine⟨hst.heap,λt=>?_,hst.glob,hst.evo,hst.esc,hst.size,hst.defers⟩
      have:=hst.env t;rw[BK,<-hd1]at this;rw[he' t];rw[hd1]at this ⊢;exact this
 refine key ops.size _ (List.range ops.size) 0 e a w μ (by simp) (λi hi _=>List.mem_range.2 hi) (by simp) ?_ ?_ (.inl rfl) (Nat.zero_le _) ?_ ?_
 ·intro i o ho hs
  have hi:i<ops.size:=(Array.getElem?_eq_some_iff.1 ho).1
  simp [Array.getD,hi]at hs
 ·intro k o ho _
  have hi:k<ops.size:=by rw[<-hn];exact IA ho
  simp [Array.getD,hi]
 ·intro t
  have:lk dst V e (λi=>(Array.replicate ops.size false).getD i false) ds.length t=lk dst V e (λi=>(Array.replicate ops.size false).getD i false) 0 t:=
   TT ds.length (Nat.zero_le _) (λj _ hj _=>by simp [Array.getD])
  rw[this];rfl
 ·rw[e2,e3];exact R
end
section
variable {P:Program} {gl:Nat->Option PV} {nt:Nat} {M0:Mem} {h0:aA} {μ0:Mu} {h:aA} {μ:Mu} {e:List (Nat × AV)} {x0:Esc} {ops:Array Oper} {Q:Exit->Act->World->Prop} {ix:List Nat} {x y:Nat}
def XT:List Nat->Bool
 | []=>true
 | a::r=>!r.contains a&&XT r
theorem z9m:∀ {l:List Nat},XT l=true->l.Nodup
 | [],_=>List.nodup_nil
 | a::r,h=>by
  simp only[XT,Bool.and_eq_true,Bool.not_eq_true']at h;refine List.nodup_cons.2 ⟨λhm=>?_,z9m h.2⟩
  have:=h.1;simp [hm]at this
def IV (ops:Array Oper)(ix:List Nat)(x y i:Nat):Oper:=
 let o:=(ops[i]?).getD default
 ⟨o.dst,o.op,o.type,o.pos,((kE o++bif Nat.beq i y then [x] else []).map λk=>⟨ix.findIdx (Nat.beq k),.data⟩).toArray,o.guard⟩
def pE (ops:Array Oper)(ix:List Nat)(x y:Nat):Array Oper:=(ix.map (IV ops ix x y)).toArray
structure PermOk (ops:Array Oper) (ix:List Nat) (x y:Nat):Prop where
 len:ix.length=ops.size
 lt:∀i∈ix,i<ops.size
 all:∀i,i<ops.size->i∈ix
 nd:ix.Nodup
 gd:∀(i:Nat) (o:Oper),ops[i]?=some o->o.guard=none
 ed:∀(i:Nat) (o:Oper),ops[i]?=some o->∀k∈kE o,k<ops.size
 xl:x<ops.size
theorem PermOk.inv (H:PermOk ops ix x y){i:Nat}(hi:i<ops.size):ix.findIdx (Nat.beq i)<ops.size/\ix[ix.findIdx (Nat.beq i)]?=some i:=by
 have hm:=H.all i hi
 have hl:ix.findIdx (Nat.beq i)<ix.length:=List.findIdx_lt_length.2 ⟨i,hm,Nat.beq_refl i⟩
 refine⟨by rw[<-H.len];exact hl,?_⟩
 rw[List.getElem?_eq_getElem hl];have:=List.findIdx_getElem (w:=hl);exact congrArg some (Nat.eq_of_beq_eq_true this).symm
theorem z3l (H:PermOk ops ix x y){k i:Nat}(hk:ix[k]?=some i):∃o,ops[i]?=some o/\(pE ops ix x y)[k]?=some (IV ops ix x y i)/\IV ops ix x y i=⟨o.dst,o.op,o.type,o.pos,((kE o++bif Nat.beq i y then [x] else []).map λk=>⟨ix.findIdx (Nat.beq k),.data⟩).toArray,o.guard⟩:=by
 have hi:=H.lt i (List.mem_of_getElem? hk)
 refine⟨ops[i],Array.getElem?_eq_getElem hi,?_,?_⟩
 ·unfold pE
  simp [hk]
 ·unfold IV
  simp [Array.getElem?_eq_getElem hi]
def aX (x y:Nat)(l:List Nat):Prop:=∀l1 l2,l=l1++y::l2->x∈l1
theorem znV (H:PermOk ops ix x y){k i:Nat}(hk:ix[k]?=some i){K K':Act->World->Prop}{a:Act}{w:World}(hK:∀ a w,K a w->K' a w)(h:wpOp P (pE ops ix x y) Q k K a w):wpOp P ops Q i K' a w:=by
 obtain⟨o,h1,h2,h3⟩:=z3l H hk;have hg:=H.gd i o h1
 unfold wpOp at h ⊢;rw[h2]at h;rw[h1];rw[h3]at h;dsimp only at h ⊢;have e1:∀yl,Region.wanted o yl=true:=λyl=>by unfold Region.wanted;rw[hg]
 rw[if_pos (e1 _)];rw[if_pos (by unfold Region.wanted;dsimp only;rw[hg])]at h
 rcases h with h|h
 ·exact .inl (Oper.wp_mono hK h)
 ·exact .inr h
def VO (ops:Array Oper):Nat->Array Bool->List Nat->Prop
 | 0,_,l=>l=[]
 | _+1,listed,[]=>Region.ready .any ops listed=[]
 | n+1,listed,i::r=>i∈Region.ready .any ops listed/\VO ops n (listed.setIfInBounds i true) r
theorem zcg (ops:Array Oper):∀(fuel t:Nat) (listed:Array Bool),VO ops fuel listed (Region.linearise.go .any ops fuel t listed []):=by
 intro fuel;induction fuel with
 | zero=>intro t listed;simp [Region.linearise.go,VO]
 | succ fuel ih=>
  intro t listed;have hgo:Region.linearise.go .any ops (fuel+1) t listed []=match (Region.ready .any ops listed)[t%(Region.ready .any ops listed).length]? with
   | some i=>i::Region.linearise.go .any ops fuel (t / (Region.ready .any ops listed).length) (listed.setIfInBounds i true) []
   | none=>[]:=by
   simp only[Region.linearise.go];change (match (Region.ready .any ops listed)[t%(Region.ready .any ops listed).length]? with
    | some i=>Region.linearise.go .any ops fuel (t / (Region.ready .any ops listed).length) (listed.setIfInBounds i true) [i]
    | none=>[].reverse)=_
   split
   ·rw[linearise_go_acc,List.reverse_singleton,List.singleton_append]
   ·rfl
  rw[hgo];cases hi:(Region.ready .any ops listed)[t%(Region.ready .any ops listed).length]? with
  | none=>
   show Region.ready .any ops listed=[]
   cases hr:Region.ready .any ops listed with
   | nil=>rfl
   | cons z zs=>
    rw[hr]at hi;have hlt:t%(z::zs).length<(z::zs).length:=Nat.mod_lt _ (by simp)
    simp at hi;simp at hlt;omega
  | some i=>exact⟨List.mem_of_getElem? hi,ih _ _⟩
theorem z4I:∀ (n:Nat) (listed:Array Bool) (l:List Nat),VO ops n listed l->∀ i∈l,i<ops.size
 | 0,_,l,h,i,hi=>by rw[show l=[] from h]at hi;cases hi
 | n+1,listed,[],h,i,hi=>by cases hi
 | n+1,listed,j::r,h,i,hi=>by
  rcases List.mem_cons.1 hi with rfl|hi
  ·have:=h.1
   rw[mem_ready]at this;obtain⟨_,o,q2,_⟩:=this;exact(Array.getElem?_eq_some_iff.1 q2).1
  ·exact z4I n _ r h.2 i hi
theorem zr8 {i:Nat}{K K':Act->World->Prop}{a:Act}{w:World}(hK:∀ a w,K a w->K' a w)(h:wpOp P ops Q i K a w):wpOp P ops Q i K' a w:=by
 unfold wpOp at h ⊢;split at h
 ·exact hK _ _ h
 ·split at h
  ·rename_i hw
   rw[if_pos hw];rcases h with h|h
   ·exact .inl (Oper.wp_mono hK h)
   ·exact .inr h
  ·rename_i hw
   rw[if_neg hw];exact hK _ _ h
theorem z4U:∀ (n:Nat) (listed:Array Bool) (l:List Nat) (a:Act) (w:World),VO ops n listed l->wpAny P .any ops Q n listed a w->wpOps P ops Q l a w
 | 0,_,l,a,w,h,hw=>by rw[show l=[] from h];exact hw.2
 | n+1,listed,[],a,w,h,hw=>hw.1 h
 | n+1,listed,i::r,a,w,h,hw=>by
  rw[wpOps_cons];exact zr8 (λa w hw=>z4U n _ r a w h.2 hw) (hw.2 i h.1)
theorem z3m (H:PermOk ops ix x y):∀(l:List Nat) (a:Act) (w:World),(∀i∈l,i<ops.size)->wpOps P (pE ops ix x y) Q (l.map λi=>ix.findIdx (Nat.beq i)) a w->wpOps P ops Q l a w
 | [],_,_,_,h=>h
 | i::r,a,w,hl,h=>by
  rw[List.map_cons,wpOps_cons]at h;rw[wpOps_cons];exact znV H (H.inv (hl i (List.mem_cons_self ..))).2 (λa w hw=>z3m H r a w (λj hj=>hl j (List.mem_cons_of_mem _ hj)) hw) h
theorem z90 (H:PermOk ops ix x y):∀(n:Nat) (listed listed':Array Bool) (l:List Nat),listed.size=ops.size->listed'.size=ops.size->(∀k i,ix[k]?=some i->listed'.getD k false=listed.getD i false) ->
 (listed.getD x false=true∨aX x y l)->VO ops n listed l->VO (pE ops ix x y) n listed' (l.map λi=>ix.findIdx (Nat.beq i)):=by
 intro n;have hps:(pE ops ix x y).size=ops.size:=by unfold pE;simp [H.len]
 have dflt:∀(l:Array Bool),l.size=ops.size->∀i,i<ops.size->l.getD i true=l.getD i false:=λl hl i hi=>by simp [Array.getD,hl,hi]
 induction n with
 | zero=>intro listed listed' l _ _ _ _ h;rw[show l=[] from h];rfl
 | succ n ih=>
  intro listed listed' l hs hs' hL hB h;cases l with
  | nil=>
   have hnil:Region.ready .any ops listed=[]:=h
   show Region.ready .any (pE ops ix x y) listed'=[]
   rw[List.eq_nil_iff_forall_not_mem];intro k hk;rw[mem_ready]at hk;obtain⟨q1,o',q2,q3⟩:=hk;have hkl:k<ops.size:=by rw[<-hps];exact(Array.getElem?_eq_some_iff.1 q2).1
   obtain⟨i,hki⟩:∃i,ix[k]?=some i:=⟨_,List.getElem?_eq_getElem (by rw[H.len];exact hkl)⟩
   obtain⟨o,p1,p2,p3⟩:=z3l H hki;rw[p2]at q2;injection q2 with q2
   have hil:=H.lt i (List.mem_of_getElem? hki)
   have hm:i∈Region.ready .any ops listed:=by
    rw[mem_ready];refine⟨?_,o,p1,λed hed hbd=>?_⟩
    ·rw[dflt _ hs i hil,<-hL k i hki,<-dflt _ hs' k hkl];exact q1
    ·have hke:ed.on∈kE o:=List.mem_map.2 ⟨ed,List.mem_filter.2 ⟨by simpa using hed,hbd⟩,rfl⟩
     have hel:=H.ed i o p1 ed.on hke
     obtain⟨r1,r2⟩:=H.inv hel;have:=q3 ⟨ix.findIdx (Nat.beq ed.on),.data⟩ (by rw[<-q2,p3];simp;exact .inl ⟨_,hke,rfl⟩) rfl
     rw[hL _ _ r2]at this;exact this
   rw[hnil]at hm;cases hm
  | cons i r=>
   obtain⟨hir,hr⟩:=h;have hmr:=hir
   rw[mem_ready]at hmr;obtain⟨q1,o,q2,q3⟩:=hmr;have hil:i<ops.size:=(Array.getElem?_eq_some_iff.1 q2).1
   obtain⟨k1,k2⟩:=H.inv hil;rw[List.map_cons];generalize hk:ix.findIdx (Nat.beq i)=k at *;obtain⟨o1,p1,p2,p3⟩:=z3l H k2;rw[q2]at p1;injection p1 with p1
   subst p1;have hxl:i=y->listed.getD x false=true:=λhy=>by
    rcases hB with hB|hB
    ·exact hB
    ·have:=hB [] r (by rw[hy];rfl)
     cases this
   have hkr:k∈Region.ready .any (pE ops ix x y) listed':=by
    rw[mem_ready];refine⟨?_,_,p2,λed hed hbd=>?_⟩
    ·rw[dflt _ hs' k k1,hL k i k2,<-dflt _ hs i hil];exact q1
    ·rw[p3]at hed
     simp only[List.mem_toArray,List.mem_map,List.mem_append]at hed;obtain⟨j,hj,rfl⟩:=hed;rcases hj with hj|hj
     ·have hel:=H.ed i o q2 j hj
      obtain⟨r1,r2⟩:=H.inv hel;dsimp only;rw[hL _ _ r2];obtain⟨ed,he1,he2⟩:=List.mem_map.1 hj;obtain⟨he3,he4⟩:=List.mem_filter.1 he1;subst he2;exact q3 ed (by simpa using he3) he4
     ·cases hy:Nat.beq i y with
      | false=>rw[hy]at hj;cases hj
      | true=>
       rw[hy]at hj;simp only[cond_true,List.mem_singleton]at hj;subst hj;obtain⟨r1,r2⟩:=H.inv H.xl;dsimp only;rw[hL _ _ r2];exact hxl (Nat.eq_of_beq_eq_true hy)
   refine⟨hkr,ih _ _ r (by simp [hs]) (by simp [hs']) (λk' i' hk'=>?_) ?_ hr⟩
   ·by_cases hkk:k=k'
    ·subst hkk
     rw[k2]at hk';injection hk' with hk'
     subst hk';simp [Array.getD,hs,hs',hil,k1]
    ·have hii:i≠i':=λhii=>by
      subst hii;have a1:=List.getElem?_eq_some_iff.1 k2
      have a2:=List.getElem?_eq_some_iff.1 hk'
      obtain⟨b1,b2⟩:=a1;obtain⟨c1,c2⟩:=a2;exact hkk ((List.getElem_inj H.nd).1 (b2.trans c2.symm))
     rw[getD_set_ne false hkk,getD_set_ne false hii];exact hL k' i' hk'
   ·rcases hB with hB|hB
    ·exact .inl (getD_set_true hB)
    ·by_cases hxi:i=x
     ·subst hxi
      left;simp [Array.getD,hs,hil]
     ·right
      intro l1 l2 hl;have:=hB (i::l1) l2 (by rw[hl];rfl)
      rcases List.mem_cons.1 this with q|q
      ·exact absurd q.symm hxi
      ·exact q
theorem zdK (x y:Nat)(hxy:x≠y)(l:List Nat):aX x y l∨aX y x l:=by
 induction l with
 | nil=>left;intro l1 l2 h;simp at h
 | cons z l ih=>
  by_cases hx:z=x
  ·subst hx
   left;intro l1 l2 h
   cases l1 with
   | nil=>simp at h;exact absurd h.1 hxy
   | cons q r=>simp at h;simp [h.1]
  ·by_cases hy:z=y
   ·subst hy
    right;intro l1 l2 h
    cases l1 with
    | nil=>simp at h;exact absurd h.1.symm hxy
    | cons q r=>simp at h;simp [h.1]
   ·rcases ih with ih|ih
    ·left
     intro l1 l2 h;cases l1 with
     | nil=>simp at h;exact absurd h.1 hy
     | cons q r=>simp at h;exact List.mem_cons_of_mem _ (ih r l2 h.2)
    ·right
     intro l1 l2 h;cases l1 with
     | nil=>simp at h;exact absurd h.1 hx
     | cons q r=>simp at h;exact List.mem_cons_of_mem _ (ih r l2 h.2)
def mQ:ACode->List Nat × ACode
 | .block i b=>(i::(mQ b).1,(mQ b).2)
 | c=>([],c)
theorem z3k {C:Hd}:∀(c:ACode) (s:St) (K:Ex->St->Prop),AW C gl c s K->∃K':Ex->St->Prop,AW C gl (mQ c).2 s K'/\∀st,K' .normal st->K .normal st
 | .block i b,s,K,H=>by
  unfold AW at H;obtain⟨K',h1,h2⟩:=z3k b s _ H;exact⟨K',h1,λst h=>h2 st h⟩
 | .skip,_,K,H=>⟨K,H,λ_ h=>h⟩
 | .reg _ _,_,K,H=>⟨K,H,λ_ h=>h⟩
 | .draw _ _,_,K,H=>⟨K,H,λ_ h=>h⟩
 | .seq _ _,_,K,H=>⟨K,H,λ_ h=>h⟩
 | .cond _ _ _,_,K,H=>⟨K,H,λ_ h=>h⟩
 | .condu _ _ _,_,K,H=>⟨K,H,λ_ h=>h⟩
 | .det _,_,K,H=>⟨K,H,λ_ h=>h⟩
 | .loop _,_,K,H=>⟨K,H,λ_ h=>h⟩
 | .scope _,_,K,H=>⟨K,H,λ_ h=>h⟩
 | .pr _ _,_,K,H=>⟨K,H,λ_ h=>h⟩
 | .exit _,_,K,H=>⟨K,H,λ_ h=>h⟩
 | .ret,_,K,H=>⟨K,H,λ_ h=>h⟩
 | .bad,_,K,H=>⟨K,H,λ_ h=>h⟩
def nR (ops:Array Oper)(x y:Nat)(ix:List Nat):Bool:=
 ix.length==ops.size&&ix.all (λi=>decide (i<ops.size))&&(List.range ops.size).all (λi=>ix.contains i)&&XT ix&&ops.toList.all (λo=>o.guard.isNone&&(kE o).all λk=>decide (k<ops.size))&&decide (x<ops.size)
theorem z58 (h:nR ops x y ix=true):PermOk ops ix x y:=by
 unfold nR at h;simp only[Bool.and_eq_true,beq_iff_eq,List.all_eq_true,decide_eq_true_eq,Option.isNone_iff_eq_none]at h;obtain⟨⟨⟨⟨⟨h1,h2⟩,h3⟩,h4⟩,h5⟩,h6⟩:=h;refine⟨h1,h2,λi hi=>?_,z9m h4,λi o ho=>(h5 o ?_).1,λi o ho=>(h5 o ?_).2,h6⟩
 ·have:=h3 i (List.mem_range.2 hi)
  simpa using this
 ·exact Array.mem_toList_iff.2 (Array.mem_of_getElem? ho)
 ·exact Array.mem_toList_iff.2 (Array.mem_of_getElem? ho)
def QH (P:Program)(nt:Nat):Nat->Array Oper->ACode->Bool
 | 0,_,_=>false
 | n+1,ops,c=>match c with
  | .draw ds _=>jR P nt ops ds
  | .condu t a b=>match t with
   | .c .anyb=>match mQ a,mQ b with
    | (x::y::ixA,ca),(y'::x'::ixB,cb)=>Nat.beq x x'&&Nat.beq y y' && !Nat.beq x y&&nR ops x y ixA&&nR ops y x ixB&&QH P nt n (pE ops ixA x y) ca&&QH P nt n (pE ops ixB y x) cb
    | _,_=>false
   | _=>false
  | _=>false
theorem z4b {C:Hd}(hC:∀ f a h K,C f a h K->MC P gl f a h K):∀(n:Nat) (ops:Array Oper) (c:ACode) (s:St) (K:Ex->St->Prop) (a:Act) (w:World),QH P nt n ops c=true->AW C gl c s K->Rel gl nt M0 h0 μ0 s.env s.h s.esc a w μ ->
 (∀(keep:Option (List Nat)) e h x a w μ,K .normal ⟨EA keep e,h,x⟩->Rel gl nt M0 h0 μ0 e h x a w μ->Q .normal a w)->∀l,VO ops ops.size (Array.replicate ops.size false) l->wpOps P ops Q l a w
 | 0,ops,c,s,K,a,w,hc,_,_,_,_,_=>by cases hc
 | n+1,ops,c,s,K,a,w,hc,H,R,fin,l,hl=>by
  cases c;case draw ds keep=>
   unfold QH at hc;unfold AW at H;exact z4U _ _ l a w hl (z6h hC (Q:=Q) hc H R (fin keep))
  case condu t c1 c2=>
   unfold QH at hc;dsimp only at hc;split at hc
   ·split at hc
    ·rename_i x y ixA ca y' x' ixB cb pa pb
     simp only[Bool.and_eq_true,Bool.not_eq_true']at hc;obtain⟨⟨⟨⟨⟨⟨e1,e2⟩,e3⟩,e4⟩,e5⟩,e6⟩,e7⟩:=hc;have e1:=Nat.eq_of_beq_eq_true e1
     have e2:=Nat.eq_of_beq_eq_true e2
     subst e1;subst e2
     have hxy:x≠y:=λhh=>by rw[hh,Nat.beq_refl]at e3;cases e3
     unfold AW at H;simp only[Opd.ev]at H;obtain⟨KA,HA,fA⟩:=z3k c1 s K H.1;obtain⟨KB,HB,fB⟩:=z3k c2 s K H.2;rw[pa]at HA;rw[pb]at HB;have pA:=z58 e4
     have pB:=z58 e5
     have rep:∀(ix:List Nat) k i,ix[k]?=some i->(Array.replicate ops.size false).getD k false=(Array.replicate ops.size false).getD i false:=λix k i _=>by simp [Array.getD]
     have szA:(pE ops ixA x y).size=ops.size:=by unfold pE;simp [pA.len]
     have szB:(pE ops ixB y x).size=ops.size:=by unfold pE;simp [pB.len]
     have hlt:=z4I _ _ l hl
     rcases zdK x y hxy l with hb|hb
     ·have hv:=z90 pA ops.size _ _ l (by simp) (by simp) (rep ixA) (.inr hb) hl
      have:=z4b hC n _ ca s KA a w e6 HA R (λkeep e h x a w μ hk R'=>fin keep e h x a w μ (fA _ hk) R') _ (by rw[szA];exact hv)
      exact z3m pA l a w hlt this
     ·have hv:=z90 pB ops.size _ _ l (by simp) (by simp) (rep ixB) (.inr hb) hl
      have:=z4b hC n _ cb s KB a w e7 HB R (λkeep e h x a w μ hk R'=>fin keep e h x a w μ (fB _ hk) R') _ (by rw[szB];exact hv)
      exact z3m pB l a w hlt this
    ·cases hc
   ·cases hc
  all_goals (unfold QH at hc;cases hc)
theorem zrq (hm:P.follows .mixedOrders=true){C:Hd}(hC:∀ f a h K,C f a h K->MC P gl f a h K){n id:Nat}{c:ACode}{s:St}{K:Ex->St->Prop}{a:Act}{w:World}(hc:QH P nt n ops c=true)(H:AW C gl c s K)
 (R:Rel gl nt M0 h0 μ0 s.env s.h s.esc a { w with drawn:=w.drawn+1 } μ) (fin:∀(keep:Option (List Nat)) e h x a w μ,K .normal ⟨EA keep e,h,x⟩->Rel gl nt M0 h0 μ0 e h x a w μ->Q .normal a w):(Code.region id ops true).wp P Q a w:=by
 refine wp_region_draw λt=>?_
 simp only[Region.schedule,hm,Bool.true_or,if_true];exact z4b hC n ops c s K a _ hc H R fin _ (zcg ops ops.size t _)
def z59 (P:Program)(nt:Nat)(ops:Array Oper)(t:Opd)(a b:ACode):Bool:=QH P nt 9 ops (.condu t a b)
end
section
variable {h h':aA} {μ μ':Mu} {w w':World} {P:Program} {M M':Mem}
variable {gl:Nat->Option PV} {nt:Nat} {M0:Mem} {h0:aA} {μ0:Mu} {e:List (Nat × AV)} {x:Esc} {a:Act}
theorem zmx (H:HeapRel h μ w){id:Nat}{o:Obj}(ho:h[id]?=some o):o.top<=h.length:=by
 obtain⟨m,hm,hO⟩:=iG H ho;cases o with
 | box cs=>
  obtain⟨b,c,rfl,hb,hc⟩:=hO;exact z5q H hc
 | row sh xs fz=>simp [Obj.top]
 | amap es c=>
  obtain⟨b,n,ces,rfl,h1,h2,_,h3⟩:=hO;refine sK (λj y hy=>?_)
  simp only[List.getElem?_map,Option.map_eq_some_iff]at hy;obtain⟨en,he,rfl⟩:=hy;have hj:j<ces.size:=by rw[h2];exact IA he
  exact(h3 j en ces[j] he (Array.getElem?_eq_getElem hj)).2.2.1.top_le
 | iter mm s seen l=>
  obtain⟨b,n,rfl,h1⟩:=hO;cases mm with
  | none=>simp [Obj.top]
  | some i=>
   obtain⟨bm,nm,es,c,h2,h3,h4⟩:=h1;simp only[Obj.top];exact IA h3
 | arow sh cs=>
  obtain⟨h1,h2⟩:=hO;cases m with
  | none=>subst h2;simp [Obj.top,AV.tops]
  | some m=>
   obtain⟨b,n⟩:=m;obtain⟨c,c1,c2,c3⟩:=h2;refine sK (λj y hy=>?_)
   obtain⟨v,_,q⟩:=c3 j y hy;exact q.top_le
theorem z3Z (H:HeapRel h μ w)(id:Nat):sF h id<=h.length:=by
 unfold sF;split
 ·exact zmx H ‹_›
 ·omega
theorem zep (y:Esc)(n:Nat):n<=PC y n:=by
 unfold PC;induction y generalizing n with
 | nil=>simp
 | cons p r ih=>
  simp only[List.foldl_cons];split
  ·exact Nat.le_trans (by omega) (ih _)
  ·exact ih _
theorem sR:∀ (k:Nat) (y:Esc) (n:Nat),n<=vB k y n
 | 0,y,n=>Nat.le_refl _
 | k+1,y,n=>Nat.le_trans (zep y n) (sR k y _)
theorem Evo.take {M'':Mem}(E:Evo M h μ M' h' μ'){n:Nat}(hn:h.length<=n)(L:M'.le M''):Evo M h μ M'' (h'.take n) (μ'.take n):=by
 refine⟨⟨λb o v hv=>L.c _ _ _ (E.le.c _ _ _ hv),λb o hv=>L.b _ _ (E.le.b _ _ hv),L.z.trans E.le.z,λb t h=>L.s _ _ (E.le.s _ _ h)⟩,by have:=E.len;simp;omega,λid o m h1 h2=>?_⟩
 obtain⟨o',m',h3,h4,h5⟩:=E.obj id o m h1 h2;have hi:id<n:=Nat.lt_of_lt_of_le (IA h1) hn
 exact⟨o',m',by rw[List.getElem?_take,if_pos hi];exact h3,by rw[List.getElem?_take,if_pos hi];exact h4,h5⟩
theorem PW {hs:aA}{μs:Mu}{Ms:Mem}{es:Esc}(Hs:∀ id,sF hs id<=hs.length)(H:HeapRel h μ w)(E:Evo Ms hs μs (imm h μ w) h μ)(I:rA hs h es){n:Nat}(hn:hs.length<=n)(hc:xB es n=true) :
 HeapRel (h.take n) (μ.take n) w/\(imm h μ w).le (imm (h.take n) (μ.take n) w)/\Evo Ms hs μs (imm (h.take n) (μ.take n) w) (h.take n) (μ.take n)/\rA hs (h.take n) (es.filter λy=>decide (y.1<n)):=by
 have ht:∀id o,h[id]?=some o->id<n->o.top<=n:=by
  intro id o ho hi;have h1:=I id o ho
  have h2:=Hs id
  have h3:=z6D hc hi
  omega
 obtain⟨H1,L⟩:=H.take n ht;refine⟨H1,L,E.take hn L,λid o ho=>?_⟩
 rw[List.getElem?_take]at ho;split at ho
 ·rename_i hi
  rw[z6E hi];exact I id o ho
 ·cases ho
theorem zdm (n:Nat)(e:List (Nat × AV))(t:Nat):eA (yE n e) t=if(eA e t).top<=n then eA e t else .und:=by
 induction e with
 | nil=>simp [yE,eA,AV.top]
 | cons y r ih=>
  simp only[yE,List.map_cons,eA]at ih ⊢;split
  ·rfl
  ·exact ih
theorem gR (keep:Option (List Nat))(e:List (Nat × AV))(t:Nat):eA (EA keep e) t=eA e t∨eA (EA keep e) t = .und:=by
 cases keep with
 | none=>exact .inl rfl
 | some l=>
  simp only[EA];induction l with
  | nil=>exact .inr rfl
  | cons k r ih=>
   simp only[List.map_cons,eA];split
   ·rename_i hk;subst hk;exact .inl rfl
   ·exact ih
theorem zro {x0:Esc}{s:St}{hs:aA}{μs:Mu}{ws:World}{e0:List (Nat × AV)}{a0:Act}(R:Rel gl nt M0 h0 μ0 e0 hs x0 a0 ws μs)(R':Rel gl nt (imm hs μs ws) hs μs s.env s.h s.esc a w μ) :
 ∃μ',Rel gl nt M0 h0 μ0 (mD hs.length x0 s).env (mD hs.length x0 s).h (mD hs.length x0 s).esc a w μ':=by
 unfold mD;dsimp only;split
 ·rename_i hc
  have hn:=sR s.esc.length s.esc hs.length
  generalize vB s.esc.length s.esc hs.length=n at hc hn;obtain⟨q1,q2,q3,q4⟩:=PW (λid=>z3Z R.heap id) R'.heap R'.evo R'.esc hn hc
  refine⟨μ.take n,q1,λt=>?_,R'.glob.mono q2,R.evo.trans q3,rA.trans R.esc q4,R'.size,R'.defers⟩
  dsimp only;rw[zdm];split
  ·exact(R'.env t).take q2 ‹_›
  ·exact .und _
 ·exact⟨μ,R'.heap,R'.env,R'.glob,R.evo.trans R'.evo,rA.trans R.esc R'.esc,R'.size,R'.defers⟩
theorem Rel.drew (R:Rel gl nt M0 h0 μ0 e h x a w μ)(n:Nat):Rel gl nt M0 h0 μ0 e h x a { w with drawn:=n } μ:=by
 obtain⟨h1,h2⟩:=R.heap.ext (WExt.drew w n);exact⟨h1,λt=>(R.env t).evo h2,R.glob.mono h2.le,R.evo.trans h2,R.esc,R.size,R.defers⟩
def dC (P:Program)(nt:Nat):ACode->Code->Bool
 | .skip,c=>match c with
  | .skip=>true
  | _=>false
 | .reg aops _,c=>match c with
  | .region _ ops false=>UG P nt ops aops 0
  | _=>false
 | .draw ds _,c=>match c with
  | .region _ ops true=>jR P nt ops ds
  | _=>false
 | .seq a b,c=>match c with
  | .seq a' b'=>dC P nt a a'&&dC P nt b b'
  | _=>false
 | .cond t a b,c=>match c with
  | .cond t' a' b'=>JA t t'&&dC P nt a a'&&dC P nt b b'
  | _=>false
 | .det b,c=>dC P nt b c
 | .condu t a b,c=>match c with
  | .cond t' a' b'=>JA t t'&&dC P nt a a'&&dC P nt b b'
  | .region _ ops true=>z59 P nt ops t a b
  | _=>false
 | .block i b,c=>match c with
  | .block i' b'=>i==i'&&dC P nt b b'
  | _=>false
 | .loop b,c=>match c with
  | .loop b'=>dC P nt b b'
  | _=>false
 | .scope b,c=>dC P nt b c
 | .pr _ b,c=>dC P nt b c
 | .exit i,c=>match c with
  | .exit i'=>i==i'
  | _=>false
 | .ret,c=>match c with
  | .ret=>true
  | _=>false
 | .bad,_=>true
def Ex.toExit:Ex->Exit
 | .normal=>.normal
 | .exit i=>.exit i
 | .ret=>.ret
theorem zdu {M:Mem}{h:aA}{μ:Mu}{x:Value}(R:RAV M h μ .anyb x):∃b,x = .bool b:=by
 cases R with|anyb b=>exact⟨b,rfl⟩
theorem zE (hm:P.follows .mixedOrders=true){C:Hd}(hC:∀ f a h K,C f a h K->MC P gl f a h K):∀(c:ACode) {k:Code},dC P nt c k=true->∀{s:St} {K:Ex->St->Prop} {M0:Mem} {h0:aA} {μ0:Mu} {a:Act} {w:World} {μ:Mu} {Q:Exit->Act->World->Prop},
 AW C gl c s K->Rel gl nt M0 h0 μ0 s.env s.h s.esc a w μ->(∀ex s' a' w' μ',K ex s'->Rel gl nt M0 h0 μ0 s'.env s'.h s'.esc a' w' μ'->Q ex.toExit a' w')->k.wp P Q a w
 | .skip,k,hc,s,K,M0,h0,μ0,a,w,μ,Q,H,R,hQ=>by
  simp only[dC]at hc;split at hc
  ·exact wp_skip (hQ .normal _ _ _ _ H R)
  ·cases hc
 | .reg aops keep,k,hc,s,K,M0,h0,μ0,a,w,μ,Q,H,R,hQ=>by
  simp only[dC]at hc;split at hc
  ·rename_i id ops
   refine wp_region ?_;have:=JG hC aops 0 (Q:=Q) hc H R (λe h x a w μ hk R'=>hQ .normal ⟨EA keep e,h,x⟩ a w μ hk ⟨R'.heap,λt=>?_,R'.glob,R'.evo,R'.esc,R'.size,R'.defers⟩)
   ·rwa [Nat.sub_zero,<-List.range_eq_range']at this
   ·rcases gR keep e t with q|q
    ·rw[q];exact R'.env t
    ·rw[q];exact .und _
  ·cases hc
 | .draw ds keep,k,hc,s,K,M0,h0,μ0,a,w,μ,Q,H,R,hQ=>by
  simp only[dC]at hc;split at hc
  ·rename_i id ops
   refine wp_region_any hm ?_;exact z6h hC (Q:=Q) hc H (R.drew _) (λe h x a w μ hk R'=>hQ .normal ⟨EA keep e,h,x⟩ a w μ hk ⟨R'.heap,λt=>(by
    rcases gR keep e t with q|q
    ·rw[q];exact R'.env t
    ·rw[q];exact .und _),R'.glob,R'.evo,R'.esc,R'.size,R'.defers⟩)
  ·cases hc
 | .seq c1 c2,k,hc,s,K,M0,h0,μ0,a,w,μ,Q,H,R,hQ=>by
  simp only[dC]at hc;split at hc
  ·simp only[Bool.and_eq_true]at hc
   refine wp_seq (zE hm hC c1 hc.1 H R (λex s' a' w' μ' hk R'=>?_))
   cases ex with
   | normal=>exact zE hm hC c2 hc.2 hk R' hQ
   | exit i=>exact hQ (.exit i) _ _ _ _ hk R'
   | ret=>exact hQ .ret _ _ _ _ hk R'
  ·cases hc
 | .det c,k,hc,s,K,M0,h0,μ0,a,w,μ,Q,H,R,hQ=>by
  simp only[dC]at hc;exact zE hm hC c hc H R hQ
 | .condu t c1 c2,k,hc,s,K,M0,h0,μ0,a,w,μ,Q,H,R,hQ=>by
  simp only[dC]at hc;split at hc
  ·simp only[Bool.and_eq_true]at hc
   unfold AW at H;split at H
   ·rename_i b hb
    have ht:=R.opds _ _ hc.1.1
    rw[hb]at ht;refine wp_cond ht.p_bool ?_;cases b with
    | true=>exact zE hm hC c1 hc.1.2 H R hQ
    | false=>exact zE hm hC c2 hc.2 H R hQ
   ·rename_i hb
    have ht:=R.opds _ _ hc.1.1
    rw[hb]at ht;obtain⟨g1,g2⟩:=H;obtain⟨b,hb'⟩:=zdu ht;refine wp_cond hb' ?_;cases b with
    | true=>exact zE hm hC c1 hc.1.2 g1 R hQ
    | false=>exact zE hm hC c2 hc.2 g2 R hQ
   ·exact H.elim
  ·rename_i id ops
   unfold z59 at hc;exact zrq hm hC (Q:=Q) hc H (R.drew _) λkeep e h x a w μ hk R'=>hQ .normal ⟨EA keep e,h,x⟩ a w μ hk ⟨R'.heap,λt=>(by
    rcases gR keep e t with q|q
    ·rw[q];exact R'.env t
    ·rw[q];exact .und _),R'.glob,R'.evo,R'.esc,R'.size,R'.defers⟩
  ·cases hc
 | .cond t c1 c2,k,hc,s,K,M0,h0,μ0,a,w,μ,Q,H,R,hQ=>by
  simp only[dC]at hc;split at hc
  ·simp only[Bool.and_eq_true]at hc
   unfold AW at H;split at H
   ·rename_i b hb
    have ht:=R.opds _ _ hc.1.1
    rw[hb]at ht;refine wp_cond ht.p_bool ?_;cases b with
    | true=>exact zE hm hC c1 hc.1.2 H R hQ
    | false=>exact zE hm hC c2 hc.2 H R hQ
   ·exact H.elim
  ·cases hc
 | .block i c,k,hc,s,K,M0,h0,μ0,a,w,μ,Q,H,R,hQ=>by
  simp only[dC]at hc;split at hc
  ·simp only[Bool.and_eq_true,beq_iff_eq]at hc
   obtain⟨rfl,hc⟩:=hc;refine wp_block (zE hm hC c hc H R (λex s' a' w' μ' hk R'=>?_))
   cases ex with
   | normal=>exact hQ .normal _ _ _ _ hk R'
   | exit j=>
    simp only[Ex.toExit,Exit.inBlock];dsimp only at hk;split
    ·rename_i hj;rw[if_pos hj]at hk;exact hQ .normal _ _ _ _ hk R'
    ·rename_i hj;rw[if_neg hj]at hk;exact hQ (.exit j) _ _ _ _ hk R'
   | ret=>exact hQ .ret _ _ _ _ hk R'
  ·cases hc
 | .loop c,k,hc,s,K,M0,h0,μ0,a,w,μ,Q,H,R,hQ=>by
  simp only[dC]at hc;split at hc
  ·rename_i b'
   intro b k cs;have key:∀(s:St),ALoop (AW C gl c) K s->∀(a:Act) (w:World) (μ:Mu),Rel gl nt M0 h0 μ0 s.env s.h s.esc a w μ ->
    ∃e a' w',Q e a' w'/\Arrives P (lone (b.at a (.code b' :: .inLoop b'::k)) cs w) b k cs e a' w':=by
    intro s H;induction H with
    | mk s T hT hn he hr ih=>
     intro a w μ R;obtain⟨e,a1,w1,hq,harr⟩:=zE hm hC c hc (Q:=λe a' w'=>match e with
      | .normal=>∃s' μ',T .normal s'/\Rel gl nt M0 h0 μ0 s'.env s'.h s'.esc a' w' μ'
      | e=>Q e a' w') hT R (λex s' a' w' μ' hk R'=>by
       cases ex with
       | normal=>exact⟨s',μ',hk,R'⟩
       | exit i=>exact hQ (.exit i) _ _ _ _ (he _ _ hk) R'
       | ret=>exact hQ .ret _ _ _ _ (hr _ hk) R') b (.inLoop b'::k) cs
     cases e with
     | normal=>
      obtain⟨s',μ',hk,R'⟩:=hq;obtain⟨e2,a2,w2,hq2,harr2⟩:=ih s' hk a1 w1 μ' R';exact⟨e2,a2,w2,hq2,.of_steps (Steps.trans harr (.one step_inLoop)) harr2⟩
     | exit id=>exact⟨_,a1,w1,hq,.pass (x:=.inLoop b') rfl (λ_ _=>.inl (by simp)) harr⟩
     | goto l=>exact⟨_,a1,w1,hq,.pass (x:=.inLoop b') rfl (λ_ _=>.inl (by simp)) harr⟩
     | ret=>exact⟨_,a1,w1,hq,.pass (x:=.inLoop b') rfl (λ_ _=>.inl (by simp)) harr⟩
     | panic ch=>exact⟨_,a1,w1,hq,.pass (x:=.inLoop b') rfl (λ_ _=>.inl (by simp)) harr⟩
     | outgrown=>exact⟨_,a1,w1,hq,.pass (x:=.inLoop b') rfl (λ_ _=>.inl (by simp)) harr⟩
   obtain⟨e,a',w',hq,harr⟩:=key s H a w μ R;exact⟨e,a',w',hq,.of_steps (.one step_loop) harr⟩
  ·cases hc
 | .scope c,k,hc,s,K,M0,h0,μ0,a,w,μ,Q,H,R,hQ=>by
  simp only[dC]at hc;refine zE hm hC c hc (M0:=imm s.h μ w) (h0:=s.h) (μ0:=μ) H ⟨R.heap,R.env,R.glob,Evo.refl _ _ _,rA.refl _ _,R.size,R.defers⟩ (λex s' a' w' μ' hk R'=>?_)
  obtain⟨μ'',R''⟩:=zro R R';exact hQ ex _ _ _ _ hk R''
 | .pr l c,k,hc,s,K,M0,h0,μ0,a,w,μ,Q,H,R,hQ=>by
  simp only[dC]at hc;refine zE hm hC c hc H ⟨R.heap,λt=>?_,R.glob,R.evo,R.esc,R.size,R.defers⟩ hQ
  dsimp only;rcases gR (some l) s.env t with q|q
  ·rw[q];exact R.env t
  ·rw[q];exact .und _
 | .exit i,k,hc,s,K,M0,h0,μ0,a,w,μ,Q,H,R,hQ=>by
  simp only[dC]at hc;split at hc
  ·simp only[beq_iff_eq]at hc
   subst hc;exact wp_exit (hQ (.exit i) _ _ _ _ H R)
  ·cases hc
 | .ret,k,hc,s,K,M0,h0,μ0,a,w,μ,Q,H,R,hQ=>by
  simp only[dC]at hc;split at hc
  ·exact wp_ret (hQ .ret _ _ _ _ H R)
  ·cases hc
 | .bad,k,hc,s,K,M0,h0,μ0,a,w,μ,Q,H,R,hQ=>H.elim
end
section
variable {h h':aA} {μ μ':Mu} {w w':World} {P:Program} {M M':Mem}
variable {gl:Nat->Option PV} {nt:Nat} {M0:Mem} {h0:aA} {μ0:Mu} {e:List (Nat × AV)} {x:Esc} {a:Act}
def DD (P:Program):List ARes->List ResultVar->Bool
 | [],[]=>true
 | .t n::r,.tmp m::s=>n==m&&DD P r s
 | .o n::r,.tmp m::s=>n==m&&DD P r s
 | .cell n sh::r,.cell m t::s=>n==m&&kB P t==some sh&&DD P r s
 | _,_=>false
def dN (tmps:Array Value):ResultVar->Sem Value
 | .tmp t=>pure (tmps.getD t undef)
 | .cell a t=>do loadVar t (<-asAddr (tmps.getD a undef))
theorem nW {s:St}(H:HeapRel s.h μ w)(he:∀ t,RAV (imm s.h μ w) s.h μ (eA s.env t) (a.tmps.getD t undef)):∀{rs:List ARes} {qs:List ResultVar} {vs:List AV},DD P rs qs=true->pC s rs=some vs ->
 ∃us,(qs.mapM (dN a.tmps)).run P w = .ok us w/\vs.length=us.length/\∀(j:Nat) (y:AV) (v:Value),vs[j]?=some y->us[j]?=some v->RAV (imm s.h μ w) s.h μ y v
 | [],[],vs,_,hv=>by
  simp [pC]at hv;subst hv;exact⟨[],by simp,rfl,λj y v h1 h2=>by simp at h1⟩
 | [],_::_,_,hc,_=>by simp [DD]at hc
 | .t n::r,[],_,hc,_=>by simp [DD]at hc
 | .o n::r,[],_,hc,_=>by simp [DD]at hc
 | .o n::r,.cell _ _::q,_,hc,_=>by simp [DD]at hc
 | .cell n sh::r,[],_,hc,_=>by simp [DD]at hc
 | .t n::r,.cell _ _::q,_,hc,_=>by simp [DD]at hc
 | .cell n sh::r,.tmp _::q,_,hc,_=>by simp [DD]at hc
 | .t n::r,.tmp m::q,vs,hc,hv=>by
  simp only[DD,Bool.and_eq_true,beq_iff_eq]at hc;obtain⟨rfl,hc⟩:=hc;simp only[pC,PF]at hv;simp only[Option.map_eq_some_iff]at hv;obtain⟨l,hl,rfl⟩:=hv;obtain⟨us,h1,h2,h3⟩:=nW H he hc hl;refine⟨a.tmps.getD n undef::us,by simp [dN,h1],by simp [h2],λj y v hy hv=>?_⟩
  cases j with
  | zero=>simp at hy hv;subst hy;subst hv;simpa using he n
  | succ j=>exact h3 j y v (by simpa using hy) (by simpa using hv)
 | .o n::r,.tmp m::q,vs,hc,hv=>by
  simp only[DD,Bool.and_eq_true,beq_iff_eq]at hc;obtain⟨rfl,hc⟩:=hc;simp only[pC,PF]at hv;simp only[Option.map_eq_some_iff]at hv;obtain⟨l,hl,rfl⟩:=hv;obtain⟨us,h1,h2,h3⟩:=nW H he hc hl;refine⟨a.tmps.getD n undef::us,by simp [dN,h1],by simp [h2],λj y v hy hv=>?_⟩
  cases j with
  | zero=>simp at hy hv;subst hy;subst hv;simpa using he n
  | succ j=>exact h3 j y v (by simpa using hy) (by simpa using hv)
 | .cell n sh::r,.cell m t::q,vs,hc,hv=>by
  simp only[DD,Bool.and_eq_true,beq_iff_eq]at hc;obtain⟨⟨rfl,hs⟩,hc⟩:=hc;simp only[pC]at hv;split at hv
  ·rename_i u hu
   simp only[Option.map_eq_some_iff]at hv;obtain⟨l,hl,rfl⟩:=hv;obtain⟨us,h1,h2,h3⟩:=nW H he hc hl;simp only[PF]at hu;split at hu
   ·rename_i id off hr
    split at hu
    ·rename_i cs ho
     have hR:=he n
     rw[hr]at hR;generalize hz:a.tmps.getD n undef=z at hR;cases hR with|ref _ _ b k cs' ho' hm=>
     obtain⟨b',c,hm',hb,hcell⟩:=H.obj _ _ _ ho hm;injection hm' with hm'
     injection hm' with e1 e2
     subst e1;obtain⟨c1,c2⟩:=zR (M:=imm s.h μ w) (h:=s.h) (μ:=μ) (f:=λj=>(c[j]?).getD undef) hu (λj x hx=>by obtain⟨_,v,q1,q2⟩:=hcell j x hx;simpa [q1] using q2)
     have hload:(loadVar t ⟨b,off,none⟩).run P w = .ok (yD sh λj=>(c[off+j]?).getD undef) w:=by
      refine zac hs (λj hj=>?_)
      rw[SD hb];have hlt:off+j<c.size:=by rw[hb.1];have:=c1;omega
      simp [hlt]
     refine⟨(yD sh λj=>(c[off+j]?).getD undef)::us,?_,by simp [h2],λj y v hy hv=>?_⟩
     ·simp only[List.mapM_cons,Sem.run_bind,dN,hz,asAddr]
      simp [hload,h1]
     ·cases j with
      | zero=>simp at hy hv;subst hy;subst hv;exact c2
      | succ j=>exact h3 j y v (by simpa using hy) (by simpa using hv)
    ·cases hu
   ·cases hu
  ·cases hv
theorem z9M {fn:Func}{s:St}(H:HeapRel s.h μ w)(he:∀ t,RAV (imm s.h μ w) s.h μ (eA s.env t) (a.tmps.getD t undef)){rs:List ARes}{vs:List AV}(hc:DD P rs fn.results.toList=true)(hv:pC s rs=some vs) :
 ∃u,(results fn a.tmps).run P w = .ok u w/\RAV (imm s.h μ w) s.h μ (XA vs) u:=by
 obtain⟨us,h1,h2,h3⟩:=nW H he hc hv;have hm:(fn.results.mapM (dN a.tmps)).run P w = .ok us.toArray w:=by
  rw[Array.mapM_eq_mapM_toList];simp [h1]
 refine⟨if hz:us.toArray.size=1 then us.toArray[0] else .tuple us.toArray,?_,?_⟩
 ·unfold results
  rw[Sem.run_bind];show(Sem.run P (fn.results.mapM (dN a.tmps)) w).andThen _=_
  rw[hm];rfl
 ·match vs,us,h2,h3 with
  | [v],[u],_,h3=>exact h3 0 v u rfl rfl
  | [],[],_,h3=>exact .tup [] [] rfl (λj y v h1 h2=>by simp at h1)
  | a::b::r,c::d::q,h2,h3=>exact .tup _ (c::d::q) h2 h3
theorem z9t (H:HeapRel h μ w){n:Nat}(L:(imm h μ w).le (imm (h.take n) (μ.take n) w)){id g off len:Nat}{x:Value}{sh:Sh}{xs:List PV}(R:RAV (imm h μ w) h μ (.own id g off len) x)(hr:rd h (.own id g off len)=some (sh,xs))
 (hn:n<=id):RPV (imm (h.take n) (μ.take n) w) (.sl sh xs) x:=by
 obtain⟨ys,fz,ho,hc1,hc2,hr⟩:=z3v hr;obtain⟨_,g2,a,cap,rfl,g3,g4⟩:=tH H R ho hc1;have hlen:xs.length=len:=by rw[hr];exact TW hc2
 by_cases hne:xs=[]
 ·have hl0:len=0:=by rw[<-hlen,hne];rfl
  rw[hne,hl0];exact .nils _ _ _
 ·have hpos:0<xs.length:=List.length_pos_iff.2 hne
  obtain⟨b,m,c,hm,ha,hB,hn1,hn2,hcells⟩:=g4 (by omega)
  have he:∀x∈xs,x.cells.length=gA sh:=λx hx=>uC (g2 x (WI (hr ▸ hx)))
  have hcell:∀(j:Nat) (y:PV),(xs.flatMap PV.cells)[j]?=some y->∃v,c[off*gA sh+j]?=some v/\RPV (imm h μ w) y v:=by
   intro j y hy;obtain⟨x,h5,h6,h8,h7⟩:=mH he hy;rw[hr]at h5;have h9:=SW h5
   have h10:=hcells _ _ x y h9.2 h6
   rw[show(off+j / gA sh)*gA sh+j%gA sh=off*gA sh+j by rw[Nat.add_mul];omega]at h10
   exact h10
  subst ha;have key:RPV (imm (h.take n) (μ.take n) w) (.sl sh xs) (.slice (some ⟨b,off*gA sh,none⟩) xs.length cap):=by
   refine .sl sh xs b (off*gA sh) cap (λj=>(c[off*gA sh+j]?).getD undef) hne (by omega) (λx hx=>g2 x (WI (hr ▸ hx))) (λj y hy=>?_) (λj y hy=>?_)
   ·obtain⟨v,h5,h6⟩:=hcell j y hy
    refine nE.2 ⟨?_,by rw[SD hB,h5];simp [h5]⟩
    rintro⟨i,n',h8,h9⟩
    rw[List.getElem?_take]at h8;split at h8
    ·have:=H.distinct i id b n' m h8 hm
     omega
    ·cases h8
   ·obtain⟨v,h5,h6⟩:=hcell j y hy
    have:(c[off*gA sh+j]?).getD undef=v:=by simp [h5]
    simp only[this];exact h6.mono L
  rwa [hlen]at key
theorem z9G (H:HeapRel h μ w){n:Nat}(L:(imm h μ w).le (imm (h.take n) (μ.take n) w)):∀(cs:List AV) {vs:List PV},(∀x∈cs,x.sc=true)->uH n h cs=some vs ->
 vs.length=cs.length/\(∀x∈vs,x.sc=true)/\∀(j:Nat) (y:AV) (z:PV) (v:Value),cs[j]?=some y->vs[j]?=some z->RAV (imm h μ w) h μ y v->RPV (imm (h.take n) (μ.take n) w) z v
 | [],vs,_,e=>by
  simp [uH]at e;subst e;exact⟨rfl,by simp,λj y z v hy=>by simp at hy⟩
 | a::r,vs,hs,e=>by
  simp only[uH]at e;split at e;case h_2=>cases e
  rename_i x hx;simp only[Option.map_eq_some_iff]at e;obtain⟨xs,h1,rfl⟩:=e;obtain⟨q1,q2,q3⟩:=z9G H L r (λx hx=>hs x (by simp [hx])) h1
  have hsa:=hs a (by simp)
  have key:x.sc=true/\∀v,RAV (imm h μ w) h μ a v->RPV (imm (h.take n) (μ.take n) w) x v:=by
   unfold rd0 at hx;split at hx
   ·injection hx with hx;subst hx;exact⟨hsa,λv R=>R.p_inv.mono L⟩
   ·injection hx with hx;subst hx;exact⟨rfl,λv R=>by obtain⟨a,rfl⟩:=nN R;exact .nils _ _ _⟩
   ·injection hx with hx;subst hx;exact⟨rfl,λv R=>by cases R;exact .nilp⟩
   ·split at hx
    ·rename_i hn
     simp only[Option.map_eq_some_iff]at hx;obtain⟨⟨sh,ys⟩,h1,rfl⟩:=hx;exact⟨rfl,λv R=>z9t H L R h1 hn⟩
    ·cases hx
   ·cases hx
  refine⟨by simp [q1],λy hy=>?_,λj y z v hy hz R=>?_⟩
  ·rcases List.mem_cons.1 hy with rfl|hy
   ·exact key.1
   ·exact q2 y hy
  ·cases j with
   | zero=>simp at hy hz;subst hy;subst hz;exact key.2 v R
   | succ j=>exact q3 j y z v (by simpa using hy) (by simpa using hz) R
theorem zd6 (H:HeapRel h μ w){n:Nat}(L:(imm h μ w).le (imm (h.take n) (μ.take n) w)){t id g:Nat}{x:Value}{u:AV}(R:RAV (imm h μ w) h μ (.bt 3 t id g) x)(hr:rdA n h id g=some u)
 (hn:n<=id):RAV (imm (h.take n) (μ.take n) w) (h.take n) (μ.take n) u x:=by
 unfold rdA at hr;split at hr;case h_2=>cases hr
 rename_i sh cs ho;split at hr;case isFalse=>cases hr
 rename_i hg;simp only[Option.map_eq_some_iff]at hr;obtain⟨vs,h1,rfl⟩:=hr;cases R with|bt3 _ _ _ a cap o m hl ho' hm hv=>
 rw[ho]at ho';injection ho' with ho'
 obtain⟨hv1,hv2⟩:=hv sh cs ho'.symm;have hO:=hv2 hg
 obtain⟨k1,k2⟩:=H.obj id _ m ho hm;obtain⟨q1,q2,q3⟩:=z9G H L cs k1 h1;obtain⟨s1,s2,s3⟩:=z5B (sh:=sh) (g:=g) (vs:=vs) (by rw[q1,hg]) q2
 by_cases hz:g=0
 ·subst hz
  have hxs:QC sh 0 vs=[]:=List.length_eq_zero_iff.1 s1
  rw[hxs];exact .p _ _ (.nils _ _ _)
 ·have hm2:∃b k c,m=some (b,k)/\a=some ⟨b,0,none⟩/\gB w b k c/\∀(j:Nat) (x:AV),cs[j]?=some x->∃v,c[j]?=some v/\RAV (imm h μ w) h μ x v:=by
   cases m with
   | none=>simp [vF]at hO;omega
   | some m=>
    obtain⟨b,k⟩:=m;obtain⟨c,c1,c2,c3⟩:=k2;rcases hO with q|q
    ·omega
    ·exact⟨b,k,c,rfl,by rw[q.1,Nat.zero_mul],c1,c3⟩
  obtain⟨b,k,c,rfl,rfl,hB,hcells⟩:=hm2;have he:∀x∈QC sh g vs,x.cells.length=gA sh:=λx hx=>uC (s2 x hx)
  have hcell:∀(j:Nat) (y:PV),((QC sh g vs).flatMap PV.cells)[j]?=some y->∃v,c[j]?=some v/\RPV (imm (h.take n) (μ.take n) w) y v:=by
   intro j y hy;obtain⟨x,h5,h6,h8,h7⟩:=mH he hy;have h9:=s3 _ _ x y h5 h6
   have hj:j / gA sh*gA sh+j%gA sh=j:=Nat.div_add_mod' j (gA sh)
   rw[hj]at h9;have hlt:j<cs.length:=by have:=IA h9;omega
   obtain⟨v,v1,v2⟩:=hcells j cs[j] (List.getElem?_eq_getElem hlt);exact⟨v,v1,q3 j cs[j] y v (List.getElem?_eq_getElem hlt) h9 v2⟩
  have key:RPV (imm (h.take n) (μ.take n) w) (.sl sh (QC sh g vs)) (.slice (some ⟨b,0,none⟩) (QC sh g vs).length cap):=by
   refine .sl sh _ b 0 cap (λj=>(c[j]?).getD undef) (λe=>hz (by rw[<-s1,e];rfl)) (by rw[s1];exact hl) s2 (λj y hy=>?_) (λj y hy=>?_)
   ·obtain⟨v,h5,h6⟩:=hcell j y hy
    refine nE.2 ⟨?_,by rw[SD hB,Nat.zero_add,h5];simp [h5]⟩
    rintro⟨i,n',h8,h9⟩
    rw[List.getElem?_take]at h8;split at h8
    ·have:=H.distinct i id b n' k h8 hm
     omega
    ·cases h8
   ·obtain⟨v,h5,h6⟩:=hcell j y hy
    have:(c[j]?).getD undef=v:=by simp [h5]
    simp only[this];exact h6
  rw[s1]at key;exact .p _ _ key
mutual
theorem z9L (H:HeapRel h μ w){n:Nat}(L:(imm h μ w).le (imm (h.take n) (μ.take n) w)):∀(v:AV) {u:AV} {x:Value},RAV (imm h μ w) h μ v x->VA n h v=some u->u.top<=n->RAV (imm (h.take n) (μ.take n) w) (h.take n) (μ.take n) u x
 | .own id g off len,u,x,R,hr,ht=>by
  simp only[VA]at hr;split at hr
  ·rename_i hn
   simp only[Option.map_eq_some_iff]at hr;obtain⟨⟨sh,xs⟩,h1,rfl⟩:=hr;exact .p _ _ (z9t H L R h1 hn)
  ·injection hr with hr;subst hr;exact R.take L ht
 | .sl0 sh,u,x,R,hr,ht=>by
  simp only[VA]at hr;injection hr with hr
  subst hr;obtain⟨a,rfl⟩:=nN R;exact .p _ _ (.nils _ _ _)
 | .agg cs,u,x,R,hr,ht=>by
  simp only[VA,Option.map_eq_some_iff]at hr;obtain⟨us,h1,rfl⟩:=hr;cases R with|agg _ xs hl hrr=>
  have htop:AV.tops us<=n:=by
   unfold mkA at ht;split at ht
   ·rename_i ps hp
    have:=vN hp;subst this;rw[zbb];omega
   ·simpa [AV.top] using ht
  obtain⟨q1,q2⟩:=z3y H L cs hl hrr h1 htop;exact z1y q1 q2
 | .tup cs,u,x,R,hr,ht=>by
  simp only[VA,Option.map_eq_some_iff]at hr;obtain⟨us,h1,rfl⟩:=hr;cases R with|tup _ xs hl hrr=>
  obtain⟨q1,q2⟩:=z3y H L cs hl hrr h1 (by simpa [AV.top] using ht)
  exact .tup us xs q1 q2
 | .p v,u,x,R,hr,ht=>by simp only[VA]at hr;injection hr with hr;subst hr;exact R.take L ht
 | .ref _ _,u,x,R,hr,ht=>by simp only[VA]at hr;injection hr with hr;subst hr;exact R.take L ht
 | .rref _ _ _ _,u,x,R,hr,ht=>by simp only[VA]at hr;injection hr with hr;subst hr;exact R.take L ht
 | .vp _,u,x,R,hr,ht=>by simp only[VA]at hr;injection hr with hr;subst hr;exact R.take L ht
 | .nilp,u,x,R,hr,ht=>by simp only[VA]at hr;injection hr with hr;subst hr;exact R.take L ht
 | .nilm,u,x,R,hr,ht=>by simp only[VA]at hr;injection hr with hr;subst hr;exact R.take L ht
 | .nilf,u,x,R,hr,ht=>by simp only[VA]at hr;injection hr with hr;subst hr;exact R.take L ht
 | .nili,u,x,R,hr,ht=>by simp only[VA]at hr;injection hr with hr;subst hr;exact R.take L ht
 | .ifc,u,x,R,hr,ht=>by simp only[VA]at hr;injection hr with hr;subst hr;exact R.take L ht
 | .mp _,u,x,R,hr,ht=>by simp only[VA]at hr;injection hr with hr;subst hr;exact R.take L ht
 | .it _,u,x,R,hr,ht=>by simp only[VA]at hr;injection hr with hr;subst hr;exact R.take L ht
 | .fn _ _,u,x,R,hr,ht=>by simp only[VA]at hr;injection hr with hr;subst hr;exact R.take L ht
 | .anyb,u,x,R,hr,ht=>by simp only[VA]at hr;injection hr with hr;subst hr;exact R.take L ht
 | .skp,u,x,R,hr,ht=>by simp only[VA]at hr;injection hr with hr;subst hr;exact R.take L ht
 | .und,u,x,R,hr,ht=>by simp only[VA]at hr;injection hr with hr;subst hr;exact R.take L ht
 | .anyp,u,x,R,hr,ht=>by simp only[VA]at hr;injection hr with hr;subst hr;exact R.take L ht
 | .bt k t id g,u,x,R,hr,ht=>by
  simp only[VA]at hr;cases hk:(Nat.beq k 3&&decide (n<=id)) with
  | false=>rw[hk]at hr;injection hr with hr;subst hr;exact R.take L ht
  | true=>
   rw[hk]at hr;simp only[Bool.and_eq_true,decide_eq_true_eq]at hk;have hk1:=Nat.eq_of_beq_eq_true hk.1
   subst hk1;exact zd6 H L R hr hk.2
theorem z3y (H:HeapRel h μ w){n:Nat}(L:(imm h μ w).le (imm (h.take n) (μ.take n) w)):∀(cs:List AV) {us:List AV} {xs:List Value},cs.length=xs.length ->
 (∀(j:Nat) (y:AV) (v:Value),cs[j]?=some y->xs[j]?=some v->RAV (imm h μ w) h μ y v)->wD n h cs=some us->AV.tops us<=n ->
 us.length=xs.length/\∀(j:Nat) (y:AV) (v:Value),us[j]?=some y->xs[j]?=some v->RAV (imm (h.take n) (μ.take n) w) (h.take n) (μ.take n) y v
 | [],us,xs,hl,hr,e,ht=>by
  simp only[wD]at e;injection e with e
  subst e;exact⟨hl,λj y v h1 _=>by simp at h1⟩
 | c::r,us,xs,hl,hr,e,ht=>by
  cases xs with
  | nil=>simp at hl
  | cons x xs=>
   simp only[wD]at e;split at e
   ·rename_i u hu
    simp only[Option.map_eq_some_iff]at e;obtain⟨l,h1,rfl⟩:=e;simp only[AV.tops]at ht;have k1:=z9L H L c (hr 0 c x rfl rfl) hu (by omega)
    obtain⟨k2,k3⟩:=z3y H L r (xs:=xs) (by simpa using hl) (λj y v h1 h2=>hr (j+1) y v (by simpa using h1) (by simpa using h2)) h1 (by omega)
    refine⟨by simp [k2],λj y v hy hv=>?_⟩
    cases j with
    | zero=>simp at hy hv;subst hy;subst hv;exact k1
    | succ j=>exact k3 j y v (by simpa using hy) (by simpa using hv)
   ·cases e
end
theorem OV:∀ (asv:List AV) {h:aA} {vs:List Value} {asv':List AV} {h1:aA},HeapRel h μ w->asv.length=vs.length ->
 (∀(j:Nat) (y:AV) (v:Value),asv[j]?=some y->vs[j]?=some v->RAV (imm h μ w) h μ y v)->nA h asv=some (asv',h1) ->
 NF h μ w h1/\asv'.length=vs.length/\∀(j:Nat) (y:AV) (v:Value),asv'[j]?=some y->vs[j]?=some v->RAV (imm h1 μ w) h1 μ y v
 | [],h,vs,asv',h1,H,hl,hr,e=>by
  simp only[nA,Option.some.injEq,Prod.mk.injEq]at e;obtain⟨rfl,rfl⟩:=e;exact⟨⟨H,Evo.refl _ _ _,rA.refl _ _⟩,hl,λj y v hy=>by simp at hy⟩
 | a::r,h,vs,asv',h1,H,hl,hr,e=>by
  cases vs with
  | nil=>simp at hl
  | cons x vs=>
   have step:∀{h2:aA} {u:AV},NF h μ w h2->RAV (imm h2 μ w) h2 μ u x->(nA h2 r).map (λy=>(u::y.1,y.2))=some (asv',h1) ->
    NF h μ w h1/\asv'.length=(x::vs).length/\∀(j:Nat) (y:AV) (v:Value),asv'[j]?=some y->(x::vs)[j]?=some v->RAV (imm h1 μ w) h1 μ y v:=by
    intro h2 u ⟨a1,a2,a3⟩ hu e;simp only[Option.map_eq_some_iff,Prod.mk.injEq]at e;obtain⟨⟨l,h3⟩,hp,rfl,rfl⟩:=e;obtain⟨⟨b1,b2,b3⟩,b4,b5⟩:=OV r a1 (vs:=vs) (by simpa using hl) (λj y v hy hv=>(hr (j+1) y v (by simpa using hy) (by simpa using hv)).evo a2) hp
    refine⟨⟨b1,a2.trans b2,by simpa using rA.trans a3 b3⟩,by simp [b4],λj y v hy hv=>?_⟩
    cases j with
    | zero=>simp at hy hv;subst hy;subst hv;exact hu.evo b2
    | succ j=>exact b5 j y v (by simpa using hy) (by simpa using hv)
   have h0:=hr 0 a x rfl rfl
   cases a;case own id g off len=>
    simp only[nA]at e;split at e
    ·rename_i z hz
     obtain⟨sh,xs⟩:=z;obtain⟨k1,k2,k3,k4⟩:=bQ H h0 hz;exact step ⟨k1,k2,k3⟩ (.p _ _ k4) e
    ·cases e
   case agg cs=>
    simp only[nA]at e;split at e
    ·rename_i pv h2 hp
     obtain⟨k1,k2⟩:=MV _ H h0 hp;exact step k1 (.p _ _ k2) e
    ·cases e
   case sl0 sh=>
    simp only[nA]at e;obtain⟨b,rfl⟩:=nN h0;exact step ⟨H,Evo.refl _ _ _,rA.refl _ _⟩ (.p _ _ (.nils _ _ _)) e
   all_goals
    simp only[nA]at e;exact step ⟨H,Evo.refl _ _ _,rA.refl _ _⟩ h0 e
end
end Go.Am
