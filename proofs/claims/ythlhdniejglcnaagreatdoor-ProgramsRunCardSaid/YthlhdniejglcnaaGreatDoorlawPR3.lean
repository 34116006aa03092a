/- Texts of the proof, laid together: AmA, AmU, Am19, Am20, AmD, AmE, AmF, AmG, AmH, Am21. -/
import Derived.Lib.UnsafeStr
import Derived.Lib.Builder
import Derived.Laws.Externs
import GoSem.Extern.Table
import Derived.Orders
import Derived.Test.YthlhdniejglcnaaGreatDoorlawPR2
set_option linter.all false
section
/- The abstract machine: rows whose elements name rows (made,put tov). -/
set_option linter.unusedSimpArgs false
set_option linter.unusedVariables false
namespace Go.Am
variable {h h':aA} {μ μ':Mu} {w w':World} {P:Program} {M M':Mem}
theorem zng (H:HeapRel h μ w)(sh:Sh) :
 HeapRel (h++[.arow sh []]) (μ++[none]) w∧Evo (imm h μ w) h μ (imm (h++[.arow sh []]) (μ++[none]) w) (h++[.arow sh []]) (μ++[none]):=
 H.push (WExt.refl w) _ _ (fun b' n e=>by cases e) (fun M' E=>⟨by simp,rfl⟩)
def chk9 (P:Program)(sh:Sh)(t:TypeId):Bool:=match P.underlying t with
 | some (.slice e)=>lB P e==some sh&&decide (gA sh≤2^24)&&decide (gA sh≠0)&&(match P.info? e with
  | some i=>(match i.zero with|some v=>v.cells.size==gA sh|none=>false)
  | none=>false)
 | _=>false
theorem zek {t:TypeId}{sh:Sh}{e9:Nat}(hsh:NC e9=sh)(hc:chk9 P sh t=true){a:AV}{x:Value}{cs:List AV}(H:HeapRel h μ w)(R:RAV (imm h μ w) h μ a x)(hv:a.cells=some cs)(hl:cs.length=gA sh) :
 lA P (do pure (.value (←Instr.buildSlice t 1 #[(0,x)]))) h μ w (.bt 3 e9 h.length 1) (h++[.arow sh cs]) []:=by
 unfold chk9 at hc;split at hc;case h_2=>cases hc
 rename_i el hu;simp only[Bool.and_eq_true,beq_iff_eq,decide_eq_true_eq]at hc;obtain⟨⟨⟨c1,c4⟩,c5⟩,c6⟩:=hc;split at c6;case h_2=>cases c6
 rename_i i hi;split at c6;case h_2=>cases c6
 rename_i zv hz;simp only[beq_iff_eq]at c6;obtain⟨s1,s2⟩:=NI R hv;obtain⟨c0,hc0⟩:∃c0:Array Value,c0=(Array.range (1*gA sh)).map (fun k=>zv.cells[k%zv.cells.size]!):=⟨_,rfl⟩
 have h0:c0.size=gA sh:=by rw[hc0];simp
 have hsz:0+x.cells.toList.length≤c0.size:=by rw[h0];simp [s1,hl]
 have hrun:(Instr.buildSlice t 1 #[(0,x)]).run P w = .ok (.slice (some ⟨w.heap.size,0,none⟩) 1 1) { w with heap:=w.heap.push (.cells (GB c0 0 x.cells.toList) el (0,0)) }:=by
  unfold Instr.buildSlice;rw[Sem.run_bind,MA hu];simp only[Result.andThen_ok,Sem.run_bind,TD c1];rw[if_neg (by omega),if_neg (by omega)]
  have hf:Instr.fill (fun i=>some (i*gA sh,gA sh)) c0 [(0,x)]=some (GB c0 0 x.cells.toList):=by
   simp only[Instr.fill];have hneg:¬((decide (x.cells.size≠gA sh)||decide (0*gA sh+x.cells.size>c0.size))=true):=by
    simp [s1,hl,h0]
   rw[if_neg hneg,z2T,Nat.zero_mul]
  simp only[Sem.run_bind,nR hi hz,Result.andThen_ok,Sem.run_pure,←hc0,hf,bG]
 have hB:iB { w with heap:=w.heap.push (.cells (GB c0 0 x.cells.toList) el (0,0)) } w.heap.size (GB c0 0 x.cells.toList).size (GB c0 0 x.cells.toList):=iB.push _ el
 have hsz2:(GB c0 0 x.cells.toList).size=gA sh:=by rw[dG,h0]
 obtain⟨n1,n2⟩:=H.push (WExt.push w (.cells (GB c0 0 x.cells.toList) el (0,0))) (.arow sh cs) (some (w.heap.size,gA sh)) (fun b' n e=>by injection e with e;injection e with e1 e2;subst e1;exact⟨Nat.le_refl _,by simp⟩)
  (fun M' E=>⟨fun y hy=>by obtain⟨j,hj⟩:=List.getElem?_of_mem hy;exact(s2 j y hj).1,_,hsz2 ▸ hB,by omega,fun j y hy=>by
   obtain⟨_,u,q1,q2⟩:=s2 j y hy;refine⟨u,?_,q2.evo E⟩;have hj:=JA hy
   rw[iH _ _ _ _ hsz,if_pos (by simp [s1];omega)]
   simpa using q1⟩)
 refine⟨_,_,_,xA hrun,.inl ⟨_,rfl,?_⟩,n1,n2,vA.push ?_⟩
 ·exact .bt3 e9 h.length 1 _ 1 (.arow sh cs) (some (w.heap.size,gA sh)) (Nat.le_refl _) (by simp) (by rw[←H.len];simp) (fun sh2 cs2 e=>by
   injection e with e1 e2
   subst e1;subst e2
   refine⟨by omega,fun _=>.inr ⟨by simp,by omega⟩⟩)
 ·have:=z0x hv
  have:=R.top_le;simp only[Obj.top];omega
theorem asrc (H:HeapRel h μ w){t id g:Nat}{x:Value}(R:RAV (imm h μ w) h μ (.bt 3 t id g) x){sh:Sh}{ds:List AV}(ho:h[id]?=some (.arow sh ds))(hg:g*gA sh=ds.length)(h0:gA sh≠0) :
 ∃a cap m,x = .slice a g cap∧g≤cap∧μ[id]?=some m∧pF m (gA sh) 0 a cap∧(Builtin.lenOf x).run P w = .ok g w ∧
  ∃c:Array Value,(∀k,(Builtin.firstCells (gA sh) g x).run P { w with drawn:=k } = .ok c { w with drawn:=k })∧c.size=ds.length∧∀(j:Nat) (y:AV),ds[j]?=some y→y.sc=true∧∃v,c[j]?=some v∧RAV (imm h μ w) h μ y v:=by
 cases R with|bt3 _ _ _ a cap ob m hl ho' hm hv=>
 rw[ho]at ho';injection ho' with ho'
 obtain⟨q1,q2⟩:=hv sh ds ho'.symm;have q3:=q2 hg
 refine⟨a,cap,m,rfl,hl,hm,q3,by simp [Builtin.lenOf],?_⟩
 obtain⟨k1,k2⟩:=H.obj id _ m ho hm;by_cases hz:g=0
 ·subst hz
  have hd:ds=[]:=by
   rw[Nat.zero_mul]at hg;exact List.length_eq_zero_iff.1 hg.symm
  subst hd;refine⟨#[],fun k=>?_,rfl,fun j y hy=>by simp at hy⟩
  cases a with
  | none=>simp [Builtin.firstCells]
  | some a=>simp [Builtin.firstCells,loadCells,loadCellsFrom]
 ·cases m with
  | none=>simp [pF]at q3;omega
  | some m=>
   obtain⟨b,n⟩:=m;obtain⟨c,c1,c2,c3⟩:=k2;have ha:a=some ⟨b,0,none⟩:=by
    rcases q3 with q3|q3
    ·omega
    ·rw[q3.1,Nat.zero_mul]
   subst ha;refine⟨((List.range (g*gA sh)).map fun j=>(c[j]?).getD undef).toArray,fun k=>?_,by simp [hg],fun j y hy=>?_⟩
   ·simp only[Builtin.firstCells]
    refine z5E (fun j hj=>?_)
    have hlt:j<c.size:=by rw[c1.1];omega
    have hB:iB { w with drawn:=k } b n c:=c1
    rw[ZD hB,Nat.zero_add];simp [hlt]
   ·obtain⟨v,v1,v2⟩:=c3 j y hy
    have hj:=JA hy
    exact⟨k1 y (List.mem_of_getElem? hy),v,by simp [hg,hj,v1],v2⟩
theorem zcj:∀ (a b:List AV),AV.tops (a++b)=max (AV.tops a) (AV.tops b)
 | [],b=>by simp [AV.tops]
 | x::a,b=>by simp only[List.cons_append,AV.tops,zcj a b];omega
theorem zdy {t u ty:TypeId}{e9:Nat}{sh:Sh}(hsh:NC e9=sh)(hc:RE P sh t u=true)(h0:gA sh≠0){s x:Value}{vs vx v:AV}{h1:aA}{e:Esc}(H:HeapRel h μ w)(Rs:RAV (imm h μ w) h μ vs s)(Rx:RAV (imm h μ w) h μ vx x)
 (he:apA sh h vs vx=some (v,h1,e)):lA P (do pure (.value (←Builtin.append_ #[t,u] ty #[s,x]))) h μ w v h1 e:=by
 unfold apA at he;split at he;case h_2=>cases he
 rename_i k tt id g k' tt' id' g';cases hk:(Nat.beq k 3&&Nat.beq k' 3) with
 | false=>rw[hk]at he;cases he
 | true=>
  rw[hk]at he;simp only[Bool.and_eq_true]at hk;have hk1:=Nat.eq_of_beq_eq_true hk.1
  have hk2:=Nat.eq_of_beq_eq_true hk.2
  subst hk1;subst hk2
  simp only[cond_true]at he;split at he;case h_2=>cases he
  rename_i rsh cs rsh' ds ho ho';split at he;case isFalse=>cases he
  rename_i hcond;obtain⟨rfl,rfl,hg,hg',hmax⟩:=hcond;simp only[Option.some.injEq,Prod.mk.injEq]at he;obtain⟨rfl,rfl,rfl⟩:=he;obtain⟨a,cap,m,rfl,hl,hm,hO,_,old,hok,holdn,hold⟩:=asrc (P:=P) H Rs ho hg h0;obtain⟨a',cap',m',rfl,hl',hm',hO',hlen',c,hck,hcn,hcc⟩:=asrc (P:=P) H Rx ho' hg' h0;have hmul:(g+g')*gA rsh'=cs.length+ds.length:=by rw[Nat.add_mul,hg,hg']
  have hesc:∀o:Obj,vA h (h.set id (.arow rsh' (cs++ds))) (bif decide (id<AV.tops ds) then [(id,AV.tops ds)] else []):=fun _=>by
   refine vA.set ho ?_;simp only[Obj.top,zcj];cases hd:decide (id<AV.tops ds) with
   | false=>simp at hd;simp only[cond_false,vC];omega
   | true=>simp only[cond_true,vC];simp;omega
  by_cases hroom:g+g'≤cap
  ·cases m with
   | none=>
    have hc0:cap=0:=hO
    have hg0:g=0:=by omega
    have hg0':g'=0:=by omega
    subst hg0;subst hg0'
    have hd0:ds=[]:=by rw[Nat.zero_mul]at hg';exact List.length_eq_zero_iff.1 hg'.symm
    have hcs0:cs=[]:=by rw[Nat.zero_mul]at hg;exact List.length_eq_zero_iff.1 hg.symm
    subst hd0;subst hcs0
    have hc00:c = #[]:=by apply Array.eq_empty_of_size_eq_zero;simpa using hcn
    subst hc00;have hrun:=jF (P:=P) (w:=w) (ty:=ty) (base:=a) (sLen:=0) (sCap:=cap) hc hlen' (hck w.drawn) hroom (w':=w) (by cases a <;> simp [storeCells])
    have hs:h.set id (.arow rsh' ([]++[]))=h:=dE ho
    rw[hs];exact⟨_,_,_,xA hrun,.inl ⟨_,rfl,by simpa using Rs⟩,H,Evo.refl _ _ _,vA.refl _ _⟩
   | some m=>
    obtain⟨b,n⟩:=m;obtain⟨k1,c1,hB,hn,hcell⟩:=H.obj id _ _ ho hm;by_cases hz:g'=0
    ·subst hz
     have hd0:ds=[]:=by rw[Nat.zero_mul]at hg';exact List.length_eq_zero_iff.1 hg'.symm
     subst hd0;have hc00:c = #[]:=by apply Array.eq_empty_of_size_eq_zero;simpa using hcn
     subst hc00;have hrun:=jF (P:=P) (w:=w) (ty:=ty) (base:=a) (sLen:=g) (sCap:=cap) hc hlen' (hck w.drawn) hroom (w':=w) (by cases a <;> simp [storeCells])
     have hs:h.set id (.arow rsh' (cs++[]))=h:=by rw[List.append_nil];exact dE ho
     rw[hs];exact⟨_,_,_,xA hrun,.inl ⟨_,rfl,by simpa using Rs⟩,H,Evo.refl _ _ _,vA.refl _ _⟩
    ·have hOa:a=some ⟨b,0,none⟩∧cap*gA rsh'≤n:=by
      rcases hO with q|q
      ·omega
      ·exact⟨by rw[q.1,Nat.zero_mul],by rw[←Nat.zero_add cap];exact q.2⟩
     obtain⟨rfl,hcapn⟩:=hOa;have hfit:(g+g')*gA rsh'≤n:=Nat.le_trans (Nat.mul_le_mul_right _ hroom) hcapn
     have hone:∀u∈c.toList,u.oneCell'=true:=fun u hu=>by
      obtain⟨j,hj⟩:=List.getElem?_of_mem hu;have hjl:j<ds.length:=by have:=JA hj;simp at this;omega
      obtain⟨q1,u',q2,q3⟩:=hcc j ds[j] (List.getElem?_eq_getElem hjl);rw[Array.getElem?_toList,q2]at hj;injection hj with hj
      subst hj;exact oR q3 q1
     obtain⟨E,lo,hi,g1,g2⟩:=z5G (P:=P) (o:=g*gA rsh') c.toList w c1 0 hB (by simp;omega) hone
     simp only[Nat.add_zero]at g2;have hlo:¬False→lo<hi→n≤lo:=by
      obtain⟨_,E',lo',hi'',q1,q2⟩:=hB;rw[g1]at q1;injection q1 with q1;injection q1 with _ _ q3;injection q3 with q3 q4;subst q3;subst q4;exact q2
     have hsz:g*gA rsh'+c.toList.length≤c1.size:=by rw[hB.1];simp;omega
     have hμ:μ.set id (some (b,n))=μ:=dE hm
     have key:=H.set (w':=zB w b (.cells (GB c1 (g*gA rsh') c.toList) E (lo,hi))) (o':=.arow rsh' (cs++ds)) (m':=some (b,n)) ho hm (.inl ⟨_,rfl,by simp,fun _=>rfl⟩)
      rfl (Nat.le_of_eq (xI _ _).symm) (fun b' _ hb'=>vI (fun e=>hb' n (by rw[e])))
      (fun b' n e=>.inl ⟨n,e⟩) (fun b' n' sh2 xs2 fz2 e1 e2=>by cases e2)
      (fun M' Ev=>by
       refine⟨fun y hy=>?_,GB c1 (g*gA rsh') c.toList,⟨by rw[dG,hB.1],E,lo,hi,JE g1,hlo⟩,by rw[List.length_append];omega,fun j y hy=>?_⟩
       ·rcases List.mem_append.1 hy with hy|hy
        ·exact k1 y hy
        ·obtain⟨j,hj⟩:=List.getElem?_of_mem hy
         exact(hcc j y hj).1
       ·rw[iH _ _ _ _ hsz]
        rcases Nat.lt_or_ge j cs.length with hj|hj
        ·rw[List.getElem?_append_left hj]at hy
         rw[if_neg (by omega)]
         obtain⟨u,p,q⟩:=hcell j y hy;exact⟨u,p,q.evo Ev⟩
        ·rw[List.getElem?_append_right hj]at hy
         have:=JA hy;rw[if_pos (by simp;omega)]
         obtain⟨_,u,p,q⟩:=hcc _ y hy;exact⟨u,by rw[Array.getElem?_toList,hg];exact p,q.evo Ev⟩) (fL g1)
     rw[hμ]at key;have hrun:=jF (P:=P) (ty:=ty) (base:=some ⟨b,0,none⟩) (sLen:=g) (sCap:=cap) hc hlen' (hck w.drawn) hroom (by simpa [GC] using g2)
     refine⟨_,_,_,xA hrun,.inl ⟨_,rfl,?_⟩,key.1,key.2,hesc (.box [])⟩;exact .bt3 tt id (g+g') _ cap _ _ hroom (kC ho) hm (fun sh2 cs2 e=>by
      injection e with e1 e2
      subst e1;subst e2
      exact⟨by rw[hmul,List.length_append];exact Nat.le_refl _,fun _=>.inr ⟨by simp,by simpa using hcapn⟩⟩)
  ·obtain⟨el,newCap,rest,r0,r1,r2,r3⟩:=zbe (P:=P) (w:=w) (ty:=ty) (base:=a) (sLen:=g) (sCap:=cap) hc hlen' hck (by omega) hmax hok
   have hbsz:(old++c++rest).size=newCap*gA rsh':=by
    simp only[Array.size_append,holdn,hcn,r2,Nat.sub_mul];have:=Nat.mul_le_mul_right (gA rsh') r1;omega
   have hB:iB { w with drawn:=w.drawn+1,heap:=w.heap.push (.cells (old++c++rest) el (0,0)) } w.heap.size (old++c++rest).size (old++c++rest):=⟨rfl,el,0,0,by simp,fun _ h=>by omega⟩
   have hfit:(g+g')*gA rsh'≤newCap*gA rsh':=Nat.mul_le_mul_right _ r1
   have key:=H.set (w':={ w with drawn:=w.drawn+1,heap:=w.heap.push (.cells (old++c++rest) el (0,0)) }) (o':=.arow rsh' (cs++ds)) (m':=some (w.heap.size,(old++c++rest).size)) ho hm
    (.inl ⟨_,rfl,by simp,fun he=>by
     exfalso;rw[List.length_append]at he;have:g'*gA rsh'=0:=by omega
     rcases Nat.mul_eq_zero.1 this with q|q
     ·subst q
      omega
     ·exact h0 q⟩)
    rfl (by simp) (fun b' hb' _=>by simp [Array.getElem?_push,Nat.ne_of_lt hb'])
    (fun b' n e=>by injection e with e;injection e with e1 e2;subst e1;exact .inr ⟨Nat.le_refl _,by simp⟩) (fun b' n' sh2 xs2 fz2 e1 e2=>by cases e2)
    (fun M' Ev=>by
     refine⟨fun y hy=>?_,_,hB,by rw[List.length_append,hbsz];omega,fun j y hy=>?_⟩
     ·rcases List.mem_append.1 hy with hy|hy
      ·obtain⟨j,hj⟩:=List.getElem?_of_mem hy
       exact(hold j y hj).1
      ·obtain⟨j,hj⟩:=List.getElem?_of_mem hy
       exact(hcc j y hj).1
     ·rcases Nat.lt_or_ge j cs.length with hj|hj
      ·rw[List.getElem?_append_left hj]at hy
       obtain⟨_,u,p,q⟩:=hold j y hy;refine⟨u,?_,q.evo Ev⟩;rw[Array.append_assoc,Array.getElem?_append_left (by omega)]
       exact p
      ·rw[List.getElem?_append_right hj]at hy
       have:=JA hy;obtain⟨_,u,p,q⟩:=hcc _ y hy;refine⟨u,?_,q.evo Ev⟩;rw[Array.append_assoc,Array.getElem?_append_right (by omega),Array.getElem?_append_left (by omega),holdn]
       exact p) (fun b' n' t' e ht=>by
        rw[eL (w:=w)]
        ·exact ht
        ·have:=eU ht
         simp [Array.getElem?_push,Nat.ne_of_lt this])
   refine⟨_,_,_,xA r3,.inl ⟨_,rfl,?_⟩,key.1,key.2,hesc (.box [])⟩;exact .bt3 tt id (g+g') _ newCap _ _ r1 (kC ho) (kC hm) (fun sh2 cs2 e=>by
    injection e with e1 e2
    subst e1;subst e2
    exact⟨by rw[hmul,List.length_append];exact Nat.le_refl _,fun _=>.inr ⟨by simp,by rw[hbsz];simp⟩⟩)
end Go.Am
end
section
/- The abstract machine: a strings.Builder's operations (rD) are sound. -/
set_option linter.unusedSimpArgs false
set_option linter.unusedVariables false
namespace Go.Am
variable {h h':aA} {μ μ':Mu} {w w':World} {P:Program} {M M':Mem}
def qK (P:Program)(t:TypeId):Bool:=match P.info? t with
 | some i=>i.size==2&&(match i.zero with|some v=>(match v.cells.toList with|[.pointer none,.slice none 0 0]=>true|_=>false)|none=>false)&&liesAt P P.depth t (2 / P.cellsOf t) 0 t 1
 | none=>false
def z0D (P:Program)(t s d:TypeId):Bool:=match P.underlying s with
 | some (.pointer t')=>t'==t&&(match P.underlying d with|some .unsafePointer=>true|_=>false)
 | some .unsafePointer=>match P.underlying d with
  | some (.pointer t')=>t'==t
  | _=>false
 | _=>false
def z07 (P:Program)(s:TypeId):Bool:=match P.underlying s with
 | some (.pointer t)=>(P.info? t).isSome
 | _=>false
def z08 (P:Program)(t s:TypeId):Bool:=match P.underlying s with
 | some (.pointer t')=>t'==t
 | _=>false
def z0B (P:Program)(t s:TypeId):Bool:=match P.underlying s with
 | some (.slice t')=>t'==t
 | _=>false
theorem zna {t te:TypeId}(hc:qK P t=true)(H:HeapRel h μ w) :
 lA P (do pure (.value (←Instr.alloc t true (.tuple #[])))) h μ w (.ref h.length 0) (h++[.box [.bt 0 t h.length 0,.bt 1 te (h.length+1) 0],.row none [] 0]) [(h.length,h.length+2)]:=by
 unfold qK at hc;split at hc;case h_2=>cases hc
 rename_i i hi;simp only[Bool.and_eq_true,beq_iff_eq]at hc;obtain⟨⟨c1,c2⟩,c3⟩:=hc;split at c2;case h_2=>cases c2
 rename_i v hv;split at c2;case h_2=>cases c2
 rename_i hcells;have hvc:v.cells = #[.pointer none,.slice none 0 0]:=by rw[←hcells]
 have hrun:(Instr.alloc t true (.tuple #[])).run P w = .ok (.pointer (some ⟨w.heap.size,0,none⟩)) { w with heap:=w.heap.push (.cells v.cells t (0,0)) }:=by
  unfold Instr.alloc;rw[Sem.run_bind];have:(zeroValue t).run P w = .ok v w:=by
   unfold zeroValue;rw[Sem.run_bind,fH hi];simp [hv]
  rw[this];simp [newVar,bG]
 have hB:iB { w with heap:=w.heap.push (.cells v.cells t (0,0)) } w.heap.size 2 v.cells:=by
  have:=iB.push (w:=w) v.cells t;rwa [show v.cells.size=2 by rw[hvc];rfl]at this
 obtain⟨h1,h2⟩:=zax (cs:=[.nilp,.sl0 none]) H (WExt.push w _) (Nat.le_refl _) (by simp) hB (c:=v.cells) (fun j x hx=>by
  rw[hvc];match j with
  | 0=>simp at hx;subst hx;exact⟨rfl,_,rfl,.nilp⟩
  | 1=>simp at hx;subst hx;exact⟨rfl,_,rfl,.sl0 _ _⟩
  | j+2=>simp at hx)
 simp only[List.length_cons,List.length_nil,Nat.zero_add,Nat.reduceAdd]at h1 h2;obtain⟨h3,h4⟩:=HQ h1 none;simp only[List.append_assoc,List.cons_append,List.nil_append]at h3 h4;have ho:(h++[Obj.box [.nilp,.sl0 none],.row none [] 0])[h.length]?=some (.box [.nilp,.sl0 none]):=by simp
 have hm:(μ++[some (w.heap.size,2),none])[h.length]?=some (some (w.heap.size,2)):=by rw[←H.len];simp
 have ho2:(h++[Obj.box [.nilp,.sl0 none],.row none [] 0])[h.length+1]?=some (.row none [] 0):=by
  rw[List.getElem?_append_right (by omega)];simp
 have hm2:(μ++[some (w.heap.size,2),none])[h.length+1]?=some none:=by
  rw[←H.len,List.getElem?_append_right (by omega)];simp
 have hg:({ w with heap:=w.heap.push (.cells v.cells t (0,0)) }:World).heap[w.heap.size]?=some (.cells v.cells t (0,0)):=by simp
 have key:=h3.set (w':={ w with heap:=w.heap.push (.cells v.cells t (0,0)) }) (o':=.box [.bt 0 t h.length 0,.bt 1 te (h.length+1) 0]) (m':=some (w.heap.size,2)) ho hm ⟨⟨_,rfl⟩,rfl⟩ rfl (Nat.le_refl _) (fun _ _ _=>rfl)
  (fun b n e=>.inl ⟨n,e⟩) (fun b n sh xs fz _ e=>by cases e)
  (fun M' E=>⟨w.heap.size,v.cells,rfl,hB,fun j x hx=>by
   rw[hvc];match j with
   | 0=>simp at hx;subst hx;exact⟨rfl,_,rfl,.bt0 t h.length 0 w.heap.size 2 _ (kC ho) (kC hm) (E.le.s _ _ (nP hg))⟩
   | 1=>simp at hx;subst hx;exact⟨rfl,_,rfl,.bt1 te (h.length+1) 0 none 0 [] 0 none (Nat.le_refl _) (by rw[List.getElem?_set_ne (by omega)];exact ho2) (by rw[List.getElem?_set_ne (by omega)];exact hm2) (Nat.le_refl _) (fun _=>⟨rfl,rfl⟩)⟩
   | j+2=>simp at hx⟩)
  (fun _ _ _ _ h=>h)
 have es:(h++[Obj.box [.nilp,.sl0 none],.row none [] 0]).set h.length (.box [.bt 0 t h.length 0,.bt 1 te (h.length+1) 0])=h++[.box [.bt 0 t h.length 0,.bt 1 te (h.length+1) 0],.row none [] 0]:=by simp
 have em:(μ++[some (w.heap.size,2),none]).set h.length (some (w.heap.size,2))=μ++[some (w.heap.size,2),none]:=dE hm
 have hE:vA h (h++[.box [.bt 0 t h.length 0,.bt 1 te (h.length+1) 0],.row none [] 0]) [(h.length,h.length+2)]:=by
  have a:=vA.push (h:=h) (o:=.box [.nilp,.sl0 none]) (by simp [Obj.top,AV.tops,AV.top])
  have a2:=vA.push (h:=h++[.box [.nilp,.sl0 none]]) (o:=.row none [] 0) (by simp [Obj.top])
  have a3:=a.trans a2
  simp only[List.append_assoc,List.cons_append,List.nil_append]at a3;have b:=vA.set (x:=[(h.length,h.length+2)]) (o':=.box [.bt 0 t h.length 0,.bt 1 te (h.length+1) 0]) ho (by simp [Obj.top,AV.tops,AV.top,vC])
  rw[es]at b;exact a3.trans b
 rw[es,em]at key;exact⟨_,_,_,xA hrun,.inl ⟨_,rfl,.ref h.length 0 w.heap.size 2 [.bt 0 t h.length 0,.bt 1 te (h.length+1) 0] (by simp) (by rw[←H.len];simp)⟩,key.1,(h2.trans h4).trans key.2,hE⟩
theorem zcb {w:World}{b:Nat}{c:Array Value}{E:TypeId}{f:Nat × Nat}(e:w.heap[b]?=some (.cells c E f)):w.shape? b=some (E,c.size):=by
 unfold World.shape?;simp only[e]
theorem zq3 {t s d:TypeId}(hb:qK P t=true)(hc:z0D P t s d=true){id:Nat}{x:Value}(H:HeapRel h μ w)(R:RAV (imm h μ w) h μ (.ref id 0) x){t' id' g:Nat}{v2:AV}(ho:h[id]?=some (.box [.bt 0 t' id' g,v2]))(e1:t'=t)(e2:id'=id) :
 lA P (do pure (.value (←convert s d x))) h μ w (.ref id 0) h []:=by
 subst e1;subst e2
 have R0:=R
 cases R with|ref _ _ b n cs ho' hm=>
 rw[ho]at ho';injection ho' with ho'
 injection ho' with ho'
 subst ho';obtain⟨b',c,hbn,hB,hcell⟩:=H.obj id' _ _ ho hm;injection hbn with hbn
 injection hbn with q1 q2
 subst q1;obtain⟨_,vv,_,hR⟩:=hcell 0 _ rfl;have hty:ety w b=some t':=by
  cases hR with|bt0 _ _ _ b2 n2 cs2 ho2 hm2 hs2=>
  rw[hm]at hm2;injection hm2 with hm2
  injection hm2 with hm2
  injection hm2 with r1 r2
  subst r1;exact hs2
 obtain⟨hsz,E,lo,hi,he,_⟩:=hB;have hE:E=t':=by rw[nP he]at hty;injection hty
 subst hE;have hsh:w.shape? b=some (E,2):=by rw[zcb he,hsz];rfl
 unfold qK at hb;split at hb;case h_2=>cases hb
 rename_i i hi;simp only[Bool.and_eq_true,beq_iff_eq]at hb;obtain⟨⟨c1,c2⟩,c3⟩:=hb;unfold z0D at hc;split at hc
 ·rename_i t'' hs
  simp only[Bool.and_eq_true,beq_iff_eq]at hc;obtain⟨rfl,hd⟩:=hc;have hd:P.underlying d=some .unsafePointer:=by split at hd <;> simp_all
  exact lA.pure H (xA (Lib.run_to_unsafe w ⟨b,0,none⟩ hs hd hi (by rw[c1];decide) hsh (Nat.zero_lt_succ 1))) R0
 ·rename_i hs
  split at hc;case h_2=>cases hc
  rename_i t'' hd;simp only[beq_iff_eq]at hc;subst hc;exact lA.pure H (xA (Lib.run_from_unsafe w ⟨b,0,none⟩ hs hd hi hsh c3)) R0
 ·cases hc
theorem zmZ {t:TypeId}(hc:z07 P t=true){a b:Operand}{id o:Nat}{x y:Value}(H:HeapRel h μ w)(Rx:RAV (imm h μ w) h μ (.ref id o) x)(Ry:RAV (imm h μ w) h μ (.ref id o) y) :
 lA P (do pure (.value (←(do eqGuard .neq t a b x y;binOp .neq t x y)))) h μ w (pbool false) h []:=by
 cases Rx with|ref _ _ b1 n1 cs1 ho1 hm1=>
 cases Ry with|ref _ _ b2 n2 cs2 ho2 hm2=>
 rw[hm1]at hm2;injection hm2 with hm2
 injection hm2 with hm2
 injection hm2 with r1 r2
 subst r1;unfold z07 at hc;split at hc;case h_2=>cases hc
 rename_i te ht;obtain⟨j,hj⟩:=Option.isSome_iff_exists.1 hc;refine lA.pure H (xA ?_) (RAV.pbool false);have hg:(eqGuard .neq t a b (.pointer (some ⟨b1,o,none⟩)) (.pointer (some ⟨b1,o,none⟩))).run P w = .ok () w:=rfl
 rw[Sem.run_bind,hg];exact Lib.run_neq_ptr_same w _ ht hj
theorem zm5 {t ty:TypeId}{ts:List TypeId}{n:Nat}{x:Value}{a:Option Addr}{cap:Nat}(hx:x = .slice a n cap)(H:HeapRel h μ w)(hc:sF P t=1) :
 lA P (do pure (.value (←Builtin.len_ (t::ts).toArray ty #[x]))) h μ w (pint n) h []:=by
 have hu:∃el,P.underlying t=some (.slice el):=by
  unfold sF at hc;split at hc <;> simp_all
 obtain⟨el,hu⟩:=hu;subst hx;refine lA.pure H (xA ?_) (RAV.pint n);simp [Builtin.len_,MA hu]
theorem zd0 {t u ty te:TypeId}(hc:RE P none t u=true)(ht:z0B P te t=true){s x:Value}{vs vx v:AV}{h1:aA}{e:Esc}(H:HeapRel h μ w)(Rs:RAV (imm h μ w) h μ vs s)(Rx:RAV (imm h μ w) h μ vx x)
 (he:appB te h vs vx=some (v,h1,e)):lA P (do pure (.value (←Builtin.append_ #[t,u] ty #[s,x]))) h μ w v h1 e:=by
 have htt:P.underlying t=some (.slice te):=by
  unfold z0B at ht;split at ht
  ·rename_i t' h'
   simp only[beq_iff_eq]at ht;subst ht;exact h'
  ·cases ht
 unfold appB at he;split at he;case h_2=>cases he
 rename_i ys hr;have S:=EN (P:=P) H Rx hr
 obtain⟨c,hck,hc2⟩:=S.2 ys.length (Nat.le_refl _);rw[List.take_length]at hc2;have hck0:(Builtin.firstCells (gA none) ys.length x).run P w = .ok c w:=hck w.drawn
 split at he
 ·rename_i t0 id g
  split at he;case h_2=>cases he
  rename_i xs fz ho;split at he;case isFalse=>cases he
  rename_i hcond;obtain⟨rfl,rfl,hfz,hmax⟩:=hcond;simp only[Option.some.injEq,Prod.mk.injEq]at he;obtain⟨rfl,rfl,rfl⟩:=he;have Rs0:=Rs
  cases Rs with|bt1 _ _ _ a cap xs' fz' m hl ho' hm hg hv=>
  rw[ho]at ho';injection ho' with ho'
  injection ho' with _ q2 q3
  subst q2;subst q3
  have hb:=hv rfl
  obtain⟨kf,ks,kO⟩:=H.obj id _ _ ho hm;cases m with
  | none=>
   obtain⟨rfl,rfl⟩:=hb;have hx0:xs=[]:=kO
   subst hx0;by_cases hz:ys.length=0
   ·have hy0:ys=[]:=List.length_eq_zero_iff.1 hz
    subst hy0;have hrun:=jF (ty:=ty) (base:=none) (sLen:=0) (sCap:=0) hc S.1 hck0 (by simp) (w':=w) rfl
    have hs:h.set id (.row none ([]++[]) fz)=h:=dE ho
    rw[hs];exact⟨_,_,_,xA hrun,.inl ⟨_,rfl,Rs0⟩,H,Evo.refl _ _ _,vA.refl _ _⟩
   ·obtain⟨newCap,n,w',c',g1,g2,g3,g4,g5,g6,g7,g8⟩:=vJ (ty:=ty) (base:=none) (sCap:=0) (xs:=[]) (v0:=.sl0 none) hc H Rx hr (by simp;omega) (by simpa using hmax) (.sl0 none none) rfl
    have key:=H.set (w':=w') (o':=.row none ([]++ys) fz) (m':=some (w.heap.size,n)) ho hm ⟨[]++ys,fz,rfl,by simp,fun hl=>by rw[List.length_append]at hl;simp only[List.length_nil]at hl;omega⟩
     g4.zz g4.1 (fun b hb _=>g4.2 b hb) (fun b n' e=>by injection e with e;injection e with e1 e2;subst e1;exact .inr ⟨Nat.le_refl _,g5⟩)
     (fun b n' sh2 xs2 fz2 e1 e2=>by cases e1)
     (fun M' Ev=>by
      refine⟨by have q:fz≤0:=hfz;omega,g7.2.1,c',g6.sealed _,?_,fun i j x y hx hy=>?_⟩
      ·rw[←g2];exact Nat.mul_le_mul_right _ (by simpa using g1)
      ·obtain⟨v,q1,q2⟩:=g7.2.2 i j x y hx hy
       exact⟨v,q1,q2.mono Ev.le⟩) (fun b n t e ht=>by cases e)
    refine⟨_,_,_,xA g3,.inl ⟨_,rfl,?_⟩,key.1,key.2,vA.set ho (by simp [Obj.top])⟩
    exact .bt1 t0 id (0+ys.length) _ newCap ([]++ys) fz (some (w.heap.size,n)) (by simpa using g1) (kC ho) (kC hm) (by simp) (fun _=>⟨rfl,⟨by omega,by rw[←g2];simp [gA]⟩,g8 _ htt⟩)
  | some m=>
   obtain⟨b,n⟩:=m;obtain⟨rfl,hcn,hst⟩:=hb;obtain⟨c',hB,hn2,hcell⟩:=kO;by_cases hroom:xs.length+ys.length≤cap
   ·obtain⟨w',r1,r2,r3,r4⟩:=XJ (P:=P) (at_:=xs.length) H ho hm hB hc2 hfz (Nat.le_refl _) (by simp only[gA];omega)
    rw[z6f]at r2 r3 r4;have hrun:=jF (ty:=ty) (base:=some ⟨b,0,none⟩) (sLen:=xs.length) (sCap:=cap) hc S.1 hck0 hroom (w':=w') (by simpa [GC] using r1)
    refine⟨_,_,_,xA hrun,.inl ⟨_,rfl,?_⟩,r2,r3,r4⟩;exact .bt1 t0 id (xs.length+ys.length) _ cap (xs++ys) fz (some (b,n)) hroom (kC ho) hm (by simp) (fun _=>⟨rfl,hcn,r3.le.s _ _ hst⟩)
   ·have Ro:RAV (imm h μ w) h μ (.own id xs.length 0 xs.length) (.slice (some ⟨b,0,none⟩) xs.length cap):=.own id xs.length 0 xs.length _ cap none xs fz (some (b,n)) hl ho hm (Nat.le_refl _) (by simp) (fun _=>.inr ⟨by simp,by simp [gA];exact hcn.2⟩)
    have hr0:rds h (.own id xs.length 0 xs.length)=some (none,xs):=by simp [rds,rd,ho,win]
    obtain⟨newCap,n',w',c'',g1,g2,g3,g4,g5,g6,g7,g8⟩:=vJ (ty:=ty) (base:=some ⟨b,0,none⟩) (sCap:=cap) (xs:=xs) (v0:=.own id xs.length 0 xs.length) hc H Rx hr (by omega) hmax Ro hr0
    have hpos:0<ys.length:=by omega
    have key:=H.set (w':=w') (o':=.row none (xs++ys) fz) (m':=some (w.heap.size,n')) ho hm ⟨xs++ys,fz,rfl,by simp,fun hl=>by rw[List.length_append]at hl;omega⟩
     g4.zz g4.1 (fun b hb _=>g4.2 b hb) (fun b n' e=>by injection e with e;injection e with e1 e2;subst e1;exact .inr ⟨Nat.le_refl _,g5⟩)
     (fun b n' sh2 xs2 fz2 e1 e2=>by
      injection e2 with e2 e3 e4
      subst e2;subst e3;subst e4
      refine⟨_,fz,rfl,fun j hj=>⟨aO (g4.2 b (H.inside id b n' (e1 ▸ hm))),fun n'' e3=>hj⟩⟩)
     (fun M' Ev=>by
      refine⟨by simp;omega,g7.2.1,c'',g6.sealed _,?_,fun i j x y hx hy=>?_⟩
      ·rw[←g2];exact Nat.mul_le_mul_right _ (by simpa using g1)
      ·obtain⟨v,q1,q2⟩:=g7.2.2 i j x y hx hy
       exact⟨v,q1,q2.mono Ev.le⟩) (fun b n t e ht=>by rw[eL (g4.2 b (H.inside id b n (e ▸ hm)))];exact ht)
    refine⟨_,_,_,xA g3,.inl ⟨_,rfl,?_⟩,key.1,key.2,vA.set ho (by simp [Obj.top])⟩
    exact .bt1 t0 id (xs.length+ys.length) _ newCap (xs++ys) fz (some (w.heap.size,n')) g1 (kC ho) (kC hm) (by simp) (fun _=>⟨rfl,⟨by omega,by rw[←g2];simp [gA]⟩,g8 _ htt⟩)
 ·cases he
theorem zg7 {ts:Array TypeId}{ty te:TypeId}{x:Value}{vx v:AV}(H:HeapRel h μ w)(Rx:RAV (imm h μ w) h μ vx x){h1:aA}{e:Esc}
 (he:OT te h vx=some (v,h1,e)):lA P (do pure (.value (←Builtin.unsafeSliceData_ ts ty #[x]))) h μ w v h1 e:=by
 unfold OT at he;split at he
 ·rename_i t0 id g
  split at he;case h_2=>cases he
  rename_i xs fz ho;split at he;case isFalse=>cases he
  rename_i hcond;obtain⟨rfl,rfl⟩:=hcond;cases Rx with|bt1 _ _ _ a cap xs' fz' m hl ho' hm hg hv=>
  rw[ho]at ho';injection ho' with ho'
  injection ho' with _ q2 q3
  subst q2;subst q3
  have hb:=hv rfl
  obtain⟨kf,ks,kO⟩:=H.obj id _ _ ho hm;cases m with
  | none=>
   obtain⟨rfl,rfl⟩:=hb;have hx0:xs=[]:=kO
   subst hx0;simp only[List.length_nil,if_true,Option.some.injEq,Prod.mk.injEq]at he;obtain⟨rfl,rfl,rfl⟩:=he;exact lA.pure H (xA (Lib.run_unsafeSliceData_nil w ts ty 0 0)) (.anyp none)
  | some m=>
   obtain⟨b,n⟩:=m;obtain⟨rfl,hcn,hst⟩:=hb;have hrun:=Lib.run_unsafeSliceData_row (P:=P) w ts ty ⟨b,0,none⟩ xs.length cap (by omega)
   split at he
   ·simp only[Option.some.injEq,Prod.mk.injEq]at he
    obtain⟨rfl,rfl,rfl⟩:=he;exact lA.pure H (xA hrun) (.anyp _)
   ·simp only[Option.some.injEq,Prod.mk.injEq]at he
    obtain⟨rfl,rfl,rfl⟩:=he;exact lA.pure H (xA hrun) (.bt2 t0 id xs.length _ xs fz (some (b,n)) ho hm (Nat.le_refl _) (fun _=>⟨b,n,rfl,rfl,hst⟩))
 ·cases he
theorem zkO {b n:Nat}{c:Array Value}{E:TypeId}{lo hi:Nat}(hb:w.heap[b]?=some (.cells c E (lo,hi)))(hn:n≠0):∃lo' hi',w.freeze ⟨b,0,none⟩ n=zB w b (.cells c E (lo',hi')):=by
 have hlt:b<w.heap.size:=MI hb
 have hb':w.heap[b] = .cells c E (lo,hi):=by
  rw[Array.getElem?_eq_getElem hlt]at hb;injection hb
 refine⟨if lo==hi then 0 else min lo 0,if lo==hi then 0+n else max hi (0+n),?_⟩;unfold World.freeze;rw[if_neg hn];simp only[zB];congr 1
 apply Array.ext_getElem?
 intro i;by_cases hi':b=i
 ·subst hi'
  rw[Array.getElem?_setIfInBounds_self_of_lt hlt,Array.getElem?_modify];simp only[if_true,Array.getElem?_eq_getElem hlt,Option.map_some,hb'];by_cases hq:lo=hi <;> simp [hq]
 ·rw[Array.getElem?_setIfInBounds_ne hi',Array.getElem?_modify]
  simp [hi']
theorem zql:∀ {xs:List PV} {s:List UInt8},mF xs=some s→s.length=xs.length∧∀ (j:Nat) (b:UInt8),s[j]?=some b→xs[j]?=some (.int .u8 b.toNat):=by
 intro xs s h;rw[z6j h];exact⟨by simp [yA],fun j b hb=>by rw[z0w,hb];rfl⟩
theorem zqa {ts:List TypeId}{pt it ty te:TypeId}(ht:z08 P te pt=true)(hcell1:P.cellsOf te=1){x:Value}{vx v:AV}{n:Nat}(H:HeapRel h μ w)(Rx:RAV (imm h μ w) h μ vx x){h1:aA}{e:Esc}
 (he:strB te h vx n=some (v,h1,e)):lA P (do pure (.value (←Builtin.unsafeString_ #[pt,it] ty #[x,.int .i64 n]))) h μ w v h1 e:=by
 have htt:P.underlying pt=some (.pointer te):=by
  unfold z08 at ht;split at ht
  ·rename_i t' h'
   simp only[beq_iff_eq]at ht;subst ht;exact h'
  ·cases ht
 unfold strB at he;split at he
 ·split at he
  case isFalse=>cases he
  rename_i h0;subst h0;simp only[Option.some.injEq,Prod.mk.injEq]at he;obtain⟨rfl,rfl,rfl⟩:=he;cases Rx with|anyp a=>
  exact lA.pure H (xA (Lib.run_unsafeString_none w pt it ty a)) (.p _ _ (.str []))
 ·rename_i t0 id g
  split at he;case h_2=>cases he
  rename_i xs fz ho;split at he;case isFalse=>cases he
  rename_i hcond;obtain⟨rfl,rfl,rfl,hpos,hmax⟩:=hcond;simp only[Option.map_eq_some_iff,Prod.mk.injEq]at he;obtain⟨s,hs,rfl,rfl,rfl⟩:=he;obtain⟨hsl,hsg⟩:=zql hs;cases Rx with|bt2 _ _ _ a xs' fz' m ho' hm hg hv=>
  rw[ho]at ho';injection ho' with ho'
  injection ho' with _ q2 q3
  subst q2;subst q3
  obtain⟨b,n,rfl,rfl,hst⟩:=hv rfl;obtain⟨kf,ks,c,hB,hn2,hcell⟩:=H.obj id _ _ ho hm;obtain⟨hsz,E,lo,hi,hE,_⟩:=hB;have hEt:E=t0:=by
   have hst:ety w b=some t0:=hst
   rw[nP hE]at hst;injection hst
  subst hEt;have hne:s≠[]:=by intro h0;subst h0;simp at hsl;omega
  have hrun:=Lib.run_unsafeString_row (P:=P) w pt it ty E htt hcell1 b c.size (zcb hE) s hne (by simp only[gA]at hn2;omega) (by unfold GA at hmax;omega) (fun j y hy=>by
   rw[GC,Nat.zero_add];obtain⟨v,v1,v2⟩:=hcell j 0 _ (.int .u8 y.toNat) (hsg j y hy) rfl;cases v2;have:w.cell? ⟨b,j,none⟩=c[j]?:=by
    unfold World.cell?;simp [hE]
   rw[this];simpa [gA] using v1)
  rw[hsl]at hrun;have hw2:∃lo' hi',w.freeze ⟨b,0,none⟩ xs.length=zB w b (.cells c E (lo',hi')):=zkO hE (by omega)
  obtain⟨lo',hi',hw2⟩:=hw2;have key:=H.set (w':=zB w b (.cells c E (lo',hi'))) (o':=.row none xs (xs.length+1)) (m':=some (b,n)) ho hm ⟨xs,_,rfl,Nat.le_refl _,fun _=>rfl⟩
   rfl (Nat.le_of_eq (xI _ _).symm) (fun b' _ hb'=>vI (fun e=>hb' n (by rw[e]))) (fun b' n e=>.inl ⟨n,e⟩)
   (fun b' n' sh2 xs2 fz2 e1 e2=>by
    injection e2 with e2 e3 e4
    subst e2;subst e3;subst e4
    injection e1 with e1;injection e1 with e1 _;subst e1
    refine⟨_,_,rfl,fun j hj=>⟨?_,fun _ _=>by simp only[gA]at hj ⊢;omega⟩⟩
    unfold World.cell?;simp [hE,JE hE])
   (fun M' Ev=>by
    refine⟨by omega,ks,c,⟨hsz,E,lo',hi',JE hE,fun q=>absurd (by omega) q⟩,hn2,fun i j x y hx hy=>?_⟩
    obtain⟨v,v1,v2⟩:=hcell i j x y hx hy;exact⟨v,v1,v2.mono Ev.le⟩) (fL hE)
  rw[dE hm]at key;rw[hw2]at hrun;exact⟨_,_,_,xA hrun,.inl ⟨_,rfl,.p _ _ (.str s)⟩,key.1,key.2,vA.set ho (by simp [Obj.top])⟩
 ·cases he
def tH (o:Op):Option (Operand×List Operand):=match o with
 | .call c=>match c.callee with
  | .value f=>some (f,c.args.toList)
  | _=>none
 | _=>none
theorem mR {o:Oper}{f:Operand}{ys:List Operand}(hc:tH o.op=some (f,ys)){ρ:Operand→Value}{g:Nat}{caps:Array Value}(hf:ρ f = .func (.func g) #[] caps) :
 (execOp ρ o).run P w=(callFunc g ((ys.map ρ).toArray++caps)).run P w:=by
 unfold tH at hc;split at hc
 ·rename_i c hop
  split at hc
  ·rename_i f' hcal
   injection hc with hc
   injection hc with h1 h2
   subst h1;subst h2
   unfold execOp;rw[hop];simp only[resolve,hcal,Deferred.ofValue,hf,Sem.run_bind,Sem.run_pure,Result.andThen_ok,invoke];have e1:(List.map ρ c.args.toList).toArray=c.args.map ρ:=by rw[←Array.toList_map]
   rw[e1];simp
  ·cases hc
 ·cases hc
def z0A (P:Program)(f:Nat):Bool:=match P.funcs[f]? with
 | some fn=>fn.name == "internal/abi.NoEscape" && fn.body.isNone&&(Extern.findNext fn).isNone
 | none=>false
theorem zkJ {fn:Func}(h:fn.name = "internal/abi.NoEscape"):Extern.find fn=some Extern.AbiNoEscape.same:=by
 have h1:(Extern.allGenericRows.lookup "internal/abi.NoEscape").isNone=true:=by kernel_rfl
 have h2:(Extern.allTypedRows.lookup "internal/abi.NoEscape").isNone=true:=by kernel_rfl
 have h3:Extern.allRows.lookup "internal/abi.NoEscape" = some Extern.AbiNoEscape.same:=by kernel_rfl
 unfold Extern.find;rw[h];simp only[Option.isNone_iff_eq_none.1 h1,Option.isNone_iff_eq_none.1 h2,h3];rfl
theorem zpj {f:Nat}(hc:z0A P f=true){o:Oper}{g y:Operand}(ho:tH o.op=some (g,[y])){ρ:Operand→Value}(hg:ρ g = .func (.func f) #[] #[]){v:AV}(H:HeapRel h μ w)(R:RAV (imm h μ w) h μ v (ρ y)) :
 lA P (execOp ρ o) h μ w v h []:=by
 unfold z0A at hc;split at hc;case h_2=>cases hc
 rename_i fn hf;simp only[Bool.and_eq_true,beq_iff_eq]at hc;obtain⟨⟨c1,c2⟩,c3⟩:=hc;refine lA.pure H ?_ R;rw[mR ho hg,run_callFunc_extern hf (by rw[c1];rfl) c2 (Option.isNone_iff_eq_none.1 c3) (zkJ c1)]
 rfl
theorem vX (t:Nat):∀(z:List AV) (c:List Value) {h:aA} {μ:Mu},HeapRel h μ w→c.length=z.length→(∀(j:Nat) (x:AV),z[j]?=some x→x.sc=true∧∃v,c[j]?=some v∧RAV (imm h μ w) h μ x v) →
 ∃μ',HeapRel (uB t z h).2 μ' w∧Evo (imm h μ w) h μ (imm (uB t z h).2 μ' w) (uB t z h).2 μ'∧vA h (uB t z h).2 []∧(uB t z h).1.length=z.length ∧
  ∀(j:Nat) (x:AV),(uB t z h).1[j]?=some x→x.sc=true∧∃v,c[j]?=some v∧RAV (imm (uB t z h).2 μ' w) (uB t z h).2 μ' x v
 | [],c,h,μ,H,_,_=>⟨μ,H,Evo.refl _ _ _,vA.refl _ _,rfl,fun j x hx=>by simp [uB]at hx⟩
 | a::r,[],h,μ,H,e,_=>by simp at e
 | a::r,b::s,h,μ,H,e,hr=>by
  have e3:s.length=r.length:=by simpa using e
  obtain⟨a1,b',hb',a2⟩:=hr 0 a rfl;have hbb:b'=b:=by simpa using hb'.symm
  subst hbb;by_cases ha:∃sh,a = .sl0 sh
  ·obtain⟨sh,rfl⟩:=ha
   cases hn:DU t sh with
   | true=>
    have hrw:uB t (.sl0 sh::r) h=(.bt 3 (t-1) h.length 0::(uB t r (h++[.arow (NC (t-1)) []])).1,(uB t r (h++[.arow (NC (t-1)) []])).2):=by
     show(bif DU t sh then _ else _)=_
     rw[hn];rfl
    rw[hrw];obtain⟨k1,k2⟩:=zng H (NC (t-1));obtain⟨μ',g1,g2,g3,g4,g5⟩:=vX t r s k1 e3 (fun j x hx=>by
     obtain⟨q1,v,q2,q3⟩:=hr (j+1) x (by simpa using hx)
     exact⟨q1,v,by simpa using q2,q3.evo k2⟩)
    refine⟨μ',g1,k2.trans g2,?_,by simp [g4],fun j x hx=>?_⟩
    ·simpa using (vA.push (h:=h) (o:=.arow (NC (t-1)) []) (by simp [Obj.top,AV.tops])).trans g3
    ·cases j with
     | zero=>
      simp at hx;subst hx;refine⟨rfl,b',rfl,?_⟩;cases a2 with
      | sl0 _ aa=>
       have q:RAV (imm (h++[.arow (NC (t-1)) []]) (μ++[none]) w) (h++[.arow (NC (t-1)) []]) (μ++[none]) (.bt 3 (t-1) h.length 0) (.slice aa 0 0):=
        .bt3 (t-1) h.length 0 aa 0 (.arow (NC (t-1)) []) none (Nat.le_refl _) (by simp) (by rw[←H.len];simp) (fun sh cs e=>by
         injection e with q1 q2
         subst q1;subst q2
         exact⟨by simp,fun _=>by simp [pF]⟩)
       exact q.evo g2
     | succ j=>exact g5 j x (by simpa using hx)
   | false=>
    have hrw:uB t (.sl0 sh::r) h=(.own h.length 0 0 0::(uB t r (h++[.row sh [] 0])).1,(uB t r (h++[.row sh [] 0])).2):=by
     show(bif DU t sh then _ else _)=_
     rw[hn];rfl
    rw[hrw];obtain⟨k1,k2⟩:=HQ H sh;obtain⟨μ',g1,g2,g3,g4,g5⟩:=vX t r s k1 e3 (fun j x hx=>by
     obtain⟨q1,v,q2,q3⟩:=hr (j+1) x (by simpa using hx)
     exact⟨q1,v,by simpa using q2,q3.evo k2⟩)
    refine⟨μ',g1,k2.trans g2,?_,by simp [g4],fun j x hx=>?_⟩
    ·simpa using (vA.push (h:=h) (o:=.row sh [] 0) (by simp [Obj.top])).trans g3
    ·cases j with
     | zero=>
      simp at hx;subst hx;refine⟨rfl,b',rfl,?_⟩;cases a2 with
      | sl0 _ aa=>
       have q:RAV (imm (h++[.row sh [] 0]) (μ++[none]) w) (h++[.row sh [] 0]) (μ++[none]) (.own h.length 0 0 0) (.slice aa 0 0):=
        .own h.length 0 0 0 aa 0 sh [] 0 none (Nat.le_refl _) (by simp) (by rw[←H.len];simp) (Nat.zero_le _) (Nat.le_refl _) (fun _=>by simp [pF])
       exact q.evo g2
     | succ j=>exact g5 j x (by simpa using hx)
  ·obtain⟨μ',g1,g2,g3,g4,g5⟩:=vX t r s H e3 (fun j x hx=>by
    obtain⟨q1,v,q2,q3⟩:=hr (j+1) x (by simpa using hx)
    exact⟨q1,v,by simpa using q2,q3⟩)
   have hrw:uB t (a::r) h=(a::(uB t r h).1,(uB t r h).2):=by
    cases a <;> first|rfl|exact absurd ⟨_,rfl⟩ ha
   rw[hrw];refine⟨μ',g1,g2,g3,by simp [g4],fun j x hx=>?_⟩
   cases j with
   | zero=>
    simp at hx;subst hx;exact⟨a1,b',rfl,a2.evo g2⟩
   | succ j=>exact g5 j x (by simpa using hx)
theorem zei {t:TypeId}(tn:Nat){v:AV}{x:Value}{cs:List AV}(H:HeapRel h μ w)(R:RAV (imm h μ w) h μ v x)(hc:v.cells=some cs) :
 lA P (do pure (.value (←Instr.box t x))) h μ w (.ref (uB tn cs h).2.length 0) ((uB tn cs h).2++[.box (uB tn cs h).1]) []:=by
 have hs:=NI R hc
 obtain⟨μ',g1,g2,g3,g4,g5⟩:=vX tn cs x.cells.toList H (by simpa using hs.1) (fun j y hy=>by
  obtain⟨q1,u,q2,q3⟩:=hs.2 j y hy;exact⟨q1,u,by simpa using q2,q3⟩)
 obtain⟨_,_,μ2,k1,k2,k3,k4,k5⟩:=z3q (P:=P) g1 (s:=do pure (.value (←Instr.box t x))) (c:=x.cells) t (by rw[g4];exact hs.1) (fun j y hy=>by simpa using g5 j y hy) (by
  refine xA ?_;simp [Instr.box,newVar,bG])
 exact⟨_,_,μ2,k1,k2,k3,g2.trans k4,by simpa using g3.trans k5⟩
end Go.Am
end
section
/- The abstract machine,part 19: which operation stands for which (MR),and that it is sound. -/
set_option linter.unusedSimpArgs false
set_option linter.unusedVariables false
set_option maxHeartbeats 1000000
namespace Go.Am
variable {h h':aA} {μ μ':Mu} {w w':World} {P:Program} {M M':Mem}
def zlq (P:Program)(t:TypeId):Bool:=match P.underlying t with|some (.interface _)=>false|some _=>true|none=>false
def ED (b:Builtin)(o:Op):Option (List Operand×List TypeId):=match o with
 | .call c=>match c.callee with
  | .builtin b'=>if b=b' then some (c.args.toList,c.argTypes.toList) else none
  | _=>none
 | _=>none
def one9:Op→Option (TypeId × Operand)
 | .buildSlice t n qs=>if n=1 then match qs.toList with
  | [(0,y)]=>some (t,y)
  | _=>none
  else none
 | _=>none
theorem znu {o:Op}{t:TypeId}{y:Operand}(h:one9 o=some (t,y)):o = .buildSlice t 1 #[(0,y)]:=by
 unfold one9 at h;split at h
 ·rename_i t' n qs
  split at h
  ·rename_i hn
   split at h
   ·rename_i y' hq
    simp only[Option.some.injEq,Prod.mk.injEq]at h;obtain⟨rfl,rfl⟩:=h;subst hn;have:qs = #[(0,y')]:=by rw[←Array.toList_inj];exact hq
    rw[this]
   ·cases h
  ·cases h
 ·cases h
def z0C (P:Program)(k t:Nat)(xs:List Opd)(o:Op):Bool:=match k with
 | 0=>match o,xs with
  | .alloc t',[_]=>t'==t&&qK P t
  | _,_=>false
 | 1=>match o,xs with
  | .convert s d y,[x]=>qK P t&&z0D P t s d&&CA x y
  | _,_=>false
 | 2=>match o,xs with
  | .binOp op' t' x' y' _,[x,y]=>decide (op' = .neq)&&z07 P t'&&CA x x'&&CA y y'
  | _,_=>false
 | 3=>match ED .append o,xs with
  | some ([x',y'],[t0,u]),[x,y]=>RE P none t0 u&&z0B P t t0&&CA x x'&&CA y y'
  | _,_=>false
 | 4=>match ED .len o,xs with
  | some ([y],t0::_),[x]=>sF P t0==1&&CA x y
  | _,_=>false
 | 5=>match ED .unsafeSliceData o,xs with
  | some ([y],_),[x]=>CA x y
  | _,_=>false
 | 6=>match ED .unsafeString o,xs with
  | some ([p',n'],[pt,_]),[p,n]=>z08 P t pt&&P.cellsOf t==1&&CA p p'&&CA n n'
  | _,_=>false
 | 7=>match tH o,xs with
  | some (g,[y]),[f,x]=>z0A P t&&CA f g&&CA x y
  | _,_=>false
 | 9=>match one9 o,xs with
  | some (t',y),[x]=>chk9 P (NC t) t'&&CA x y
  | _,_=>false
 | 11=>match ED .append o,xs with
  | some ([x',y'],[t0,u]),[x,y]=>RE P (NC t) t0 u&&decide (gA (NC t)≠0)&&CA x x'&&CA y y'
  | _,_=>false
 | 12=>match o,xs with
  | .box _ y,[x]=>CA x y
  | _,_=>false
 | _=>false
def MR (P:Program)(a:AO)(o:Op):Bool:=match a with
 | .uns k t xs=>z0C P k t xs o
 | .mv x=>match o with
  | .move y=>CA x y
  | .assign y=>CA x y
  | _=>false
 | .pick c x y=>match o with
  | .pick c' x' y'=>CA c c'&&CA x x'&&CA y y'
  | _=>false
 | .alloc z=>match o with
  | .alloc t=>bO P z t
  | _=>false
 | .box x=>match o with
  | .box _ y=>CA x y
  | _=>false
 | .build z ps=>match o with
  | .build t qs=>z00 P z ps t qs.toList
  | _=>false
 | .bsl _ sh n z ps=>match o with
  | .buildSlice t n' qs=>z0z P sh n z ps t n' qs.toList
  | _=>false
 | .load sh x=>match o with
  | .load t y=>lB P t==some sh&&CA x y
  | _=>false
 | .store sh x v=>match o with
  | .store t y u=>lB P t==some sh&&CA x y&&CA v u
  | _=>false
 | .nilchk x=>match o with
  | .nilCheck y=>CA x y
  | _=>false
 | .bin op x y=>match o with
  | .binOp op' _ x' y' _=>decide (op=op')&&CA x x'&&CA y y'
  | _=>false
 | .eqa ks neg x y=>match o with
  | .binOp op' t x' y' _=>decide (op'=if neg then .neq else .eql)&&LR P t ks&&CA x x'&&CA y y'
  | _=>false
 | .isnil k neg x=>match o with
  | .binOp op' t x' y' _=>decide (op'=if neg then .neq else .eql)&&IF P k t y'&&CA x x'
  | _=>false
 | .mkif _=>match o with
  | .makeInterface t _=>zlq P t
  | _=>false
 | .un op x=>match o with
  | .unOp op' _ y=>decide (op=op')&&CA x y
  | _=>false
 | .conv c x=>match o with
  | .convert s d y=>PI P c s d&&CA x y
  | _=>false
 | .mkfn f caps=>match o with
  | .makeFunc fn first cs=>(match fn with | .func f'=>f==f'|_=>false)&&first.size==0&&SB caps cs.toList
  | _=>false
 | .mkmap=>match o with
  | .makeMap _ r=>r.isNone
  | _=>false
 | .mksl sh z l c=>match o with
  | .makeSlice t l' c'=>z06 P sh z t&&CA l l'&&CA c c'
  | _=>false
 | .slice sh x lo hi mx=>match o with
  | .slice t x' lo' hi' mx'=>SI P t sh&&CA x x'&&BC lo lo'&&BC hi hi'&&BC mx mx'&&(mx.isNone||hi.isSome)
  | _=>false
 | .slstr x lo hi=>match o with
  | .slice t x' lo' hi' mx'=>sK P t&&CA x x'&&BC lo lo'&&BC hi hi'&&mx'.isNone
  | _=>false
 | .faddr off sh x=>match o with
  | .fieldAddr s y f=>QI P s f off sh&&CA x y
  | _=>false
 | .field off sh x=>match o with
  | .field s y f=>QI P s f off sh&&CA x y
  | _=>false
 | .iaddr sh x i=>match o with
  | .indexAddr t y j=>SI P t sh&&CA x y&&CA i j
  | _=>false
 | .iaddra n sh x i=>match o with
  | .indexAddr t y j=>OI P t n sh&&CA x y&&CA i j
  | _=>false
 | .idxa n sh x i=>match o with
  | .index t y j=>OI P t n sh&&CA x y&&CA i j
  | _=>false
 | .idxs x i=>match o with
  | .index t y j=>sK P t&&CA x y&&CA i j
  | _=>false
 | .ext x i=>match o with
  | .extract y j=>CA x y&&i==j
  | _=>false
 | .len x=>match ED .len o with
  | some ([y],t::_)=>sF P t==1&&CA x y
  | _=>false
 | .lens x=>match ED .len o with
  | some ([y],t::_)=>sF P t==2&&CA x y
  | _=>false
 | .lenm x=>match ED .len o with
  | some ([y],t::_)=>sF P t==3&&CA x y
  | _=>false
 | .app sh x y=>match ED .append o with
  | some ([x',y'],[t,u])=>RE P sh t u&&CA x x'&&CA y y'
  | _=>false
 | .copy sh x y=>match ED .copy o with
  | some ([x',y'],t::_)=>z02 P sh t&&CA x x'&&CA y y'
  | _=>false
 | .clr sh z x=>match ED .clear o with
  | some ([x'],t::_)=>z01 P sh z t&&CA x x'
  | _=>false
 | .look kk ok z x k=>match o with
  | .lookup t x' k' ok'=>rK P kk z t&&ok==ok'&&CA x x'&&CA k k'
  | _=>false
 | .mupd kk m k v=>match o with
  | .mapUpdate t m' k' v'=>RI P kk t&&CA m m'&&CA k k'&&CA v v'
  | .insert t m' k' v'=>RI P kk t&&CA m m'&&CA k k'&&CA v v'
  | _=>false
 | .ment kk z m k=>match o with
  | .mapEntry t m' k'=>rK P kk z t&&CA m m'&&CA k k'
  | _=>false
 | .estore m s v=>match o with
  | .entryStore _ m' s' v'=>CA m m'&&CA s s'&&CA v v'
  | _=>false
 | .mdel kk m k=>match ED .delete o with
  | some ([m',k'],t::_)=>RI P kk t&&CA m m'&&CA k k'
  | _=>false
 | .mrange x=>match o with
  | .range t y=>z09 P t&&CA x y
  | _=>false
 | .mentry x=>match o with
  | .entry y=>CA x y
  | _=>false
 | .mx xs=>match ED .max o with
  | some (ys,_)=>SB xs ys
  | _=>false
 | .mn xs=>match ED .min o with
  | some (ys,_)=>SB xs ys
  | _=>false
 | .new0 _=>match o with
  | .move (.const (.slice none 0 0))=>true
  | .assign (.const (.slice none 0 0))=>true
  | _=>false
 | _=>false
theorem iE {b:Builtin}{o:Oper}{ys:List Operand}{ts:List TypeId}(hb:ED b o.op=some (ys,ts)){ρ:Operand→Value} :
 ∃cs,(execOp ρ o).run P w=(builtin b ts.toArray o.type cs (ys.map ρ).toArray).run P w:=by
 unfold ED at hb;split at hb
 ·rename_i c hc
  split at hb
  ·rename_i b' hcb
   split at hb
   ·rename_i hbb
    subst hbb;injection hb with hb
    injection hb with h1 h2
    subst h1;subst h2
    refine⟨(c.args.map fun | .const _=>true|_=>false),?_⟩
    unfold execOp;rw[hc];simp only[resolve,hcb,Sem.run_bind,Sem.run_pure,Result.andThen_ok,invoke];have e1:(List.map ρ c.args.toList).toArray=c.args.map ρ:=by rw[←Array.toList_map]
    rw[e1];rfl
   ·cases hb
  ·cases hb
 ·cases hb
theorem lA.congr {s s':Sem Next}{v:AV}{h1:aA}{e:Esc}(hr:s.run P w=s'.run P w)(H:lA P s' h μ w v h1 e):lA P s h μ w v h1 e:=by
 obtain⟨nx,w',μ',r,q⟩:=H;exact⟨nx,w',μ',hr.trans r,q⟩
theorem zmX {v:AV}{x:Value}{n:Nat}(H:RAV M h μ v x)(hn:n64 v=some n):x = .int .i64 n:=by
 unfold n64 at hn;split at hn
 ·rename_i m
  split at hn
  ·injection hn with hn
   have:=H.p_inv;cases this;rw[←hn];congr 1
   omega
  ·cases hn
 ·cases hn
theorem zq2 {k t:Nat}{xs:List Opd}{o:Oper}(hc:z0C P k t xs o.op=true){ev:Opd→AV}(hev:∀ v,ev (.c v)=v){ρ:Operand→Value}(hρ:∀ v,ρ (.const v)=v){v:AV}{h1:aA}{e:Esc}(H:HeapRel h μ w)(R:fE (imm h μ w) h μ ev ρ)
 (he:rD k t (xs.map ev) h=some (v,h1,e)):lA P (execOp ρ o) h μ w v h1 e:=by
 have E:∀{s:Sem Next},execOp ρ o=s→lA P s h μ w v h1 e→lA P (execOp ρ o) h μ w v h1 e:=fun hs H=>hs ▸ H
 unfold z0C at hc;split at hc
 ·split at hc
  case h_2=>cases hc
  rename_i t' x ho;simp only[Bool.and_eq_true,beq_iff_eq]at hc;obtain⟨rfl,c2⟩:=hc;simp only[rD,List.map_cons,List.map_nil]at he;split at he;case h_2=>cases he
  simp only[Option.some.injEq,Prod.mk.injEq]at he;obtain⟨rfl,rfl,rfl⟩:=he;exact E (by unfold execOp;rw[ho]) (zna c2 H)
 ·split at hc
  case h_2=>cases hc
  rename_i s d y x ho;simp only[Bool.and_eq_true]at hc;obtain⟨⟨c1,c2⟩,c3⟩:=hc;simp only[rD,List.map_cons,List.map_nil]at he;have Rx:=R _ _ c3
  unfold upcB at he;split at he;case h_2=>cases he
  rename_i id hx;split at he;case h_2=>cases he
  rename_i t' id' g v2 hob;split at he;case isFalse=>cases he
  rename_i hcond;simp only[Option.some.injEq,Prod.mk.injEq]at he;obtain⟨rfl,rfl,rfl⟩:=he;rw[hx]at Rx;exact E (by unfold execOp;rw[ho]) (zq3 c1 c2 H Rx hob hcond.1 hcond.2)
 ·split at hc
  case h_2=>cases hc
  rename_i op' t' x' y' u x y ho;simp only[Bool.and_eq_true,decide_eq_true_eq]at hc;obtain⟨⟨⟨rfl,c2⟩,c3⟩,c4⟩:=hc;simp only[rD,List.map_cons,List.map_nil]at he;have Rx:=R _ _ c3
  have Ry:=R _ _ c4
  unfold neqB at he;split at he;case h_2=>cases he
  rename_i id o1 id' o2 hx hy;split at he;case isFalse=>cases he
  rename_i hcond;obtain⟨rfl,rfl⟩:=hcond;simp only[Option.some.injEq,Prod.mk.injEq]at he;obtain⟨rfl,rfl,rfl⟩:=he;rw[hx]at Rx;rw[hy]at Ry;exact E (by unfold execOp;rw[ho]) (zmZ c2 H Rx Ry)
 ·split at hc
  case h_2=>cases hc
  rename_i x' y' t0 u x y hb;simp only[Bool.and_eq_true]at hc;obtain⟨⟨⟨c1,c2⟩,c3⟩,c4⟩:=hc;simp only[rD,List.map_cons,List.map_nil]at he;obtain⟨cs,hr⟩:=iE (P:=P) (w:=w) hb (ρ:=ρ);exact lA.congr hr (zd0 c1 c2 H (R _ _ c3) (R _ _ c4) he)
 ·split at hc
  case h_2=>cases hc
  rename_i y t0 ts x hb;simp only[Bool.and_eq_true,beq_iff_eq]at hc;simp only[rD,List.map_cons,List.map_nil,Option.map_eq_some_iff,Prod.mk.injEq]at he;obtain⟨n,hn,rfl,rfl,rfl⟩:=he;obtain⟨cs,hr⟩:=iE (P:=P) (w:=w) hb (ρ:=ρ);have Rx:=R _ _ hc.2
  have hx:∃a cap,ρ y = .slice a n cap:=by
   unfold lenB at hn;split at hn
   ·rename_i hx
    rw[hx]at Rx;injection hn with hn
    subst hn;generalize ρ y=z at Rx;cases Rx with|bt1 _ _ _ a cap xs' fz' m hl ho' hm hg hv=>exact⟨_,_,rfl⟩
   ·cases hn
  obtain⟨a,cap,hx⟩:=hx;exact lA.congr hr (zm5 hx H hc.1)
 ·split at hc
  case h_2=>cases hc
  rename_i y ts x hb;simp only[rD,List.map_cons,List.map_nil]at he;obtain⟨cs,hr⟩:=iE (P:=P) (w:=w) hb (ρ:=ρ);exact lA.congr hr (zg7 H (R _ _ hc) he)
 ·split at hc
  case h_2=>cases hc
  rename_i p' n' pt it p n hb;simp only[Bool.and_eq_true,beq_iff_eq]at hc;obtain⟨⟨⟨c1,c2⟩,c3⟩,c4⟩:=hc;simp only[rD,List.map_cons,List.map_nil]at he;obtain⟨cs,hr⟩:=iE (P:=P) (w:=w) hb (ρ:=ρ);split at he
  ·rename_i m hm
   have hn:=zmX (R _ _ c4) hm
   refine lA.congr hr ?_;simp only[List.map_cons,List.map_nil,hn];exact zqa (ts:=[]) c1 c2 H (R _ _ c3) he
  ·cases he
 ·split at hc
  case h_2=>cases hc
  rename_i g y f x hb;simp only[Bool.and_eq_true]at hc;obtain⟨⟨c1,c2⟩,c3⟩:=hc;simp only[rD,List.map_cons,List.map_nil]at he;have Rf:=R _ _ c2
  have Rx:=R _ _ c3
  unfold z5V at he;split at he;case h_2=>cases he
  rename_i g' hf;split at he;case isFalse=>cases he
  rename_i hcond;subst hcond;simp only[Option.some.injEq,Prod.mk.injEq]at he;obtain⟨rfl,rfl,rfl⟩:=he;rw[hf]at Rf;have hg:ρ g = .func (.func g') #[] #[]:=by
   generalize ρ g=z at Rf;cases Rf with|fn _ cs vs hl hr=>
   have:vs=[]:=List.length_eq_zero_iff.1 (by rw[←hl];rfl)
   subst this;rfl
  exact zpj c1 hb hg H Rx
 ·split at hc
  case h_2=>cases hc
  rename_i t' y x ho;simp only[Bool.and_eq_true]at hc;obtain⟨c1,c2⟩:=hc;have ho:=znu ho
  simp only[rD,List.map_cons,List.map_nil]at he;split at he;case h_2=>cases he
  rename_i cs hv;split at he;case isFalse=>cases he
  rename_i hl;simp only[Option.some.injEq,Prod.mk.injEq]at he;obtain⟨rfl,rfl,rfl⟩:=he;exact E (s:=do pure (.value (←Instr.buildSlice t' 1 #[(0,ρ y)]))) (by unfold execOp;rw[ho];simp) (zek rfl c1 H (R _ _ c2) hv hl)
 ·split at hc
  case h_2=>cases hc
  rename_i x' y' t0 u x y hb;simp only[Bool.and_eq_true,decide_eq_true_eq]at hc;obtain⟨⟨⟨c1,c2⟩,c3⟩,c4⟩:=hc;simp only[rD,List.map_cons,List.map_nil]at he;obtain⟨cs,hr⟩:=iE (P:=P) (w:=w) hb (ρ:=ρ);exact lA.congr hr (zdy rfl c1 c2 H (R _ _ c3) (R _ _ c4) he)
 ·split at hc
  case h_2=>cases hc
  rename_i t' y x ho;simp only[rD,List.map_cons,List.map_nil]at he;split at he;case h_2=>cases he
  rename_i cs hv;simp only[Option.some.injEq,Prod.mk.injEq]at he;obtain⟨rfl,rfl,rfl⟩:=he;exact E (by unfold execOp;rw[ho]) (zei _ H (R _ _ hc) hv)
 ·cases hc
theorem za4 {a:AO}{o:Oper}(hc:MR P a o.op=true){ev:Opd→AV}(hev:∀ v,ev (.c v)=v){ρ:Operand→Value}(hρ:∀ v,ρ (.const v)=v){v:AV}{h1:aA}{e:Esc}(H:HeapRel h μ w)(R:fE (imm h μ w) h μ ev ρ)
 (he:aop a ev h=some (v,h1,e)):lA P (execOp ρ o) h μ w v h1 e:=by
 have E:∀{s:Sem Next},execOp ρ o=s→lA P s h μ w v h1 e→lA P (execOp ρ o) h μ w v h1 e:=fun hs H=>hs ▸ H
 cases a <;> simp only[MR]at hc
 case mv x=>
  split at hc
  ·rename_i y ho;exact E (by unfold execOp;rw[ho]) (zav H (R _ _ hc) he)
  ·rename_i y ho;exact E (by unfold execOp;rw[ho]) (zav H (R _ _ hc) he)
  ·cases hc
 case uns k t xs=>exact zq2 hc hev hρ H R he
 case pick c x y=>
  split at hc
  ·rename_i c' x' y' ho
   simp only[Bool.and_eq_true]at hc;exact E (by unfold execOp;rw[ho]) (znA H (R _ _ hc.1.1) (R _ _ hc.1.2) (R _ _ hc.2) he)
  ·cases hc
 case alloc z=>
  split at hc
  ·rename_i t ho
   simp only[aop,Option.some.injEq,Prod.mk.injEq]at he;obtain⟨rfl,rfl,rfl⟩:=he;exact E (by unfold execOp;rw[ho]) (zdt hc H)
  ·cases hc
 case box x=>
  split at hc
  ·rename_i t y ho
   simp only[aop]at he;split at he
   ·rename_i cs hcs
    simp only[Option.some.injEq,Prod.mk.injEq]at he;obtain⟨rfl,rfl,rfl⟩:=he;exact E (by unfold execOp;rw[ho]) (zeh H (R _ _ hc) hcs)
   ·cases he
  ·cases hc
 case build z ps=>
  split at hc
  ·rename_i t qs ho
   simp only[aop,Option.map_eq_some_iff,Prod.mk.injEq]at he;obtain⟨cs,hcs,rfl,rfl,rfl⟩:=he;exact E (by unfold execOp;rw[ho]) (zel hc H R hcs)
  ·cases hc
 case bsl own sh n z ps=>
  split at hc
  ·rename_i t n' qs ho
   exact E (by unfold execOp;rw[ho]) (zej hc H R he)
  ·cases hc
 case load sh x=>
  split at hc
  ·rename_i t y ho
   simp only[Bool.and_eq_true,beq_iff_eq]at hc;exact E (by unfold execOp;rw[ho]) (zmG hc.1 H (R _ _ hc.2) ev x rfl he)
  ·cases hc
 case store sh x u=>
  split at hc
  ·rename_i t y z ho
   simp only[Bool.and_eq_true,beq_iff_eq]at hc;exact E (by unfold execOp;rw[ho]) (zpX hc.1.1 H ev x u (R _ _ hc.1.2) (R _ _ hc.2) he)
  ·cases hc
 case nilchk x=>
  split at hc
  ·rename_i y ho;exact znn H (R _ _ hc) he rfl ho
  ·cases hc
 case bin op x y=>
  split at hc
  ·rename_i op' t x' y' u ho
   simp only[Bool.and_eq_true,decide_eq_true_eq]at hc;obtain⟨⟨rfl,c2⟩,c3⟩:=hc;exact E (by unfold execOp;rw[ho]) (zdV H (R _ _ c2) (R _ _ c3) he)
  ·cases hc
 case eqa ks neg x y=>
  split at hc
  ·rename_i op' t x' y' u ho
   simp only[Bool.and_eq_true,decide_eq_true_eq]at hc;obtain⟨⟨⟨c1,c2⟩,c3⟩,c4⟩:=hc;exact E (by unfold execOp;rw[ho]) (zkp c1 c2 H (R _ _ c3) (R _ _ c4) he)
  ·cases hc
 case isnil k neg x=>
  split at hc
  ·rename_i op' t x' y' u ho
   simp only[Bool.and_eq_true,decide_eq_true_eq]at hc;obtain⟨⟨c1,c2⟩,c3⟩:=hc;have hy:∃z,y' = .const z:=by
    unfold IF at c2;split at c2 <;> first|exact⟨_,rfl⟩|cases c2
   obtain⟨z,rfl⟩:=hy;have:=zlv (P:=P) (a:=x') c1 c2 H (R _ _ c3) he;refine E (by unfold execOp;rw[ho]) ?_
   simp only[hρ];exact this
  ·cases hc
 case mkif x=>
  split at hc
  ·rename_i t y ho;exact E (by unfold execOp;rw[ho]) (zmS hc H he)
  ·cases hc
 case un op x=>
  split at hc
  ·rename_i op' t y ho
   simp only[Bool.and_eq_true,decide_eq_true_eq]at hc;obtain⟨rfl,c2⟩:=hc;exact E (by unfold execOp;rw[ho]) (un_ok H (R _ _ c2) he)
  ·cases hc
 case conv c x=>
  split at hc
  ·rename_i s d y ho
   simp only[Bool.and_eq_true]at hc;exact E (by unfold execOp;rw[ho]) (zg0 hc.1 H (R _ _ hc.2) he)
  ·cases hc
 case mkfn f caps=>
  split at hc
  ·rename_i fn first cs ho
   simp only[Bool.and_eq_true,beq_iff_eq]at hc;obtain⟨⟨c1,c2⟩,c3⟩:=hc;split at c1
   ·simp only[beq_iff_eq]at c1
    subst c1;exact E (by unfold execOp;rw[ho]) (zmR c3 (Array.eq_empty_of_size_eq_zero c2) H R he)
   ·cases c1
  ·cases hc
 case mkmap=>
  split at hc
  ·rename_i t r ho
   rw[Option.isNone_iff_eq_none]at hc;subst hc;exact E (s:=do pure (.value (←Instr.makeMap t none))) (by unfold execOp;rw[ho];rfl) (zmT rfl H he)
  ·cases hc
 case mksl sh z l c=>
  split at hc
  ·rename_i t l' c' ho
   simp only[Bool.and_eq_true]at hc;exact E (by unfold execOp;rw[ho]) (zmU hc.1.1 H (R _ _ hc.1.2) (R _ _ hc.2) he)
  ·cases hc
 case slice sh x lo hi mx=>
  split at hc
  ·rename_i t x' lo' hi' mx' ho
   simp only[Bool.and_eq_true,Bool.or_eq_true]at hc;obtain⟨⟨⟨⟨⟨c1,c2⟩,c3⟩,c4⟩,c5⟩,c6⟩:=hc;refine E (by unfold execOp;rw[ho]) (zpE c1 H R c2 c3 c4 c5 (fun hm=>?_) he)
   rcases c6 with c6|c6
   ·cases mx <;> simp_all
   ·exact c6
  ·cases hc
 case slstr x lo hi=>
  split at hc
  ·rename_i t x' lo' hi' mx' ho
   simp only[Bool.and_eq_true]at hc;obtain⟨⟨⟨⟨c1,c2⟩,c3⟩,c4⟩,c5⟩:=hc;rw[Option.isNone_iff_eq_none]at c5;subst c5;exact E (s:=do pure (.value (←Instr.sliceAt t (ρ x') (lo'.map ρ) (hi'.map ρ) none))) (by unfold execOp;rw[ho];rfl) (zpF c1 H R c2 c3 c4 he)
  ·cases hc
 case faddr off sh x=>
  split at hc
  ·rename_i s y f ho
   simp only[Bool.and_eq_true]at hc;exact E (by unfold execOp;rw[ho]) (zk7 hc.1 H ev x (R _ _ hc.2) he)
  ·cases hc
 case field off sh x=>
  split at hc
  ·rename_i s y f ho
   simp only[Bool.and_eq_true]at hc;exact E (by unfold execOp;rw[ho]) (zkE hc.1 H ev x (R _ _ hc.2) he)
  ·cases hc
 case iaddr sh x i=>
  split at hc
  ·rename_i t y j ho
   simp only[Bool.and_eq_true]at hc;exact E (by unfold execOp;rw[ho]) (zlh hc.1.1 H ev x i (R _ _ hc.1.2) (R _ _ hc.2) he)
  ·cases hc
 case iaddra n sh x i=>
  split at hc
  ·rename_i t y j ho
   simp only[Bool.and_eq_true]at hc;exact E (by unfold execOp;rw[ho]) (zlk hc.1.1 H ev x i (R _ _ hc.1.2) (R _ _ hc.2) he)
  ·cases hc
 case idxa n sh x i=>
  split at hc
  ·rename_i t y j ho
   simp only[Bool.and_eq_true]at hc;exact E (by unfold execOp;rw[ho]) (zln hc.1.1 H ev x i (R _ _ hc.1.2) (R _ _ hc.2) he)
  ·cases hc
 case idxs x i=>
  split at hc
  ·rename_i t y j ho
   simp only[Bool.and_eq_true]at hc;exact E (by unfold execOp;rw[ho]) (zlo hc.1.1 H ev x i (R _ _ hc.1.2) (R _ _ hc.2) he)
  ·cases hc
 case ext x i=>
  split at hc
  ·rename_i y j ho
   simp only[Bool.and_eq_true,beq_iff_eq]at hc;obtain⟨c1,rfl⟩:=hc;exact E (by unfold execOp;rw[ho]) (zk5 H (R _ _ c1) he)
  ·cases hc
 case len x=>
  split at hc
  ·rename_i y t ts hb
   simp only[Bool.and_eq_true,beq_iff_eq]at hc;obtain⟨cs,hr⟩:=iE (P:=P) (w:=w) hb (ρ:=ρ);exact lA.congr hr (zm7 hc.1 H (R _ _ hc.2) he)
  ·cases hc
 case lens x=>
  split at hc
  ·rename_i y t ts hb
   simp only[Bool.and_eq_true,beq_iff_eq]at hc;obtain⟨cs,hr⟩:=iE (P:=P) (w:=w) hb (ρ:=ρ);exact lA.congr hr (zmB hc.1 H (R _ _ hc.2) he)
  ·cases hc
 case lenm x=>
  split at hc
  ·rename_i y t ts hb
   simp only[Bool.and_eq_true,beq_iff_eq]at hc;obtain⟨cs,hr⟩:=iE (P:=P) (w:=w) hb (ρ:=ρ);exact lA.congr hr (zmA hc.1 H (R _ _ hc.2) he)
  ·cases hc
 case app sh x y=>
  split at hc
  ·rename_i x' y' t u hb
   simp only[Bool.and_eq_true]at hc;obtain⟨cs,hr⟩:=iE (P:=P) (w:=w) hb (ρ:=ρ);exact lA.congr hr (zd1 hc.1.1 H (R _ _ hc.1.2) (R _ _ hc.2) he)
  ·cases hc
 case copy sh x y=>
  split at hc
  ·rename_i x' y' t ts hb
   simp only[Bool.and_eq_true]at hc;obtain⟨cs,hr⟩:=iE (P:=P) (w:=w) hb (ρ:=ρ);exact lA.congr hr (zg1 hc.1.1 H (R _ _ hc.1.2) (R _ _ hc.2) he)
  ·cases hc
 case clr sh z x=>
  split at hc
  ·rename_i x' t ts hb
   simp only[Bool.and_eq_true]at hc;obtain⟨cs,hr⟩:=iE (P:=P) (w:=w) hb (ρ:=ρ);exact lA.congr hr (zgk hc.1 H (R _ _ hc.2) he)
  ·cases hc
 case look kk ok z x k=>
  split at hc
  ·rename_i t x' k' ok' ho
   simp only[Bool.and_eq_true,beq_iff_eq]at hc;obtain⟨⟨⟨c1,rfl⟩,c3⟩,c4⟩:=hc;exact E (by unfold execOp;rw[ho]) (zmJ c1 H (R _ _ c3) (R _ _ c4) he)
  ·cases hc
 case mupd kk m k u=>
  split at hc
  ·rename_i t m' k' v' ho
   simp only[Bool.and_eq_true]at hc;obtain⟨⟨⟨c1,c2⟩,c3⟩,c4⟩:=hc;exact E (by unfold execOp;rw[ho]) (zau c1 H (R _ _ c2) (R _ _ c3) (R _ _ c4) he)
  ·rename_i t m' k' v' ho
   simp only[Bool.and_eq_true]at hc;obtain⟨⟨⟨c1,c2⟩,c3⟩,c4⟩:=hc;exact E (by unfold execOp;rw[ho]) (zau c1 H (R _ _ c2) (R _ _ c3) (R _ _ c4) he)
  ·cases hc
 case ment kk z m k=>
  split at hc
  ·rename_i t m' k' ho
   simp only[Bool.and_eq_true]at hc;exact E (by unfold execOp;rw[ho]) (zmP hc.1.1 H (R _ _ hc.1.2) (R _ _ hc.2) he)
  ·cases hc
 case estore m s u=>
  split at hc
  ·rename_i t m' s' v' ho
   simp only[Bool.and_eq_true]at hc;exact E (by unfold execOp;rw[ho]) (zkx H (R _ _ hc.1.1) (R _ _ hc.1.2) (R _ _ hc.2) he)
  ·cases hc
 case mdel kk m k=>
  split at hc
  ·rename_i m' k' t ts hb
   simp only[Bool.and_eq_true]at hc;obtain⟨cs,hr⟩:=iE (P:=P) (w:=w) hb (ρ:=ρ);exact lA.congr hr (zmO hc.1.1 H (R _ _ hc.1.2) (R _ _ hc.2) he)
  ·cases hc
 case mrange x=>
  split at hc
  ·rename_i t y ho
   simp only[Bool.and_eq_true]at hc;exact E (by unfold execOp;rw[ho]) (zmW hc.1 H (R _ _ hc.2) he)
  ·cases hc
 case mentry x=>
  split at hc
  ·rename_i y ho
   exact E (by unfold execOp;rw[ho]) (zmQ H (R _ _ hc) he)
  ·cases hc
 case mx xs=>
  split at hc
  ·rename_i ys ts hb
   obtain⟨cs,hr⟩:=iE (P:=P) (w:=w) hb (ρ:=ρ);refine lA.congr hr ?_;have:=mx_ok (P:=P) (cs:=ys.toArray) (ts:=ts.toArray) (ty:=o.type) hc H R he;have h2:Array.map ρ ys.toArray=(List.map ρ ys).toArray:=by simp
   rw[h2]at this;exact this
  ·cases hc
 case mn xs=>
  split at hc
  ·rename_i ys ts hb
   obtain⟨cs,hr⟩:=iE (P:=P) (w:=w) hb (ρ:=ρ);refine lA.congr hr ?_;have:=mn_ok (P:=P) (cs:=ys.toArray) (ts:=ts.toArray) (ty:=o.type) hc H R he;have h2:Array.map ρ ys.toArray=(List.map ρ ys).toArray:=by simp
   rw[h2]at this;exact this
  ·cases hc
 case new0 sh=>
  split at hc
  ·rename_i ho
   refine E (s:=pure (.value (.slice none 0 0))) (by unfold execOp;rw[ho];simp only[hρ]) (zaw H he)
  ·rename_i ho
   refine E (s:=pure (.value (.slice none 0 0))) (by unfold execOp;rw[ho];simp only[hρ]) (zaw H he)
  ·cases hc
 all_goals cases hc
end Go.Am
end
section
/- The abstract machine,part 20: regions in their own order. -/
set_option linter.unusedSimpArgs false
set_option linter.unusedVariables false
set_option maxHeartbeats 1000000
namespace Go.Am
variable {h h':aA} {μ μ':Mu} {w w':World} {P:Program} {M M':Mem}
def FF (gl:Nat→Option PV)(M:Mem):Prop:=∀n v,gl n=some v→RAV M [] [] (.vp v) (.pointer (some ⟨n,0,none⟩))∧∃cs t x,M.b n=some (.cells cs t x)∧cs.size=v.cells.length
theorem RAV.vp_any {v:PV}{x:Value}{h':aA}{μ':Mu}(H:RAV M h μ (.vp v) x):RAV M h' μ' (.vp v) x:=by
 cases H with|vp _ b o f hm hr=>exact .vp v b o f hm hr
theorem FF.mono {gl:Nat→Option PV}(hM:M.le M')(H:FF gl M):FF gl M':=fun n v hv=>by
 obtain⟨h1,cs,t,x,h2,h3⟩:=H n v hv;refine⟨?_,cs,t,x,hM.b _ _ h2,h3⟩;cases h1 with|vp _ _ _ f hm hr=>exact .vp v n 0 f (fun j y hy=>hM.c _ _ _ (hm j y hy)) (fun j y hy=>(hr j y hy).mono hM)
structure Rel (gl:Nat→Option PV) (nt:Nat) (M0:Mem) (h0:aA) (μ0:Mu) (e:List (Nat × AV)) (h:aA) (x:Esc) (a:Act) (w:World) (μ:Mu):Prop where
 heap:HeapRel h μ w
 env:∀t,RAV (imm h μ w) h μ (eA e t) (a.tmps.getD t undef)
 glob:FF gl (imm h μ w)
 evo:Evo M0 h0 μ0 (imm h μ w) h μ
 esc:vA h0 h x
 size:nt≤a.tmps.size
 defers:a.defers=[]
variable {gl:Nat→Option PV} {nt:Nat} {M0:Mem} {h0:aA} {μ0:Mu} {e:List (Nat × AV)} {x:Esc} {a:Act}
theorem Rel.opds (H:Rel gl nt M0 h0 μ0 e h x a w μ):fE (imm h μ w) h μ (Opd.ev gl e) a.eval:=by
 intro p q hpq;unfold CA at hpq;split at hpq
 ·simp only[beq_iff_eq]at hpq
  subst hpq;exact H.env _
 ·exact VI hpq
 ·simp only[beq_iff_eq]at hpq
  subst hpq;exact .fn _ [] [] rfl (fun j y v h1 h2=>by simp at h1)
 ·simp only[beq_iff_eq]at hpq
  subst hpq;simp only[Opd.ev];split
  ·rename_i v hv;exact(H.glob _ v hv).1.vp_any
  ·exact .und _
 ·cases hpq
theorem nK {d:Option Nat}{v:AV}{t:Nat}:eA (put d v e) t=if d=some t then v else eA e t:=by
 cases d with
 | none=>simp [put]
 | some d=>simp [put,eA]
theorem znI {d:Option Nat}{u:Value}{t:Nat}(hd:∀ i,d=some i→i<a.tmps.size):(a.put d u).tmps.getD t undef=if d=some t then u else a.tmps.getD t undef:=by
 cases d with
 | none=>simp [Act.put]
 | some d=>
  have:=hd d rfl;by_cases h:d=t
  ·subst h;simp [Act.put,this]
  ·simp [Act.put,h,Array.getElem?_setIfInBounds]
theorem znJ {d:Option Nat}{u:Value}:(a.put d u).tmps.size=a.tmps.size:=by
 cases d <;> simp [Act.put]
theorem znH {d:Option Nat}{u:Value}:(a.put d u).defers=a.defers:=by
 cases d <;> rfl
theorem Rel.step (H:Rel gl nt M0 h0 μ0 e h x a w μ){d:Option Nat}(hd:∀ i,d=some i→i<nt){v:AV}{u:Value}{h':aA}{x':Esc}{w':World}{μ':Mu}(H':HeapRel h' μ' w')(E:Evo (imm h μ w) h μ (imm h' μ' w') h' μ')(I:vA h h' x')
 (hv:RAV (imm h' μ' w') h' μ' v u):Rel gl nt M0 h0 μ0 (put d v e) h' (x'++x) (a.put d u) w' μ':=by
 have hd':∀i,d=some i→i<a.tmps.size:=fun i hi=>Nat.lt_of_lt_of_le (hd i hi) H.size
 refine⟨H',fun t=>?_,H.glob.mono E.le,H.evo.trans E,vA.trans H.esc I,by rw[znJ];exact H.size,by rw[znH];exact H.defers⟩
 rw[nK,znI hd'];split
 ·exact hv
 ·exact(H.env t).evo E
theorem Rel.skip (H:Rel gl nt M0 h0 μ0 e h x a w μ){d:Option Nat}(hd:∀ i,d=some i→i<nt):Rel gl nt M0 h0 μ0 (put d .skp e) h x (a.put d undef) w μ:=by
 have:=H.step hd H.heap (Evo.refl _ _ _) (vA.refl h []) (.skp);simpa using this
def TC (P:Program)(gl:Nat→Option PV):Hd:=fun f asv h K=>
 ∀(μ:Mu) (w:World) (vs:List Value),HeapRel h μ w→FF gl (imm h μ w)→asv.length=vs.length→(∀(j:Nat) (y:AV) (v:Value),asv[j]?=some y→vs[j]?=some v→RAV (imm h μ w) h μ y v) →
  ((∀w,(callFunc f vs.toArray).run P w = .ok (.enter f vs.toArray) w) ∧
  Calls P f vs.toArray w fun
   | .returned r,w'=>∃v h' x μ',K v h' x∧RAV (imm h' μ' w') h' μ' v r∧HeapRel h' μ' w'∧Evo (imm h μ w) h μ (imm h' μ' w') h' μ'∧vA h h' x
   | _,_=>False) ∨
  ∃r w' v h' x μ',(callFunc f vs.toArray).run P w = .ok (.value r) w'∧K v h' x∧RAV (imm h' μ' w') h' μ' v r∧HeapRel h' μ' w'∧Evo (imm h μ w) h μ (imm h' μ' w') h' μ'∧vA h h' x
theorem TC.mono (P:Program)(gl:Nat→Option PV):(TC P gl).Mono:=by
 intro f asv h K K' hK H μ w vs h1 h2 h3 h4;rcases H μ w vs h1 h2 h3 h4 with⟨q1,q2⟩|⟨r,w',v,h',x,μ',q1,k,rest⟩
 case inr=>exact .inr ⟨r,w',v,h',x,μ',q1,hK _ _ _ k,rest⟩
 refine .inl ⟨q1,q2.mono fun e w' he=>?_⟩
 cases e with
 | returned r=>obtain⟨v,h',x,μ',k,rest⟩:=he;exact⟨v,h',x,μ',hK _ _ _ k,rest⟩
 | panicked _=>exact he
 | outgrown=>exact he
def z04 (ops:Array Oper)(nt:Nat):Option (Nat×Bool)→Option (Nat×Bool)→Bool
 | none,none=>true
 | some (t,b),some (j,b')=>b==b'&&decide (t<nt)&&(match ops[j]? with|some o=>o.dst==some t|none=>false)
 | _,_=>false
def wH (P:Program)(nt:Nat)(ops:Array Oper)(o:AOp)(p:Oper):Bool:=
 o.dst==p.dst&&(match o.dst with|some d=>decide (d<nt)|none=>true)&&z04 ops nt o.guard p.guard&&match o.op with
  | .call f args=>match tH p.op with
   | some (g,ys)=>CA (.f f) g&&SB args ys
   | none=>false
  | .callv f args=>match tH p.op with
   | some (g,ys)=>CA f g&&SB args ys
   | none=>false
  | .mnext none xs=>match p.op with
   | .next y isS=>!isS&&SB xs [y]
   | _=>false
  | .mnext (some sh) xs=>match ED .append p.op with
   | some ([x',y'],[t,u])=>RE P sh t u&&SB xs [x',y']
   | _=>false
  | op=>MR P op p.op
def IG (P:Program)(nt:Nat)(ops:Array Oper):List AOp→Nat→Bool
 | [],i=>i==ops.size
 | o::r,i=>match ops[i]? with
  | some p=>wH P nt ops o p&&IG P nt ops r (i+1)
  | none=>false
theorem PX (H:Rel gl nt M0 h0 μ0 e h x a w μ){ops:Array Oper}{g:Option (Nat × Bool)}{p:Oper}(hc:z04 ops nt g p.guard=true){b:Bool}(hw:wanted g e=some b):Region.wanted p (yielded ops a.tmps)=b:=by
 unfold Region.wanted;unfold z04 at hc;split at hc
 ·rename_i hg
  rw[hg];simp only[wanted,Option.some.injEq]at hw;exact hw
 ·rename_i t b1 j b2 hg
  rw[hg];simp only[Bool.and_eq_true,beq_iff_eq,decide_eq_true_eq]at hc;obtain⟨⟨rfl,ht⟩,hj⟩:=hc;split at hj
  ·rename_i o ho
   simp only[beq_iff_eq]at hj;have hsz:t<a.tmps.size:=Nat.lt_of_lt_of_le ht H.size
   have hR:=H.env t
   have hget:a.tmps[t]?=some (a.tmps.getD t undef):=by simp [Array.getElem?_eq_getElem hsz,Array.getD,hsz]
   simp only[yielded,ho,Option.bind_some,hj,hget];unfold wanted at hw;dsimp only at hw;split at hw
   ·rename_i c hv
    rw[hv]at hR;rw[hR.p_bool];have hw':=Option.some.inj hw
    rw[←hw'];cases c <;> cases b1 <;> rfl
   ·rename_i hv
    rw[hv]at hR;generalize a.tmps.getD t undef=z at hR;injection hw with hw
    subst hw;cases hR;cases b1 <;> rfl
   ·cases hw
  ·cases hj
 ·cases hc
theorem BG {C:Hd}(hC:∀ f a h K,C f a h K→TC P gl f a h K){ops:Array Oper}{Q:Exit→Act→World→Prop} :
 ∀(aops:List AOp) (i:Nat) {e:List (Nat×AV)} {h:aA} {x:Esc} {K:List (Nat×AV)→aA→Esc→Prop} {a:Act} {w:World} {μ:Mu},IG P nt ops aops i=true→mB C gl aops e h x K→Rel gl nt M0 h0 μ0 e h x a w μ →
  (∀e h x a w μ,K e h x→Rel gl nt M0 h0 μ0 e h x a w μ→Q .normal a w)→wpOps P ops Q (List.range' i (ops.size-i)) a w
 | [],i,e,h,x,K,a,w,μ,hc,H,R,hK=>by
  simp only[IG,beq_iff_eq]at hc;subst hc;simp only[Nat.sub_self,List.range'_zero,wpOps];exact hK _ _ _ _ _ _ H R
 | o::r,i,e,h,x,K,a,w,μ,hc,H,R,hK=>by
  simp only[IG]at hc;split at hc
  ·rename_i p hp
   have hi:i<ops.size:=by
    rcases Nat.lt_or_ge i ops.size with q|q
    ·exact q
    ·rw[Array.getElem?_eq_none q]at hp;cases hp
   simp only[Bool.and_eq_true]at hc;obtain⟨c1,c2⟩:=hc;have hr:List.range' i (ops.size-i)=i::List.range' (i+1) (ops.size-(i+1)):=by
    rw[show ops.size-i=(ops.size-(i+1))+1 by omega,List.range'_succ]
   rw[hr];simp only[wpOps,hp];obtain⟨dst,guard,op⟩:=o;unfold wH at c1;simp only[Bool.and_eq_true,beq_iff_eq]at c1;obtain⟨⟨⟨d1,d2⟩,d3⟩,d4⟩:=c1;have hd:∀j,dst=some j→j<nt:=fun j hj=>by subst hj;simpa using d2
   subst d1;unfold mB at H;dsimp only at H;split at H
   ·rename_i hw
    rw[if_pos (PX R d3 hw)];left;have call:∀(f:Nat) (asv:List AV) (g:Operand) (ys:List Operand) (caps:List AV) (cvs:List Value),tH p.op=some (g,ys)→a.eval g = .func (.func f) #[] cvs.toArray→caps.length=cvs.length →
     (∀(j:Nat) (y:AV) (v:Value),caps[j]?=some y→cvs[j]?=some v→RAV (imm h μ w) h μ y v)→asv.length=ys.length →
     (∀(j:Nat) (y:AV) (v:Value),asv[j]?=some y→(ys.map a.eval)[j]?=some v→RAV (imm h μ w) h μ y v) →
     C f (asv++caps) h (fun v h' x'=>mB C gl r (put p.dst v e) h' (x'++x) K)→p.wp P a w (wpOps P ops Q (List.range' (i+1) (ops.size-(i+1)))) Q:=by
     intro f asv g ys caps cvs hcall hg hcl hcr hal har HC;have hco:=hC _ _ _ _ HC μ w (ys.map a.eval++cvs) R.heap R.glob (by simp [hal,hcl]) (fun j y v hy hv=>by
      rcases Nat.lt_or_ge j asv.length with q|q
      ·rw[List.getElem?_append_left q]at hy
       rw[List.getElem?_append_left (by simpa [←hal] using q)]at hv
       exact har j y v hy hv
      ·rw[List.getElem?_append_right q]at hy
       rw[List.getElem?_append_right (by simpa [←hal] using q)]at hv
       exact hcr _ y v hy (by simpa [←hal] using hv))
     unfold Oper.wp;have harr:(ys.map a.eval++cvs).toArray=(ys.map a.eval).toArray++cvs.toArray:=by simp
     rcases hco with⟨q1,q2⟩|⟨u,w',v,h',x',μ',q1,k1,k2,k3,k4,k5⟩
     case inr=>
      rw[mR hcall hg,←harr,q1,Oper.upon_value];exact BG hC r (i+1) c2 k1 (R.step hd k3 k4 k5 k2) hK
     rw[mR hcall hg,←harr,q1 w];rw[Oper.upon_enter];refine q2.mono fun en w' he=>?_
     cases en with
     | returned u=>
      obtain⟨v,h',x',μ',k1,k2,k3,k4,k5⟩:=he;exact BG hC r (i+1) c2 k1 (R.step hd k3 k4 k5 k2) hK
     | panicked _=>exact he.elim
     | outgrown=>exact he.elim
    cases op;case call f args=>
     dsimp only at H d4;split at d4
     ·rename_i g ys hcall
      simp only[Bool.and_eq_true]at d4;have hg:=R.opds _ _ d4.1
      have hgv:a.eval g = .func (.func f) #[] #[]:=by
       simp only[Opd.ev]at hg;generalize a.eval g=z at hg;cases hg with
       | fn _ _ vs hl hr=>
        have:vs=[]:=List.length_eq_zero_iff.1 (by simpa using hl.symm)
        subst this;rfl
      exact call f _ g ys [] [] hcall hgv rfl (fun j y v h1 h2=>by simp at h1) (by simp [jI d4.2]) (kI R.opds d4.2) (by simpa using H)
     ·cases d4
    case callv f args=>
     dsimp only at H d4;split at d4
     ·rename_i g ys hcall
      simp only[Bool.and_eq_true]at d4;split at H
      ·rename_i fn caps hf
       have hg:=R.opds _ _ d4.1
       rw[hf]at hg;generalize hz:a.eval g=z at hg;cases hg with
       | fn _ _ vs hl hr=>exact call fn _ g ys caps vs hcall hz hl hr (by simp [jI d4.2]) (kI R.opds d4.2) H
      ·exact H.elim
     ·cases d4
    case mnext osh xs=>
     cases osh with
     | some sh=>
      dsimp only at H d4;split at d4
      ·rename_i x' y' t u hb
       simp only[Bool.and_eq_true]at d4;obtain⟨d5,d6⟩:=d4;obtain⟨q1,q2,rfl,d7,d8⟩:=zny d6;split at H
       ·rename_i l hl
        obtain⟨z,hz,hok⟩:=zd2 (ty:=p.type) d5 R.heap (R.opds _ _ d7) (R.opds _ _ d8) hl;obtain⟨cs,hr⟩:=iE (P:=P) (w:=w) hb (ρ:=a.eval);obtain⟨nx,w',μ',r1,r2,r3,r4,r5⟩:=lA.congr hr hok;unfold Oper.wp;rw[r1];rcases r2 with⟨u,rfl,hu⟩|⟨rfl,hv⟩
        ·rw[Oper.upon_value]
         exact BG hC r (i+1) c2 (H.2 z hz) (R.step hd r3 r4 r5 hu) hK
        ·rw[Oper.upon_skip]
         exact BG hC r (i+1) c2 (H.2 z hz) (R.step hd r3 r4 r5 (by rw[hv];exact .und undef)) hK
       ·exact H.elim
      ·cases d4
     | none=>
     dsimp only at H d4;split at d4
     ·rename_i y isS hop
      simp only[Bool.and_eq_true,Bool.not_eq_true']at d4;obtain⟨rfl,d5⟩:=d4;obtain⟨q1,rfl,d6⟩:=znx d5;split at H
      ·rename_i l hl
       obtain⟨z,hz,nx,w',μ',r1,r2,r3,r4,r5⟩:=zmV (ty:=p.type) R.heap (R.opds _ _ d6) hl;unfold Oper.wp;have e1:execOp a.eval p=(do pure (.value (←Instr.next (a.eval y) false p.type)):Sem Next):=by unfold execOp;rw[hop]
       rw[e1,r1];rcases r2 with⟨u,rfl,hu⟩|⟨rfl,hv⟩
       ·rw[Oper.upon_value]
        exact BG hC r (i+1) c2 (H.2 z hz) (R.step hd r3 r4 r5 hu) hK
       ·rw[Oper.upon_skip]
        exact BG hC r (i+1) c2 (H.2 z hz) (R.step hd r3 r4 r5 (by rw[hv];exact .und undef)) hK
      ·exact H.elim
     ·cases d4
    all_goals
     dsimp only at H d4;split at H
     ·rename_i v h' x' ha
      obtain⟨nx,w',μ',r1,r2,r3,r4,r5⟩:=za4 (o:=p) d4 (fun _=>rfl) (fun _=>rfl) R.heap R.opds ha
      unfold Oper.wp;rw[r1];rcases r2 with⟨u,rfl,hu⟩|⟨rfl,rfl⟩
      ·rw[Oper.upon_value]
       exact BG hC r (i+1) c2 H (R.step hd r3 r4 r5 hu) hK
      ·rw[Oper.upon_skip]
       exact BG hC r (i+1) c2 H (R.step hd r3 r4 r5 (.und _)) hK
     ·exact H.elim
   ·rename_i hw
    rw[if_neg (by rw[PX R d3 hw];simp)]
    exact BG hC r (i+1) c2 H (R.skip hd) hK
   ·exact H.elim
  ·cases hc
end Go.Am
end
section
/- The abstract machine,part D: regions whose order is left open. -/
set_option linter.unusedSimpArgs false
set_option linter.unusedVariables false
set_option maxHeartbeats 1000000
namespace Go.Am
variable {h h':aA} {μ μ':Mu} {w w':World} {P:Program} {M M':Mem}
variable {gl:Nat→Option PV} {nt:Nat} {M0:Mem} {h0:aA} {μ0:Mu} {e:List (Nat × AV)} {x:Esc} {a:Act}
theorem z8x {C:Hd}(hC:∀ f a h K,C f a h K→TC P gl f a h K){ops:Array Oper}{Q:Exit→Act→World→Prop}{o:AOp}{p:Oper}{i:Nat}(hp:ops[i]?=some p)(hc:wH P nt ops o p=true)
 {g g':aA} {v:AV} {y:Esc} (R:Rel gl nt M0 h0 μ0 e g x a w μ) (H:ADo C gl o e g v g' y) {K:Act→World→Prop}
 (hK:∀a' w' μ' u,a'=a.put p.dst u→HeapRel g' μ' w'→Evo (imm g μ w) g μ (imm g' μ' w') g' μ'→vA g g' y→RAV (imm g' μ' w') g' μ' v u→K a' w'):wpOp P ops Q i K a w:=by
 unfold wpOp;rw[hp];dsimp only;obtain⟨dst,guard,op⟩:=o;unfold wH at hc;simp only[Bool.and_eq_true,beq_iff_eq]at hc;obtain⟨⟨⟨d1,d2⟩,d3⟩,d4⟩:=hc;subst d1;unfold ADo at H;dsimp only at H;split at H
 ·rename_i hw
  rw[if_pos (PX R d3 hw)];left;have call:∀(f:Nat) (asv:List AV) (gg:Operand) (ys:List Operand) (caps:List AV) (cvs:List Value),tH p.op=some (gg,ys)→a.eval gg = .func (.func f) #[] cvs.toArray→caps.length=cvs.length →
   (∀(j:Nat) (y:AV) (v:Value),caps[j]?=some y→cvs[j]?=some v→RAV (imm g μ w) g μ y v)→asv.length=ys.length →
   (∀(j:Nat) (y:AV) (v:Value),asv[j]?=some y→(ys.map a.eval)[j]?=some v→RAV (imm g μ w) g μ y v) →
   C f (asv++caps) g (fun v1 h1 x1=>v1=v∧h1=g'∧x1=y)→p.wp P a w K Q:=by
   intro f asv gg ys caps cvs hcall hg hcl hcr hal har HC;have hco:=hC _ _ _ _ HC μ w (ys.map a.eval++cvs) R.heap R.glob (by simp [hal,hcl]) (fun j y v hy hv=>by
    rcases Nat.lt_or_ge j asv.length with q|q
    ·rw[List.getElem?_append_left q]at hy
     rw[List.getElem?_append_left (by simpa [←hal] using q)]at hv
     exact har j y v hy hv
    ·rw[List.getElem?_append_right q]at hy
     rw[List.getElem?_append_right (by simpa [←hal] using q)]at hv
     exact hcr _ y v hy (by simpa [←hal] using hv))
   unfold Oper.wp;have harr:(ys.map a.eval++cvs).toArray=(ys.map a.eval).toArray++cvs.toArray:=by simp
   rcases hco with⟨q1,q2⟩|⟨u,w',v1,h1,x1,μ',q1,⟨rfl,rfl,rfl⟩,k2,k3,k4,k5⟩
   case inr=>
    rw[mR hcall hg,←harr,q1,Oper.upon_value];exact hK _ _ μ' u rfl k3 k4 k5 k2
   rw[mR hcall hg,←harr,q1 w];rw[Oper.upon_enter];refine q2.mono fun en w' he=>?_
   cases en with
   | returned u=>
    obtain⟨v1,h1,x1,μ',⟨rfl,rfl,rfl⟩,k2,k3,k4,k5⟩:=he;exact hK _ _ μ' u rfl k3 k4 k5 k2
   | panicked _=>exact he.elim
   | outgrown=>exact he.elim
  cases op;case call f args=>
   dsimp only at H d4;split at d4
   ·rename_i gg ys hcall
    simp only[Bool.and_eq_true]at d4;have hg:=R.opds _ _ d4.1
    have hgv:a.eval gg = .func (.func f) #[] #[]:=by
     simp only[Opd.ev]at hg;generalize a.eval gg=z at hg;cases hg with
     | fn _ _ vs hl hr=>
      have:vs=[]:=List.length_eq_zero_iff.1 (by simpa using hl.symm)
      subst this;rfl
    exact call f _ gg ys [] [] hcall hgv rfl (fun j y v h1 h2=>by simp at h1) (by simp [jI d4.2]) (kI R.opds d4.2) (by simpa using H)
   ·cases d4
  case callv f args=>
   dsimp only at H d4;split at d4
   ·rename_i gg ys hcall
    simp only[Bool.and_eq_true]at d4;split at H
    ·rename_i fn caps hf
     have hg:=R.opds _ _ d4.1
     rw[hf]at hg;generalize hz:a.eval gg=z at hg;cases hg with
     | fn _ _ vs hl hr=>exact call fn _ gg ys caps vs hcall hz hl hr (by simp [jI d4.2]) (kI R.opds d4.2) H
    ·exact H.elim
   ·cases d4
  case mnext sh xs=>exact H.elim
  all_goals
   dsimp only at H d4;obtain⟨nx,w',μ',r1,r2,r3,r4,r5⟩:=za4 (o:=p) d4 (fun _=>rfl) (fun _=>rfl) R.heap R.opds H
   unfold Oper.wp;rw[r1];rcases r2 with⟨u,rfl,hu⟩|⟨rfl,hv⟩
   ·rw[Oper.upon_value]
    exact hK _ _ μ' u rfl r3 r4 r5 hu
   ·rw[Oper.upon_skip]
    exact hK _ _ μ' undef rfl r3 r4 r5 (hv ▸ .und _)
 ·rename_i hw
  obtain⟨rfl,rfl,rfl⟩:=H;rw[if_neg (by rw[PX R d3 hw];simp)]
  exact hK _ _ μ undef rfl R.heap (Evo.refl _ _ _) (vA.refl _ _) .skp
 ·exact H.elim
def AO.hfree:AO→Bool
 | .mv _ | .pick _ _ _ | .build _ _ | .nilchk _ | .bin _ _ _ | .eqa _ _ _ _ | .isnil _ _ _ | .mkif _ | .un _ _ | .mkfn _ _ | .slstr _ _ _ | .faddr _ _ _ | .field _ _ _ | .iaddra _ _ _ _ | .idxa _ _ _ _ | .idxs _ _ | .ext _ _ | .len _ | .lens _ | .mx _ | .mn _=>true
 | _=>false
theorem zJ {α:Type}{F:α→AV}{X:Option α}{h h1 g:aA}{v:AV}{y:Esc}(H:Option.map (fun v=>(F v,h,([]:Esc))) X=some (v,h1,y)):Option.map (fun v=>(F v,g,([]:Esc))) X=some (v,g,[]):=by
 cases X with
 | none=>cases H
 | some z=>simp at H ⊢;exact H.1
theorem nilc {α:Type}{b:Bool}{F:α→AV}{X:Option α}{h h1 g:aA}{u v:AV}{y:Esc}(H:(bif b then some (u,h,([]:Esc)) else Option.map (fun v=>(F v,h,([]:Esc))) X)=some (v,h1,y)):(bif b then some (u,g,([]:Esc)) else Option.map (fun v=>(F v,g,([]:Esc))) X)=some (v,g,[]):=by
 cases b with
 | true=>simp at H ⊢;exact H.1
 | false=>exact zJ H
theorem zlc {op:AO}(hf:op.hfree=true){ev:Opd→AV}{v:AV}{h1:aA}{y:Esc}(H:aop op ev h=some (v,h1,y))(g:aA):aop op ev g=some (v,g,[]):=by
 cases op <;> first
  | (cases hf;done)
  | (simp only[aop]at H ⊢;simp_all;done)
  | (simp only[aop]at H ⊢;exact zJ H)
  | (simp only[aop]at H ⊢;exact nilc H)
  | (simp only[aop]at H ⊢;split at H <;> first|(simp_all;done)|exact zJ H|(split at H <;> first|(simp_all;done)|exact zJ H|(rw[if_pos ‹_›];exact zJ H)|(split at H <;> first|(simp_all;done)|exact zJ H|(rw[if_pos ‹_›];exact zJ H))))
structure Tr (C:Hd) (gl:Nat→Option PV) (ds:List DOp) (m:Nat) (dn:jD) (hs:List aA) (E:Nat→List (Nat × AV)) (H:Nat→aA) (V:Nat→AV) (X Y:Nat→Esc) (i:Nat) (o:DOp):Prop where
 run:ADo C gl o.op (SA (some o.rd) (E (m+i))) (H (m+i)) (V (m+i)) (H (m+i+1)) (Y (m+i))
 env:E (m+i+1)=put o.op.dst (V (m+i)) (E (m+i))
 esc:X (m+i+1)=Y (m+i)++X (m+i)
 still:o.eff=false→H (m+i+1)=H (m+i)∧Y (m+i)=[]
 early:∀k∈o.early,∃g,(k<m∧hs[k]?=some g∨m≤k∧k<m+i∧g=H k)∧ADo C gl o.op (SA (some o.rd) (E (m+i))) g (V (m+i)) g []
 again:∀j∈o.again,(∃q,j<m∧dn[j]?=some q∧ADo C gl q.1 q.2.1 (H (m+i+1)) q.2.2 (H (m+i+1)) []) ∨
  (m≤j∧∃q,ds[j-m]?=some q∧ADo C gl q.op (SA (some q.rd) (E j)) (H (m+i+1)) (V j) (H (m+i+1)) [])
end Go.Am
end
section
/- The abstract machine,part E: regions whose order is left open: from one order tov all. -/
set_option linter.unusedSimpArgs false
set_option linter.unusedVariables false
set_option maxHeartbeats 1000000
namespace Go.Am
variable {h h':aA} {μ μ':Mu} {w w':World} {P:Program} {M M':Mem}
variable {gl:Nat→Option PV} {nt:Nat} {M0:Mem} {h0:aA} {μ0:Mu} {e:List (Nat × AV)} {x:Esc} {a:Act}
theorem zco {C:Hd}:∀(ds:List DOp) (m:Nat) (dn:jD) (hs:List aA) (e:List (Nat×AV)) (h:aA) (x:Esc) (K:List (Nat×AV)→aA→Esc→Prop),VD C gl ds dn hs e h x K→dn.length=m→hs.length=m →
 ∃E H V X Y,E m=e∧H m=h∧X m=x∧(∀i o,ds[i]?=some o→Tr C gl ds m dn hs E H V X Y i o)∧K (E (m+ds.length)) (H (m+ds.length)) (X (m+ds.length))
 | [],m,dn,hs,e,h,x,K,HD,h1,h2=>⟨fun _=>e,fun _=>h,fun _=>.und,fun _=>x,fun _=>[],rfl,rfl,rfl,fun i o ho=>by simp at ho,HD⟩
 | o::r,m,dn,hs,e,h,x,K,HD,h1,h2=>by
  obtain⟨v,h',y,d1,d2,d3,d4,d5⟩:=HD;obtain⟨E,H,V,X,Y,e1,e2,e3,e4,e5⟩:=zco r (m+1) _ _ _ _ _ K d5 (by simp [h1]) (by simp [h2])
  refine⟨fun i=>if i=m then e else E i,fun i=>if i=m then h else H i,fun i=>if i=m then v else V i,fun i=>if i=m then x else X i,fun i=>if i=m then y else Y i,by simp,by simp,by simp,?_,?_⟩
  ·intro i o' ho'
   cases i with
   | zero=>
    simp only[List.getElem?_cons_zero,Option.some.injEq]at ho';subst ho';refine⟨?_,?_,?_,fun hf=>?_,fun k hk=>?_,fun j hj=>?_⟩
    ·simp only[Nat.add_zero,if_true,Nat.succ_ne_self,if_false,e2];exact d1
    ·simp only[Nat.add_zero,if_true,Nat.succ_ne_self,if_false,e1]
    ·simp only[Nat.add_zero,if_true,Nat.succ_ne_self,if_false,e3]
    ·simp only[Nat.add_zero,if_true,Nat.succ_ne_self,if_false,e2];exact d2 hf
    ·obtain⟨g,q1,q2⟩:=d3 k hk
     refine⟨g,.inl ⟨by rw[←h2];exact JA q1,q1⟩,?_⟩
     simp only[Nat.add_zero,if_true];exact q2
    ·obtain⟨q,q1,q2⟩:=d4 j hj
     refine .inl ⟨q,by rw[←h1];exact JA q1,q1,?_⟩
     simp only[Nat.add_zero,Nat.succ_ne_self,if_false,e2];exact q2
   | succ i=>
    simp only[List.getElem?_cons_succ]at ho';have T:=e4 i o' ho'
    have hm2:m+(i+1)=m+1+i:=by omega
    have hm3:¬(m+1+i=m):=by omega
    have hm4:¬(m+1+i+1=m):=by omega
    refine⟨?_,?_,?_,fun hf=>?_,fun k hk=>?_,fun j hj=>?_⟩
    ·simp only[hm2,hm3,hm4,if_false];exact T.run
    ·simp only[hm2,hm3,hm4,if_false];exact T.env
    ·simp only[hm2,hm3,hm4,if_false];exact T.esc
    ·simp only[hm2,hm3,hm4,if_false];exact T.still hf
    ·obtain⟨g,q1,q2⟩:=T.early k hk
     refine⟨g,?_,by simp only[hm2,hm3,if_false];exact q2⟩
     rcases q1 with⟨q1,q3⟩|⟨q1,q3,q4⟩
     ·rcases Nat.lt_or_ge k m with q5|q5
      ·left
       rw[List.getElem?_append_left (by omega)]at q3
       exact⟨q5,q3⟩
      ·have:k=m:=by omega
       subst this;right;rw[List.getElem?_append_right (by omega),h2,Nat.sub_self]at q3
       simp at q3;exact⟨Nat.le_refl _,by omega,by simp [q3]⟩
     ·right
      exact⟨by omega,by omega,by rw[if_neg (by omega)];exact q4⟩
    ·rcases T.again j hj with⟨q,q1,q2,q3⟩|⟨q1,q,q2,q3⟩
     ·rcases Nat.lt_or_ge j m with q5|q5
      ·left
       rw[List.getElem?_append_left (by omega)]at q2
       exact⟨q,q5,q2,by simp only[hm2,hm4,if_false];exact q3⟩
      ·have:j=m:=by omega
       subst this;right;rw[List.getElem?_append_right (by omega),h1,Nat.sub_self]at q2
       simp at q2;subst q2;exact⟨Nat.le_refl _,o,by simp,by simp only[hm2,hm4,if_false,if_true];exact q3⟩
     ·right
      refine⟨by omega,q,?_,?_⟩
      ·rw[show j-m=(j-(m+1))+1 by omega]
       simpa using q2
      ·simp only[hm2,hm4,if_false]
       rw[if_neg (by omega),if_neg (by omega)]
       exact q3
  ·dsimp only
   rw[if_neg (by simp),if_neg (by simp),if_neg (by simp)]
   rw[show m+(o::r).length=m+1+r.length by simp;omega]
   exact e5
def lk (dst:Nat→Option Nat)(V:Nat→AV)(e:List (Nat × AV))(sel:Nat→Bool):Nat→Nat→AV
 | 0,t=>eA e t
 | m+1,t=>if sel m=true∧dst m=some t then V m else lk dst V e sel m t
theorem xU {dst:Nat→Option Nat}{V:Nat→AV}{e:List (Nat × AV)}{s s':Nat→Bool}{t:Nat}:∀(n:Nat),(∀j,j<n→dst j=some t→s j=s' j)→lk dst V e s n t=lk dst V e s' n t
 | 0,_=>rfl
 | n+1,h=>by
  simp only[lk];rw[xU n (fun j hj=>h j (by omega))]
  by_cases hd:dst n=some t
  ·rw[h n (by omega) hd]
  ·simp [hd]
theorem yU {dst:Nat→Option Nat}{V:Nat→AV}{e:List (Nat × AV)}{s:Nat→Bool}{t:Nat}{i:Nat}:∀(n:Nat),i≤n→(∀j,i≤j→j<n→dst j=some t→s j=false)→lk dst V e s n t=lk dst V e s i t
 | 0,hi,_=>by
  have:i=0:=by omega
  subst this;rfl
 | n+1,hi,h=>by
  rcases Nat.lt_or_ge n i with q|q
  ·have:i=n+1:=by omega
   subst this;rfl
  ·simp only[lk]
   rw[if_neg,yU n q (fun j h1 h2=>h j h1 (by omega))]
   rintro⟨h1,h2⟩
   rw[h n q (by omega) h2]at h1
   cases h1
end Go.Am
end
section
/- The abstract machine,part F: regions whose order is left open: sound. -/
set_option linter.unusedSimpArgs false
set_option linter.unusedVariables false
set_option maxHeartbeats 1000000
namespace Go.Am
variable {h h':aA} {μ μ':Mu} {w w':World} {P:Program} {M M':Mem}
variable {gl:Nat→Option PV} {nt:Nat} {M0:Mem} {h0:aA} {μ0:Mu} {e:List (Nat × AV)} {x:Esc} {a:Act} {ops:Array Oper}
def mE (o:Oper):List Nat:=(o.after.toList.filter (Region.binds .any)).map (·.on)
inductive Bef (ops:Array Oper):Nat→Nat→Prop
 | one {k i:Nat} {o:Oper} (ho:ops[i]?=some o) (hk:k∈mE o):Bef ops k i
 | more {k m i:Nat} {o:Oper} (h:Bef ops k m) (ho:ops[i]?=some o) (hm:m∈mE o):Bef ops k i
def QR:List (List Nat)→List (List Nat)→List (List Nat)
 | [],t=>t
 | es::r,t=>QR r (t++[(es++es.flatMap fun m=>t.getD m []).eraseDups])
theorem z7Z:∀ (os:List Oper) (m:Nat) (t:List (List Nat)),ops.toList.drop m=os→t.length=m→(∀ i l,t[i]?=some l→∀ k∈l,Bef ops k i) →
 ∀i l,(QR (os.map mE) t)[i]?=some l→∀k∈l,Bef ops k i
 | [],m,t,_,_,ht=>ht
 | o::r,m,t,ho,hm,ht=>by
  have hom:ops[m]?=some o:=by
   have:(ops.toList.drop m)[0]?=some o:=by rw[ho];rfl
   rw[List.getElem?_drop]at this;simpa using this
  have hr:ops.toList.drop (m+1)=r:=by
   rw[←List.drop_drop,ho];rfl
  simp only[List.map_cons,QR];refine z7Z r (m+1) _ hr (by simp [hm]) (fun i l hi k hk=>?_)
  rcases xG hi with hi|⟨hi,hl⟩
  ·exact ht i l hi k hk
  ·rw[hi,hm]
   rw[hl]at hk;rw[List.mem_eraseDups]at hk;rcases List.mem_append.1 hk with hk|hk
   ·exact .one hom hk
   ·obtain⟨q,q1,q2⟩:=List.mem_flatMap.1 hk
    cases hq:t[q]? with
    | none=>simp [List.getD,hq]at q2
    | some l'=>
     simp [List.getD,hq]at q2;exact .more (ht q l' hq k q2) hom q1
def VQ (tab:List (List Nat))(i j:Nat)(p q:DOp):Bool:=
 (tab.getD j []).contains i ||
  (!(p.eff&&q.eff)&&(match p.op.dst with|some t=>q.op.dst != some t && !q.rd.contains t|none=>true)&&(match q.op.dst with|some t=>!p.rd.contains t|none=>true) &&
   (!(q.eff && !p.eff)||p.op.op.hfree||q.again.contains i)&&(!(p.eff && !q.eff)||q.op.op.hfree||q.early.contains i))
def tX (tab:List (List Nat))(j:Nat)(q:DOp):List DOp→Nat→Bool
 | [],_=>true
 | p::r,i=>decide (j≤i)||(VQ tab i j p q&&tX tab j q r (i+1))
def wX (tab:List (List Nat))(all:List DOp):List DOp→Nat→Bool
 | [],_=>true
 | q::r,j=>tX tab j q all 0&&wX tab all r (j+1)
def dU:List Oper→Nat→Bool
 | [],_=>true
 | o::r,i=>(mE o).all (fun k=>decide (k<i))&&dU r (i+1)
def KR (P:Program)(nt:Nat)(ops:Array Oper)(ds:List DOp):Bool:=
 IG P nt ops (ds.map (·.op)) 0&&dU ops.toList 0&&wX (QR (ops.toList.map mE) []) ds ds 0
theorem zaY {tab:List (List Nat)}{j:Nat}{q:DOp}:∀{l:List DOp} {i:Nat},tX tab j q l i=true→∀k p,l[k]?=some p→i+k<j→VQ tab (i+k) j p q=true
 | [],i,_,k,p,h,_=>by simp at h
 | p0::r,i,h,k,p,hk,hlt=>by
  simp only[tX,Bool.or_eq_true,decide_eq_true_eq,Bool.and_eq_true]at h;rcases h with h|⟨h1,h2⟩
  ·omega
  ·cases k with
   | zero=>simp at hk;subst hk;exact h1
   | succ k=>
    have:=zaY h2 k p (by simpa using hk) (by omega)
    rwa [show i+1+k=i+(k+1) by omega]at this
theorem zbb {tab:List (List Nat)}{all:List DOp}:∀{l:List DOp} {j:Nat},wX tab all l j=true→∀k q,l[k]?=some q→∀i p,all[i]?=some p→i<j+k→VQ tab i (j+k) p q=true
 | [],j,_,k,q,h,_,_,_,_=>by simp at h
 | q0::r,j,h,k,q,hk,i,p,hp,hlt=>by
  simp only[wX,Bool.and_eq_true]at h;cases k with
  | zero=>
   simp at hk;subst hk;have:=zaY h.1 i p hp (by simpa using hlt)
   simpa using this
  | succ k=>
   have:=zbb h.2 k q (by simpa using hk) i p hp (by omega)
   rwa [show j+1+k=j+(k+1) by omega]at this
theorem z8K:∀ {l:List Oper} {i:Nat},dU l i=true→∀ j o,l[j]?=some o→∀ k∈mE o,k<i+j
 | [],_,_,j,o,h,_,_=>by simp at h
 | o0::r,i,h,j,o,hj,k,hk=>by
  simp only[dU,Bool.and_eq_true,List.all_eq_true,decide_eq_true_eq]at h;cases j with
  | zero=>simp at hj;subst hj;simpa using h.1 k hk
  | succ j=>have:=z8K h.2 j o (by simpa using hj) k hk;omega
theorem z7R:∀ {l:List AOp} {i:Nat},IG P nt ops l i=true→i+l.length=ops.size∧∀ j o,l[j]?=some o→∃ p,ops[i+j]?=some p∧wH P nt ops o p=true
 | [],i,h=>by simp [IG]at h;exact⟨by simpa using h,fun j o hj=>by simp at hj⟩
 | o0::r,i,h=>by
  simp only[IG]at h;split at h
  ·rename_i p hp
   simp only[Bool.and_eq_true]at h;obtain⟨h1,h2⟩:=z7R h.2;refine⟨by simp;omega,fun j o hj=>?_⟩
   cases j with
   | zero=>simp at hj;subst hj;exact⟨p,hp,h.1⟩
   | succ j=>
    obtain⟨p',q1,q2⟩:=h2 j o (by simpa using hj)
    exact⟨p',by rw[←q1];congr 1;omega,q2⟩
  ·cases h
theorem zgf {o:AOp}{p:Oper}(h:wH P nt ops o p=true):o.dst=p.dst∧∀j,o.dst=some j→j<nt:=by
 unfold wH at h;simp only[Bool.and_eq_true,beq_iff_eq]at h;obtain⟨⟨⟨d1,d2⟩,d3⟩,d4⟩:=h;exact⟨d1,fun j hj=>by rw[hj]at d2;simpa using d2⟩
theorem zdq (l:List Nat)(e:List (Nat × AV))(t:Nat):eA (SA (some l) e) t=if t∈l then eA e t else .und:=by
 simp only[SA];induction l with
 | nil=>simp [eA]
 | cons k r ih=>
  simp only[List.map_cons,eA];by_cases hk:k=t
  ·subst hk;simp
  ·rw[if_neg hk,ih]
   have:¬t=k:=fun h=>hk h.symm
   simp [this]
def Down (ops:Array Oper)(sel:Nat→Bool):Prop:=∀i o,ops[i]?=some o→sel i=true→∀k∈mE o,sel k=true
theorem Bef.down {sel:Nat→Bool}(hD:Down ops sel){k i:Nat}(hb:Bef ops k i):sel i=true→sel k=true:=by
 induction hb with
 | one ho hk=>exact fun hi=>hD _ _ ho hi _ hk
 | more _ ho hm ih=>exact fun hi=>ih (hD _ _ ho hi _ hm)
theorem Bef.ready {sel:Nat→Bool}(hD:Down ops sel){k i:Nat}(hb:Bef ops k i)(hr:∀ o,ops[i]?=some o→∀ k∈mE o,sel k=true):sel k=true:=by
 cases hb with
 | one ho hk=>exact hr _ ho _ hk
 | more hb ho hm=>exact hb.down hD (hr _ ho _ hm)
end Go.Am
end
section
/- The abstract machine,part G: regions whose order is left open: whatever the order. -/
set_option linter.unusedSimpArgs false
set_option linter.unusedVariables false
set_option maxHeartbeats 1000000
namespace Go.Am
variable {h h':aA} {μ μ':Mu} {w w':World} {P:Program} {M M':Mem}
variable {gl:Nat→Option PV} {nt:Nat} {M0:Mem} {h0:aA} {μ0:Mu} {e:List (Nat × AV)} {x:Esc} {a:Act} {ops:Array Oper}
theorem zn1 {tab:List (List Nat)}(ht:∀ i l,tab[i]?=some l→∀ k∈l,Bef ops k i){i j:Nat}{p q:DOp}(h:VQ tab i j p q=true) :
 Bef ops i j∨(¬(p.eff=true∧q.eff=true)∧(∀t,p.op.dst=some t→q.op.dst≠some t∧t∉q.rd)∧(∀t,q.op.dst=some t→t∉p.rd) ∧
  (q.eff=true→p.eff=false→p.op.op.hfree=true∨i∈q.again)∧(p.eff=true→q.eff=false→q.op.op.hfree=true∨i∈q.early)):=by
 unfold VQ at h;rw[Bool.or_eq_true]at h;rcases h with h|h
 ·left
  cases hq:tab[j]? with
  | none=>simp [List.getD,hq]at h
  | some l=>simp [List.getD,hq]at h;exact ht j l hq i h
 ·right
  simp only[Bool.and_eq_true,Bool.not_eq_true',Bool.or_eq_true]at h;obtain⟨⟨⟨⟨h1,h2⟩,h3⟩,h4⟩,h5⟩:=h;refine⟨fun hab=>by(rw[hab.1,hab.2]at h1;cases h1),fun t ht=>?_,fun t ht=>?_,fun ha hb=>?_,fun ha hb=>?_⟩
  ·rw[ht]at h2
   simpa using h2
  ·rw[ht]at h3
   simpa using h3
  ·rw[ha,hb]at h4
   simpa using h4
  ·rw[ha,hb]at h5
   simpa using h5
theorem z8N {C:Hd}{ds:List DOp}{E:Nat→List (Nat × AV)}{H:Nat→aA}{V:Nat→AV}{X Y:Nat→Esc}(T:∀ i o,ds[i]?=some o→Tr C gl ds 0 [] [] E H V X Y i o)(e0:E 0=e)(t:Nat) :
 ∀i,i≤ds.length→eA (E i) t=lk (fun i=>(ds[i]?).bind (·.op.dst)) V e (fun _=>true) i t
 | 0,_=>by simp [lk,e0]
 | i+1,hi=>by
  have ho:=List.getElem?_eq_getElem (show i<ds.length by omega)
  have hT:=(T i _ ho).env
  simp only[Nat.zero_add]at hT;rw[hT,nK,z8N T e0 t i (by omega)]
  simp only[lk,ho,Option.bind_some,true_and]
theorem zcg {C:Hd}{ds:List DOp}{E:Nat→List (Nat × AV)}{H:Nat→aA}{V:Nat→AV}{X Y:Nat→Esc}(T:∀ i o,ds[i]?=some o→Tr C gl ds 0 [] [] E H V X Y i o){c:Nat} :
 ∀d,c+d≤ds.length→(∀k o,c≤k→k<c+d→ds[k]?=some o→o.eff=false)→H (c+d)=H c∧X (c+d)=X c
 | 0,_,_=>⟨rfl,rfl⟩
 | d+1,hd,hn=>by
  have ho:=List.getElem?_eq_getElem (show c+d<ds.length by omega)
  have hT:=T _ _ ho
  have hs:=hT.still (hn _ _ (by omega) (by omega) ho)
  obtain⟨h1,h2⟩:=zcg T d (by omega) (fun k o h1 h2 h3=>hn k o h1 (by omega) h3)
  simp only[Nat.zero_add]at hs;have he:=hT.esc
  simp only[Nat.zero_add]at he;rw[hs.2]at he;exact⟨by rw[←Nat.add_assoc,hs.1,h1],by rw[←Nat.add_assoc,he,List.nil_append,h2]⟩
theorem zcA {C:Hd}{o:AOp}(hf:o.op.hfree=true){v:AV}{y:Esc}(H:ADo C gl o e h v h' y)(g:aA):ADo C gl o e g v g []:=by
 obtain⟨dst,guard,op⟩:=o;unfold ADo at H ⊢;dsimp only at H hf ⊢;split at H
 ·cases op
  case call f args=>cases hf
  case callv f args=>cases hf
  case mnext sh xs=>cases hf
  all_goals exact zlc hf H g
 ·exact⟨H.1,rfl,rfl⟩
 ·exact H.elim
theorem z3k {p:Nat→Prop}{c i:Nat}(h:∃ k,c≤k∧k<i∧p k):∃k,c≤k∧k<i∧p k∧∀k',c≤k'→k'<k→¬p k':=by
 obtain⟨k,h1,h2,h3⟩:=h;induction k using Nat.strongRecOn with
 | _ k ih=>
  by_cases hq:∃k',c≤k'∧k'<k∧p k'
  ·obtain⟨k',q1,q2,q3⟩:=hq
   exact ih k' q2 q1 (by omega) q3
  ·exact⟨k,h1,h2,h3,fun k' q1 q2 q3=>hq ⟨k',q1,q2,q3⟩⟩
theorem z8z {C:Hd}(hC:∀ f a h K,C f a h K→TC P gl f a h K){ds:List DOp}{K:List (Nat × AV)→aA→Esc→Prop}{Q:Exit→Act→World→Prop}(hc:KR P nt ops ds=true)
 (HD:VD C gl ds [] [] e h x K) (R:Rel gl nt M0 h0 μ0 e h x a w μ) (hK:∀e h x a w μ,K e h x→Rel gl nt M0 h0 μ0 e h x a w μ→Q .normal a w) :
 wpAny P .any ops Q ops.size (Array.replicate ops.size false) a w:=by
 unfold KR at hc;simp only[Bool.and_eq_true]at hc;obtain⟨⟨c1,c2⟩,c3⟩:=hc;obtain⟨c4,c5⟩:=z7R c1;have hn:ds.length=ops.size:=by simpa using c4
 have htab:=z7Z (ops:=ops) ops.toList 0 [] (by simp) rfl (fun i l hi=>by simp at hi)
 have hpair:∀(i j:Nat) (p q:DOp),ds[i]?=some p→ds[j]?=some q→i<j→Bef ops i j∨(¬(p.eff=true∧q.eff=true)∧(∀t,p.op.dst=some t→q.op.dst≠some t∧t∉q.rd)∧(∀t,q.op.dst=some t→t∉p.rd) ∧
  (q.eff=true→p.eff=false→p.op.op.hfree=true∨i∈q.again)∧(p.eff=true→q.eff=false→q.op.op.hfree=true∨i∈q.early)):=fun i j p q hp hq hlt=>by
  have:=zbb c3 j q hq i p hp (by omega)
  rw[Nat.zero_add]at this;exact zn1 htab this
 have hop:∀(i:Nat) (o:DOp),ds[i]?=some o→∃p,ops[i]?=some p∧wH P nt ops o.op p=true:=fun i o ho=>by
  obtain⟨p,q1,q2⟩:=c5 i o.op (by simp [ho])
  rw[Nat.zero_add]at q1;exact⟨p,q1,q2⟩
 obtain⟨E,H,V,X,Y,e1,e2,e3,T,e5⟩:=zco ds 0 [] [] e h x K HD rfl rfl;simp only[Nat.zero_add]at e5;have hE:=fun t i hi=>z8N (e:=e) T e1 t i hi
 let dst:Nat→Option Nat:=fun i=>(ds[i]?).bind (·.op.dst)
 have hdst:∀(i:Nat) (o:DOp),ds[i]?=some o→dst i=o.op.dst:=fun i o ho=>by show(ds[i]?).bind _=_;rw[ho];rfl
 have hdst':∀(i t:Nat),dst i=some t→∃o,ds[i]?=some o∧o.op.dst=some t:=fun i t ht=>by
  cases ho:ds[i]? with
  | none=>exact absurd ht (by show(ds[i]?).bind _≠_;rw[ho];simp)
  | some o=>exact⟨o,rfl,by rw[←hdst i o ho];exact ht⟩
 have hstill:∀c i,c≤i→i≤ds.length→(∀(k:Nat) (o:DOp),c≤k→k<i→ds[k]?=some o→o.eff=false)→H i=H c∧X i=X c:=fun c i hci hi hk=>by
  have:=zcg T (c:=c) (i-c) (by omega) (fun k o h1 h2 h3=>hk k o h1 (by omega) h3)
  rwa [show c+(i-c)=i by omega]at this
 have done:∀(listed:Array Bool) (c:Nat) (en:List (Nat×AV)) (a:Act) (w:World) (μ:Mu),(∀i,i<ops.size→listed.getD i false=true)→(∀(k:Nat) (o:DOp),ds[k]?=some o→o.eff=true→(listed.getD k false=true↔k<c))→c≤ds.length →
  (∀t,eA en t=lk dst V e (fun i=>listed.getD i false) ds.length t)→Rel gl nt M0 h0 μ0 en (H c) (X c) a w μ→Q .normal a w:=by
  intro listed c en a w μ hall hce hcl hen R;have hHn:=hstill c ds.length hcl (Nat.le_refl _) (fun k o h1 h2 h3=>by
   cases hb:o.eff with
   | false=>rfl
   | true=>have:=(hce k o h3 hb).1 (hall k (by omega));omega)
  refine hK _ _ _ a w μ e5 ?_;rw[hHn.1,hHn.2];refine⟨R.heap,fun t=>?_,R.glob,R.evo,R.esc,R.size,R.defers⟩
  rw[hE t _ (Nat.le_refl _)];have:=hen t;rw[xU (s':=fun _=>true) ds.length (fun j hj _=>hall j (by omega))]at this
  rw[←this];exact R.env t
 have key:∀(fuel:Nat) (listed:Array Bool) (U:List Nat) (c:Nat) (en:List (Nat×AV)) (a:Act) (w:World) (μ:Mu),listed.size=ops.size→(∀i,i<ops.size→listed.getD i false=false→i∈U)→U.length≤fuel →
  Down ops (fun i=>listed.getD i false)→(∀(k:Nat) (o:DOp),ds[k]?=some o→o.eff=true→(listed.getD k false=true↔k<c))→(c=0∨∃(k:Nat) (o:DOp),c=k+1∧ds[k]?=some o∧o.eff=true)→c≤ds.length →
  (∀t,eA en t=lk dst V e (fun i=>listed.getD i false) ds.length t)→Rel gl nt M0 h0 μ0 en (H c) (X c) a w μ→wpAny P .any ops Q fuel listed a w:=by
  intro fuel;induction fuel with
  | zero=>
   intro listed U c en a w μ hsz hU hUl hD hce hc0 hcl hen R;have hall:∀i,i<ops.size→listed.getD i false=true:=fun i hi=>by
    cases hb:listed.getD i false with
    | true=>rfl
    | false=>
     have:=hU i hi hb;have hnil:U=[]:=List.length_eq_zero_iff.1 (by omega)
     rw[hnil]at this;cases this
   refine⟨?_,done listed c en a w μ hall hce hcl hen R⟩;rw[List.eq_nil_iff_forall_not_mem];intro i hi;rw[mem_ready]at hi;obtain⟨q1,o,q2,_⟩:=hi;have hi:i<ops.size:=(Array.getElem?_eq_some_iff.1 q2).1
   have:=hall i hi;simp [Array.getD,hsz,hi]at q1 this;rw[q1]at this;cases this
  | succ fuel ih=>
   intro listed U c en a w μ hsz hU hUl hD hce hc0 hcl hen R;refine⟨fun hr=>?_,fun i hi=>?_⟩
   ·have hall:∀i,i<ops.size→listed.getD i false=true:=by
     intro i;induction i using Nat.strongRecOn with
     | _ i ihi=>
      intro hi;cases hb:listed.getD i false with
      | true=>rfl
      | false=>
       have hm:i∈Region.ready .any ops listed:=by
        rw[mem_ready];refine⟨by simp [Array.getD,hsz,hi]at hb ⊢;exact hb,ops[i],Array.getElem?_eq_getElem hi,fun ed hed hbd=>?_⟩
        have hk:ed.on∈mE ops[i]:=List.mem_map.2 ⟨ed,List.mem_filter.2 ⟨by simpa using hed,hbd⟩,rfl⟩
        have hlt:=z8K c2 i ops[i] (by simp [hi]) ed.on hk
        exact ihi ed.on (by omega) (by omega)
       rw[hr]at hm;cases hm
    exact done listed c en a w μ hall hce hcl hen R
   ·rw[mem_ready]at hi
    obtain⟨q1,p,hp,q3⟩:=hi;have hin:i<ops.size:=(Array.getElem?_eq_some_iff.1 hp).1
    have hnl:listed.getD i false=false:=by
     simp [Array.getD,hsz,hin]at q1 ⊢;exact q1
    have hready:∀o,ops[i]?=some o→∀k∈mE o,listed.getD k false=true:=by
     intro o ho k hk;rw[hp]at ho;injection ho with ho
     subst ho;obtain⟨ed,q4,rfl⟩:=List.mem_map.1 hk;obtain⟨q5,q6⟩:=List.mem_filter.1 q4;exact q3 ed (by simpa using q5) q6
    have ho:=List.getElem?_eq_getElem (show i<ds.length by omega)
    generalize ds[i]'(by omega)=o at ho
    obtain⟨p',hp',hck⟩:=hop i o ho;rw[hp]at hp';injection hp' with hp'
    subst hp';obtain⟨hd1,hd2⟩:=zgf hck;have hT:=T i o ho
    have hrun:=hT.run
    simp only[Nat.zero_add]at hrun;have before:∀(k:Nat) (q:DOp),ds[k]?=some q→k<i→Bef ops k i→listed.getD k false=true:=fun k q _ _ hb=>hb.ready hD hready
    have behind:∀(k:Nat),Bef ops i k→listed.getD k false=false:=fun k hb=>by
     cases hs:listed.getD k false with
     | false=>rfl
     | true=>have:=hb.down hD hs;rw[hnl]at this;cases this
    have Renv:Rel gl nt M0 h0 μ0 (SA (some o.rd) (E i)) (H c) (X c) a w μ:=by
     refine⟨R.heap,fun t=>?_,R.glob,R.evo,R.esc,R.size,R.defers⟩
     rw[zdq];split
     ·rename_i htr
      have h1:=hen t
      rw[yU (i:=i) ds.length (by omega) (fun j hij hj hdj=>by
       obtain⟨q,hq,hqd⟩:=hdst' j t hdj;rcases Nat.eq_or_lt_of_le hij with hh|hh
       ·subst hh;exact hnl
       ·rcases hpair i j o q ho hq hh with hb|⟨_,_,k3,_⟩
        ·exact behind j hb
        ·exact absurd htr (k3 t hqd)),xU (s':=fun _=>true) i (fun j hj hdj=>by
       obtain⟨q,hq,hqd⟩:=hdst' j t hdj;rcases hpair j i q o hq ho hj with hb|⟨_,k2,_⟩
       ·exact before j q hq hj hb
       ·exact absurd htr (k2 t hqd).2),←hE t i (by omega)]at h1
      rw[←h1];exact R.env t
     ·exact .und _
    have next:∀(c':Nat) (a':Act) (w':World) (μ':Mu) (u:Value),a'=a.put p.dst u→(∀(k:Nat) (q:DOp),ds[k]?=some q→q.eff=true→((listed.setIfInBounds i true).getD k false=true↔k<c'))→(c'=0∨∃(k:Nat) (o:DOp),c'=k+1∧ds[k]?=some o∧o.eff=true)→c'≤ds.length →
     (∀e',(∀t,eA e' t=if o.op.dst=some t then V i else eA en t)→Rel gl nt M0 h0 μ0 e' (H c') (X c') a' w' μ')→wpAny P .any ops Q fuel (listed.setIfInBounds i true) a' w':=by
     intro c' a' w' μ' u ha k1 k2 k3 k4;refine ih (listed.setIfInBounds i true) (U.erase i) c' (put o.op.dst (V i) en) a' w' μ' (by simp [hsz]) (fun j hj hb=>?_) ?_ ?_ k1 k2 k3 (fun t=>?_) (k4 _ (fun t=>nK))
     ·by_cases hji:i=j
      ·subst hji
       simp [Array.getD,hsz,hin]at hb
      ·rw[getD_set_ne false hji]at hb
       exact(List.mem_erase_of_ne (fun h=>hji h.symm)).2 (hU j hj hb)
     ·have:=List.length_erase_of_mem (hU i hin hnl)
      omega
     ·intro j q hq hs k hk
      by_cases hji:i=j
      ·subst hji
       exact getD_set_true (hready q hq k hk)
      ·have hs':listed.getD j false=true:=by
        have:=hs;simp only[getD_set_ne false hji]at this;exact this
       exact getD_set_true (hD j q hq hs' k hk)
     ·rw[nK]
      by_cases hdt:o.op.dst=some t
      ·rw[if_pos hdt]
       rw[yU (i:=i+1) ds.length (by omega) (fun j hij hj hdj=>by
        obtain⟨q,hq,hqd⟩:=hdst' j t hdj;show(listed.setIfInBounds i true).getD j false=false
        rw[getD_set_ne false (show i≠j by omega)]
        rcases hpair i j o q ho hq (by omega) with hb|⟨_,k2,_⟩
        ·exact behind j hb
        ·exact absurd hqd (k2 t hdt).1)]
       simp only[lk];rw[if_pos ⟨by simp [Array.getD,hsz,hin],by rw[hdst i o ho];exact hdt⟩]
      ·rw[if_neg hdt,hen t]
       refine xU _ (fun j hj hdj=>?_)
       have hji:i≠j:=by
        intro hji;subst hji;rw[hdst i o ho]at hdj;exact hdt hdj
       exact(getD_set_ne false hji).symm
    cases heff:o.eff with
    | true=>
     have hci:c≤i:=by
      rcases hc0 with hc0|⟨k,q,hck2,hq,hqe⟩
      ·omega
      ·rcases Nat.lt_trichotomy k i with hh|hh|hh
       ·omega
       ·subst hh
        have:=(hce k q hq hqe).2 (by omega)
        rw[hnl]at this;cases this
       ·rcases hpair i k o q ho hq hh with hb|⟨k1,_⟩
        ·have:=behind k hb
         have h2:=(hce k q hq hqe).2 (by omega)
         rw[this]at h2;cases h2
        ·exact absurd ⟨heff,hqe⟩ k1
     have hbe:∀(k:Nat) (q:DOp),k<i→ds[k]?=some q→q.eff=true→k<c:=fun k q hk hq hqe=>by
      rcases hpair k i q o hq ho hk with hb|⟨k1,_⟩
      ·exact(hce k q hq hqe).1 (before k q hq hk hb)
      ·exact absurd ⟨hqe,heff⟩ k1
     have hHi:=hstill c i hci (by omega) (fun k q h1 h2 h3=>by
      cases hb:q.eff with
      | false=>rfl
      | true=>have:=hbe k q h2 h3 hb;omega)
     rw[hHi.1]at hrun;refine z8x hC hp hck Renv hrun (fun a' w' μ' u ha hH hEv hI hV=>?_)
     refine next (i+1) a' w' μ' u ha (fun k q hq hqe=>?_) (.inr ⟨i,o,rfl,ho,heff⟩) (by omega) (fun e' he'=>?_)
     ·by_cases hki:i=k
      ·subst hki
       simp [Array.getD,hsz,hin]
      ·rw[getD_set_ne false hki,hce k q hq hqe]
       constructor
       ·intro _;omega
       ·intro _;exact hbe k q (by omega) hq hqe
     ·have hst:=R.step (d:=p.dst) (fun j hj=>hd2 j (by rw[hd1];exact hj)) hH hEv hI hV
      have hX:X (i+1)=Y i++X c:=by have:=hT.esc;simp only[Nat.zero_add]at this;rw[this,hHi.2]
      rw[hX,ha];refine⟨hst.heap,fun t=>?_,hst.glob,hst.evo,hst.esc,hst.size,hst.defers⟩
      have:=hst.env t;rw[nK,←hd1]at this;rw[he' t];rw[hd1]at this ⊢;exact this
    | false=>
     have hs:=hT.still heff
     simp only[Nat.zero_add]at hs;rw[hs.1,hs.2]at hrun;have hdo:ADo C gl o.op (SA (some o.rd) (E i)) (H c) (V i) (H c) []:=by
      by_cases hf:o.op.op.hfree=true
      ·exact zcA hf hrun _
      ·rcases Nat.lt_or_ge i c with hic|hci
       ·rcases hc0 with hc0|⟨k,q,hck2,hq,hqe⟩
        ·omega
        ·have hik:i<k:=by
          rcases Nat.eq_or_lt_of_le (show i≤k by omega) with hh|hh
          ·subst hh
           rw[ho]at hq;injection hq with hq
           subst hq;rw[heff]at hqe;cases hqe
          ·exact hh
         rcases hpair i k o q ho hq hik with hb|⟨_,_,_,k4,_⟩
         ·have:=behind k hb
          have h2:=(hce k q hq hqe).2 (by omega)
          rw[this]at h2;cases h2
         ·rcases k4 hqe heff with k4|k4
          ·exact absurd k4 hf
          ·rcases(T k q hq).again i k4 with⟨_,h1,_⟩|⟨_,q',h1,h2⟩
           ·omega
           ·simp only[Nat.sub_zero]at h1
            rw[ho]at h1;injection h1 with h1
            subst h1;simp only[Nat.zero_add]at h2;rw[hck2];exact h2
       ·by_cases hk:∃k,c≤k∧k<i∧∃q,ds[k]?=some q∧q.eff=true
        ·obtain⟨k,hck2,hki,⟨q,hq,hqe⟩,hmin⟩:=z3k hk
         have hHk:=hstill c k hck2 (by omega) (fun k' q' h1 h2 h3=>by
          cases hb:q'.eff with
          | false=>rfl
          | true=>exact absurd ⟨q',h3,hb⟩ (hmin k' h1 h2))
         rcases hpair k i q o hq ho hki with hb|⟨_,_,_,_,k5⟩
         ·have:=(hce k q hq hqe).1 (before k q hq hki hb)
          omega
         ·rcases k5 hqe heff with k5|k5
          ·exact absurd k5 hf
          ·obtain⟨g,h1,h2⟩:=hT.early k k5
           simp only[Nat.zero_add]at h1 h2;rcases h1 with⟨h1,_⟩|⟨_,_,h1⟩
           ·omega
           ·rw[h1,hHk.1]at h2
            exact h2
        ·have hHi:=hstill c i hci (by omega) (fun k q h1 h2 h3=>by
          cases hb:q.eff with
          | false=>rfl
          | true=>exact absurd ⟨k,h1,h2,q,h3,hb⟩ hk)
         rw[hHi.1]at hrun;exact hrun
     refine z8x hC hp hck Renv hdo (fun a' w' μ' u ha hH hEv hI hV=>?_)
     refine next c a' w' μ' u ha (fun k q hq hqe=>?_) hc0 hcl (fun e' he'=>?_)
     ·have hki:i≠k:=by
       intro hki;subst hki;rw[ho]at hq;injection hq with hq
       subst hq;rw[heff]at hqe;cases hqe
      rw[getD_set_ne false hki];exact hce k q hq hqe
     ·have hst:=R.step (d:=p.dst) (fun j hj=>hd2 j (by rw[hd1];exact hj)) hH hEv hI hV
      rw[List.nil_append]at hst;rw[ha];refine⟨hst.heap,fun t=>?_,hst.glob,hst.evo,hst.esc,hst.size,hst.defers⟩
      have:=hst.env t;rw[nK,←hd1]at this;rw[he' t];rw[hd1]at this ⊢;exact this
 refine key ops.size _ (List.range ops.size) 0 e a w μ (by simp) (fun i hi _=>List.mem_range.2 hi) (by simp) ?_ ?_ (.inl rfl) (Nat.zero_le _) ?_ ?_
 ·intro i o ho hs
  have hi:i<ops.size:=(Array.getElem?_eq_some_iff.1 ho).1
  simp [Array.getD,hi]at hs
 ·intro k o ho _
  have hi:k<ops.size:=by rw[←hn];exact JA ho
  simp [Array.getD,hi]
 ·intro t
  have:lk dst V e (fun i=>(Array.replicate ops.size false).getD i false) ds.length t=lk dst V e (fun i=>(Array.replicate ops.size false).getD i false) 0 t:=
   yU ds.length (Nat.zero_le _) (fun j _ hj _=>by simp [Array.getD])
  rw[this];rfl
 ·rw[e2,e3];exact R
end Go.Am
end
section
/- The abstract machine,part H: two operations whose order is left open and that disturb each other: both ways. -/
set_option linter.all false
namespace Go.Am
variable {P:Program} {gl:Nat→Option PV} {nt:Nat} {M0:Mem} {h0:aA} {μ0:Mu} {h:aA} {μ:Mu} {e:List (Nat × AV)} {x0:Esc} {ops:Array Oper} {Q:Exit→Act→World→Prop} {ix:List Nat} {x y:Nat}
def EU:List Nat→Bool
 | []=>true
 | a::r=>!r.contains a&&EU r
theorem zaz:∀ {l:List Nat},EU l=true→l.Nodup
 | [],_=>List.nodup_nil
 | a::r,h=>by
  simp only[EU,Bool.and_eq_true,Bool.not_eq_true']at h;refine List.nodup_cons.2 ⟨fun hm=>?_,zaz h.2⟩
  have:=h.1;simp [hm]at this
def QW (ops:Array Oper)(ix:List Nat)(x y i:Nat):Oper:=
 let o:=(ops[i]?).getD default
 ⟨o.dst,o.op,o.type,o.pos,((mE o++bif Nat.beq i y then [x] else []).map fun k=>⟨ix.findIdx (Nat.beq k),.data⟩).toArray,o.guard⟩
def pE (ops:Array Oper)(ix:List Nat)(x y:Nat):Array Oper:=(ix.map (QW ops ix x y)).toArray
structure PermOk (ops:Array Oper) (ix:List Nat) (x y:Nat):Prop where
 len:ix.length=ops.size
 lt:∀i∈ix,i<ops.size
 all:∀i,i<ops.size→i∈ix
 nd:ix.Nodup
 gd:∀(i:Nat) (o:Oper),ops[i]?=some o→o.guard=none
 ed:∀(i:Nat) (o:Oper),ops[i]?=some o→∀k∈mE o,k<ops.size
 xl:x<ops.size
theorem PermOk.inv (H:PermOk ops ix x y){i:Nat}(hi:i<ops.size):ix.findIdx (Nat.beq i)<ops.size∧ix[ix.findIdx (Nat.beq i)]?=some i:=by
 have hm:=H.all i hi
 have hl:ix.findIdx (Nat.beq i)<ix.length:=List.findIdx_lt_length.2 ⟨i,hm,Nat.beq_refl i⟩
 refine⟨by rw[←H.len];exact hl,?_⟩
 rw[List.getElem?_eq_getElem hl];have:=List.findIdx_getElem (w:=hl);exact congrArg some (Nat.eq_of_beq_eq_true this).symm
theorem z5s (H:PermOk ops ix x y){k i:Nat}(hk:ix[k]?=some i):∃o,ops[i]?=some o∧(pE ops ix x y)[k]?=some (QW ops ix x y i)∧QW ops ix x y i=⟨o.dst,o.op,o.type,o.pos,((mE o++bif Nat.beq i y then [x] else []).map fun k=>⟨ix.findIdx (Nat.beq k),.data⟩).toArray,o.guard⟩:=by
 have hi:=H.lt i (List.mem_of_getElem? hk)
 refine⟨ops[i],Array.getElem?_eq_getElem hi,?_,?_⟩
 ·unfold pE
  simp [hk]
 ·unfold QW
  simp [Array.getElem?_eq_getElem hi]
def WX (x y:Nat)(l:List Nat):Prop:=∀l1 l2,l=l1++y::l2→x∈l1
theorem zn6 (H:PermOk ops ix x y){k i:Nat}(hk:ix[k]?=some i){K K':Act→World→Prop}{a:Act}{w:World}(hK:∀ a w,K a w→K' a w)(h:wpOp P (pE ops ix x y) Q k K a w):wpOp P ops Q i K' a w:=by
 obtain⟨o,h1,h2,h3⟩:=z5s H hk;have hg:=H.gd i o h1
 unfold wpOp at h ⊢;rw[h2]at h;rw[h1];rw[h3]at h;dsimp only at h ⊢;have e1:∀yl,Region.wanted o yl=true:=fun yl=>by unfold Region.wanted;rw[hg]
 rw[if_pos (e1 _)];rw[if_pos (by unfold Region.wanted;dsimp only;rw[hg])]at h
 rcases h with h|h
 ·exact .inl (Oper.wp_mono hK h)
 ·exact .inr h
def VO (ops:Array Oper):Nat→Array Bool→List Nat→Prop
 | 0,_,l=>l=[]
 | _+1,listed,[]=>Region.ready .any ops listed=[]
 | n+1,listed,i::r=>i∈Region.ready .any ops listed∧VO ops n (listed.setIfInBounds i true) r
theorem zdj (ops:Array Oper):∀(fuel t:Nat) (listed:Array Bool),VO ops fuel listed (Region.linearise.go .any ops fuel t listed []):=by
 intro fuel;induction fuel with
 | zero=>intro t listed;simp [Region.linearise.go,VO]
 | succ fuel ih=>
  intro t listed;have hgo:Region.linearise.go .any ops (fuel+1) t listed []=match (Region.ready .any ops listed)[t%(Region.ready .any ops listed).length]? with
   | some i=>i::Region.linearise.go .any ops fuel (t / (Region.ready .any ops listed).length) (listed.setIfInBounds i true) []
   | none=>[]:=by
   simp only[Region.linearise.go];change (match (Region.ready .any ops listed)[t%(Region.ready .any ops listed).length]? with
    | some i=>Region.linearise.go .any ops fuel (t / (Region.ready .any ops listed).length) (listed.setIfInBounds i true) [i]
    | none=>[].reverse)=_
   split
   ·rw[linearise_go_acc,List.reverse_singleton,List.singleton_append]
   ·rfl
  rw[hgo];cases hi:(Region.ready .any ops listed)[t%(Region.ready .any ops listed).length]? with
  | none=>
   show Region.ready .any ops listed=[]
   cases hr:Region.ready .any ops listed with
   | nil=>rfl
   | cons z zs=>
    rw[hr]at hi;have hlt:t%(z::zs).length<(z::zs).length:=Nat.mod_lt _ (by simp)
    simp at hi;simp at hlt;omega
  | some i=>exact⟨List.mem_of_getElem? hi,ih _ _⟩
theorem z6W:∀ (n:Nat) (listed:Array Bool) (l:List Nat),VO ops n listed l→∀ i∈l,i<ops.size
 | 0,_,l,h,i,hi=>by rw[show l=[] from h]at hi;cases hi
 | n+1,listed,[],h,i,hi=>by cases hi
 | n+1,listed,j::r,h,i,hi=>by
  rcases List.mem_cons.1 hi with rfl|hi
  ·have:=h.1
   rw[mem_ready]at this;obtain⟨_,o,q2,_⟩:=this;exact(Array.getElem?_eq_some_iff.1 q2).1
  ·exact z6W n _ r h.2 i hi
theorem zqF {i:Nat}{K K':Act→World→Prop}{a:Act}{w:World}(hK:∀ a w,K a w→K' a w)(h:wpOp P ops Q i K a w):wpOp P ops Q i K' a w:=by
 unfold wpOp at h ⊢;split at h
 ·exact hK _ _ h
 ·split at h
  ·rename_i hw
   rw[if_pos hw];rcases h with h|h
   ·exact .inl (Oper.wp_mono hK h)
   ·exact .inr h
  ·rename_i hw
   rw[if_neg hw];exact hK _ _ h
theorem z7t:∀ (n:Nat) (listed:Array Bool) (l:List Nat) (a:Act) (w:World),VO ops n listed l→wpAny P .any ops Q n listed a w→wpOps P ops Q l a w
 | 0,_,l,a,w,h,hw=>by rw[show l=[] from h];exact hw.2
 | n+1,listed,[],a,w,h,hw=>hw.1 h
 | n+1,listed,i::r,a,w,h,hw=>by
  rw[wpOps_cons];exact zqF (fun a w hw=>z7t n _ r a w h.2 hw) (hw.2 i h.1)
theorem z5t (H:PermOk ops ix x y):∀(l:List Nat) (a:Act) (w:World),(∀i∈l,i<ops.size)→wpOps P (pE ops ix x y) Q (l.map fun i=>ix.findIdx (Nat.beq i)) a w→wpOps P ops Q l a w
 | [],_,_,_,h=>h
 | i::r,a,w,hl,h=>by
  rw[List.map_cons,wpOps_cons]at h;rw[wpOps_cons];exact zn6 H (H.inv (hl i (List.mem_cons_self ..))).2 (fun a w hw=>z5t H r a w (fun j hj=>hl j (List.mem_cons_of_mem _ hj)) hw) h
theorem zaA (H:PermOk ops ix x y):∀(n:Nat) (listed listed':Array Bool) (l:List Nat),listed.size=ops.size→listed'.size=ops.size→(∀k i,ix[k]?=some i→listed'.getD k false=listed.getD i false) →
 (listed.getD x false=true∨WX x y l)→VO ops n listed l→VO (pE ops ix x y) n listed' (l.map fun i=>ix.findIdx (Nat.beq i)):=by
 intro n;have hps:(pE ops ix x y).size=ops.size:=by unfold pE;simp [H.len]
 have dflt:∀(l:Array Bool),l.size=ops.size→∀i,i<ops.size→l.getD i true=l.getD i false:=fun l hl i hi=>by simp [Array.getD,hl,hi]
 induction n with
 | zero=>intro listed listed' l _ _ _ _ h;rw[show l=[] from h];rfl
 | succ n ih=>
  intro listed listed' l hs hs' hL hB h;cases l with
  | nil=>
   have hnil:Region.ready .any ops listed=[]:=h
   show Region.ready .any (pE ops ix x y) listed'=[]
   rw[List.eq_nil_iff_forall_not_mem];intro k hk;rw[mem_ready]at hk;obtain⟨q1,o',q2,q3⟩:=hk;have hkl:k<ops.size:=by rw[←hps];exact(Array.getElem?_eq_some_iff.1 q2).1
   obtain⟨i,hki⟩:∃i,ix[k]?=some i:=⟨_,List.getElem?_eq_getElem (by rw[H.len];exact hkl)⟩
   obtain⟨o,p1,p2,p3⟩:=z5s H hki;rw[p2]at q2;injection q2 with q2
   have hil:=H.lt i (List.mem_of_getElem? hki)
   have hm:i∈Region.ready .any ops listed:=by
    rw[mem_ready];refine⟨?_,o,p1,fun ed hed hbd=>?_⟩
    ·rw[dflt _ hs i hil,←hL k i hki,←dflt _ hs' k hkl];exact q1
    ·have hke:ed.on∈mE o:=List.mem_map.2 ⟨ed,List.mem_filter.2 ⟨by simpa using hed,hbd⟩,rfl⟩
     have hel:=H.ed i o p1 ed.on hke
     obtain⟨r1,r2⟩:=H.inv hel;have:=q3 ⟨ix.findIdx (Nat.beq ed.on),.data⟩ (by rw[←q2,p3];simp;exact .inl ⟨_,hke,rfl⟩) rfl
     rw[hL _ _ r2]at this;exact this
   rw[hnil]at hm;cases hm
  | cons i r=>
   obtain⟨hir,hr⟩:=h;have hmr:=hir
   rw[mem_ready]at hmr;obtain⟨q1,o,q2,q3⟩:=hmr;have hil:i<ops.size:=(Array.getElem?_eq_some_iff.1 q2).1
   obtain⟨k1,k2⟩:=H.inv hil;rw[List.map_cons];generalize hk:ix.findIdx (Nat.beq i)=k at *;obtain⟨o1,p1,p2,p3⟩:=z5s H k2;rw[q2]at p1;injection p1 with p1
   subst p1;have hxl:i=y→listed.getD x false=true:=fun hy=>by
    rcases hB with hB|hB
    ·exact hB
    ·have:=hB [] r (by rw[hy];rfl)
     cases this
   have hkr:k∈Region.ready .any (pE ops ix x y) listed':=by
    rw[mem_ready];refine⟨?_,_,p2,fun ed hed hbd=>?_⟩
    ·rw[dflt _ hs' k k1,hL k i k2,←dflt _ hs i hil];exact q1
    ·rw[p3]at hed
     simp only[List.mem_toArray,List.mem_map,List.mem_append]at hed;obtain⟨j,hj,rfl⟩:=hed;rcases hj with hj|hj
     ·have hel:=H.ed i o q2 j hj
      obtain⟨r1,r2⟩:=H.inv hel;dsimp only;rw[hL _ _ r2];obtain⟨ed,he1,he2⟩:=List.mem_map.1 hj;obtain⟨he3,he4⟩:=List.mem_filter.1 he1;subst he2;exact q3 ed (by simpa using he3) he4
     ·cases hy:Nat.beq i y with
      | false=>rw[hy]at hj;cases hj
      | true=>
       rw[hy]at hj;simp only[cond_true,List.mem_singleton]at hj;subst hj;obtain⟨r1,r2⟩:=H.inv H.xl;dsimp only;rw[hL _ _ r2];exact hxl (Nat.eq_of_beq_eq_true hy)
   refine⟨hkr,ih _ _ r (by simp [hs]) (by simp [hs']) (fun k' i' hk'=>?_) ?_ hr⟩
   ·by_cases hkk:k=k'
    ·subst hkk
     rw[k2]at hk';injection hk' with hk'
     subst hk';simp [Array.getD,hs,hs',hil,k1]
    ·have hii:i≠i':=fun hii=>by
      subst hii;have a1:=List.getElem?_eq_some_iff.1 k2
      have a2:=List.getElem?_eq_some_iff.1 hk'
      obtain⟨b1,b2⟩:=a1;obtain⟨c1,c2⟩:=a2;exact hkk ((List.getElem_inj H.nd).1 (b2.trans c2.symm))
     rw[getD_set_ne false hkk,getD_set_ne false hii];exact hL k' i' hk'
   ·rcases hB with hB|hB
    ·exact .inl (getD_set_true hB)
    ·by_cases hxi:i=x
     ·subst hxi
      left;simp [Array.getD,hs,hil]
     ·right
      intro l1 l2 hl;have:=hB (i::l1) l2 (by rw[hl];rfl)
      rcases List.mem_cons.1 this with q|q
      ·exact absurd q.symm hxi
      ·exact q
theorem zdH (x y:Nat)(hxy:x≠y)(l:List Nat):WX x y l∨WX y x l:=by
 induction l with
 | nil=>left;intro l1 l2 h;simp at h
 | cons z l ih=>
  by_cases hx:z=x
  ·subst hx
   left;intro l1 l2 h
   cases l1 with
   | nil=>simp at h;exact absurd h.1 hxy
   | cons q r=>simp at h;simp [h.1]
  ·by_cases hy:z=y
   ·subst hy
    right;intro l1 l2 h
    cases l1 with
    | nil=>simp at h;exact absurd h.1.symm hxy
    | cons q r=>simp at h;simp [h.1]
   ·rcases ih with ih|ih
    ·left
     intro l1 l2 h;cases l1 with
     | nil=>simp at h;exact absurd h.1 hy
     | cons q r=>simp at h;exact List.mem_cons_of_mem _ (ih r l2 h.2)
    ·right
     intro l1 l2 h;cases l1 with
     | nil=>simp at h;exact absurd h.1 hx
     | cons q r=>simp at h;exact List.mem_cons_of_mem _ (ih r l2 h.2)
def ZQ:ACode→List Nat × ACode
 | .block i b=>(i::(ZQ b).1,(ZQ b).2)
 | c=>([],c)
theorem z5r {C:Hd}:∀(c:ACode) (s:St) (K:Ex→St→Prop),AW C gl c s K→∃K':Ex→St→Prop,AW C gl (ZQ c).2 s K'∧∀st,K' .normal st→K .normal st
 | .block i b,s,K,H=>by
  unfold AW at H;obtain⟨K',h1,h2⟩:=z5r b s _ H;exact⟨K',h1,fun st h=>h2 st h⟩
 | .skip,_,K,H=>⟨K,H,fun _ h=>h⟩
 | .reg _ _,_,K,H=>⟨K,H,fun _ h=>h⟩
 | .draw _ _,_,K,H=>⟨K,H,fun _ h=>h⟩
 | .seq _ _,_,K,H=>⟨K,H,fun _ h=>h⟩
 | .cond _ _ _,_,K,H=>⟨K,H,fun _ h=>h⟩
 | .condu _ _ _,_,K,H=>⟨K,H,fun _ h=>h⟩
 | .det _,_,K,H=>⟨K,H,fun _ h=>h⟩
 | .loop _,_,K,H=>⟨K,H,fun _ h=>h⟩
 | .scope _,_,K,H=>⟨K,H,fun _ h=>h⟩
 | .pr _ _,_,K,H=>⟨K,H,fun _ h=>h⟩
 | .exit _,_,K,H=>⟨K,H,fun _ h=>h⟩
 | .ret,_,K,H=>⟨K,H,fun _ h=>h⟩
 | .bad,_,K,H=>⟨K,H,fun _ h=>h⟩
def NR (ops:Array Oper)(x y:Nat)(ix:List Nat):Bool:=
 ix.length==ops.size&&ix.all (fun i=>decide (i<ops.size))&&(List.range ops.size).all (fun i=>ix.contains i)&&EU ix&&ops.toList.all (fun o=>o.guard.isNone&&(mE o).all fun k=>decide (k<ops.size))&&decide (x<ops.size)
theorem z7S (h:NR ops x y ix=true):PermOk ops ix x y:=by
 unfold NR at h;simp only[Bool.and_eq_true,beq_iff_eq,List.all_eq_true,decide_eq_true_eq,Option.isNone_iff_eq_none]at h;obtain⟨⟨⟨⟨⟨h1,h2⟩,h3⟩,h4⟩,h5⟩,h6⟩:=h;refine⟨h1,h2,fun i hi=>?_,zaz h4,fun i o ho=>(h5 o ?_).1,fun i o ho=>(h5 o ?_).2,h6⟩
 ·have:=h3 i (List.mem_range.2 hi)
  simpa using this
 ·exact Array.mem_toList_iff.2 (Array.mem_of_getElem? ho)
 ·exact Array.mem_toList_iff.2 (Array.mem_of_getElem? ho)
def xH (P:Program)(nt:Nat):Nat→Array Oper→ACode→Bool
 | 0,_,_=>false
 | n+1,ops,c=>match c with
  | .draw ds _=>KR P nt ops ds
  | .condu t a b=>match t with
   | .c .anyb=>match ZQ a,ZQ b with
    | (x::y::ixA,ca),(y'::x'::ixB,cb)=>Nat.beq x x'&&Nat.beq y y' && !Nat.beq x y&&NR ops x y ixA&&NR ops y x ixB&&xH P nt n (pE ops ixA x y) ca&&xH P nt n (pE ops ixB y x) cb
    | _,_=>false
   | _=>false
  | _=>false
theorem z6m {C:Hd}(hC:∀ f a h K,C f a h K→TC P gl f a h K):∀(n:Nat) (ops:Array Oper) (c:ACode) (s:St) (K:Ex→St→Prop) (a:Act) (w:World),xH P nt n ops c=true→AW C gl c s K→Rel gl nt M0 h0 μ0 s.env s.h s.esc a w μ →
 (∀(keep:Option (List Nat)) e h x a w μ,K .normal ⟨SA keep e,h,x⟩→Rel gl nt M0 h0 μ0 e h x a w μ→Q .normal a w)→∀l,VO ops ops.size (Array.replicate ops.size false) l→wpOps P ops Q l a w
 | 0,ops,c,s,K,a,w,hc,_,_,_,_,_=>by cases hc
 | n+1,ops,c,s,K,a,w,hc,H,R,fin,l,hl=>by
  cases c;case draw ds keep=>
   unfold xH at hc;unfold AW at H;exact z7t _ _ l a w hl (z8z hC (Q:=Q) hc H R (fin keep))
  case condu t c1 c2=>
   unfold xH at hc;dsimp only at hc;split at hc
   ·split at hc
    ·rename_i x y ixA ca y' x' ixB cb pa pb
     simp only[Bool.and_eq_true,Bool.not_eq_true']at hc;obtain⟨⟨⟨⟨⟨⟨e1,e2⟩,e3⟩,e4⟩,e5⟩,e6⟩,e7⟩:=hc;have e1:=Nat.eq_of_beq_eq_true e1
     have e2:=Nat.eq_of_beq_eq_true e2
     subst e1;subst e2
     have hxy:x≠y:=fun hh=>by rw[hh,Nat.beq_refl]at e3;cases e3
     unfold AW at H;simp only[Opd.ev]at H;obtain⟨KA,HA,fA⟩:=z5r c1 s K H.1;obtain⟨KB,HB,fB⟩:=z5r c2 s K H.2;rw[pa]at HA;rw[pb]at HB;have pA:=z7S e4
     have pB:=z7S e5
     have rep:∀(ix:List Nat) k i,ix[k]?=some i→(Array.replicate ops.size false).getD k false=(Array.replicate ops.size false).getD i false:=fun ix k i _=>by simp [Array.getD]
     have szA:(pE ops ixA x y).size=ops.size:=by unfold pE;simp [pA.len]
     have szB:(pE ops ixB y x).size=ops.size:=by unfold pE;simp [pB.len]
     have hlt:=z6W _ _ l hl
     rcases zdH x y hxy l with hb|hb
     ·have hv:=zaA pA ops.size _ _ l (by simp) (by simp) (rep ixA) (.inr hb) hl
      have:=z6m hC n _ ca s KA a w e6 HA R (fun keep e h x a w μ hk R'=>fin keep e h x a w μ (fA _ hk) R') _ (by rw[szA];exact hv)
      exact z5t pA l a w hlt this
     ·have hv:=zaA pB ops.size _ _ l (by simp) (by simp) (rep ixB) (.inr hb) hl
      have:=z6m hC n _ cb s KB a w e7 HB R (fun keep e h x a w μ hk R'=>fin keep e h x a w μ (fB _ hk) R') _ (by rw[szB];exact hv)
      exact z5t pB l a w hlt this
    ·cases hc
   ·cases hc
  all_goals (unfold xH at hc;cases hc)
theorem zqy (hm:P.follows .mixedOrders=true){C:Hd}(hC:∀ f a h K,C f a h K→TC P gl f a h K){n id:Nat}{c:ACode}{s:St}{K:Ex→St→Prop}{a:Act}{w:World}(hc:xH P nt n ops c=true)(H:AW C gl c s K)
 (R:Rel gl nt M0 h0 μ0 s.env s.h s.esc a { w with drawn:=w.drawn+1 } μ) (fin:∀(keep:Option (List Nat)) e h x a w μ,K .normal ⟨SA keep e,h,x⟩→Rel gl nt M0 h0 μ0 e h x a w μ→Q .normal a w):(Code.region id ops true).wp P Q a w:=by
 refine wp_region_draw fun t=>?_
 simp only[Region.schedule,hm,Bool.true_or,if_true];exact z6m hC n ops c s K a _ hc H R fin _ (zdj ops ops.size t _)
def z7T (P:Program)(nt:Nat)(ops:Array Oper)(t:Opd)(a b:ACode):Bool:=xH P nt 4 ops (.condu t a b)
end Go.Am
end
section
/- The abstract machine,part 21: code. -/
set_option linter.unusedSimpArgs false
set_option linter.unusedVariables false
set_option maxHeartbeats 1000000
namespace Go.Am
variable {h h':aA} {μ μ':Mu} {w w':World} {P:Program} {M M':Mem}
variable {gl:Nat→Option PV} {nt:Nat} {M0:Mem} {h0:aA} {μ0:Mu} {e:List (Nat × AV)} {x:Esc} {a:Act}
theorem znt (H:HeapRel h μ w){id:Nat}{o:Obj}(ho:h[id]?=some o):o.top≤h.length:=by
 obtain⟨m,hm,hO⟩:=YF H ho;cases o with
 | box cs=>
  obtain⟨b,c,rfl,hb,hc⟩:=hO;exact z7E H hc
 | row sh xs fz=>simp [Obj.top]
 | amap es c=>
  obtain⟨b,n,ces,rfl,h1,h2,_,h3⟩:=hO;refine yI (fun j y hy=>?_)
  simp only[List.getElem?_map,Option.map_eq_some_iff]at hy;obtain⟨en,he,rfl⟩:=hy;have hj:j<ces.size:=by rw[h2];exact JA he
  exact(h3 j en ces[j] he (Array.getElem?_eq_getElem hj)).2.2.1.top_le
 | iter mm s seen l=>
  obtain⟨b,n,rfl,h1⟩:=hO;cases mm with
  | none=>simp [Obj.top]
  | some i=>
   obtain⟨bm,nm,es,c,h2,h3,h4⟩:=h1;simp only[Obj.top];exact JA h3
 | arow sh cs=>
  obtain⟨h1,h2⟩:=hO;cases m with
  | none=>subst h2;simp [Obj.top,AV.tops]
  | some m=>
   obtain⟨b,n⟩:=m;obtain⟨c,c1,c2,c3⟩:=h2;refine yI (fun j y hy=>?_)
   obtain⟨v,_,q⟩:=c3 j y hy;exact q.top_le
theorem z6k (H:HeapRel h μ w)(id:Nat):eG h id≤h.length:=by
 unfold eG;split
 ·exact znt H ‹_›
 ·omega
theorem zem (y:Esc)(n:Nat):n≤FD y n:=by
 unfold FD;induction y generalizing n with
 | nil=>simp
 | cons p r ih=>
  simp only[List.foldl_cons];split
  ·exact Nat.le_trans (by omega) (ih _)
  ·exact ih _
theorem SR:∀ (k:Nat) (y:Esc) (n:Nat),n≤RB k y n
 | 0,y,n=>Nat.le_refl _
 | k+1,y,n=>Nat.le_trans (zem y n) (SR k y _)
theorem Evo.take {M'':Mem}(E:Evo M h μ M' h' μ'){n:Nat}(hn:h.length≤n)(L:M'.le M''):Evo M h μ M'' (h'.take n) (μ'.take n):=by
 refine⟨⟨fun b o v hv=>L.c _ _ _ (E.le.c _ _ _ hv),fun b o hv=>L.b _ _ (E.le.b _ _ hv),L.z.trans E.le.z,fun b t h=>L.s _ _ (E.le.s _ _ h)⟩,by have:=E.len;simp;omega,fun id o m h1 h2=>?_⟩
 obtain⟨o',m',h3,h4,h5⟩:=E.obj id o m h1 h2;have hi:id<n:=Nat.lt_of_lt_of_le (JA h1) hn
 exact⟨o',m',by rw[List.getElem?_take,if_pos hi];exact h3,by rw[List.getElem?_take,if_pos hi];exact h4,h5⟩
theorem z6i {hs:aA}{μs:Mu}{Ms:Mem}{es:Esc}(Hs:∀ id,eG hs id≤hs.length)(H:HeapRel h μ w)(E:Evo Ms hs μs (imm h μ w) h μ)(I:vA hs h es){n:Nat}(hn:hs.length≤n)(hc:iC es n=true) :
 HeapRel (h.take n) (μ.take n) w∧(imm h μ w).le (imm (h.take n) (μ.take n) w)∧Evo Ms hs μs (imm (h.take n) (μ.take n) w) (h.take n) (μ.take n)∧vA hs (h.take n) (es.filter fun y=>decide (y.1<n)):=by
 have ht:∀id o,h[id]?=some o→id<n→o.top≤n:=by
  intro id o ho hi;have h1:=I id o ho
  have h2:=Hs id
  have h3:=zkv hc hi
  omega
 obtain⟨H1,L⟩:=H.take n ht;refine⟨H1,L,E.take hn L,fun id o ho=>?_⟩
 rw[List.getElem?_take]at ho;split at ho
 ·rename_i hi
  rw[zkw hi];exact I id o ho
 ·cases ho
theorem zdp (n:Nat)(e:List (Nat × AV))(t:Nat):eA (JF n e) t=if(eA e t).top≤n then eA e t else .und:=by
 induction e with
 | nil=>simp [JF,eA,AV.top]
 | cons y r ih=>
  simp only[JF,List.map_cons,eA]at ih ⊢;split
  ·rfl
  ·exact ih
theorem HR (keep:Option (List Nat))(e:List (Nat × AV))(t:Nat):eA (SA keep e) t=eA e t∨eA (SA keep e) t = .und:=by
 cases keep with
 | none=>exact .inl rfl
 | some l=>
  simp only[SA];induction l with
  | nil=>exact .inr rfl
  | cons k r ih=>
   simp only[List.map_cons,eA];split
   ·rename_i hk;subst hk;exact .inl rfl
   ·exact ih
theorem zqw {x0:Esc}{s:St}{hs:aA}{μs:Mu}{ws:World}{e0:List (Nat × AV)}{a0:Act}(R:Rel gl nt M0 h0 μ0 e0 hs x0 a0 ws μs)(R':Rel gl nt (imm hs μs ws) hs μs s.env s.h s.esc a w μ) :
 ∃μ',Rel gl nt M0 h0 μ0 (KE hs.length x0 s).env (KE hs.length x0 s).h (KE hs.length x0 s).esc a w μ':=by
 unfold KE;dsimp only;split
 ·rename_i hc
  have hn:=SR s.esc.length s.esc hs.length
  generalize RB s.esc.length s.esc hs.length=n at hc hn;obtain⟨q1,q2,q3,q4⟩:=z6i (fun id=>z6k R.heap id) R'.heap R'.evo R'.esc hn hc
  refine⟨μ.take n,q1,fun t=>?_,R'.glob.mono q2,R.evo.trans q3,vA.trans R.esc q4,R'.size,R'.defers⟩
  dsimp only;rw[zdp];split
  ·exact(R'.env t).take q2 ‹_›
  ·exact .und _
 ·exact⟨μ,R'.heap,R'.env,R'.glob,R.evo.trans R'.evo,vA.trans R.esc R'.esc,R'.size,R'.defers⟩
theorem Rel.drew (R:Rel gl nt M0 h0 μ0 e h x a w μ)(n:Nat):Rel gl nt M0 h0 μ0 e h x a { w with drawn:=n } μ:=by
 obtain⟨h1,h2⟩:=R.heap.ext (WExt.drew w n);exact⟨h1,fun t=>(R.env t).evo h2,R.glob.mono h2.le,R.evo.trans h2,R.esc,R.size,R.defers⟩
def oC (P:Program)(nt:Nat):ACode→Code→Bool
 | .skip,c=>match c with
  | .skip=>true
  | _=>false
 | .reg aops _,c=>match c with
  | .region _ ops false=>IG P nt ops aops 0
  | _=>false
 | .draw ds _,c=>match c with
  | .region _ ops true=>KR P nt ops ds
  | _=>false
 | .seq a b,c=>match c with
  | .seq a' b'=>oC P nt a a'&&oC P nt b b'
  | _=>false
 | .cond t a b,c=>match c with
  | .cond t' a' b'=>CA t t'&&oC P nt a a'&&oC P nt b b'
  | _=>false
 | .det b,c=>oC P nt b c
 | .condu t a b,c=>match c with
  | .cond t' a' b'=>CA t t'&&oC P nt a a'&&oC P nt b b'
  | .region _ ops true=>z7T P nt ops t a b
  | _=>false
 | .block i b,c=>match c with
  | .block i' b'=>i==i'&&oC P nt b b'
  | _=>false
 | .loop b,c=>match c with
  | .loop b'=>oC P nt b b'
  | _=>false
 | .scope b,c=>oC P nt b c
 | .pr _ b,c=>oC P nt b c
 | .exit i,c=>match c with
  | .exit i'=>i==i'
  | _=>false
 | .ret,c=>match c with
  | .ret=>true
  | _=>false
 | .bad,_=>true
def Ex.toExit:Ex→Exit
 | .normal=>.normal
 | .exit i=>.exit i
 | .ret=>.ret
theorem zdu {M:Mem}{h:aA}{μ:Mu}{x:Value}(R:RAV M h μ .anyb x):∃b,x = .bool b:=by
 cases R with|anyb b=>exact⟨b,rfl⟩
theorem uE (hm:P.follows .mixedOrders=true){C:Hd}(hC:∀ f a h K,C f a h K→TC P gl f a h K):∀(c:ACode) {k:Code},oC P nt c k=true→∀{s:St} {K:Ex→St→Prop} {M0:Mem} {h0:aA} {μ0:Mu} {a:Act} {w:World} {μ:Mu} {Q:Exit→Act→World→Prop},
 AW C gl c s K→Rel gl nt M0 h0 μ0 s.env s.h s.esc a w μ→(∀ex s' a' w' μ',K ex s'→Rel gl nt M0 h0 μ0 s'.env s'.h s'.esc a' w' μ'→Q ex.toExit a' w')→k.wp P Q a w
 | .skip,k,hc,s,K,M0,h0,μ0,a,w,μ,Q,H,R,hQ=>by
  simp only[oC]at hc;split at hc
  ·exact wp_skip (hQ .normal _ _ _ _ H R)
  ·cases hc
 | .reg aops keep,k,hc,s,K,M0,h0,μ0,a,w,μ,Q,H,R,hQ=>by
  simp only[oC]at hc;split at hc
  ·rename_i id ops
   refine wp_region ?_;have:=BG hC aops 0 (Q:=Q) hc H R (fun e h x a w μ hk R'=>hQ .normal ⟨SA keep e,h,x⟩ a w μ hk ⟨R'.heap,fun t=>?_,R'.glob,R'.evo,R'.esc,R'.size,R'.defers⟩)
   ·rwa [Nat.sub_zero,←List.range_eq_range']at this
   ·rcases HR keep e t with q|q
    ·rw[q];exact R'.env t
    ·rw[q];exact .und _
  ·cases hc
 | .draw ds keep,k,hc,s,K,M0,h0,μ0,a,w,μ,Q,H,R,hQ=>by
  simp only[oC]at hc;split at hc
  ·rename_i id ops
   refine wp_region_any hm ?_;exact z8z hC (Q:=Q) hc H (R.drew _) (fun e h x a w μ hk R'=>hQ .normal ⟨SA keep e,h,x⟩ a w μ hk ⟨R'.heap,fun t=>(by
    rcases HR keep e t with q|q
    ·rw[q];exact R'.env t
    ·rw[q];exact .und _),R'.glob,R'.evo,R'.esc,R'.size,R'.defers⟩)
  ·cases hc
 | .seq c1 c2,k,hc,s,K,M0,h0,μ0,a,w,μ,Q,H,R,hQ=>by
  simp only[oC]at hc;split at hc
  ·simp only[Bool.and_eq_true]at hc
   refine wp_seq (uE hm hC c1 hc.1 H R (fun ex s' a' w' μ' hk R'=>?_))
   cases ex with
   | normal=>exact uE hm hC c2 hc.2 hk R' hQ
   | exit i=>exact hQ (.exit i) _ _ _ _ hk R'
   | ret=>exact hQ .ret _ _ _ _ hk R'
  ·cases hc
 | .det c,k,hc,s,K,M0,h0,μ0,a,w,μ,Q,H,R,hQ=>by
  simp only[oC]at hc;exact uE hm hC c hc H R hQ
 | .condu t c1 c2,k,hc,s,K,M0,h0,μ0,a,w,μ,Q,H,R,hQ=>by
  simp only[oC]at hc;split at hc
  ·simp only[Bool.and_eq_true]at hc
   unfold AW at H;split at H
   ·rename_i b hb
    have ht:=R.opds _ _ hc.1.1
    rw[hb]at ht;refine wp_cond ht.p_bool ?_;cases b with
    | true=>exact uE hm hC c1 hc.1.2 H R hQ
    | false=>exact uE hm hC c2 hc.2 H R hQ
   ·rename_i hb
    have ht:=R.opds _ _ hc.1.1
    rw[hb]at ht;obtain⟨g1,g2⟩:=H;obtain⟨b,hb'⟩:=zdu ht;refine wp_cond hb' ?_;cases b with
    | true=>exact uE hm hC c1 hc.1.2 g1 R hQ
    | false=>exact uE hm hC c2 hc.2 g2 R hQ
   ·exact H.elim
  ·rename_i id ops
   unfold z7T at hc;exact zqy hm hC (Q:=Q) hc H (R.drew _) fun keep e h x a w μ hk R'=>hQ .normal ⟨SA keep e,h,x⟩ a w μ hk ⟨R'.heap,fun t=>(by
    rcases HR keep e t with q|q
    ·rw[q];exact R'.env t
    ·rw[q];exact .und _),R'.glob,R'.evo,R'.esc,R'.size,R'.defers⟩
  ·cases hc
 | .cond t c1 c2,k,hc,s,K,M0,h0,μ0,a,w,μ,Q,H,R,hQ=>by
  simp only[oC]at hc;split at hc
  ·simp only[Bool.and_eq_true]at hc
   unfold AW at H;split at H
   ·rename_i b hb
    have ht:=R.opds _ _ hc.1.1
    rw[hb]at ht;refine wp_cond ht.p_bool ?_;cases b with
    | true=>exact uE hm hC c1 hc.1.2 H R hQ
    | false=>exact uE hm hC c2 hc.2 H R hQ
   ·exact H.elim
  ·cases hc
 | .block i c,k,hc,s,K,M0,h0,μ0,a,w,μ,Q,H,R,hQ=>by
  simp only[oC]at hc;split at hc
  ·simp only[Bool.and_eq_true,beq_iff_eq]at hc
   obtain⟨rfl,hc⟩:=hc;refine wp_block (uE hm hC c hc H R (fun ex s' a' w' μ' hk R'=>?_))
   cases ex with
   | normal=>exact hQ .normal _ _ _ _ hk R'
   | exit j=>
    simp only[Ex.toExit,Exit.inBlock];dsimp only at hk;split
    ·rename_i hj;rw[if_pos hj]at hk;exact hQ .normal _ _ _ _ hk R'
    ·rename_i hj;rw[if_neg hj]at hk;exact hQ (.exit j) _ _ _ _ hk R'
   | ret=>exact hQ .ret _ _ _ _ hk R'
  ·cases hc
 | .loop c,k,hc,s,K,M0,h0,μ0,a,w,μ,Q,H,R,hQ=>by
  simp only[oC]at hc;split at hc
  ·rename_i b'
   intro b k cs;have key:∀(s:St),ALoop (AW C gl c) K s→∀(a:Act) (w:World) (μ:Mu),Rel gl nt M0 h0 μ0 s.env s.h s.esc a w μ →
    ∃e a' w',Q e a' w'∧Arrives P (lone (b.at a (.code b' :: .inLoop b'::k)) cs w) b k cs e a' w':=by
    intro s H;induction H with
    | mk s T hT hn he hr ih=>
     intro a w μ R;obtain⟨e,a1,w1,hq,harr⟩:=uE hm hC c hc (Q:=fun e a' w'=>match e with
      | .normal=>∃s' μ',T .normal s'∧Rel gl nt M0 h0 μ0 s'.env s'.h s'.esc a' w' μ'
      | e=>Q e a' w') hT R (fun ex s' a' w' μ' hk R'=>by
       cases ex with
       | normal=>exact⟨s',μ',hk,R'⟩
       | exit i=>exact hQ (.exit i) _ _ _ _ (he _ _ hk) R'
       | ret=>exact hQ .ret _ _ _ _ (hr _ hk) R') b (.inLoop b'::k) cs
     cases e with
     | normal=>
      obtain⟨s',μ',hk,R'⟩:=hq;obtain⟨e2,a2,w2,hq2,harr2⟩:=ih s' hk a1 w1 μ' R';exact⟨e2,a2,w2,hq2,.of_steps (Steps.trans harr (.one step_inLoop)) harr2⟩
     | exit id=>exact⟨_,a1,w1,hq,.pass (x:=.inLoop b') rfl (fun _ _=>.inl (by simp)) harr⟩
     | goto l=>exact⟨_,a1,w1,hq,.pass (x:=.inLoop b') rfl (fun _ _=>.inl (by simp)) harr⟩
     | ret=>exact⟨_,a1,w1,hq,.pass (x:=.inLoop b') rfl (fun _ _=>.inl (by simp)) harr⟩
     | panic ch=>exact⟨_,a1,w1,hq,.pass (x:=.inLoop b') rfl (fun _ _=>.inl (by simp)) harr⟩
     | outgrown=>exact⟨_,a1,w1,hq,.pass (x:=.inLoop b') rfl (fun _ _=>.inl (by simp)) harr⟩
   obtain⟨e,a',w',hq,harr⟩:=key s H a w μ R;exact⟨e,a',w',hq,.of_steps (.one step_loop) harr⟩
  ·cases hc
 | .scope c,k,hc,s,K,M0,h0,μ0,a,w,μ,Q,H,R,hQ=>by
  simp only[oC]at hc;refine uE hm hC c hc (M0:=imm s.h μ w) (h0:=s.h) (μ0:=μ) H ⟨R.heap,R.env,R.glob,Evo.refl _ _ _,vA.refl _ _,R.size,R.defers⟩ (fun ex s' a' w' μ' hk R'=>?_)
  obtain⟨μ'',R''⟩:=zqw R R';exact hQ ex _ _ _ _ hk R''
 | .pr l c,k,hc,s,K,M0,h0,μ0,a,w,μ,Q,H,R,hQ=>by
  simp only[oC]at hc;refine uE hm hC c hc H ⟨R.heap,fun t=>?_,R.glob,R.evo,R.esc,R.size,R.defers⟩ hQ
  dsimp only;rcases HR (some l) s.env t with q|q
  ·rw[q];exact R.env t
  ·rw[q];exact .und _
 | .exit i,k,hc,s,K,M0,h0,μ0,a,w,μ,Q,H,R,hQ=>by
  simp only[oC]at hc;split at hc
  ·simp only[beq_iff_eq]at hc
   subst hc;exact wp_exit (hQ (.exit i) _ _ _ _ H R)
  ·cases hc
 | .ret,k,hc,s,K,M0,h0,μ0,a,w,μ,Q,H,R,hQ=>by
  simp only[oC]at hc;split at hc
  ·exact wp_ret (hQ .ret _ _ _ _ H R)
  ·cases hc
 | .bad,k,hc,s,K,M0,h0,μ0,a,w,μ,Q,H,R,hQ=>H.elim
end Go.Am
end
