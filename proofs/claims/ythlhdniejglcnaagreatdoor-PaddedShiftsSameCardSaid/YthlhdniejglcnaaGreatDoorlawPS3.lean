/- Texts of the proof, laid together: AmA, AmU, Am19, Am20, AmD, AmE, AmF, AmG, AmH, Am21, Am22, Am23, Am24, Am25. -/
import Derived.Lib.UnsafeStr
import Derived.Lib.Builder
import Derived.Laws.Externs
import GoSem.Extern.Table
import Derived.Orders
import Derived.Below
import Derived.ChangeSlices
import Derived.Carry
import Derived.Test.YthlhdniejglcnaaGreatDoorlawPS2
set_option linter.all false
section
/- The abstract machine: rows whose elements name rows (made,put tov). -/
set_option linter.unusedSimpArgs false
set_option linter.unusedVariables false
namespace Go.Am
variable {h h':aA} {μ μ':Mu} {w w':World} {P:Program} {M M':Mem}
theorem zfP (H:HeapRel h μ w)(sh:Sh) :
 HeapRel (h++[.arow sh []]) (μ++[none]) w∧Evo (imm h μ w) h μ (imm (h++[.arow sh []]) (μ++[none]) w) (h++[.arow sh []]) (μ++[none]):=
 H.push (WExt.refl w) _ _ (fun b' n e=>by cases e) (fun M' E=>⟨by simp,rfl⟩)
def chk9 (P:Program)(sh:Sh)(t:TypeId):Bool:=match P.underlying t with
 | some (.slice e)=>WA P e==some sh&&decide (gA sh≤2^24)&&decide (gA sh≠0)&&(match P.info? e with
  | some i=>(match i.zero with|some v=>v.cells.size==gA sh|none=>false)
  | none=>false)
 | _=>false
theorem z98 {t:TypeId}{sh:Sh}{e9:Nat}(hsh:vC e9=sh)(hc:chk9 P sh t=true){a:AV}{x:Value}{cs:List AV}(H:HeapRel h μ w)(R:RAV (imm h μ w) h μ a x)(hv:a.cells=some cs)(hl:cs.length=gA sh) :
 mA P (do pure (.value (←Instr.buildSlice t 1 #[(0,x)]))) h μ w (.bt 3 e9 h.length 1) (h++[.arow sh cs]) []:=by
 unfold chk9 at hc;split at hc;case h_2=>cases hc
 rename_i el hu;simp only[Bool.and_eq_true,beq_iff_eq,decide_eq_true_eq]at hc;obtain⟨⟨⟨c1,c4⟩,c5⟩,c6⟩:=hc;split at c6;case h_2=>cases c6
 rename_i i hi;split at c6;case h_2=>cases c6
 rename_i zv hz;simp only[beq_iff_eq]at c6;obtain⟨s1,s2⟩:=UH R hv;obtain⟨c0,hc0⟩:∃c0:Array Value,c0=(Array.range (1*gA sh)).map (fun k=>zv.cells[k%zv.cells.size]!):=⟨_,rfl⟩
 have h0:c0.size=gA sh:=by rw[hc0];simp
 have hsz:0+x.cells.toList.length≤c0.size:=by rw[h0];simp [s1,hl]
 have hrun:(Instr.buildSlice t 1 #[(0,x)]).run P w = .ok (.slice (some ⟨w.heap.size,0,none⟩) 1 1) { w with heap:=w.heap.push (.cells (tB c0 0 x.cells.toList) el (0,0)) }:=by
  unfold Instr.buildSlice;rw[Sem.run_bind,DA hu];simp only[Result.andThen_ok,Sem.run_bind,sD c1];rw[if_neg (by omega),if_neg (by omega)]
  have hf:Instr.fill (fun i=>some (i*gA sh,gA sh)) c0 [(0,x)]=some (tB c0 0 x.cells.toList):=by
   simp only[Instr.fill];have hneg:¬((decide (x.cells.size≠gA sh)||decide (0*gA sh+x.cells.size>c0.size))=true):=by
    simp [s1,hl,h0]
   rw[if_neg hneg,DX,Nat.zero_mul]
  simp only[Sem.run_bind,sO hi hz,Result.andThen_ok,Sem.run_pure,←hc0,hf,YF]
 have hB:YA { w with heap:=w.heap.push (.cells (tB c0 0 x.cells.toList) el (0,0)) } w.heap.size (tB c0 0 x.cells.toList).size (tB c0 0 x.cells.toList):=YA.push _ el
 have hsz2:(tB c0 0 x.cells.toList).size=gA sh:=by rw[xF,h0]
 obtain⟨n1,n2⟩:=H.push (WExt.push w (.cells (tB c0 0 x.cells.toList) el (0,0))) (.arow sh cs) (some (w.heap.size,gA sh)) (fun b' n e=>by injection e with e;injection e with e1 e2;subst e1;exact⟨Nat.le_refl _,by simp⟩)
  (fun M' E=>⟨fun y hy=>by obtain⟨j,hj⟩:=List.getElem?_of_mem hy;exact(s2 j y hj).1,_,hsz2 ▸ hB,by omega,fun j y hy=>by
   obtain⟨_,u,q1,q2⟩:=s2 j y hy;refine⟨u,?_,q2.evo E⟩;have hj:=xA hy
   rw[IG _ _ _ _ hsz,if_pos (by simp [s1];omega)]
   simpa using q1⟩)
 refine⟨_,_,_,vA hrun,.inl ⟨_,rfl,?_⟩,n1,n2,rA.push ?_⟩
 ·exact .bt3 e9 h.length 1 _ 1 (.arow sh cs) (some (w.heap.size,gA sh)) (Nat.le_refl _) (by simp) (by rw[←H.len];simp) (fun sh2 cs2 e=>by
   injection e with e1 e2
   subst e1;subst e2
   refine⟨by omega,fun _=>.inr ⟨by simp,by omega⟩⟩)
 ·have:=tV hv
  have:=R.top_le;simp only[Obj.top];omega
theorem asrc (H:HeapRel h μ w){t id g:Nat}{x:Value}(R:RAV (imm h μ w) h μ (.bt 3 t id g) x){sh:Sh}{ds:List AV}(ho:h[id]?=some (.arow sh ds))(hg:g*gA sh=ds.length)(h0:gA sh≠0) :
 ∃a cap m,x = .slice a g cap∧g≤cap∧μ[id]?=some m∧CE m (gA sh) 0 a cap∧(Builtin.lenOf x).run P w = .ok g w ∧
  ∃c:Array Value,(∀k,(Builtin.firstCells (gA sh) g x).run P { w with drawn:=k } = .ok c { w with drawn:=k })∧c.size=ds.length∧∀(j:Nat) (y:AV),ds[j]?=some y→y.sc=true∧∃v,c[j]?=some v∧RAV (imm h μ w) h μ y v:=by
 cases R with|bt3 _ _ _ a cap ob m hl ho' hm hv=>
 rw[ho]at ho';injection ho' with ho'
 obtain⟨q1,q2⟩:=hv sh ds ho'.symm;have q3:=q2 hg
 refine⟨a,cap,m,rfl,hl,hm,q3,by simp [Builtin.lenOf],?_⟩
 obtain⟨k1,k2⟩:=H.obj id _ m ho hm;by_cases hz:g=0
 ·subst hz
  have hd:ds=[]:=by
   rw[Nat.zero_mul]at hg;exact List.length_eq_zero_iff.1 hg.symm
  subst hd;refine⟨#[],fun k=>?_,rfl,fun j y hy=>by simp at hy⟩
  cases a with
  | none=>simp [Builtin.firstCells]
  | some a=>simp [Builtin.firstCells,loadCells,loadCellsFrom]
 ·cases m with
  | none=>simp [CE]at q3;omega
  | some m=>
   obtain⟨b,n⟩:=m;obtain⟨c,c1,c2,c3⟩:=k2;have ha:a=some ⟨b,0,none⟩:=by
    rcases q3 with q3|q3
    ·omega
    ·rw[q3.1,Nat.zero_mul]
   subst ha;refine⟨((List.range (g*gA sh)).map fun j=>(c[j]?).getD undef).toArray,fun k=>?_,by simp [hg],fun j y hy=>?_⟩
   ·simp only[Builtin.firstCells]
    refine ZZ (fun j hj=>?_)
    have hlt:j<c.size:=by rw[c1.1];omega
    have hB:YA { w with drawn:=k } b n c:=c1
    rw[wD hB,Nat.zero_add];simp [hlt]
   ·obtain⟨v,v1,v2⟩:=c3 j y hy
    have hj:=xA hy
    exact⟨k1 y (List.mem_of_getElem? hy),v,by simp [hg,hj,v1],v2⟩
theorem z6J:∀ (a b:List AV),AV.tops (a++b)=max (AV.tops a) (AV.tops b)
 | [],b=>by simp [AV.tops]
 | x::a,b=>by simp only[List.cons_append,AV.tops,z6J a b];omega
theorem z9b {t u ty:TypeId}{e9:Nat}{sh:Sh}(hsh:vC e9=sh)(hc:VE P sh t u=true)(h0:gA sh≠0){s x:Value}{vs vx v:AV}{h1:aA}{e:Esc}(H:HeapRel h μ w)(Rs:RAV (imm h μ w) h μ vs s)(Rx:RAV (imm h μ w) h μ vx x)
 (he:apA sh h vs vx=some (v,h1,e)):mA P (do pure (.value (←Builtin.append_ #[t,u] ty #[s,x]))) h μ w v h1 e:=by
 unfold apA at he;split at he;case h_2=>cases he
 rename_i k tt id g k' tt' id' g';cases hk:(Nat.beq k 3&&Nat.beq k' 3) with
 | false=>rw[hk]at he;cases he
 | true=>
  rw[hk]at he;simp only[Bool.and_eq_true]at hk;have hk1:=Nat.eq_of_beq_eq_true hk.1
  have hk2:=Nat.eq_of_beq_eq_true hk.2
  subst hk1;subst hk2
  simp only[cond_true]at he;split at he;case h_2=>cases he
  rename_i rsh cs rsh' ds ho ho';split at he;case isFalse=>cases he
  rename_i hcond;obtain⟨rfl,rfl,hg,hg',hmax⟩:=hcond;simp only[Option.some.injEq,Prod.mk.injEq]at he;obtain⟨rfl,rfl,rfl⟩:=he;obtain⟨a,cap,m,rfl,hl,hm,hO,_,old,hok,holdn,hold⟩:=asrc (P:=P) H Rs ho hg h0;obtain⟨a',cap',m',rfl,hl',hm',hO',hlen',c,hck,hcn,hcc⟩:=asrc (P:=P) H Rx ho' hg' h0;have hmul:(g+g')*gA rsh'=cs.length+ds.length:=by rw[Nat.add_mul,hg,hg']
  have hesc:∀o:Obj,rA h (h.set id (.arow rsh' (cs++ds))) (bif decide (id<AV.tops ds) then [(id,AV.tops ds)] else []):=fun _=>by
   refine rA.set ho ?_;simp only[Obj.top,z6J];cases hd:decide (id<AV.tops ds) with
   | false=>simp at hd;simp only[cond_false,kC];omega
   | true=>simp only[cond_true,kC];simp;omega
  by_cases hroom:g+g'≤cap
  ·cases m with
   | none=>
    have hc0:cap=0:=hO
    have hg0:g=0:=by omega
    have hg0':g'=0:=by omega
    subst hg0;subst hg0'
    have hd0:ds=[]:=by rw[Nat.zero_mul]at hg';exact List.length_eq_zero_iff.1 hg'.symm
    have hcs0:cs=[]:=by rw[Nat.zero_mul]at hg;exact List.length_eq_zero_iff.1 hg.symm
    subst hd0;subst hcs0
    have hc00:c = #[]:=by apply Array.eq_empty_of_size_eq_zero;simpa using hcn
    subst hc00;have hrun:=uF (P:=P) (w:=w) (ty:=ty) (base:=a) (sLen:=0) (sCap:=cap) hc hlen' (hck w.drawn) hroom (w':=w) (by cases a <;> simp [storeCells])
    have hs:h.set id (.arow rsh' ([]++[]))=h:=yE ho
    rw[hs];exact⟨_,_,_,vA hrun,.inl ⟨_,rfl,by simpa using Rs⟩,H,Evo.refl _ _ _,rA.refl _ _⟩
   | some m=>
    obtain⟨b,n⟩:=m;obtain⟨k1,c1,hB,hn,hcell⟩:=H.obj id _ _ ho hm;by_cases hz:g'=0
    ·subst hz
     have hd0:ds=[]:=by rw[Nat.zero_mul]at hg';exact List.length_eq_zero_iff.1 hg'.symm
     subst hd0;have hc00:c = #[]:=by apply Array.eq_empty_of_size_eq_zero;simpa using hcn
     subst hc00;have hrun:=uF (P:=P) (w:=w) (ty:=ty) (base:=a) (sLen:=g) (sCap:=cap) hc hlen' (hck w.drawn) hroom (w':=w) (by cases a <;> simp [storeCells])
     have hs:h.set id (.arow rsh' (cs++[]))=h:=by rw[List.append_nil];exact yE ho
     rw[hs];exact⟨_,_,_,vA hrun,.inl ⟨_,rfl,by simpa using Rs⟩,H,Evo.refl _ _ _,rA.refl _ _⟩
    ·have hOa:a=some ⟨b,0,none⟩∧cap*gA rsh'≤n:=by
      rcases hO with q|q
      ·omega
      ·exact⟨by rw[q.1,Nat.zero_mul],by rw[←Nat.zero_add cap];exact q.2⟩
     obtain⟨rfl,hcapn⟩:=hOa;have hfit:(g+g')*gA rsh'≤n:=Nat.le_trans (Nat.mul_le_mul_right _ hroom) hcapn
     have hone:∀u∈c.toList,u.oneCell'=true:=fun u hu=>by
      obtain⟨j,hj⟩:=List.getElem?_of_mem hu;have hjl:j<ds.length:=by have:=xA hj;simp at this;omega
      obtain⟨q1,u',q2,q3⟩:=hcc j ds[j] (List.getElem?_eq_getElem hjl);rw[Array.getElem?_toList,q2]at hj;injection hj with hj
      subst hj;exact tO q3 q1
     obtain⟨E,lo,hi,g1,g2⟩:=z0b (P:=P) (o:=g*gA rsh') c.toList w c1 0 hB (by simp;omega) hone
     simp only[Nat.add_zero]at g2;have hlo:¬False→lo<hi→n≤lo:=by
      obtain⟨_,E',lo',hi'',q1,q2⟩:=hB;rw[g1]at q1;injection q1 with q1;injection q1 with _ _ q3;injection q3 with q3 q4;subst q3;subst q4;exact q2
     have hsz:g*gA rsh'+c.toList.length≤c1.size:=by rw[hB.1];simp;omega
     have hμ:μ.set id (some (b,n))=μ:=yE hm
     have key:=H.set (w':=rB w b (.cells (tB c1 (g*gA rsh') c.toList) E (lo,hi))) (o':=.arow rsh' (cs++ds)) (m':=some (b,n)) ho hm (.inl ⟨_,rfl,by simp,fun _=>rfl⟩)
      rfl (Nat.le_of_eq (cJ _ _).symm) (fun b' _ hb'=>bJ (fun e=>hb' n (by rw[e])))
      (fun b' n e=>.inl ⟨n,e⟩) (fun b' n' sh2 xs2 fz2 e1 e2=>by cases e2)
      (fun M' Ev=>by
       refine⟨fun y hy=>?_,tB c1 (g*gA rsh') c.toList,⟨by rw[xF,hB.1],E,lo,hi,KE g1,hlo⟩,by rw[List.length_append];omega,fun j y hy=>?_⟩
       ·rcases List.mem_append.1 hy with hy|hy
        ·exact k1 y hy
        ·obtain⟨j,hj⟩:=List.getElem?_of_mem hy
         exact(hcc j y hj).1
       ·rw[IG _ _ _ _ hsz]
        rcases Nat.lt_or_ge j cs.length with hj|hj
        ·rw[List.getElem?_append_left hj]at hy
         rw[if_neg (by omega)]
         obtain⟨u,p,q⟩:=hcell j y hy;exact⟨u,p,q.evo Ev⟩
        ·rw[List.getElem?_append_right hj]at hy
         have:=xA hy;rw[if_pos (by simp;omega)]
         obtain⟨_,u,p,q⟩:=hcc _ y hy;exact⟨u,by rw[Array.getElem?_toList,hg];exact p,q.evo Ev⟩) (OM g1)
     rw[hμ]at key;have hrun:=uF (P:=P) (ty:=ty) (base:=some ⟨b,0,none⟩) (sLen:=g) (sCap:=cap) hc hlen' (hck w.drawn) hroom (by simpa [CC] using g2)
     refine⟨_,_,_,vA hrun,.inl ⟨_,rfl,?_⟩,key.1,key.2,hesc (.box [])⟩;exact .bt3 tt id (g+g') _ cap _ _ hroom (EC ho) hm (fun sh2 cs2 e=>by
      injection e with e1 e2
      subst e1;subst e2
      exact⟨by rw[hmul,List.length_append];exact Nat.le_refl _,fun _=>.inr ⟨by simp,by simpa using hcapn⟩⟩)
  ·obtain⟨el,newCap,rest,r0,r1,r2,r3⟩:=z5I (P:=P) (w:=w) (ty:=ty) (base:=a) (sLen:=g) (sCap:=cap) hc hlen' hck (by omega) hmax hok
   have hbsz:(old++c++rest).size=newCap*gA rsh':=by
    simp only[Array.size_append,holdn,hcn,r2,Nat.sub_mul];have:=Nat.mul_le_mul_right (gA rsh') r1;omega
   have hB:YA { w with drawn:=w.drawn+1,heap:=w.heap.push (.cells (old++c++rest) el (0,0)) } w.heap.size (old++c++rest).size (old++c++rest):=⟨rfl,el,0,0,by simp,fun _ h=>by omega⟩
   have hfit:(g+g')*gA rsh'≤newCap*gA rsh':=Nat.mul_le_mul_right _ r1
   have key:=H.set (w':={ w with drawn:=w.drawn+1,heap:=w.heap.push (.cells (old++c++rest) el (0,0)) }) (o':=.arow rsh' (cs++ds)) (m':=some (w.heap.size,(old++c++rest).size)) ho hm
    (.inl ⟨_,rfl,by simp,fun he=>by
     exfalso;rw[List.length_append]at he;have:g'*gA rsh'=0:=by omega
     rcases Nat.mul_eq_zero.1 this with q|q
     ·subst q
      omega
     ·exact h0 q⟩)
    rfl (by simp) (fun b' hb' _=>by simp [Array.getElem?_push,Nat.ne_of_lt hb'])
    (fun b' n e=>by injection e with e;injection e with e1 e2;subst e1;exact .inr ⟨Nat.le_refl _,by simp⟩) (fun b' n' sh2 xs2 fz2 e1 e2=>by cases e2)
    (fun M' Ev=>by
     refine⟨fun y hy=>?_,_,hB,by rw[List.length_append,hbsz];omega,fun j y hy=>?_⟩
     ·rcases List.mem_append.1 hy with hy|hy
      ·obtain⟨j,hj⟩:=List.getElem?_of_mem hy
       exact(hold j y hj).1
      ·obtain⟨j,hj⟩:=List.getElem?_of_mem hy
       exact(hcc j y hj).1
     ·rcases Nat.lt_or_ge j cs.length with hj|hj
      ·rw[List.getElem?_append_left hj]at hy
       obtain⟨_,u,p,q⟩:=hold j y hy;refine⟨u,?_,q.evo Ev⟩;rw[Array.append_assoc,Array.getElem?_append_left (by omega)]
       exact p
      ·rw[List.getElem?_append_right hj]at hy
       have:=xA hy;obtain⟨_,u,p,q⟩:=hcc _ y hy;refine⟨u,?_,q.evo Ev⟩;rw[Array.append_assoc,Array.getElem?_append_right (by omega),Array.getElem?_append_left (by omega),holdn]
       exact p) (fun b' n' t' e ht=>by
        rw[NM (w:=w)]
        ·exact ht
        ·have:=PQ ht
         simp [Array.getElem?_push,Nat.ne_of_lt this])
   refine⟨_,_,_,vA r3,.inl ⟨_,rfl,?_⟩,key.1,key.2,hesc (.box [])⟩;exact .bt3 tt id (g+g') _ newCap _ _ r1 (EC ho) (EC hm) (fun sh2 cs2 e=>by
    injection e with e1 e2
    subst e1;subst e2
    exact⟨by rw[hmul,List.length_append];exact Nat.le_refl _,fun _=>.inr ⟨by simp,by rw[hbsz];simp⟩⟩)
end Go.Am
end
section
/- The abstract machine: a strings.Builder's operations (zF) are sound. -/
set_option linter.unusedSimpArgs false
set_option linter.unusedVariables false
namespace Go.Am
variable {h h':aA} {μ μ':Mu} {w w':World} {P:Program} {M M':Mem}
def oJ (o:Op):Option (Operand×List Operand):=match o with
 | .call c=>match c.callee with
  | .value f=>some (f,c.args.toList)
  | _=>none
 | _=>none
theorem DT {o:Oper}{f:Operand}{ys:List Operand}(hc:oJ o.op=some (f,ys)){ρ:Operand→Value}{g:Nat}{caps:Array Value}(hf:ρ f = .func (.func g) #[] caps) :
 (execOp ρ o).run P w=(callFunc g ((ys.map ρ).toArray++caps)).run P w:=by
 unfold oJ at hc;split at hc
 ·rename_i c hop
  split at hc
  ·rename_i f' hcal
   injection hc with hc
   injection hc with h1 h2
   subst h1;subst h2
   unfold execOp;rw[hop];simp only[resolve,hcal,Deferred.ofValue,hf,Sem.run_bind,Sem.run_pure,Result.andThen_ok,invoke];have e1:(List.map ρ c.args.toList).toArray=c.args.map ρ:=by rw[←Array.toList_map]
   rw[e1];simp
  ·cases hc
 ·cases hc
theorem BT (t:Nat):∀(z:List AV) (c:List Value) {h:aA} {μ:Mu},HeapRel h μ w→c.length=z.length→(∀(j:Nat) (x:AV),z[j]?=some x→x.sc=true∧∃v,c[j]?=some v∧RAV (imm h μ w) h μ x v) →
 ∃μ',HeapRel (iB t z h).2 μ' w∧Evo (imm h μ w) h μ (imm (iB t z h).2 μ' w) (iB t z h).2 μ'∧rA h (iB t z h).2 []∧(iB t z h).1.length=z.length ∧
  ∀(j:Nat) (x:AV),(iB t z h).1[j]?=some x→x.sc=true∧∃v,c[j]?=some v∧RAV (imm (iB t z h).2 μ' w) (iB t z h).2 μ' x v
 | [],c,h,μ,H,_,_=>⟨μ,H,Evo.refl _ _ _,rA.refl _ _,rfl,fun j x hx=>by simp [iB]at hx⟩
 | a::r,[],h,μ,H,e,_=>by simp at e
 | a::r,b::s,h,μ,H,e,hr=>by
  have e3:s.length=r.length:=by simpa using e
  obtain⟨a1,b',hb',a2⟩:=hr 0 a rfl;have hbb:b'=b:=by simpa using hb'.symm
  subst hbb;by_cases ha:∃sh,a = .sl0 sh
  ·obtain⟨sh,rfl⟩:=ha
   cases hn:tR t sh with
   | true=>
    have hrw:iB t (.sl0 sh::r) h=(.bt 3 (t-1) h.length 0::(iB t r (h++[.arow (vC (t-1)) []])).1,(iB t r (h++[.arow (vC (t-1)) []])).2):=by
     show(bif tR t sh then _ else _)=_
     rw[hn];rfl
    rw[hrw];obtain⟨k1,k2⟩:=zfP H (vC (t-1));obtain⟨μ',g1,g2,g3,g4,g5⟩:=BT t r s k1 e3 (fun j x hx=>by
     obtain⟨q1,v,q2,q3⟩:=hr (j+1) x (by simpa using hx)
     exact⟨q1,v,by simpa using q2,q3.evo k2⟩)
    refine⟨μ',g1,k2.trans g2,?_,by simp [g4],fun j x hx=>?_⟩
    ·simpa using (rA.push (h:=h) (o:=.arow (vC (t-1)) []) (by simp [Obj.top,AV.tops])).trans g3
    ·cases j with
     | zero=>
      simp at hx;subst hx;refine⟨rfl,b',rfl,?_⟩;cases a2 with
      | sl0 _ aa=>
       have q:RAV (imm (h++[.arow (vC (t-1)) []]) (μ++[none]) w) (h++[.arow (vC (t-1)) []]) (μ++[none]) (.bt 3 (t-1) h.length 0) (.slice aa 0 0):=
        .bt3 (t-1) h.length 0 aa 0 (.arow (vC (t-1)) []) none (Nat.le_refl _) (by simp) (by rw[←H.len];simp) (fun sh cs e=>by
         injection e with q1 q2
         subst q1;subst q2
         exact⟨by simp,fun _=>by simp [CE]⟩)
       exact q.evo g2
     | succ j=>exact g5 j x (by simpa using hx)
   | false=>
    have hrw:iB t (.sl0 sh::r) h=(.own h.length 0 0 0::(iB t r (h++[.row sh [] 0])).1,(iB t r (h++[.row sh [] 0])).2):=by
     show(bif tR t sh then _ else _)=_
     rw[hn];rfl
    rw[hrw];obtain⟨k1,k2⟩:=uR H sh;obtain⟨μ',g1,g2,g3,g4,g5⟩:=BT t r s k1 e3 (fun j x hx=>by
     obtain⟨q1,v,q2,q3⟩:=hr (j+1) x (by simpa using hx)
     exact⟨q1,v,by simpa using q2,q3.evo k2⟩)
    refine⟨μ',g1,k2.trans g2,?_,by simp [g4],fun j x hx=>?_⟩
    ·simpa using (rA.push (h:=h) (o:=.row sh [] 0) (by simp [Obj.top])).trans g3
    ·cases j with
     | zero=>
      simp at hx;subst hx;refine⟨rfl,b',rfl,?_⟩;cases a2 with
      | sl0 _ aa=>
       have q:RAV (imm (h++[.row sh [] 0]) (μ++[none]) w) (h++[.row sh [] 0]) (μ++[none]) (.own h.length 0 0 0) (.slice aa 0 0):=
        .own h.length 0 0 0 aa 0 sh [] 0 none (Nat.le_refl _) (by simp) (by rw[←H.len];simp) (Nat.zero_le _) (Nat.le_refl _) (fun _=>by simp [CE])
       exact q.evo g2
     | succ j=>exact g5 j x (by simpa using hx)
  ·obtain⟨μ',g1,g2,g3,g4,g5⟩:=BT t r s H e3 (fun j x hx=>by
    obtain⟨q1,v,q2,q3⟩:=hr (j+1) x (by simpa using hx)
    exact⟨q1,v,by simpa using q2,q3⟩)
   have hrw:iB t (a::r) h=(a::(iB t r h).1,(iB t r h).2):=by
    cases a <;> first|rfl|exact absurd ⟨_,rfl⟩ ha
   rw[hrw];refine⟨μ',g1,g2,g3,by simp [g4],fun j x hx=>?_⟩
   cases j with
   | zero=>
    simp at hx;subst hx;exact⟨a1,b',rfl,a2.evo g2⟩
   | succ j=>exact g5 j x (by simpa using hx)
theorem z96 {t:TypeId}(tn:Nat){v:AV}{x:Value}{cs:List AV}(H:HeapRel h μ w)(R:RAV (imm h μ w) h μ v x)(hc:v.cells=some cs) :
 mA P (do pure (.value (←Instr.box t x))) h μ w (.ref (iB tn cs h).2.length 0) ((iB tn cs h).2++[.box (iB tn cs h).1]) []:=by
 have hs:=UH R hc
 obtain⟨μ',g1,g2,g3,g4,g5⟩:=BT tn cs x.cells.toList H (by simpa using hs.1) (fun j y hy=>by
  obtain⟨q1,u,q2,q3⟩:=hs.2 j y hy;exact⟨q1,u,by simpa using q2,q3⟩)
 obtain⟨_,_,μ2,k1,k2,k3,k4,k5⟩:=UX (P:=P) g1 (s:=do pure (.value (←Instr.box t x))) (c:=x.cells) t (by rw[g4];exact hs.1) (fun j y hy=>by simpa using g5 j y hy) (by
  refine vA ?_;simp [Instr.box,newVar,YF])
 exact⟨_,_,μ2,k1,k2,k3,g2.trans k4,by simpa using g3.trans k5⟩
end Go.Am
end
section
/- The abstract machine,part 19: which operation stands for which (lP),and that it is sound. -/
set_option linter.unusedSimpArgs false
set_option linter.unusedVariables false
set_option maxHeartbeats 1000000
namespace Go.Am
variable {h h':aA} {μ μ':Mu} {w w':World} {P:Program} {M M':Mem}
def ze3 (P:Program)(t:TypeId):Bool:=match P.underlying t with|some (.interface _)=>false|some _=>true|none=>false
def iE (b:Builtin)(o:Op):Option (List Operand×List TypeId):=match o with
 | .call c=>match c.callee with
  | .builtin b'=>if b=b' then some (c.args.toList,c.argTypes.toList) else none
  | _=>none
 | _=>none
def one9:Op→Option (TypeId × Operand)
 | .buildSlice t n qs=>if n=1 then match qs.toList with
  | [(0,y)]=>some (t,y)
  | _=>none
  else none
 | _=>none
theorem zgd {o:Op}{t:TypeId}{y:Operand}(h:one9 o=some (t,y)):o = .buildSlice t 1 #[(0,y)]:=by
 unfold one9 at h;split at h
 ·rename_i t' n qs
  split at h
  ·rename_i hn
   split at h
   ·rename_i y' hq
    simp only[Option.some.injEq,Prod.mk.injEq]at h;obtain⟨rfl,rfl⟩:=h;subst hn;have:qs = #[(0,y')]:=by rw[←Array.toList_inj];exact hq
    rw[this]
   ·cases h
  ·cases h
 ·cases h
def EV (P:Program)(k t:Nat)(xs:List Opd)(o:Op):Bool:=match k with
 | 9=>match one9 o,xs with
  | some (t',y),[x]=>chk9 P (vC t) t'&&yA x y
  | _,_=>false
 | 11=>match iE .append o,xs with
  | some ([x',y'],[t0,u]),[x,y]=>VE P (vC t) t0 u&&decide (gA (vC t)≠0)&&yA x x'&&yA y y'
  | _,_=>false
 | 12=>match o,xs with
  | .box _ y,[x]=>yA x y
  | _,_=>false
 | _=>false
def lP (P:Program)(a:AO)(o:Op):Bool:=match a with
 | .uns k t xs=>EV P k t xs o
 | .mv x=>match o with
  | .move y=>yA x y
  | .assign y=>yA x y
  | _=>false
 | .pick c x y=>match o with
  | .pick c' x' y'=>yA c c'&&yA x x'&&yA y y'
  | _=>false
 | .alloc z=>match o with
  | .alloc t=>bM P z t
  | _=>false
 | .box x=>match o with
  | .box _ y=>yA x y
  | _=>false
 | .build z ps=>match o with
  | .build t qs=>vV P z ps t qs.toList
  | _=>false
 | .bsl _ sh n z ps=>match o with
  | .buildSlice t n' qs=>uV P sh n z ps t n' qs.toList
  | _=>false
 | .load sh x=>match o with
  | .load t y=>WA P t==some sh&&yA x y
  | _=>false
 | .store sh x v=>match o with
  | .store t y u=>WA P t==some sh&&yA x y&&yA v u
  | _=>false
 | .nilchk x=>match o with
  | .nilCheck y=>yA x y
  | _=>false
 | .bin op x y=>match o with
  | .binOp op' _ x' y' _=>decide (op=op')&&yA x x'&&yA y y'
  | _=>false
 | .eqa ks neg x y=>match o with
  | .binOp op' t x' y' _=>decide (op'=if neg then .neq else .eql)&&kP P t ks&&yA x x'&&yA y y'
  | _=>false
 | .isnil k neg x=>match o with
  | .binOp op' t x' y' _=>decide (op'=if neg then .neq else .eql)&&WE P k t y'&&yA x x'
  | _=>false
 | .mkif _=>match o with
  | .makeInterface t _=>ze3 P t
  | _=>false
 | .un op x=>match o with
  | .unOp op' _ y=>decide (op=op')&&yA x y
  | _=>false
 | .conv c x=>match o with
  | .convert s d y=>WH P c s d&&yA x y
  | _=>false
 | .mkfn f caps=>match o with
  | .makeFunc fn first cs=>(match fn with | .func f'=>f==f'|_=>false)&&first.size==0&&GB caps cs.toList
  | _=>false
 | .mkmap=>match o with
  | .makeMap _ r=>r.isNone
  | _=>false
 | .mksl sh z l c=>match o with
  | .makeSlice t l' c'=>CV P sh z t&&yA l l'&&yA c c'
  | _=>false
 | .slice sh x lo hi mx=>match o with
  | .slice t x' lo' hi' mx'=>ZH P t sh&&yA x x'&&mC lo lo'&&mC hi hi'&&mC mx mx'&&(mx.isNone||hi.isSome)
  | _=>false
 | .slstr x lo hi=>match o with
  | .slice t x' lo' hi' mx'=>rJ P t&&yA x x'&&mC lo lo'&&mC hi hi'&&mx'.isNone
  | _=>false
 | .faddr off sh x=>match o with
  | .fieldAddr s y f=>XH P s f off sh&&yA x y
  | _=>false
 | .field off sh x=>match o with
  | .field s y f=>XH P s f off sh&&yA x y
  | _=>false
 | .iaddr sh x i=>match o with
  | .indexAddr t y j=>ZH P t sh&&yA x y&&yA i j
  | _=>false
 | .iaddra n sh x i=>match o with
  | .indexAddr t y j=>VH P t n sh&&yA x y&&yA i j
  | _=>false
 | .idxa n sh x i=>match o with
  | .index t y j=>VH P t n sh&&yA x y&&yA i j
  | _=>false
 | .idxs x i=>match o with
  | .index t y j=>rJ P t&&yA x y&&yA i j
  | _=>false
 | .ext x i=>match o with
  | .extract y j=>yA x y&&i==j
  | _=>false
 | .len x=>match iE .len o with
  | some ([y],t::_)=>jG P t==1&&yA x y
  | _=>false
 | .lens x=>match iE .len o with
  | some ([y],t::_)=>jG P t==2&&yA x y
  | _=>false
 | .lenm x=>match iE .len o with
  | some ([y],t::_)=>jG P t==3&&yA x y
  | _=>false
 | .app sh x y=>match iE .append o with
  | some ([x',y'],[t,u])=>VE P sh t u&&yA x x'&&yA y y'
  | _=>false
 | .copy sh x y=>match iE .copy o with
  | some ([x',y'],t::_)=>xV P sh t&&yA x x'&&yA y y'
  | _=>false
 | .clr sh z x=>match iE .clear o with
  | some ([x'],t::_)=>wV P sh z t&&yA x x'
  | _=>false
 | .look kk ok z x k=>match o with
  | .lookup t x' k' ok'=>qJ P kk z t&&ok==ok'&&yA x x'&&yA k k'
  | _=>false
 | .mupd kk m k v=>match o with
  | .mapUpdate t m' k' v'=>YH P kk t&&yA m m'&&yA k k'&&yA v v'
  | .insert t m' k' v'=>YH P kk t&&yA m m'&&yA k k'&&yA v v'
  | _=>false
 | .ment kk z m k=>match o with
  | .mapEntry t m' k'=>qJ P kk z t&&yA m m'&&yA k k'
  | _=>false
 | .estore m s v=>match o with
  | .entryStore _ m' s' v'=>yA m m'&&yA s s'&&yA v v'
  | _=>false
 | .mdel kk m k=>match iE .delete o with
  | some ([m',k'],t::_)=>YH P kk t&&yA m m'&&yA k k'
  | _=>false
 | .mrange x=>match o with
  | .range t y=>DV P t&&yA x y
  | _=>false
 | .mentry x=>match o with
  | .entry y=>yA x y
  | _=>false
 | .mx xs=>match iE .max o with
  | some (ys,_)=>GB xs ys
  | _=>false
 | .mn xs=>match iE .min o with
  | some (ys,_)=>GB xs ys
  | _=>false
 | .new0 _=>match o with
  | .move (.const (.slice none 0 0))=>true
  | .assign (.const (.slice none 0 0))=>true
  | _=>false
 | _=>false
theorem TE {b:Builtin}{o:Oper}{ys:List Operand}{ts:List TypeId}(hb:iE b o.op=some (ys,ts)){ρ:Operand→Value} :
 ∃cs,(execOp ρ o).run P w=(builtin b ts.toArray o.type cs (ys.map ρ).toArray).run P w:=by
 unfold iE at hb;split at hb
 ·rename_i c hc
  split at hb
  ·rename_i b' hcb
   split at hb
   ·rename_i hbb
    subst hbb;injection hb with hb
    injection hb with h1 h2
    subst h1;subst h2
    refine⟨(c.args.map fun | .const _=>true|_=>false),?_⟩
    unfold execOp;rw[hc];simp only[resolve,hcb,Sem.run_bind,Sem.run_pure,Result.andThen_ok,invoke];have e1:(List.map ρ c.args.toList).toArray=c.args.map ρ:=by rw[←Array.toList_map]
    rw[e1];rfl
   ·cases hb
  ·cases hb
 ·cases hb
theorem mA.congr {s s':Sem Next}{v:AV}{h1:aA}{e:Esc}(hr:s.run P w=s'.run P w)(H:mA P s' h μ w v h1 e):mA P s h μ w v h1 e:=by
 obtain⟨nx,w',μ',r,q⟩:=H;exact⟨nx,w',μ',hr.trans r,q⟩
theorem zlB {k t:Nat}{xs:List Opd}{o:Oper}(hc:EV P k t xs o.op=true){ev:Opd→AV}(hev:∀ v,ev (.c v)=v){ρ:Operand→Value}(hρ:∀ v,ρ (.const v)=v){v:AV}{h1:aA}{e:Esc}(H:HeapRel h μ w)(R:AD (imm h μ w) h μ ev ρ)
 (he:zF k t (xs.map ev) h=some (v,h1,e)):mA P (execOp ρ o) h μ w v h1 e:=by
 have E:∀{s:Sem Next},execOp ρ o=s→mA P s h μ w v h1 e→mA P (execOp ρ o) h μ w v h1 e:=fun hs H=>hs ▸ H
 unfold EV at hc;split at hc
 ·split at hc
  case h_2=>cases hc
  rename_i t' y x ho;simp only[Bool.and_eq_true]at hc;obtain⟨c1,c2⟩:=hc;have ho:=zgd ho
  simp only[zF,List.map_cons,List.map_nil]at he;split at he;case h_2=>cases he
  rename_i cs hv;split at he;case isFalse=>cases he
  rename_i hl;simp only[Option.some.injEq,Prod.mk.injEq]at he;obtain⟨rfl,rfl,rfl⟩:=he;exact E (s:=do pure (.value (←Instr.buildSlice t' 1 #[(0,ρ y)]))) (by unfold execOp;rw[ho];simp) (z98 rfl c1 H (R _ _ c2) hv hl)
 ·split at hc
  case h_2=>cases hc
  rename_i x' y' t0 u x y hb;simp only[Bool.and_eq_true,decide_eq_true_eq]at hc;obtain⟨⟨⟨c1,c2⟩,c3⟩,c4⟩:=hc;simp only[zF,List.map_cons,List.map_nil]at he;obtain⟨cs,hr⟩:=TE (P:=P) (w:=w) hb (ρ:=ρ);exact mA.congr hr (z9b rfl c1 c2 H (R _ _ c3) (R _ _ c4) he)
 ·split at hc
  case h_2=>cases hc
  rename_i t' y x ho;simp only[zF,List.map_cons,List.map_nil]at he;split at he;case h_2=>cases he
  rename_i cs hv;simp only[Option.some.injEq,Prod.mk.injEq]at he;obtain⟨rfl,rfl,rfl⟩:=he;exact E (by unfold execOp;rw[ho]) (z96 _ H (R _ _ hc) hv)
 ·cases hc
theorem z4W {a:AO}{o:Oper}(hc:lP P a o.op=true){ev:Opd→AV}(hev:∀ v,ev (.c v)=v){ρ:Operand→Value}(hρ:∀ v,ρ (.const v)=v){v:AV}{h1:aA}{e:Esc}(H:HeapRel h μ w)(R:AD (imm h μ w) h μ ev ρ)
 (he:aop a ev h=some (v,h1,e)):mA P (execOp ρ o) h μ w v h1 e:=by
 have E:∀{s:Sem Next},execOp ρ o=s→mA P s h μ w v h1 e→mA P (execOp ρ o) h μ w v h1 e:=fun hs H=>hs ▸ H
 cases a <;> simp only[lP]at hc
 case mv x=>
  split at hc
  ·rename_i y ho;exact E (by unfold execOp;rw[ho]) (z4N H (R _ _ hc) he)
  ·rename_i y ho;exact E (by unfold execOp;rw[ho]) (z4N H (R _ _ hc) he)
  ·cases hc
 case uns k t xs=>exact zlB hc hev hρ H R he
 case pick c x y=>
  split at hc
  ·rename_i c' x' y' ho
   simp only[Bool.and_eq_true]at hc;exact E (by unfold execOp;rw[ho]) (zjm H (R _ _ hc.1.1) (R _ _ hc.1.2) (R _ _ hc.2) he)
  ·cases hc
 case alloc z=>
  split at hc
  ·rename_i t ho
   simp only[aop,Option.some.injEq,Prod.mk.injEq]at he;obtain⟨rfl,rfl,rfl⟩:=he;exact E (by unfold execOp;rw[ho]) (z8W hc H)
  ·cases hc
 case box x=>
  split at hc
  ·rename_i t y ho
   simp only[aop]at he;split at he
   ·rename_i cs hcs
    simp only[Option.some.injEq,Prod.mk.injEq]at he;obtain⟨rfl,rfl,rfl⟩:=he;exact E (by unfold execOp;rw[ho]) (z95 H (R _ _ hc) hcs)
   ·cases he
  ·cases hc
 case build z ps=>
  split at hc
  ·rename_i t qs ho
   simp only[aop,Option.map_eq_some_iff,Prod.mk.injEq]at he;obtain⟨cs,hcs,rfl,rfl,rfl⟩:=he;exact E (by unfold execOp;rw[ho]) (z99 hc H R hcs)
  ·cases hc
 case bsl own sh n z ps=>
  split at hc
  ·rename_i t n' qs ho
   exact E (by unfold execOp;rw[ho]) (z97 hc H R he)
  ·cases hc
 case load sh x=>
  split at hc
  ·rename_i t y ho
   simp only[Bool.and_eq_true,beq_iff_eq]at hc;exact E (by unfold execOp;rw[ho]) (zf2 hc.1 H (R _ _ hc.2) ev x rfl he)
  ·cases hc
 case store sh x u=>
  split at hc
  ·rename_i t y z ho
   simp only[Bool.and_eq_true,beq_iff_eq]at hc;exact E (by unfold execOp;rw[ho]) (zlg hc.1.1 H ev x u (R _ _ hc.1.2) (R _ _ hc.2) he)
  ·cases hc
 case nilchk x=>
  split at hc
  ·rename_i y ho;exact zfW H (R _ _ hc) he rfl ho
  ·cases hc
 case bin op x y=>
  split at hc
  ·rename_i op' t x' y' u ho
   simp only[Bool.and_eq_true,decide_eq_true_eq]at hc;obtain⟨⟨rfl,c2⟩,c3⟩:=hc;exact E (by unfold execOp;rw[ho]) (z9x H (R _ _ c2) (R _ _ c3) he)
  ·cases hc
 case eqa ks neg x y=>
  split at hc
  ·rename_i op' t x' y' u ho
   simp only[Bool.and_eq_true,decide_eq_true_eq]at hc;obtain⟨⟨⟨c1,c2⟩,c3⟩,c4⟩:=hc;exact E (by unfold execOp;rw[ho]) (zdF c1 c2 H (R _ _ c3) (R _ _ c4) he)
  ·cases hc
 case isnil k neg x=>
  split at hc
  ·rename_i op' t x' y' u ho
   simp only[Bool.and_eq_true,decide_eq_true_eq]at hc;obtain⟨⟨c1,c2⟩,c3⟩:=hc;have hy:∃z,y' = .const z:=by
    unfold WE at c2;split at c2 <;> first|exact⟨_,rfl⟩|cases c2
   obtain⟨z,rfl⟩:=hy;have:=zeA (P:=P) (a:=x') c1 c2 H (R _ _ c3) he;refine E (by unfold execOp;rw[ho]) ?_
   simp only[hρ];exact this
  ·cases hc
 case mkif x=>
  split at hc
  ·rename_i t y ho;exact E (by unfold execOp;rw[ho]) (zfD hc H he)
  ·cases hc
 case un op x=>
  split at hc
  ·rename_i op' t y ho
   simp only[Bool.and_eq_true,decide_eq_true_eq]at hc;obtain⟨rfl,c2⟩:=hc;exact E (by unfold execOp;rw[ho]) (un_ok H (R _ _ c2) he)
  ·cases hc
 case conv c x=>
  split at hc
  ·rename_i s d y ho
   simp only[Bool.and_eq_true]at hc;exact E (by unfold execOp;rw[ho]) (zbo hc.1 H (R _ _ hc.2) he)
  ·cases hc
 case mkfn f caps=>
  split at hc
  ·rename_i fn first cs ho
   simp only[Bool.and_eq_true,beq_iff_eq]at hc;obtain⟨⟨c1,c2⟩,c3⟩:=hc;split at c1
   ·simp only[beq_iff_eq]at c1
    subst c1;exact E (by unfold execOp;rw[ho]) (zfC c3 (Array.eq_empty_of_size_eq_zero c2) H R he)
   ·cases c1
  ·cases hc
 case mkmap=>
  split at hc
  ·rename_i t r ho
   rw[Option.isNone_iff_eq_none]at hc;subst hc;exact E (s:=do pure (.value (←Instr.makeMap t none))) (by unfold execOp;rw[ho];rfl) (zfE rfl H he)
  ·cases hc
 case mksl sh z l c=>
  split at hc
  ·rename_i t l' c' ho
   simp only[Bool.and_eq_true]at hc;exact E (by unfold execOp;rw[ho]) (zfF hc.1.1 H (R _ _ hc.1.2) (R _ _ hc.2) he)
  ·cases hc
 case slice sh x lo hi mx=>
  split at hc
  ·rename_i t x' lo' hi' mx' ho
   simp only[Bool.and_eq_true,Bool.or_eq_true]at hc;obtain⟨⟨⟨⟨⟨c1,c2⟩,c3⟩,c4⟩,c5⟩,c6⟩:=hc;refine E (by unfold execOp;rw[ho]) (zkN c1 H R c2 c3 c4 c5 (fun hm=>?_) he)
   rcases c6 with c6|c6
   ·cases mx <;> simp_all
   ·exact c6
  ·cases hc
 case slstr x lo hi=>
  split at hc
  ·rename_i t x' lo' hi' mx' ho
   simp only[Bool.and_eq_true]at hc;obtain⟨⟨⟨⟨c1,c2⟩,c3⟩,c4⟩,c5⟩:=hc;rw[Option.isNone_iff_eq_none]at c5;subst c5;exact E (s:=do pure (.value (←Instr.sliceAt t (ρ x') (lo'.map ρ) (hi'.map ρ) none))) (by unfold execOp;rw[ho];rfl) (zkO c1 H R c2 c3 c4 he)
  ·cases hc
 case faddr off sh x=>
  split at hc
  ·rename_i s y f ho
   simp only[Bool.and_eq_true]at hc;exact E (by unfold execOp;rw[ho]) (zdR hc.1 H ev x (R _ _ hc.2) he)
  ·cases hc
 case field off sh x=>
  split at hc
  ·rename_i s y f ho
   simp only[Bool.and_eq_true]at hc;exact E (by unfold execOp;rw[ho]) (zdY hc.1 H ev x (R _ _ hc.2) he)
  ·cases hc
 case iaddr sh x i=>
  split at hc
  ·rename_i t y j ho
   simp only[Bool.and_eq_true]at hc;exact E (by unfold execOp;rw[ho]) (zeu hc.1.1 H ev x i (R _ _ hc.1.2) (R _ _ hc.2) he)
  ·cases hc
 case iaddra n sh x i=>
  split at hc
  ·rename_i t y j ho
   simp only[Bool.and_eq_true]at hc;exact E (by unfold execOp;rw[ho]) (zex hc.1.1 H ev x i (R _ _ hc.1.2) (R _ _ hc.2) he)
  ·cases hc
 case idxa n sh x i=>
  split at hc
  ·rename_i t y j ho
   simp only[Bool.and_eq_true]at hc;exact E (by unfold execOp;rw[ho]) (ze0 hc.1.1 H ev x i (R _ _ hc.1.2) (R _ _ hc.2) he)
  ·cases hc
 case idxs x i=>
  split at hc
  ·rename_i t y j ho
   simp only[Bool.and_eq_true]at hc;exact E (by unfold execOp;rw[ho]) (ze1 hc.1.1 H ev x i (R _ _ hc.1.2) (R _ _ hc.2) he)
  ·cases hc
 case ext x i=>
  split at hc
  ·rename_i y j ho
   simp only[Bool.and_eq_true,beq_iff_eq]at hc;obtain⟨c1,rfl⟩:=hc;exact E (by unfold execOp;rw[ho]) (zdP H (R _ _ c1) he)
  ·cases hc
 case len x=>
  split at hc
  ·rename_i y t ts hb
   simp only[Bool.and_eq_true,beq_iff_eq]at hc;obtain⟨cs,hr⟩:=TE (P:=P) (w:=w) hb (ρ:=ρ);exact mA.congr hr (zfu hc.1 H (R _ _ hc.2) he)
  ·cases hc
 case lens x=>
  split at hc
  ·rename_i y t ts hb
   simp only[Bool.and_eq_true,beq_iff_eq]at hc;obtain⟨cs,hr⟩:=TE (P:=P) (w:=w) hb (ρ:=ρ);exact mA.congr hr (zfy hc.1 H (R _ _ hc.2) he)
  ·cases hc
 case lenm x=>
  split at hc
  ·rename_i y t ts hb
   simp only[Bool.and_eq_true,beq_iff_eq]at hc;obtain⟨cs,hr⟩:=TE (P:=P) (w:=w) hb (ρ:=ρ);exact mA.congr hr (zfx hc.1 H (R _ _ hc.2) he)
  ·cases hc
 case app sh x y=>
  split at hc
  ·rename_i x' y' t u hb
   simp only[Bool.and_eq_true]at hc;obtain⟨cs,hr⟩:=TE (P:=P) (w:=w) hb (ρ:=ρ);exact mA.congr hr (z9d hc.1.1 H (R _ _ hc.1.2) (R _ _ hc.2) he)
  ·cases hc
 case copy sh x y=>
  split at hc
  ·rename_i x' y' t ts hb
   simp only[Bool.and_eq_true]at hc;obtain⟨cs,hr⟩:=TE (P:=P) (w:=w) hb (ρ:=ρ);exact mA.congr hr (zbp hc.1.1 H (R _ _ hc.1.2) (R _ _ hc.2) he)
  ·cases hc
 case clr sh z x=>
  split at hc
  ·rename_i x' t ts hb
   simp only[Bool.and_eq_true]at hc;obtain⟨cs,hr⟩:=TE (P:=P) (w:=w) hb (ρ:=ρ);exact mA.congr hr (zbc hc.1 H (R _ _ hc.2) he)
  ·cases hc
 case look kk ok z x k=>
  split at hc
  ·rename_i t x' k' ok' ho
   simp only[Bool.and_eq_true,beq_iff_eq]at hc;obtain⟨⟨⟨c1,rfl⟩,c3⟩,c4⟩:=hc;exact E (by unfold execOp;rw[ho]) (zf5 c1 H (R _ _ c3) (R _ _ c4) he)
  ·cases hc
 case mupd kk m k u=>
  split at hc
  ·rename_i t m' k' v' ho
   simp only[Bool.and_eq_true]at hc;obtain⟨⟨⟨c1,c2⟩,c3⟩,c4⟩:=hc;exact E (by unfold execOp;rw[ho]) (z4M c1 H (R _ _ c2) (R _ _ c3) (R _ _ c4) he)
  ·rename_i t m' k' v' ho
   simp only[Bool.and_eq_true]at hc;obtain⟨⟨⟨c1,c2⟩,c3⟩,c4⟩:=hc;exact E (by unfold execOp;rw[ho]) (z4M c1 H (R _ _ c2) (R _ _ c3) (R _ _ c4) he)
  ·cases hc
 case ment kk z m k=>
  split at hc
  ·rename_i t m' k' ho
   simp only[Bool.and_eq_true]at hc;exact E (by unfold execOp;rw[ho]) (zf9 hc.1.1 H (R _ _ hc.1.2) (R _ _ hc.2) he)
  ·cases hc
 case estore m s u=>
  split at hc
  ·rename_i t m' s' v' ho
   simp only[Bool.and_eq_true]at hc;exact E (by unfold execOp;rw[ho]) (zdL H (R _ _ hc.1.1) (R _ _ hc.1.2) (R _ _ hc.2) he)
  ·cases hc
 case mdel kk m k=>
  split at hc
  ·rename_i m' k' t ts hb
   simp only[Bool.and_eq_true]at hc;obtain⟨cs,hr⟩:=TE (P:=P) (w:=w) hb (ρ:=ρ);exact mA.congr hr (zf8 hc.1.1 H (R _ _ hc.1.2) (R _ _ hc.2) he)
  ·cases hc
 case mrange x=>
  split at hc
  ·rename_i t y ho
   simp only[Bool.and_eq_true]at hc;exact E (by unfold execOp;rw[ho]) (zfH hc.1 H (R _ _ hc.2) he)
  ·cases hc
 case mentry x=>
  split at hc
  ·rename_i y ho
   exact E (by unfold execOp;rw[ho]) (zfA H (R _ _ hc) he)
  ·cases hc
 case mx xs=>
  split at hc
  ·rename_i ys ts hb
   obtain⟨cs,hr⟩:=TE (P:=P) (w:=w) hb (ρ:=ρ);refine mA.congr hr ?_;have:=mx_ok (P:=P) (cs:=ys.toArray) (ts:=ts.toArray) (ty:=o.type) hc H R he;have h2:Array.map ρ ys.toArray=(List.map ρ ys).toArray:=by simp
   rw[h2]at this;exact this
  ·cases hc
 case mn xs=>
  split at hc
  ·rename_i ys ts hb
   obtain⟨cs,hr⟩:=TE (P:=P) (w:=w) hb (ρ:=ρ);refine mA.congr hr ?_;have:=mn_ok (P:=P) (cs:=ys.toArray) (ts:=ts.toArray) (ty:=o.type) hc H R he;have h2:Array.map ρ ys.toArray=(List.map ρ ys).toArray:=by simp
   rw[h2]at this;exact this
  ·cases hc
 case new0 sh=>
  split at hc
  ·rename_i ho
   refine E (s:=pure (.value (.slice none 0 0))) (by unfold execOp;rw[ho];simp only[hρ]) (z4P H he)
  ·rename_i ho
   refine E (s:=pure (.value (.slice none 0 0))) (by unfold execOp;rw[ho];simp only[hρ]) (z4P H he)
  ·cases hc
 all_goals cases hc
end Go.Am
end
section
/- The abstract machine,part 20: regions in their own order. -/
set_option linter.unusedSimpArgs false
set_option linter.unusedVariables false
set_option maxHeartbeats 1000000
namespace Go.Am
variable {h h':aA} {μ μ':Mu} {w w':World} {P:Program} {M M':Mem}
def QD (gl:Nat→Option PV)(M:Mem):Prop:=∀n v,gl n=some v→RAV M [] [] (.vp v) (.pointer (some ⟨n,0,none⟩))∧∃cs t x,M.b n=some (.cells cs t x)∧cs.size=v.cells.length
theorem RAV.vp_any {v:PV}{x:Value}{h':aA}{μ':Mu}(H:RAV M h μ (.vp v) x):RAV M h' μ' (.vp v) x:=by
 cases H with|vp _ b o f hm hr=>exact .vp v b o f hm hr
theorem QD.mono {gl:Nat→Option PV}(hM:M.le M')(H:QD gl M):QD gl M':=fun n v hv=>by
 obtain⟨h1,cs,t,x,h2,h3⟩:=H n v hv;refine⟨?_,cs,t,x,hM.b _ _ h2,h3⟩;cases h1 with|vp _ _ _ f hm hr=>exact .vp v n 0 f (fun j y hy=>hM.c _ _ _ (hm j y hy)) (fun j y hy=>(hr j y hy).mono hM)
structure Rel (gl:Nat→Option PV) (nt:Nat) (M0:Mem) (h0:aA) (μ0:Mu) (e:List (Nat × AV)) (h:aA) (x:Esc) (a:Act) (w:World) (μ:Mu):Prop where
 heap:HeapRel h μ w
 env:∀t,RAV (imm h μ w) h μ (kA e t) (a.tmps.getD t undef)
 glob:QD gl (imm h μ w)
 evo:Evo M0 h0 μ0 (imm h μ w) h μ
 esc:rA h0 h x
 size:nt≤a.tmps.size
 defers:a.defers=[]
variable {gl:Nat→Option PV} {nt:Nat} {M0:Mem} {h0:aA} {μ0:Mu} {e:List (Nat × AV)} {x:Esc} {a:Act}
theorem Rel.opds (H:Rel gl nt M0 h0 μ0 e h x a w μ):AD (imm h μ w) h μ (Opd.ev gl e) a.eval:=by
 intro p q hpq;unfold yA at hpq;split at hpq
 ·simp only[beq_iff_eq]at hpq
  subst hpq;exact H.env _
 ·exact bI hpq
 ·simp only[beq_iff_eq]at hpq
  subst hpq;exact .fn _ [] [] rfl (fun j y v h1 h2=>by simp at h1)
 ·simp only[beq_iff_eq]at hpq
  subst hpq;simp only[Opd.ev];split
  ·rename_i v hv;exact(H.glob _ v hv).1.vp_any
  ·exact .und _
 ·cases hpq
theorem lJ {d:Option Nat}{v:AV}{t:Nat}:kA (put d v e) t=if d=some t then v else kA e t:=by
 cases d with
 | none=>simp [put]
 | some d=>simp [put,kA]
theorem zjv {d:Option Nat}{u:Value}{t:Nat}(hd:∀ i,d=some i→i<a.tmps.size):(a.put d u).tmps.getD t undef=if d=some t then u else a.tmps.getD t undef:=by
 cases d with
 | none=>simp [Act.put]
 | some d=>
  have:=hd d rfl;by_cases h:d=t
  ·subst h;simp [Act.put,this]
  ·simp [Act.put,h,Array.getElem?_setIfInBounds]
theorem zjw {d:Option Nat}{u:Value}:(a.put d u).tmps.size=a.tmps.size:=by
 cases d <;> simp [Act.put]
theorem zju {d:Option Nat}{u:Value}:(a.put d u).defers=a.defers:=by
 cases d <;> rfl
theorem Rel.step (H:Rel gl nt M0 h0 μ0 e h x a w μ){d:Option Nat}(hd:∀ i,d=some i→i<nt){v:AV}{u:Value}{h':aA}{x':Esc}{w':World}{μ':Mu}(H':HeapRel h' μ' w')(E:Evo (imm h μ w) h μ (imm h' μ' w') h' μ')(I:rA h h' x')
 (hv:RAV (imm h' μ' w') h' μ' v u):Rel gl nt M0 h0 μ0 (put d v e) h' (x'++x) (a.put d u) w' μ':=by
 have hd':∀i,d=some i→i<a.tmps.size:=fun i hi=>Nat.lt_of_lt_of_le (hd i hi) H.size
 refine⟨H',fun t=>?_,H.glob.mono E.le,H.evo.trans E,rA.trans H.esc I,by rw[zjw];exact H.size,by rw[zju];exact H.defers⟩
 rw[lJ,zjv hd'];split
 ·exact hv
 ·exact(H.env t).evo E
theorem Rel.skip (H:Rel gl nt M0 h0 μ0 e h x a w μ){d:Option Nat}(hd:∀ i,d=some i→i<nt):Rel gl nt M0 h0 μ0 (put d .skp e) h x (a.put d undef) w μ:=by
 have:=H.step hd H.heap (Evo.refl _ _ _) (rA.refl h []) (.skp);simpa using this
def AC (P:Program)(gl:Nat→Option PV):Hd:=fun f asv h K=>
 ∀(μ:Mu) (w:World) (vs:List Value),HeapRel h μ w→QD gl (imm h μ w)→asv.length=vs.length→(∀(j:Nat) (y:AV) (v:Value),asv[j]?=some y→vs[j]?=some v→RAV (imm h μ w) h μ y v) →
  ((∀w,(callFunc f vs.toArray).run P w = .ok (.enter f vs.toArray) w) ∧
  Calls P f vs.toArray w fun
   | .returned r,w'=>∃v h' x μ',K v h' x∧RAV (imm h' μ' w') h' μ' v r∧HeapRel h' μ' w'∧Evo (imm h μ w) h μ (imm h' μ' w') h' μ'∧rA h h' x
   | _,_=>False) ∨
  ∃r w' v h' x μ',(callFunc f vs.toArray).run P w = .ok (.value r) w'∧K v h' x∧RAV (imm h' μ' w') h' μ' v r∧HeapRel h' μ' w'∧Evo (imm h μ w) h μ (imm h' μ' w') h' μ'∧rA h h' x
theorem AC.mono (P:Program)(gl:Nat→Option PV):(AC P gl).Mono:=by
 intro f asv h K K' hK H μ w vs h1 h2 h3 h4;rcases H μ w vs h1 h2 h3 h4 with⟨q1,q2⟩|⟨r,w',v,h',x,μ',q1,k,rest⟩
 case inr=>exact .inr ⟨r,w',v,h',x,μ',q1,hK _ _ _ k,rest⟩
 refine .inl ⟨q1,q2.mono fun e w' he=>?_⟩
 cases e with
 | returned r=>obtain⟨v,h',x,μ',k,rest⟩:=he;exact⟨v,h',x,μ',hK _ _ _ k,rest⟩
 | panicked _=>exact he
 | outgrown=>exact he
def zV (ops:Array Oper)(nt:Nat):Option (Nat×Bool)→Option (Nat×Bool)→Bool
 | none,none=>true
 | some (t,b),some (j,b')=>b==b'&&decide (t<nt)&&(match ops[j]? with|some o=>o.dst==some t|none=>false)
 | _,_=>false
def PG (P:Program)(nt:Nat)(ops:Array Oper)(o:AOp)(p:Oper):Bool:=
 o.dst==p.dst&&(match o.dst with|some d=>decide (d<nt)|none=>true)&&zV ops nt o.guard p.guard&&match o.op with
  | .call f args=>match oJ p.op with
   | some (g,ys)=>yA (.f f) g&&GB args ys
   | none=>false
  | .callv f args=>match oJ p.op with
   | some (g,ys)=>yA f g&&GB args ys
   | none=>false
  | .mnext none xs=>match p.op with
   | .next y isS=>!isS&&GB xs [y]
   | _=>false
  | .mnext (some sh) xs=>match iE .append p.op with
   | some ([x',y'],[t,u])=>VE P sh t u&&GB xs [x',y']
   | _=>false
  | op=>lP P op p.op
def kG (P:Program)(nt:Nat)(ops:Array Oper):List AOp→Nat→Bool
 | [],i=>i==ops.size
 | o::r,i=>match ops[i]? with
  | some p=>PG P nt ops o p&&kG P nt ops r (i+1)
  | none=>false
theorem PT (H:Rel gl nt M0 h0 μ0 e h x a w μ){ops:Array Oper}{g:Option (Nat × Bool)}{p:Oper}(hc:zV ops nt g p.guard=true){b:Bool}(hw:wanted g e=some b):Region.wanted p (yielded ops a.tmps)=b:=by
 unfold Region.wanted;unfold zV at hc;split at hc
 ·rename_i hg
  rw[hg];simp only[wanted,Option.some.injEq]at hw;exact hw
 ·rename_i t b1 j b2 hg
  rw[hg];simp only[Bool.and_eq_true,beq_iff_eq,decide_eq_true_eq]at hc;obtain⟨⟨rfl,ht⟩,hj⟩:=hc;split at hj
  ·rename_i o ho
   simp only[beq_iff_eq]at hj;have hsz:t<a.tmps.size:=Nat.lt_of_lt_of_le ht H.size
   have hR:=H.env t
   have hget:a.tmps[t]?=some (a.tmps.getD t undef):=by simp [Array.getElem?_eq_getElem hsz,Array.getD,hsz]
   simp only[yielded,ho,Option.bind_some,hj,hget];unfold wanted at hw;dsimp only at hw;split at hw
   ·rename_i c hv
    rw[hv]at hR;rw[hR.p_bool];have hw':=Option.some.inj hw
    rw[←hw'];cases c <;> cases b1 <;> rfl
   ·rename_i hv
    rw[hv]at hR;generalize a.tmps.getD t undef=z at hR;injection hw with hw
    subst hw;cases hR;cases b1 <;> rfl
   ·cases hw
  ·cases hj
 ·cases hc
theorem XF {C:Hd}(hC:∀ f a h K,C f a h K→AC P gl f a h K){ops:Array Oper}{Q:Exit→Act→World→Prop} :
 ∀(aops:List AOp) (i:Nat) {e:List (Nat×AV)} {h:aA} {x:Esc} {K:List (Nat×AV)→aA→Esc→Prop} {a:Act} {w:World} {μ:Mu},kG P nt ops aops i=true→UA C gl aops e h x K→Rel gl nt M0 h0 μ0 e h x a w μ →
  (∀e h x a w μ,K e h x→Rel gl nt M0 h0 μ0 e h x a w μ→Q .normal a w)→wpOps P ops Q (List.range' i (ops.size-i)) a w
 | [],i,e,h,x,K,a,w,μ,hc,H,R,hK=>by
  simp only[kG,beq_iff_eq]at hc;subst hc;simp only[Nat.sub_self,List.range'_zero,wpOps];exact hK _ _ _ _ _ _ H R
 | o::r,i,e,h,x,K,a,w,μ,hc,H,R,hK=>by
  simp only[kG]at hc;split at hc
  ·rename_i p hp
   have hi:i<ops.size:=by
    rcases Nat.lt_or_ge i ops.size with q|q
    ·exact q
    ·rw[Array.getElem?_eq_none q]at hp;cases hp
   simp only[Bool.and_eq_true]at hc;obtain⟨c1,c2⟩:=hc;have hr:List.range' i (ops.size-i)=i::List.range' (i+1) (ops.size-(i+1)):=by
    rw[show ops.size-i=(ops.size-(i+1))+1 by omega,List.range'_succ]
   rw[hr];simp only[wpOps,hp];obtain⟨dst,guard,op⟩:=o;unfold PG at c1;simp only[Bool.and_eq_true,beq_iff_eq]at c1;obtain⟨⟨⟨d1,d2⟩,d3⟩,d4⟩:=c1;have hd:∀j,dst=some j→j<nt:=fun j hj=>by subst hj;simpa using d2
   subst d1;unfold UA at H;dsimp only at H;split at H
   ·rename_i hw
    rw[if_pos (PT R d3 hw)];left;have call:∀(f:Nat) (asv:List AV) (g:Operand) (ys:List Operand) (caps:List AV) (cvs:List Value),oJ p.op=some (g,ys)→a.eval g = .func (.func f) #[] cvs.toArray→caps.length=cvs.length →
     (∀(j:Nat) (y:AV) (v:Value),caps[j]?=some y→cvs[j]?=some v→RAV (imm h μ w) h μ y v)→asv.length=ys.length →
     (∀(j:Nat) (y:AV) (v:Value),asv[j]?=some y→(ys.map a.eval)[j]?=some v→RAV (imm h μ w) h μ y v) →
     C f (asv++caps) h (fun v h' x'=>UA C gl r (put p.dst v e) h' (x'++x) K)→p.wp P a w (wpOps P ops Q (List.range' (i+1) (ops.size-(i+1)))) Q:=by
     intro f asv g ys caps cvs hcall hg hcl hcr hal har HC;have hco:=hC _ _ _ _ HC μ w (ys.map a.eval++cvs) R.heap R.glob (by simp [hal,hcl]) (fun j y v hy hv=>by
      rcases Nat.lt_or_ge j asv.length with q|q
      ·rw[List.getElem?_append_left q]at hy
       rw[List.getElem?_append_left (by simpa [←hal] using q)]at hv
       exact har j y v hy hv
      ·rw[List.getElem?_append_right q]at hy
       rw[List.getElem?_append_right (by simpa [←hal] using q)]at hv
       exact hcr _ y v hy (by simpa [←hal] using hv))
     unfold Oper.wp;have harr:(ys.map a.eval++cvs).toArray=(ys.map a.eval).toArray++cvs.toArray:=by simp
     rcases hco with⟨q1,q2⟩|⟨u,w',v,h',x',μ',q1,k1,k2,k3,k4,k5⟩
     case inr=>
      rw[DT hcall hg,←harr,q1,Oper.upon_value];exact XF hC r (i+1) c2 k1 (R.step hd k3 k4 k5 k2) hK
     rw[DT hcall hg,←harr,q1 w];rw[Oper.upon_enter];refine q2.mono fun en w' he=>?_
     cases en with
     | returned u=>
      obtain⟨v,h',x',μ',k1,k2,k3,k4,k5⟩:=he;exact XF hC r (i+1) c2 k1 (R.step hd k3 k4 k5 k2) hK
     | panicked _=>exact he.elim
     | outgrown=>exact he.elim
    cases op;case call f args=>
     dsimp only at H d4;split at d4
     ·rename_i g ys hcall
      simp only[Bool.and_eq_true]at d4;have hg:=R.opds _ _ d4.1
      have hgv:a.eval g = .func (.func f) #[] #[]:=by
       simp only[Opd.ev]at hg;generalize a.eval g=z at hg;cases hg with
       | fn _ _ vs hl hr=>
        have:vs=[]:=List.length_eq_zero_iff.1 (by simpa using hl.symm)
        subst this;rfl
      exact call f _ g ys [] [] hcall hgv rfl (fun j y v h1 h2=>by simp at h1) (by simp [sH d4.2]) (tH R.opds d4.2) (by simpa using H)
     ·cases d4
    case callv f args=>
     dsimp only at H d4;split at d4
     ·rename_i g ys hcall
      simp only[Bool.and_eq_true]at d4;split at H
      ·rename_i fn caps hf
       have hg:=R.opds _ _ d4.1
       rw[hf]at hg;generalize hz:a.eval g=z at hg;cases hg with
       | fn _ _ vs hl hr=>exact call fn _ g ys caps vs hcall hz hl hr (by simp [sH d4.2]) (tH R.opds d4.2) H
      ·exact H.elim
     ·cases d4
    case mnext osh xs=>
     cases osh with
     | some sh=>
      dsimp only at H d4;split at d4
      ·rename_i x' y' t u hb
       simp only[Bool.and_eq_true]at d4;obtain⟨d5,d6⟩:=d4;obtain⟨q1,q2,rfl,d7,d8⟩:=zgh d6;split at H
       ·rename_i l hl
        obtain⟨z,hz,hok⟩:=z9e (ty:=p.type) d5 R.heap (R.opds _ _ d7) (R.opds _ _ d8) hl;obtain⟨cs,hr⟩:=TE (P:=P) (w:=w) hb (ρ:=a.eval);obtain⟨nx,w',μ',r1,r2,r3,r4,r5⟩:=mA.congr hr hok;unfold Oper.wp;rw[r1];rcases r2 with⟨u,rfl,hu⟩|⟨rfl,hv⟩
        ·rw[Oper.upon_value]
         exact XF hC r (i+1) c2 (H.2 z hz) (R.step hd r3 r4 r5 hu) hK
        ·rw[Oper.upon_skip]
         exact XF hC r (i+1) c2 (H.2 z hz) (R.step hd r3 r4 r5 (by rw[hv];exact .und undef)) hK
       ·exact H.elim
      ·cases d4
     | none=>
     dsimp only at H d4;split at d4
     ·rename_i y isS hop
      simp only[Bool.and_eq_true,Bool.not_eq_true']at d4;obtain⟨rfl,d5⟩:=d4;obtain⟨q1,rfl,d6⟩:=zgg d5;split at H
      ·rename_i l hl
       obtain⟨z,hz,nx,w',μ',r1,r2,r3,r4,r5⟩:=zfG (ty:=p.type) R.heap (R.opds _ _ d6) hl;unfold Oper.wp;have e1:execOp a.eval p=(do pure (.value (←Instr.next (a.eval y) false p.type)):Sem Next):=by unfold execOp;rw[hop]
       rw[e1,r1];rcases r2 with⟨u,rfl,hu⟩|⟨rfl,hv⟩
       ·rw[Oper.upon_value]
        exact XF hC r (i+1) c2 (H.2 z hz) (R.step hd r3 r4 r5 hu) hK
       ·rw[Oper.upon_skip]
        exact XF hC r (i+1) c2 (H.2 z hz) (R.step hd r3 r4 r5 (by rw[hv];exact .und undef)) hK
      ·exact H.elim
     ·cases d4
    all_goals
     dsimp only at H d4;split at H
     ·rename_i v h' x' ha
      obtain⟨nx,w',μ',r1,r2,r3,r4,r5⟩:=z4W (o:=p) d4 (fun _=>rfl) (fun _=>rfl) R.heap R.opds ha
      unfold Oper.wp;rw[r1];rcases r2 with⟨u,rfl,hu⟩|⟨rfl,rfl⟩
      ·rw[Oper.upon_value]
       exact XF hC r (i+1) c2 H (R.step hd r3 r4 r5 hu) hK
      ·rw[Oper.upon_skip]
       exact XF hC r (i+1) c2 H (R.step hd r3 r4 r5 (.und _)) hK
     ·exact H.elim
   ·rename_i hw
    rw[if_neg (by rw[PT R d3 hw];simp)]
    exact XF hC r (i+1) c2 H (R.skip hd) hK
   ·exact H.elim
  ·cases hc
end Go.Am
end
section
/- The abstract machine,part D: regions whose order is left open. -/
set_option linter.unusedSimpArgs false
set_option linter.unusedVariables false
set_option maxHeartbeats 1000000
namespace Go.Am
variable {h h':aA} {μ μ':Mu} {w w':World} {P:Program} {M M':Mem}
variable {gl:Nat→Option PV} {nt:Nat} {M0:Mem} {h0:aA} {μ0:Mu} {e:List (Nat × AV)} {x:Esc} {a:Act}
theorem z2b {C:Hd}(hC:∀ f a h K,C f a h K→AC P gl f a h K){ops:Array Oper}{Q:Exit→Act→World→Prop}{o:AOp}{p:Oper}{i:Nat}(hp:ops[i]?=some p)(hc:PG P nt ops o p=true)
 {g g':aA} {v:AV} {y:Esc} (R:Rel gl nt M0 h0 μ0 e g x a w μ) (H:ADo C gl o e g v g' y) {K:Act→World→Prop}
 (hK:∀a' w' μ' u,a'=a.put p.dst u→HeapRel g' μ' w'→Evo (imm g μ w) g μ (imm g' μ' w') g' μ'→rA g g' y→RAV (imm g' μ' w') g' μ' v u→K a' w'):wpOp P ops Q i K a w:=by
 unfold wpOp;rw[hp];dsimp only;obtain⟨dst,guard,op⟩:=o;unfold PG at hc;simp only[Bool.and_eq_true,beq_iff_eq]at hc;obtain⟨⟨⟨d1,d2⟩,d3⟩,d4⟩:=hc;subst d1;unfold ADo at H;dsimp only at H;split at H
 ·rename_i hw
  rw[if_pos (PT R d3 hw)];left;have call:∀(f:Nat) (asv:List AV) (gg:Operand) (ys:List Operand) (caps:List AV) (cvs:List Value),oJ p.op=some (gg,ys)→a.eval gg = .func (.func f) #[] cvs.toArray→caps.length=cvs.length →
   (∀(j:Nat) (y:AV) (v:Value),caps[j]?=some y→cvs[j]?=some v→RAV (imm g μ w) g μ y v)→asv.length=ys.length →
   (∀(j:Nat) (y:AV) (v:Value),asv[j]?=some y→(ys.map a.eval)[j]?=some v→RAV (imm g μ w) g μ y v) →
   C f (asv++caps) g (fun v1 h1 x1=>v1=v∧h1=g'∧x1=y)→p.wp P a w K Q:=by
   intro f asv gg ys caps cvs hcall hg hcl hcr hal har HC;have hco:=hC _ _ _ _ HC μ w (ys.map a.eval++cvs) R.heap R.glob (by simp [hal,hcl]) (fun j y v hy hv=>by
    rcases Nat.lt_or_ge j asv.length with q|q
    ·rw[List.getElem?_append_left q]at hy
     rw[List.getElem?_append_left (by simpa [←hal] using q)]at hv
     exact har j y v hy hv
    ·rw[List.getElem?_append_right q]at hy
     rw[List.getElem?_append_right (by simpa [←hal] using q)]at hv
     exact hcr _ y v hy (by simpa [←hal] using hv))
   unfold Oper.wp;have harr:(ys.map a.eval++cvs).toArray=(ys.map a.eval).toArray++cvs.toArray:=by simp
   rcases hco with⟨q1,q2⟩|⟨u,w',v1,h1,x1,μ',q1,⟨rfl,rfl,rfl⟩,k2,k3,k4,k5⟩
   case inr=>
    rw[DT hcall hg,←harr,q1,Oper.upon_value];exact hK _ _ μ' u rfl k3 k4 k5 k2
   rw[DT hcall hg,←harr,q1 w];rw[Oper.upon_enter];refine q2.mono fun en w' he=>?_
   cases en with
   | returned u=>
    obtain⟨v1,h1,x1,μ',⟨rfl,rfl,rfl⟩,k2,k3,k4,k5⟩:=he;exact hK _ _ μ' u rfl k3 k4 k5 k2
   | panicked _=>exact he.elim
   | outgrown=>exact he.elim
  cases op;case call f args=>
   dsimp only at H d4;split at d4
   ·rename_i gg ys hcall
    simp only[Bool.and_eq_true]at d4;have hg:=R.opds _ _ d4.1
    have hgv:a.eval gg = .func (.func f) #[] #[]:=by
     simp only[Opd.ev]at hg;generalize a.eval gg=z at hg;cases hg with
     | fn _ _ vs hl hr=>
      have:vs=[]:=List.length_eq_zero_iff.1 (by simpa using hl.symm)
      subst this;rfl
    exact call f _ gg ys [] [] hcall hgv rfl (fun j y v h1 h2=>by simp at h1) (by simp [sH d4.2]) (tH R.opds d4.2) (by simpa using H)
   ·cases d4
  case callv f args=>
   dsimp only at H d4;split at d4
   ·rename_i gg ys hcall
    simp only[Bool.and_eq_true]at d4;split at H
    ·rename_i fn caps hf
     have hg:=R.opds _ _ d4.1
     rw[hf]at hg;generalize hz:a.eval gg=z at hg;cases hg with
     | fn _ _ vs hl hr=>exact call fn _ gg ys caps vs hcall hz hl hr (by simp [sH d4.2]) (tH R.opds d4.2) H
    ·exact H.elim
   ·cases d4
  case mnext sh xs=>exact H.elim
  all_goals
   dsimp only at H d4;obtain⟨nx,w',μ',r1,r2,r3,r4,r5⟩:=z4W (o:=p) d4 (fun _=>rfl) (fun _=>rfl) R.heap R.opds H
   unfold Oper.wp;rw[r1];rcases r2 with⟨u,rfl,hu⟩|⟨rfl,hv⟩
   ·rw[Oper.upon_value]
    exact hK _ _ μ' u rfl r3 r4 r5 hu
   ·rw[Oper.upon_skip]
    exact hK _ _ μ' undef rfl r3 r4 r5 (hv ▸ .und _)
 ·rename_i hw
  obtain⟨rfl,rfl,rfl⟩:=H;rw[if_neg (by rw[PT R d3 hw];simp)]
  exact hK _ _ μ undef rfl R.heap (Evo.refl _ _ _) (rA.refl _ _) .skp
 ·exact H.elim
def AO.hfree:AO→Bool
 | .mv _ | .pick _ _ _ | .build _ _ | .nilchk _ | .bin _ _ _ | .eqa _ _ _ _ | .isnil _ _ _ | .mkif _ | .un _ _ | .mkfn _ _ | .slstr _ _ _ | .faddr _ _ _ | .field _ _ _ | .iaddra _ _ _ _ | .idxa _ _ _ _ | .idxs _ _ | .ext _ _ | .len _ | .lens _ | .mx _ | .mn _=>true
 | _=>false
theorem FI {α:Type}{F:α→AV}{X:Option α}{h h1 g:aA}{v:AV}{y:Esc}(H:Option.map (fun v=>(F v,h,([]:Esc))) X=some (v,h1,y)):Option.map (fun v=>(F v,g,([]:Esc))) X=some (v,g,[]):=by
 cases X with
 | none=>cases H
 | some z=>simp at H ⊢;exact H.1
theorem nilc {α:Type}{b:Bool}{F:α→AV}{X:Option α}{h h1 g:aA}{u v:AV}{y:Esc}(H:(bif b then some (u,h,([]:Esc)) else Option.map (fun v=>(F v,h,([]:Esc))) X)=some (v,h1,y)):(bif b then some (u,g,([]:Esc)) else Option.map (fun v=>(F v,g,([]:Esc))) X)=some (v,g,[]):=by
 cases b with
 | true=>simp at H ⊢;exact H.1
 | false=>exact FI H
theorem zep {op:AO}(hf:op.hfree=true){ev:Opd→AV}{v:AV}{h1:aA}{y:Esc}(H:aop op ev h=some (v,h1,y))(g:aA):aop op ev g=some (v,g,[]):=by
 cases op <;> first
  | (cases hf;done)
  | (simp only[aop]at H ⊢;simp_all;done)
  | (simp only[aop]at H ⊢;exact FI H)
  | (simp only[aop]at H ⊢;exact nilc H)
  | (simp only[aop]at H ⊢;split at H <;> first|(simp_all;done)|exact FI H|(split at H <;> first|(simp_all;done)|exact FI H|(rw[if_pos ‹_›];exact FI H)|(split at H <;> first|(simp_all;done)|exact FI H|(rw[if_pos ‹_›];exact FI H))))
structure Tr (C:Hd) (gl:Nat→Option PV) (ds:List DOp) (m:Nat) (dn:FC) (hs:List aA) (E:Nat→List (Nat × AV)) (H:Nat→aA) (V:Nat→AV) (X Y:Nat→Esc) (i:Nat) (o:DOp):Prop where
 run:ADo C gl o.op (CA (some o.rd) (E (m+i))) (H (m+i)) (V (m+i)) (H (m+i+1)) (Y (m+i))
 env:E (m+i+1)=put o.op.dst (V (m+i)) (E (m+i))
 esc:X (m+i+1)=Y (m+i)++X (m+i)
 still:o.eff=false→H (m+i+1)=H (m+i)∧Y (m+i)=[]
 early:∀k∈o.early,∃g,(k<m∧hs[k]?=some g∨m≤k∧k<m+i∧g=H k)∧ADo C gl o.op (CA (some o.rd) (E (m+i))) g (V (m+i)) g []
 again:∀j∈o.again,(∃q,j<m∧dn[j]?=some q∧ADo C gl q.1 q.2.1 (H (m+i+1)) q.2.2 (H (m+i+1)) []) ∨
  (m≤j∧∃q,ds[j-m]?=some q∧ADo C gl q.op (CA (some q.rd) (E j)) (H (m+i+1)) (V j) (H (m+i+1)) [])
end Go.Am
end
section
/- The abstract machine,part E: regions whose order is left open: from one order tov all. -/
set_option linter.unusedSimpArgs false
set_option linter.unusedVariables false
set_option maxHeartbeats 1000000
namespace Go.Am
variable {h h':aA} {μ μ':Mu} {w w':World} {P:Program} {M M':Mem}
variable {gl:Nat→Option PV} {nt:Nat} {M0:Mem} {h0:aA} {μ0:Mu} {e:List (Nat × AV)} {x:Esc} {a:Act}
theorem z6O {C:Hd}:∀(ds:List DOp) (m:Nat) (dn:FC) (hs:List aA) (e:List (Nat×AV)) (h:aA) (x:Esc) (K:List (Nat×AV)→aA→Esc→Prop),eD C gl ds dn hs e h x K→dn.length=m→hs.length=m →
 ∃E H V X Y,E m=e∧H m=h∧X m=x∧(∀i o,ds[i]?=some o→Tr C gl ds m dn hs E H V X Y i o)∧K (E (m+ds.length)) (H (m+ds.length)) (X (m+ds.length))
 | [],m,dn,hs,e,h,x,K,HD,h1,h2=>⟨fun _=>e,fun _=>h,fun _=>.und,fun _=>x,fun _=>[],rfl,rfl,rfl,fun i o ho=>by simp at ho,HD⟩
 | o::r,m,dn,hs,e,h,x,K,HD,h1,h2=>by
  obtain⟨v,h',y,d1,d2,d3,d4,d5⟩:=HD;obtain⟨E,H,V,X,Y,e1,e2,e3,e4,e5⟩:=z6O r (m+1) _ _ _ _ _ K d5 (by simp [h1]) (by simp [h2])
  refine⟨fun i=>if i=m then e else E i,fun i=>if i=m then h else H i,fun i=>if i=m then v else V i,fun i=>if i=m then x else X i,fun i=>if i=m then y else Y i,by simp,by simp,by simp,?_,?_⟩
  ·intro i o' ho'
   cases i with
   | zero=>
    simp only[List.getElem?_cons_zero,Option.some.injEq]at ho';subst ho';refine⟨?_,?_,?_,fun hf=>?_,fun k hk=>?_,fun j hj=>?_⟩
    ·simp only[Nat.add_zero,if_true,Nat.succ_ne_self,if_false,e2];exact d1
    ·simp only[Nat.add_zero,if_true,Nat.succ_ne_self,if_false,e1]
    ·simp only[Nat.add_zero,if_true,Nat.succ_ne_self,if_false,e3]
    ·simp only[Nat.add_zero,if_true,Nat.succ_ne_self,if_false,e2];exact d2 hf
    ·obtain⟨g,q1,q2⟩:=d3 k hk
     refine⟨g,.inl ⟨by rw[←h2];exact xA q1,q1⟩,?_⟩
     simp only[Nat.add_zero,if_true];exact q2
    ·obtain⟨q,q1,q2⟩:=d4 j hj
     refine .inl ⟨q,by rw[←h1];exact xA q1,q1,?_⟩
     simp only[Nat.add_zero,Nat.succ_ne_self,if_false,e2];exact q2
   | succ i=>
    simp only[List.getElem?_cons_succ]at ho';have T:=e4 i o' ho'
    have hm2:m+(i+1)=m+1+i:=by omega
    have hm3:¬(m+1+i=m):=by omega
    have hm4:¬(m+1+i+1=m):=by omega
    refine⟨?_,?_,?_,fun hf=>?_,fun k hk=>?_,fun j hj=>?_⟩
    ·simp only[hm2,hm3,hm4,if_false];exact T.run
    ·simp only[hm2,hm3,hm4,if_false];exact T.env
    ·simp only[hm2,hm3,hm4,if_false];exact T.esc
    ·simp only[hm2,hm3,hm4,if_false];exact T.still hf
    ·obtain⟨g,q1,q2⟩:=T.early k hk
     refine⟨g,?_,by simp only[hm2,hm3,if_false];exact q2⟩
     rcases q1 with⟨q1,q3⟩|⟨q1,q3,q4⟩
     ·rcases Nat.lt_or_ge k m with q5|q5
      ·left
       rw[List.getElem?_append_left (by omega)]at q3
       exact⟨q5,q3⟩
      ·have:k=m:=by omega
       subst this;right;rw[List.getElem?_append_right (by omega),h2,Nat.sub_self]at q3
       simp at q3;exact⟨Nat.le_refl _,by omega,by simp [q3]⟩
     ·right
      exact⟨by omega,by omega,by rw[if_neg (by omega)];exact q4⟩
    ·rcases T.again j hj with⟨q,q1,q2,q3⟩|⟨q1,q,q2,q3⟩
     ·rcases Nat.lt_or_ge j m with q5|q5
      ·left
       rw[List.getElem?_append_left (by omega)]at q2
       exact⟨q,q5,q2,by simp only[hm2,hm4,if_false];exact q3⟩
      ·have:j=m:=by omega
       subst this;right;rw[List.getElem?_append_right (by omega),h1,Nat.sub_self]at q2
       simp at q2;subst q2;exact⟨Nat.le_refl _,o,by simp,by simp only[hm2,hm4,if_false,if_true];exact q3⟩
     ·right
      refine⟨by omega,q,?_,?_⟩
      ·rw[show j-m=(j-(m+1))+1 by omega]
       simpa using q2
      ·simp only[hm2,hm4,if_false]
       rw[if_neg (by omega),if_neg (by omega)]
       exact q3
  ·dsimp only
   rw[if_neg (by simp),if_neg (by simp),if_neg (by simp)]
   rw[show m+(o::r).length=m+1+r.length by simp;omega]
   exact e5
def lk (dst:Nat→Option Nat)(V:Nat→AV)(e:List (Nat × AV))(sel:Nat→Bool):Nat→Nat→AV
 | 0,t=>kA e t
 | m+1,t=>if sel m=true∧dst m=some t then V m else lk dst V e sel m t
theorem nR {dst:Nat→Option Nat}{V:Nat→AV}{e:List (Nat × AV)}{s s':Nat→Bool}{t:Nat}:∀(n:Nat),(∀j,j<n→dst j=some t→s j=s' j)→lk dst V e s n t=lk dst V e s' n t
 | 0,_=>rfl
 | n+1,h=>by
  simp only[lk];rw[nR n (fun j hj=>h j (by omega))]
  by_cases hd:dst n=some t
  ·rw[h n (by omega) hd]
  ·simp [hd]
theorem oR {dst:Nat→Option Nat}{V:Nat→AV}{e:List (Nat × AV)}{s:Nat→Bool}{t:Nat}{i:Nat}:∀(n:Nat),i≤n→(∀j,i≤j→j<n→dst j=some t→s j=false)→lk dst V e s n t=lk dst V e s i t
 | 0,hi,_=>by
  have:i=0:=by omega
  subst this;rfl
 | n+1,hi,h=>by
  rcases Nat.lt_or_ge n i with q|q
  ·have:i=n+1:=by omega
   subst this;rfl
  ·simp only[lk]
   rw[if_neg,oR n q (fun j h1 h2=>h j h1 (by omega))]
   rintro⟨h1,h2⟩
   rw[h n q (by omega) h2]at h1
   cases h1
end Go.Am
end
section
/- The abstract machine,part F: regions whose order is left open: sound. -/
set_option linter.unusedSimpArgs false
set_option linter.unusedVariables false
set_option maxHeartbeats 1000000
namespace Go.Am
variable {h h':aA} {μ μ':Mu} {w w':World} {P:Program} {M M':Mem}
variable {gl:Nat→Option PV} {nt:Nat} {M0:Mem} {h0:aA} {μ0:Mu} {e:List (Nat × AV)} {x:Esc} {a:Act} {ops:Array Oper}
def ID (o:Oper):List Nat:=(o.after.toList.filter (Region.binds .any)).map (·.on)
inductive Bef (ops:Array Oper):Nat→Nat→Prop
 | one {k i:Nat} {o:Oper} (ho:ops[i]?=some o) (hk:k∈ID o):Bef ops k i
 | more {k m i:Nat} {o:Oper} (h:Bef ops k m) (ho:ops[i]?=some o) (hm:m∈ID o):Bef ops k i
def pP:List (List Nat)→List (List Nat)→List (List Nat)
 | [],t=>t
 | es::r,t=>pP r (t++[(es++es.flatMap fun m=>t.getD m []).eraseDups])
theorem z1D:∀ (os:List Oper) (m:Nat) (t:List (List Nat)),ops.toList.drop m=os→t.length=m→(∀ i l,t[i]?=some l→∀ k∈l,Bef ops k i) →
 ∀i l,(pP (os.map ID) t)[i]?=some l→∀k∈l,Bef ops k i
 | [],m,t,_,_,ht=>ht
 | o::r,m,t,ho,hm,ht=>by
  have hom:ops[m]?=some o:=by
   have:(ops.toList.drop m)[0]?=some o:=by rw[ho];rfl
   rw[List.getElem?_drop]at this;simpa using this
  have hr:ops.toList.drop (m+1)=r:=by
   rw[←List.drop_drop,ho];rfl
  simp only[List.map_cons,pP];refine z1D r (m+1) _ hr (by simp [hm]) (fun i l hi k hk=>?_)
  rcases RF hi with hi|⟨hi,hl⟩
  ·exact ht i l hi k hk
  ·rw[hi,hm]
   rw[hl]at hk;rw[List.mem_eraseDups]at hk;rcases List.mem_append.1 hk with hk|hk
   ·exact .one hom hk
   ·obtain⟨q,q1,q2⟩:=List.mem_flatMap.1 hk
    cases hq:t[q]? with
    | none=>simp [List.getD,hq]at q2
    | some l'=>
     simp [List.getD,hq]at q2;exact .more (ht q l' hq k q2) hom q1
def eO (tab:List (List Nat))(i j:Nat)(p q:DOp):Bool:=
 (tab.getD j []).contains i ||
  (!(p.eff&&q.eff)&&(match p.op.dst with|some t=>q.op.dst != some t && !q.rd.contains t|none=>true)&&(match q.op.dst with|some t=>!p.rd.contains t|none=>true) &&
   (!(q.eff && !p.eff)||p.op.op.hfree||q.again.contains i)&&(!(p.eff && !q.eff)||q.op.op.hfree||q.early.contains i))
def AT (tab:List (List Nat))(j:Nat)(q:DOp):List DOp→Nat→Bool
 | [],_=>true
 | p::r,i=>decide (j≤i)||(eO tab i j p q&&AT tab j q r (i+1))
def CT (tab:List (List Nat))(all:List DOp):List DOp→Nat→Bool
 | [],_=>true
 | q::r,j=>AT tab j q all 0&&CT tab all r (j+1)
def OQ:List Oper→Nat→Bool
 | [],_=>true
 | o::r,i=>(ID o).all (fun k=>decide (k<i))&&OQ r (i+1)
def jP (P:Program)(nt:Nat)(ops:Array Oper)(ds:List DOp):Bool:=
 kG P nt ops (ds.map (·.op)) 0&&OQ ops.toList 0&&CT (pP (ops.toList.map ID) []) ds ds 0
theorem z5A {tab:List (List Nat)}{j:Nat}{q:DOp}:∀{l:List DOp} {i:Nat},AT tab j q l i=true→∀k p,l[k]?=some p→i+k<j→eO tab (i+k) j p q=true
 | [],i,_,k,p,h,_=>by simp at h
 | p0::r,i,h,k,p,hk,hlt=>by
  simp only[AT,Bool.or_eq_true,decide_eq_true_eq,Bool.and_eq_true]at h;rcases h with h|⟨h1,h2⟩
  ·omega
  ·cases k with
   | zero=>simp at hk;subst hk;exact h1
   | succ k=>
    have:=z5A h2 k p (by simpa using hk) (by omega)
    rwa [show i+1+k=i+(k+1) by omega]at this
theorem z5E {tab:List (List Nat)}{all:List DOp}:∀{l:List DOp} {j:Nat},CT tab all l j=true→∀k q,l[k]?=some q→∀i p,all[i]?=some p→i<j+k→eO tab i (j+k) p q=true
 | [],j,_,k,q,h,_,_,_,_=>by simp at h
 | q0::r,j,h,k,q,hk,i,p,hp,hlt=>by
  simp only[CT,Bool.and_eq_true]at h;cases k with
  | zero=>
   simp at hk;subst hk;have:=z5A h.1 i p hp (by simpa using hlt)
   simpa using this
  | succ k=>
   have:=z5E h.2 k q (by simpa using hk) i p hp (by omega)
   rwa [show j+1+k=j+(k+1) by omega]at this
theorem z2w:∀ {l:List Oper} {i:Nat},OQ l i=true→∀ j o,l[j]?=some o→∀ k∈ID o,k<i+j
 | [],_,_,j,o,h,_,_=>by simp at h
 | o0::r,i,h,j,o,hj,k,hk=>by
  simp only[OQ,Bool.and_eq_true,List.all_eq_true,decide_eq_true_eq]at h;cases j with
  | zero=>simp at hj;subst hj;simpa using h.1 k hk
  | succ j=>have:=z2w h.2 j o (by simpa using hj) k hk;omega
theorem z16:∀ {l:List AOp} {i:Nat},kG P nt ops l i=true→i+l.length=ops.size∧∀ j o,l[j]?=some o→∃ p,ops[i+j]?=some p∧PG P nt ops o p=true
 | [],i,h=>by simp [kG]at h;exact⟨by simpa using h,fun j o hj=>by simp at hj⟩
 | o0::r,i,h=>by
  simp only[kG]at h;split at h
  ·rename_i p hp
   simp only[Bool.and_eq_true]at h;obtain⟨h1,h2⟩:=z16 h.2;refine⟨by simp;omega,fun j o hj=>?_⟩
   cases j with
   | zero=>simp at hj;subst hj;exact⟨p,hp,h.1⟩
   | succ j=>
    obtain⟨p',q1,q2⟩:=h2 j o (by simpa using hj)
    exact⟨p',by rw[←q1];congr 1;omega,q2⟩
  ·cases h
theorem zaX {o:AOp}{p:Oper}(h:PG P nt ops o p=true):o.dst=p.dst∧∀j,o.dst=some j→j<nt:=by
 unfold PG at h;simp only[Bool.and_eq_true,beq_iff_eq]at h;obtain⟨⟨⟨d1,d2⟩,d3⟩,d4⟩:=h;exact⟨d1,fun j hj=>by rw[hj]at d2;simpa using d2⟩
theorem z8T (l:List Nat)(e:List (Nat × AV))(t:Nat):kA (CA (some l) e) t=if t∈l then kA e t else .und:=by
 simp only[CA];induction l with
 | nil=>simp [kA]
 | cons k r ih=>
  simp only[List.map_cons,kA];by_cases hk:k=t
  ·subst hk;simp
  ·rw[if_neg hk,ih]
   have:¬t=k:=fun h=>hk h.symm
   simp [this]
def Down (ops:Array Oper)(sel:Nat→Bool):Prop:=∀i o,ops[i]?=some o→sel i=true→∀k∈ID o,sel k=true
theorem Bef.down {sel:Nat→Bool}(hD:Down ops sel){k i:Nat}(hb:Bef ops k i):sel i=true→sel k=true:=by
 induction hb with
 | one ho hk=>exact fun hi=>hD _ _ ho hi _ hk
 | more _ ho hm ih=>exact fun hi=>ih (hD _ _ ho hi _ hm)
theorem Bef.ready {sel:Nat→Bool}(hD:Down ops sel){k i:Nat}(hb:Bef ops k i)(hr:∀ o,ops[i]?=some o→∀ k∈ID o,sel k=true):sel k=true:=by
 cases hb with
 | one ho hk=>exact hr _ ho _ hk
 | more hb ho hm=>exact hb.down hD (hr _ ho _ hm)
end Go.Am
end
section
/- The abstract machine,part G: regions whose order is left open: whatever the order. -/
set_option linter.unusedSimpArgs false
set_option linter.unusedVariables false
set_option maxHeartbeats 1000000
namespace Go.Am
variable {h h':aA} {μ μ':Mu} {w w':World} {P:Program} {M M':Mem}
variable {gl:Nat→Option PV} {nt:Nat} {M0:Mem} {h0:aA} {μ0:Mu} {e:List (Nat × AV)} {x:Esc} {a:Act} {ops:Array Oper}
theorem zjf {tab:List (List Nat)}(ht:∀ i l,tab[i]?=some l→∀ k∈l,Bef ops k i){i j:Nat}{p q:DOp}(h:eO tab i j p q=true) :
 Bef ops i j∨(¬(p.eff=true∧q.eff=true)∧(∀t,p.op.dst=some t→q.op.dst≠some t∧t∉q.rd)∧(∀t,q.op.dst=some t→t∉p.rd) ∧
  (q.eff=true→p.eff=false→p.op.op.hfree=true∨i∈q.again)∧(p.eff=true→q.eff=false→q.op.op.hfree=true∨i∈q.early)):=by
 unfold eO at h;rw[Bool.or_eq_true]at h;rcases h with h|h
 ·left
  cases hq:tab[j]? with
  | none=>simp [List.getD,hq]at h
  | some l=>simp [List.getD,hq]at h;exact ht j l hq i h
 ·right
  simp only[Bool.and_eq_true,Bool.not_eq_true',Bool.or_eq_true]at h;obtain⟨⟨⟨⟨h1,h2⟩,h3⟩,h4⟩,h5⟩:=h;refine⟨fun hab=>by(rw[hab.1,hab.2]at h1;cases h1),fun t ht=>?_,fun t ht=>?_,fun ha hb=>?_,fun ha hb=>?_⟩
  ·rw[ht]at h2
   simpa using h2
  ·rw[ht]at h3
   simpa using h3
  ·rw[ha,hb]at h4
   simpa using h4
  ·rw[ha,hb]at h5
   simpa using h5
theorem z2x {C:Hd}{ds:List DOp}{E:Nat→List (Nat × AV)}{H:Nat→aA}{V:Nat→AV}{X Y:Nat→Esc}(T:∀ i o,ds[i]?=some o→Tr C gl ds 0 [] [] E H V X Y i o)(e0:E 0=e)(t:Nat) :
 ∀i,i≤ds.length→kA (E i) t=lk (fun i=>(ds[i]?).bind (·.op.dst)) V e (fun _=>true) i t
 | 0,_=>by simp [lk,e0]
 | i+1,hi=>by
  have ho:=List.getElem?_eq_getElem (show i<ds.length by omega)
  have hT:=(T i _ ho).env
  simp only[Nat.zero_add]at hT;rw[hT,lJ,z2x T e0 t i (by omega)]
  simp only[lk,ho,Option.bind_some,true_and]
theorem z6F {C:Hd}{ds:List DOp}{E:Nat→List (Nat × AV)}{H:Nat→aA}{V:Nat→AV}{X Y:Nat→Esc}(T:∀ i o,ds[i]?=some o→Tr C gl ds 0 [] [] E H V X Y i o){c:Nat} :
 ∀d,c+d≤ds.length→(∀k o,c≤k→k<c+d→ds[k]?=some o→o.eff=false)→H (c+d)=H c∧X (c+d)=X c
 | 0,_,_=>⟨rfl,rfl⟩
 | d+1,hd,hn=>by
  have ho:=List.getElem?_eq_getElem (show c+d<ds.length by omega)
  have hT:=T _ _ ho
  have hs:=hT.still (hn _ _ (by omega) (by omega) ho)
  obtain⟨h1,h2⟩:=z6F T d (by omega) (fun k o h1 h2 h3=>hn k o h1 (by omega) h3)
  simp only[Nat.zero_add]at hs;have he:=hT.esc
  simp only[Nat.zero_add]at he;rw[hs.2]at he;exact⟨by rw[←Nat.add_assoc,hs.1,h1],by rw[←Nat.add_assoc,he,List.nil_append,h2]⟩
theorem z7o {C:Hd}{o:AOp}(hf:o.op.hfree=true){v:AV}{y:Esc}(H:ADo C gl o e h v h' y)(g:aA):ADo C gl o e g v g []:=by
 obtain⟨dst,guard,op⟩:=o;unfold ADo at H ⊢;dsimp only at H hf ⊢;split at H
 ·cases op
  case call f args=>cases hf
  case callv f args=>cases hf
  case mnext sh xs=>cases hf
  all_goals exact zep hf H g
 ·exact⟨H.1,rfl,rfl⟩
 ·exact H.elim
theorem OX {p:Nat→Prop}{c i:Nat}(h:∃ k,c≤k∧k<i∧p k):∃k,c≤k∧k<i∧p k∧∀k',c≤k'→k'<k→¬p k':=by
 obtain⟨k,h1,h2,h3⟩:=h;induction k using Nat.strongRecOn with
 | _ k ih=>
  by_cases hq:∃k',c≤k'∧k'<k∧p k'
  ·obtain⟨k',q1,q2,q3⟩:=hq
   exact ih k' q2 q1 (by omega) q3
  ·exact⟨k,h1,h2,h3,fun k' q1 q2 q3=>hq ⟨k',q1,q2,q3⟩⟩
theorem z2d {C:Hd}(hC:∀ f a h K,C f a h K→AC P gl f a h K){ds:List DOp}{K:List (Nat × AV)→aA→Esc→Prop}{Q:Exit→Act→World→Prop}(hc:jP P nt ops ds=true)
 (HD:eD C gl ds [] [] e h x K) (R:Rel gl nt M0 h0 μ0 e h x a w μ) (hK:∀e h x a w μ,K e h x→Rel gl nt M0 h0 μ0 e h x a w μ→Q .normal a w) :
 wpAny P .any ops Q ops.size (Array.replicate ops.size false) a w:=by
 unfold jP at hc;simp only[Bool.and_eq_true]at hc;obtain⟨⟨c1,c2⟩,c3⟩:=hc;obtain⟨c4,c5⟩:=z16 c1;have hn:ds.length=ops.size:=by simpa using c4
 have htab:=z1D (ops:=ops) ops.toList 0 [] (by simp) rfl (fun i l hi=>by simp at hi)
 have hpair:∀(i j:Nat) (p q:DOp),ds[i]?=some p→ds[j]?=some q→i<j→Bef ops i j∨(¬(p.eff=true∧q.eff=true)∧(∀t,p.op.dst=some t→q.op.dst≠some t∧t∉q.rd)∧(∀t,q.op.dst=some t→t∉p.rd) ∧
  (q.eff=true→p.eff=false→p.op.op.hfree=true∨i∈q.again)∧(p.eff=true→q.eff=false→q.op.op.hfree=true∨i∈q.early)):=fun i j p q hp hq hlt=>by
  have:=z5E c3 j q hq i p hp (by omega)
  rw[Nat.zero_add]at this;exact zjf htab this
 have hop:∀(i:Nat) (o:DOp),ds[i]?=some o→∃p,ops[i]?=some p∧PG P nt ops o.op p=true:=fun i o ho=>by
  obtain⟨p,q1,q2⟩:=c5 i o.op (by simp [ho])
  rw[Nat.zero_add]at q1;exact⟨p,q1,q2⟩
 obtain⟨E,H,V,X,Y,e1,e2,e3,T,e5⟩:=z6O ds 0 [] [] e h x K HD rfl rfl;simp only[Nat.zero_add]at e5;have hE:=fun t i hi=>z2x (e:=e) T e1 t i hi
 let dst:Nat→Option Nat:=fun i=>(ds[i]?).bind (·.op.dst)
 have hdst:∀(i:Nat) (o:DOp),ds[i]?=some o→dst i=o.op.dst:=fun i o ho=>by show(ds[i]?).bind _=_;rw[ho];rfl
 have hdst':∀(i t:Nat),dst i=some t→∃o,ds[i]?=some o∧o.op.dst=some t:=fun i t ht=>by
  cases ho:ds[i]? with
  | none=>exact absurd ht (by show(ds[i]?).bind _≠_;rw[ho];simp)
  | some o=>exact⟨o,rfl,by rw[←hdst i o ho];exact ht⟩
 have hstill:∀c i,c≤i→i≤ds.length→(∀(k:Nat) (o:DOp),c≤k→k<i→ds[k]?=some o→o.eff=false)→H i=H c∧X i=X c:=fun c i hci hi hk=>by
  have:=z6F T (c:=c) (i-c) (by omega) (fun k o h1 h2 h3=>hk k o h1 (by omega) h3)
  rwa [show c+(i-c)=i by omega]at this
 have done:∀(listed:Array Bool) (c:Nat) (en:List (Nat×AV)) (a:Act) (w:World) (μ:Mu),(∀i,i<ops.size→listed.getD i false=true)→(∀(k:Nat) (o:DOp),ds[k]?=some o→o.eff=true→(listed.getD k false=true↔k<c))→c≤ds.length →
  (∀t,kA en t=lk dst V e (fun i=>listed.getD i false) ds.length t)→Rel gl nt M0 h0 μ0 en (H c) (X c) a w μ→Q .normal a w:=by
  intro listed c en a w μ hall hce hcl hen R;have hHn:=hstill c ds.length hcl (Nat.le_refl _) (fun k o h1 h2 h3=>by
   cases hb:o.eff with
   | false=>rfl
   | true=>have:=(hce k o h3 hb).1 (hall k (by omega));omega)
  refine hK _ _ _ a w μ e5 ?_;rw[hHn.1,hHn.2];refine⟨R.heap,fun t=>?_,R.glob,R.evo,R.esc,R.size,R.defers⟩
  rw[hE t _ (Nat.le_refl _)];have:=hen t;rw[nR (s':=fun _=>true) ds.length (fun j hj _=>hall j (by omega))]at this
  rw[←this];exact R.env t
 have key:∀(fuel:Nat) (listed:Array Bool) (U:List Nat) (c:Nat) (en:List (Nat×AV)) (a:Act) (w:World) (μ:Mu),listed.size=ops.size→(∀i,i<ops.size→listed.getD i false=false→i∈U)→U.length≤fuel →
  Down ops (fun i=>listed.getD i false)→(∀(k:Nat) (o:DOp),ds[k]?=some o→o.eff=true→(listed.getD k false=true↔k<c))→(c=0∨∃(k:Nat) (o:DOp),c=k+1∧ds[k]?=some o∧o.eff=true)→c≤ds.length →
  (∀t,kA en t=lk dst V e (fun i=>listed.getD i false) ds.length t)→Rel gl nt M0 h0 μ0 en (H c) (X c) a w μ→wpAny P .any ops Q fuel listed a w:=by
  intro fuel;induction fuel with
  | zero=>
   intro listed U c en a w μ hsz hU hUl hD hce hc0 hcl hen R;have hall:∀i,i<ops.size→listed.getD i false=true:=fun i hi=>by
    cases hb:listed.getD i false with
    | true=>rfl
    | false=>
     have:=hU i hi hb;have hnil:U=[]:=List.length_eq_zero_iff.1 (by omega)
     rw[hnil]at this;cases this
   refine⟨?_,done listed c en a w μ hall hce hcl hen R⟩;rw[List.eq_nil_iff_forall_not_mem];intro i hi;rw[mem_ready]at hi;obtain⟨q1,o,q2,_⟩:=hi;have hi:i<ops.size:=(Array.getElem?_eq_some_iff.1 q2).1
   have:=hall i hi;simp [Array.getD,hsz,hi]at q1 this;rw[q1]at this;cases this
  | succ fuel ih=>
   intro listed U c en a w μ hsz hU hUl hD hce hc0 hcl hen R;refine⟨fun hr=>?_,fun i hi=>?_⟩
   ·have hall:∀i,i<ops.size→listed.getD i false=true:=by
     intro i;induction i using Nat.strongRecOn with
     | _ i ihi=>
      intro hi;cases hb:listed.getD i false with
      | true=>rfl
      | false=>
       have hm:i∈Region.ready .any ops listed:=by
        rw[mem_ready];refine⟨by simp [Array.getD,hsz,hi]at hb ⊢;exact hb,ops[i],Array.getElem?_eq_getElem hi,fun ed hed hbd=>?_⟩
        have hk:ed.on∈ID ops[i]:=List.mem_map.2 ⟨ed,List.mem_filter.2 ⟨by simpa using hed,hbd⟩,rfl⟩
        have hlt:=z2w c2 i ops[i] (by simp [hi]) ed.on hk
        exact ihi ed.on (by omega) (by omega)
       rw[hr]at hm;cases hm
    exact done listed c en a w μ hall hce hcl hen R
   ·rw[mem_ready]at hi
    obtain⟨q1,p,hp,q3⟩:=hi;have hin:i<ops.size:=(Array.getElem?_eq_some_iff.1 hp).1
    have hnl:listed.getD i false=false:=by
     simp [Array.getD,hsz,hin]at q1 ⊢;exact q1
    have hready:∀o,ops[i]?=some o→∀k∈ID o,listed.getD k false=true:=by
     intro o ho k hk;rw[hp]at ho;injection ho with ho
     subst ho;obtain⟨ed,q4,rfl⟩:=List.mem_map.1 hk;obtain⟨q5,q6⟩:=List.mem_filter.1 q4;exact q3 ed (by simpa using q5) q6
    have ho:=List.getElem?_eq_getElem (show i<ds.length by omega)
    generalize ds[i]'(by omega)=o at ho
    obtain⟨p',hp',hck⟩:=hop i o ho;rw[hp]at hp';injection hp' with hp'
    subst hp';obtain⟨hd1,hd2⟩:=zaX hck;have hT:=T i o ho
    have hrun:=hT.run
    simp only[Nat.zero_add]at hrun;have before:∀(k:Nat) (q:DOp),ds[k]?=some q→k<i→Bef ops k i→listed.getD k false=true:=fun k q _ _ hb=>hb.ready hD hready
    have behind:∀(k:Nat),Bef ops i k→listed.getD k false=false:=fun k hb=>by
     cases hs:listed.getD k false with
     | false=>rfl
     | true=>have:=hb.down hD hs;rw[hnl]at this;cases this
    have Renv:Rel gl nt M0 h0 μ0 (CA (some o.rd) (E i)) (H c) (X c) a w μ:=by
     refine⟨R.heap,fun t=>?_,R.glob,R.evo,R.esc,R.size,R.defers⟩
     rw[z8T];split
     ·rename_i htr
      have h1:=hen t
      rw[oR (i:=i) ds.length (by omega) (fun j hij hj hdj=>by
       obtain⟨q,hq,hqd⟩:=hdst' j t hdj;rcases Nat.eq_or_lt_of_le hij with hh|hh
       ·subst hh;exact hnl
       ·rcases hpair i j o q ho hq hh with hb|⟨_,_,k3,_⟩
        ·exact behind j hb
        ·exact absurd htr (k3 t hqd)),nR (s':=fun _=>true) i (fun j hj hdj=>by
       obtain⟨q,hq,hqd⟩:=hdst' j t hdj;rcases hpair j i q o hq ho hj with hb|⟨_,k2,_⟩
       ·exact before j q hq hj hb
       ·exact absurd htr (k2 t hqd).2),←hE t i (by omega)]at h1
      rw[←h1];exact R.env t
     ·exact .und _
    have next:∀(c':Nat) (a':Act) (w':World) (μ':Mu) (u:Value),a'=a.put p.dst u→(∀(k:Nat) (q:DOp),ds[k]?=some q→q.eff=true→((listed.setIfInBounds i true).getD k false=true↔k<c'))→(c'=0∨∃(k:Nat) (o:DOp),c'=k+1∧ds[k]?=some o∧o.eff=true)→c'≤ds.length →
     (∀e',(∀t,kA e' t=if o.op.dst=some t then V i else kA en t)→Rel gl nt M0 h0 μ0 e' (H c') (X c') a' w' μ')→wpAny P .any ops Q fuel (listed.setIfInBounds i true) a' w':=by
     intro c' a' w' μ' u ha k1 k2 k3 k4;refine ih (listed.setIfInBounds i true) (U.erase i) c' (put o.op.dst (V i) en) a' w' μ' (by simp [hsz]) (fun j hj hb=>?_) ?_ ?_ k1 k2 k3 (fun t=>?_) (k4 _ (fun t=>lJ))
     ·by_cases hji:i=j
      ·subst hji
       simp [Array.getD,hsz,hin]at hb
      ·rw[getD_set_ne false hji]at hb
       exact(List.mem_erase_of_ne (fun h=>hji h.symm)).2 (hU j hj hb)
     ·have:=List.length_erase_of_mem (hU i hin hnl)
      omega
     ·intro j q hq hs k hk
      by_cases hji:i=j
      ·subst hji
       exact getD_set_true (hready q hq k hk)
      ·have hs':listed.getD j false=true:=by
        have:=hs;simp only[getD_set_ne false hji]at this;exact this
       exact getD_set_true (hD j q hq hs' k hk)
     ·rw[lJ]
      by_cases hdt:o.op.dst=some t
      ·rw[if_pos hdt]
       rw[oR (i:=i+1) ds.length (by omega) (fun j hij hj hdj=>by
        obtain⟨q,hq,hqd⟩:=hdst' j t hdj;show(listed.setIfInBounds i true).getD j false=false
        rw[getD_set_ne false (show i≠j by omega)]
        rcases hpair i j o q ho hq (by omega) with hb|⟨_,k2,_⟩
        ·exact behind j hb
        ·exact absurd hqd (k2 t hdt).1)]
       simp only[lk];rw[if_pos ⟨by simp [Array.getD,hsz,hin],by rw[hdst i o ho];exact hdt⟩]
      ·rw[if_neg hdt,hen t]
       refine nR _ (fun j hj hdj=>?_)
       have hji:i≠j:=by
        intro hji;subst hji;rw[hdst i o ho]at hdj;exact hdt hdj
       exact(getD_set_ne false hji).symm
    cases heff:o.eff with
    | true=>
     have hci:c≤i:=by
      rcases hc0 with hc0|⟨k,q,hck2,hq,hqe⟩
      ·omega
      ·rcases Nat.lt_trichotomy k i with hh|hh|hh
       ·omega
       ·subst hh
        have:=(hce k q hq hqe).2 (by omega)
        rw[hnl]at this;cases this
       ·rcases hpair i k o q ho hq hh with hb|⟨k1,_⟩
        ·have:=behind k hb
         have h2:=(hce k q hq hqe).2 (by omega)
         rw[this]at h2;cases h2
        ·exact absurd ⟨heff,hqe⟩ k1
     have hbe:∀(k:Nat) (q:DOp),k<i→ds[k]?=some q→q.eff=true→k<c:=fun k q hk hq hqe=>by
      rcases hpair k i q o hq ho hk with hb|⟨k1,_⟩
      ·exact(hce k q hq hqe).1 (before k q hq hk hb)
      ·exact absurd ⟨hqe,heff⟩ k1
     have hHi:=hstill c i hci (by omega) (fun k q h1 h2 h3=>by
      cases hb:q.eff with
      | false=>rfl
      | true=>have:=hbe k q h2 h3 hb;omega)
     rw[hHi.1]at hrun;refine z2b hC hp hck Renv hrun (fun a' w' μ' u ha hH hEv hI hV=>?_)
     refine next (i+1) a' w' μ' u ha (fun k q hq hqe=>?_) (.inr ⟨i,o,rfl,ho,heff⟩) (by omega) (fun e' he'=>?_)
     ·by_cases hki:i=k
      ·subst hki
       simp [Array.getD,hsz,hin]
      ·rw[getD_set_ne false hki,hce k q hq hqe]
       constructor
       ·intro _;omega
       ·intro _;exact hbe k q (by omega) hq hqe
     ·have hst:=R.step (d:=p.dst) (fun j hj=>hd2 j (by rw[hd1];exact hj)) hH hEv hI hV
      have hX:X (i+1)=Y i++X c:=by have:=hT.esc;simp only[Nat.zero_add]at this;rw[this,hHi.2]
      rw[hX,ha];refine⟨hst.heap,fun t=>?_,hst.glob,hst.evo,hst.esc,hst.size,hst.defers⟩
      have:=hst.env t;rw[lJ,←hd1]at this;rw[he' t];rw[hd1]at this ⊢;exact this
    | false=>
     have hs:=hT.still heff
     simp only[Nat.zero_add]at hs;rw[hs.1,hs.2]at hrun;have hdo:ADo C gl o.op (CA (some o.rd) (E i)) (H c) (V i) (H c) []:=by
      by_cases hf:o.op.op.hfree=true
      ·exact z7o hf hrun _
      ·rcases Nat.lt_or_ge i c with hic|hci
       ·rcases hc0 with hc0|⟨k,q,hck2,hq,hqe⟩
        ·omega
        ·have hik:i<k:=by
          rcases Nat.eq_or_lt_of_le (show i≤k by omega) with hh|hh
          ·subst hh
           rw[ho]at hq;injection hq with hq
           subst hq;rw[heff]at hqe;cases hqe
          ·exact hh
         rcases hpair i k o q ho hq hik with hb|⟨_,_,_,k4,_⟩
         ·have:=behind k hb
          have h2:=(hce k q hq hqe).2 (by omega)
          rw[this]at h2;cases h2
         ·rcases k4 hqe heff with k4|k4
          ·exact absurd k4 hf
          ·rcases(T k q hq).again i k4 with⟨_,h1,_⟩|⟨_,q',h1,h2⟩
           ·omega
           ·simp only[Nat.sub_zero]at h1
            rw[ho]at h1;injection h1 with h1
            subst h1;simp only[Nat.zero_add]at h2;rw[hck2];exact h2
       ·by_cases hk:∃k,c≤k∧k<i∧∃q,ds[k]?=some q∧q.eff=true
        ·obtain⟨k,hck2,hki,⟨q,hq,hqe⟩,hmin⟩:=OX hk
         have hHk:=hstill c k hck2 (by omega) (fun k' q' h1 h2 h3=>by
          cases hb:q'.eff with
          | false=>rfl
          | true=>exact absurd ⟨q',h3,hb⟩ (hmin k' h1 h2))
         rcases hpair k i q o hq ho hki with hb|⟨_,_,_,_,k5⟩
         ·have:=(hce k q hq hqe).1 (before k q hq hki hb)
          omega
         ·rcases k5 hqe heff with k5|k5
          ·exact absurd k5 hf
          ·obtain⟨g,h1,h2⟩:=hT.early k k5
           simp only[Nat.zero_add]at h1 h2;rcases h1 with⟨h1,_⟩|⟨_,_,h1⟩
           ·omega
           ·rw[h1,hHk.1]at h2
            exact h2
        ·have hHi:=hstill c i hci (by omega) (fun k q h1 h2 h3=>by
          cases hb:q.eff with
          | false=>rfl
          | true=>exact absurd ⟨k,h1,h2,q,h3,hb⟩ hk)
         rw[hHi.1]at hrun;exact hrun
     refine z2b hC hp hck Renv hdo (fun a' w' μ' u ha hH hEv hI hV=>?_)
     refine next c a' w' μ' u ha (fun k q hq hqe=>?_) hc0 hcl (fun e' he'=>?_)
     ·have hki:i≠k:=by
       intro hki;subst hki;rw[ho]at hq;injection hq with hq
       subst hq;rw[heff]at hqe;cases hqe
      rw[getD_set_ne false hki];exact hce k q hq hqe
     ·have hst:=R.step (d:=p.dst) (fun j hj=>hd2 j (by rw[hd1];exact hj)) hH hEv hI hV
      rw[List.nil_append]at hst;rw[ha];refine⟨hst.heap,fun t=>?_,hst.glob,hst.evo,hst.esc,hst.size,hst.defers⟩
      have:=hst.env t;rw[lJ,←hd1]at this;rw[he' t];rw[hd1]at this ⊢;exact this
 refine key ops.size _ (List.range ops.size) 0 e a w μ (by simp) (fun i hi _=>List.mem_range.2 hi) (by simp) ?_ ?_ (.inl rfl) (Nat.zero_le _) ?_ ?_
 ·intro i o ho hs
  have hi:i<ops.size:=(Array.getElem?_eq_some_iff.1 ho).1
  simp [Array.getD,hi]at hs
 ·intro k o ho _
  have hi:k<ops.size:=by rw[←hn];exact xA ho
  simp [Array.getD,hi]
 ·intro t
  have:lk dst V e (fun i=>(Array.replicate ops.size false).getD i false) ds.length t=lk dst V e (fun i=>(Array.replicate ops.size false).getD i false) 0 t:=
   oR ds.length (Nat.zero_le _) (fun j _ hj _=>by simp [Array.getD])
  rw[this];rfl
 ·rw[e2,e3];exact R
end Go.Am
end
section
/- The abstract machine,part H: two operations whose order is left open and that disturb each other: both ways. -/
set_option linter.all false
namespace Go.Am
variable {P:Program} {gl:Nat→Option PV} {nt:Nat} {M0:Mem} {h0:aA} {μ0:Mu} {h:aA} {μ:Mu} {e:List (Nat × AV)} {x0:Esc} {ops:Array Oper} {Q:Exit→Act→World→Prop} {ix:List Nat} {x y:Nat}
def vR:List Nat→Bool
 | []=>true
 | a::r=>!r.contains a&&vR r
theorem z4R:∀ {l:List Nat},vR l=true→l.Nodup
 | [],_=>List.nodup_nil
 | a::r,h=>by
  simp only[vR,Bool.and_eq_true,Bool.not_eq_true']at h;refine List.nodup_cons.2 ⟨fun hm=>?_,z4R h.2⟩
  have:=h.1;simp [hm]at this
def WS (ops:Array Oper)(ix:List Nat)(x y i:Nat):Oper:=
 let o:=(ops[i]?).getD default
 ⟨o.dst,o.op,o.type,o.pos,((ID o++bif Nat.beq i y then [x] else []).map fun k=>⟨ix.findIdx (Nat.beq k),.data⟩).toArray,o.guard⟩
def MD (ops:Array Oper)(ix:List Nat)(x y:Nat):Array Oper:=(ix.map (WS ops ix x y)).toArray
structure PermOk (ops:Array Oper) (ix:List Nat) (x y:Nat):Prop where
 len:ix.length=ops.size
 lt:∀i∈ix,i<ops.size
 all:∀i,i<ops.size→i∈ix
 nd:ix.Nodup
 gd:∀(i:Nat) (o:Oper),ops[i]?=some o→o.guard=none
 ed:∀(i:Nat) (o:Oper),ops[i]?=some o→∀k∈ID o,k<ops.size
 xl:x<ops.size
theorem PermOk.inv (H:PermOk ops ix x y){i:Nat}(hi:i<ops.size):ix.findIdx (Nat.beq i)<ops.size∧ix[ix.findIdx (Nat.beq i)]?=some i:=by
 have hm:=H.all i hi
 have hl:ix.findIdx (Nat.beq i)<ix.length:=List.findIdx_lt_length.2 ⟨i,hm,Nat.beq_refl i⟩
 refine⟨by rw[←H.len];exact hl,?_⟩
 rw[List.getElem?_eq_getElem hl];have:=List.findIdx_getElem (w:=hl);exact congrArg some (Nat.eq_of_beq_eq_true this).symm
theorem DZ (H:PermOk ops ix x y){k i:Nat}(hk:ix[k]?=some i):∃o,ops[i]?=some o∧(MD ops ix x y)[k]?=some (WS ops ix x y i)∧WS ops ix x y i=⟨o.dst,o.op,o.type,o.pos,((ID o++bif Nat.beq i y then [x] else []).map fun k=>⟨ix.findIdx (Nat.beq k),.data⟩).toArray,o.guard⟩:=by
 have hi:=H.lt i (List.mem_of_getElem? hk)
 refine⟨ops[i],Array.getElem?_eq_getElem hi,?_,?_⟩
 ·unfold MD
  simp [hk]
 ·unfold WS
  simp [Array.getElem?_eq_getElem hi]
def XT (x y:Nat)(l:List Nat):Prop:=∀l1 l2,l=l1++y::l2→x∈l1
theorem zjj (H:PermOk ops ix x y){k i:Nat}(hk:ix[k]?=some i){K K':Act→World→Prop}{a:Act}{w:World}(hK:∀ a w,K a w→K' a w)(h:wpOp P (MD ops ix x y) Q k K a w):wpOp P ops Q i K' a w:=by
 obtain⟨o,h1,h2,h3⟩:=DZ H hk;have hg:=H.gd i o h1
 unfold wpOp at h ⊢;rw[h2]at h;rw[h1];rw[h3]at h;dsimp only at h ⊢;have e1:∀yl,Region.wanted o yl=true:=fun yl=>by unfold Region.wanted;rw[hg]
 rw[if_pos (e1 _)];rw[if_pos (by unfold Region.wanted;dsimp only;rw[hg])]at h
 rcases h with h|h
 ·exact .inl (Oper.wp_mono hK h)
 ·exact .inr h
def VO (ops:Array Oper):Nat→Array Bool→List Nat→Prop
 | 0,_,l=>l=[]
 | _+1,listed,[]=>Region.ready .any ops listed=[]
 | n+1,listed,i::r=>i∈Region.ready .any ops listed∧VO ops n (listed.setIfInBounds i true) r
theorem z7E (ops:Array Oper):∀(fuel t:Nat) (listed:Array Bool),VO ops fuel listed (Region.linearise.go .any ops fuel t listed []):=by
 intro fuel;induction fuel with
 | zero=>intro t listed;simp [Region.linearise.go,VO]
 | succ fuel ih=>
  intro t listed;have hgo:Region.linearise.go .any ops (fuel+1) t listed []=match (Region.ready .any ops listed)[t%(Region.ready .any ops listed).length]? with
   | some i=>i::Region.linearise.go .any ops fuel (t / (Region.ready .any ops listed).length) (listed.setIfInBounds i true) []
   | none=>[]:=by
   simp only[Region.linearise.go];change (match (Region.ready .any ops listed)[t%(Region.ready .any ops listed).length]? with
    | some i=>Region.linearise.go .any ops fuel (t / (Region.ready .any ops listed).length) (listed.setIfInBounds i true) [i]
    | none=>[].reverse)=_
   split
   ·rw[linearise_go_acc,List.reverse_singleton,List.singleton_append]
   ·rfl
  rw[hgo];cases hi:(Region.ready .any ops listed)[t%(Region.ready .any ops listed).length]? with
  | none=>
   show Region.ready .any ops listed=[]
   cases hr:Region.ready .any ops listed with
   | nil=>rfl
   | cons z zs=>
    rw[hr]at hi;have hlt:t%(z::zs).length<(z::zs).length:=Nat.mod_lt _ (by simp)
    simp at hi;simp at hlt;omega
  | some i=>exact⟨List.mem_of_getElem? hi,ih _ _⟩
theorem z0L:∀ (n:Nat) (listed:Array Bool) (l:List Nat),VO ops n listed l→∀ i∈l,i<ops.size
 | 0,_,l,h,i,hi=>by rw[show l=[] from h]at hi;cases hi
 | n+1,listed,[],h,i,hi=>by cases hi
 | n+1,listed,j::r,h,i,hi=>by
  rcases List.mem_cons.1 hi with rfl|hi
  ·have:=h.1
   rw[mem_ready]at this;obtain⟨_,o,q2,_⟩:=this;exact(Array.getElem?_eq_some_iff.1 q2).1
  ·exact z0L n _ r h.2 i hi
theorem zlM {i:Nat}{K K':Act→World→Prop}{a:Act}{w:World}(hK:∀ a w,K a w→K' a w)(h:wpOp P ops Q i K a w):wpOp P ops Q i K' a w:=by
 unfold wpOp at h ⊢;split at h
 ·exact hK _ _ h
 ·split at h
  ·rename_i hw
   rw[if_pos hw];rcases h with h|h
   ·exact .inl (Oper.wp_mono hK h)
   ·exact .inr h
  ·rename_i hw
   rw[if_neg hw];exact hK _ _ h
theorem z1f:∀ (n:Nat) (listed:Array Bool) (l:List Nat) (a:Act) (w:World),VO ops n listed l→wpAny P .any ops Q n listed a w→wpOps P ops Q l a w
 | 0,_,l,a,w,h,hw=>by rw[show l=[] from h];exact hw.2
 | n+1,listed,[],a,w,h,hw=>hw.1 h
 | n+1,listed,i::r,a,w,h,hw=>by
  rw[wpOps_cons];exact zlM (fun a w hw=>z1f n _ r a w h.2 hw) (hw.2 i h.1)
theorem EZ (H:PermOk ops ix x y):∀(l:List Nat) (a:Act) (w:World),(∀i∈l,i<ops.size)→wpOps P (MD ops ix x y) Q (l.map fun i=>ix.findIdx (Nat.beq i)) a w→wpOps P ops Q l a w
 | [],_,_,_,h=>h
 | i::r,a,w,hl,h=>by
  rw[List.map_cons,wpOps_cons]at h;rw[wpOps_cons];exact zjj H (H.inv (hl i (List.mem_cons_self ..))).2 (fun a w hw=>EZ H r a w (fun j hj=>hl j (List.mem_cons_of_mem _ hj)) hw) h
theorem z5i (H:PermOk ops ix x y):∀(n:Nat) (listed listed':Array Bool) (l:List Nat),listed.size=ops.size→listed'.size=ops.size→(∀k i,ix[k]?=some i→listed'.getD k false=listed.getD i false) →
 (listed.getD x false=true∨XT x y l)→VO ops n listed l→VO (MD ops ix x y) n listed' (l.map fun i=>ix.findIdx (Nat.beq i)):=by
 intro n;have hps:(MD ops ix x y).size=ops.size:=by unfold MD;simp [H.len]
 have dflt:∀(l:Array Bool),l.size=ops.size→∀i,i<ops.size→l.getD i true=l.getD i false:=fun l hl i hi=>by simp [Array.getD,hl,hi]
 induction n with
 | zero=>intro listed listed' l _ _ _ _ h;rw[show l=[] from h];rfl
 | succ n ih=>
  intro listed listed' l hs hs' hL hB h;cases l with
  | nil=>
   have hnil:Region.ready .any ops listed=[]:=h
   show Region.ready .any (MD ops ix x y) listed'=[]
   rw[List.eq_nil_iff_forall_not_mem];intro k hk;rw[mem_ready]at hk;obtain⟨q1,o',q2,q3⟩:=hk;have hkl:k<ops.size:=by rw[←hps];exact(Array.getElem?_eq_some_iff.1 q2).1
   obtain⟨i,hki⟩:∃i,ix[k]?=some i:=⟨_,List.getElem?_eq_getElem (by rw[H.len];exact hkl)⟩
   obtain⟨o,p1,p2,p3⟩:=DZ H hki;rw[p2]at q2;injection q2 with q2
   have hil:=H.lt i (List.mem_of_getElem? hki)
   have hm:i∈Region.ready .any ops listed:=by
    rw[mem_ready];refine⟨?_,o,p1,fun ed hed hbd=>?_⟩
    ·rw[dflt _ hs i hil,←hL k i hki,←dflt _ hs' k hkl];exact q1
    ·have hke:ed.on∈ID o:=List.mem_map.2 ⟨ed,List.mem_filter.2 ⟨by simpa using hed,hbd⟩,rfl⟩
     have hel:=H.ed i o p1 ed.on hke
     obtain⟨r1,r2⟩:=H.inv hel;have:=q3 ⟨ix.findIdx (Nat.beq ed.on),.data⟩ (by rw[←q2,p3];simp;exact .inl ⟨_,hke,rfl⟩) rfl
     rw[hL _ _ r2]at this;exact this
   rw[hnil]at hm;cases hm
  | cons i r=>
   obtain⟨hir,hr⟩:=h;have hmr:=hir
   rw[mem_ready]at hmr;obtain⟨q1,o,q2,q3⟩:=hmr;have hil:i<ops.size:=(Array.getElem?_eq_some_iff.1 q2).1
   obtain⟨k1,k2⟩:=H.inv hil;rw[List.map_cons];generalize hk:ix.findIdx (Nat.beq i)=k at *;obtain⟨o1,p1,p2,p3⟩:=DZ H k2;rw[q2]at p1;injection p1 with p1
   subst p1;have hxl:i=y→listed.getD x false=true:=fun hy=>by
    rcases hB with hB|hB
    ·exact hB
    ·have:=hB [] r (by rw[hy];rfl)
     cases this
   have hkr:k∈Region.ready .any (MD ops ix x y) listed':=by
    rw[mem_ready];refine⟨?_,_,p2,fun ed hed hbd=>?_⟩
    ·rw[dflt _ hs' k k1,hL k i k2,←dflt _ hs i hil];exact q1
    ·rw[p3]at hed
     simp only[List.mem_toArray,List.mem_map,List.mem_append]at hed;obtain⟨j,hj,rfl⟩:=hed;rcases hj with hj|hj
     ·have hel:=H.ed i o q2 j hj
      obtain⟨r1,r2⟩:=H.inv hel;dsimp only;rw[hL _ _ r2];obtain⟨ed,he1,he2⟩:=List.mem_map.1 hj;obtain⟨he3,he4⟩:=List.mem_filter.1 he1;subst he2;exact q3 ed (by simpa using he3) he4
     ·cases hy:Nat.beq i y with
      | false=>rw[hy]at hj;cases hj
      | true=>
       rw[hy]at hj;simp only[cond_true,List.mem_singleton]at hj;subst hj;obtain⟨r1,r2⟩:=H.inv H.xl;dsimp only;rw[hL _ _ r2];exact hxl (Nat.eq_of_beq_eq_true hy)
   refine⟨hkr,ih _ _ r (by simp [hs]) (by simp [hs']) (fun k' i' hk'=>?_) ?_ hr⟩
   ·by_cases hkk:k=k'
    ·subst hkk
     rw[k2]at hk';injection hk' with hk'
     subst hk';simp [Array.getD,hs,hs',hil,k1]
    ·have hii:i≠i':=fun hii=>by
      subst hii;have a1:=List.getElem?_eq_some_iff.1 k2
      have a2:=List.getElem?_eq_some_iff.1 hk'
      obtain⟨b1,b2⟩:=a1;obtain⟨c1,c2⟩:=a2;exact hkk ((List.getElem_inj H.nd).1 (b2.trans c2.symm))
     rw[getD_set_ne false hkk,getD_set_ne false hii];exact hL k' i' hk'
   ·rcases hB with hB|hB
    ·exact .inl (getD_set_true hB)
    ·by_cases hxi:i=x
     ·subst hxi
      left;simp [Array.getD,hs,hil]
     ·right
      intro l1 l2 hl;have:=hB (i::l1) l2 (by rw[hl];rfl)
      rcases List.mem_cons.1 this with q|q
      ·exact absurd q.symm hxi
      ·exact q
theorem z9j (x y:Nat)(hxy:x≠y)(l:List Nat):XT x y l∨XT y x l:=by
 induction l with
 | nil=>left;intro l1 l2 h;simp at h
 | cons z l ih=>
  by_cases hx:z=x
  ·subst hx
   left;intro l1 l2 h
   cases l1 with
   | nil=>simp at h;exact absurd h.1 hxy
   | cons q r=>simp at h;simp [h.1]
  ·by_cases hy:z=y
   ·subst hy
    right;intro l1 l2 h
    cases l1 with
    | nil=>simp at h;exact absurd h.1.symm hxy
    | cons q r=>simp at h;simp [h.1]
   ·rcases ih with ih|ih
    ·left
     intro l1 l2 h;cases l1 with
     | nil=>simp at h;exact absurd h.1 hy
     | cons q r=>simp at h;exact List.mem_cons_of_mem _ (ih r l2 h.2)
    ·right
     intro l1 l2 h;cases l1 with
     | nil=>simp at h;exact absurd h.1 hx
     | cons q r=>simp at h;exact List.mem_cons_of_mem _ (ih r l2 h.2)
def jO:ACode→List Nat × ACode
 | .block i b=>(i::(jO b).1,(jO b).2)
 | c=>([],c)
theorem CZ {C:Hd}:∀(c:ACode) (s:St) (K:Ex→St→Prop),AW C gl c s K→∃K':Ex→St→Prop,AW C gl (jO c).2 s K'∧∀st,K' .normal st→K .normal st
 | .block i b,s,K,H=>by
  unfold AW at H;obtain⟨K',h1,h2⟩:=CZ b s _ H;exact⟨K',h1,fun st h=>h2 st h⟩
 | .skip,_,K,H=>⟨K,H,fun _ h=>h⟩
 | .reg _ _,_,K,H=>⟨K,H,fun _ h=>h⟩
 | .draw _ _,_,K,H=>⟨K,H,fun _ h=>h⟩
 | .seq _ _,_,K,H=>⟨K,H,fun _ h=>h⟩
 | .cond _ _ _,_,K,H=>⟨K,H,fun _ h=>h⟩
 | .condu _ _ _,_,K,H=>⟨K,H,fun _ h=>h⟩
 | .det _,_,K,H=>⟨K,H,fun _ h=>h⟩
 | .loop _,_,K,H=>⟨K,H,fun _ h=>h⟩
 | .scope _,_,K,H=>⟨K,H,fun _ h=>h⟩
 | .pr _ _,_,K,H=>⟨K,H,fun _ h=>h⟩
 | .exit _,_,K,H=>⟨K,H,fun _ h=>h⟩
 | .ret,_,K,H=>⟨K,H,fun _ h=>h⟩
 | .bad,_,K,H=>⟨K,H,fun _ h=>h⟩
def mP (ops:Array Oper)(x y:Nat)(ix:List Nat):Bool:=
 ix.length==ops.size&&ix.all (fun i=>decide (i<ops.size))&&(List.range ops.size).all (fun i=>ix.contains i)&&vR ix&&ops.toList.all (fun o=>o.guard.isNone&&(ID o).all fun k=>decide (k<ops.size))&&decide (x<ops.size)
theorem z17 (h:mP ops x y ix=true):PermOk ops ix x y:=by
 unfold mP at h;simp only[Bool.and_eq_true,beq_iff_eq,List.all_eq_true,decide_eq_true_eq,Option.isNone_iff_eq_none]at h;obtain⟨⟨⟨⟨⟨h1,h2⟩,h3⟩,h4⟩,h5⟩,h6⟩:=h;refine⟨h1,h2,fun i hi=>?_,z4R h4,fun i o ho=>(h5 o ?_).1,fun i o ho=>(h5 o ?_).2,h6⟩
 ·have:=h3 i (List.mem_range.2 hi)
  simpa using this
 ·exact Array.mem_toList_iff.2 (Array.mem_of_getElem? ho)
 ·exact Array.mem_toList_iff.2 (Array.mem_of_getElem? ho)
def QG (P:Program)(nt:Nat):Nat→Array Oper→ACode→Bool
 | 0,_,_=>false
 | n+1,ops,c=>match c with
  | .draw ds _=>jP P nt ops ds
  | .condu t a b=>match t with
   | .c .anyb=>match jO a,jO b with
    | (x::y::ixA,ca),(y'::x'::ixB,cb)=>Nat.beq x x'&&Nat.beq y y' && !Nat.beq x y&&mP ops x y ixA&&mP ops y x ixB&&QG P nt n (MD ops ixA x y) ca&&QG P nt n (MD ops ixB y x) cb
    | _,_=>false
   | _=>false
  | _=>false
theorem z0q {C:Hd}(hC:∀ f a h K,C f a h K→AC P gl f a h K):∀(n:Nat) (ops:Array Oper) (c:ACode) (s:St) (K:Ex→St→Prop) (a:Act) (w:World),QG P nt n ops c=true→AW C gl c s K→Rel gl nt M0 h0 μ0 s.env s.h s.esc a w μ →
 (∀(keep:Option (List Nat)) e h x a w μ,K .normal ⟨CA keep e,h,x⟩→Rel gl nt M0 h0 μ0 e h x a w μ→Q .normal a w)→∀l,VO ops ops.size (Array.replicate ops.size false) l→wpOps P ops Q l a w
 | 0,ops,c,s,K,a,w,hc,_,_,_,_,_=>by cases hc
 | n+1,ops,c,s,K,a,w,hc,H,R,fin,l,hl=>by
  cases c;case draw ds keep=>
   unfold QG at hc;unfold AW at H;exact z1f _ _ l a w hl (z2d hC (Q:=Q) hc H R (fin keep))
  case condu t c1 c2=>
   unfold QG at hc;dsimp only at hc;split at hc
   ·split at hc
    ·rename_i x y ixA ca y' x' ixB cb pa pb
     simp only[Bool.and_eq_true,Bool.not_eq_true']at hc;obtain⟨⟨⟨⟨⟨⟨e1,e2⟩,e3⟩,e4⟩,e5⟩,e6⟩,e7⟩:=hc;have e1:=Nat.eq_of_beq_eq_true e1
     have e2:=Nat.eq_of_beq_eq_true e2
     subst e1;subst e2
     have hxy:x≠y:=fun hh=>by rw[hh,Nat.beq_refl]at e3;cases e3
     unfold AW at H;simp only[Opd.ev]at H;obtain⟨KA,HA,fA⟩:=CZ c1 s K H.1;obtain⟨KB,HB,fB⟩:=CZ c2 s K H.2;rw[pa]at HA;rw[pb]at HB;have pA:=z17 e4
     have pB:=z17 e5
     have rep:∀(ix:List Nat) k i,ix[k]?=some i→(Array.replicate ops.size false).getD k false=(Array.replicate ops.size false).getD i false:=fun ix k i _=>by simp [Array.getD]
     have szA:(MD ops ixA x y).size=ops.size:=by unfold MD;simp [pA.len]
     have szB:(MD ops ixB y x).size=ops.size:=by unfold MD;simp [pB.len]
     have hlt:=z0L _ _ l hl
     rcases z9j x y hxy l with hb|hb
     ·have hv:=z5i pA ops.size _ _ l (by simp) (by simp) (rep ixA) (.inr hb) hl
      have:=z0q hC n _ ca s KA a w e6 HA R (fun keep e h x a w μ hk R'=>fin keep e h x a w μ (fA _ hk) R') _ (by rw[szA];exact hv)
      exact EZ pA l a w hlt this
     ·have hv:=z5i pB ops.size _ _ l (by simp) (by simp) (rep ixB) (.inr hb) hl
      have:=z0q hC n _ cb s KB a w e7 HB R (fun keep e h x a w μ hk R'=>fin keep e h x a w μ (fB _ hk) R') _ (by rw[szB];exact hv)
      exact EZ pB l a w hlt this
    ·cases hc
   ·cases hc
  all_goals (unfold QG at hc;cases hc)
theorem zl7 (hm:P.follows .mixedOrders=true){C:Hd}(hC:∀ f a h K,C f a h K→AC P gl f a h K){n id:Nat}{c:ACode}{s:St}{K:Ex→St→Prop}{a:Act}{w:World}(hc:QG P nt n ops c=true)(H:AW C gl c s K)
 (R:Rel gl nt M0 h0 μ0 s.env s.h s.esc a { w with drawn:=w.drawn+1 } μ) (fin:∀(keep:Option (List Nat)) e h x a w μ,K .normal ⟨CA keep e,h,x⟩→Rel gl nt M0 h0 μ0 e h x a w μ→Q .normal a w):(Code.region id ops true).wp P Q a w:=by
 refine wp_region_draw fun t=>?_
 simp only[Region.schedule,hm,Bool.true_or,if_true];exact z0q hC n ops c s K a _ hc H R fin _ (z7E ops ops.size t _)
def z18 (P:Program)(nt:Nat)(ops:Array Oper)(t:Opd)(a b:ACode):Bool:=QG P nt 9 ops (.condu t a b)
end Go.Am
end
section
/- The abstract machine,part 21: code. -/
set_option linter.unusedSimpArgs false
set_option linter.unusedVariables false
set_option maxHeartbeats 1000000
namespace Go.Am
variable {h h':aA} {μ μ':Mu} {w w':World} {P:Program} {M M':Mem}
variable {gl:Nat→Option PV} {nt:Nat} {M0:Mem} {h0:aA} {μ0:Mu} {e:List (Nat × AV)} {x:Esc} {a:Act}
theorem zgc (H:HeapRel h μ w){id:Nat}{o:Obj}(ho:h[id]?=some o):o.top≤h.length:=by
 obtain⟨m,hm,hO⟩:=oF H ho;cases o with
 | box cs=>
  obtain⟨b,c,rfl,hb,hc⟩:=hO;exact z1u H hc
 | row sh xs fz=>simp [Obj.top]
 | amap es c=>
  obtain⟨b,n,ces,rfl,h1,h2,_,h3⟩:=hO;refine FH (fun j y hy=>?_)
  simp only[List.getElem?_map,Option.map_eq_some_iff]at hy;obtain⟨en,he,rfl⟩:=hy;have hj:j<ces.size:=by rw[h2];exact xA he
  exact(h3 j en ces[j] he (Array.getElem?_eq_getElem hj)).2.2.1.top_le
 | iter mm s seen l=>
  obtain⟨b,n,rfl,h1⟩:=hO;cases mm with
  | none=>simp [Obj.top]
  | some i=>
   obtain⟨bm,nm,es,c,h2,h3,h4⟩:=h1;simp only[Obj.top];exact xA h3
 | arow sh cs=>
  obtain⟨h1,h2⟩:=hO;cases m with
  | none=>subst h2;simp [Obj.top,AV.tops]
  | some m=>
   obtain⟨b,n⟩:=m;obtain⟨c,c1,c2,c3⟩:=h2;refine FH (fun j y hy=>?_)
   obtain⟨v,_,q⟩:=c3 j y hy;exact q.top_le
theorem z0o (H:HeapRel h μ w)(id:Nat):yF h id≤h.length:=by
 unfold yF;split
 ·exact zgc H ‹_›
 ·omega
theorem z9A (y:Esc)(n:Nat):n≤vD y n:=by
 unfold vD;induction y generalizing n with
 | nil=>simp
 | cons p r ih=>
  simp only[List.foldl_cons];split
  ·exact Nat.le_trans (by omega) (ih _)
  ·exact ih _
theorem qP:∀ (k:Nat) (y:Esc) (n:Nat),n≤IB k y n
 | 0,y,n=>Nat.le_refl _
 | k+1,y,n=>Nat.le_trans (z9A y n) (qP k y _)
theorem Evo.take {M'':Mem}(E:Evo M h μ M' h' μ'){n:Nat}(hn:h.length≤n)(L:M'.le M''):Evo M h μ M'' (h'.take n) (μ'.take n):=by
 refine⟨⟨fun b o v hv=>L.c _ _ _ (E.le.c _ _ _ hv),fun b o hv=>L.b _ _ (E.le.b _ _ hv),L.z.trans E.le.z,fun b t h=>L.s _ _ (E.le.s _ _ h)⟩,by have:=E.len;simp;omega,fun id o m h1 h2=>?_⟩
 obtain⟨o',m',h3,h4,h5⟩:=E.obj id o m h1 h2;have hi:id<n:=Nat.lt_of_lt_of_le (xA h1) hn
 exact⟨o',m',by rw[List.getElem?_take,if_pos hi];exact h3,by rw[List.getElem?_take,if_pos hi];exact h4,h5⟩
theorem z0n {hs:aA}{μs:Mu}{Ms:Mem}{es:Esc}(Hs:∀ id,yF hs id≤hs.length)(H:HeapRel h μ w)(E:Evo Ms hs μs (imm h μ w) h μ)(I:rA hs h es){n:Nat}(hn:hs.length≤n)(hc:QB es n=true) :
 HeapRel (h.take n) (μ.take n) w∧(imm h μ w).le (imm (h.take n) (μ.take n) w)∧Evo Ms hs μs (imm (h.take n) (μ.take n) w) (h.take n) (μ.take n)∧rA hs (h.take n) (es.filter fun y=>decide (y.1<n)):=by
 have ht:∀id o,h[id]?=some o→id<n→o.top≤n:=by
  intro id o ho hi;have h1:=I id o ho
  have h2:=Hs id
  have h3:=zdJ hc hi
  omega
 obtain⟨H1,L⟩:=H.take n ht;refine⟨H1,L,E.take hn L,fun id o ho=>?_⟩
 rw[List.getElem?_take]at ho;split at ho
 ·rename_i hi
  rw[zdK hi];exact I id o ho
 ·cases ho
theorem z8S (n:Nat)(e:List (Nat × AV))(t:Nat):kA (XE n e) t=if(kA e t).top≤n then kA e t else .und:=by
 induction e with
 | nil=>simp [XE,kA,AV.top]
 | cons y r ih=>
  simp only[XE,List.map_cons,kA]at ih ⊢;split
  ·rfl
  ·exact ih
theorem eP (keep:Option (List Nat))(e:List (Nat × AV))(t:Nat):kA (CA keep e) t=kA e t∨kA (CA keep e) t = .und:=by
 cases keep with
 | none=>exact .inl rfl
 | some l=>
  simp only[CA];induction l with
  | nil=>exact .inr rfl
  | cons k r ih=>
   simp only[List.map_cons,kA];split
   ·rename_i hk;subst hk;exact .inl rfl
   ·exact ih
theorem zl5 {x0:Esc}{s:St}{hs:aA}{μs:Mu}{ws:World}{e0:List (Nat × AV)}{a0:Act}(R:Rel gl nt M0 h0 μ0 e0 hs x0 a0 ws μs)(R':Rel gl nt (imm hs μs ws) hs μs s.env s.h s.esc a w μ) :
 ∃μ',Rel gl nt M0 h0 μ0 (PD hs.length x0 s).env (PD hs.length x0 s).h (PD hs.length x0 s).esc a w μ':=by
 unfold PD;dsimp only;split
 ·rename_i hc
  have hn:=qP s.esc.length s.esc hs.length
  generalize IB s.esc.length s.esc hs.length=n at hc hn;obtain⟨q1,q2,q3,q4⟩:=z0n (fun id=>z0o R.heap id) R'.heap R'.evo R'.esc hn hc
  refine⟨μ.take n,q1,fun t=>?_,R'.glob.mono q2,R.evo.trans q3,rA.trans R.esc q4,R'.size,R'.defers⟩
  dsimp only;rw[z8S];split
  ·exact(R'.env t).take q2 ‹_›
  ·exact .und _
 ·exact⟨μ,R'.heap,R'.env,R'.glob,R.evo.trans R'.evo,rA.trans R.esc R'.esc,R'.size,R'.defers⟩
theorem Rel.drew (R:Rel gl nt M0 h0 μ0 e h x a w μ)(n:Nat):Rel gl nt M0 h0 μ0 e h x a { w with drawn:=n } μ:=by
 obtain⟨h1,h2⟩:=R.heap.ext (WExt.drew w n);exact⟨h1,fun t=>(R.env t).evo h2,R.glob.mono h2.le,R.evo.trans h2,R.esc,R.size,R.defers⟩
def UB (P:Program)(nt:Nat):ACode→Code→Bool
 | .skip,c=>match c with
  | .skip=>true
  | _=>false
 | .reg aops _,c=>match c with
  | .region _ ops false=>kG P nt ops aops 0
  | _=>false
 | .draw ds _,c=>match c with
  | .region _ ops true=>jP P nt ops ds
  | _=>false
 | .seq a b,c=>match c with
  | .seq a' b'=>UB P nt a a'&&UB P nt b b'
  | _=>false
 | .cond t a b,c=>match c with
  | .cond t' a' b'=>yA t t'&&UB P nt a a'&&UB P nt b b'
  | _=>false
 | .det b,c=>UB P nt b c
 | .condu t a b,c=>match c with
  | .cond t' a' b'=>yA t t'&&UB P nt a a'&&UB P nt b b'
  | .region _ ops true=>z18 P nt ops t a b
  | _=>false
 | .block i b,c=>match c with
  | .block i' b'=>i==i'&&UB P nt b b'
  | _=>false
 | .loop b,c=>match c with
  | .loop b'=>UB P nt b b'
  | _=>false
 | .scope b,c=>UB P nt b c
 | .pr _ b,c=>UB P nt b c
 | .exit i,c=>match c with
  | .exit i'=>i==i'
  | _=>false
 | .ret,c=>match c with
  | .ret=>true
  | _=>false
 | .bad,_=>true
def Ex.toExit:Ex→Exit
 | .normal=>.normal
 | .exit i=>.exit i
 | .ret=>.ret
theorem z8X {M:Mem}{h:aA}{μ:Mu}{x:Value}(R:RAV M h μ .anyb x):∃b,x = .bool b:=by
 cases R with|anyb b=>exact⟨b,rfl⟩
theorem TD (hm:P.follows .mixedOrders=true){C:Hd}(hC:∀ f a h K,C f a h K→AC P gl f a h K):∀(c:ACode) {k:Code},UB P nt c k=true→∀{s:St} {K:Ex→St→Prop} {M0:Mem} {h0:aA} {μ0:Mu} {a:Act} {w:World} {μ:Mu} {Q:Exit→Act→World→Prop},
 AW C gl c s K→Rel gl nt M0 h0 μ0 s.env s.h s.esc a w μ→(∀ex s' a' w' μ',K ex s'→Rel gl nt M0 h0 μ0 s'.env s'.h s'.esc a' w' μ'→Q ex.toExit a' w')→k.wp P Q a w
 | .skip,k,hc,s,K,M0,h0,μ0,a,w,μ,Q,H,R,hQ=>by
  simp only[UB]at hc;split at hc
  ·exact wp_skip (hQ .normal _ _ _ _ H R)
  ·cases hc
 | .reg aops keep,k,hc,s,K,M0,h0,μ0,a,w,μ,Q,H,R,hQ=>by
  simp only[UB]at hc;split at hc
  ·rename_i id ops
   refine wp_region ?_;have:=XF hC aops 0 (Q:=Q) hc H R (fun e h x a w μ hk R'=>hQ .normal ⟨CA keep e,h,x⟩ a w μ hk ⟨R'.heap,fun t=>?_,R'.glob,R'.evo,R'.esc,R'.size,R'.defers⟩)
   ·rwa [Nat.sub_zero,←List.range_eq_range']at this
   ·rcases eP keep e t with q|q
    ·rw[q];exact R'.env t
    ·rw[q];exact .und _
  ·cases hc
 | .draw ds keep,k,hc,s,K,M0,h0,μ0,a,w,μ,Q,H,R,hQ=>by
  simp only[UB]at hc;split at hc
  ·rename_i id ops
   refine wp_region_any hm ?_;exact z2d hC (Q:=Q) hc H (R.drew _) (fun e h x a w μ hk R'=>hQ .normal ⟨CA keep e,h,x⟩ a w μ hk ⟨R'.heap,fun t=>(by
    rcases eP keep e t with q|q
    ·rw[q];exact R'.env t
    ·rw[q];exact .und _),R'.glob,R'.evo,R'.esc,R'.size,R'.defers⟩)
  ·cases hc
 | .seq c1 c2,k,hc,s,K,M0,h0,μ0,a,w,μ,Q,H,R,hQ=>by
  simp only[UB]at hc;split at hc
  ·simp only[Bool.and_eq_true]at hc
   refine wp_seq (TD hm hC c1 hc.1 H R (fun ex s' a' w' μ' hk R'=>?_))
   cases ex with
   | normal=>exact TD hm hC c2 hc.2 hk R' hQ
   | exit i=>exact hQ (.exit i) _ _ _ _ hk R'
   | ret=>exact hQ .ret _ _ _ _ hk R'
  ·cases hc
 | .det c,k,hc,s,K,M0,h0,μ0,a,w,μ,Q,H,R,hQ=>by
  simp only[UB]at hc;exact TD hm hC c hc H R hQ
 | .condu t c1 c2,k,hc,s,K,M0,h0,μ0,a,w,μ,Q,H,R,hQ=>by
  simp only[UB]at hc;split at hc
  ·simp only[Bool.and_eq_true]at hc
   unfold AW at H;split at H
   ·rename_i b hb
    have ht:=R.opds _ _ hc.1.1
    rw[hb]at ht;refine wp_cond ht.p_bool ?_;cases b with
    | true=>exact TD hm hC c1 hc.1.2 H R hQ
    | false=>exact TD hm hC c2 hc.2 H R hQ
   ·rename_i hb
    have ht:=R.opds _ _ hc.1.1
    rw[hb]at ht;obtain⟨g1,g2⟩:=H;obtain⟨b,hb'⟩:=z8X ht;refine wp_cond hb' ?_;cases b with
    | true=>exact TD hm hC c1 hc.1.2 g1 R hQ
    | false=>exact TD hm hC c2 hc.2 g2 R hQ
   ·exact H.elim
  ·rename_i id ops
   unfold z18 at hc;exact zl7 hm hC (Q:=Q) hc H (R.drew _) fun keep e h x a w μ hk R'=>hQ .normal ⟨CA keep e,h,x⟩ a w μ hk ⟨R'.heap,fun t=>(by
    rcases eP keep e t with q|q
    ·rw[q];exact R'.env t
    ·rw[q];exact .und _),R'.glob,R'.evo,R'.esc,R'.size,R'.defers⟩
  ·cases hc
 | .cond t c1 c2,k,hc,s,K,M0,h0,μ0,a,w,μ,Q,H,R,hQ=>by
  simp only[UB]at hc;split at hc
  ·simp only[Bool.and_eq_true]at hc
   unfold AW at H;split at H
   ·rename_i b hb
    have ht:=R.opds _ _ hc.1.1
    rw[hb]at ht;refine wp_cond ht.p_bool ?_;cases b with
    | true=>exact TD hm hC c1 hc.1.2 H R hQ
    | false=>exact TD hm hC c2 hc.2 H R hQ
   ·exact H.elim
  ·cases hc
 | .block i c,k,hc,s,K,M0,h0,μ0,a,w,μ,Q,H,R,hQ=>by
  simp only[UB]at hc;split at hc
  ·simp only[Bool.and_eq_true,beq_iff_eq]at hc
   obtain⟨rfl,hc⟩:=hc;refine wp_block (TD hm hC c hc H R (fun ex s' a' w' μ' hk R'=>?_))
   cases ex with
   | normal=>exact hQ .normal _ _ _ _ hk R'
   | exit j=>
    simp only[Ex.toExit,Exit.inBlock];dsimp only at hk;split
    ·rename_i hj;rw[if_pos hj]at hk;exact hQ .normal _ _ _ _ hk R'
    ·rename_i hj;rw[if_neg hj]at hk;exact hQ (.exit j) _ _ _ _ hk R'
   | ret=>exact hQ .ret _ _ _ _ hk R'
  ·cases hc
 | .loop c,k,hc,s,K,M0,h0,μ0,a,w,μ,Q,H,R,hQ=>by
  simp only[UB]at hc;split at hc
  ·rename_i b'
   intro b k cs;have key:∀(s:St),ALoop (AW C gl c) K s→∀(a:Act) (w:World) (μ:Mu),Rel gl nt M0 h0 μ0 s.env s.h s.esc a w μ →
    ∃e a' w',Q e a' w'∧Arrives P (lone (b.at a (.code b' :: .inLoop b'::k)) cs w) b k cs e a' w':=by
    intro s H;induction H with
    | mk s T hT hn he hr ih=>
     intro a w μ R;obtain⟨e,a1,w1,hq,harr⟩:=TD hm hC c hc (Q:=fun e a' w'=>match e with
      | .normal=>∃s' μ',T .normal s'∧Rel gl nt M0 h0 μ0 s'.env s'.h s'.esc a' w' μ'
      | e=>Q e a' w') hT R (fun ex s' a' w' μ' hk R'=>by
       cases ex with
       | normal=>exact⟨s',μ',hk,R'⟩
       | exit i=>exact hQ (.exit i) _ _ _ _ (he _ _ hk) R'
       | ret=>exact hQ .ret _ _ _ _ (hr _ hk) R') b (.inLoop b'::k) cs
     cases e with
     | normal=>
      obtain⟨s',μ',hk,R'⟩:=hq;obtain⟨e2,a2,w2,hq2,harr2⟩:=ih s' hk a1 w1 μ' R';exact⟨e2,a2,w2,hq2,.of_steps (Steps.trans harr (.one step_inLoop)) harr2⟩
     | exit id=>exact⟨_,a1,w1,hq,.pass (x:=.inLoop b') rfl (fun _ _=>.inl (by simp)) harr⟩
     | goto l=>exact⟨_,a1,w1,hq,.pass (x:=.inLoop b') rfl (fun _ _=>.inl (by simp)) harr⟩
     | ret=>exact⟨_,a1,w1,hq,.pass (x:=.inLoop b') rfl (fun _ _=>.inl (by simp)) harr⟩
     | panic ch=>exact⟨_,a1,w1,hq,.pass (x:=.inLoop b') rfl (fun _ _=>.inl (by simp)) harr⟩
     | outgrown=>exact⟨_,a1,w1,hq,.pass (x:=.inLoop b') rfl (fun _ _=>.inl (by simp)) harr⟩
   obtain⟨e,a',w',hq,harr⟩:=key s H a w μ R;exact⟨e,a',w',hq,.of_steps (.one step_loop) harr⟩
  ·cases hc
 | .scope c,k,hc,s,K,M0,h0,μ0,a,w,μ,Q,H,R,hQ=>by
  simp only[UB]at hc;refine TD hm hC c hc (M0:=imm s.h μ w) (h0:=s.h) (μ0:=μ) H ⟨R.heap,R.env,R.glob,Evo.refl _ _ _,rA.refl _ _,R.size,R.defers⟩ (fun ex s' a' w' μ' hk R'=>?_)
  obtain⟨μ'',R''⟩:=zl5 R R';exact hQ ex _ _ _ _ hk R''
 | .pr l c,k,hc,s,K,M0,h0,μ0,a,w,μ,Q,H,R,hQ=>by
  simp only[UB]at hc;refine TD hm hC c hc H ⟨R.heap,fun t=>?_,R.glob,R.evo,R.esc,R.size,R.defers⟩ hQ
  dsimp only;rcases eP (some l) s.env t with q|q
  ·rw[q];exact R.env t
  ·rw[q];exact .und _
 | .exit i,k,hc,s,K,M0,h0,μ0,a,w,μ,Q,H,R,hQ=>by
  simp only[UB]at hc;split at hc
  ·simp only[beq_iff_eq]at hc
   subst hc;exact wp_exit (hQ (.exit i) _ _ _ _ H R)
  ·cases hc
 | .ret,k,hc,s,K,M0,h0,μ0,a,w,μ,Q,H,R,hQ=>by
  simp only[UB]at hc;split at hc
  ·exact wp_ret (hQ .ret _ _ _ _ H R)
  ·cases hc
 | .bad,k,hc,s,K,M0,h0,μ0,a,w,μ,Q,H,R,hQ=>H.elim
end Go.Am
end
section
/- The abstract machine,part 22: results,calls;a call that ends well here ends well in the model. -/
set_option linter.unusedSimpArgs false
set_option linter.unusedVariables false
set_option maxHeartbeats 1000000
namespace Go.Am
variable {h h':aA} {μ μ':Mu} {w w':World} {P:Program} {M M':Mem}
variable {gl:Nat→Option PV} {nt:Nat} {M0:Mem} {h0:aA} {μ0:Mu} {e:List (Nat × AV)} {x:Esc} {a:Act}
def jE (P:Program):List ARes→List ResultVar→Bool
 | [],[]=>true
 | .t n::r,.tmp m::s=>n==m&&jE P r s
 | .cell n sh::r,.cell m t::s=>n==m&&WA P t==some sh&&jE P r s
 | _,_=>false
def qO (tmps:Array Value):ResultVar→Sem Value
 | .tmp t=>pure (tmps.getD t undef)
 | .cell a t=>do loadVar t (←asAddr (tmps.getD a undef))
theorem QZ {s:St}(H:HeapRel s.h μ w)(he:∀ t,RAV (imm s.h μ w) s.h μ (kA s.env t) (a.tmps.getD t undef)):∀{rs:List ARes} {qs:List ResultVar} {vs:List AV},jE P rs qs=true→gE s rs=some vs →
 ∃us,(qs.mapM (qO a.tmps)).run P w = .ok us w∧vs.length=us.length∧∀(j:Nat) (y:AV) (v:Value),vs[j]?=some y→us[j]?=some v→RAV (imm s.h μ w) s.h μ y v
 | [],[],vs,_,hv=>by
  simp [gE]at hv;subst hv;exact⟨[],by simp,rfl,fun j y v h1 h2=>by simp at h1⟩
 | [],_::_,_,hc,_=>by simp [jE]at hc
 | .t n::r,[],_,hc,_=>by simp [jE]at hc
 | .cell n sh::r,[],_,hc,_=>by simp [jE]at hc
 | .t n::r,.cell _ _::q,_,hc,_=>by simp [jE]at hc
 | .cell n sh::r,.tmp _::q,_,hc,_=>by simp [jE]at hc
 | .t n::r,.tmp m::q,vs,hc,hv=>by
  simp only[jE,Bool.and_eq_true,beq_iff_eq]at hc;obtain⟨rfl,hc⟩:=hc;simp only[gE,ares]at hv;simp only[Option.map_eq_some_iff]at hv;obtain⟨l,hl,rfl⟩:=hv;obtain⟨us,h1,h2,h3⟩:=QZ H he hc hl;refine⟨a.tmps.getD n undef::us,by simp [qO,h1],by simp [h2],fun j y v hy hv=>?_⟩
  cases j with
  | zero=>simp at hy hv;subst hy;subst hv;simpa using he n
  | succ j=>exact h3 j y v (by simpa using hy) (by simpa using hv)
 | .cell n sh::r,.cell m t::q,vs,hc,hv=>by
  simp only[jE,Bool.and_eq_true,beq_iff_eq]at hc;obtain⟨⟨rfl,hs⟩,hc⟩:=hc;simp only[gE]at hv;split at hv
  ·rename_i u hu
   simp only[Option.map_eq_some_iff]at hv;obtain⟨l,hl,rfl⟩:=hv;obtain⟨us,h1,h2,h3⟩:=QZ H he hc hl;simp only[ares]at hu;split at hu
   ·rename_i id off hr
    split at hu
    ·rename_i cs ho
     have hR:=he n
     rw[hr]at hR;generalize hz:a.tmps.getD n undef=z at hR;cases hR with|ref _ _ b k cs' ho' hm=>
     obtain⟨b',c,hm',hb,hcell⟩:=H.obj _ _ _ ho hm;injection hm' with hm'
     injection hm' with e1 e2
     subst e1;obtain⟨c1,c2⟩:=uP (M:=imm s.h μ w) (h:=s.h) (μ:=μ) (f:=fun j=>(c[j]?).getD undef) hu (fun j x hx=>by obtain⟨_,v,q1,q2⟩:=hcell j x hx;simpa [q1] using q2)
     have hload:(loadVar t ⟨b,off,none⟩).run P w = .ok (cD sh fun j=>(c[off+j]?).getD undef) w:=by
      refine z5N hs (fun j hj=>?_)
      rw[wD hb];have hlt:off+j<c.size:=by rw[hb.1];have:=c1;omega
      simp [hlt]
     refine⟨(cD sh fun j=>(c[off+j]?).getD undef)::us,?_,by simp [h2],fun j y v hy hv=>?_⟩
     ·simp only[List.mapM_cons,Sem.run_bind,qO,hz,asAddr]
      simp [hload,h1]
     ·cases j with
      | zero=>simp at hy hv;subst hy;subst hv;exact c2
      | succ j=>exact h3 j y v (by simpa using hy) (by simpa using hv)
    ·cases hu
   ·cases hu
  ·cases hv
theorem zjF {fn:Func}{s:St}(H:HeapRel s.h μ w)(he:∀ t,RAV (imm s.h μ w) s.h μ (kA s.env t) (a.tmps.getD t undef)){rs:List ARes}{vs:List AV}(hc:jE P rs fn.results.toList=true)(hv:gE s rs=some vs) :
 ∃u,(results fn a.tmps).run P w = .ok u w∧RAV (imm s.h μ w) s.h μ (jB vs) u:=by
 obtain⟨us,h1,h2,h3⟩:=QZ H he hc hv;have hm:(fn.results.mapM (qO a.tmps)).run P w = .ok us.toArray w:=by
  rw[Array.mapM_eq_mapM_toList];simp [h1]
 refine⟨if hz:us.toArray.size=1 then us.toArray[0] else .tuple us.toArray,?_,?_⟩
 ·unfold results
  rw[Sem.run_bind];show(Sem.run P (fn.results.mapM (qO a.tmps)) w).andThen _=_
  rw[hm];rfl
 ·match vs,us,h2,h3 with
  | [v],[u],_,h3=>exact h3 0 v u rfl rfl
  | [],[],_,h3=>exact .tup [] [] rfl (fun j y v h1 h2=>by simp at h1)
  | a::b::r,c::d::q,h2,h3=>exact .tup _ (c::d::q) h2 h3
theorem z4X (H:HeapRel h μ w){n:Nat}(L:(imm h μ w).le (imm (h.take n) (μ.take n) w)){id g off len:Nat}{x:Value}{sh:Sh}{xs:List PV}(R:RAV (imm h μ w) h μ (.own id g off len) x)(hr:rd h (.own id g off len)=some (sh,xs))
 (hn:n≤id):RPV (imm (h.take n) (μ.take n) w) (.sl sh xs) x:=by
 obtain⟨ys,fz,ho,hc1,hc2,hr⟩:=LZ hr;obtain⟨_,g2,a,cap,rfl,g3,g4⟩:=TF H R ho hc1;have hlen:xs.length=len:=by rw[hr];exact RT hc2
 by_cases hne:xs=[]
 ·have hl0:len=0:=by rw[←hlen,hne];rfl
  rw[hne,hl0];exact .nils _ _ _
 ·have hpos:0<xs.length:=List.length_pos_iff.2 hne
  obtain⟨b,m,c,hm,ha,hB,hn1,hn2,hcells⟩:=g4 (by omega)
  have he:∀x∈xs,x.cells.length=gA sh:=fun x hx=>nC (g2 x (JH (hr ▸ hx)))
  have hcell:∀(j:Nat) (y:PV),(xs.flatMap PV.cells)[j]?=some y→∃v,c[off*gA sh+j]?=some v∧RPV (imm h μ w) y v:=by
   intro j y hy;obtain⟨x,h5,h6,h8,h7⟩:=zG he hy;rw[hr]at h5;have h9:=QT h5
   have h10:=hcells _ _ x y h9.2 h6
   rw[show(off+j / gA sh)*gA sh+j%gA sh=off*gA sh+j by rw[Nat.add_mul];omega]at h10
   exact h10
  subst ha;have key:RPV (imm (h.take n) (μ.take n) w) (.sl sh xs) (.slice (some ⟨b,off*gA sh,none⟩) xs.length cap):=by
   refine .sl sh xs b (off*gA sh) cap (fun j=>(c[off*gA sh+j]?).getD undef) hne (by omega) (fun x hx=>g2 x (JH (hr ▸ hx))) (fun j y hy=>?_) (fun j y hy=>?_)
   ·obtain⟨v,h5,h6⟩:=hcell j y hy
    refine LD.2 ⟨?_,by rw[wD hB,h5];simp [h5]⟩
    rintro⟨i,n',h8,h9⟩
    rw[List.getElem?_take]at h8;split at h8
    ·have:=H.distinct i id b n' m h8 hm
     omega
    ·cases h8
   ·obtain⟨v,h5,h6⟩:=hcell j y hy
    have:(c[off*gA sh+j]?).getD undef=v:=by simp [h5]
    simp only[this];exact h6.mono L
  rwa [hlen]at key
theorem z5v (H:HeapRel h μ w){n:Nat}(L:(imm h μ w).le (imm (h.take n) (μ.take n) w)):∀(cs:List AV) {vs:List PV},(∀x∈cs,x.sc=true)→oO n h cs=some vs →
 vs.length=cs.length∧(∀x∈vs,x.sc=true)∧∀(j:Nat) (y:AV) (z:PV) (v:Value),cs[j]?=some y→vs[j]?=some z→RAV (imm h μ w) h μ y v→RPV (imm (h.take n) (μ.take n) w) z v
 | [],vs,_,e=>by
  simp [oO]at e;subst e;exact⟨rfl,by simp,fun j y z v hy=>by simp at hy⟩
 | a::r,vs,hs,e=>by
  simp only[oO]at e;split at e;case h_2=>cases e
  rename_i x hx;simp only[Option.map_eq_some_iff]at e;obtain⟨xs,h1,rfl⟩:=e;obtain⟨q1,q2,q3⟩:=z5v H L r (fun x hx=>hs x (by simp [hx])) h1
  have hsa:=hs a (by simp)
  have key:x.sc=true∧∀v,RAV (imm h μ w) h μ a v→RPV (imm (h.take n) (μ.take n) w) x v:=by
   unfold rd0 at hx;split at hx
   ·injection hx with hx;subst hx;exact⟨hsa,fun v R=>R.p_inv.mono L⟩
   ·injection hx with hx;subst hx;exact⟨rfl,fun v R=>by obtain⟨a,rfl⟩:=JL R;exact .nils _ _ _⟩
   ·injection hx with hx;subst hx;exact⟨rfl,fun v R=>by cases R;exact .nilp⟩
   ·split at hx
    ·rename_i hn
     simp only[Option.map_eq_some_iff]at hx;obtain⟨⟨sh,ys⟩,h1,rfl⟩:=hx;exact⟨rfl,fun v R=>z4X H L R h1 hn⟩
    ·cases hx
   ·cases hx
  refine⟨by simp [q1],fun y hy=>?_,fun j y z v hy hz R=>?_⟩
  ·rcases List.mem_cons.1 hy with rfl|hy
   ·exact key.1
   ·exact q2 y hy
  ·cases j with
   | zero=>simp at hy hz;subst hy;subst hz;exact key.2 v R
   | succ j=>exact q3 j y z v (by simpa using hy) (by simpa using hz) R
theorem z9f (H:HeapRel h μ w){n:Nat}(L:(imm h μ w).le (imm (h.take n) (μ.take n) w)){t id g:Nat}{x:Value}{u:AV}(R:RAV (imm h μ w) h μ (.bt 3 t id g) x)(hr:rdA n h id g=some u)
 (hn:n≤id):RAV (imm (h.take n) (μ.take n) w) (h.take n) (μ.take n) u x:=by
 unfold rdA at hr;split at hr;case h_2=>cases hr
 rename_i sh cs ho;split at hr;case isFalse=>cases hr
 rename_i hg;simp only[Option.map_eq_some_iff]at hr;obtain⟨vs,h1,rfl⟩:=hr;cases R with|bt3 _ _ _ a cap o m hl ho' hm hv=>
 rw[ho]at ho';injection ho' with ho'
 obtain⟨hv1,hv2⟩:=hv sh cs ho'.symm;have hO:=hv2 hg
 obtain⟨k1,k2⟩:=H.obj id _ m ho hm;obtain⟨q1,q2,q3⟩:=z5v H L cs k1 h1;obtain⟨s1,s2,s3⟩:=z1A (sh:=sh) (g:=g) (vs:=vs) (by rw[q1,hg]) q2
 by_cases hz:g=0
 ·subst hz
  have hxs:NC sh 0 vs=[]:=List.length_eq_zero_iff.1 s1
  rw[hxs];exact .p _ _ (.nils _ _ _)
 ·have hm2:∃b k c,m=some (b,k)∧a=some ⟨b,0,none⟩∧YA w b k c∧∀(j:Nat) (x:AV),cs[j]?=some x→∃v,c[j]?=some v∧RAV (imm h μ w) h μ x v:=by
   cases m with
   | none=>simp [CE]at hO;omega
   | some m=>
    obtain⟨b,k⟩:=m;obtain⟨c,c1,c2,c3⟩:=k2;rcases hO with q|q
    ·omega
    ·exact⟨b,k,c,rfl,by rw[q.1,Nat.zero_mul],c1,c3⟩
  obtain⟨b,k,c,rfl,rfl,hB,hcells⟩:=hm2;have he:∀x∈NC sh g vs,x.cells.length=gA sh:=fun x hx=>nC (s2 x hx)
  have hcell:∀(j:Nat) (y:PV),((NC sh g vs).flatMap PV.cells)[j]?=some y→∃v,c[j]?=some v∧RPV (imm (h.take n) (μ.take n) w) y v:=by
   intro j y hy;obtain⟨x,h5,h6,h8,h7⟩:=zG he hy;have h9:=s3 _ _ x y h5 h6
   have hj:j / gA sh*gA sh+j%gA sh=j:=Nat.div_add_mod' j (gA sh)
   rw[hj]at h9;have hlt:j<cs.length:=by have:=xA h9;omega
   obtain⟨v,v1,v2⟩:=hcells j cs[j] (List.getElem?_eq_getElem hlt);exact⟨v,v1,q3 j cs[j] y v (List.getElem?_eq_getElem hlt) h9 v2⟩
  have key:RPV (imm (h.take n) (μ.take n) w) (.sl sh (NC sh g vs)) (.slice (some ⟨b,0,none⟩) (NC sh g vs).length cap):=by
   refine .sl sh _ b 0 cap (fun j=>(c[j]?).getD undef) (fun e=>hz (by rw[←s1,e];rfl)) (by rw[s1];exact hl) s2 (fun j y hy=>?_) (fun j y hy=>?_)
   ·obtain⟨v,h5,h6⟩:=hcell j y hy
    refine LD.2 ⟨?_,by rw[wD hB,Nat.zero_add,h5];simp [h5]⟩
    rintro⟨i,n',h8,h9⟩
    rw[List.getElem?_take]at h8;split at h8
    ·have:=H.distinct i id b n' k h8 hm
     omega
    ·cases h8
   ·obtain⟨v,h5,h6⟩:=hcell j y hy
    have:(c[j]?).getD undef=v:=by simp [h5]
    simp only[this];exact h6
  rw[s1]at key;exact .p _ _ key
mutual
theorem z5z (H:HeapRel h μ w){n:Nat}(L:(imm h μ w).le (imm (h.take n) (μ.take n) w)):∀(v:AV) {u:AV} {x:Value},RAV (imm h μ w) h μ v x→aB n h v=some u→u.top≤n→RAV (imm (h.take n) (μ.take n) w) (h.take n) (μ.take n) u x
 | .own id g off len,u,x,R,hr,ht=>by
  simp only[aB]at hr;split at hr
  ·rename_i hn
   simp only[Option.map_eq_some_iff]at hr;obtain⟨⟨sh,xs⟩,h1,rfl⟩:=hr;exact .p _ _ (z4X H L R h1 hn)
  ·injection hr with hr;subst hr;exact R.take L ht
 | .sl0 sh,u,x,R,hr,ht=>by
  simp only[aB]at hr;injection hr with hr
  subst hr;obtain⟨a,rfl⟩:=JL R;exact .p _ _ (.nils _ _ _)
 | .agg cs,u,x,R,hr,ht=>by
  simp only[aB,Option.map_eq_some_iff]at hr;obtain⟨us,h1,rfl⟩:=hr;cases R with|agg _ xs hl hrr=>
  have htop:AV.tops us≤n:=by
   unfold mkA at ht;split at ht
   ·rename_i ps hp
    have:=RL hp;subst this;rw[z6K];omega
   ·simpa [AV.top] using ht
  obtain⟨q1,q2⟩:=MZ H L cs hl hrr h1 htop;exact RX q1 q2
 | .tup cs,u,x,R,hr,ht=>by
  simp only[aB,Option.map_eq_some_iff]at hr;obtain⟨us,h1,rfl⟩:=hr;cases R with|tup _ xs hl hrr=>
  obtain⟨q1,q2⟩:=MZ H L cs hl hrr h1 (by simpa [AV.top] using ht)
  exact .tup us xs q1 q2
 | .p v,u,x,R,hr,ht=>by simp only[aB]at hr;injection hr with hr;subst hr;exact R.take L ht
 | .ref _ _,u,x,R,hr,ht=>by simp only[aB]at hr;injection hr with hr;subst hr;exact R.take L ht
 | .rref _ _ _ _,u,x,R,hr,ht=>by simp only[aB]at hr;injection hr with hr;subst hr;exact R.take L ht
 | .vp _,u,x,R,hr,ht=>by simp only[aB]at hr;injection hr with hr;subst hr;exact R.take L ht
 | .nilp,u,x,R,hr,ht=>by simp only[aB]at hr;injection hr with hr;subst hr;exact R.take L ht
 | .nilm,u,x,R,hr,ht=>by simp only[aB]at hr;injection hr with hr;subst hr;exact R.take L ht
 | .nilf,u,x,R,hr,ht=>by simp only[aB]at hr;injection hr with hr;subst hr;exact R.take L ht
 | .nili,u,x,R,hr,ht=>by simp only[aB]at hr;injection hr with hr;subst hr;exact R.take L ht
 | .ifc,u,x,R,hr,ht=>by simp only[aB]at hr;injection hr with hr;subst hr;exact R.take L ht
 | .mp _,u,x,R,hr,ht=>by simp only[aB]at hr;injection hr with hr;subst hr;exact R.take L ht
 | .it _,u,x,R,hr,ht=>by simp only[aB]at hr;injection hr with hr;subst hr;exact R.take L ht
 | .fn _ _,u,x,R,hr,ht=>by simp only[aB]at hr;injection hr with hr;subst hr;exact R.take L ht
 | .anyb,u,x,R,hr,ht=>by simp only[aB]at hr;injection hr with hr;subst hr;exact R.take L ht
 | .skp,u,x,R,hr,ht=>by simp only[aB]at hr;injection hr with hr;subst hr;exact R.take L ht
 | .und,u,x,R,hr,ht=>by simp only[aB]at hr;injection hr with hr;subst hr;exact R.take L ht
 | .anyp,u,x,R,hr,ht=>by simp only[aB]at hr;injection hr with hr;subst hr;exact R.take L ht
 | .bt k t id g,u,x,R,hr,ht=>by
  simp only[aB]at hr;cases hk:(Nat.beq k 3&&decide (n≤id)) with
  | false=>rw[hk]at hr;injection hr with hr;subst hr;exact R.take L ht
  | true=>
   rw[hk]at hr;simp only[Bool.and_eq_true,decide_eq_true_eq]at hk;have hk1:=Nat.eq_of_beq_eq_true hk.1
   subst hk1;exact z9f H L R hr hk.2
theorem MZ (H:HeapRel h μ w){n:Nat}(L:(imm h μ w).le (imm (h.take n) (μ.take n) w)):∀(cs:List AV) {us:List AV} {xs:List Value},cs.length=xs.length →
 (∀(j:Nat) (y:AV) (v:Value),cs[j]?=some y→xs[j]?=some v→RAV (imm h μ w) h μ y v)→sF n h cs=some us→AV.tops us≤n →
 us.length=xs.length∧∀(j:Nat) (y:AV) (v:Value),us[j]?=some y→xs[j]?=some v→RAV (imm (h.take n) (μ.take n) w) (h.take n) (μ.take n) y v
 | [],us,xs,hl,hr,e,ht=>by
  simp only[sF]at e;injection e with e
  subst e;exact⟨hl,fun j y v h1 _=>by simp at h1⟩
 | c::r,us,xs,hl,hr,e,ht=>by
  cases xs with
  | nil=>simp at hl
  | cons x xs=>
   simp only[sF]at e;split at e
   ·rename_i u hu
    simp only[Option.map_eq_some_iff]at e;obtain⟨l,h1,rfl⟩:=e;simp only[AV.tops]at ht;have k1:=z5z H L c (hr 0 c x rfl rfl) hu (by omega)
    obtain⟨k2,k3⟩:=MZ H L r (xs:=xs) (by simpa using hl) (fun j y v h1 h2=>hr (j+1) y v (by simpa using h1) (by simpa using h2)) h1 (by omega)
    refine⟨by simp [k2],fun j y v hy hv=>?_⟩
    cases j with
    | zero=>simp at hy hv;subst hy;subst hv;exact k1
    | succ j=>exact k3 j y v (by simpa using hy) (by simpa using hv)
   ·cases e
end
theorem ZS:∀ (asv:List AV) {h:aA} {vs:List Value} {asv':List AV} {h1:aA},HeapRel h μ w→asv.length=vs.length →
 (∀(j:Nat) (y:AV) (v:Value),asv[j]?=some y→vs[j]?=some v→RAV (imm h μ w) h μ y v)→oA h asv=some (asv',h1) →
 SE h μ w h1∧asv'.length=vs.length∧∀(j:Nat) (y:AV) (v:Value),asv'[j]?=some y→vs[j]?=some v→RAV (imm h1 μ w) h1 μ y v
 | [],h,vs,asv',h1,H,hl,hr,e=>by
  simp only[oA,Option.some.injEq,Prod.mk.injEq]at e;obtain⟨rfl,rfl⟩:=e;exact⟨⟨H,Evo.refl _ _ _,rA.refl _ _⟩,hl,fun j y v hy=>by simp at hy⟩
 | a::r,h,vs,asv',h1,H,hl,hr,e=>by
  cases vs with
  | nil=>simp at hl
  | cons x vs=>
   have step:∀{h2:aA} {u:AV},SE h μ w h2→RAV (imm h2 μ w) h2 μ u x→(oA h2 r).map (fun y=>(u::y.1,y.2))=some (asv',h1) →
    SE h μ w h1∧asv'.length=(x::vs).length∧∀(j:Nat) (y:AV) (v:Value),asv'[j]?=some y→(x::vs)[j]?=some v→RAV (imm h1 μ w) h1 μ y v:=by
    intro h2 u ⟨a1,a2,a3⟩ hu e;simp only[Option.map_eq_some_iff,Prod.mk.injEq]at e;obtain⟨⟨l,h3⟩,hp,rfl,rfl⟩:=e;obtain⟨⟨b1,b2,b3⟩,b4,b5⟩:=ZS r a1 (vs:=vs) (by simpa using hl) (fun j y v hy hv=>(hr (j+1) y v (by simpa using hy) (by simpa using hv)).evo a2) hp
    refine⟨⟨b1,a2.trans b2,by simpa using rA.trans a3 b3⟩,by simp [b4],fun j y v hy hv=>?_⟩
    cases j with
    | zero=>simp at hy hv;subst hy;subst hv;exact hu.evo b2
    | succ j=>exact b5 j y v (by simpa using hy) (by simpa using hv)
   have h0:=hr 0 a x rfl rfl
   cases a;case own id g off len=>
    simp only[oA]at e;split at e
    ·rename_i z hz
     obtain⟨sh,xs⟩:=z;obtain⟨k1,k2,k3,k4⟩:=WN H h0 hz;exact step ⟨k1,k2,k3⟩ (.p _ _ k4) e
    ·cases e
   case agg cs=>
    simp only[oA]at e;split at e
    ·rename_i pv h2 hp
     obtain⟨k1,k2⟩:=YS _ H h0 hp;exact step k1 (.p _ _ k2) e
    ·cases e
   case sl0 sh=>
    simp only[oA]at e;obtain⟨b,rfl⟩:=JL h0;exact step ⟨H,Evo.refl _ _ _,rA.refl _ _⟩ (.p _ _ (.nils _ _ _)) e
   all_goals
    simp only[oA]at e;exact step ⟨H,Evo.refl _ _ _,rA.refl _ _⟩ h0 e
end Go.Am
end
section
/- The abstract machine,part 23: a call that ends well here ends well in the model. -/
set_option linter.unusedSimpArgs false
set_option linter.unusedVariables false
set_option maxHeartbeats 1000000
namespace Go.Am
variable {h h':aA} {μ μ':Mu} {w w':World} {P:Program} {M M':Mem}
variable {gl:Nat→Option PV} {nt:Nat} {M0:Mem} {h0:aA} {μ0:Mu} {e:List (Nat × AV)} {x:Esc} {a:Act}
theorem z3G {F:AFun}{fn:Func}{s:St}{K:jA}(R:Rel gl nt M0 h0 μ0 s.env s.h s.esc a w μ)(Hs:∀ id,yF h0 id≤h0.length)(hc:jE P F.results fn.results.toList=true)(H:fin F h0.length s K) :
 ∃u,(results fn a.tmps).run P w = .ok u w∧∃v h' x μ',K v h' x∧RAV (imm h' μ' w) h' μ' v u∧HeapRel h' μ' w∧Evo M0 h0 μ0 (imm h' μ' w) h' μ'∧rA h0 h' x:=by
 unfold fin at H;split at H
 ·rename_i vs hvs
  obtain⟨u,hu,hR⟩:=zjF R.heap R.env hc hvs;refine⟨u,hu,?_⟩;split at H
  ·dsimp only at H
   split at H
   ·rename_i hcl
    have hn:=qP s.esc.length s.esc (max h0.length (jB vs).top)
    generalize IB s.esc.length s.esc (max h0.length (jB vs).top)=n at H hcl hn;obtain⟨q1,q2,q3,q4⟩:=z0n Hs R.heap R.evo R.esc (by omega) hcl
    exact⟨_,_,_,μ.take n,H,hR.take q2 (by omega),q1,q3,q4⟩
   ·exact⟨_,_,_,μ,H,hR,R.heap,R.evo,R.esc⟩
  ·split at H
   ·rename_i v0 hv0
    dsimp only at H;split at H
    ·rename_i hcl
     have hn:=qP s.esc.length s.esc (max h0.length v0.top)
     generalize IB s.esc.length s.esc (max h0.length v0.top)=n at H hcl hn;split at H
     ·rename_i v hv
      obtain⟨q1,q2,q3,q4⟩:=z0n Hs R.heap R.evo R.esc (by omega) hcl
      exact⟨_,_,_,μ.take n,H.2,z5z R.heap q2 _ hR hv H.1,q1,q3,q4⟩
     ·exact H.elim
    ·exact⟨_,_,_,μ,H,hR,R.heap,R.evo,R.esc⟩
   ·exact H.elim
 ·exact H.elim
def yV (P:Program)(f:Nat)(F:AFun):Bool:=match P.funcs[f]? with
 | some fn=>match fn.body with
  | some c=>UB P fn.ntmps F.body c&&jE P F.results fn.results.toList&&fn.name != "runtime.NumGoroutine"
  | none=>false
 | none=>false
theorem dX {f:Nat}{fn:Func}{c:Code}(hf:P.funcs[f]?=some fn)(hb:fn.body=some c)(hn:fn.name ≠ "runtime.NumGoroutine")(args:Array Value)(w:World):(callFunc f args).run P w = .ok (.enter f args) w:=by
 unfold callFunc;simp [hf,hb,hn]
theorem zdE {asv:List AV}{t:Nat}:kA (enter asv) t=(asv[t]?).getD .und:=by
 have key:∀(l:List AV) (k t:Nat),kA ((l.zipIdx k).map fun y=>(y.2,y.1)) t=if t<k then .und else(l[t-k]?).getD .und:=by
  intro l;induction l with
  | nil=>intro k t;simp [kA]
  | cons v r ih=>
   intro k t;simp only[List.zipIdx_cons,List.map_cons,kA];by_cases hk:k=t
   ·subst hk;simp
   ·rw[if_neg hk,ih]
    by_cases h1:t<k
    ·rw[if_pos h1,if_pos (by omega)]
    ·rw[if_neg h1,if_neg (by omega),show t-k=(t-(k+1))+1 by omega]
     simp
 have:=key asv 0 t;simpa [enter] using this
def LG (M:Mem)(w w':World):Mem:=⟨fun b o=>if b<w.heap.size then M.c b o else w'.cell? ⟨b,o,none⟩,fun _=>none,some (zed w'),fun _=>none⟩
def z0B (P:Program)(f:Nat)(vs:List PV)(r:PV):Prop:=∀(M:Mem) (w:World) (us:List Value),(∀b o v,M.c b o=some v→w.cell? ⟨b,o,none⟩=some v)→vs.length=us.length →
 (∀(j:Nat) (y:PV) (v:Value),vs[j]?=some y→us[j]?=some v→RPV M y v) →
 ∃x w',(callFunc f us.toArray).run P w = .ok (.value x) w'∧WExt w w'∧RPV (LG M w w') r x
structure Fits (P:Program) (X:Ctx):Prop where
 mixed:P.follows .mixedOrders=true
 fn:∀f F,X.fn f=some F→yV P f F=true
 ext:∀f vs r,X.fn f=none→X.ext f vs=some r→z0B P f vs r
 ex2:∀f asv h v h' x,X.fn f=none→X.ex2 f asv h=some (v,h',x)→AC P X.gl f asv h fun v1 h1 x1=>v1=v∧h1=h'∧x1=x
theorem zla {X:Ctx}(HX:Fits P X){f:Nat}{asv:List AV}{h:aA}{K:jA}(H:jC X (AC P X.gl) f asv h K):AC P X.gl f asv h K:=by
 intro μ w vs Hh Hg hl hr;unfold jC at H;split at H
 ·rename_i F hF
  have H:=zdX (AC.mono P X.gl) H
  have hck:=HX.fn f F hF
  unfold yV at hck;split at hck
  ·rename_i fn hfn
   split at hck
   ·rename_i c hb
    simp only[Bool.and_eq_true,bne_iff_ne,ne_eq]at hck;obtain⟨⟨c1,c2⟩,c3⟩:=hck;refine .inl ⟨fun w=>dX hfn hb c3 _ w,calls_of_wp hfn hb ?_⟩
    unfold BC at H;have body:∀{asv':List AV} {h1:aA},SE h μ w h1→asv'.length=vs.length→(∀(j:Nat) (y:AV) (v:Value),asv'[j]?=some y→vs[j]?=some v→RAV (imm h1 μ w) h1 μ y v) →
     (asv'.length=F.nparams∧AW (AC P X.gl) X.gl F.body ⟨enter asv',h1,[]⟩ fun e s=>match e with
      | .exit _=>False
      | _=>fin F h.length s K)→Code.wp P c (bodyPost P fn fun
       | .returned r,w'=>∃v h' x μ',K v h' x∧RAV (imm h' μ' w') h' μ' v r∧HeapRel h' μ' w'∧Evo (imm h μ w) h μ (imm h' μ' w') h' μ'∧rA h h' x
       | _,_=>False) { tmps:=vs.toArray++Array.replicate (fn.ntmps-vs.toArray.size) undef,defers:=[] } w:=by
     intro asv' h1 ⟨a1,a2,a3⟩ hl' hr' ⟨_,hA⟩;refine TD HX.mixed (nt:=fn.ntmps) (M0:=imm h μ w) (h0:=h) (μ0:=μ) (μ:=μ) (fun _ _ _ _ h=>h) F.body c1 hA ⟨a1,fun t=>?_,Hg.mono a2.le,a2,a3,?_,rfl⟩ (fun ex s' a' w' μ' hk R'=>?_)
     ·dsimp only
      rw[zdE];cases ht:asv'[t]? with
      | none=>exact .und _
      | some y=>
       have hlt:t<vs.length:=by rw[←hl'];exact xA ht
       have:(vs.toArray++Array.replicate (fn.ntmps-vs.toArray.size) undef).getD t undef=vs[t]:=by
        simp [Array.getD,hlt];intro hh;omega
       rw[this];exact hr' t y _ ht (List.getElem?_eq_getElem hlt)
     ·simp;omega
     ·cases ex with
      | normal=>
       obtain⟨u,q1,q2⟩:=z3G R' (fun id=>z0o Hh id) c2 hk
       exact⟨R'.defers,u,q1,q2⟩
      | exit i=>exact hk.elim
      | ret=>
       obtain⟨u,q1,q2⟩:=z3G R' (fun id=>z0o Hh id) c2 hk
       exact⟨R'.defers,u,q1,q2⟩
    split at H
    ·rename_i asv' h1 hp
     split at hp
     ·injection hp with hp
      injection hp with e1 e2
      subst e1;subst e2
      exact body ⟨Hh,Evo.refl _ _ _,rA.refl _ _⟩ hl hr H
     ·obtain⟨q1,q2,q3⟩:=ZS asv Hh hl hr hp
      exact body q1 q2 q3 H
    ·exact H.elim
   ·cases hck
  ·cases hck
 ·rename_i hF
  split at H
  ·rename_i hx2
   exact AC.mono P X.gl _ _ _ _ _ (fun v1 h1' x1 hv=>by obtain⟨rfl,rfl,rfl⟩:=hv;exact H) (HX.ex2 f asv h _ _ _ hF hx2) μ w vs Hh Hg hl hr
  ·rename_i hx2
   split at H
   ·rename_i asv' h1 hp
    split at H
    ·rename_i ps hps
     split at H
     ·rename_i r hrr
      obtain⟨q1,q2,q3⟩:=ZS asv Hh hl hr hp;have hm:=RL hps
      subst hm;obtain⟨u,w',k1,g1,g2⟩:=HX.ext f ps r hF hrr (imm h1 μ w) w vs (fun b o v hv=>(LD.1 hv).2) (by simpa using q2) (fun j y v hy hv=>(q3 j (.p y) v (by simp [hy]) hv).p_inv)
      obtain⟨n1,n2⟩:=q1.1.ext g1;have L:(LG (imm h1 μ w) w w').le (imm h1 μ w'):=by
       refine⟨fun b o v hv=>?_,fun b o hv=>?_,rfl,fun _ _ h=>by cases h⟩
       ·dsimp only[LG]at hv
        split at hv
        ·exact n2.le.c _ _ _ hv
        ·rename_i hb
         exact LD.2 ⟨fun hO=>hb (WX q1.1 hO),hv⟩
       ·dsimp only[LG]at hv
        cases hv
      exact .inr ⟨_,_,_,_,_,μ,k1,H,.p _ _ (g2.mono L),n1,q1.2.1.trans n2,q1.2.2⟩
     ·exact H.elim
    ·exact H.elim
   ·exact H.elim
theorem z11 {X:Ctx}(HX:Fits P X){f:Nat}{asv:List AV}{h:aA}{K:jA}(H:bA X f asv h K):AC P X.gl f asv h K:=
 H (AC P X.gl) (AC.mono P X.gl) (fun f a h K hs=>zla HX hs)
end Go.Am
end
section
/- The abstract machine,part 24: rules by which its code is computed on what is only partly known. -/
set_option linter.unusedSimpArgs false
set_option linter.unusedVariables false
namespace Go.Am
def LI (o:Option (AV × aA × Esc))(f:AV→aA→Esc→Prop):Prop:=match o with
 | some y=>f y.1 y.2.1 y.2.2
 | none=>False
def fM (v:AV)(A B:Prop):Prop:=match v with
 | .p (.bool t)=>match t with
  | true=>A
  | false=>B
 | .anyb=>A∧B
 | _=>False
def mD (v:AV)(A B:Prop):Prop:=match v with
 | .p (.bool t)=>match t with
  | true=>A
  | false=>B
 | _=>False
def AE (v:AV)(b:Bool)(A B:Prop):Prop:=match v with
 | .p (.bool c)=>match c==b with
  | true=>A
  | false=>B
 | .skp=>B
 | _=>False
def finK (F:AFun)(b:Nat)(K:jA)(e:Ex)(s:St):Prop:=match e with
 | .exit _=>False
 | _=>fin F b s K
def z60 (n:Nat)(x:Esc)(K:Ex→St→Prop)(e:Ex)(s:St):Prop:=K e (PD n x s)
def AO.plain:AO→Bool
 | .call _ _ | .callv _ _ | .mnext _ _=>false
 | .mv _=>true
 | .pick _ _ _=>true
 | .alloc _=>true
 | .box _=>true
 | .build _ _=>true
 | .bsl _ _ _ _ _=>true
 | .load _ _=>true
 | .store _ _ _=>true
 | .nilchk _=>true
 | .bin _ _ _=>true
 | .eqa _ _ _ _=>true
 | .isnil _ _ _=>true
 | .mkif _=>true
 | .un _ _=>true
 | .conv _ _=>true
 | .mkfn _ _=>true
 | .mkmap=>true
 | .mksl _ _ _ _=>true
 | .slice _ _ _ _ _=>true
 | .slstr _ _ _=>true
 | .faddr _ _ _=>true
 | .field _ _ _=>true
 | .iaddr _ _ _=>true
 | .iaddra _ _ _ _=>true
 | .idxa _ _ _ _=>true
 | .idxs _ _=>true
 | .look _ _ _ _ _=>true
 | .mupd _ _ _ _=>true
 | .ment _ _ _ _=>true
 | .estore _ _ _=>true
 | .mdel _ _ _=>true
 | .ext _ _=>true
 | .len _=>true
 | .lens _=>true
 | .lenm _=>true
 | .app _ _ _=>true
 | .copy _ _ _=>true
 | .uns _ _ _=>true
 | .clr _ _ _=>true
 | .mx _=>true
 | .mn _=>true
 | .mrange _=>true
 | .mentry _=>true
 | .new0 _=>true
variable {C:Hd} {gl:Nat→Option PV} {e:List (Nat × AV)} {h:aA} {x:Esc} {K:Ex→St→Prop} {L:List (Nat × AV)→aA→Esc→Prop} {s:St}
theorem z61 {n:Nat}{y:Esc}{ex:Ex}:z60 n y K ex s=K ex (PD n y s):=(rfl)
def tJ (C:Hd)(gl:Nat→Option PV)(r:List AOp)(d:Option Nat)(e:List (Nat × AV))(x:Esc)(L:List (Nat × AV)→aA→Esc→Prop)(v:AV)(h':aA)(x':Esc):Prop:=UA C gl r (put d v e) h' (x'++x) L
theorem z7t {d:Option Nat}{op:AO}{r:List AOp}(hp:op.plain=true):UA C gl (⟨d,none,op⟩::r) e h x L=LI (aop op (Opd.ev gl e) h) (tJ C gl r d e x L):=by
 cases op <;> first|(cases hp;done)|(simp only[UA,wanted,LI,tJ];split <;> simp_all)
theorem z03 {d:Option Nat}{f:Nat}{args:List Opd}{r:List AOp}:UA C gl (⟨d,none,.call f args⟩::r) e h x L=C f (args.map (Opd.ev gl e)) h (tJ C gl r d e x L):=(rfl)
theorem z7v {d:Option Nat}{g:Option (Nat × Bool)}{op:AO}{r:List AOp}(hw:wanted g e=some true):UA C gl (⟨d,g,op⟩::r) e h x L=UA C gl (⟨d,none,op⟩::r) e h x L:=by
 rw[UA,UA];have h2:wanted none e=some true:=(rfl)
 simp only[hw,h2]
theorem z05 {d:Option Nat}{g:Option (Nat × Bool)}{op:AO}{r:List AOp}(hw:wanted g e=some false):UA C gl (⟨d,g,op⟩::r) e h x L=UA C gl r (put d .skp e) h x L:=by
 rw[UA];simp only[hw]
theorem z7u {d:Option Nat}{g:Option (Nat × Bool)}{op:AO}{r:List AOp}(hw:wanted g e=none):UA C gl (⟨d,g,op⟩::r) e h x L=False:=by
 rw[UA];simp only[hw]
theorem z06 {d:Option Nat}{t:Nat}{b:Bool}{op:AO}{r:List AOp}:UA C gl (⟨d,some (t,b),op⟩::r) e h x L=AE (kA e t) b (UA C gl (⟨d,none,op⟩::r) e h x L) (UA C gl r (put d .skp e) h x L):=by
 have key:∀v,kA e t=v→UA C gl (⟨d,some (t,b),op⟩::r) e h x L=AE v b (UA C gl (⟨d,none,op⟩::r) e h x L) (UA C gl r (put d .skp e) h x L):=by
  intro v hv;unfold AE;split
  ·rename_i c
   split
   ·rename_i hcb;exact z7v (by simp [wanted,hv,hcb])
   ·rename_i hcb;exact z05 (by simp [wanted,hv,hcb])
  ·exact z05 (by simp [wanted,hv])
  ·rename_i h1 h2
   refine z7u ?_;simp only[wanted,hv]
 exact key _ rfl
theorem z1K {t:Bool}{A B:Prop}:mD (.p (.bool t)) A B=if t=true then A else B:=by cases t <;> simp [mD]
theorem z1M {A B:Prop}:mD (.p (.bool true)) A B=A:=(rfl)
theorem z1L {A B:Prop}:mD (.p (.bool false)) A B=B:=(rfl)
theorem zlH {t:Bool}{A B:Prop}:AE (.p (.bool t)) true A B=if t=true then A else B:=by cases t <;> simp [AE]
theorem zlG {t:Bool}{A B:Prop}:AE (.p (.bool t)) false A B=if t=true then B else A:=by cases t <;> simp [AE]
theorem zbj {v v':AV}{A B:Prop}(hv:v=v'):mD v A B=mD v' A B:=by rw[hv]
theorem z0K {X:Ctx}{f:Nat}{F:AFun}{a:List AV}{h:aA}{P:jA}(hf:X.fn f=some F)(hd:F.isDet=false):bA X f a h P=BC (bA X) X.gl F a h P:=by
 rw[propext z0y];unfold jC;rw[hf];simp only[KD,hd]
theorem z7C {X:Ctx}{f:Nat}{F:AFun}{a:List AV}{h:aA}{P:jA}(hf:X.fn f=some F)(hd:F.isDet=true):bA X f a h P = ∃v h' x,P v h' x∧BC (bA X) X.gl F a h fun v1 h1 x1=>v1=v∧h1=h'∧x1=x:=by
 rw[propext z0y];unfold jC;rw[hf];simp only[KD,hd]
theorem SQ {A B:AV→aA→Esc→Prop}(h:∀ v h' x,A v h' x=B v h' x):(∃v h' x,A v h' x) = ∃v h' x,B v h' x:=by
 simp only[h]
theorem z0O {F:AFun}{a asv:List AV}{h h1:aA}{P:jA}(hr:F.byref=false)(hp:oA h a=some (asv,h1))(hl:asv.length=F.nparams) :
 BC C gl F a h P=AW C gl F.body ⟨enter asv,h1,[]⟩ (finK F h.length P):=by
 unfold BC;rw[hr];simp only[Bool.false_eq_true,if_false,hp,hl,true_and];congr 1
theorem z8P {F:AFun}{asv:List AV}{h:aA}{P:jA}(hr:F.byref=true)(hl:asv.length=F.nparams) :
 BC C gl F asv h P=AW C gl F.body ⟨enter asv,h,[]⟩ (finK F h.length P):=by
 unfold BC;rw[hr];simp only[if_true,hl,true_and];congr 1
def doK (C:Hd)(gl:Nat→Option PV)(o:AOp)(e:List (Nat × AV))(h:aA)(R:AV→aA→Esc→Prop):Prop:=∃v h' y,ADo C gl o e h v h' y∧R v h' y
def UE (C:Hd)(f:Nat)(a:List AV)(h:aA)(R:AV→aA→Esc→Prop):Prop:=∃v h' y,C f a h (fun v1 h1 x1=>v1=v∧h1=h'∧x1=y)∧R v h' y
def CQ (C:Hd)(gl:Nat→Option PV)(o:DOp)(r:List DOp)(dn:FC)(hs:List aA)(e:List (Nat × AV))(h:aA)(x:Esc)(L:List (Nat × AV)→aA→Esc→Prop)(v:AV)(h':aA)(y:Esc):Prop:=
 (o.eff=false→h'=h∧y=[])∧(∀k∈o.early,∃g,hs[k]?=some g∧ADo C gl o.op (CA (some o.rd) e) g v g []) ∧
  (∀j∈o.again,∃q,dn[j]?=some q∧ADo C gl q.1 q.2.1 h' q.2.2 h' [])∧eD C gl r (dn++[(o.op,CA (some o.rd) e,v)]) (hs++[h]) (put o.op.dst v e) h' (y++x) L
theorem z0z {o:DOp}{r:List DOp}{dn:FC}{hs:List aA}:eD C gl (o::r) dn hs e h x L=doK C gl o.op (CA (some o.rd) e) h (CQ C gl o r dn hs e h x L):=(rfl)
variable {R:AV→aA→Esc→Prop}
theorem ex3 {v0:AV}{h0:aA}{y0:Esc}:(∃v h y,(v=v0∧h=h0∧y=y0)∧R v h y)=R v0 h0 y0:=
 propext ⟨fun⟨_,_,_,⟨h1,h2,h3⟩,r⟩=>by subst h1;subst h2;subst h3;exact r,fun r=>⟨_,_,_,⟨rfl,rfl,rfl⟩,r⟩⟩
theorem ex3' {v0:AV}{h0:aA}{y0:Esc}:(∃v h y,(v0=v∧h0=h∧y0=y)∧R v h y)=R v0 h0 y0:=
 propext ⟨fun⟨_,_,_,⟨h1,h2,h3⟩,r⟩=>by subst h1;subst h2;subst h3;exact r,fun r=>⟨_,_,_,⟨rfl,rfl,rfl⟩,r⟩⟩
theorem zb0 {d:Option Nat}{op:AO}(hp:op.plain=true):doK C gl ⟨d,none,op⟩ e h R=LI (aop op (Opd.ev gl e) h) R:=by
 have key:∀o:Option (AV×aA×Esc),(∃v h' y,o=some (v,h',y)∧R v h' y)=LI o R:=by
  intro o;cases o with
  | none=>simp [LI]
  | some z=>obtain⟨v,h',y⟩:=z;simp only[Option.some.injEq,Prod.mk.injEq,ex3'];rfl
 rw[←key];unfold doK ADo;cases op <;> first|(cases hp;done)|rfl
theorem z1X {d:Option Nat}{f:Nat}{args:List Opd}:doK C gl ⟨d,none,.call f args⟩ e h R=UE C f (args.map (Opd.ev gl e)) h R:=(rfl)
theorem z1Z {d:Option Nat}{t:Nat}{b:Bool}{op:AO}:doK C gl ⟨d,some (t,b),op⟩ e h R=AE (kA e t) b (doK C gl ⟨d,none,op⟩ e h R) (R .skp h []):=by
 have h2:wanted none e=some true:=(rfl)
 have key:∀v,kA e t=v→doK C gl ⟨d,some (t,b),op⟩ e h R=AE v b (doK C gl ⟨d,none,op⟩ e h R) (R .skp h []):=by
  intro v hv;unfold AE;split
  ·rename_i c
   split
   ·rename_i hcb
    have hw:wanted (some (t,b)) e=some true:=by simp [wanted,hv,hcb]
    unfold doK ADo;simp only[hw,h2]
   ·rename_i hcb
    have hw:wanted (some (t,b)) e=some false:=by simp [wanted,hv,hcb]
    unfold doK ADo;simp only[hw,ex3]
  ·have hw:wanted (some (t,b)) e=some false:=by simp [wanted,hv]
   unfold doK ADo;simp only[hw,ex3]
  ·rename_i h3 h4
   have hw:wanted (some (t,b)) e=none:=by
    simp only[wanted,hv]
   unfold doK ADo;simp only[hw];simp
 exact key _ rfl
theorem zaM {f:Nat}{a a':List AV}{h h':aA}(ha:a=a')(hh:h=h'):UE C f a h R=UE C f a' h' R:=by rw[ha,hh]
theorem z7k {X:Ctx}{f:Nat}{a a':List AV}{h h':aA}{K:jA}(ha:a=a')(hh:h=h'):bA X f a h K=bA X f a' h' K:=by rw[ha,hh]
theorem zb3 {o:DOp}{r:List DOp}{dn:FC}{hs:List aA}{v:AV}{h':aA}{y:Esc}:CQ C gl o r dn hs e h x L v h' y=((o.eff=false→h'=h∧y=[])∧(∀k∈o.early,∃g,hs[k]?=some g∧ADo C gl o.op (CA (some o.rd) e) g v g []) ∧
 (∀j∈o.again,∃q,dn[j]?=some q∧ADo C gl q.1 q.2.1 h' q.2.2 h' [])∧eD C gl r (dn++[(o.op,CA (some o.rd) e,v)]) (hs++[h]) (put o.op.dst v e) h' (y++x) L):=(rfl)
end Go.Am
end
section
/- The abstract machine,part 25: from a call that ends well here tov the model's call on a whole world. -/
set_option linter.unusedSimpArgs false
set_option linter.unusedVariables false
namespace Go.Am
variable {P:Program}
theorem zeo (W:World):HeapRel [] [] W:=⟨rfl,fun id o m h=>by simp at h,fun i j b n n' h=>by simp at h,fun i b n h=>by simp at h⟩
theorem ze4 {W:World}{b:Nat}{o:Go.Obj}(hb:W.heap[b]?=some o):(imm [] [] W).b b=some o:=mH.2 ⟨fun⟨id,n,h⟩=>by simp at h,hb⟩
theorem ze5 {W:World}{b o:Nat}{v:Value}(hb:W.cell? ⟨b,o,none⟩=some v):(imm [] [] W).c b o=some v:=LD.2 ⟨fun⟨id,n,h,_⟩=>by simp at h,hb⟩
theorem z9l {W W':World}{h:aA}{μ:Mu}(E:(imm [] [] W).le (imm h μ W')):RowKit.Below W.heap.size W W':=by
 have hz:zed W'=zed W:=Option.some.inj E.z
 have hb:∀b,b<W.heap.size→W'.heap[b]?=W.heap[b]?:=fun b hb=>by
  have h1:=Array.getElem?_eq_getElem hb
  rw[h1];exact(mH.1 (E.b b _ (ze4 h1))).2
 refine⟨(congrArg World.os hz:(zed W').os=(zed W).os),(congrArg World.tape hz:(zed W').tape=(zed W).tape),(congrArg World.output hz:(zed W').output=(zed W).output),?_,hb⟩;rcases Nat.eq_zero_or_pos W.heap.size with h0|h0
 ·omega
 ·have h1:=hb (W.heap.size-1) (by omega)
  rw[Array.getElem?_eq_getElem (show W.heap.size-1<W.heap.size by omega)]at h1
  have:=(Array.getElem?_eq_some_iff.1 h1).1;omega
theorem zaN {X:Ctx}(HX:Fits P X){f:Nat}{F:AFun}(hF:X.fn f=some F)(args:Array Value)(w:World):(callFunc f args).run P w = .ok (.enter f args) w:=by
 have hck:=HX.fn f F hF
 unfold yV at hck;split at hck
 ·rename_i fn hfn
  split at hck
  ·rename_i c hb
   simp only[Bool.and_eq_true,bne_iff_ne,ne_eq]at hck;exact dX hfn hb hck.2 _ w
  ·cases hck
 ·cases hck
theorem z12 {X:Ctx}(HX:Fits P X){f:Nat}{F:AFun}(hF:X.fn f=some F){asv:List AV}{K:jA}(H:bA X f asv [] K){W:World}{vs:List Value}(hG:QD X.gl (imm [] [] W))(hl:asv.length=vs.length)
 (hr:∀(j:Nat) (y:AV) (v:Value),asv[j]?=some y→vs[j]?=some v→RAV (imm [] [] W) [] [] y v) :
 Calls P f vs.toArray W fun
  | .returned r,W'=>(∃v h x μ,K v h x∧RAV (imm h μ W') h μ v r)∧RowKit.Below W.heap.size W W'
  | _,_=>False:=by
 rcases z11 HX H [] W vs (zeo W) hG hl hr with⟨_,q⟩|⟨r,w',_,_,_,_,q,_⟩
 case inr=>rw[zaN HX hF]at q;cases q
 refine q.mono fun e W' he=>?_
 cases e with
 | returned r=>
  obtain⟨v,h',x,μ',k1,k2,k3,k4,k5⟩:=he;exact⟨⟨v,h',x,μ',k1,k2⟩,z9l k4.le⟩
 | panicked _=>exact he
 | outgrown=>exact he
def XS (zs:List Int):AV:=.p (.sl none (zs.map fun n=>.int .i64 n))
theorem zaT (W:World):RAV (imm [] [] W) [] [] (XS []) (.slice none 0 0):=.p _ _ (.nils _ _ _)
theorem zaS {W:World}{a:Addr}{len cap:Nat}{zs:List Int}(hs:a.spot=none)(hl:len≤cap)(hz:len≤zs.length)(hc:∀ i,i<zs.length→W.cell? (a.add i)=some (.int .i64 (zs.getD i 0))) :
 RAV (imm [] [] W) [] [] (XS (zs.take len)) (.slice (some a) len cap):=by
 obtain⟨b,o,s⟩:=a;simp only at hs;subst hs;refine .p _ _ ?_;have hlen:((zs.take len).map fun n=>PV.int .i64 n).length=len:=by simp [hz]
 have hfl:((zs.take len).map fun n=>PV.int .i64 n).flatMap PV.cells=(zs.take len).map fun n=>PV.int .i64 n:=by
  generalize zs.take len=l;induction l with
  | nil=>rfl
  | cons n r ih=>simp only[List.map_cons,List.flatMap_cons,ih];rfl
 by_cases h0:len=0
 ·subst h0
  simp;exact .nils _ _ _
 ·have key:=RPV.sl (M:=imm [] [] W) none ((zs.take len).map fun n=>PV.int .i64 n) b o cap (fun j=>.int .i64 (zs.getD j 0)) (fun hh=>by rw[hh]at hlen;simp at hlen;omega) (by rw[hlen];exact hl)
   (fun x hx=>by obtain⟨n,_,rfl⟩:=List.mem_map.1 hx;rfl)
   (fun j y hy=>by
    rw[hfl]at hy;have hj:j<len:=by have:=xA hy;rw[hlen]at this;exact this
    have:=hc j (by omega)
    rw[CC]at this;exact ze5 this)
   (fun j y hy=>by
    rw[hfl]at hy;have hj:j<len:=by have:=xA hy;rw[hlen]at this;exact this
    have hjz:j<zs.length:=by omega
    simp [List.getElem?_take,hj,hjz]at hy;subst hy;have:zs.getD j 0=zs[j]:=by simp [List.getD,hjz]
    rw[this];exact .int _ _)
  rwa [hlen]at key
end Go.Am
end
