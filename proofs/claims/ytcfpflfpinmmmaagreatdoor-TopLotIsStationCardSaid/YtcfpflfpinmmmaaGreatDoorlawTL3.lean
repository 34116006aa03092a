/- Texts of the proof, laid together: AmG, AmH, Am21, Am22, Am23, Am24, Am25, Am26, Am27, Am28. -/
import Derived.Below
import Derived.ChangeSlices
import Derived.Carry
import Derived.Test.YtcfpflfpinmmmaaGreatDoorlawTL2
set_option linter.all false
section
/- The abstract machine,part G: regions whose order is left open: whatever the order. -/
set_option linter.unusedSimpArgs false
set_option linter.unusedVariables false
set_option maxHeartbeats 1000000
namespace Go.Am
variable {h h':aA} {μ μ':Mu} {w w':World} {P:Program} {M M':Mem}
variable {gl:Nat→Option PV} {nt:Nat} {M0:Mem} {h0:aA} {μ0:Mu} {e:List (Nat × AV)} {x:Esc} {a:Act} {ops:Array Oper}
theorem zhL {tab:List (List Nat)}(ht:∀ i l,tab[i]?=some l→∀ k∈l,Bef ops k i){i j:Nat}{p q:DOp}(h:TM tab i j p q=true) :
 Bef ops i j∨(¬(p.eff=true∧q.eff=true)∧(∀t,p.op.dst=some t→q.op.dst≠some t∧t∉q.rd)∧(∀t,q.op.dst=some t→t∉p.rd) ∧
  (q.eff=true→p.eff=false→p.op.op.hfree=true∨i∈q.again)∧(p.eff=true→q.eff=false→q.op.op.hfree=true∨i∈q.early)):=by
 unfold TM at h;rw[Bool.or_eq_true]at h;rcases h with h|h
 ·left
  cases hq:tab[j]? with
  | none=>simp [List.getD,hq]at h
  | some l=>simp [List.getD,hq]at h;exact ht j l hq i h
 ·right
  simp only[Bool.and_eq_true,Bool.not_eq_true',Bool.or_eq_true]at h;obtain⟨⟨⟨⟨h1,h2⟩,h3⟩,h4⟩,h5⟩:=h;refine⟨fun hab=>by(rw[hab.1,hab.2]at h1;cases h1),fun t ht=>?_,fun t ht=>?_,fun ha hb=>?_,fun ha hb=>?_⟩
  ·rw[ht]at h2
   simpa using h2
  ·rw[ht]at h3
   simpa using h3
  ·rw[ha,hb]at h4
   simpa using h4
  ·rw[ha,hb]at h5
   simpa using h5
theorem z2f {C:Hd}{ds:List DOp}{E:Nat→List (Nat × AV)}{H:Nat→aA}{V:Nat→AV}{X Y:Nat→Esc}(T:∀ i o,ds[i]?=some o→Tr C gl ds 0 [] [] E H V X Y i o)(e0:E 0=e)(t:Nat) :
 ∀i,i≤ds.length→eA (E i) t=lk (fun i=>(ds[i]?).bind (·.op.dst)) V e (fun _=>true) i t
 | 0,_=>by simp [lk,e0]
 | i+1,hi=>by
  have ho:=List.getElem?_eq_getElem (show i<ds.length by omega)
  have hT:=(T i _ ho).env
  simp only[Nat.zero_add]at hT;rw[hT,DI,z2f T e0 t i (by omega)]
  simp only[lk,ho,Option.bind_some,true_and]
theorem z5E {C:Hd}{ds:List DOp}{E:Nat→List (Nat × AV)}{H:Nat→aA}{V:Nat→AV}{X Y:Nat→Esc}(T:∀ i o,ds[i]?=some o→Tr C gl ds 0 [] [] E H V X Y i o){c:Nat} :
 ∀d,c+d≤ds.length→(∀k o,c≤k→k<c+d→ds[k]?=some o→o.eff=false)→H (c+d)=H c∧X (c+d)=X c
 | 0,_,_=>⟨rfl,rfl⟩
 | d+1,hd,hn=>by
  have ho:=List.getElem?_eq_getElem (show c+d<ds.length by omega)
  have hT:=T _ _ ho
  have hs:=hT.still (hn _ _ (by omega) (by omega) ho)
  obtain⟨h1,h2⟩:=z5E T d (by omega) (fun k o h1 h2 h3=>hn k o h1 (by omega) h3)
  simp only[Nat.zero_add]at hs;have he:=hT.esc
  simp only[Nat.zero_add]at he;rw[hs.2]at he;exact⟨by rw[←Nat.add_assoc,hs.1,h1],by rw[←Nat.add_assoc,he,List.nil_append,h2]⟩
theorem z6o {C:Hd}{o:AOp}(hf:o.op.hfree=true){v:AV}{y:Esc}(H:ADo C gl o e h v h' y)(g:aA):ADo C gl o e g v g []:=by
 obtain⟨dst,guard,op⟩:=o;unfold ADo at H ⊢;dsimp only at H hf ⊢;split at H
 ·cases op
  case call f args=>cases hf
  case callv f args=>cases hf
  case mnext sh xs=>cases hf
  all_goals exact ze6 hf H g
 ·exact⟨H.1,rfl,rfl⟩
 ·exact H.elim
theorem mX {p:Nat→Prop}{c i:Nat}(h:∃ k,c≤k∧k<i∧p k):∃k,c≤k∧k<i∧p k∧∀k',c≤k'→k'<k→¬p k':=by
 obtain⟨k,h1,h2,h3⟩:=h;induction k using Nat.strongRecOn with
 | _ k ih=>
  by_cases hq:∃k',c≤k'∧k'<k∧p k'
  ·obtain⟨k',q1,q2,q3⟩:=hq
   exact ih k' q2 q1 (by omega) q3
  ·exact⟨k,h1,h2,h3,fun k' q1 q2 q3=>hq ⟨k',q1,q2,q3⟩⟩
theorem z1Y {C:Hd}(hC:∀ f a h K,C f a h K→pC P gl f a h K){ds:List DOp}{K:List (Nat × AV)→aA→Esc→Prop}{Q:Exit→Act→World→Prop}(hc:dO P nt ops ds=true)
 (HD:TC C gl ds [] [] e h x K) (R:Rel gl nt M0 h0 μ0 e h x a w μ) (hK:∀e h x a w μ,K e h x→Rel gl nt M0 h0 μ0 e h x a w μ→Q .normal a w) :
 wpAny P .any ops Q ops.size (Array.replicate ops.size false) a w:=by
 unfold dO at hc;simp only[Bool.and_eq_true]at hc;obtain⟨⟨c1,c2⟩,c3⟩:=hc;obtain⟨c4,c5⟩:=z1t c1;have hn:ds.length=ops.size:=by simpa using c4
 have htab:=z13 (ops:=ops) ops.toList 0 [] (by simp) rfl (fun i l hi=>by simp at hi)
 have hpair:∀(i j:Nat) (p q:DOp),ds[i]?=some p→ds[j]?=some q→i<j→Bef ops i j∨(¬(p.eff=true∧q.eff=true)∧(∀t,p.op.dst=some t→q.op.dst≠some t∧t∉q.rd)∧(∀t,q.op.dst=some t→t∉p.rd) ∧
  (q.eff=true→p.eff=false→p.op.op.hfree=true∨i∈q.again)∧(p.eff=true→q.eff=false→q.op.op.hfree=true∨i∈q.early)):=fun i j p q hp hq hlt=>by
  have:=z4Q c3 j q hq i p hp (by omega)
  rw[Nat.zero_add]at this;exact zhL htab this
 have hop:∀(i:Nat) (o:DOp),ds[i]?=some o→∃p,ops[i]?=some p∧IG P nt ops o.op p=true:=fun i o ho=>by
  obtain⟨p,q1,q2⟩:=c5 i o.op (by simp [ho])
  rw[Nat.zero_add]at q1;exact⟨p,q1,q2⟩
 obtain⟨E,H,V,X,Y,e1,e2,e3,T,e5⟩:=z5P ds 0 [] [] e h x K HD rfl rfl;simp only[Nat.zero_add]at e5;have hE:=fun t i hi=>z2f (e:=e) T e1 t i hi
 let dst:Nat→Option Nat:=fun i=>(ds[i]?).bind (·.op.dst)
 have hdst:∀(i:Nat) (o:DOp),ds[i]?=some o→dst i=o.op.dst:=fun i o ho=>by show(ds[i]?).bind _=_;rw[ho];rfl
 have hdst':∀(i t:Nat),dst i=some t→∃o,ds[i]?=some o∧o.op.dst=some t:=fun i t ht=>by
  cases ho:ds[i]? with
  | none=>exact absurd ht (by show(ds[i]?).bind _≠_;rw[ho];simp)
  | some o=>exact⟨o,rfl,by rw[←hdst i o ho];exact ht⟩
 have hstill:∀c i,c≤i→i≤ds.length→(∀(k:Nat) (o:DOp),c≤k→k<i→ds[k]?=some o→o.eff=false)→H i=H c∧X i=X c:=fun c i hci hi hk=>by
  have:=z5E T (c:=c) (i-c) (by omega) (fun k o h1 h2 h3=>hk k o h1 (by omega) h3)
  rwa [show c+(i-c)=i by omega]at this
 have done:∀(listed:Array Bool) (c:Nat) (en:List (Nat×AV)) (a:Act) (w:World) (μ:Mu),(∀i,i<ops.size→listed.getD i false=true)→(∀(k:Nat) (o:DOp),ds[k]?=some o→o.eff=true→(listed.getD k false=true↔k<c))→c≤ds.length →
  (∀t,eA en t=lk dst V e (fun i=>listed.getD i false) ds.length t)→Rel gl nt M0 h0 μ0 en (H c) (X c) a w μ→Q .normal a w:=by
  intro listed c en a w μ hall hce hcl hen R;have hHn:=hstill c ds.length hcl (Nat.le_refl _) (fun k o h1 h2 h3=>by
   cases hb:o.eff with
   | false=>rfl
   | true=>have:=(hce k o h3 hb).1 (hall k (by omega));omega)
  refine hK _ _ _ a w μ e5 ?_;rw[hHn.1,hHn.2];refine⟨R.heap,fun t=>?_,R.glob,R.evo,R.esc,R.size,R.defers⟩
  rw[hE t _ (Nat.le_refl _)];have:=hen t;rw[bQ (s':=fun _=>true) ds.length (fun j hj _=>hall j (by omega))]at this
  rw[←this];exact R.env t
 have key:∀(fuel:Nat) (listed:Array Bool) (U:List Nat) (c:Nat) (en:List (Nat×AV)) (a:Act) (w:World) (μ:Mu),listed.size=ops.size→(∀i,i<ops.size→listed.getD i false=false→i∈U)→U.length≤fuel →
  Down ops (fun i=>listed.getD i false)→(∀(k:Nat) (o:DOp),ds[k]?=some o→o.eff=true→(listed.getD k false=true↔k<c))→(c=0∨∃(k:Nat) (o:DOp),c=k+1∧ds[k]?=some o∧o.eff=true)→c≤ds.length →
  (∀t,eA en t=lk dst V e (fun i=>listed.getD i false) ds.length t)→Rel gl nt M0 h0 μ0 en (H c) (X c) a w μ→wpAny P .any ops Q fuel listed a w:=by
  intro fuel;induction fuel with
  | zero=>
   intro listed U c en a w μ hsz hU hUl hD hce hc0 hcl hen R;have hall:∀i,i<ops.size→listed.getD i false=true:=fun i hi=>by
    cases hb:listed.getD i false with
    | true=>rfl
    | false=>
     have:=hU i hi hb;have hnil:U=[]:=List.length_eq_zero_iff.1 (by omega)
     rw[hnil]at this;cases this
   refine⟨?_,done listed c en a w μ hall hce hcl hen R⟩;rw[List.eq_nil_iff_forall_not_mem];intro i hi;rw[mem_ready]at hi;obtain⟨q1,o,q2,_⟩:=hi;have hi:i<ops.size:=(Array.getElem?_eq_some_iff.1 q2).1
   have:=hall i hi;simp [Array.getD,hsz,hi]at q1 this;rw[q1]at this;cases this
  | succ fuel ih=>
   intro listed U c en a w μ hsz hU hUl hD hce hc0 hcl hen R;refine⟨fun hr=>?_,fun i hi=>?_⟩
   ·have hall:∀i,i<ops.size→listed.getD i false=true:=by
     intro i;induction i using Nat.strongRecOn with
     | _ i ihi=>
      intro hi;cases hb:listed.getD i false with
      | true=>rfl
      | false=>
       have hm:i∈Region.ready .any ops listed:=by
        rw[mem_ready];refine⟨by simp [Array.getD,hsz,hi]at hb ⊢;exact hb,ops[i],Array.getElem?_eq_getElem hi,fun ed hed hbd=>?_⟩
        have hk:ed.on∈zD ops[i]:=List.mem_map.2 ⟨ed,List.mem_filter.2 ⟨by simpa using hed,hbd⟩,rfl⟩
        have hlt:=z2b c2 i ops[i] (by simp [hi]) ed.on hk
        exact ihi ed.on (by omega) (by omega)
       rw[hr]at hm;cases hm
    exact done listed c en a w μ hall hce hcl hen R
   ·rw[mem_ready]at hi
    obtain⟨q1,p,hp,q3⟩:=hi;have hin:i<ops.size:=(Array.getElem?_eq_some_iff.1 hp).1
    have hnl:listed.getD i false=false:=by
     simp [Array.getD,hsz,hin]at q1 ⊢;exact q1
    have hready:∀o,ops[i]?=some o→∀k∈zD o,listed.getD k false=true:=by
     intro o ho k hk;rw[hp]at ho;injection ho with ho
     subst ho;obtain⟨ed,q4,rfl⟩:=List.mem_map.1 hk;obtain⟨q5,q6⟩:=List.mem_filter.1 q4;exact q3 ed (by simpa using q5) q6
    have ho:=List.getElem?_eq_getElem (show i<ds.length by omega)
    generalize ds[i]'(by omega)=o at ho
    obtain⟨p',hp',hck⟩:=hop i o ho;rw[hp]at hp';injection hp' with hp'
    subst hp';obtain⟨hd1,hd2⟩:=z9D hck;have hT:=T i o ho
    have hrun:=hT.run
    simp only[Nat.zero_add]at hrun;have before:∀(k:Nat) (q:DOp),ds[k]?=some q→k<i→Bef ops k i→listed.getD k false=true:=fun k q _ _ hb=>hb.ready hD hready
    have behind:∀(k:Nat),Bef ops i k→listed.getD k false=false:=fun k hb=>by
     cases hs:listed.getD k false with
     | false=>rfl
     | true=>have:=hb.down hD hs;rw[hnl]at this;cases this
    have Renv:Rel gl nt M0 h0 μ0 (uA (some o.rd) (E i)) (H c) (X c) a w μ:=by
     refine⟨R.heap,fun t=>?_,R.glob,R.evo,R.esc,R.size,R.defers⟩
     rw[z7u];split
     ·rename_i htr
      have h1:=hen t
      rw[cQ (i:=i) ds.length (by omega) (fun j hij hj hdj=>by
       obtain⟨q,hq,hqd⟩:=hdst' j t hdj;rcases Nat.eq_or_lt_of_le hij with hh|hh
       ·subst hh;exact hnl
       ·rcases hpair i j o q ho hq hh with hb|⟨_,_,k3,_⟩
        ·exact behind j hb
        ·exact absurd htr (k3 t hqd)),bQ (s':=fun _=>true) i (fun j hj hdj=>by
       obtain⟨q,hq,hqd⟩:=hdst' j t hdj;rcases hpair j i q o hq ho hj with hb|⟨_,k2,_⟩
       ·exact before j q hq hj hb
       ·exact absurd htr (k2 t hqd).2),←hE t i (by omega)]at h1
      rw[←h1];exact R.env t
     ·exact .und _
    have next:∀(c':Nat) (a':Act) (w':World) (μ':Mu) (u:Value),a'=a.put p.dst u→(∀(k:Nat) (q:DOp),ds[k]?=some q→q.eff=true→((listed.setIfInBounds i true).getD k false=true↔k<c'))→(c'=0∨∃(k:Nat) (o:DOp),c'=k+1∧ds[k]?=some o∧o.eff=true)→c'≤ds.length →
     (∀e',(∀t,eA e' t=if o.op.dst=some t then V i else eA en t)→Rel gl nt M0 h0 μ0 e' (H c') (X c') a' w' μ')→wpAny P .any ops Q fuel (listed.setIfInBounds i true) a' w':=by
     intro c' a' w' μ' u ha k1 k2 k3 k4;refine ih (listed.setIfInBounds i true) (U.erase i) c' (put o.op.dst (V i) en) a' w' μ' (by simp [hsz]) (fun j hj hb=>?_) ?_ ?_ k1 k2 k3 (fun t=>?_) (k4 _ (fun t=>DI))
     ·by_cases hji:i=j
      ·subst hji
       simp [Array.getD,hsz,hin]at hb
      ·rw[getD_set_ne false hji]at hb
       exact(List.mem_erase_of_ne (fun h=>hji h.symm)).2 (hU j hj hb)
     ·have:=List.length_erase_of_mem (hU i hin hnl)
      omega
     ·intro j q hq hs k hk
      by_cases hji:i=j
      ·subst hji
       exact getD_set_true (hready q hq k hk)
      ·have hs':listed.getD j false=true:=by
        have:=hs;simp only[getD_set_ne false hji]at this;exact this
       exact getD_set_true (hD j q hq hs' k hk)
     ·rw[DI]
      by_cases hdt:o.op.dst=some t
      ·rw[if_pos hdt]
       rw[cQ (i:=i+1) ds.length (by omega) (fun j hij hj hdj=>by
        obtain⟨q,hq,hqd⟩:=hdst' j t hdj;show(listed.setIfInBounds i true).getD j false=false
        rw[getD_set_ne false (show i≠j by omega)]
        rcases hpair i j o q ho hq (by omega) with hb|⟨_,k2,_⟩
        ·exact behind j hb
        ·exact absurd hqd (k2 t hdt).1)]
       simp only[lk];rw[if_pos ⟨by simp [Array.getD,hsz,hin],by rw[hdst i o ho];exact hdt⟩]
      ·rw[if_neg hdt,hen t]
       refine bQ _ (fun j hj hdj=>?_)
       have hji:i≠j:=by
        intro hji;subst hji;rw[hdst i o ho]at hdj;exact hdt hdj
       exact(getD_set_ne false hji).symm
    cases heff:o.eff with
    | true=>
     have hci:c≤i:=by
      rcases hc0 with hc0|⟨k,q,hck2,hq,hqe⟩
      ·omega
      ·rcases Nat.lt_trichotomy k i with hh|hh|hh
       ·omega
       ·subst hh
        have:=(hce k q hq hqe).2 (by omega)
        rw[hnl]at this;cases this
       ·rcases hpair i k o q ho hq hh with hb|⟨k1,_⟩
        ·have:=behind k hb
         have h2:=(hce k q hq hqe).2 (by omega)
         rw[this]at h2;cases h2
        ·exact absurd ⟨heff,hqe⟩ k1
     have hbe:∀(k:Nat) (q:DOp),k<i→ds[k]?=some q→q.eff=true→k<c:=fun k q hk hq hqe=>by
      rcases hpair k i q o hq ho hk with hb|⟨k1,_⟩
      ·exact(hce k q hq hqe).1 (before k q hq hk hb)
      ·exact absurd ⟨hqe,heff⟩ k1
     have hHi:=hstill c i hci (by omega) (fun k q h1 h2 h3=>by
      cases hb:q.eff with
      | false=>rfl
      | true=>have:=hbe k q h2 h3 hb;omega)
     rw[hHi.1]at hrun;refine z1W hC hp hck Renv hrun (fun a' w' μ' u ha hH hEv hI hV=>?_)
     refine next (i+1) a' w' μ' u ha (fun k q hq hqe=>?_) (.inr ⟨i,o,rfl,ho,heff⟩) (by omega) (fun e' he'=>?_)
     ·by_cases hki:i=k
      ·subst hki
       simp [Array.getD,hsz,hin]
      ·rw[getD_set_ne false hki,hce k q hq hqe]
       constructor
       ·intro _;omega
       ·intro _;exact hbe k q (by omega) hq hqe
     ·have hst:=R.step (d:=p.dst) (fun j hj=>hd2 j (by rw[hd1];exact hj)) hH hEv hI hV
      have hX:X (i+1)=Y i++X c:=by have:=hT.esc;simp only[Nat.zero_add]at this;rw[this,hHi.2]
      rw[hX,ha];refine⟨hst.heap,fun t=>?_,hst.glob,hst.evo,hst.esc,hst.size,hst.defers⟩
      have:=hst.env t;rw[DI,←hd1]at this;rw[he' t];rw[hd1]at this ⊢;exact this
    | false=>
     have hs:=hT.still heff
     simp only[Nat.zero_add]at hs;rw[hs.1,hs.2]at hrun;have hdo:ADo C gl o.op (uA (some o.rd) (E i)) (H c) (V i) (H c) []:=by
      by_cases hf:o.op.op.hfree=true
      ·exact z6o hf hrun _
      ·rcases Nat.lt_or_ge i c with hic|hci
       ·rcases hc0 with hc0|⟨k,q,hck2,hq,hqe⟩
        ·omega
        ·have hik:i<k:=by
          rcases Nat.eq_or_lt_of_le (show i≤k by omega) with hh|hh
          ·subst hh
           rw[ho]at hq;injection hq with hq
           subst hq;rw[heff]at hqe;cases hqe
          ·exact hh
         rcases hpair i k o q ho hq hik with hb|⟨_,_,_,k4,_⟩
         ·have:=behind k hb
          have h2:=(hce k q hq hqe).2 (by omega)
          rw[this]at h2;cases h2
         ·rcases k4 hqe heff with k4|k4
          ·exact absurd k4 hf
          ·rcases(T k q hq).again i k4 with⟨_,h1,_⟩|⟨_,q',h1,h2⟩
           ·omega
           ·simp only[Nat.sub_zero]at h1
            rw[ho]at h1;injection h1 with h1
            subst h1;simp only[Nat.zero_add]at h2;rw[hck2];exact h2
       ·by_cases hk:∃k,c≤k∧k<i∧∃q,ds[k]?=some q∧q.eff=true
        ·obtain⟨k,hck2,hki,⟨q,hq,hqe⟩,hmin⟩:=mX hk
         have hHk:=hstill c k hck2 (by omega) (fun k' q' h1 h2 h3=>by
          cases hb:q'.eff with
          | false=>rfl
          | true=>exact absurd ⟨q',h3,hb⟩ (hmin k' h1 h2))
         rcases hpair k i q o hq ho hki with hb|⟨_,_,_,_,k5⟩
         ·have:=(hce k q hq hqe).1 (before k q hq hki hb)
          omega
         ·rcases k5 hqe heff with k5|k5
          ·exact absurd k5 hf
          ·obtain⟨g,h1,h2⟩:=hT.early k k5
           simp only[Nat.zero_add]at h1 h2;rcases h1 with⟨h1,_⟩|⟨_,_,h1⟩
           ·omega
           ·rw[h1,hHk.1]at h2
            exact h2
        ·have hHi:=hstill c i hci (by omega) (fun k q h1 h2 h3=>by
          cases hb:q.eff with
          | false=>rfl
          | true=>exact absurd ⟨k,h1,h2,q,h3,hb⟩ hk)
         rw[hHi.1]at hrun;exact hrun
     refine z1W hC hp hck Renv hdo (fun a' w' μ' u ha hH hEv hI hV=>?_)
     refine next c a' w' μ' u ha (fun k q hq hqe=>?_) hc0 hcl (fun e' he'=>?_)
     ·have hki:i≠k:=by
       intro hki;subst hki;rw[ho]at hq;injection hq with hq
       subst hq;rw[heff]at hqe;cases hqe
      rw[getD_set_ne false hki];exact hce k q hq hqe
     ·have hst:=R.step (d:=p.dst) (fun j hj=>hd2 j (by rw[hd1];exact hj)) hH hEv hI hV
      rw[List.nil_append]at hst;rw[ha];refine⟨hst.heap,fun t=>?_,hst.glob,hst.evo,hst.esc,hst.size,hst.defers⟩
      have:=hst.env t;rw[DI,←hd1]at this;rw[he' t];rw[hd1]at this ⊢;exact this
 refine key ops.size _ (List.range ops.size) 0 e a w μ (by simp) (fun i hi _=>List.mem_range.2 hi) (by simp) ?_ ?_ (.inl rfl) (Nat.zero_le _) ?_ ?_
 ·intro i o ho hs
  have hi:i<ops.size:=(Array.getElem?_eq_some_iff.1 ho).1
  simp [Array.getD,hi]at hs
 ·intro k o ho _
  have hi:k<ops.size:=by rw[←hn];exact sA ho
  simp [Array.getD,hi]
 ·intro t
  have:lk dst V e (fun i=>(Array.replicate ops.size false).getD i false) ds.length t=lk dst V e (fun i=>(Array.replicate ops.size false).getD i false) 0 t:=
   cQ ds.length (Nat.zero_le _) (fun j _ hj _=>by simp [Array.getD])
  rw[this];rfl
 ·rw[e2,e3];exact R
end Go.Am
end
section
/- The abstract machine,part H: two operations whose order is left open and that disturb each other: both ways. -/
set_option linter.all false
namespace Go.Am
variable {P:Program} {gl:Nat→Option PV} {nt:Nat} {M0:Mem} {h0:aA} {μ0:Mu} {h:aA} {μ:Mu} {e:List (Nat × AV)} {x0:Esc} {ops:Array Oper} {Q:Exit→Act→World→Prop} {ix:List Nat} {x y:Nat}
def lQ:List Nat→Bool
 | []=>true
 | a::r=>!r.contains a&&lQ r
theorem z4t:∀ {l:List Nat},lQ l=true→l.Nodup
 | [],_=>List.nodup_nil
 | a::r,h=>by
  simp only[lQ,Bool.and_eq_true,Bool.not_eq_true']at h;refine List.nodup_cons.2 ⟨fun hm=>?_,z4t h.2⟩
  have:=h.1;simp [hm]at this
def HR (ops:Array Oper)(ix:List Nat)(x y i:Nat):Oper:=
 let o:=(ops[i]?).getD default
 ⟨o.dst,o.op,o.type,o.pos,((zD o++bif Nat.beq i y then [x] else []).map fun k=>⟨ix.findIdx (Nat.beq k),.data⟩).toArray,o.guard⟩
def GD (ops:Array Oper)(ix:List Nat)(x y:Nat):Array Oper:=(ix.map (HR ops ix x y)).toArray
structure PermOk (ops:Array Oper) (ix:List Nat) (x y:Nat):Prop where
 len:ix.length=ops.size
 lt:∀i∈ix,i<ops.size
 all:∀i,i<ops.size→i∈ix
 nd:ix.Nodup
 gd:∀(i:Nat) (o:Oper),ops[i]?=some o→o.guard=none
 ed:∀(i:Nat) (o:Oper),ops[i]?=some o→∀k∈zD o,k<ops.size
 xl:x<ops.size
theorem PermOk.inv (H:PermOk ops ix x y){i:Nat}(hi:i<ops.size):ix.findIdx (Nat.beq i)<ops.size∧ix[ix.findIdx (Nat.beq i)]?=some i:=by
 have hm:=H.all i hi
 have hl:ix.findIdx (Nat.beq i)<ix.length:=List.findIdx_lt_length.2 ⟨i,hm,Nat.beq_refl i⟩
 refine⟨by rw[←H.len];exact hl,?_⟩
 rw[List.getElem?_eq_getElem hl];have:=List.findIdx_getElem (w:=hl);exact congrArg some (Nat.eq_of_beq_eq_true this).symm
theorem rZ (H:PermOk ops ix x y){k i:Nat}(hk:ix[k]?=some i):∃o,ops[i]?=some o∧(GD ops ix x y)[k]?=some (HR ops ix x y i)∧HR ops ix x y i=⟨o.dst,o.op,o.type,o.pos,((zD o++bif Nat.beq i y then [x] else []).map fun k=>⟨ix.findIdx (Nat.beq k),.data⟩).toArray,o.guard⟩:=by
 have hi:=H.lt i (List.mem_of_getElem? hk)
 refine⟨ops[i],Array.getElem?_eq_getElem hi,?_,?_⟩
 ·unfold GD
  simp [hk]
 ·unfold HR
  simp [Array.getElem?_eq_getElem hi]
def zS (x y:Nat)(l:List Nat):Prop:=∀l1 l2,l=l1++y::l2→x∈l1
theorem zhO (H:PermOk ops ix x y){k i:Nat}(hk:ix[k]?=some i){K K':Act→World→Prop}{a:Act}{w:World}(hK:∀ a w,K a w→K' a w)(h:wpOp P (GD ops ix x y) Q k K a w):wpOp P ops Q i K' a w:=by
 obtain⟨o,h1,h2,h3⟩:=rZ H hk;have hg:=H.gd i o h1
 unfold wpOp at h ⊢;rw[h2]at h;rw[h1];rw[h3]at h;dsimp only at h ⊢;have e1:∀yl,Region.wanted o yl=true:=fun yl=>by unfold Region.wanted;rw[hg]
 rw[if_pos (e1 _)];rw[if_pos (by unfold Region.wanted;dsimp only;rw[hg])]at h
 rcases h with h|h
 ·exact .inl (Oper.wp_mono hK h)
 ·exact .inr h
def VO (ops:Array Oper):Nat→Array Bool→List Nat→Prop
 | 0,_,l=>l=[]
 | _+1,listed,[]=>Region.ready .any ops listed=[]
 | n+1,listed,i::r=>i∈Region.ready .any ops listed∧VO ops n (listed.setIfInBounds i true) r
theorem z6D (ops:Array Oper):∀(fuel t:Nat) (listed:Array Bool),VO ops fuel listed (Region.linearise.go .any ops fuel t listed []):=by
 intro fuel;induction fuel with
 | zero=>intro t listed;simp [Region.linearise.go,VO]
 | succ fuel ih=>
  intro t listed;have hgo:Region.linearise.go .any ops (fuel+1) t listed []=match (Region.ready .any ops listed)[t%(Region.ready .any ops listed).length]? with
   | some i=>i::Region.linearise.go .any ops fuel (t / (Region.ready .any ops listed).length) (listed.setIfInBounds i true) []
   | none=>[]:=by
   simp only[Region.linearise.go];change (match (Region.ready .any ops listed)[t%(Region.ready .any ops listed).length]? with
    | some i=>Region.linearise.go .any ops fuel (t / (Region.ready .any ops listed).length) (listed.setIfInBounds i true) [i]
    | none=>[].reverse)=_
   split
   ·rw[linearise_go_acc,List.reverse_singleton,List.singleton_append]
   ·rfl
  rw[hgo];cases hi:(Region.ready .any ops listed)[t%(Region.ready .any ops listed).length]? with
  | none=>
   show Region.ready .any ops listed=[]
   cases hr:Region.ready .any ops listed with
   | nil=>rfl
   | cons z zs=>
    rw[hr]at hi;have hlt:t%(z::zs).length<(z::zs).length:=Nat.mod_lt _ (by simp)
    simp at hi;simp at hlt;omega
  | some i=>exact⟨List.mem_of_getElem? hi,ih _ _⟩
theorem z0A:∀ (n:Nat) (listed:Array Bool) (l:List Nat),VO ops n listed l→∀ i∈l,i<ops.size
 | 0,_,l,h,i,hi=>by rw[show l=[] from h]at hi;cases hi
 | n+1,listed,[],h,i,hi=>by cases hi
 | n+1,listed,j::r,h,i,hi=>by
  rcases List.mem_cons.1 hi with rfl|hi
  ·have:=h.1
   rw[mem_ready]at this;obtain⟨_,o,q2,_⟩:=this;exact(Array.getElem?_eq_some_iff.1 q2).1
  ·exact z0A n _ r h.2 i hi
theorem zk7 {i:Nat}{K K':Act→World→Prop}{a:Act}{w:World}(hK:∀ a w,K a w→K' a w)(h:wpOp P ops Q i K a w):wpOp P ops Q i K' a w:=by
 unfold wpOp at h ⊢;split at h
 ·exact hK _ _ h
 ·split at h
  ·rename_i hw
   rw[if_pos hw];rcases h with h|h
   ·exact .inl (Oper.wp_mono hK h)
   ·exact .inr h
  ·rename_i hw
   rw[if_neg hw];exact hK _ _ h
theorem z0P:∀ (n:Nat) (listed:Array Bool) (l:List Nat) (a:Act) (w:World),VO ops n listed l→wpAny P .any ops Q n listed a w→wpOps P ops Q l a w
 | 0,_,l,a,w,h,hw=>by rw[show l=[] from h];exact hw.2
 | n+1,listed,[],a,w,h,hw=>hw.1 h
 | n+1,listed,i::r,a,w,h,hw=>by
  rw[wpOps_cons];exact zk7 (fun a w hw=>z0P n _ r a w h.2 hw) (hw.2 i h.1)
theorem sZ (H:PermOk ops ix x y):∀(l:List Nat) (a:Act) (w:World),(∀i∈l,i<ops.size)→wpOps P (GD ops ix x y) Q (l.map fun i=>ix.findIdx (Nat.beq i)) a w→wpOps P ops Q l a w
 | [],_,_,_,h=>h
 | i::r,a,w,hl,h=>by
  rw[List.map_cons,wpOps_cons]at h;rw[wpOps_cons];exact zhO H (H.inv (hl i (List.mem_cons_self ..))).2 (fun a w hw=>sZ H r a w (fun j hj=>hl j (List.mem_cons_of_mem _ hj)) hw) h
theorem z47 (H:PermOk ops ix x y):∀(n:Nat) (listed listed':Array Bool) (l:List Nat),listed.size=ops.size→listed'.size=ops.size→(∀k i,ix[k]?=some i→listed'.getD k false=listed.getD i false) →
 (listed.getD x false=true∨zS x y l)→VO ops n listed l→VO (GD ops ix x y) n listed' (l.map fun i=>ix.findIdx (Nat.beq i)):=by
 intro n;have hps:(GD ops ix x y).size=ops.size:=by unfold GD;simp [H.len]
 have dflt:∀(l:Array Bool),l.size=ops.size→∀i,i<ops.size→l.getD i true=l.getD i false:=fun l hl i hi=>by simp [Array.getD,hl,hi]
 induction n with
 | zero=>intro listed listed' l _ _ _ _ h;rw[show l=[] from h];rfl
 | succ n ih=>
  intro listed listed' l hs hs' hL hB h;cases l with
  | nil=>
   have hnil:Region.ready .any ops listed=[]:=h
   show Region.ready .any (GD ops ix x y) listed'=[]
   rw[List.eq_nil_iff_forall_not_mem];intro k hk;rw[mem_ready]at hk;obtain⟨q1,o',q2,q3⟩:=hk;have hkl:k<ops.size:=by rw[←hps];exact(Array.getElem?_eq_some_iff.1 q2).1
   obtain⟨i,hki⟩:∃i,ix[k]?=some i:=⟨_,List.getElem?_eq_getElem (by rw[H.len];exact hkl)⟩
   obtain⟨o,p1,p2,p3⟩:=rZ H hki;rw[p2]at q2;injection q2 with q2
   have hil:=H.lt i (List.mem_of_getElem? hki)
   have hm:i∈Region.ready .any ops listed:=by
    rw[mem_ready];refine⟨?_,o,p1,fun ed hed hbd=>?_⟩
    ·rw[dflt _ hs i hil,←hL k i hki,←dflt _ hs' k hkl];exact q1
    ·have hke:ed.on∈zD o:=List.mem_map.2 ⟨ed,List.mem_filter.2 ⟨by simpa using hed,hbd⟩,rfl⟩
     have hel:=H.ed i o p1 ed.on hke
     obtain⟨r1,r2⟩:=H.inv hel;have:=q3 ⟨ix.findIdx (Nat.beq ed.on),.data⟩ (by rw[←q2,p3];simp;exact .inl ⟨_,hke,rfl⟩) rfl
     rw[hL _ _ r2]at this;exact this
   rw[hnil]at hm;cases hm
  | cons i r=>
   obtain⟨hir,hr⟩:=h;have hmr:=hir
   rw[mem_ready]at hmr;obtain⟨q1,o,q2,q3⟩:=hmr;have hil:i<ops.size:=(Array.getElem?_eq_some_iff.1 q2).1
   obtain⟨k1,k2⟩:=H.inv hil;rw[List.map_cons];generalize hk:ix.findIdx (Nat.beq i)=k at *;obtain⟨o1,p1,p2,p3⟩:=rZ H k2;rw[q2]at p1;injection p1 with p1
   subst p1;have hxl:i=y→listed.getD x false=true:=fun hy=>by
    rcases hB with hB|hB
    ·exact hB
    ·have:=hB [] r (by rw[hy];rfl)
     cases this
   have hkr:k∈Region.ready .any (GD ops ix x y) listed':=by
    rw[mem_ready];refine⟨?_,_,p2,fun ed hed hbd=>?_⟩
    ·rw[dflt _ hs' k k1,hL k i k2,←dflt _ hs i hil];exact q1
    ·rw[p3]at hed
     simp only[List.mem_toArray,List.mem_map,List.mem_append]at hed;obtain⟨j,hj,rfl⟩:=hed;rcases hj with hj|hj
     ·have hel:=H.ed i o q2 j hj
      obtain⟨r1,r2⟩:=H.inv hel;dsimp only;rw[hL _ _ r2];obtain⟨ed,he1,he2⟩:=List.mem_map.1 hj;obtain⟨he3,he4⟩:=List.mem_filter.1 he1;subst he2;exact q3 ed (by simpa using he3) he4
     ·cases hy:Nat.beq i y with
      | false=>rw[hy]at hj;cases hj
      | true=>
       rw[hy]at hj;simp only[cond_true,List.mem_singleton]at hj;subst hj;obtain⟨r1,r2⟩:=H.inv H.xl;dsimp only;rw[hL _ _ r2];exact hxl (Nat.eq_of_beq_eq_true hy)
   refine⟨hkr,ih _ _ r (by simp [hs]) (by simp [hs']) (fun k' i' hk'=>?_) ?_ hr⟩
   ·by_cases hkk:k=k'
    ·subst hkk
     rw[k2]at hk';injection hk' with hk'
     subst hk';simp [Array.getD,hs,hs',hil,k1]
    ·have hii:i≠i':=fun hii=>by
      subst hii;have a1:=List.getElem?_eq_some_iff.1 k2
      have a2:=List.getElem?_eq_some_iff.1 hk'
      obtain⟨b1,b2⟩:=a1;obtain⟨c1,c2⟩:=a2;exact hkk ((List.getElem_inj H.nd).1 (b2.trans c2.symm))
     rw[getD_set_ne false hkk,getD_set_ne false hii];exact hL k' i' hk'
   ·rcases hB with hB|hB
    ·exact .inl (getD_set_true hB)
    ·by_cases hxi:i=x
     ·subst hxi
      left;simp [Array.getD,hs,hil]
     ·right
      intro l1 l2 hl;have:=hB (i::l1) l2 (by rw[hl];rfl)
      rcases List.mem_cons.1 this with q|q
      ·exact absurd q.symm hxi
      ·exact q
theorem z7D (x y:Nat)(hxy:x≠y)(l:List Nat):zS x y l∨zS y x l:=by
 induction l with
 | nil=>left;intro l1 l2 h;simp at h
 | cons z l ih=>
  by_cases hx:z=x
  ·subst hx
   left;intro l1 l2 h
   cases l1 with
   | nil=>simp at h;exact absurd h.1 hxy
   | cons q r=>simp at h;simp [h.1]
  ·by_cases hy:z=y
   ·subst hy
    right;intro l1 l2 h
    cases l1 with
    | nil=>simp at h;exact absurd h.1.symm hxy
    | cons q r=>simp at h;simp [h.1]
   ·rcases ih with ih|ih
    ·left
     intro l1 l2 h;cases l1 with
     | nil=>simp at h;exact absurd h.1 hy
     | cons q r=>simp at h;exact List.mem_cons_of_mem _ (ih r l2 h.2)
    ·right
     intro l1 l2 h;cases l1 with
     | nil=>simp at h;exact absurd h.1 hx
     | cons q r=>simp at h;exact List.mem_cons_of_mem _ (ih r l2 h.2)
def UM:ACode→List Nat × ACode
 | .block i b=>(i::(UM b).1,(UM b).2)
 | c=>([],c)
theorem qZ {C:Hd}:∀(c:ACode) (s:St) (K:Ex→St→Prop),AW C gl c s K→∃K':Ex→St→Prop,AW C gl (UM c).2 s K'∧∀st,K' .normal st→K .normal st
 | .block i b,s,K,H=>by
  unfold AW at H;obtain⟨K',h1,h2⟩:=qZ b s _ H;exact⟨K',h1,fun st h=>h2 st h⟩
 | .skip,_,K,H=>⟨K,H,fun _ h=>h⟩
 | .reg _ _,_,K,H=>⟨K,H,fun _ h=>h⟩
 | .draw _ _,_,K,H=>⟨K,H,fun _ h=>h⟩
 | .seq _ _,_,K,H=>⟨K,H,fun _ h=>h⟩
 | .cond _ _ _,_,K,H=>⟨K,H,fun _ h=>h⟩
 | .condu _ _ _,_,K,H=>⟨K,H,fun _ h=>h⟩
 | .det _,_,K,H=>⟨K,H,fun _ h=>h⟩
 | .loop _,_,K,H=>⟨K,H,fun _ h=>h⟩
 | .scope _,_,K,H=>⟨K,H,fun _ h=>h⟩
 | .pr _ _,_,K,H=>⟨K,H,fun _ h=>h⟩
 | .exit _,_,K,H=>⟨K,H,fun _ h=>h⟩
 | .ret,_,K,H=>⟨K,H,fun _ h=>h⟩
 | .bad,_,K,H=>⟨K,H,fun _ h=>h⟩
def iO (ops:Array Oper)(x y:Nat)(ix:List Nat):Bool:=
 ix.length==ops.size&&ix.all (fun i=>decide (i<ops.size))&&(List.range ops.size).all (fun i=>ix.contains i)&&lQ ix&&ops.toList.all (fun o=>o.guard.isNone&&(zD o).all fun k=>decide (k<ops.size))&&decide (x<ops.size)
theorem z1u (h:iO ops x y ix=true):PermOk ops ix x y:=by
 unfold iO at h;simp only[Bool.and_eq_true,beq_iff_eq,List.all_eq_true,decide_eq_true_eq,Option.isNone_iff_eq_none]at h;obtain⟨⟨⟨⟨⟨h1,h2⟩,h3⟩,h4⟩,h5⟩,h6⟩:=h;refine⟨h1,h2,fun i hi=>?_,z4t h4,fun i o ho=>(h5 o ?_).1,fun i o ho=>(h5 o ?_).2,h6⟩
 ·have:=h3 i (List.mem_range.2 hi)
  simpa using this
 ·exact Array.mem_toList_iff.2 (Array.mem_of_getElem? ho)
 ·exact Array.mem_toList_iff.2 (Array.mem_of_getElem? ho)
def JG (P:Program)(nt:Nat):Nat→Array Oper→ACode→Bool
 | 0,_,_=>false
 | n+1,ops,c=>match c with
  | .draw ds _=>dO P nt ops ds
  | .condu t a b=>match t with
   | .c .anyb=>match UM a,UM b with
    | (x::y::ixA,ca),(y'::x'::ixB,cb)=>Nat.beq x x'&&Nat.beq y y' && !Nat.beq x y&&iO ops x y ixA&&iO ops y x ixB&&JG P nt n (GD ops ixA x y) ca&&JG P nt n (GD ops ixB y x) cb
    | _,_=>false
   | _=>false
  | _=>false
theorem XZ {C:Hd}(hC:∀ f a h K,C f a h K→pC P gl f a h K):∀(n:Nat) (ops:Array Oper) (c:ACode) (s:St) (K:Ex→St→Prop) (a:Act) (w:World),JG P nt n ops c=true→AW C gl c s K→Rel gl nt M0 h0 μ0 s.env s.h s.esc a w μ →
 (∀(keep:Option (List Nat)) e h x a w μ,K .normal ⟨uA keep e,h,x⟩→Rel gl nt M0 h0 μ0 e h x a w μ→Q .normal a w)→∀l,VO ops ops.size (Array.replicate ops.size false) l→wpOps P ops Q l a w
 | 0,ops,c,s,K,a,w,hc,_,_,_,_,_=>by cases hc
 | n+1,ops,c,s,K,a,w,hc,H,R,fin,l,hl=>by
  cases c;case draw ds keep=>
   unfold JG at hc;unfold AW at H;exact z0P _ _ l a w hl (z1Y hC (Q:=Q) hc H R (fin keep))
  case condu t c1 c2=>
   unfold JG at hc;dsimp only at hc;split at hc
   ·split at hc
    ·rename_i x y ixA ca y' x' ixB cb pa pb
     simp only[Bool.and_eq_true,Bool.not_eq_true']at hc;obtain⟨⟨⟨⟨⟨⟨e1,e2⟩,e3⟩,e4⟩,e5⟩,e6⟩,e7⟩:=hc;have e1:=Nat.eq_of_beq_eq_true e1
     have e2:=Nat.eq_of_beq_eq_true e2
     subst e1;subst e2
     have hxy:x≠y:=fun hh=>by rw[hh,Nat.beq_refl]at e3;cases e3
     unfold AW at H;simp only[Opd.ev]at H;obtain⟨KA,HA,fA⟩:=qZ c1 s K H.1;obtain⟨KB,HB,fB⟩:=qZ c2 s K H.2;rw[pa]at HA;rw[pb]at HB;have pA:=z1u e4
     have pB:=z1u e5
     have rep:∀(ix:List Nat) k i,ix[k]?=some i→(Array.replicate ops.size false).getD k false=(Array.replicate ops.size false).getD i false:=fun ix k i _=>by simp [Array.getD]
     have szA:(GD ops ixA x y).size=ops.size:=by unfold GD;simp [pA.len]
     have szB:(GD ops ixB y x).size=ops.size:=by unfold GD;simp [pB.len]
     have hlt:=z0A _ _ l hl
     rcases z7D x y hxy l with hb|hb
     ·have hv:=z47 pA ops.size _ _ l (by simp) (by simp) (rep ixA) (.inr hb) hl
      have:=XZ hC n _ ca s KA a w e6 HA R (fun keep e h x a w μ hk R'=>fin keep e h x a w μ (fA _ hk) R') _ (by rw[szA];exact hv)
      exact sZ pA l a w hlt this
     ·have hv:=z47 pB ops.size _ _ l (by simp) (by simp) (rep ixB) (.inr hb) hl
      have:=XZ hC n _ cb s KB a w e7 HB R (fun keep e h x a w μ hk R'=>fin keep e h x a w μ (fB _ hk) R') _ (by rw[szB];exact hv)
      exact sZ pB l a w hlt this
    ·cases hc
   ·cases hc
  all_goals (unfold JG at hc;cases hc)
theorem zkn (hm:P.follows .mixedOrders=true){C:Hd}(hC:∀ f a h K,C f a h K→pC P gl f a h K){n id:Nat}{c:ACode}{s:St}{K:Ex→St→Prop}{a:Act}{w:World}(hc:JG P nt n ops c=true)(H:AW C gl c s K)
 (R:Rel gl nt M0 h0 μ0 s.env s.h s.esc a { w with drawn:=w.drawn+1 } μ) (fin:∀(keep:Option (List Nat)) e h x a w μ,K .normal ⟨uA keep e,h,x⟩→Rel gl nt M0 h0 μ0 e h x a w μ→Q .normal a w):(Code.region id ops true).wp P Q a w:=by
 refine wp_region_draw fun t=>?_
 simp only[Region.schedule,hm,Bool.true_or,if_true];exact XZ hC n ops c s K a _ hc H R fin _ (z6D ops ops.size t _)
def z1v (P:Program)(nt:Nat)(ops:Array Oper)(t:Opd)(a b:ACode):Bool:=JG P nt 9 ops (.condu t a b)
end Go.Am
end
section
/- The abstract machine,part 21: code. -/
set_option linter.unusedSimpArgs false
set_option linter.unusedVariables false
set_option maxHeartbeats 1000000
namespace Go.Am
variable {h h':aA} {μ μ':Mu} {w w':World} {P:Program} {M M':Mem}
variable {gl:Nat→Option PV} {nt:Nat} {M0:Mem} {h0:aA} {μ0:Mu} {e:List (Nat × AV)} {x:Esc} {a:Act}
theorem zgu (H:HeapRel h μ w){id:Nat}{o:Obj}(ho:h[id]?=some o):o.top≤h.length:=by
 obtain⟨m,hm,hO⟩:=kF H ho;cases o with
 | box cs=>
  obtain⟨b,c,rfl,hb,hc⟩:=hO;exact z1f H hc
 | row sh xs fz=>simp [Obj.top]
 | amap es c=>
  obtain⟨b,n,ces,rfl,h1,h2,_,h3⟩:=hO;refine jH (fun j y hy=>?_)
  simp only[List.getElem?_map,Option.map_eq_some_iff]at hy;obtain⟨en,he,rfl⟩:=hy;have hj:j<ces.size:=by rw[h2];exact sA he
  exact(h3 j en ces[j] he (Array.getElem?_eq_getElem hj)).2.2.1.top_le
 | iter mm s seen l=>
  obtain⟨b,n,rfl,h1⟩:=hO;cases mm with
  | none=>simp [Obj.top]
  | some i=>
   obtain⟨bm,nm,es,c,h2,h3,h4⟩:=h1;simp only[Obj.top];exact sA h3
 | arow sh cs=>
  obtain⟨h1,h2⟩:=hO;cases m with
  | none=>subst h2;simp [Obj.top,AV.tops]
  | some m=>
   obtain⟨b,n⟩:=m;obtain⟨c,c1,c2,c3⟩:=h2;refine jH (fun j y hy=>?_)
   obtain⟨v,_,q⟩:=c3 j y hy;exact q.top_le
theorem WZ (H:HeapRel h μ w)(id:Nat):mE h id≤h.length:=by
 unfold mE;split
 ·exact zgu H ‹_›
 ·omega
theorem z8c (y:Esc)(n:Nat):n≤XE y n:=by
 unfold XE;induction y generalizing n with
 | nil=>simp
 | cons p r ih=>
  simp only[List.foldl_cons];split
  ·exact Nat.le_trans (by omega) (ih _)
  ·exact ih _
theorem lO:∀ (k:Nat) (y:Esc) (n:Nat),n≤sB k y n
 | 0,y,n=>Nat.le_refl _
 | k+1,y,n=>Nat.le_trans (z8c y n) (lO k y _)
theorem Evo.take {M'':Mem}(E:Evo M h μ M' h' μ'){n:Nat}(hn:h.length≤n)(L:M'.le M''):Evo M h μ M'' (h'.take n) (μ'.take n):=by
 refine⟨⟨fun b o v hv=>L.c _ _ _ (E.le.c _ _ _ hv),fun b o hv=>L.b _ _ (E.le.b _ _ hv),L.z.trans E.le.z,fun b t h=>L.s _ _ (E.le.s _ _ h)⟩,by have:=E.len;simp;omega,fun id o m h1 h2=>?_⟩
 obtain⟨o',m',h3,h4,h5⟩:=E.obj id o m h1 h2;have hi:id<n:=Nat.lt_of_lt_of_le (sA h1) hn
 exact⟨o',m',by rw[List.getElem?_take,if_pos hi];exact h3,by rw[List.getElem?_take,if_pos hi];exact h4,h5⟩
theorem kS {hs:aA}{μs:Mu}{Ms:Mem}{es:Esc}(Hs:∀ id,mE hs id≤hs.length)(H:HeapRel h μ w)(E:Evo Ms hs μs (imm h μ w) h μ)(I:nA hs h es){n:Nat}(hn:hs.length≤n)(hc:aB es n=true) :
 HeapRel (h.take n) (μ.take n) w∧(imm h μ w).le (imm (h.take n) (μ.take n) w)∧Evo Ms hs μs (imm (h.take n) (μ.take n) w) (h.take n) (μ.take n)∧nA hs (h.take n) (es.filter fun y=>decide (y.1<n)):=by
 have ht:∀id o,h[id]?=some o→id<n→o.top≤n:=by
  intro id o ho hi;have h1:=I id o ho
  have h2:=Hs id
  have h3:=z2l hc hi
  omega
 obtain⟨H1,L⟩:=H.take n ht;refine⟨H1,L,E.take hn L,fun id o ho=>?_⟩
 rw[List.getElem?_take]at ho;split at ho
 ·rename_i hi
  rw[z2m hi];exact I id o ho
 ·cases ho
theorem z7t (n:Nat)(e:List (Nat × AV))(t:Nat):eA (dE n e) t=if(eA e t).top≤n then eA e t else .und:=by
 induction e with
 | nil=>simp [dE,eA,AV.top]
 | cons y r ih=>
  simp only[dE,List.map_cons,eA]at ih ⊢;split
  ·rfl
  ·exact ih
theorem ZN (keep:Option (List Nat))(e:List (Nat × AV))(t:Nat):eA (uA keep e) t=eA e t∨eA (uA keep e) t = .und:=by
 cases keep with
 | none=>exact .inl rfl
 | some l=>
  simp only[uA];induction l with
  | nil=>exact .inr rfl
  | cons k r ih=>
   simp only[List.map_cons,eA];split
   ·rename_i hk;subst hk;exact .inl rfl
   ·exact ih
theorem zkl {x0:Esc}{s:St}{hs:aA}{μs:Mu}{ws:World}{e0:List (Nat × AV)}{a0:Act}(R:Rel gl nt M0 h0 μ0 e0 hs x0 a0 ws μs)(R':Rel gl nt (imm hs μs ws) hs μs s.env s.h s.esc a w μ) :
 ∃μ',Rel gl nt M0 h0 μ0 (eD hs.length x0 s).env (eD hs.length x0 s).h (eD hs.length x0 s).esc a w μ':=by
 unfold eD;dsimp only;split
 ·rename_i hc
  have hn:=lO s.esc.length s.esc hs.length
  generalize sB s.esc.length s.esc hs.length=n at hc hn;obtain⟨q1,q2,q3,q4⟩:=kS (fun id=>WZ R.heap id) R'.heap R'.evo R'.esc hn hc
  refine⟨μ.take n,q1,fun t=>?_,R'.glob.mono q2,R.evo.trans q3,nA.trans R.esc q4,R'.size,R'.defers⟩
  dsimp only;rw[z7t];split
  ·exact(R'.env t).take q2 ‹_›
  ·exact .und _
 ·exact⟨μ,R'.heap,R'.env,R'.glob,R.evo.trans R'.evo,nA.trans R.esc R'.esc,R'.size,R'.defers⟩
theorem Rel.drew (R:Rel gl nt M0 h0 μ0 e h x a w μ)(n:Nat):Rel gl nt M0 h0 μ0 e h x a { w with drawn:=n } μ:=by
 obtain⟨h1,h2⟩:=R.heap.ext (WExt.drew w n);exact⟨h1,fun t=>(R.env t).evo h2,R.glob.mono h2.le,R.evo.trans h2,R.esc,R.size,R.defers⟩
def DB (P:Program)(nt:Nat):ACode→Code→Bool
 | .skip,c=>match c with
  | .skip=>true
  | _=>false
 | .reg aops _,c=>match c with
  | .region _ ops false=>cG P nt ops aops 0
  | _=>false
 | .draw ds _,c=>match c with
  | .region _ ops true=>dO P nt ops ds
  | _=>false
 | .seq a b,c=>match c with
  | .seq a' b'=>DB P nt a a'&&DB P nt b b'
  | _=>false
 | .cond t a b,c=>match c with
  | .cond t' a' b'=>tA t t'&&DB P nt a a'&&DB P nt b b'
  | _=>false
 | .det b,c=>DB P nt b c
 | .condu t a b,c=>match c with
  | .cond t' a' b'=>tA t t'&&DB P nt a a'&&DB P nt b b'
  | .region _ ops true=>z1v P nt ops t a b
  | _=>false
 | .block i b,c=>match c with
  | .block i' b'=>i==i'&&DB P nt b b'
  | _=>false
 | .loop b,c=>match c with
  | .loop b'=>DB P nt b b'
  | _=>false
 | .scope b,c=>DB P nt b c
 | .pr _ b,c=>DB P nt b c
 | .exit i,c=>match c with
  | .exit i'=>i==i'
  | _=>false
 | .ret,c=>match c with
  | .ret=>true
  | _=>false
 | .bad,_=>true
def Ex.toExit:Ex→Exit
 | .normal=>.normal
 | .exit i=>.exit i
 | .ret=>.ret
theorem z7z {M:Mem}{h:aA}{μ:Mu}{x:Value}(R:RAV M h μ .anyb x):∃b,x = .bool b:=by
 cases R with|anyb b=>exact⟨b,rfl⟩
theorem OD (hm:P.follows .mixedOrders=true){C:Hd}(hC:∀ f a h K,C f a h K→pC P gl f a h K):∀(c:ACode) {k:Code},DB P nt c k=true→∀{s:St} {K:Ex→St→Prop} {M0:Mem} {h0:aA} {μ0:Mu} {a:Act} {w:World} {μ:Mu} {Q:Exit→Act→World→Prop},
 AW C gl c s K→Rel gl nt M0 h0 μ0 s.env s.h s.esc a w μ→(∀ex s' a' w' μ',K ex s'→Rel gl nt M0 h0 μ0 s'.env s'.h s'.esc a' w' μ'→Q ex.toExit a' w')→k.wp P Q a w
 | .skip,k,hc,s,K,M0,h0,μ0,a,w,μ,Q,H,R,hQ=>by
  simp only[DB]at hc;split at hc
  ·exact wp_skip (hQ .normal _ _ _ _ H R)
  ·cases hc
 | .reg aops keep,k,hc,s,K,M0,h0,μ0,a,w,μ,Q,H,R,hQ=>by
  simp only[DB]at hc;split at hc
  ·rename_i id ops
   refine wp_region ?_;have:=NF hC aops 0 (Q:=Q) hc H R (fun e h x a w μ hk R'=>hQ .normal ⟨uA keep e,h,x⟩ a w μ hk ⟨R'.heap,fun t=>?_,R'.glob,R'.evo,R'.esc,R'.size,R'.defers⟩)
   ·rwa [Nat.sub_zero,←List.range_eq_range']at this
   ·rcases ZN keep e t with q|q
    ·rw[q];exact R'.env t
    ·rw[q];exact .und _
  ·cases hc
 | .draw ds keep,k,hc,s,K,M0,h0,μ0,a,w,μ,Q,H,R,hQ=>by
  simp only[DB]at hc;split at hc
  ·rename_i id ops
   refine wp_region_any hm ?_;exact z1Y hC (Q:=Q) hc H (R.drew _) (fun e h x a w μ hk R'=>hQ .normal ⟨uA keep e,h,x⟩ a w μ hk ⟨R'.heap,fun t=>(by
    rcases ZN keep e t with q|q
    ·rw[q];exact R'.env t
    ·rw[q];exact .und _),R'.glob,R'.evo,R'.esc,R'.size,R'.defers⟩)
  ·cases hc
 | .seq c1 c2,k,hc,s,K,M0,h0,μ0,a,w,μ,Q,H,R,hQ=>by
  simp only[DB]at hc;split at hc
  ·simp only[Bool.and_eq_true]at hc
   refine wp_seq (OD hm hC c1 hc.1 H R (fun ex s' a' w' μ' hk R'=>?_))
   cases ex with
   | normal=>exact OD hm hC c2 hc.2 hk R' hQ
   | exit i=>exact hQ (.exit i) _ _ _ _ hk R'
   | ret=>exact hQ .ret _ _ _ _ hk R'
  ·cases hc
 | .det c,k,hc,s,K,M0,h0,μ0,a,w,μ,Q,H,R,hQ=>by
  simp only[DB]at hc;exact OD hm hC c hc H R hQ
 | .condu t c1 c2,k,hc,s,K,M0,h0,μ0,a,w,μ,Q,H,R,hQ=>by
  simp only[DB]at hc;split at hc
  ·simp only[Bool.and_eq_true]at hc
   unfold AW at H;split at H
   ·rename_i b hb
    have ht:=R.opds _ _ hc.1.1
    rw[hb]at ht;refine wp_cond ht.p_bool ?_;cases b with
    | true=>exact OD hm hC c1 hc.1.2 H R hQ
    | false=>exact OD hm hC c2 hc.2 H R hQ
   ·rename_i hb
    have ht:=R.opds _ _ hc.1.1
    rw[hb]at ht;obtain⟨g1,g2⟩:=H;obtain⟨b,hb'⟩:=z7z ht;refine wp_cond hb' ?_;cases b with
    | true=>exact OD hm hC c1 hc.1.2 g1 R hQ
    | false=>exact OD hm hC c2 hc.2 g2 R hQ
   ·exact H.elim
  ·rename_i id ops
   unfold z1v at hc;exact zkn hm hC (Q:=Q) hc H (R.drew _) fun keep e h x a w μ hk R'=>hQ .normal ⟨uA keep e,h,x⟩ a w μ hk ⟨R'.heap,fun t=>(by
    rcases ZN keep e t with q|q
    ·rw[q];exact R'.env t
    ·rw[q];exact .und _),R'.glob,R'.evo,R'.esc,R'.size,R'.defers⟩
  ·cases hc
 | .cond t c1 c2,k,hc,s,K,M0,h0,μ0,a,w,μ,Q,H,R,hQ=>by
  simp only[DB]at hc;split at hc
  ·simp only[Bool.and_eq_true]at hc
   unfold AW at H;split at H
   ·rename_i b hb
    have ht:=R.opds _ _ hc.1.1
    rw[hb]at ht;refine wp_cond ht.p_bool ?_;cases b with
    | true=>exact OD hm hC c1 hc.1.2 H R hQ
    | false=>exact OD hm hC c2 hc.2 H R hQ
   ·exact H.elim
  ·cases hc
 | .block i c,k,hc,s,K,M0,h0,μ0,a,w,μ,Q,H,R,hQ=>by
  simp only[DB]at hc;split at hc
  ·simp only[Bool.and_eq_true,beq_iff_eq]at hc
   obtain⟨rfl,hc⟩:=hc;refine wp_block (OD hm hC c hc H R (fun ex s' a' w' μ' hk R'=>?_))
   cases ex with
   | normal=>exact hQ .normal _ _ _ _ hk R'
   | exit j=>
    simp only[Ex.toExit,Exit.inBlock];dsimp only at hk;split
    ·rename_i hj;rw[if_pos hj]at hk;exact hQ .normal _ _ _ _ hk R'
    ·rename_i hj;rw[if_neg hj]at hk;exact hQ (.exit j) _ _ _ _ hk R'
   | ret=>exact hQ .ret _ _ _ _ hk R'
  ·cases hc
 | .loop c,k,hc,s,K,M0,h0,μ0,a,w,μ,Q,H,R,hQ=>by
  simp only[DB]at hc;split at hc
  ·rename_i b'
   intro b k cs;have key:∀(s:St),ALoop (AW C gl c) K s→∀(a:Act) (w:World) (μ:Mu),Rel gl nt M0 h0 μ0 s.env s.h s.esc a w μ →
    ∃e a' w',Q e a' w'∧Arrives P (lone (b.at a (.code b' :: .inLoop b'::k)) cs w) b k cs e a' w':=by
    intro s H;induction H with
    | mk s T hT hn he hr ih=>
     intro a w μ R;obtain⟨e,a1,w1,hq,harr⟩:=OD hm hC c hc (Q:=fun e a' w'=>match e with
      | .normal=>∃s' μ',T .normal s'∧Rel gl nt M0 h0 μ0 s'.env s'.h s'.esc a' w' μ'
      | e=>Q e a' w') hT R (fun ex s' a' w' μ' hk R'=>by
       cases ex with
       | normal=>exact⟨s',μ',hk,R'⟩
       | exit i=>exact hQ (.exit i) _ _ _ _ (he _ _ hk) R'
       | ret=>exact hQ .ret _ _ _ _ (hr _ hk) R') b (.inLoop b'::k) cs
     cases e with
     | normal=>
      obtain⟨s',μ',hk,R'⟩:=hq;obtain⟨e2,a2,w2,hq2,harr2⟩:=ih s' hk a1 w1 μ' R';exact⟨e2,a2,w2,hq2,.of_steps (Steps.trans harr (.one step_inLoop)) harr2⟩
     | exit id=>exact⟨_,a1,w1,hq,.pass (x:=.inLoop b') rfl (fun _ _=>.inl (by simp)) harr⟩
     | goto l=>exact⟨_,a1,w1,hq,.pass (x:=.inLoop b') rfl (fun _ _=>.inl (by simp)) harr⟩
     | ret=>exact⟨_,a1,w1,hq,.pass (x:=.inLoop b') rfl (fun _ _=>.inl (by simp)) harr⟩
     | panic ch=>exact⟨_,a1,w1,hq,.pass (x:=.inLoop b') rfl (fun _ _=>.inl (by simp)) harr⟩
     | outgrown=>exact⟨_,a1,w1,hq,.pass (x:=.inLoop b') rfl (fun _ _=>.inl (by simp)) harr⟩
   obtain⟨e,a',w',hq,harr⟩:=key s H a w μ R;exact⟨e,a',w',hq,.of_steps (.one step_loop) harr⟩
  ·cases hc
 | .scope c,k,hc,s,K,M0,h0,μ0,a,w,μ,Q,H,R,hQ=>by
  simp only[DB]at hc;refine OD hm hC c hc (M0:=imm s.h μ w) (h0:=s.h) (μ0:=μ) H ⟨R.heap,R.env,R.glob,Evo.refl _ _ _,nA.refl _ _,R.size,R.defers⟩ (fun ex s' a' w' μ' hk R'=>?_)
  obtain⟨μ'',R''⟩:=zkl R R';exact hQ ex _ _ _ _ hk R''
 | .pr l c,k,hc,s,K,M0,h0,μ0,a,w,μ,Q,H,R,hQ=>by
  simp only[DB]at hc;refine OD hm hC c hc H ⟨R.heap,fun t=>?_,R.glob,R.evo,R.esc,R.size,R.defers⟩ hQ
  dsimp only;rcases ZN (some l) s.env t with q|q
  ·rw[q];exact R.env t
  ·rw[q];exact .und _
 | .exit i,k,hc,s,K,M0,h0,μ0,a,w,μ,Q,H,R,hQ=>by
  simp only[DB]at hc;split at hc
  ·simp only[beq_iff_eq]at hc
   subst hc;exact wp_exit (hQ (.exit i) _ _ _ _ H R)
  ·cases hc
 | .ret,k,hc,s,K,M0,h0,μ0,a,w,μ,Q,H,R,hQ=>by
  simp only[DB]at hc;split at hc
  ·exact wp_ret (hQ .ret _ _ _ _ H R)
  ·cases hc
 | .bad,k,hc,s,K,M0,h0,μ0,a,w,μ,Q,H,R,hQ=>H.elim
end Go.Am
end
section
/- The abstract machine,part 22: results,calls;a call that ends well here ends well in the model. -/
set_option linter.unusedSimpArgs false
set_option linter.unusedVariables false
set_option maxHeartbeats 1000000
namespace Go.Am
variable {h h':aA} {μ μ':Mu} {w w':World} {P:Program} {M M':Mem}
variable {gl:Nat→Option PV} {nt:Nat} {M0:Mem} {h0:aA} {μ0:Mu} {e:List (Nat × AV)} {x:Esc} {a:Act}
def YC (P:Program):List ARes→List ResultVar→Bool
 | [],[]=>true
 | .t n::r,.tmp m::s=>n==m&&YC P r s
 | .o n::r,.tmp m::s=>n==m&&YC P r s
 | .cell n sh::r,.cell m t::s=>n==m&&IA P t==some sh&&YC P r s
 | _,_=>false
def LK (tmps:Array Value):ResultVar→Sem Value
 | .tmp t=>pure (tmps.getD t undef)
 | .cell a t=>do loadVar t (←asAddr (tmps.getD a undef))
theorem NR {s:St}(H:HeapRel s.h μ w)(he:∀ t,RAV (imm s.h μ w) s.h μ (eA s.env t) (a.tmps.getD t undef)):∀{rs:List ARes} {qs:List ResultVar} {vs:List AV},YC P rs qs=true→LC s rs=some vs →
 ∃us,(qs.mapM (LK a.tmps)).run P w = .ok us w∧vs.length=us.length∧∀(j:Nat) (y:AV) (v:Value),vs[j]?=some y→us[j]?=some v→RAV (imm s.h μ w) s.h μ y v
 | [],[],vs,_,hv=>by
  simp [LC]at hv;subst hv;exact⟨[],by simp,rfl,fun j y v h1 h2=>by simp at h1⟩
 | [],_::_,_,hc,_=>by simp [YC]at hc
 | .t n::r,[],_,hc,_=>by simp [YC]at hc
 | .o n::r,[],_,hc,_=>by simp [YC]at hc
 | .o n::r,.cell _ _::q,_,hc,_=>by simp [YC]at hc
 | .cell n sh::r,[],_,hc,_=>by simp [YC]at hc
 | .t n::r,.cell _ _::q,_,hc,_=>by simp [YC]at hc
 | .cell n sh::r,.tmp _::q,_,hc,_=>by simp [YC]at hc
 | .t n::r,.tmp m::q,vs,hc,hv=>by
  simp only[YC,Bool.and_eq_true,beq_iff_eq]at hc;obtain⟨rfl,hc⟩:=hc;simp only[LC,fL]at hv;simp only[Option.map_eq_some_iff]at hv;obtain⟨l,hl,rfl⟩:=hv;obtain⟨us,h1,h2,h3⟩:=NR H he hc hl;refine⟨a.tmps.getD n undef::us,by simp [LK,h1],by simp [h2],fun j y v hy hv=>?_⟩
  cases j with
  | zero=>simp at hy hv;subst hy;subst hv;simpa using he n
  | succ j=>exact h3 j y v (by simpa using hy) (by simpa using hv)
 | .o n::r,.tmp m::q,vs,hc,hv=>by
  simp only[YC,Bool.and_eq_true,beq_iff_eq]at hc;obtain⟨rfl,hc⟩:=hc;simp only[LC,fL]at hv;simp only[Option.map_eq_some_iff]at hv;obtain⟨l,hl,rfl⟩:=hv;obtain⟨us,h1,h2,h3⟩:=NR H he hc hl;refine⟨a.tmps.getD n undef::us,by simp [LK,h1],by simp [h2],fun j y v hy hv=>?_⟩
  cases j with
  | zero=>simp at hy hv;subst hy;subst hv;simpa using he n
  | succ j=>exact h3 j y v (by simpa using hy) (by simpa using hv)
 | .cell n sh::r,.cell m t::q,vs,hc,hv=>by
  simp only[YC,Bool.and_eq_true,beq_iff_eq]at hc;obtain⟨⟨rfl,hs⟩,hc⟩:=hc;simp only[LC]at hv;split at hv
  ·rename_i u hu
   simp only[Option.map_eq_some_iff]at hv;obtain⟨l,hl,rfl⟩:=hv;obtain⟨us,h1,h2,h3⟩:=NR H he hc hl;simp only[fL]at hu;split at hu
   ·rename_i id off hr
    split at hu
    ·rename_i cs ho
     have hR:=he n
     rw[hr]at hR;generalize hz:a.tmps.getD n undef=z at hR;cases hR with|ref _ _ b k cs' ho' hm=>
     obtain⟨b',c,hm',hb,hcell⟩:=H.obj _ _ _ ho hm;injection hm' with hm'
     injection hm' with e1 e2
     subst e1;obtain⟨c1,c2⟩:=pO (M:=imm s.h μ w) (h:=s.h) (μ:=μ) (f:=fun j=>(c[j]?).getD undef) hu (fun j x hx=>by obtain⟨_,v,q1,q2⟩:=hcell j x hx;simpa [q1] using q2)
     have hload:(loadVar t ⟨b,off,none⟩).run P w = .ok (RC sh fun j=>(c[off+j]?).getD undef) w:=by
      refine z4Y hs (fun j hj=>?_)
      rw[vD hb];have hlt:off+j<c.size:=by rw[hb.1];have:=c1;omega
      simp [hlt]
     refine⟨(RC sh fun j=>(c[off+j]?).getD undef)::us,?_,by simp [h2],fun j y v hy hv=>?_⟩
     ·simp only[List.mapM_cons,Sem.run_bind,LK,hz,asAddr]
      simp [hload,h1]
     ·cases j with
      | zero=>simp at hy hv;subst hy;subst hv;exact c2
      | succ j=>exact h3 j y v (by simpa using hy) (by simpa using hv)
    ·cases hu
   ·cases hu
  ·cases hv
theorem z4M {fn:Func}{s:St}(H:HeapRel s.h μ w)(he:∀ t,RAV (imm s.h μ w) s.h μ (eA s.env t) (a.tmps.getD t undef)){rs:List ARes}{vs:List AV}(hc:YC P rs fn.results.toList=true)(hv:LC s rs=some vs) :
 ∃u,(results fn a.tmps).run P w = .ok u w∧RAV (imm s.h μ w) s.h μ (CA vs) u:=by
 obtain⟨us,h1,h2,h3⟩:=NR H he hc hv;have hm:(fn.results.mapM (LK a.tmps)).run P w = .ok us.toArray w:=by
  rw[Array.mapM_eq_mapM_toList];simp [h1]
 refine⟨if hz:us.toArray.size=1 then us.toArray[0] else .tuple us.toArray,?_,?_⟩
 ·unfold results
  rw[Sem.run_bind];show(Sem.run P (fn.results.mapM (LK a.tmps)) w).andThen _=_
  rw[hm];rfl
 ·match vs,us,h2,h3 with
  | [v],[u],_,h3=>exact h3 0 v u rfl rfl
  | [],[],_,h3=>exact .tup [] [] rfl (fun j y v h1 h2=>by simp at h1)
  | a::b::r,c::d::q,h2,h3=>exact .tup _ (c::d::q) h2 h3
theorem z42 (H:HeapRel h μ w){n:Nat}(L:(imm h μ w).le (imm (h.take n) (μ.take n) w)){id g off len:Nat}{x:Value}{sh:Sh}{xs:List PV}(R:RAV (imm h μ w) h μ (.own id g off len) x)(hr:rd h (.own id g off len)=some (sh,xs))
 (hn:n≤id):RPV (imm (h.take n) (μ.take n) w) (.sl sh xs) x:=by
 obtain⟨ys,fz,ho,hc1,hc2,hr⟩:=xZ hr;obtain⟨_,g2,a,cap,rfl,g3,g4⟩:=KF H R ho hc1;have hlen:xs.length=len:=by rw[hr];exact rS hc2
 by_cases hne:xs=[]
 ·have hl0:len=0:=by rw[←hlen,hne];rfl
  rw[hne,hl0];exact .nils _ _ _
 ·have hpos:0<xs.length:=List.length_pos_iff.2 hne
  obtain⟨b,m,c,hm,ha,hB,hn1,hn2,hcells⟩:=g4 (by omega)
  have he:∀x∈xs,x.cells.length=gA sh:=fun x hx=>UB (g2 x (lH (hr ▸ hx)))
  have hcell:∀(j:Nat) (y:PV),(xs.flatMap PV.cells)[j]?=some y→∃v,c[off*gA sh+j]?=some v∧RPV (imm h μ w) y v:=by
   intro j y hy;obtain⟨x,h5,h6,h8,h7⟩:=oG he hy;rw[hr]at h5;have h9:=qS h5
   have h10:=hcells _ _ x y h9.2 h6
   rw[show(off+j / gA sh)*gA sh+j%gA sh=off*gA sh+j by rw[Nat.add_mul];omega]at h10
   exact h10
  subst ha;have key:RPV (imm (h.take n) (μ.take n) w) (.sl sh xs) (.slice (some ⟨b,off*gA sh,none⟩) xs.length cap):=by
   refine .sl sh xs b (off*gA sh) cap (fun j=>(c[off*gA sh+j]?).getD undef) hne (by omega) (fun x hx=>g2 x (lH (hr ▸ hx))) (fun j y hy=>?_) (fun j y hy=>?_)
   ·obtain⟨v,h5,h6⟩:=hcell j y hy
    refine ED.2 ⟨?_,by rw[vD hB,h5];simp [h5]⟩
    rintro⟨i,n',h8,h9⟩
    rw[List.getElem?_take]at h8;split at h8
    ·have:=H.distinct i id b n' m h8 hm
     omega
    ·cases h8
   ·obtain⟨v,h5,h6⟩:=hcell j y hy
    have:(c[off*gA sh+j]?).getD undef=v:=by simp [h5]
    simp only[this];exact h6.mono L
  rwa [hlen]at key
theorem z4D (H:HeapRel h μ w){n:Nat}(L:(imm h μ w).le (imm (h.take n) (μ.take n) w)):∀(cs:List AV) {vs:List PV},(∀x∈cs,x.sc=true)→YM n h cs=some vs →
 vs.length=cs.length∧(∀x∈vs,x.sc=true)∧∀(j:Nat) (y:AV) (z:PV) (v:Value),cs[j]?=some y→vs[j]?=some z→RAV (imm h μ w) h μ y v→RPV (imm (h.take n) (μ.take n) w) z v
 | [],vs,_,e=>by
  simp [YM]at e;subst e;exact⟨rfl,by simp,fun j y z v hy=>by simp at hy⟩
 | a::r,vs,hs,e=>by
  simp only[YM]at e;split at e;case h_2=>cases e
  rename_i x hx;simp only[Option.map_eq_some_iff]at e;obtain⟨xs,h1,rfl⟩:=e;obtain⟨q1,q2,q3⟩:=z4D H L r (fun x hx=>hs x (by simp [hx])) h1
  have hsa:=hs a (by simp)
  have key:x.sc=true∧∀v,RAV (imm h μ w) h μ a v→RPV (imm (h.take n) (μ.take n) w) x v:=by
   unfold rd0 at hx;split at hx
   ·injection hx with hx;subst hx;exact⟨hsa,fun v R=>R.p_inv.mono L⟩
   ·injection hx with hx;subst hx;exact⟨rfl,fun v R=>by obtain⟨a,rfl⟩:=TK R;exact .nils _ _ _⟩
   ·injection hx with hx;subst hx;exact⟨rfl,fun v R=>by cases R;exact .nilp⟩
   ·split at hx
    ·rename_i hn
     simp only[Option.map_eq_some_iff]at hx;obtain⟨⟨sh,ys⟩,h1,rfl⟩:=hx;exact⟨rfl,fun v R=>z42 H L R h1 hn⟩
    ·cases hx
   ·cases hx
  refine⟨by simp [q1],fun y hy=>?_,fun j y z v hy hz R=>?_⟩
  ·rcases List.mem_cons.1 hy with rfl|hy
   ·exact key.1
   ·exact q2 y hy
  ·cases j with
   | zero=>simp at hy hz;subst hy;subst hz;exact key.2 v R
   | succ j=>exact q3 j y z v (by simpa using hy) (by simpa using hz) R
theorem z76 (H:HeapRel h μ w){n:Nat}(L:(imm h μ w).le (imm (h.take n) (μ.take n) w)){t id g:Nat}{x:Value}{u:AV}(R:RAV (imm h μ w) h μ (.bt 3 t id g) x)(hr:rdA n h id g=some u)
 (hn:n≤id):RAV (imm (h.take n) (μ.take n) w) (h.take n) (μ.take n) u x:=by
 unfold rdA at hr;split at hr;case h_2=>cases hr
 rename_i sh cs ho;split at hr;case isFalse=>cases hr
 rename_i hg;simp only[Option.map_eq_some_iff]at hr;obtain⟨vs,h1,rfl⟩:=hr;cases R with|bt3 _ _ _ a cap o m hl ho' hm hv=>
 rw[ho]at ho';injection ho' with ho'
 obtain⟨hv1,hv2⟩:=hv sh cs ho'.symm;have hO:=hv2 hg
 obtain⟨k1,k2⟩:=H.obj id _ m ho hm;obtain⟨q1,q2,q3⟩:=z4D H L cs k1 h1;obtain⟨s1,s2,s3⟩:=z1x (sh:=sh) (g:=g) (vs:=vs) (by rw[q1,hg]) q2
 by_cases hz:g=0
 ·subst hz
  have hxs:EC sh 0 vs=[]:=List.length_eq_zero_iff.1 s1
  rw[hxs];exact .p _ _ (.nils _ _ _)
 ·have hm2:∃b k c,m=some (b,k)∧a=some ⟨b,0,none⟩∧OA w b k c∧∀(j:Nat) (x:AV),cs[j]?=some x→∃v,c[j]?=some v∧RAV (imm h μ w) h μ x v:=by
   cases m with
   | none=>simp [tE]at hO;omega
   | some m=>
    obtain⟨b,k⟩:=m;obtain⟨c,c1,c2,c3⟩:=k2;rcases hO with q|q
    ·omega
    ·exact⟨b,k,c,rfl,by rw[q.1,Nat.zero_mul],c1,c3⟩
  obtain⟨b,k,c,rfl,rfl,hB,hcells⟩:=hm2;have he:∀x∈EC sh g vs,x.cells.length=gA sh:=fun x hx=>UB (s2 x hx)
  have hcell:∀(j:Nat) (y:PV),((EC sh g vs).flatMap PV.cells)[j]?=some y→∃v,c[j]?=some v∧RPV (imm (h.take n) (μ.take n) w) y v:=by
   intro j y hy;obtain⟨x,h5,h6,h8,h7⟩:=oG he hy;have h9:=s3 _ _ x y h5 h6
   have hj:j / gA sh*gA sh+j%gA sh=j:=Nat.div_add_mod' j (gA sh)
   rw[hj]at h9;have hlt:j<cs.length:=by have:=sA h9;omega
   obtain⟨v,v1,v2⟩:=hcells j cs[j] (List.getElem?_eq_getElem hlt);exact⟨v,v1,q3 j cs[j] y v (List.getElem?_eq_getElem hlt) h9 v2⟩
  have key:RPV (imm (h.take n) (μ.take n) w) (.sl sh (EC sh g vs)) (.slice (some ⟨b,0,none⟩) (EC sh g vs).length cap):=by
   refine .sl sh _ b 0 cap (fun j=>(c[j]?).getD undef) (fun e=>hz (by rw[←s1,e];rfl)) (by rw[s1];exact hl) s2 (fun j y hy=>?_) (fun j y hy=>?_)
   ·obtain⟨v,h5,h6⟩:=hcell j y hy
    refine ED.2 ⟨?_,by rw[vD hB,Nat.zero_add,h5];simp [h5]⟩
    rintro⟨i,n',h8,h9⟩
    rw[List.getElem?_take]at h8;split at h8
    ·have:=H.distinct i id b n' k h8 hm
     omega
    ·cases h8
   ·obtain⟨v,h5,h6⟩:=hcell j y hy
    have:(c[j]?).getD undef=v:=by simp [h5]
    simp only[this];exact h6
  rw[s1]at key;exact .p _ _ key
mutual
theorem z4J (H:HeapRel h μ w){n:Nat}(L:(imm h μ w).le (imm (h.take n) (μ.take n) w)):∀(v:AV) {u:AV} {x:Value},RAV (imm h μ w) h μ v x→GA n h v=some u→u.top≤n→RAV (imm (h.take n) (μ.take n) w) (h.take n) (μ.take n) u x
 | .own id g off len,u,x,R,hr,ht=>by
  simp only[GA]at hr;split at hr
  ·rename_i hn
   simp only[Option.map_eq_some_iff]at hr;obtain⟨⟨sh,xs⟩,h1,rfl⟩:=hr;exact .p _ _ (z42 H L R h1 hn)
  ·injection hr with hr;subst hr;exact R.take L ht
 | .sl0 sh,u,x,R,hr,ht=>by
  simp only[GA]at hr;injection hr with hr
  subst hr;obtain⟨a,rfl⟩:=TK R;exact .p _ _ (.nils _ _ _)
 | .agg cs,u,x,R,hr,ht=>by
  simp only[GA,Option.map_eq_some_iff]at hr;obtain⟨us,h1,rfl⟩:=hr;cases R with|agg _ xs hl hrr=>
  have htop:AV.tops us≤n:=by
   unfold mkA at ht;split at ht
   ·rename_i ps hp
    have:=WK hp;subst this;rw[z5L];omega
   ·simpa [AV.top] using ht
  obtain⟨q1,q2⟩:=CZ H L cs hl hrr h1 htop;exact pX q1 q2
 | .tup cs,u,x,R,hr,ht=>by
  simp only[GA,Option.map_eq_some_iff]at hr;obtain⟨us,h1,rfl⟩:=hr;cases R with|tup _ xs hl hrr=>
  obtain⟨q1,q2⟩:=CZ H L cs hl hrr h1 (by simpa [AV.top] using ht)
  exact .tup us xs q1 q2
 | .p v,u,x,R,hr,ht=>by simp only[GA]at hr;injection hr with hr;subst hr;exact R.take L ht
 | .ref _ _,u,x,R,hr,ht=>by simp only[GA]at hr;injection hr with hr;subst hr;exact R.take L ht
 | .rref _ _ _ _,u,x,R,hr,ht=>by simp only[GA]at hr;injection hr with hr;subst hr;exact R.take L ht
 | .vp _,u,x,R,hr,ht=>by simp only[GA]at hr;injection hr with hr;subst hr;exact R.take L ht
 | .nilp,u,x,R,hr,ht=>by simp only[GA]at hr;injection hr with hr;subst hr;exact R.take L ht
 | .nilm,u,x,R,hr,ht=>by simp only[GA]at hr;injection hr with hr;subst hr;exact R.take L ht
 | .nilf,u,x,R,hr,ht=>by simp only[GA]at hr;injection hr with hr;subst hr;exact R.take L ht
 | .nili,u,x,R,hr,ht=>by simp only[GA]at hr;injection hr with hr;subst hr;exact R.take L ht
 | .ifc,u,x,R,hr,ht=>by simp only[GA]at hr;injection hr with hr;subst hr;exact R.take L ht
 | .mp _,u,x,R,hr,ht=>by simp only[GA]at hr;injection hr with hr;subst hr;exact R.take L ht
 | .it _,u,x,R,hr,ht=>by simp only[GA]at hr;injection hr with hr;subst hr;exact R.take L ht
 | .fn _ _,u,x,R,hr,ht=>by simp only[GA]at hr;injection hr with hr;subst hr;exact R.take L ht
 | .anyb,u,x,R,hr,ht=>by simp only[GA]at hr;injection hr with hr;subst hr;exact R.take L ht
 | .skp,u,x,R,hr,ht=>by simp only[GA]at hr;injection hr with hr;subst hr;exact R.take L ht
 | .und,u,x,R,hr,ht=>by simp only[GA]at hr;injection hr with hr;subst hr;exact R.take L ht
 | .anyp,u,x,R,hr,ht=>by simp only[GA]at hr;injection hr with hr;subst hr;exact R.take L ht
 | .bt k t id g,u,x,R,hr,ht=>by
  simp only[GA]at hr;cases hk:(Nat.beq k 3&&decide (n≤id)) with
  | false=>rw[hk]at hr;injection hr with hr;subst hr;exact R.take L ht
  | true=>
   rw[hk]at hr;simp only[Bool.and_eq_true,decide_eq_true_eq]at hk;have hk1:=Nat.eq_of_beq_eq_true hk.1
   subst hk1;exact z76 H L R hr hk.2
theorem CZ (H:HeapRel h μ w){n:Nat}(L:(imm h μ w).le (imm (h.take n) (μ.take n) w)):∀(cs:List AV) {us:List AV} {xs:List Value},cs.length=xs.length →
 (∀(j:Nat) (y:AV) (v:Value),cs[j]?=some y→xs[j]?=some v→RAV (imm h μ w) h μ y v)→vG n h cs=some us→AV.tops us≤n →
 us.length=xs.length∧∀(j:Nat) (y:AV) (v:Value),us[j]?=some y→xs[j]?=some v→RAV (imm (h.take n) (μ.take n) w) (h.take n) (μ.take n) y v
 | [],us,xs,hl,hr,e,ht=>by
  simp only[vG]at e;injection e with e
  subst e;exact⟨hl,fun j y v h1 _=>by simp at h1⟩
 | c::r,us,xs,hl,hr,e,ht=>by
  cases xs with
  | nil=>simp at hl
  | cons x xs=>
   simp only[vG]at e;split at e
   ·rename_i u hu
    simp only[Option.map_eq_some_iff]at e;obtain⟨l,h1,rfl⟩:=e;simp only[AV.tops]at ht;have k1:=z4J H L c (hr 0 c x rfl rfl) hu (by omega)
    obtain⟨k2,k3⟩:=CZ H L r (xs:=xs) (by simpa using hl) (fun j y v h1 h2=>hr (j+1) y v (by simpa using h1) (by simpa using h2)) h1 (by omega)
    refine⟨by simp [k2],fun j y v hy hv=>?_⟩
    cases j with
    | zero=>simp at hy hv;subst hy;subst hv;exact k1
    | succ j=>exact k3 j y v (by simpa using hy) (by simpa using hv)
   ·cases e
end
theorem LR:∀ (asv:List AV) {h:aA} {vs:List Value} {asv':List AV} {h1:aA},HeapRel h μ w→asv.length=vs.length →
 (∀(j:Nat) (y:AV) (v:Value),asv[j]?=some y→vs[j]?=some v→RAV (imm h μ w) h μ y v)→lA h asv=some (asv',h1) →
 VE h μ w h1∧asv'.length=vs.length∧∀(j:Nat) (y:AV) (v:Value),asv'[j]?=some y→vs[j]?=some v→RAV (imm h1 μ w) h1 μ y v
 | [],h,vs,asv',h1,H,hl,hr,e=>by
  simp only[lA,Option.some.injEq,Prod.mk.injEq]at e;obtain⟨rfl,rfl⟩:=e;exact⟨⟨H,Evo.refl _ _ _,nA.refl _ _⟩,hl,fun j y v hy=>by simp at hy⟩
 | a::r,h,vs,asv',h1,H,hl,hr,e=>by
  cases vs with
  | nil=>simp at hl
  | cons x vs=>
   have step:∀{h2:aA} {u:AV},VE h μ w h2→RAV (imm h2 μ w) h2 μ u x→(lA h2 r).map (fun y=>(u::y.1,y.2))=some (asv',h1) →
    VE h μ w h1∧asv'.length=(x::vs).length∧∀(j:Nat) (y:AV) (v:Value),asv'[j]?=some y→(x::vs)[j]?=some v→RAV (imm h1 μ w) h1 μ y v:=by
    intro h2 u ⟨a1,a2,a3⟩ hu e;simp only[Option.map_eq_some_iff,Prod.mk.injEq]at e;obtain⟨⟨l,h3⟩,hp,rfl,rfl⟩:=e;obtain⟨⟨b1,b2,b3⟩,b4,b5⟩:=LR r a1 (vs:=vs) (by simpa using hl) (fun j y v hy hv=>(hr (j+1) y v (by simpa using hy) (by simpa using hv)).evo a2) hp
    refine⟨⟨b1,a2.trans b2,by simpa using nA.trans a3 b3⟩,by simp [b4],fun j y v hy hv=>?_⟩
    cases j with
    | zero=>simp at hy hv;subst hy;subst hv;exact hu.evo b2
    | succ j=>exact b5 j y v (by simpa using hy) (by simpa using hv)
   have h0:=hr 0 a x rfl rfl
   cases a;case own id g off len=>
    simp only[lA]at e;split at e
    ·rename_i z hz
     obtain⟨sh,xs⟩:=z;obtain⟨k1,k2,k3,k4⟩:=NM H h0 hz;exact step ⟨k1,k2,k3⟩ (.p _ _ k4) e
    ·cases e
   case agg cs=>
    simp only[lA]at e;split at e
    ·rename_i pv h2 hp
     obtain⟨k1,k2⟩:=KR _ H h0 hp;exact step k1 (.p _ _ k2) e
    ·cases e
   case sl0 sh=>
    simp only[lA]at e;obtain⟨b,rfl⟩:=TK h0;exact step ⟨H,Evo.refl _ _ _,nA.refl _ _⟩ (.p _ _ (.nils _ _ _)) e
   all_goals
    simp only[lA]at e;exact step ⟨H,Evo.refl _ _ _,nA.refl _ _⟩ h0 e
end Go.Am
end
section
/- The abstract machine,part 23: a call that ends well here ends well in the model. -/
set_option linter.unusedSimpArgs false
set_option linter.unusedVariables false
set_option maxHeartbeats 1000000
namespace Go.Am
variable {h h':aA} {μ μ':Mu} {w w':World} {P:Program} {M M':Mem}
variable {gl:Nat→Option PV} {nt:Nat} {M0:Mem} {h0:aA} {μ0:Mu} {e:List (Nat × AV)} {x:Esc} {a:Act}
theorem RAV.upto {M M':Mem}(hM:M.le M'){h h':aA}{μ μ':Mu}{n:Nat}(gh:∀ {i:Nat} {y:Obj},h[i]?=some y→i<n→h'[i]?=some y)(gm:∀ {i:Nat} {y:Option (Nat × Nat)},μ[i]?=some y→i<n→μ'[i]?=some y){v:AV}{x:Value}(H:RAV M h μ v x):v.top≤n→RAV M' h' μ' v x:=by
 induction H with
 | p v x hv=>exact fun _=>.p v x (hv.mono hM)
 | own id g off len a cap sh xs fz m hl ho hm hg hgl hv=>exact fun ht=>.own id g off len a cap sh xs fz m hl (gh ho ht) (gm hm ht) hg hgl hv
 | sl0 sh a=>exact fun _=>.sl0 sh a
 | ref id off b n cs ho hm=>exact fun ht=>.ref id off b n cs (gh ho ht) (gm hm ht)
 | rref id g i off a sh xs fz m ho hm hg hi hv=>exact fun ht=>.rref id g i off a sh xs fz m (gh ho ht) (gm hm ht) hg hi hv
 | vp v b o f hm hr=>exact fun _=>.vp v b o f (fun j y hy=>hM.c _ _ _ (hm j y hy)) (fun j y hy=>(hr j y hy).mono hM)
 | nilp=>exact fun _=>.nilp
 | nilm=>exact fun _=>.nilm
 | nilf=>exact fun _=>.nilf
 | nili=>exact fun _=>.nili
 | ifc t v=>exact fun _=>.ifc t v
 | mp id b n es c ho hm=>exact fun ht=>.mp id b n es c (gh ho ht) (gm hm ht)
 | it id b n m s seen l ho hm=>exact fun ht=>.it id b n m s seen l (gh ho ht) (gm hm ht)
 | fn f cs vs hl hr ih=>exact fun ht=>.fn f cs vs hl (fun j y v h1 h2=>ih j y v h1 h2 (by have:=TD h1;simp only[AV.top]at ht;omega))
 | agg cs vs hl hr ih=>exact fun ht=>.agg cs vs hl (fun j y v h1 h2=>ih j y v h1 h2 (by have:=TD h1;simp only[AV.top]at ht;omega))
 | tup cs vs hl hr ih=>exact fun ht=>.tup cs vs hl (fun j y v h1 h2=>ih j y v h1 h2 (by have:=TD h1;simp only[AV.top]at ht;omega))
 | anyb b=>exact fun _=>.anyb b
 | skp=>exact fun _=>.skp
 | und x=>exact fun _=>.und x
 | anyp a=>exact fun _=>.anyp a
 | bt0 t id g b n cs ho hm hs=>exact fun ht=>.bt0 t id g b n cs (gh ho ht) (gm hm ht) (hM.s _ _ hs)
 | bt1 t id g a cap xs fz m hl ho hm hg hv=>exact fun ht=>.bt1 t id g a cap xs fz m hl (gh ho ht) (gm hm ht) hg (fun e=>by
  have q:=hv e
  cases m with
  | none=>exact q
  | some m=>exact⟨q.1,q.2.1,hM.s _ _ q.2.2⟩)
 | bt2 t id g a xs fz m ho hm hg hv=>exact fun ht=>.bt2 t id g a xs fz m (gh ho ht) (gm hm ht) hg (fun e=>by obtain⟨b,n,q1,q2,q3⟩:=hv e;exact⟨b,n,q1,q2,hM.s _ _ q3⟩)
 | bt3 t id g a cap o m hl ho hm hv=>exact fun ht=>.bt3 t id g a cap o m hl (gh ho ht) (gm hm ht) hv
 | bt4 off id g a o m ho hm hv=>exact fun ht=>.bt4 off id g a o m (gh ho ht) (gm hm ht) hv
theorem HeapRel.sel (H:HeapRel h μ w)(n:Nat)(hn:n≤h.length)(ht:∀ id o,h[id]?=some o→id<n→o.top≤n){id:Nat}(hid:n≤id){sh:Sh}{xs:List PV}{fz:Nat}{m:Option (Nat × Nat)}(ho:h[id]?=some (.row sh xs fz))(hm:μ[id]?=some m) :
 HeapRel (h.take n++[.row sh xs fz]) (μ.take n++[m]) w∧(imm h μ w).le (imm (h.take n++[.row sh xs fz]) (μ.take n++[m]) w):=by
 have hnm:n≤μ.length:=by rw[H.len];exact hn
 have get:∀{α:Type} {l:List α} {i:Nat} {y z:α},n≤l.length→(l.take n++[z])[i]?=some y→(i<n∧l[i]?=some y)∨(i=n∧y=z):=by
  intro α l i y z hl hy;have hln:(l.take n).length=n:=by rw[List.length_take];omega
  rcases Nat.lt_or_ge i n with hi|hi
  ·rw[List.getElem?_append_left (by omega),List.getElem?_take,if_pos hi]at hy
   exact .inl ⟨hi,hy⟩
  ·rw[List.getElem?_append_right (by omega),hln]at hy
   have:i=n:=by
    have:=sA hy;simp at this;omega
   subst this;rw[Nat.sub_self]at hy;exact .inr ⟨rfl,by simpa using hy.symm⟩
 have put:∀{α:Type} {l:List α} {z:α},n≤l.length→∀{i:Nat} {y:α},l[i]?=some y→i<n→(l.take n++[z])[i]?=some y:=by
  intro α l z hl i y hy hi;rw[List.getElem?_append_left (by rw[List.length_take];omega),List.getElem?_take,if_pos hi,hy]
 have last:∀{α:Type} {l:List α} {z:α},n≤l.length→(l.take n++[z])[n]?=some z:=by
  intro α l z hl;rw[List.getElem?_append_right (by rw[List.length_take];omega)]
  have:n-(l.take n).length=0:=by rw[List.length_take];omega
  rw[this];rfl
 have back:∀{i b k},(μ.take n++[m])[i]?=some (some (b,k))→∃j,μ[j]?=some (some (b,k))∧(i<n→j=i)∧(i=n→j=id)∧(i<n∨i=n):=fun {i b k} e=>by
  rcases get hnm e with⟨a1,a2⟩|⟨a1,a2⟩
  ·exact⟨i,a2,fun _=>rfl,fun q=>by omega,.inl a1⟩
  ·exact⟨id,by rw[hm,a2],fun q=>by omega,fun _=>rfl,.inr a1⟩
 have L:(imm h μ w).le (imm (h.take n++[.row sh xs fz]) (μ.take n++[m]) w):=uM (fun b x v h1 h2=>⟨fun⟨i,k,h3,h4⟩=>by
  obtain⟨j,q1,q2,q3,q4⟩:=back h3;refine h1 ⟨j,k,q1,fun sh' xs' fz' h5=>?_⟩
  rcases q4 with q4|q4
  ·have:=q2 q4;subst this;exact h4 sh' xs' fz' (put hn h5 q4)
  ·have:=q3 q4;subst this
   rw[ho]at h5;cases h5;exact h4 sh xs fz (by rw[q4];exact last hn),h2⟩) (fun b o h1 h2=>⟨fun⟨i,k,h3⟩=>by
  obtain⟨j,q1,_⟩:=back h3;exact h1 ⟨j,k,q1⟩,h2⟩) rfl (fun _ _ h=>h)
 refine⟨⟨by simp [H.len],fun i o' m' h1 h2=>?_,fun i j b k k' h1 h2=>?_,fun i b k h1=>?_⟩,L⟩
 ·rcases get hn h1 with⟨hi,h1⟩|⟨hi,rfl⟩
  ·rcases get hnm h2 with⟨_,h2⟩|⟨hi2,_⟩
   ·have hR:=H.obj i o' m' h1 h2
    have htop:=ht i o' h1 hi
    cases o' with
    | box cs=>
     obtain⟨b,c,rfl,hb,hc⟩:=hR;refine⟨b,c,rfl,hb,fun j x hx=>?_⟩
     obtain⟨h3,v,h4,h5⟩:=hc j x hx;exact⟨h3,v,h4,h5.upto L (put hn) (put hnm) (by have:=TD hx;simp only[Obj.top]at htop;omega)⟩
    | row sh xs fz=>
     obtain⟨h3,h4,h5⟩:=hR;refine⟨h3,h4,?_⟩;cases m' with
     | none=>exact h5
     | some m=>
      obtain⟨b,k⟩:=m;obtain⟨c,h6,h7,h8⟩:=h5;refine⟨c,h6,h7,fun i j x y hx hy=>?_⟩
      obtain⟨v,h9,h10⟩:=h8 i j x y hx hy;exact⟨v,h9,h10.mono L⟩
    | amap es clk=>
     obtain⟨b,k,ces,rfl,h3,h4,hb,h5⟩:=hR;refine⟨b,k,ces,rfl,h3,h4,hb,fun i e ce he hc=>?_⟩
     obtain⟨h6,h7,h8,h9⟩:=h5 i e ce he hc;refine⟨h6.mono L,h7,h8.upto L (put hn) (put hnm) ?_,h9⟩;have:(es.map ME.val)[i]?=some e.val:=by simp [he]
     have:=TD this;simp only[Obj.top]at htop;omega
    | iter mm s seen l=>
     obtain⟨b,k,rfl,h3⟩:=hR;refine⟨b,k,rfl,?_⟩;cases mm with
     | none=>exact h3
     | some i=>
      obtain⟨bm,nm,es,c,h4,h5,h6⟩:=h3;simp only[Obj.top]at htop;exact⟨bm,nm,es,c,put hnm h4 (by omega),put hn h5 (by omega),h6⟩
    | arow sh cs=>
     obtain⟨h3,h4⟩:=hR;refine⟨h3,?_⟩;cases m' with
     | none=>exact h4
     | some m=>
      obtain⟨b,k⟩:=m;obtain⟨c,h6,h7,h8⟩:=h4;refine⟨c,h6,h7,fun j x hx=>?_⟩
      obtain⟨v,h9,h10⟩:=h8 j x hx;exact⟨v,h9,h10.upto L (put hn) (put hnm) (by have:=TD hx;simp only[Obj.top]at htop;omega)⟩
   ·omega
  ·rcases get hnm h2 with⟨hi2,_⟩|⟨_,rfl⟩
   ·omega
   ·obtain⟨h3,h4,h5⟩:=H.obj id _ _ ho hm
    refine⟨h3,h4,?_⟩;cases m' with
    | none=>exact h5
    | some m=>
     obtain⟨b,k⟩:=m;obtain⟨c,h6,h7,h8⟩:=h5;refine⟨c,h6,h7,fun i j x y hx hy=>?_⟩
     obtain⟨v,h9,h10⟩:=h8 i j x y hx hy;exact⟨v,h9,h10.mono L⟩
 ·obtain⟨i',q1,q2,q3,q4⟩:=back h1
  obtain⟨j',r1,r2,r3,r4⟩:=back h2;have:=H.distinct i' j' b k k' q1 r1;rcases q4 with q4|q4 <;> rcases r4 with r4|r4
  ·have:=q2 q4;have:=r2 r4;omega
  ·have:=q2 q4;have:=r3 r4;omega
  ·have:=q3 q4;have:=r2 r4;omega
  ·omega
 ·obtain⟨i',q1,_⟩:=back h1
  exact H.inside i' b k q1
theorem zjr {hs:aA}{μs:Mu}{Ms:Mem}{es:Esc}(Hs:∀ id,mE hs id≤hs.length)(H:HeapRel h μ w)(E:Evo Ms hs μs (imm h μ w) h μ)(I:nA hs h es)(hc:aB es hs.length=true){id:Nat}(hid:hs.length≤id){sh:Sh}{xs:List PV}{fz:Nat}{m:Option (Nat × Nat)}(ho:h[id]?=some (.row sh xs fz))(hm:μ[id]?=some m) :
 HeapRel (h.take hs.length++[.row sh xs fz]) (μ.take hs.length++[m]) w∧(imm h μ w).le (imm (h.take hs.length++[.row sh xs fz]) (μ.take hs.length++[m]) w)∧Evo Ms hs μs (imm (h.take hs.length++[.row sh xs fz]) (μ.take hs.length++[m]) w) (h.take hs.length++[.row sh xs fz]) (μ.take hs.length++[m])∧nA hs (h.take hs.length++[.row sh xs fz]) (es.filter fun y=>decide (y.1<hs.length)):=by
 have ht:∀id o,h[id]?=some o→id<hs.length→o.top≤hs.length:=by
  intro id o ho hi;have h1:=I id o ho
  have h2:=Hs id
  have h3:=z2l hc hi
  omega
 obtain⟨H1,L⟩:=H.sel hs.length E.len ht hid ho hm;have hlm:hs.length≤μ.length:=by rw[H.len];exact E.len
 refine⟨H1,L,⟨⟨fun b o v q=>L.c _ _ _ (E.le.c _ _ _ q),fun b o q=>L.b _ _ (E.le.b _ _ q),L.z.trans E.le.z,fun b t q=>L.s _ _ (E.le.s _ _ q)⟩,by have:=E.len;simp only[List.length_append,List.length_take,List.length_cons,List.length_nil];omega,fun i o m0 q1 q2=>?_⟩,fun i o q=>?_⟩
 ·obtain⟨o',m',r1,r2,r3⟩:=E.obj i o m0 q1 q2
  have hi:=sA q1
  have el:=E.len
  exact⟨o',m',by rw[List.getElem?_append_left (by rw[List.length_take];omega),List.getElem?_take,if_pos hi,r1],by rw[List.getElem?_append_left (by rw[List.length_take];omega),List.getElem?_take,if_pos hi,r2],r3⟩
 ·have el:=E.len
  rcases Nat.lt_or_ge i hs.length with hi|hi
  ·rw[List.getElem?_append_left (by rw[List.length_take];omega),List.getElem?_take,if_pos hi]at q
   rw[z2m hi];exact I i o q
  ·rw[List.getElem?_append_right (by rw[List.length_take];omega)]at q
   have:o = .row sh xs fz:=by
    have:=List.mem_of_getElem? q;simpa using this
   subst this;simp only[Obj.top];omega
theorem z4v {M M':Mem}{h':aA}{μ':Mu}{vs vs':List AV}{u:Value}(hl:vs'.length=vs.length)(R:RAV M h μ (CA vs) u)(hh:∀ (j:Nat) (y y':AV) (v:Value),vs[j]?=some y→vs'[j]?=some y'→RAV M h μ y v→RAV M' h' μ' y' v):RAV M' h' μ' (CA vs') u:=by
 match vs,vs',hl with
 | [],[],_=>cases R with|tup _ ws hl hr=>exact .tup [] ws hl fun j y v h1 _=>by simp at h1
 | [a],[a'],_=>exact hh 0 a a' u rfl rfl R
 | a::b::r,a'::b'::r',hl=>
  cases R with|tup _ ws hlw hr=>
  refine .tup _ ws (by rw[hl];exact hlw) fun j y v h1 h2=>?_
  have hj:j<(a::b::r).length:=by rw[←hl];exact sA h1
  exact hh j _ y v (List.getElem?_eq_getElem hj) h1 (hr j _ v (List.getElem?_eq_getElem hj) h2)
theorem zio {rs:List ARes}{vs:List AV}{s:St}{u:Value}{K:jA}(R:Rel gl nt M0 h0 μ0 s.env s.h s.esc a w μ)(Hs:∀ id,mE h0 id≤h0.length)(hR:RAV (imm s.h μ w) s.h μ (CA vs) u)(H:HE h0.length K rs (some vs) s.h s.esc) :
 ∃v h' x μ',K v h' x∧RAV (imm h' μ' w) h' μ' v u∧HeapRel h' μ' w∧Evo M0 h0 μ0 (imm h' μ' w) h' μ'∧nA h0 h' x:=by
 unfold HE at H;dsimp only at H;split at H
 ·rename_i y hy
  obtain⟨hcl,hk⟩:=H;unfold cmpO at hy;split at hy
  ·rename_i id g off len hf
   split at hy
   ·rename_i sh xs fz ho
    split at hy
    ·rename_i hc
     cases hy;have hlt:=sA ho
     have hmm:∃m,μ[id]?=some m:=⟨_,List.getElem?_eq_getElem (by rw[R.heap.len];exact hlt)⟩
     obtain⟨m,hm⟩:=hmm;obtain⟨q1,q2,q3,q4⟩:=zjr Hs R.heap R.evo R.esc hcl hc.1 ho hm;refine⟨_,_,_,μ.take h0.length++[m],hk,?_,q1,q3,q4⟩;have el:=R.evo.len
     have hlm:h0.length≤μ.length:=by rw[R.heap.len];exact el
     refine z4v (by simp) hR fun j y y' v h1 h2 h3=>?_
     have hok:=List.all_eq_true.1 hc.2 y (List.mem_of_getElem? h1)
     rw[List.getElem?_map,h1]at h2;cases h2;have low:y.top≤h0.length→mvO id h0.length y=y→RAV (imm (s.h.take h0.length++[.row sh xs fz]) (μ.take h0.length++[m]) w) (s.h.take h0.length++[.row sh xs fz]) (μ.take h0.length++[m]) (mvO id h0.length y) v:=fun ht e=>by
      rw[e];exact h3.upto q2 (fun {i y} e hi=>by rw[List.getElem?_append_left (by rw[List.length_take];omega),List.getElem?_take,if_pos hi,e]) (fun {i y} e hi=>by rw[List.getElem?_append_left (by rw[List.length_take];omega),List.getElem?_take,if_pos hi,e]) ht
     cases y with
     | own i g' off' len'=>
      simp only[okO]at hok;have e:=Nat.eq_of_beq_eq_true hok
      subst e;simp only[mvO,hok,cond_true];cases h3 with|own _ _ _ _ a' cap sh' xs' fz' m' hl ho' hm' hg hgl hv=>
      rw[ho]at ho';cases ho'
      rw[hm]at hm';cases hm'
      refine .own h0.length g' off' len' a' cap sh xs fz m hl ?_ ?_ hg hgl hv
      ·rw[List.getElem?_append_right (by rw[List.length_take];omega)]
       have:h0.length-(s.h.take h0.length).length=0:=by rw[List.length_take];omega
       rw[this];rfl
      ·rw[List.getElem?_append_right (by rw[List.length_take];omega)]
       have:h0.length-(μ.take h0.length).length=0:=by rw[List.length_take];omega
       rw[this];rfl
     | _=>exact low (by simpa [okO] using hok) rfl
    ·cases hy
   ·cases hy
  ·rename_i v0 hf
   split at hy
   ·rename_i hc
    cases hy;obtain⟨q1,q2,q3,q4⟩:=kS Hs R.heap R.evo R.esc (Nat.le_refl _) hcl
    refine⟨_,_,_,μ.take h0.length,hk,?_,q1,q3,q4⟩;refine z4v rfl hR fun j y y' v h1 h2 h3=>?_
    rw[h1]at h2;cases h2;have:=List.all_eq_true.1 hc y (List.mem_of_getElem? h1);exact h3.take q2 (by simpa using this)
   ·cases hy
  ·cases hy
 ·exact H.elim
theorem z3e {F:AFun}{fn:Func}{s:St}{K:jA}(R:Rel gl nt M0 h0 μ0 s.env s.h s.esc a w μ)(Hs:∀ id,mE h0 id≤h0.length)(hc:YC P F.results fn.results.toList=true)(H:fin F h0.length s K) :
 ∃u,(results fn a.tmps).run P w = .ok u w∧∃v h' x μ',K v h' x∧RAV (imm h' μ' w) h' μ' v u∧HeapRel h' μ' w∧Evo M0 h0 μ0 (imm h' μ' w) h' μ'∧nA h0 h' x:=by
 unfold fin at H;split at H
 ·cases hvs:LC s F.results with
  | none=>rw[hvs]at H;exact H.elim
  | some vs=>
   rw[hvs]at H;obtain⟨u,hu,hR⟩:=z4M R.heap R.env hc hvs;exact⟨u,hu,zio R Hs hR H⟩
 split at H
 ·rename_i vs hvs
  obtain⟨u,hu,hR⟩:=z4M R.heap R.env hc hvs;refine⟨u,hu,?_⟩;split at H
  ·dsimp only at H
   split at H
   ·rename_i hcl
    have hn:=lO s.esc.length s.esc (max h0.length (CA vs).top)
    generalize sB s.esc.length s.esc (max h0.length (CA vs).top)=n at H hcl hn;obtain⟨q1,q2,q3,q4⟩:=kS Hs R.heap R.evo R.esc (by omega) hcl
    exact⟨_,_,_,μ.take n,H,hR.take q2 (by omega),q1,q3,q4⟩
   ·exact⟨_,_,_,μ,H,hR,R.heap,R.evo,R.esc⟩
  ·split at H
   ·rename_i v0 hv0
    dsimp only at H;split at H
    ·rename_i hcl
     have hn:=lO s.esc.length s.esc (max h0.length v0.top)
     generalize sB s.esc.length s.esc (max h0.length v0.top)=n at H hcl hn;split at H
     ·rename_i v hv
      obtain⟨q1,q2,q3,q4⟩:=kS Hs R.heap R.evo R.esc (by omega) hcl
      exact⟨_,_,_,μ.take n,H.2,z4J R.heap q2 _ hR hv H.1,q1,q3,q4⟩
     ·exact H.elim
    ·exact⟨_,_,_,μ,H,hR,R.heap,R.evo,R.esc⟩
   ·exact H.elim
 ·exact H.elim
def fU (P:Program)(f:Nat)(F:AFun):Bool:=match P.funcs[f]? with
 | some fn=>match fn.body with
  | some c=>DB P fn.ntmps F.body c&&YC P F.results fn.results.toList&&fn.name != "runtime.NumGoroutine"
  | none=>false
 | none=>false
theorem IP {f:Nat}{fn:Func}{c:Code}(hf:P.funcs[f]?=some fn)(hb:fn.body=some c)(hn:fn.name ≠ "runtime.NumGoroutine")(args:Array Value)(w:World):(callFunc f args).run P w = .ok (.enter f args) w:=by
 unfold callFunc;simp [hf,hb,hn]
theorem zd3 {asv:List AV}{t:Nat}:eA (enter asv) t=(asv[t]?).getD .und:=by
 have key:∀(l:List AV) (k t:Nat),eA ((l.zipIdx k).map fun y=>(y.2,y.1)) t=if t<k then .und else(l[t-k]?).getD .und:=by
  intro l;induction l with
  | nil=>intro k t;simp [eA]
  | cons v r ih=>
   intro k t;simp only[List.zipIdx_cons,List.map_cons,eA];by_cases hk:k=t
   ·subst hk;simp
   ·rw[if_neg hk,ih]
    by_cases h1:t<k
    ·rw[if_pos h1,if_pos (by omega)]
    ·rw[if_neg h1,if_neg (by omega),show t-k=(t-(k+1))+1 by omega]
     simp
 have:=key asv 0 t;simpa [enter] using this
def EG (M:Mem)(w w':World):Mem:=⟨fun b o=>if b<w.heap.size then M.c b o else w'.cell? ⟨b,o,none⟩,fun _=>none,some (zed w'),fun _=>none⟩
def z0u (P:Program)(f:Nat)(vs:List PV)(r:PV):Prop:=∀(M:Mem) (w:World) (us:List Value),(∀b o v,M.c b o=some v→w.cell? ⟨b,o,none⟩=some v)→vs.length=us.length →
 (∀(j:Nat) (y:PV) (v:Value),vs[j]?=some y→us[j]?=some v→RPV M y v) →
 ∃x w',(callFunc f us.toArray).run P w = .ok (.value x) w'∧WExt w w'∧RPV (EG M w w') r x
structure Fits (P:Program) (X:Ctx):Prop where
 mixed:P.follows .mixedOrders=true
 fn:∀f F,X.fn f=some F→fU P f F=true
 ext:∀f vs r,X.fn f=none→X.ext f vs=some r→z0u P f vs r
 ex2:∀f asv h v h' x,X.fn f=none→X.ex2 f asv h=some (v,h',x)→pC P X.gl f asv h fun v1 h1 x1=>v1=v∧h1=h'∧x1=x
theorem zjD {X:Ctx}(HX:Fits P X){f:Nat}{asv:List AV}{h:aA}{K:jA}(H:NB X (pC P X.gl) f asv h K):pC P X.gl f asv h K:=by
 intro μ w vs Hh Hg hl hr;unfold NB at H;split at H
 ·rename_i F hF
  have H:=zdW (pC.mono P X.gl) H
  have hck:=HX.fn f F hF
  unfold fU at hck;split at hck
  ·rename_i fn hfn
   split at hck
   ·rename_i c hb
    simp only[Bool.and_eq_true,bne_iff_ne,ne_eq]at hck;obtain⟨⟨c1,c2⟩,c3⟩:=hck;refine .inl ⟨fun w=>IP hfn hb c3 _ w,calls_of_wp hfn hb ?_⟩
    unfold qC at H;have body:∀{asv':List AV} {h1:aA},VE h μ w h1→asv'.length=vs.length→(∀(j:Nat) (y:AV) (v:Value),asv'[j]?=some y→vs[j]?=some v→RAV (imm h1 μ w) h1 μ y v) →
     (asv'.length=F.nparams∧AW (pC P X.gl) X.gl F.body ⟨enter asv',h1,[]⟩ fun e s=>match e with
      | .exit _=>False
      | _=>fin F h.length s K)→Code.wp P c (bodyPost P fn fun
       | .returned r,w'=>∃v h' x μ',K v h' x∧RAV (imm h' μ' w') h' μ' v r∧HeapRel h' μ' w'∧Evo (imm h μ w) h μ (imm h' μ' w') h' μ'∧nA h h' x
       | _,_=>False) { tmps:=vs.toArray++Array.replicate (fn.ntmps-vs.toArray.size) undef,defers:=[] } w:=by
     intro asv' h1 ⟨a1,a2,a3⟩ hl' hr' ⟨_,hA⟩;refine OD HX.mixed (nt:=fn.ntmps) (M0:=imm h μ w) (h0:=h) (μ0:=μ) (μ:=μ) (fun _ _ _ _ h=>h) F.body c1 hA ⟨a1,fun t=>?_,Hg.mono a2.le,a2,a3,?_,rfl⟩ (fun ex s' a' w' μ' hk R'=>?_)
     ·dsimp only
      rw[zd3];cases ht:asv'[t]? with
      | none=>exact .und _
      | some y=>
       have hlt:t<vs.length:=by rw[←hl'];exact sA ht
       have:(vs.toArray++Array.replicate (fn.ntmps-vs.toArray.size) undef).getD t undef=vs[t]:=by
        simp [Array.getD,hlt];intro hh;omega
       rw[this];exact hr' t y _ ht (List.getElem?_eq_getElem hlt)
     ·simp;omega
     ·cases ex with
      | normal=>
       obtain⟨u,q1,q2⟩:=z3e R' (fun id=>WZ Hh id) c2 hk
       exact⟨R'.defers,u,q1,q2⟩
      | exit i=>exact hk.elim
      | ret=>
       obtain⟨u,q1,q2⟩:=z3e R' (fun id=>WZ Hh id) c2 hk
       exact⟨R'.defers,u,q1,q2⟩
    split at H
    ·rename_i asv' h1 hp
     split at hp
     ·injection hp with hp
      injection hp with e1 e2
      subst e1;subst e2
      exact body ⟨Hh,Evo.refl _ _ _,nA.refl _ _⟩ hl hr H
     ·obtain⟨q1,q2,q3⟩:=LR asv Hh hl hr hp
      exact body q1 q2 q3 H
    ·exact H.elim
   ·cases hck
  ·cases hck
 ·rename_i hF
  split at H
  ·rename_i hx2
   exact pC.mono P X.gl _ _ _ _ _ (fun v1 h1' x1 hv=>by obtain⟨rfl,rfl,rfl⟩:=hv;exact H) (HX.ex2 f asv h _ _ _ hF hx2) μ w vs Hh Hg hl hr
  ·rename_i hx2
   split at H
   ·rename_i asv' h1 hp
    split at H
    ·rename_i ps hps
     split at H
     ·rename_i r hrr
      obtain⟨q1,q2,q3⟩:=LR asv Hh hl hr hp;have hm:=WK hps
      subst hm;obtain⟨u,w',k1,g1,g2⟩:=HX.ext f ps r hF hrr (imm h1 μ w) w vs (fun b o v hv=>(ED.1 hv).2) (by simpa using q2) (fun j y v hy hv=>(q3 j (.p y) v (by simp [hy]) hv).p_inv)
      obtain⟨n1,n2⟩:=q1.1.ext g1;have L:(EG (imm h1 μ w) w w').le (imm h1 μ w'):=by
       refine⟨fun b o v hv=>?_,fun b o hv=>?_,rfl,fun _ _ h=>by cases h⟩
       ·dsimp only[EG]at hv
        split at hv
        ·exact n2.le.c _ _ _ hv
        ·rename_i hb
         exact ED.2 ⟨fun hO=>hb (sX q1.1 hO),hv⟩
       ·dsimp only[EG]at hv
        cases hv
      exact .inr ⟨_,_,_,_,_,μ,k1,H,.p _ _ (g2.mono L),n1,q1.2.1.trans n2,q1.2.2⟩
     ·exact H.elim
    ·exact H.elim
   ·exact H.elim
theorem z1l {X:Ctx}(HX:Fits P X){f:Nat}{asv:List AV}{h:aA}{K:jA}(H:bA X f asv h K):pC P X.gl f asv h K:=
 H (pC P X.gl) (pC.mono P X.gl) (fun f a h K hs=>zjD HX hs)
end Go.Am
end
section
/- The abstract machine,part 24: rules by which its code is computed on what is only partly known. -/
set_option linter.unusedSimpArgs false
set_option linter.unusedVariables false
namespace Go.Am
def mI (o:Option (AV × aA × Esc))(f:AV→aA→Esc→Prop):Prop:=match o with
 | some y=>f y.1 y.2.1 y.2.2
 | none=>False
def sU (v:AV)(A B:Prop):Prop:=match v with
 | .p (.bool t)=>match t with
  | true=>A
  | false=>B
 | .anyb=>A∧B
 | _=>False
def CC (v:AV)(A B:Prop):Prop:=match v with
 | .p (.bool t)=>match t with
  | true=>A
  | false=>B
 | _=>False
def XD (v:AV)(b:Bool)(A B:Prop):Prop:=match v with
 | .p (.bool c)=>match c==b with
  | true=>A
  | false=>B
 | .skp=>B
 | _=>False
def finK (F:AFun)(b:Nat)(K:jA)(e:Ex)(s:St):Prop:=match e with
 | .exit _=>False
 | _=>fin F b s K
def PZ (n:Nat)(x:Esc)(K:Ex→St→Prop)(e:Ex)(s:St):Prop:=K e (eD n x s)
def AO.plain:AO→Bool
 | .call _ _ | .callv _ _ | .mnext _ _=>false
 | .mv _=>true
 | .pick _ _ _=>true
 | .alloc _=>true
 | .box _=>true
 | .build _ _=>true
 | .bsl _ _ _ _ _=>true
 | .load _ _=>true
 | .store _ _ _=>true
 | .nilchk _=>true
 | .bin _ _ _=>true
 | .eqa _ _ _ _=>true
 | .isnil _ _ _=>true
 | .mkif _=>true
 | .un _ _=>true
 | .conv _ _=>true
 | .mkfn _ _=>true
 | .mkmap=>true
 | .mksl _ _ _ _=>true
 | .slice _ _ _ _ _=>true
 | .slstr _ _ _=>true
 | .faddr _ _ _=>true
 | .field _ _ _=>true
 | .iaddr _ _ _=>true
 | .iaddra _ _ _ _=>true
 | .idxa _ _ _ _=>true
 | .idxs _ _=>true
 | .look _ _ _ _ _=>true
 | .mupd _ _ _ _=>true
 | .ment _ _ _ _=>true
 | .estore _ _ _=>true
 | .mdel _ _ _=>true
 | .ext _ _=>true
 | .len _=>true
 | .lens _=>true
 | .lenm _=>true
 | .app _ _ _=>true
 | .copy _ _ _=>true
 | .uns _ _ _=>true
 | .clr _ _ _=>true
 | .mx _=>true
 | .mn _=>true
 | .mrange _=>true
 | .mentry _=>true
 | .new0 _=>true
variable {C:Hd} {gl:Nat→Option PV} {e:List (Nat × AV)} {h:aA} {x:Esc} {K:Ex→St→Prop} {L:List (Nat × AV)→aA→Esc→Prop} {s:St}
theorem z54 {n:Nat}{y:Esc}{ex:Ex}:PZ n y K ex s=K ex (eD n y s):=(rfl)
def OI (C:Hd)(gl:Nat→Option PV)(r:List AOp)(d:Option Nat)(e:List (Nat × AV))(x:Esc)(L:List (Nat × AV)→aA→Esc→Prop)(v:AV)(h':aA)(x':Esc):Prop:=DA C gl r (put d v e) h' (x'++x) L
theorem z6t {d:Option Nat}{op:AO}{r:List AOp}(hp:op.plain=true):DA C gl (⟨d,none,op⟩::r) e h x L=mI (aop op (Opd.ev gl e) h) (OI C gl r d e x L):=by
 cases op <;> first|(cases hp;done)|(simp only[DA,wanted,mI,OI];split <;> simp_all)
theorem z0o {d:Option Nat}{f:Nat}{args:List Opd}{r:List AOp}:DA C gl (⟨d,none,.call f args⟩::r) e h x L=C f (args.map (Opd.ev gl e)) h (OI C gl r d e x L):=(rfl)
theorem z6v {d:Option Nat}{g:Option (Nat × Bool)}{op:AO}{r:List AOp}(hw:wanted g e=some true):DA C gl (⟨d,g,op⟩::r) e h x L=DA C gl (⟨d,none,op⟩::r) e h x L:=by
 rw[DA,DA];have h2:wanted none e=some true:=(rfl)
 simp only[hw,h2]
theorem z0q {d:Option Nat}{g:Option (Nat × Bool)}{op:AO}{r:List AOp}(hw:wanted g e=some false):DA C gl (⟨d,g,op⟩::r) e h x L=DA C gl r (put d .skp e) h x L:=by
 rw[DA];simp only[hw]
theorem z6u {d:Option Nat}{g:Option (Nat × Bool)}{op:AO}{r:List AOp}(hw:wanted g e=none):DA C gl (⟨d,g,op⟩::r) e h x L=False:=by
 rw[DA];simp only[hw]
theorem z0r {d:Option Nat}{t:Nat}{b:Bool}{op:AO}{r:List AOp}:DA C gl (⟨d,some (t,b),op⟩::r) e h x L=XD (eA e t) b (DA C gl (⟨d,none,op⟩::r) e h x L) (DA C gl r (put d .skp e) h x L):=by
 have key:∀v,eA e t=v→DA C gl (⟨d,some (t,b),op⟩::r) e h x L=XD v b (DA C gl (⟨d,none,op⟩::r) e h x L) (DA C gl r (put d .skp e) h x L):=by
  intro v hv;unfold XD;split
  ·rename_i c
   split
   ·rename_i hcb;exact z6v (by simp [wanted,hv,hcb])
   ·rename_i hcb;exact z0q (by simp [wanted,hv,hcb])
  ·exact z0q (by simp [wanted,hv])
  ·rename_i h1 h2
   refine z6u ?_;simp only[wanted,hv]
 exact key _ rfl
theorem z1D {t:Bool}{A B:Prop}:CC (.p (.bool t)) A B=if t=true then A else B:=by cases t <;> simp [CC]
theorem z1F {A B:Prop}:CC (.p (.bool true)) A B=A:=(rfl)
theorem z1E {A B:Prop}:CC (.p (.bool false)) A B=B:=(rfl)
theorem zk5 {t:Bool}{A B:Prop}:XD (.p (.bool t)) true A B=if t=true then A else B:=by cases t <;> simp [XD]
theorem zk4 {t:Bool}{A B:Prop}:XD (.p (.bool t)) false A B=if t=true then B else A:=by cases t <;> simp [XD]
theorem z9W {v v':AV}{A B:Prop}(hv:v=v'):CC v A B=CC v' A B:=by rw[hv]
theorem DS {X:Ctx}{f:Nat}{F:AFun}{a:List AV}{h:aA}{P:jA}(hf:X.fn f=some F)(hd:F.isDet=false):bA X f a h P=qC (bA X) X.gl F a h P:=by
 rw[propext z0j];unfold NB;rw[hf];simp only[CD,hd]
theorem z09 {X:Ctx}{f:Nat}{F:AFun}{a:List AV}{h:aA}{P:jA}(hf:X.fn f=some F)(hd:F.isDet=true):bA X f a h P = ∃v h' x,P v h' x∧qC (bA X) X.gl F a h fun v1 h1 x1=>v1=v∧h1=h'∧x1=x:=by
 rw[propext z0j];unfold NB;rw[hf];simp only[CD,hd]
theorem YN {F:AFun}{a asv:List AV}{h h1:aA}{P:jA}(hr:F.byref=false)(hp:lA h a=some (asv,h1))(hl:asv.length=F.nparams) :
 qC C gl F a h P=AW C gl F.body ⟨enter asv,h1,[]⟩ (finK F h.length P):=by
 unfold qC;rw[hr];simp only[Bool.false_eq_true,if_false,hp,hl,true_and];congr 1
theorem z7q {F:AFun}{asv:List AV}{h:aA}{P:jA}(hr:F.byref=true)(hl:asv.length=F.nparams) :
 qC C gl F asv h P=AW C gl F.body ⟨enter asv,h,[]⟩ (finK F h.length P):=by
 unfold qC;rw[hr];simp only[if_true,hl,true_and];congr 1
def doK (C:Hd)(gl:Nat→Option PV)(o:AOp)(e:List (Nat × AV))(h:aA)(R:AV→aA→Esc→Prop):Prop:=∃v h' y,ADo C gl o e h v h' y∧R v h' y
def wE (C:Hd)(f:Nat)(a:List AV)(h:aA)(R:AV→aA→Esc→Prop):Prop:=∃v h' y,C f a h (fun v1 h1 x1=>v1=v∧h1=h'∧x1=y)∧R v h' y
def GP (C:Hd)(gl:Nat→Option PV)(o:DOp)(r:List DOp)(dn:AC)(hs:List aA)(e:List (Nat × AV))(h:aA)(x:Esc)(L:List (Nat × AV)→aA→Esc→Prop)(v:AV)(h':aA)(y:Esc):Prop:=
 (o.eff=false→h'=h∧y=[])∧(∀k∈o.early,∃g,hs[k]?=some g∧ADo C gl o.op (uA (some o.rd) e) g v g []) ∧
  (∀j∈o.again,∃q,dn[j]?=some q∧ADo C gl q.1 q.2.1 h' q.2.2 h' [])∧TC C gl r (dn++[(o.op,uA (some o.rd) e,v)]) (hs++[h]) (put o.op.dst v e) h' (y++x) L
theorem z0k {o:DOp}{r:List DOp}{dn:AC}{hs:List aA}:TC C gl (o::r) dn hs e h x L=doK C gl o.op (uA (some o.rd) e) h (GP C gl o r dn hs e h x L):=(rfl)
variable {R:AV→aA→Esc→Prop}
theorem ex3 {v0:AV}{h0:aA}{y0:Esc}:(∃v h y,(v=v0∧h=h0∧y=y0)∧R v h y)=R v0 h0 y0:=
 propext ⟨fun⟨_,_,_,⟨h1,h2,h3⟩,r⟩=>by subst h1;subst h2;subst h3;exact r,fun r=>⟨_,_,_,⟨rfl,rfl,rfl⟩,r⟩⟩
theorem ex3' {v0:AV}{h0:aA}{y0:Esc}:(∃v h y,(v0=v∧h0=h∧y0=y)∧R v h y)=R v0 h0 y0:=
 propext ⟨fun⟨_,_,_,⟨h1,h2,h3⟩,r⟩=>by subst h1;subst h2;subst h3;exact r,fun r=>⟨_,_,_,⟨rfl,rfl,rfl⟩,r⟩⟩
theorem zai {d:Option Nat}{op:AO}(hp:op.plain=true):doK C gl ⟨d,none,op⟩ e h R=mI (aop op (Opd.ev gl e) h) R:=by
 have key:∀o:Option (AV×aA×Esc),(∃v h' y,o=some (v,h',y)∧R v h' y)=mI o R:=by
  intro o;cases o with
  | none=>simp [mI]
  | some z=>obtain⟨v,h',y⟩:=z;simp only[Option.some.injEq,Prod.mk.injEq,ex3'];rfl
 rw[←key];unfold doK ADo;cases op <;> first|(cases hp;done)|rfl
theorem z1S {d:Option Nat}{f:Nat}{args:List Opd}:doK C gl ⟨d,none,.call f args⟩ e h R=wE C f (args.map (Opd.ev gl e)) h R:=(rfl)
theorem z1U {d:Option Nat}{t:Nat}{b:Bool}{op:AO}:doK C gl ⟨d,some (t,b),op⟩ e h R=XD (eA e t) b (doK C gl ⟨d,none,op⟩ e h R) (R .skp h []):=by
 have h2:wanted none e=some true:=(rfl)
 have key:∀v,eA e t=v→doK C gl ⟨d,some (t,b),op⟩ e h R=XD v b (doK C gl ⟨d,none,op⟩ e h R) (R .skp h []):=by
  intro v hv;unfold XD;split
  ·rename_i c
   split
   ·rename_i hcb
    have hw:wanted (some (t,b)) e=some true:=by simp [wanted,hv,hcb]
    unfold doK ADo;simp only[hw,h2]
   ·rename_i hcb
    have hw:wanted (some (t,b)) e=some false:=by simp [wanted,hv,hcb]
    unfold doK ADo;simp only[hw,ex3]
  ·have hw:wanted (some (t,b)) e=some false:=by simp [wanted,hv]
   unfold doK ADo;simp only[hw,ex3]
  ·rename_i h3 h4
   have hw:wanted (some (t,b)) e=none:=by
    simp only[wanted,hv]
   unfold doK ADo;simp only[hw];simp
 exact key _ rfl
theorem z95 {f:Nat}{a a':List AV}{h h':aA}(ha:a=a')(hh:h=h'):wE C f a h R=wE C f a' h' R:=by rw[ha,hh]
theorem z6k {X:Ctx}{f:Nat}{a a':List AV}{h h':aA}{K:jA}(ha:a=a')(hh:h=h'):bA X f a h K=bA X f a' h' K:=by rw[ha,hh]
theorem zak {o:DOp}{r:List DOp}{dn:AC}{hs:List aA}{v:AV}{h':aA}{y:Esc}:GP C gl o r dn hs e h x L v h' y=((o.eff=false→h'=h∧y=[])∧(∀k∈o.early,∃g,hs[k]?=some g∧ADo C gl o.op (uA (some o.rd) e) g v g []) ∧
 (∀j∈o.again,∃q,dn[j]?=some q∧ADo C gl q.1 q.2.1 h' q.2.2 h' [])∧TC C gl r (dn++[(o.op,uA (some o.rd) e,v)]) (hs++[h]) (put o.op.dst v e) h' (y++x) L):=(rfl)
end Go.Am
end
section
/- The abstract machine,part 25: from a call that ends well here tov the model's call on a whole world. -/
set_option linter.unusedSimpArgs false
set_option linter.unusedVariables false
namespace Go.Am
variable {P:Program}
theorem ze5 (W:World):HeapRel [] [] W:=⟨rfl,fun id o m h=>by simp at h,fun i j b n n' h=>by simp at h,fun i b n h=>by simp at h⟩
theorem zeJ {W:World}{b:Nat}{o:Go.Obj}(hb:W.heap[b]?=some o):(imm [] [] W).b b=some o:=VG.2 ⟨fun⟨id,n,h⟩=>by simp at h,hb⟩
theorem zeK {W:World}{b o:Nat}{v:Value}(hb:W.cell? ⟨b,o,none⟩=some v):(imm [] [] W).c b o=some v:=ED.2 ⟨fun⟨id,n,h,_⟩=>by simp at h,hb⟩
theorem z7G {W W':World}{h:aA}{μ:Mu}(E:(imm [] [] W).le (imm h μ W')):RowKit.Below W.heap.size W W':=by
 have hz:zed W'=zed W:=Option.some.inj E.z
 have hb:∀b,b<W.heap.size→W'.heap[b]?=W.heap[b]?:=fun b hb=>by
  have h1:=Array.getElem?_eq_getElem hb
  rw[h1];exact(VG.1 (E.b b _ (zeJ h1))).2
 refine⟨(congrArg World.os hz:(zed W').os=(zed W).os),(congrArg World.tape hz:(zed W').tape=(zed W).tape),(congrArg World.output hz:(zed W').output=(zed W).output),?_,hb⟩;rcases Nat.eq_zero_or_pos W.heap.size with h0|h0
 ·omega
 ·have h1:=hb (W.heap.size-1) (by omega)
  rw[Array.getElem?_eq_getElem (show W.heap.size-1<W.heap.size by omega)]at h1
  have:=(Array.getElem?_eq_some_iff.1 h1).1;omega
theorem z96 {X:Ctx}(HX:Fits P X){f:Nat}{F:AFun}(hF:X.fn f=some F)(args:Array Value)(w:World):(callFunc f args).run P w = .ok (.enter f args) w:=by
 have hck:=HX.fn f F hF
 unfold fU at hck;split at hck
 ·rename_i fn hfn
  split at hck
  ·rename_i c hb
   simp only[Bool.and_eq_true,bne_iff_ne,ne_eq]at hck;exact IP hfn hb hck.2 _ w
  ·cases hck
 ·cases hck
theorem z1o {X:Ctx}(HX:Fits P X){f:Nat}{F:AFun}(hF:X.fn f=some F){asv:List AV}{K:jA}(H:bA X f asv [] K){W:World}{vs:List Value}(hG:LD X.gl (imm [] [] W))(hl:asv.length=vs.length)
 (hr:∀(j:Nat) (y:AV) (v:Value),asv[j]?=some y→vs[j]?=some v→RAV (imm [] [] W) [] [] y v) :
 Calls P f vs.toArray W fun
  | .returned r,W'=>(∃v h x μ,K v h x∧RAV (imm h μ W') h μ v r)∧RowKit.Below W.heap.size W W'
  | _,_=>False:=by
 rcases z1l HX H [] W vs (ze5 W) hG hl hr with⟨_,q⟩|⟨r,w',_,_,_,_,q,_⟩
 case inr=>rw[z96 HX hF]at q;cases q
 refine q.mono fun e W' he=>?_
 cases e with
 | returned r=>
  obtain⟨v,h',x,μ',k1,k2,k3,k4,k5⟩:=he;exact⟨⟨v,h',x,μ',k1,k2⟩,z7G k4.le⟩
 | panicked _=>exact he
 | outgrown=>exact he
def IR (zs:List Int):AV:=.p (.sl none (zs.map fun n=>.int .i64 n))
theorem z9C (W:World):RAV (imm [] [] W) [] [] (IR []) (.slice none 0 0):=.p _ _ (.nils _ _ _)
theorem z9B {W:World}{a:Addr}{len cap:Nat}{zs:List Int}(hs:a.spot=none)(hl:len≤cap)(hz:len≤zs.length)(hc:∀ i,i<zs.length→W.cell? (a.add i)=some (.int .i64 (zs.getD i 0))) :
 RAV (imm [] [] W) [] [] (IR (zs.take len)) (.slice (some a) len cap):=by
 obtain⟨b,o,s⟩:=a;simp only at hs;subst hs;refine .p _ _ ?_;have hlen:((zs.take len).map fun n=>PV.int .i64 n).length=len:=by simp [hz]
 have hfl:((zs.take len).map fun n=>PV.int .i64 n).flatMap PV.cells=(zs.take len).map fun n=>PV.int .i64 n:=by
  generalize zs.take len=l;induction l with
  | nil=>rfl
  | cons n r ih=>simp only[List.map_cons,List.flatMap_cons,ih];rfl
 by_cases h0:len=0
 ·subst h0
  simp;exact .nils _ _ _
 ·have key:=RPV.sl (M:=imm [] [] W) none ((zs.take len).map fun n=>PV.int .i64 n) b o cap (fun j=>.int .i64 (zs.getD j 0)) (fun hh=>by rw[hh]at hlen;simp at hlen;omega) (by rw[hlen];exact hl)
   (fun x hx=>by obtain⟨n,_,rfl⟩:=List.mem_map.1 hx;rfl)
   (fun j y hy=>by
    rw[hfl]at hy;have hj:j<len:=by have:=sA hy;rw[hlen]at this;exact this
    have:=hc j (by omega)
    rw[BC]at this;exact zeK this)
   (fun j y hy=>by
    rw[hfl]at hy;have hj:j<len:=by have:=sA hy;rw[hlen]at this;exact this
    have hjz:j<zs.length:=by omega
    simp [List.getElem?_take,hj,hjz]at hy;subst hy;have:zs.getD j 0=zs[j]:=by simp [List.getD,hjz]
    rw[this];exact .int _ _)
  rwa [hlen]at key
end Go.Am
end
section
/- The abstract machine,part 26: aB calls are computed. -/
set_option linter.unusedSimpArgs false
set_option linter.unusedVariables false
namespace Go.Am
mutual
def PV.same:PV→PV→Bool
 | .int k a,.int k' b=>decide (k=k')&&decide (a=b)
 | .bool a,.bool b=>decide (a=b)
 | .str a,.str b=>decide (a=b)
 | .sl s xs,.sl t ys=>decide (s=t)&&PV.sames xs ys
 | .agg xs,.agg ys=>PV.sames xs ys
 | .nilp,.nilp=>true
 | _,_=>false
def PV.sames:List PV→List PV→Bool
 | [],[]=>true
 | a::asv,b::bs=>PV.same a b&&PV.sames asv bs
 | _,_=>false
end
mutual
theorem PV.same_eq:∀ (a b:PV),PV.same a b=true→a=b
 | .int k a,b,h=>by
  cases b <;> simp [PV.same]at h
  obtain⟨h1,h2⟩:=h;subst h1;subst h2;rfl
 | .bool a,b,h=>by cases b <;> simp [PV.same]at h;subst h;rfl
 | .str a,b,h=>by cases b <;> simp [PV.same]at h;subst h;rfl
 | .sl s xs,b,h=>by
  cases b <;> simp [PV.same]at h
  obtain⟨h1,h2⟩:=h;subst h1;rw[PV.sames_eq _ _ h2]
 | .agg xs,b,h=>by
  cases b <;> simp [PV.same]at h
  rw[PV.sames_eq _ _ h]
 | .nilp,b,h=>by cases b <;> simp [PV.same]at h;rfl
theorem PV.sames_eq:∀ (a b:List PV),PV.sames a b=true→a=b
 | [],b,h=>by cases b <;> simp [PV.sames]at h;rfl
 | x::xs,b,h=>by
  cases b <;> simp [PV.sames]at h
  rw[PV.same_eq _ _ h.1,PV.sames_eq _ _ h.2]
end
mutual
def AV.same:AV→AV→Bool
 | .p a,.p b=>PV.same a b
 | .own a b c d,.own a' b' c' d'=>decide (a=a')&&decide (b=b')&&decide (c=c')&&decide (d=d')
 | .sl0 a,.sl0 b=>decide (a=b)
 | .ref a b,.ref a' b'=>decide (a=a')&&decide (b=b')
 | .rref a b c d,.rref a' b' c' d'=>decide (a=a')&&decide (b=b')&&decide (c=c')&&decide (d=d')
 | .vp a,.vp b=>PV.same a b
 | .nilp,.nilp=>true
 | .nilm,.nilm=>true
 | .nilf,.nilf=>true
 | .nili,.nili=>true
 | .ifc,.ifc=>true
 | .mp a,.mp b=>decide (a=b)
 | .it a,.it b=>decide (a=b)
 | .fn a b,.fn a' b'=>decide (a=a')&&AV.sames b b'
 | .agg a,.agg b=>AV.sames a b
 | .tup a,.tup b=>AV.sames a b
 | .anyb,.anyb=>true
 | .skp,.skp=>true
 | .und,.und=>true
 | .anyp,.anyp=>true
 | .bt a b c d,.bt a' b' c' d'=>decide (a=a')&&decide (b=b')&&decide (c=c')&&decide (d=d')
 | _,_=>false
def AV.sames:List AV→List AV→Bool
 | [],[]=>true
 | a::asv,b::bs=>AV.same a b&&AV.sames asv bs
 | _,_=>false
end
mutual
theorem AV.same_eq:∀ (a b:AV),AV.same a b=true→a=b
 | .p a,b,h=>by cases b <;> simp [AV.same]at h;rw[PV.same_eq _ _ h]
 | .own _ _ _ _,b,h=>by cases b <;> simp [AV.same]at h;simp [h]
 | .sl0 _,b,h=>by cases b <;> simp [AV.same]at h;simp [h]
 | .ref _ _,b,h=>by cases b <;> simp [AV.same]at h;simp [h]
 | .rref _ _ _ _,b,h=>by cases b <;> simp [AV.same]at h;simp [h]
 | .vp a,b,h=>by cases b <;> simp [AV.same]at h;rw[PV.same_eq _ _ h]
 | .nilp,b,h=>by cases b <;> simp [AV.same]at h;rfl
 | .nilm,b,h=>by cases b <;> simp [AV.same]at h;rfl
 | .nilf,b,h=>by cases b <;> simp [AV.same]at h;rfl
 | .nili,b,h=>by cases b <;> simp [AV.same]at h;rfl
 | .ifc,b,h=>by cases b <;> simp [AV.same]at h;rfl
 | .mp _,b,h=>by cases b <;> simp [AV.same]at h;simp [h]
 | .it _,b,h=>by cases b <;> simp [AV.same]at h;simp [h]
 | .fn _ cs,b,h=>by cases b <;> simp [AV.same]at h;rw[h.1,AV.sames_eq _ _ h.2]
 | .agg cs,b,h=>by cases b <;> simp [AV.same]at h;rw[AV.sames_eq _ _ h]
 | .tup cs,b,h=>by cases b <;> simp [AV.same]at h;rw[AV.sames_eq _ _ h]
 | .anyb,b,h=>by cases b <;> simp [AV.same]at h;rfl
 | .skp,b,h=>by cases b <;> simp [AV.same]at h;rfl
 | .und,b,h=>by cases b <;> simp [AV.same]at h;rfl
 | .anyp,b,h=>by cases b <;> simp [AV.same]at h;rfl
 | .bt _ _ _ _,b,h=>by cases b <;> simp [AV.same]at h;simp [h]
theorem AV.sames_eq:∀ (a b:List AV),AV.sames a b=true→a=b
 | [],b,h=>by cases b <;> simp [AV.sames]at h;rfl
 | x::xs,b,h=>by
  cases b <;> simp [AV.sames]at h
  rw[AV.same_eq _ _ h.1,AV.sames_eq _ _ h.2]
end
abbrev EvC:=Nat→List AV→aA→Option (AV × aA × Esc)
def cJ (C:EvC)(gl:Nat→Option PV)(o:AOp)(e:List (Nat × AV))(h:aA):Option (AV×aA×Esc):=match wanted o.guard e with
 | some true=>match o.op with
  | .call f args=>C f (args.map (Opd.ev gl e)) h
  | .callv f args=>match Opd.ev gl e f with
   | .fn g caps=>C g (args.map (Opd.ev gl e)++caps) h
   | _=>none
  | .mnext _ _=>none
  | op=>aop op (Opd.ev gl e) h
 | some false=>some (.skp,h,[])
 | none=>none
def z2t (gl:Nat→Option PV)(o:AOp)(e:List (Nat × AV))(h:aA):Option (AV×aA):=match o.op with
 | .mnext sh xs=>match wanted o.guard e with
  | some true=>match yH h sh (xs.map (Opd.ev gl e)) with
   | some [y]=>some y
   | _=>none
  | _=>none
 | _=>none
def dJ (C:EvC)(gl:Nat→Option PV):List AOp→List (Nat×AV)→aA→Esc→Option (List (Nat×AV)×aA×Esc)
 | [],e,h,x=>some (e,h,x)
 | o::r,e,h,x=>match cJ C gl o e h with
  | some (v,h',x')=>dJ C gl r (put o.dst v e) h' (x'++x)
  | none=>match z2t gl o e h with
   | some (v,h')=>dJ C gl r (put o.dst v e) h' x
   | none=>none
def AO.still:AO→Bool
 | .mv _ | .pick _ _ _ | .build _ _ | .load _ _ | .nilchk _ | .bin _ _ _ | .eqa _ _ _ _ | .isnil _ _ _ | .mkif _ | .un _ _ | .mkfn _ _ | .slice _ _ _ _ _ | .slstr _ _ _ | .faddr _ _ _ | .field _ _ _ | .iaddr _ _ _
 | .iaddra _ _ _ _ | .idxa _ _ _ _ | .idxs _ _ | .look _ _ _ _ _ | .ext _ _ | .len _ | .lens _ | .lenm _ | .mx _ | .mn _=>true
 | _=>false
def AO.still2:AO→Bool
 | .conv (.i _) _=>true
 | o=>o.still
def ME.same (a b:ME):Bool:=PV.same a.key b.key&&AV.same a.val b.val&&decide (a.born=b.born)
def MEs.same:List ME→List ME→Bool
 | [],[]=>true
 | a::asv,b::bs=>ME.same a b&&MEs.same asv bs
 | _,_=>false
def Obj.same:Obj→Obj→Bool
 | .box a,.box b=>AV.sames a b
 | .row a b c,.row a' b' c'=>decide (a=a')&&PV.sames b b'&&decide (c=c')
 | .amap a b,.amap a' b'=>MEs.same a a'&&decide (b=b')
 | .iter a b c d,.iter a' b' c' d'=>decide (a=a')&&decide (b=b')&&decide (c=c')&&decide (d=d')
 | _,_=>false
def aA.same:List Obj→List Obj→Bool
 | [],[]=>true
 | a::asv,b::bs=>Obj.same a b&&aA.same asv bs
 | _,_=>false
theorem ME.same_eq {a b:ME}(h:ME.same a b=true):a=b:=by
 cases a;cases b
 simp only[ME.same,Bool.and_eq_true,decide_eq_true_eq]at h;obtain⟨⟨h1,h2⟩,h3⟩:=h;rw[PV.same_eq _ _ h1,AV.same_eq _ _ h2,h3]
theorem MEs.same_eq:∀ {a b:List ME},MEs.same a b=true→a=b
 | [],[],_=>rfl
 | [],_::_,h=>by simp [MEs.same]at h
 | _::_,[],h=>by simp [MEs.same]at h
 | a::asv,b::bs,h=>by
  simp only[MEs.same,Bool.and_eq_true]at h;rw[ME.same_eq h.1,MEs.same_eq h.2]
theorem Obj.same_eq {a b:Obj}(h:Obj.same a b=true):a=b:=by
 cases a <;> cases b <;> simp only[Obj.same,Bool.and_eq_true,decide_eq_true_eq]at h <;> first
  | (cases h;done)
  | (rw[AV.sames_eq _ _ h])
  | (obtain⟨⟨h1,h2⟩,h3⟩:=h;rw[h1,PV.sames_eq _ _ h2,h3])
  | (obtain⟨h1,h2⟩:=h;rw[MEs.same_eq h1,h2])
  | (obtain⟨⟨⟨h1,h2⟩,h3⟩,h4⟩:=h;rw[h1,h2,h3,h4])
theorem aA.same_eq:∀ {a b:List Obj},aA.same a b=true→a=b
 | [],[],_=>rfl
 | [],_::_,h=>by simp [aA.same]at h
 | _::_,[],h=>by simp [aA.same]at h
 | a::asv,b::bs,h=>by
  simp only[aA.same,Bool.and_eq_true]at h;rw[Obj.same_eq h.1,aA.same_eq h.2]
def MP (C:EvC)(gl:Nat→Option PV)(o:AOp)(e:List (Nat × AV))(g:aA)(v:AV):Bool:=match cJ C gl o e g with
 | some (v',g',y)=>AV.same v' v&&y.isEmpty&&(o.op.still2||aA.same g' g)
 | none=>false
def CL (C:EvC)(gl:Nat→Option PV):List DOp→AC→List aA→List (Nat×AV)→aA→Esc→Option (List (Nat×AV)×aA×Esc)
 | [],_,_,e,h,x=>some (e,h,x)
 | o::r,dn,hs,e,h,x=>match cJ C gl o.op (uA (some o.rd) e) h with
  | some (v,h',y)=>
   if(o.eff||o.op.op.still2||y.isEmpty&&aA.same h' h)&&(o.early.all fun k=>match hs[k]? with|some g=>MP C gl o.op (uA (some o.rd) e) g v|none=>false)
    && (o.again.all fun j=>match dn[j]? with|some q=>MP C gl q.1 q.2.1 h' q.2.2|none=>false) then
    CL C gl r (dn++[(o.op,uA (some o.rd) e,v)]) (hs++[h]) (put o.op.dst v e) h' (y++x)
   else none
  | none=>none
def LP (T:St→Option (Ex × St)):Nat→St→Option (Ex×St)
 | 0,_=>none
 | n+1,s=>match T s with
  | some (.normal,s')=>LP T n s'
  | r=>r
def vB (C:EvC)(gl:Nat→Option PV)(n:Nat):ACode→St→Option (Ex×St)
 | .skip,s=>some (.normal,s)
 | .reg ops keep,s=>match dJ C gl ops s.env s.h s.esc with
  | some (e,h,x)=>some (.normal,⟨uA keep e,h,x⟩)
  | none=>none
 | .draw ds keep,s=>match CL C gl ds [] [] s.env s.h s.esc with
  | some (e,h,x)=>some (.normal,⟨uA keep e,h,x⟩)
  | none=>none
 | .seq a b,s=>match vB C gl n a s with
  | some (.normal,s')=>vB C gl n b s'
  | r=>r
 | .cond c a b,s=>match Opd.ev gl s.env c with
  | .p (.bool t)=>match t with
   | true=>vB C gl n a s
   | false=>vB C gl n b s
  | _=>none
 | .det b,s=>vB C gl n b s
 | .condu c a b,s=>match Opd.ev gl s.env c with
  | .p (.bool t)=>match t with
   | true=>vB C gl n a s
   | false=>vB C gl n b s
  | _=>none
 | .block id b,s=>match vB C gl n b s with
  | some (.exit i,s')=>if i=id then some (.normal,s') else some (.exit i,s')
  | r=>r
 | .loop b,s=>LP (vB C gl n b) n s
 | .scope b,s=>match vB C gl n b ⟨s.env,s.h,[]⟩ with
  | some (e,s')=>some (e,eD s.h.length s.esc s')
  | none=>none
 | .pr l b,s=>vB C gl n b ⟨uA (some l) s.env,s.h,s.esc⟩
 | .exit id,s=>some (.exit id,s)
 | .ret,s=>some (.ret,s)
 | .bad,_=>none
def DW (F:AFun)(b:Nat)(s:St):Option (AV×aA×Esc):=match OC F.results with
 | true=>none
 | false=>match LC s F.results with
 | some vs=>match F.keep with
  | true=>
   let n:=sB s.esc.length s.esc (max b (CA vs).top)
   if aB s.esc n then some (CA vs,s.h.take n,s.esc.filter fun y=>decide (y.1<n)) else some (CA vs,s.h,s.esc)
  | false=>match GA b s.h (CA vs) with
   | some v0=>
    let n:=sB s.esc.length s.esc (max b v0.top)
    if aB s.esc n then match GA n s.h (CA vs) with
     | some v=>if v.top≤n then some (v,s.h.take n,s.esc.filter fun y=>decide (y.1<n)) else none
     | none=>none
    else some (CA vs,s.h,s.esc)
   | none=>none
 | none=>none
def BW (C:EvC)(gl:Nat→Option PV)(n:Nat)(F:AFun)(args:List AV)(h:aA):Option (AV×aA×Esc):=
 match (if F.byref then some (args,h) else lA h args) with
 | some (asv,h1)=>if asv.length=F.nparams then match vB C gl n F.body ⟨enter asv,h1,[]⟩ with
  | some (.exit _,_)=>none
  | some (_,s)=>DW F h.length s
  | none=>none
  else none
 | none=>none
def nH (C':EvC)(C:Hd):Prop:=∀f a h v h' x (K:jA),C' f a h=some (v,h',x)→K v h' x→C f a h K
variable {C':EvC} {C:Hd} {gl:Nat→Option PV}
theorem z2p (hC:nH C' C){o:AOp}{e:List (Nat × AV)}{h h':aA}{v:AV}{x:Esc}(H:cJ C' gl o e h=some (v,h',x)):ADo C gl o e h v h' x:=by
 unfold cJ at H;unfold ADo;split at H
 ·rename_i hw
  simp only[hw];obtain⟨dst,guard,op⟩:=o;cases op;case call f args=>exact hC _ _ _ _ _ _ _ H ⟨rfl,rfl,rfl⟩
  case callv f args=>
   dsimp only at H ⊢;split at H
   ·rename_i hf
    simp only[hf];exact hC _ _ _ _ _ _ _ H ⟨rfl,rfl,rfl⟩
   ·cases H
  case mnext sh xs=>cases H
  all_goals exact H
 ·rename_i hw
  simp only[hw];injection H with H
  injection H with h1 H
  injection H with h2 h3
  exact⟨h1.symm,h2.symm,h3.symm⟩
 ·cases H
theorem EW (hC:nH C' C):∀(ops:List AOp) e h x e' h' x' (K:List (Nat×AV)→aA→Esc→Prop),dJ C' gl ops e h x=some (e',h',x')→K e' h' x'→DA C gl ops e h x K
 | [],e,h,x,e',h',x',K,H,hK=>by
  simp only[dJ,Option.some.injEq,Prod.mk.injEq]at H;obtain⟨rfl,rfl,rfl⟩:=H;exact hK
 | o::r,e,h,x,e',h',x',K,H,hK=>by
  unfold dJ at H;split at H
  ·rename_i v h1 x1 hd
   have ih:=EW hC r _ _ _ _ _ _ K H hK
   unfold cJ at hd;unfold DA;split at hd
   ·rename_i hw
    simp only[hw];obtain⟨dst,guard,op⟩:=o;cases op;case call f args=>exact hC _ _ _ _ _ _ _ hd ih
    case callv f args=>
     dsimp only at hd ⊢;split at hd
     ·rename_i hf
      simp only[hf];exact hC _ _ _ _ _ _ _ hd ih
     ·cases hd
    case mnext sh xs=>cases hd
    all_goals
     dsimp only at hd ⊢;rw[hd];exact ih
   ·rename_i hw
    simp only[hw];injection hd with hd
    injection hd with h1 hd
    injection hd with h2 h3
    subst h1;subst h2;subst h3
    exact ih
   ·cases hd
  ·split at H
   ·rename_i v h1 hd
    have ih:=EW hC r _ _ _ _ _ _ K H hK
    unfold z2t at hd;unfold DA;split at hd
    ·rename_i sh xs hop
     split at hd
     ·rename_i hw
      simp only[hw,hop];split at hd
      ·rename_i y hm
       injection hd with hd
       subst hd;simp only[hm];refine⟨by simp,fun z hz=>?_⟩
       rw[List.mem_singleton]at hz;subst hz;exact ih
      ·cases hd
     ·cases hd
    ·cases hd
   ·cases H
theorem z70 {o:AO}(hs:o.still=true){ev:Opd→AV}{h h':aA}{v:AV}{x:Esc}(H:aop o ev h=some (v,h',x)):h'=h∧x=[]:=by
 cases o <;> first|(cases hs;done)|skip
 all_goals
  unfold aop at H;dsimp only at H;repeat' split at H
  all_goals first
   | (cases H;done)
   | (simp only[Option.some.injEq,Prod.mk.injEq]at H;obtain⟨_,rfl,rfl⟩:=H;exact⟨rfl,rfl⟩)
   | (simp only[Option.map_eq_some_iff,Prod.mk.injEq]at H;obtain⟨_,_,_,rfl,rfl⟩:=H;exact⟨rfl,rfl⟩)
   | (have H2:=nilc (g:=[]) H;rename_i k neg p;cases hb:XG k (ev p) <;> rw[hb]at H <;> simp only[cond_true,cond_false,Option.map_eq_some_iff,Option.some.injEq,Prod.mk.injEq]at H <;> first|(obtain⟨_,rfl,rfl⟩:=H;exact⟨rfl,rfl⟩)|(obtain⟨_,_,_,rfl,rfl⟩:=H;exact⟨rfl,rfl⟩))
theorem z71 {o:AO}(hs:o.still2=true){ev:Opd→AV}{h h':aA}{v:AV}{x:Esc}(H:aop o ev h=some (v,h',x)):h'=h∧x=[]:=by
 unfold AO.still2 at hs;split at hs
 ·simp only[aop,uF]at H
  split at H
  ·simp at H;exact⟨H.2.1.symm,H.2.2⟩
  ·simp at H
 ·exact z70 hs H
theorem xS {o:AOp}(hs:o.op.still2=true){e:List (Nat × AV)}{h h':aA}{v:AV}{x:Esc}(H:ADo C gl o e h v h' x):h'=h∧x=[]:=by
 unfold ADo at H;split at H
 ·obtain⟨dst,guard,op⟩:=o
  cases op <;> first|(cases hs;done)|exact z71 hs H
 ·exact H.2
 ·exact H.elim
theorem zjI {o:AO}(h:o.still=true):o.still2=true:=by
 cases o <;> first|exact h|(cases h;done)
theorem z6q {o:AOp}(hs:o.op.still=true){e:List (Nat × AV)}{h h':aA}{v:AV}{x:Esc}(H:ADo C gl o e h v h' x):h'=h∧x=[]:=xS (zjI hs) H
theorem z2u (hC:nH C' C){o:AOp}{e:List (Nat × AV)}{g:aA}{v:AV}(H:MP C' gl o e g v=true):ADo C gl o e g v g []:=by
 unfold MP at H;split at H
 ·rename_i v' g' y hd
  simp only[Bool.and_eq_true,Bool.or_eq_true,List.isEmpty_iff]at H;obtain⟨⟨h1,h2⟩,h3⟩:=H;have h1:=AV.same_eq _ _ h1
  have:=z2p (C:=C) hC hd;rcases h3 with hs|hs
  ·obtain⟨e1,e2⟩:=xS hs this
   subst e1;subst e2;subst h1
   exact this
  ·have e1:=aA.same_eq hs
   subst e1;subst h2;subst h1
   exact this
 ·cases H
theorem z2q (hC:nH C' C):∀(ds:List DOp) dn hs e h x e' h' x' (K:List (Nat×AV)→aA→Esc→Prop),CL C' gl ds dn hs e h x=some (e',h',x')→K e' h' x'→TC C gl ds dn hs e h x K
 | [],dn,hs,e,h,x,e',h',x',K,H,hK=>by
  simp only[CL,Option.some.injEq,Prod.mk.injEq]at H;obtain⟨rfl,rfl,rfl⟩:=H;exact hK
 | o::r,dn,hs,e,h,x,e',h',x',K,H,hK=>by
  unfold CL at H;split at H
  ·rename_i v h1 y hd
   split at H
   ·rename_i hc
    simp only[Bool.and_eq_true,Bool.or_eq_true,List.all_eq_true]at hc;obtain⟨⟨c1,c2⟩,c3⟩:=hc;have hdo:=z2p (C:=C) hC hd
    refine⟨v,h1,y,hdo,fun he=>?_,fun k hk=>?_,fun j hj=>?_,z2q hC r _ _ _ _ _ _ _ _ K H hK⟩
    ·rcases c1 with(c1|c1)|⟨c1,c4⟩
     ·rw[c1]at he;cases he
     ·exact xS c1 hdo
     ·rw[List.isEmpty_iff]at c1
      exact⟨aA.same_eq c4,c1⟩
    ·have:=c2 k hk
     split at this
     ·rename_i g hg
      exact⟨g,hg,z2u hC this⟩
     ·cases this
    ·have:=c3 j hj
     split at this
     ·rename_i q hq
      exact⟨q,hq,z2u hC this⟩
     ·cases this
   ·cases H
  ·cases H
theorem z2s {T':St→Option (Ex × St)}{T:St→(Ex→St→Prop)→Prop}(hT:∀ s e s' K,T' s=some (e,s')→K e s'→T s K):∀n s e s' K,LP T' n s=some (e,s')→K e s'→ALoop T K s
 | 0,s,e,s',K,H,hK=>by cases H
 | n+1,s,e,s',K,H,hK=>by
  unfold LP at H;split at H
  ·rename_i s1 h1
   refine .mk s (fun e2 s2=>e2 = .normal∧s2=s1) (hT _ _ _ _ h1 ⟨rfl,rfl⟩) (fun s2 ⟨_,h2⟩=>?_) (fun i s2 ⟨h2,_⟩=>by cases h2) (fun s2 ⟨h2,_⟩=>by cases h2)
   subst h2;exact z2s hT n _ _ _ K H hK
  ·rename_i hne
   have hne':e ≠ .normal:=fun he=>by subst he;exact hne _ H
   refine .mk s (fun e2 s2=>e2=e∧s2=s') (hT _ _ _ _ H ⟨rfl,rfl⟩) (fun s2 ⟨h2,_⟩=>(hne' h2.symm).elim) (fun i s2 ⟨h2,h3⟩=>by subst h3;rw[h2];exact hK) (fun s2 ⟨h2,h3⟩=>by subst h3;rw[h2];exact hK)
theorem PD (hC:nH C' C)(n:Nat):∀(c:ACode) s e s' (K:Ex→St→Prop),vB C' gl n c s=some (e,s')→K e s'→AW C gl c s K
 | .skip,s,e,s',K,H,hK=>by
  simp only[vB,Option.some.injEq,Prod.mk.injEq]at H;obtain⟨rfl,rfl⟩:=H;exact hK
 | .reg ops keep,s,e,s',K,H,hK=>by
  unfold vB at H;split at H
  ·rename_i h1
   simp only[Option.some.injEq,Prod.mk.injEq]at H;obtain⟨rfl,rfl⟩:=H;exact EW hC _ _ _ _ _ _ _ _ h1 hK
  ·cases H
 | .draw ds keep,s,e,s',K,H,hK=>by
  unfold vB at H;split at H
  ·rename_i h1
   simp only[Option.some.injEq,Prod.mk.injEq]at H;obtain⟨rfl,rfl⟩:=H;exact z2q hC _ _ _ _ _ _ _ _ _ _ h1 hK
  ·cases H
 | .seq a b,s,e,s',K,H,hK=>by
  unfold vB at H;unfold AW;split at H
  ·rename_i s1 h1
   exact PD hC n a s _ _ _ h1 (PD hC n b _ _ _ K H hK)
  ·rename_i hne
   have hne':e ≠ .normal:=fun he=>by subst he;exact hne _ H
   refine PD hC n a s _ _ _ H ?_;cases e with
   | normal=>exact(hne' rfl).elim
   | exit i=>exact hK
   | ret=>exact hK
 | .det b,s,e,s',K,H,hK=>by
  unfold vB at H;exact PD hC n b s _ _ K H hK
 | .condu c a b,s,e,s',K,H,hK=>by
  unfold vB at H;unfold AW;split at H
  ·rename_i t ht
   simp only[ht];split at H
   ·exact PD hC n a s _ _ _ H hK
   ·exact PD hC n b s _ _ _ H hK
  ·cases H
 | .cond c a b,s,e,s',K,H,hK=>by
  unfold vB at H;unfold AW;split at H
  ·rename_i t ht
   simp only[ht];split at H
   ·exact PD hC n a s _ _ _ H hK
   ·exact PD hC n b s _ _ _ H hK
  ·cases H
 | .block id b,s,e,s',K,H,hK=>by
  unfold vB at H;unfold AW;split at H
  ·rename_i i s1 h1
   refine PD hC n b s _ _ _ h1 ?_;dsimp only;split at H
   ·rw[if_pos ‹_›]
    simp only[Option.some.injEq,Prod.mk.injEq]at H;obtain⟨rfl,rfl⟩:=H;exact hK
   ·rw[if_neg ‹_›]
    simp only[Option.some.injEq,Prod.mk.injEq]at H;obtain⟨rfl,rfl⟩:=H;exact hK
  ·rename_i hne
   refine PD hC n b s _ _ _ H ?_;cases e with
   | normal=>exact hK
   | exit i=>exact(hne _ _ H).elim
   | ret=>exact hK
 | .loop b,s,e,s',K,H,hK=>by
  unfold vB at H;unfold AW;exact z2s (fun s e s' K h k=>PD hC n b s e s' K h k) n s e s' K H hK
 | .scope b,s,e,s',K,H,hK=>by
  unfold vB at H;unfold AW;split at H
  ·rename_i e1 s1 h1
   simp only[Option.some.injEq,Prod.mk.injEq]at H;obtain⟨rfl,rfl⟩:=H;exact PD hC n b _ _ _ _ h1 hK
  ·cases H
 | .pr l b,s,e,s',K,H,hK=>by
  unfold vB at H;unfold AW;exact PD hC n b _ _ _ K H hK
 | .exit id,s,e,s',K,H,hK=>by
  simp only[vB,Option.some.injEq,Prod.mk.injEq]at H;obtain⟨rfl,rfl⟩:=H;exact hK
 | .ret,s,e,s',K,H,hK=>by
  simp only[vB,Option.some.injEq,Prod.mk.injEq]at H;obtain⟨rfl,rfl⟩:=H;exact hK
 | .bad,s,e,s',K,H,hK=>by simp only[vB]at H;cases H
theorem z2r {F:AFun}{b:Nat}{s:St}{v:AV}{h:aA}{x:Esc}{K:jA}(H:DW F b s=some (v,h,x))(hK:K v h x):fin F b s K:=by
 unfold DW at H;unfold fin;split at H
 ·cases H
 rename_i h0;simp only[h0];split at H
 ·rename_i h1
  simp only[h1];split at H
  ·rename_i h2
   simp only[h2];dsimp only at H ⊢;split at H
   ·rw[if_pos ‹_›];simp only[Option.some.injEq,Prod.mk.injEq]at H;obtain⟨rfl,rfl,rfl⟩:=H;exact hK
   ·rw[if_neg ‹_›];simp only[Option.some.injEq,Prod.mk.injEq]at H;obtain⟨rfl,rfl,rfl⟩:=H;exact hK
  ·rename_i h2
   simp only[h2];split at H
   ·rename_i h3
    simp only[h3];dsimp only at H ⊢;split at H
    ·rw[if_pos ‹_›]
     split at H
     ·rename_i h4
      simp only[h4];split at H
      ·simp only[Option.some.injEq,Prod.mk.injEq]at H;obtain⟨rfl,rfl,rfl⟩:=H;exact⟨‹_›,hK⟩
      ·cases H
     ·cases H
    ·rw[if_neg ‹_›];simp only[Option.some.injEq,Prod.mk.injEq]at H;obtain⟨rfl,rfl,rfl⟩:=H;exact hK
   ·cases H
 ·cases H
theorem z2o (hC:nH C' C){n:Nat}{F:AFun}{a:List AV}{h:aA}{v:AV}{h':aA}{x:Esc}{K:jA}(H:BW C' gl n F a h=some (v,h',x))(hK:K v h' x):qC C gl F a h K:=by
 unfold BW at H;unfold qC;split at H
 ·rename_i asv h1 hp
  simp only[hp];split at H
  ·rename_i hl
   refine⟨hl,?_⟩;cases he:vB C' gl n F.body ⟨enter asv,h1,[]⟩ with
   | none=>rw[he]at H;cases H
   | some y=>
    obtain⟨e,s⟩:=y;rw[he]at H;refine PD hC n _ _ _ _ _ he ?_;cases e with
    | exit i=>cases H
    | normal=>exact z2r H hK
    | ret=>exact z2r H hK
  ·cases H
 ·cases H
def BL (X:Ctx)(o:Nat→List AV→Option AV)(n:Nat):Nat→EvC
 | 0,_,_,_=>none
 | d+1,f,a,h=>match o f a with
  | some v=>some (v,h,[])
  | none=>match X.fn f with
   | some F=>BW (BL X o n d) X.gl n F a h
   | none=>match X.ex2 f a h with
    | some r=>some r
    | none=>match lA h a with
     | some (asv,h1)=>match unp asv with
      | some vs=>match X.ext f vs with
       | some r=>some (.p r,h1,[])
       | none=>none
      | none=>none
     | none=>none
theorem CW (X:Ctx)(o:Nat→List AV→Option AV)(ho:∀ f a v,o f a=some v→∀ h (K:jA),K v h []→bA X f a h K)(n:Nat):∀d,nH (BL X o n d) (bA X)
 | 0,f,a,h,v,h',x,K,H,hK=>by cases H
 | d+1,f,a,h,v,h',x,K,H,hK=>by
  unfold BL at H;split at H
  ·rename_i v1 hv
   simp only[Option.some.injEq,Prod.mk.injEq]at H;obtain⟨rfl,rfl,rfl⟩:=H;exact ho _ _ _ hv _ _ hK
  refine bA.fold ?_;unfold NB;split at H
  ·rename_i F hF
   simp only[hF];unfold CD;cases hd:F.isDet with
   | true=>exact⟨v,h',x,hK,z2o (CW X o ho n d) H ⟨rfl,rfl,rfl⟩⟩
   | false=>exact z2o (CW X o ho n d) H hK
  ·rename_i hF
   simp only[hF];split at H
   ·rename_i hx2
    simp only[hx2];simp only[Option.some.injEq]at H;subst H;exact hK
   ·rename_i hx2
    simp only[hx2];split at H
    ·rename_i hp
     simp only[hp];split at H
     ·rename_i hu
      simp only[hu];split at H
      ·rename_i hx
       simp only[hx];simp only[Option.some.injEq,Prod.mk.injEq]at H;obtain⟨rfl,rfl,rfl⟩:=H;exact hK
      ·cases H
     ·cases H
    ·cases H
theorem z6m {X:Ctx}{f:Nat}{a:List AV}{h:aA}{v:AV}{h':aA}{x:Esc}{o:Nat→List AV→Option AV}(ho:∀ f a v,o f a=some v→∀ h (K:jA),K v h []→bA X f a h K)(n d:Nat)(H:BL X o n d f a h=some (v,h',x))(K:jA):bA X f a h K↔K v h' x:=
 bA.eq (CW X o ho n d _ _ _ _ _ _ _ H ⟨rfl,rfl,rfl⟩) K
end Go.Am
end
section
/- The abstract machine,part 27: loops,and the rules of computing asv one set. -/
set_option linter.unusedSimpArgs false
set_option linter.unusedVariables false
namespace Go.Am
variable {C:Hd} {gl:Nat→Option PV} {e:List (Nat × AV)} {h:aA} {x:Esc} {K:Ex→St→Prop} {s:St}
def yM {σ:Type}(S:σ→St)(P:σ→Prop)(m:σ→Nat)(K:Ex→St→Prop)(s:σ)(e:Ex)(s':St):Prop:=match e with
 | .normal=>∃t,s'=S t∧P t∧m t<m s
 | .exit i=>K (.exit i) s'
 | .ret=>K .ret s'
theorem z4c {σ:Type}{S:σ→St}{P:σ→Prop}{m:σ→Nat}{K:Ex→St→Prop}{t:σ}{s':St}:yM S P m K t .normal s' = ∃u,s'=S u∧P u∧m u<m t:=(rfl)
theorem z4b {σ:Type}{S:σ→St}{P:σ→Prop}{m:σ→Nat}{K:Ex→St→Prop}{t:σ}{s':St}{i:Nat}:yM S P m K t (.exit i) s'=K (.exit i) s':=(rfl)
theorem z4d {σ:Type}{S:σ→St}{P:σ→Prop}{m:σ→Nat}{K:Ex→St→Prop}{t:σ}{s':St}:yM S P m K t .ret s'=K .ret s':=(rfl)
theorem z0n {T:St→(Ex→St→Prop)→Prop}{K:Ex→St→Prop}{s s':St}(h:T s=T s'):ALoop T K s=ALoop T K s':=by
 refine propext ⟨fun H=>?_,fun H=>?_⟩
 ·cases H with|mk _ R a b c d=>exact .mk _ R (h ▸ a) b c d
 ·cases H with|mk _ R a b c d=>exact .mk _ R (h.symm ▸ a) b c d
theorem z7v {l:List Nat}{e:List (Nat × AV)}{t:Nat}(ht:t∈l):eA (uA (some l) e) t=eA e t:=by
 simp only[uA];induction l with
 | nil=>cases ht
 | cons k r ih=>
  simp only[List.map_cons,eA];split
  ·rename_i hk;rw[hk]
  ·rename_i hk
   rcases List.mem_cons.1 ht with h1|h1
   ·exact absurd h1.symm hk
   ·exact ih h1
theorem z48 {l:List Nat}{e:List (Nat × AV)}:uA (some l) (uA (some l) e)=uA (some l) e:=by
 show l.map _=l.map _
 exact List.map_congr_left fun t ht=>by rw[z7v ht]
theorem WT {α:Type}(h l:List α)(n:Nat):(h++l)[h.length+n]?=l[n]?:=by
 rw[List.getElem?_append_right (by omega)];congr 1;omega
theorem z72 {α:Type}(h l:List α):(h++l)[h.length]?=l[0]?:=by
 rw[List.getElem?_append_right (by omega)];congr 1;omega
theorem XT {α:Type}(h l:List α)(n:Nat)(o:α):(h++l).set (h.length+n) o=h++l.set n o:=by
 rw[List.set_append_right _ _ (by omega)];congr 2;omega
theorem z74 {α:Type}(h l:List α)(o:α):(h++l).set h.length o=h++l.set 0 o:=by
 rw[List.set_append_right _ _ (by omega)];congr 2;omega
theorem z0R {α:Type}(h l:List α)(n:Nat):(h++l).take (h.length+n)=h++l.take n:=List.take_length_add_append ..
theorem z0S {α:Type}(h l:List α):(h++l).take h.length=h:=List.take_left ..
theorem z0Q (h l:aA)(n k:Nat):frz (h++l) (h.length+n) k=h++frz l n k:=by
 unfold frz;rw[WT];cases l[n]? with
 | none=>rfl
 | some o=>cases o <;> first|rfl|simp only[XT]
theorem yA (n:Int)(h1 : -9223372036854775808≤n)(h2:n≤9223372036854775807):IntKind.i64.wrap n=n:=by
 simp [IntKind.wrap,IntKind.bits,IntKind.signed];omega
def mA (rs:List ARes)(kp:Bool)(b:Nat)(P:jA)(e:Ex)(s:St):Prop:=match e with
 | .exit _=>False
 | _=>match LC s rs with
  | some vs=>match kp with
   | true=>
    let n:=sB s.esc.length s.esc (max b (CA vs).top)
    if aB s.esc n then P (CA vs) (s.h.take n) (s.esc.filter fun y=>decide (y.1<n)) else P (CA vs) s.h s.esc
   | false=>match GA b s.h (CA vs) with
    | some v0=>
     let n:=sB s.esc.length s.esc (max b v0.top)
     if aB s.esc n then match GA n s.h (CA vs) with
      | some v=>v.top≤n∧P v (s.h.take n) (s.esc.filter fun y=>decide (y.1<n))
      | none=>False
     else P (CA vs) s.h s.esc
    | none=>False
  | none=>False
theorem z3a {F:AFun}(hO:OC F.results=false){b:Nat}{s:St}{P:jA}:fin F b s P=mA F.results F.keep b P .ret s:=by
 unfold fin;rw[hO];rfl
theorem OW {F:AFun}(hO:OC F.results=false){b:Nat}{P:jA}:finK F b P=mA F.results F.keep b P:=by
 funext e s
 cases e with
 | exit i=>rfl
 | normal=>exact z3a hO
 | ret=>exact z3a hO
def oM (rs:List ARes)(b:Nat)(P:jA)(e:Ex)(s:St):Prop:=match e with
 | .exit _=>False
 | _=>HE b P rs (LC s rs) s.h s.esc
theorem z2V {F:AFun}(hO:OC F.results=true){b:Nat}{P:jA}:finK F b P=oM F.results b P:=by
 funext e s
 cases e with
 | exit i=>rfl
 | normal=>show fin F b s P=_;unfold fin;rw[hO];rfl
 | ret=>show fin F b s P=_;unfold fin;rw[hO];rfl
def dD (kp:Bool)(b:Nat)(P:jA)(o:Option (List AV))(h:aA)(x:Esc):Prop:=match o with
 | some vs=>match kp with
  | true=>
   let n:=sB x.length x (max b (CA vs).top)
   if aB x n then P (CA vs) (h.take n) (x.filter fun y=>decide (y.1<n)) else P (CA vs) h x
  | false=>match GA b h (CA vs) with
   | some v0=>
    let n:=sB x.length x (max b v0.top)
    if aB x n then match GA n h (CA vs) with
     | some v=>v.top≤n∧P v (h.take n) (x.filter fun y=>decide (y.1<n))
     | none=>False
    else P (CA vs) h x
   | none=>False
 | none=>False
theorem z2Y {rs:List ARes}{kp:Bool}{b:Nat}{P:jA}{e:List (Nat × AV)}{h:aA}{x:Esc}:mA rs kp b P .normal ⟨e,h,x⟩=dD kp b P (LC ⟨e,h,x⟩ rs) h x:=(rfl)
theorem z2Z {rs:List ARes}{kp:Bool}{b:Nat}{P:jA}{e:List (Nat × AV)}{h:aA}{x:Esc}:mA rs kp b P .ret ⟨e,h,x⟩=dD kp b P (LC ⟨e,h,x⟩ rs) h x:=(rfl)
theorem zec {rs:List ARes}{kp:Bool}{b:Nat}{P:jA}{ex ex':Ex}{s s':St}(he:ex=ex')(hs:s=s'):mA rs kp b P ex s=mA rs kp b P ex' s':=by rw[he,hs]
theorem OR {b:Nat}{P:jA}{vs:List AV}{h:aA}(ht:(CA vs).top≤b)(hr:∀ b,GA b h (CA vs)=some (CA vs)):dD false b P (some vs) h []=P (CA vs) (h.take b) []:=by
 simp only[dD,hr,sB,List.length_nil,aB,List.all_nil,if_true,List.filter_nil,Nat.max_eq_left ht,ht,true_and]
theorem zif {b:Nat}{h:aA}{v:PV}:GA b h (.p v)=some (.p v):=(rfl)
theorem zii {b:Nat}{P:jA}{v:PV}{h:aA}:dD false b P (some [.p v]) h []=P (.p v) (h.take b) []:=OR (Nat.zero_le _) (fun _=>rfl)
theorem zij {b:Nat}{P:jA}{v u:PV}{h:aA}:dD false b P (some [.p v,.p u]) h []=P (.tup [.p v,.p u]) (h.take b) []:=OR (by simp [CA,AV.top,AV.tops]) (fun _=>rfl)
theorem zik {b:Nat}{P:jA}{v u w:PV}{h:aA}:dD false b P (some [.p v,.p u,.p w]) h []=P (.tup [.p v,.p u,.p w]) (h.take b) []:=OR (by simp [CA,AV.top,AV.tops]) (fun _=>rfl)
theorem zih {b:Nat}{P:jA}{h:aA}:dD false b P (some []) h []=P (.tup []) (h.take b) []:=OR (by simp [CA,AV.top,AV.tops]) (fun _=>rfl)
theorem zjV {h:aA}:h.take h.length=h:=List.take_length
theorem zgx {v:AV}:CA [v]=v:=(rfl)
theorem zjE {X:Ctx}{f:Nat}{F:AFun}{a asv:List AV}{h h1:aA}{P:jA}(hf:X.fn f=some F)(hr:F.byref=false)(hp:lA h a=some (asv,h1))(hl:asv.length=F.nparams)(hd:F.isDet=false)(hO:OC F.results=false) :
 bA X f a h P=AW (bA X) X.gl F.body ⟨enter asv,h1,[]⟩ (mA F.results F.keep h.length P):=by
 rw[DS hf hd,YN hr hp hl,OW hO]
theorem zjC {X:Ctx}{f:Nat}{F:AFun}{asv:List AV}{h:aA}{P:jA}(hf:X.fn f=some F)(hr:F.byref=true)(hl:asv.length=F.nparams)(hd:F.isDet=false)(hO:OC F.results=false) :
 bA X f asv h P=AW (bA X) X.gl F.body ⟨enter asv,h,[]⟩ (mA F.results F.keep h.length P):=by
 rw[DS hf hd,z7q hr hl,OW hO]
theorem zjG {X:Ctx}{f:Nat}{F:AFun}{a asv:List AV}{h h1:aA}{P:jA}(hf:X.fn f=some F)(hr:F.byref=false)(hp:lA h a=some (asv,h1))(hl:asv.length=F.nparams)(hd:F.isDet=true)(hO:OC F.results=false) :
 bA X f a h P = ∃v h' x,P v h' x∧AW (bA X) X.gl F.body ⟨enter asv,h1,[]⟩ (mA F.results F.keep h.length fun v1 h1 x1=>v1=v∧h1=h'∧x1=x):=by
 rw[z09 hf hd];simp only[YN hr hp hl,OW hO]
theorem zjF {X:Ctx}{f:Nat}{F:AFun}{a asv:List AV}{h h1:aA}{P:jA}(hf:X.fn f=some F)(hr:F.byref=false)(hp:lA h a=some (asv,h1))(hl:asv.length=F.nparams)(hd:F.isDet=false)(hO:OC F.results=true) :
 bA X f a h P=AW (bA X) X.gl F.body ⟨enter asv,h1,[]⟩ (oM F.results h.length P):=by
 rw[DS hf hd,YN hr hp hl,z2V hO]
theorem zjH {X:Ctx}{f:Nat}{F:AFun}{a asv:List AV}{h h1:aA}{P:jA}(hf:X.fn f=some F)(hr:F.byref=false)(hp:lA h a=some (asv,h1))(hl:asv.length=F.nparams)(hd:F.isDet=true)(hO:OC F.results=true) :
 bA X f a h P = ∃v h' x,P v h' x∧AW (bA X) X.gl F.body ⟨enter asv,h1,[]⟩ (oM F.results h.length fun v1 h1 x1=>v1=v∧h1=h'∧x1=x):=by
 rw[z09 hf hd];simp only[YN hr hp hl,z2V hO]
theorem rule {X:Ctx}{f:Nat}{a:List AV}{h:aA}{v:AV}{h':aA}{x:Esc}{K:jA}(H:bA X f a h fun v1 h1 x1=>v1=v∧h1=h'∧x1=x):bA X f a h K=K v h' x:=propext (bA.eq H K)
theorem z4p {k:IntKind}{n:Nat}:XA (.p (.int k (n:Int)))=some n:=by simp [XA]
theorem zgk {k:IntKind}{n:Nat}:XA (.p (.int k (no_index (OfNat.ofNat n:Int))))=some (OfNat.ofNat n:Nat):=z4p (n:=n)
theorem iQ {k:IntKind}{n:Int}(h:0≤n):XA (.p (.int k n))=some n.toNat:=by simp [XA,h]
theorem dB {α β:Type}(f:α→β){l:List α}{k:Nat}(h:k<l.length):(l.map f)[k]?=some (f l[k]):=by simp [h]
theorem z0f {α β:Type}(f:α→β)(l:List α)(a b:Nat):win (l.map f) a b=(win l a b).map f:=by simp [win,List.map_drop,List.map_take]
attribute [go_sem] eqs PV.eq1 PV.kind ne_eq not_false_eq_true not_true_eq_false Bool.and_self Bool.or_self Bool.not_eq_true
attribute [go_sem] Nat.max_le Nat.add_le_add_iff_left Option.isSome_none Option.isSome_some false_and and_false List.length_range Nat.sub_zero Nat.le_add_right
attribute [go_sem] z4p zgk Int.ofNat_lt Int.ofNat_le List.length_map
attribute [go_sem] z2Y z2Z zih zii zij zik zjV List.zipIdx_cons List.zipIdx_nil List.map_cons List.map_nil Nat.reduceAdd Nat.reduceEqDiff if_true if_false Option.map_some Option.map_none List.append_nil List.nil_append decide_eq_true_eq
def doS (C:Hd)(gl:Nat→Option PV)(q:AOp × List (Nat × AV) × AV)(h:aA):Prop:=ADo C gl q.1 q.2.1 h q.2.2 h []
def agK (C:Hd)(gl:Nat→Option PV)(h:aA)(dn:AC):List Nat→Prop
 | []=>True
 | j::r=>(match dn[j]? with|some q=>doS C gl q h|none=>False)∧agK C gl h dn r
def eaK (C:Hd)(gl:Nat→Option PV)(o:AOp)(e:List (Nat × AV))(v:AV)(hs:List aA):List Nat→Prop
 | []=>True
 | k::r=>(match hs[k]? with|some g=>doS C gl (o,e,v) g|none=>False)∧eaK C gl o e v hs r
theorem z0H {C:Hd}{gl:Nat→Option PV}{h:aA}{dn:AC}:∀{l:List Nat},agK C gl h dn l↔∀j∈l,∃q,dn[j]?=some q∧ADo C gl q.1 q.2.1 h q.2.2 h []
 | []=>by simp [agK]
 | j::r=>by
  simp only[agK,List.mem_cons,forall_eq_or_imp];rw[z0H (l:=r)];refine and_congr_left (fun _=>?_)
  cases hd:dn[j]? with
  | none=>simp
  | some q=>simp [doS]
theorem z1Z {C:Hd}{gl:Nat→Option PV}{o:AOp}{e:List (Nat × AV)}{v:AV}{hs:List aA}:∀{l:List Nat},eaK C gl o e v hs l↔∀k∈l,∃g,hs[k]?=some g∧ADo C gl o e g v g []
 | []=>by simp [eaK]
 | j::r=>by
  simp only[eaK,List.mem_cons,forall_eq_or_imp];rw[z1Z (l:=r)];refine and_congr_left (fun _=>?_)
  cases hd:hs[j]? with
  | none=>simp
  | some q=>simp [doS]
def effK (b:Bool)(h h':aA)(y:Esc):Prop:=match b with
 | true=>True
 | false=>h'=h∧y=[]
theorem z1X {C:Hd}{gl:Nat→Option PV}{e:List (Nat × AV)}{h:aA}{x:Esc}{L:List (Nat × AV)→aA→Esc→Prop}{op:AOp}{rd early again:List Nat}{eff:Bool}{r:List DOp}{dn:AC}{hs:List aA}{v:AV}{h':aA}{y:Esc} :
 GP C gl ⟨op,rd,eff,early,again⟩ r dn hs e h x L v h' y=(effK eff h h' y∧eaK C gl op (uA (some rd) e) v hs early∧agK C gl h' dn again∧TC C gl r (dn++[(op,uA (some rd) e,v)]) (hs++[h]) (put op.dst v e) h' (y++x) L):=by
 rw[zak,←propext z1Z,←propext z0H];cases eff <;> simp [effK]
theorem z1V {C:Hd}{gl:Nat→Option PV}{d:Option Nat}{g:Option (Nat × Bool)}{op:AO}{e:List (Nat × AV)}{v:AV}{h:aA}:doS C gl (⟨d,g,op⟩,e,v) h=doK C gl ⟨d,g,op⟩ e h (fun v1 h1 x1=>v1=v∧h1=h∧x1=[]):=by
 unfold doS doK;refine propext ⟨fun H=>⟨_,_,_,H,rfl,rfl,rfl⟩,fun⟨v1,h1,x1,H,a,b,c⟩=>by subst a;subst b;subst c;exact H⟩
theorem z9X {p:Prop}[Decidable p]{A B:Prop}:CC (.p (.bool (decide p))) A B=if p then A else B:=by rw[z1D];simp
def HG (C:Hd)(v:AV)(asv:List AV)(h:aA)(L:jA):Prop:=match v with
 | .fn g caps=>C g (asv++caps) h L
 | _=>False
theorem z0p {C:Hd}{gl:Nat→Option PV}{e:List (Nat × AV)}{h:aA}{x:Esc}{L:List (Nat × AV)→aA→Esc→Prop}{d:Option Nat}{f:Opd}{args:List Opd}{r:List AOp} :
 DA C gl (⟨d,none,.callv f args⟩::r) e h x L=HG C (Opd.ev gl e f) (args.map (Opd.ev gl e)) h (OI C gl r d e x L):=by
 have h2:wanted none e=some true:=(rfl)
 rw[DA];simp only[h2];unfold HG;split <;> simp_all <;> rfl
def GG (C:Hd)(v:AV)(asv:List AV)(h:aA)(R:AV→aA→Esc→Prop):Prop:=match v with
 | .fn g caps=>wE C g (asv++caps) h R
 | _=>False
theorem z1T {C:Hd}{gl:Nat→Option PV}{e:List (Nat × AV)}{h:aA}{R:AV→aA→Esc→Prop}{d:Option Nat}{f:Opd}{args:List Opd} :
 doK C gl ⟨d,none,.callv f args⟩ e h R=GG C (Opd.ev gl e f) (args.map (Opd.ev gl e)) h R:=by
 have h2:wanted none e=some true:=(rfl)
 unfold doK ADo;simp only[h2];unfold GG wE;split <;> simp_all
theorem z9A {C:Hd}{g:Nat}{caps asv:List AV}{h:aA}{L:jA}:HG C (.fn g caps) asv h L=C g (asv++caps) h L:=(rfl)
theorem z98 {C:Hd}{g:Nat}{caps asv:List AV}{h:aA}{R:AV→aA→Esc→Prop}:GG C (.fn g caps) asv h R=wE C g (asv++caps) h R:=(rfl)
theorem z99 {C:Hd}{v v':AV}{asv asv':List AV}{h h':aA}{L:jA}(h1:v=v')(h2:asv=asv')(h3:h=h'):HG C v asv h L=HG C v' asv' h' L:=by rw[h1,h2,h3]
theorem z97 {C:Hd}{v v':AV}{asv asv':List AV}{h h':aA}{R:AV→aA→Esc→Prop}(h1:v=v')(h2:asv=asv')(h3:h=h'):GG C v asv h R=GG C v' asv' h' R:=by rw[h1,h2,h3]
attribute [go_sem] z0p z1T z9A z98
attribute [congr] z99 z97
theorem zae {k:IntKind}{n:Int}:BA none 0 (.int k n)=some (.int k n):=(rfl)
theorem zag {s:List UInt8}:BA none 0 (.str s)=some (.str s):=(rfl)
theorem zad {off:Nat}{cs:List PV}:BA none off (.agg cs)=(cs[off]?).bind fun x=>if x.sc then some x else none:=(rfl)
theorem zac {n off:Nat}{cs:List PV}:BA (some n) off (.agg cs)=if off+n≤cs.length then some (.agg ((cs.drop off).take n)) else none:=(rfl)
theorem zaf {v:PV}(h:v.sc=true):BA none 0 v=some v:=by cases v <;> first|rfl|cases h
attribute [go_sem] zae zag zad zac
theorem zd9 {id:Nat}{v:PV}:mB id (.p v)=[]:=(rfl)
attribute [go_sem] List.take_succ_cons List.take_zero List.take_nil List.drop_succ_cons List.drop_zero List.drop_nil List.length_cons List.length_nil Nat.reduceLeDiff Nat.reduceLT Int.reduceLT Int.reduceLE Int.reduceAdd Int.reduceSub Int.reduceMul Int.reduceNeg Int.reduceEq Nat.reduceSub Nat.reduceMul Nat.le_refl List.append_assoc
theorem zkk {b:Nat}{x0:Esc}{e:List (Nat × AV)}{h:aA}:eD b x0 ⟨e,h,[]⟩=⟨dE b e,h.take b,x0⟩:=(rfl)
theorem z9G {n:Nat}:dE n []=[]:=(rfl)
theorem z9F {n k:Nat}{v:AV}{r:List (Nat × AV)}:dE n ((k,v)::r)=(k,if v.top≤n then v else .und)::dE n r:=(rfl)
theorem top_p {v:PV}:AV.top (.p v)=0:=(rfl)
theorem lS {id g o l:Nat}:AV.top (.own id g o l)=id+1:=by simp [AV.top]
theorem zke {id o:Nat}:AV.top (.ref id o)=id+1:=by simp [AV.top]
theorem zkd {id:Nat}:AV.top (.mp id)=id+1:=by simp [AV.top]
theorem zkc {f:Nat}{cs:List AV}:AV.top (.fn f cs)=AV.tops cs:=by simp [AV.top]
theorem zki:AV.tops []=0:=(rfl)
theorem zkf {v:AV}{r:List AV}:AV.tops (v::r)=max v.top (AV.tops r):=by simp [AV.tops]
theorem zil {b:Nat}{P:jA}{vs:List AV}{h:aA}:dD false b P (some vs) h []=match GA b h (CA vs) with
 | some v0=>match GA (max b v0.top) h (CA vs) with
  | some v=>v.top≤max b v0.top∧P v (h.take (max b v0.top)) []
  | none=>False
 | none=>False:=by
 simp only[dD,sB,List.length_nil,aB,List.all_nil,if_true,List.filter_nil]
theorem zie {b:Nat}{h:aA}{id g off len:Nat}:GA b h (.own id g off len)=if b≤id then(rd h (.own id g off len)).map fun y=>.p (.sl y.1 y.2) else some (.own id g off len):=by simp only[GA]
theorem z58 {h l:aA}{id:Nat}{o:Obj}(hid:id<h.length):(h++l).set id o=h.set id o++l:=List.set_append_left _ _ hid
theorem UP {h l:aA}{id:Nat}(hid:id<h.length):(h++l)[id]?=h[id]?:=List.getElem?_append_left hid
theorem z52 {h l:aA}{i n:Nat}{o:Obj}:(h.set i o++l)[h.length+n]?=l[n]?:=by
 have:=WT (h.set i o) l n;rwa [List.length_set]at this
theorem zjn {h l:aA}{i:Nat}{o:Obj}:(h.set i o++l)[h.length]?=l[0]?:=z52 (n:=0)
theorem z53 {h l:aA}{i n:Nat}{o q:Obj}:(h.set i o++l).set (h.length+n) q=h.set i o++l.set n q:=by
 have:=XT (h.set i o) l n q;rwa [List.length_set]at this
theorem zjo {h l:aA}{i:Nat}{o q:Obj}:(h.set i o++l).set h.length q=h.set i o++l.set 0 q:=z53 (n:=0)
theorem zjp {h l:aA}{i n:Nat}{o:Obj}:(h.set i o++l).take (h.length+n)=h.set i o++l.take n:=by
 have:=z0R (h.set i o) l n;rwa [List.length_set]at this
theorem zjq {h l:aA}{i:Nat}{o:Obj}:(h.set i o++l).take h.length=h.set i o:=by
 have:=z0S (h.set i o) l;rwa [List.length_set]at this
theorem zjm {h l:aA}{i n k:Nat}{o:Obj}:frz (h.set i o++l) (h.length+n) k=h.set i o++frz l n k:=by
 have:=z0Q (h.set i o) l n k;rwa [List.length_set]at this
theorem rF {α:Type}{l:List α}{n:Nat}(h:l.length=n):win l 0 n=l:=by subst h;simp [win]
attribute [go_sem] zkk z9G z9F top_p lS zke zkd zkc zki zkf Nat.max_zero Nat.zero_max Nat.zero_le zif zie WT z72 XT z74 z0R z0S z0Q z52 zjn z53 zjo zjp zjq zjm List.length_append Nat.add_le_add_iff_right Nat.zero_add Nat.add_zero
attribute [go_sem] nG PV.shp List.reduceReplicate cond_true cond_false Bool.not_true Bool.not_false Bool.false_eq_true Bool.true_and Bool.and_true Bool.false_and Bool.and_false Bool.true_or Bool.or_true Bool.false_or Bool.or_false beq_self_eq_true List.all_cons List.all_nil
attribute [go_sem low] zil
theorem zjW {h:aA}{id:Nat}{o:Obj}:(h.set id o).take h.length=h.set id o:=List.take_of_length_le (by simp)
attribute [go_sem] zjW Int.natCast_zero Int.natCast_one Int.cast_ofNat_Int
attribute [go_sem] aun uF dL eL List.foldlM_cons List.foldlM_nil Option.bind_some Option.pure_def Option.bind_eq_bind List.cons_append List.nil_append Int.zero_sub List.length_singleton
attribute [go_sem] gA zd9
attribute [go_sem] z0k z1S z1U wE ex3' z1X z1V List.not_mem_nil List.mem_cons List.mem_singleton forall_eq_or_imp forall_eq false_implies true_implies implies_true forall_const and_true true_and List.cons_append and_self reduceCtorEq List.getElem?_cons_zero List.getElem?_cons_succ Option.some.injEq exists_eq_left' List.set_cons_zero List.set_cons_succ List.set_set List.length_set
attribute [congr] z95 z6k
attribute [congr] zec
attribute [go_sem] z54 z0r z0o z1F z1E z9X decide_true decide_false z4c z4b z4d aop Opd.ev eA put uA BB mD rH LC fL zgx enter rd rds pur IK lA mkA unp cut AV.cells PV.cells PV.sc AV.sc splice pint pbool mG
attribute [go_sem low] z1D zk5 zk4
attribute [congr] z9W
end Go.Am
end
section
/- The abstract machine,part 28: where no map is ranged FE,a call that ends well ends in one way. -/
set_option linter.unusedSimpArgs false
set_option linter.unusedVariables false
namespace Go.Am
def AO.noNext:AO→Bool
 | .mnext _ _=>false
 | _=>true
def ACode.noNext:ACode→Bool
 | .reg ops _=>ops.all fun o=>o.op.noNext
 | .seq a b=>a.noNext&&b.noNext
 | .cond _ a b=>a.noNext&&b.noNext
 | .condu _ _ _=>false
 | .det _=>false
 | .block _ b=>b.noNext
 | .loop b=>b.noNext
 | .scope b=>b.noNext
 | .pr _ b=>b.noNext
 | _=>true
def Dt (C D:Hd):Prop:=∀f a h K,C f a h K→∃v h' x,K v h' x∧D f a h fun v1 h1 x1=>v1=v∧h1=h'∧x1=x
variable {C D:Hd} {gl:Nat→Option PV}
theorem ZK (hD:D.Mono)(hC:Dt C D):∀(ops:List AOp) e h x K,(ops.all fun o=>o.op.noNext)=true→DA C gl ops e h x K→∃e' h' x',K e' h' x'∧DA D gl ops e h x fun e1 h1 x1=>e1=e'∧h1=h'∧x1=x'
 | [],e,h,x,K,_,H=>⟨e,h,x,H,rfl,rfl,rfl⟩
 | o::r,e,h,x,K,hn,H=>by
  obtain⟨dst,guard,op⟩:=o;simp only[List.all_cons,Bool.and_eq_true]at hn;obtain⟨hn1,hn2⟩:=hn;unfold DA at H;dsimp only at H;split at H
  ·rename_i hw
   cases op;case call f args=>
    obtain⟨v,h',x',H',G'⟩:=hC _ _ _ _ H;obtain⟨e2,h2,x2,k2,g2⟩:=ZK hD hC r _ _ _ K hn2 H';refine⟨e2,h2,x2,k2,?_⟩;unfold DA;simp only[hw]
    exact hD _ _ _ _ _ (fun v1 h1 x1 ⟨a1,a2,a3⟩=>by subst a1;subst a2;subst a3;exact g2) G'
   case callv f args=>
    dsimp only at H;split at H
    ·rename_i hf
     obtain⟨v,h',x',H',G'⟩:=hC _ _ _ _ H;obtain⟨e2,h2,x2,k2,g2⟩:=ZK hD hC r _ _ _ K hn2 H';refine⟨e2,h2,x2,k2,?_⟩;unfold DA;simp only[hw,hf]
     exact hD _ _ _ _ _ (fun v1 h1 x1 ⟨a1,a2,a3⟩=>by subst a1;subst a2;subst a3;exact g2) G'
    ·exact H.elim
   case mnext sh xs=>simp [AO.noNext]at hn1
   all_goals
    dsimp only at H;split at H
    ·rename_i ha
     obtain⟨e2,h2,x2,k2,g2⟩:=ZK hD hC r _ _ _ K hn2 H;refine⟨e2,h2,x2,k2,?_⟩;unfold DA;simp only[hw,ha]
     exact g2
    ·exact H.elim
  ·rename_i hw
   obtain⟨e2,h2,x2,k2,g2⟩:=ZK hD hC r _ _ _ K hn2 H;refine⟨e2,h2,x2,k2,?_⟩;unfold DA;simp only[hw]
   exact g2
  ·exact H.elim
theorem vS (hD:D.Mono)(hC:Dt C D){o:AOp}{e:List (Nat × AV)}{h h':aA}{v:AV}{x:Esc}(H:ADo C gl o e h v h' x):ADo D gl o e h v h' x:=by
 have key:∀f a h,C f a h (fun v1 h1 x1=>v1=v∧h1=h'∧x1=x)→D f a h (fun v1 h1 x1=>v1=v∧h1=h'∧x1=x):=fun f a h hc=>by
  obtain⟨v2,h2,x2,⟨e1,e2,e3⟩,hd⟩:=hC _ _ _ _ hc;subst e1;subst e2;subst e3
  exact hd
 unfold ADo at H ⊢;split at H
 ·split at H
  ·exact key _ _ _ H
  ·split at H
   ·exact key _ _ _ H
   ·exact H.elim
  ·exact H.elim
  ·exact H
 ·exact H
 ·exact H.elim
theorem z0l (hD:D.Mono)(hC:Dt C D):∀(ds:List DOp) dn hs e h x K,TC C gl ds dn hs e h x K→∃e' h' x',K e' h' x'∧TC D gl ds dn hs e h x fun e1 h1 x1=>e1=e'∧h1=h'∧x1=x'
 | [],dn,hs,e,h,x,K,H=>⟨e,h,x,H,rfl,rfl,rfl⟩
 | o::r,dn,hs,e,h,x,K,H=>by
  obtain⟨v,h',y,h1,h2,h3,h4,h5⟩:=H;obtain⟨e2,q2,x2,k2,g2⟩:=z0l hD hC r _ _ _ _ _ K h5;exact⟨e2,q2,x2,k2,v,h',y,vS hD hC h1,h2,fun k hk=>by obtain⟨g,a1,a2⟩:=h3 k hk;exact⟨g,a1,vS hD hC a2⟩,
   fun j hj=>by obtain⟨q,a1,a2⟩:=h4 j hj;exact⟨q,a1,vS hD hC a2⟩,g2⟩
theorem z6r {T U:St→(Ex→St→Prop)→Prop}(hT:∀ s K,T s K→∃ e s',K e s'∧U s fun e1 s1=>e1=e∧s1=s'){K:Ex→St→Prop}{s:St}(H:ALoop T K s):∃e s',K e s'∧ALoop U (fun e1 s1=>e1=e∧s1=s') s:=by
 induction H with
 | mk s R h hn he hr ih=>
  obtain⟨e,s',hR,hU⟩:=hT _ _ h;cases e with
  | normal=>
   obtain⟨e2,s2,k2,g2⟩:=ih s' hR;exact⟨e2,s2,k2,.mk _ _ hU (fun s1 ⟨_,h1⟩=>by subst h1;exact g2) (fun i s1 ⟨h1,_⟩=>by cases h1) (fun s1 ⟨h1,_⟩=>by cases h1)⟩
  | exit i=>exact⟨_,_,he i s' hR,.mk _ _ hU (fun s1 ⟨h1,_⟩=>by cases h1) (fun j s1 h1=>h1) (fun s1 ⟨h1,_⟩=>by cases h1)⟩
  | ret=>exact⟨_,_,hr s' hR,.mk _ _ hU (fun s1 ⟨h1,_⟩=>by cases h1) (fun j s1 ⟨h1,_⟩=>by cases h1) (fun s1 h1=>h1)⟩
theorem TF (hD:D.Mono)(hC:Dt C D):∀(c:ACode),c.noNext=true→∀s K,AW C gl c s K→∃e s',K e s'∧AW D gl c s fun e1 s1=>e1=e∧s1=s'
 | .skip,_,s,K,H=>⟨_,_,H,rfl,rfl⟩
 | .reg ops keep,hn,s,K,H=>by
  obtain⟨e,h,x,h1,h2⟩:=ZK hD hC ops _ _ _ _ hn H;refine⟨_,_,h1,?_⟩;show DA D gl ops s.env s.h s.esc fun e1 h1 x1=>_
  exact mH (C:=D) (C':=D) (fun f a h K K' hK h=>hD _ _ _ _ _ hK h) ops _ _ _ _ _ (fun e1 h1 x1 ⟨a1,a2,a3⟩=>by subst a1;subst a2;subst a3;exact⟨rfl,rfl⟩) h2
 | .draw ds keep,_,s,K,H=>by
  obtain⟨e,h,x,h1,h2⟩:=z0l hD hC ds _ _ _ _ _ _ H;refine⟨_,_,h1,?_⟩;show TC D gl ds [] [] s.env s.h s.esc fun e1 h1 x1=>_
  exact yS (C:=D) (C':=D) (fun f a h K K' hK h=>hD _ _ _ _ _ hK h) ds _ _ _ _ _ _ _ (fun e1 h1 x1 ⟨a1,a2,a3⟩=>by subst a1;subst a2;subst a3;exact⟨rfl,rfl⟩) h2
 | .seq a b,hn,s,K,H=>by
  simp only[ACode.noNext,Bool.and_eq_true]at hn;obtain⟨e,s',h1,h2⟩:=TF hD hC a hn.1 _ _ H;have mono:=fun(K K':Ex→St→Prop) (hK:∀e s,K e s→K' e s)=>KC (C:=D) (C':=D) (gl:=gl) (fun f a h K K' hK h=>hD _ _ _ _ _ hK h) a s K K' hK
  cases e with
  | normal=>
   obtain⟨e2,s2,k2,g2⟩:=TF hD hC b hn.2 _ _ h1;refine⟨e2,s2,k2,mono _ _ (fun e1 s1 ⟨a1,a2⟩=>?_) h2⟩
   subst a1;subst a2;exact g2
  | exit i=>exact⟨_,_,h1,mono _ _ (fun e1 s1 ⟨a1,a2⟩=>by subst a1;subst a2;exact⟨rfl,rfl⟩) h2⟩
  | ret=>exact⟨_,_,h1,mono _ _ (fun e1 s1 ⟨a1,a2⟩=>by subst a1;subst a2;exact⟨rfl,rfl⟩) h2⟩
 | .condu c a b,hn,s,K,H=>by cases hn
 | .det b,hn,s,K,H=>by cases hn
 | .cond c a b,hn,s,K,H=>by
  simp only[ACode.noNext,Bool.and_eq_true]at hn;unfold AW at H;split at H
  ·rename_i t ht
   split at H
   ·obtain⟨e,s',h1,h2⟩:=TF hD hC a hn.1 _ _ H
    refine⟨e,s',h1,?_⟩;unfold AW;simp only[ht];exact h2
   ·obtain⟨e,s',h1,h2⟩:=TF hD hC b hn.2 _ _ H
    refine⟨e,s',h1,?_⟩;unfold AW;simp only[ht];exact h2
  ·exact H.elim
 | .block id b,hn,s,K,H=>by
  obtain⟨e,s',h1,h2⟩:=TF hD hC b hn _ _ H;have mono:=fun(K K':Ex→St→Prop) (hK:∀e s,K e s→K' e s)=>KC (C:=D) (C':=D) (gl:=gl) (fun f a h K K' hK h=>hD _ _ _ _ _ hK h) b s K K' hK
  cases e with
  | normal=>exact⟨_,_,h1,mono _ _ (fun e1 s1 ⟨a1,a2⟩=>by subst a1;subst a2;exact⟨rfl,rfl⟩) h2⟩
  | exit i=>
   dsimp only at h1;split at h1
   ·rename_i hi
    exact⟨_,_,h1,mono _ _ (fun e1 s1 ⟨a1,a2⟩=>by subst a1;subst a2;dsimp only;rw[if_pos hi];exact⟨rfl,rfl⟩) h2⟩
   ·rename_i hi
    exact⟨_,_,h1,mono _ _ (fun e1 s1 ⟨a1,a2⟩=>by subst a1;subst a2;dsimp only;rw[if_neg hi];exact⟨rfl,rfl⟩) h2⟩
  | ret=>exact⟨_,_,h1,mono _ _ (fun e1 s1 ⟨a1,a2⟩=>by subst a1;subst a2;exact⟨rfl,rfl⟩) h2⟩
 | .loop b,hn,s,K,H=>z6r (fun s K h=>TF hD hC b hn s K h) H
 | .scope b,hn,s,K,H=>by
  obtain⟨e,s',h1,h2⟩:=TF hD hC b hn _ _ H;exact⟨_,_,h1,KC (C:=D) (C':=D) (gl:=gl) (fun f a h K K' hK h=>hD _ _ _ _ _ hK h) b _ _ _ (fun e1 s1 ⟨a1,a2⟩=>by subst a1;subst a2;exact⟨rfl,rfl⟩) h2⟩
 | .pr l b,hn,s,K,H=>TF hD hC b hn _ K H
 | .exit id,_,s,K,H=>⟨_,_,H,rfl,rfl⟩
 | .ret,_,s,K,H=>⟨_,_,H,rfl,rfl⟩
 | .bad,_,s,K,H=>H.elim
theorem z3b {F:AFun}{b:Nat}{s:St}{K:jA}(H:fin F b s K):∃v h x,K v h x∧fin F b s fun v1 h1 x1=>v1=v∧h1=h∧x1=x:=by
 cases h0:OC F.results with
 | true=>
  unfold fin at H;rw[h0]at H;cases h1:LC s F.results with
  | none=>rw[h1]at H;exact H.elim
  | some vs=>
   rw[h1]at H;unfold HE at H;dsimp only at H;cases h2:cmpO b s.h F.results vs with
   | none=>rw[h2]at H;exact H.elim
   | some y=>
    rw[h2]at H;exact⟨_,_,_,H.2,by unfold fin;rw[h0,h1];unfold HE;dsimp only;rw[h2];exact⟨H.1,rfl,rfl,rfl⟩⟩
 | false=>
 unfold fin at H;rw[h0]at H;cases h1:LC s F.results with
 | none=>rw[h1]at H;exact H.elim
 | some vs=>
  rw[h1]at H;dsimp only at H;cases h2:F.keep with
  | true=>
   rw[h2]at H;dsimp only at H;by_cases h3:aB s.esc (sB (List.length s.esc) s.esc (max b (CA vs).top))=true
   ·rw[if_pos h3]at H
    exact⟨_,_,_,H,by unfold fin;rw[h0];dsimp only;rw[h1];dsimp only;rw[h2];dsimp only;rw[if_pos h3];exact⟨rfl,rfl,rfl⟩⟩
   ·rw[if_neg h3]at H
    exact⟨_,_,_,H,by unfold fin;rw[h0];dsimp only;rw[h1];dsimp only;rw[h2];dsimp only;rw[if_neg h3];exact⟨rfl,rfl,rfl⟩⟩
  | false=>
   rw[h2]at H;dsimp only at H;cases h4:GA b s.h (CA vs) with
   | none=>rw[h4]at H;exact H.elim
   | some v0=>
    rw[h4]at H;dsimp only at H;by_cases h3:aB s.esc (sB (List.length s.esc) s.esc (max b v0.top))=true
    ·rw[if_pos h3]at H
     cases h5:GA (sB (List.length s.esc) s.esc (max b v0.top)) s.h (CA vs) with
     | none=>rw[h5]at H;exact H.elim
     | some v=>
      rw[h5]at H;exact⟨_,_,_,H.2,by unfold fin;rw[h0];dsimp only;rw[h1];dsimp only;rw[h2];dsimp only;rw[h4];dsimp only;rw[if_pos h3,h5];exact⟨H.1,rfl,rfl,rfl⟩⟩
    ·rw[if_neg h3]at H
     exact⟨_,_,_,H,by unfold fin;rw[h0];dsimp only;rw[h1];dsimp only;rw[h2];dsimp only;rw[h4];dsimp only;rw[if_neg h3];exact⟨rfl,rfl,rfl⟩⟩
def Ctx.NoNext (X:Ctx):Prop:=∀f F,X.fn f=some F→(F.isDet||F.body.noNext)=true
theorem z7p (hD:D.Mono)(hC:Dt C D){F:AFun}{a:List AV}{h:aA}{K:jA}(hb:F.body.noNext=true)(H:qC C gl F a h K):∃v h' x,K v h' x∧qC D gl F a h fun v1 h1 x1=>v1=v∧h1=h'∧x1=x:=by
 unfold qC at H ⊢;cases hp:(if F.byref then some (a,h) else lA h a) with
 | none=>rw[hp]at H;exact H.elim
 | some q=>
  obtain⟨asv,h1⟩:=q;rw[hp]at H;obtain⟨hl,H⟩:=H;obtain⟨e,s',k1,g1⟩:=TF hD hC _ hb _ _ H;have mono:=fun(K K':Ex→St→Prop) (hK:∀e s,K e s→K' e s)=>KC (C:=D) (C':=D) (gl:=gl) (fun f a h K K' hK h=>hD _ _ _ _ _ hK h) F.body ⟨enter asv,h1,[]⟩ K K' hK
  cases e with
  | exit i=>exact k1.elim
  | normal=>
   obtain⟨v,h',x,k2,g2⟩:=z3b k1;exact⟨v,h',x,k2,hl,mono _ _ (fun e1 s1 ⟨a1,a2⟩=>by subst a1;subst a2;exact g2) g1⟩
  | ret=>
   obtain⟨v,h',x,k2,g2⟩:=z3b k1;exact⟨v,h',x,k2,hl,mono _ _ (fun e1 s1 ⟨a1,a2⟩=>by subst a1;subst a2;exact g2) g1⟩
theorem z6l {X:Ctx}(hX:X.NoNext):Dt (bA X) (bA X):=by
 intro f a h K H;refine H (fun f a h K=>∃v h' x,K v h' x∧bA X f a h fun v1 h1 x1=>v1=v∧h1=h'∧x1=x) ?_ ?_
 ·intro f a h K K' hK ⟨v,h',x,k,g⟩
  exact⟨v,h',x,hK _ _ _ k,g⟩
 ·intro f a h K H
  have hC:Dt (fun f a h K=>∃v h' x,K v h' x∧bA X f a h fun v1 h1 x1=>v1=v∧h1=h'∧x1=x) (bA X):=fun f a h K H=>H
  have hD:=bA.mono X
  unfold NB at H;split at H
  ·rename_i F hF
   unfold CD at H;cases hd:F.isDet with
   | true=>
    rw[hd]at H;obtain⟨v,h',x,k,H⟩:=H;refine⟨v,h',x,k,bA.fold ?_⟩;unfold NB;simp only[hF,CD,hd];exact⟨v,h',x,⟨rfl,rfl,rfl⟩,XN (fun f a h K K' hK ⟨v2,h2,x2,k2,g2⟩=>hD _ _ _ _ _ (fun v1 h1 x1 hv=>by obtain⟨rfl,rfl,rfl⟩:=hv;exact hK _ _ _ k2) g2) (fun _ _ _ h=>h) H⟩
   | false=>
    rw[hd]at H;obtain⟨v,h',x,k1,g1⟩:=z7p hD hC (by have:=hX f F hF;rw[hd]at this;simpa using this) H
    refine⟨v,h',x,k1,bA.fold ?_⟩;unfold NB;simp only[hF,CD,hd]
    exact g1
  ·rename_i hF
   split at H
   ·rename_i hx2
    refine⟨_,_,_,H,bA.fold ?_⟩;unfold NB;simp only[hF,hx2]
    exact⟨trivial,trivial,trivial⟩
   ·rename_i hx2
    split at H
    ·rename_i hp
     split at H
     ·rename_i hu
      split at H
      ·rename_i hx
       refine⟨_,_,_,H,bA.fold ?_⟩;unfold NB;simp only[hF,hx2,hp,hu,hx]
       exact⟨trivial,trivial,trivial⟩
      ·exact H.elim
     ·exact H.elim
    ·exact H.elim
theorem bA.one {X:Ctx}(hX:X.NoNext){f:Nat}{a:List AV}{h:aA}{Q:jA}(H:bA X f a h Q):∃v h' x,Q v h' x∧∀K:jA,bA X f a h K=K v h' x:=by
 obtain⟨v,h',x,k,g⟩:=z6l hX _ _ _ _ H;exact⟨v,h',x,k,fun K=>rule g⟩
end Go.Am
end
