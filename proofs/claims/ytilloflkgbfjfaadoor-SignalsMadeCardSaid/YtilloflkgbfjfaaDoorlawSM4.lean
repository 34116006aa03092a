/- Texts of the proof, laid together: AmG, AmH, Am21, Am22, Am23, Am24, Am25, Am26, Am27. -/
import Derived.Below
import Derived.ChangeSlices
import Derived.Carry
import Derived.Test.YtilloflkgbfjfaaDoorlawSM3
set_option linter.all false
section
/- The abstract machine,part G: regions whose order is left open: whatever the order. -/
set_option linter.unusedSimpArgs false
set_option linter.unusedVariables false
set_option maxHeartbeats 1000000
namespace Go.Am
variable {h h' : Heap} {μ μ' : Mu} {w w' : World} {P : Program} {M M' : Mem}
variable {gl : Nat → Option PV} {nt : Nat} {M0 : Mem} {h0 : Heap} {μ0 : Mu} {e : List (Nat × AV)} {x : Esc} {a : Act} {ops : Array Oper}
theorem pair_spec {tab : List (List Nat)} (ht : ∀ i l,tab[i]? = some l → ∀ k ∈ l,Bef ops k i) {i j : Nat} {p q : DOp} (h : pairOk tab i j p q = true) :
    Bef ops i j ∨ (¬ (p.eff = true ∧ q.eff = true) ∧ (∀ t,p.op.dst = some t → q.op.dst ≠ some t ∧ t ∉ q.rd) ∧ (∀ t,q.op.dst = some t → t ∉ p.rd) ∧
      (q.eff = true → p.eff = false → p.op.op.hfree = true ∨ i ∈ q.again) ∧ (p.eff = true → q.eff = false → q.op.op.hfree = true ∨ i ∈ q.early)):=by
  unfold pairOk at h
  rw [Bool.or_eq_true] at h
  rcases h with h | h
  · left
    cases hq : tab[j]? with
    | none=>simp [List.getD,hq] at h
    | some l=>simp [List.getD,hq] at h; exact ht j l hq i h
  · right
    simp only [Bool.and_eq_true,Bool.not_eq_true',Bool.or_eq_true] at h
    obtain ⟨⟨⟨⟨h1,h2⟩,h3⟩,h4⟩,h5⟩:=h
    refine ⟨fun hab=>by (rw [hab.1,hab.2] at h1; cases h1),fun t ht=>?_,fun t ht=>?_,fun ha hb=>?_,fun ha hb=>?_⟩
    · rw [ht] at h2
      simpa using h2
    · rw [ht] at h3
      simpa using h3
    · rw [ha, hb] at h4
      simpa using h4
    · rw [ha, hb] at h5
      simpa using h5
theorem env_lk {C : Hd} {ds : List DOp} {E : Nat → List (Nat × AV)} {H : Nat → Heap} {V : Nat → AV} {X Y : Nat → Esc} (T : ∀ i o,ds[i]? = some o → Tr C gl ds 0 [] [] E H V X Y i o) (e0 : E 0 = e) (t : Nat) :
    ∀ i,i ≤ ds.length → aget (E i) t = lk (fun i=>(ds[i]?).bind (·.op.dst)) V e (fun _=>true) i t
  | 0,_=>by simp [lk,e0]
  | i + 1,hi=>by
    have ho:=List.getElem?_eq_getElem (show i < ds.length by omega)
    have hT:=(T i _ ho).env
    simp only [Nat.zero_add] at hT
    rw [hT,aget_put,env_lk T e0 t i (by omega)]
    simp only [lk,ho,Option.bind_some,true_and]
theorem still_run {C : Hd} {ds : List DOp} {E : Nat → List (Nat × AV)} {H : Nat → Heap} {V : Nat → AV} {X Y : Nat → Esc} (T : ∀ i o,ds[i]? = some o → Tr C gl ds 0 [] [] E H V X Y i o) {c : Nat} :
    ∀ d,c + d ≤ ds.length → (∀ k o,c ≤ k → k < c + d → ds[k]? = some o → o.eff = false) → H (c + d) = H c ∧ X (c + d) = X c
  | 0,_,_=>⟨rfl,rfl⟩
  | d + 1,hd,hn=>by
    have ho:=List.getElem?_eq_getElem (show c + d < ds.length by omega)
    have hT:=T _ _ ho
    have hs:=hT.still (hn _ _ (by omega) (by omega) ho)
    obtain ⟨h1,h2⟩:=still_run T d (by omega) (fun k o h1 h2 h3=>hn k o h1 (by omega) h3)
    simp only [Nat.zero_add] at hs
    have he:=hT.esc
    simp only [Nat.zero_add] at he
    rw [hs.2] at he
    exact ⟨by rw [← Nat.add_assoc,hs.1,h1],by rw [← Nat.add_assoc,he,List.nil_append,h2]⟩
theorem ADo_hfree {C : Hd} {o : AOp} (hf : o.op.hfree = true) {v : AV} {y : Esc} (H : ADo C gl o e h v h' y) (g : Heap) : ADo C gl o e g v g []:=by
  obtain ⟨dst,guard,op⟩:=o
  unfold ADo at H ⊢
  dsimp only at H hf ⊢
  split at H
  · cases op
    case call f args=>cases hf
    case callv f args=>cases hf
    case mnext sh xs=>cases hf
    all_goals exact hfree_ok hf H g
  · exact ⟨H.1,rfl,rfl⟩
  · exact H.elim
theorem least {p : Nat → Prop} {c i : Nat} (h : ∃ k,c ≤ k ∧ k < i ∧ p k) : ∃ k,c ≤ k ∧ k < i ∧ p k ∧ ∀ k',c ≤ k' → k' < k → ¬ p k':=by
  obtain ⟨k,h1,h2,h3⟩:=h
  induction k using Nat.strongRecOn with
  | _ k ih=>
    by_cases hq : ∃ k',c ≤ k' ∧ k' < k ∧ p k'
    · obtain ⟨k', q1, q2, q3⟩ := hq
      exact ih k' q2 q1 (by omega) q3
    · exact ⟨k,h1,h2,h3,fun k' q1 q2 q3=>hq ⟨k',q1,q2,q3⟩⟩
theorem draw_sound {C : Hd} (hC : ∀ f a h K,C f a h K → CallOk P gl f a h K) {ds : List DOp} {K : List (Nat × AV) → Heap → Esc → Prop} {Q : Exit → Act → World → Prop} (hc : chkDraw P nt ops ds = true)
    (HD : ADraw C gl ds [] [] e h x K) (R : Rel gl nt M0 h0 μ0 e h x a w μ) (hK : ∀ e h x a w μ,K e h x → Rel gl nt M0 h0 μ0 e h x a w μ → Q .normal a w) :
    wpAny P .any ops Q ops.size (Array.replicate ops.size false) a w:=by
  unfold chkDraw at hc
  simp only [Bool.and_eq_true] at hc
  obtain ⟨⟨c1,c2⟩,c3⟩:=hc
  obtain ⟨c4,c5⟩:=chkOps_spec c1
  have hn : ds.length = ops.size:=by simpa using c4
  have htab:=closeTab_ok (ops:=ops) ops.toList 0 [] (by simp) rfl (fun i l hi=>by simp at hi)
  have hpair : ∀ (i j : Nat) (p q : DOp),ds[i]? = some p → ds[j]? = some q → i < j → Bef ops i j ∨ (¬ (p.eff = true ∧ q.eff = true) ∧ (∀ t,p.op.dst = some t → q.op.dst ≠ some t ∧ t ∉ q.rd) ∧ (∀ t,q.op.dst = some t → t ∉ p.rd) ∧
      (q.eff = true → p.eff = false → p.op.op.hfree = true ∨ i ∈ q.again) ∧ (p.eff = true → q.eff = false → q.op.op.hfree = true ∨ i ∈ q.early)):=fun i j p q hp hq hlt=>by
    have:=rowsOk_spec c3 j q hq i p hp (by omega)
    rw [Nat.zero_add] at this
    exact pair_spec htab this
  have hop : ∀ (i : Nat) (o : DOp),ds[i]? = some o → ∃ p,ops[i]? = some p ∧ chkAOp P nt ops o.op p = true:=fun i o ho=>by
    obtain ⟨p,q1,q2⟩:=c5 i o.op (by simp [ho])
    rw [Nat.zero_add] at q1
    exact ⟨p,q1,q2⟩
  obtain ⟨E,H,V,X,Y,e1,e2,e3,T,e5⟩:=trace ds 0 [] [] e h x K HD rfl rfl
  simp only [Nat.zero_add] at e5
  have hE:=fun t i hi=>env_lk (e:=e) T e1 t i hi
  let dst : Nat → Option Nat:=fun i=>(ds[i]?).bind (·.op.dst)
  have hdst : ∀ (i : Nat) (o : DOp),ds[i]? = some o → dst i = o.op.dst:=fun i o ho=>by show (ds[i]?).bind _ = _; rw [ho]; rfl
  have hdst' : ∀ (i t : Nat),dst i = some t → ∃ o,ds[i]? = some o ∧ o.op.dst = some t:=fun i t ht=>by
    cases ho : ds[i]? with
    | none=>exact absurd ht (by show (ds[i]?).bind _ ≠ _; rw [ho]; simp)
    | some o=>exact ⟨o,rfl,by rw [← hdst i o ho]; exact ht⟩
  have hstill : ∀ c i,c ≤ i → i ≤ ds.length → (∀ (k : Nat) (o : DOp),c ≤ k → k < i → ds[k]? = some o → o.eff = false) → H i = H c ∧ X i = X c:=fun c i hci hi hk=>by
    have:=still_run T (c:=c) (i - c) (by omega) (fun k o h1 h2 h3=>hk k o h1 (by omega) h3)
    rwa [show c + (i - c) = i by omega] at this
  have done : ∀ (listed : Array Bool) (c : Nat) (en : List (Nat × AV)) (a : Act) (w : World) (μ : Mu),(∀ i,i < ops.size → listed.getD i false = true) → (∀ (k : Nat) (o : DOp),ds[k]? = some o → o.eff = true → (listed.getD k false = true ↔ k < c)) → c ≤ ds.length →
      (∀ t,aget en t = lk dst V e (fun i=>listed.getD i false) ds.length t) → Rel gl nt M0 h0 μ0 en (H c) (X c) a w μ → Q .normal a w:=by
    intro listed c en a w μ hall hce hcl hen R
    have hHn:=hstill c ds.length hcl (Nat.le_refl _) (fun k o h1 h2 h3=>by
      cases hb : o.eff with
      | false=>rfl
      | true=>have:=(hce k o h3 hb).1 (hall k (by omega)); omega)
    refine hK _ _ _ a w μ e5 ?_
    rw [hHn.1,hHn.2]
    refine ⟨R.heap,fun t=>?_,R.glob,R.evo,R.esc,R.size,R.defers⟩
    rw [hE t _ (Nat.le_refl _)]
    have:=hen t
    rw [lk_congr (s':=fun _=>true) ds.length (fun j hj _=>hall j (by omega))] at this
    rw [← this]
    exact R.env t
  have key : ∀ (fuel : Nat) (listed : Array Bool) (U : List Nat) (c : Nat) (en : List (Nat × AV)) (a : Act) (w : World) (μ : Mu),listed.size = ops.size → (∀ i,i < ops.size → listed.getD i false = false → i ∈ U) → U.length ≤ fuel →
      Down ops (fun i=>listed.getD i false) → (∀ (k : Nat) (o : DOp),ds[k]? = some o → o.eff = true → (listed.getD k false = true ↔ k < c)) → (c = 0 ∨ ∃ (k : Nat) (o : DOp),c = k + 1 ∧ ds[k]? = some o ∧ o.eff = true) → c ≤ ds.length →
      (∀ t,aget en t = lk dst V e (fun i=>listed.getD i false) ds.length t) → Rel gl nt M0 h0 μ0 en (H c) (X c) a w μ → wpAny P .any ops Q fuel listed a w:=by
    intro fuel
    induction fuel with
    | zero=>
      intro listed U c en a w μ hsz hU hUl hD hce hc0 hcl hen R
      have hall : ∀ i,i < ops.size → listed.getD i false = true:=fun i hi=>by
        cases hb : listed.getD i false with
        | true=>rfl
        | false=>
          have:=hU i hi hb
          have hnil : U = []:=List.length_eq_zero_iff.1 (by omega)
          rw [hnil] at this; cases this
      refine ⟨?_,done listed c en a w μ hall hce hcl hen R⟩
      rw [List.eq_nil_iff_forall_not_mem]
      intro i hi
      rw [mem_ready] at hi
      obtain ⟨q1,o,q2,_⟩:=hi
      have hi : i < ops.size:=(Array.getElem?_eq_some_iff.1 q2).1
      have:=hall i hi
      simp [Array.getD,hsz,hi] at q1 this
      rw [q1] at this; cases this
    | succ fuel ih=>
      intro listed U c en a w μ hsz hU hUl hD hce hc0 hcl hen R
      refine ⟨fun hr=>?_,fun i hi=>?_⟩
      · have hall : ∀ i,i < ops.size → listed.getD i false = true:=by
          intro i
          induction i using Nat.strongRecOn with
          | _ i ihi=>
            intro hi
            cases hb : listed.getD i false with
            | true=>rfl
            | false=>
              have hm : i ∈ Region.ready .any ops listed:=by
                rw [mem_ready]
                refine ⟨by simp [Array.getD,hsz,hi] at hb ⊢; exact hb,ops[i],Array.getElem?_eq_getElem hi,fun ed hed hbd=>?_⟩
                have hk : ed.on ∈ edgesOf ops[i]:=List.mem_map.2 ⟨ed,List.mem_filter.2 ⟨by simpa using hed,hbd⟩,rfl⟩
                have hlt:=edgesLt_spec c2 i ops[i] (by simp [hi]) ed.on hk
                exact ihi ed.on (by omega) (by omega)
              rw [hr] at hm
              cases hm
        exact done listed c en a w μ hall hce hcl hen R
      · rw [mem_ready] at hi
        obtain ⟨q1,p,hp,q3⟩:=hi
        have hin : i < ops.size:=(Array.getElem?_eq_some_iff.1 hp).1
        have hnl : listed.getD i false = false:=by
          simp [Array.getD,hsz,hin] at q1 ⊢
          exact q1
        have hready : ∀ o,ops[i]? = some o → ∀ k ∈ edgesOf o,listed.getD k false = true:=by
          intro o ho k hk
          rw [hp] at ho
          injection ho with ho
          subst ho
          obtain ⟨ed,q4,rfl⟩:=List.mem_map.1 hk
          obtain ⟨q5,q6⟩:=List.mem_filter.1 q4
          exact q3 ed (by simpa using q5) q6
        have ho:=List.getElem?_eq_getElem (show i < ds.length by omega)
        generalize ds[i]'(by omega) = o at ho
        obtain ⟨p',hp',hck⟩:=hop i o ho
        rw [hp] at hp'
        injection hp' with hp'
        subst hp'
        obtain ⟨hd1,hd2⟩:=chkAOp_dst hck
        have hT:=T i o ho
        have hrun:=hT.run
        simp only [Nat.zero_add] at hrun
        have before : ∀ (k : Nat) (q : DOp),ds[k]? = some q → k < i → Bef ops k i → listed.getD k false = true:=fun k q _ _ hb=>hb.ready hD hready
        have behind : ∀ (k : Nat),Bef ops i k → listed.getD k false = false:=fun k hb=>by
          cases hs : listed.getD k false with
          | false=>rfl
          | true=>have:=hb.down hD hs; rw [hnl] at this; cases this
        have Renv : Rel gl nt M0 h0 μ0 (prune (some o.rd) (E i)) (H c) (X c) a w μ:=by
          refine ⟨R.heap,fun t=>?_,R.glob,R.evo,R.esc,R.size,R.defers⟩
          rw [aget_prune']
          split
          · rename_i htr
            have h1:=hen t
            rw [lk_none (i:=i) ds.length (by omega) (fun j hij hj hdj=>by
              obtain ⟨q,hq,hqd⟩:=hdst' j t hdj
              rcases Nat.eq_or_lt_of_le hij with hh | hh
              · subst hh; exact hnl
              · rcases hpair i j o q ho hq hh with hb | ⟨_, _, k3, _⟩
                · exact behind j hb
                · exact absurd htr (k3 t hqd)),lk_congr (s':=fun _=>true) i (fun j hj hdj=>by
              obtain ⟨q,hq,hqd⟩:=hdst' j t hdj
              rcases hpair j i q o hq ho hj with hb | ⟨_,k2,_⟩
              · exact before j q hq hj hb
              · exact absurd htr (k2 t hqd).2),← hE t i (by omega)] at h1
            rw [← h1]
            exact R.env t
          · exact .und _
        have next : ∀ (c' : Nat) (a' : Act) (w' : World) (μ' : Mu) (u : Value),a' = a.put p.dst u → (∀ (k : Nat) (q : DOp),ds[k]? = some q → q.eff = true → ((listed.setIfInBounds i true).getD k false = true ↔ k < c')) → (c' = 0 ∨ ∃ (k : Nat) (o : DOp),c' = k + 1 ∧ ds[k]? = some o ∧ o.eff = true) → c' ≤ ds.length →
            (∀ e',(∀ t,aget e' t = if o.op.dst = some t then V i else aget en t) → Rel gl nt M0 h0 μ0 e' (H c') (X c') a' w' μ') → wpAny P .any ops Q fuel (listed.setIfInBounds i true) a' w':=by
          intro c' a' w' μ' u ha k1 k2 k3 k4
          refine ih (listed.setIfInBounds i true) (U.erase i) c' (put o.op.dst (V i) en) a' w' μ' (by simp [hsz]) (fun j hj hb=>?_) ?_ ?_ k1 k2 k3 (fun t=>?_) (k4 _ (fun t=>aget_put))
          · by_cases hji : i = j
            · subst hji
              simp [Array.getD,hsz,hin] at hb
            · rw [getD_set_ne false hji] at hb
              exact (List.mem_erase_of_ne (fun h=>hji h.symm)).2 (hU j hj hb)
          · have := List.length_erase_of_mem (hU i hin hnl)
            omega
          · intro j q hq hs k hk
            by_cases hji : i = j
            · subst hji
              exact getD_set_true (hready q hq k hk)
            · have hs' : listed.getD j false = true:=by
                have:=hs
                simp only [getD_set_ne false hji] at this
                exact this
              exact getD_set_true (hD j q hq hs' k hk)
          · rw [aget_put]
            by_cases hdt : o.op.dst = some t
            · rw [if_pos hdt]
              rw [lk_none (i:=i + 1) ds.length (by omega) (fun j hij hj hdj=>by
                obtain ⟨q,hq,hqd⟩:=hdst' j t hdj
                show (listed.setIfInBounds i true).getD j false = false
                rw [getD_set_ne false (show i ≠ j by omega)]
                rcases hpair i j o q ho hq (by omega) with hb | ⟨_,k2,_⟩
                · exact behind j hb
                · exact absurd hqd (k2 t hdt).1)]
              simp only [lk]
              rw [if_pos ⟨by simp [Array.getD,hsz,hin],by rw [hdst i o ho]; exact hdt⟩]
            · rw [if_neg hdt, hen t]
              refine lk_congr _ (fun j hj hdj=>?_)
              have hji : i ≠ j:=by
                intro hji
                subst hji
                rw [hdst i o ho] at hdj
                exact hdt hdj
              exact (getD_set_ne false hji).symm
        cases heff : o.eff with
        | true=>
          have hci : c ≤ i:=by
            rcases hc0 with hc0 | ⟨k,q,hck2,hq,hqe⟩
            · omega
            · rcases Nat.lt_trichotomy k i with hh | hh | hh
              · omega
              · subst hh
                have:=(hce k q hq hqe).2 (by omega)
                rw [hnl] at this; cases this
              · rcases hpair i k o q ho hq hh with hb | ⟨k1, _⟩
                · have := behind k hb
                  have h2:=(hce k q hq hqe).2 (by omega)
                  rw [this] at h2; cases h2
                · exact absurd ⟨heff,hqe⟩ k1
          have hbe : ∀ (k : Nat) (q : DOp),k < i → ds[k]? = some q → q.eff = true → k < c:=fun k q hk hq hqe=>by
            rcases hpair k i q o hq ho hk with hb | ⟨k1,_⟩
            · exact (hce k q hq hqe).1 (before k q hq hk hb)
            · exact absurd ⟨hqe,heff⟩ k1
          have hHi:=hstill c i hci (by omega) (fun k q h1 h2 h3=>by
            cases hb : q.eff with
            | false=>rfl
            | true=>have:=hbe k q h2 h3 hb; omega)
          rw [hHi.1] at hrun
          refine do_sound hC hp hck Renv hrun (fun a' w' μ' u ha hH hEv hI hV=>?_)
          refine next (i + 1) a' w' μ' u ha (fun k q hq hqe=>?_) (.inr ⟨i,o,rfl,ho,heff⟩) (by omega) (fun e' he'=>?_)
          · by_cases hki : i = k
            · subst hki
              simp [Array.getD,hsz,hin]
            · rw [getD_set_ne false hki, hce k q hq hqe]
              constructor
              · intro _; omega
              · intro _; exact hbe k q (by omega) hq hqe
          · have hst := R.step (d := p.dst) (fun j hj => hd2 j (by rw [hd1]; exact hj)) hH hEv hI hV
            have hX : X (i + 1) = Y i ++ X c:=by have:=hT.esc; simp only [Nat.zero_add] at this; rw [this,hHi.2]
            rw [hX,ha]
            refine ⟨hst.heap,fun t=>?_,hst.glob,hst.evo,hst.esc,hst.size,hst.defers⟩
            have:=hst.env t
            rw [aget_put,← hd1] at this
            rw [he' t]
            rw [hd1] at this ⊢
            exact this
        | false=>
          have hs:=hT.still heff
          simp only [Nat.zero_add] at hs
          rw [hs.1,hs.2] at hrun
          have hdo : ADo C gl o.op (prune (some o.rd) (E i)) (H c) (V i) (H c) []:=by
            by_cases hf : o.op.op.hfree = true
            · exact ADo_hfree hf hrun _
            · rcases Nat.lt_or_ge i c with hic | hci
              · rcases hc0 with hc0 | ⟨k, q, hck2, hq, hqe⟩
                · omega
                · have hik : i < k:=by
                    rcases Nat.eq_or_lt_of_le (show i ≤ k by omega) with hh | hh
                    · subst hh
                      rw [ho] at hq
                      injection hq with hq
                      subst hq
                      rw [heff] at hqe; cases hqe
                    · exact hh
                  rcases hpair i k o q ho hq hik with hb | ⟨_,_,_,k4,_⟩
                  · have := behind k hb
                    have h2:=(hce k q hq hqe).2 (by omega)
                    rw [this] at h2; cases h2
                  · rcases k4 hqe heff with k4 | k4
                    · exact absurd k4 hf
                    · rcases (T k q hq).again i k4 with ⟨_, h1, _⟩ | ⟨_, q', h1, h2⟩
                      · omega
                      · simp only [Nat.sub_zero] at h1
                        rw [ho] at h1
                        injection h1 with h1
                        subst h1
                        simp only [Nat.zero_add] at h2
                        rw [hck2]
                        exact h2
              · by_cases hk : ∃ k, c ≤ k ∧ k < i ∧ ∃ q, ds[k]? = some q ∧ q.eff = true
                · obtain ⟨k, hck2, hki, ⟨q, hq, hqe⟩, hmin⟩ := least hk
                  have hHk:=hstill c k hck2 (by omega) (fun k' q' h1 h2 h3=>by
                    cases hb : q'.eff with
                    | false=>rfl
                    | true=>exact absurd ⟨q',h3,hb⟩ (hmin k' h1 h2))
                  rcases hpair k i q o hq ho hki with hb | ⟨_,_,_,_,k5⟩
                  · have := (hce k q hq hqe).1 (before k q hq hki hb)
                    omega
                  · rcases k5 hqe heff with k5 | k5
                    · exact absurd k5 hf
                    · obtain ⟨g, h1, h2⟩ := hT.early k k5
                      simp only [Nat.zero_add] at h1 h2
                      rcases h1 with ⟨h1,_⟩ | ⟨_,_,h1⟩
                      · omega
                      · rw [h1, hHk.1] at h2
                        exact h2
                · have hHi:=hstill c i hci (by omega) (fun k q h1 h2 h3=>by
                    cases hb : q.eff with
                    | false=>rfl
                    | true=>exact absurd ⟨k,h1,h2,q,h3,hb⟩ hk)
                  rw [hHi.1] at hrun
                  exact hrun
          refine do_sound hC hp hck Renv hdo (fun a' w' μ' u ha hH hEv hI hV=>?_)
          refine next c a' w' μ' u ha (fun k q hq hqe=>?_) hc0 hcl (fun e' he'=>?_)
          · have hki : i ≠ k:=by
              intro hki
              subst hki
              rw [ho] at hq
              injection hq with hq
              subst hq
              rw [heff] at hqe; cases hqe
            rw [getD_set_ne false hki]
            exact hce k q hq hqe
          · have hst := R.step (d := p.dst) (fun j hj => hd2 j (by rw [hd1]; exact hj)) hH hEv hI hV
            rw [List.nil_append] at hst
            rw [ha]
            refine ⟨hst.heap,fun t=>?_,hst.glob,hst.evo,hst.esc,hst.size,hst.defers⟩
            have:=hst.env t
            rw [aget_put,← hd1] at this
            rw [he' t]
            rw [hd1] at this ⊢
            exact this
  refine key ops.size _ (List.range ops.size) 0 e a w μ (by simp) (fun i hi _=>List.mem_range.2 hi) (by simp) ?_ ?_ (.inl rfl) (Nat.zero_le _) ?_ ?_
  · intro i o ho hs
    have hi : i < ops.size:=(Array.getElem?_eq_some_iff.1 ho).1
    simp [Array.getD,hi] at hs
  · intro k o ho _
    have hi : k < ops.size:=by rw [← hn]; exact lt_of_get ho
    simp [Array.getD,hi]
  · intro t
    have : lk dst V e (fun i=>(Array.replicate ops.size false).getD i false) ds.length t = lk dst V e (fun i=>(Array.replicate ops.size false).getD i false) 0 t:=
      lk_none ds.length (Nat.zero_le _) (fun j _ hj _=>by simp [Array.getD])
    rw [this]
    rfl
  · rw [e2,e3]; exact R
end Go.Am
end
section
/- The abstract machine,part H: two operations whose order is left open and that disturb each other: both ways. -/
set_option linter.all false
namespace Go.Am
variable {P : Program} {gl : Nat → Option PV} {nt : Nat} {M0 : Mem} {h0 : Heap} {μ0 : Mu} {h : Heap} {μ : Mu} {e : List (Nat × AV)} {x0 : Esc} {ops : Array Oper} {Q : Exit → Act → World → Prop} {ix : List Nat} {x y : Nat}
def nodupB : List Nat → Bool
  | []=>true
  | a :: r=>!r.contains a && nodupB r
theorem nodupB_ok : ∀ {l : List Nat},nodupB l = true → l.Nodup
  | [],_=>List.nodup_nil
  | a :: r,h=>by
    simp only [nodupB,Bool.and_eq_true,Bool.not_eq_true'] at h
    refine List.nodup_cons.2 ⟨fun hm=>?_,nodupB_ok h.2⟩
    have:=h.1
    simp [hm] at this
def permOp (ops : Array Oper) (ix : List Nat) (x y i : Nat) : Oper:=
  let o:=(ops[i]?).getD default
  ⟨o.dst,o.op,o.type,o.pos,((edgesOf o ++ bif Nat.beq i y then [x] else []).map fun k=>⟨ix.findIdx (Nat.beq k),.data⟩).toArray,o.guard⟩
def permOps (ops : Array Oper) (ix : List Nat) (x y : Nat) : Array Oper:=(ix.map (permOp ops ix x y)).toArray
structure PermOk (ops : Array Oper) (ix : List Nat) (x y : Nat) : Prop where
  len : ix.length = ops.size
  lt : ∀ i ∈ ix,i < ops.size
  all : ∀ i,i < ops.size → i ∈ ix
  nd : ix.Nodup
  gd : ∀ (i : Nat) (o : Oper),ops[i]? = some o → o.guard = none
  ed : ∀ (i : Nat) (o : Oper),ops[i]? = some o → ∀ k ∈ edgesOf o,k < ops.size
  xl : x < ops.size
def chkAlt (P : Program) (nt : Nat) (ops : Array Oper) (x y : Nat) (ix : List Nat) (ds : List DOp) : Bool:=
  ix.length == ops.size && ix.all (fun i=>decide (i < ops.size)) && (List.range ops.size).all (fun i=>ix.contains i) && nodupB ix && ops.toList.all (fun o=>o.guard.isNone && (edgesOf o).all fun k=>decide (k < ops.size)) && decide (x < ops.size) &&
    chkDraw P nt (permOps ops ix x y) ds
theorem chkAlt_ok {ds : List DOp} (h : chkAlt P nt ops x y ix ds = true) : PermOk ops ix x y ∧ chkDraw P nt (permOps ops ix x y) ds = true:=by
  unfold chkAlt at h
  simp only [Bool.and_eq_true,beq_iff_eq,List.all_eq_true,decide_eq_true_eq,Option.isNone_iff_eq_none] at h
  obtain ⟨⟨⟨⟨⟨⟨h1,h2⟩,h3⟩,h4⟩,h5⟩,h6⟩,h7⟩:=h
  refine ⟨⟨h1,h2,fun i hi=>?_,nodupB_ok h4,fun i o ho=>(h5 o ?_).1,fun i o ho=>(h5 o ?_).2,h6⟩,h7⟩
  · have := h3 i (List.mem_range.2 hi)
    simpa using this
  · exact Array.mem_toList_iff.2 (Array.mem_of_getElem? ho)
  · exact Array.mem_toList_iff.2 (Array.mem_of_getElem? ho)
theorem PermOk.inv (H : PermOk ops ix x y) {i : Nat} (hi : i < ops.size) : ix.findIdx (Nat.beq i) < ops.size ∧ ix[ix.findIdx (Nat.beq i)]? = some i:=by
  have hm:=H.all i hi
  have hl : ix.findIdx (Nat.beq i) < ix.length:=List.findIdx_lt_length.2 ⟨i,hm,Nat.beq_refl i⟩
  refine ⟨by rw [← H.len]; exact hl,?_⟩
  rw [List.getElem?_eq_getElem hl]
  have:=List.findIdx_getElem (w:=hl)
  exact congrArg some (Nat.eq_of_beq_eq_true this).symm
theorem perm_get (H : PermOk ops ix x y) {k i : Nat} (hk : ix[k]? = some i) : ∃ o,ops[i]? = some o ∧ (permOps ops ix x y)[k]? = some (permOp ops ix x y i) ∧ permOp ops ix x y i = ⟨o.dst,o.op,o.type,o.pos,((edgesOf o ++ bif Nat.beq i y then [x] else []).map fun k=>⟨ix.findIdx (Nat.beq k),.data⟩).toArray,o.guard⟩:=by
  have hi:=H.lt i (List.mem_of_getElem? hk)
  refine ⟨ops[i],Array.getElem?_eq_getElem hi,?_,?_⟩
  · unfold permOps
    simp [hk]
  · unfold permOp
    simp [Array.getElem?_eq_getElem hi]
def Before (x y : Nat) (l : List Nat) : Prop:=∀ l1 l2,l = l1 ++ y :: l2 → x ∈ l1
theorem perm_wpOp (H : PermOk ops ix x y) {k i : Nat} (hk : ix[k]? = some i) {K K' : Act → World → Prop} {a : Act} {w : World} (hK : ∀ a w,K a w → K' a w) (h : wpOp P (permOps ops ix x y) Q k K a w) : wpOp P ops Q i K' a w:=by
  obtain ⟨o,h1,h2,h3⟩:=perm_get H hk
  have hg:=H.gd i o h1
  unfold wpOp at h ⊢
  rw [h2] at h
  rw [h1]
  rw [h3] at h
  dsimp only at h ⊢
  have e1 : ∀ yl,Region.wanted o yl = true:=fun yl=>by unfold Region.wanted; rw [hg]
  rw [if_pos (e1 _)]
  rw [if_pos (by unfold Region.wanted; dsimp only; rw [hg])] at h
  rcases h with h | h
  · exact .inl (Oper.wp_mono hK h)
  · exact .inr h
theorem perm_run (H : PermOk ops ix x y) : ∀ (fuel t : Nat) (listed listed' : Array Bool) (a : Act) (w : World),listed.size = ops.size → listed'.size = ops.size → (∀ k i,ix[k]? = some i → listed'.getD k false = listed.getD i false) →
    (listed.getD x false = true ∨ Before x y (Region.linearise.go .any ops fuel t listed [])) → wpAny P .any (permOps ops ix x y) Q fuel listed' a w → wpOps P ops Q (Region.linearise.go .any ops fuel t listed []) a w:=by
  intro fuel
  have hps : (permOps ops ix x y).size = ops.size:=by unfold permOps; simp [H.len]
  have dflt : ∀ (l : Array Bool),l.size = ops.size → ∀ i,i < ops.size → l.getD i true = l.getD i false:=fun l hl i hi=>by simp [Array.getD,hl,hi]
  induction fuel with
  | zero=>intro t listed listed' a w _ _ _ _ h; simpa [Region.linearise.go,wpOps] using h.2
  | succ fuel ih=>
    intro t listed listed' a w hs hs' hL hB h
    obtain ⟨h₀,h₁⟩:=h
    have hgo : Region.linearise.go .any ops (fuel + 1) t listed [] = match (Region.ready .any ops listed)[t % (Region.ready .any ops listed).length]? with
      | some i=>i :: Region.linearise.go .any ops fuel (t / (Region.ready .any ops listed).length) (listed.setIfInBounds i true) []
      | none=>[]:=by
      simp only [Region.linearise.go]
      change (match (Region.ready .any ops listed)[t % (Region.ready .any ops listed).length]? with
        | some i=>Region.linearise.go .any ops fuel (t / (Region.ready .any ops listed).length) (listed.setIfInBounds i true) [i]
        | none=>[].reverse) = _
      split
      · rw [linearise_go_acc,List.reverse_singleton,List.singleton_append]
      · rfl
    rw [hgo] at hB ⊢
    cases hi : (Region.ready .any ops listed)[t % (Region.ready .any ops listed).length]? with
    | none=>
      have hnil : Region.ready .any ops listed = []:=by
        cases hr : Region.ready .any ops listed with
        | nil=>rfl
        | cons z zs=>
          rw [hr] at hi
          have hlt : t % (z :: zs).length < (z :: zs).length:=Nat.mod_lt _ (by simp)
          simp at hi
          simp at hlt
          omega
      have hnil' : Region.ready .any (permOps ops ix x y) listed' = []:=by
        rw [List.eq_nil_iff_forall_not_mem]
        intro k hk
        rw [mem_ready] at hk
        obtain ⟨q1,o',q2,q3⟩:=hk
        have hkl : k < ops.size:=by rw [← hps]; exact (Array.getElem?_eq_some_iff.1 q2).1
        obtain ⟨i,hki⟩ : ∃ i,ix[k]? = some i:=⟨_,List.getElem?_eq_getElem (by rw [H.len]; exact hkl)⟩
        obtain ⟨o,p1,p2,p3⟩:=perm_get H hki
        rw [p2] at q2
        injection q2 with q2
        have hil:=H.lt i (List.mem_of_getElem? hki)
        have hm : i ∈ Region.ready .any ops listed:=by
          rw [mem_ready]
          refine ⟨?_,o,p1,fun ed hed hbd=>?_⟩
          · rw [dflt _ hs i hil,← hL k i hki,← dflt _ hs' k hkl]; exact q1
          · have hke : ed.on ∈ edgesOf o := List.mem_map.2 ⟨ed, List.mem_filter.2 ⟨by simpa using hed, hbd⟩, rfl⟩
            have hel:=H.ed i o p1 ed.on hke
            obtain ⟨r1,r2⟩:=H.inv hel
            have:=q3 ⟨ix.findIdx (Nat.beq ed.on),.data⟩ (by rw [← q2,p3]; simp; exact .inl ⟨_,hke,rfl⟩) rfl
            rw [hL _ _ r2] at this
            exact this
        rw [hnil] at hm
        cases hm
      simpa [wpOps] using h₀ hnil'
    | some i=>
      dsimp only
      have hir:=List.mem_of_getElem? hi
      have hmr:=hir
      rw [mem_ready] at hmr
      obtain ⟨q1,o,q2,q3⟩:=hmr
      have hil : i < ops.size:=(Array.getElem?_eq_some_iff.1 q2).1
      obtain ⟨k1,k2⟩:=H.inv hil
      rw [hi] at hB
      dsimp only at hB
      generalize hk : ix.findIdx (Nat.beq i) = k at *
      obtain ⟨o1,p1,p2,p3⟩:=perm_get H k2
      rw [q2] at p1
      injection p1 with p1
      subst p1
      have hxl : i = y → listed.getD x false = true:=fun hy=>by
        rcases hB with hB | hB
        · exact hB
        · have := hB [] _ (by rw [hy]; rfl)
          cases this
      have hkr : k ∈ Region.ready .any (permOps ops ix x y) listed':=by
        rw [mem_ready]
        refine ⟨?_,_,p2,fun ed hed hbd=>?_⟩
        · rw [dflt _ hs' k k1,hL k i k2,← dflt _ hs i hil]; exact q1
        · rw [p3] at hed
          simp only [List.mem_toArray,List.mem_map,List.mem_append] at hed
          obtain ⟨j,hj,rfl⟩:=hed
          rcases hj with hj | hj
          · have hel := H.ed i o q2 j hj
            obtain ⟨r1,r2⟩:=H.inv hel
            dsimp only
            rw [hL _ _ r2]
            obtain ⟨ed,he1,he2⟩:=List.mem_map.1 hj
            obtain ⟨he3,he4⟩:=List.mem_filter.1 he1
            subst he2
            exact q3 ed (by simpa using he3) he4
          · cases hy : Nat.beq i y with
            | false=>rw [hy] at hj; cases hj
            | true=>
              rw [hy] at hj
              simp only [cond_true,List.mem_singleton] at hj
              subst hj
              obtain ⟨r1,r2⟩:=H.inv H.xl
              dsimp only
              rw [hL _ _ r2]
              exact hxl (Nat.eq_of_beq_eq_true hy)
      rw [wpOps_cons]
      refine perm_wpOp H k2 (fun a w hw=>ih _ _ _ a w (by simp [hs]) (by simp [hs']) (fun k' i' hk'=>?_) ?_ hw) (h₁ k hkr)
      · by_cases hkk : k = k'
        · subst hkk
          rw [k2] at hk'
          injection hk' with hk'
          subst hk'
          simp [Array.getD,hs,hs',hil,k1]
        · have hii : i ≠ i':=fun hii=>by
            subst hii
            have a1:=List.getElem?_eq_some_iff.1 k2
            have a2:=List.getElem?_eq_some_iff.1 hk'
            obtain ⟨b1,b2⟩:=a1
            obtain ⟨c1,c2⟩:=a2
            exact hkk ((List.getElem_inj H.nd).1 (b2.trans c2.symm))
          rw [getD_set_ne false hkk,getD_set_ne false hii]
          exact hL k' i' hk'
      · rcases hB with hB | hB
        · exact .inl (getD_set_true hB)
        · by_cases hxi : i = x
          · subst hxi
            left
            simp [Array.getD,hs,hil]
          · right
            intro l1 l2 hl
            have:=hB (i :: l1) l2 (by rw [hl]; rfl)
            rcases List.mem_cons.1 this with q | q
            · exact absurd q.symm hxi
            · exact q
theorem before_or (x y : Nat) (hxy : x ≠ y) (l : List Nat) : Before x y l ∨ Before y x l:=by
  induction l with
  | nil=>left; intro l1 l2 h; simp at h
  | cons z l ih=>
    by_cases hx : z = x
    · subst hx
      left
      intro l1 l2 h
      cases l1 with
      | nil=>simp at h; exact absurd h.1 hxy
      | cons q r=>simp at h; simp [h.1]
    · by_cases hy : z = y
      · subst hy
        right
        intro l1 l2 h
        cases l1 with
        | nil=>simp at h; exact absurd h.1.symm hxy
        | cons q r=>simp at h; simp [h.1]
      · rcases ih with ih | ih
        · left
          intro l1 l2 h
          cases l1 with
          | nil=>simp at h; exact absurd h.1 hy
          | cons q r=>simp at h; exact List.mem_cons_of_mem _ (ih r l2 h.2)
        · right
          intro l1 l2 h
          cases l1 with
          | nil=>simp at h; exact absurd h.1 hx
          | cons q r=>simp at h; exact List.mem_cons_of_mem _ (ih r l2 h.2)
theorem two_sound (hm : P.follows .mixedOrders = true) {C : Hd} (hC : ∀ f a h K,C f a h K → CallOk P gl f a h K) {ixA ixB : List Nat} {dsA dsB : List DOp} {K : List (Nat × AV) → Heap → Esc → Prop} {K2 : List (Nat × AV) → Heap → Esc → Prop} {a : Act} {w : World} {id : Nat} (hxy : x ≠ y)
    (hA : chkAlt P nt ops x y ixA dsA = true) (hB : chkAlt P nt ops y x ixB dsB = true)
    (HA : ADraw C gl dsA [] [] e h x0 K) (HB : ADraw C gl dsB [] [] e h x0 K2) (R : Rel gl nt M0 h0 μ0 e h x0 a { w with drawn:=w.drawn + 1 } μ)
    (hK : ∀ e h x a w μ,K e h x → Rel gl nt M0 h0 μ0 e h x a w μ → Q .normal a w) (hK2 : ∀ e h x a w μ,K2 e h x → Rel gl nt M0 h0 μ0 e h x a w μ → Q .normal a w) : (Code.region id ops true).wp P Q a w:=by
  obtain ⟨pA,cA⟩:=chkAlt_ok hA
  obtain ⟨pB,cB⟩:=chkAlt_ok hB
  refine wp_region_draw fun t=>?_
  simp only [Region.schedule,hm,Bool.true_or,if_true]
  have rep : ∀ (ix : List Nat),PermOk ops ix x y ∨ PermOk ops ix y x → ∀ k i,ix[k]? = some i → (Array.replicate ops.size false).getD k false = (Array.replicate ops.size false).getD i false:=fun ix _ k i _=>by simp [Array.getD]
  have szA : (permOps ops ixA x y).size = ops.size:=by unfold permOps; simp [pA.len]
  have szB : (permOps ops ixB y x).size = ops.size:=by unfold permOps; simp [pB.len]
  rcases before_or x y hxy (Region.linearise .any ops t) with hb | hb
  · have := draw_sound hC (Q := Q) cA HA R hK
    rw [szA] at this
    exact perm_run pA ops.size t _ _ _ _ (by simp) (by simp) (rep ixA (.inl pA)) (.inr hb) this
  · have := draw_sound hC (Q := Q) cB HB R hK2
    rw [szB] at this
    exact perm_run pB ops.size t _ _ _ _ (by simp) (by simp) (rep ixB (.inr pB)) (.inr hb) this
def peel : ACode → List Nat × ACode
  | .block i b=>(i :: (peel b).1,(peel b).2)
  | c=>([],c)
theorem peel_AW {C : Hd} : ∀ (c : ACode) (s : St) (K : Ex → St → Prop),AW C gl c s K → ∀ ds keep,(peel c).2 = .draw ds keep → ADraw C gl ds [] [] s.env s.h s.esc fun e h x=>K .normal ⟨prune keep e,h,x⟩
  | .block i b,s,K,H,ds,keep,hp=>by
    unfold AW at H
    exact peel_AW b s _ H ds keep hp
  | .draw ds' keep',s,K,H,ds,keep,hp=>by
    simp only [peel] at hp
    injection hp with h1 h2
    subst h1; subst h2
    unfold AW at H
    exact H
  | .skip,_,_,_,_,_,hp=>by cases hp
  | .reg _ _,_,_,_,_,_,hp=>by cases hp
  | .seq _ _,_,_,_,_,_,hp=>by cases hp
  | .cond _ _ _,_,_,_,_,_,hp=>by cases hp
  | .condu _ _ _,_,_,_,_,_,hp=>by cases hp
  | .det _,_,_,_,_,_,hp=>by cases hp
  | .loop _,_,_,_,_,_,hp=>by cases hp
  | .scope _,_,_,_,_,_,hp=>by cases hp
  | .pr _ _,_,_,_,_,_,hp=>by cases hp
  | .exit _,_,_,_,_,_,hp=>by cases hp
  | .ret,_,_,_,_,_,hp=>by cases hp
  | .bad,_,_,_,_,_,hp=>by cases hp
def chkTwo (P : Program) (nt : Nat) (ops : Array Oper) (t : Opd) (a b : ACode) : Bool:=match t with
  | .c .anyb=>match peel a,peel b with
    | (x :: y :: ixA,.draw dsA _),(y' :: x' :: ixB,.draw dsB _)=>Nat.beq x x' && Nat.beq y y' && !Nat.beq x y && chkAlt P nt ops x y ixA dsA && chkAlt P nt ops y x ixB dsB
    | _,_=>false
  | _=>false
end Go.Am
end
section
/- The abstract machine,part 21: code. -/
set_option linter.unusedSimpArgs false
set_option linter.unusedVariables false
set_option maxHeartbeats 1000000
namespace Go.Am
variable {h h' : Heap} {μ μ' : Mu} {w w' : World} {P : Program} {M M' : Mem}
variable {gl : Nat → Option PV} {nt : Nat} {M0 : Mem} {h0 : Heap} {μ0 : Mu} {e : List (Nat × AV)} {x : Esc} {a : Act}
theorem obj_top (H : HeapRel h μ w) {id : Nat} {o : Obj} (ho : h[id]? = some o) : o.top ≤ h.length:=by
  obtain ⟨m,hm,hO⟩:=obj_at H ho
  cases o with
  | box cs=>
    obtain ⟨b,c,rfl,hb,hc⟩:=hO
    exact boxTop H hc
  | row sh xs fz=>simp [Obj.top]
  | amap es c=>
    obtain ⟨b,n,ces,rfl,h1,h2,_,h3⟩:=hO
    refine tops_le (fun j y hy=>?_)
    simp only [List.getElem?_map,Option.map_eq_some_iff] at hy
    obtain ⟨en,he,rfl⟩:=hy
    have hj : j < ces.size:=by rw [h2]; exact lt_of_get he
    exact (h3 j en ces[j] he (Array.getElem?_eq_getElem hj)).2.2.1.top_le
  | iter mm s seen l=>
    obtain ⟨b,n,rfl,h1⟩:=hO
    cases mm with
    | none=>simp [Obj.top]
    | some i=>
      obtain ⟨bm,nm,es,c,h2,h3,h4⟩:=h1
      simp only [Obj.top]
      exact lt_of_get h3
  | arow sh cs=>
    obtain ⟨h1,h2⟩:=hO
    cases m with
    | none=>subst h2; simp [Obj.top,AV.tops]
    | some m=>
      obtain ⟨b,n⟩:=m
      obtain ⟨c,c1,c2,c3⟩:=h2
      refine tops_le (fun j y hy=>?_)
      obtain ⟨v,_,q⟩:=c3 j y hy
      exact q.top_le
theorem topAt_le (H : HeapRel h μ w) (id : Nat) : topAt h id ≤ h.length:=by
  unfold topAt
  split
  · exact obj_top H ‹_›
  · omega
theorem bump_ge (y : Esc) (n : Nat) : n ≤ bump y n:=by
  unfold bump
  induction y generalizing n with
  | nil=>simp
  | cons p r ih=>
    simp only [List.foldl_cons]
    split
    · exact Nat.le_trans (by omega) (ih _)
    · exact ih _
theorem close_ge : ∀ (k : Nat) (y : Esc) (n : Nat),n ≤ close k y n
  | 0,y,n=>Nat.le_refl _
  | k + 1,y,n=>Nat.le_trans (bump_ge y n) (close_ge k y _)
theorem Evo.take {M'' : Mem} (E : Evo M h μ M' h' μ') {n : Nat} (hn : h.length ≤ n) (L : M'.le M'') : Evo M h μ M'' (h'.take n) (μ'.take n):=by
  refine ⟨⟨fun b o v hv=>L.c _ _ _ (E.le.c _ _ _ hv),fun b o hv=>L.b _ _ (E.le.b _ _ hv),L.z.trans E.le.z,fun b t h=>L.s _ _ (E.le.s _ _ h)⟩,by have:=E.len; simp; omega,fun id o m h1 h2=>?_⟩
  obtain ⟨o',m',h3,h4,h5⟩:=E.obj id o m h1 h2
  have hi : id < n:=Nat.lt_of_lt_of_le (lt_of_get h1) hn
  exact ⟨o',m',by rw [List.getElem?_take,if_pos hi]; exact h3,by rw [List.getElem?_take,if_pos hi]; exact h4,h5⟩
theorem take_ok {hs : Heap} {μs : Mu} {Ms : Mem} {es : Esc} (Hs : ∀ id,topAt hs id ≤ hs.length) (H : HeapRel h μ w) (E : Evo Ms hs μs (imm h μ w) h μ) (I : EscInv hs h es) {n : Nat} (hn : hs.length ≤ n) (hc : closed es n = true) :
    HeapRel (h.take n) (μ.take n) w ∧ (imm h μ w).le (imm (h.take n) (μ.take n) w) ∧ Evo Ms hs μs (imm (h.take n) (μ.take n) w) (h.take n) (μ.take n) ∧ EscInv hs (h.take n) (es.filter fun y=>decide (y.1 < n)):=by
  have ht : ∀ id o,h[id]? = some o → id < n → o.top ≤ n:=by
    intro id o ho hi
    have h1:=I id o ho
    have h2:=Hs id
    have h3:=escTop_closed hc hi
    omega
  obtain ⟨H1,L⟩:=H.take n ht
  refine ⟨H1,L,E.take hn L,fun id o ho=>?_⟩
  rw [List.getElem?_take] at ho
  split at ho
  · rename_i hi
    rw [escTop_filter hi]
    exact I id o ho
  · cases ho
theorem aget_clean (n : Nat) (e : List (Nat × AV)) (t : Nat) : aget (clean n e) t = if (aget e t).top ≤ n then aget e t else .und:=by
  induction e with
  | nil=>simp [clean,aget,AV.top]
  | cons y r ih=>
    simp only [clean,List.map_cons,aget] at ih ⊢
    split
    · rfl
    · exact ih
theorem aget_prune (keep : Option (List Nat)) (e : List (Nat × AV)) (t : Nat) : aget (prune keep e) t = aget e t ∨ aget (prune keep e) t = .und:=by
  cases keep with
  | none=>exact .inl rfl
  | some l=>
    simp only [prune]
    induction l with
    | nil=>exact .inr rfl
    | cons k r ih=>
      simp only [List.map_cons,aget]
      split
      · rename_i hk; subst hk; exact .inl rfl
      · exact ih
theorem trunc_ok {x0 : Esc} {s : St} {hs : Heap} {μs : Mu} {ws : World} {e0 : List (Nat × AV)} {a0 : Act} (R : Rel gl nt M0 h0 μ0 e0 hs x0 a0 ws μs) (R' : Rel gl nt (imm hs μs ws) hs μs s.env s.h s.esc a w μ) :
    ∃ μ',Rel gl nt M0 h0 μ0 (trunc hs.length x0 s).env (trunc hs.length x0 s).h (trunc hs.length x0 s).esc a w μ':=by
  unfold trunc
  dsimp only
  split
  · rename_i hc
    have hn:=close_ge s.esc.length s.esc hs.length
    generalize close s.esc.length s.esc hs.length = n at hc hn
    obtain ⟨q1,q2,q3,q4⟩:=take_ok (fun id=>topAt_le R.heap id) R'.heap R'.evo R'.esc hn hc
    refine ⟨μ.take n,q1,fun t=>?_,R'.glob.mono q2,R.evo.trans q3,EscInv.trans R.esc q4,R'.size,R'.defers⟩
    dsimp only
    rw [aget_clean]
    split
    · exact (R'.env t).take q2 ‹_›
    · exact .und _
  · exact ⟨μ,R'.heap,R'.env,R'.glob,R.evo.trans R'.evo,EscInv.trans R.esc R'.esc,R'.size,R'.defers⟩
theorem Rel.drew (R : Rel gl nt M0 h0 μ0 e h x a w μ) (n : Nat) : Rel gl nt M0 h0 μ0 e h x a { w with drawn:=n } μ:=by
  obtain ⟨h1,h2⟩:=R.heap.ext (WExt.drew w n)
  exact ⟨h1,fun t=>(R.env t).evo h2,R.glob.mono h2.le,R.evo.trans h2,R.esc,R.size,R.defers⟩
def chkCode (P : Program) (nt : Nat) : ACode → Code → Bool
  | .skip,c=>match c with
    | .skip=>true
    | _=>false
  | .reg aops _,c=>match c with
    | .region _ ops false=>chkOps P nt ops aops 0
    | _=>false
  | .draw ds _,c=>match c with
    | .region _ ops true=>chkDraw P nt ops ds
    | _=>false
  | .seq a b,c=>match c with
    | .seq a' b'=>chkCode P nt a a' && chkCode P nt b b'
    | _=>false
  | .cond t a b,c=>match c with
    | .cond t' a' b'=>opdOk t t' && chkCode P nt a a' && chkCode P nt b b'
    | _=>false
  | .det b,c=>chkCode P nt b c
  | .condu t a b,c=>match c with
    | .cond t' a' b'=>opdOk t t' && chkCode P nt a a' && chkCode P nt b b'
    | .region _ ops true=>chkTwo P nt ops t a b
    | _=>false
  | .block i b,c=>match c with
    | .block i' b'=>i == i' && chkCode P nt b b'
    | _=>false
  | .loop b,c=>match c with
    | .loop b'=>chkCode P nt b b'
    | _=>false
  | .scope b,c=>chkCode P nt b c
  | .pr _ b,c=>chkCode P nt b c
  | .exit i,c=>match c with
    | .exit i'=>i == i'
    | _=>false
  | .ret,c=>match c with
    | .ret=>true
    | _=>false
  | .bad,_=>true
def Ex.toExit : Ex → Exit
  | .normal=>.normal
  | .exit i=>.exit i
  | .ret=>.ret
theorem anyb_inv {M : Mem} {h : Heap} {μ : Mu} {x : Value} (R : RAV M h μ .anyb x) : ∃ b,x = .bool b:=by
  cases R with | anyb b=>exact ⟨b,rfl⟩
theorem code_sound (hm : P.follows .mixedOrders = true) {C : Hd} (hC : ∀ f a h K,C f a h K → CallOk P gl f a h K) : ∀ (c : ACode) {k : Code},chkCode P nt c k = true → ∀ {s : St} {K : Ex → St → Prop} {M0 : Mem} {h0 : Heap} {μ0 : Mu} {a : Act} {w : World} {μ : Mu} {Q : Exit → Act → World → Prop},
    AW C gl c s K → Rel gl nt M0 h0 μ0 s.env s.h s.esc a w μ → (∀ ex s' a' w' μ',K ex s' → Rel gl nt M0 h0 μ0 s'.env s'.h s'.esc a' w' μ' → Q ex.toExit a' w') → k.wp P Q a w
  | .skip,k,hc,s,K,M0,h0,μ0,a,w,μ,Q,H,R,hQ=>by
    simp only [chkCode] at hc
    split at hc
    · exact wp_skip (hQ .normal _ _ _ _ H R)
    · cases hc
  | .reg aops keep,k,hc,s,K,M0,h0,μ0,a,w,μ,Q,H,R,hQ=>by
    simp only [chkCode] at hc
    split at hc
    · rename_i id ops
      refine wp_region ?_
      have:=reg_sound hC aops 0 (Q:=Q) hc H R (fun e h x a w μ hk R'=>hQ .normal ⟨prune keep e,h,x⟩ a w μ hk ⟨R'.heap,fun t=>?_,R'.glob,R'.evo,R'.esc,R'.size,R'.defers⟩)
      · rwa [Nat.sub_zero,← List.range_eq_range'] at this
      · rcases aget_prune keep e t with q | q
        · rw [q]; exact R'.env t
        · rw [q]; exact .und _
    · cases hc
  | .draw ds keep,k,hc,s,K,M0,h0,μ0,a,w,μ,Q,H,R,hQ=>by
    simp only [chkCode] at hc
    split at hc
    · rename_i id ops
      refine wp_region_any hm ?_
      exact draw_sound hC (Q:=Q) hc H (R.drew _) (fun e h x a w μ hk R'=>hQ .normal ⟨prune keep e,h,x⟩ a w μ hk ⟨R'.heap,fun t=>(by
        rcases aget_prune keep e t with q | q
        · rw [q]; exact R'.env t
        · rw [q]; exact .und _),R'.glob,R'.evo,R'.esc,R'.size,R'.defers⟩)
    · cases hc
  | .seq c1 c2,k,hc,s,K,M0,h0,μ0,a,w,μ,Q,H,R,hQ=>by
    simp only [chkCode] at hc
    split at hc
    · simp only [Bool.and_eq_true] at hc
      refine wp_seq (code_sound hm hC c1 hc.1 H R (fun ex s' a' w' μ' hk R'=>?_))
      cases ex with
      | normal=>exact code_sound hm hC c2 hc.2 hk R' hQ
      | exit i=>exact hQ (.exit i) _ _ _ _ hk R'
      | ret=>exact hQ .ret _ _ _ _ hk R'
    · cases hc
  | .det c,k,hc,s,K,M0,h0,μ0,a,w,μ,Q,H,R,hQ=>by
    simp only [chkCode] at hc
    exact code_sound hm hC c hc H R hQ
  | .condu t c1 c2,k,hc,s,K,M0,h0,μ0,a,w,μ,Q,H,R,hQ=>by
    simp only [chkCode] at hc
    split at hc
    · simp only [Bool.and_eq_true] at hc
      unfold AW at H
      split at H
      · rename_i b hb
        have ht:=R.opds _ _ hc.1.1
        rw [hb] at ht
        refine wp_cond ht.p_bool ?_
        cases b with
        | true=>exact code_sound hm hC c1 hc.1.2 H R hQ
        | false=>exact code_sound hm hC c2 hc.2 H R hQ
      · rename_i hb
        have ht:=R.opds _ _ hc.1.1
        rw [hb] at ht
        obtain ⟨g1,g2⟩:=H
        obtain ⟨b,hb'⟩:=anyb_inv ht
        refine wp_cond hb' ?_
        cases b with
        | true=>exact code_sound hm hC c1 hc.1.2 g1 R hQ
        | false=>exact code_sound hm hC c2 hc.2 g2 R hQ
      · exact H.elim
    · rename_i id ops
      unfold chkTwo at hc
      split at hc
      · split at hc
        · rename_i x y ixA dsA kA y' x' ixB dsB kB pa pb
          simp only [Bool.and_eq_true,Bool.not_eq_true'] at hc
          obtain ⟨⟨⟨⟨e1,e2⟩,e3⟩,e4⟩,e5⟩:=hc
          have e1:=Nat.eq_of_beq_eq_true e1
          have e2:=Nat.eq_of_beq_eq_true e2
          subst e1; subst e2
          have hxy : x ≠ y:=fun hh=>by rw [hh,Nat.beq_refl] at e3; cases e3
          unfold AW at H
          simp only [Opd.ev] at H
          have HA:=peel_AW c1 s K H.1 dsA kA (by rw [pa])
          have HB:=peel_AW c2 s K H.2 dsB kB (by rw [pb])
          have fin : ∀ (keep : Option (List Nat)) (e : List (Nat × AV)) (h : Heap) (x : Esc) (a : Act) (w : World) (μ : Mu),K .normal ⟨prune keep e,h,x⟩ → Rel gl nt M0 h0 μ0 e h x a w μ → Q .normal a w:=fun keep e h x a w μ hk R'=>hQ .normal ⟨prune keep e,h,x⟩ a w μ hk ⟨R'.heap,fun t=>(by
            rcases aget_prune keep e t with q | q
            · rw [q]; exact R'.env t
            · rw [q]; exact .und _),R'.glob,R'.evo,R'.esc,R'.size,R'.defers⟩
          exact two_sound hm hC (Q:=Q) hxy e4 e5 HA HB (R.drew _) (fin kA) (fin kB)
        · cases hc
      · cases hc
    · cases hc
  | .cond t c1 c2,k,hc,s,K,M0,h0,μ0,a,w,μ,Q,H,R,hQ=>by
    simp only [chkCode] at hc
    split at hc
    · simp only [Bool.and_eq_true] at hc
      unfold AW at H
      split at H
      · rename_i b hb
        have ht:=R.opds _ _ hc.1.1
        rw [hb] at ht
        refine wp_cond ht.p_bool ?_
        cases b with
        | true=>exact code_sound hm hC c1 hc.1.2 H R hQ
        | false=>exact code_sound hm hC c2 hc.2 H R hQ
      · exact H.elim
    · cases hc
  | .block i c,k,hc,s,K,M0,h0,μ0,a,w,μ,Q,H,R,hQ=>by
    simp only [chkCode] at hc
    split at hc
    · simp only [Bool.and_eq_true, beq_iff_eq] at hc
      obtain ⟨rfl,hc⟩:=hc
      refine wp_block (code_sound hm hC c hc H R (fun ex s' a' w' μ' hk R'=>?_))
      cases ex with
      | normal=>exact hQ .normal _ _ _ _ hk R'
      | exit j=>
        simp only [Ex.toExit,Exit.inBlock]
        dsimp only at hk
        split
        · rename_i hj; rw [if_pos hj] at hk; exact hQ .normal _ _ _ _ hk R'
        · rename_i hj; rw [if_neg hj] at hk; exact hQ (.exit j) _ _ _ _ hk R'
      | ret=>exact hQ .ret _ _ _ _ hk R'
    · cases hc
  | .loop c,k,hc,s,K,M0,h0,μ0,a,w,μ,Q,H,R,hQ=>by
    simp only [chkCode] at hc
    split at hc
    · rename_i b'
      intro b k cs
      have key : ∀ (s : St),ALoop (AW C gl c) K s → ∀ (a : Act) (w : World) (μ : Mu),Rel gl nt M0 h0 μ0 s.env s.h s.esc a w μ →
          ∃ e a' w',Q e a' w' ∧ Arrives P (lone (b.at a (.code b' :: .inLoop b' :: k)) cs w) b k cs e a' w':=by
        intro s H
        induction H with
        | mk s T hT hn he hr ih=>
          intro a w μ R
          obtain ⟨e,a1,w1,hq,harr⟩:=code_sound hm hC c hc (Q:=fun e a' w'=>match e with
            | .normal=>∃ s' μ',T .normal s' ∧ Rel gl nt M0 h0 μ0 s'.env s'.h s'.esc a' w' μ'
            | e=>Q e a' w') hT R (fun ex s' a' w' μ' hk R'=>by
              cases ex with
              | normal=>exact ⟨s',μ',hk,R'⟩
              | exit i=>exact hQ (.exit i) _ _ _ _ (he _ _ hk) R'
              | ret=>exact hQ .ret _ _ _ _ (hr _ hk) R') b (.inLoop b' :: k) cs
          cases e with
          | normal=>
            obtain ⟨s',μ',hk,R'⟩:=hq
            obtain ⟨e2,a2,w2,hq2,harr2⟩:=ih s' hk a1 w1 μ' R'
            exact ⟨e2,a2,w2,hq2,.of_steps (Steps.trans harr (.one step_inLoop)) harr2⟩
          | exit id=>exact ⟨_,a1,w1,hq,.pass (x:=.inLoop b') rfl (fun _ _=>.inl (by simp)) harr⟩
          | goto l=>exact ⟨_,a1,w1,hq,.pass (x:=.inLoop b') rfl (fun _ _=>.inl (by simp)) harr⟩
          | ret=>exact ⟨_,a1,w1,hq,.pass (x:=.inLoop b') rfl (fun _ _=>.inl (by simp)) harr⟩
          | panic ch=>exact ⟨_,a1,w1,hq,.pass (x:=.inLoop b') rfl (fun _ _=>.inl (by simp)) harr⟩
          | outgrown=>exact ⟨_,a1,w1,hq,.pass (x:=.inLoop b') rfl (fun _ _=>.inl (by simp)) harr⟩
      obtain ⟨e,a',w',hq,harr⟩:=key s H a w μ R
      exact ⟨e,a',w',hq,.of_steps (.one step_loop) harr⟩
    · cases hc
  | .scope c,k,hc,s,K,M0,h0,μ0,a,w,μ,Q,H,R,hQ=>by
    simp only [chkCode] at hc
    refine code_sound hm hC c hc (M0:=imm s.h μ w) (h0:=s.h) (μ0:=μ) H ⟨R.heap,R.env,R.glob,Evo.refl _ _ _,EscInv.refl _ _,R.size,R.defers⟩ (fun ex s' a' w' μ' hk R'=>?_)
    obtain ⟨μ'',R''⟩:=trunc_ok R R'
    exact hQ ex _ _ _ _ hk R''
  | .pr l c,k,hc,s,K,M0,h0,μ0,a,w,μ,Q,H,R,hQ=>by
    simp only [chkCode] at hc
    refine code_sound hm hC c hc H ⟨R.heap,fun t=>?_,R.glob,R.evo,R.esc,R.size,R.defers⟩ hQ
    dsimp only
    rcases aget_prune (some l) s.env t with q | q
    · rw [q]; exact R.env t
    · rw [q]; exact .und _
  | .exit i,k,hc,s,K,M0,h0,μ0,a,w,μ,Q,H,R,hQ=>by
    simp only [chkCode] at hc
    split at hc
    · simp only [beq_iff_eq] at hc
      subst hc
      exact wp_exit (hQ (.exit i) _ _ _ _ H R)
    · cases hc
  | .ret,k,hc,s,K,M0,h0,μ0,a,w,μ,Q,H,R,hQ=>by
    simp only [chkCode] at hc
    split at hc
    · exact wp_ret (hQ .ret _ _ _ _ H R)
    · cases hc
  | .bad,k,hc,s,K,M0,h0,μ0,a,w,μ,Q,H,R,hQ=>H.elim
end Go.Am
end
section
/- The abstract machine,part 22: results,calls; a call that ends well here ends well in the model. -/
set_option linter.unusedSimpArgs false
set_option linter.unusedVariables false
set_option maxHeartbeats 1000000
namespace Go.Am
variable {h h' : Heap} {μ μ' : Mu} {w w' : World} {P : Program} {M M' : Mem}
variable {gl : Nat → Option PV} {nt : Nat} {M0 : Mem} {h0 : Heap} {μ0 : Mu} {e : List (Nat × AV)} {x : Esc} {a : Act}
def chkRes (P : Program) : List ARes → List ResultVar → Bool
  | [],[]=>true
  | .t n :: r,.tmp m :: s=>n == m && chkRes P r s
  | .cell n sh :: r,.cell m t :: s=>n == m && shOf P t == some sh && chkRes P r s
  | _,_=>false
def resM (tmps : Array Value) : ResultVar → Sem Value
  | .tmp t=>pure (tmps.getD t undef)
  | .cell a t=>do loadVar t (← asAddr (tmps.getD a undef))
theorem res_ok {s : St} (H : HeapRel s.h μ w) (he : ∀ t,RAV (imm s.h μ w) s.h μ (aget s.env t) (a.tmps.getD t undef)) : ∀ {rs : List ARes} {qs : List ResultVar} {vs : List AV},chkRes P rs qs = true → aresAll s rs = some vs →
    ∃ us,(qs.mapM (resM a.tmps)).run P w = .ok us w ∧ vs.length = us.length ∧ ∀ (j : Nat) (y : AV) (v : Value),vs[j]? = some y → us[j]? = some v → RAV (imm s.h μ w) s.h μ y v
  | [],[],vs,_,hv=>by
    simp [aresAll] at hv
    subst hv
    exact ⟨[],by simp,rfl,fun j y v h1 h2=>by simp at h1⟩
  | [],_ :: _,_,hc,_=>by simp [chkRes] at hc
  | .t n :: r,[],_,hc,_=>by simp [chkRes] at hc
  | .cell n sh :: r,[],_,hc,_=>by simp [chkRes] at hc
  | .t n :: r,.cell _ _ :: q,_,hc,_=>by simp [chkRes] at hc
  | .cell n sh :: r,.tmp _ :: q,_,hc,_=>by simp [chkRes] at hc
  | .t n :: r,.tmp m :: q,vs,hc,hv=>by
    simp only [chkRes,Bool.and_eq_true,beq_iff_eq] at hc
    obtain ⟨rfl,hc⟩:=hc
    simp only [aresAll,ares] at hv
    simp only [Option.map_eq_some_iff] at hv
    obtain ⟨l,hl,rfl⟩:=hv
    obtain ⟨us,h1,h2,h3⟩:=res_ok H he hc hl
    refine ⟨a.tmps.getD n undef :: us,by simp [resM,h1],by simp [h2],fun j y v hy hv=>?_⟩
    cases j with
    | zero=>simp at hy hv; subst hy; subst hv; simpa using he n
    | succ j=>exact h3 j y v (by simpa using hy) (by simpa using hv)
  | .cell n sh :: r,.cell m t :: q,vs,hc,hv=>by
    simp only [chkRes,Bool.and_eq_true,beq_iff_eq] at hc
    obtain ⟨⟨rfl,hs⟩,hc⟩:=hc
    simp only [aresAll] at hv
    split at hv
    · rename_i u hu
      simp only [Option.map_eq_some_iff] at hv
      obtain ⟨l,hl,rfl⟩:=hv
      obtain ⟨us,h1,h2,h3⟩:=res_ok H he hc hl
      simp only [ares] at hu
      split at hu
      · rename_i id off hr
        split at hu
        · rename_i cs ho
          have hR:=he n
          rw [hr] at hR
          generalize hz : a.tmps.getD n undef = z at hR
          cases hR with | ref _ _ b k cs' ho' hm=>
          obtain ⟨b',c,hm',hb,hcell⟩:=H.obj _ _ _ ho hm
          injection hm' with hm'
          injection hm' with e1 e2
          subst e1
          obtain ⟨c1,c2⟩:=cut_cells (M:=imm s.h μ w) (h:=s.h) (μ:=μ) (f:=fun j=>(c[j]?).getD undef) hu (fun j x hx=>by obtain ⟨_,v,q1,q2⟩:=hcell j x hx; simpa [q1] using q2)
          have hload : (loadVar t ⟨b,off,none⟩).run P w = .ok (shVal sh fun j=>(c[off + j]?).getD undef) w:=by
            refine run_loadVar hs (fun j hj=>?_)
            rw [cell_of_block hb]
            have hlt : off + j < c.size:=by rw [hb.1]; have:=c1; omega
            simp [hlt]
          refine ⟨(shVal sh fun j=>(c[off + j]?).getD undef) :: us,?_,by simp [h2],fun j y v hy hv=>?_⟩
          · simp only [List.mapM_cons, Sem.run_bind, resM, hz, asAddr]
            simp [hload,h1]
          · cases j with
            | zero=>simp at hy hv; subst hy; subst hv; exact c2
            | succ j=>exact h3 j y v (by simpa using hy) (by simpa using hv)
        · cases hu
      · cases hu
    · cases hv
theorem results_ok {fn : Func} {s : St} (H : HeapRel s.h μ w) (he : ∀ t,RAV (imm s.h μ w) s.h μ (aget s.env t) (a.tmps.getD t undef)) {rs : List ARes} {vs : List AV} (hc : chkRes P rs fn.results.toList = true) (hv : aresAll s rs = some vs) :
    ∃ u,(results fn a.tmps).run P w = .ok u w ∧ RAV (imm s.h μ w) s.h μ (oneOf vs) u:=by
  obtain ⟨us,h1,h2,h3⟩:=res_ok H he hc hv
  have hm : (fn.results.mapM (resM a.tmps)).run P w = .ok us.toArray w:=by
    rw [Array.mapM_eq_mapM_toList]
    simp [h1]
  refine ⟨if hz : us.toArray.size = 1 then us.toArray[0] else .tuple us.toArray,?_,?_⟩
  · unfold results
    rw [Sem.run_bind]
    show (Sem.run P (fn.results.mapM (resM a.tmps)) w).andThen _ = _
    rw [hm]
    rfl
  · match vs, us, h2, h3 with
    | [v],[u],_,h3=>exact h3 0 v u rfl rfl
    | [],[],_,h3=>exact .tup [] [] rfl (fun j y v h1 h2=>by simp at h1)
    | a :: b :: r,c :: d :: q,h2,h3=>exact .tup _ (c :: d :: q) h2 h3
theorem own_drop (H : HeapRel h μ w) {n : Nat} (L : (imm h μ w).le (imm (h.take n) (μ.take n) w)) {id g off len : Nat} {x : Value} {sh : Sh} {xs : List PV} (R : RAV (imm h μ w) h μ (.own id g off len) x) (hr : rd h (.own id g off len) = some (sh,xs))
    (hn : n ≤ id) : RPV (imm (h.take n) (μ.take n) w) (.sl sh xs) x:=by
  obtain ⟨ys,fz,ho,hc1,hc2,hr⟩:=rd_own hr
  obtain ⟨_,g2,a,cap,rfl,g3,g4⟩:=own_read H R ho hc1
  have hlen : xs.length = len:=by rw [hr]; exact win_length hc2
  by_cases hne : xs = []
  · have hl0 : len = 0 := by rw [← hlen, hne]; rfl
    rw [hne,hl0]
    exact .nils _ _ _
  · have hpos : 0 < xs.length := List.length_pos_iff.2 hne
    obtain ⟨b,m,c,hm,ha,hB,hn1,hn2,hcells⟩:=g4 (by omega)
    have he : ∀ x ∈ xs,x.cells.length = shSize sh:=fun x hx=>shp_cells (g2 x (win_mem (hr ▸ hx)))
    have hcell : ∀ (j : Nat) (y : PV),(xs.flatMap PV.cells)[j]? = some y → ∃ v,c[off * shSize sh + j]? = some v ∧ RPV (imm h μ w) y v:=by
      intro j y hy
      obtain ⟨x,h5,h6,h8,h7⟩:=flat_split he hy
      rw [hr] at h5
      have h9:=win_get h5
      have h10:=hcells _ _ x y h9.2 h6
      rw [show (off + j / shSize sh) * shSize sh + j % shSize sh = off * shSize sh + j by rw [Nat.add_mul]; omega] at h10
      exact h10
    subst ha
    have key : RPV (imm (h.take n) (μ.take n) w) (.sl sh xs) (.slice (some ⟨b,off * shSize sh,none⟩) xs.length cap):=by
      refine .sl sh xs b (off * shSize sh) cap (fun j=>(c[off * shSize sh + j]?).getD undef) hne (by omega) (fun x hx=>g2 x (win_mem (hr ▸ hx))) (fun j y hy=>?_) (fun j y hy=>?_)
      · obtain ⟨v, h5, h6⟩ := hcell j y hy
        refine imm_some.2 ⟨?_,by rw [cell_of_block hB,h5]; simp [h5]⟩
        rintro ⟨i,n',h8,h9⟩
        rw [List.getElem?_take] at h8
        split at h8
        · have := H.distinct i id b n' m h8 hm
          omega
        · cases h8
      · obtain ⟨v, h5, h6⟩ := hcell j y hy
        have : (c[off * shSize sh + j]?).getD undef = v:=by simp [h5]
        simp only [this]
        exact h6.mono L
    rwa [hlen] at key
theorem rd0s_ok (H : HeapRel h μ w) {n : Nat} (L : (imm h μ w).le (imm (h.take n) (μ.take n) w)) : ∀ (cs : List AV) {vs : List PV},(∀ x ∈ cs,x.sc = true) → rd0s n h cs = some vs →
    vs.length = cs.length ∧ (∀ x ∈ vs,x.sc = true) ∧ ∀ (j : Nat) (y : AV) (z : PV) (v : Value),cs[j]? = some y → vs[j]? = some z → RAV (imm h μ w) h μ y v → RPV (imm (h.take n) (μ.take n) w) z v
  | [],vs,_,e=>by
    simp [rd0s] at e
    subst e
    exact ⟨rfl,by simp,fun j y z v hy=>by simp at hy⟩
  | a :: r,vs,hs,e=>by
    simp only [rd0s] at e
    split at e
    case h_2=>cases e
    rename_i x hx
    simp only [Option.map_eq_some_iff] at e
    obtain ⟨xs,h1,rfl⟩:=e
    obtain ⟨q1,q2,q3⟩:=rd0s_ok H L r (fun x hx=>hs x (by simp [hx])) h1
    have hsa:=hs a (by simp)
    have key : x.sc = true ∧ ∀ v,RAV (imm h μ w) h μ a v → RPV (imm (h.take n) (μ.take n) w) x v:=by
      unfold rd0 at hx
      split at hx
      · injection hx with hx; subst hx; exact ⟨hsa,fun v R=>R.p_inv.mono L⟩
      · injection hx with hx; subst hx; exact ⟨rfl,fun v R=>by obtain ⟨a,rfl⟩:=sl0_inv R; exact .nils _ _ _⟩
      · injection hx with hx; subst hx; exact ⟨rfl,fun v R=>by cases R; exact .nilp⟩
      · split at hx
        · rename_i hn
          simp only [Option.map_eq_some_iff] at hx
          obtain ⟨⟨sh,ys⟩,h1,rfl⟩:=hx
          exact ⟨rfl,fun v R=>own_drop H L R h1 hn⟩
        · cases hx
      · cases hx
    refine ⟨by simp [q1],fun y hy=>?_,fun j y z v hy hz R=>?_⟩
    · rcases List.mem_cons.1 hy with rfl | hy
      · exact key.1
      · exact q2 y hy
    · cases j with
      | zero=>simp at hy hz; subst hy; subst hz; exact key.2 v R
      | succ j=>exact q3 j y z v (by simpa using hy) (by simpa using hz) R
theorem arow_drop (H : HeapRel h μ w) {n : Nat} (L : (imm h μ w).le (imm (h.take n) (μ.take n) w)) {t id g : Nat} {x : Value} {u : AV} (R : RAV (imm h μ w) h μ (.bt 3 t id g) x) (hr : rdA n h id g = some u)
    (hn : n ≤ id) : RAV (imm (h.take n) (μ.take n) w) (h.take n) (μ.take n) u x:=by
  unfold rdA at hr
  split at hr
  case h_2=>cases hr
  rename_i sh cs ho
  split at hr
  case isFalse=>cases hr
  rename_i hg
  simp only [Option.map_eq_some_iff] at hr
  obtain ⟨vs,h1,rfl⟩:=hr
  cases R with | bt3 _ _ _ a cap o m hl ho' hm hv=>
  rw [ho] at ho'
  injection ho' with ho'
  obtain ⟨hv1,hv2⟩:=hv sh cs ho'.symm
  have hO:=hv2 hg
  obtain ⟨k1,k2⟩:=H.obj id _ m ho hm
  obtain ⟨q1,q2,q3⟩:=rd0s_ok H L cs k1 h1
  obtain ⟨s1,s2,s3⟩:=chunkP_spec (sh:=sh) (g:=g) (vs:=vs) (by rw [q1,hg]) q2
  by_cases hz : g = 0
  · subst hz
    have hxs : chunkP sh 0 vs = []:=List.length_eq_zero_iff.1 s1
    rw [hxs]
    exact .p _ _ (.nils _ _ _)
  · have hm2 : ∃ b k c,m = some (b,k) ∧ a = some ⟨b,0,none⟩ ∧ Block w b k c ∧ ∀ (j : Nat) (x : AV),cs[j]? = some x → ∃ v,c[j]? = some v ∧ RAV (imm h μ w) h μ x v:=by
      cases m with
      | none=>simp [OwnAt] at hO; omega
      | some m=>
        obtain ⟨b,k⟩:=m
        obtain ⟨c,c1,c2,c3⟩:=k2
        rcases hO with q | q
        · omega
        · exact ⟨b,k,c,rfl,by rw [q.1,Nat.zero_mul],c1,c3⟩
    obtain ⟨b,k,c,rfl,rfl,hB,hcells⟩:=hm2
    have he : ∀ x ∈ chunkP sh g vs,x.cells.length = shSize sh:=fun x hx=>shp_cells (s2 x hx)
    have hcell : ∀ (j : Nat) (y : PV),((chunkP sh g vs).flatMap PV.cells)[j]? = some y → ∃ v,c[j]? = some v ∧ RPV (imm (h.take n) (μ.take n) w) y v:=by
      intro j y hy
      obtain ⟨x,h5,h6,h8,h7⟩:=flat_split he hy
      have h9:=s3 _ _ x y h5 h6
      have hj : j / shSize sh * shSize sh + j % shSize sh = j:=Nat.div_add_mod' j (shSize sh)
      rw [hj] at h9
      have hlt : j < cs.length:=by have:=lt_of_get h9; omega
      obtain ⟨v,v1,v2⟩:=hcells j cs[j] (List.getElem?_eq_getElem hlt)
      exact ⟨v,v1,q3 j cs[j] y v (List.getElem?_eq_getElem hlt) h9 v2⟩
    have key : RPV (imm (h.take n) (μ.take n) w) (.sl sh (chunkP sh g vs)) (.slice (some ⟨b,0,none⟩) (chunkP sh g vs).length cap):=by
      refine .sl sh _ b 0 cap (fun j=>(c[j]?).getD undef) (fun e=>hz (by rw [← s1,e]; rfl)) (by rw [s1]; exact hl) s2 (fun j y hy=>?_) (fun j y hy=>?_)
      · obtain ⟨v, h5, h6⟩ := hcell j y hy
        refine imm_some.2 ⟨?_,by rw [cell_of_block hB,Nat.zero_add,h5]; simp [h5]⟩
        rintro ⟨i,n',h8,h9⟩
        rw [List.getElem?_take] at h8
        split at h8
        · have := H.distinct i id b n' k h8 hm
          omega
        · cases h8
      · obtain ⟨v, h5, h6⟩ := hcell j y hy
        have : (c[j]?).getD undef = v:=by simp [h5]
        simp only [this]
        exact h6
    rw [s1] at key
    exact .p _ _ key
mutual
theorem reif_ok (H : HeapRel h μ w) {n : Nat} (L : (imm h μ w).le (imm (h.take n) (μ.take n) w)) : ∀ (v : AV) {u : AV} {x : Value},RAV (imm h μ w) h μ v x → reif n h v = some u → u.top ≤ n → RAV (imm (h.take n) (μ.take n) w) (h.take n) (μ.take n) u x
  | .own id g off len,u,x,R,hr,ht=>by
    simp only [reif] at hr
    split at hr
    · rename_i hn
      simp only [Option.map_eq_some_iff] at hr
      obtain ⟨⟨sh,xs⟩,h1,rfl⟩:=hr
      exact .p _ _ (own_drop H L R h1 hn)
    · injection hr with hr; subst hr; exact R.take L ht
  | .sl0 sh,u,x,R,hr,ht=>by
    simp only [reif] at hr
    injection hr with hr
    subst hr
    obtain ⟨a,rfl⟩:=sl0_inv R
    exact .p _ _ (.nils _ _ _)
  | .agg cs,u,x,R,hr,ht=>by
    simp only [reif,Option.map_eq_some_iff] at hr
    obtain ⟨us,h1,rfl⟩:=hr
    cases R with | agg _ xs hl hrr=>
    have htop : AV.tops us ≤ n:=by
      unfold mkA at ht
      split at ht
      · rename_i ps hp
        have:=unp_spec hp
        subst this
        rw [tops_map_p]; omega
      · simpa [AV.top] using ht
    obtain ⟨q1,q2⟩:=reifs_ok H L cs hl hrr h1 htop
    exact mkA_sound q1 q2
  | .tup cs,u,x,R,hr,ht=>by
    simp only [reif,Option.map_eq_some_iff] at hr
    obtain ⟨us,h1,rfl⟩:=hr
    cases R with | tup _ xs hl hrr=>
    obtain ⟨q1,q2⟩:=reifs_ok H L cs hl hrr h1 (by simpa [AV.top] using ht)
    exact .tup us xs q1 q2
  | .p v,u,x,R,hr,ht=>by simp only [reif] at hr; injection hr with hr; subst hr; exact R.take L ht
  | .ref _ _,u,x,R,hr,ht=>by simp only [reif] at hr; injection hr with hr; subst hr; exact R.take L ht
  | .rref _ _ _ _,u,x,R,hr,ht=>by simp only [reif] at hr; injection hr with hr; subst hr; exact R.take L ht
  | .vp _,u,x,R,hr,ht=>by simp only [reif] at hr; injection hr with hr; subst hr; exact R.take L ht
  | .nilp,u,x,R,hr,ht=>by simp only [reif] at hr; injection hr with hr; subst hr; exact R.take L ht
  | .nilm,u,x,R,hr,ht=>by simp only [reif] at hr; injection hr with hr; subst hr; exact R.take L ht
  | .nilf,u,x,R,hr,ht=>by simp only [reif] at hr; injection hr with hr; subst hr; exact R.take L ht
  | .nili,u,x,R,hr,ht=>by simp only [reif] at hr; injection hr with hr; subst hr; exact R.take L ht
  | .ifc,u,x,R,hr,ht=>by simp only [reif] at hr; injection hr with hr; subst hr; exact R.take L ht
  | .mp _,u,x,R,hr,ht=>by simp only [reif] at hr; injection hr with hr; subst hr; exact R.take L ht
  | .it _,u,x,R,hr,ht=>by simp only [reif] at hr; injection hr with hr; subst hr; exact R.take L ht
  | .fn _ _,u,x,R,hr,ht=>by simp only [reif] at hr; injection hr with hr; subst hr; exact R.take L ht
  | .anyb,u,x,R,hr,ht=>by simp only [reif] at hr; injection hr with hr; subst hr; exact R.take L ht
  | .skp,u,x,R,hr,ht=>by simp only [reif] at hr; injection hr with hr; subst hr; exact R.take L ht
  | .und,u,x,R,hr,ht=>by simp only [reif] at hr; injection hr with hr; subst hr; exact R.take L ht
  | .anyp,u,x,R,hr,ht=>by simp only [reif] at hr; injection hr with hr; subst hr; exact R.take L ht
  | .bt k t id g,u,x,R,hr,ht=>by
    simp only [reif] at hr
    cases hk : (Nat.beq k 3 && decide (n ≤ id)) with
    | false=>rw [hk] at hr; injection hr with hr; subst hr; exact R.take L ht
    | true=>
      rw [hk] at hr
      simp only [Bool.and_eq_true,decide_eq_true_eq] at hk
      have hk1:=Nat.eq_of_beq_eq_true hk.1
      subst hk1
      exact arow_drop H L R hr hk.2
theorem reifs_ok (H : HeapRel h μ w) {n : Nat} (L : (imm h μ w).le (imm (h.take n) (μ.take n) w)) : ∀ (cs : List AV) {us : List AV} {xs : List Value},cs.length = xs.length →
    (∀ (j : Nat) (y : AV) (v : Value),cs[j]? = some y → xs[j]? = some v → RAV (imm h μ w) h μ y v) → reifs n h cs = some us → AV.tops us ≤ n →
    us.length = xs.length ∧ ∀ (j : Nat) (y : AV) (v : Value),us[j]? = some y → xs[j]? = some v → RAV (imm (h.take n) (μ.take n) w) (h.take n) (μ.take n) y v
  | [],us,xs,hl,hr,e,ht=>by
    simp only [reifs] at e
    injection e with e
    subst e
    exact ⟨hl,fun j y v h1 _=>by simp at h1⟩
  | c :: r,us,xs,hl,hr,e,ht=>by
    cases xs with
    | nil=>simp at hl
    | cons x xs=>
      simp only [reifs] at e
      split at e
      · rename_i u hu
        simp only [Option.map_eq_some_iff] at e
        obtain ⟨l,h1,rfl⟩:=e
        simp only [AV.tops] at ht
        have k1:=reif_ok H L c (hr 0 c x rfl rfl) hu (by omega)
        obtain ⟨k2,k3⟩:=reifs_ok H L r (xs:=xs) (by simpa using hl) (fun j y v h1 h2=>hr (j + 1) y v (by simpa using h1) (by simpa using h2)) h1 (by omega)
        refine ⟨by simp [k2],fun j y v hy hv=>?_⟩
        cases j with
        | zero=>simp at hy hv; subst hy; subst hv; exact k1
        | succ j=>exact k3 j y v (by simpa using hy) (by simpa using hv)
      · cases e
end
theorem puras_ok : ∀ (asv : List AV) {h : Heap} {vs : List Value} {asv' : List AV} {h1 : Heap},HeapRel h μ w → asv.length = vs.length →
    (∀ (j : Nat) (y : AV) (v : Value),asv[j]? = some y → vs[j]? = some v → RAV (imm h μ w) h μ y v) → puras h asv = some (asv',h1) →
    PurOk h μ w h1 ∧ asv'.length = vs.length ∧ ∀ (j : Nat) (y : AV) (v : Value),asv'[j]? = some y → vs[j]? = some v → RAV (imm h1 μ w) h1 μ y v
  | [],h,vs,asv',h1,H,hl,hr,e=>by
    simp only [puras,Option.some.injEq,Prod.mk.injEq] at e
    obtain ⟨rfl,rfl⟩:=e
    exact ⟨⟨H,Evo.refl _ _ _,EscInv.refl _ _⟩,hl,fun j y v hy=>by simp at hy⟩
  | a :: r,h,vs,asv',h1,H,hl,hr,e=>by
    cases vs with
    | nil=>simp at hl
    | cons x vs=>
      have step : ∀ {h2 : Heap} {u : AV},PurOk h μ w h2 → RAV (imm h2 μ w) h2 μ u x → (puras h2 r).map (fun y=>(u :: y.1,y.2)) = some (asv',h1) →
          PurOk h μ w h1 ∧ asv'.length = (x :: vs).length ∧ ∀ (j : Nat) (y : AV) (v : Value),asv'[j]? = some y → (x :: vs)[j]? = some v → RAV (imm h1 μ w) h1 μ y v:=by
        intro h2 u ⟨a1,a2,a3⟩ hu e
        simp only [Option.map_eq_some_iff,Prod.mk.injEq] at e
        obtain ⟨⟨l,h3⟩,hp,rfl,rfl⟩:=e
        obtain ⟨⟨b1,b2,b3⟩,b4,b5⟩:=puras_ok r a1 (vs:=vs) (by simpa using hl) (fun j y v hy hv=>(hr (j + 1) y v (by simpa using hy) (by simpa using hv)).evo a2) hp
        refine ⟨⟨b1,a2.trans b2,by simpa using EscInv.trans a3 b3⟩,by simp [b4],fun j y v hy hv=>?_⟩
        cases j with
        | zero=>simp at hy hv; subst hy; subst hv; exact hu.evo b2
        | succ j=>exact b5 j y v (by simpa using hy) (by simpa using hv)
      have h0:=hr 0 a x rfl rfl
      cases a
      case own id g off len=>
        simp only [puras] at e
        split at e
        · rename_i z hz
          obtain ⟨sh,xs⟩:=z
          obtain ⟨k1,k2,k3,k4⟩:=own_pur H h0 hz
          exact step ⟨k1,k2,k3⟩ (.p _ _ k4) e
        · cases e
      case agg cs=>
        simp only [puras] at e
        split at e
        · rename_i pv h2 hp
          obtain ⟨k1,k2⟩:=pur_sound _ H h0 hp
          exact step k1 (.p _ _ k2) e
        · cases e
      case sl0 sh=>
        simp only [puras] at e
        obtain ⟨b,rfl⟩:=sl0_inv h0
        exact step ⟨H,Evo.refl _ _ _,EscInv.refl _ _⟩ (.p _ _ (.nils _ _ _)) e
      all_goals
        simp only [puras] at e
        exact step ⟨H,Evo.refl _ _ _,EscInv.refl _ _⟩ h0 e
end Go.Am
end
section
/- The abstract machine,part 23: a call that ends well here ends well in the model. -/
set_option linter.unusedSimpArgs false
set_option linter.unusedVariables false
set_option maxHeartbeats 1000000
namespace Go.Am
variable {h h' : Heap} {μ μ' : Mu} {w w' : World} {P : Program} {M M' : Mem}
variable {gl : Nat → Option PV} {nt : Nat} {M0 : Mem} {h0 : Heap} {μ0 : Mu} {e : List (Nat × AV)} {x : Esc} {a : Act}
theorem fin_ok {F : AFun} {fn : Func} {s : St} {K : Post} (R : Rel gl nt M0 h0 μ0 s.env s.h s.esc a w μ) (Hs : ∀ id,topAt h0 id ≤ h0.length) (hc : chkRes P F.results fn.results.toList = true) (H : fin F h0.length s K) :
    ∃ u,(results fn a.tmps).run P w = .ok u w ∧ ∃ v h' x μ',K v h' x ∧ RAV (imm h' μ' w) h' μ' v u ∧ HeapRel h' μ' w ∧ Evo M0 h0 μ0 (imm h' μ' w) h' μ' ∧ EscInv h0 h' x:=by
  unfold fin at H
  split at H
  · rename_i vs hvs
    obtain ⟨u,hu,hR⟩:=results_ok R.heap R.env hc hvs
    refine ⟨u,hu,?_⟩
    split at H
    · dsimp only at H
      split at H
      · rename_i hcl
        have hn:=close_ge s.esc.length s.esc (max h0.length (oneOf vs).top)
        generalize close s.esc.length s.esc (max h0.length (oneOf vs).top) = n at H hcl hn
        obtain ⟨q1,q2,q3,q4⟩:=take_ok Hs R.heap R.evo R.esc (by omega) hcl
        exact ⟨_,_,_,μ.take n,H,hR.take q2 (by omega),q1,q3,q4⟩
      · exact ⟨_,_,_,μ,H,hR,R.heap,R.evo,R.esc⟩
    · split at H
      · rename_i v0 hv0
        dsimp only at H
        split at H
        · rename_i hcl
          have hn:=close_ge s.esc.length s.esc (max h0.length v0.top)
          generalize close s.esc.length s.esc (max h0.length v0.top) = n at H hcl hn
          split at H
          · rename_i v hv
            obtain ⟨q1,q2,q3,q4⟩:=take_ok Hs R.heap R.evo R.esc (by omega) hcl
            exact ⟨_,_,_,μ.take n,H.2,reif_ok R.heap q2 _ hR hv H.1,q1,q3,q4⟩
          · exact H.elim
        · exact ⟨_,_,_,μ,H,hR,R.heap,R.evo,R.esc⟩
      · exact H.elim
  · exact H.elim
def chkFun (P : Program) (f : Nat) (F : AFun) : Bool:=match P.funcs[f]? with
  | some fn=>match fn.body with
    | some c=>chkCode P fn.ntmps F.body c && chkRes P F.results fn.results.toList && fn.name != "runtime.NumGoroutine"
    | none=>false
  | none=>false
theorem enters {f : Nat} {fn : Func} {c : Code} (hf : P.funcs[f]? = some fn) (hb : fn.body = some c) (hn : fn.name ≠ "runtime.NumGoroutine") (args : Array Value) (w : World) : (callFunc f args).run P w = .ok (.enter f args) w:=by
  unfold callFunc
  simp [hf,hb,hn]
theorem enter_get {asv : List AV} {t : Nat} : aget (enter asv) t = (asv[t]?).getD .und:=by
  have key : ∀ (l : List AV) (k t : Nat),aget ((l.zipIdx k).map fun y=>(y.2,y.1)) t = if t < k then .und else (l[t - k]?).getD .und:=by
    intro l
    induction l with
    | nil=>intro k t; simp [aget]
    | cons v r ih=>
      intro k t
      simp only [List.zipIdx_cons,List.map_cons,aget]
      by_cases hk : k = t
      · subst hk; simp
      · rw [if_neg hk, ih]
        by_cases h1 : t < k
        · rw [if_pos h1,if_pos (by omega)]
        · rw [if_neg h1, if_neg (by omega), show t - k = (t - (k + 1)) + 1 by omega]
          simp
  have:=key asv 0 t
  simpa [enter] using this
def ExtM (M : Mem) (w w' : World) : Mem:=⟨fun b o=>if b < w.heap.size then M.c b o else w'.cell? ⟨b,o,none⟩,fun _=>none,some (zed w'),fun _=>none⟩
def ExtOk (P : Program) (f : Nat) (vs : List PV) (r : PV) : Prop:=∀ (M : Mem) (w : World) (us : List Value),(∀ b o v,M.c b o = some v → w.cell? ⟨b,o,none⟩ = some v) → vs.length = us.length →
  (∀ (j : Nat) (y : PV) (v : Value),vs[j]? = some y → us[j]? = some v → RPV M y v) →
  ∃ x w',(callFunc f us.toArray).run P w = .ok (.value x) w' ∧ WExt w w' ∧ RPV (ExtM M w w') r x
structure Fits (P : Program) (X : Ctx) : Prop where
  mixed : P.follows .mixedOrders = true
  fn : ∀ f F,X.fn f = some F → chkFun P f F = true
  ext : ∀ f vs r,X.fn f = none → X.ext f vs = some r → ExtOk P f vs r
  ex2 : ∀ f asv h v h' x,X.fn f = none → X.ex2 f asv h = some (v,h',x) → CallOk P X.gl f asv h fun v1 h1 x1=>v1 = v ∧ h1 = h' ∧ x1 = x
theorem step_sound {X : Ctx} (HX : Fits P X) {f : Nat} {asv : List AV} {h : Heap} {K : Post} (H : Step X (CallOk P X.gl) f asv h K) : CallOk P X.gl f asv h K:=by
  intro μ w vs Hh Hg hl hr
  unfold Step at H
  split at H
  · rename_i F hF
    have H:=fbody_weak (CallOk.mono P X.gl) H
    have hck:=HX.fn f F hF
    unfold chkFun at hck
    split at hck
    · rename_i fn hfn
      split at hck
      · rename_i c hb
        simp only [Bool.and_eq_true,bne_iff_ne,ne_eq] at hck
        obtain ⟨⟨c1,c2⟩,c3⟩:=hck
        refine .inl ⟨fun w=>enters hfn hb c3 _ w,calls_of_wp hfn hb ?_⟩
        unfold abody at H
        have body : ∀ {asv' : List AV} {h1 : Heap},PurOk h μ w h1 → asv'.length = vs.length → (∀ (j : Nat) (y : AV) (v : Value),asv'[j]? = some y → vs[j]? = some v → RAV (imm h1 μ w) h1 μ y v) →
            (asv'.length = F.nparams ∧ AW (CallOk P X.gl) X.gl F.body ⟨enter asv',h1,[]⟩ fun e s=>match e with
              | .exit _=>False
              | _=>fin F h.length s K) → Code.wp P c (bodyPost P fn fun
                | .returned r,w'=>∃ v h' x μ',K v h' x ∧ RAV (imm h' μ' w') h' μ' v r ∧ HeapRel h' μ' w' ∧ Evo (imm h μ w) h μ (imm h' μ' w') h' μ' ∧ EscInv h h' x
                | _,_=>False) { tmps:=vs.toArray ++ Array.replicate (fn.ntmps - vs.toArray.size) undef,defers:=[] } w:=by
          intro asv' h1 ⟨a1,a2,a3⟩ hl' hr' ⟨_,hA⟩
          refine code_sound HX.mixed (nt:=fn.ntmps) (M0:=imm h μ w) (h0:=h) (μ0:=μ) (μ:=μ) (fun _ _ _ _ h=>h) F.body c1 hA ⟨a1,fun t=>?_,Hg.mono a2.le,a2,a3,?_,rfl⟩ (fun ex s' a' w' μ' hk R'=>?_)
          · dsimp only
            rw [enter_get]
            cases ht : asv'[t]? with
            | none=>exact .und _
            | some y=>
              have hlt : t < vs.length:=by rw [← hl']; exact lt_of_get ht
              have : (vs.toArray ++ Array.replicate (fn.ntmps - vs.toArray.size) undef).getD t undef = vs[t]:=by
                simp [Array.getD,hlt]
                intro hh; omega
              rw [this]
              exact hr' t y _ ht (List.getElem?_eq_getElem hlt)
          · simp; omega
          · cases ex with
            | normal=>
              obtain ⟨u,q1,q2⟩:=fin_ok R' (fun id=>topAt_le Hh id) c2 hk
              exact ⟨R'.defers,u,q1,q2⟩
            | exit i=>exact hk.elim
            | ret=>
              obtain ⟨u,q1,q2⟩:=fin_ok R' (fun id=>topAt_le Hh id) c2 hk
              exact ⟨R'.defers,u,q1,q2⟩
        split at H
        · rename_i asv' h1 hp
          split at hp
          · injection hp with hp
            injection hp with e1 e2
            subst e1; subst e2
            exact body ⟨Hh,Evo.refl _ _ _,EscInv.refl _ _⟩ hl hr H
          · obtain ⟨q1, q2, q3⟩ := puras_ok asv Hh hl hr hp
            exact body q1 q2 q3 H
        · exact H.elim
      · cases hck
    · cases hck
  · rename_i hF
    split at H
    · rename_i hx2
      exact CallOk.mono P X.gl _ _ _ _ _ (fun v1 h1' x1 hv=>by obtain ⟨rfl,rfl,rfl⟩:=hv; exact H) (HX.ex2 f asv h _ _ _ hF hx2) μ w vs Hh Hg hl hr
    · rename_i hx2
      split at H
      · rename_i asv' h1 hp
        split at H
        · rename_i ps hps
          split at H
          · rename_i r hrr
            obtain ⟨q1,q2,q3⟩:=puras_ok asv Hh hl hr hp
            have hm:=unp_spec hps
            subst hm
            obtain ⟨u,w',k1,g1,g2⟩:=HX.ext f ps r hF hrr (imm h1 μ w) w vs (fun b o v hv=>(imm_some.1 hv).2) (by simpa using q2) (fun j y v hy hv=>(q3 j (.p y) v (by simp [hy]) hv).p_inv)
            obtain ⟨n1,n2⟩:=q1.1.ext g1
            have L : (ExtM (imm h1 μ w) w w').le (imm h1 μ w'):=by
              refine ⟨fun b o v hv=>?_,fun b o hv=>?_,rfl,fun _ _ h=>by cases h⟩
              · dsimp only [ExtM] at hv
                split at hv
                · exact n2.le.c _ _ _ hv
                · rename_i hb
                  exact imm_some.2 ⟨fun hO=>hb (owned_lt q1.1 hO),hv⟩
              · dsimp only [ExtM] at hv
                cases hv
            exact .inr ⟨_,_,_,_,_,μ,k1,H,.p _ _ (g2.mono L),n1,q1.2.1.trans n2,q1.2.2⟩
          · exact H.elim
        · exact H.elim
      · exact H.elim
theorem call_sound {X : Ctx} (HX : Fits P X) {f : Nat} {asv : List AV} {h : Heap} {K : Post} (H : ACall X f asv h K) : CallOk P X.gl f asv h K:=
  H (CallOk P X.gl) (CallOk.mono P X.gl) (fun f a h K hs=>step_sound HX hs)
end Go.Am
end
section
/- The abstract machine,part 24: rules by which its code is computed on what is only partly known. -/
set_option linter.unusedSimpArgs false
set_option linter.unusedVariables false
namespace Go.Am
def optK (o : Option (AV × Heap × Esc)) (f : AV → Heap → Esc → Prop) : Prop:=match o with
  | some y=>f y.1 y.2.1 y.2.2
  | none=>False
def condU (v : AV) (A B : Prop) : Prop:=match v with
  | .p (.bool t)=>match t with
    | true=>A
    | false=>B
  | .anyb=>A ∧ B
  | _=>False
def condB (v : AV) (A B : Prop) : Prop:=match v with
  | .p (.bool t)=>match t with
    | true=>A
    | false=>B
  | _=>False
def wantK (v : AV) (b : Bool) (A B : Prop) : Prop:=match v with
  | .p (.bool c)=>match c == b with
    | true=>A
    | false=>B
  | .skp=>B
  | _=>False
def regK (keep : Option (List Nat)) (K : Ex → St → Prop) (e : List (Nat × AV)) (h : Heap) (x : Esc) : Prop:=K .normal ⟨prune keep e,h,x⟩
def seqK (C : Hd) (gl : Nat → Option PV) (b : ACode) (K : Ex → St → Prop) (e : Ex) (s : St) : Prop:=match e with
  | .normal=>AW C gl b s K
  | .exit i=>K (.exit i) s
  | .ret=>K .ret s
def blockK (id : Nat) (K : Ex → St → Prop) (e : Ex) (s : St) : Prop:=match e with
  | .normal=>K .normal s
  | .exit i=>if i = id then K .normal s else K (.exit i) s
  | .ret=>K .ret s
def finK (F : AFun) (b : Nat) (K : Post) (e : Ex) (s : St) : Prop:=match e with
  | .exit _=>False
  | _=>fin F b s K
def scopeK (n : Nat) (x : Esc) (K : Ex → St → Prop) (e : Ex) (s : St) : Prop:=K e (trunc n x s)
def AO.plain : AO → Bool
  | .call _ _ | .callv _ _ | .mnext _ _=>false
  | .mv _=>true
  | .pick _ _ _=>true
  | .alloc _=>true
  | .box _=>true
  | .build _ _=>true
  | .bsl _ _ _ _ _=>true
  | .load _ _=>true
  | .store _ _ _=>true
  | .nilchk _=>true
  | .bin _ _ _=>true
  | .eqa _ _ _ _=>true
  | .isnil _ _ _=>true
  | .mkif _=>true
  | .un _ _=>true
  | .conv _ _=>true
  | .mkfn _ _=>true
  | .mkmap=>true
  | .mksl _ _ _ _=>true
  | .slice _ _ _ _ _=>true
  | .slstr _ _ _=>true
  | .faddr _ _ _=>true
  | .field _ _ _=>true
  | .iaddr _ _ _=>true
  | .iaddra _ _ _ _=>true
  | .idxa _ _ _ _=>true
  | .idxs _ _=>true
  | .look _ _ _ _ _=>true
  | .mupd _ _ _ _=>true
  | .ment _ _ _ _=>true
  | .estore _ _ _=>true
  | .mdel _ _ _=>true
  | .ext _ _=>true
  | .len _=>true
  | .lens _=>true
  | .lenm _=>true
  | .app _ _ _=>true
  | .copy _ _ _=>true
  | .uns _ _ _=>true
  | .clr _ _ _=>true
  | .mx _=>true
  | .mn _=>true
  | .mrange _=>true
  | .mentry _=>true
  | .new0 _=>true
variable {C : Hd} {gl : Nat → Option PV} {e : List (Nat × AV)} {h : Heap} {x : Esc} {K : Ex → St → Prop} {L : List (Nat × AV) → Heap → Esc → Prop} {s : St}
theorem AW_skip : AW C gl .skip s K = K .normal s:=(rfl)
theorem AW_ret : AW C gl .ret s K = K .ret s:=(rfl)
theorem AW_exit {i : Nat} : AW C gl (.exit i) s K = K (.exit i) s:=(rfl)
theorem AW_bad : AW C gl .bad s K = False:=(rfl)
theorem AW_reg {ops : List AOp} {keep : Option (List Nat)} : AW C gl (.reg ops keep) ⟨e,h,x⟩ K = AReg C gl ops e h x (regK keep K):=(rfl)
theorem AW_seq {a b : ACode} : AW C gl (.seq a b) s K = AW C gl a s (seqK C gl b K):=(rfl)
theorem AW_cond {c : Opd} {a b : ACode} : AW C gl (.cond c a b) ⟨e,h,x⟩ K = condB (Opd.ev gl e c) (AW C gl a ⟨e,h,x⟩ K) (AW C gl b ⟨e,h,x⟩ K):=(rfl)
theorem AW_block {i : Nat} {b : ACode} : AW C gl (.block i b) s K = AW C gl b s (blockK i K):=(rfl)
theorem AW_scope {b : ACode} : AW C gl (.scope b) ⟨e,h,x⟩ K = AW C gl b ⟨e,h,[]⟩ (scopeK h.length x K):=(rfl)
theorem AW_pr {l : List Nat} {b : ACode} : AW C gl (.pr l b) ⟨e,h,x⟩ K = AW C gl b ⟨prune (some l) e,h,x⟩ K:=(rfl)
theorem regK_eq {keep : Option (List Nat)} : regK keep K e h x = K .normal ⟨prune keep e,h,x⟩:=(rfl)
theorem seqK_normal {b : ACode} : seqK C gl b K .normal s = AW C gl b s K:=(rfl)
theorem seqK_exit {b : ACode} {i : Nat} : seqK C gl b K (.exit i) s = K (.exit i) s:=(rfl)
theorem seqK_ret {b : ACode} : seqK C gl b K .ret s = K .ret s:=(rfl)
theorem blockK_normal {i : Nat} : blockK i K .normal s = K .normal s:=(rfl)
theorem blockK_exit {i j : Nat} : blockK i K (.exit j) s = if j = i then K .normal s else K (.exit j) s:=(rfl)
theorem blockK_ret {i : Nat} : blockK i K .ret s = K .ret s:=(rfl)
theorem scopeK_eq {n : Nat} {y : Esc} {ex : Ex} : scopeK n y K ex s = K ex (trunc n y s):=(rfl)
def contR (C : Hd) (gl : Nat → Option PV) (r : List AOp) (d : Option Nat) (e : List (Nat × AV)) (x : Esc) (L : List (Nat × AV) → Heap → Esc → Prop) (v : AV) (h' : Heap) (x' : Esc) : Prop:=AReg C gl r (put d v e) h' (x' ++ x) L
theorem contR_eq {r : List AOp} {d : Option Nat} {v : AV} {h' : Heap} {x' : Esc} : contR C gl r d e x L v h' x' = AReg C gl r (put d v e) h' (x' ++ x) L:=(rfl)
theorem contR_congr {r : List AOp} {d : Option Nat} {v w : AV} {h' h'' : Heap} {x' x'' : Esc} (h1 : v = w) (h2 : h' = h'') (h3 : x' = x'') : contR C gl r d e x L v h' x' = contR C gl r d e x L w h'' x'':=by rw [h1,h2,h3]
theorem AReg_nil : AReg C gl [] e h x L = L e h x:=(rfl)
theorem AReg_op {d : Option Nat} {op : AO} {r : List AOp} (hp : op.plain = true) : AReg C gl (⟨d,none,op⟩ :: r) e h x L = optK (aop op (Opd.ev gl e) h) (contR C gl r d e x L):=by
  cases op <;> first | (cases hp; done) | (simp only [AReg,wanted,optK,contR]; split <;> simp_all)
theorem AReg_mv {d : Option Nat} {r : List AOp} {q0 : Opd} : AReg C gl (⟨d,none,(.mv q0)⟩ :: r) e h x L = optK (aop (.mv q0) (Opd.ev gl e) h) (contR C gl r d e x L):=AReg_op rfl
theorem AReg_pick {d : Option Nat} {r : List AOp} {q0 q1 q2 : Opd} : AReg C gl (⟨d,none,(.pick q0 q1 q2)⟩ :: r) e h x L = optK (aop (.pick q0 q1 q2) (Opd.ev gl e) h) (contR C gl r d e x L):=AReg_op rfl
theorem AReg_alloc {d : Option Nat} {r : List AOp} {q0 : List AV} : AReg C gl (⟨d,none,(.alloc q0)⟩ :: r) e h x L = optK (aop (.alloc q0) (Opd.ev gl e) h) (contR C gl r d e x L):=AReg_op rfl
theorem AReg_box {d : Option Nat} {r : List AOp} {q0 : Opd} : AReg C gl (⟨d,none,(.box q0)⟩ :: r) e h x L = optK (aop (.box q0) (Opd.ev gl e) h) (contR C gl r d e x L):=AReg_op rfl
theorem AReg_build {d : Option Nat} {r : List AOp} {q0 : List AV} {q1 : List (Nat × Nat × Opd)} : AReg C gl (⟨d,none,(.build q0 q1)⟩ :: r) e h x L = optK (aop (.build q0 q1) (Opd.ev gl e) h) (contR C gl r d e x L):=AReg_op rfl
theorem AReg_bsl {d : Option Nat} {r : List AOp} {q0 : Bool} {q1 : Sh} {q2 : Nat} {q3 : PV} {q4 : List (Nat × Opd)} : AReg C gl (⟨d,none,(.bsl q0 q1 q2 q3 q4)⟩ :: r) e h x L = optK (aop (.bsl q0 q1 q2 q3 q4) (Opd.ev gl e) h) (contR C gl r d e x L):=AReg_op rfl
theorem AReg_load {d : Option Nat} {r : List AOp} {q0 : Sh} {q1 : Opd} : AReg C gl (⟨d,none,(.load q0 q1)⟩ :: r) e h x L = optK (aop (.load q0 q1) (Opd.ev gl e) h) (contR C gl r d e x L):=AReg_op rfl
theorem AReg_store {d : Option Nat} {r : List AOp} {q0 : Sh} {q1 q2 : Opd} : AReg C gl (⟨d,none,(.store q0 q1 q2)⟩ :: r) e h x L = optK (aop (.store q0 q1 q2) (Opd.ev gl e) h) (contR C gl r d e x L):=AReg_op rfl
theorem AReg_nilchk {d : Option Nat} {r : List AOp} {q0 : Opd} : AReg C gl (⟨d,none,(.nilchk q0)⟩ :: r) e h x L = optK (aop (.nilchk q0) (Opd.ev gl e) h) (contR C gl r d e x L):=AReg_op rfl
theorem AReg_bin {d : Option Nat} {r : List AOp} {q0 : BinOp} {q1 q2 : Opd} : AReg C gl (⟨d,none,(.bin q0 q1 q2)⟩ :: r) e h x L = optK (aop (.bin q0 q1 q2) (Opd.ev gl e) h) (contR C gl r d e x L):=AReg_op rfl
theorem AReg_eqa {d : Option Nat} {r : List AOp} {q0 : List Nat} {q1 : Bool} {q2 q3 : Opd} : AReg C gl (⟨d,none,(.eqa q0 q1 q2 q3)⟩ :: r) e h x L = optK (aop (.eqa q0 q1 q2 q3) (Opd.ev gl e) h) (contR C gl r d e x L):=AReg_op rfl
theorem AReg_isnil {d : Option Nat} {r : List AOp} {q0 : Nat} {q1 : Bool} {q2 : Opd} : AReg C gl (⟨d,none,(.isnil q0 q1 q2)⟩ :: r) e h x L = optK (aop (.isnil q0 q1 q2) (Opd.ev gl e) h) (contR C gl r d e x L):=AReg_op rfl
theorem AReg_mkif {d : Option Nat} {r : List AOp} {q0 : Opd} : AReg C gl (⟨d,none,(.mkif q0)⟩ :: r) e h x L = optK (aop (.mkif q0) (Opd.ev gl e) h) (contR C gl r d e x L):=AReg_op rfl
theorem AReg_un {d : Option Nat} {r : List AOp} {q0 : UnOp} {q1 : Opd} : AReg C gl (⟨d,none,(.un q0 q1)⟩ :: r) e h x L = optK (aop (.un q0 q1) (Opd.ev gl e) h) (contR C gl r d e x L):=AReg_op rfl
theorem AReg_conv {d : Option Nat} {r : List AOp} {q0 : Cv} {q1 : Opd} : AReg C gl (⟨d,none,(.conv q0 q1)⟩ :: r) e h x L = optK (aop (.conv q0 q1) (Opd.ev gl e) h) (contR C gl r d e x L):=AReg_op rfl
theorem AReg_mkfn {d : Option Nat} {r : List AOp} {q0 : Nat} {q1 : List Opd} : AReg C gl (⟨d,none,(.mkfn q0 q1)⟩ :: r) e h x L = optK (aop (.mkfn q0 q1) (Opd.ev gl e) h) (contR C gl r d e x L):=AReg_op rfl
theorem AReg_mkmap {d : Option Nat} {r : List AOp}  : AReg C gl (⟨d,none,.mkmap⟩ :: r) e h x L = optK (aop .mkmap (Opd.ev gl e) h) (contR C gl r d e x L):=AReg_op rfl
theorem AReg_mksl {d : Option Nat} {r : List AOp} {q0 : Sh} {q1 : PV} {q2 q3 : Opd} : AReg C gl (⟨d,none,(.mksl q0 q1 q2 q3)⟩ :: r) e h x L = optK (aop (.mksl q0 q1 q2 q3) (Opd.ev gl e) h) (contR C gl r d e x L):=AReg_op rfl
theorem AReg_slice {d : Option Nat} {r : List AOp} {q0 : Sh} {q1 : Opd} {q2 q3 q4 : Option Opd} : AReg C gl (⟨d,none,(.slice q0 q1 q2 q3 q4)⟩ :: r) e h x L = optK (aop (.slice q0 q1 q2 q3 q4) (Opd.ev gl e) h) (contR C gl r d e x L):=AReg_op rfl
theorem AReg_slstr {d : Option Nat} {r : List AOp} {q0 : Opd} {q1 q2 : Option Opd} : AReg C gl (⟨d,none,(.slstr q0 q1 q2)⟩ :: r) e h x L = optK (aop (.slstr q0 q1 q2) (Opd.ev gl e) h) (contR C gl r d e x L):=AReg_op rfl
theorem AReg_faddr {d : Option Nat} {r : List AOp} {q0 : Nat} {q1 : Sh} {q2 : Opd} : AReg C gl (⟨d,none,(.faddr q0 q1 q2)⟩ :: r) e h x L = optK (aop (.faddr q0 q1 q2) (Opd.ev gl e) h) (contR C gl r d e x L):=AReg_op rfl
theorem AReg_field {d : Option Nat} {r : List AOp} {q0 : Nat} {q1 : Sh} {q2 : Opd} : AReg C gl (⟨d,none,(.field q0 q1 q2)⟩ :: r) e h x L = optK (aop (.field q0 q1 q2) (Opd.ev gl e) h) (contR C gl r d e x L):=AReg_op rfl
theorem AReg_iaddr {d : Option Nat} {r : List AOp} {q0 : Sh} {q1 q2 : Opd} : AReg C gl (⟨d,none,(.iaddr q0 q1 q2)⟩ :: r) e h x L = optK (aop (.iaddr q0 q1 q2) (Opd.ev gl e) h) (contR C gl r d e x L):=AReg_op rfl
theorem AReg_iaddra {d : Option Nat} {r : List AOp} {q0 : Nat} {q1 : Sh} {q2 q3 : Opd} : AReg C gl (⟨d,none,(.iaddra q0 q1 q2 q3)⟩ :: r) e h x L = optK (aop (.iaddra q0 q1 q2 q3) (Opd.ev gl e) h) (contR C gl r d e x L):=AReg_op rfl
theorem AReg_idxa {d : Option Nat} {r : List AOp} {q0 : Nat} {q1 : Sh} {q2 q3 : Opd} : AReg C gl (⟨d,none,(.idxa q0 q1 q2 q3)⟩ :: r) e h x L = optK (aop (.idxa q0 q1 q2 q3) (Opd.ev gl e) h) (contR C gl r d e x L):=AReg_op rfl
theorem AReg_idxs {d : Option Nat} {r : List AOp} {q0 q1 : Opd} : AReg C gl (⟨d,none,(.idxs q0 q1)⟩ :: r) e h x L = optK (aop (.idxs q0 q1) (Opd.ev gl e) h) (contR C gl r d e x L):=AReg_op rfl
theorem AReg_look {d : Option Nat} {r : List AOp} {kk : Sh × List Nat} {q0 : Bool} {q1 : AV} {q2 q3 : Opd} : AReg C gl (⟨d,none,(.look kk q0 q1 q2 q3)⟩ :: r) e h x L = optK (aop (.look kk q0 q1 q2 q3) (Opd.ev gl e) h) (contR C gl r d e x L):=AReg_op rfl
theorem AReg_mupd {d : Option Nat} {r : List AOp} {kk : Sh × List Nat} {q0 q1 q2 : Opd} : AReg C gl (⟨d,none,(.mupd kk q0 q1 q2)⟩ :: r) e h x L = optK (aop (.mupd kk q0 q1 q2) (Opd.ev gl e) h) (contR C gl r d e x L):=AReg_op rfl
theorem AReg_ment {d : Option Nat} {r : List AOp} {kk : Sh × List Nat} {q0 : AV} {q1 q2 : Opd} : AReg C gl (⟨d,none,(.ment kk q0 q1 q2)⟩ :: r) e h x L = optK (aop (.ment kk q0 q1 q2) (Opd.ev gl e) h) (contR C gl r d e x L):=AReg_op rfl
theorem AReg_estore {d : Option Nat} {r : List AOp} {q0 q1 q2 : Opd} : AReg C gl (⟨d,none,(.estore q0 q1 q2)⟩ :: r) e h x L = optK (aop (.estore q0 q1 q2) (Opd.ev gl e) h) (contR C gl r d e x L):=AReg_op rfl
theorem AReg_mdel {d : Option Nat} {r : List AOp} {kk : Sh × List Nat} {q0 q1 : Opd} : AReg C gl (⟨d,none,(.mdel kk q0 q1)⟩ :: r) e h x L = optK (aop (.mdel kk q0 q1) (Opd.ev gl e) h) (contR C gl r d e x L):=AReg_op rfl
theorem AReg_ext {d : Option Nat} {r : List AOp} {q0 : Opd} {q1 : Nat} : AReg C gl (⟨d,none,(.ext q0 q1)⟩ :: r) e h x L = optK (aop (.ext q0 q1) (Opd.ev gl e) h) (contR C gl r d e x L):=AReg_op rfl
theorem AReg_len {d : Option Nat} {r : List AOp} {q0 : Opd} : AReg C gl (⟨d,none,(.len q0)⟩ :: r) e h x L = optK (aop (.len q0) (Opd.ev gl e) h) (contR C gl r d e x L):=AReg_op rfl
theorem AReg_lens {d : Option Nat} {r : List AOp} {q0 : Opd} : AReg C gl (⟨d,none,(.lens q0)⟩ :: r) e h x L = optK (aop (.lens q0) (Opd.ev gl e) h) (contR C gl r d e x L):=AReg_op rfl
theorem AReg_lenm {d : Option Nat} {r : List AOp} {q0 : Opd} : AReg C gl (⟨d,none,(.lenm q0)⟩ :: r) e h x L = optK (aop (.lenm q0) (Opd.ev gl e) h) (contR C gl r d e x L):=AReg_op rfl
theorem AReg_app {d : Option Nat} {r : List AOp} {q0 : Sh} {q1 q2 : Opd} : AReg C gl (⟨d,none,(.app q0 q1 q2)⟩ :: r) e h x L = optK (aop (.app q0 q1 q2) (Opd.ev gl e) h) (contR C gl r d e x L):=AReg_op rfl
theorem AReg_copy {d : Option Nat} {r : List AOp} {q0 : Sh} {q1 q2 : Opd} : AReg C gl (⟨d,none,(.copy q0 q1 q2)⟩ :: r) e h x L = optK (aop (.copy q0 q1 q2) (Opd.ev gl e) h) (contR C gl r d e x L):=AReg_op rfl
theorem AReg_mx {d : Option Nat} {r : List AOp} {q0 : List Opd} : AReg C gl (⟨d,none,(.mx q0)⟩ :: r) e h x L = optK (aop (.mx q0) (Opd.ev gl e) h) (contR C gl r d e x L):=AReg_op rfl
theorem AReg_mn {d : Option Nat} {r : List AOp} {q0 : List Opd} : AReg C gl (⟨d,none,(.mn q0)⟩ :: r) e h x L = optK (aop (.mn q0) (Opd.ev gl e) h) (contR C gl r d e x L):=AReg_op rfl
theorem AReg_mrange {d : Option Nat} {r : List AOp} {q0 : Opd} : AReg C gl (⟨d,none,(.mrange q0)⟩ :: r) e h x L = optK (aop (.mrange q0) (Opd.ev gl e) h) (contR C gl r d e x L):=AReg_op rfl
theorem AReg_mentry {d : Option Nat} {r : List AOp} {q0 : Opd} : AReg C gl (⟨d,none,(.mentry q0)⟩ :: r) e h x L = optK (aop (.mentry q0) (Opd.ev gl e) h) (contR C gl r d e x L):=AReg_op rfl
theorem AReg_new0 {d : Option Nat} {r : List AOp} {q0 : Sh} : AReg C gl (⟨d,none,(.new0 q0)⟩ :: r) e h x L = optK (aop (.new0 q0) (Opd.ev gl e) h) (contR C gl r d e x L):=AReg_op rfl
theorem AReg_call {d : Option Nat} {f : Nat} {args : List Opd} {r : List AOp} : AReg C gl (⟨d,none,.call f args⟩ :: r) e h x L = C f (args.map (Opd.ev gl e)) h (contR C gl r d e x L):=(rfl)
theorem AReg_true {d : Option Nat} {g : Option (Nat × Bool)} {op : AO} {r : List AOp} (hw : wanted g e = some true) : AReg C gl (⟨d,g,op⟩ :: r) e h x L = AReg C gl (⟨d,none,op⟩ :: r) e h x L:=by
  rw [AReg,AReg]
  have h2 : wanted none e = some true:=(rfl)
  simp only [hw,h2]
theorem AReg_false {d : Option Nat} {g : Option (Nat × Bool)} {op : AO} {r : List AOp} (hw : wanted g e = some false) : AReg C gl (⟨d,g,op⟩ :: r) e h x L = AReg C gl r (put d .skp e) h x L:=by
  rw [AReg]
  simp only [hw]
theorem AReg_stuck {d : Option Nat} {g : Option (Nat × Bool)} {op : AO} {r : List AOp} (hw : wanted g e = none) : AReg C gl (⟨d,g,op⟩ :: r) e h x L = False:=by
  rw [AReg]
  simp only [hw]
theorem AReg_guard {d : Option Nat} {t : Nat} {b : Bool} {op : AO} {r : List AOp} : AReg C gl (⟨d,some (t,b),op⟩ :: r) e h x L = wantK (aget e t) b (AReg C gl (⟨d,none,op⟩ :: r) e h x L) (AReg C gl r (put d .skp e) h x L):=by
  have key : ∀ v,aget e t = v → AReg C gl (⟨d,some (t,b),op⟩ :: r) e h x L = wantK v b (AReg C gl (⟨d,none,op⟩ :: r) e h x L) (AReg C gl r (put d .skp e) h x L):=by
    intro v hv
    unfold wantK
    split
    · rename_i c
      split
      · rename_i hcb; exact AReg_true (by simp [wanted,hv,hcb])
      · rename_i hcb; exact AReg_false (by simp [wanted,hv,hcb])
    · exact AReg_false (by simp [wanted,hv])
    · rename_i h1 h2
      refine AReg_stuck ?_
      simp only [wanted,hv]
  exact key _ rfl
theorem optK_some {v : AV} {h : Heap} {x : Esc} {f : AV → Heap → Esc → Prop} : optK (some (v,h,x)) f = f v h x:=(rfl)
theorem optK_none {f : AV → Heap → Esc → Prop} : optK none f = False:=(rfl)
theorem optK_ite {p : Prop} [Decidable p] {a b : Option (AV × Heap × Esc)} {f : AV → Heap → Esc → Prop} : optK (if p then a else b) f = if p then optK a f else optK b f:=by split <;> rfl
theorem optK_map_ite {α : Type} {p : Prop} [Decidable p] {a b : Option α} {g : α → AV × Heap × Esc} {f : AV → Heap → Esc → Prop} : optK (Option.map g (if p then a else b)) f = if p then optK (a.map g) f else optK (b.map g) f:=by split <;> rfl
theorem condB_bool {t : Bool} {A B : Prop} : condB (.p (.bool t)) A B = if t = true then A else B:=by cases t <;> simp [condB]
theorem condB_true {A B : Prop} : condB (.p (.bool true)) A B = A:=(rfl)
theorem condB_false {A B : Prop} : condB (.p (.bool false)) A B = B:=(rfl)
theorem wantK_skp {b : Bool} {A B : Prop} : wantK .skp b A B = B:=(rfl)
theorem wantK_true {t : Bool} {A B : Prop} : wantK (.p (.bool t)) true A B = if t = true then A else B:=by cases t <;> simp [wantK]
theorem wantK_false {t : Bool} {A B : Prop} : wantK (.p (.bool t)) false A B = if t = true then B else A:=by cases t <;> simp [wantK]
theorem condB_congr {v v' : AV} {A B : Prop} (hv : v = v') : condB v A B = condB v' A B:=by rw [hv]
theorem wantK_congr {v v' : AV} {b : Bool} {A B : Prop} (hv : v = v') : wantK v b A B = wantK v' b A B:=by rw [hv]
theorem optK_congr {o o' : Option (AV × Heap × Esc)} {f : AV → Heap → Esc → Prop} (ho : o = o') : optK o f = optK o' f:=by rw [ho]
theorem AReg_congr {ops : List AOp} {e e' : List (Nat × AV)} {h h' : Heap} {x x' : Esc} (he : e = e') (hh : h = h') (hx : x = x') : AReg C gl ops e h x L = AReg C gl ops e' h' x' L:=by rw [he,hh,hx]
theorem AW_congr {c : ACode} {s s' : St} (hs : s = s') : AW C gl c s K = AW C gl c s' K:=by rw [hs]
theorem regK_congr {keep : Option (List Nat)} {e e' : List (Nat × AV)} {h h' : Heap} {x x' : Esc} (he : e = e') (hh : h = h') (hx : x = x') : regK keep K e h x = regK keep K e' h' x':=by rw [he,hh,hx]
theorem seqK_congr {b : ACode} {ex ex' : Ex} {s s' : St} (he : ex = ex') (hs : s = s') : seqK C gl b K ex s = seqK C gl b K ex' s':=by rw [he,hs]
theorem blockK_congr {i : Nat} {ex ex' : Ex} {s s' : St} (he : ex = ex') (hs : s = s') : blockK i K ex s = blockK i K ex' s':=by rw [he,hs]
theorem scopeK_congr {n : Nat} {y : Esc} {ex ex' : Ex} {s s' : St} (he : ex = ex') (hs : s = s') : scopeK n y K ex s = scopeK n y K ex' s':=by rw [he,hs]
theorem Step_fn {X : Ctx} {f : Nat} {F : AFun} {a : List AV} {h : Heap} {P : Post} (hf : X.fn f = some F) (hd : F.isDet = false) : ACall X f a h P = abody (ACall X) X.gl F a h P:=by
  rw [propext ACall_iff]
  unfold Step
  rw [hf]
  simp only [fbody,hd]
theorem Step_det {X : Ctx} {f : Nat} {F : AFun} {a : List AV} {h : Heap} {P : Post} (hf : X.fn f = some F) (hd : F.isDet = true) : ACall X f a h P = ∃ v h' x,P v h' x ∧ abody (ACall X) X.gl F a h fun v1 h1 x1=>v1 = v ∧ h1 = h' ∧ x1 = x:=by
  rw [propext ACall_iff]
  unfold Step
  rw [hf]
  simp only [fbody,hd]
theorem ex3_congr {A B : AV → Heap → Esc → Prop} (h : ∀ v h' x,A v h' x = B v h' x) : (∃ v h' x,A v h' x) = ∃ v h' x,B v h' x:=by
  simp only [h]
theorem abody_val {F : AFun} {a asv : List AV} {h h1 : Heap} {P : Post} (hr : F.byref = false) (hp : puras h a = some (asv,h1)) (hl : asv.length = F.nparams) :
    abody C gl F a h P = AW C gl F.body ⟨enter asv,h1,[]⟩ (finK F h.length P):=by
  unfold abody
  rw [hr]
  simp only [Bool.false_eq_true,if_false,hp,hl,true_and]
  congr 1
theorem abody_ref {F : AFun} {asv : List AV} {h : Heap} {P : Post} (hr : F.byref = true) (hl : asv.length = F.nparams) :
    abody C gl F asv h P = AW C gl F.body ⟨enter asv,h,[]⟩ (finK F h.length P):=by
  unfold abody
  rw [hr]
  simp only [if_true,hl,true_and]
  congr 1
def doK (C : Hd) (gl : Nat → Option PV) (o : AOp) (e : List (Nat × AV)) (h : Heap) (R : AV → Heap → Esc → Prop) : Prop:=∃ v h' y,ADo C gl o e h v h' y ∧ R v h' y
def callE (C : Hd) (f : Nat) (a : List AV) (h : Heap) (R : AV → Heap → Esc → Prop) : Prop:=∃ v h' y,C f a h (fun v1 h1 x1=>v1 = v ∧ h1 = h' ∧ x1 = y) ∧ R v h' y
def drawK (C : Hd) (gl : Nat → Option PV) (o : DOp) (r : List DOp) (dn : Done) (hs : List Heap) (e : List (Nat × AV)) (h : Heap) (x : Esc) (L : List (Nat × AV) → Heap → Esc → Prop) (v : AV) (h' : Heap) (y : Esc) : Prop:=
  (o.eff = false → h' = h ∧ y = []) ∧ (∀ k ∈ o.early,∃ g,hs[k]? = some g ∧ ADo C gl o.op (prune (some o.rd) e) g v g []) ∧
    (∀ j ∈ o.again,∃ q,dn[j]? = some q ∧ ADo C gl q.1 q.2.1 h' q.2.2 h' []) ∧ ADraw C gl r (dn ++ [(o.op,prune (some o.rd) e,v)]) (hs ++ [h]) (put o.op.dst v e) h' (y ++ x) L
theorem AW_draw {ds : List DOp} {keep : Option (List Nat)} : AW C gl (.draw ds keep) ⟨e,h,x⟩ K = ADraw C gl ds [] [] e h x (regK keep K):=(rfl)
theorem ADraw_nil {dn : Done} {hs : List Heap} : ADraw C gl [] dn hs e h x L = L e h x:=(rfl)
theorem ADraw_cons {o : DOp} {r : List DOp} {dn : Done} {hs : List Heap} : ADraw C gl (o :: r) dn hs e h x L = doK C gl o.op (prune (some o.rd) e) h (drawK C gl o r dn hs e h x L):=(rfl)
variable {R : AV → Heap → Esc → Prop}
theorem ex3 {v0 : AV} {h0 : Heap} {y0 : Esc} : (∃ v h y,(v = v0 ∧ h = h0 ∧ y = y0) ∧ R v h y) = R v0 h0 y0:=
  propext ⟨fun ⟨_,_,_,⟨h1,h2,h3⟩,r⟩=>by subst h1; subst h2; subst h3; exact r,fun r=>⟨_,_,_,⟨rfl,rfl,rfl⟩,r⟩⟩
theorem ex3' {v0 : AV} {h0 : Heap} {y0 : Esc} : (∃ v h y,(v0 = v ∧ h0 = h ∧ y0 = y) ∧ R v h y) = R v0 h0 y0:=
  propext ⟨fun ⟨_,_,_,⟨h1,h2,h3⟩,r⟩=>by subst h1; subst h2; subst h3; exact r,fun r=>⟨_,_,_,⟨rfl,rfl,rfl⟩,r⟩⟩
theorem doK_op {d : Option Nat} {op : AO} (hp : op.plain = true) : doK C gl ⟨d,none,op⟩ e h R = optK (aop op (Opd.ev gl e) h) R:=by
  have key : ∀ o : Option (AV × Heap × Esc),(∃ v h' y,o = some (v,h',y) ∧ R v h' y) = optK o R:=by
    intro o
    cases o with
    | none=>simp [optK]
    | some z=>obtain ⟨v,h',y⟩:=z; simp only [Option.some.injEq,Prod.mk.injEq,ex3']; rfl
  rw [← key]
  unfold doK ADo
  cases op <;> first | (cases hp; done) | rfl
theorem doK_call {d : Option Nat} {f : Nat} {args : List Opd} : doK C gl ⟨d,none,.call f args⟩ e h R = callE C f (args.map (Opd.ev gl e)) h R:=(rfl)
theorem doK_guard {d : Option Nat} {t : Nat} {b : Bool} {op : AO} : doK C gl ⟨d,some (t,b),op⟩ e h R = wantK (aget e t) b (doK C gl ⟨d,none,op⟩ e h R) (R .skp h []):=by
  have h2 : wanted none e = some true:=(rfl)
  have key : ∀ v,aget e t = v → doK C gl ⟨d,some (t,b),op⟩ e h R = wantK v b (doK C gl ⟨d,none,op⟩ e h R) (R .skp h []):=by
    intro v hv
    unfold wantK
    split
    · rename_i c
      split
      · rename_i hcb
        have hw : wanted (some (t,b)) e = some true:=by simp [wanted,hv,hcb]
        unfold doK ADo
        simp only [hw,h2]
      · rename_i hcb
        have hw : wanted (some (t,b)) e = some false:=by simp [wanted,hv,hcb]
        unfold doK ADo
        simp only [hw,ex3]
    · have hw : wanted (some (t, b)) e = some false := by simp [wanted, hv]
      unfold doK ADo
      simp only [hw,ex3]
    · rename_i h3 h4
      have hw : wanted (some (t,b)) e = none:=by
        simp only [wanted,hv]
      unfold doK ADo
      simp only [hw]
      simp
  exact key _ rfl
theorem doK_mv {d : Option Nat} {q0 : Opd} : doK C gl ⟨d,none,(.mv q0)⟩ e h R = optK (aop (.mv q0) (Opd.ev gl e) h) R:=doK_op rfl
theorem doK_pick {d : Option Nat} {q0 q1 q2 : Opd} : doK C gl ⟨d,none,(.pick q0 q1 q2)⟩ e h R = optK (aop (.pick q0 q1 q2) (Opd.ev gl e) h) R:=doK_op rfl
theorem doK_alloc {d : Option Nat} {q0 : List AV} : doK C gl ⟨d,none,(.alloc q0)⟩ e h R = optK (aop (.alloc q0) (Opd.ev gl e) h) R:=doK_op rfl
theorem doK_box {d : Option Nat} {q0 : Opd} : doK C gl ⟨d,none,(.box q0)⟩ e h R = optK (aop (.box q0) (Opd.ev gl e) h) R:=doK_op rfl
theorem doK_build {d : Option Nat} {q0 : List AV} {q1 : List (Nat × Nat × Opd)} : doK C gl ⟨d,none,(.build q0 q1)⟩ e h R = optK (aop (.build q0 q1) (Opd.ev gl e) h) R:=doK_op rfl
theorem doK_bsl {d : Option Nat} {q0 : Bool} {q1 : Sh} {q2 : Nat} {q3 : PV} {q4 : List (Nat × Opd)} : doK C gl ⟨d,none,(.bsl q0 q1 q2 q3 q4)⟩ e h R = optK (aop (.bsl q0 q1 q2 q3 q4) (Opd.ev gl e) h) R:=doK_op rfl
theorem doK_load {d : Option Nat} {q0 : Sh} {q1 : Opd} : doK C gl ⟨d,none,(.load q0 q1)⟩ e h R = optK (aop (.load q0 q1) (Opd.ev gl e) h) R:=doK_op rfl
theorem doK_store {d : Option Nat} {q0 : Sh} {q1 q2 : Opd} : doK C gl ⟨d,none,(.store q0 q1 q2)⟩ e h R = optK (aop (.store q0 q1 q2) (Opd.ev gl e) h) R:=doK_op rfl
theorem doK_nilchk {d : Option Nat} {q0 : Opd} : doK C gl ⟨d,none,(.nilchk q0)⟩ e h R = optK (aop (.nilchk q0) (Opd.ev gl e) h) R:=doK_op rfl
theorem doK_bin {d : Option Nat} {q0 : BinOp} {q1 q2 : Opd} : doK C gl ⟨d,none,(.bin q0 q1 q2)⟩ e h R = optK (aop (.bin q0 q1 q2) (Opd.ev gl e) h) R:=doK_op rfl
theorem doK_eqa {d : Option Nat} {q0 : List Nat} {q1 : Bool} {q2 q3 : Opd} : doK C gl ⟨d,none,(.eqa q0 q1 q2 q3)⟩ e h R = optK (aop (.eqa q0 q1 q2 q3) (Opd.ev gl e) h) R:=doK_op rfl
theorem doK_isnil {d : Option Nat} {q0 : Nat} {q1 : Bool} {q2 : Opd} : doK C gl ⟨d,none,(.isnil q0 q1 q2)⟩ e h R = optK (aop (.isnil q0 q1 q2) (Opd.ev gl e) h) R:=doK_op rfl
theorem doK_mkif {d : Option Nat} {q0 : Opd} : doK C gl ⟨d,none,(.mkif q0)⟩ e h R = optK (aop (.mkif q0) (Opd.ev gl e) h) R:=doK_op rfl
theorem doK_un {d : Option Nat} {q0 : UnOp} {q1 : Opd} : doK C gl ⟨d,none,(.un q0 q1)⟩ e h R = optK (aop (.un q0 q1) (Opd.ev gl e) h) R:=doK_op rfl
theorem doK_conv {d : Option Nat} {q0 : Cv} {q1 : Opd} : doK C gl ⟨d,none,(.conv q0 q1)⟩ e h R = optK (aop (.conv q0 q1) (Opd.ev gl e) h) R:=doK_op rfl
theorem doK_mkfn {d : Option Nat} {q0 : Nat} {q1 : List Opd} : doK C gl ⟨d,none,(.mkfn q0 q1)⟩ e h R = optK (aop (.mkfn q0 q1) (Opd.ev gl e) h) R:=doK_op rfl
theorem doK_mkmap {d : Option Nat}  : doK C gl ⟨d,none,.mkmap⟩ e h R = optK (aop .mkmap (Opd.ev gl e) h) R:=doK_op rfl
theorem doK_mksl {d : Option Nat} {q0 : Sh} {q1 : PV} {q2 q3 : Opd} : doK C gl ⟨d,none,(.mksl q0 q1 q2 q3)⟩ e h R = optK (aop (.mksl q0 q1 q2 q3) (Opd.ev gl e) h) R:=doK_op rfl
theorem doK_slice {d : Option Nat} {q0 : Sh} {q1 : Opd} {q2 q3 q4 : Option Opd} : doK C gl ⟨d,none,(.slice q0 q1 q2 q3 q4)⟩ e h R = optK (aop (.slice q0 q1 q2 q3 q4) (Opd.ev gl e) h) R:=doK_op rfl
theorem doK_slstr {d : Option Nat} {q0 : Opd} {q1 q2 : Option Opd} : doK C gl ⟨d,none,(.slstr q0 q1 q2)⟩ e h R = optK (aop (.slstr q0 q1 q2) (Opd.ev gl e) h) R:=doK_op rfl
theorem doK_faddr {d : Option Nat} {q0 : Nat} {q1 : Sh} {q2 : Opd} : doK C gl ⟨d,none,(.faddr q0 q1 q2)⟩ e h R = optK (aop (.faddr q0 q1 q2) (Opd.ev gl e) h) R:=doK_op rfl
theorem doK_field {d : Option Nat} {q0 : Nat} {q1 : Sh} {q2 : Opd} : doK C gl ⟨d,none,(.field q0 q1 q2)⟩ e h R = optK (aop (.field q0 q1 q2) (Opd.ev gl e) h) R:=doK_op rfl
theorem doK_iaddr {d : Option Nat} {q0 : Sh} {q1 q2 : Opd} : doK C gl ⟨d,none,(.iaddr q0 q1 q2)⟩ e h R = optK (aop (.iaddr q0 q1 q2) (Opd.ev gl e) h) R:=doK_op rfl
theorem doK_iaddra {d : Option Nat} {q0 : Nat} {q1 : Sh} {q2 q3 : Opd} : doK C gl ⟨d,none,(.iaddra q0 q1 q2 q3)⟩ e h R = optK (aop (.iaddra q0 q1 q2 q3) (Opd.ev gl e) h) R:=doK_op rfl
theorem doK_idxa {d : Option Nat} {q0 : Nat} {q1 : Sh} {q2 q3 : Opd} : doK C gl ⟨d,none,(.idxa q0 q1 q2 q3)⟩ e h R = optK (aop (.idxa q0 q1 q2 q3) (Opd.ev gl e) h) R:=doK_op rfl
theorem doK_idxs {d : Option Nat} {q0 q1 : Opd} : doK C gl ⟨d,none,(.idxs q0 q1)⟩ e h R = optK (aop (.idxs q0 q1) (Opd.ev gl e) h) R:=doK_op rfl
theorem doK_look {d : Option Nat} {kk : Sh × List Nat} {q0 : Bool} {q1 : AV} {q2 q3 : Opd} : doK C gl ⟨d,none,(.look kk q0 q1 q2 q3)⟩ e h R = optK (aop (.look kk q0 q1 q2 q3) (Opd.ev gl e) h) R:=doK_op rfl
theorem doK_mupd {d : Option Nat} {kk : Sh × List Nat} {q0 q1 q2 : Opd} : doK C gl ⟨d,none,(.mupd kk q0 q1 q2)⟩ e h R = optK (aop (.mupd kk q0 q1 q2) (Opd.ev gl e) h) R:=doK_op rfl
theorem doK_ment {d : Option Nat} {kk : Sh × List Nat} {q0 : AV} {q1 q2 : Opd} : doK C gl ⟨d,none,(.ment kk q0 q1 q2)⟩ e h R = optK (aop (.ment kk q0 q1 q2) (Opd.ev gl e) h) R:=doK_op rfl
theorem doK_estore {d : Option Nat} {q0 q1 q2 : Opd} : doK C gl ⟨d,none,(.estore q0 q1 q2)⟩ e h R = optK (aop (.estore q0 q1 q2) (Opd.ev gl e) h) R:=doK_op rfl
theorem doK_mdel {d : Option Nat} {kk : Sh × List Nat} {q0 q1 : Opd} : doK C gl ⟨d,none,(.mdel kk q0 q1)⟩ e h R = optK (aop (.mdel kk q0 q1) (Opd.ev gl e) h) R:=doK_op rfl
theorem doK_ext {d : Option Nat} {q0 : Opd} {q1 : Nat} : doK C gl ⟨d,none,(.ext q0 q1)⟩ e h R = optK (aop (.ext q0 q1) (Opd.ev gl e) h) R:=doK_op rfl
theorem doK_len {d : Option Nat} {q0 : Opd} : doK C gl ⟨d,none,(.len q0)⟩ e h R = optK (aop (.len q0) (Opd.ev gl e) h) R:=doK_op rfl
theorem doK_lens {d : Option Nat} {q0 : Opd} : doK C gl ⟨d,none,(.lens q0)⟩ e h R = optK (aop (.lens q0) (Opd.ev gl e) h) R:=doK_op rfl
theorem doK_lenm {d : Option Nat} {q0 : Opd} : doK C gl ⟨d,none,(.lenm q0)⟩ e h R = optK (aop (.lenm q0) (Opd.ev gl e) h) R:=doK_op rfl
theorem doK_app {d : Option Nat} {q0 : Sh} {q1 q2 : Opd} : doK C gl ⟨d,none,(.app q0 q1 q2)⟩ e h R = optK (aop (.app q0 q1 q2) (Opd.ev gl e) h) R:=doK_op rfl
theorem doK_copy {d : Option Nat} {q0 : Sh} {q1 q2 : Opd} : doK C gl ⟨d,none,(.copy q0 q1 q2)⟩ e h R = optK (aop (.copy q0 q1 q2) (Opd.ev gl e) h) R:=doK_op rfl
theorem doK_mx {d : Option Nat} {q0 : List Opd} : doK C gl ⟨d,none,(.mx q0)⟩ e h R = optK (aop (.mx q0) (Opd.ev gl e) h) R:=doK_op rfl
theorem doK_mn {d : Option Nat} {q0 : List Opd} : doK C gl ⟨d,none,(.mn q0)⟩ e h R = optK (aop (.mn q0) (Opd.ev gl e) h) R:=doK_op rfl
theorem doK_mrange {d : Option Nat} {q0 : Opd} : doK C gl ⟨d,none,(.mrange q0)⟩ e h R = optK (aop (.mrange q0) (Opd.ev gl e) h) R:=doK_op rfl
theorem doK_mentry {d : Option Nat} {q0 : Opd} : doK C gl ⟨d,none,(.mentry q0)⟩ e h R = optK (aop (.mentry q0) (Opd.ev gl e) h) R:=doK_op rfl
theorem doK_new0 {d : Option Nat} {q0 : Sh} : doK C gl ⟨d,none,(.new0 q0)⟩ e h R = optK (aop (.new0 q0) (Opd.ev gl e) h) R:=doK_op rfl
theorem doK_congr {o : AOp} {e e' : List (Nat × AV)} {h h' : Heap} (he : e = e') (hh : h = h') : doK C gl o e h R = doK C gl o e' h' R:=by rw [he,hh]
theorem callE_congr {f : Nat} {a a' : List AV} {h h' : Heap} (ha : a = a') (hh : h = h') : callE C f a h R = callE C f a' h' R:=by rw [ha,hh]
theorem ACall_congr {X : Ctx} {f : Nat} {a a' : List AV} {h h' : Heap} {K : Post} (ha : a = a') (hh : h = h') : ACall X f a h K = ACall X f a' h' K:=by rw [ha,hh]
theorem ADraw_congr {ds : List DOp} {dn dn' : Done} {hs hs' : List Heap} {e e' : List (Nat × AV)} {h h' : Heap} {x x' : Esc} (hd : dn = dn') (hh : hs = hs') (he : e = e') (hhh : h = h') (hx : x = x') : ADraw C gl ds dn hs e h x L = ADraw C gl ds dn' hs' e' h' x' L:=by rw [hd,hh,he,hhh,hx]
theorem drawK_eq {o : DOp} {r : List DOp} {dn : Done} {hs : List Heap} {v : AV} {h' : Heap} {y : Esc} : drawK C gl o r dn hs e h x L v h' y = ((o.eff = false → h' = h ∧ y = []) ∧ (∀ k ∈ o.early,∃ g,hs[k]? = some g ∧ ADo C gl o.op (prune (some o.rd) e) g v g []) ∧
    (∀ j ∈ o.again,∃ q,dn[j]? = some q ∧ ADo C gl q.1 q.2.1 h' q.2.2 h' []) ∧ ADraw C gl r (dn ++ [(o.op,prune (some o.rd) e,v)]) (hs ++ [h]) (put o.op.dst v e) h' (y ++ x) L):=(rfl)
end Go.Am
end
section
/- The abstract machine,part 25: from a call that ends well here tov the model's call on a whole world. -/
set_option linter.unusedSimpArgs false
set_option linter.unusedVariables false
namespace Go.Am
variable {P : Program}
theorem heapRel0 (W : World) : HeapRel [] [] W:=⟨rfl,fun id o m h=>by simp at h,fun i j b n n' h=>by simp at h,fun i b n h=>by simp at h⟩
theorem imm0_blk {W : World} {b : Nat} {o : Go.Obj} (hb : W.heap[b]? = some o) : (imm [] [] W).b b = some o:=imm_blk.2 ⟨fun ⟨id,n,h⟩=>by simp at h,hb⟩
theorem imm0_cell {W : World} {b o : Nat} {v : Value} (hb : W.cell? ⟨b,o,none⟩ = some v) : (imm [] [] W).c b o = some v:=imm_some.2 ⟨fun ⟨id,n,h,_⟩=>by simp at h,hb⟩
theorem below_of {W W' : World} {h : Heap} {μ : Mu} (E : (imm [] [] W).le (imm h μ W')) : RowKit.Below W.heap.size W W':=by
  have hz : zed W' = zed W:=Option.some.inj E.z
  have hb : ∀ b,b < W.heap.size → W'.heap[b]? = W.heap[b]?:=fun b hb=>by
    have h1:=Array.getElem?_eq_getElem hb
    rw [h1]
    exact (imm_blk.1 (E.b b _ (imm0_blk h1))).2
  refine ⟨(congrArg World.os hz : (zed W').os = (zed W).os),(congrArg World.tape hz : (zed W').tape = (zed W).tape),(congrArg World.output hz : (zed W').output = (zed W).output),?_,hb⟩
  rcases Nat.eq_zero_or_pos W.heap.size with h0 | h0
  · omega
  · have h1 := hb (W.heap.size - 1) (by omega)
    rw [Array.getElem?_eq_getElem (show W.heap.size - 1 < W.heap.size by omega)] at h1
    have:=(Array.getElem?_eq_some_iff.1 h1).1
    omega
theorem call_enters {X : Ctx} (HX : Fits P X) {f : Nat} {F : AFun} (hF : X.fn f = some F) (args : Array Value) (w : World) : (callFunc f args).run P w = .ok (.enter f args) w:=by
  have hck:=HX.fn f F hF
  unfold chkFun at hck
  split at hck
  · rename_i fn hfn
    split at hck
    · rename_i c hb
      simp only [Bool.and_eq_true,bne_iff_ne,ne_eq] at hck
      exact enters hfn hb hck.2 _ w
    · cases hck
  · cases hck
theorem calls_of {X : Ctx} (HX : Fits P X) {f : Nat} {F : AFun} (hF : X.fn f = some F) {asv : List AV} {K : Post} (H : ACall X f asv [] K) {W : World} {vs : List Value} (hG : GInv X.gl (imm [] [] W)) (hl : asv.length = vs.length)
    (hr : ∀ (j : Nat) (y : AV) (v : Value),asv[j]? = some y → vs[j]? = some v → RAV (imm [] [] W) [] [] y v) :
    Calls P f vs.toArray W fun
      | .returned r,W'=>(∃ v h x μ,K v h x ∧ RAV (imm h μ W') h μ v r) ∧ RowKit.Below W.heap.size W W'
      | _,_=>False:=by
  rcases call_sound HX H [] W vs (heapRel0 W) hG hl hr with ⟨_,q⟩ | ⟨r,w',_,_,_,_,q,_⟩
  case inr=>rw [call_enters HX hF] at q; cases q
  refine q.mono fun e W' he=>?_
  cases e with
  | returned r=>
    obtain ⟨v,h',x,μ',k1,k2,k3,k4,k5⟩:=he
    exact ⟨⟨v,h',x,μ',k1,k2⟩,below_of k4.le⟩
  | panicked _=>exact he
  | outgrown=>exact he
def pints (zs : List Int) : AV:=.p (.sl none (zs.map fun n=>.int .i64 n))
theorem came_nil (W : World) : RAV (imm [] [] W) [] [] (pints []) (.slice none 0 0):=.p _ _ (.nils _ _ _)
theorem came_ints {W : World} {a : Addr} {len cap : Nat} {zs : List Int} (hs : a.spot = none) (hl : len ≤ cap) (hz : len ≤ zs.length) (hc : ∀ i,i < zs.length → W.cell? (a.add i) = some (.int .i64 (zs.getD i 0))) :
    RAV (imm [] [] W) [] [] (pints (zs.take len)) (.slice (some a) len cap):=by
  obtain ⟨b,o,s⟩:=a
  simp only at hs
  subst hs
  refine .p _ _ ?_
  have hlen : ((zs.take len).map fun n=>PV.int .i64 n).length = len:=by simp [hz]
  have hfl : ((zs.take len).map fun n=>PV.int .i64 n).flatMap PV.cells = (zs.take len).map fun n=>PV.int .i64 n:=by
    generalize zs.take len = l
    induction l with
    | nil=>rfl
    | cons n r ih=>simp only [List.map_cons,List.flatMap_cons,ih]; rfl
  by_cases h0 : len = 0
  · subst h0
    simp
    exact .nils _ _ _
  · have key:=RPV.sl (M:=imm [] [] W) none ((zs.take len).map fun n=>PV.int .i64 n) b o cap (fun j=>.int .i64 (zs.getD j 0)) (fun hh=>by rw [hh] at hlen; simp at hlen; omega) (by rw [hlen]; exact hl)
      (fun x hx=>by obtain ⟨n,_,rfl⟩:=List.mem_map.1 hx; rfl)
      (fun j y hy=>by
        rw [hfl] at hy
        have hj : j < len:=by have:=lt_of_get hy; rw [hlen] at this; exact this
        have:=hc j (by omega)
        rw [add_at] at this
        exact imm0_cell this)
      (fun j y hy=>by
        rw [hfl] at hy
        have hj : j < len:=by have:=lt_of_get hy; rw [hlen] at this; exact this
        have hjz : j < zs.length:=by omega
        simp [List.getElem?_take,hj,hjz] at hy
        subst hy
        have : zs.getD j 0 = zs[j]:=by simp [List.getD,hjz]
        rw [this]
        exact .int _ _)
    rwa [hlen] at key
end Go.Am
end
section
/- The abstract machine,part 26: closed calls are computed. -/
set_option linter.unusedSimpArgs false
set_option linter.unusedVariables false
namespace Go.Am
mutual
def PV.same : PV → PV → Bool
  | .int k a,.int k' b=>decide (k = k') && decide (a = b)
  | .bool a,.bool b=>decide (a = b)
  | .str a,.str b=>decide (a = b)
  | .sl s xs,.sl t ys=>decide (s = t) && PV.sames xs ys
  | .agg xs,.agg ys=>PV.sames xs ys
  | .nilp,.nilp=>true
  | _,_=>false
def PV.sames : List PV → List PV → Bool
  | [],[]=>true
  | a :: asv,b :: bs=>PV.same a b && PV.sames asv bs
  | _,_=>false
end
mutual
theorem PV.same_eq : ∀ (a b : PV),PV.same a b = true → a = b
  | .int k a,b,h=>by
    cases b <;> simp [PV.same] at h
    obtain ⟨h1,h2⟩:=h; subst h1; subst h2; rfl
  | .bool a,b,h=>by cases b <;> simp [PV.same] at h; subst h; rfl
  | .str a,b,h=>by cases b <;> simp [PV.same] at h; subst h; rfl
  | .sl s xs,b,h=>by
    cases b <;> simp [PV.same] at h
    obtain ⟨h1,h2⟩:=h; subst h1; rw [PV.sames_eq _ _ h2]
  | .agg xs,b,h=>by
    cases b <;> simp [PV.same] at h
    rw [PV.sames_eq _ _ h]
  | .nilp,b,h=>by cases b <;> simp [PV.same] at h; rfl
theorem PV.sames_eq : ∀ (a b : List PV),PV.sames a b = true → a = b
  | [],b,h=>by cases b <;> simp [PV.sames] at h; rfl
  | x :: xs,b,h=>by
    cases b <;> simp [PV.sames] at h
    rw [PV.same_eq _ _ h.1,PV.sames_eq _ _ h.2]
end
mutual
def AV.same : AV → AV → Bool
  | .p a,.p b=>PV.same a b
  | .own a b c d,.own a' b' c' d'=>decide (a = a') && decide (b = b') && decide (c = c') && decide (d = d')
  | .sl0 a,.sl0 b=>decide (a = b)
  | .ref a b,.ref a' b'=>decide (a = a') && decide (b = b')
  | .rref a b c d,.rref a' b' c' d'=>decide (a = a') && decide (b = b') && decide (c = c') && decide (d = d')
  | .vp a,.vp b=>PV.same a b
  | .nilp,.nilp=>true
  | .nilm,.nilm=>true
  | .nilf,.nilf=>true
  | .nili,.nili=>true
  | .ifc,.ifc=>true
  | .mp a,.mp b=>decide (a = b)
  | .it a,.it b=>decide (a = b)
  | .fn a b,.fn a' b'=>decide (a = a') && AV.sames b b'
  | .agg a,.agg b=>AV.sames a b
  | .tup a,.tup b=>AV.sames a b
  | .anyb,.anyb=>true
  | .skp,.skp=>true
  | .und,.und=>true
  | .anyp,.anyp=>true
  | .bt a b c d,.bt a' b' c' d'=>decide (a = a') && decide (b = b') && decide (c = c') && decide (d = d')
  | _,_=>false
def AV.sames : List AV → List AV → Bool
  | [],[]=>true
  | a :: asv,b :: bs=>AV.same a b && AV.sames asv bs
  | _,_=>false
end
mutual
theorem AV.same_eq : ∀ (a b : AV),AV.same a b = true → a = b
  | .p a,b,h=>by cases b <;> simp [AV.same] at h; rw [PV.same_eq _ _ h]
  | .own _ _ _ _,b,h=>by cases b <;> simp [AV.same] at h; simp [h]
  | .sl0 _,b,h=>by cases b <;> simp [AV.same] at h; simp [h]
  | .ref _ _,b,h=>by cases b <;> simp [AV.same] at h; simp [h]
  | .rref _ _ _ _,b,h=>by cases b <;> simp [AV.same] at h; simp [h]
  | .vp a,b,h=>by cases b <;> simp [AV.same] at h; rw [PV.same_eq _ _ h]
  | .nilp,b,h=>by cases b <;> simp [AV.same] at h; rfl
  | .nilm,b,h=>by cases b <;> simp [AV.same] at h; rfl
  | .nilf,b,h=>by cases b <;> simp [AV.same] at h; rfl
  | .nili,b,h=>by cases b <;> simp [AV.same] at h; rfl
  | .ifc,b,h=>by cases b <;> simp [AV.same] at h; rfl
  | .mp _,b,h=>by cases b <;> simp [AV.same] at h; simp [h]
  | .it _,b,h=>by cases b <;> simp [AV.same] at h; simp [h]
  | .fn _ cs,b,h=>by cases b <;> simp [AV.same] at h; rw [h.1,AV.sames_eq _ _ h.2]
  | .agg cs,b,h=>by cases b <;> simp [AV.same] at h; rw [AV.sames_eq _ _ h]
  | .tup cs,b,h=>by cases b <;> simp [AV.same] at h; rw [AV.sames_eq _ _ h]
  | .anyb,b,h=>by cases b <;> simp [AV.same] at h; rfl
  | .skp,b,h=>by cases b <;> simp [AV.same] at h; rfl
  | .und,b,h=>by cases b <;> simp [AV.same] at h; rfl
  | .anyp,b,h=>by cases b <;> simp [AV.same] at h; rfl
  | .bt _ _ _ _,b,h=>by cases b <;> simp [AV.same] at h; simp [h]
theorem AV.sames_eq : ∀ (a b : List AV),AV.sames a b = true → a = b
  | [],b,h=>by cases b <;> simp [AV.sames] at h; rfl
  | x :: xs,b,h=>by
    cases b <;> simp [AV.sames] at h
    rw [AV.same_eq _ _ h.1,AV.sames_eq _ _ h.2]
end
def AO.still : AO → Bool
  | .mv _ | .pick _ _ _ | .build _ _ | .load _ _ | .nilchk _ | .bin _ _ _ | .eqa _ _ _ _ | .isnil _ _ _ | .mkif _ | .un _ _ | .mkfn _ _ | .slice _ _ _ _ _ | .slstr _ _ _ | .faddr _ _ _ | .field _ _ _ | .iaddr _ _ _
  | .iaddra _ _ _ _ | .idxa _ _ _ _ | .idxs _ _ | .look _ _ _ _ _ | .ext _ _ | .len _ | .lens _ | .lenm _ | .mx _ | .mn _=>true
  | _=>false
def AO.still2 : AO → Bool
  | .conv (.i _) _=>true
  | o=>o.still
def ME.same (a b : ME) : Bool:=PV.same a.key b.key && AV.same a.val b.val && decide (a.born = b.born)
def MEs.same : List ME → List ME → Bool
  | [],[]=>true
  | a :: asv,b :: bs=>ME.same a b && MEs.same asv bs
  | _,_=>false
def Obj.same : Obj → Obj → Bool
  | .box a,.box b=>AV.sames a b
  | .row a b c,.row a' b' c'=>decide (a = a') && PV.sames b b' && decide (c = c')
  | .amap a b,.amap a' b'=>MEs.same a a' && decide (b = b')
  | .iter a b c d,.iter a' b' c' d'=>decide (a = a') && decide (b = b') && decide (c = c') && decide (d = d')
  | _,_=>false
def Heap.same : List Obj → List Obj → Bool
  | [],[]=>true
  | a :: asv,b :: bs=>Obj.same a b && Heap.same asv bs
  | _,_=>false
variable {C : Hd} {gl : Nat → Option PV}
theorem aop_still {o : AO} (hs : o.still = true) {ev : Opd → AV} {h h' : Heap} {v : AV} {x : Esc} (H : aop o ev h = some (v,h',x)) : h' = h ∧ x = []:=by
  cases o <;> first | (cases hs; done) | skip
  all_goals
    unfold aop at H
    dsimp only at H
    repeat' split at H
    all_goals first
      | (cases H; done)
      | (simp only [Option.some.injEq,Prod.mk.injEq] at H; obtain ⟨_,rfl,rfl⟩:=H; exact ⟨rfl,rfl⟩)
      | (simp only [Option.map_eq_some_iff,Prod.mk.injEq] at H; obtain ⟨_,_,_,rfl,rfl⟩:=H; exact ⟨rfl,rfl⟩)
      | (have H2:=nilc (g:=[]) H; rename_i k neg p; cases hb : nilAny k (ev p) <;> rw [hb] at H <;> simp only [cond_true,cond_false,Option.map_eq_some_iff,Option.some.injEq,Prod.mk.injEq] at H <;> first | (obtain ⟨_,rfl,rfl⟩:=H; exact ⟨rfl,rfl⟩) | (obtain ⟨_,_,_,rfl,rfl⟩:=H; exact ⟨rfl,rfl⟩))
theorem aop_still2 {o : AO} (hs : o.still2 = true) {ev : Opd → AV} {h h' : Heap} {v : AV} {x : Esc} (H : aop o ev h = some (v,h',x)) : h' = h ∧ x = []:=by
  unfold AO.still2 at hs
  split at hs
  · simp only [aop, aconv] at H
    split at H
    · simp at H; exact ⟨H.2.1.symm,H.2.2⟩
    · simp at H
  · exact aop_still hs H
theorem ADo_still2 {o : AOp} (hs : o.op.still2 = true) {e : List (Nat × AV)} {h h' : Heap} {v : AV} {x : Esc} (H : ADo C gl o e h v h' x) : h' = h ∧ x = []:=by
  unfold ADo at H
  split at H
  · obtain ⟨dst, guard, op⟩ := o
    cases op <;> first | (cases hs; done) | exact aop_still2 hs H
  · exact H.2
  · exact H.elim
theorem still2_of {o : AO} (h : o.still = true) : o.still2 = true:=by
  cases o <;> first | exact h | (cases h; done)
theorem ADo_still {o : AOp} (hs : o.op.still = true) {e : List (Nat × AV)} {h h' : Heap} {v : AV} {x : Esc} (H : ADo C gl o e h v h' x) : h' = h ∧ x = []:=ADo_still2 (still2_of hs) H
end Go.Am
end
section
/- The abstract machine,part 27: loops,and the rules of computing asv one set. -/
set_option linter.unusedSimpArgs false
set_option linter.unusedVariables false
namespace Go.Am
variable {C : Hd} {gl : Nat → Option PV} {e : List (Nat × AV)} {h : Heap} {x : Esc} {K : Ex → St → Prop} {s : St}
def loopK {σ : Type} (S : σ → St) (P : σ → Prop) (m : σ → Nat) (K : Ex → St → Prop) (s : σ) (e : Ex) (s' : St) : Prop:=match e with
  | .normal=>∃ t,s' = S t ∧ P t ∧ m t < m s
  | .exit i=>K (.exit i) s'
  | .ret=>K .ret s'
theorem loopK_normal {σ : Type} {S : σ → St} {P : σ → Prop} {m : σ → Nat} {K : Ex → St → Prop} {t : σ} {s' : St} : loopK S P m K t .normal s' = ∃ u,s' = S u ∧ P u ∧ m u < m t:=(rfl)
theorem loopK_exit {σ : Type} {S : σ → St} {P : σ → Prop} {m : σ → Nat} {K : Ex → St → Prop} {t : σ} {s' : St} {i : Nat} : loopK S P m K t (.exit i) s' = K (.exit i) s':=(rfl)
theorem loopK_ret {σ : Type} {S : σ → St} {P : σ → Prop} {m : σ → Nat} {K : Ex → St → Prop} {t : σ} {s' : St} : loopK S P m K t .ret s' = K .ret s':=(rfl)
theorem loopK_congr {σ : Type} {S : σ → St} {P : σ → Prop} {m : σ → Nat} {K : Ex → St → Prop} {t : σ} {ex ex' : Ex} {s s' : St} (he : ex = ex') (hs : s = s') : loopK S P m K t ex s = loopK S P m K t ex' s':=by rw [he,hs]
theorem ALoop_same {T : St → (Ex → St → Prop) → Prop} {K : Ex → St → Prop} {s s' : St} (h : T s = T s') : ALoop T K s = ALoop T K s':=by
  refine propext ⟨fun H=>?_,fun H=>?_⟩
  · cases H with | mk _ R a b c d=>exact .mk _ R (h ▸ a) b c d
  · cases H with | mk _ R a b c d=>exact .mk _ R (h.symm ▸ a) b c d
theorem aget_prune_mem {l : List Nat} {e : List (Nat × AV)} {t : Nat} (ht : t ∈ l) : aget (prune (some l) e) t = aget e t:=by
  simp only [prune]
  induction l with
  | nil=>cases ht
  | cons k r ih=>
    simp only [List.map_cons,aget]
    split
    · rename_i hk; rw [hk]
    · rename_i hk
      rcases List.mem_cons.1 ht with h1 | h1
      · exact absurd h1.symm hk
      · exact ih h1
theorem prune_prune {l : List Nat} {e : List (Nat × AV)} : prune (some l) (prune (some l) e) = prune (some l) e:=by
  show l.map _ = l.map _
  exact List.map_congr_left fun t ht=>by rw [aget_prune_mem ht]
def LoopP (C : Hd) (gl : Nat → Option PV) (l : List Nat) (b : ACode) (K : Ex → St → Prop) (e : List (Nat × AV)) (h : Heap) (x : Esc) : Prop:=AW C gl (.loop (.pr l b)) ⟨e,h,x⟩ K
def LoopS (C : Hd) (gl : Nat → Option PV) (l : List Nat) (b : ACode) (K : Ex → St → Prop) (e : List (Nat × AV)) (h : Heap) (x : Esc) : Prop:=AW C gl (.loop (.scope (.pr l b))) ⟨e,h,x⟩ K
theorem LoopP_eq {l : List Nat} {b : ACode} : AW C gl (.loop (.pr l b)) ⟨e,h,x⟩ K = LoopP C gl l b K (prune (some l) e) h x:=by
  show ALoop _ _ _ = ALoop _ _ _
  exact ALoop_same (funext fun R=>by show AW C gl b _ R = AW C gl b _ R; dsimp only; rw [prune_prune])
theorem LoopS_eq {l : List Nat} {b : ACode} : AW C gl (.loop (.scope (.pr l b))) ⟨e,h,x⟩ K = LoopS C gl l b K (prune (some l) e) h x:=by
  show ALoop _ _ _ = ALoop _ _ _
  exact ALoop_same (funext fun R=>by show AW C gl b _ _ = AW C gl b _ _; dsimp only; rw [prune_prune])
theorem app_get {α : Type} (h l : List α) (n : Nat) : (h ++ l)[h.length + n]? = l[n]?:=by
  rw [List.getElem?_append_right (by omega)]; congr 1; omega
theorem app_get0 {α : Type} (h l : List α) : (h ++ l)[h.length]? = l[0]?:=by
  rw [List.getElem?_append_right (by omega)]; congr 1; omega
theorem app_set {α : Type} (h l : List α) (n : Nat) (o : α) : (h ++ l).set (h.length + n) o = h ++ l.set n o:=by
  rw [List.set_append_right _ _ (by omega)]; congr 2; omega
theorem app_set0 {α : Type} (h l : List α) (o : α) : (h ++ l).set h.length o = h ++ l.set 0 o:=by
  rw [List.set_append_right _ _ (by omega)]; congr 2; omega
theorem app_take {α : Type} (h l : List α) (n : Nat) : (h ++ l).take (h.length + n) = h ++ l.take n:=List.take_length_add_append ..
theorem app_take0 {α : Type} (h l : List α) : (h ++ l).take h.length = h:=List.take_left ..
theorem app_frz (h l : Heap) (n k : Nat) : frz (h ++ l) (h.length + n) k = h ++ frz l n k:=by
  unfold frz
  rw [app_get]
  cases l[n]? with
  | none=>rfl
  | some o=>cases o <;> first | rfl | simp only [app_set]
theorem app_frz0 (h l : Heap) (k : Nat) : frz (h ++ l) h.length k = h ++ frz l 0 k:=app_frz h l 0 k
theorem i64_wrap (n : Int) (h1 : -9223372036854775808 ≤ n) (h2 : n ≤ 9223372036854775807) : IntKind.i64.wrap n = n:=by
  simp [IntKind.wrap,IntKind.bits,IntKind.signed]; omega
def finR (rs : List ARes) (kp : Bool) (b : Nat) (P : Post) (e : Ex) (s : St) : Prop:=match e with
  | .exit _=>False
  | _=>match aresAll s rs with
    | some vs=>match kp with
      | true=>
        let n:=close s.esc.length s.esc (max b (oneOf vs).top)
        if closed s.esc n then P (oneOf vs) (s.h.take n) (s.esc.filter fun y=>decide (y.1 < n)) else P (oneOf vs) s.h s.esc
      | false=>match reif b s.h (oneOf vs) with
        | some v0=>
          let n:=close s.esc.length s.esc (max b v0.top)
          if closed s.esc n then match reif n s.h (oneOf vs) with
            | some v=>v.top ≤ n ∧ P v (s.h.take n) (s.esc.filter fun y=>decide (y.1 < n))
            | none=>False
          else P (oneOf vs) s.h s.esc
        | none=>False
    | none=>False
theorem finK_R {F : AFun} {b : Nat} {P : Post} : finK F b P = finR F.results F.keep b P:=by
  funext e s; cases e <;> rfl
theorem finR_exit {rs : List ARes} {kp : Bool} {b : Nat} {P : Post} {i : Nat} {s : St} : finR rs kp b P (.exit i) s = False:=(rfl)
def retK (kp : Bool) (b : Nat) (P : Post) (o : Option (List AV)) (h : Heap) (x : Esc) : Prop:=match o with
  | some vs=>match kp with
    | true=>
      let n:=close x.length x (max b (oneOf vs).top)
      if closed x n then P (oneOf vs) (h.take n) (x.filter fun y=>decide (y.1 < n)) else P (oneOf vs) h x
    | false=>match reif b h (oneOf vs) with
      | some v0=>
        let n:=close x.length x (max b v0.top)
        if closed x n then match reif n h (oneOf vs) with
          | some v=>v.top ≤ n ∧ P v (h.take n) (x.filter fun y=>decide (y.1 < n))
          | none=>False
        else P (oneOf vs) h x
      | none=>False
  | none=>False
theorem finR_normal {rs : List ARes} {kp : Bool} {b : Nat} {P : Post} {e : List (Nat × AV)} {h : Heap} {x : Esc} : finR rs kp b P .normal ⟨e,h,x⟩ = retK kp b P (aresAll ⟨e,h,x⟩ rs) h x:=(rfl)
theorem finR_ret {rs : List ARes} {kp : Bool} {b : Nat} {P : Post} {e : List (Nat × AV)} {h : Heap} {x : Esc} : finR rs kp b P .ret ⟨e,h,x⟩ = retK kp b P (aresAll ⟨e,h,x⟩ rs) h x:=(rfl)
theorem finR_congr {rs : List ARes} {kp : Bool} {b : Nat} {P : Post} {ex ex' : Ex} {s s' : St} (he : ex = ex') (hs : s = s') : finR rs kp b P ex s = finR rs kp b P ex' s':=by rw [he,hs]
theorem retK_pure {b : Nat} {P : Post} {vs : List AV} {h : Heap} (ht : (oneOf vs).top ≤ b) (hr : ∀ b,reif b h (oneOf vs) = some (oneOf vs)) : retK false b P (some vs) h [] = P (oneOf vs) (h.take b) []:=by
  simp only [retK,hr,close,List.length_nil,closed,List.all_nil,if_true,List.filter_nil,Nat.max_eq_left ht,ht,true_and]
theorem reif_p {b : Nat} {h : Heap} {v : PV} : reif b h (.p v) = some (.p v):=(rfl)
theorem reifs_nil {b : Nat} {h : Heap} : reifs b h [] = some []:=(rfl)
theorem retK_1 {b : Nat} {P : Post} {v : PV} {h : Heap} : retK false b P (some [.p v]) h [] = P (.p v) (h.take b) []:=retK_pure (Nat.zero_le _) (fun _=>rfl)
theorem retK_2 {b : Nat} {P : Post} {v u : PV} {h : Heap} : retK false b P (some [.p v,.p u]) h [] = P (.tup [.p v,.p u]) (h.take b) []:=retK_pure (by simp [oneOf,AV.top,AV.tops]) (fun _=>rfl)
theorem retK_3 {b : Nat} {P : Post} {v u w : PV} {h : Heap} : retK false b P (some [.p v,.p u,.p w]) h [] = P (.tup [.p v,.p u,.p w]) (h.take b) []:=retK_pure (by simp [oneOf,AV.top,AV.tops]) (fun _=>rfl)
theorem retK_4 {b : Nat} {P : Post} {v u w z : PV} {h : Heap} : retK false b P (some [.p v,.p u,.p w,.p z]) h [] = P (.tup [.p v,.p u,.p w,.p z]) (h.take b) []:=retK_pure (by simp [oneOf,AV.top,AV.tops]) (fun _=>rfl)
theorem retK_0 {b : Nat} {P : Post} {h : Heap} : retK false b P (some []) h [] = P (.tup []) (h.take b) []:=retK_pure (by simp [oneOf,AV.top,AV.tops]) (fun _=>rfl)
theorem take_len {h : Heap} : h.take h.length = h:=List.take_length
theorem oneOf_1 {v : AV} : oneOf [v] = v:=(rfl)
theorem step_val {X : Ctx} {f : Nat} {F : AFun} {a asv : List AV} {h h1 : Heap} {P : Post} (hf : X.fn f = some F) (hr : F.byref = false) (hp : puras h a = some (asv,h1)) (hl : asv.length = F.nparams) (hd : F.isDet = false) :
    ACall X f a h P = AW (ACall X) X.gl F.body ⟨enter asv,h1,[]⟩ (finR F.results F.keep h.length P):=by
  rw [Step_fn hf hd,abody_val hr hp hl,finK_R]
theorem step_ref {X : Ctx} {f : Nat} {F : AFun} {asv : List AV} {h : Heap} {P : Post} (hf : X.fn f = some F) (hr : F.byref = true) (hl : asv.length = F.nparams) (hd : F.isDet = false) :
    ACall X f asv h P = AW (ACall X) X.gl F.body ⟨enter asv,h,[]⟩ (finR F.results F.keep h.length P):=by
  rw [Step_fn hf hd,abody_ref hr hl,finK_R]
theorem step_val_det {X : Ctx} {f : Nat} {F : AFun} {a asv : List AV} {h h1 : Heap} {P : Post} (hf : X.fn f = some F) (hr : F.byref = false) (hp : puras h a = some (asv,h1)) (hl : asv.length = F.nparams) (hd : F.isDet = true) :
    ACall X f a h P = ∃ v h' x,P v h' x ∧ AW (ACall X) X.gl F.body ⟨enter asv,h1,[]⟩ (finR F.results F.keep h.length fun v1 h1 x1=>v1 = v ∧ h1 = h' ∧ x1 = x):=by
  rw [Step_det hf hd]
  simp only [abody_val hr hp hl,finK_R]
theorem rule {X : Ctx} {f : Nat} {a : List AV} {h : Heap} {v : AV} {h' : Heap} {x : Esc} {K : Post} (H : ACall X f a h fun v1 h1 x1=>v1 = v ∧ h1 = h' ∧ x1 = x) : ACall X f a h K = K v h' x:=propext (ACall.eq H K)
theorem natOf_nat {k : IntKind} {n : Nat} : natOf (.p (.int k (n : Int))) = some n:=by simp [natOf]
theorem natOf_lit {k : IntKind} {n : Nat} : natOf (.p (.int k (no_index (OfNat.ofNat n : Int)))) = some (OfNat.ofNat n : Nat):=natOf_nat (n:=n)
theorem natOf_0 {k : IntKind} : natOf (.p (.int k 0)) = some 0:=(rfl)
theorem natOf_1 {k : IntKind} : natOf (.p (.int k 1)) = some 1:=(rfl)
theorem natOf_int {k : IntKind} {n : Int} (h : 0 ≤ n) : natOf (.p (.int k n)) = some n.toNat:=by simp [natOf,h]
theorem map_get {α β : Type} (f : α → β) {l : List α} {k : Nat} (h : k < l.length) : (l.map f)[k]? = some (f l[k]):=by simp [h]
attribute [go_sem] eqs PV.eq1 PV.kind ne_eq not_false_eq_true not_true_eq_false Bool.and_self Bool.or_self Bool.not_eq_true
attribute [go_sem] Nat.max_le Nat.add_le_add_iff_left Option.isSome_none Option.isSome_some false_and and_false List.length_range Nat.sub_zero Nat.le_add_right
attribute [go_sem] natOf_nat natOf_0 natOf_1 natOf_lit Int.ofNat_lt Int.ofNat_le List.length_map
attribute [go_sem] finR_exit finR_normal finR_ret retK_0 retK_1 retK_2 retK_3 retK_4 take_len List.zipIdx_cons List.zipIdx_nil List.map_cons List.map_nil Nat.reduceAdd Nat.reduceEqDiff if_true if_false Option.map_some Option.map_none List.append_nil List.nil_append decide_eq_true_eq
def doS (C : Hd) (gl : Nat → Option PV) (q : AOp × List (Nat × AV) × AV) (h : Heap) : Prop:=ADo C gl q.1 q.2.1 h q.2.2 h []
def agK (C : Hd) (gl : Nat → Option PV) (h : Heap) (dn : Done) : List Nat → Prop
  | []=>True
  | j :: r=>(match dn[j]? with | some q=>doS C gl q h | none=>False) ∧ agK C gl h dn r
def eaK (C : Hd) (gl : Nat → Option PV) (o : AOp) (e : List (Nat × AV)) (v : AV) (hs : List Heap) : List Nat → Prop
  | []=>True
  | k :: r=>(match hs[k]? with | some g=>doS C gl (o,e,v) g | none=>False) ∧ eaK C gl o e v hs r
theorem agK_iff {C : Hd} {gl : Nat → Option PV} {h : Heap} {dn : Done} : ∀ {l : List Nat},agK C gl h dn l ↔ ∀ j ∈ l,∃ q,dn[j]? = some q ∧ ADo C gl q.1 q.2.1 h q.2.2 h []
  | []=>by simp [agK]
  | j :: r=>by
    simp only [agK,List.mem_cons,forall_eq_or_imp]
    rw [agK_iff (l:=r)]
    refine and_congr_left (fun _=>?_)
    cases hd : dn[j]? with
    | none=>simp
    | some q=>simp [doS]
theorem eaK_iff {C : Hd} {gl : Nat → Option PV} {o : AOp} {e : List (Nat × AV)} {v : AV} {hs : List Heap} : ∀ {l : List Nat},eaK C gl o e v hs l ↔ ∀ k ∈ l,∃ g,hs[k]? = some g ∧ ADo C gl o e g v g []
  | []=>by simp [eaK]
  | j :: r=>by
    simp only [eaK,List.mem_cons,forall_eq_or_imp]
    rw [eaK_iff (l:=r)]
    refine and_congr_left (fun _=>?_)
    cases hd : hs[j]? with
    | none=>simp
    | some q=>simp [doS]
def effK (b : Bool) (h h' : Heap) (y : Esc) : Prop:=match b with
  | true=>True
  | false=>h' = h ∧ y = []
theorem drawK_all {C : Hd} {gl : Nat → Option PV} {e : List (Nat × AV)} {h : Heap} {x : Esc} {L : List (Nat × AV) → Heap → Esc → Prop} {op : AOp} {rd early again : List Nat} {eff : Bool} {r : List DOp} {dn : Done} {hs : List Heap} {v : AV} {h' : Heap} {y : Esc} :
    drawK C gl ⟨op,rd,eff,early,again⟩ r dn hs e h x L v h' y = (effK eff h h' y ∧ eaK C gl op (prune (some rd) e) v hs early ∧ agK C gl h' dn again ∧ ADraw C gl r (dn ++ [(op,prune (some rd) e,v)]) (hs ++ [h]) (put op.dst v e) h' (y ++ x) L):=by
  rw [drawK_eq,← propext eaK_iff,← propext agK_iff]
  cases eff <;> simp [effK]
theorem effK_true {h h' : Heap} {y : Esc} : effK true h h' y = True:=(rfl)
theorem effK_same {h : Heap} : effK false h h [] = True:=by simp [effK]
theorem agK_nil {C : Hd} {gl : Nat → Option PV} {h : Heap} {dn : Done} : agK C gl h dn [] = True:=(rfl)
theorem agK_cons {C : Hd} {gl : Nat → Option PV} {h : Heap} {dn : Done} {j : Nat} {r : List Nat} : agK C gl h dn (j :: r) = ((match dn[j]? with | some q=>doS C gl q h | none=>False) ∧ agK C gl h dn r):=(rfl)
theorem eaK_nil {C : Hd} {gl : Nat → Option PV} {o : AOp} {e : List (Nat × AV)} {v : AV} {hs : List Heap} : eaK C gl o e v hs [] = True:=(rfl)
theorem eaK_cons {C : Hd} {gl : Nat → Option PV} {o : AOp} {e : List (Nat × AV)} {v : AV} {hs : List Heap} {j : Nat} {r : List Nat} : eaK C gl o e v hs (j :: r) = ((match hs[j]? with | some g=>doS C gl (o,e,v) g | none=>False) ∧ eaK C gl o e v hs r):=(rfl)
theorem doS_mk {C : Hd} {gl : Nat → Option PV} {d : Option Nat} {g : Option (Nat × Bool)} {op : AO} {e : List (Nat × AV)} {v : AV} {h : Heap} : doS C gl (⟨d,g,op⟩,e,v) h = doK C gl ⟨d,g,op⟩ e h (fun v1 h1 x1=>v1 = v ∧ h1 = h ∧ x1 = []):=by
  unfold doS doK
  refine propext ⟨fun H=>⟨_,_,_,H,rfl,rfl,rfl⟩,fun ⟨v1,h1,x1,H,a,b,c⟩=>by subst a; subst b; subst c; exact H⟩
theorem condB_dec {p : Prop} [Decidable p] {A B : Prop} : condB (.p (.bool (decide p))) A B = if p then A else B:=by rw [condB_bool]; simp
def callvK (C : Hd) (v : AV) (asv : List AV) (h : Heap) (L : Post) : Prop:=match v with
  | .fn g caps=>C g (asv ++ caps) h L
  | _=>False
theorem AReg_callvK {C : Hd} {gl : Nat → Option PV} {e : List (Nat × AV)} {h : Heap} {x : Esc} {L : List (Nat × AV) → Heap → Esc → Prop} {d : Option Nat} {f : Opd} {args : List Opd} {r : List AOp} :
    AReg C gl (⟨d,none,.callv f args⟩ :: r) e h x L = callvK C (Opd.ev gl e f) (args.map (Opd.ev gl e)) h (contR C gl r d e x L):=by
  have h2 : wanted none e = some true:=(rfl)
  rw [AReg]
  simp only [h2]
  unfold callvK
  split <;> simp_all <;> rfl
def callvE (C : Hd) (v : AV) (asv : List AV) (h : Heap) (R : AV → Heap → Esc → Prop) : Prop:=match v with
  | .fn g caps=>callE C g (asv ++ caps) h R
  | _=>False
theorem doK_callvK {C : Hd} {gl : Nat → Option PV} {e : List (Nat × AV)} {h : Heap} {R : AV → Heap → Esc → Prop} {d : Option Nat} {f : Opd} {args : List Opd} :
    doK C gl ⟨d,none,.callv f args⟩ e h R = callvE C (Opd.ev gl e f) (args.map (Opd.ev gl e)) h R:=by
  have h2 : wanted none e = some true:=(rfl)
  unfold doK ADo
  simp only [h2]
  unfold callvE callE
  split <;> simp_all
theorem callvK_fn {C : Hd} {g : Nat} {caps asv : List AV} {h : Heap} {L : Post} : callvK C (.fn g caps) asv h L = C g (asv ++ caps) h L:=(rfl)
theorem callvE_fn {C : Hd} {g : Nat} {caps asv : List AV} {h : Heap} {R : AV → Heap → Esc → Prop} : callvE C (.fn g caps) asv h R = callE C g (asv ++ caps) h R:=(rfl)
theorem callvK_congr {C : Hd} {v v' : AV} {asv asv' : List AV} {h h' : Heap} {L : Post} (h1 : v = v') (h2 : asv = asv') (h3 : h = h') : callvK C v asv h L = callvK C v' asv' h' L:=by rw [h1,h2,h3]
theorem callvE_congr {C : Hd} {v v' : AV} {asv asv' : List AV} {h h' : Heap} {R : AV → Heap → Esc → Prop} (h1 : v = v') (h2 : asv = asv') (h3 : h = h') : callvE C v asv h R = callvE C v' asv' h' R:=by rw [h1,h2,h3]
attribute [go_sem] AReg_callvK doK_callvK callvK_fn callvE_fn
attribute [congr] callvK_congr callvE_congr
theorem cutP_int {k : IntKind} {n : Int} : cutP none 0 (.int k n) = some (.int k n):=(rfl)
theorem cutP_bool {b : Bool} : cutP none 0 (.bool b) = some (.bool b):=(rfl)
theorem cutP_str {s : List UInt8} : cutP none 0 (.str s) = some (.str s):=(rfl)
theorem cutP_sl {sh : Sh} {xs : List PV} : cutP none 0 (.sl sh xs) = some (.sl sh xs):=(rfl)
theorem cutP_nilp : cutP none 0 .nilp = some .nilp:=(rfl)
theorem cutP_cell {off : Nat} {cs : List PV} : cutP none off (.agg cs) = (cs[off]?).bind fun x=>if x.sc then some x else none:=(rfl)
theorem cutP_agg {n off : Nat} {cs : List PV} : cutP (some n) off (.agg cs) = if off + n ≤ cs.length then some (.agg ((cs.drop off).take n)) else none:=(rfl)
theorem cutP_sc {v : PV} (h : v.sc = true) : cutP none 0 v = some v:=by cases v <;> first | rfl | cases h
attribute [go_sem] cutP_int cutP_bool cutP_str cutP_sl cutP_nilp cutP_cell cutP_agg
theorem escOf_p {id : Nat} {v : PV} : escOf id (.p v) = []:=(rfl)
attribute [go_sem] List.take_succ_cons List.take_zero List.take_nil List.drop_succ_cons List.drop_zero List.drop_nil List.length_cons List.length_nil Nat.reduceLeDiff Nat.reduceLT Int.reduceLT Int.reduceLE Int.reduceAdd Int.reduceSub Int.reduceMul Int.reduceNeg Int.reduceEq Nat.reduceSub Nat.reduceMul Nat.le_refl List.append_assoc
theorem trunc_nil {b : Nat} {x0 : Esc} {e : List (Nat × AV)} {h : Heap} : trunc b x0 ⟨e,h,[]⟩ = ⟨clean b e,h.take b,x0⟩:=(rfl)
theorem clean_nil {n : Nat} : clean n [] = []:=(rfl)
theorem clean_cons {n k : Nat} {v : AV} {r : List (Nat × AV)} : clean n ((k,v) :: r) = (k,if v.top ≤ n then v else .und) :: clean n r:=(rfl)
theorem top_p {v : PV} : AV.top (.p v) = 0:=(rfl)
theorem top_own {id g o l : Nat} : AV.top (.own id g o l) = id + 1:=by simp [AV.top]
theorem top_ref {id o : Nat} : AV.top (.ref id o) = id + 1:=by simp [AV.top]
theorem top_rref {id g i o : Nat} : AV.top (.rref id g i o) = id + 1:=by simp [AV.top]
theorem top_mp {id : Nat} : AV.top (.mp id) = id + 1:=by simp [AV.top]
theorem top_it {id : Nat} : AV.top (.it id) = id + 1:=by simp [AV.top]
theorem top_fn {f : Nat} {cs : List AV} : AV.top (.fn f cs) = AV.tops cs:=by simp [AV.top]
theorem top_agg {cs : List AV} : AV.top (.agg cs) = AV.tops cs:=by simp [AV.top]
theorem top_tup {cs : List AV} : AV.top (.tup cs) = AV.tops cs:=by simp [AV.top]
theorem top_vp {v : PV} : AV.top (.vp v) = 0:=(rfl)
theorem top_und : AV.top .und = 0:=(rfl)
theorem top_skp : AV.top .skp = 0:=(rfl)
theorem top_anyp : AV.top .anyp = 0:=(rfl)
theorem top_bt {k t id g : Nat} : AV.top (.bt k t id g) = id + 1:=by simp [AV.top]
theorem top_sl0 {sh : Sh} : AV.top (.sl0 sh) = 0:=(rfl)
theorem top_nilp : AV.top .nilp = 0:=(rfl)
theorem top_nilm : AV.top .nilm = 0:=(rfl)
theorem top_nilf : AV.top .nilf = 0:=(rfl)
theorem top_nili : AV.top .nili = 0:=(rfl)
theorem top_ifc : AV.top .ifc = 0:=(rfl)
theorem tops_nil : AV.tops [] = 0:=(rfl)
theorem tops_cons {v : AV} {r : List AV} : AV.tops (v :: r) = max v.top (AV.tops r):=by simp [AV.tops]
theorem retK_any {b : Nat} {P : Post} {vs : List AV} {h : Heap} : retK false b P (some vs) h [] = match reif b h (oneOf vs) with
    | some v0=>match reif (max b v0.top) h (oneOf vs) with
      | some v=>v.top ≤ max b v0.top ∧ P v (h.take (max b v0.top)) []
      | none=>False
    | none=>False:=by
  simp only [retK,close,List.length_nil,closed,List.all_nil,if_true,List.filter_nil]
theorem reif_own {b : Nat} {h : Heap} {id g off len : Nat} : reif b h (.own id g off len) = if b ≤ id then (rd h (.own id g off len)).map fun y=>.p (.sl y.1 y.2) else some (.own id g off len):=by simp only [reif]
theorem reif_sl0 {b : Nat} {h : Heap} {sh : Sh} : reif b h (.sl0 sh) = some (.p (.sl sh [])):=by simp only [reif]
theorem reif_agg {b : Nat} {h : Heap} {cs : List AV} : reif b h (.agg cs) = (reifs b h cs).map mkA:=by simp only [reif]
theorem reif_tup {b : Nat} {h : Heap} {cs : List AV} : reif b h (.tup cs) = (reifs b h cs).map .tup:=by simp only [reif]
theorem reif_ref {b : Nat} {h : Heap} {id o : Nat} : reif b h (.ref id o) = some (.ref id o):=by simp only [reif]
theorem reif_mp {b : Nat} {h : Heap} {id : Nat} : reif b h (.mp id) = some (.mp id):=by simp only [reif]
theorem reif_fn {b f : Nat} {h : Heap} {cs : List AV} : reif b h (.fn f cs) = some (.fn f cs):=by simp only [reif]
theorem reifs_cons {b : Nat} {h : Heap} {v : AV} {r : List AV} : reifs b h (v :: r) = (match reif b h v with | some x=>(reifs b h r).map (x :: ·) | none=>none):=by rw [reifs]; cases reif b h v <;> rfl
theorem oneOf_2 {v u : AV} {r : List AV} : oneOf (v :: u :: r) = .tup (v :: u :: r):=(rfl)
theorem oneOf_0 : oneOf [] = .tup []:=(rfl)
theorem set_app {h l : Heap} {id : Nat} {o : Obj} (hid : id < h.length) : (h ++ l).set id o = h.set id o ++ l:=List.set_append_left _ _ hid
theorem get_app {h l : Heap} {id : Nat} (hid : id < h.length) : (h ++ l)[id]? = h[id]?:=List.getElem?_append_left hid
theorem sapp_get {h l : Heap} {i n : Nat} {o : Obj} : (h.set i o ++ l)[h.length + n]? = l[n]?:=by
  have:=app_get (h.set i o) l n; rwa [List.length_set] at this
theorem sapp_get0 {h l : Heap} {i : Nat} {o : Obj} : (h.set i o ++ l)[h.length]? = l[0]?:=sapp_get (n:=0)
theorem sapp_set {h l : Heap} {i n : Nat} {o q : Obj} : (h.set i o ++ l).set (h.length + n) q = h.set i o ++ l.set n q:=by
  have:=app_set (h.set i o) l n q; rwa [List.length_set] at this
theorem sapp_set0 {h l : Heap} {i : Nat} {o q : Obj} : (h.set i o ++ l).set h.length q = h.set i o ++ l.set 0 q:=sapp_set (n:=0)
theorem sapp_take {h l : Heap} {i n : Nat} {o : Obj} : (h.set i o ++ l).take (h.length + n) = h.set i o ++ l.take n:=by
  have:=app_take (h.set i o) l n; rwa [List.length_set] at this
theorem sapp_take0 {h l : Heap} {i : Nat} {o : Obj} : (h.set i o ++ l).take h.length = h.set i o:=by
  have:=app_take0 (h.set i o) l; rwa [List.length_set] at this
theorem sapp_frz {h l : Heap} {i n k : Nat} {o : Obj} : frz (h.set i o ++ l) (h.length + n) k = h.set i o ++ frz l n k:=by
  have:=app_frz (h.set i o) l n k; rwa [List.length_set] at this
theorem sapp_frz0 {h l : Heap} {i k : Nat} {o : Obj} : frz (h.set i o ++ l) h.length k = h.set i o ++ frz l 0 k:=sapp_frz (n:=0)
theorem win_all {α : Type} (l : List α) : win l 0 l.length = l:=by simp [win]
attribute [go_sem] trunc_nil clean_nil clean_cons top_p top_own top_ref top_rref top_mp top_it top_fn top_agg top_tup top_vp top_und top_skp top_sl0 top_nilp top_nilm top_nilf top_nili top_ifc top_anyp top_bt tops_nil tops_cons Nat.max_zero Nat.zero_max Nat.zero_le reif_p reif_own reif_sl0 reif_agg reif_tup reif_ref reif_mp reif_fn reifs_nil reifs_cons oneOf_2 oneOf_0 app_get app_get0 app_set app_set0 app_take app_take0 app_frz app_frz0 sapp_get sapp_get0 sapp_set sapp_set0 sapp_take sapp_take0 sapp_frz sapp_frz0 List.length_append win_all Nat.add_le_add_iff_right Nat.zero_add Nat.add_zero
attribute [go_sem] fillP PV.shp List.reduceReplicate cond_true cond_false Bool.not_true Bool.not_false Bool.false_eq_true Bool.true_and Bool.and_true Bool.false_and Bool.and_false Bool.true_or Bool.or_true Bool.false_or Bool.or_false beq_self_eq_true List.all_cons List.all_nil
attribute [go_sem low] retK_any
theorem take_set_len {h : Heap} {id : Nat} {o : Obj} : (h.set id o).take h.length = h.set id o:=List.take_of_length_le (by simp)
attribute [go_sem] take_set_len Int.natCast_zero Int.natCast_one Int.cast_ofNat_Int
attribute [go_sem] aun aconv amax2 amin2 List.foldlM_cons List.foldlM_nil Option.bind_some Option.pure_def Option.bind_eq_bind List.cons_append List.nil_append Int.zero_sub List.length_singleton
attribute [go_sem] contR_eq shSize escOf_p
attribute [congr] contR_congr
attribute [go_sem] AW_draw ADraw_nil ADraw_cons doK_mv doK_pick doK_alloc doK_box doK_build doK_bsl doK_load doK_store doK_nilchk doK_bin doK_eqa doK_isnil doK_mkif doK_un doK_conv doK_mkfn doK_mkmap doK_mksl doK_slice doK_slstr doK_faddr doK_field doK_iaddr doK_iaddra doK_idxa doK_idxs doK_look doK_mupd doK_ment doK_estore doK_mdel doK_ext doK_len doK_lens doK_lenm doK_app doK_copy doK_mx doK_mn doK_mrange doK_mentry doK_new0 doK_call doK_guard callE ex3' drawK_all effK_true effK_same agK_nil agK_cons eaK_nil eaK_cons doS_mk List.not_mem_nil List.mem_cons List.mem_singleton forall_eq_or_imp forall_eq false_implies true_implies implies_true forall_const and_true true_and List.cons_append and_self reduceCtorEq List.getElem?_cons_zero List.getElem?_cons_succ Option.some.injEq exists_eq_left' List.set_cons_zero List.set_cons_succ List.set_set List.length_set
attribute [congr] doK_congr callE_congr ADraw_congr ACall_congr
attribute [congr] finR_congr
attribute [go_sem] LoopP_eq LoopS_eq
attribute [go_sem] AW_skip AW_ret AW_exit AW_bad AW_reg AW_seq AW_cond AW_block AW_scope AW_pr regK_eq seqK_normal seqK_exit seqK_ret blockK_normal blockK_exit blockK_ret scopeK_eq AReg_nil AReg_mv AReg_pick AReg_alloc AReg_box AReg_build AReg_bsl AReg_load AReg_store AReg_nilchk AReg_bin AReg_eqa AReg_isnil AReg_mkif AReg_un AReg_conv AReg_mkfn AReg_mkmap AReg_mksl AReg_slice AReg_slstr AReg_faddr AReg_field AReg_iaddr AReg_iaddra AReg_idxa AReg_idxs AReg_look AReg_mupd AReg_ment AReg_estore AReg_mdel AReg_ext AReg_len AReg_lens AReg_lenm AReg_app AReg_copy AReg_mx AReg_mn AReg_mrange AReg_mentry AReg_new0 AReg_guard AReg_call optK_some optK_none optK_ite optK_map_ite condB_true condB_false condB_dec wantK_skp decide_true decide_false loopK_normal loopK_exit loopK_ret aop Opd.ev aget put prune abin aint astr aresAll ares oneOf_1 enter rd rds pur purs puras mkA unp cut AV.cells PV.cells PV.sc AV.sc splice pint pbool fillA
attribute [go_sem low] condB_bool wantK_true wantK_false
theorem wantK_tt {A B : Prop} : wantK (.p (.bool true)) true A B = A:=(rfl)
theorem wantK_ff {A B : Prop} : wantK (.p (.bool false)) false A B = A:=(rfl)
theorem wantK_tf {A B : Prop} : wantK (.p (.bool true)) false A B = B:=(rfl)
theorem wantK_ft {A B : Prop} : wantK (.p (.bool false)) true A B = B:=(rfl)
attribute [go_sem] wantK_tt wantK_ff wantK_tf wantK_ft
attribute [congr] condB_congr wantK_congr optK_congr AReg_congr AW_congr regK_congr seqK_congr blockK_congr scopeK_congr loopK_congr
end Go.Am
end
