/- The abstract machine, part G: regions whose order is left open: whatever the order. -/
import Derived.Test.YtajhbehiecgflaaAmF
set_option linter.unusedSimpArgs false
set_option linter.unusedVariables false
set_option maxHeartbeats 1000000
namespace Go.Am

variable {h h' : Heap} {μ μ' : Mu} {w w' : World} {P : Program} {M M' : Mem}
variable {gl : Nat → Option PV} {nt : Nat} {M0 : Mem} {h0 : Heap} {μ0 : Mu} {e : List (Nat × AV)} {x : Esc} {a : Act} {ops : Array Oper}

theorem pair_spec {tab : List (List Nat)} (ht : ∀ i l, tab[i]? = some l → ∀ k ∈ l, Bef ops k i) {i j : Nat} {p q : DOp} (h : pairOk tab i j p q = true) :
    Bef ops i j ∨ (¬ (p.eff = true ∧ q.eff = true) ∧ (∀ t, p.op.dst = some t → q.op.dst ≠ some t ∧ t ∉ q.rd) ∧ (∀ t, q.op.dst = some t → t ∉ p.rd) ∧
      (q.eff = true → p.eff = false → p.op.op.hfree = true ∨ i ∈ q.again) ∧ (p.eff = true → q.eff = false → q.op.op.hfree = true ∨ i ∈ q.early)) := by
  unfold pairOk at h
  rw [Bool.or_eq_true] at h
  rcases h with h | h
  · left
    cases hq : tab[j]? with
    | none => simp [List.getD, hq] at h
    | some l => simp [List.getD, hq] at h; exact ht j l hq i h
  · right
    simp only [Bool.and_eq_true, Bool.not_eq_true', Bool.or_eq_true] at h
    obtain ⟨⟨⟨⟨h1, h2⟩, h3⟩, h4⟩, h5⟩ := h
    refine ⟨fun hab => by (rw [hab.1, hab.2] at h1; cases h1), fun t ht => ?_, fun t ht => ?_, fun ha hb => ?_, fun ha hb => ?_⟩
    · rw [ht] at h2
      simpa using h2
    · rw [ht] at h3
      simpa using h3
    · rw [ha, hb] at h4
      simpa using h4
    · rw [ha, hb] at h5
      simpa using h5

theorem env_lk {C : Hd} {ds : List DOp} {E : Nat → List (Nat × AV)} {H : Nat → Heap} {V : Nat → AV} {X Y : Nat → Esc} (T : ∀ i o, ds[i]? = some o → Tr C gl ds 0 [] [] E H V X Y i o) (e0 : E 0 = e) (t : Nat) :
    ∀ i, i ≤ ds.length → aget (E i) t = lk (fun i => (ds[i]?).bind (·.op.dst)) V e (fun _ => true) i t
  | 0, _ => by simp [lk, e0]
  | i + 1, hi => by
    have ho := List.getElem?_eq_getElem (show i < ds.length by omega)
    have hT := (T i _ ho).env
    simp only [Nat.zero_add] at hT
    rw [hT, aget_put, env_lk T e0 t i (by omega)]
    simp only [lk, ho, Option.bind_some, true_and]

theorem still_run {C : Hd} {ds : List DOp} {E : Nat → List (Nat × AV)} {H : Nat → Heap} {V : Nat → AV} {X Y : Nat → Esc} (T : ∀ i o, ds[i]? = some o → Tr C gl ds 0 [] [] E H V X Y i o) {c : Nat} :
    ∀ d, c + d ≤ ds.length → (∀ k o, c ≤ k → k < c + d → ds[k]? = some o → o.eff = false) → H (c + d) = H c ∧ X (c + d) = X c
  | 0, _, _ => ⟨rfl, rfl⟩
  | d + 1, hd, hn => by
    have ho := List.getElem?_eq_getElem (show c + d < ds.length by omega)
    have hT := T _ _ ho
    have hs := hT.still (hn _ _ (by omega) (by omega) ho)
    obtain ⟨h1, h2⟩ := still_run T d (by omega) (fun k o h1 h2 h3 => hn k o h1 (by omega) h3)
    simp only [Nat.zero_add] at hs
    have he := hT.esc
    simp only [Nat.zero_add] at he
    rw [hs.2] at he
    exact ⟨by rw [← Nat.add_assoc, hs.1, h1], by rw [← Nat.add_assoc, he, List.nil_append, h2]⟩

theorem ADo_hfree {C : Hd} {o : AOp} (hf : o.op.hfree = true) {v : AV} {y : Esc} (H : ADo C gl o e h v h' y) (g : Heap) : ADo C gl o e g v g [] := by
  obtain ⟨dst, guard, op⟩ := o
  unfold ADo at H ⊢
  dsimp only at H hf ⊢
  split at H
  · cases op
    case call f args => cases hf
    case callv f args => cases hf
    case mnext i => cases hf
    all_goals exact hfree_ok hf H g
  · exact ⟨H.1, rfl, rfl⟩
  · exact H.elim

theorem least {p : Nat → Prop} {c i : Nat} (h : ∃ k, c ≤ k ∧ k < i ∧ p k) : ∃ k, c ≤ k ∧ k < i ∧ p k ∧ ∀ k', c ≤ k' → k' < k → ¬ p k' := by
  obtain ⟨k, h1, h2, h3⟩ := h
  induction k using Nat.strongRecOn with
  | _ k ih =>
    by_cases hq : ∃ k', c ≤ k' ∧ k' < k ∧ p k'
    · obtain ⟨k', q1, q2, q3⟩ := hq
      exact ih k' q2 q1 (by omega) q3
    · exact ⟨k, h1, h2, h3, fun k' q1 q2 q3 => hq ⟨k', q1, q2, q3⟩⟩

theorem draw_sound {C : Hd} (hC : ∀ f a h K, C f a h K → CallOk P gl f a h K) {ds : List DOp} {K : List (Nat × AV) → Heap → Esc → Prop} {Q : Exit → Act → World → Prop} (hc : chkDraw P nt ops ds = true)
    (HD : ADraw C gl ds [] [] e h x K) (R : Rel gl nt M0 h0 μ0 e h x a w μ) (hK : ∀ e h x a w μ, K e h x → Rel gl nt M0 h0 μ0 e h x a w μ → Q .normal a w) :
    wpAny P .any ops Q ops.size (Array.replicate ops.size false) a w := by
  unfold chkDraw at hc
  simp only [Bool.and_eq_true] at hc
  obtain ⟨⟨c1, c2⟩, c3⟩ := hc
  obtain ⟨c4, c5⟩ := chkOps_spec c1
  have hn : ds.length = ops.size := by simpa using c4
  have htab := closeTab_ok (ops := ops) ops.toList 0 [] (by simp) rfl (fun i l hi => by simp at hi)
  have hpair : ∀ (i j : Nat) (p q : DOp), ds[i]? = some p → ds[j]? = some q → i < j → Bef ops i j ∨ (¬ (p.eff = true ∧ q.eff = true) ∧ (∀ t, p.op.dst = some t → q.op.dst ≠ some t ∧ t ∉ q.rd) ∧ (∀ t, q.op.dst = some t → t ∉ p.rd) ∧
      (q.eff = true → p.eff = false → p.op.op.hfree = true ∨ i ∈ q.again) ∧ (p.eff = true → q.eff = false → q.op.op.hfree = true ∨ i ∈ q.early)) := fun i j p q hp hq hlt => by
    have := rowsOk_spec c3 j q hq i p hp (by omega)
    rw [Nat.zero_add] at this
    exact pair_spec htab this
  have hop : ∀ (i : Nat) (o : DOp), ds[i]? = some o → ∃ p, ops[i]? = some p ∧ chkAOp P nt ops o.op p = true := fun i o ho => by
    obtain ⟨p, q1, q2⟩ := c5 i o.op (by simp [ho])
    rw [Nat.zero_add] at q1
    exact ⟨p, q1, q2⟩
  obtain ⟨E, H, V, X, Y, e1, e2, e3, T, e5⟩ := trace ds 0 [] [] e h x K HD rfl rfl
  simp only [Nat.zero_add] at e5
  have hE := fun t i hi => env_lk (e := e) T e1 t i hi
  let dst : Nat → Option Nat := fun i => (ds[i]?).bind (·.op.dst)
  have hdst : ∀ (i : Nat) (o : DOp), ds[i]? = some o → dst i = o.op.dst := fun i o ho => by show (ds[i]?).bind _ = _; rw [ho]; rfl
  have hdst' : ∀ (i t : Nat), dst i = some t → ∃ o, ds[i]? = some o ∧ o.op.dst = some t := fun i t ht => by
    cases ho : ds[i]? with
    | none => exact absurd ht (by show (ds[i]?).bind _ ≠ _; rw [ho]; simp)
    | some o => exact ⟨o, rfl, by rw [← hdst i o ho]; exact ht⟩
  have hstill : ∀ c i, c ≤ i → i ≤ ds.length → (∀ (k : Nat) (o : DOp), c ≤ k → k < i → ds[k]? = some o → o.eff = false) → H i = H c ∧ X i = X c := fun c i hci hi hk => by
    have := still_run T (c := c) (i - c) (by omega) (fun k o h1 h2 h3 => hk k o h1 (by omega) h3)
    rwa [show c + (i - c) = i by omega] at this
  have done : ∀ (listed : Array Bool) (c : Nat) (en : List (Nat × AV)) (a : Act) (w : World) (μ : Mu), (∀ i, i < ops.size → listed.getD i false = true) → (∀ (k : Nat) (o : DOp), ds[k]? = some o → o.eff = true → (listed.getD k false = true ↔ k < c)) → c ≤ ds.length →
      (∀ t, aget en t = lk dst V e (fun i => listed.getD i false) ds.length t) → Rel gl nt M0 h0 μ0 en (H c) (X c) a w μ → Q .normal a w := by
    intro listed c en a w μ hall hce hcl hen R
    have hHn := hstill c ds.length hcl (Nat.le_refl _) (fun k o h1 h2 h3 => by
      cases hb : o.eff with
      | false => rfl
      | true => have := (hce k o h3 hb).1 (hall k (by omega)); omega)
    refine hK _ _ _ a w μ e5 ?_
    rw [hHn.1, hHn.2]
    refine ⟨R.heap, fun t => ?_, R.glob, R.evo, R.esc, R.size, R.defers⟩
    rw [hE t _ (Nat.le_refl _)]
    have := hen t
    rw [lk_congr (s' := fun _ => true) ds.length (fun j hj _ => hall j (by omega))] at this
    rw [← this]
    exact R.env t
  have key : ∀ (fuel : Nat) (listed : Array Bool) (U : List Nat) (c : Nat) (en : List (Nat × AV)) (a : Act) (w : World) (μ : Mu), listed.size = ops.size → (∀ i, i < ops.size → listed.getD i false = false → i ∈ U) → U.length ≤ fuel →
      Down ops (fun i => listed.getD i false) → (∀ (k : Nat) (o : DOp), ds[k]? = some o → o.eff = true → (listed.getD k false = true ↔ k < c)) → (c = 0 ∨ ∃ (k : Nat) (o : DOp), c = k + 1 ∧ ds[k]? = some o ∧ o.eff = true) → c ≤ ds.length →
      (∀ t, aget en t = lk dst V e (fun i => listed.getD i false) ds.length t) → Rel gl nt M0 h0 μ0 en (H c) (X c) a w μ → wpAny P .any ops Q fuel listed a w := by
    intro fuel
    induction fuel with
    | zero =>
      intro listed U c en a w μ hsz hU hUl hD hce hc0 hcl hen R
      have hall : ∀ i, i < ops.size → listed.getD i false = true := fun i hi => by
        cases hb : listed.getD i false with
        | true => rfl
        | false =>
          have := hU i hi hb
          have hnil : U = [] := List.length_eq_zero_iff.1 (by omega)
          rw [hnil] at this; cases this
      refine ⟨?_, done listed c en a w μ hall hce hcl hen R⟩
      rw [List.eq_nil_iff_forall_not_mem]
      intro i hi
      rw [mem_ready] at hi
      obtain ⟨q1, o, q2, _⟩ := hi
      have hi : i < ops.size := (Array.getElem?_eq_some_iff.1 q2).1
      have := hall i hi
      simp [Array.getD, hsz, hi] at q1 this
      rw [q1] at this; cases this
    | succ fuel ih =>
      intro listed U c en a w μ hsz hU hUl hD hce hc0 hcl hen R
      refine ⟨fun hr => ?_, fun i hi => ?_⟩
      · have hall : ∀ i, i < ops.size → listed.getD i false = true := by
          intro i
          induction i using Nat.strongRecOn with
          | _ i ihi =>
            intro hi
            cases hb : listed.getD i false with
            | true => rfl
            | false =>
              have hm : i ∈ Region.ready .any ops listed := by
                rw [mem_ready]
                refine ⟨by simp [Array.getD, hsz, hi] at hb ⊢; exact hb, ops[i], Array.getElem?_eq_getElem hi, fun ed hed hbd => ?_⟩
                have hk : ed.on ∈ edgesOf ops[i] := List.mem_map.2 ⟨ed, List.mem_filter.2 ⟨by simpa using hed, hbd⟩, rfl⟩
                have hlt := edgesLt_spec c2 i ops[i] (by simp [hi]) ed.on hk
                exact ihi ed.on (by omega) (by omega)
              rw [hr] at hm
              cases hm
        exact done listed c en a w μ hall hce hcl hen R
      · rw [mem_ready] at hi
        obtain ⟨q1, p, hp, q3⟩ := hi
        have hin : i < ops.size := (Array.getElem?_eq_some_iff.1 hp).1
        have hnl : listed.getD i false = false := by
          simp [Array.getD, hsz, hin] at q1 ⊢
          exact q1
        have hready : ∀ o, ops[i]? = some o → ∀ k ∈ edgesOf o, listed.getD k false = true := by
          intro o ho k hk
          rw [hp] at ho
          injection ho with ho
          subst ho
          obtain ⟨ed, q4, rfl⟩ := List.mem_map.1 hk
          obtain ⟨q5, q6⟩ := List.mem_filter.1 q4
          exact q3 ed (by simpa using q5) q6
        have ho := List.getElem?_eq_getElem (show i < ds.length by omega)
        generalize ds[i]'(by omega) = o at ho
        obtain ⟨p', hp', hck⟩ := hop i o ho
        rw [hp] at hp'
        injection hp' with hp'
        subst hp'
        obtain ⟨hd1, hd2⟩ := chkAOp_dst hck
        have hT := T i o ho
        have hrun := hT.run
        simp only [Nat.zero_add] at hrun
        have before : ∀ (k : Nat) (q : DOp), ds[k]? = some q → k < i → Bef ops k i → listed.getD k false = true := fun k q _ _ hb => hb.ready hD hready
        have behind : ∀ (k : Nat), Bef ops i k → listed.getD k false = false := fun k hb => by
          cases hs : listed.getD k false with
          | false => rfl
          | true => have := hb.down hD hs; rw [hnl] at this; cases this
        have Renv : Rel gl nt M0 h0 μ0 (prune (some o.rd) (E i)) (H c) (X c) a w μ := by
          refine ⟨R.heap, fun t => ?_, R.glob, R.evo, R.esc, R.size, R.defers⟩
          rw [aget_prune']
          split
          · rename_i htr
            have h1 := hen t
            rw [lk_none (i := i) ds.length (by omega) (fun j hij hj hdj => by
              obtain ⟨q, hq, hqd⟩ := hdst' j t hdj
              rcases Nat.eq_or_lt_of_le hij with hh | hh
              · subst hh; exact hnl
              · rcases hpair i j o q ho hq hh with hb | ⟨_, _, k3, _⟩
                · exact behind j hb
                · exact absurd htr (k3 t hqd)), lk_congr (s' := fun _ => true) i (fun j hj hdj => by
              obtain ⟨q, hq, hqd⟩ := hdst' j t hdj
              rcases hpair j i q o hq ho hj with hb | ⟨_, k2, _⟩
              · exact before j q hq hj hb
              · exact absurd htr (k2 t hqd).2), ← hE t i (by omega)] at h1
            rw [← h1]
            exact R.env t
          · exact .und _
        have next : ∀ (c' : Nat) (a' : Act) (w' : World) (μ' : Mu) (u : Value), a' = a.put p.dst u → (∀ (k : Nat) (q : DOp), ds[k]? = some q → q.eff = true → ((listed.setIfInBounds i true).getD k false = true ↔ k < c')) → (c' = 0 ∨ ∃ (k : Nat) (o : DOp), c' = k + 1 ∧ ds[k]? = some o ∧ o.eff = true) → c' ≤ ds.length →
            (∀ e', (∀ t, aget e' t = if o.op.dst = some t then V i else aget en t) → Rel gl nt M0 h0 μ0 e' (H c') (X c') a' w' μ') → wpAny P .any ops Q fuel (listed.setIfInBounds i true) a' w' := by
          intro c' a' w' μ' u ha k1 k2 k3 k4
          refine ih (listed.setIfInBounds i true) (U.erase i) c' (put o.op.dst (V i) en) a' w' μ' (by simp [hsz]) (fun j hj hb => ?_) ?_ ?_ k1 k2 k3 (fun t => ?_) (k4 _ (fun t => aget_put))
          · by_cases hji : i = j
            · subst hji
              simp [Array.getD, hsz, hin] at hb
            · rw [getD_set_ne false hji] at hb
              exact (List.mem_erase_of_ne (fun h => hji h.symm)).2 (hU j hj hb)
          · have := List.length_erase_of_mem (hU i hin hnl)
            omega
          · intro j q hq hs k hk
            by_cases hji : i = j
            · subst hji
              exact getD_set_true (hready q hq k hk)
            · have hs' : listed.getD j false = true := by
                have := hs
                simp only [getD_set_ne false hji] at this
                exact this
              exact getD_set_true (hD j q hq hs' k hk)
          · rw [aget_put]
            by_cases hdt : o.op.dst = some t
            · rw [if_pos hdt]
              rw [lk_none (i := i + 1) ds.length (by omega) (fun j hij hj hdj => by
                obtain ⟨q, hq, hqd⟩ := hdst' j t hdj
                show (listed.setIfInBounds i true).getD j false = false
                rw [getD_set_ne false (show i ≠ j by omega)]
                rcases hpair i j o q ho hq (by omega) with hb | ⟨_, k2, _⟩
                · exact behind j hb
                · exact absurd hqd (k2 t hdt).1)]
              simp only [lk]
              rw [if_pos ⟨by simp [Array.getD, hsz, hin], by rw [hdst i o ho]; exact hdt⟩]
            · rw [if_neg hdt, hen t]
              refine lk_congr _ (fun j hj hdj => ?_)
              have hji : i ≠ j := by
                intro hji
                subst hji
                rw [hdst i o ho] at hdj
                exact hdt hdj
              exact (getD_set_ne false hji).symm
        cases heff : o.eff with
        | true =>
          have hci : c ≤ i := by
            rcases hc0 with hc0 | ⟨k, q, hck2, hq, hqe⟩
            · omega
            · rcases Nat.lt_trichotomy k i with hh | hh | hh
              · omega
              · subst hh
                have := (hce k q hq hqe).2 (by omega)
                rw [hnl] at this; cases this
              · rcases hpair i k o q ho hq hh with hb | ⟨k1, _⟩
                · have := behind k hb
                  have h2 := (hce k q hq hqe).2 (by omega)
                  rw [this] at h2; cases h2
                · exact absurd ⟨heff, hqe⟩ k1
          have hbe : ∀ (k : Nat) (q : DOp), k < i → ds[k]? = some q → q.eff = true → k < c := fun k q hk hq hqe => by
            rcases hpair k i q o hq ho hk with hb | ⟨k1, _⟩
            · exact (hce k q hq hqe).1 (before k q hq hk hb)
            · exact absurd ⟨hqe, heff⟩ k1
          have hHi := hstill c i hci (by omega) (fun k q h1 h2 h3 => by
            cases hb : q.eff with
            | false => rfl
            | true => have := hbe k q h2 h3 hb; omega)
          rw [hHi.1] at hrun
          refine do_sound hC hp hck Renv hrun (fun a' w' μ' u ha hH hEv hI hV => ?_)
          refine next (i + 1) a' w' μ' u ha (fun k q hq hqe => ?_) (.inr ⟨i, o, rfl, ho, heff⟩) (by omega) (fun e' he' => ?_)
          · by_cases hki : i = k
            · subst hki
              simp [Array.getD, hsz, hin]
            · rw [getD_set_ne false hki, hce k q hq hqe]
              constructor
              · intro _; omega
              · intro _; exact hbe k q (by omega) hq hqe
          · have hst := R.step (d := p.dst) (fun j hj => hd2 j (by rw [hd1]; exact hj)) hH hEv hI hV
            have hX : X (i + 1) = Y i ++ X c := by have := hT.esc; simp only [Nat.zero_add] at this; rw [this, hHi.2]
            rw [hX, ha]
            refine ⟨hst.heap, fun t => ?_, hst.glob, hst.evo, hst.esc, hst.size, hst.defers⟩
            have := hst.env t
            rw [aget_put, ← hd1] at this
            rw [he' t]
            rw [hd1] at this ⊢
            exact this
        | false =>
          have hs := hT.still heff
          simp only [Nat.zero_add] at hs
          rw [hs.1, hs.2] at hrun
          have hdo : ADo C gl o.op (prune (some o.rd) (E i)) (H c) (V i) (H c) [] := by
            by_cases hf : o.op.op.hfree = true
            · exact ADo_hfree hf hrun _
            · rcases Nat.lt_or_ge i c with hic | hci
              · rcases hc0 with hc0 | ⟨k, q, hck2, hq, hqe⟩
                · omega
                · have hik : i < k := by
                    rcases Nat.eq_or_lt_of_le (show i ≤ k by omega) with hh | hh
                    · subst hh
                      rw [ho] at hq
                      injection hq with hq
                      subst hq
                      rw [heff] at hqe; cases hqe
                    · exact hh
                  rcases hpair i k o q ho hq hik with hb | ⟨_, _, _, k4, _⟩
                  · have := behind k hb
                    have h2 := (hce k q hq hqe).2 (by omega)
                    rw [this] at h2; cases h2
                  · rcases k4 hqe heff with k4 | k4
                    · exact absurd k4 hf
                    · rcases (T k q hq).again i k4 with ⟨_, h1, _⟩ | ⟨_, q', h1, h2⟩
                      · omega
                      · simp only [Nat.sub_zero] at h1
                        rw [ho] at h1
                        injection h1 with h1
                        subst h1
                        simp only [Nat.zero_add] at h2
                        rw [hck2]
                        exact h2
              · by_cases hk : ∃ k, c ≤ k ∧ k < i ∧ ∃ q, ds[k]? = some q ∧ q.eff = true
                · obtain ⟨k, hck2, hki, ⟨q, hq, hqe⟩, hmin⟩ := least hk
                  have hHk := hstill c k hck2 (by omega) (fun k' q' h1 h2 h3 => by
                    cases hb : q'.eff with
                    | false => rfl
                    | true => exact absurd ⟨q', h3, hb⟩ (hmin k' h1 h2))
                  rcases hpair k i q o hq ho hki with hb | ⟨_, _, _, _, k5⟩
                  · have := (hce k q hq hqe).1 (before k q hq hki hb)
                    omega
                  · rcases k5 hqe heff with k5 | k5
                    · exact absurd k5 hf
                    · obtain ⟨g, h1, h2⟩ := hT.early k k5
                      simp only [Nat.zero_add] at h1 h2
                      rcases h1 with ⟨h1, _⟩ | ⟨_, _, h1⟩
                      · omega
                      · rw [h1, hHk.1] at h2
                        exact h2
                · have hHi := hstill c i hci (by omega) (fun k q h1 h2 h3 => by
                    cases hb : q.eff with
                    | false => rfl
                    | true => exact absurd ⟨k, h1, h2, q, h3, hb⟩ hk)
                  rw [hHi.1] at hrun
                  exact hrun
          refine do_sound hC hp hck Renv hdo (fun a' w' μ' u ha hH hEv hI hV => ?_)
          refine next c a' w' μ' u ha (fun k q hq hqe => ?_) hc0 hcl (fun e' he' => ?_)
          · have hki : i ≠ k := by
              intro hki
              subst hki
              rw [ho] at hq
              injection hq with hq
              subst hq
              rw [heff] at hqe; cases hqe
            rw [getD_set_ne false hki]
            exact hce k q hq hqe
          · have hst := R.step (d := p.dst) (fun j hj => hd2 j (by rw [hd1]; exact hj)) hH hEv hI hV
            rw [List.nil_append] at hst
            rw [ha]
            refine ⟨hst.heap, fun t => ?_, hst.glob, hst.evo, hst.esc, hst.size, hst.defers⟩
            have := hst.env t
            rw [aget_put, ← hd1] at this
            rw [he' t]
            rw [hd1] at this ⊢
            exact this
  refine key ops.size _ (List.range ops.size) 0 e a w μ (by simp) (fun i hi _ => List.mem_range.2 hi) (by simp) ?_ ?_ (.inl rfl) (Nat.zero_le _) ?_ ?_
  · intro i o ho hs
    have hi : i < ops.size := (Array.getElem?_eq_some_iff.1 ho).1
    simp [Array.getD, hi] at hs
  · intro k o ho _
    have hi : k < ops.size := by rw [← hn]; exact lt_of_get ho
    simp [Array.getD, hi]
  · intro t
    have : lk dst V e (fun i => (Array.replicate ops.size false).getD i false) ds.length t = lk dst V e (fun i => (Array.replicate ops.size false).getD i false) 0 t :=
      lk_none ds.length (Nat.zero_le _) (fun j _ hj _ => by simp [Array.getD])
    rw [this]
    rfl
  · rw [e2, e3]; exact R

end Go.Am
