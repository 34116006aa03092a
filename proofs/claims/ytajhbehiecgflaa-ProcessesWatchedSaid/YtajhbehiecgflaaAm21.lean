/- The abstract machine, part 21: code. -/
import Derived.Test.YtajhbehiecgflaaAmG
set_option linter.unusedSimpArgs false
set_option linter.unusedVariables false
set_option maxHeartbeats 1000000
namespace Go.Am

variable {h h' : Heap} {μ μ' : Mu} {w w' : World} {P : Program} {M M' : Mem}
variable {gl : Nat → Option PV} {nt : Nat} {M0 : Mem} {h0 : Heap} {μ0 : Mu} {e : List (Nat × AV)} {x : Esc} {a : Act}

theorem obj_top (H : HeapRel h μ w) {id : Nat} {o : Obj} (ho : h[id]? = some o) : o.top ≤ h.length := by
  obtain ⟨m, hm, hO⟩ := obj_at H ho
  cases o with
  | box cs =>
    obtain ⟨b, c, rfl, hb, hc⟩ := hO
    exact boxTop H hc
  | row sh xs fz => simp [Obj.top]
  | amap es c =>
    obtain ⟨b, n, ces, rfl, h1, h2, h3⟩ := hO
    refine tops_le (fun j y hy => ?_)
    simp only [List.getElem?_map, Option.map_eq_some_iff] at hy
    obtain ⟨en, he, rfl⟩ := hy
    have hj : j < ces.size := by rw [h2]; exact lt_of_get he
    exact (h3 j en ces[j] he (Array.getElem?_eq_getElem hj)).2.2.1.top_le
  | iter mm s seen l =>
    obtain ⟨b, n, rfl, h1⟩ := hO
    cases mm with
    | none => simp [Obj.top]
    | some i =>
      obtain ⟨bm, nm, es, c, h2, h3, h4⟩ := h1
      simp only [Obj.top]
      exact lt_of_get h3

theorem topAt_le (H : HeapRel h μ w) (id : Nat) : topAt h id ≤ h.length := by
  unfold topAt
  split
  · exact obj_top H ‹_›
  · omega

theorem bump_ge (y : Esc) (n : Nat) : n ≤ bump y n := by
  unfold bump
  induction y generalizing n with
  | nil => simp
  | cons p r ih =>
    simp only [List.foldl_cons]
    split
    · exact Nat.le_trans (by omega) (ih _)
    · exact ih _

theorem close_ge : ∀ (k : Nat) (y : Esc) (n : Nat), n ≤ close k y n
  | 0, y, n => Nat.le_refl _
  | k + 1, y, n => Nat.le_trans (bump_ge y n) (close_ge k y _)

theorem Evo.take {M'' : Mem} (E : Evo M h μ M' h' μ') {n : Nat} (hn : h.length ≤ n) (L : M'.le M'') : Evo M h μ M'' (h'.take n) (μ'.take n) := by
  refine ⟨⟨fun b o v hv => L.c _ _ _ (E.le.c _ _ _ hv), fun b o hv => L.b _ _ (E.le.b _ _ hv), L.z.trans E.le.z⟩, by have := E.len; simp; omega, fun id o m h1 h2 => ?_⟩
  obtain ⟨o', m', h3, h4, h5⟩ := E.obj id o m h1 h2
  have hi : id < n := Nat.lt_of_lt_of_le (lt_of_get h1) hn
  exact ⟨o', m', by rw [List.getElem?_take, if_pos hi]; exact h3, by rw [List.getElem?_take, if_pos hi]; exact h4, h5⟩

/-- Objects that are gone: what stays. -/
theorem take_ok {hs : Heap} {μs : Mu} {Ms : Mem} {es : Esc} (Hs : ∀ id, topAt hs id ≤ hs.length) (H : HeapRel h μ w) (E : Evo Ms hs μs (imm h μ w) h μ) (I : EscInv hs h es) {n : Nat} (hn : hs.length ≤ n) (hc : closed es n = true) :
    HeapRel (h.take n) (μ.take n) w ∧ (imm h μ w).le (imm (h.take n) (μ.take n) w) ∧ Evo Ms hs μs (imm (h.take n) (μ.take n) w) (h.take n) (μ.take n) ∧ EscInv hs (h.take n) (es.filter fun y => decide (y.1 < n)) := by
  have ht : ∀ id o, h[id]? = some o → id < n → o.top ≤ n := by
    intro id o ho hi
    have h1 := I id o ho
    have h2 := Hs id
    have h3 := escTop_closed hc hi
    omega
  obtain ⟨H1, L⟩ := H.take n ht
  refine ⟨H1, L, E.take hn L, fun id o ho => ?_⟩
  rw [List.getElem?_take] at ho
  split at ho
  · rename_i hi
    rw [escTop_filter hi]
    exact I id o ho
  · cases ho

theorem aget_clean (n : Nat) (e : List (Nat × AV)) (t : Nat) : aget (clean n e) t = if (aget e t).top ≤ n then aget e t else .und := by
  induction e with
  | nil => simp [clean, aget, AV.top]
  | cons y r ih =>
    simp only [clean, List.map_cons, aget] at ih ⊢
    split
    · rfl
    · exact ih

theorem aget_prune (keep : Option (List Nat)) (e : List (Nat × AV)) (t : Nat) : aget (prune keep e) t = aget e t ∨ aget (prune keep e) t = .und := by
  cases keep with
  | none => exact .inl rfl
  | some l =>
    simp only [prune]
    induction l with
    | nil => exact .inr rfl
    | cons k r ih =>
      simp only [List.map_cons, aget]
      split
      · rename_i hk; subst hk; exact .inl rfl
      · exact ih

theorem trunc_ok {x0 : Esc} {s : St} {hs : Heap} {μs : Mu} {ws : World} {e0 : List (Nat × AV)} {a0 : Act} (R : Rel gl nt M0 h0 μ0 e0 hs x0 a0 ws μs) (R' : Rel gl nt (imm hs μs ws) hs μs s.env s.h s.esc a w μ) :
    ∃ μ', Rel gl nt M0 h0 μ0 (trunc hs.length x0 s).env (trunc hs.length x0 s).h (trunc hs.length x0 s).esc a w μ' := by
  unfold trunc
  dsimp only
  split
  · rename_i hc
    have hn := close_ge s.esc.length s.esc hs.length
    generalize close s.esc.length s.esc hs.length = n at hc hn
    obtain ⟨q1, q2, q3, q4⟩ := take_ok (fun id => topAt_le R.heap id) R'.heap R'.evo R'.esc hn hc
    refine ⟨μ.take n, q1, fun t => ?_, R'.glob.mono q2, R.evo.trans q3, EscInv.trans R.esc q4, R'.size, R'.defers⟩
    dsimp only
    rw [aget_clean]
    split
    · exact (R'.env t).take q2 ‹_›
    · exact .und _
  · exact ⟨μ, R'.heap, R'.env, R'.glob, R.evo.trans R'.evo, EscInv.trans R.esc R'.esc, R'.size, R'.defers⟩

theorem Rel.drew (R : Rel gl nt M0 h0 μ0 e h x a w μ) (n : Nat) : Rel gl nt M0 h0 μ0 e h x a { w with drawn := n } μ := by
  obtain ⟨h1, h2⟩ := R.heap.ext (WExt.drew w n)
  exact ⟨h1, fun t => (R.env t).evo h2, R.glob.mono h2.le, R.evo.trans h2, R.esc, R.size, R.defers⟩

def chkCode (P : Program) (nt : Nat) : ACode → Code → Bool
  | .skip, c => match c with
    | .skip => true
    | _ => false
  | .reg aops _, c => match c with
    | .region _ ops false => chkOps P nt ops aops 0
    | _ => false
  | .draw ds _, c => match c with
    | .region _ ops true => chkDraw P nt ops ds
    | _ => false
  | .seq a b, c => match c with
    | .seq a' b' => chkCode P nt a a' && chkCode P nt b b'
    | _ => false
  | .cond t a b, c => match c with
    | .cond t' a' b' => opdOk t t' && chkCode P nt a a' && chkCode P nt b b'
    | _ => false
  | .block i b, c => match c with
    | .block i' b' => i == i' && chkCode P nt b b'
    | _ => false
  | .loop b, c => match c with
    | .loop b' => chkCode P nt b b'
    | _ => false
  | .scope b, c => chkCode P nt b c
  | .pr _ b, c => chkCode P nt b c
  | .exit i, c => match c with
    | .exit i' => i == i'
    | _ => false
  | .ret, c => match c with
    | .ret => true
    | _ => false
  | .bad, _ => true

def Ex.toExit : Ex → Exit
  | .normal => .normal
  | .exit i => .exit i
  | .ret => .ret

theorem code_sound (hm : P.follows .mixedOrders = true) {C : Hd} (hC : ∀ f a h K, C f a h K → CallOk P gl f a h K) : ∀ (c : ACode) {k : Code}, chkCode P nt c k = true → ∀ {s : St} {K : Ex → St → Prop} {M0 : Mem} {h0 : Heap} {μ0 : Mu} {a : Act} {w : World} {μ : Mu} {Q : Exit → Act → World → Prop},
    AW C gl c s K → Rel gl nt M0 h0 μ0 s.env s.h s.esc a w μ → (∀ ex s' a' w' μ', K ex s' → Rel gl nt M0 h0 μ0 s'.env s'.h s'.esc a' w' μ' → Q ex.toExit a' w') → k.wp P Q a w
  | .skip, k, hc, s, K, M0, h0, μ0, a, w, μ, Q, H, R, hQ => by
    simp only [chkCode] at hc
    split at hc
    · exact wp_skip (hQ .normal _ _ _ _ H R)
    · cases hc
  | .reg aops keep, k, hc, s, K, M0, h0, μ0, a, w, μ, Q, H, R, hQ => by
    simp only [chkCode] at hc
    split at hc
    · rename_i id ops
      refine wp_region ?_
      have := reg_sound hC aops 0 (Q := Q) hc H R (fun e h x a w μ hk R' => hQ .normal ⟨prune keep e, h, x⟩ a w μ hk ⟨R'.heap, fun t => ?_, R'.glob, R'.evo, R'.esc, R'.size, R'.defers⟩)
      · rwa [Nat.sub_zero, ← List.range_eq_range'] at this
      · rcases aget_prune keep e t with q | q
        · rw [q]; exact R'.env t
        · rw [q]; exact .und _
    · cases hc
  | .draw ds keep, k, hc, s, K, M0, h0, μ0, a, w, μ, Q, H, R, hQ => by
    simp only [chkCode] at hc
    split at hc
    · rename_i id ops
      refine wp_region_any hm ?_
      exact draw_sound hC (Q := Q) hc H (R.drew _) (fun e h x a w μ hk R' => hQ .normal ⟨prune keep e, h, x⟩ a w μ hk ⟨R'.heap, fun t => (by
        rcases aget_prune keep e t with q | q
        · rw [q]; exact R'.env t
        · rw [q]; exact .und _), R'.glob, R'.evo, R'.esc, R'.size, R'.defers⟩)
    · cases hc
  | .seq c1 c2, k, hc, s, K, M0, h0, μ0, a, w, μ, Q, H, R, hQ => by
    simp only [chkCode] at hc
    split at hc
    · simp only [Bool.and_eq_true] at hc
      refine wp_seq (code_sound hm hC c1 hc.1 H R (fun ex s' a' w' μ' hk R' => ?_))
      cases ex with
      | normal => exact code_sound hm hC c2 hc.2 hk R' hQ
      | exit i => exact hQ (.exit i) _ _ _ _ hk R'
      | ret => exact hQ .ret _ _ _ _ hk R'
    · cases hc
  | .cond t c1 c2, k, hc, s, K, M0, h0, μ0, a, w, μ, Q, H, R, hQ => by
    simp only [chkCode] at hc
    split at hc
    · simp only [Bool.and_eq_true] at hc
      unfold AW at H
      split at H
      · rename_i b hb
        have ht := R.opds _ _ hc.1.1
        rw [hb] at ht
        refine wp_cond ht.p_bool ?_
        cases b with
        | true => exact code_sound hm hC c1 hc.1.2 H R hQ
        | false => exact code_sound hm hC c2 hc.2 H R hQ
      · exact H.elim
    · cases hc
  | .block i c, k, hc, s, K, M0, h0, μ0, a, w, μ, Q, H, R, hQ => by
    simp only [chkCode] at hc
    split at hc
    · simp only [Bool.and_eq_true, beq_iff_eq] at hc
      obtain ⟨rfl, hc⟩ := hc
      refine wp_block (code_sound hm hC c hc H R (fun ex s' a' w' μ' hk R' => ?_))
      cases ex with
      | normal => exact hQ .normal _ _ _ _ hk R'
      | exit j =>
        simp only [Ex.toExit, Exit.inBlock]
        dsimp only at hk
        split
        · rename_i hj; rw [if_pos hj] at hk; exact hQ .normal _ _ _ _ hk R'
        · rename_i hj; rw [if_neg hj] at hk; exact hQ (.exit j) _ _ _ _ hk R'
      | ret => exact hQ .ret _ _ _ _ hk R'
    · cases hc
  | .loop c, k, hc, s, K, M0, h0, μ0, a, w, μ, Q, H, R, hQ => by
    simp only [chkCode] at hc
    split at hc
    · rename_i b'
      intro b k cs
      have key : ∀ (s : St), ALoop (AW C gl c) K s → ∀ (a : Act) (w : World) (μ : Mu), Rel gl nt M0 h0 μ0 s.env s.h s.esc a w μ →
          ∃ e a' w', Q e a' w' ∧ Arrives P (lone (b.at a (.code b' :: .inLoop b' :: k)) cs w) b k cs e a' w' := by
        intro s H
        induction H with
        | mk s T hT hn he hr ih =>
          intro a w μ R
          obtain ⟨e, a1, w1, hq, harr⟩ := code_sound hm hC c hc (Q := fun e a' w' => match e with
            | .normal => ∃ s' μ', T .normal s' ∧ Rel gl nt M0 h0 μ0 s'.env s'.h s'.esc a' w' μ'
            | e => Q e a' w') hT R (fun ex s' a' w' μ' hk R' => by
              cases ex with
              | normal => exact ⟨s', μ', hk, R'⟩
              | exit i => exact hQ (.exit i) _ _ _ _ (he _ _ hk) R'
              | ret => exact hQ .ret _ _ _ _ (hr _ hk) R') b (.inLoop b' :: k) cs
          cases e with
          | normal =>
            obtain ⟨s', μ', hk, R'⟩ := hq
            obtain ⟨e2, a2, w2, hq2, harr2⟩ := ih s' hk a1 w1 μ' R'
            exact ⟨e2, a2, w2, hq2, .of_steps (Steps.trans harr (.one step_inLoop)) harr2⟩
          | exit id => exact ⟨_, a1, w1, hq, .pass (x := .inLoop b') rfl (fun _ _ => .inl (by simp)) harr⟩
          | goto l => exact ⟨_, a1, w1, hq, .pass (x := .inLoop b') rfl (fun _ _ => .inl (by simp)) harr⟩
          | ret => exact ⟨_, a1, w1, hq, .pass (x := .inLoop b') rfl (fun _ _ => .inl (by simp)) harr⟩
          | panic ch => exact ⟨_, a1, w1, hq, .pass (x := .inLoop b') rfl (fun _ _ => .inl (by simp)) harr⟩
          | outgrown => exact ⟨_, a1, w1, hq, .pass (x := .inLoop b') rfl (fun _ _ => .inl (by simp)) harr⟩
      obtain ⟨e, a', w', hq, harr⟩ := key s H a w μ R
      exact ⟨e, a', w', hq, .of_steps (.one step_loop) harr⟩
    · cases hc
  | .scope c, k, hc, s, K, M0, h0, μ0, a, w, μ, Q, H, R, hQ => by
    simp only [chkCode] at hc
    refine code_sound hm hC c hc (M0 := imm s.h μ w) (h0 := s.h) (μ0 := μ) H ⟨R.heap, R.env, R.glob, Evo.refl _ _ _, EscInv.refl _ _, R.size, R.defers⟩ (fun ex s' a' w' μ' hk R' => ?_)
    obtain ⟨μ'', R''⟩ := trunc_ok R R'
    exact hQ ex _ _ _ _ hk R''
  | .pr l c, k, hc, s, K, M0, h0, μ0, a, w, μ, Q, H, R, hQ => by
    simp only [chkCode] at hc
    refine code_sound hm hC c hc H ⟨R.heap, fun t => ?_, R.glob, R.evo, R.esc, R.size, R.defers⟩ hQ
    dsimp only
    rcases aget_prune (some l) s.env t with q | q
    · rw [q]; exact R.env t
    · rw [q]; exact .und _
  | .exit i, k, hc, s, K, M0, h0, μ0, a, w, μ, Q, H, R, hQ => by
    simp only [chkCode] at hc
    split at hc
    · simp only [beq_iff_eq] at hc
      subst hc
      exact wp_exit (hQ (.exit i) _ _ _ _ H R)
    · cases hc
  | .ret, k, hc, s, K, M0, h0, μ0, a, w, μ, Q, H, R, hQ => by
    simp only [chkCode] at hc
    split at hc
    · exact wp_ret (hQ .ret _ _ _ _ H R)
    · cases hc
  | .bad, k, hc, s, K, M0, h0, μ0, a, w, μ, Q, H, R, hQ => H.elim

end Go.Am
