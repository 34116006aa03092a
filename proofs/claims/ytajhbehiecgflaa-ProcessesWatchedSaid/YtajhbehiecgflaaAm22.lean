/- The abstract machine, part 22: results, calls; a call that ends well here ends well in the model. -/
import Derived.Test.YtajhbehiecgflaaAm21
set_option linter.unusedSimpArgs false
set_option linter.unusedVariables false
set_option maxHeartbeats 1000000
namespace Go.Am

variable {h h' : Heap} {μ μ' : Mu} {w w' : World} {P : Program} {M M' : Mem}
variable {gl : Nat → Option PV} {nt : Nat} {M0 : Mem} {h0 : Heap} {μ0 : Mu} {e : List (Nat × AV)} {x : Esc} {a : Act}

/-! ### results -/

def chkRes (P : Program) : List ARes → List ResultVar → Bool
  | [], [] => true
  | .t n :: r, .tmp m :: s => n == m && chkRes P r s
  | .cell n sh :: r, .cell m t :: s => n == m && shOf P t == some sh && chkRes P r s
  | _, _ => false

def resM (tmps : Array Value) : ResultVar → Sem Value
  | .tmp t => pure (tmps.getD t undef)
  | .cell a t => do loadVar t (← asAddr (tmps.getD a undef))

theorem res_ok {s : St} (H : HeapRel s.h μ w) (he : ∀ t, RAV (imm s.h μ w) s.h μ (aget s.env t) (a.tmps.getD t undef)) : ∀ {rs : List ARes} {qs : List ResultVar} {vs : List AV}, chkRes P rs qs = true → aresAll s rs = some vs →
    ∃ us, (qs.mapM (resM a.tmps)).run P w = .ok us w ∧ vs.length = us.length ∧ ∀ (j : Nat) (y : AV) (v : Value), vs[j]? = some y → us[j]? = some v → RAV (imm s.h μ w) s.h μ y v
  | [], [], vs, _, hv => by
    simp [aresAll] at hv
    subst hv
    exact ⟨[], by simp, rfl, fun j y v h1 h2 => by simp at h1⟩
  | [], _ :: _, _, hc, _ => by simp [chkRes] at hc
  | .t n :: r, [], _, hc, _ => by simp [chkRes] at hc
  | .cell n sh :: r, [], _, hc, _ => by simp [chkRes] at hc
  | .t n :: r, .cell _ _ :: q, _, hc, _ => by simp [chkRes] at hc
  | .cell n sh :: r, .tmp _ :: q, _, hc, _ => by simp [chkRes] at hc
  | .t n :: r, .tmp m :: q, vs, hc, hv => by
    simp only [chkRes, Bool.and_eq_true, beq_iff_eq] at hc
    obtain ⟨rfl, hc⟩ := hc
    simp only [aresAll, ares] at hv
    simp only [Option.map_eq_some_iff] at hv
    obtain ⟨l, hl, rfl⟩ := hv
    obtain ⟨us, h1, h2, h3⟩ := res_ok H he hc hl
    refine ⟨a.tmps.getD n undef :: us, by simp [resM, h1], by simp [h2], fun j y v hy hv => ?_⟩
    cases j with
    | zero => simp at hy hv; subst hy; subst hv; simpa using he n
    | succ j => exact h3 j y v (by simpa using hy) (by simpa using hv)
  | .cell n sh :: r, .cell m t :: q, vs, hc, hv => by
    simp only [chkRes, Bool.and_eq_true, beq_iff_eq] at hc
    obtain ⟨⟨rfl, hs⟩, hc⟩ := hc
    simp only [aresAll] at hv
    split at hv
    · rename_i u hu
      simp only [Option.map_eq_some_iff] at hv
      obtain ⟨l, hl, rfl⟩ := hv
      obtain ⟨us, h1, h2, h3⟩ := res_ok H he hc hl
      simp only [ares] at hu
      split at hu
      · rename_i id off hr
        split at hu
        · rename_i cs ho
          have hR := he n
          rw [hr] at hR
          generalize hz : a.tmps.getD n undef = z at hR
          cases hR with | ref _ _ b k cs' ho' hm =>
          obtain ⟨b', c, hm', hb, hcell⟩ := H.obj _ _ _ ho hm
          injection hm' with hm'
          injection hm' with e1 e2
          subst e1
          obtain ⟨c1, c2⟩ := cut_cells (M := imm s.h μ w) (h := s.h) (μ := μ) (f := fun j => (c[j]?).getD undef) hu (fun j x hx => by obtain ⟨_, v, q1, q2⟩ := hcell j x hx; simpa [q1] using q2)
          have hload : (loadVar t ⟨b, off, none⟩).run P w = .ok (shVal sh fun j => (c[off + j]?).getD undef) w := by
            refine run_loadVar hs (fun j hj => ?_)
            rw [cell_of_block hb]
            have hlt : off + j < c.size := by rw [hb.1]; have := c1; omega
            simp [hlt]
          refine ⟨(shVal sh fun j => (c[off + j]?).getD undef) :: us, ?_, by simp [h2], fun j y v hy hv => ?_⟩
          · simp only [List.mapM_cons, Sem.run_bind, resM, hz, asAddr]
            simp [hload, h1]
          · cases j with
            | zero => simp at hy hv; subst hy; subst hv; exact c2
            | succ j => exact h3 j y v (by simpa using hy) (by simpa using hv)
        · cases hu
      · cases hu
    · cases hv

theorem results_ok {fn : Func} {s : St} (H : HeapRel s.h μ w) (he : ∀ t, RAV (imm s.h μ w) s.h μ (aget s.env t) (a.tmps.getD t undef)) {rs : List ARes} {vs : List AV} (hc : chkRes P rs fn.results.toList = true) (hv : aresAll s rs = some vs) :
    ∃ u, (results fn a.tmps).run P w = .ok u w ∧ RAV (imm s.h μ w) s.h μ (oneOf vs) u := by
  obtain ⟨us, h1, h2, h3⟩ := res_ok H he hc hv
  have hm : (fn.results.mapM (resM a.tmps)).run P w = .ok us.toArray w := by
    rw [Array.mapM_eq_mapM_toList]
    simp [h1]
  refine ⟨if hz : us.toArray.size = 1 then us.toArray[0] else .tuple us.toArray, ?_, ?_⟩
  · unfold results
    rw [Sem.run_bind]
    show (Sem.run P (fn.results.mapM (resM a.tmps)) w).andThen _ = _
    rw [hm]
    rfl
  · match vs, us, h2, h3 with
    | [v], [u], _, h3 => exact h3 0 v u rfl rfl
    | [], [], _, h3 => exact .tup [] [] rfl (fun j y v h1 h2 => by simp at h1)
    | a :: b :: r, c :: d :: q, h2, h3 => exact .tup _ (c :: d :: q) h2 h3

/-! ### values that outlast what they were made of -/

/-- A row that is forgotten reads as a list. -/
theorem own_drop (H : HeapRel h μ w) {n : Nat} (L : (imm h μ w).le (imm (h.take n) (μ.take n) w)) {id g off len : Nat} {x : Value} {sh : Sh} {xs : List PV} (R : RAV (imm h μ w) h μ (.own id g off len) x) (hr : rd h (.own id g off len) = some (sh, xs))
    (hn : n ≤ id) : RPV (imm (h.take n) (μ.take n) w) (.sl sh xs) x := by
  obtain ⟨ys, fz, ho, hc1, hc2, hr⟩ := rd_own hr
  obtain ⟨_, g2, a, cap, rfl, g3, g4⟩ := own_read H R ho hc1
  have hlen : xs.length = len := by rw [hr]; exact win_length hc2
  by_cases hne : xs = []
  · have hl0 : len = 0 := by rw [← hlen, hne]; rfl
    rw [hne, hl0]
    exact .nils _ _ _
  · have hpos : 0 < xs.length := List.length_pos_iff.2 hne
    obtain ⟨b, m, c, hm, ha, hB, hn1, hn2, hcells⟩ := g4 (by omega)
    have he : ∀ x ∈ xs, x.cells.length = shSize sh := fun x hx => shp_cells (g2 x (win_mem (hr ▸ hx)))
    have hcell : ∀ (j : Nat) (y : PV), (xs.flatMap PV.cells)[j]? = some y → ∃ v, c[off * shSize sh + j]? = some v ∧ RPV (imm h μ w) y v := by
      intro j y hy
      obtain ⟨x, h5, h6, h8, h7⟩ := flat_split he hy
      rw [hr] at h5
      have h9 := win_get h5
      have h10 := hcells _ _ x y h9.2 h6
      rw [show (off + j / shSize sh) * shSize sh + j % shSize sh = off * shSize sh + j by rw [Nat.add_mul]; omega] at h10
      exact h10
    subst ha
    have key : RPV (imm (h.take n) (μ.take n) w) (.sl sh xs) (.slice (some ⟨b, off * shSize sh, none⟩) xs.length cap) := by
      refine .sl sh xs b (off * shSize sh) cap (fun j => (c[off * shSize sh + j]?).getD undef) hne (by omega) (fun x hx => g2 x (win_mem (hr ▸ hx))) (fun j y hy => ?_) (fun j y hy => ?_)
      · obtain ⟨v, h5, h6⟩ := hcell j y hy
        refine imm_some.2 ⟨?_, by rw [cell_of_block hB, h5]; simp [h5]⟩
        rintro ⟨i, n', h8, h9⟩
        rw [List.getElem?_take] at h8
        split at h8
        · have := H.distinct i id b n' m h8 hm
          omega
        · cases h8
      · obtain ⟨v, h5, h6⟩ := hcell j y hy
        have : (c[off * shSize sh + j]?).getD undef = v := by simp [h5]
        simp only [this]
        exact h6.mono L
    rwa [hlen] at key

mutual
theorem reif_ok (H : HeapRel h μ w) {n : Nat} (L : (imm h μ w).le (imm (h.take n) (μ.take n) w)) : ∀ (v : AV) {u : AV} {x : Value}, RAV (imm h μ w) h μ v x → reif n h v = some u → u.top ≤ n → RAV (imm (h.take n) (μ.take n) w) (h.take n) (μ.take n) u x
  | .own id g off len, u, x, R, hr, ht => by
    simp only [reif] at hr
    split at hr
    · rename_i hn
      simp only [Option.map_eq_some_iff] at hr
      obtain ⟨⟨sh, xs⟩, h1, rfl⟩ := hr
      exact .p _ _ (own_drop H L R h1 hn)
    · injection hr with hr; subst hr; exact R.take L ht
  | .sl0 sh, u, x, R, hr, ht => by
    simp only [reif] at hr
    injection hr with hr
    subst hr
    obtain ⟨a, rfl⟩ := sl0_inv R
    exact .p _ _ (.nils _ _ _)
  | .agg cs, u, x, R, hr, ht => by
    simp only [reif, Option.map_eq_some_iff] at hr
    obtain ⟨us, h1, rfl⟩ := hr
    cases R with | agg _ xs hl hrr =>
    have htop : AV.tops us ≤ n := by
      unfold mkA at ht
      split at ht
      · rename_i ps hp
        have := unp_spec hp
        subst this
        rw [tops_map_p]; omega
      · simpa [AV.top] using ht
    obtain ⟨q1, q2⟩ := reifs_ok H L cs hl hrr h1 htop
    exact mkA_sound q1 q2
  | .tup cs, u, x, R, hr, ht => by
    simp only [reif, Option.map_eq_some_iff] at hr
    obtain ⟨us, h1, rfl⟩ := hr
    cases R with | tup _ xs hl hrr =>
    obtain ⟨q1, q2⟩ := reifs_ok H L cs hl hrr h1 (by simpa [AV.top] using ht)
    exact .tup us xs q1 q2
  | .p v, u, x, R, hr, ht => by simp only [reif] at hr; injection hr with hr; subst hr; exact R.take L ht
  | .ref _ _, u, x, R, hr, ht => by simp only [reif] at hr; injection hr with hr; subst hr; exact R.take L ht
  | .rref _ _ _ _, u, x, R, hr, ht => by simp only [reif] at hr; injection hr with hr; subst hr; exact R.take L ht
  | .vp _, u, x, R, hr, ht => by simp only [reif] at hr; injection hr with hr; subst hr; exact R.take L ht
  | .nilp, u, x, R, hr, ht => by simp only [reif] at hr; injection hr with hr; subst hr; exact R.take L ht
  | .nilm, u, x, R, hr, ht => by simp only [reif] at hr; injection hr with hr; subst hr; exact R.take L ht
  | .nilf, u, x, R, hr, ht => by simp only [reif] at hr; injection hr with hr; subst hr; exact R.take L ht
  | .nili, u, x, R, hr, ht => by simp only [reif] at hr; injection hr with hr; subst hr; exact R.take L ht
  | .ifc, u, x, R, hr, ht => by simp only [reif] at hr; injection hr with hr; subst hr; exact R.take L ht
  | .mp _, u, x, R, hr, ht => by simp only [reif] at hr; injection hr with hr; subst hr; exact R.take L ht
  | .it _, u, x, R, hr, ht => by simp only [reif] at hr; injection hr with hr; subst hr; exact R.take L ht
  | .fn _ _, u, x, R, hr, ht => by simp only [reif] at hr; injection hr with hr; subst hr; exact R.take L ht
  | .skp, u, x, R, hr, ht => by simp only [reif] at hr; injection hr with hr; subst hr; exact R.take L ht
  | .und, u, x, R, hr, ht => by simp only [reif] at hr; injection hr with hr; subst hr; exact R.take L ht
theorem reifs_ok (H : HeapRel h μ w) {n : Nat} (L : (imm h μ w).le (imm (h.take n) (μ.take n) w)) : ∀ (cs : List AV) {us : List AV} {xs : List Value}, cs.length = xs.length →
    (∀ (j : Nat) (y : AV) (v : Value), cs[j]? = some y → xs[j]? = some v → RAV (imm h μ w) h μ y v) → reifs n h cs = some us → AV.tops us ≤ n →
    us.length = xs.length ∧ ∀ (j : Nat) (y : AV) (v : Value), us[j]? = some y → xs[j]? = some v → RAV (imm (h.take n) (μ.take n) w) (h.take n) (μ.take n) y v
  | [], us, xs, hl, hr, e, ht => by
    simp only [reifs] at e
    injection e with e
    subst e
    exact ⟨hl, fun j y v h1 _ => by simp at h1⟩
  | c :: r, us, xs, hl, hr, e, ht => by
    cases xs with
    | nil => simp at hl
    | cons x xs =>
      simp only [reifs] at e
      split at e
      · rename_i u hu
        simp only [Option.map_eq_some_iff] at e
        obtain ⟨l, h1, rfl⟩ := e
        simp only [AV.tops] at ht
        have k1 := reif_ok H L c (hr 0 c x rfl rfl) hu (by omega)
        obtain ⟨k2, k3⟩ := reifs_ok H L r (xs := xs) (by simpa using hl) (fun j y v h1 h2 => hr (j + 1) y v (by simpa using h1) (by simpa using h2)) h1 (by omega)
        refine ⟨by simp [k2], fun j y v hy hv => ?_⟩
        cases j with
        | zero => simp at hy hv; subst hy; subst hv; exact k1
        | succ j => exact k3 j y v (by simpa using hy) (by simpa using hv)
      · cases e
end

/-! ### arguments -/

theorem puras_ok : ∀ (as : List AV) {h : Heap} {vs : List Value} {as' : List AV} {h1 : Heap}, HeapRel h μ w → as.length = vs.length →
    (∀ (j : Nat) (y : AV) (v : Value), as[j]? = some y → vs[j]? = some v → RAV (imm h μ w) h μ y v) → puras h as = some (as', h1) →
    PurOk h μ w h1 ∧ as'.length = vs.length ∧ ∀ (j : Nat) (y : AV) (v : Value), as'[j]? = some y → vs[j]? = some v → RAV (imm h1 μ w) h1 μ y v
  | [], h, vs, as', h1, H, hl, hr, e => by
    simp only [puras, Option.some.injEq, Prod.mk.injEq] at e
    obtain ⟨rfl, rfl⟩ := e
    exact ⟨⟨H, Evo.refl _ _ _, EscInv.refl _ _⟩, hl, fun j y v hy => by simp at hy⟩
  | a :: r, h, vs, as', h1, H, hl, hr, e => by
    cases vs with
    | nil => simp at hl
    | cons x vs =>
      have step : ∀ {h2 : Heap} {u : AV}, PurOk h μ w h2 → RAV (imm h2 μ w) h2 μ u x → (puras h2 r).map (fun y => (u :: y.1, y.2)) = some (as', h1) →
          PurOk h μ w h1 ∧ as'.length = (x :: vs).length ∧ ∀ (j : Nat) (y : AV) (v : Value), as'[j]? = some y → (x :: vs)[j]? = some v → RAV (imm h1 μ w) h1 μ y v := by
        intro h2 u ⟨a1, a2, a3⟩ hu e
        simp only [Option.map_eq_some_iff, Prod.mk.injEq] at e
        obtain ⟨⟨l, h3⟩, hp, rfl, rfl⟩ := e
        obtain ⟨⟨b1, b2, b3⟩, b4, b5⟩ := puras_ok r a1 (vs := vs) (by simpa using hl) (fun j y v hy hv => (hr (j + 1) y v (by simpa using hy) (by simpa using hv)).evo a2) hp
        refine ⟨⟨b1, a2.trans b2, by simpa using EscInv.trans a3 b3⟩, by simp [b4], fun j y v hy hv => ?_⟩
        cases j with
        | zero => simp at hy hv; subst hy; subst hv; exact hu.evo b2
        | succ j => exact b5 j y v (by simpa using hy) (by simpa using hv)
      have h0 := hr 0 a x rfl rfl
      cases a
      case own id g off len =>
        simp only [puras] at e
        split at e
        · rename_i z hz
          obtain ⟨sh, xs⟩ := z
          obtain ⟨k1, k2, k3, k4⟩ := own_pur H h0 hz
          exact step ⟨k1, k2, k3⟩ (.p _ _ k4) e
        · cases e
      case agg cs =>
        simp only [puras] at e
        split at e
        · rename_i pv h2 hp
          obtain ⟨k1, k2⟩ := pur_sound _ H h0 hp
          exact step k1 (.p _ _ k2) e
        · cases e
      case sl0 sh =>
        simp only [puras] at e
        obtain ⟨b, rfl⟩ := sl0_inv h0
        exact step ⟨H, Evo.refl _ _ _, EscInv.refl _ _⟩ (.p _ _ (.nils _ _ _)) e
      all_goals
        simp only [puras] at e
        exact step ⟨H, Evo.refl _ _ _, EscInv.refl _ _⟩ h0 e

end Go.Am
