/- The abstract machine, part 5: how the relation of the heaps outlasts what operations do to the world. -/
import Derived.Test.YtajhbehiecgflaaAm4
namespace Go.Am

variable {h h' : Heap} {μ μ' : Mu} {w w' : World}

theorem cell_of_heap {b o : Nat} (e : w'.heap[b]? = w.heap[b]?) : w'.cell? ⟨b, o, none⟩ = w.cell? ⟨b, o, none⟩ := by
  unfold World.cell?
  simp only [e]

theorem cell_of_block {b n o : Nat} {c : Array Value} (hb : Block w b n c) : w.cell? ⟨b, o, none⟩ = c[o]? := by
  obtain ⟨_, E, lo, hi, he, _⟩ := hb
  unfold World.cell?
  simp [he]

theorem imm_le (H : ∀ (b o : Nat) (v : Value), ¬ Owned h μ b o → w.cell? ⟨b, o, none⟩ = some v → ¬ Owned h' μ' b o ∧ w'.cell? ⟨b, o, none⟩ = some v)
    (HB : ∀ (b : Nat) (o : Go.Obj), ¬ Taken μ b → w.heap[b]? = some o → ¬ Taken μ' b ∧ w'.heap[b]? = some o) (HZ : zed w' = zed w) : (imm h μ w).le (imm h' μ' w') := by
  refine ⟨fun b o v hv => ?_, fun b o hv => ?_, congrArg some HZ⟩
  · obtain ⟨h1, h2⟩ := imm_some.1 hv
    exact imm_some.2 (H b o v h1 h2)
  · obtain ⟨h1, h2⟩ := imm_blk.1 hv
    exact imm_blk.2 (HB b o h1 h2)

theorem blk_lt {b : Nat} {o : Go.Obj} (hb : w.heap[b]? = some o) : b < w.heap.size := (Array.getElem?_eq_some_iff.1 hb).1

theorem Block.keep {b n : Nat} {c : Array Value} (e : w'.heap[b]? = w.heap[b]?) (hb : Block w b n c) : Block w' b n c := by
  obtain ⟨h1, E, lo, hi, he, h2⟩ := hb
  exact ⟨h1, E, lo, hi, by rw [e]; exact he, h2⟩

theorem ObjRel.keep {M M' : Mem} {o : Obj} {m : Option (Nat × Nat)} (E : Evo M h μ M' h' μ') (hw : ∀ b n, m = some (b, n) → w'.heap[b]? = w.heap[b]?)
    (H : ObjRel M h μ w o m) : ObjRel M' h' μ' w' o m := by
  cases o with
  | box cs =>
    obtain ⟨b, c, rfl, hb, hc⟩ := H
    refine ⟨b, c, rfl, hb.keep (hw _ _ rfl), fun j x hx => ?_⟩
    obtain ⟨h1, v, h2, h3⟩ := hc j x hx
    exact ⟨h1, v, h2, h3.evo E⟩
  | row sh xs fz =>
    obtain ⟨h1, h2, h3⟩ := H
    refine ⟨h1, h2, ?_⟩
    cases m with
    | none => exact h3
    | some m =>
      obtain ⟨b, n⟩ := m
      obtain ⟨c, h4, h5, h6⟩ := h3
      refine ⟨c, h4.keep (hw _ _ rfl), h5, fun i j x y hx hy => ?_⟩
      obtain ⟨v, h7, h8⟩ := h6 i j x y hx hy
      exact ⟨v, h7, h8.mono E.le⟩
  | amap es clk =>
    obtain ⟨b, n, ces, rfl, h1, h2, h3⟩ := H
    refine ⟨b, n, ces, rfl, by rw [hw _ _ rfl]; exact h1, h2, fun i e ce he hc => ?_⟩
    obtain ⟨h4, h5, h6, h7⟩ := h3 i e ce he hc
    exact ⟨h4.mono E.le, h5, h6.evo E, h7⟩
  | iter mm s seen l =>
    obtain ⟨b, n, rfl, h1⟩ := H
    refine ⟨b, n, rfl, ?_⟩
    cases mm with
    | none => dsimp only at h1 ⊢; rw [hw _ _ rfl]; exact h1
    | some id =>
      obtain ⟨bm, nm, es, c, h2, h3, h4⟩ := h1
      obtain ⟨o', m', h5, h6, ⟨es', c', rfl⟩, rfl⟩ := E.obj id _ _ h3 h2
      exact ⟨bm, nm, es', c', h6, h5, by rw [hw _ _ rfl]; exact h4⟩

/-- The old blocks are as they were. -/
structure WExt (w w' : World) : Prop where
  left : w.heap.size ≤ w'.heap.size
  right : ∀ b, b < w.heap.size → w'.heap[b]? = w.heap[b]?
  zz : zed w' = zed w

theorem WExt.refl (w : World) : WExt w w := ⟨Nat.le_refl _, fun _ _ => rfl, rfl⟩
theorem WExt.trans {w w' w'' : World} (a : WExt w w') (b : WExt w' w'') : WExt w w'' :=
  ⟨Nat.le_trans a.1 b.1, fun x hx => (b.2 x (Nat.lt_of_lt_of_le hx a.1)).trans (a.2 x hx), b.zz.trans a.zz⟩
theorem WExt.push (w : World) (o : Go.Obj) : WExt w { w with heap := w.heap.push o } :=
  ⟨by simp, fun b hb => by simp [Array.getElem?_push, Nat.ne_of_lt hb], rfl⟩
theorem WExt.drew (w : World) (n : Nat) : WExt w { w with drawn := n } := ⟨Nat.le_refl _, fun _ _ => rfl, rfl⟩

theorem cell_lt {b o : Nat} {v : Value} (hv : w.cell? ⟨b, o, none⟩ = some v) : b < w.heap.size := by
  rcases Nat.lt_or_ge b w.heap.size with h | h
  · exact h
  · unfold World.cell? at hv
    simp [Array.getElem?_eq_none h] at hv

theorem HeapRel.ext (H : HeapRel h μ w) (hw : WExt w w') : HeapRel h μ w' ∧ Evo (imm h μ w) h μ (imm h μ w') h μ := by
  have E : Evo (imm h μ w) h μ (imm h μ w') h μ :=
    ⟨imm_le (fun b o v h1 h2 => ⟨h1, by rw [cell_of_heap (hw.2 b (cell_lt h2))]; exact h2⟩) (fun b o h1 h2 => ⟨h1, by rw [hw.2 b (blk_lt h2)]; exact h2⟩) hw.zz, Nat.le_refl _, fun _ o m h1 h2 => ⟨o, m, h1, h2, OEvo.refl o m⟩⟩
  exact ⟨⟨H.len, fun id o m h1 h2 => (H.obj id o m h1 h2).keep E fun b n e => hw.2 b (H.inside id b n (e ▸ h2)), H.distinct, fun i b n hb => Nat.lt_of_lt_of_le (H.inside i b n hb) hw.1⟩, E⟩

theorem get_push {α : Type} {l : List α} {x y : α} {i : Nat} (hy : (l ++ [x])[i]? = some y) : l[i]? = some y ∨ (i = l.length ∧ y = x) := by
  rcases Nat.lt_trichotomy i l.length with h | h | h
  · left; rw [List.getElem?_append_left h] at hy; exact hy
  · right; subst h; simp at hy; exact ⟨rfl, hy.symm⟩
  · rw [List.getElem?_append_right (by omega)] at hy
    have : 1 ≤ i - l.length := by omega
    rw [List.getElem?_eq_none (by simpa using this)] at hy; cases hy

theorem get_left {α : Type} {l r : List α} {y : α} {i : Nat} (hy : l[i]? = some y) : (l ++ r)[i]? = some y := by
  rw [List.getElem?_append_left (lt_of_get hy)]; exact hy

theorem HeapRel.push (H : HeapRel h μ w) (hw : WExt w w') (o : Obj) (m : Option (Nat × Nat)) (hm : ∀ b n, m = some (b, n) → w.heap.size ≤ b ∧ b < w'.heap.size)
    (ho : ∀ M', Evo (imm h μ w) h μ M' (h ++ [o]) (μ ++ [m]) → ObjRel M' (h ++ [o]) (μ ++ [m]) w' o m) :
    HeapRel (h ++ [o]) (μ ++ [m]) w' ∧ Evo (imm h μ w) h μ (imm (h ++ [o]) (μ ++ [m]) w') (h ++ [o]) (μ ++ [m]) := by
  have hO : ∀ b x, b < w.heap.size → Owned (h ++ [o]) (μ ++ [m]) b x → Owned h μ b x := by
    rintro b x hb ⟨id, n, h1, h2⟩
    rcases get_push h1 with h1 | ⟨_, h1⟩
    · refine ⟨id, n, h1, fun sh xs fz h3 => h2 sh xs fz (get_left h3)⟩
    · have := (hm b n h1.symm).1; omega
  have E : Evo (imm h μ w) h μ (imm (h ++ [o]) (μ ++ [m]) w') (h ++ [o]) (μ ++ [m]) :=
    ⟨imm_le (fun b x v h1 h2 => ⟨fun h3 => h1 (hO b x (cell_lt h2) h3), by rw [cell_of_heap (hw.2 b (cell_lt h2))]; exact h2⟩) (fun b o h1 h2 => ⟨(by
      rintro ⟨i, n, h3⟩
      rcases get_push h3 with h3 | ⟨_, h3⟩
      · exact h1 ⟨i, n, h3⟩
      · have := (hm b n h3.symm).1; have := blk_lt h2; omega), by rw [hw.2 b (blk_lt h2)]; exact h2⟩) hw.zz, by simp,
      fun _ o m h1 h2 => ⟨o, m, get_left h1, get_left h2, OEvo.refl o m⟩⟩
  refine ⟨⟨by simp [H.len], fun id o' m' h1 h2 => ?_, fun i j b n n' h1 h2 => ?_, fun i b n h1 => ?_⟩, E⟩
  · rcases get_push h1 with h1 | ⟨e, e'⟩
    · rw [List.getElem?_append_left (by rw [H.len]; exact lt_of_get h1)] at h2
      exact (H.obj id o' m' h1 h2).keep E fun b n e => hw.2 b (H.inside id b n (e ▸ h2))
    · subst e'
      rw [e, ← H.len] at h2
      simp at h2
      subst h2
      exact ho _ E
  · rcases get_push h1 with h1 | ⟨e1, e1'⟩
    · rcases get_push h2 with h2 | ⟨e2, e2'⟩
      · exact H.distinct i j b n n' h1 h2
      · have h3 := H.inside i b n h1; have := (hm b n' e2'.symm).1; omega
    · rcases get_push h2 with h2 | ⟨e2, e2'⟩
      · have h3 := H.inside j b n' h2; have := (hm b n e1'.symm).1; omega
      · rw [e1, e2]
  · rcases get_push h1 with h1 | ⟨_, h1⟩
    · exact Nat.lt_of_lt_of_le (H.inside i b n h1) hw.1
    · exact (hm b n h1.symm).2

theorem get_set {α : Type} {l : List α} {x y : α} {i j : Nat} (hy : (l.set i x)[j]? = some y) : (i ≠ j ∧ l[j]? = some y) ∨ (i = j ∧ y = x ∧ j < l.length) := by
  by_cases e : i = j
  · subst e
    right
    have hl : i < l.length := by simpa using lt_of_get hy
    rw [List.getElem?_set_self hl] at hy
    exact ⟨rfl, by simpa using hy.symm, hl⟩
  · left; rw [List.getElem?_set_ne e] at hy; exact ⟨e, hy⟩

theorem set_same {α : Type} {l : List α} {x y : α} {i : Nat} (hy : l[i]? = some y) : (l.set i x)[i]? = some x := List.getElem?_set_self (lt_of_get hy)

theorem HeapRel.set (H : HeapRel h μ w) {id : Nat} {o o' : Obj} {m m' : Option (Nat × Nat)} (ho : h[id]? = some o) (hm : μ[id]? = some m) (hev : OEvo o m o' m')
    (hz : zed w' = zed w) (hsz : w.heap.size ≤ w'.heap.size) (hw : ∀ b, b < w.heap.size → (∀ n, m ≠ some (b, n)) → w'.heap[b]? = w.heap[b]?)
    (hm' : ∀ b n, m' = some (b, n) → (∃ n0, m = some (b, n0)) ∨ (w.heap.size ≤ b ∧ b < w'.heap.size))
    (hfz : ∀ b n sh xs fz, m = some (b, n) → o = .row sh xs fz → ∃ xs' fz', o' = .row sh xs' fz' ∧ ∀ j, j < fz * shSize sh → w'.cell? ⟨b, j, none⟩ = w.cell? ⟨b, j, none⟩ ∧ (∀ n', m' = some (b, n') → j < fz' * shSize sh))
    (hob : ∀ M', Evo (imm h μ w) h μ M' (h.set id o') (μ.set id m') → ObjRel M' (h.set id o') (μ.set id m') w' o' m') :
    HeapRel (h.set id o') (μ.set id m') w' ∧ Evo (imm h μ w) h μ (imm (h.set id o') (μ.set id m') w') (h.set id o') (μ.set id m') := by
  have E : Evo (imm h μ w) h μ (imm (h.set id o') (μ.set id m') w') (h.set id o') (μ.set id m') := by
    refine ⟨imm_le (fun b x v h1 h2 => ?_) (fun b o1 h1 h2 => ⟨(by
      rintro ⟨i, n, h3⟩
      rcases get_set h3 with ⟨_, h3⟩ | ⟨_, h3, _⟩
      · exact h1 ⟨i, n, h3⟩
      · rcases hm' b n h3.symm with ⟨n0, e⟩ | ⟨e, _⟩
        · exact h1 ⟨id, n0, by rw [hm, e]⟩
        · have := blk_lt h2; omega), by rw [hw b (blk_lt h2) (fun n e => h1 ⟨id, n, by rw [hm, e]⟩)]; exact h2⟩) hz, by simp, fun i o1 m1 h1 h2 => ?_⟩
    · have hb := cell_lt h2
      by_cases hmb : ∃ n, m = some (b, n)
      · obtain ⟨n, rfl⟩ := hmb
        have hnot : ∃ sh xs fz, h[id]? = some (.row sh xs fz) ∧ x < fz * shSize sh := by
          apply Classical.byContradiction
          intro hc
          exact h1 ⟨id, n, hm, fun sh xs fz h3 => by
            rcases Nat.lt_or_ge x (fz * shSize sh) with h4 | h4
            · exact absurd ⟨sh, xs, fz, h3, h4⟩ hc
            · exact h4⟩
        obtain ⟨sh, xs, fz, h3, h4⟩ := hnot
        rw [ho] at h3
        injection h3 with h3
        obtain ⟨xs', fz', rfl, h5⟩ := hfz b n sh xs fz rfl h3
        obtain ⟨h6, h7⟩ := h5 x h4
        refine ⟨?_, by rw [h6]; exact h2⟩
        rintro ⟨i, n', h8, h9⟩
        rcases get_set h8 with ⟨hne, h8⟩ | ⟨rfl, h8, _⟩
        · exact hne (H.distinct id i b n n' hm h8)
        · have := h9 sh xs' fz' (set_same ho)
          have := h7 n' h8.symm
          omega
      · refine ⟨?_, by rw [cell_of_heap (hw b hb (fun n e => hmb ⟨n, e⟩))]; exact h2⟩
        rintro ⟨i, n', h8, h9⟩
        rcases get_set h8 with ⟨hne, h8⟩ | ⟨rfl, h8, _⟩
        · exact h1 ⟨i, n', h8, fun sh xs fz h10 => h9 sh xs fz (by rw [List.getElem?_set_ne hne]; exact h10)⟩
        · rcases hm' b n' h8.symm with ⟨n0, e⟩ | ⟨e, _⟩
          · exact hmb ⟨n0, e⟩
          · omega
    · by_cases e : id = i
      · subst e
        rw [ho] at h1; rw [hm] at h2
        injection h1 with h1; injection h2 with h2
        subst h1; subst h2
        exact ⟨o', m', set_same ho, set_same hm, hev⟩
      · exact ⟨o1, m1, by rw [List.getElem?_set_ne e]; exact h1, by rw [List.getElem?_set_ne e]; exact h2, OEvo.refl _ _⟩
  refine ⟨⟨by simp [H.len], fun i o1 m1 h1 h2 => ?_, fun i j b n n' h1 h2 => ?_, fun i b n h1 => ?_⟩, E⟩
  · rcases get_set h1 with ⟨hne, h1⟩ | ⟨rfl, rfl, _⟩
    · rw [List.getElem?_set_ne hne] at h2
      refine (H.obj i o1 m1 h1 h2).keep E fun b n e => hw b (H.inside i b n (e ▸ h2)) fun n' e' => ?_
      subst e; subst e'
      exact hne (H.distinct id i b n' n hm h2)
    · rw [set_same hm] at h2
      injection h2 with h2
      subst h2
      exact hob _ E
  · rcases get_set h1 with ⟨hne, h1⟩ | ⟨rfl, h1, _⟩
    · rcases get_set h2 with ⟨hne', h2⟩ | ⟨rfl, h2, _⟩
      · exact H.distinct i j b n n' h1 h2
      · rcases hm' b n' h2.symm with ⟨n0, e⟩ | ⟨e, _⟩
        · subst e; exact absurd (H.distinct id i b n0 n hm h1) hne
        · have := H.inside i b n h1; omega
    · rcases get_set h2 with ⟨hne', h2⟩ | ⟨rfl, h2, _⟩
      · rcases hm' b n h1.symm with ⟨n0, e⟩ | ⟨e, _⟩
        · subst e; exact absurd (H.distinct id j b n0 n' hm h2) hne'
        · have := H.inside j b n' h2; omega
      · rfl
  · rcases get_set h1 with ⟨hne, h1⟩ | ⟨rfl, h1, _⟩
    · exact Nat.lt_of_lt_of_le (H.inside i b n h1) hsz
    · rcases hm' b n h1.symm with ⟨n0, e⟩ | ⟨_, e⟩
      · subst e; exact Nat.lt_of_lt_of_le (H.inside id b n0 hm) hsz
      · exact e

/-- A heap whose newer objects are forgotten. -/
theorem HeapRel.take (H : HeapRel h μ w) (n : Nat) (ht : ∀ id o, h[id]? = some o → id < n → o.top ≤ n) :
    HeapRel (h.take n) (μ.take n) w ∧ (imm h μ w).le (imm (h.take n) (μ.take n) w) := by
  have get : ∀ {α : Type} {l : List α} {i : Nat} {y : α}, (l.take n)[i]? = some y → i < n ∧ l[i]? = some y := by
    intro α l i y hy
    rw [List.getElem?_take] at hy
    by_cases hi : i < n
    · rw [if_pos hi] at hy; exact ⟨hi, hy⟩
    · rw [if_neg hi] at hy; cases hy
  have put : ∀ {α : Type} {l : List α} {i : Nat} {y : α}, l[i]? = some y → i < n → (l.take n)[i]? = some y := by
    intro α l i y hy hi
    rw [List.getElem?_take, if_pos hi, hy]
  have L : (imm h μ w).le (imm (h.take n) (μ.take n) w) := imm_le (fun b x v h1 h2 => ⟨fun ⟨id, k, h3, h4⟩ => h1 ⟨id, k, (get h3).2, fun sh xs fz h5 => h4 sh xs fz (put h5 (get h3).1)⟩, h2⟩) (fun b o h1 h2 => ⟨fun ⟨i, k, h3⟩ => h1 ⟨i, k, (get h3).2⟩, h2⟩) rfl
  refine ⟨⟨by simp [H.len], fun id o m h1 h2 => ?_, fun i j b k k' h1 h2 => H.distinct i j b k k' (get h1).2 (get h2).2, fun i b k h1 => H.inside i b k (get h1).2⟩, L⟩
  obtain ⟨hi, h1⟩ := get h1
  obtain ⟨_, h2⟩ := get h2
  have hR := H.obj id o m h1 h2
  have htop := ht id o h1 hi
  cases o with
  | box cs =>
    obtain ⟨b, c, rfl, hb, hc⟩ := hR
    refine ⟨b, c, rfl, hb, fun j x hx => ?_⟩
    obtain ⟨h3, v, h4, h5⟩ := hc j x hx
    exact ⟨h3, v, h4, h5.take L (by have := le_tops hx; simp only [Obj.top] at htop; omega)⟩
  | row sh xs fz =>
    obtain ⟨h3, h4, h5⟩ := hR
    refine ⟨h3, h4, ?_⟩
    cases m with
    | none => exact h5
    | some m =>
      obtain ⟨b, k⟩ := m
      obtain ⟨c, h6, h7, h8⟩ := h5
      refine ⟨c, h6, h7, fun i j x y hx hy => ?_⟩
      obtain ⟨v, h9, h10⟩ := h8 i j x y hx hy
      exact ⟨v, h9, h10.mono L⟩
  | amap es clk =>
    obtain ⟨b, k, ces, rfl, h3, h4, h5⟩ := hR
    refine ⟨b, k, ces, rfl, h3, h4, fun i e ce he hc => ?_⟩
    obtain ⟨h6, h7, h8, h9⟩ := h5 i e ce he hc
    refine ⟨h6.mono L, h7, h8.take L ?_, h9⟩
    have : (es.map ME.val)[i]? = some e.val := by simp [he]
    have := le_tops this
    simp only [Obj.top] at htop
    omega
  | iter mm s seen l =>
    obtain ⟨b, k, rfl, h3⟩ := hR
    refine ⟨b, k, rfl, ?_⟩
    cases mm with
    | none => exact h3
    | some i =>
      obtain ⟨bm, nm, es, c, h4, h5, h6⟩ := h3
      simp only [Obj.top] at htop
      exact ⟨bm, nm, es, c, put h4 (by omega), put h5 (by omega), h6⟩

end Go.Am
