/- The abstract machine, part 6: what the model's small steps on memory do (runs), and the book of newer references. -/
import Derived.Test.YtajhbehiecgflaaAm5
set_option linter.unusedSimpArgs false
set_option linter.unusedVariables false
namespace Go.Am

variable {h h' : Heap} {μ μ' : Mu} {w w' : World} {P : Program}

/-! ### the book of newer references -/

def topAt (h : Heap) (id : Nat) : Nat := match h[id]? with
  | some o => o.top
  | none => 0

def escTop : Esc → Nat → Nat
  | [], _ => 0
  | y :: r, id => max (if y.1 = id then y.2 else 0) (escTop r id)

theorem escTop_append (x y : Esc) (id : Nat) : escTop (x ++ y) id = max (escTop x id) (escTop y id) := by
  induction x with
  | nil => simp [escTop]
  | cons a r ih => simp only [List.cons_append, escTop, ih]; omega

def EscInv (h0 h : Heap) (x : Esc) : Prop := ∀ (id : Nat) (o : Obj), h[id]? = some o → o.top ≤ max (max (topAt h0 id) id) (escTop x id)

theorem EscInv.refl (h : Heap) (x : Esc) : EscInv h h x := by
  intro id o ho
  simp only [topAt, ho]
  omega

theorem EscInv.trans {h0 h1 h2 : Heap} {x1 x2 : Esc} (a : EscInv h0 h1 x1) (b : EscInv h1 h2 x2) : EscInv h0 h2 (x2 ++ x1) := by
  intro id o ho
  have h1' := b id o ho
  rw [escTop_append]
  simp only [topAt] at h1' ⊢
  cases hh : h1[id]? with
  | none => rw [hh] at h1'; simp at h1'; omega
  | some o1 =>
    rw [hh] at h1'
    have h2' := a id o1 hh
    simp only [topAt] at h2'
    dsimp only at h1'
    omega

theorem EscInv.push {h : Heap} {o : Obj} (ht : o.top ≤ h.length) : EscInv h (h ++ [o]) [] := by
  intro id o' ho
  rcases get_push ho with ho | ⟨e, e'⟩
  · simp only [topAt, ho]; omega
  · subst e'; omega

theorem EscInv.set {h : Heap} {id : Nat} {o o' : Obj} {x : Esc} (ho : h[id]? = some o) (ht : o'.top ≤ max (max o.top id) (escTop x id)) : EscInv h (h.set id o') x := by
  intro i o1 h1
  rcases get_set h1 with ⟨_, h1⟩ | ⟨rfl, rfl, _⟩
  · simp only [topAt, h1]; omega
  · simp only [topAt, ho]; omega

theorem EscInv.weaken {h0 h : Heap} {x y : Esc} (H : EscInv h0 h x) (hxy : ∀ id, escTop x id ≤ escTop y id) : EscInv h0 h y := by
  intro id o ho
  have := H id o ho
  have := hxy id
  omega

theorem escTop_escOf (id : Nat) (v : AV) : v.top ≤ max id (escTop (escOf id v) id) := by
  unfold escOf
  split
  · simp [escTop]; omega
  · simp [escTop]; omega

theorem escTop_filter {x : Esc} {n id : Nat} (hi : id < n) : escTop (x.filter fun y => decide (y.1 < n)) id = escTop x id := by
  induction x with
  | nil => rfl
  | cons a r ih =>
    by_cases ha : a.1 < n
    · simp [List.filter_cons, ha, escTop, ih]
    · have : a.1 ≠ id := by omega
      simp [List.filter_cons, ha, escTop, ih, this]

theorem escTop_closed {x : Esc} {n id : Nat} (hc : closed x n = true) (hi : id < n) : escTop x id ≤ n := by
  induction x with
  | nil => simp [escTop]
  | cons a r ih =>
    simp only [closed, List.all_cons, Bool.and_eq_true, Bool.or_eq_true, decide_eq_true_eq] at hc
    have := ih (by simpa [closed] using hc.2)
    simp only [escTop]
    split
    · have := hc.1; omega
    · omega

theorem tops_append (a b : List AV) : AV.tops (a ++ b) = max (AV.tops a) (AV.tops b) := by
  induction a with
  | nil => simp [AV.tops]
  | cons v r ih => simp only [List.cons_append, AV.tops, ih]; omega

theorem tops_take (a : List AV) (n : Nat) : AV.tops (a.take n) ≤ AV.tops a := by
  have := tops_append (a.take n) (a.drop n)
  rw [List.take_append_drop] at this
  omega

theorem tops_drop (a : List AV) (n : Nat) : AV.tops (a.drop n) ≤ AV.tops a := by
  have := tops_append (a.take n) (a.drop n)
  rw [List.take_append_drop] at this
  omega

theorem tops_splice (cs vs : List AV) (off : Nat) : AV.tops (splice cs off vs) ≤ max (AV.tops cs) (AV.tops vs) := by
  unfold splice
  rw [tops_append, tops_append]
  have := tops_take cs off
  have := tops_drop cs (off + vs.length)
  omega

theorem tops_map_p (vs : List PV) : AV.tops (vs.map AV.p) = 0 := by
  induction vs with
  | nil => rfl
  | cons v r ih => simp [AV.tops, AV.top, ih]

theorem cells_top {v : AV} {cs : List AV} (hc : v.cells = some cs) : AV.tops cs = v.top := by
  cases v with
  | p x =>
    cases x with
    | agg l => simp only [AV.cells] at hc; split at hc <;> simp at hc; subst hc; rw [tops_map_p]; simp [AV.top]
    | _ => simp [AV.cells] at hc; subst hc; simp [AV.tops, AV.top]
  | agg l => simp only [AV.cells] at hc; split at hc <;> simp at hc; subst hc; simp [AV.top]
  | tup l => simp [AV.cells] at hc
  | skp => simp [AV.cells] at hc
  | und => simp [AV.cells] at hc
  | _ => simp [AV.cells] at hc; subst hc; simp [AV.tops]

/-! ### types -/

def shOf (P : Program) (t : TypeId) : Option Sh := match P.underlying t, P.info? t with
  | some (.struct _), some i => some (some i.size)
  | some (.array _ _), some i => some (some i.size)
  | some _, some i => if i.size = 1 then some none else none
  | _, _ => none

theorem run_typeInfo_of {t : TypeId} {i : TypeInfo} (hi : P.info? t = some i) : (typeInfo t).run P w = .ok i w := by
  unfold typeInfo
  simp [hi]

theorem run_underlying_of {t : TypeId} {d : TypeDesc} (hd : P.underlying t = some d) : (underlying t).run P w = .ok d w := by
  unfold underlying
  simp [hd]

theorem run_sizeOf_of {t : TypeId} {sh : Sh} (hs : shOf P t = some sh) : (sizeOf t).run P w = .ok (shSize sh) w := by
  unfold sizeOf
  unfold shOf at hs
  cases hi : P.info? t with
  | none => simp [hi] at hs
  | some i =>
    simp only [hi] at hs
    rw [Sem.run_bind, run_typeInfo_of hi]
    split at hs <;> simp_all [shSize]
    · subst hs; rfl
    · subst hs; rfl
    · obtain ⟨h1, h2⟩ := hs; subst h2; simp

theorem run_isAgg_of {t : TypeId} {sh : Sh} (hs : shOf P t = some sh) : (isAgg t).run P w = .ok sh.isSome w := by
  unfold isAgg
  unfold shOf at hs
  cases hd : P.underlying t with
  | none => simp [hd] at hs
  | some d =>
    rw [Sem.run_bind, run_underlying_of hd]
    cases hi : P.info? t with
    | none => simp [hd, hi] at hs
    | some i => cases d <;> simp_all <;> (first | (obtain ⟨h1, h2⟩ := hs; subst h2; rfl) | (subst hs; rfl))

/-! ### addresses, loads -/

theorem add_at (b o k : Nat) : (⟨b, o, none⟩ : Addr).add k = ⟨b, o + k, none⟩ := by
  unfold Addr.add
  split
  · subst_vars; rfl
  · rfl

theorem run_load_at {b o : Nat} {v : Value} (hv : w.cell? ⟨b, o, none⟩ = some v) : (load ⟨b, o, none⟩).run P w = .ok v w := by
  rw [run_load]; simp [hv]

theorem run_loadCellsFrom {b o : Nat} {f : Nat → Value} : ∀ (n i : Nat) (acc : Array Value), (∀ j, j < n → w.cell? ⟨b, o + (i + j), none⟩ = some (f (i + j))) →
    (loadCellsFrom ⟨b, o, none⟩ i n acc).run P w = .ok (acc ++ ((List.range' i n).map f).toArray) w
  | 0, i, acc, _ => by simp [loadCellsFrom]
  | n + 1, i, acc, hf => by
    unfold loadCellsFrom
    rw [Sem.run_bind, add_at, run_load_at (v := f i) (by simpa using hf 0 (by omega))]
    simp only [Result.andThen_ok]
    rw [run_loadCellsFrom n (i + 1) _ (fun j hj => by have := hf (j + 1) (by omega); rw [show i + 1 + j = i + (j + 1) by omega]; exact this)]
    congr 1
    simp [List.range'_succ]

theorem run_loadCells {b o n : Nat} {f : Nat → Value} (hf : ∀ j, j < n → w.cell? ⟨b, o + j, none⟩ = some (f j)) :
    (loadCells ⟨b, o, none⟩ n).run P w = .ok ((List.range n).map f).toArray w := by
  unfold loadCells
  rw [run_loadCellsFrom n 0 _ (fun j hj => by rw [Nat.zero_add]; exact hf j hj)]
  simp [List.range_eq_range']

/-- A value of a shape out of its cells. -/
def shVal (sh : Sh) (f : Nat → Value) : Value := match sh with
  | none => f 0
  | some n => .agg ((List.range n).map f).toArray

/-- A load of a scalar, of n cells. -/
theorem run_loadVar {t : TypeId} {sh : Sh} (hs : shOf P t = some sh) {b o : Nat} {f : Nat → Value} (hf : ∀ j, j < shSize sh → w.cell? ⟨b, o + j, none⟩ = some (f j)) :
    (loadVar t ⟨b, o, none⟩).run P w = .ok (shVal sh f) w := by
  unfold loadVar
  rw [Sem.run_bind, run_isAgg_of hs]
  simp only [Result.andThen_ok]
  cases sh with
  | none =>
    simp only [Option.isSome, Bool.false_eq_true, if_false]
    exact run_load_at (hf 0 (by simp [shSize]))
  | some n =>
    simp only [Option.isSome, if_true]
    rw [Sem.run_bind, run_sizeOf_of hs]
    simp only [Result.andThen_ok, Sem.run_bind, shSize]
    rw [run_loadCells (f := f) (fun j hj => hf j (by simpa [shSize] using hj))]
    rfl

/-! ### stores -/

def setBlk (w : World) (b : Nat) (o : Go.Obj) : World := { w with heap := w.heap.setIfInBounds b o }

theorem setBlk_at {b : Nat} {o o' : Go.Obj} (hb : w.heap[b]? = some o) : (setBlk w b o').heap[b]? = some o' := by
  have : b < w.heap.size := by
    rcases Nat.lt_or_ge b w.heap.size with h | h
    · exact h
    · rw [Array.getElem?_eq_none h] at hb; cases hb
  simp [setBlk, this]

theorem setBlk_ne {b b' : Nat} {o' : Go.Obj} (hb : b' ≠ b) : (setBlk w b o').heap[b']? = w.heap[b']? := by
  simp [setBlk, Array.getElem?_setIfInBounds, Ne.symm hb]

theorem setBlk_size (b : Nat) (o' : Go.Obj) : (setBlk w b o').heap.size = w.heap.size := by simp [setBlk]

theorem setBlk_setBlk (b : Nat) (x y : Go.Obj) : setBlk (setBlk w b x) b y = setBlk w b y := by
  simp only [setBlk]
  congr 1
  apply Array.ext'
  simp

theorem setBlk_self {b : Nat} {o : Go.Obj} (hb : w.heap[b]? = some o) : setBlk w b o = w := by
  have hlt : b < w.heap.size := by
    rcases Nat.lt_or_ge b w.heap.size with h | h
    · exact h
    · rw [Array.getElem?_eq_none h] at hb; cases hb
  have : w.heap.setIfInBounds b o = w.heap := by
    apply Array.ext_getElem?
    intro i
    by_cases hi : b = i
    · subst hi; rw [hb, Array.getElem?_setIfInBounds_self_of_lt hlt]
    · rw [Array.getElem?_setIfInBounds_ne hi]
  simp [setBlk, this]

theorem setCell_blk {b o : Nat} {v : Value} {c : Array Value} {E : TypeId} {fr : Nat × Nat} (hb : w.heap[b]? = some (.cells c E fr)) :
    w.setCell ⟨b, o, none⟩ v = setBlk w b (.cells (c.setIfInBounds o v) E fr) := by
  have hlt : b < w.heap.size := by
    rcases Nat.lt_or_ge b w.heap.size with h | h
    · exact h
    · rw [Array.getElem?_eq_none h] at hb; cases hb
  have hb' : w.heap[b] = .cells c E fr := by
    rw [Array.getElem?_eq_getElem hlt] at hb; injection hb
  simp only [World.setCell, setBlk]
  congr 1
  apply Array.ext_getElem?
  intro i
  by_cases hi : b = i
  · subst hi
    rw [Array.getElem?_setIfInBounds_self_of_lt hlt, Array.getElem?_modify]
    simp only [hlt, if_true, Option.map_some, Array.getElem?_eq_getElem, Option.some.injEq]
    rw [hb']
    simp
  · rw [Array.getElem?_setIfInBounds_ne hi, Array.getElem?_modify]
    simp [hi]

theorem frozen_blk {b o n : Nat} {c : Array Value} (hb : Block w b n c) (ho : o < n) : w.frozen? ⟨b, o, none⟩ = false := by
  obtain ⟨_, E, lo, hi, he, hf⟩ := hb
  unfold World.frozen?
  simp only [he]
  simp
  intro h1
  rcases Nat.lt_or_ge lo hi with h2 | h2
  · have := hf h2; omega
  · omega

def setAll (c : Array Value) (o : Nat) : List Value → Array Value
  | [] => c
  | v :: r => setAll (c.setIfInBounds o v) (o + 1) r

theorem setAll_size (c : Array Value) (o : Nat) (vs : List Value) : (setAll c o vs).size = c.size := by
  induction vs generalizing c o with
  | nil => rfl
  | cons v r ih => simp [setAll, ih]

theorem setAll_get (c : Array Value) (o : Nat) (vs : List Value) (j : Nat) (hl : o + vs.length ≤ c.size) :
    (setAll c o vs)[j]? = if o ≤ j ∧ j < o + vs.length then vs[j - o]? else c[j]? := by
  induction vs generalizing c o with
  | nil => simp [setAll]; intro h1 h2; omega
  | cons v r ih =>
    simp only [setAll, List.length_cons] at hl ⊢
    rw [ih _ _ (by simp; omega)]
    by_cases h1 : o + 1 ≤ j ∧ j < o + 1 + r.length
    · rw [if_pos h1, if_pos (by omega)]
      rw [show j - o = (j - (o + 1)) + 1 by omega]
      simp
    · rw [if_neg h1]
      by_cases h2 : o = j
      · subst h2
        rw [if_pos (by omega), Array.getElem?_setIfInBounds_self_of_lt (by omega)]
        simp
      · rw [if_neg (by omega)]
        simp [Array.getElem?_setIfInBounds, h2]

theorem run_storeCells {b o n : Nat} (vs : List Value) : ∀ (w : World) (c : Array Value) (i : Nat), Block w b n c → o + i + vs.length ≤ n → (∀ v ∈ vs, v.oneCell' = true) →
    ∃ E lo hi, w.heap[b]? = some (.cells c E (lo, hi)) ∧ (storeCells ⟨b, o, none⟩ vs i).run P w = .ok () (setBlk w b (.cells (setAll c (o + i) vs) E (lo, hi))) := by
  induction vs with
  | nil =>
    intro w c i hb hl hv
    obtain ⟨h1, E, lo, hi, he, hf⟩ := hb
    refine ⟨E, lo, hi, he, ?_⟩
    simp only [storeCells, setAll, setBlk_self he]
    rfl
  | cons v r ih =>
    intro w c i hb hl hv
    have hb0 := hb
    obtain ⟨h1, E, lo, hi, he, hf⟩ := hb
    simp only [List.length_cons] at hl
    have hcell : ∃ u, w.cell? ⟨b, o + i, none⟩ = some u := by
      rw [cell_of_block hb0]
      exact ⟨c[o + i]'(by omega), Array.getElem?_eq_getElem _⟩
    obtain ⟨u, hu⟩ := hcell
    refine ⟨E, lo, hi, he, ?_⟩
    unfold storeCells
    rw [Sem.run_bind, add_at, run_store P w _ _ _ (hv v (by simp)), hu]
    simp only [frozen_blk hb0 (show o + i < n by omega), Bool.false_eq_true, if_false, Result.andThen_ok]
    rw [setCell_blk he]
    have hb1 : Block (setBlk w b (.cells (c.setIfInBounds (o + i) v) E (lo, hi))) b n (c.setIfInBounds (o + i) v) :=
      ⟨by simp [h1], E, lo, hi, setBlk_at he, hf⟩
    obtain ⟨E', lo', hi', he', hrun⟩ := ih _ _ (i + 1) hb1 (by omega) (fun x hx => hv x (by simp [hx]))
    rw [setBlk_at he] at he'
    injection he' with he'
    injection he' with e1 e2 e3
    injection e3 with e3 e4
    subst e2; subst e3; subst e4
    rw [hrun, setBlk_setBlk]
    simp [setAll, Nat.add_assoc]

end Go.Am
