/- The abstract machine, part 4: how its values and heap stand to the model's (relations), and that they outlast what comes. -/
import Derived.Test.YtajhbehiecgflaaAm3
import Derived.Laws.Sem
namespace Go.Am

/-- A world but for its memory. -/
def zed (w : World) : World := { w with heap := #[], drawn := 0 }

/-- What is not written any more: cells; whole blocks that no object owns; what is no memory. -/
structure Mem where
  c : Nat → Nat → Option Value
  b : Nat → Option Go.Obj
  z : Option World

instance : CoeFun Mem fun _ => Nat → Nat → Option Value := ⟨Mem.c⟩
abbrev Mu := List (Option (Nat × Nat))

/-- A value without memory of its own, and the model's: what it shows lies in memory that is not written any more. -/
inductive RPV (M : Mem) : PV → Value → Prop
  | int (k : IntKind) (n : Int) : RPV M (.int k n) (.int k n)
  | bool (b : Bool) : RPV M (.bool b) (.bool b)
  | str (s : List UInt8) : RPV M (.str s) (.string ⟨s.toArray⟩)
  | nilp : RPV M .nilp (.pointer none)
  | nils (sh : Sh) (a : Option Addr) (cap : Nat) : RPV M (.sl sh []) (.slice a 0 cap)
  | sl (sh : Sh) (xs : List PV) (b o cap : Nat) (f : Nat → Value) (hne : xs ≠ []) (hc : xs.length ≤ cap) (he : ∀ x ∈ xs, x.shp sh = true)
      (hm : ∀ (j : Nat) (y : PV), (xs.flatMap PV.cells)[j]? = some y → M b (o + j) = some (f j))
      (hr : ∀ (j : Nat) (y : PV), (xs.flatMap PV.cells)[j]? = some y → RPV M y (f j)) : RPV M (.sl sh xs) (.slice (some ⟨b, o, none⟩) xs.length cap)
  | agg (cs : List PV) (vs : List Value) (hl : cs.length = vs.length)
      (hr : ∀ (j : Nat) (y : PV) (v : Value), cs[j]? = some y → vs[j]? = some v → RPV M y v) : RPV M (.agg cs) (.agg vs.toArray)

/-- A row's slice. -/
def OwnAt (m : Option (Nat × Nat)) (e off : Nat) (a : Option Addr) (cap : Nat) : Prop := match m with
  | none => cap = 0
  | some (b, n) => cap = 0 ∨ (a = some ⟨b, off * e, none⟩ ∧ (off + cap) * e ≤ n)

inductive RAV (M : Mem) (h : Heap) (μ : Mu) : AV → Value → Prop
  | p (v : PV) (x : Value) (hv : RPV M v x) : RAV M h μ (.p v) x
  | own (id g off len : Nat) (a : Option Addr) (cap : Nat) (sh : Sh) (xs : List PV) (fz : Nat) (m : Option (Nat × Nat)) (hl : len ≤ cap) (ho : h[id]? = some (.row sh xs fz)) (hm : μ[id]? = some m)
      (hg : g ≤ xs.length) (hgl : off + len ≤ g) (hv : g = xs.length → OwnAt m (shSize sh) off a cap) : RAV M h μ (.own id g off len) (.slice a len cap)
  | sl0 (sh : Sh) (a : Option Addr) : RAV M h μ (.sl0 sh) (.slice a 0 0)
  | ref (id off b n : Nat) (cs : List AV) (ho : h[id]? = some (.box cs)) (hm : μ[id]? = some (some (b, n))) : RAV M h μ (.ref id off) (.pointer (some ⟨b, off, none⟩))
  | rref (id g i off : Nat) (a : Addr) (sh : Sh) (xs : List PV) (fz : Nat) (m : Option (Nat × Nat)) (ho : h[id]? = some (.row sh xs fz)) (hm : μ[id]? = some m)
      (hg : g ≤ xs.length) (hi : i < g) (hv : g = xs.length → ∃ b n, m = some (b, n) ∧ a = ⟨b, i * shSize sh + off, none⟩) : RAV M h μ (.rref id g i off) (.pointer (some a))
  | vp (v : PV) (b o : Nat) (f : Nat → Value) (hm : ∀ (j : Nat) (y : PV), v.cells[j]? = some y → M b (o + j) = some (f j)) (hr : ∀ (j : Nat) (y : PV), v.cells[j]? = some y → RPV M y (f j)) :
      RAV M h μ (.vp v) (.pointer (some ⟨b, o, none⟩))
  | nilp : RAV M h μ .nilp (.pointer none)
  | nilm : RAV M h μ .nilm (.map none)
  | nilf : RAV M h μ .nilf .nilFunc
  | nili : RAV M h μ .nili .nilIface
  | ifc (t : TypeId) (v : Value) : RAV M h μ .ifc (.iface t v)
  | mp (id b n : Nat) (es : List ME) (c : Nat) (ho : h[id]? = some (.amap es c)) (hm : μ[id]? = some (some (b, n))) : RAV M h μ (.mp id) (.map (some b))
  | it (id b n : Nat) (m : Option Nat) (s : Nat) (seen : List Nat) (l : Nat) (ho : h[id]? = some (.iter m s seen l)) (hm : μ[id]? = some (some (b, n))) : RAV M h μ (.it id) (.pointer (some ⟨b, 0, none⟩))
  | fn (f : Nat) (cs : List AV) (vs : List Value) (hl : cs.length = vs.length) (hr : ∀ (j : Nat) (y : AV) (v : Value), cs[j]? = some y → vs[j]? = some v → RAV M h μ y v) :
      RAV M h μ (.fn f cs) (.func (.func f) #[] vs.toArray)
  | agg (cs : List AV) (vs : List Value) (hl : cs.length = vs.length) (hr : ∀ (j : Nat) (y : AV) (v : Value), cs[j]? = some y → vs[j]? = some v → RAV M h μ y v) : RAV M h μ (.agg cs) (.agg vs.toArray)
  | tup (cs : List AV) (vs : List Value) (hl : cs.length = vs.length) (hr : ∀ (j : Nat) (y : AV) (v : Value), cs[j]? = some y → vs[j]? = some v → RAV M h μ y v) : RAV M h μ (.tup cs) (.tuple vs.toArray)
  | skp : RAV M h μ .skp undef
  | und (x : Value) : RAV M h μ .und x

structure Mem.le (M M' : Mem) : Prop where
  c : ∀ b o v, M.c b o = some v → M'.c b o = some v
  b : ∀ b o, M.b b = some o → M'.b b = some o
  z : M'.z = M.z

theorem RPV.mono {M M' : Mem} (hM : M.le M') {v : PV} {x : Value} (H : RPV M v x) : RPV M' v x := by
  induction H with
  | int k n => exact .int k n
  | bool b => exact .bool b
  | str s => exact .str s
  | nilp => exact .nilp
  | nils sh a cap => exact .nils sh a cap
  | sl sh xs b o cap f hne hc he hm hr ih => exact .sl sh xs b o cap f hne hc he (fun j y hy => hM.c _ _ _ (hm j y hy)) ih
  | agg cs vs hl hr ih => exact .agg cs vs hl ih

/-- How an object may change. -/
def OEvo (o : Obj) (m : Option (Nat × Nat)) (o' : Obj) (m' : Option (Nat × Nat)) : Prop := match o with
  | .box _ => (∃ cs', o' = .box cs') ∧ m' = m
  | .row sh xs _ => ∃ xs' fz', o' = .row sh xs' fz' ∧ xs.length ≤ xs'.length ∧ (xs'.length = xs.length → m' = m)
  | .amap _ _ => (∃ es c, o' = .amap es c) ∧ m' = m
  | .iter _ _ _ _ => (∃ a b c d, o' = .iter a b c d) ∧ m' = m

theorem OEvo.refl (o : Obj) (m : Option (Nat × Nat)) : OEvo o m o m := by
  cases o <;> simp [OEvo]

theorem OEvo.trans {o o' o'' : Obj} {m m' m'' : Option (Nat × Nat)} (h : OEvo o m o' m') (h' : OEvo o' m' o'' m'') : OEvo o m o'' m'' := by
  cases o with
  | box cs => obtain ⟨⟨cs', rfl⟩, rfl⟩ := h; exact h'
  | row sh xs fz =>
    obtain ⟨xs', fz', rfl, h1, h2⟩ := h
    obtain ⟨xs'', fz'', rfl, h3, h4⟩ := h'
    exact ⟨xs'', fz'', rfl, by omega, fun he => (h4 (by omega)).trans (h2 (by omega))⟩
  | amap es c => obtain ⟨⟨es', c', rfl⟩, rfl⟩ := h; exact h'
  | iter a b c d => obtain ⟨⟨a', b', c', d', rfl⟩, rfl⟩ := h; exact h'

structure Evo (M : Mem) (h : Heap) (μ : Mu) (M' : Mem) (h' : Heap) (μ' : Mu) : Prop where
  le : M.le M'
  len : h.length ≤ h'.length
  obj : ∀ (id : Nat) (o : Obj) (m : Option (Nat × Nat)), h[id]? = some o → μ[id]? = some m → ∃ o' m', h'[id]? = some o' ∧ μ'[id]? = some m' ∧ OEvo o m o' m'

theorem Evo.refl (M : Mem) (h : Heap) (μ : Mu) : Evo M h μ M h μ := ⟨⟨fun _ _ _ h => h, fun _ _ h => h, rfl⟩, Nat.le_refl _, fun _ o m h1 h2 => ⟨o, m, h1, h2, OEvo.refl o m⟩⟩

theorem Evo.trans {M M' M'' : Mem} {h h' h'' : Heap} {μ μ' μ'' : Mu} (a : Evo M h μ M' h' μ') (b : Evo M' h' μ' M'' h'' μ'') : Evo M h μ M'' h'' μ'' :=
  ⟨⟨fun x y v h => b.le.c x y v (a.le.c x y v h), fun x y h => b.le.b x y (a.le.b x y h), b.le.z.trans a.le.z⟩, Nat.le_trans a.len b.len, fun id o m h1 h2 => by
    obtain ⟨o', m', h3, h4, h5⟩ := a.obj id o m h1 h2
    obtain ⟨o'', m'', h6, h7, h8⟩ := b.obj id o' m' h3 h4
    exact ⟨o'', m'', h6, h7, h5.trans h8⟩⟩

theorem RAV.evo {M M' : Mem} {h h' : Heap} {μ μ' : Mu} (E : Evo M h μ M' h' μ') {v : AV} {x : Value} (H : RAV M h μ v x) : RAV M' h' μ' v x := by
  induction H with
  | p v x hv => exact .p v x (hv.mono E.le)
  | own id g off len a cap sh xs fz m hl ho hm hg hgl hv =>
    obtain ⟨o', m', h1, h2, xs', fz', rfl, h4, h5⟩ := E.obj id _ m ho hm
    refine .own id g off len a cap sh xs' fz' m' hl h1 h2 (by omega) hgl (fun he => ?_)
    rw [h5 (by omega)]
    exact hv (by omega)
  | sl0 sh a => exact .sl0 sh a
  | ref id off b n cs ho hm =>
    obtain ⟨o', m', h1, h2, ⟨cs', rfl⟩, rfl⟩ := E.obj id _ _ ho hm
    exact .ref id off b n cs' h1 h2
  | rref id g i off a sh xs fz m ho hm hg hi hv =>
    obtain ⟨o', m', h1, h2, xs', fz', rfl, h4, h5⟩ := E.obj id _ m ho hm
    refine .rref id g i off a sh xs' fz' m' h1 h2 (by omega) hi (fun he => ?_)
    rw [h5 (by omega)]
    exact hv (by omega)
  | vp v b o f hm hr => exact .vp v b o f (fun j y hy => E.le.c _ _ _ (hm j y hy)) (fun j y hy => (hr j y hy).mono E.le)
  | nilp => exact .nilp
  | nilm => exact .nilm
  | nilf => exact .nilf
  | nili => exact .nili
  | ifc t v => exact .ifc t v
  | mp id b n es c ho hm =>
    obtain ⟨o', m', h1, h2, ⟨es', c', rfl⟩, rfl⟩ := E.obj id _ _ ho hm
    exact .mp id b n es' c' h1 h2
  | it id b n m s seen l ho hm =>
    obtain ⟨o', m', h1, h2, ⟨a', b', c', d', rfl⟩, rfl⟩ := E.obj id _ _ ho hm
    exact .it id b n a' b' c' d' h1 h2
  | fn f cs vs hl hr ih => exact .fn f cs vs hl ih
  | agg cs vs hl hr ih => exact .agg cs vs hl ih
  | tup cs vs hl hr ih => exact .tup cs vs hl ih
  | skp => exact .skp
  | und x => exact .und x

/-! ### a value's top lies within the heap -/

theorem tops_le {cs : List AV} {n : Nat} (H : ∀ (j : Nat) (y : AV), cs[j]? = some y → y.top ≤ n) : AV.tops cs ≤ n := by
  induction cs with
  | nil => simp [AV.tops]
  | cons v r ih =>
    simp only [AV.tops]
    have h0 := H 0 v rfl
    have h1 := ih (fun j y hy => H (j + 1) y (by simpa using hy))
    omega

theorem le_tops {cs : List AV} {j : Nat} {y : AV} (H : cs[j]? = some y) : y.top ≤ AV.tops cs := by
  induction cs generalizing j with
  | nil => simp at H
  | cons v r ih =>
    simp only [AV.tops]
    cases j with
    | zero => simp at H; subst H; omega
    | succ j => have := ih (by simpa using H); omega

theorem lt_of_get {α : Type} {l : List α} {i : Nat} {x : α} (h : l[i]? = some x) : i < l.length := by
  rcases Nat.lt_or_ge i l.length with h' | h'
  · exact h'
  · rw [List.getElem?_eq_none h'] at h; cases h

theorem RAV.top_le {M : Mem} {h : Heap} {μ : Mu} {v : AV} {x : Value} (H : RAV M h μ v x) : v.top ≤ h.length := by
  induction H with
  | own id g off len a cap sh xs fz m hl ho hm hg hgl hv => exact lt_of_get ho
  | ref id off b n cs ho hm => exact lt_of_get ho
  | rref id g i off a sh xs fz m ho hm hg hi hv => exact lt_of_get ho
  | mp id b n es c ho hm => exact lt_of_get ho
  | it id b n m s seen l ho hm => exact lt_of_get ho
  | fn f cs vs hl hr ih =>
    simp only [AV.top]
    refine tops_le (fun j y hy => ?_)
    have hj : j < vs.length := by rw [← hl]; exact lt_of_get hy
    exact ih j y vs[j] hy (List.getElem?_eq_getElem hj)
  | agg cs vs hl hr ih =>
    simp only [AV.top]
    refine tops_le (fun j y hy => ?_)
    have hj : j < vs.length := by rw [← hl]; exact lt_of_get hy
    exact ih j y vs[j] hy (List.getElem?_eq_getElem hj)
  | tup cs vs hl hr ih =>
    simp only [AV.top]
    refine tops_le (fun j y hy => ?_)
    have hj : j < vs.length := by rw [← hl]; exact lt_of_get hy
    exact ih j y vs[j] hy (List.getElem?_eq_getElem hj)
  | _ => simp [AV.top]

/-- What names nothing beyond n reads in the shorter heap as in the longer. -/
theorem RAV.take {M M' : Mem} (hM : M.le M') {h : Heap} {μ : Mu} {n : Nat} {v : AV} {x : Value} (H : RAV M h μ v x) : v.top ≤ n → RAV M' (h.take n) (μ.take n) v x := by
  have get : ∀ {α : Type} {l : List α} {i : Nat} {y : α}, l[i]? = some y → i < n → (l.take n)[i]? = some y := by
    intro α l i y h hi
    rw [List.getElem?_take, if_pos hi, h]
  induction H with
  | p v x hv => exact fun _ => .p v x (hv.mono hM)
  | own id g off len a cap sh xs fz m hl ho hm hg hgl hv => exact fun ht => .own id g off len a cap sh xs fz m hl (get ho ht) (get hm ht) hg hgl hv
  | sl0 sh a => exact fun _ => .sl0 sh a
  | ref id off b n cs ho hm => exact fun ht => .ref id off b n cs (get ho ht) (get hm ht)
  | rref id g i off a sh xs fz m ho hm hg hi hv => exact fun ht => .rref id g i off a sh xs fz m (get ho ht) (get hm ht) hg hi hv
  | vp v b o f hm hr => exact fun _ => .vp v b o f (fun j y hy => hM.c _ _ _ (hm j y hy)) (fun j y hy => (hr j y hy).mono hM)
  | nilp => exact fun _ => .nilp
  | nilm => exact fun _ => .nilm
  | nilf => exact fun _ => .nilf
  | nili => exact fun _ => .nili
  | ifc t v => exact fun _ => .ifc t v
  | mp id b n es c ho hm => exact fun ht => .mp id b n es c (get ho ht) (get hm ht)
  | it id b n m s seen l ho hm => exact fun ht => .it id b n m s seen l (get ho ht) (get hm ht)
  | fn f cs vs hl hr ih => exact fun ht => .fn f cs vs hl (fun j y v h1 h2 => ih j y v h1 h2 (by have := le_tops h1; simp only [AV.top] at ht; omega))
  | agg cs vs hl hr ih => exact fun ht => .agg cs vs hl (fun j y v h1 h2 => ih j y v h1 h2 (by have := le_tops h1; simp only [AV.top] at ht; omega))
  | tup cs vs hl hr ih => exact fun ht => .tup cs vs hl (fun j y v h1 h2 => ih j y v h1 h2 (by have := le_tops h1; simp only [AV.top] at ht; omega))
  | skp => exact fun _ => .skp
  | und x => exact fun _ => .und x

/-! ### the heap -/

def Owned (h : Heap) (μ : Mu) (b o : Nat) : Prop := ∃ (id n : Nat), μ[id]? = some (some (b, n)) ∧ ∀ (sh : Sh) (xs : List PV) (fz : Nat), h[id]? = some (.row sh xs fz) → fz * shSize sh ≤ o

/-- Some object owns the block. -/
def Taken (μ : Mu) (b : Nat) : Prop := ∃ (id n : Nat), μ[id]? = some (some (b, n))

open Classical in
/-- The memory that is not written any more. -/
noncomputable def imm (h : Heap) (μ : Mu) (w : World) : Mem := ⟨fun b o => if Owned h μ b o then none else w.cell? ⟨b, o, none⟩, fun b => if Taken μ b then none else w.heap[b]?, some (zed w)⟩

theorem imm_some {h : Heap} {μ : Mu} {w : World} {b o : Nat} {v : Value} : (imm h μ w).c b o = some v ↔ ¬ Owned h μ b o ∧ w.cell? ⟨b, o, none⟩ = some v := by
  unfold imm
  by_cases hO : Owned h μ b o <;> simp [hO]

theorem imm_blk {h : Heap} {μ : Mu} {w : World} {b : Nat} {o : Go.Obj} : (imm h μ w).b b = some o ↔ ¬ Taken μ b ∧ w.heap[b]? = some o := by
  unfold imm
  by_cases hO : Taken μ b <;> simp [hO]

/-- A block of cells that may be written. -/
def Block (w : World) (b n : Nat) (c : Array Value) : Prop := c.size = n ∧ ∃ E lo hi, w.heap[b]? = some (.cells c E (lo, hi)) ∧ (lo < hi → n ≤ lo)

def ObjRel (M : Mem) (h : Heap) (μ : Mu) (w : World) (o : Obj) (m : Option (Nat × Nat)) : Prop := match o with
  | .box cs => ∃ b c, m = some (b, cs.length) ∧ Block w b cs.length c ∧ ∀ (j : Nat) (x : AV), cs[j]? = some x → x.sc = true ∧ ∃ v, c[j]? = some v ∧ RAV M h μ x v
  | .row sh xs fz => fz ≤ xs.length ∧ (∀ x ∈ xs, x.shp sh = true) ∧ match m with
    | none => xs = []
    | some (b, n) => ∃ c, Block w b n c ∧ xs.length * shSize sh ≤ n ∧ ∀ (i j : Nat) (x y : PV), xs[i]? = some x → x.cells[j]? = some y → ∃ v, c[i * shSize sh + j]? = some v ∧ RPV M y v
  | .amap es clk => ∃ b n ces, m = some (b, n) ∧ w.heap[b]? = some (.map ces clk) ∧ ces.size = es.length ∧
      ∀ (i : Nat) (e : ME) (ce : MapEntry), es[i]? = some e → ces[i]? = some ce → RPV M e.key ce.key ∧ e.key.key = true ∧ RAV M h μ e.val ce.val ∧ ce.born = e.born
  | .iter mm since seen last => ∃ b n, m = some (b, n) ∧ match mm with
    | none => w.heap[b]? = some (.mapIter none 0 #[] 0)
    | some id => ∃ bm nm es c, μ[id]? = some (some (bm, nm)) ∧ h[id]? = some (.amap es c) ∧ w.heap[b]? = some (.mapIter (some bm) since seen.toArray last)

structure HeapRel (h : Heap) (μ : Mu) (w : World) : Prop where
  len : μ.length = h.length
  obj : ∀ (id : Nat) (o : Obj) (m : Option (Nat × Nat)), h[id]? = some o → μ[id]? = some m → ObjRel (imm h μ w) h μ w o m
  distinct : ∀ (i j b n n' : Nat), μ[i]? = some (some (b, n)) → μ[j]? = some (some (b, n')) → i = j
  inside : ∀ (i b n : Nat), μ[i]? = some (some (b, n)) → b < w.heap.size

end Go.Am
