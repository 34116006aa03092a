/- The abstract machine, part 8: new memory, frozen rows, rows read. -/
import Derived.Test.YtajhbehiecgflaaAm7
set_option linter.unusedSimpArgs false
set_option linter.unusedVariables false
namespace Go.Am

variable {h h' : Heap} {μ μ' : Mu} {w w' : World} {P : Program} {M : Mem}

theorem shp_cells {sh : Sh} {x : PV} (hx : x.shp sh = true) : x.cells.length = shSize sh := by
  cases sh with
  | none => cases x <;> first | rfl | (simp [PV.shp, PV.sc] at hx)
  | some n => cases x <;> simp [PV.shp] at hx <;> simp [PV.cells, shSize, hx.1]

theorem shp_sc {sh : Sh} {x : PV} (hx : x.shp sh = true) : ∀ y ∈ x.cells, y.sc = true := by
  cases sh with
  | none => cases x <;> simp [PV.shp, PV.sc] at hx <;> simp [PV.cells, PV.sc]
  | some n => cases x <;> simp [PV.shp] at hx <;> (simp [PV.cells]; intro y hy; exact hx.2 y hy)

theorem flat_get : ∀ {xs : List PV} {e : Nat}, (∀ x ∈ xs, x.cells.length = e) → ∀ i j, j < e → (xs.flatMap PV.cells)[i * e + j]? = (xs[i]?).bind fun x => x.cells[j]?
  | [], e, he, i, j, hj => by simp
  | x :: r, e, he, i, j, hj => by
    have hx := he x (by simp)
    rw [List.flatMap_cons]
    cases i with
    | zero => rw [List.getElem?_append_left (by omega)]; simp
    | succ i =>
      rw [List.getElem?_append_right (by rw [hx, Nat.succ_mul]; omega), hx]
      rw [show (i + 1) * e + j - e = i * e + j by rw [Nat.succ_mul]; omega]
      rw [flat_get (fun x hx => he x (by simp [hx])) i j hj]
      simp

theorem flat_split {xs : List PV} {e q : Nat} {y : PV} (he : ∀ x ∈ xs, x.cells.length = e) (hq : (xs.flatMap PV.cells)[q]? = some y) :
    ∃ x, xs[q / e]? = some x ∧ x.cells[q % e]? = some y ∧ q % e < e ∧ q / e * e + q % e = q := by
  have hpos : 0 < e := by
    rcases Nat.eq_zero_or_pos e with h0 | h0
    · have : xs.flatMap PV.cells = [] := by
        rw [List.flatMap_eq_nil_iff]
        intro x hx
        have := he x hx
        exact List.length_eq_zero_iff.1 (by omega)
      rw [this] at hq; simp at hq
    · exact h0
  have hm := Nat.mod_lt q hpos
  have hd : q / e * e + q % e = q := by rw [Nat.mul_comm]; exact Nat.div_add_mod q e
  have := flat_get he (q / e) (q % e) hm
  rw [hd, hq] at this
  cases hx : xs[q / e]? with
  | none => simp [hx] at this
  | some x => simp [hx] at this; exact ⟨x, rfl, this.symm, hm, hd⟩

theorem owned_lt (H : HeapRel h μ w) {b o : Nat} (hO : Owned h μ b o) : b < w.heap.size := by
  obtain ⟨id, n, h1, _⟩ := hO
  exact H.inside id b n h1

theorem Block.push (c : Array Value) (E : TypeId) : Block { w with heap := w.heap.push (.cells c E (0, 0)) } w.heap.size c.size c :=
  ⟨rfl, E, 0, 0, by simp, fun h => by omega⟩

/-- A new box. -/
theorem newBox (H : HeapRel h μ w) (hw : WExt w w') {b : Nat} (hb1 : w.heap.size ≤ b) (hb2 : b < w'.heap.size) {cs : List AV} {c : Array Value} (hB : Block w' b cs.length c)
    (hc : ∀ (j : Nat) (x : AV), cs[j]? = some x → x.sc = true ∧ ∃ v, c[j]? = some v ∧ RAV (imm h μ w) h μ x v) :
    HeapRel (h ++ [.box cs]) (μ ++ [some (b, cs.length)]) w' ∧ Evo (imm h μ w) h μ (imm (h ++ [.box cs]) (μ ++ [some (b, cs.length)]) w') (h ++ [.box cs]) (μ ++ [some (b, cs.length)]) := by
  refine H.push hw _ _ (fun b' n e => by injection e with e; injection e with e1 e2; subst e1; exact ⟨hb1, hb2⟩) (fun M' E => ?_)
  refine ⟨b, c, rfl, hB, fun j x hx => ?_⟩
  obtain ⟨h1, v, h2, h3⟩ := hc j x hx
  exact ⟨h1, v, h2, h3.evo E⟩

theorem boxTop (H : HeapRel h μ w) {cs : List AV} {c : Array Value} (hc : ∀ (j : Nat) (x : AV), cs[j]? = some x → x.sc = true ∧ ∃ v, c[j]? = some v ∧ RAV M h μ x v) : AV.tops cs ≤ h.length :=
  tops_le fun j y hy => by obtain ⟨_, v, _, h3⟩ := hc j y hy; exact h3.top_le

/-- A new row. -/
theorem newRow' (H : HeapRel h μ w) (hw : WExt w w') {b n : Nat} (hb1 : w.heap.size ≤ b) (hb2 : b < w'.heap.size) {sh : Sh} {xs : List PV} {c : Array Value} (hB : Block w' b n c)
    (hn : xs.length * shSize sh ≤ n) (hs : ∀ x ∈ xs, x.shp sh = true) (hc : ∀ (i j : Nat) (x y : PV), xs[i]? = some x → x.cells[j]? = some y → ∃ v, c[i * shSize sh + j]? = some v ∧ RPV (imm h μ w) y v) :
    HeapRel (h ++ [.row sh xs 0]) (μ ++ [some (b, n)]) w' ∧ Evo (imm h μ w) h μ (imm (h ++ [.row sh xs 0]) (μ ++ [some (b, n)]) w') (h ++ [.row sh xs 0]) (μ ++ [some (b, n)]) := by
  refine H.push hw _ _ (fun b' n e => by injection e with e; injection e with e1 e2; subst e1; exact ⟨hb1, hb2⟩) (fun M' E => ?_)
  refine ⟨Nat.zero_le _, hs, c, hB, hn, fun i j x y hx hy => ?_⟩
  obtain ⟨v, h1, h2⟩ := hc i j x y hx hy
  exact ⟨v, h1, h2.mono E.le⟩

theorem newNil (H : HeapRel h μ w) (sh : Sh) :
    HeapRel (h ++ [.row sh [] 0]) (μ ++ [none]) w ∧ Evo (imm h μ w) h μ (imm (h ++ [.row sh [] 0]) (μ ++ [none]) w) (h ++ [.row sh [] 0]) (μ ++ [none]) :=
  H.push (WExt.refl w) _ _ (fun b' n e => by cases e) (fun M' E => ⟨Nat.zero_le _, by simp, rfl⟩)

/-- New memory that nobody will write reads as a list. -/
theorem newVal (H : HeapRel h μ w) (hw : WExt w w') {b : Nat} (hb1 : w.heap.size ≤ b) {n cap : Nat} {sh : Sh} {xs : List PV} {c : Array Value} (hB : Block w' b n c)
    (hcap : xs.length ≤ cap) (hs : ∀ x ∈ xs, x.shp sh = true) (hc : ∀ (i j : Nat) (x y : PV), xs[i]? = some x → x.cells[j]? = some y → ∃ v, c[i * shSize sh + j]? = some v ∧ RPV (imm h μ w) y v) :
    RPV (imm h μ w') (.sl sh xs) (.slice (some ⟨b, 0, none⟩) xs.length cap) := by
  have E := (H.ext hw).2
  by_cases hne : xs = []
  · subst hne; exact .nils _ _ _
  · have he : ∀ x ∈ xs, x.cells.length = shSize sh := fun x hx => shp_cells (hs x hx)
    have hcell : ∀ (j : Nat) (y : PV), (xs.flatMap PV.cells)[j]? = some y → ∃ v, c[j]? = some v ∧ RPV (imm h μ w) y v := by
      intro j y hy
      obtain ⟨x, h1, h2, _, h3⟩ := flat_split he hy
      have := hc _ _ x y h1 h2
      rwa [h3] at this
    refine .sl sh xs b 0 cap (fun j => (c[j]?).getD undef) hne hcap hs (fun j y hy => ?_) (fun j y hy => ?_)
    · obtain ⟨v, h1, h2⟩ := hcell j y hy
      refine imm_some.2 ⟨fun hO => ?_, ?_⟩
      · have := owned_lt H hO; omega
      · rw [cell_of_block hB, Nat.zero_add, h1]; simp [h1]
    · obtain ⟨v, h1, h2⟩ := hcell j y hy
      have : (c[j]?).getD undef = v := by simp [h1]
      rw [this]
      exact h2.mono E.le

theorem frz_spec (H : HeapRel h μ w) {id k : Nat} {sh : Sh} {xs : List PV} {fz : Nat} (ho : h[id]? = some (.row sh xs fz)) (hk : k ≤ xs.length) :
    HeapRel (frz h id k) μ w ∧ Evo (imm h μ w) h μ (imm (frz h id k) μ w) (frz h id k) μ ∧ EscInv h (frz h id k) [] ∧ (frz h id k)[id]? = some (.row sh xs (max fz k)) := by
  have hf : frz h id k = h.set id (.row sh xs (max fz k)) := by simp [frz, ho]
  have hm : ∃ m, μ[id]? = some m := ⟨_, List.getElem?_eq_getElem (by rw [H.len]; exact lt_of_get ho)⟩
  obtain ⟨m, hm⟩ := hm
  have hμ : μ.set id m = μ := by
    apply List.ext_getElem?
    intro i
    by_cases e : id = i
    · subst e; rw [set_same hm, hm]
    · rw [List.getElem?_set_ne e]
  have hO := H.obj id _ m ho hm
  have key := H.set (w' := w) (o' := .row sh xs (max fz k)) (m' := m) ho hm ⟨xs, max fz k, rfl, Nat.le_refl _, fun _ => rfl⟩ rfl (Nat.le_refl _) (fun _ _ _ => rfl) (fun b n e => .inl ⟨n, e⟩)
    (fun b n sh' xs' fz' e1 e2 => by
      injection e2 with e2 e3 e4
      subst e2; subst e3; subst e4
      exact ⟨xs, _, rfl, fun j hj => ⟨rfl, fun n' _ => Nat.lt_of_lt_of_le hj (Nat.mul_le_mul_right _ (by omega))⟩⟩)
    (fun M' E => by
      rw [hμ] at E ⊢
      obtain ⟨h1, h2, h3⟩ := hO.keep (w' := w) E (fun _ _ _ => rfl)
      exact ⟨by omega, h2, h3⟩)
  rw [hμ] at key
  rw [hf]
  refine ⟨key.1, key.2, EscInv.set ho (by simp [Obj.top]), set_same ho⟩

/-- What a slice shows now. -/
def ReadAt (M : Mem) (w : World) (sh : Sh) (xs : List PV) (x : Value) : Prop := ∃ a cap, x = .slice a xs.length cap ∧ xs.length ≤ cap ∧ (xs ≠ [] → ∃ (b o : Nat) (f : Nat → Value), a = some ⟨b, o, none⟩ ∧ (∀ x ∈ xs, x.shp sh = true) ∧
  ∀ (j : Nat) (y : PV), (xs.flatMap PV.cells)[j]? = some y → w.cell? ⟨b, o + j, none⟩ = some (f j) ∧ RPV M y (f j))

theorem win_get {α : Type} {xs : List α} {off len i : Nat} {x : α} (hx : (win xs off len)[i]? = some x) : i < len ∧ xs[off + i]? = some x := by
  unfold win at hx
  rw [List.getElem?_take] at hx
  split at hx
  · rename_i hi
    rw [List.getElem?_drop] at hx
    exact ⟨hi, hx⟩
  · cases hx

theorem win_length {α : Type} {xs : List α} {off len : Nat} (hl : off + len ≤ xs.length) : (win xs off len).length = len := by
  simp [win]; omega

theorem win_mem {α : Type} {xs : List α} {off len : Nat} {x : α} (hx : x ∈ win xs off len) : x ∈ xs :=
  List.mem_of_mem_drop (List.mem_of_mem_take hx)

/-- A row's window, with the cells where they lie. -/
theorem own_read (H : HeapRel h μ w) {id g off len : Nat} {x : Value} (R : RAV (imm h μ w) h μ (.own id g off len) x) {sh : Sh} {xs : List PV} {fz : Nat} (ho : h[id]? = some (.row sh xs fz)) (hg : g = xs.length) :
    off + len ≤ xs.length ∧ (∀ y ∈ xs, y.shp sh = true) ∧ ∃ a cap, x = .slice a len cap ∧ len ≤ cap ∧ (0 < cap → ∃ b n c, μ[id]? = some (some (b, n)) ∧ a = some ⟨b, off * shSize sh, none⟩ ∧ Block w b n c ∧ (off + cap) * shSize sh ≤ n ∧ xs.length * shSize sh ≤ n ∧
      ∀ (i j : Nat) (x y : PV), xs[i]? = some x → x.cells[j]? = some y → ∃ v, c[i * shSize sh + j]? = some v ∧ RPV (imm h μ w) y v) := by
  cases R with | own _ _ _ _ a cap sh' xs' fz' m hl ho' hm hgg hgl hv =>
  rw [ho] at ho'
  injection ho' with ho'
  injection ho' with e1 e2 e3
  subst e1; subst e2; subst e3
  obtain ⟨h1, h2, h3⟩ := H.obj id _ m ho hm
  refine ⟨by omega, h2, a, cap, rfl, hl, fun hc => ?_⟩
  have hv' := hv hg
  cases m with
  | none => simp [OwnAt] at hv'; omega
  | some m =>
    obtain ⟨b, n⟩ := m
    rcases hv' with hv' | ⟨e, hv'⟩
    · omega
    · obtain ⟨c, h4, h5, h6⟩ := h3
      exact ⟨b, n, c, hm, e, h4, hv', h5, h6⟩

theorem rd_own {h : Heap} {id g off len : Nat} {sh : Sh} {xs : List PV} (hr : rd h (.own id g off len) = some (sh, xs)) :
    ∃ ys fz, h[id]? = some (.row sh ys fz) ∧ g = ys.length ∧ off + len ≤ ys.length ∧ xs = win ys off len := by
  simp only [rd] at hr
  split at hr
  · rename_i sh' ys fz ho
    split at hr
    · rename_i hc
      injection hr with hr
      injection hr with hr1 hr2
      subst hr1
      exact ⟨ys, fz, ho, hc.1, hc.2, hr2.symm⟩
    · cases hr
  · cases hr

theorem rd_sound (H : HeapRel h μ w) {v : AV} {x : Value} {sh : Sh} {xs : List PV} (R : RAV (imm h μ w) h μ v x) (hr : rd h v = some (sh, xs)) : ReadAt (imm h μ w) w sh xs x := by
  unfold rd at hr
  split at hr
  · simp at hr
    obtain ⟨rfl, rfl⟩ := hr
    have hv := R.p_inv
    cases hv with
    | nils _ a cap => exact ⟨a, cap, rfl, Nat.zero_le _, fun h => absurd rfl h⟩
    | sl _ _ b o cap f hne hc he hm hr =>
      exact ⟨_, cap, rfl, hc, fun _ => ⟨b, o, f, rfl, he, fun j y hy => ⟨(imm_some.1 (hm j y hy)).2, hr j y hy⟩⟩⟩
  · simp at hr; obtain ⟨rfl, rfl⟩ := hr; cases R with | sl0 _ a => exact ⟨a, 0, rfl, Nat.le_refl _, fun h => absurd rfl h⟩
  · rename_i id g off len
    obtain ⟨ys, fz, ho, hc1, hc2, hr⟩ := rd_own (h := h) (id := id) (g := g) (off := off) (len := len) (by simpa [rd] using hr)
    obtain ⟨h1, h2, a, cap, rfl, h3, h4⟩ := own_read H R ho hc1
    have hlen : xs.length = len := by rw [hr]; exact win_length hc2
    refine ⟨a, cap, by rw [hlen], by omega, fun hne => ?_⟩
    have hpos : 0 < xs.length := List.length_pos_iff.2 hne
    obtain ⟨b, n, c, hm, ha, hB, hn, hn2, hcells⟩ := h4 (by omega)
    have he : ∀ x ∈ xs, x.cells.length = shSize sh := fun x hx => shp_cells (h2 x (win_mem (hr ▸ hx)))
    have hcell : ∀ (j : Nat) (y : PV), (xs.flatMap PV.cells)[j]? = some y → ∃ v, c[off * shSize sh + j]? = some v ∧ RPV (imm h μ w) y v := by
      intro j y hy
      obtain ⟨x, h5, h6, _, h7⟩ := flat_split he hy
      rw [hr] at h5
      have := hcells _ _ x y (win_get h5).2 h6
      rwa [show (off + j / shSize sh) * shSize sh + j % shSize sh = off * shSize sh + j by rw [Nat.add_mul]; omega] at this
    refine ⟨b, off * shSize sh, fun j => (c[off * shSize sh + j]?).getD undef, ha, fun x hx => h2 x (win_mem (hr ▸ hx)), fun j y hy => ?_⟩
    obtain ⟨v, h5, h6⟩ := hcell j y hy
    have : (c[off * shSize sh + j]?).getD undef = v := by simp [h5]
    simp only [this]
    exact ⟨by rw [cell_of_block hB]; exact h5, h6⟩
  · cases hr

/-- A value made one without memory of its own. -/
theorem own_pur (H : HeapRel h μ w) {id g off len : Nat} {x : Value} {sh : Sh} {xs : List PV} (R : RAV (imm h μ w) h μ (.own id g off len) x) (hr : rd h (.own id g off len) = some (sh, xs)) :
    HeapRel (frz h id (off + len)) μ w ∧ Evo (imm h μ w) h μ (imm (frz h id (off + len)) μ w) (frz h id (off + len)) μ ∧ EscInv h (frz h id (off + len)) [] ∧ RPV (imm (frz h id (off + len)) μ w) (.sl sh xs) x := by
  obtain ⟨ys, fz, ho, hc1, hc2, hr⟩ := rd_own hr
  obtain ⟨h1, h2, h3, h4⟩ := frz_spec H ho hc2
  refine ⟨h1, h2, h3, ?_⟩
  obtain ⟨_, g2, a, cap, rfl, g3, g4⟩ := own_read H R ho hc1
  have hlen : xs.length = len := by rw [hr]; exact win_length hc2
  by_cases hne : xs = []
  · have hl0 : len = 0 := by rw [← hlen, hne]; rfl
    rw [hne, hl0]
    exact .nils _ _ _
  · have hpos : 0 < xs.length := List.length_pos_iff.2 hne
    obtain ⟨b, n, c, hm, ha, hB, hn, hn2, hcells⟩ := g4 (by omega)
    have he : ∀ x ∈ xs, x.cells.length = shSize sh := fun x hx => shp_cells (g2 x (win_mem (hr ▸ hx)))
    have hcell : ∀ (j : Nat) (y : PV), (xs.flatMap PV.cells)[j]? = some y → ∃ v, c[off * shSize sh + j]? = some v ∧ RPV (imm h μ w) y v ∧ off * shSize sh + j < (off + len) * shSize sh := by
      intro j y hy
      obtain ⟨x, h5, h6, h8, h7⟩ := flat_split he hy
      rw [hr] at h5
      have h9 := win_get h5
      have h10 := hcells _ _ x y h9.2 h6
      rw [show (off + j / shSize sh) * shSize sh + j % shSize sh = off * shSize sh + j by rw [Nat.add_mul]; omega] at h10
      obtain ⟨v, h11, h12⟩ := h10
      refine ⟨v, h11, h12, ?_⟩
      have : (j / shSize sh + 1) * shSize sh ≤ len * shSize sh := Nat.mul_le_mul_right _ h9.1
      rw [Nat.add_mul, Nat.one_mul] at this
      rw [Nat.add_mul]
      omega
    subst ha
    have key : RPV (imm (frz h id (off + len)) μ w) (.sl sh xs) (.slice (some ⟨b, off * shSize sh, none⟩) xs.length cap) := by
      refine .sl sh xs b (off * shSize sh) cap (fun j => (c[off * shSize sh + j]?).getD undef) hne (by omega) (fun x hx => g2 x (win_mem (hr ▸ hx))) (fun j y hy => ?_) (fun j y hy => ?_)
      · obtain ⟨v, h5, h6, h7⟩ := hcell j y hy
        refine imm_some.2 ⟨?_, by rw [cell_of_block hB, h5]; simp [h5]⟩
        rintro ⟨i, n', h8, h9⟩
        have := H.distinct i id b n' n h8 hm
        subst this
        have h10 := h9 sh ys _ h4
        have : (off + len) * shSize sh ≤ max fz (off + len) * shSize sh := Nat.mul_le_mul_right _ (by omega)
        omega
      · obtain ⟨v, h5, h6, h7⟩ := hcell j y hy
        have : (c[off * shSize sh + j]?).getD undef = v := by simp [h5]
        simp only [this]
        exact h6.mono h2.le
    rwa [hlen] at key

def PurOk (h : Heap) (μ : Mu) (w : World) (h1 : Heap) : Prop := HeapRel h1 μ w ∧ Evo (imm h μ w) h μ (imm h1 μ w) h1 μ ∧ EscInv h h1 []

mutual
theorem pur_sound : ∀ (v : AV) {h : Heap} {x : Value} {pv : PV} {h1 : Heap}, HeapRel h μ w → RAV (imm h μ w) h μ v x → pur h v = some (pv, h1) → PurOk h μ w h1 ∧ RPV (imm h1 μ w) pv x
  | .p v, h, x, pv, h1, H, R, e => by
    simp [pur] at e
    obtain ⟨rfl, rfl⟩ := e
    exact ⟨⟨H, Evo.refl _ _ _, EscInv.refl _ _⟩, R.p_inv⟩
  | .sl0 sh, h, x, pv, h1, H, R, e => by
    simp [pur] at e
    obtain ⟨rfl, rfl⟩ := e
    cases R with | sl0 _ a => exact ⟨⟨H, Evo.refl _ _ _, EscInv.refl _ _⟩, .nils _ _ _⟩
  | .nilp, h, x, pv, h1, H, R, e => by
    simp [pur] at e
    obtain ⟨rfl, rfl⟩ := e
    cases R; exact ⟨⟨H, Evo.refl _ _ _, EscInv.refl _ _⟩, .nilp⟩
  | .own id g off len, h, x, pv, h1, H, R, e => by
    simp only [pur, Option.map_eq_some_iff, Prod.mk.injEq] at e
    obtain ⟨⟨sh, xs⟩, h2, rfl, rfl⟩ := e
    obtain ⟨a, b, c, d⟩ := own_pur H R h2
    exact ⟨⟨a, b, c⟩, d⟩
  | .agg cs, h, x, pv, h1, H, R, e => by
    simp only [pur] at e
    split at e
    · rename_i vs h2 hp
      simp at e
      obtain ⟨rfl, rfl⟩ := e
      cases R with | agg _ xs hl hr =>
      obtain ⟨a, b⟩ := purs_sound cs H hl hr hp
      exact ⟨a, .agg vs xs b.1 b.2⟩
    · cases e
  | .ref _ _, _, _, _, _, _, _, e => by simp [pur] at e
  | .rref _ _ _ _, _, _, _, _, _, _, e => by simp [pur] at e
  | .vp _, _, _, _, _, _, _, e => by simp [pur] at e
  | .nilm, _, _, _, _, _, _, e => by simp [pur] at e
  | .nilf, _, _, _, _, _, _, e => by simp [pur] at e
  | .nili, _, _, _, _, _, _, e => by simp [pur] at e
  | .ifc, _, _, _, _, _, _, e => by simp [pur] at e
  | .mp _, _, _, _, _, _, _, e => by simp [pur] at e
  | .it _, _, _, _, _, _, _, e => by simp [pur] at e
  | .fn _ _, _, _, _, _, _, _, e => by simp [pur] at e
  | .tup _, _, _, _, _, _, _, e => by simp [pur] at e
  | .skp, _, _, _, _, _, _, e => by simp [pur] at e
  | .und, _, _, _, _, _, _, e => by simp [pur] at e
theorem purs_sound : ∀ (cs : List AV) {h : Heap} {xs : List Value} {vs : List PV} {h1 : Heap}, HeapRel h μ w → cs.length = xs.length →
    (∀ (j : Nat) (y : AV) (v : Value), cs[j]? = some y → xs[j]? = some v → RAV (imm h μ w) h μ y v) → purs h cs = some (vs, h1) →
    PurOk h μ w h1 ∧ vs.length = xs.length ∧ ∀ (j : Nat) (y : PV) (v : Value), vs[j]? = some y → xs[j]? = some v → RPV (imm h1 μ w) y v
  | [], h, xs, vs, h1, H, hl, hr, e => by
    simp [purs] at e
    obtain ⟨rfl, rfl⟩ := e
    exact ⟨⟨H, Evo.refl _ _ _, EscInv.refl _ _⟩, by simpa using hl, fun j y v hy => by simp at hy⟩
  | a :: r, h, xs, vs, h1, H, hl, hr, e => by
    cases xs with
    | nil => simp at hl
    | cons x xs =>
      simp only [purs] at e
      split at e
      · rename_i pv h2 hp
        split at e
        · rename_i ps h3 hq
          simp at e
          obtain ⟨rfl, rfl⟩ := e
          obtain ⟨⟨a1, a2, a3⟩, a4⟩ := pur_sound a H (hr 0 a x rfl rfl) hp
          obtain ⟨⟨b1, b2, b3⟩, b4, b5⟩ := purs_sound r a1 (xs := xs) (by simpa using hl) (fun j y v hy hv => (hr (j + 1) y v (by simpa using hy) (by simpa using hv)).evo a2) hq
          refine ⟨⟨b1, a2.trans b2, by simpa using EscInv.trans a3 b3⟩, by simp [b4], fun j y v hy hv => ?_⟩
          cases j with
          | zero => simp at hy hv; subst hy; subst hv; exact a4.mono b2.le
          | succ j => exact b5 j y v (by simpa using hy) (by simpa using hv)
        · cases e
      · cases e
end

end Go.Am
