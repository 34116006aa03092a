/- The abstract machine, part 9: each operation does in the model what it does here (second lot: boxes, structs, loads, stores). -/
import Derived.Test.YtajhbehiecgflaaAm8
set_option linter.unusedSimpArgs false
set_option linter.unusedVariables false
namespace Go.Am

variable {h h' : Heap} {μ μ' : Mu} {w w' : World} {P : Program} {M : Mem}

def zOk : List AV → List Value → Bool
  | [], [] => true
  | a :: r, b :: s => a.sc && constOk a b && zOk r s
  | _, _ => false

/-- Cells, and the model's. -/
def RCells (M : Mem) (h : Heap) (μ : Mu) (cs : List AV) (c : Array Value) : Prop :=
  c.size = cs.length ∧ ∀ (j : Nat) (x : AV), cs[j]? = some x → ∃ v, c[j]? = some v ∧ RAV M h μ x v

theorem zOk_sound : ∀ {cs : List AV} {vs : List Value}, zOk cs vs = true → cs.length = vs.length ∧ ∀ (j : Nat) (x : AV), cs[j]? = some x → x.sc = true ∧ ∃ v, vs[j]? = some v ∧ RAV M h μ x v
  | [], [], _ => ⟨rfl, fun j x hx => by simp at hx⟩
  | [], _ :: _, e => by simp [zOk] at e
  | _ :: _, [], e => by simp [zOk] at e
  | a :: r, b :: s, e => by
    simp only [zOk, Bool.and_eq_true] at e
    have ih := zOk_sound e.2
    refine ⟨by simp [ih.1], fun j x hx => ?_⟩
    cases j with
    | zero => simp at hx; subst hx; exact ⟨e.1.1, b, rfl, constOk_sound e.1.2⟩
    | succ j => exact ih.2 j x (by simpa using hx)

theorem run_newObj_cells (c : Array Value) (E : TypeId) : (newRow E c).run P w = .ok ⟨w.heap.size, 0, none⟩ { w with heap := w.heap.push (.cells c E (0, 0)) } := by
  simp [newRow]

theorem ok_box (H : HeapRel h μ w) {s : Sem Next} {cs : List AV} {c : Array Value} (E : TypeId) (hl : c.size = cs.length)
    (hc : ∀ (j : Nat) (x : AV), cs[j]? = some x → x.sc = true ∧ ∃ v, c[j]? = some v ∧ RAV (imm h μ w) h μ x v)
    (hr : s.run P w = .ok (.value (.pointer (some ⟨w.heap.size, 0, none⟩))) { w with heap := w.heap.push (.cells c E (0, 0)) }) :
    OpOk P s h μ w (.ref h.length 0) (h ++ [.box cs]) [] := by
  have hB : Block { w with heap := w.heap.push (.cells c E (0, 0)) } w.heap.size cs.length c := hl ▸ Block.push c E
  obtain ⟨h1, h2⟩ := newBox H (WExt.push w _) (Nat.le_refl _) (by simp) hB hc
  refine ⟨_, _, _, hr, .inl ⟨_, rfl, .ref h.length 0 w.heap.size cs.length cs (by simp) (by rw [← H.len]; simp)⟩, h1, h2, EscInv.push ?_⟩
  exact boxTop H hc

def chkAlloc (P : Program) (z : List AV) (t : TypeId) : Bool := match P.info? t with
  | some i => match i.zero with
    | some v => zOk z v.cells.toList
    | none => false
  | none => false

theorem alloc_ok {z : List AV} {t : TypeId} (hc : chkAlloc P z t = true) (H : HeapRel h μ w) :
    OpOk P (do pure (.value (← Instr.alloc t true (.tuple #[])))) h μ w (.ref h.length 0) (h ++ [.box z]) [] := by
  unfold chkAlloc at hc
  split at hc
  · rename_i i hi
    split at hc
    · rename_i v hv
      have hz := zOk_sound (M := imm h μ w) (h := h) (μ := μ) hc
      refine ok_box H (c := v.cells) t (by rw [hz.1]; simp) (fun j x hx => by simpa using hz.2 j x hx) ?_
      refine run_v ?_
      unfold Instr.alloc
      rw [Sem.run_bind]
      have : (zeroValue t).run P w = .ok v w := by
        unfold zeroValue
        rw [Sem.run_bind, run_typeInfo_of hi]
        simp [hv]
      rw [this]
      simp [newVar, run_newObj_cells]
    · cases hc
  · cases hc

theorem box_ok {t : TypeId} {v : AV} {x : Value} {cs : List AV} (H : HeapRel h μ w) (R : RAV (imm h μ w) h μ v x) (hc : v.cells = some cs) :
    OpOk P (do pure (.value (← Instr.box t x))) h μ w (.ref h.length 0) (h ++ [.box cs]) [] := by
  have hs := cells_sound R hc
  refine ok_box H (c := x.cells) t hs.1 hs.2 (run_v ?_)
  simp [Instr.box, newVar, run_newObj_cells]

/-! ### structs put together -/

theorem foldl_setAll (vs : List Value) : ∀ (c : Array Value) (off i : Nat), (vs.zipIdx i).foldl (fun cs (y : Value × Nat) => cs.setIfInBounds (off + y.2) y.1) c = setAll c (off + i) vs := by
  induction vs with
  | nil => intro c off i; rfl
  | cons v r ih =>
    intro c off i
    simp only [List.zipIdx_cons, List.foldl_cons, setAll]
    rw [ih]
    rfl

theorem foldl_fill (c : Array Value) (off : Nat) (v : Array Value) : v.zipIdx.foldl (fun cs (y : Value × Nat) => cs.setIfInBounds (off + y.2) y.1) c = setAll c off v.toList := by
  rw [← Array.foldl_toList, Array.toList_zipIdx]
  have := foldl_setAll v.toList c off 0
  simpa using this

def partsOk (place : Nat → Option (Nat × Nat)) : List (Nat × Nat × Opd) → List (Nat × Operand) → Bool
  | [], [] => true
  | a :: r, b :: s => place b.1 == some (a.1, a.2.1) && opdOk a.2.2 b.2 && partsOk place r s
  | _, _ => false

theorem splice_get {α : Type} (cs vs : List α) (off j : Nat) (hl : off + vs.length ≤ cs.length) : (splice cs off vs)[j]? = if off ≤ j ∧ j < off + vs.length then vs[j - off]? else cs[j]? := by
  unfold splice
  by_cases h1 : j < off
  · rw [List.getElem?_append_left (by simp; omega), List.getElem?_append_left (by simp; omega), List.getElem?_take, if_pos h1, if_neg (by omega)]
  · by_cases h2 : j < off + vs.length
    · rw [List.getElem?_append_left (by simp; omega), List.getElem?_append_right (by simp; omega), if_pos (by omega)]
      simp [Nat.min_eq_left (show off ≤ cs.length by omega)]
    · rw [List.getElem?_append_right (by simp; omega), if_neg (by omega), List.getElem?_drop]
      congr 1
      simp
      omega

theorem splice_length {α : Type} (cs vs : List α) (off : Nat) (hl : off + vs.length ≤ cs.length) : (splice cs off vs).length = cs.length := by
  unfold splice; simp; omega

theorem RCells.splice {cs vs : List AV} {c : Array Value} {xs : List Value} {off : Nat} (hc : RCells M h μ cs c) (hl : vs.length = xs.length) (hb : off + vs.length ≤ cs.length)
    (hv : ∀ (j : Nat) (x : AV), vs[j]? = some x → ∃ v, xs[j]? = some v ∧ RAV M h μ x v) : RCells M h μ (splice cs off vs) (setAll c off xs) := by
  refine ⟨by rw [setAll_size, splice_length _ _ _ hb, hc.1], fun j x hx => ?_⟩
  rw [splice_get _ _ _ _ hb] at hx
  rw [setAll_get _ _ _ _ (by rw [hc.1]; omega), ← hl]
  split at hx
  · rename_i hj; rw [if_pos hj]; exact hv _ x hx
  · rename_i hj; rw [if_neg hj]; exact hc.2 j x hx

theorem fill_ok {ev : Opd → AV} {ρ : Operand → Value} {place : Nat → Option (Nat × Nat)} (R : OpdRel M h μ ev ρ) : ∀ {ps : List (Nat × Nat × Opd)} {qs : List (Nat × Operand)} {cs cs' : List AV} {c : Array Value},
    partsOk place ps qs = true → RCells M h μ cs c → fillA ev ps cs = some cs' → ∃ c', Instr.fill place c (qs.map fun y => (y.1, ρ y.2)) = some c' ∧ RCells M h μ cs' c'
  | [], [], cs, cs', c, _, hc, e => by simp [fillA] at e; subst e; exact ⟨c, rfl, hc⟩
  | [], _ :: _, _, _, _, e, _, _ => by simp [partsOk] at e
  | _ :: _, [], _, _, _, e, _, _ => by simp [partsOk] at e
  | (off, n, x) :: r, (i, y) :: s, cs, cs', c, hk, hc, e => by
    simp only [partsOk, Bool.and_eq_true, beq_iff_eq] at hk
    obtain ⟨⟨h1, h2⟩, h3⟩ := hk
    simp only [fillA] at e
    split at e
    · rename_i vs hvs
      split at e
      · rename_i hb
        obtain ⟨s1, s2⟩ := cells_sound (R x y h2) hvs
        have hc' : RCells M h μ (splice cs off vs) (setAll c off (ρ y).cells.toList) :=
          hc.splice (by simp [s1]) (by omega) (fun j x hx => by obtain ⟨_, v, h4, h5⟩ := s2 j x hx; exact ⟨v, by simpa using h4, h5⟩)
        obtain ⟨c', h4, h5⟩ := fill_ok R h3 hc' e
        refine ⟨c', ?_, h5⟩
        simp only [List.map_cons, Instr.fill, h1]
        have hneg : ¬ ((decide ((ρ y).cells.size ≠ n) || decide (off + (ρ y).cells.size > c.size)) = true) := by have := hc.1; simp; omega
        rw [if_neg hneg, foldl_fill]
        exact h4
      · cases e
    · cases e

def placesOf (P : Program) : List Field → Option (List (Nat × Nat))
  | [] => some []
  | f :: r => match P.info? f.type, placesOf P r with
    | some i, some l => some ((f.offset, i.size) :: l)
    | _, _ => none

theorem run_sizeOf_info {t : TypeId} {i : TypeInfo} (hi : P.info? t = some i) : (sizeOf t).run P w = .ok i.size w := by
  unfold sizeOf
  rw [Sem.run_bind, run_typeInfo_of hi]
  rfl

def placeM (f : Field) : Sem (Nat × Nat) := do pure (f.offset, ← sizeOf f.type)

theorem run_places : ∀ {fs : List Field} {l : List (Nat × Nat)}, placesOf P fs = some l → (fs.mapM placeM).run P w = .ok l w
  | [], l, e => by simp [placesOf] at e; subst e; rfl
  | f :: r, l, e => by
    simp only [placesOf] at e
    split at e
    · rename_i i l' hi hl
      simp at e
      subst e
      rw [List.mapM_cons, Sem.run_bind]
      have : (placeM f).run P w = .ok (f.offset, i.size) w := by simp [placeM, run_sizeOf_info hi]
      rw [this]
      simp [run_places hl]
    · cases e

def chkBuild (P : Program) (z : List AV) (ps : List (Nat × Nat × Opd)) (t : TypeId) (qs : List (Nat × Operand)) : Bool :=
  chkAlloc P z t && match P.underlying t with
    | some (.struct fs) => match placesOf P fs.toList with
      | some l => partsOk (l.toArray[·]?) ps qs
      | none => false
    | some (.array _ e) => match P.info? e with
      | some i => partsOk (fun j => some (j * i.size, i.size)) ps qs
      | none => false
    | _ => false

theorem build_ok {ev : Opd → AV} {ρ : Operand → Value} {z : List AV} {ps : List (Nat × Nat × Opd)} {t : TypeId} {qs : Array (Nat × Operand)} {cs : List AV} (hc : chkBuild P z ps t qs.toList = true) (H : HeapRel h μ w)
    (R : OpdRel (imm h μ w) h μ ev ρ) (he : fillA ev ps z = some cs) :
    OpOk P (do pure (.value (← Instr.build t (qs.map fun (i, x) => (i, ρ x))))) h μ w (mkA cs) h [] := by
  unfold chkBuild at hc
  rw [Bool.and_eq_true] at hc
  obtain ⟨hz, hc⟩ := hc
  unfold chkAlloc at hz
  split at hz
  · rename_i i hi
    split at hz
    · rename_i v hv
      have hz := zOk_sound (M := imm h μ w) (h := h) (μ := μ) hz
      have hzero : (zeroValue t).run P w = .ok v w := by
        unfold zeroValue
        rw [Sem.run_bind, run_typeInfo_of hi]
        simp [hv]
      have hz' : RCells (imm h μ w) h μ z v.cells := ⟨by rw [hz.1]; simp, fun j x hx => by obtain ⟨_, v, h1, h2⟩ := hz.2 j x hx; exact ⟨v, by simpa using h1, h2⟩⟩
      have fin : ∀ c', RCells (imm h μ w) h μ cs c' → RAV (imm h μ w) h μ (mkA cs) (.agg c') := by
        intro c' hc'
        have := mkA_sound (M := imm h μ w) (h := h) (μ := μ) (cs := cs) (vs := c'.toList) (by simp [hc'.1]) (fun j y v hy hv => by
          obtain ⟨v', h1, h2⟩ := hc'.2 j y hy
          simp at hv
          rw [h1] at hv; injection hv with hv; subst hv; exact h2)
        simpa using this
      split at hc
      · rename_i fs hu
        split at hc
        · rename_i l hl
          obtain ⟨c', h1, h2⟩ := fill_ok R hc hz' he
          refine OpOk.pure H (run_v ?_) (fin c' h2)
          unfold Instr.build
          rw [Sem.run_bind, hzero]
          simp only [Result.andThen_ok]
          rw [Sem.run_bind, run_underlying_of hu]
          have hp : (fs.toList.mapM fun (f : Field) => (do pure (f.offset, ← sizeOf f.type) : Sem (Nat × Nat))).run P w = .ok l w := run_places hl
          simp only [Result.andThen_ok, Array.mapM_eq_mapM_toList, Sem.run_bind, Sem.run_map]
          rw [hp]
          have : (Array.map (fun x => (x.fst, ρ x.snd)) qs).toList = qs.toList.map fun y => (y.1, ρ y.2) := by simp
          simp only [Result.andThen_ok, this, h1, Sem.run_pure]
        · cases hc
      · rename_i len e hu
        split at hc
        · rename_i ie hie
          obtain ⟨c', h1, h2⟩ := fill_ok R hc hz' he
          refine OpOk.pure H (run_v ?_) (fin c' h2)
          unfold Instr.build
          rw [Sem.run_bind, hzero]
          simp only [Result.andThen_ok]
          rw [Sem.run_bind, run_underlying_of hu]
          simp only [Result.andThen_ok, Sem.run_bind, run_sizeOf_info hie]
          have : (Array.map (fun x => (x.fst, ρ x.snd)) qs).toList = qs.toList.map fun y => (y.1, ρ y.2) := by simp
          rw [this]
          simp [h1]
        · cases hc
      · cases hc
    · cases hz
  · cases hz

/-! ### loads -/

theorem cut_cells {sh : Sh} {off : Nat} {cs : List AV} {v : AV} {f : Nat → Value} (hc : cut sh off cs = some v) (hf : ∀ (j : Nat) (x : AV), cs[j]? = some x → RAV M h μ x (f j)) :
    off + shSize sh ≤ cs.length ∧ RAV M h μ v (shVal sh fun j => f (off + j)) := by
  cases sh with
  | none =>
    simp only [cut] at hc
    exact ⟨by have := lt_of_get hc; simp [shSize]; omega, hf off v hc⟩
  | some n =>
    simp only [cut] at hc
    split at hc
    · rename_i hl
      simp at hc
      subst hc
      refine ⟨hl, mkA_sound (by simp; omega) (fun j y v hy hv => ?_)⟩
      rw [List.getElem?_take] at hy
      split at hy
      · rename_i hj
        rw [List.getElem?_drop] at hy
        rw [List.getElem?_map, List.getElem?_range hj] at hv
        simp at hv
        subst hv
        exact hf _ y hy
      · cases hy
    · cases hc

theorem cutP_cells {sh : Sh} {off : Nat} {v u : PV} {f : Nat → Value} (hc : cutP sh off v = some u) (hf : ∀ (j : Nat) (x : PV), v.cells[j]? = some x → RPV M x (f j)) :
    off + shSize sh ≤ v.cells.length ∧ RPV M u (shVal sh fun j => f (off + j)) := by
  unfold cutP at hc
  split at hc
  · rename_i cs
    cases sh with
    | none =>
      simp only [Option.bind_eq_some_iff] at hc
      obtain ⟨z, hz, hc⟩ := hc
      split at hc <;> simp at hc
      subst hc
      exact ⟨by have := lt_of_get hz; simp [shSize, PV.cells]; omega, hf off z (by simpa [PV.cells] using hz)⟩
    | some n =>
      dsimp only at hc
      split at hc
      · rename_i hl
        simp at hc
        subst hc
        refine ⟨by simpa [PV.cells, shSize] using hl, .agg _ _ (by simp; omega) (fun j y v hy hv => ?_)⟩
        rw [List.getElem?_take] at hy
        split at hy
        · rename_i hj
          rw [List.getElem?_drop] at hy
          rw [List.getElem?_map, List.getElem?_range hj] at hv
          simp at hv
          subst hv
          exact hf _ y (by simpa [PV.cells] using hy)
        · cases hy
      · cases hc
  · rename_i hne
    split at hc
    · simp at hc
      subst hc
      have : v.cells = [v] := by cases v <;> first | rfl | exact absurd rfl (hne _)
      refine ⟨by rw [this]; simp [shSize], ?_⟩
      exact hf 0 v (by rw [this]; rfl)
    · cases hc

theorem obj_at (H : HeapRel h μ w) {id : Nat} {o : Obj} (ho : h[id]? = some o) : ∃ m, μ[id]? = some m ∧ ObjRel (imm h μ w) h μ w o m := by
  have hl : id < μ.length := by rw [H.len]; exact lt_of_get ho
  exact ⟨μ[id], List.getElem?_eq_getElem hl, H.obj id o _ ho (List.getElem?_eq_getElem hl)⟩

theorem run_loadAt {t : TypeId} {sh : Sh} (hs : shOf P t = some sh) {b o : Nat} {f : Nat → Value} (hf : ∀ j, j < shSize sh → w.cell? ⟨b, o + j, none⟩ = some (f j)) :
    (Instr.loadAt t (.pointer (some ⟨b, o, none⟩))).run P w = .ok (shVal sh f) w := by
  unfold Instr.loadAt Instr.sureAddr
  simp only [Sem.run_bind, Sem.run_pure, Result.andThen_ok]
  exact run_loadVar hs hf

theorem load_ok {t : TypeId} {sh : Sh} (hs : shOf P t = some sh) {a : AV} {x : Value} {v : AV} {h1 : Heap} {e : Esc} (H : HeapRel h μ w) (R : RAV (imm h μ w) h μ a x) (ev : Opd → AV) (p : Opd) (hp : ev p = a)
    (he : aop (.load sh p) ev h = some (v, h1, e)) : OpOk P (do pure (.value (← Instr.loadAt t x))) h μ w v h1 e := by
  simp only [aop, hp] at he
  cases a with
  | ref id off =>
    dsimp only at he
    split at he
    · rename_i cs ho
      simp only [Option.map_eq_some_iff, Prod.mk.injEq] at he
      obtain ⟨v', hv, rfl, rfl, rfl⟩ := he
      obtain ⟨m, hm, b, c, rfl, hB, hc⟩ := obj_at H ho
      cases R with | ref _ _ b' n cs' ho' hm' =>
      rw [hm] at hm'
      injection hm' with hm'
      injection hm' with hm'
      injection hm' with e1 e2
      subst e1
      have hf : ∀ (j : Nat) (x : AV), cs[j]? = some x → RAV (imm h μ w) h μ x ((c[j]?).getD undef) := by
        intro j x hx
        obtain ⟨_, u, h2, h3⟩ := hc j x hx
        rw [h2]; exact h3
      obtain ⟨hl, hr⟩ := cut_cells hv hf
      refine OpOk.pure H (run_v (run_loadAt hs (f := fun j => (c[off + j]?).getD undef) (fun j hj => ?_))) ?_
      · rw [cell_of_block hB]
        have : off + j < c.size := by rw [hB.1]; omega
        simp [this]
      · cases sh <;> exact hr
    · cases he
  | rref id g i off =>
    dsimp only at he
    split at he
    · rename_i rsh xs fz ho
      split at he
      · rename_i hg
        simp only [Option.map_eq_some_iff, Prod.mk.injEq, Option.bind_eq_some_iff] at he
        obtain ⟨v', ⟨y, hy, hv⟩, rfl, rfl, rfl⟩ := he
        obtain ⟨m, hm, h2, h3, h4⟩ := obj_at H ho
        cases R with | rref _ _ _ _ a sh' xs' fz' m' ho' hm' hgg hi hval =>
        rw [ho] at ho'; injection ho' with ho'; injection ho' with e1 e2 e3
        subst e1; subst e2; subst e3
        rw [hm] at hm'; injection hm' with hm'; subst hm'
        obtain ⟨b, n, rfl, rfl⟩ := hval hg
        obtain ⟨c, hB, hn, hcell⟩ := h4
        have hf : ∀ (j : Nat) (x : PV), y.cells[j]? = some x → RPV (imm h μ w) x ((c[i * shSize rsh + j]?).getD undef) := by
          intro j x hx
          obtain ⟨u, h5, h6⟩ := hcell i j y x hy hx
          rw [h5]; exact h6
        obtain ⟨hl, hr⟩ := cutP_cells hv hf
        refine OpOk.pure H (run_v (run_loadAt hs (f := fun j => (c[i * shSize rsh + (off + j)]?).getD undef) (fun j hj => ?_))) ?_
        · rw [cell_of_block hB]
          obtain ⟨z, hz⟩ : ∃ z, y.cells[off + j]? = some z := ⟨_, List.getElem?_eq_getElem (by omega)⟩
          obtain ⟨u, h5, h6⟩ := hcell i (off + j) y z hy hz
          rw [Nat.add_assoc, h5]; simp
        · cases sh <;> exact .p _ _ hr
      · cases he
    · cases he
  | vp y =>
    dsimp only at he
    simp only [Option.map_eq_some_iff, Prod.mk.injEq] at he
    obtain ⟨v', hv, rfl, rfl, rfl⟩ := he
    cases R with | vp _ b o f hm hr =>
    obtain ⟨hl, hr'⟩ := cutP_cells hv hr
    refine OpOk.pure H (run_v (run_loadAt hs (f := f) (fun j hj => ?_))) ?_
    · obtain ⟨z, hz⟩ : ∃ z, y.cells[j]? = some z := ⟨_, List.getElem?_eq_getElem (by omega)⟩
      exact (imm_some.1 (hm j z hz)).2
    · cases sh
      · exact .p _ _ hr'
      · simp only [Nat.zero_add] at hr'; exact .p _ _ hr'
  | _ => simp at he

end Go.Am
