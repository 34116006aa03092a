/- The abstract machine, part 13: new rows: literals, make, append, copy. -/
import Derived.Test.YtajhbehiecgflaaAm12
set_option linter.unusedSimpArgs false
set_option linter.unusedVariables false
namespace Go.Am

variable {h h' : Heap} {μ μ' : Mu} {w w' : World} {P : Program} {M M' : Mem}

/-- A row's elements, and the model's cells. -/
def RRow (M : Mem) (sh : Sh) (xs : List PV) (c : Array Value) : Prop :=
  xs.length * shSize sh ≤ c.size ∧ (∀ x ∈ xs, x.shp sh = true) ∧ ∀ (i j : Nat) (x y : PV), xs[i]? = some x → x.cells[j]? = some y → ∃ v, c[i * shSize sh + j]? = some v ∧ RPV M y v

theorem RRow.mono (hM : M.le M') {sh : Sh} {xs : List PV} {c : Array Value} (H : RRow M sh xs c) : RRow M' sh xs c :=
  ⟨H.1, H.2.1, fun i j x y hx hy => by obtain ⟨v, h1, h2⟩ := H.2.2 i j x y hx hy; exact ⟨v, h1, h2.mono hM⟩⟩

theorem RRow.set {sh : Sh} {xs : List PV} {c : Array Value} (H : RRow M sh xs c) {i : Nat} {v : PV} {vs : List Value} (hi : i < xs.length) (hv : v.shp sh = true) (hl : vs.length = shSize sh)
    (hr : ∀ (j : Nat) (y : PV), v.cells[j]? = some y → ∃ u, vs[j]? = some u ∧ RPV M y u) : RRow M sh (xs.set i v) (setAll c (i * shSize sh) vs) := by
  have hb : i * shSize sh + vs.length ≤ c.size := by
    have : (i + 1) * shSize sh ≤ xs.length * shSize sh := Nat.mul_le_mul_right _ hi
    rw [Nat.add_mul, Nat.one_mul] at this
    have := H.1
    omega
  refine ⟨by rw [setAll_size]; simpa using H.1, fun x hx => ?_, fun i2 j z u hz hu => ?_⟩
  · rcases List.mem_or_eq_of_mem_set hx with hx | rfl
    · exact H.2.1 x hx
    · exact hv
  · rw [setAll_get _ _ _ _ hb]
    rcases get_set hz with ⟨hne, hz⟩ | ⟨rfl, rfl, _⟩
    · have hj : j < shSize sh := by
        have := shp_cells (H.2.1 z (List.mem_of_getElem? hz)); have := lt_of_get hu; omega
      rw [if_neg]
      · exact H.2.2 i2 j z u hz hu
      · rintro ⟨q1, q2⟩
        exact row_apart (j := i2 * shSize sh + j - i * shSize sh) (k := j) hne (by omega) hj (by omega)
    · have hj : j < shSize sh := by have := shp_cells hv; have := lt_of_get hu; omega
      rw [if_pos (by omega)]
      obtain ⟨u', q1, q2⟩ := hr j u hu
      exact ⟨u', by rw [← q1]; congr 1; omega, q2⟩

/-- The zero of an element type, as a row of cells. -/
def chkZero (P : Program) (e : TypeId) (sh : Sh) (z : PV) : Bool := match P.info? e with
  | some i => match i.zero with
    | some v => constOk (.p z) v && z.shp sh && i.size == shSize sh
    | none => false
  | none => false

theorem zero_spec {e : TypeId} {sh : Sh} {z : PV} (hc : chkZero P e sh z = true) : ∃ i v, P.info? e = some i ∧ i.zero = some v ∧ i.size = shSize sh ∧ z.shp sh = true ∧ v.cells.size = shSize sh ∧
    ∀ (M : Mem) (j : Nat) (y : PV), z.cells[j]? = some y → ∃ u, v.cells[j]? = some u ∧ RPV M y u := by
  unfold chkZero at hc
  split at hc
  · rename_i i hi
    split at hc
    · rename_i v hv
      simp only [Bool.and_eq_true, beq_iff_eq] at hc
      obtain ⟨⟨h1, h2⟩, h3⟩ := hc
      have hall : z.cells.all PV.sc = true := by rw [List.all_eq_true]; exact shp_sc h2
      have R : ∀ M : Mem, RPV M z v := fun M => (constOk_sound (M := M) (h := []) (μ := []) h1).p_inv
      have hs := pcells_sound (R ⟨fun _ _ => none, fun _ => none, none⟩) hall
      refine ⟨i, v, hi, hv, h3, h2, by rw [hs.1, shp_cells h2], fun M j y hy => (pcells_sound (R M) hall).2.1 j y hy⟩
    · cases hc
  · cases hc

theorem run_zero {e : TypeId} {i : TypeInfo} {v : Value} (hi : P.info? e = some i) (hv : i.zero = some v) : (zeroValue e).run P w = .ok v w := by
  unfold zeroValue
  rw [Sem.run_bind, run_typeInfo_of hi]
  simp [hv]

theorem rep_get {α : Type} {n i : Nat} {a x : α} (hx : (List.replicate n a)[i]? = some x) : i < n ∧ x = a := by
  have hi : i < n := by simpa using lt_of_get hx
  rw [List.getElem?_replicate, if_pos hi] at hx
  exact ⟨hi, by simpa using hx.symm⟩

theorem zeroRow {sh : Sh} {z : PV} {zc : Array Value} {n N : Nat} (hz : z.shp sh = true) (hsz : zc.size = shSize sh) (hr : ∀ (j : Nat) (y : PV), z.cells[j]? = some y → ∃ u, zc[j]? = some u ∧ RPV M y u) (hN : n * shSize sh ≤ N) :
    RRow M sh (List.replicate n z) ((Array.range N).map (fun k => zc[k % zc.size]!)) := by
  refine ⟨by simpa using hN, fun x hx => by rw [List.eq_of_mem_replicate hx]; exact hz, fun i j x y hx hy => ?_⟩
  obtain ⟨hi, rfl⟩ := rep_get hx
  have hj : j < shSize sh := by have := shp_cells hz; have := lt_of_get hy; omega
  obtain ⟨u, h1, h2⟩ := hr j y hy
  refine ⟨u, ?_, h2⟩
  have hlt : i * shSize sh + j < N := by
    have : (i + 1) * shSize sh ≤ n * shSize sh := Nat.mul_le_mul_right _ hi
    rw [Nat.add_mul, Nat.one_mul] at this
    omega
  simp only [Array.getElem?_map, Array.getElem?_range, hlt, if_true, Option.map_some, hsz]
  rw [Nat.mul_comm, Nat.mul_add_mod, Nat.mod_eq_of_lt hj, getElem!_def, h1]

theorem range0 : Array.range 0 = #[] := by simp [Array.range]

/-! ### literals -/

def partsOkS : List (Nat × Opd) → List (Nat × Operand) → Bool
  | [], [] => true
  | a :: r, b :: s => a.1 == b.1 && opdOk a.2 b.2 && partsOkS r s
  | _, _ => false

theorem fillP_ok {ev : Opd → AV} {ρ : Operand → Value} {sh : Sh} : ∀ {ps : List (Nat × Opd)} {qs : List (Nat × Operand)} {h h' : Heap} {xs xs' : List PV} {c : Array Value},
    HeapRel h μ w → OpdRel (imm h μ w) h μ ev ρ → partsOkS ps qs = true → RRow (imm h μ w) sh xs c → fillP ev sh ps h xs = some (xs', h') →
    PurOk h μ w h' ∧ xs'.length = xs.length ∧ ∃ c', Instr.fill (fun i => some (i * shSize sh, shSize sh)) c (qs.map fun y => (y.1, ρ y.2)) = some c' ∧ c'.size = c.size ∧ RRow (imm h' μ w) sh xs' c'
  | [], [], h, h', xs, xs', c, H, R, _, hc, e => by
    simp [fillP] at e
    obtain ⟨rfl, rfl⟩ := e
    exact ⟨⟨H, Evo.refl _ _ _, EscInv.refl _ _⟩, rfl, c, rfl, rfl, hc⟩
  | [], _ :: _, _, _, _, _, _, _, _, e, _, _ => by simp [partsOkS] at e
  | _ :: _, [], _, _, _, _, _, _, _, e, _, _ => by simp [partsOkS] at e
  | (i, x) :: r, (i', y) :: s, h, h', xs, xs', c, H, R, hk, hc, e => by
    simp only [partsOkS, Bool.and_eq_true, beq_iff_eq] at hk
    obtain ⟨⟨rfl, k2⟩, k3⟩ := hk
    simp only [fillP] at e
    split at e
    · rename_i v h1 hp
      split at e
      · rename_i hb
        obtain ⟨⟨a1, a2, a3⟩, a4⟩ := pur_sound _ H (R x y k2) hp
        have hall : v.cells.all PV.sc = true := by rw [List.all_eq_true]; exact shp_sc hb.1
        obtain ⟨s1, s2, s3⟩ := pcells_sound a4 hall
        have hrow := (hc.mono a2.le).set (vs := (ρ y).cells.toList) hb.2 hb.1 (by simp [s1, shp_cells hb.1]) (fun j z hz => by obtain ⟨u, q1, q2⟩ := s2 j z hz; exact ⟨u, by simpa using q1, q2⟩)
        obtain ⟨⟨b1, b2, b3⟩, b4, c', b5, b6, b7⟩ := fillP_ok a1 (fun p q hpq => (R p q hpq).evo a2) k3 hrow e
        refine ⟨⟨b1, a2.trans b2, by simpa using EscInv.trans a3 b3⟩, by simpa using b4, c', ?_, by rw [b6, setAll_size], b7⟩
        simp only [List.map_cons, Instr.fill]
        have hsz : (i + 1) * shSize sh ≤ xs.length * shSize sh := Nat.mul_le_mul_right _ hb.2
        rw [Nat.add_mul, Nat.one_mul] at hsz
        have hneg : ¬ ((decide ((ρ y).cells.size ≠ shSize sh) || decide (i * shSize sh + (ρ y).cells.size > c.size)) = true) := by
          have := hc.1; have := shp_cells hb.1; simp; omega
        rw [if_neg hneg, foldl_fill]
        exact b5
      · cases e
    · cases e

def chkBsl (P : Program) (sh : Sh) (n : Nat) (z : PV) (ps : List (Nat × Opd)) (t : TypeId) (n' : Nat) (qs : List (Nat × Operand)) : Bool := match P.underlying t with
  | some (.slice e) => shOf P e == some sh && chkZero P e sh z && n == n' && decide (n * shSize sh ≤ 2 ^ 24) && decide (shSize sh ≠ 0) && partsOkS ps qs
  | _ => false

theorem bsl_ok {own : Bool} {sh : Sh} {n n' : Nat} {z : PV} {ps : List (Nat × Opd)} {t : TypeId} {qs : Array (Nat × Operand)} (hc : chkBsl P sh n z ps t n' qs.toList = true) {ev : Opd → AV} {ρ : Operand → Value} {v : AV} {h1 : Heap} {e : Esc}
    (H : HeapRel h μ w) (R : OpdRel (imm h μ w) h μ ev ρ) (he : aop (.bsl own sh n z ps) ev h = some (v, h1, e)) :
    OpOk P (do pure (.value (← Instr.buildSlice t n' (qs.map fun (i, x) => (i, ρ x))))) h μ w v h1 e := by
  unfold chkBsl at hc
  split at hc
  · rename_i el hu
    simp only [Bool.and_eq_true, beq_iff_eq, decide_eq_true_eq] at hc
    obtain ⟨⟨⟨⟨⟨c1, c2⟩, rfl⟩, c4⟩, c5⟩, c6⟩ := hc
    obtain ⟨i, zv, z1, z2, z3, z4, z5, z6⟩ := zero_spec c2
    simp only [aop] at he
    split at he
    · rename_i xs h2 hf
      split at he
      · cases he
      · injection he with he
        have hrow0 : RRow (imm h μ w) sh (List.replicate n z) ((Array.range (n * shSize sh)).map (fun k => zv.cells[k % zv.cells.size]!)) := zeroRow z4 z5 (z6 _) (Nat.le_refl _)
        obtain ⟨hp, hlen, c', f1, f2, f3⟩ := fillP_ok H R c6 hrow0 hf
        simp at hlen
        have hrun : (Instr.buildSlice t n (qs.map fun (i, x) => (i, ρ x))).run P w = .ok (.slice (some ⟨w.heap.size, 0, none⟩) n n) { w with heap := w.heap.push (.cells c' el (0, 0)) } := by
          unfold Instr.buildSlice
          rw [Sem.run_bind, run_underlying_of hu]
          simp only [Result.andThen_ok, Sem.run_bind, run_sizeOf_of c1]
          rw [if_neg (by omega)]
          have hq : (Array.map (fun x => (x.fst, ρ x.snd)) qs).toList = qs.toList.map fun y => (y.1, ρ y.2) := by simp
          by_cases hn : n * shSize sh = 0
          · have hn0 : n = 0 := by
              rcases Nat.eq_zero_or_pos n with h0 | h0
              · exact h0
              · have : 0 < n * shSize sh := Nat.mul_pos h0 (by omega); omega
            subst hn0
            have hqs : qs.toList = [] := by
              cases ps with
              | nil => cases hqq : qs.toList with
                | nil => rfl
                | cons a b => rw [hqq] at c6; simp [partsOkS] at c6
              | cons a b => simp [fillP] at hf; split at hf <;> simp at hf
            have hc0 : c' = #[] := by apply Array.eq_empty_of_size_eq_zero; rw [f2]; simp
            subst hc0
            simp [hqs, Instr.fill, run_newObj_cells, range0]
          · simp only [hn, if_false, Sem.run_bind, run_zero z1 z2, Result.andThen_ok, Sem.run_pure, hq, f1, run_newObj_cells]
        have hsz : c'.size = n * shSize sh := by rw [f2]; simp
        have hB : Block { w with heap := w.heap.push (.cells c' el (0, 0)) } w.heap.size c'.size c' := Block.push c' el
        cases own with
        | false =>
          simp only [cond_false, Prod.mk.injEq] at he
          obtain ⟨rfl, rfl, rfl⟩ := he
          refine OpOk.after hp (OpOk.ext hp.1 (WExt.push w _) (run_v hrun) ?_)
          have := newVal (cap := n) hp.1 (WExt.push w (.cells c' el (0, 0))) (Nat.le_refl _) hB (by omega) f3.2.1 f3.2.2
          rw [hlen] at this
          exact .p _ _ this
        | true =>
          simp only [cond_true, Prod.mk.injEq] at he
          obtain ⟨rfl, rfl, rfl⟩ := he
          refine OpOk.after hp ?_
          obtain ⟨n1, n2⟩ := newRow' hp.1 (WExt.push w (.cells c' el (0, 0))) (Nat.le_refl _) (by simp) hB (by rw [hsz, hlen]; exact Nat.le_refl _) f3.2.1 f3.2.2
          refine ⟨_, _, _, run_v hrun, .inl ⟨_, rfl, ?_⟩, n1, n2, EscInv.push (by simp [Obj.top])⟩
          refine .own h2.length n 0 n _ n sh xs 0 (some (w.heap.size, c'.size)) (Nat.le_refl _) (by simp) (by rw [← hp.1.len]; simp) (by omega) (by omega) (fun _ => ?_)
          right
          refine ⟨by simp, by rw [hsz]; simp⟩
    · cases he
  · cases hc

/-! ### make -/

def chkMksl (P : Program) (sh : Sh) (z : PV) (t : TypeId) : Bool := match P.underlying t with
  | some (.slice e) => shOf P e == some sh && chkZero P e sh z && decide (shSize sh ≠ 0) && (match P.info? e with | some i => decide (i.bytes ≤ 256) | none => false)
  | _ => false

theorem wrap_nat {n : Nat} (hn : n ≤ maxSl) : IntKind.i64.wrap (n : Int) = (n : Int) := by
  unfold maxSl at hn
  simp [IntKind.wrap, IntKind.bits, IntKind.signed]
  omega

theorem mksl_ok {sh : Sh} {z : PV} {t : TypeId} (hc : chkMksl P sh z t = true) {ev : Opd → AV} {p q : Opd} {x y : Value} {v : AV} {h1 : Heap} {e : Esc} (H : HeapRel h μ w) (Rp : RAV (imm h μ w) h μ (ev p) x) (Rq : RAV (imm h μ w) h μ (ev q) y)
    (he : aop (.mksl sh z p q) ev h = some (v, h1, e)) : OpOk P (do pure (.value (← Instr.makeSlice t x y))) h μ w v h1 e := by
  unfold chkMksl at hc
  split at hc
  · rename_i el hu
    simp only [Bool.and_eq_true, beq_iff_eq, decide_eq_true_eq] at hc
    obtain ⟨⟨⟨c1, c2⟩, c3⟩, c4⟩ := hc
    obtain ⟨i, zv, z1, z2, z3, z4, z5, z6⟩ := zero_spec c2
    rw [z1] at c4
    simp only [decide_eq_true_eq] at c4
    simp only [aop] at he
    split at he
    · rename_i n m hn hm
      split at he
      · rename_i hb
        simp at he
        obtain ⟨rfl, rfl, rfl⟩ := he
        obtain ⟨kk, rfl⟩ := rav_nat hn Rp
        obtain ⟨kk', rfl⟩ := rav_nat hm Rq
        have hrow : RRow (imm h μ w) sh (List.replicate n z) ((Array.range (m * shSize sh)).map (fun k => zv.cells[k % zv.cells.size]!)) := zeroRow z4 z5 (z6 _) (Nat.mul_le_mul_right _ hb.1)
        have hrun : (Instr.makeSlice t (.int kk n) (.int kk' m)).run P w = .ok (.slice (some ⟨w.heap.size, 0, none⟩) n m) { w with heap := w.heap.push (.cells ((Array.range (m * shSize sh)).map (fun k => zv.cells[k % zv.cells.size]!)) el (0, 0)) } := by
          unfold Instr.makeSlice
          rw [Sem.run_bind, run_underlying_of hu]
          simp only [Result.andThen_ok, asInt, asIntOf, Sem.run_bind, Sem.run_map, Sem.run_pure, run_typeInfo_of z1, wrap_nat hb.2.1, wrap_nat (Nat.le_trans hb.1 hb.2.1)]
          have hbig : (i.bytes : Int) * (m : Int) ≤ 70368744177664 := by
            have h1 : m ≤ 274877906944 := hb.2.1
            have h2 : i.bytes * m ≤ 70368744177664 := Nat.mul_le_mul c4 h1
            have h3 := Int.ofNat_le.2 h2
            rwa [Int.natCast_mul] at h3
          rw [if_neg]
          · simp only [Sem.run_bind, run_askRoom, Result.andThen_ok, run_sizeOf_of c1, Int.toNat_natCast]
            by_cases hn0 : m * shSize sh = 0
            · simp only [hn0, if_true, Sem.run_pure, Result.andThen_ok, run_newObj_cells, range0]
              simp only [Array.map_empty, List.map_toArray, List.map_nil, Sem.run_bind, Sem.run_pure, Result.andThen_ok]
              rw [run_newObj_cells]
              rfl
            · simp only [hn0, if_false, Sem.run_bind, run_zero z1 z2, Result.andThen_ok, Sem.run_pure, run_newObj_cells]
          · simp
            omega
        have hB : Block { w with heap := w.heap.push (.cells ((Array.range (m * shSize sh)).map (fun k => zv.cells[k % zv.cells.size]!)) el (0, 0)) } w.heap.size (m * shSize sh) ((Array.range (m * shSize sh)).map (fun k => zv.cells[k % zv.cells.size]!)) := by
          have := Block.push (w := w) ((Array.range (m * shSize sh)).map (fun k => zv.cells[k % zv.cells.size]!)) el
          simpa using this
        obtain ⟨n1, n2⟩ := newRow' (sh := sh) (xs := List.replicate n z) H (WExt.push w (.cells ((Array.range (m * shSize sh)).map (fun k => zv.cells[k % zv.cells.size]!)) el (0, 0))) (Nat.le_refl _) (by simp) hB (by rw [List.length_replicate]; exact Nat.mul_le_mul_right _ hb.1) hrow.2.1 hrow.2.2
        refine ⟨_, _, _, run_v hrun, .inl ⟨_, rfl, ?_⟩, n1, n2, EscInv.push (by simp [Obj.top])⟩
        refine .own h.length n 0 n _ m sh (List.replicate n z) 0 (some (w.heap.size, m * shSize sh)) hb.1 (by simp) (by rw [← H.len]; simp) (by simp) (by omega) (fun _ => ?_)
        right
        exact ⟨by simp, by simp⟩
      · cases he
    · cases he
  · cases hc

end Go.Am
