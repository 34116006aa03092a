/- The abstract machine, part 14: append, copy, conversions, lengths. -/
import Derived.Test.YtajhbehiecgflaaAm13
import Derived.Laws.AppendOwn
set_option linter.unusedSimpArgs false
set_option linter.unusedVariables false
set_option maxHeartbeats 1000000
namespace Go.Am

variable {h h' : Heap} {μ μ' : Mu} {w w' : World} {P : Program} {M M' : Mem}

theorem flat_len {xs : List PV} {e : Nat} (he : ∀ x ∈ xs, x.cells.length = e) : (xs.flatMap PV.cells).length = xs.length * e := by
  induction xs with
  | nil => simp
  | cons x r ih =>
    rw [List.flatMap_cons, List.length_append, he x (by simp), ih (fun y hy => he y (by simp [hy])), List.length_cons, Nat.add_mul]
    omega

/-- Cells that read as a list (told one behind the other). -/
def CRow (M : Mem) (sh : Sh) (ys : List PV) (c : List Value) : Prop :=
  c.length = ys.length * shSize sh ∧ (∀ y ∈ ys, y.shp sh = true) ∧ ∀ (j : Nat) (y : PV), (ys.flatMap PV.cells)[j]? = some y → ∃ v, c[j]? = some v ∧ RPV M y v

theorem byte_scalar (b : UInt8) : (PV.int .u8 b.toNat).shp none = true := rfl

theorem bytes_flat (s : List UInt8) : (bytesP s).flatMap PV.cells = bytesP s := by
  induction s with
  | nil => rfl
  | cons b r ih => simp only [bytesP, List.map_cons, List.flatMap_cons] at ih ⊢; rw [ih]; rfl

/-- The source of an append or a copy. -/
theorem src_sound (H : HeapRel h μ w) {v : AV} {x : Value} {sh : Sh} {ys : List PV} (R : RAV (imm h μ w) h μ v x) (hr : rds h v = some (sh, ys)) :
    (Builtin.lenOf x).run P w = .ok ys.length w ∧ ∀ n, n ≤ ys.length → ∃ c, (∀ k, (Builtin.firstCells (shSize sh) n x).run P { w with drawn := k } = .ok c { w with drawn := k }) ∧ CRow (imm h μ w) sh (ys.take n) c.toList := by
  have key : rd h v = some (sh, ys) → (Builtin.lenOf x).run P w = .ok ys.length w ∧ ∀ n, n ≤ ys.length → ∃ c, (∀ k, (Builtin.firstCells (shSize sh) n x).run P { w with drawn := k } = .ok c { w with drawn := k }) ∧ CRow (imm h μ w) sh (ys.take n) c.toList := by
    intro hr
    obtain ⟨a, cap, rfl, hcap, hrd⟩ := rd_sound H R hr
    refine ⟨by simp [Builtin.lenOf], fun n hn => ?_⟩
    by_cases hne : ys = []
    · subst hne
      have : n = 0 := by simpa using hn
      subst this
      refine ⟨#[], fun k => ?_, by simp, by simp, fun j y hy => by simp at hy⟩
      cases a with
      | none => simp [Builtin.firstCells]
      | some a => simp [Builtin.firstCells, loadCells, loadCellsFrom]
    · obtain ⟨b, o, f, rfl, he, hcell⟩ := hrd hne
      have he' : ∀ x ∈ ys, x.cells.length = shSize sh := fun x hx => shp_cells (he x hx)
      have hfl := flat_len he'
      have hsub : ∀ (j : Nat) (y : PV), ((ys.take n).flatMap PV.cells)[j]? = some y → (ys.flatMap PV.cells)[j]? = some y := by
        intro j y hy
        have : ys.flatMap PV.cells = (ys.take n).flatMap PV.cells ++ (ys.drop n).flatMap PV.cells := by rw [← List.flatMap_append, List.take_append_drop]
        rw [this]
        exact get_left hy
      refine ⟨((List.range (n * shSize sh)).map f).toArray, fun k => ?_, by simp [Nat.min_eq_left hn], fun y hy => he y (List.mem_of_mem_take hy), fun j y hy => ?_⟩
      · simp only [Builtin.firstCells]
        refine run_loadCells (fun j hj => ?_)
        have hlt : j < (ys.flatMap PV.cells).length := by
          rw [hfl]
          have : n * shSize sh ≤ ys.length * shSize sh := Nat.mul_le_mul_right _ hn
          omega
        exact (hcell j _ (List.getElem?_eq_getElem hlt)).1
      · have hlt : j < n * shSize sh := by
          have h1 := lt_of_get hy
          rw [flat_len (fun x hx => he' x (List.mem_of_mem_take hx))] at h1
          simp at h1
          rw [Nat.min_eq_left hn] at h1
          exact h1
        exact ⟨f j, by simp [hlt], (hcell j y (hsub j y hy)).2⟩
  cases v with
  | p pv =>
    cases pv with
    | str s =>
      simp only [rds, Option.some.injEq, Prod.mk.injEq] at hr
      obtain ⟨rfl, rfl⟩ := hr
      rw [R.p_str]
      refine ⟨by simp [Builtin.lenOf, bytesP, ByteArray.size], fun n hn => ?_⟩
      refine ⟨((s.take n).map fun b => Value.int .u8 b.toNat).toArray, fun k => ?_, by simp [bytesP, shSize], fun y hy => ?_, fun j y hy => ?_⟩
      · simp only [Builtin.firstCells]
        have : (ByteArray.extract ⟨s.toArray⟩ 0 n).data = (s.take n).toArray := by
          simp [ByteArray.data_extract, List.extract_eq_take_drop]
        simp [this]
      · have := List.mem_of_mem_take hy
        simp only [bytesP, List.mem_map] at this
        obtain ⟨b, _, rfl⟩ := this
        rfl
      · have h2 : (bytesP s).take n = bytesP (s.take n) := by simp [bytesP]
        rw [h2, bytes_flat] at hy
        simp only [bytesP, List.getElem?_map, Option.map_eq_some_iff] at hy
        obtain ⟨b, hb, rfl⟩ := hy
        exact ⟨.int .u8 b.toNat, by rw [List.getElem?_toArray.symm] <;> simp [← List.map_take, hb], .int _ _⟩
    | sl sh' xs => exact key (by simpa [rds] using hr)
    | _ => simp [rds, rd] at hr
  | sl0 sh' => exact key (by simpa [rds] using hr)
  | own a b c d => exact key (by simpa only [rds] using hr)
  | _ => simp [rds, rd] at hr

def chkApp (P : Program) (sh : Sh) (t : TypeId) (u : TypeId) : Bool := match P.underlying t with
  | some (.slice e) => shOf P e == some sh && (match P.info? e with | some i => decide (i.bytes ≤ 256) && decide (0 < i.bytes) && (match i.zero with | some v => v.cells.size == i.size | none => false) && i.size == shSize sh | none => false) &&
    decide (shSize sh ≠ 0) && (match P.underlying u with | some (.int _) => false | some _ => true | none => false)
  | _ => false

theorem growBy_le (n : Nat) : ∀ (r c : Nat), c ≤ 2 * n + 768 → Builtin.growBy n r c ≤ 2 * n + 768
  | 0, c, hc => hc
  | r + 1, c, hc => by
    unfold Builtin.growBy
    split
    · exact hc
    · rename_i h
      exact growBy_le n r _ (by omega)

theorem nextcap_le {need cap : Nat} (h : cap < need) : Builtin.nextslicecap need cap ≤ 2 * need + 768 := by
  unfold Builtin.nextslicecap
  split
  · omega
  · split
    · omega
    · exact growBy_le need 4 cap (by omega)

theorem appendCap_ge (need old : Nat) (e : TypeId) (t : Nat) : need ≤ (Question.appendCap need old e).cut t := by
  simp [Question.cut]

/-- Where there is room. -/
theorem run_append_room' {sh : Sh} {t u ty : TypeId} (hc : chkApp P sh t u = true) {base : Option Addr} {sLen sCap n : Nat} {x : Value} {c : Array Value} (hl : (Builtin.lenOf x).run P w = .ok n w)
    (hf : (Builtin.firstCells (shSize sh) n x).run P w = .ok c w) (hroom : sLen + n ≤ sCap) {w' : World} (hst : (match base with | some a => storeCells (a.add (sLen * shSize sh)) c.toList | none => (pure () : Sem Unit)).run P w = .ok () w') :
    (Builtin.append_ #[t, u] ty #[.slice base sLen sCap, x]).run P w = .ok (.slice base (sLen + n) sCap) w' := by
  unfold chkApp at hc
  split at hc
  · rename_i e hu
    simp only [Bool.and_eq_true, beq_iff_eq, decide_eq_true_eq] at hc
    obtain ⟨⟨⟨c1, c2⟩, c3⟩, c4⟩ := hc
    have hu2 : ∃ d, P.underlying u = some d ∧ (match d with | .int _ => true | _ => false) = false := by
      cases hd : P.underlying u with
      | none => rw [hd] at c4; simp at c4
      | some d => refine ⟨d, rfl, ?_⟩; rw [hd] at c4; cases d <;> simp_all
    obtain ⟨d, hd1, hd2⟩ := hu2
    cases base with
    | none =>
      simp only at hst
      have hw : w' = w := by simpa using hst.symm
      subst hw
      cases d <;> first | (exact Bool.noConfusion hd2) | simp only [Builtin.append_, List.getElem?_toArray, List.getElem?_cons_zero, List.getElem?_cons_succ, Sem.run_bind, run_underlying_of hu, Result.andThen_ok, run_sizeOf_of c1, run_underlying_of hd1, Sem.run_pure, Sem.run_map, hl, Bool.false_eq_true, if_false, hroom, if_true, Bool.not_false, hf]
    | some a =>
      simp only at hst
      cases d <;> first | (exact Bool.noConfusion hd2) | simp only [Builtin.append_, List.getElem?_toArray, List.getElem?_cons_zero, List.getElem?_cons_succ, Sem.run_bind, run_underlying_of hu, Result.andThen_ok, run_sizeOf_of c1, run_underlying_of hd1, Sem.run_pure, Sem.run_map, hl, Bool.false_eq_true, if_false, hroom, if_true, Bool.not_false, hf, hst]
  · cases hc

theorem small_i64 {n : Nat} (hn : n ≤ maxSl) : ¬ ((n : Int) > IntKind.i64.max) := by
  unfold maxSl at hn
  simp [IntKind.max, IntKind.signed, IntKind.bits]
  omega

/-- Where there is none. -/
theorem run_append_grow' {sh : Sh} {t u ty : TypeId} (hc : chkApp P sh t u = true) {base : Option Addr} {sLen sCap n : Nat} {x : Value} {c old : Array Value} (hl : (Builtin.lenOf x).run P w = .ok n w)
    (hf : ∀ k, (Builtin.firstCells (shSize sh) n x).run P { w with drawn := k } = .ok c { w with drawn := k }) (hroom : sCap < sLen + n) (hn : sLen + n ≤ maxSl)
    (ho : ∀ k, (Builtin.firstCells (shSize sh) sLen (.slice base sLen sCap)).run P { w with drawn := k } = .ok old { w with drawn := k }) :
    ∃ e newCap rest, sLen + n ≤ newCap ∧ rest.size = (newCap - (sLen + n)) * shSize sh ∧
      (Builtin.append_ #[t, u] ty #[.slice base sLen sCap, x]).run P w = .ok (.slice (some ⟨w.heap.size, 0, none⟩) (sLen + n) newCap) { w with drawn := w.drawn + 1, heap := w.heap.push (.cells (old ++ c ++ rest) e (0, 0)) } := by
  unfold chkApp at hc
  split at hc
  · rename_i e hu
    simp only [Bool.and_eq_true, beq_iff_eq, decide_eq_true_eq] at hc
    obtain ⟨⟨⟨c1, c2⟩, c3⟩, c4⟩ := hc
    have hu2 : ∃ d, P.underlying u = some d ∧ (match d with | .int _ => true | _ => false) = false := by
      cases hd : P.underlying u with
      | none => rw [hd] at c4; simp at c4
      | some d => refine ⟨d, rfl, ?_⟩; rw [hd] at c4; cases d <;> simp_all
    obtain ⟨d, hd1, hd2⟩ := hu2
    have hi2 : ∃ i z, P.info? e = some i ∧ i.bytes ≤ 256 ∧ 0 < i.bytes ∧ i.zero = some z ∧ z.cells.size = shSize sh := by
      cases hi : P.info? e with
      | none => rw [hi] at c2; simp at c2
      | some i =>
        rw [hi] at c2
        simp only [Bool.and_eq_true, decide_eq_true_eq, beq_iff_eq] at c2
        obtain ⟨⟨⟨b1, b2⟩, b3⟩, b4⟩ := c2
        cases hz : i.zero with
        | none => rw [hz] at b3; simp at b3
        | some z => rw [hz] at b3; simp at b3; exact ⟨i, z, rfl, b1, b2, hz, by rw [b3, b4]⟩
    obtain ⟨i, z, hi, b1, b2, hz, hzs⟩ := hi2
    have hcapb : ¬ (Builtin.nextslicecap (sLen + n) sCap * i.bytes > 2 ^ 48) := by
      have h1 := nextcap_le hroom
      have h2 : sLen + n ≤ 274877906944 := hn
      have h3 : Builtin.nextslicecap (sLen + n) sCap * i.bytes ≤ 549755814656 * 256 := Nat.mul_le_mul (by omega) b1
      omega
    have hno : ¬ sLen + n ≤ sCap := by omega
    have hby0 : ¬ i.bytes = 0 := by omega
    refine ⟨e, (Question.appendCap (sLen + n) sCap e).cut (w.tape w.drawn (.appendCap (sLen + n) sCap e)), Builtin.zeroCells z.cells ((Question.appendCap (sLen + n) sCap e).cut (w.tape w.drawn (.appendCap (sLen + n) sCap e)) - (sLen + n)), appendCap_ge _ _ _ _, ?_, ?_⟩
    · rw [size_zeroCells, hzs]
    · have hforced : (Question.appendCap (sLen + n) sCap e).forced = false := rfl
      cases d <;> first | (exact Bool.noConfusion hd2) | simp only [Builtin.append_, List.getElem?_toArray, List.getElem?_cons_zero, List.getElem?_cons_succ, Sem.run_bind, run_underlying_of hu, Result.andThen_ok, run_sizeOf_of c1, run_underlying_of hd1, Sem.run_pure, Sem.run_map, hl, Bool.false_eq_true, if_false, hno, hby0, or_self, and_false, run_typeInfo_of hi, hcapb, run_choose, hforced, run_askRoom, hf, ho, run_zero hi hz, run_newObj_cells, Bool.not_false, if_true, decide_false, false_or]
  · cases hc

end Go.Am
