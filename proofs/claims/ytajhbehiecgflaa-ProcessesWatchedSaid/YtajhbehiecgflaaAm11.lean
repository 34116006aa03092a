/- The abstract machine, part 11: addresses, elements, parts, comparisons. -/
import Derived.Test.YtajhbehiecgflaaAm10
set_option linter.unusedSimpArgs false
set_option linter.unusedVariables false
namespace Go.Am

variable {h h' : Heap} {μ μ' : Mu} {w w' : World} {P : Program} {M : Mem}

/-! ### parts of a value -/

theorem cutP_get {sh : Sh} {off : Nat} {v u : PV} (hc : cutP sh off v = some u) : ∀ (j : Nat) (y : PV), u.cells[j]? = some y → v.cells[off + j]? = some y := by
  intro j y hy
  unfold cutP at hc
  split at hc
  · rename_i cs
    cases sh with
    | none =>
      simp only [Option.bind_eq_some_iff] at hc
      obtain ⟨z, hz, hc⟩ := hc
      split at hc <;> simp at hc
      rename_i hsc
      subst hc
      have : z.cells = [z] := by cases z <;> first | rfl | (simp [PV.sc] at hsc)
      rw [this] at hy
      cases j with
      | zero => simp at hy; subst hy; simpa [PV.cells] using hz
      | succ j => simp at hy
    | some n =>
      dsimp only at hc
      split at hc
      · simp at hc
        subst hc
        simp only [PV.cells] at hy ⊢
        rw [List.getElem?_take] at hy
        split at hy
        · rw [List.getElem?_drop] at hy; exact hy
        · cases hy
      · cases hc
  · split at hc
    · simp at hc; subst hc; simpa using hy
    · cases hc

theorem vp_cut {sh : Sh} {off : Nat} {v u : PV} {b o : Nat} (R : RAV M h μ (.vp v) (.pointer (some ⟨b, o, none⟩))) (hc : cutP sh off v = some u) : RAV M h μ (.vp u) (.pointer (some ⟨b, o + off, none⟩)) := by
  cases R with | vp _ _ _ f hm hr =>
  refine .vp u b (o + off) (fun j => f (off + j)) (fun j y hy => ?_) (fun j y hy => hr _ y (cutP_get hc j y hy))
  rw [Nat.add_assoc]
  exact hm _ y (cutP_get hc j y hy)

def chkFaddr (P : Program) (s : TypeId) (field off : Nat) (sh : Sh) : Bool := match P.underlying s with
  | some (.struct fs) => match fs[field]? with
    | some f => f.offset == off && shOf P f.type == some sh && shSize sh != 0
    | none => false
  | _ => false

theorem run_fieldAt {s : TypeId} {field off : Nat} {sh : Sh} {a : Addr} (hc : chkFaddr P s field off sh = true) : (Instr.fieldAt s (.pointer (some a)) field).run P w = .ok (.pointer (some (a.add off))) w := by
  unfold chkFaddr at hc
  split at hc
  · rename_i fs hu
    split at hc
    · rename_i f hf
      simp only [Bool.and_eq_true, beq_iff_eq, bne_iff_ne] at hc
      unfold Instr.fieldAt
      rw [Sem.run_bind, run_underlying_of hu]
      simp only [Result.andThen_ok, hf, Instr.sureAddr, Sem.run_bind, Sem.run_pure, fieldPlace]
      rw [run_sizeOf_of hc.1.2]
      simp only [Result.andThen_ok]
      rw [if_neg hc.2, hc.1.1]
      rfl
    · cases hc
  · cases hc

theorem faddr_ok {s : TypeId} {field off : Nat} {sh : Sh} (hc : chkFaddr P s field off sh = true) {x : Value} {v : AV} {h1 : Heap} {e : Esc} (H : HeapRel h μ w) (ev : Opd → AV) (p : Opd) (R : RAV (imm h μ w) h μ (ev p) x)
    (he : aop (.faddr off sh p) ev h = some (v, h1, e)) : OpOk P (do pure (.value (← Instr.fieldAt s x field))) h μ w v h1 e := by
  simp only [aop] at he
  cases hp : ev p with
  | ref id o =>
    rw [hp] at he R
    simp at he
    obtain ⟨rfl, rfl, rfl⟩ := he
    cases R with | ref _ _ b n cs ho hm =>
    exact OpOk.pure H (run_v (run_fieldAt hc)) (by rw [add_at]; exact .ref id _ b n cs ho hm)
  | rref id g i o =>
    rw [hp] at he R
    simp at he
    obtain ⟨rfl, rfl, rfl⟩ := he
    cases R with | rref _ _ _ _ a sh' xs fz m ho hm hg hi hv =>
    refine OpOk.pure H (run_v (run_fieldAt hc)) (.rref id g i _ _ sh' xs fz m ho hm hg hi (fun e => ?_))
    obtain ⟨b, n, rfl, rfl⟩ := hv e
    exact ⟨b, n, rfl, by rw [add_at, Nat.add_assoc]⟩
  | vp y =>
    rw [hp] at he R
    simp only [Option.map_eq_some_iff, Prod.mk.injEq] at he
    obtain ⟨u, hu, rfl, rfl, rfl⟩ := he
    have R' := R
    cases R with | vp _ b o f hm hr =>
    exact OpOk.pure H (run_v (run_fieldAt hc)) (by rw [add_at]; exact vp_cut R' hu)
  | _ => rw [hp] at he; simp at he

theorem extract_list {vs : List Value} {off n : Nat} (hl : off + n ≤ vs.length) : vs.toArray.extract off (off + n) = (((List.range n).map fun j => (vs[off + j]?).getD undef)).toArray := by
  apply Array.ext_getElem?
  intro i
  rw [Array.getElem?_extract]
  by_cases hi : i < n
  · simp [hi]
    have : off + i < vs.length := by omega
    simp [this]
    omega
  · simp [hi]
    omega

theorem run_part {t : TypeId} {sh : Sh} (hs : shOf P t = some sh) {vs : List Value} {off : Nat} (hl : off + shSize sh ≤ vs.length) :
    (part t vs.toArray off).run P w = .ok (shVal sh fun j => (vs[off + j]?).getD undef) w := by
  unfold part
  rw [Sem.run_bind, run_isAgg_of hs]
  simp only [Result.andThen_ok]
  cases sh with
  | none =>
    simp only [Option.isSome, Bool.false_eq_true, if_false]
    have : off < vs.length := by simp [shSize] at hl; omega
    simp [this, shVal]
  | some n =>
    simp only [Option.isSome, if_true, Sem.run_bind, run_sizeOf_of hs, Result.andThen_ok, Sem.run_pure]
    simp only [shSize] at hl ⊢
    rw [extract_list hl]
    rfl

theorem field_ok {s : TypeId} {field off : Nat} {sh : Sh} (hc : chkFaddr P s field off sh = true) {x : Value} {v : AV} {h1 : Heap} {e : Esc} (H : HeapRel h μ w) (ev : Opd → AV) (p : Opd) (R : RAV (imm h μ w) h μ (ev p) x)
    (he : aop (.field off sh p) ev h = some (v, h1, e)) : OpOk P (do pure (.value (← Instr.field s x field))) h μ w v h1 e := by
  unfold chkFaddr at hc
  split at hc
  · rename_i fs hu
    split at hc
    · rename_i f hf
      simp only [Bool.and_eq_true, beq_iff_eq, bne_iff_ne] at hc
      have hrun : ∀ (vs : List Value), off + shSize sh ≤ vs.length → (Instr.field s (.agg vs.toArray) field).run P w = .ok (shVal sh fun j => (vs[off + j]?).getD undef) w := by
        intro vs hl
        unfold Instr.field
        rw [Sem.run_bind, run_underlying_of hu]
        simp only [Result.andThen_ok, hf, asAgg, Sem.run_bind, Sem.run_pure, hc.1.1]
        exact run_part hc.1.2 hl
      simp only [aop] at he
      cases hp : ev p with
      | p y =>
        rw [hp] at he R
        dsimp only at he
        split at he
        · rename_i cs
          simp only [Option.map_eq_some_iff, Prod.mk.injEq] at he
          obtain ⟨u, hcut, rfl, rfl, rfl⟩ := he
          have Ri := R.p_inv
          cases Ri with | agg _ vs hl hr =>
          have hf2 : ∀ (j : Nat) (x : PV), (PV.agg cs).cells[j]? = some x → RPV (imm h μ w) x ((vs[j]?).getD undef) := by
            intro j x hx
            have hj : j < vs.length := by rw [← hl]; exact lt_of_get hx
            simp only [List.getElem?_eq_getElem hj, Option.getD_some]
            exact hr j x _ hx (List.getElem?_eq_getElem hj)
          obtain ⟨h2, h3⟩ := cutP_cells hcut hf2
          refine OpOk.pure H (run_v (hrun vs (by rw [← hl]; simpa [PV.cells] using h2))) ?_
          cases sh <;> exact .p _ _ h3
        · cases he
      | agg cs =>
        rw [hp] at he R
        simp only [Option.map_eq_some_iff, Prod.mk.injEq] at he
        obtain ⟨u, hcut, rfl, rfl, rfl⟩ := he
        cases R with | agg _ vs hl hr =>
        have hf2 : ∀ (j : Nat) (x : AV), cs[j]? = some x → RAV (imm h μ w) h μ x ((vs[j]?).getD undef) := by
          intro j x hx
          have hj : j < vs.length := by rw [← hl]; exact lt_of_get hx
          simp only [List.getElem?_eq_getElem hj, Option.getD_some]
          exact hr j x _ hx (List.getElem?_eq_getElem hj)
        obtain ⟨h2, h3⟩ := cut_cells hcut hf2
        refine OpOk.pure H (run_v (hrun vs (by rw [← hl]; exact h2))) ?_
        cases sh <;> exact h3
      | _ => rw [hp] at he; simp at he
    · cases hc
  · cases hc

/-! ### elements -/

def chkSlice (P : Program) (t : TypeId) (sh : Sh) : Bool := match P.underlying t with
  | some (.slice e) => shOf P e == some sh
  | _ => false

def chkArray (P : Program) (t : TypeId) (n : Nat) (sh : Sh) : Bool := match P.underlying t with
  | some (.array m e) => m == n && shOf P e == some sh
  | _ => false

theorem run_indexAt_slice {t : TypeId} {sh : Sh} (hc : chkSlice P t sh = true) {a : Addr} {len cap k : Nat} {kk : IntKind} (hk : k < len) :
    (Instr.indexAt t (.slice (some a) len cap) (.int kk (k : Int))).run P w = .ok (.pointer (some (a.add (k * shSize sh)))) w := by
  unfold chkSlice at hc
  split at hc
  · rename_i e hu
    simp only [beq_iff_eq] at hc
    unfold Instr.indexAt
    simp only [asIntOf, Sem.run_bind, Sem.run_pure, Result.andThen_ok, run_underlying_of hu]
    have : (0 : Int) ≤ (k : Int) ∧ (k : Int) < (len : Int) := by omega
    simp [this, run_sizeOf_of hc]
  · cases hc

theorem run_indexAt_array {t : TypeId} {n : Nat} {sh : Sh} (hc : chkArray P t n sh = true) {a : Addr} {k : Nat} {kk : IntKind} (hk : k < n) :
    (Instr.indexAt t (.pointer (some a)) (.int kk (k : Int))).run P w = .ok (.pointer (some (a.add (k * shSize sh)))) w := by
  unfold chkArray at hc
  split at hc
  · rename_i m e hu
    simp only [Bool.and_eq_true, beq_iff_eq] at hc
    obtain ⟨rfl, hc⟩ := hc
    unfold Instr.indexAt
    simp only [asIntOf, Sem.run_bind, Sem.run_pure, Result.andThen_ok, run_underlying_of hu, Instr.sureAddr]
    have : (0 : Int) ≤ (k : Int) ∧ (k : Int) < (m : Int) := by omega
    simp [this, run_sizeOf_of hc]
  · cases hc

theorem sl_elem {xs : List PV} {k : Nat} {x : PV} {y : Value} {sh : Sh} (R : RPV M (.sl sh xs) y) (hx : xs[k]? = some x) :
    ∃ b o cap, y = .slice (some ⟨b, o, none⟩) xs.length cap ∧ k < xs.length ∧ RAV M h μ (.vp x) (.pointer (some ⟨b, o + k * shSize sh, none⟩)) := by
  have hk : k < xs.length := lt_of_get hx
  cases R with
  | nils _ a cap => simp at hx
  | sl _ _ b o cap f hne hc he hm hr =>
    have he' : ∀ x ∈ xs, x.cells.length = shSize sh := fun x hx => shp_cells (he x hx)
    have hflat : ∀ (j : Nat) (z : PV), x.cells[j]? = some z → (xs.flatMap PV.cells)[k * shSize sh + j]? = some z := by
      intro j z hz
      rw [flat_get he' k j (by rw [← he' x (List.mem_of_getElem? hx)]; exact lt_of_get hz), hx]
      exact hz
    refine ⟨b, o, cap, rfl, hk, .vp x b (o + k * shSize sh) (fun j => f (k * shSize sh + j)) (fun j z hz => ?_) (fun j z hz => hr _ z (hflat j z hz))⟩
    have := hm _ z (hflat j z hz)
    rw [Nat.add_assoc]
    exact this

theorem iaddr_ok {t : TypeId} {sh : Sh} (hc : chkSlice P t sh = true) {x i : Value} {v : AV} {h1 : Heap} {e : Esc} (H : HeapRel h μ w) (ev : Opd → AV) (p q : Opd) (R : RAV (imm h μ w) h μ (ev p) x) (Ri : RAV (imm h μ w) h μ (ev q) i)
    (he : aop (.iaddr sh p q) ev h = some (v, h1, e)) : OpOk P (do pure (.value (← Instr.indexAt t x i))) h μ w v h1 e := by
  simp only [aop] at he
  split at he
  · rename_i sh' xs k hp hq
    rw [hp] at R
    obtain ⟨kk, rfl⟩ := rav_nat hq Ri
    split at he
    · rename_i hsh
      subst hsh
      simp only [Option.map_eq_some_iff, Prod.mk.injEq] at he
      obtain ⟨z, hz, rfl, rfl, rfl⟩ := he
      obtain ⟨b, o, cap, rfl, hk, hr⟩ := sl_elem (h := h) (μ := μ) R.p_inv hz
      exact OpOk.pure H (run_v (run_indexAt_slice hc hk)) (by rw [add_at]; exact hr)
    · cases he
  · rename_i id g off len k hp hq
    rw [hp] at R
    obtain ⟨kk, rfl⟩ := rav_nat hq Ri
    split at he
    · rename_i rsh xs fz ho
      split at he
      · rename_i hcc
        obtain ⟨c1, c2, c3, c4⟩ := hcc
        simp at he
        obtain ⟨rfl, rfl, rfl⟩ := he
        subst c1
        obtain ⟨_, _, a, cap, rfl, hlc, hrow⟩ := own_read H R ho c2
        obtain ⟨b, n, c, hm, rfl, hB, hn, hn2, hcell⟩ := hrow (by omega)
        refine OpOk.pure H (run_v (run_indexAt_slice hc c4)) ?_
        rw [add_at]
        refine .rref id g (off + k) 0 _ rsh xs fz _ ho hm (by omega) (by omega) (fun _ => ⟨b, n, rfl, ?_⟩)
        rw [Nat.add_mul, Nat.add_zero]
      · cases he
    · cases he
  · cases he

theorem iaddra_ok {t : TypeId} {n : Nat} {sh : Sh} (hc : chkArray P t n sh = true) {x i : Value} {v : AV} {h1 : Heap} {e : Esc} (H : HeapRel h μ w) (ev : Opd → AV) (p q : Opd) (R : RAV (imm h μ w) h μ (ev p) x) (Ri : RAV (imm h μ w) h μ (ev q) i)
    (he : aop (.iaddra n sh p q) ev h = some (v, h1, e)) : OpOk P (do pure (.value (← Instr.indexAt t x i))) h μ w v h1 e := by
  simp only [aop] at he
  split at he
  · rename_i id o k hp hq
    rw [hp] at R
    obtain ⟨kk, rfl⟩ := rav_nat hq Ri
    split at he
    · rename_i hk
      simp at he
      obtain ⟨rfl, rfl, rfl⟩ := he
      cases R with | ref _ _ b m cs ho hm =>
      exact OpOk.pure H (run_v (run_indexAt_array hc hk)) (by rw [add_at]; exact .ref id _ b m cs ho hm)
    · cases he
  · rename_i id g j o k hp hq
    rw [hp] at R
    obtain ⟨kk, rfl⟩ := rav_nat hq Ri
    split at he
    · rename_i hk
      simp at he
      obtain ⟨rfl, rfl, rfl⟩ := he
      cases R with | rref _ _ _ _ a sh' xs fz m ho hm hg hi hv =>
      refine OpOk.pure H (run_v (run_indexAt_array hc hk)) (.rref id g j _ _ sh' xs fz m ho hm hg hi (fun e => ?_))
      obtain ⟨b, n, rfl, rfl⟩ := hv e
      exact ⟨b, n, rfl, by rw [add_at, Nat.add_assoc]⟩
    · cases he
  · rename_i y k hp hq
    rw [hp] at R
    obtain ⟨kk, rfl⟩ := rav_nat hq Ri
    split at he
    · rename_i hk
      simp only [Option.map_eq_some_iff, Prod.mk.injEq] at he
      obtain ⟨u, hu, rfl, rfl, rfl⟩ := he
      have R' := R
      cases R with | vp _ b o f hm hr =>
      exact OpOk.pure H (run_v (run_indexAt_array hc hk)) (by rw [add_at]; exact vp_cut R' hu)
    · cases he
  · cases he

theorem idxa_ok {t : TypeId} {n : Nat} {sh : Sh} (hc : chkArray P t n sh = true) {x i : Value} {v : AV} {h1 : Heap} {e : Esc} (H : HeapRel h μ w) (ev : Opd → AV) (p q : Opd) (R : RAV (imm h μ w) h μ (ev p) x) (Ri : RAV (imm h μ w) h μ (ev q) i)
    (he : aop (.idxa n sh p q) ev h = some (v, h1, e)) : OpOk P (do pure (.value (← Instr.index t x i))) h μ w v h1 e := by
  unfold chkArray at hc
  split at hc
  · rename_i m el hu
    simp only [Bool.and_eq_true, beq_iff_eq] at hc
    obtain ⟨rfl, hc⟩ := hc
    simp only [aop] at he
    split at he
    · rename_i cs k hp hq
      rw [hp] at R
      obtain ⟨kk, rfl⟩ := rav_nat hq Ri
      split at he
      · rename_i hk
        simp only [Option.map_eq_some_iff, Prod.mk.injEq] at he
        obtain ⟨u, hcut, rfl, rfl, rfl⟩ := he
        have Rv := R.p_inv
        cases Rv with | agg _ vs hl hr =>
        have hf2 : ∀ (j : Nat) (x : PV), (PV.agg cs).cells[j]? = some x → RPV (imm h μ w) x ((vs[j]?).getD undef) := by
          intro j x hx
          have hj : j < vs.length := by rw [← hl]; exact lt_of_get hx
          simp only [List.getElem?_eq_getElem hj, Option.getD_some]
          exact hr j x _ hx (List.getElem?_eq_getElem hj)
        obtain ⟨h2, h3⟩ := cutP_cells hcut hf2
        refine OpOk.pure H (run_v (u := shVal sh fun j => (vs[k * shSize sh + j]?).getD undef) ?_) ?_
        · unfold Instr.index
          simp only [asIntOf, Sem.run_bind, Sem.run_pure, Result.andThen_ok, run_underlying_of hu]
          have h0 : (0 : Int) ≤ (k : Int) ∧ (k : Int) < (m : Int) := by omega
          rw [if_pos h0, Sem.run_bind, run_sizeOf_of hc]
          simp only [Result.andThen_ok, Int.toNat_natCast]
          exact run_part hc (by rw [← hl]; simpa [PV.cells] using h2)
        · cases sh <;> exact .p _ _ h3
      · cases he
    · cases he
  · cases hc

def chkStr (P : Program) (t : TypeId) : Bool := match P.underlying t with
  | some .string => true
  | _ => false

theorem str_get (s : List UInt8) (k : Nat) : (⟨s.toArray⟩ : ByteArray)[k]? = s[k]? := by
  by_cases hk : k < s.length
  · have : k < (⟨s.toArray⟩ : ByteArray).size := by simpa [ByteArray.size] using hk
    rw [getElem?_pos _ k this, List.getElem?_eq_getElem hk]
    rfl
  · have : ¬ k < (⟨s.toArray⟩ : ByteArray).size := by simpa [ByteArray.size] using hk
    rw [getElem?_neg _ k this, List.getElem?_eq_none (by omega)]

theorem idxs_ok {t : TypeId} (hc : chkStr P t = true) {x i : Value} {v : AV} {h1 : Heap} {e : Esc} (H : HeapRel h μ w) (ev : Opd → AV) (p q : Opd) (R : RAV (imm h μ w) h μ (ev p) x) (Ri : RAV (imm h μ w) h μ (ev q) i)
    (he : aop (.idxs p q) ev h = some (v, h1, e)) : OpOk P (do pure (.value (← Instr.index t x i))) h μ w v h1 e := by
  unfold chkStr at hc
  split at hc
  · rename_i hu
    simp only [aop] at he
    split at he
    · rename_i s k hp hq
      rw [hp] at R
      obtain ⟨kk, rfl⟩ := rav_nat hq Ri
      rw [R.p_str]
      simp only [Option.map_eq_some_iff, Prod.mk.injEq] at he
      obtain ⟨u, hu2, rfl, rfl, rfl⟩ := he
      refine OpOk.pure H (run_v (u := .int .u8 u.toNat) ?_) (.p _ _ (.int _ _))
      unfold Instr.index
      simp only [asIntOf, Sem.run_bind, Sem.run_pure, Result.andThen_ok, run_underlying_of hu]
      simp [str_get, hu2]
    · cases he
  · cases hc

end Go.Am
