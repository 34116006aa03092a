/- The abstract machine, part 7: each operation does in the model what it does here (first lot: operations that leave the world alone). -/
import Derived.Test.YtajhbehiecgflaaAm6
import Derived.Laws.Strings
import Derived.Laws.StructEq
set_option linter.unusedSimpArgs false
set_option linter.unusedVariables false
namespace Go.Am

variable {h h' : Heap} {μ μ' : Mu} {w w' : World} {P : Program} {M : Mem}

def constSc : PV → Value → Bool
  | .int k n, .int k' n' => k == k' && n == n'
  | .bool b, .bool b' => b == b'
  | .str s, .string s' => s == s'.data.toList
  | .nilp, .pointer none => true
  | .sl _ [], .slice _ 0 _ => true
  | _, _ => false

def constAll : List PV → List Value → Bool
  | [], [] => true
  | a :: r, b :: s => constSc a b && constAll r s
  | _, _ => false

def constOk : AV → Value → Bool
  | .p (.agg cs), .agg vs => constAll cs vs.toList
  | .p v, x => constSc v x
  | .nilp, .pointer none => true
  | .sl0 _, .slice _ 0 0 => true
  | .nilm, .map none => true
  | .nilf, .nilFunc => true
  | .nili, .nilIface => true
  | _, _ => false

def opdOk : Opd → Operand → Bool
  | .t n, .tmp m => n == m
  | .c a, .const v => constOk a v
  | .f i, .func j => i == j
  | .g i, .global j => i == j
  | _, _ => false

theorem constSc_sound {v : PV} {x : Value} (hc : constSc v x = true) : RPV M v x := by
  unfold constSc at hc
  split at hc <;> simp at hc
  · obtain ⟨rfl, rfl⟩ := hc; exact .int _ _
  · subst hc; exact .bool _
  · subst hc; rename_i s'; exact .str s'.data.toList
  · exact .nilp
  · exact .nils _ _ _

theorem constAll_sound : ∀ {cs : List PV} {vs : List Value}, constAll cs vs = true → cs.length = vs.length ∧ ∀ (j : Nat) (y : PV) (v : Value), cs[j]? = some y → vs[j]? = some v → RPV M y v
  | [], [], _ => ⟨rfl, fun j y v h => by simp at h⟩
  | [], _ :: _, h => by simp [constAll] at h
  | _ :: _, [], h => by simp [constAll] at h
  | a :: r, b :: s, h => by
    simp only [constAll, Bool.and_eq_true] at h
    have hs := constAll_sound h.2
    refine ⟨by simp [hs.1], fun j y v hy hv => ?_⟩
    cases j with
    | zero => simp at hy hv; subst hy; subst hv; exact constSc_sound h.1
    | succ j => exact hs.2 j y v (by simpa using hy) (by simpa using hv)

theorem constOk_sound {a : AV} {x : Value} (hc : constOk a x = true) : RAV M h μ a x := by
  unfold constOk at hc
  split at hc
  · rename_i cs vs
    have hs := constAll_sound (M := M) hc
    have := RPV.agg (M := M) cs vs.toList hs.1 hs.2
    exact .p _ _ (by simpa using this)
  · exact .p _ _ (constSc_sound hc)
  · exact .nilp
  · exact .sl0 _ _
  · exact .nilm
  · exact .nilf
  · exact .nili
  · cases hc

/-- The operands stand to the model's. -/
def OpdRel (M : Mem) (h : Heap) (μ : Mu) (ev : Opd → AV) (ρ : Operand → Value) : Prop := ∀ x y, opdOk x y = true → RAV M h μ (ev x) (ρ y)

/-- What is shown of an operation that is no call. -/
def OpOk (P : Program) (s : Sem Next) (h : Heap) (μ : Mu) (w : World) (v : AV) (h' : Heap) (x : Esc) : Prop :=
  ∃ nx w' μ', s.run P w = .ok nx w' ∧ ((∃ u, nx = .value u ∧ RAV (imm h' μ' w') h' μ' v u) ∨ (nx = .skip ∧ v = .und)) ∧ HeapRel h' μ' w' ∧
    Evo (imm h μ w) h μ (imm h' μ' w') h' μ' ∧ EscInv h h' x

theorem OpOk.pure {s : Sem Next} {v : AV} {u : Value} (H : HeapRel h μ w) (hr : s.run P w = .ok (.value u) w) (hu : RAV (imm h μ w) h μ v u) : OpOk P s h μ w v h [] :=
  ⟨_, w, μ, hr, .inl ⟨u, rfl, hu⟩, H, Evo.refl _ _ _, EscInv.refl _ _⟩

theorem OpOk.ext {s : Sem Next} {v : AV} {u : Value} {w' : World} (H : HeapRel h μ w) (hw : WExt w w') (hr : s.run P w = .ok (.value u) w') (hu : RAV (imm h μ w') h μ v u) : OpOk P s h μ w v h [] :=
  ⟨_, w', μ, hr, .inl ⟨u, rfl, hu⟩, (H.ext hw).1, (H.ext hw).2, EscInv.refl _ _⟩

theorem run_v {s : Sem Value} {u : Value} (hs : s.run P w = .ok u w') : ((do pure (.value (← s)) : Sem Next)).run P w = .ok (.value u) w' := by
  simp [hs]

theorem run_u {s : Sem Unit} (hs : s.run P w = .ok () w') : ((do s; pure .skip : Sem Next)).run P w = .ok .skip w' := by
  simp [hs]

/-! ### inversions -/

theorem RAV.p_int {k : IntKind} {n : Int} {x : Value} (H : RAV M h μ (.p (.int k n)) x) : x = .int k n := by
  cases H with | p _ _ hv => cases hv; rfl
theorem RAV.p_bool {b : Bool} {x : Value} (H : RAV M h μ (.p (.bool b)) x) : x = .bool b := by
  cases H with | p _ _ hv => cases hv; rfl
theorem RAV.p_str {s : List UInt8} {x : Value} (H : RAV M h μ (.p (.str s)) x) : x = .string ⟨s.toArray⟩ := by
  cases H with | p _ _ hv => cases hv; rfl
theorem RAV.p_inv {v : PV} {x : Value} (H : RAV M h μ (.p v) x) : RPV M v x := by
  cases H with | p _ _ hv => exact hv
theorem rav_nat {a : AV} {k : Nat} {x : Value} (hk : natOf a = some k) (H : RAV M h μ a x) : ∃ kk, x = .int kk (k : Int) := by
  unfold natOf at hk
  split at hk
  · split at hk
    · simp at hk
      rename_i kk n hn
      rw [H.p_int]
      exact ⟨kk, by rw [← hk]; simp; omega⟩
    · cases hk
  · cases hk
theorem RAV.pint (n : Nat) : RAV M h μ (pint n) (goInt n) := .p _ _ (.int _ _)
theorem RAV.pbool (b : Bool) : RAV M h μ (pbool b) (.bool b) := .p _ _ (.bool b)

/-! ### aggregates -/

theorem unp_spec : ∀ {cs : List AV} {vs : List PV}, unp cs = some vs → cs = vs.map AV.p
  | [], vs, h => by simp [unp] at h; subst h; rfl
  | a :: r, vs, h => by
    cases a <;> simp [unp] at h
    obtain ⟨l, h1, rfl⟩ := h
    simp [unp_spec h1]

theorem mkA_sound {cs : List AV} {vs : List Value} (hl : cs.length = vs.length) (hr : ∀ (j : Nat) (y : AV) (v : Value), cs[j]? = some y → vs[j]? = some v → RAV M h μ y v) :
    RAV M h μ (mkA cs) (.agg vs.toArray) := by
  unfold mkA
  split
  · rename_i ps hp
    have := unp_spec hp
    subst this
    refine .p _ _ (.agg ps vs (by simpa using hl) (fun j y v h1 h2 => ?_))
    exact (hr j (.p y) v (by simp [h1]) h2).p_inv
  · exact .agg cs vs hl hr

/-- The cells of a value that can lie in memory stand to the cells of the model's. -/
theorem cells_sound {v : AV} {x : Value} {cs : List AV} (H : RAV M h μ v x) (hc : v.cells = some cs) :
    x.cells.size = cs.length ∧ (∀ (j : Nat) (y : AV), cs[j]? = some y → y.sc = true ∧ ∃ u, x.cells[j]? = some u ∧ RAV M h μ y u) := by
  have one : ∀ {v : AV} {x : Value}, RAV M h μ v x → v.sc = true → x.cells = #[x] → x.cells.size = [v].length ∧ (∀ (j : Nat) (y : AV), [v][j]? = some y → y.sc = true ∧ ∃ u, x.cells[j]? = some u ∧ RAV M h μ y u) := by
    intro v x H hs hx
    refine ⟨by simp [hx], fun j y hy => ?_⟩
    cases j with
    | zero => simp at hy; subst hy; exact ⟨hs, x, by simp [hx], H⟩
    | succ j => simp at hy
  cases v with
  | p pv =>
    cases pv with
    | agg l =>
      simp only [AV.cells] at hc
      split at hc
      · rename_i hall
        simp at hc
        subst hc
        cases H with | p _ _ hv => cases hv with | agg _ vs hl hr =>
        refine ⟨by simp [Value.cells, hl], fun j y hy => ?_⟩
        simp only [List.getElem?_map, Option.map_eq_some_iff] at hy
        obtain ⟨z, hz, rfl⟩ := hy
        have hj : j < vs.length := by rw [← hl]; exact lt_of_get hz
        rw [List.all_eq_true] at hall
        refine ⟨by simp [AV.sc]; exact hall z (List.mem_of_getElem? hz), vs[j], by simp [Value.cells, hj], .p _ _ (hr j z _ hz (List.getElem?_eq_getElem hj))⟩
      · cases hc
    | int k n => simp [AV.cells] at hc; subst hc; exact one H rfl (by rw [H.p_int]; rfl)
    | bool b => simp [AV.cells] at hc; subst hc; exact one H rfl (by rw [H.p_bool]; rfl)
    | str s => simp [AV.cells] at hc; subst hc; exact one H rfl (by rw [H.p_str]; rfl)
    | nilp => simp [AV.cells] at hc; subst hc; exact one H rfl (by cases H.p_inv; rfl)
    | sl sh xs => simp [AV.cells] at hc; subst hc; exact one H rfl (by cases H.p_inv <;> rfl)
  | agg l =>
    simp only [AV.cells] at hc
    split at hc
    · rename_i hall
      simp at hc
      subst hc
      cases H with | agg _ vs hl hr =>
      refine ⟨by simp [Value.cells, hl], fun j y hy => ?_⟩
      have hj : j < vs.length := by rw [← hl]; exact lt_of_get hy
      rw [List.all_eq_true] at hall
      exact ⟨hall y (List.mem_of_getElem? hy), vs[j], by simp [Value.cells, hj], hr j y _ hy (List.getElem?_eq_getElem hj)⟩
    · cases hc
  | tup l => simp [AV.cells] at hc
  | skp => simp [AV.cells] at hc
  | und => simp [AV.cells] at hc
  | own a b c d => simp [AV.cells] at hc; subst hc; exact one H rfl (by cases H; rfl)
  | sl0 sh => simp [AV.cells] at hc; subst hc; exact one H rfl (by cases H; rfl)
  | ref a b => simp [AV.cells] at hc; subst hc; exact one H rfl (by cases H; rfl)
  | rref a b c d => simp [AV.cells] at hc; subst hc; exact one H rfl (by cases H; rfl)
  | vp v => simp [AV.cells] at hc; subst hc; exact one H rfl (by cases H; rfl)
  | nilp => simp [AV.cells] at hc; subst hc; exact one H rfl (by cases H; rfl)
  | nilm => simp [AV.cells] at hc; subst hc; exact one H rfl (by cases H; rfl)
  | nilf => simp [AV.cells] at hc; subst hc; exact one H rfl (by cases H; rfl)
  | nili => simp [AV.cells] at hc; subst hc; exact one H rfl (by cases H; rfl)
  | ifc => simp [AV.cells] at hc; subst hc; exact one H rfl (by cases H; rfl)
  | mp a => simp [AV.cells] at hc; subst hc; exact one H rfl (by cases H; rfl)
  | it a => simp [AV.cells] at hc; subst hc; exact one H rfl (by cases H; rfl)
  | fn a b => simp [AV.cells] at hc; subst hc; exact one H rfl (by cases H; rfl)

/-- A scalar's value in the model is one cell. -/
theorem sc_one {v : AV} {x : Value} (H : RAV M h μ v x) (hs : v.sc = true) : x.oneCell' = true := by
  cases H with
  | p pv _ hv => cases hv <;> first | rfl | (simp [AV.sc, PV.sc] at hs)
  | agg => simp [AV.sc] at hs
  | tup => simp [AV.sc] at hs
  | skp => simp [AV.sc] at hs
  | und => simp [AV.sc] at hs
  | _ => rfl

/-! ### arithmetic -/

theorem beq_dec {α : Type} [BEq α] [LawfulBEq α] [DecidableEq α] (a b : α) : (a == b) = decide (a = b) := by
  by_cases h : a = b <;> simp [h]

theorem aint_sound {op : BinOp} {k : IntKind} {a b : Int} {r : PV} {t : TypeId} (h1 : op ≠ .shl) (h2 : op ≠ .shr) (hr : aint op k a b = some r) :
    ∃ u, (binOp op t (.int k a) (.int k b)).run P w = .ok u w ∧ RPV M r u := by
  cases op <;> simp only [aint] at hr
  case shl => exact absurd rfl h1
  case shr => exact absurd rfl h2
  case quo => split at hr <;> simp at hr; subst hr; exact ⟨_, by simp [binOp, Op.intDiv, *], .int _ _⟩
  case rem => split at hr <;> simp at hr; subst hr; exact ⟨_, by simp [binOp, Op.intDiv, *], .int _ _⟩
  case add => injection hr with hr; subst hr; exact ⟨_, by simp [binOp, Op.intArith], .int _ _⟩
  case sub => injection hr with hr; subst hr; exact ⟨_, by simp [binOp, Op.intArith], .int _ _⟩
  case mul => injection hr with hr; subst hr; exact ⟨_, by simp [binOp, Op.intArith], .int _ _⟩
  case and => injection hr with hr; subst hr; refine ⟨_, ?_, .int _ _⟩; simp [binOp, Op.intBits, iand, ior, ixor, iandn]
  case or => injection hr with hr; subst hr; refine ⟨_, ?_, .int _ _⟩; simp [binOp, Op.intBits, iand, ior, ixor, iandn]
  case xor => injection hr with hr; subst hr; refine ⟨_, ?_, .int _ _⟩; simp [binOp, Op.intBits, iand, ior, ixor, iandn]
  case andNot => injection hr with hr; subst hr; refine ⟨_, ?_, .int _ _⟩; simp [binOp, Op.intBits, iand, ior, ixor, iandn]
  case eql => injection hr with hr; subst hr; refine ⟨_, ?_, .bool _⟩; simp [binOp, Op.intCmp, beq_dec]
  case neq => injection hr with hr; subst hr; refine ⟨_, ?_, .bool _⟩; simp [binOp, Op.intCmp, beq_dec, bne]
  case lss => injection hr with hr; subst hr; refine ⟨_, ?_, .bool _⟩; simp [binOp, Op.intCmp]
  case leq => injection hr with hr; subst hr; refine ⟨_, ?_, .bool _⟩; simp [binOp, Op.intCmp]
  case gtr => injection hr with hr; subst hr; refine ⟨_, ?_, .bool _⟩; simp [binOp, Op.intCmp]
  case geq => injection hr with hr; subst hr; refine ⟨_, ?_, .bool _⟩; simp [binOp, Op.intCmp]

theorem astr_sound {op : BinOp} {a b : List UInt8} {r : PV} {t : TypeId} (hr : astr op a b = some r) :
    ∃ u, (binOp op t (.string ⟨a.toArray⟩) (.string ⟨b.toArray⟩)).run P w = .ok u w ∧ RPV M r u := by
  cases op <;> simp only [astr] at hr
  case add =>
    split at hr
    · rename_i hl
      injection hr with hr
      subst hr
      refine ⟨.string ⟨(a ++ b).toArray⟩, ?_, .str _⟩
      simp only [binOp, Op.stringOp]
      rw [if_neg]
      · have : (⟨a.toArray⟩ : ByteArray) ++ ⟨b.toArray⟩ = ⟨(a ++ b).toArray⟩ := by
          apply ByteArray.ext
          simp [ByteArray.data_append]
        rw [this]
        rfl
      · simp only [maxStr] at hl
        simp [ByteArray.size, IntKind.max, IntKind.signed, IntKind.bits]
        omega
    · cases hr
  case eql => injection hr with hr; subst hr; refine ⟨_, ?_, .bool _⟩; simp [binOp, Op.stringOp, Go.ByteArray.toList_mk, beq_dec]
  case neq => injection hr with hr; subst hr; refine ⟨_, ?_, .bool _⟩; simp [binOp, Op.stringOp, Go.ByteArray.toList_mk, beq_dec]
  case lss => injection hr with hr; subst hr; refine ⟨_, ?_, .bool _⟩; simp [binOp, Op.stringOp, Go.ByteArray.toList_mk]
  case leq => injection hr with hr; subst hr; refine ⟨_, ?_, .bool _⟩; simp [binOp, Op.stringOp, Go.ByteArray.toList_mk, beq_dec]
  case gtr => injection hr with hr; subst hr; refine ⟨_, ?_, .bool _⟩; simp [binOp, Op.stringOp, Go.ByteArray.toList_mk, beq_dec]
  case geq => injection hr with hr; subst hr; refine ⟨_, ?_, .bool _⟩; simp [binOp, Op.stringOp, Go.ByteArray.toList_mk]
  all_goals cases hr

theorem abin_sound {op : BinOp} {a b r : PV} {x y : Value} {t : TypeId} (ha : RPV M a x) (hb : RPV M b y) (hr : abin op a b = some r) :
    ∃ u, (binOp op t x y).run P w = .ok u w ∧ RPV M r u := by
  cases a with
  | int k n =>
    cases ha
    cases b with
    | int k' n' =>
      cases hb
      by_cases h1 : op = .shl
      · subst h1
        simp only [abin] at hr
        split at hr <;> simp at hr
        subst hr
        refine ⟨_, ?_, .int _ _⟩
        simp [binOp, Op.shift, ishl, ishr, *]
      · by_cases h2 : op = .shr
        · subst h2
          simp only [abin] at hr
          split at hr <;> simp at hr
          subst hr
          refine ⟨_, ?_, .int _ _⟩
          simp [binOp, Op.shift, ishl, ishr, *]
        · have : abin op (.int k n) (.int k' n') = if k = k' then aint op k n n' else none := by
            cases op <;> first | rfl | exact absurd rfl h1 | exact absurd rfl h2
          rw [this] at hr
          split at hr
          · rename_i hk; subst hk; exact aint_sound h1 h2 hr
          · cases hr
    | _ => simp [abin] at hr
  | str s =>
    cases ha
    cases b with
    | str s' => cases hb; exact astr_sound hr
    | _ => simp [abin] at hr
  | _ => simp [abin] at hr

theorem eqGuard_plain {op : BinOp} {t : TypeId} {x y : Operand} {a b : Value} (h1 : ∀ vs, a ≠ .agg vs) (h2 : a ≠ .nilIface ∨ b ≠ .nilIface) : (eqGuard op t x y a b).run P w = .ok () w := by
  unfold eqGuard
  cases op
  case eql => cases a <;> first | exact absurd rfl (h1 _) | (cases b <;> first | rfl | (simp at h2; done)) | rfl
  case neq => cases a <;> first | exact absurd rfl (h1 _) | (cases b <;> first | rfl | (simp at h2; done)) | rfl
  all_goals rfl

theorem abin_notagg {op : BinOp} {a b r : PV} {x : Value} (ha : RPV M a x) (hr : abin op a b = some r) : (∀ vs, x ≠ .agg vs) ∧ x ≠ .nilIface := by
  cases ha
  case agg => cases b <;> simp [abin] at hr
  all_goals exact ⟨by simp, by simp⟩

theorem aun_sound {op : UnOp} {a r : PV} {x : Value} (ha : RPV M a x) (hr : aun op a = some r) : ∃ u, (Op.unary op x).run P w = .ok u w ∧ RPV M r u := by
  cases ha <;> cases op <;> simp [aun] at hr
  all_goals subst hr
  · refine ⟨_, ?_, .int _ _⟩; simp [Op.unary, Op.intArith]
  · refine ⟨_, ?_, .int _ _⟩; simp [Op.unary, Op.intBits]
  · refine ⟨_, ?_, .bool _⟩; simp [Op.unary]

theorem amax_fold : ∀ {l : List PV} {a r : PV} {x : Value} {vs : List Value}, RPV M a x → l.length = vs.length → (∀ (j : Nat) (y : PV) (v : Value), l[j]? = some y → vs[j]? = some v → RPV M y v) →
    l.foldlM amax2 a = some r → ∃ u, (vs.foldlM Builtin.max2 x).run P w = .ok u w ∧ RPV M r u
  | [], a, r, x, [], ha, _, _, hr => by simp at hr; subst hr; exact ⟨x, rfl, ha⟩
  | b :: l, a, r, x, v :: vs, ha, hl, hh, hr => by
    simp only [List.foldlM_cons, Option.bind_eq_bind, Option.bind_eq_some_iff] at hr
    obtain ⟨c, h1, h2⟩ := hr
    have hb := hh 0 b v rfl rfl
    have hmax : ∃ u, (Builtin.max2 x v).run P w = .ok u w ∧ RPV M c u := by
      cases ha <;> cases hb <;> simp [amax2] at h1
      obtain ⟨rfl, rfl⟩ := h1
      refine ⟨_, ?_, .int _ _⟩
      simp only [Builtin.max2, Sem.run_pure]
      congr 2
      omega
    obtain ⟨u, h3, h4⟩ := hmax
    obtain ⟨u', h5, h6⟩ := amax_fold h4 (by simpa using hl) (fun j y v' p q => hh (j + 1) y v' (by simpa using p) (by simpa using q)) h2
    exact ⟨u', by simp [h3, h5], h6⟩
  | [], _, _, _, _ :: _, _, hl, _, _ => by simp at hl
  | _ :: _, _, _, _, [], _, hl, _, _ => by simp at hl

theorem amin_fold : ∀ {l : List PV} {a r : PV} {x : Value} {vs : List Value}, RPV M a x → l.length = vs.length → (∀ (j : Nat) (y : PV) (v : Value), l[j]? = some y → vs[j]? = some v → RPV M y v) →
    l.foldlM amin2 a = some r → ∃ u, (vs.foldlM Builtin.min2 x).run P w = .ok u w ∧ RPV M r u
  | [], a, r, x, [], ha, _, _, hr => by simp at hr; subst hr; exact ⟨x, rfl, ha⟩
  | b :: l, a, r, x, v :: vs, ha, hl, hh, hr => by
    simp only [List.foldlM_cons, Option.bind_eq_bind, Option.bind_eq_some_iff] at hr
    obtain ⟨c, h1, h2⟩ := hr
    have hb := hh 0 b v rfl rfl
    have hmax : ∃ u, (Builtin.min2 x v).run P w = .ok u w ∧ RPV M c u := by
      cases ha <;> cases hb <;> simp [amin2] at h1
      obtain ⟨rfl, rfl⟩ := h1
      refine ⟨_, ?_, .int _ _⟩
      simp only [Builtin.min2, Sem.run_pure]
      congr 2
      omega
    obtain ⟨u, h3, h4⟩ := hmax
    obtain ⟨u', h5, h6⟩ := amin_fold h4 (by simpa using hl) (fun j y v' p q => hh (j + 1) y v' (by simpa using p) (by simpa using q)) h2
    exact ⟨u', by simp [h3, h5], h6⟩
  | [], _, _, _, _ :: _, _, hl, _, _ => by simp at hl
  | _ :: _, _, _, _, [], _, hl, _, _ => by simp at hl

end Go.Am
