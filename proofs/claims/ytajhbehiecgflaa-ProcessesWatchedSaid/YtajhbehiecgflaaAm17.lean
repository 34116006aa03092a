/- The abstract machine, part 17: nil tests, conversions, lengths, functions, greatest and least. -/
import Derived.Test.YtajhbehiecgflaaAm16
set_option linter.unusedSimpArgs false
set_option linter.unusedVariables false
set_option maxHeartbeats 1000000
namespace Go.Am

variable {h h' : Heap} {μ μ' : Mu} {w w' : World} {P : Program} {M M' : Mem}

def chkNil (P : Program) (k : Nat) (t : TypeId) (y : Operand) : Bool := match k, P.underlying t, y with
  | 0, some (.pointer _), .const (.pointer none) => true
  | 1, some (.map _ _), .const (.map none) => true
  | 2, some (.func _ _ _), .const .nilFunc => true
  | 3, some (.interface _), .const .nilIface => true
  | 4, some (.slice _), .const (.slice none _ _) => true
  | _, _, _ => false

theorem run_eqNil {neg : Bool} {op : BinOp} (hop : op = if neg then .neq else .eql) {t : TypeId} {a b : Operand} {x y : Value} {r : Bool} (hg : (eqGuard op t a b x y).run P w = .ok () w)
    (hk : ∀ k n, x ≠ .int k n) (hs : ∀ s, x ≠ .string s) (hf : ∀ k s, x ≠ .float k s) (hcx : ∀ k s u, x ≠ .complex k s u) (hE : (Op.equalIn 10000 t x y).run P w = .ok r w) :
    ((do eqGuard op t a b x y; binOp op t x y) : Sem Value).run P w = .ok (.bool (if neg then !r else r)) w := by
  rw [Sem.run_bind, hg]
  simp only [Result.andThen_ok]
  cases neg
  · simp only [Bool.false_eq_true, if_false] at hop
    subst hop
    cases x <;> first | exact absurd rfl (hk _ _) | exact absurd rfl (hs _) | exact absurd rfl (hf _ _) | exact absurd rfl (hcx _ _ _) | (simp only [binOp, Op.equal, Op.maxDepth, Sem.run_bind, hE, Result.andThen_ok, Sem.run_pure]; rfl)
  · simp only [if_true] at hop
    subst hop
    cases x <;> first | exact absurd rfl (hk _ _) | exact absurd rfl (hs _) | exact absurd rfl (hf _ _) | exact absurd rfl (hcx _ _ _) | (simp only [binOp, Op.equal, Op.maxDepth, Sem.run_bind, hE, Result.andThen_ok, Sem.run_pure]; rfl)

theorem nil_spec {k : Nat} {t : TypeId} {y x : Value} {v : AV} {r : Bool} {op : BinOp} {a : Operand} (hc : chkNil P k t (.const y) = true) (hv : nilOf k v = some r) (R : RAV M h μ v x) :
    (eqGuard op t a (.const y) x y).run P w = .ok () w ∧ (Op.equalIn 10000 t x y).run P w = .ok r w ∧ (∀ k n, x ≠ .int k n) ∧ (∀ s, x ≠ .string s) ∧ (∀ k s, x ≠ .float k s) ∧ (∀ k s u, x ≠ .complex k s u) := by
  rw [show (10000 : Nat) = 9999 + 1 from rfl]
  generalize 9999 = d
  unfold nilOf at hv
  split at hv
  · have hty : ∃ el, P.underlying t = some (.pointer el) ∧ y = .pointer none := by
      unfold chkNil at hc
      split at hc <;> simp_all
    obtain ⟨el, hu, rfl⟩ := hty
    split at hv <;> first | cases hv | skip
    all_goals (try (simp only [Option.some.injEq] at hv; subst hv))
    · cases R; exact ⟨by cases op <;> rfl, by simp [Op.equalIn, run_underlying_of hu], by simp, by simp, by simp, by simp⟩
    · cases R.p_inv; exact ⟨by cases op <;> rfl, by simp [Op.equalIn, run_underlying_of hu], by simp, by simp, by simp, by simp⟩
    · cases R; exact ⟨by cases op <;> rfl, by simp [Op.equalIn, run_underlying_of hu], by simp, by simp, by simp, by simp⟩
    · cases R; exact ⟨by cases op <;> rfl, by simp [Op.equalIn, run_underlying_of hu], by simp, by simp, by simp, by simp⟩
    · cases R; exact ⟨by cases op <;> rfl, by simp [Op.equalIn, run_underlying_of hu], by simp, by simp, by simp, by simp⟩
  · have hty : ∃ e1 e2, P.underlying t = some (.map e1 e2) ∧ y = .map none := by
      unfold chkNil at hc
      split at hc <;> simp_all
    obtain ⟨e1, e2, hu, rfl⟩ := hty
    split at hv <;> first | cases hv | skip
    all_goals (try (simp only [Option.some.injEq] at hv; subst hv))
    · cases R; exact ⟨by cases op <;> rfl, by simp [Op.equalIn, run_underlying_of hu], by simp, by simp, by simp, by simp⟩
    · cases R; exact ⟨by cases op <;> rfl, by simp [Op.equalIn, run_underlying_of hu], by simp, by simp, by simp, by simp⟩
  · have hty : ∃ e1 e2 e3, P.underlying t = some (.func e1 e2 e3) ∧ y = .nilFunc := by
      unfold chkNil at hc
      split at hc <;> simp_all
    obtain ⟨e1, e2, e3, hu, rfl⟩ := hty
    split at hv <;> first | cases hv | skip
    all_goals (try (simp only [Option.some.injEq] at hv; subst hv))
    · cases R; exact ⟨by cases op <;> rfl, by simp [Op.equalIn, run_underlying_of hu], by simp, by simp, by simp, by simp⟩
    · cases R; exact ⟨by cases op <;> rfl, by simp [Op.equalIn, run_underlying_of hu], by simp, by simp, by simp, by simp⟩
  · have hty : ∃ e1, P.underlying t = some (.interface e1) ∧ y = .nilIface := by
      unfold chkNil at hc
      split at hc <;> simp_all
    obtain ⟨e1, hu, rfl⟩ := hty
    split at hv <;> first | cases hv | skip
    all_goals (try (simp only [Option.some.injEq] at hv; subst hv))
    · cases R; exact ⟨by cases op <;> cases a <;> rfl, by simp [Op.equalIn, run_underlying_of hu], by simp, by simp, by simp, by simp⟩
    · cases R; exact ⟨by cases op <;> rfl, by simp [Op.equalIn, run_underlying_of hu], by simp, by simp, by simp, by simp⟩
  · have hty : ∃ e1 i j, P.underlying t = some (.slice e1) ∧ y = .slice none i j := by
      unfold chkNil at hc
      split at hc <;> simp_all
    obtain ⟨e1, i, j, hu, rfl⟩ := hty
    split at hv
    · simp only [Option.some.injEq] at hv; subst hv
      cases R.p_inv
      exact ⟨by cases op <;> rfl, by simp [Op.equalIn, run_underlying_of hu], by simp, by simp, by simp, by simp⟩
    · cases hv

theorem isnil_ok {k : Nat} {neg : Bool} {op : BinOp} (hop : op = if neg then .neq else .eql) {t : TypeId} {a : Operand} {y : Value} (hc : chkNil P k t (.const y) = true) {ev : Opd → AV} {p : Opd} {x : Value} {v : AV} {h1 : Heap} {e : Esc}
    (H : HeapRel h μ w) (Rp : RAV (imm h μ w) h μ (ev p) x) (he : aop (.isnil k neg p) ev h = some (v, h1, e)) : OpOk P (do pure (.value (← (do eqGuard op t a (.const y) x y; binOp op t x y)))) h μ w v h1 e := by
  simp only [aop, Option.map_eq_some_iff, Prod.mk.injEq] at he
  obtain ⟨r, hr, rfl, rfl, rfl⟩ := he
  obtain ⟨q1, q2, q3, q4, q5, q6⟩ := nil_spec (w := w) (op := op) (a := a) hc hr Rp
  refine OpOk.pure H (run_v (run_eqNil hop q1 q3 q4 q5 q6 q2)) ?_
  cases neg <;> exact RAV.pbool _

theorem mkif_ok {t : TypeId} (hc : (match P.underlying t with | some (.interface _) => false | some _ => true | none => false) = true) {ev : Opd → AV} {p : Opd} {x : Value} {v : AV} {h1 : Heap} {e : Esc} (H : HeapRel h μ w)
    (he : aop (.mkif p) ev h = some (v, h1, e)) : OpOk P (do pure (.value (← Instr.makeInterface t x))) h μ w v h1 e := by
  simp only [aop] at he
  split at he
  · simp only [Option.some.injEq, Prod.mk.injEq] at he
    obtain ⟨rfl, rfl, rfl⟩ := he
    refine OpOk.pure H (run_v (u := .iface t x) ?_) (.ifc _ _)
    split at hc <;> first | cases hc | skip
    rename_i d hne hd
    unfold Instr.makeInterface
    rw [Sem.run_bind, run_underlying_of hd]
    cases d <;> first | rfl | exact absurd rfl (hne _)
  · cases he

theorem ext_ok {i : Nat} {ev : Opd → AV} {p : Opd} {x : Value} {v : AV} {h1 : Heap} {e : Esc} (H : HeapRel h μ w) (Rp : RAV (imm h μ w) h μ (ev p) x) (he : aop (.ext p i) ev h = some (v, h1, e)) :
    OpOk P (do pure (.value (← Instr.extract x i))) h μ w v h1 e := by
  simp only [aop] at he
  split at he
  · rename_i vs hp
    simp only [Option.map_eq_some_iff, Prod.mk.injEq] at he
    obtain ⟨u, hu, rfl, rfl, rfl⟩ := he
    rw [hp] at Rp
    cases Rp with | tup _ xs hl hr =>
    have hi : i < xs.length := by rw [← hl]; exact lt_of_get hu
    refine OpOk.pure H (run_v (u := xs[i]) ?_) (hr i u _ hu (List.getElem?_eq_getElem hi))
    simp [Instr.extract, hi]
  · cases he

def chkLen (P : Program) (t : TypeId) : Nat := match P.underlying t with
  | some (.slice _) => 1
  | some .string => 2
  | some (.map _ _) => 3
  | _ => 0

theorem len_ok {t ty : TypeId} {ts : List TypeId} (hc : chkLen P t = 1) {ev : Opd → AV} {p : Opd} {x : Value} {v : AV} {h1 : Heap} {e : Esc} (H : HeapRel h μ w) (Rp : RAV (imm h μ w) h μ (ev p) x) (he : aop (.len p) ev h = some (v, h1, e)) :
    OpOk P (do pure (.value (← Builtin.len_ (t :: ts).toArray ty #[x]))) h μ w v h1 e := by
  have hu : ∃ el, P.underlying t = some (.slice el) := by
    unfold chkLen at hc
    split at hc <;> simp_all
  obtain ⟨el, hu⟩ := hu
  have key : ∀ a n cap, x = .slice a n cap → v = pint n → h1 = h → e = [] → OpOk P (do pure (.value (← Builtin.len_ (t :: ts).toArray ty #[x]))) h μ w v h1 e := by
    intro a n cap hx hv h2 h3
    subst hx; subst hv; subst h2; subst h3
    refine OpOk.pure H (run_v ?_) (RAV.pint n)
    simp [Builtin.len_, run_underlying_of hu]
  simp only [aop] at he
  split at he
  · rename_i sh xs hp
    simp only [Option.some.injEq, Prod.mk.injEq] at he
    obtain ⟨rfl, rfl, rfl⟩ := he
    rw [hp] at Rp
    obtain ⟨a, cap, rfl, _⟩ := sl_inv Rp.p_inv
    exact key _ _ _ rfl rfl rfl rfl
  · rename_i sh hp
    simp only [Option.some.injEq, Prod.mk.injEq] at he
    obtain ⟨rfl, rfl, rfl⟩ := he
    rw [hp] at Rp
    obtain ⟨a, rfl⟩ := sl0_inv Rp
    exact key _ _ _ rfl rfl rfl rfl
  · rename_i id g off len hp
    simp only [Option.some.injEq, Prod.mk.injEq] at he
    obtain ⟨rfl, rfl, rfl⟩ := he
    rw [hp] at Rp
    obtain ⟨a, cap, _, _, _, _, rfl, _⟩ := own_inv Rp
    exact key _ _ _ rfl rfl rfl rfl
  · cases he

theorem lens_ok {t ty : TypeId} {ts : List TypeId} (hc : chkLen P t = 2) {ev : Opd → AV} {p : Opd} {x : Value} {v : AV} {h1 : Heap} {e : Esc} (H : HeapRel h μ w) (Rp : RAV (imm h μ w) h μ (ev p) x) (he : aop (.lens p) ev h = some (v, h1, e)) :
    OpOk P (do pure (.value (← Builtin.len_ (t :: ts).toArray ty #[x]))) h μ w v h1 e := by
  have hu : P.underlying t = some .string := by
    unfold chkLen at hc
    split at hc <;> simp_all
  simp only [aop] at he
  split at he
  · rename_i s hp
    simp only [Option.some.injEq, Prod.mk.injEq] at he
    obtain ⟨rfl, rfl, rfl⟩ := he
    rw [hp] at Rp
    rw [Rp.p_str]
    refine OpOk.pure H (run_v ?_) (RAV.pint s.length)
    simp only [Builtin.len_, List.getElem?_toArray, List.getElem?_cons_zero, Sem.run_bind, run_underlying_of hu, Result.andThen_ok]
    rfl
  · cases he

theorem lenm_ok {t ty : TypeId} {ts : List TypeId} (hc : chkLen P t = 3) {ev : Opd → AV} {p : Opd} {x : Value} {v : AV} {h1 : Heap} {e : Esc} (H : HeapRel h μ w) (Rp : RAV (imm h μ w) h μ (ev p) x) (he : aop (.lenm p) ev h = some (v, h1, e)) :
    OpOk P (do pure (.value (← Builtin.len_ (t :: ts).toArray ty #[x]))) h μ w v h1 e := by
  have hu : ∃ e1 e2, P.underlying t = some (.map e1 e2) := by
    unfold chkLen at hc
    split at hc <;> simp_all
  obtain ⟨e1, e2, hu⟩ := hu
  simp only [aop] at he
  split at he
  · rename_i hp
    simp only [Option.some.injEq, Prod.mk.injEq] at he
    obtain ⟨rfl, rfl, rfl⟩ := he
    rw [hp] at Rp
    cases Rp
    refine OpOk.pure H (run_v ?_) (RAV.pint 0)
    simp [Builtin.len_, run_underlying_of hu]
  · rename_i id hp
    simp only [Option.map_eq_some_iff, Prod.mk.injEq] at he
    obtain ⟨⟨id', es, c⟩, hm, rfl, rfl, rfl⟩ := he
    rw [hp] at Rp
    cases Rp with | mp _ b n es' c' ho hmu =>
    simp only [mget, ho, Option.some.injEq, Prod.mk.injEq] at hm
    obtain ⟨rfl, rfl, rfl⟩ := hm
    obtain ⟨b', n', ces, hb', k1, k2, k3⟩ := H.obj _ _ _ ho hmu
    injection hb' with hb'; injection hb' with hb1 hb2
    subst hb1
    refine OpOk.pure H (run_v (u := goInt es'.length) ?_) (RAV.pint _)
    simp only [Builtin.len_, List.getElem?_toArray, List.getElem?_cons_zero, Sem.run_bind, run_underlying_of hu, Result.andThen_ok]
    simp [getObj, Sem.run, k1, k2]
  · cases he

end Go.Am
