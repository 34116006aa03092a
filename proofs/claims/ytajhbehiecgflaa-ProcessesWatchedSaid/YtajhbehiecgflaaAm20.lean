/- The abstract machine, part 20: regions in their own order. -/
import Derived.Test.YtajhbehiecgflaaAm19
set_option linter.unusedSimpArgs false
set_option linter.unusedVariables false
set_option maxHeartbeats 1000000
namespace Go.Am

variable {h h' : Heap} {μ μ' : Mu} {w w' : World} {P : Program} {M M' : Mem}

/-- The variables of the package that are read: what lies in them. -/
def GInv (gl : Nat → Option PV) (M : Mem) : Prop := ∀ n v, gl n = some v → RAV M [] [] (.vp v) (.pointer (some ⟨n, 0, none⟩))

theorem RAV.vp_any {v : PV} {x : Value} {h' : Heap} {μ' : Mu} (H : RAV M h μ (.vp v) x) : RAV M h' μ' (.vp v) x := by
  cases H with | vp _ b o f hm hr => exact .vp v b o f hm hr

theorem GInv.mono {gl : Nat → Option PV} (hM : M.le M') (H : GInv gl M) : GInv gl M' := fun n v hv => by
  have := H n v hv
  cases this with | vp _ _ _ f hm hr => exact .vp v n 0 f (fun j y hy => hM.c _ _ _ (hm j y hy)) (fun j y hy => (hr j y hy).mono hM)

/-- How a state here stands to the model's frame and world; from where the heap came. -/
structure Rel (gl : Nat → Option PV) (nt : Nat) (M0 : Mem) (h0 : Heap) (μ0 : Mu) (e : List (Nat × AV)) (h : Heap) (x : Esc) (a : Act) (w : World) (μ : Mu) : Prop where
  heap : HeapRel h μ w
  env : ∀ t, RAV (imm h μ w) h μ (aget e t) (a.tmps.getD t undef)
  glob : GInv gl (imm h μ w)
  evo : Evo M0 h0 μ0 (imm h μ w) h μ
  esc : EscInv h0 h x
  size : nt ≤ a.tmps.size
  defers : a.defers = []

variable {gl : Nat → Option PV} {nt : Nat} {M0 : Mem} {h0 : Heap} {μ0 : Mu} {e : List (Nat × AV)} {x : Esc} {a : Act}

theorem Rel.opds (H : Rel gl nt M0 h0 μ0 e h x a w μ) : OpdRel (imm h μ w) h μ (Opd.ev gl e) a.eval := by
  intro p q hpq
  unfold opdOk at hpq
  split at hpq
  · simp only [beq_iff_eq] at hpq
    subst hpq
    exact H.env _
  · exact constOk_sound hpq
  · simp only [beq_iff_eq] at hpq
    subst hpq
    exact .fn _ [] [] rfl (fun j y v h1 h2 => by simp at h1)
  · simp only [beq_iff_eq] at hpq
    subst hpq
    simp only [Opd.ev]
    split
    · rename_i v hv; exact (H.glob _ v hv).vp_any
    · exact .und _
  · cases hpq

theorem aget_put {d : Option Nat} {v : AV} {t : Nat} : aget (put d v e) t = if d = some t then v else aget e t := by
  cases d with
  | none => simp [put]
  | some d => simp [put, aget]

theorem put_getD {d : Option Nat} {u : Value} {t : Nat} (hd : ∀ i, d = some i → i < a.tmps.size) : (a.put d u).tmps.getD t undef = if d = some t then u else a.tmps.getD t undef := by
  cases d with
  | none => simp [Act.put]
  | some d =>
    have := hd d rfl
    by_cases h : d = t
    · subst h; simp [Act.put, this]
    · simp [Act.put, h, Array.getElem?_setIfInBounds]

theorem put_size {d : Option Nat} {u : Value} : (a.put d u).tmps.size = a.tmps.size := by
  cases d <;> simp [Act.put]
theorem put_defers {d : Option Nat} {u : Value} : (a.put d u).defers = a.defers := by
  cases d <;> rfl

/-- One operation done. -/
theorem Rel.step (H : Rel gl nt M0 h0 μ0 e h x a w μ) {d : Option Nat} (hd : ∀ i, d = some i → i < nt) {v : AV} {u : Value} {h' : Heap} {x' : Esc} {w' : World} {μ' : Mu} (H' : HeapRel h' μ' w') (E : Evo (imm h μ w) h μ (imm h' μ' w') h' μ') (I : EscInv h h' x')
    (hv : RAV (imm h' μ' w') h' μ' v u) : Rel gl nt M0 h0 μ0 (put d v e) h' (x' ++ x) (a.put d u) w' μ' := by
  have hd' : ∀ i, d = some i → i < a.tmps.size := fun i hi => Nat.lt_of_lt_of_le (hd i hi) H.size
  refine ⟨H', fun t => ?_, H.glob.mono E.le, H.evo.trans E, EscInv.trans H.esc I, by rw [put_size]; exact H.size, by rw [put_defers]; exact H.defers⟩
  rw [aget_put, put_getD hd']
  split
  · exact hv
  · exact (H.env t).evo E

theorem Rel.skip (H : Rel gl nt M0 h0 μ0 e h x a w μ) {d : Option Nat} (hd : ∀ i, d = some i → i < nt) : Rel gl nt M0 h0 μ0 (put d .skp e) h x (a.put d undef) w μ := by
  have := H.step hd H.heap (Evo.refl _ _ _) (EscInv.refl h []) (.skp)
  simpa using this

/-! ### calls -/

/-- What is shown of a call that ends well. -/
def CallOk (P : Program) (gl : Nat → Option PV) : Hd := fun f as h K =>
  ∀ (μ : Mu) (w : World) (vs : List Value), HeapRel h μ w → GInv gl (imm h μ w) → as.length = vs.length → (∀ (j : Nat) (y : AV) (v : Value), as[j]? = some y → vs[j]? = some v → RAV (imm h μ w) h μ y v) →
    (∀ w, (callFunc f vs.toArray).run P w = .ok (.enter f vs.toArray) w) ∧
    Calls P f vs.toArray w fun
      | .returned r, w' => ∃ v h' x μ', K v h' x ∧ RAV (imm h' μ' w') h' μ' v r ∧ HeapRel h' μ' w' ∧ Evo (imm h μ w) h μ (imm h' μ' w') h' μ' ∧ EscInv h h' x
      | _, _ => False

theorem CallOk.mono (P : Program) (gl : Nat → Option PV) : (CallOk P gl).Mono := by
  intro f as h K K' hK H μ w vs h1 h2 h3 h4
  obtain ⟨q1, q2⟩ := H μ w vs h1 h2 h3 h4
  refine ⟨q1, q2.mono fun e w' he => ?_⟩
  cases e with
  | returned r => obtain ⟨v, h', x, μ', k, rest⟩ := he; exact ⟨v, h', x, μ', hK _ _ _ k, rest⟩
  | panicked _ => exact he
  | outgrown => exact he

def callOf (o : Op) : Option (Operand × List Operand) := match o with
  | .call c => match c.callee with
    | .value f => some (f, c.args.toList)
    | _ => none
  | _ => none

theorem run_call {o : Oper} {f : Operand} {ys : List Operand} (hc : callOf o.op = some (f, ys)) {ρ : Operand → Value} {g : Nat} {caps : Array Value} (hf : ρ f = .func (.func g) #[] caps) :
    (execOp ρ o).run P w = (callFunc g ((ys.map ρ).toArray ++ caps)).run P w := by
  unfold callOf at hc
  split at hc
  · rename_i c hop
    split at hc
    · rename_i f' hcal
      injection hc with hc
      injection hc with h1 h2
      subst h1; subst h2
      unfold execOp
      rw [hop]
      simp only [resolve, hcal, Deferred.ofValue, hf, Sem.run_bind, Sem.run_pure, Result.andThen_ok, invoke]
      have e1 : (List.map ρ c.args.toList).toArray = c.args.map ρ := by rw [← Array.toList_map]
      rw [e1]
      simp
    · cases hc
  · cases hc

/-! ### regions -/

def chkGuard (ops : Array Oper) (nt : Nat) : Option (Nat × Bool) → Option (Nat × Bool) → Bool
  | none, none => true
  | some (t, b), some (j, b') => b == b' && decide (t < nt) && (match ops[j]? with | some o => o.dst == some t | none => false)
  | _, _ => false

def chkAOp (P : Program) (nt : Nat) (ops : Array Oper) (o : AOp) (p : Oper) : Bool :=
  o.dst == p.dst && (match o.dst with | some d => decide (d < nt) | none => true) && chkGuard ops nt o.guard p.guard && match o.op with
    | .call f args => match callOf p.op with
      | some (g, ys) => opdOk (.f f) g && opdsOk args ys
      | none => false
    | .callv f args => match callOf p.op with
      | some (g, ys) => opdOk f g && opdsOk args ys
      | none => false
    | .mnext _ => false
    | op => chkOp P op p.op

def chkOps (P : Program) (nt : Nat) (ops : Array Oper) : List AOp → Nat → Bool
  | [], i => i == ops.size
  | o :: r, i => match ops[i]? with
    | some p => chkAOp P nt ops o p && chkOps P nt ops r (i + 1)
    | none => false

theorem wanted_ok (H : Rel gl nt M0 h0 μ0 e h x a w μ) {ops : Array Oper} {g : Option (Nat × Bool)} {p : Oper} (hc : chkGuard ops nt g p.guard = true) {b : Bool} (hw : wanted g e = some b) : Region.wanted p (yielded ops a.tmps) = b := by
  unfold Region.wanted
  unfold chkGuard at hc
  split at hc
  · rename_i hg
    rw [hg]
    simp only [wanted, Option.some.injEq] at hw
    exact hw
  · rename_i t b1 j b2 hg
    rw [hg]
    simp only [Bool.and_eq_true, beq_iff_eq, decide_eq_true_eq] at hc
    obtain ⟨⟨rfl, ht⟩, hj⟩ := hc
    split at hj
    · rename_i o ho
      simp only [beq_iff_eq] at hj
      have hsz : t < a.tmps.size := Nat.lt_of_lt_of_le ht H.size
      have hR := H.env t
      have hget : a.tmps[t]? = some (a.tmps.getD t undef) := by simp [Array.getElem?_eq_getElem hsz, Array.getD, hsz]
      simp only [yielded, ho, Option.bind_some, hj, hget]
      unfold wanted at hw
      dsimp only at hw
      split at hw
      · rename_i c hv
        rw [hv] at hR
        rw [hR.p_bool]
        have hw' := Option.some.inj hw
        rw [← hw']
        cases c <;> cases b1 <;> rfl
      · rename_i hv
        rw [hv] at hR
        generalize a.tmps.getD t undef = z at hR
        injection hw with hw
        subst hw
        cases hR
        cases b1 <;> rfl
      · cases hw
    · cases hj
  · cases hc

theorem reg_sound {C : Hd} (hC : ∀ f a h K, C f a h K → CallOk P gl f a h K) {ops : Array Oper} {Q : Exit → Act → World → Prop} :
    ∀ (aops : List AOp) (i : Nat) {e : List (Nat × AV)} {h : Heap} {x : Esc} {K : List (Nat × AV) → Heap → Esc → Prop} {a : Act} {w : World} {μ : Mu}, chkOps P nt ops aops i = true → AReg C gl aops e h x K → Rel gl nt M0 h0 μ0 e h x a w μ →
      (∀ e h x a w μ, K e h x → Rel gl nt M0 h0 μ0 e h x a w μ → Q .normal a w) → wpOps P ops Q (List.range' i (ops.size - i)) a w
  | [], i, e, h, x, K, a, w, μ, hc, H, R, hK => by
    simp only [chkOps, beq_iff_eq] at hc
    subst hc
    simp only [Nat.sub_self, List.range'_zero, wpOps]
    exact hK _ _ _ _ _ _ H R
  | o :: r, i, e, h, x, K, a, w, μ, hc, H, R, hK => by
    simp only [chkOps] at hc
    split at hc
    · rename_i p hp
      have hi : i < ops.size := by
        rcases Nat.lt_or_ge i ops.size with q | q
        · exact q
        · rw [Array.getElem?_eq_none q] at hp; cases hp
      simp only [Bool.and_eq_true] at hc
      obtain ⟨c1, c2⟩ := hc
      have hr : List.range' i (ops.size - i) = i :: List.range' (i + 1) (ops.size - (i + 1)) := by
        rw [show ops.size - i = (ops.size - (i + 1)) + 1 by omega, List.range'_succ]
      rw [hr]
      simp only [wpOps, hp]
      obtain ⟨dst, guard, op⟩ := o
      unfold chkAOp at c1
      simp only [Bool.and_eq_true, beq_iff_eq] at c1
      obtain ⟨⟨⟨d1, d2⟩, d3⟩, d4⟩ := c1
      have hd : ∀ j, dst = some j → j < nt := fun j hj => by subst hj; simpa using d2
      subst d1
      unfold AReg at H
      dsimp only at H
      split at H
      · rename_i hw
        rw [if_pos (wanted_ok R d3 hw)]
        left
        have call : ∀ (f : Nat) (as : List AV) (g : Operand) (ys : List Operand) (caps : List AV) (cvs : List Value), callOf p.op = some (g, ys) → a.eval g = .func (.func f) #[] cvs.toArray → caps.length = cvs.length →
            (∀ (j : Nat) (y : AV) (v : Value), caps[j]? = some y → cvs[j]? = some v → RAV (imm h μ w) h μ y v) → as.length = ys.length →
            (∀ (j : Nat) (y : AV) (v : Value), as[j]? = some y → (ys.map a.eval)[j]? = some v → RAV (imm h μ w) h μ y v) →
            C f (as ++ caps) h (fun v h' x' => AReg C gl r (put p.dst v e) h' (x' ++ x) K) → p.wp P a w (wpOps P ops Q (List.range' (i + 1) (ops.size - (i + 1)))) Q := by
          intro f as g ys caps cvs hcall hg hcl hcr hal har HC
          have hco := hC _ _ _ _ HC μ w (ys.map a.eval ++ cvs) R.heap R.glob (by simp [hal, hcl]) (fun j y v hy hv => by
            rcases Nat.lt_or_ge j as.length with q | q
            · rw [List.getElem?_append_left q] at hy
              rw [List.getElem?_append_left (by simpa [← hal] using q)] at hv
              exact har j y v hy hv
            · rw [List.getElem?_append_right q] at hy
              rw [List.getElem?_append_right (by simpa [← hal] using q)] at hv
              exact hcr _ y v hy (by simpa [← hal] using hv))
          obtain ⟨q1, q2⟩ := hco
          unfold Oper.wp
          have harr : (ys.map a.eval ++ cvs).toArray = (ys.map a.eval).toArray ++ cvs.toArray := by simp
          rw [run_call hcall hg, ← harr, q1 w]
          rw [Oper.upon_enter]
          refine q2.mono fun en w' he => ?_
          cases en with
          | returned u =>
            obtain ⟨v, h', x', μ', k1, k2, k3, k4, k5⟩ := he
            exact reg_sound hC r (i + 1) c2 k1 (R.step hd k3 k4 k5 k2) hK
          | panicked _ => exact he.elim
          | outgrown => exact he.elim
        cases op
        case call f args =>
          dsimp only at H d4
          split at d4
          · rename_i g ys hcall
            simp only [Bool.and_eq_true] at d4
            have hg := R.opds _ _ d4.1
            have hgv : a.eval g = .func (.func f) #[] #[] := by
              simp only [Opd.ev] at hg
              generalize a.eval g = z at hg
              cases hg with
              | fn _ _ vs hl hr =>
                have : vs = [] := List.length_eq_zero_iff.1 (by simpa using hl.symm)
                subst this; rfl
            exact call f _ g ys [] [] hcall hgv rfl (fun j y v h1 h2 => by simp at h1) (by simp [opds_len d4.2]) (opds_rel R.opds d4.2) (by simpa using H)
          · cases d4
        case callv f args =>
          dsimp only at H d4
          split at d4
          · rename_i g ys hcall
            simp only [Bool.and_eq_true] at d4
            split at H
            · rename_i fn caps hf
              have hg := R.opds _ _ d4.1
              rw [hf] at hg
              generalize hz : a.eval g = z at hg
              cases hg with
              | fn _ _ vs hl hr => exact call fn _ g ys caps vs hcall hz hl hr (by simp [opds_len d4.2]) (opds_rel R.opds d4.2) H
            · exact H.elim
          · cases d4
        case mnext i => cases d4
        all_goals
          dsimp only at H d4
          split at H
          · rename_i v h' x' ha
            obtain ⟨nx, w', μ', r1, r2, r3, r4, r5⟩ := op_sound (o := p) d4 (fun _ => rfl) R.heap R.opds ha
            unfold Oper.wp
            rw [r1]
            rcases r2 with ⟨u, rfl, hu⟩ | ⟨rfl, rfl⟩
            · rw [Oper.upon_value]
              exact reg_sound hC r (i + 1) c2 H (R.step hd r3 r4 r5 hu) hK
            · rw [Oper.upon_skip]
              exact reg_sound hC r (i + 1) c2 H (R.step hd r3 r4 r5 (.und _)) hK
          · exact H.elim
      · rename_i hw
        rw [if_neg (by rw [wanted_ok R d3 hw]; simp)]
        exact reg_sound hC r (i + 1) c2 H (R.skip hd) hK
      · exact H.elim
    · cases hc

end Go.Am
