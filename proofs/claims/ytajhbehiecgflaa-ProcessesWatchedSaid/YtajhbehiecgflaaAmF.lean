/- The abstract machine, part F: regions whose order is left open: sound. -/
import Derived.Test.YtajhbehiecgflaaAmE
set_option linter.unusedSimpArgs false
set_option linter.unusedVariables false
set_option maxHeartbeats 1000000
namespace Go.Am

variable {h h' : Heap} {μ μ' : Mu} {w w' : World} {P : Program} {M M' : Mem}
variable {gl : Nat → Option PV} {nt : Nat} {M0 : Mem} {h0 : Heap} {μ0 : Mu} {e : List (Nat × AV)} {x : Esc} {a : Act} {ops : Array Oper}

def edgesOf (o : Oper) : List Nat := (o.after.toList.filter (Region.binds .any)).map (·.on)

inductive Bef (ops : Array Oper) : Nat → Nat → Prop
  | one {k i : Nat} {o : Oper} (ho : ops[i]? = some o) (hk : k ∈ edgesOf o) : Bef ops k i
  | more {k m i : Nat} {o : Oper} (h : Bef ops k m) (ho : ops[i]? = some o) (hm : m ∈ edgesOf o) : Bef ops k i

def closeTab : List (List Nat) → List (List Nat) → List (List Nat)
  | [], t => t
  | es :: r, t => closeTab r (t ++ [(es ++ es.flatMap fun m => t.getD m []).eraseDups])

theorem closeTab_ok : ∀ (os : List Oper) (m : Nat) (t : List (List Nat)), ops.toList.drop m = os → t.length = m → (∀ i l, t[i]? = some l → ∀ k ∈ l, Bef ops k i) →
    ∀ i l, (closeTab (os.map edgesOf) t)[i]? = some l → ∀ k ∈ l, Bef ops k i
  | [], m, t, _, _, ht => ht
  | o :: r, m, t, ho, hm, ht => by
    have hom : ops[m]? = some o := by
      have : (ops.toList.drop m)[0]? = some o := by rw [ho]; rfl
      rw [List.getElem?_drop] at this
      simpa using this
    have hr : ops.toList.drop (m + 1) = r := by
      rw [← List.drop_drop, ho]
      rfl
    simp only [List.map_cons, closeTab]
    refine closeTab_ok r (m + 1) _ hr (by simp [hm]) (fun i l hi k hk => ?_)
    rcases get_push hi with hi | ⟨hi, hl⟩
    · exact ht i l hi k hk
    · rw [hi, hm]
      rw [hl] at hk
      rw [List.mem_eraseDups] at hk
      rcases List.mem_append.1 hk with hk | hk
      · exact .one hom hk
      · obtain ⟨q, q1, q2⟩ := List.mem_flatMap.1 hk
        cases hq : t[q]? with
        | none => simp [List.getD, hq] at q2
        | some l' =>
          simp [List.getD, hq] at q2
          exact .more (ht q l' hq k q2) hom q1

/-- Two operations, the first ahead in the text: ordered, or they do not disturb each other. -/
def pairOk (tab : List (List Nat)) (i j : Nat) (p q : DOp) : Bool :=
  (tab.getD j []).contains i ||
    (!(p.eff && q.eff) && (match p.op.dst with | some t => q.op.dst != some t && !q.rd.contains t | none => true) && (match q.op.dst with | some t => !p.rd.contains t | none => true) &&
      (!(q.eff && !p.eff) || p.op.op.hfree || q.again.contains i) && (!(p.eff && !q.eff) || q.op.op.hfree || q.early.contains i))

def rowOk (tab : List (List Nat)) (j : Nat) (q : DOp) : List DOp → Nat → Bool
  | [], _ => true
  | p :: r, i => decide (j ≤ i) || (pairOk tab i j p q && rowOk tab j q r (i + 1))

def rowsOk (tab : List (List Nat)) (all : List DOp) : List DOp → Nat → Bool
  | [], _ => true
  | q :: r, j => rowOk tab j q all 0 && rowsOk tab all r (j + 1)

def edgesLt : List Oper → Nat → Bool
  | [], _ => true
  | o :: r, i => (edgesOf o).all (fun k => decide (k < i)) && edgesLt r (i + 1)

def chkDraw (P : Program) (nt : Nat) (ops : Array Oper) (ds : List DOp) : Bool :=
  chkOps P nt ops (ds.map (·.op)) 0 && edgesLt ops.toList 0 && rowsOk (closeTab (ops.toList.map edgesOf) []) ds ds 0

theorem rowOk_spec {tab : List (List Nat)} {j : Nat} {q : DOp} : ∀ {l : List DOp} {i : Nat}, rowOk tab j q l i = true → ∀ k p, l[k]? = some p → i + k < j → pairOk tab (i + k) j p q = true
  | [], i, _, k, p, h, _ => by simp at h
  | p0 :: r, i, h, k, p, hk, hlt => by
    simp only [rowOk, Bool.or_eq_true, decide_eq_true_eq, Bool.and_eq_true] at h
    rcases h with h | ⟨h1, h2⟩
    · omega
    · cases k with
      | zero => simp at hk; subst hk; exact h1
      | succ k =>
        have := rowOk_spec h2 k p (by simpa using hk) (by omega)
        rwa [show i + 1 + k = i + (k + 1) by omega] at this

theorem rowsOk_spec {tab : List (List Nat)} {all : List DOp} : ∀ {l : List DOp} {j : Nat}, rowsOk tab all l j = true → ∀ k q, l[k]? = some q → ∀ i p, all[i]? = some p → i < j + k → pairOk tab i (j + k) p q = true
  | [], j, _, k, q, h, _, _, _, _ => by simp at h
  | q0 :: r, j, h, k, q, hk, i, p, hp, hlt => by
    simp only [rowsOk, Bool.and_eq_true] at h
    cases k with
    | zero =>
      simp at hk
      subst hk
      have := rowOk_spec h.1 i p hp (by simpa using hlt)
      simpa using this
    | succ k =>
      have := rowsOk_spec h.2 k q (by simpa using hk) i p hp (by omega)
      rwa [show j + 1 + k = j + (k + 1) by omega] at this

theorem edgesLt_spec : ∀ {l : List Oper} {i : Nat}, edgesLt l i = true → ∀ j o, l[j]? = some o → ∀ k ∈ edgesOf o, k < i + j
  | [], _, _, j, o, h, _, _ => by simp at h
  | o0 :: r, i, h, j, o, hj, k, hk => by
    simp only [edgesLt, Bool.and_eq_true, List.all_eq_true, decide_eq_true_eq] at h
    cases j with
    | zero => simp at hj; subst hj; simpa using h.1 k hk
    | succ j => have := edgesLt_spec h.2 j o (by simpa using hj) k hk; omega

theorem chkOps_spec : ∀ {l : List AOp} {i : Nat}, chkOps P nt ops l i = true → i + l.length = ops.size ∧ ∀ j o, l[j]? = some o → ∃ p, ops[i + j]? = some p ∧ chkAOp P nt ops o p = true
  | [], i, h => by simp [chkOps] at h; exact ⟨by simpa using h, fun j o hj => by simp at hj⟩
  | o0 :: r, i, h => by
    simp only [chkOps] at h
    split at h
    · rename_i p hp
      simp only [Bool.and_eq_true] at h
      obtain ⟨h1, h2⟩ := chkOps_spec h.2
      refine ⟨by simp; omega, fun j o hj => ?_⟩
      cases j with
      | zero => simp at hj; subst hj; exact ⟨p, hp, h.1⟩
      | succ j =>
        obtain ⟨p', q1, q2⟩ := h2 j o (by simpa using hj)
        exact ⟨p', by rw [← q1]; congr 1; omega, q2⟩
    · cases h

theorem chkAOp_dst {o : AOp} {p : Oper} (h : chkAOp P nt ops o p = true) : o.dst = p.dst ∧ ∀ j, o.dst = some j → j < nt := by
  unfold chkAOp at h
  simp only [Bool.and_eq_true, beq_iff_eq] at h
  obtain ⟨⟨⟨d1, d2⟩, d3⟩, d4⟩ := h
  exact ⟨d1, fun j hj => by rw [hj] at d2; simpa using d2⟩

theorem aget_prune' (l : List Nat) (e : List (Nat × AV)) (t : Nat) : aget (prune (some l) e) t = if t ∈ l then aget e t else .und := by
  simp only [prune]
  induction l with
  | nil => simp [aget]
  | cons k r ih =>
    simp only [List.map_cons, aget]
    by_cases hk : k = t
    · subst hk; simp
    · rw [if_neg hk, ih]
      have : ¬ t = k := fun h => hk h.symm
      simp [this]

/-- The sets of operations done that can come up. -/
def Down (ops : Array Oper) (sel : Nat → Bool) : Prop := ∀ i o, ops[i]? = some o → sel i = true → ∀ k ∈ edgesOf o, sel k = true

theorem Bef.down {sel : Nat → Bool} (hD : Down ops sel) {k i : Nat} (hb : Bef ops k i) : sel i = true → sel k = true := by
  induction hb with
  | one ho hk => exact fun hi => hD _ _ ho hi _ hk
  | more _ ho hm ih => exact fun hi => ih (hD _ _ ho hi _ hm)

theorem Bef.ready {sel : Nat → Bool} (hD : Down ops sel) {k i : Nat} (hb : Bef ops k i) (hr : ∀ o, ops[i]? = some o → ∀ k ∈ edgesOf o, sel k = true) : sel k = true := by
  cases hb with
  | one ho hk => exact hr _ ho _ hk
  | more hb ho hm => exact hb.down hD (hr _ ho _ hm)

end Go.Am
