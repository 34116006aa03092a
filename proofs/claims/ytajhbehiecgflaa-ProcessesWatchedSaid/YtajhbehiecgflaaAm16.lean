/- The abstract machine, part 16: small operations. -/
import Derived.Test.YtajhbehiecgflaaAm15
import Derived.Laws.IdiomStrings
import Derived.Laws.Runes
set_option linter.unusedSimpArgs false
set_option linter.unusedVariables false
set_option maxHeartbeats 1000000
namespace Go.Am

variable {h h' : Heap} {μ μ' : Mu} {w w' : World} {P : Program} {M M' : Mem}

theorem bin_ok {op : BinOp} {t : TypeId} {a b : Operand} {ev : Opd → AV} {p q : Opd} {x y : Value} {v : AV} {h1 : Heap} {e : Esc} (H : HeapRel h μ w) (Rp : RAV (imm h μ w) h μ (ev p) x) (Rq : RAV (imm h μ w) h μ (ev q) y)
    (he : aop (.bin op p q) ev h = some (v, h1, e)) : OpOk P (do pure (.value (← (do eqGuard op t a b x y; binOp op t x y)))) h μ w v h1 e := by
  simp only [aop] at he
  split at he
  · rename_i c d hp hq
    simp only [Option.map_eq_some_iff, Prod.mk.injEq] at he
    obtain ⟨r, hr, rfl, rfl, rfl⟩ := he
    rw [hp] at Rp; rw [hq] at Rq
    obtain ⟨u, hu, hR⟩ := abin_sound (w := w) (P := P) (t := t) Rp.p_inv Rq.p_inv hr
    obtain ⟨n1, n2⟩ := abin_notagg Rp.p_inv hr
    refine OpOk.pure H (run_v ?_) (.p _ _ hR)
    rw [Sem.run_bind, eqGuard_plain n1 (.inl n2)]
    exact hu
  · cases he

theorem un_ok {op : UnOp} {ev : Opd → AV} {p : Opd} {x : Value} {v : AV} {h1 : Heap} {e : Esc} (H : HeapRel h μ w) (Rp : RAV (imm h μ w) h μ (ev p) x)
    (he : aop (.un op p) ev h = some (v, h1, e)) : OpOk P (do pure (.value (← Op.unary op x))) h μ w v h1 e := by
  simp only [aop] at he
  split at he
  · rename_i c hp
    simp only [Option.map_eq_some_iff, Prod.mk.injEq] at he
    obtain ⟨r, hr, rfl, rfl, rfl⟩ := he
    rw [hp] at Rp
    obtain ⟨u, hu, hR⟩ := aun_sound (w := w) (P := P) Rp.p_inv hr
    exact OpOk.pure H (run_v hu) (.p _ _ hR)
  · cases he

theorem mv_ok {ev : Opd → AV} {p : Opd} {x : Value} {v : AV} {h1 : Heap} {e : Esc} (H : HeapRel h μ w) (Rp : RAV (imm h μ w) h μ (ev p) x)
    (he : aop (.mv p) ev h = some (v, h1, e)) : OpOk P (pure (.value x)) h μ w v h1 e := by
  simp only [aop, Option.some.injEq, Prod.mk.injEq] at he
  obtain ⟨rfl, rfl, rfl⟩ := he
  exact OpOk.pure H rfl Rp

theorem pick_ok {ev : Opd → AV} {c p q : Opd} {z x y : Value} {v : AV} {h1 : Heap} {e : Esc} (H : HeapRel h μ w) (Rc : RAV (imm h μ w) h μ (ev c) z) (Rp : RAV (imm h μ w) h μ (ev p) x) (Rq : RAV (imm h μ w) h μ (ev q) y)
    (he : aop (.pick c p q) ev h = some (v, h1, e)) : OpOk P (do pure (.value (if ← asBool z then x else y))) h μ w v h1 e := by
  simp only [aop] at he
  split at he
  · rename_i t hc
    rw [hc] at Rc
    rw [Rc.p_bool]
    simp only [Option.some.injEq, Prod.mk.injEq] at he
    obtain ⟨rfl, rfl, rfl⟩ := he
    cases t
    · exact OpOk.pure H (u := y) (by simp [asBool]) Rq
    · exact OpOk.pure H (u := x) (by simp [asBool]) Rp
  · cases he

theorem new0_ok {sh : Sh} {ev : Opd → AV} {a : Option Addr} {v : AV} {h1 : Heap} {e : Esc} (H : HeapRel h μ w) (he : aop (.new0 sh) ev h = some (v, h1, e)) : OpOk P (pure (.value (.slice a 0 0))) h μ w v h1 e := by
  simp only [aop, Option.some.injEq, Prod.mk.injEq] at he
  obtain ⟨rfl, rfl, rfl⟩ := he
  obtain ⟨n1, n2⟩ := newNil H sh
  refine ⟨_, _, _, rfl, .inl ⟨_, rfl, ?_⟩, n1, n2, EscInv.push (by simp [Obj.top])⟩
  exact .own h.length 0 0 0 _ 0 sh [] 0 none (Nat.le_refl _) (by simp) (by rw [← H.len]; simp) (by simp) (by simp) (fun _ => rfl)

theorem nilchk_ok {ev : Opd → AV} {p : Opd} {x : Value} {v : AV} {h1 : Heap} {e : Esc} (H : HeapRel h μ w) (Rp : RAV (imm h μ w) h μ (ev p) x)
    (he : aop (.nilchk p) ev h = some (v, h1, e)) {a : Operand} {ρ : Operand → Value} {o : Oper} (hx : ρ a = x) (ho : o.op = .nilCheck a) : OpOk P (execOp ρ o) h μ w v h1 e := by
  simp only [aop] at he
  have key : ∀ y : Value, y = x → (execOp ρ o).run P w = .ok (.value y) w → ev p = v → OpOk P (execOp ρ o) h μ w v h [] := by
    intro y hy hr hv
    subst hy
    exact OpOk.pure H hr (hv ▸ Rp)
  have hpt : ∀ b, x = .pointer (some b) → (execOp ρ o).run P w = .ok (.value x) w := by
    intro b hb
    unfold execOp
    rw [ho]
    simp only [hx, hb]
    rfl
  split at he
  · rename_i id off hp
    simp only [Option.some.injEq, Prod.mk.injEq] at he
    obtain ⟨hv, rfl, rfl⟩ := he
    refine key x rfl ?_ hv
    rw [hp] at Rp
    cases Rp; exact hpt _ rfl
  · rename_i id g i off hp
    simp only [Option.some.injEq, Prod.mk.injEq] at he
    obtain ⟨hv, rfl, rfl⟩ := he
    refine key x rfl ?_ hv
    rw [hp] at Rp
    cases Rp; exact hpt _ rfl
  · rename_i u hp
    simp only [Option.some.injEq, Prod.mk.injEq] at he
    obtain ⟨hv, rfl, rfl⟩ := he
    refine key x rfl ?_ hv
    rw [hp] at Rp
    cases Rp; exact hpt _ rfl
  · rename_i f cs hp
    simp only [Option.some.injEq, Prod.mk.injEq] at he
    obtain ⟨hv, rfl, rfl⟩ := he
    refine key x rfl ?_ hv
    rw [hp] at Rp
    cases Rp
    unfold execOp
    rw [ho]
    simp only [hx]
    rfl
  · cases he

/-! ### equality of structs -/

def kindT (P : Program) (t : TypeId) : Nat := match P.underlying t with
  | some (.int _) => 0
  | some .bool => 1
  | some .string => 2
  | _ => 3

def chkFs (P : Program) (f : TypeId → List Nat → Option (List Nat)) : Nat → List Field → List Nat → Option (List Nat)
  | _, [], ks => some ks
  | i, fl :: r, ks => if fl.name ≠ "_" ∧ fl.offset = i then match shOf P fl.type with
      | some sh => match f fl.type ks with
        | some ks' => if ks'.length + shSize sh = ks.length then chkFs P f (i + shSize sh) r ks' else none
        | none => none
      | none => none
    else none

def chkTy (P : Program) : Nat → TypeId → List Nat → Option (List Nat)
  | 0, _, _ => none
  | d + 1, t, ks => match P.underlying t with
    | some (.struct fs) => if P.stoodInHeld t = true then none else chkFs P (chkTy P d) 0 fs.toList ks
    | _ => match ks with
      | k :: r => if kindT P t = k ∧ k < 3 then some r else none
      | [] => none

def chkEqs (P : Program) (t : TypeId) (ks : List Nat) : Bool := match ks with
  | [] => match P.underlying t with | some .bool => true | _ => false
  | _ => match P.underlying t with
    | some (.struct _) => !P.eqGuardType P.depth t && chkTy P 20 t ks == some []
    | _ => false

theorem equalIn_scalar {d : Nat} {t : TypeId} {a b : PV} {x y : Value} {r : Bool} (h1 : kindT P t = a.kind) (h2 : a.kind < 3) (Ra : RPV M a x) (Rb : RPV M b y) (he : PV.eq1 a b = some r) : (Op.equalIn (d + 1) t x y).run P w = .ok r w := by
  unfold PV.eq1 at he
  unfold kindT at h1
  split at he
  · split at he
    · rename_i k m k' n hkk
      subst hkk
      simp at he
      subst he
      cases Ra; cases Rb
      split at h1
      · rename_i kk hu
        simp [Op.equalIn, run_underlying_of hu, beq_dec]
      all_goals simp [PV.kind] at h1
    · cases he
  · rename_i s s'
    simp at he
    subst he
    cases Ra; cases Rb
    split at h1
    · simp [PV.kind] at h1
    · rename_i hu
      simp [Op.equalIn, run_underlying_of hu, beq_dec]
    · simp [PV.kind] at h1
    · simp [PV.kind] at h1
  · rename_i s s'
    simp at he
    subst he
    cases Ra; cases Rb
    split at h1
    · simp [PV.kind] at h1
    · simp [PV.kind] at h1
    · rename_i hu
      simp [Op.equalIn, run_underlying_of hu, Go.beq_toListBytes, Go.ByteArray.toList_mk, beq_dec]
    · simp [PV.kind] at h1
  · cases he

theorem eqs_split : ∀ {a1 b1 a2 b2 : List PV} {r : Bool}, a1.length = b1.length → eqs (a1 ++ a2) (b1 ++ b2) = some r → ∃ r1 r2, eqs a1 b1 = some r1 ∧ eqs a2 b2 = some r2 ∧ r = (r1 && r2)
  | [], [], a2, b2, r, _, h => ⟨true, r, rfl, h, by simp⟩
  | [], _ :: _, _, _, _, h, _ => by simp at h
  | _ :: _, [], _, _, _, h, _ => by simp at h
  | a :: a1, b :: b1, a2, b2, r, hl, h => by
    simp only [List.cons_append, eqs] at h
    split at h
    · rename_i q hq
      simp only [Option.map_eq_some_iff] at h
      obtain ⟨r', h1, rfl⟩ := h
      obtain ⟨r1, r2, h2, h3, rfl⟩ := eqs_split (by simpa using hl) h1
      exact ⟨q && r1, r2, by simp [eqs, hq, h2], h3, by cases q <;> simp⟩
    · cases h

theorem fs_suffix {f : TypeId → List Nat → Option (List Nat)} (hf : ∀ t ks rest, f t ks = some rest → ∃ pre, ks = pre ++ rest) : ∀ {fs : List Field} {i : Nat} {ks rest : List Nat}, chkFs P f i fs ks = some rest → ∃ pre, ks = pre ++ rest
  | [], i, ks, rest, h => by simp [chkFs] at h; exact ⟨[], by simp [h]⟩
  | fl :: r, i, ks, rest, h => by
    simp only [chkFs] at h
    split at h
    · split at h
      · split at h
        · rename_i ks' hk
          split at h
          · obtain ⟨p1, h1⟩ := hf _ _ _ hk
            obtain ⟨p2, h2⟩ := fs_suffix hf h
            exact ⟨p1 ++ p2, by rw [h1, h2, List.append_assoc]⟩
          · cases h
        · cases h
      · cases h
    · cases h

theorem ty_suffix : ∀ (d : Nat) (t : TypeId) (ks rest : List Nat), chkTy P d t ks = some rest → ∃ pre, ks = pre ++ rest
  | 0, t, ks, rest, h => by simp [chkTy] at h
  | d + 1, t, ks, rest, h => by
    simp only [chkTy] at h
    split at h
    · split at h
      · cases h
      · exact fs_suffix (ty_suffix d) h
    · split at h
      · rename_i k r
        split at h
        · injection h with h; subst h; exact ⟨[k], rfl⟩
        · cases h
      · cases h

/-- Cells from an offset on, and what they stand for. -/
def Cs (M : Mem) (as : List PV) (xs : List Value) (off : Nat) : Prop := off + as.length ≤ xs.length ∧ ∀ (j : Nat) (a : PV) (v : Value), as[j]? = some a → xs[off + j]? = some v → RPV M a v

def EqAt (P : Program) (w : World) (M : Mem) (d : Nat) (t : TypeId) : Prop := ∀ (m : Nat) (ks rest : List Nat) (sh : Sh) (xs ys : List Value) (off : Nat) (as bs : List PV) (r : Bool), chkTy P d t ks = some rest → shOf P t = some sh → ks = as.map PV.kind ++ rest → as.map PV.kind = bs.map PV.kind → as.length = shSize sh →
  Cs M as xs off → Cs M bs ys off → eqs as bs = some r → (Op.equalIn (m + d) t (shVal sh fun j => (xs[off + j]?).getD undef) (shVal sh fun j => (ys[off + j]?).getD undef)).run P w = .ok r w

theorem fs_ok {d : Nat} (IH : ∀ t, EqAt P w M d t) {m : Nat} {xs ys : List Value} : ∀ {fs : List Field} {i : Nat} {ks rest : List Nat} {as bs : List PV} {r : Bool}, chkFs P (chkTy P d) i fs ks = some rest → ks = as.map PV.kind ++ rest → as.map PV.kind = bs.map PV.kind →
    Cs M as xs i → Cs M bs ys i → eqs as bs = some r → (Op.eqFields (m + d) xs.toArray ys.toArray fs).run P w = .ok r w
  | [], i, ks, rest, as, bs, r, h, hk, hab, hA, hB, he => by
    simp only [chkFs, Option.some.injEq] at h
    subst h
    have h0 : as = [] := by
      have := congrArg List.length hk
      simp at this
      exact this
    subst h0
    have h1 : bs = [] := by simpa using hab.symm
    subst h1
    simp [eqs] at he
    subst he
    simp [Op.eqFields]
  | fl :: fs, i, ks, rest, as, bs, r, h, hk, hab, hA, hB, he => by
    simp only [chkFs] at h
    split at h
    · rename_i hfl
      split at h
      · rename_i sh hsh
        split at h
        · rename_i ks' hk'
          split at h
          · rename_i hlen
            obtain ⟨pre, h1⟩ := ty_suffix _ _ _ _ hk'
            obtain ⟨pre2, h2⟩ := fs_suffix (ty_suffix d) h
            have hpre : pre.length = shSize sh := by rw [h1] at hlen; simp at hlen; omega
            have hkk : as.map PV.kind = pre ++ pre2 := by
              rw [h1, h2, ← List.append_assoc] at hk
              exact (List.append_cancel_right hk).symm
            have hla : as.length = pre.length + pre2.length := by have := congrArg List.length hkk; simpa using this
            have hlb : as.length = bs.length := by have := congrArg List.length hab; simpa using this
            obtain ⟨a1, a2, rfl, ha1⟩ : ∃ a1 a2, as = a1 ++ a2 ∧ a1.length = pre.length := ⟨as.take pre.length, as.drop pre.length, by simp, by simp; omega⟩
            obtain ⟨b1, b2, rfl, hb1⟩ : ∃ b1 b2, bs = b1 ++ b2 ∧ b1.length = pre.length := ⟨bs.take pre.length, bs.drop pre.length, by simp, by simp; omega⟩
            rw [List.map_append] at hkk
            obtain ⟨m1, m2⟩ := List.append_inj hkk (by simpa using ha1)
            rw [List.map_append, List.map_append] at hab
            obtain ⟨n1, n2⟩ := List.append_inj hab (by simp; omega)
            obtain ⟨r1, r2, q1, q2, rfl⟩ := eqs_split (by omega) he
            have cA1 : Cs M a1 xs i := ⟨by have := hA.1; simp at this; omega, fun j a v hj hv => hA.2 j a v (get_left hj) hv⟩
            have cB1 : Cs M b1 ys i := ⟨by have := hB.1; simp at this; omega, fun j a v hj hv => hB.2 j a v (get_left hj) hv⟩
            have cA2 : Cs M a2 xs (i + shSize sh) := ⟨by have := hA.1; simp at this; omega, fun j a v hj hv => hA.2 (a1.length + j) a v (by rw [List.getElem?_append_right (by omega)]; simpa using hj) (by rw [← hv]; congr 1; omega)⟩
            have cB2 : Cs M b2 ys (i + shSize sh) := ⟨by have := hB.1; simp at this; omega, fun j a v hj hv => hB.2 (b1.length + j) a v (by rw [List.getElem?_append_right (by omega)]; simpa using hj) (by rw [← hv]; congr 1; omega)⟩
            have p1 := run_part (P := P) (w := w) (t := fl.type) hsh (vs := xs) (off := i) (by have := cA1.1; omega)
            have p2 := run_part (P := P) (w := w) (t := fl.type) hsh (vs := ys) (off := i) (by have := cB1.1; omega)
            have hh := IH fl.type m ks ks' sh xs ys i a1 b1 r1 hk' hsh (by rw [h1, m1]) n1 (by omega) cA1 cB1 q1
            have ih := fs_ok IH (m := m) h (by rw [h2, m2]) n2 cA2 cB2 q2
            simp only [Op.eqFields, hfl.1, ne_eq, not_false_eq_true, if_true, Sem.run_bind, hfl.2, p1, p2, Result.andThen_ok, hh]
            cases r1
            · simp
            · simp [ih]
          · cases h
        · cases h
      · cases h
    · cases h

theorem ty_ok : ∀ (d : Nat) (t : TypeId), EqAt P w M d t
  | 0, t => fun m ks rest sh xs ys off as bs r h => by simp [chkTy] at h
  | d + 1, t => fun m ks rest sh xs ys off as bs r h hsh hk hab hla hA hB he => by
    have hlb : as.length = bs.length := by have := congrArg List.length hab; simpa using this
    simp only [chkTy] at h
    split at h
    · rename_i fs hu
      split at h
      · cases h
      · rename_i hst
        have hst : P.stoodInHeld t = false := by simpa using hst
        have hsn : ∃ n, sh = some n := by
          unfold shOf at hsh
          rw [hu] at hsh
          cases hi : P.info? t with
          | none => rw [hi] at hsh; simp at hsh
          | some i => rw [hi] at hsh; simp at hsh; exact ⟨_, hsh.symm⟩
        obtain ⟨n, rfl⟩ := hsn
        have hfo : P.fieldsOf t = fs := by simp [Program.fieldsOf, hu]
        show (Op.equalIn (m + d + 1) t (.agg _) (.agg _)).run P w = _
        rw [run_equalIn_struct w (m + d) t _ _ (by rw [hfo]; exact hu) hst, hfo]
        simp only [shSize] at hla
        exact fs_ok (ty_ok d) h hk hab ⟨by simp; omega, fun j a v hj hv => by
            have hjn : j < n := by rw [← hla]; exact lt_of_get hj
            have hlt : off + j < xs.length := by have := hA.1; omega
            simp [hjn, hlt] at hv
            exact hA.2 j a v hj (by rw [← hv]; simp [hlt])⟩ ⟨by simp; omega, fun j a v hj hv => by
            have hjn : j < n := by rw [← hla, hlb]; exact lt_of_get hj
            have hlt : off + j < ys.length := by have := hB.1; omega
            simp [hjn, hlt] at hv
            exact hB.2 j a v hj (by rw [← hv]; simp [hlt])⟩ he
    · split at h
      · rename_i k r'
        split at h
        · rename_i hkk
          injection h with h
          subst h
          have hsn : sh = none := by
            obtain ⟨h1, h2⟩ := hkk
            unfold shOf at hsh
            unfold kindT at h1
            split at h1
            · rename_i hu; rw [hu] at hsh; split at hsh <;> simp_all
            · rename_i hu; rw [hu] at hsh; split at hsh <;> simp_all
            · rename_i hu; rw [hu] at hsh; split at hsh <;> simp_all
            · omega
          subst hsn
          simp only [shSize] at hla
          obtain ⟨a, rfl⟩ := List.length_eq_one_iff.1 hla
          obtain ⟨b, rfl⟩ := List.length_eq_one_iff.1 (hlb.symm.trans hla)
          simp only [List.map_cons, List.map_nil, List.cons_append, List.nil_append, List.cons.injEq, and_true] at hk hab
          have hxl : off < xs.length := by have := hA.1; simp at this; omega
          have hyl : off < ys.length := by have := hB.1; simp at this; omega
          have heq : PV.eq1 a b = some r := by
            simp only [eqs] at he
            split at he
            · rename_i q hq; simp at he; rw [hq, he]
            · cases he
          simp only [shVal, Nat.add_zero, List.getElem?_eq_getElem hxl, List.getElem?_eq_getElem hyl, Option.getD_some]
          exact equalIn_scalar (d := m + d) (by rw [hkk.1]; exact hk) (by rw [← hk]; exact hkk.2) (hA.2 0 a _ rfl (by simp [hxl])) (hB.2 0 b _ rfl (by simp [hyl])) heq
        · cases h
      · cases h

theorem eqa_ok {ks : List Nat} {neg : Bool} {op : BinOp} (hop : op = if neg then .neq else .eql) {t : TypeId} (hc : chkEqs P t ks = true) {a b : Operand} {ev : Opd → AV} {p q : Opd} {x y : Value} {v : AV} {h1 : Heap} {e : Esc} (H : HeapRel h μ w) (Rp : RAV (imm h μ w) h μ (ev p) x) (Rq : RAV (imm h μ w) h μ (ev q) y)
    (he : aop (.eqa ks neg p q) ev h = some (v, h1, e)) : OpOk P (do pure (.value (← (do eqGuard op t a b x y; binOp op t x y)))) h μ w v h1 e := by
  simp only [aop] at he
  split at he
  · rename_i as bs hp hq
    split at he
    · rename_i hk
      simp only [Option.map_eq_some_iff, Prod.mk.injEq] at he
      obtain ⟨r, hr, rfl, rfl, rfl⟩ := he
      rw [hp] at Rp; rw [hq] at Rq
      cases Rp.p_inv with | agg _ xs hxl hxr =>
      cases Rq.p_inv with | agg _ ys hyl hyr =>
      unfold chkEqs at hc
      split at hc
      · exact absurd rfl hk.2.2
      · split at hc
        · rename_i fs hu
          simp only [Bool.and_eq_true, Bool.not_eq_true', beq_iff_eq] at hc
          obtain ⟨c2, c3⟩ := hc
          have hE : (Op.equalIn 10000 t (.agg xs.toArray) (.agg ys.toArray)).run P w = .ok r w := by
            rw [show (20 : Nat) = 19 + 1 from rfl] at c3
            unfold chkTy at c3
            rw [hu] at c3
            dsimp only at c3
            split at c3
            · cases c3
            · rename_i hst
              have hst : P.stoodInHeld t = false := by simpa using hst
              have hfo : P.fieldsOf t = fs := by simp [Program.fieldsOf, hu]
              rw [show (10000 : Nat) = (9980 + 19) + 1 from rfl, run_equalIn_struct w (9980 + 19) t _ _ (by rw [hfo]; exact hu) hst, hfo]
              exact fs_ok (ty_ok 19) c3 (by simpa using hk.1.symm) (by rw [hk.1, hk.2.1]) ⟨by omega, fun j a v h1 h2 => hxr j a v h1 (by simpa using h2)⟩ ⟨by omega, fun j a v h1 h2 => hyr j a v h1 (by simpa using h2)⟩ hr
          refine OpOk.pure H (u := .bool (bif neg then !r else r)) (run_v ?_) (RAV.pbool _)
          rw [Sem.run_bind, run_eqGuard_agg _ _ _ _ _ _ _ c2]
          cases neg
          · simp only [Bool.false_eq_true, if_false] at hop
            subst hop
            simp [run_eql_struct, hE]
          · simp only [if_true] at hop
            subst hop
            simp [run_neq_struct, hE]
        · cases hc
    · cases he
  · rename_i c d hp hq
    split at he
    · rename_i hk
      subst hk
      simp only [Option.some.injEq, Prod.mk.injEq] at he
      obtain ⟨rfl, rfl, rfl⟩ := he
      rw [hp] at Rp; rw [hq] at Rq
      rw [Rp.p_bool, Rq.p_bool]
      have hu : P.underlying t = some .bool := by
        simp only [chkEqs] at hc
        split at hc
        · assumption
        · cases hc
      have hE : (Op.equalIn 10000 t (.bool c) (.bool d)).run P w = .ok (decide (c = d)) w :=
        equalIn_scalar (M := imm h μ w) (a := .bool c) (b := .bool d) (d := 9999) (by simp [kindT, hu, PV.kind]) (by simp [PV.kind]) (.bool c) (.bool d) (by simp [PV.eq1])
      refine OpOk.pure H (u := .bool (bif neg then !decide (c = d) else decide (c = d))) (run_v ?_) (RAV.pbool _)
      rw [Sem.run_bind, eqGuard_plain (by simp) (by simp)]
      cases neg
      · simp only [Bool.false_eq_true, if_false] at hop
        subst hop
        simp only [Result.andThen_ok, binOp, Op.equal, Op.maxDepth, Sem.run_bind, hE, Sem.run_pure, cond_false]
      · simp only [if_true] at hop
        subst hop
        simp only [Result.andThen_ok, binOp, Op.equal, Op.maxDepth, Sem.run_bind, hE, Sem.run_pure, cond_true]
    · cases he
  · cases he

end Go.Am
