/- The abstract machine, part 27: loops, and the rules of computing as one set. -/
import Derived.Test.YtajhbehiecgflaaAm26
set_option linter.unusedSimpArgs false
set_option linter.unusedVariables false
namespace Go.Am

variable {C : Hd} {gl : Nat → Option PV} {e : List (Nat × AV)} {h : Heap} {x : Esc} {K : Ex → St → Prop} {s : St}

/-- What a round of a loop owes. -/
def loopK {σ : Type} (S : σ → St) (P : σ → Prop) (m : σ → Nat) (K : Ex → St → Prop) (s : σ) (e : Ex) (s' : St) : Prop := match e with
  | .normal => ∃ t, s' = S t ∧ P t ∧ m t < m s
  | .exit i => K (.exit i) s'
  | .ret => K .ret s'

theorem loopK_normal {σ : Type} {S : σ → St} {P : σ → Prop} {m : σ → Nat} {K : Ex → St → Prop} {t : σ} {s' : St} : loopK S P m K t .normal s' = ∃ u, s' = S u ∧ P u ∧ m u < m t := (rfl)
theorem loopK_exit {σ : Type} {S : σ → St} {P : σ → Prop} {m : σ → Nat} {K : Ex → St → Prop} {t : σ} {s' : St} {i : Nat} : loopK S P m K t (.exit i) s' = K (.exit i) s' := (rfl)
theorem loopK_ret {σ : Type} {S : σ → St} {P : σ → Prop} {m : σ → Nat} {K : Ex → St → Prop} {t : σ} {s' : St} : loopK S P m K t .ret s' = K .ret s' := (rfl)
theorem loopK_congr {σ : Type} {S : σ → St} {P : σ → Prop} {m : σ → Nat} {K : Ex → St → Prop} {t : σ} {ex ex' : Ex} {s s' : St} (he : ex = ex') (hs : s = s') : loopK S P m K t ex s = loopK S P m K t ex' s' := by rw [he, hs]

theorem ALoop_same {T : St → (Ex → St → Prop) → Prop} {K : Ex → St → Prop} {s s' : St} (h : T s = T s') : ALoop T K s = ALoop T K s' := by
  refine propext ⟨fun H => ?_, fun H => ?_⟩
  · cases H with | mk _ R a b c d => exact .mk _ R (h ▸ a) b c d
  · cases H with | mk _ R a b c d => exact .mk _ R (h.symm ▸ a) b c d

theorem aget_prune_mem {l : List Nat} {e : List (Nat × AV)} {t : Nat} (ht : t ∈ l) : aget (prune (some l) e) t = aget e t := by
  simp only [prune]
  induction l with
  | nil => cases ht
  | cons k r ih =>
    simp only [List.map_cons, aget]
    split
    · rename_i hk; rw [hk]
    · rename_i hk
      rcases List.mem_cons.1 ht with h1 | h1
      · exact absurd h1.symm hk
      · exact ih h1
theorem prune_prune {l : List Nat} {e : List (Nat × AV)} : prune (some l) (prune (some l) e) = prune (some l) e := by
  show l.map _ = l.map _
  exact List.map_congr_left fun t ht => by rw [aget_prune_mem ht]

/-- A loop, met in a state of which only what its rounds need is kept. -/
def LoopP (C : Hd) (gl : Nat → Option PV) (l : List Nat) (b : ACode) (K : Ex → St → Prop) (e : List (Nat × AV)) (h : Heap) (x : Esc) : Prop := AW C gl (.loop (.pr l b)) ⟨e, h, x⟩ K
def LoopS (C : Hd) (gl : Nat → Option PV) (l : List Nat) (b : ACode) (K : Ex → St → Prop) (e : List (Nat × AV)) (h : Heap) (x : Esc) : Prop := AW C gl (.loop (.scope (.pr l b))) ⟨e, h, x⟩ K
theorem LoopP_eq {l : List Nat} {b : ACode} : AW C gl (.loop (.pr l b)) ⟨e, h, x⟩ K = LoopP C gl l b K (prune (some l) e) h x := by
  show ALoop _ _ _ = ALoop _ _ _
  exact ALoop_same (funext fun R => by show AW C gl b _ R = AW C gl b _ R; dsimp only; rw [prune_prune])
theorem LoopS_eq {l : List Nat} {b : ACode} : AW C gl (.loop (.scope (.pr l b))) ⟨e, h, x⟩ K = LoopS C gl l b K (prune (some l) e) h x := by
  show ALoop _ _ _ = ALoop _ _ _
  exact ALoop_same (funext fun R => by show AW C gl b _ _ = AW C gl b _ _; dsimp only; rw [prune_prune])

theorem AW_loop0 {σ : Type} {b : ACode} (S : σ → St) (P : σ → Prop) (m : σ → Nat) (t0 : σ) (hs : s = S t0) (h0 : P t0) (hr : ∀ t, P t → AW C gl b (S t) (loopK S P m K t)) : AW C gl (.loop b) s K := by
  show ALoop (AW C gl b) K s
  subst hs
  have key : ∀ n t, m t < n → P t → ALoop (AW C gl b) K (S t) := by
    intro n
    induction n with
    | zero => intro t h; omega
    | succ n ih =>
      intro t hm hp
      refine .mk _ _ (hr t hp) (fun s' h' => ?_) (fun i s' h' => h') (fun s' h' => h')
      obtain ⟨u, rfl, hu, hlt⟩ := h'
      exact ih u (by omega) hu
  exact key _ t0 (Nat.lt_succ_self _) h0
/-- The loop rule: a shape of the states at its head, what holds there, what falls. -/
theorem AW_loop {σ : Type} {l : List Nat} {b : ACode} (S : σ → St) (P : σ → Prop) (m : σ → Nat) (t0 : σ) (hs : (⟨e, h, x⟩ : St) = S t0) (h0 : P t0) (hr : ∀ t, P t → AW C gl (.pr l b) (S t) (loopK S P m K t)) : LoopP C gl l b K e h x :=
  AW_loop0 S P m t0 hs h0 hr
theorem AW_loopS {σ : Type} {l : List Nat} {b : ACode} (S : σ → St) (P : σ → Prop) (m : σ → Nat) (t0 : σ) (hs : (⟨e, h, x⟩ : St) = S t0) (h0 : P t0) (hr : ∀ t, P t → AW C gl (.scope (.pr l b)) (S t) (loopK S P m K t)) : LoopS C gl l b K e h x :=
  AW_loop0 S P m t0 hs h0 hr

/-! ### heaps that grow at the end -/

theorem app_get {α : Type} (h l : List α) (n : Nat) : (h ++ l)[h.length + n]? = l[n]? := by
  rw [List.getElem?_append_right (by omega)]; congr 1; omega
theorem app_get0 {α : Type} (h l : List α) : (h ++ l)[h.length]? = l[0]? := by
  rw [List.getElem?_append_right (by omega)]; congr 1; omega
theorem app_set {α : Type} (h l : List α) (n : Nat) (o : α) : (h ++ l).set (h.length + n) o = h ++ l.set n o := by
  rw [List.set_append_right _ _ (by omega)]; congr 2; omega
theorem app_set0 {α : Type} (h l : List α) (o : α) : (h ++ l).set h.length o = h ++ l.set 0 o := by
  rw [List.set_append_right _ _ (by omega)]; congr 2; omega
theorem app_take {α : Type} (h l : List α) (n : Nat) : (h ++ l).take (h.length + n) = h ++ l.take n := List.take_length_add_append ..
theorem app_take0 {α : Type} (h l : List α) : (h ++ l).take h.length = h := List.take_left ..
theorem app_frz (h l : Heap) (n k : Nat) : frz (h ++ l) (h.length + n) k = h ++ frz l n k := by
  unfold frz
  rw [app_get]
  cases l[n]? with
  | none => rfl
  | some o => cases o <;> first | rfl | simp only [app_set]
theorem app_frz0 (h l : Heap) (k : Nat) : frz (h ++ l) h.length k = h ++ frz l 0 k := app_frz h l 0 k

theorem i64_wrap (n : Int) (h1 : -9223372036854775808 ≤ n) (h2 : n ≤ 9223372036854775807) : IntKind.i64.wrap n = n := by
  simp [IntKind.wrap, IntKind.bits, IntKind.signed]; omega

/-! ### the end of a call, by what it needs of the function alone -/

def finR (rs : List ARes) (kp : Bool) (b : Nat) (P : Post) (e : Ex) (s : St) : Prop := match e with
  | .exit _ => False
  | _ => match aresAll s rs with
    | some vs => match kp with
      | true =>
        let n := close s.esc.length s.esc (max b (oneOf vs).top)
        if closed s.esc n then P (oneOf vs) (s.h.take n) (s.esc.filter fun y => decide (y.1 < n)) else P (oneOf vs) s.h s.esc
      | false => match reif b s.h (oneOf vs) with
        | some v0 =>
          let n := close s.esc.length s.esc (max b v0.top)
          if closed s.esc n then match reif n s.h (oneOf vs) with
            | some v => v.top ≤ n ∧ P v (s.h.take n) (s.esc.filter fun y => decide (y.1 < n))
            | none => False
          else P (oneOf vs) s.h s.esc
        | none => False
    | none => False
theorem finK_R {F : AFun} {b : Nat} {P : Post} : finK F b P = finR F.results F.keep b P := by
  funext e s; cases e <;> rfl
theorem finR_exit {rs : List ARes} {kp : Bool} {b : Nat} {P : Post} {i : Nat} {s : St} : finR rs kp b P (.exit i) s = False := (rfl)
/-- What is known at a return, with its parts named for computing. -/
def retK (kp : Bool) (b : Nat) (P : Post) (o : Option (List AV)) (h : Heap) (x : Esc) : Prop := match o with
  | some vs => match kp with
    | true =>
      let n := close x.length x (max b (oneOf vs).top)
      if closed x n then P (oneOf vs) (h.take n) (x.filter fun y => decide (y.1 < n)) else P (oneOf vs) h x
    | false => match reif b h (oneOf vs) with
      | some v0 =>
        let n := close x.length x (max b v0.top)
        if closed x n then match reif n h (oneOf vs) with
          | some v => v.top ≤ n ∧ P v (h.take n) (x.filter fun y => decide (y.1 < n))
          | none => False
        else P (oneOf vs) h x
      | none => False
  | none => False
theorem finR_normal {rs : List ARes} {kp : Bool} {b : Nat} {P : Post} {e : List (Nat × AV)} {h : Heap} {x : Esc} : finR rs kp b P .normal ⟨e, h, x⟩ = retK kp b P (aresAll ⟨e, h, x⟩ rs) h x := (rfl)
theorem finR_ret {rs : List ARes} {kp : Bool} {b : Nat} {P : Post} {e : List (Nat × AV)} {h : Heap} {x : Esc} : finR rs kp b P .ret ⟨e, h, x⟩ = retK kp b P (aresAll ⟨e, h, x⟩ rs) h x := (rfl)
theorem finR_congr {rs : List ARes} {kp : Bool} {b : Nat} {P : Post} {ex ex' : Ex} {s s' : St} (he : ex = ex') (hs : s = s') : finR rs kp b P ex s = finR rs kp b P ex' s' := by rw [he, hs]
/-- Nothing of the call's own is named by the result. -/
theorem retK_pure {b : Nat} {P : Post} {vs : List AV} {h : Heap} (ht : (oneOf vs).top ≤ b) (hr : ∀ b, reif b h (oneOf vs) = some (oneOf vs)) : retK false b P (some vs) h [] = P (oneOf vs) (h.take b) [] := by
  simp only [retK, hr, close, List.length_nil, closed, List.all_nil, if_true, List.filter_nil, Nat.max_eq_left ht, ht, true_and]

theorem reif_p {b : Nat} {h : Heap} {v : PV} : reif b h (.p v) = some (.p v) := (rfl)
theorem reifs_nil {b : Nat} {h : Heap} : reifs b h [] = some [] := (rfl)
theorem reifs_p {b : Nat} {h : Heap} {v : PV} {r : List AV} : reifs b h (.p v :: r) = (reifs b h r).map (.p v :: ·) := (rfl)
theorem retK_1 {b : Nat} {P : Post} {v : PV} {h : Heap} : retK false b P (some [.p v]) h [] = P (.p v) (h.take b) [] := retK_pure (Nat.zero_le _) (fun _ => rfl)
theorem retK_2 {b : Nat} {P : Post} {v u : PV} {h : Heap} : retK false b P (some [.p v, .p u]) h [] = P (.tup [.p v, .p u]) (h.take b) [] := retK_pure (by simp [oneOf, AV.top, AV.tops]) (fun _ => rfl)
theorem retK_3 {b : Nat} {P : Post} {v u w : PV} {h : Heap} : retK false b P (some [.p v, .p u, .p w]) h [] = P (.tup [.p v, .p u, .p w]) (h.take b) [] := retK_pure (by simp [oneOf, AV.top, AV.tops]) (fun _ => rfl)
theorem retK_4 {b : Nat} {P : Post} {v u w z : PV} {h : Heap} : retK false b P (some [.p v, .p u, .p w, .p z]) h [] = P (.tup [.p v, .p u, .p w, .p z]) (h.take b) [] := retK_pure (by simp [oneOf, AV.top, AV.tops]) (fun _ => rfl)
theorem retK_0 {b : Nat} {P : Post} {h : Heap} : retK false b P (some []) h [] = P (.tup []) (h.take b) [] := retK_pure (by simp [oneOf, AV.top, AV.tops]) (fun _ => rfl)
theorem take_len {h : Heap} : h.take h.length = h := List.take_length
theorem oneOf_1 {v : AV} : oneOf [v] = v := (rfl)

theorem step_val {X : Ctx} {f : Nat} {F : AFun} {a as : List AV} {h h1 : Heap} {P : Post} (hf : X.fn f = some F) (hr : F.byref = false) (hp : puras h a = some (as, h1)) (hl : as.length = F.nparams) :
    ACall X f a h P = AW (ACall X) X.gl F.body ⟨enter as, h1, []⟩ (finR F.results F.keep h.length P) := by
  rw [Step_fn hf, abody_val hr hp hl, finK_R]
theorem step_ref {X : Ctx} {f : Nat} {F : AFun} {as : List AV} {h : Heap} {P : Post} (hf : X.fn f = some F) (hr : F.byref = true) (hl : as.length = F.nparams) :
    ACall X f as h P = AW (ACall X) X.gl F.body ⟨enter as, h, []⟩ (finR F.results F.keep h.length P) := by
  rw [Step_fn hf, abody_ref hr hl, finK_R]

/-- A contract with one result. -/
theorem rule {X : Ctx} {f : Nat} {a : List AV} {h : Heap} {v : AV} {h' : Heap} {x : Esc} {K : Post} (H : ACall X f a h fun v1 h1 x1 => v1 = v ∧ h1 = h' ∧ x1 = x) : ACall X f a h K = K v h' x := propext (ACall.eq H K)

theorem natOf_nat {k : IntKind} {n : Nat} : natOf (.p (.int k (n : Int))) = some n := by simp [natOf]
theorem natOf_lit {k : IntKind} {n : Nat} : natOf (.p (.int k (no_index (OfNat.ofNat n : Int)))) = some (OfNat.ofNat n : Nat) := natOf_nat (n := n)
theorem natOf_0 {k : IntKind} : natOf (.p (.int k 0)) = some 0 := (rfl)
theorem natOf_1 {k : IntKind} : natOf (.p (.int k 1)) = some 1 := (rfl)
theorem natOf_int {k : IntKind} {n : Int} (h : 0 ≤ n) : natOf (.p (.int k n)) = some n.toNat := by simp [natOf, h]
theorem map_get {α β : Type} (f : α → β) {l : List α} {k : Nat} (h : k < l.length) : (l.map f)[k]? = some (f l[k]) := by simp [h]

theorem win_map {α β : Type} (f : α → β) (l : List α) (a b : Nat) : win (l.map f) a b = (win l a b).map f := by simp [win, List.map_drop, List.map_take]
attribute [go_sem] eqs PV.eq1 PV.kind ne_eq not_false_eq_true not_true_eq_false Bool.and_self Bool.or_self Bool.not_eq_true
attribute [go_sem] Nat.max_le Nat.add_le_add_iff_left Option.isSome_none Option.isSome_some false_and and_false List.length_range Nat.sub_zero Nat.le_add_right
attribute [go_sem] natOf_nat natOf_0 natOf_1 natOf_lit Int.ofNat_lt Int.ofNat_le List.length_map
attribute [go_sem] finR_exit finR_normal finR_ret retK_0 retK_1 retK_2 retK_3 retK_4 take_len
  List.zipIdx_cons List.zipIdx_nil List.map_cons List.map_nil Nat.reduceAdd Nat.reduceEqDiff if_true if_false Option.map_some Option.map_none List.append_nil List.nil_append decide_eq_true_eq
/-! drawn regions: the checks, computed only where they are asked -/
def doS (C : Hd) (gl : Nat → Option PV) (q : AOp × List (Nat × AV) × AV) (h : Heap) : Prop := ADo C gl q.1 q.2.1 h q.2.2 h []
def agK (C : Hd) (gl : Nat → Option PV) (h : Heap) (dn : Done) : List Nat → Prop
  | [] => True
  | j :: r => (match dn[j]? with | some q => doS C gl q h | none => False) ∧ agK C gl h dn r
def eaK (C : Hd) (gl : Nat → Option PV) (o : AOp) (e : List (Nat × AV)) (v : AV) (hs : List Heap) : List Nat → Prop
  | [] => True
  | k :: r => (match hs[k]? with | some g => doS C gl (o, e, v) g | none => False) ∧ eaK C gl o e v hs r
theorem agK_iff {C : Hd} {gl : Nat → Option PV} {h : Heap} {dn : Done} : ∀ {l : List Nat}, agK C gl h dn l ↔ ∀ j ∈ l, ∃ q, dn[j]? = some q ∧ ADo C gl q.1 q.2.1 h q.2.2 h []
  | [] => by simp [agK]
  | j :: r => by
    simp only [agK, List.mem_cons, forall_eq_or_imp]
    rw [agK_iff (l := r)]
    refine and_congr_left (fun _ => ?_)
    cases hd : dn[j]? with
    | none => simp
    | some q => simp [doS]
theorem eaK_iff {C : Hd} {gl : Nat → Option PV} {o : AOp} {e : List (Nat × AV)} {v : AV} {hs : List Heap} : ∀ {l : List Nat}, eaK C gl o e v hs l ↔ ∀ k ∈ l, ∃ g, hs[k]? = some g ∧ ADo C gl o e g v g []
  | [] => by simp [eaK]
  | j :: r => by
    simp only [eaK, List.mem_cons, forall_eq_or_imp]
    rw [eaK_iff (l := r)]
    refine and_congr_left (fun _ => ?_)
    cases hd : hs[j]? with
    | none => simp
    | some q => simp [doS]
def effK (b : Bool) (h h' : Heap) (y : Esc) : Prop := match b with
  | true => True
  | false => h' = h ∧ y = []
theorem drawK_all {C : Hd} {gl : Nat → Option PV} {e : List (Nat × AV)} {h : Heap} {x : Esc} {L : List (Nat × AV) → Heap → Esc → Prop} {op : AOp} {rd early again : List Nat} {eff : Bool} {r : List DOp} {dn : Done} {hs : List Heap} {v : AV} {h' : Heap} {y : Esc} :
    drawK C gl ⟨op, rd, eff, early, again⟩ r dn hs e h x L v h' y = (effK eff h h' y ∧ eaK C gl op (prune (some rd) e) v hs early ∧ agK C gl h' dn again ∧ ADraw C gl r (dn ++ [(op, prune (some rd) e, v)]) (hs ++ [h]) (put op.dst v e) h' (y ++ x) L) := by
  rw [drawK_eq, ← propext eaK_iff, ← propext agK_iff]
  cases eff <;> simp [effK]
theorem effK_true {h h' : Heap} {y : Esc} : effK true h h' y = True := (rfl)
theorem effK_same {h : Heap} : effK false h h [] = True := by simp [effK]
theorem agK_nil {C : Hd} {gl : Nat → Option PV} {h : Heap} {dn : Done} : agK C gl h dn [] = True := (rfl)
theorem agK_cons {C : Hd} {gl : Nat → Option PV} {h : Heap} {dn : Done} {j : Nat} {r : List Nat} : agK C gl h dn (j :: r) = ((match dn[j]? with | some q => doS C gl q h | none => False) ∧ agK C gl h dn r) := (rfl)
theorem eaK_nil {C : Hd} {gl : Nat → Option PV} {o : AOp} {e : List (Nat × AV)} {v : AV} {hs : List Heap} : eaK C gl o e v hs [] = True := (rfl)
theorem eaK_cons {C : Hd} {gl : Nat → Option PV} {o : AOp} {e : List (Nat × AV)} {v : AV} {hs : List Heap} {j : Nat} {r : List Nat} : eaK C gl o e v hs (j :: r) = ((match hs[j]? with | some g => doS C gl (o, e, v) g | none => False) ∧ eaK C gl o e v hs r) := (rfl)
theorem doS_mk {C : Hd} {gl : Nat → Option PV} {d : Option Nat} {g : Option (Nat × Bool)} {op : AO} {e : List (Nat × AV)} {v : AV} {h : Heap} : doS C gl (⟨d, g, op⟩, e, v) h = doK C gl ⟨d, g, op⟩ e h (fun v1 h1 x1 => v1 = v ∧ h1 = h ∧ x1 = []) := by
  unfold doS doK
  refine propext ⟨fun H => ⟨_, _, _, H, rfl, rfl, rfl⟩, fun ⟨v1, h1, x1, H, a, b, c⟩ => by subst a; subst b; subst c; exact H⟩
theorem condB_dec {p : Prop} [Decidable p] {A B : Prop} : condB (.p (.bool (decide p))) A B = if p then A else B := by rw [condB_bool]; simp
theorem wantK_dec {p : Prop} [Decidable p] {b : Bool} {A B : Prop} : wantK (.p (.bool (decide p))) b A B = if p then bif b then A else B else bif b then B else A := by
  by_cases hp : p <;> cases b <;> simp [wantK, hp]
theorem wantK_lit {t b : Bool} {A B : Prop} : wantK (.p (.bool t)) b A B = bif t == b then A else B := by cases t <;> cases b <;> rfl
/-! calls of function values -/
def callvK (C : Hd) (v : AV) (as : List AV) (h : Heap) (L : Post) : Prop := match v with
  | .fn g caps => C g (as ++ caps) h L
  | _ => False
theorem AReg_callvK {C : Hd} {gl : Nat → Option PV} {e : List (Nat × AV)} {h : Heap} {x : Esc} {L : List (Nat × AV) → Heap → Esc → Prop} {d : Option Nat} {f : Opd} {args : List Opd} {r : List AOp} :
    AReg C gl (⟨d, none, .callv f args⟩ :: r) e h x L = callvK C (Opd.ev gl e f) (args.map (Opd.ev gl e)) h (contR C gl r d e x L) := by
  have h2 : wanted none e = some true := (rfl)
  rw [AReg]
  simp only [h2]
  unfold callvK
  split <;> simp_all <;> rfl
def callvE (C : Hd) (v : AV) (as : List AV) (h : Heap) (R : AV → Heap → Esc → Prop) : Prop := match v with
  | .fn g caps => callE C g (as ++ caps) h R
  | _ => False
theorem doK_callvK {C : Hd} {gl : Nat → Option PV} {e : List (Nat × AV)} {h : Heap} {R : AV → Heap → Esc → Prop} {d : Option Nat} {f : Opd} {args : List Opd} :
    doK C gl ⟨d, none, .callv f args⟩ e h R = callvE C (Opd.ev gl e f) (args.map (Opd.ev gl e)) h R := by
  have h2 : wanted none e = some true := (rfl)
  unfold doK ADo
  simp only [h2]
  unfold callvE callE
  split <;> simp_all
theorem callvK_fn {C : Hd} {g : Nat} {caps as : List AV} {h : Heap} {L : Post} : callvK C (.fn g caps) as h L = C g (as ++ caps) h L := (rfl)
theorem callvE_fn {C : Hd} {g : Nat} {caps as : List AV} {h : Heap} {R : AV → Heap → Esc → Prop} : callvE C (.fn g caps) as h R = callE C g (as ++ caps) h R := (rfl)
theorem callvK_congr {C : Hd} {v v' : AV} {as as' : List AV} {h h' : Heap} {L : Post} (h1 : v = v') (h2 : as = as') (h3 : h = h') : callvK C v as h L = callvK C v' as' h' L := by rw [h1, h2, h3]
theorem callvE_congr {C : Hd} {v v' : AV} {as as' : List AV} {h h' : Heap} {R : AV → Heap → Esc → Prop} (h1 : v = v') (h2 : as = as') (h3 : h = h') : callvE C v as h R = callvE C v' as' h' R := by rw [h1, h2, h3]
attribute [go_sem] AReg_callvK doK_callvK callvK_fn callvE_fn
attribute [congr] callvK_congr callvE_congr
theorem cutP_int {k : IntKind} {n : Int} : cutP none 0 (.int k n) = some (.int k n) := (rfl)
theorem cutP_bool {b : Bool} : cutP none 0 (.bool b) = some (.bool b) := (rfl)
theorem cutP_str {s : List UInt8} : cutP none 0 (.str s) = some (.str s) := (rfl)
theorem cutP_sl {sh : Sh} {xs : List PV} : cutP none 0 (.sl sh xs) = some (.sl sh xs) := (rfl)
theorem cutP_nilp : cutP none 0 .nilp = some .nilp := (rfl)
theorem cutP_cell {off : Nat} {cs : List PV} : cutP none off (.agg cs) = (cs[off]?).bind fun x => if x.sc then some x else none := (rfl)
theorem cutP_agg {n off : Nat} {cs : List PV} : cutP (some n) off (.agg cs) = if off + n ≤ cs.length then some (.agg ((cs.drop off).take n)) else none := (rfl)
theorem cutP_sc {v : PV} (h : v.sc = true) : cutP none 0 v = some v := by cases v <;> first | rfl | cases h
attribute [go_sem] cutP_int cutP_bool cutP_str cutP_sl cutP_nilp cutP_cell cutP_agg
theorem escOf_p {id : Nat} {v : PV} : escOf id (.p v) = [] := (rfl)
attribute [go_sem] List.take_succ_cons List.take_zero List.take_nil List.drop_succ_cons List.drop_zero List.drop_nil List.length_cons List.length_nil Nat.reduceLeDiff Nat.reduceLT Int.reduceLT Int.reduceLE Int.reduceAdd Int.reduceSub Int.reduceMul Int.reduceNeg Int.reduceEq Nat.reduceSub Nat.reduceMul Nat.le_refl List.append_assoc
theorem trunc_nil {b : Nat} {x0 : Esc} {e : List (Nat × AV)} {h : Heap} : trunc b x0 ⟨e, h, []⟩ = ⟨clean b e, h.take b, x0⟩ := (rfl)
theorem clean_nil {n : Nat} : clean n [] = [] := (rfl)
theorem clean_cons {n k : Nat} {v : AV} {r : List (Nat × AV)} : clean n ((k, v) :: r) = (k, if v.top ≤ n then v else .und) :: clean n r := (rfl)
theorem top_p {v : PV} : AV.top (.p v) = 0 := (rfl)
theorem top_own {id g o l : Nat} : AV.top (.own id g o l) = id + 1 := by simp [AV.top]
theorem top_ref {id o : Nat} : AV.top (.ref id o) = id + 1 := by simp [AV.top]
theorem top_rref {id g i o : Nat} : AV.top (.rref id g i o) = id + 1 := by simp [AV.top]
theorem top_mp {id : Nat} : AV.top (.mp id) = id + 1 := by simp [AV.top]
theorem top_it {id : Nat} : AV.top (.it id) = id + 1 := by simp [AV.top]
theorem top_fn {f : Nat} {cs : List AV} : AV.top (.fn f cs) = AV.tops cs := by simp [AV.top]
theorem top_agg {cs : List AV} : AV.top (.agg cs) = AV.tops cs := by simp [AV.top]
theorem top_tup {cs : List AV} : AV.top (.tup cs) = AV.tops cs := by simp [AV.top]
theorem top_vp {v : PV} : AV.top (.vp v) = 0 := (rfl)
theorem top_und : AV.top .und = 0 := (rfl)
theorem top_skp : AV.top .skp = 0 := (rfl)
theorem top_sl0 {sh : Sh} : AV.top (.sl0 sh) = 0 := (rfl)
theorem top_nilp : AV.top .nilp = 0 := (rfl)
theorem top_nilm : AV.top .nilm = 0 := (rfl)
theorem top_nilf : AV.top .nilf = 0 := (rfl)
theorem top_nili : AV.top .nili = 0 := (rfl)
theorem top_ifc : AV.top .ifc = 0 := (rfl)
theorem tops_nil : AV.tops [] = 0 := (rfl)
theorem tops_cons {v : AV} {r : List AV} : AV.tops (v :: r) = max v.top (AV.tops r) := by simp [AV.tops]
theorem retK_any {b : Nat} {P : Post} {vs : List AV} {h : Heap} : retK false b P (some vs) h [] = match reif b h (oneOf vs) with
    | some v0 => match reif (max b v0.top) h (oneOf vs) with
      | some v => v.top ≤ max b v0.top ∧ P v (h.take (max b v0.top)) []
      | none => False
    | none => False := by
  simp only [retK, close, List.length_nil, closed, List.all_nil, if_true, List.filter_nil]
theorem reif_own {b : Nat} {h : Heap} {id g off len : Nat} : reif b h (.own id g off len) = if b ≤ id then (rd h (.own id g off len)).map fun y => .p (.sl y.1 y.2) else some (.own id g off len) := by simp only [reif]
theorem reif_sl0 {b : Nat} {h : Heap} {sh : Sh} : reif b h (.sl0 sh) = some (.p (.sl sh [])) := by simp only [reif]
theorem reif_agg {b : Nat} {h : Heap} {cs : List AV} : reif b h (.agg cs) = (reifs b h cs).map mkA := by simp only [reif]
theorem reif_tup {b : Nat} {h : Heap} {cs : List AV} : reif b h (.tup cs) = (reifs b h cs).map .tup := by simp only [reif]
theorem reif_ref {b : Nat} {h : Heap} {id o : Nat} : reif b h (.ref id o) = some (.ref id o) := by simp only [reif]
theorem reif_mp {b : Nat} {h : Heap} {id : Nat} : reif b h (.mp id) = some (.mp id) := by simp only [reif]
theorem reif_fn {b f : Nat} {h : Heap} {cs : List AV} : reif b h (.fn f cs) = some (.fn f cs) := by simp only [reif]
theorem reifs_cons {b : Nat} {h : Heap} {v : AV} {r : List AV} : reifs b h (v :: r) = (match reif b h v with | some x => (reifs b h r).map (x :: ·) | none => none) := by rw [reifs]; cases reif b h v <;> rfl
theorem oneOf_2 {v u : AV} {r : List AV} : oneOf (v :: u :: r) = .tup (v :: u :: r) := (rfl)
theorem oneOf_0 : oneOf [] = .tup [] := (rfl)
theorem rd_row {h : Heap} {id off len fz : Nat} {sh : Sh} {xs : List PV} (hr : h[id]? = some (.row sh xs fz)) (hl : off + len ≤ xs.length) : rd h (.own id xs.length off len) = some (sh, win xs off len) := by
  simp [rd, hr, hl]
theorem set_app {h l : Heap} {id : Nat} {o : Obj} (hid : id < h.length) : (h ++ l).set id o = h.set id o ++ l := List.set_append_left _ _ hid
theorem get_app {h l : Heap} {id : Nat} (hid : id < h.length) : (h ++ l)[id]? = h[id]? := List.getElem?_append_left hid
theorem sapp_get {h l : Heap} {i n : Nat} {o : Obj} : (h.set i o ++ l)[h.length + n]? = l[n]? := by
  have := app_get (h.set i o) l n; rwa [List.length_set] at this
theorem sapp_get0 {h l : Heap} {i : Nat} {o : Obj} : (h.set i o ++ l)[h.length]? = l[0]? := sapp_get (n := 0)
theorem sapp_set {h l : Heap} {i n : Nat} {o q : Obj} : (h.set i o ++ l).set (h.length + n) q = h.set i o ++ l.set n q := by
  have := app_set (h.set i o) l n q; rwa [List.length_set] at this
theorem sapp_set0 {h l : Heap} {i : Nat} {o q : Obj} : (h.set i o ++ l).set h.length q = h.set i o ++ l.set 0 q := sapp_set (n := 0)
theorem sapp_take {h l : Heap} {i n : Nat} {o : Obj} : (h.set i o ++ l).take (h.length + n) = h.set i o ++ l.take n := by
  have := app_take (h.set i o) l n; rwa [List.length_set] at this
theorem sapp_take0 {h l : Heap} {i : Nat} {o : Obj} : (h.set i o ++ l).take h.length = h.set i o := by
  have := app_take0 (h.set i o) l; rwa [List.length_set] at this
theorem sapp_frz {h l : Heap} {i n k : Nat} {o : Obj} : frz (h.set i o ++ l) (h.length + n) k = h.set i o ++ frz l n k := by
  have := app_frz (h.set i o) l n k; rwa [List.length_set] at this
theorem sapp_frz0 {h l : Heap} {i k : Nat} {o : Obj} : frz (h.set i o ++ l) h.length k = h.set i o ++ frz l 0 k := sapp_frz (n := 0)
theorem win_full {α : Type} {l : List α} {n : Nat} (h : l.length = n) : win l 0 n = l := by subst h; simp [win]
theorem win_all {α : Type} (l : List α) : win l 0 l.length = l := by simp [win]
attribute [go_sem] trunc_nil clean_nil clean_cons top_p top_own top_ref top_rref top_mp top_it top_fn top_agg top_tup top_vp top_und top_skp top_sl0 top_nilp top_nilm top_nilf top_nili top_ifc tops_nil tops_cons Nat.max_zero Nat.zero_max Nat.zero_le
  reif_p reif_own reif_sl0 reif_agg reif_tup reif_ref reif_mp reif_fn reifs_nil reifs_cons oneOf_2 oneOf_0 app_get app_get0 app_set app_set0 app_take app_take0 app_frz app_frz0 sapp_get sapp_get0 sapp_set sapp_set0 sapp_take sapp_take0 sapp_frz sapp_frz0
  List.length_append win_all Nat.add_le_add_iff_right Nat.zero_add Nat.add_zero
attribute [go_sem] fillP PV.shp List.reduceReplicate cond_true cond_false Bool.not_true Bool.not_false Bool.false_eq_true Bool.true_and Bool.and_true Bool.false_and Bool.and_false Bool.true_or Bool.or_true Bool.false_or Bool.or_false beq_self_eq_true List.all_cons List.all_nil
attribute [go_sem low] retK_any
theorem take_set_len {h : Heap} {id : Nat} {o : Obj} : (h.set id o).take h.length = h.set id o := List.take_of_length_le (by simp)
attribute [go_sem] take_set_len Int.natCast_zero Int.natCast_one Int.cast_ofNat_Int
attribute [go_sem] aun aconv amax2 amin2 List.foldlM_cons List.foldlM_nil Option.bind_some Option.pure_def Option.bind_eq_bind List.cons_append List.nil_append Int.zero_sub List.length_singleton
attribute [go_sem] contR_eq shSize escOf_p
attribute [congr] contR_congr
attribute [go_sem] AW_draw ADraw_nil ADraw_cons doK_mv doK_pick doK_alloc doK_box doK_build doK_bsl doK_load doK_store doK_nilchk doK_bin doK_eqa doK_isnil doK_mkif doK_un doK_conv doK_mkfn doK_mkmap doK_mksl doK_slice doK_slstr doK_faddr doK_field doK_iaddr doK_iaddra doK_idxa doK_idxs doK_look doK_mupd doK_ment doK_estore doK_mdel doK_ext doK_len doK_lens doK_lenm doK_app doK_copy doK_mx doK_mn doK_mrange doK_mentry doK_new0 doK_call doK_guard callE ex3' drawK_all effK_true effK_same agK_nil agK_cons eaK_nil eaK_cons doS_mk
  List.not_mem_nil List.mem_cons List.mem_singleton forall_eq_or_imp forall_eq false_implies true_implies implies_true forall_const and_true true_and List.cons_append and_self reduceCtorEq List.getElem?_cons_zero List.getElem?_cons_succ Option.some.injEq exists_eq_left' List.set_cons_zero List.set_cons_succ List.set_set List.length_set
attribute [congr] doK_congr callE_congr ADraw_congr ACall_congr
attribute [congr] finR_congr
attribute [go_sem] LoopP_eq LoopS_eq
attribute [go_sem] AW_skip AW_ret AW_exit AW_bad AW_reg AW_seq AW_cond AW_block AW_scope AW_pr regK_eq seqK_normal seqK_exit seqK_ret blockK_normal blockK_exit blockK_ret scopeK_eq
  AReg_nil AReg_mv AReg_pick AReg_alloc AReg_box AReg_build AReg_bsl AReg_load AReg_store AReg_nilchk AReg_bin AReg_eqa AReg_isnil AReg_mkif AReg_un AReg_conv AReg_mkfn AReg_mkmap AReg_mksl AReg_slice AReg_slstr
  AReg_faddr AReg_field AReg_iaddr AReg_iaddra AReg_idxa AReg_idxs AReg_look AReg_mupd AReg_ment AReg_estore AReg_mdel AReg_ext AReg_len AReg_lens AReg_lenm AReg_app AReg_copy AReg_mx AReg_mn AReg_mrange AReg_mentry AReg_new0 AReg_guard AReg_call
  optK_some optK_none optK_ite optK_map_ite condB_true condB_false condB_dec wantK_skp decide_true decide_false loopK_normal loopK_exit loopK_ret
  aop Opd.ev aget put prune abin aint astr aresAll ares oneOf_1 enter rd rds pur purs puras mkA unp cut AV.cells PV.cells PV.sc AV.sc splice pint pbool fillA
attribute [go_sem low] condB_bool wantK_true wantK_false
theorem wantK_tt {A B : Prop} : wantK (.p (.bool true)) true A B = A := (rfl)
theorem wantK_ff {A B : Prop} : wantK (.p (.bool false)) false A B = A := (rfl)
theorem wantK_tf {A B : Prop} : wantK (.p (.bool true)) false A B = B := (rfl)
theorem wantK_ft {A B : Prop} : wantK (.p (.bool false)) true A B = B := (rfl)
attribute [go_sem] wantK_tt wantK_ff wantK_tf wantK_ft
attribute [congr] condB_congr wantK_congr optK_congr AReg_congr AW_congr regK_congr seqK_congr blockK_congr scopeK_congr loopK_congr

end Go.Am
