/- The abstract machine, part 3: what it means that code, that a call ends well, whatever is left open (AW, ACall). -/
import Derived.Test.YtajhbehiecgflaaAm2
namespace Go.Am

/-- What a caller asks of a call: function, arguments, heap, what is to hold of the result, the heap behind it and the new references. -/
abbrev Post := AV → Heap → Esc → Prop
abbrev Hd := Nat → List AV → Heap → Post → Prop

structure Ctx where
  fn : Nat → Option AFun
  gl : Nat → Option PV
  ext : Nat → List PV → Option PV

inductive Ex where
  | normal
  | exit (id : Nat)
  | ret

def put (d : Option Nat) (v : AV) (e : List (Nat × AV)) : List (Nat × AV) := match d with
  | some d => (d, v) :: e
  | none => e

/-- Is a guarded operation carried out? (none: not known.) -/
def wanted (g : Option (Nat × Bool)) (e : List (Nat × AV)) : Option Bool := match g with
  | none => some true
  | some (t, b) => match aget e t with
    | .p (.bool c) => some (c == b)
    | .skp => some false
    | _ => none

def AReg (C : Hd) (gl : Nat → Option PV) : List AOp → List (Nat × AV) → Heap → Esc → (List (Nat × AV) → Heap → Esc → Prop) → Prop
  | [], e, h, x, K => K e h x
  | o :: r, e, h, x, K => match wanted o.guard e with
    | some true => match o.op with
      | .call f args => C f (args.map (Opd.ev gl e)) h fun v h' x' => AReg C gl r (put o.dst v e) h' (x' ++ x) K
      | .callv f args => match Opd.ev gl e f with
        | .fn g caps => C g (args.map (Opd.ev gl e) ++ caps) h fun v h' x' => AReg C gl r (put o.dst v e) h' (x' ++ x) K
        | _ => False
      | .mnext i => match mnexts h (Opd.ev gl e i) with
        | some l => l ≠ [] ∧ ∀ y ∈ l, AReg C gl r (put o.dst y.1 e) y.2 x K
        | none => False
      | op => match aop op (Opd.ev gl e) h with
        | some (v, h', x') => AReg C gl r (put o.dst v e) h' (x' ++ x) K
        | none => False
    | some false => AReg C gl r (put o.dst .skp e) h x K
    | none => False

def prune (keep : Option (List Nat)) (e : List (Nat × AV)) : List (Nat × AV) := match keep with
  | none => e
  | some l => l.map fun t => (t, aget e t)

/-- One operation, with what it yields named. -/
def ADo (C : Hd) (gl : Nat → Option PV) (o : AOp) (e : List (Nat × AV)) (h : Heap) (v : AV) (h' : Heap) (x : Esc) : Prop := match wanted o.guard e with
  | some true => match o.op with
    | .call f args => C f (args.map (Opd.ev gl e)) h fun v1 h1 x1 => v1 = v ∧ h1 = h' ∧ x1 = x
    | .callv f args => match Opd.ev gl e f with
      | .fn g caps => C g (args.map (Opd.ev gl e) ++ caps) h fun v1 h1 x1 => v1 = v ∧ h1 = h' ∧ x1 = x
      | _ => False
    | .mnext _ => False
    | op => aop op (Opd.ev gl e) h = some (v, h', x)
  | some false => v = .skp ∧ h' = h ∧ x = []
  | none => False

abbrev Done := List (AOp × List (Nat × AV) × AV)

/-- A region whose order is left open: run in one order, and every operation that leaves the heap alone yields the same wherever else it may be met. -/
def ADraw (C : Hd) (gl : Nat → Option PV) : List DOp → Done → List Heap → List (Nat × AV) → Heap → Esc → (List (Nat × AV) → Heap → Esc → Prop) → Prop
  | [], _, _, e, h, x, K => K e h x
  | o :: r, dn, hs, e, h, x, K => ∃ v h' y, ADo C gl o.op (prune (some o.rd) e) h v h' y ∧ (o.eff = false → h' = h ∧ y = []) ∧ (∀ k ∈ o.early, ∃ g, hs[k]? = some g ∧ ADo C gl o.op (prune (some o.rd) e) g v g []) ∧
      (∀ j ∈ o.again, ∃ q, dn[j]? = some q ∧ ADo C gl q.1 q.2.1 h' q.2.2 h' []) ∧ ADraw C gl r (dn ++ [(o.op, prune (some o.rd) e, v)]) (hs ++ [h]) (put o.op.dst v e) h' (y ++ x) K

def bump (x : Esc) (n : Nat) : Nat := x.foldl (fun m y => if y.1 < m then max m y.2 else m) n
def close : Nat → Esc → Nat → Nat
  | 0, _, n => n
  | k + 1, x, n => close k x (bump x n)
def closed (x : Esc) (n : Nat) : Bool := x.all fun y => decide (n ≤ y.1) || decide (y.2 ≤ n)

def clean (n : Nat) (e : List (Nat × AV)) : List (Nat × AV) := e.map fun y => (y.1, if y.2.top ≤ n then y.2 else .und)

/-- Behind a scope: what it made, and nothing that stays names any more, is gone. -/
def trunc (b : Nat) (x0 : Esc) (s : St) : St :=
  let n := close s.esc.length s.esc b
  if closed s.esc n then ⟨clean n s.env, s.h.take n, s.esc.filter (fun y => decide (y.1 < n)) ++ x0⟩ else ⟨s.env, s.h, s.esc ++ x0⟩

inductive ALoop (T : St → (Ex → St → Prop) → Prop) (K : Ex → St → Prop) : St → Prop where
  | mk (s : St) (R : Ex → St → Prop) (h : T s R) (hn : ∀ s', R .normal s' → ALoop T K s') (he : ∀ i s', R (.exit i) s' → K (.exit i) s') (hr : ∀ s', R .ret s' → K .ret s') : ALoop T K s

def AW (C : Hd) (gl : Nat → Option PV) : ACode → St → (Ex → St → Prop) → Prop
  | .skip, s, K => K .normal s
  | .reg ops keep, s, K => AReg C gl ops s.env s.h s.esc fun e h x => K .normal ⟨prune keep e, h, x⟩
  | .draw ds keep, s, K => ADraw C gl ds [] [] s.env s.h s.esc fun e h x => K .normal ⟨prune keep e, h, x⟩
  | .seq a b, s, K => AW C gl a s fun e s' => match e with
    | .normal => AW C gl b s' K
    | .exit i => K (.exit i) s'
    | .ret => K .ret s'
  | .cond c a b, s, K => match Opd.ev gl s.env c with
    | .p (.bool t) => match t with
      | true => AW C gl a s K
      | false => AW C gl b s K
    | _ => False
  | .block id b, s, K => AW C gl b s fun e s' => match e with
    | .normal => K .normal s'
    | .exit i => if i = id then K .normal s' else K (.exit i) s'
    | .ret => K .ret s'
  | .loop b, s, K => ALoop (AW C gl b) K s
  | .scope b, s, K => AW C gl b ⟨s.env, s.h, []⟩ fun e s' => K e (trunc s.h.length s.esc s')
  | .pr l b, s, K => AW C gl b ⟨prune (some l) s.env, s.h, s.esc⟩ K
  | .exit id, s, K => K (.exit id) s
  | .ret, s, K => K .ret s
  | .bad, _, _ => False

mutual
def reif (b : Nat) (h : Heap) : AV → Option AV
  | .own id g off len => if b ≤ id then (rd h (.own id g off len)).map fun y => .p (.sl y.1 y.2) else some (.own id g off len)
  | .sl0 sh => some (.p (.sl sh []))
  | .agg cs => (reifs b h cs).map mkA
  | .tup vs => (reifs b h vs).map .tup
  | v => some v
def reifs (b : Nat) (h : Heap) : List AV → Option (List AV)
  | [] => some []
  | v :: r => match reif b h v with
    | some x => (reifs b h r).map (x :: ·)
    | none => none
end

def ares (s : St) : ARes → Option AV
  | .t n => some (aget s.env n)
  | .cell a sh => match aget s.env a with
    | .ref id off => match s.h[id]? with
      | some (.box cs) => cut sh off cs
      | _ => none
    | _ => none

def aresAll (s : St) : List ARes → Option (List AV)
  | [] => some []
  | r :: rs => match ares s r with
    | some v => (aresAll s rs).map (v :: ·)
    | none => none

def oneOf : List AV → AV
  | [v] => v
  | vs => .tup vs

/-- At a return. -/
def fin (F : AFun) (b : Nat) (s : St) (K : Post) : Prop := match aresAll s F.results with
  | some vs => match F.keep with
    | true =>
      let n := close s.esc.length s.esc (max b (oneOf vs).top)
      if closed s.esc n then K (oneOf vs) (s.h.take n) (s.esc.filter fun y => decide (y.1 < n)) else K (oneOf vs) s.h s.esc
    | false => match reif b s.h (oneOf vs) with
      | some v0 =>
        let n := close s.esc.length s.esc (max b v0.top)
        if closed s.esc n then match reif n s.h (oneOf vs) with
          | some v => v.top ≤ n ∧ K v (s.h.take n) (s.esc.filter fun y => decide (y.1 < n))
          | none => False
        else K (oneOf vs) s.h s.esc
      | none => False
  | none => False

/-- Arguments as a callee gets them that only reads: rows of the caller's own are frozen and come as lists. -/
def puras (h : Heap) : List AV → Option (List AV × Heap)
  | [] => some ([], h)
  | v :: r => match v with
    | .own id g off len => match rd h (.own id g off len) with
      | some z => (puras (frz h id (off + len)) r).map fun y => (.p (.sl z.1 z.2) :: y.1, y.2)
      | none => none
    | .agg cs => match pur h (.agg cs) with
      | some (x, h1) => (puras h1 r).map fun y => (.p x :: y.1, y.2)
      | none => none
    | .sl0 sh => (puras h r).map fun y => (.p (.sl sh []) :: y.1, y.2)
    | v => (puras h r).map fun y => (v :: y.1, y.2)

def enter (args : List AV) : List (Nat × AV) := (args.zipIdx).map fun y => (y.2, y.1)

def abody (C : Hd) (gl : Nat → Option PV) (F : AFun) (args : List AV) (h : Heap) (K : Post) : Prop :=
  match (if F.byref then some (args, h) else puras h args) with
  | some (as, h1) => as.length = F.nparams ∧ AW C gl F.body ⟨enter as, h1, []⟩ fun e s => match e with
    | .exit _ => False
    | _ => fin F h.length s K
  | none => False

def Step (X : Ctx) (C : Hd) : Hd := fun f args h K => match X.fn f with
  | some F => abody C X.gl F args h K
  | none => match puras h args with
    | some (as, h1) => match unp as with
      | some vs => match X.ext f vs with
        | some r => K (.p r) h1 []
        | none => False
      | none => False
    | none => False

def Hd.Mono (C : Hd) : Prop := ∀ f a h K K', (∀ v h' x, K v h' x → K' v h' x) → C f a h K → C f a h K'

def ACall (X : Ctx) : Hd := fun f a h K => ∀ C : Hd, C.Mono → (∀ f a h K, Step X C f a h K → C f a h K) → C f a h K

/-! ### laws -/

theorem AReg_mono {C C' : Hd} {gl : Nat → Option PV} (hC : ∀ f a h K K', (∀ v h' x, K v h' x → K' v h' x) → C f a h K → C' f a h K') :
    ∀ (ops : List AOp) e h x K K', (∀ e h x, K e h x → K' e h x) → AReg C gl ops e h x K → AReg C' gl ops e h x K'
  | [], e, h, x, K, K', hK, H => hK _ _ _ H
  | o :: r, e, h, x, K, K', hK, H => by
    unfold AReg at H ⊢
    split at H
    · split at H
      · exact hC _ _ _ _ _ (fun v h' x' H' => AReg_mono hC r _ _ _ K K' hK H') H
      · split at H
        · exact hC _ _ _ _ _ (fun v h' x' H' => AReg_mono hC r _ _ _ K K' hK H') H
        · exact H.elim
      · split at H
        · exact ⟨H.1, fun y hy => AReg_mono hC r _ _ _ K K' hK (H.2 y hy)⟩
        · exact H.elim
      · split at H
        · exact AReg_mono hC r _ _ _ K K' hK H
        · exact H.elim
    · exact AReg_mono hC r _ _ _ K K' hK H
    · exact H.elim

theorem ADo_mono {C C' : Hd} {gl : Nat → Option PV} (hC : ∀ f a h K K', (∀ v h' x, K v h' x → K' v h' x) → C f a h K → C' f a h K') {o : AOp} {e : List (Nat × AV)} {h h' : Heap} {v : AV} {x : Esc}
    (H : ADo C gl o e h v h' x) : ADo C' gl o e h v h' x := by
  unfold ADo at H ⊢
  split at H
  · split at H
    · exact hC _ _ _ _ _ (fun _ _ _ h => h) H
    · split at H
      · exact hC _ _ _ _ _ (fun _ _ _ h => h) H
      · exact H.elim
    · exact H.elim
    · exact H
  · exact H
  · exact H.elim

theorem ADraw_mono {C C' : Hd} {gl : Nat → Option PV} (hC : ∀ f a h K K', (∀ v h' x, K v h' x → K' v h' x) → C f a h K → C' f a h K') :
    ∀ (ds : List DOp) dn hs e h x K K', (∀ e h x, K e h x → K' e h x) → ADraw C gl ds dn hs e h x K → ADraw C' gl ds dn hs e h x K'
  | [], dn, hs, e, h, x, K, K', hK, H => hK _ _ _ H
  | o :: r, dn, hs, e, h, x, K, K', hK, H => by
    obtain ⟨v, h', y, h1, h2, h3, h4, h5⟩ := H
    exact ⟨v, h', y, ADo_mono hC h1, h2, fun k hk => by obtain ⟨g, q1, q2⟩ := h3 k hk; exact ⟨g, q1, ADo_mono hC q2⟩, fun j hj => by obtain ⟨q, q1, q2⟩ := h4 j hj; exact ⟨q, q1, ADo_mono hC q2⟩,
      ADraw_mono hC r _ _ _ _ _ K K' hK h5⟩

theorem ALoop.mono {T T' : St → (Ex → St → Prop) → Prop} {K K' : Ex → St → Prop} (hT : ∀ s R, T s R → T' s R) (hK : ∀ e s, K e s → K' e s) {s : St} (H : ALoop T K s) : ALoop T' K' s := by
  induction H with
  | mk s R h hn he hr ih => exact .mk s R (hT _ _ h) ih (fun i s' h => hK _ _ (he i s' h)) (fun s' h => hK _ _ (hr s' h))

theorem AW_mono {C C' : Hd} {gl : Nat → Option PV} (hC : ∀ f a h K K', (∀ v h' x, K v h' x → K' v h' x) → C f a h K → C' f a h K') :
    ∀ (c : ACode) s K K', (∀ e s, K e s → K' e s) → AW C gl c s K → AW C' gl c s K'
  | .skip, s, K, K', hK, H => hK _ _ H
  | .reg ops keep, s, K, K', hK, H => AReg_mono hC ops _ _ _ _ _ (fun _ _ _ h => hK _ _ h) H
  | .draw ds keep, s, K, K', hK, H => ADraw_mono hC ds _ _ _ _ _ _ _ (fun _ _ _ h => hK _ _ h) H
  | .seq a b, s, K, K', hK, H => AW_mono hC a s _ _ (fun e s' h => by
      cases e
      · exact AW_mono hC b s' K K' hK h
      · exact hK _ _ h
      · exact hK _ _ h) H
  | .cond c a b, s, K, K', hK, H => by
    unfold AW at H ⊢
    split at H
    · split at H
      · exact AW_mono hC a s K K' hK H
      · exact AW_mono hC b s K K' hK H
    · exact H.elim
  | .block id b, s, K, K', hK, H => AW_mono hC b s _ _ (fun e s' h => by
      cases e
      · exact hK _ _ h
      · dsimp only at h ⊢; split at h
        · rw [if_pos ‹_›]; exact hK _ _ h
        · rw [if_neg ‹_›]; exact hK _ _ h
      · exact hK _ _ h) H
  | .loop b, s, K, K', hK, H => ALoop.mono (fun s R h => AW_mono hC b s R R (fun _ _ h => h) h) hK H
  | .scope b, s, K, K', hK, H => AW_mono hC b _ _ _ (fun e s' h => hK _ _ h) H
  | .pr l b, s, K, K', hK, H => AW_mono hC b _ K K' hK H
  | .exit id, s, K, K', hK, H => hK _ _ H
  | .ret, s, K, K', hK, H => hK _ _ H
  | .bad, s, K, K', hK, H => H.elim

theorem fin_mono {F : AFun} {b : Nat} {s : St} {K K' : Post} (hK : ∀ v h x, K v h x → K' v h x) (H : fin F b s K) : fin F b s K' := by
  unfold fin at H ⊢
  split at H
  · split at H
    · dsimp only at H ⊢
      split at H
      · rw [if_pos ‹_›]; exact hK _ _ _ H
      · rw [if_neg ‹_›]; exact hK _ _ _ H
    · split at H
      · dsimp only at H ⊢
        split at H
        · rw [if_pos ‹_›]
          split at H
          · exact ⟨H.1, hK _ _ _ H.2⟩
          · exact H.elim
        · rw [if_neg ‹_›]; exact hK _ _ _ H
      · exact H.elim
  · exact H.elim

theorem abody_mono {C C' : Hd} {gl : Nat → Option PV} (hC : ∀ f a h K K', (∀ v h' x, K v h' x → K' v h' x) → C f a h K → C' f a h K') {F : AFun} {a : List AV} {h : Heap} {K K' : Post}
    (hK : ∀ v h x, K v h x → K' v h x) (H : abody C gl F a h K) : abody C' gl F a h K' := by
  unfold abody at H ⊢
  split at H
  · refine ⟨H.1, AW_mono hC _ _ _ _ (fun e s h => ?_) H.2⟩
    cases e
    · exact fin_mono hK h
    · exact h.elim
    · exact fin_mono hK h
  · exact H.elim

theorem Step_mono {X : Ctx} {C C' : Hd} (hC : ∀ f a h K K', (∀ v h' x, K v h' x → K' v h' x) → C f a h K → C' f a h K') {f : Nat} {a : List AV} {h : Heap} {K K' : Post}
    (hK : ∀ v h x, K v h x → K' v h x) (H : Step X C f a h K) : Step X C' f a h K' := by
  unfold Step at H ⊢
  split at H
  · exact abody_mono hC hK H
  · split at H
    · split at H
      · split at H
        · exact hK _ _ _ H
        · exact H.elim
      · exact H.elim
    · exact H.elim

theorem ACall.mono (X : Ctx) : (ACall X).Mono := fun f a h K K' hK H => by
  intro C hM hS
  exact hM _ _ _ _ _ hK (H C hM hS)

theorem ACall.fold {X : Ctx} {f : Nat} {a : List AV} {h : Heap} {K : Post} (H : Step X (ACall X) f a h K) : ACall X f a h K := by
  intro C hM hS
  exact hS _ _ _ _ (Step_mono (fun f a h K K' hK H' => hM _ _ _ _ _ hK (H' C hM hS)) (fun _ _ _ h => h) H)

theorem ACall.unfold {X : Ctx} {f : Nat} {a : List AV} {h : Heap} {K : Post} (H : ACall X f a h K) : Step X (ACall X) f a h K := by
  refine H (fun f a h K => Step X (ACall X) f a h K) ?_ ?_
  · intro f a h K K' hK H'
    exact Step_mono (ACall.mono X) hK H'
  · intro f a h K H'
    exact Step_mono (C := fun f a h K => Step X (ACall X) f a h K) (C' := ACall X) (fun f a h K K' hK H'' => ACall.mono X _ _ _ _ _ hK (ACall.fold H'')) (fun _ _ _ h => h) H'

theorem ACall_iff {X : Ctx} {f : Nat} {a : List AV} {h : Heap} {K : Post} : ACall X f a h K ↔ Step X (ACall X) f a h K := ⟨ACall.unfold, ACall.fold⟩

/-! ### two posts of one call meet -/

def Meet (C D : Hd) : Prop := ∀ f a h K L, C f a h K → D f a h L → ∃ v h' x, K v h' x ∧ L v h' x

theorem AReg_meet {C D : Hd} {gl : Nat → Option PV} (hC : Meet C D) :
    ∀ (ops : List AOp) e h x K L, AReg C gl ops e h x K → AReg D gl ops e h x L → ∃ e h x, K e h x ∧ L e h x
  | [], e, h, x, K, L, H, G => ⟨e, h, x, H, G⟩
  | o :: r, e, h, x, K, L, H, G => by
    obtain ⟨dst, guard, op⟩ := o
    unfold AReg at H G
    dsimp only at H G
    split at H
    · rename_i hw
      simp only [hw] at G
      cases op
      case call f args =>
        obtain ⟨v, h', x', H', G'⟩ := hC _ _ _ _ _ H G
        exact AReg_meet hC r _ _ _ K L H' G'
      case callv f args =>
        dsimp only at H G
        split at H
        · rename_i hf
          simp only [hf] at G
          obtain ⟨v, h', x', H', G'⟩ := hC _ _ _ _ _ H G
          exact AReg_meet hC r _ _ _ K L H' G'
        · exact H.elim
      case mnext i =>
        dsimp only at H G
        split at H
        · rename_i l hl
          simp only [hl] at G
          obtain ⟨y, hy⟩ := List.exists_mem_of_ne_nil l H.1
          exact AReg_meet hC r _ _ _ K L (H.2 y hy) (G.2 y hy)
        · exact H.elim
      all_goals
        dsimp only at H G
        split at H
        · rename_i ha
          simp only [ha] at G
          exact AReg_meet hC r _ _ _ K L H G
        · exact H.elim
    · rename_i hw
      simp only [hw] at G
      exact AReg_meet hC r _ _ _ K L H G
    · exact H.elim

theorem ADo_meet {C D : Hd} {gl : Nat → Option PV} (hC : Meet C D) {o : AOp} {e : List (Nat × AV)} {h h1 h2 : Heap} {v1 v2 : AV} {x1 x2 : Esc} (H : ADo C gl o e h v1 h1 x1) (G : ADo D gl o e h v2 h2 x2) : v1 = v2 ∧ h1 = h2 ∧ x1 = x2 := by
  obtain ⟨dst, guard, op⟩ := o
  unfold ADo at H G
  dsimp only at H G
  split at H
  · rename_i hw
    simp only [hw] at G
    cases op
    case call f args =>
      obtain ⟨v, h', x', ⟨a1, a2, a3⟩, b1, b2, b3⟩ := hC _ _ _ _ _ H G
      exact ⟨a1.symm.trans b1, a2.symm.trans b2, a3.symm.trans b3⟩
    case callv f args =>
      dsimp only at H G
      split at H
      · rename_i hf
        simp only [hf] at G
        obtain ⟨v, h', x', ⟨a1, a2, a3⟩, b1, b2, b3⟩ := hC _ _ _ _ _ H G
        exact ⟨a1.symm.trans b1, a2.symm.trans b2, a3.symm.trans b3⟩
      · exact H.elim
    case mnext i => exact H.elim
    all_goals
      dsimp only at H G
      rw [H] at G
      injection G with G
      injection G with g1 G
      injection G with g2 g3
      exact ⟨g1, g2, g3⟩
  · rename_i hw
    simp only [hw] at G
    exact ⟨H.1.trans G.1.symm, H.2.1.trans G.2.1.symm, H.2.2.trans G.2.2.symm⟩
  · exact H.elim

theorem ADraw_meet {C D : Hd} {gl : Nat → Option PV} (hC : Meet C D) :
    ∀ (ds : List DOp) dn hs e h x K L, ADraw C gl ds dn hs e h x K → ADraw D gl ds dn hs e h x L → ∃ e h x, K e h x ∧ L e h x
  | [], dn, hs, e, h, x, K, L, H, G => ⟨e, h, x, H, G⟩
  | o :: r, dn, hs, e, h, x, K, L, H, G => by
    obtain ⟨v, h', y, h1, h2, h3, h4, h5⟩ := H
    obtain ⟨v', h'', y', g1, g2, g3, g4, g5⟩ := G
    obtain ⟨rfl, rfl, rfl⟩ := ADo_meet hC h1 g1
    exact ADraw_meet hC r _ _ _ _ _ K L h5 g5

def WMeet (T U : St → (Ex → St → Prop) → Prop) : Prop := ∀ s K L, T s K → U s L → ∃ e s', K e s' ∧ L e s'

theorem ALoop_meet {T U : St → (Ex → St → Prop) → Prop} (hT : WMeet T U) {K L : Ex → St → Prop} {s : St} (H : ALoop T K s) : ALoop U L s → ∃ e s', K e s' ∧ L e s' := by
  induction H with
  | mk s R h hn he hr ih =>
    intro G
    cases G with
    | mk _ S h' hn' he' hr' =>
      obtain ⟨e, s', hR, hS⟩ := hT _ _ _ h h'
      cases e with
      | normal => exact ih s' hR (hn' s' hS)
      | exit i => exact ⟨_, _, he i s' hR, he' i s' hS⟩
      | ret => exact ⟨_, _, hr s' hR, hr' s' hS⟩

theorem AW_meet {C D : Hd} {gl : Nat → Option PV} (hC : Meet C D) : ∀ (c : ACode), WMeet (AW C gl c) (AW D gl c)
  | .skip, s, K, L, H, G => ⟨_, _, H, G⟩
  | .reg ops keep, s, K, L, H, G => by
    obtain ⟨e, h, x, h1, h2⟩ := AReg_meet hC ops _ _ _ _ _ H G
    exact ⟨_, _, h1, h2⟩
  | .draw ds keep, s, K, L, H, G => by
    obtain ⟨e, h, x, h1, h2⟩ := ADraw_meet hC ds _ _ _ _ _ _ _ H G
    exact ⟨_, _, h1, h2⟩
  | .seq a b, s, K, L, H, G => by
    obtain ⟨e, s', h1, h2⟩ := AW_meet hC a _ _ _ H G
    cases e with
    | normal => exact AW_meet hC b _ _ _ h1 h2
    | exit i => exact ⟨_, _, h1, h2⟩
    | ret => exact ⟨_, _, h1, h2⟩
  | .cond c a b, s, K, L, H, G => by
    unfold AW at H G
    split at H
    · rename_i t ht
      simp only [ht] at G
      split at H
      · exact AW_meet hC a _ _ _ H G
      · exact AW_meet hC b _ _ _ H G
    · exact H.elim
  | .block id b, s, K, L, H, G => by
    obtain ⟨e, s', h1, h2⟩ := AW_meet hC b _ _ _ H G
    cases e with
    | normal => exact ⟨_, _, h1, h2⟩
    | exit i =>
      dsimp only at h1 h2
      split at h1
      · rw [if_pos ‹_›] at h2; exact ⟨_, _, h1, h2⟩
      · rw [if_neg ‹_›] at h2; exact ⟨_, _, h1, h2⟩
    | ret => exact ⟨_, _, h1, h2⟩
  | .loop b, s, K, L, H, G => ALoop_meet (AW_meet hC b) H G
  | .scope b, s, K, L, H, G => by
    obtain ⟨e, s', h1, h2⟩ := AW_meet hC b _ _ _ H G
    exact ⟨_, _, h1, h2⟩
  | .pr l b, s, K, L, H, G => AW_meet hC b _ K L H G
  | .exit id, s, K, L, H, G => ⟨_, _, H, G⟩
  | .ret, s, K, L, H, G => ⟨_, _, H, G⟩
  | .bad, s, K, L, H, G => H.elim

theorem fin_meet {F : AFun} {b : Nat} {s : St} {K L : Post} (H : fin F b s K) (G : fin F b s L) : ∃ v h x, K v h x ∧ L v h x := by
  unfold fin at H G
  split at H
  · rename_i h1
    simp only [h1] at G
    split at H
    · rename_i h2
      simp only [h2] at G
      dsimp only at H G
      split at H
      · rename_i h3; rw [if_pos h3] at G; exact ⟨_, _, _, H, G⟩
      · rename_i h3; rw [if_neg h3] at G; exact ⟨_, _, _, H, G⟩
    · rename_i h2
      simp only [h2] at G
      split at H
      · rename_i h4
        simp only [h4] at G
        dsimp only at H G
        split at H
        · rename_i h3
          rw [if_pos h3] at G
          split at H
          · rename_i h5
            simp only [h5] at G
            exact ⟨_, _, _, H.2, G.2⟩
          · exact H.elim
        · rename_i h3; rw [if_neg h3] at G; exact ⟨_, _, _, H, G⟩
      · exact H.elim
  · exact H.elim

theorem Step_meet {X : Ctx} {C D : Hd} (hC : Meet C D) : Meet (Step X C) (Step X D) := by
  intro f a h K L H G
  unfold Step at H G
  split at H
  · rename_i F hF
    simp only [hF] at G
    unfold abody at H G
    split at H
    · rename_i hp
      simp only [hp] at G
      obtain ⟨e, s', h1, h2⟩ := AW_meet hC _ _ _ _ H.2 G.2
      cases e with
      | normal => exact fin_meet h1 h2
      | exit i => exact h1.elim
      | ret => exact fin_meet h1 h2
    · exact H.elim
  · rename_i hF
    simp only [hF] at G
    split at H
    · rename_i hp
      simp only [hp] at G
      split at H
      · rename_i hu
        simp only [hu] at G
        split at H
        · rename_i hx
          simp only [hx] at G
          exact ⟨_, _, _, H, G⟩
        · exact H.elim
      · exact H.elim
    · exact H.elim

theorem ACall_meet (X : Ctx) : Meet (ACall X) (ACall X) := by
  intro f a h K L H
  refine H (fun f a h K => ∀ L, ACall X f a h L → ∃ v h' x, K v h' x ∧ L v h' x) ?_ ?_ L
  · intro f a h K K' hK H' L hL
    obtain ⟨v, h', x, h1, h2⟩ := H' L hL
    exact ⟨v, h', x, hK _ _ _ h1, h2⟩
  · intro f a h K H' L hL
    exact Step_meet (C := fun f a h K => ∀ L, ACall X f a h L → ∃ v h' x, K v h' x ∧ L v h' x) (fun f a h K L H1 H2 => H1 L H2) _ _ _ _ _ H' (ACall.unfold hL)

/-- A contract with one result is a rule of rewriting. -/
theorem ACall.eq {X : Ctx} {f : Nat} {a : List AV} {h : Heap} {v : AV} {h' : Heap} {x : Esc} (H : ACall X f a h fun v1 h1 x1 => v1 = v ∧ h1 = h' ∧ x1 = x) (K : Post) :
    ACall X f a h K ↔ K v h' x := by
  constructor
  · intro G
    obtain ⟨v1, h1, x1, ⟨rfl, rfl, rfl⟩, hk⟩ := ACall_meet X _ _ _ _ _ H G
    exact hk
  · intro hk
    exact ACall.mono X _ _ _ _ _ (fun v1 h1 x1 ⟨e1, e2, e3⟩ => by subst e1; subst e2; subst e3; exact hk) H

end Go.Am
