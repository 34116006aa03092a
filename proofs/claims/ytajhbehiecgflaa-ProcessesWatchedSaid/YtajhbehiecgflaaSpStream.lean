/- The stream of numbers out of which the laws draw. -/
import Derived.Test.YtajhbehiecgflaaCtx
open Go
namespace Go.Am
abbrev eI (n : Int) : PV := .int .i64 n
abbrev AI (n : Int) : AV := .p (.int .i64 n)
abbrev AB (b : Bool) : AV := .p (.bool b)
abbrev AL (l : List Int) : AV := .p (.sl none (l.map eI))
abbrev strm (L : List Int) (a : Int) : Obj := .box [AL L, AI a]

def below (x n : Int) : Int := if n < 1 then 0 else if x.tmod n < 0 then IntKind.i64.wrap (x.tmod n + n) else x.tmod n

theorem s_Below (x n : Int) (h : Heap) (K : Post) : ACall X f_scanmake_Below [AI x, AI n] h K = K (AI (below x n)) h [] := by
  refine rule ?_
  rw [c_scanmake_Below rfl]
  simp only [d_scanmake_Below, go_sem]
  unfold below
  by_cases h1 : n < 1
  · simp only [h1, if_true]
  · simp only [h1, if_false, show ¬ n = 0 by omega]
    split <;> rfl

theorem below_bd (x n : Int) (h1 : 1 ≤ n) (h2 : n ≤ 4611686018427387904) : 0 ≤ below x n ∧ below x n < n := by
  unfold below
  rw [if_neg (by omega)]
  have := Int.tmod_lt_of_pos x (show 0 < n by omega)
  have h3 : -n < x.tmod n := by
    have := Int.lt_tmod_of_pos x (show 0 < n by omega)
    exact this
  split
  · rw [i64_wrap _ (by omega) (by omega)]; omega
  · omega

def nextV (L : List Int) (a n : Int) : Int :=
  if L.length = 0 then below (IntKind.i64.wrap ((a + 1) * 7919)) n
  else below (IntKind.i64.wrap (below (L.getD (a.tmod L.length).toNat 0) 1073741824 + IntKind.i64.wrap (IntKind.i64.wrap (a.tdiv L.length) * IntKind.i64.wrap (7919 + a.tmod L.length)))) n

theorem nextV_bd (L : List Int) (a n : Int) (h1 : 1 ≤ n) (h2 : n ≤ 4611686018427387904) : 0 ≤ nextV L a n ∧ nextV L a n < n := by
  unfold nextV
  split <;> exact below_bd _ _ h1 h2

theorem set_get {h : Heap} {id : Nat} {o o' : Obj} (hh : h[id]? = some o) : (h.set id o')[id]? = some o' := by
  have := (List.getElem?_eq_some_iff.1 hh).1
  simp [this]
theorem set_get' {h : Heap} {id : Nat} {o' : Obj} (hid : id < h.length) : (h.set id o')[id]? = some o' := by simp [hid]
theorem get_lt {h : Heap} {id : Nat} {o : Obj} (hh : h[id]? = some o) : id < h.length := (List.getElem?_eq_some_iff.1 hh).1

/-- A place in the stream with room for so many more steps. -/
def posN (n : Nat) (a : Int) : Prop := 0 ≤ a ∧ a + n < 4611686018427387904
theorem posN_le {n m : Nat} {a b : Int} (H : posN m a) (h : a ≤ b) (hn : b + n ≤ a + m) : posN n b := by unfold posN at *; omega
theorem posN_succ {n : Nat} {a : Int} (H : posN (n + 1) a) : posN n (a + 1) := by unfold posN at *; omega

theorem posAll {a : Int} (H : posN 14 a) : posN 0 (a) ∧ posN 0 (a + 1) ∧ posN 0 (a + 1 + 1) ∧ posN 0 (a + 1 + 1 + 1) ∧ posN 0 (a + 1 + 1 + 1 + 1) ∧ posN 0 (a + 1 + 1 + 1 + 1 + 1) ∧ posN 0 (a + 1 + 1 + 1 + 1 + 1 + 1) ∧ posN 0 (a + 1 + 1 + 1 + 1 + 1 + 1 + 1) ∧ posN 0 (a + 1 + 1 + 1 + 1 + 1 + 1 + 1 + 1) ∧ posN 0 (a + 1 + 1 + 1 + 1 + 1 + 1 + 1 + 1 + 1) ∧ posN 0 (a + 1 + 1 + 1 + 1 + 1 + 1 + 1 + 1 + 1 + 1) ∧ posN 0 (a + 1 + 1 + 1 + 1 + 1 + 1 + 1 + 1 + 1 + 1 + 1) ∧ posN 0 (a + 1 + 1 + 1 + 1 + 1 + 1 + 1 + 1 + 1 + 1 + 1 + 1) ∧ posN 0 (a + 1 + 1 + 1 + 1 + 1 + 1 + 1 + 1 + 1 + 1 + 1 + 1 + 1) ∧ posN 0 (a + 1 + 1 + 1 + 1 + 1 + 1 + 1 + 1 + 1 + 1 + 1 + 1 + 1 + 1) := by
  unfold posN at *; omega

/-- A method of the stream: what it yields, how far the stream is behind it. -/
def Gen (f : Nat) (args : List AV) (L : List Int) (a a2 : Int) (v : AV) : Prop := ∀ (h : Heap) (id : Nat) (K : Post), h[id]? = some (strm L a) → ACall X f (.ref id 0 :: args) h K = K v (h.set id (strm L a2)) []

section
variable {f : Nat} {args : List AV} {L : List Int} {a a2 : Int} {v : AV} {h l : Heap} {id : Nat} {K : Post}
theorem Gen.set (g : Gen f args L a a2 v) (hid : id < h.length) : ACall X f (.ref id 0 :: args) (h.set id (strm L a)) K = K v (h.set id (strm L a2)) [] := by
  rw [g _ _ _ (set_get' hid), List.set_set]
theorem Gen.app (g : Gen f args L a a2 v) (hid : id < h.length) : ACall X f (.ref id 0 :: args) (h.set id (strm L a) ++ l) K = K v (h.set id (strm L a2) ++ l) [] := by
  rw [g _ _ _ (by rw [get_app (by simpa using hid)]; exact set_get' hid), set_app (by simpa using hid), List.set_set]
theorem Gen.hd (g : Gen f args L a a2 v) : ACall X f (.ref 0 0 :: args) (strm L a :: l) K = K v (strm L a2 :: l) [] := by
  rw [g _ _ _ rfl]; rfl
theorem Gen.of (H : ∀ (h : Heap) (id : Nat), id < h.length → ACall X f (.ref id 0 :: args) (h.set id (strm L a)) fun v1 h1 x1 => v1 = v ∧ h1 = h.set id (strm L a2) ∧ x1 = []) : Gen f args L a a2 v := by
  intro h id K hh
  have hid := get_lt hh
  have : h.set id (strm L a) = h := by
    apply List.ext_getElem?
    intro i
    rw [List.getElem?_set]
    split
    · rename_i e; subst e; rw [hh]
    · rfl
  have k := H h id hid
  rw [this] at k
  exact rule k
end

/-- A method of the stream whose yield is told by what holds of it. -/
def GenE (f : Nat) (args : List AV) (L : List Int) (a : Int) (Q : AV → Int → Prop) : Prop := ∀ (h : Heap) (id : Nat), h[id]? = some (strm L a) → ∃ v a2, Q v a2 ∧ ∀ K : Post, ACall X f (.ref id 0 :: args) h K = K v (h.set id (strm L a2)) []
section
variable {f : Nat} {args : List AV} {L : List Int} {a : Int} {Q : AV → Int → Prop}
theorem GenE.set (g : GenE f args L a Q) {h : Heap} {id : Nat} (hid : id < h.length) : ∃ v a2, Q v a2 ∧ ∀ K : Post, ACall X f (.ref id 0 :: args) (h.set id (strm L a)) K = K v (h.set id (strm L a2)) [] := by
  obtain ⟨v, a2, q, r⟩ := g _ _ (set_get' hid)
  exact ⟨v, a2, q, fun K => by rw [r, List.set_set]⟩
theorem GenE.app (g : GenE f args L a Q) {h l : Heap} {id : Nat} (hid : id < h.length) : ∃ v a2, Q v a2 ∧ ∀ K : Post, ACall X f (.ref id 0 :: args) (h.set id (strm L a) ++ l) K = K v (h.set id (strm L a2) ++ l) [] := by
  obtain ⟨v, a2, q, r⟩ := g (h.set id (strm L a) ++ l) id (by rw [get_app (by simpa using hid)]; exact set_get' hid)
  exact ⟨v, a2, q, fun K => by rw [r, set_app (by simpa using hid), List.set_set]⟩
theorem GenE.hd (g : GenE f args L a Q) {l : Heap} : ∃ v a2, Q v a2 ∧ ∀ K : Post, ACall X f (.ref 0 0 :: args) (strm L a :: l) K = K v (strm L a2 :: l) [] := g (strm L a :: l) 0 rfl
theorem GenE.of (H : ∀ (h : Heap) (id : Nat), id < h.length → ACall X f (.ref id 0 :: args) (h.set id (strm L a)) fun v1 h1 x1 => ∃ a2, Q v1 a2 ∧ h1 = h.set id (strm L a2) ∧ x1 = []) : GenE f args L a Q := by
  intro h id hh
  have hid := get_lt hh
  have : h.set id (strm L a) = h := by
    apply List.ext_getElem?
    intro i
    rw [List.getElem?_set]
    split
    · rename_i e; subst e; rw [hh]
    · rfl
  have k := H h id hid
  rw [this] at k
  obtain ⟨v, h', x, ⟨a2, q, e1, e2⟩, r⟩ := ACall.one X_noNext k
  subst e1; subst e2
  exact ⟨v, a2, q, r⟩
end

def pickV (l : List Int) (L : List Int) (a : Int) : Int := l.getD (nextV L a l.length).toNat 0
theorem pickV_mem {l L : List Int} {a : Int} (hl : 0 < l.length) (hl2 : l.length < 4611686018427387904) : pickV l L a ∈ l := by
  obtain ⟨b1, b2⟩ := nextV_bd L a l.length (by omega) (by omega)
  unfold pickV
  have : (nextV L a l.length).toNat < l.length := by omega
  simp only [List.getD, List.getElem?_eq_getElem this, Option.getD_some]
  exact List.getElem_mem _

def isI : PV → Bool
  | .int .i64 _ => true
  | _ => false
def unI : PV → Int
  | .int _ n => n
  | _ => 0
theorem unI_map {xs : List PV} (h : xs.all isI = true) : xs = (xs.map unI).map eI := by
  induction xs with
  | nil => rfl
  | cons x r ih =>
    simp only [List.all_cons, Bool.and_eq_true] at h
    simp only [List.map_cons]
    rw [← ih h.2]
    cases x with
    | int k n => cases k <;> first | rfl | cases h.1
    | _ => cases h.1

set_option maxHeartbeats 400000 in
theorem g_Next (L : List Int) (a n : Int) (hp : posN 0 a) : Gen f_scanmake_Stream_Next [AI n] L a (a + 1) (AI (nextV L a n)) := by
  refine Gen.of fun h id hid => ?_
  rw [c_scanmake_Stream_Next rfl]
  obtain ⟨h0, h1⟩ := hp
  have w1 : IntKind.i64.wrap (a + 1) = a + 1 := i64_wrap _ (by omega) (by omega)
  have w2 : IntKind.i64.wrap (a + 1 - 1) = a := by rw [i64_wrap _ (by omega) (by omega)]; omega
  have hs : ∀ o', (h.set id o')[id]? = some o' := fun o' => set_get' hid
  rcases Nat.eq_zero_or_pos L.length with hl | hl
  · simp only [d_scanmake_Stream_Next, go_sem, hs, s_Below, hl, w1]
    simp only [nextV, hl, if_true]
  · have e1 : ((L.length : Int) = 0) = False := by simp only [eq_iff_iff, iff_false]; omega
    have e2 : 0 ≤ a.tmod L.length := Int.tmod_nonneg _ h0
    have e3 : a.tmod L.length < L.length := Int.tmod_lt_of_pos _ (by omega)
    have e4 := natOf_int (k := .i64) e2
    have e5 : (L.map eI)[(a.tmod L.length).toNat]? = some (eI (L.getD (a.tmod L.length).toNat 0)) := by
      rw [map_get eI (show (a.tmod L.length).toNat < L.length by omega)]
      simp [List.getD, show (a.tmod L.length).toNat < L.length by omega]
    simp only [d_scanmake_Stream_Next, go_sem, hs, s_Below, e1, w1, w2, e4, e5]
    simp only [nextV, show ¬ L.length = 0 by omega, if_false]

section
variable {L : List Int} {a : Int} {h l : Heap} {id : Nat} {K : Post}

theorem s_Next_set (hid : id < h.length) (hp : posN 0 a) (n : Int) : ACall X f_scanmake_Stream_Next [.ref id 0, AI n] (h.set id (strm L a)) K = K (AI (nextV L a n)) (h.set id (strm L (a + 1))) [] := (g_Next L a n hp).set hid
theorem s_Next_app (hid : id < h.length) (hp : posN 0 a) (n : Int) : ACall X f_scanmake_Stream_Next [.ref id 0, AI n] (h.set id (strm L a) ++ l) K = K (AI (nextV L a n)) (h.set id (strm L (a + 1)) ++ l) [] := (g_Next L a n hp).app hid
theorem s_Next_hd (hp : posN 0 a) (n : Int) : ACall X f_scanmake_Stream_Next [.ref 0 0, AI n] (strm L a :: l) K = K (AI (nextV L a n)) (strm L (a + 1) :: l) [] := (g_Next L a n hp).hd

theorem g_Flip (hp : posN 0 a) (n : Int) : Gen f_scanmake_Stream_Flip [AI n] L a (a + 1) (AB (decide (nextV L a n = 0))) := by
  refine Gen.of fun h id hid => ?_
  rw [c_scanmake_Stream_Flip rfl]
  simp only [d_scanmake_Stream_Flip, go_sem, s_Next_set hid hp]
theorem s_Flip_set (hid : id < h.length) (hp : posN 0 a) (n : Int) : ACall X f_scanmake_Stream_Flip [.ref id 0, AI n] (h.set id (strm L a)) K = K (AB (decide (nextV L a n = 0))) (h.set id (strm L (a + 1))) [] := (g_Flip hp n).set hid
theorem s_Flip_app (hid : id < h.length) (hp : posN 0 a) (n : Int) : ACall X f_scanmake_Stream_Flip [.ref id 0, AI n] (h.set id (strm L a) ++ l) K = K (AB (decide (nextV L a n = 0))) (h.set id (strm L (a + 1)) ++ l) [] := (g_Flip hp n).app hid
theorem s_Flip_hd (hp : posN 0 a) (n : Int) : ACall X f_scanmake_Stream_Flip [.ref 0 0, AI n] (strm L a :: l) K = K (AB (decide (nextV L a n = 0))) (strm L (a + 1) :: l) [] := (g_Flip hp n).hd

theorem g_Pick (hp : posN 0 a) (xs : List PV) (hx : xs.all isI = true) (hl : 0 < xs.length) (hl2 : xs.length < 4611686018427387904) :
    Gen f_scanmake_Stream_Pick [.p (.sl none xs)] L a (a + 1) (AI (pickV (xs.map unI) L a)) := by
  refine Gen.of fun h id hid => ?_
  rw [c_scanmake_Stream_Pick rfl]
  obtain ⟨b1, b2⟩ := nextV_bd L a xs.length (by omega) (by omega)
  have e4 := natOf_int (k := .i64) b1
  have e5 : xs[(nextV L a xs.length).toNat]? = some (eI (pickV (xs.map unI) L a)) := by
      have hm := unI_map hx
      generalize hq : xs.map unI = q at *
      subst hm
      simp only [List.length_map] at *
      rw [map_get eI (show (nextV L a q.length).toNat < q.length by omega)]
      simp [pickV, List.getD, show (nextV L a q.length).toNat < q.length by omega]
  simp only [d_scanmake_Stream_Pick, go_sem, s_Next_set hid hp, e4, e5]
theorem s_Pick_set (hid : id < h.length) (hp : posN 0 a) {xs : List PV} (hx : xs.all isI = true) (hl : 0 < xs.length) (hl2 : xs.length < 4611686018427387904) :
    ACall X f_scanmake_Stream_Pick [.ref id 0, .p (.sl none xs)] (h.set id (strm L a)) K = K (AI (pickV (xs.map unI) L a)) (h.set id (strm L (a + 1))) [] := (g_Pick hp xs hx hl hl2).set hid
theorem s_Pick_app (hid : id < h.length) (hp : posN 0 a) {xs : List PV} (hx : xs.all isI = true) (hl : 0 < xs.length) (hl2 : xs.length < 4611686018427387904) :
    ACall X f_scanmake_Stream_Pick [.ref id 0, .p (.sl none xs)] (h.set id (strm L a) ++ l) K = K (AI (pickV (xs.map unI) L a)) (h.set id (strm L (a + 1)) ++ l) [] := (g_Pick hp xs hx hl hl2).app hid
theorem s_Pick_hd (hp : posN 0 a) {xs : List PV} (hx : xs.all isI = true) (hl : 0 < xs.length) (hl2 : xs.length < 4611686018427387904) :
    ACall X f_scanmake_Stream_Pick [.ref 0 0, .p (.sl none xs)] (strm L a :: l) K = K (AI (pickV (xs.map unI) L a)) (strm L (a + 1) :: l) [] := (g_Pick hp xs hx hl hl2).hd

/-- A number from a to b. -/
def rangeV (u v : Int) (L : List Int) (a : Int) : Int := u + nextV L a (v - u + 1)
theorem rangeV_bd {u v : Int} (L : List Int) (a : Int) (h1 : u ≤ v) (h2 : v ≤ u + 4611686018427387900) : u ≤ rangeV u v L a ∧ rangeV u v L a ≤ v := by
  have := nextV_bd L a (v - u + 1) (by omega) (by omega)
  unfold rangeV; omega
theorem g_Range (hp : posN 0 a) (u v : Int) (huv : u ≤ v) (hu : -1152921504606846976 ≤ u) (hv : v ≤ 1152921504606846976) :
    Gen f_scanmake_Stream_Range [AI u, AI v] L a (a + 1) (AI (rangeV u v L a)) := by
  refine Gen.of fun h id hid => ?_
  rw [c_scanmake_Stream_Range rfl]
  obtain ⟨b1, b2⟩ := rangeV_bd L a huv (by omega)
  have w1 : IntKind.i64.wrap (v - u) = v - u := i64_wrap _ (by omega) (by omega)
  have w2 : IntKind.i64.wrap (v - u + 1) = v - u + 1 := i64_wrap _ (by omega) (by omega)
  have w3 : IntKind.i64.wrap (u + nextV L a (v - u + 1)) = rangeV u v L a := i64_wrap (rangeV u v L a) (by omega) (by omega)
  simp only [d_scanmake_Stream_Range, go_sem, show ¬ v < u by omega, w1, w2, s_Next_set hid hp, w3]
theorem s_Range_set (hid : id < h.length) (hp : posN 0 a) {u v : Int} (huv : u ≤ v) (hu : -1152921504606846976 ≤ u) (hv : v ≤ 1152921504606846976) :
    ACall X f_scanmake_Stream_Range [.ref id 0, AI u, AI v] (h.set id (strm L a)) K = K (AI (rangeV u v L a)) (h.set id (strm L (a + 1))) [] := (g_Range hp u v huv hu hv).set hid
theorem s_Range_app (hid : id < h.length) (hp : posN 0 a) {u v : Int} (huv : u ≤ v) (hu : -1152921504606846976 ≤ u) (hv : v ≤ 1152921504606846976) :
    ACall X f_scanmake_Stream_Range [.ref id 0, AI u, AI v] (h.set id (strm L a) ++ l) K = K (AI (rangeV u v L a)) (h.set id (strm L (a + 1)) ++ l) [] := (g_Range hp u v huv hu hv).app hid
theorem s_Range_hd (hp : posN 0 a) {u v : Int} (huv : u ≤ v) (hu : -1152921504606846976 ≤ u) (hv : v ≤ 1152921504606846976) :
    ACall X f_scanmake_Stream_Range [.ref 0 0, AI u, AI v] (strm L a :: l) K = K (AI (rangeV u v L a)) (strm L (a + 1) :: l) [] := (g_Range hp u v huv hu hv).hd
end
attribute [go_sem ↓] s_Next_set s_Next_app s_Next_hd s_Flip_set s_Flip_app s_Flip_hd s_Pick_set s_Pick_app s_Pick_hd s_Range_set s_Range_app s_Range_hd
attribute [go_sem] s_Next_set s_Next_app s_Next_hd s_Flip_set s_Flip_app s_Flip_hd s_Pick_set s_Pick_app s_Pick_hd s_Range_set s_Range_app s_Range_hd isI unI
end Go.Am
