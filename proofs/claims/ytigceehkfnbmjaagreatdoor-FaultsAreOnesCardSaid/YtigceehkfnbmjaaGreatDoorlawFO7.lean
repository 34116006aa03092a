/- Texts of the proof, laid together: SpStream, MathFrac, SpBase, SpList, SpShp, SpLen, SpStr, SpMap, SpStrs, SpFind, SpLimD, SpLim, SpLotA, SpRecD, SpGenA, SpSome, SpGenL, SpRec, SpSortRec, SpCompact, SpGenR, PMerge, SpMrgA, SpSort, SpMrgB, SpMrgC, SpMrgD, PFin, SpTxt, SpFlt1, SpFlt2, SpFlt3, SpFlt4, SpFlt5, SpArg, SpFlt6, SpSortO, SpGenF, SpGenA2, SpGenF2, SpDet. -/
import Derived.Test.YtigceehkfnbmjaaGreatDoorlawFO6
set_option linter.all false
section
/- The stream of numbers out of which the laws draw. -/
open Go
namespace Go.Am
abbrev eI (n : Int) : PV:=.int .i64 n
abbrev AL (l : List Int) : AV:=.p (.sl none (l.map eI))
abbrev strm (L : List Int) (a : Int) : Obj:=.box [AL L,AI a]
def below (x n : Int) : Int:=if n < 1 then 0 else if x.tmod n < 0 then IntKind.i64.wrap (x.tmod n + n) else x.tmod n
theorem s_Below (x n : Int) (h : Heap) (K : Post) : ACall X f_q020 [AI x,AI n] h K = K (AI (below x n)) h []:=by
  refine rule ?_
  rw [c_q020 rfl]
  simp only [d_q020,go_sem]
  unfold below
  by_cases h1 : n < 1
  · simp only [h1,if_true]
  · simp only [h1, if_false, show ¬ n = 0 by omega]
    split <;> rfl
theorem below_bd (x n : Int) (h1 : 1 ≤ n) (h2 : n ≤ 4611686018427387904) : 0 ≤ below x n ∧ below x n < n:=by
  unfold below
  rw [if_neg (by omega)]
  have:=Int.tmod_lt_of_pos x (show 0 < n by omega)
  have h3 : -n < x.tmod n:=by
    have:=Int.lt_tmod_of_pos x (show 0 < n by omega)
    exact this
  split
  · rw [i64_wrap _ (by omega) (by omega)]; omega
  · omega
def nextV (L : List Int) (a n : Int) : Int:=
  if L.length = 0 then below (IntKind.i64.wrap ((a + 1) * 7919)) n
  else below (IntKind.i64.wrap (below (L.getD (a.tmod L.length).toNat 0) 1073741824 + IntKind.i64.wrap (IntKind.i64.wrap (a.tdiv L.length) * IntKind.i64.wrap (7919 + a.tmod L.length)))) n
theorem nextV_bd (L : List Int) (a n : Int) (h1 : 1 ≤ n) (h2 : n ≤ 4611686018427387904) : 0 ≤ nextV L a n ∧ nextV L a n < n:=by
  unfold nextV
  split <;> exact below_bd _ _ h1 h2
theorem set_get' {h : Heap} {id : Nat} {o' : Obj} (hid : id < h.length) : (h.set id o')[id]? = some o':=by simp [hid]
theorem get_lt {h : Heap} {id : Nat} {o : Obj} (hh : h[id]? = some o) : id < h.length:=(List.getElem?_eq_some_iff.1 hh).1
def posN (n : Nat) (a : Int) : Prop:=0 ≤ a ∧ a + n < 4611686018427387904
theorem posN_le {n m : Nat} {a b : Int} (H : posN m a) (h : a ≤ b) (hn : b + n ≤ a + m) : posN n b:=by unfold posN at *; omega
theorem posAll {a : Int} (H : posN 14 a) : posN 0 (a) ∧ posN 0 (a + 1) ∧ posN 0 (a + 1 + 1) ∧ posN 0 (a + 1 + 1 + 1) ∧ posN 0 (a + 1 + 1 + 1 + 1) ∧ posN 0 (a + 1 + 1 + 1 + 1 + 1) ∧ posN 0 (a + 1 + 1 + 1 + 1 + 1 + 1) ∧ posN 0 (a + 1 + 1 + 1 + 1 + 1 + 1 + 1) ∧ posN 0 (a + 1 + 1 + 1 + 1 + 1 + 1 + 1 + 1) ∧ posN 0 (a + 1 + 1 + 1 + 1 + 1 + 1 + 1 + 1 + 1) ∧ posN 0 (a + 1 + 1 + 1 + 1 + 1 + 1 + 1 + 1 + 1 + 1) ∧ posN 0 (a + 1 + 1 + 1 + 1 + 1 + 1 + 1 + 1 + 1 + 1 + 1) ∧ posN 0 (a + 1 + 1 + 1 + 1 + 1 + 1 + 1 + 1 + 1 + 1 + 1 + 1) ∧ posN 0 (a + 1 + 1 + 1 + 1 + 1 + 1 + 1 + 1 + 1 + 1 + 1 + 1 + 1) ∧ posN 0 (a + 1 + 1 + 1 + 1 + 1 + 1 + 1 + 1 + 1 + 1 + 1 + 1 + 1 + 1):=by
  unfold posN at *; omega
def Gen (f : Nat) (args : List AV) (L : List Int) (a a2 : Int) (v : AV) : Prop:=∀ (h : Heap) (id : Nat) (K : Post),h[id]? = some (strm L a) → ACall X f (.ref id 0 :: args) h K = K v (h.set id (strm L a2)) []
section
variable {f : Nat} {args : List AV} {L : List Int} {a a2 : Int} {v : AV} {h l : Heap} {id : Nat} {K : Post}
theorem Gen.set (g : Gen f args L a a2 v) (hid : id < h.length) : ACall X f (.ref id 0 :: args) (h.set id (strm L a)) K = K v (h.set id (strm L a2)) []:=by
  rw [g _ _ _ (set_get' hid),List.set_set]
theorem Gen.app (g : Gen f args L a a2 v) (hid : id < h.length) : ACall X f (.ref id 0 :: args) (h.set id (strm L a) ++ l) K = K v (h.set id (strm L a2) ++ l) []:=by
  rw [g _ _ _ (by rw [get_app (by simpa using hid)]; exact set_get' hid),set_app (by simpa using hid),List.set_set]
theorem Gen.hd (g : Gen f args L a a2 v) : ACall X f (.ref 0 0 :: args) (strm L a :: l) K = K v (strm L a2 :: l) []:=by
  rw [g _ _ _ rfl]; rfl
theorem Gen.of (H : ∀ (h : Heap) (id : Nat),id < h.length → ACall X f (.ref id 0 :: args) (h.set id (strm L a)) fun v1 h1 x1=>v1 = v ∧ h1 = h.set id (strm L a2) ∧ x1 = []) : Gen f args L a a2 v:=by
  intro h id K hh
  have hid:=get_lt hh
  have : h.set id (strm L a) = h:=by
    apply List.ext_getElem?
    intro i
    rw [List.getElem?_set]
    split
    · rename_i e; subst e; rw [hh]
    · rfl
  have k:=H h id hid
  rw [this] at k
  exact rule k
end
def GenE (f : Nat) (args : List AV) (L : List Int) (a : Int) (Q : AV → Int → Prop) : Prop:=∀ (h : Heap) (id : Nat),h[id]? = some (strm L a) → ∃ v a2,Q v a2 ∧ ∀ K : Post,ACall X f (.ref id 0 :: args) h K = K v (h.set id (strm L a2)) []
section
variable {f : Nat} {args : List AV} {L : List Int} {a : Int} {Q : AV → Int → Prop}
theorem GenE.set (g : GenE f args L a Q) {h : Heap} {id : Nat} (hid : id < h.length) : ∃ v a2,Q v a2 ∧ ∀ K : Post,ACall X f (.ref id 0 :: args) (h.set id (strm L a)) K = K v (h.set id (strm L a2)) []:=by
  obtain ⟨v,a2,q,r⟩:=g _ _ (set_get' hid)
  exact ⟨v,a2,q,fun K=>by rw [r,List.set_set]⟩
theorem GenE.app (g : GenE f args L a Q) {h l : Heap} {id : Nat} (hid : id < h.length) : ∃ v a2,Q v a2 ∧ ∀ K : Post,ACall X f (.ref id 0 :: args) (h.set id (strm L a) ++ l) K = K v (h.set id (strm L a2) ++ l) []:=by
  obtain ⟨v,a2,q,r⟩:=g (h.set id (strm L a) ++ l) id (by rw [get_app (by simpa using hid)]; exact set_get' hid)
  exact ⟨v,a2,q,fun K=>by rw [r,set_app (by simpa using hid),List.set_set]⟩
theorem GenE.hd (g : GenE f args L a Q) {l : Heap} : ∃ v a2,Q v a2 ∧ ∀ K : Post,ACall X f (.ref 0 0 :: args) (strm L a :: l) K = K v (strm L a2 :: l) []:=g (strm L a :: l) 0 rfl
theorem GenE.of (H : ∀ (h : Heap) (id : Nat),id < h.length → ACall X f (.ref id 0 :: args) (h.set id (strm L a)) fun v1 h1 x1=>∃ a2,Q v1 a2 ∧ h1 = h.set id (strm L a2) ∧ x1 = []) : GenE f args L a Q:=by
  intro h id hh
  have hid:=get_lt hh
  have : h.set id (strm L a) = h:=by
    apply List.ext_getElem?
    intro i
    rw [List.getElem?_set]
    split
    · rename_i e; subst e; rw [hh]
    · rfl
  have k:=H h id hid
  rw [this] at k
  obtain ⟨v,h',x,⟨a2,q,e1,e2⟩,r⟩:=ACall.one X_noNext k
  subst e1; subst e2
  exact ⟨v,a2,q,r⟩
end
def pickV (l : List Int) (L : List Int) (a : Int) : Int:=l.getD (nextV L a l.length).toNat 0
theorem pickV_mem {l L : List Int} {a : Int} (hl : 0 < l.length) (hl2 : l.length < 4611686018427387904) : pickV l L a ∈ l:=by
  obtain ⟨b1,b2⟩:=nextV_bd L a l.length (by omega) (by omega)
  unfold pickV
  have : (nextV L a l.length).toNat < l.length:=by omega
  simp only [List.getD,List.getElem?_eq_getElem this,Option.getD_some]
  exact List.getElem_mem _
def isI : PV → Bool
  | .int .i64 _=>true
  | _=>false
def unI : PV → Int
  | .int _ n=>n
  | _=>0
theorem unI_map {xs : List PV} (h : xs.all isI = true) : xs = (xs.map unI).map eI:=by
  induction xs with
  | nil=>rfl
  | cons x r ih=>
    simp only [List.all_cons,Bool.and_eq_true] at h
    simp only [List.map_cons]
    rw [← ih h.2]
    cases x with
    | int k n=>cases k <;> first | rfl | cases h.1
    | _=>cases h.1
set_option maxHeartbeats 400000 in
theorem g_Next (L : List Int) (a n : Int) (hp : posN 0 a) : Gen f_q025 [AI n] L a (a + 1) (AI (nextV L a n)):=by
  refine Gen.of fun h id hid=>?_
  rw [c_q025 rfl]
  obtain ⟨h0,h1⟩:=hp
  have w1 : IntKind.i64.wrap (a + 1) = a + 1:=i64_wrap _ (by omega) (by omega)
  have w2 : IntKind.i64.wrap (a + 1 - 1) = a:=by rw [i64_wrap _ (by omega) (by omega)]; omega
  have hs : ∀ o',(h.set id o')[id]? = some o':=fun o'=>set_get' hid
  rcases Nat.eq_zero_or_pos L.length with hl | hl
  · simp only [d_q025, go_sem, hs, s_Below, hl, w1]
    simp only [nextV,hl,if_true]
  · have e1 : ((L.length : Int) = 0) = False := by simp only [eq_iff_iff, iff_false]; omega
    have e2 : 0 ≤ a.tmod L.length:=Int.tmod_nonneg _ h0
    have e3 : a.tmod L.length < L.length:=Int.tmod_lt_of_pos _ (by omega)
    have e4:=natOf_int (k:=.i64) e2
    have e5 : (L.map eI)[(a.tmod L.length).toNat]? = some (eI (L.getD (a.tmod L.length).toNat 0)):=by
      rw [map_get eI (show (a.tmod L.length).toNat < L.length by omega)]
      simp [List.getD,show (a.tmod L.length).toNat < L.length by omega]
    simp only [d_q025,go_sem,hs,s_Below,e1,w1,w2,e4,e5]
    simp only [nextV,show ¬ L.length = 0 by omega,if_false]
section
variable {L : List Int} {a : Int} {h l : Heap} {id : Nat} {K : Post}
theorem s_Next_set (hid : id < h.length) (hp : posN 0 a) (n : Int) : ACall X f_q025 [.ref id 0,AI n] (h.set id (strm L a)) K = K (AI (nextV L a n)) (h.set id (strm L (a + 1))) []:=(g_Next L a n hp).set hid
theorem s_Next_app (hid : id < h.length) (hp : posN 0 a) (n : Int) : ACall X f_q025 [.ref id 0,AI n] (h.set id (strm L a) ++ l) K = K (AI (nextV L a n)) (h.set id (strm L (a + 1)) ++ l) []:=(g_Next L a n hp).app hid
theorem s_Next_hd (hp : posN 0 a) (n : Int) : ACall X f_q025 [.ref 0 0,AI n] (strm L a :: l) K = K (AI (nextV L a n)) (strm L (a + 1) :: l) []:=(g_Next L a n hp).hd
theorem g_Flip (hp : posN 0 a) (n : Int) : Gen f_q024 [AI n] L a (a + 1) (AB (decide (nextV L a n = 0))):=by
  refine Gen.of fun h id hid=>?_
  rw [c_q024 rfl]
  simp only [d_q024,go_sem,s_Next_set hid hp]
theorem s_Flip_set (hid : id < h.length) (hp : posN 0 a) (n : Int) : ACall X f_q024 [.ref id 0,AI n] (h.set id (strm L a)) K = K (AB (decide (nextV L a n = 0))) (h.set id (strm L (a + 1))) []:=(g_Flip hp n).set hid
theorem s_Flip_app (hid : id < h.length) (hp : posN 0 a) (n : Int) : ACall X f_q024 [.ref id 0,AI n] (h.set id (strm L a) ++ l) K = K (AB (decide (nextV L a n = 0))) (h.set id (strm L (a + 1)) ++ l) []:=(g_Flip hp n).app hid
theorem s_Flip_hd (hp : posN 0 a) (n : Int) : ACall X f_q024 [.ref 0 0,AI n] (strm L a :: l) K = K (AB (decide (nextV L a n = 0))) (strm L (a + 1) :: l) []:=(g_Flip hp n).hd
theorem g_Pick (hp : posN 0 a) (xs : List PV) (hx : xs.all isI = true) (hl : 0 < xs.length) (hl2 : xs.length < 4611686018427387904) :
    Gen f_q028 [.p (.sl none xs)] L a (a + 1) (AI (pickV (xs.map unI) L a)):=by
  refine Gen.of fun h id hid=>?_
  rw [c_q028 rfl]
  obtain ⟨b1,b2⟩:=nextV_bd L a xs.length (by omega) (by omega)
  have e4:=natOf_int (k:=.i64) b1
  have e5 : xs[(nextV L a xs.length).toNat]? = some (eI (pickV (xs.map unI) L a)):=by
      have hm:=unI_map hx
      generalize hq : xs.map unI = q at *
      subst hm
      simp only [List.length_map] at *
      rw [map_get eI (show (nextV L a q.length).toNat < q.length by omega)]
      simp [pickV,List.getD,show (nextV L a q.length).toNat < q.length by omega]
  simp only [d_q028,go_sem,s_Next_set hid hp,e4,e5]
theorem s_Pick_set (hid : id < h.length) (hp : posN 0 a) {xs : List PV} (hx : xs.all isI = true) (hl : 0 < xs.length) (hl2 : xs.length < 4611686018427387904) :
    ACall X f_q028 [.ref id 0,.p (.sl none xs)] (h.set id (strm L a)) K = K (AI (pickV (xs.map unI) L a)) (h.set id (strm L (a + 1))) []:=(g_Pick hp xs hx hl hl2).set hid
theorem s_Pick_app (hid : id < h.length) (hp : posN 0 a) {xs : List PV} (hx : xs.all isI = true) (hl : 0 < xs.length) (hl2 : xs.length < 4611686018427387904) :
    ACall X f_q028 [.ref id 0,.p (.sl none xs)] (h.set id (strm L a) ++ l) K = K (AI (pickV (xs.map unI) L a)) (h.set id (strm L (a + 1)) ++ l) []:=(g_Pick hp xs hx hl hl2).app hid
theorem s_Pick_hd (hp : posN 0 a) {xs : List PV} (hx : xs.all isI = true) (hl : 0 < xs.length) (hl2 : xs.length < 4611686018427387904) :
    ACall X f_q028 [.ref 0 0,.p (.sl none xs)] (strm L a :: l) K = K (AI (pickV (xs.map unI) L a)) (strm L (a + 1) :: l) []:=(g_Pick hp xs hx hl hl2).hd
def rangeV (u v : Int) (L : List Int) (a : Int) : Int:=u + nextV L a (v - u + 1)
theorem rangeV_bd {u v : Int} (L : List Int) (a : Int) (h1 : u ≤ v) (h2 : v ≤ u + 4611686018427387900) : u ≤ rangeV u v L a ∧ rangeV u v L a ≤ v:=by
  have:=nextV_bd L a (v - u + 1) (by omega) (by omega)
  unfold rangeV; omega
theorem g_Range (hp : posN 0 a) (u v : Int) (huv : u ≤ v) (hu : -1152921504606846976 ≤ u) (hv : v ≤ 1152921504606846976) :
    Gen f_q029 [AI u,AI v] L a (a + 1) (AI (rangeV u v L a)):=by
  refine Gen.of fun h id hid=>?_
  rw [c_q029 rfl]
  obtain ⟨b1,b2⟩:=rangeV_bd L a huv (by omega)
  have w1 : IntKind.i64.wrap (v - u) = v - u:=i64_wrap _ (by omega) (by omega)
  have w2 : IntKind.i64.wrap (v - u + 1) = v - u + 1:=i64_wrap _ (by omega) (by omega)
  have w3 : IntKind.i64.wrap (u + nextV L a (v - u + 1)) = rangeV u v L a:=i64_wrap (rangeV u v L a) (by omega) (by omega)
  simp only [d_q029,go_sem,show ¬ v < u by omega,w1,w2,s_Next_set hid hp,w3]
theorem s_Range_set (hid : id < h.length) (hp : posN 0 a) {u v : Int} (huv : u ≤ v) (hu : -1152921504606846976 ≤ u) (hv : v ≤ 1152921504606846976) :
    ACall X f_q029 [.ref id 0,AI u,AI v] (h.set id (strm L a)) K = K (AI (rangeV u v L a)) (h.set id (strm L (a + 1))) []:=(g_Range hp u v huv hu hv).set hid
theorem s_Range_app (hid : id < h.length) (hp : posN 0 a) {u v : Int} (huv : u ≤ v) (hu : -1152921504606846976 ≤ u) (hv : v ≤ 1152921504606846976) :
    ACall X f_q029 [.ref id 0,AI u,AI v] (h.set id (strm L a) ++ l) K = K (AI (rangeV u v L a)) (h.set id (strm L (a + 1)) ++ l) []:=(g_Range hp u v huv hu hv).app hid
theorem s_Range_hd (hp : posN 0 a) {u v : Int} (huv : u ≤ v) (hu : -1152921504606846976 ≤ u) (hv : v ≤ 1152921504606846976) :
    ACall X f_q029 [.ref 0 0,AI u,AI v] (strm L a :: l) K = K (AI (rangeV u v L a)) (strm L (a + 1) :: l) []:=(g_Range hp u v huv hu hv).hd
end
attribute [go_sem ↓] s_Next_set s_Next_app s_Next_hd s_Flip_set s_Flip_app s_Flip_hd s_Pick_set s_Pick_app s_Pick_hd s_Range_set s_Range_app s_Range_hd
attribute [go_sem] s_Next_set s_Next_app s_Next_hd s_Flip_set s_Flip_app s_Flip_hd s_Pick_set s_Pick_app s_Pick_hd s_Range_set s_Range_app s_Range_hd isI unI
end Go.Am
end
section
/- Plain laws of fractions in lowest terms. -/
namespace Go.Am
end Go.Am
end
section
/- Small functions of numbers and of lists of numbers. -/
open Go
namespace Go.Am
variable {h : Heap} {K : Post}
theorem s_Out (n a b : Int) : ACall X f_q006 [AI n,AI a,AI b] h K = K (AB (decide (n < a) || decide (b < n))) h []:=by
  refine rule ?_
  rw [c_q006 rfl]
  by_cases h1 : n < a <;> simp only [d_q006,go_sem,h1]
theorem s_in (n a b : Int) : ACall X f_q02l [AI n,AI a,AI b] h K = K (AB (decide (a ≤ n) && decide (n ≤ b))) h []:=by
  refine rule ?_
  rw [c_q02l rfl]
  by_cases h1 : a ≤ n <;> simp only [d_q02l,go_sem,h1]
theorem u64_wrap (n : Int) (h1 : 0 ≤ n) (h2 : n < 18446744073709551616) : IntKind.u64.wrap n = n:=by
  simp [IntKind.wrap,IntKind.bits,IntKind.signed]; omega
abbrev AU (n : Int) : AV:=.p (.int .u64 n)
end Go.Am
end
section
/- Functions of lists. -/
open Go
namespace Go.Am
variable {h : Heap} {K : Post}
theorem s_isNaN (a : Int) : ACall X f_q00u [AI a] h K = K (AB false) h []:=by
  refine rule ?_
  rw [c_q00u rfl]
  simp only [d_q00u,go_sem]
def Tells (g : Nat) (caps : List AV) (p : PV → Bool) (xs : List PV) (h : Heap) : Prop:=∀ x ∈ xs,∀ K : Post,ACall X g (.p x :: caps) h K = K (AB (p x)) h []
def idxP (p : PV → Bool) (xs : List PV) : Int:=if xs.findIdx p < xs.length then (xs.findIdx p : Int) else -1
theorem idxP_any (p : PV → Bool) (xs : List PV) : decide (0 ≤ idxP p xs) = xs.any p:=by
  unfold idxP
  rw [Bool.eq_iff_iff]
  by_cases h : xs.findIdx p < xs.length
  · rw [if_pos h]; simp only [decide_eq_true_eq, List.any_eq_true]
    exact ⟨fun _=>⟨_,List.getElem_mem h,List.findIdx_getElem⟩,fun _=>by omega⟩
  · rw [if_neg h]; simp only [decide_eq_true_eq, List.any_eq_true]
    refine ⟨fun h=>by omega,fun ⟨x,hx,hp⟩=>absurd (List.findIdx_lt_length_of_exists ⟨x,hx,hp⟩) h⟩
def firstErr : List Int → Int
  | []=>0
  | e :: r=>if e = 0 then firstErr r else e
end Go.Am
end
section
/- Values of a shape: loads and stores in rows. -/
open Go
namespace Go.Am
variable {h : Heap} {K : Post}
theorem shp_cut {sh : Sh} {x : PV} (hx : x.shp sh = true) : cutP sh 0 x = some x:=by
  cases sh with
  | none=>exact cutP_sc hx
  | some n=>
    cases x with
    | agg cs=>
      simp only [PV.shp,Bool.and_eq_true,beq_iff_eq] at hx
      simp [cutP,hx.1]
      exact List.take_of_length_le (by omega)
    | _=>cases hx
theorem shp_len {sh : Sh} {x : PV} (hx : x.shp sh = true) : x.cells.length = shSize sh:=by
  cases sh with
  | none=>cases x <;> first | rfl | cases hx
  | some n=>
    cases x with
    | agg cs=>simp only [PV.shp,Bool.and_eq_true,beq_iff_eq] at hx; exact hx.1
    | _=>cases hx
theorem shp_all {sh : Sh} {x : PV} (hx : x.shp sh = true) : x.cells.all PV.sc = true:=by
  cases sh with
  | none=>cases x <;> first | rfl | cases hx
  | some n=>
    cases x with
    | agg cs=>simp only [PV.shp,Bool.and_eq_true,beq_iff_eq] at hx; exact hx.2
    | _=>cases hx
theorem shp_st {sh : Sh} {x y : PV} (hx : x.shp sh = true) (hy : y.shp sh = true) (id i fz : Nat) (xs : List PV) (h1 : Heap) : stE sh id i 0 fz sh xs x h1 (some y) = some (.und,h1.set id (.row sh (xs.set i x) fz),[]):=by
  cases sh with
  | none=>
    cases y with
    | agg cs=>cases hy
    | _=>simp only [PV.shp] at hx; simp [stE,hx]
  | some n=>
    cases y with
    | agg cs=>
      cases x with
      | agg ds=>
        simp only [PV.shp,Bool.and_eq_true,beq_iff_eq] at hx hy
        simp [stE,PV.cells,splice,hx.1,hy.1,show cs.drop n = [] from List.drop_of_length_le (by omega)]
      | _=>cases hx
    | _=>cases hy
def shps (sh : Sh) (xs : List PV) : Prop:=∀ x ∈ xs,x.shp sh = true
theorem shps_get {sh : Sh} {xs : List PV} (hx : shps sh xs) {i : Nat} (hi : i < xs.length) : xs[i].shp sh = true:=hx _ (List.getElem_mem hi)
theorem set_self {h : Heap} {id : Nat} {o : Obj} (hh : h[id]? = some o) : h.set id o = h:=by
  apply List.ext_getElem?
  intro i
  rw [List.getElem?_set]
  split
  · rename_i e; subst e; rw [hh]; simp [get_lt hh]
  · rfl
structure Shows (sh : Sh) (v : AV) (xs : List PV) (h : Heap) : Prop where
  len : oLen v = some (AI xs.length)
  get : ∀ (k : Nat) (hk : k < xs.length),∃ a,oIaddr sh v (AI k) h = some a ∧ oLoad sh a h = some (.p xs[k])
theorem shows_sl {sh : Sh} {xs : List PV} (hs : shps sh xs) : Shows sh (.p (.sl sh xs)) xs h:=by
  refine ⟨rfl,fun k hk=>⟨.vp xs[k],?_,?_⟩⟩
  · simp [oIaddr,natOf,hk]
  · simp only [load_vp,shp_cut (shps_get hs hk)]; rfl
end Go.Am
end
section
/- Lengths of numbers in bits,and comparisons of plain values. -/
open Go
namespace Go.Am
variable {h : Heap} {K : Post}
set_option maxRecDepth 20000
theorem tab_get (k : Nat) (hk : k < 256) : ∃ b,([0,1,2,2,3,3,3,3,4,4,4,4,4,4,4,4,5,5,5,5,5,5,5,5,5,5,5,5,5,5,5,5,6,6,6,6,6,6,6,6,6,6,6,6,6,6,6,6,6,6,6,6,6,6,6,6,6,6,6,6,6,6,6,6,7,7,7,7,7,7,7,7,7,7,7,7,7,7,7,7,7,7,7,7,7,7,7,7,7,7,7,7,7,7,7,7,7,7,7,7,7,7,7,7,7,7,7,7,7,7,7,7,7,7,7,7,7,7,7,7,7,7,7,7,7,7,7,7,8,8,8,8,8,8,8,8,8,8,8,8,8,8,8,8,8,8,8,8,8,8,8,8,8,8,8,8,8,8,8,8,8,8,8,8,8,8,8,8,8,8,8,8,8,8,8,8,8,8,8,8,8,8,8,8,8,8,8,8,8,8,8,8,8,8,8,8,8,8,8,8,8,8,8,8,8,8,8,8,8,8,8,8,8,8,8,8,8,8,8,8,8,8,8,8,8,8,8,8,8,8,8,8,8,8,8,8,8,8,8,8,8,8,8,8,8,8,8,8,8,8,8,8,8,8,8,8] : List UInt8)[k]? = some b:=⟨_,List.getElem?_eq_getElem (Nat.lt_of_lt_of_eq hk (by kernel_rfl))⟩
theorem len_any (x : Int) (h0 : 0 ≤ x) (h1 : x < 256) : ∃ m : Int,∀ (h : Heap) (K : Post),ACall X f_q01l [AU x] h K = K (AI m) h []:=by
  obtain ⟨b,hb⟩:=tab_get x.toNat (by omega)
  refine ⟨IntKind.i64.wrap (0 + IntKind.i64.wrap b.toNat),fun h K=>?_⟩
  have w : IntKind.u8.wrap x = x:=by simp [IntKind.wrap,IntKind.bits,IntKind.signed]; omega
  have b1 : ¬ (4294967296 ≤ x):=by omega
  have b2 : ¬ (65536 ≤ x):=by omega
  have b3 : ¬ (256 ≤ x):=by omega
  have hn:=natOf_int (k:=.u8) h0
  have key : ∀ (h : Heap) (K : Post),ACall X f_q01n [AU x] h K = K (AI (IntKind.i64.wrap (0 + IntKind.i64.wrap b.toNat))) h []:=by
    intro h K
    refine rule ?_
    rw [c_q01n rfl]
    simp only [d_q01n,go_sem,b1,b2,b3,w,hn,hb]
  refine rule ?_
  rw [c_q01l rfl]
  simp only [d_q01l,go_sem,key]
theorem s_Less (a b : Int) : ACall X f_q00s [AI a,AI b] h K = K (AB (decide (a < b))) h []:=by
  refine rule ?_
  rw [c_q00s rfl]
  simp only [d_q00s,go_sem,s_isNaN]
def ltI (a b : Int) : Bool:=decide (a < b)
def ltP (a b : PV) : Bool:=match a,b with
  | .int _ a,.int _ b=>decide (a < b)
  | _,_=>false
theorem less_eI {l : List Int} : ∀ x ∈ l.map eI,∀ y ∈ l.map eI,∀ (h : Heap) (K : Post),ACall X f_q00s [.p x,.p y] h K = K (AB (ltP x y)) h []:=by
  intro x hx y hy h K
  obtain ⟨a,_,rfl⟩:=List.mem_map.1 hx
  obtain ⟨b,_,rfl⟩:=List.mem_map.1 hy
  exact s_Less a b
theorem shps_eI {l : List Int} : shps none (l.map eI):=fun x hx=>by obtain ⟨n,_,rfl⟩:=List.mem_map.1 hx; rfl
end Go.Am
end
section
/- Strings: keys,the library's functions without text. -/
open Go
set_option linter.unusedSimpArgs false
namespace Go.Am
variable {h : Heap} {K : Post}
abbrev AS (s : List UInt8) : AV:=.p (.str s)
theorem X_ext : X.ext = extF f_internal_bytealg_IndexByteString f_internal_bytealg_abigen_runtime_cmpstring:=rfl
theorem s_idxExt (s : List UInt8) (c : UInt8) : ACall X f_internal_bytealg_IndexByteString [AS s,.p (.int .u8 c.toNat)] h K = K (AI (idxB s c)) h []:=by
  have:=ext_call (X:=X) (f:=f_internal_bytealg_IndexByteString) (asv:=[AS s,.p (.int .u8 c.toNat)]) (vs:=[.str s,.int .u8 c.toNat]) (h:=h) (h1:=h) (r:=.int .i64 (idxB s c)) (K:=K) (by kernel_rfl) rfl rfl rfl ?_
  · exact this
  · rw [X_ext]
    unfold extF
    rw [show Nat.beq f_internal_bytealg_IndexByteString f_internal_bytealg_IndexByteString = true from by kernel_rfl]
    simp
theorem s_IndexByte (s : List UInt8) (c : UInt8) : ACall X f_q04d [AS s,.p (.int .u8 c.toNat)] h K = K (AI (idxB s c)) h []:=by
  have key : ∀ (h : Heap) (K : Post),ACall X f_q01e [AS s,.p (.int .u8 c.toNat)] h K = K (AI (idxB s c)) h []:=by
    intro h K
    refine rule ?_
    rw [c_q01e rfl]
    simp only [d_q01e,go_sem,s_idxExt]
  refine rule ?_
  rw [c_q04d rfl]
  simp only [d_q04d,go_sem,key]
theorem idxB_neg (s : List UInt8) (c : UInt8) : decide (idxB s c < 0) = !s.contains c:=by
  unfold idxB
  rw [Bool.eq_iff_iff]
  by_cases hf : s.findIdx (· == c) < s.length
  · rw [if_pos hf]
    have:=List.findIdx_getElem (w:=hf)
    simp only [beq_iff_eq] at this
    have hm : c ∈ s:=by rw [← this]; exact List.getElem_mem hf
    simp [hm]
  · rw [if_neg hf]
    have hm : ¬ c ∈ s:=fun hm=>hf (List.findIdx_lt_length_of_exists ⟨c,hm,by simp⟩)
    simp [hm]
theorem s_only (s t : List UInt8) (hl : s.length ≤ 1000000000) : ACall X f_q02m [AS s,AS t] h K = K (AB (s.all fun c=>t.contains c)) h []:=by
  refine rule ?_
  rw [c_q02m rfl]
  simp only [d_q02m,go_sem]
  refine N_loop (fun k : Nat=>⟨[(0,AS s),(1,AS t),(7,AI s.length),(8,AI k)],h,[]⟩) (fun k=>k ≤ s.length ∧ (s.take k).all (fun c=>t.contains c) = true) (fun k=>s.length - k) 0 rfl ⟨by omega,rfl⟩ ?_
  rintro k ⟨hk,hp⟩
  rcases Nat.lt_or_ge k s.length with hlt | hge
  · have hg : s[k]? = some s[k] := List.getElem?_eq_getElem hlt
    have w2 : IntKind.i64.wrap ((k : Int) + 1) = ((k + 1 : Nat) : Int):=i64_wrap _ (by omega) (by omega)
    have hi:=idxB_neg t s[k]
    by_cases hc : idxB t s[k] < 0
    · have : s.all (fun c=>t.contains c) = false:=by
        rw [List.all_eq_false]
        refine ⟨_,List.getElem_mem hlt,?_⟩
        rw [decide_eq_true hc] at hi
        cases hq : t.contains s[k] with
        | true=>rw [hq] at hi; cases hi
        | false=>simp
      simp only [go_sem,hlt,hg,s_IndexByte,hc,this]
    · rw [decide_eq_false hc] at hi
      have hq : t.contains s[k] = true:=by cases hq : t.contains s[k] with | true=>rfl | false=>rw [hq] at hi; cases hi
      simp only [go_sem,hlt,hg,s_IndexByte,hc,w2]
      exact ⟨k + 1,rfl,⟨by omega,by rw [List.take_succ_eq_append_getElem hlt,List.all_append,hp]; simp only [List.all_cons,List.all_nil,hq]; rfl⟩,by omega⟩
  · have ek : k = s.length := by omega
    subst ek
    rw [List.take_length] at hp
    simp only [go_sem,Nat.lt_irrefl,hp]
end Go.Am
end
section
/- Maps,asv lists of keys with values. -/
open Go
set_option linter.all false
namespace Go.Am
section
variable {α β : Type} [DecidableEq α]
def mesF (key : α → PV) (val : β → AV) : Nat → List (α × β) → List ME
  | _,[]=>[]
  | n,e :: r=>⟨key e.1,val e.2,n⟩ :: mesF key val (n + 1) r
def mobj (key : α → PV) (val : β → AV) (l : List (α × β)) : Obj:=.amap (mesF key val 0 l) l.length
def whereM (k : α) : List (α × β) → Option Nat
  | []=>none
  | e :: r=>if k = e.1 then some 0 else (whereM k r).map (· + 1)
def getM (k : α) : List (α × β) → Option β
  | []=>none
  | e :: r=>if k = e.1 then some e.2 else getM k r
def updM (k : α) (v : β) : List (α × β) → List (α × β)
  | []=>[(k,v)]
  | e :: r=>if k = e.1 then (k,v) :: r else e :: updM k v r
def KeyI (key : α → PV) : Prop:=∀ a b,PV.eqv (key a) (key b) = some (decide (a = b))
theorem keyI_int : KeyI (fun n : Int=>PV.int .i64 n):=fun a b=>by simp [PV.eqv,PV.eq1]
theorem keyOf_int {n : Int} {k : IntKind} : keyOf (none,[0]) (.p (.int k n)) = some (.int k n):=by simp [keyOf,PV.key,PV.shp,PV.sc,PV.cells,PV.kind]
variable {key : α → PV} {val : β → AV}
theorem mfind_mes (hk : KeyI key) (k : α) : ∀ (l : List (α × β)) (n : Nat),mfind (key k) (mesF key val n l) = some (whereM k l)
  | [],n=>rfl
  | e :: r,n=>by
    simp only [mesF,mfind,hk k e.1,whereM]
    by_cases h : k = e.1
    · simp [h]
    · simp [h,mfind_mes hk k r (n + 1)]
theorem mes_get : ∀ (l : List (α × β)) (n i : Nat),(mesF key val n l)[i]? = (l[i]?).map fun e=>⟨key e.1,val e.2,n + i⟩
  | [],n,i=>rfl
  | e :: r,n,0=>rfl
  | e :: r,n,i + 1=>by simp only [mesF,List.getElem?_cons_succ,mes_get r (n + 1) i]; rw [show n + 1 + i = n + (i + 1) by omega]
theorem where_lt {k : α} : ∀ {l : List (α × β)} {i : Nat},whereM k l = some i → i < l.length
  | [],i,h=>by cases h
  | e :: r,i,h=>by
    unfold whereM at h
    split at h
    · cases h; simp
    · obtain ⟨j, hj, e2⟩ := Option.map_eq_some_iff.1 h
      have:=where_lt hj
      simp; omega
theorem where_get {k : α} : ∀ {l : List (α × β)} {i : Nat},whereM k l = some i → l[i]? = (getM k l).map fun v=>(k,v)
  | [],i,h=>by cases h
  | e :: r,i,h=>by
    unfold whereM at h
    unfold getM
    split at h
    · rename_i hk; cases h; simp [hk]
    · rename_i hk
      obtain ⟨j,hj,e2⟩:=Option.map_eq_some_iff.1 h
      subst e2
      rw [if_neg hk,List.getElem?_cons_succ]
      exact where_get hj
theorem where_none {k : α} : ∀ {l : List (α × β)},whereM k l = none → getM k l = none
  | [],h=>rfl
  | e :: r,h=>by
    unfold whereM at h
    unfold getM
    split at h
    · cases h
    · rename_i hk
      rw [if_neg hk]
      exact where_none (by simpa using h)
theorem where_some {k : α} : ∀ {l : List (α × β)} {i : Nat},whereM k l = some i → (getM k l).isSome = true
  | [],i,h=>by cases h
  | e :: r,i,h=>by
    unfold whereM at h
    unfold getM
    split at h
    · rename_i hk; simp [hk]
    · rename_i hk
      obtain ⟨j,hj,e2⟩:=Option.map_eq_some_iff.1 h
      rw [if_neg hk]
      exact where_some hj
theorem look_val {k : α} {l : List (α × β)} {n : Nat} : ((whereM k l).bind fun i=>(mesF key val n l)[i]?).map ME.val = (getM k l).map val:=by
  cases h : whereM k l with
  | none=>rw [where_none h]; rfl
  | some i=>
    simp only [Option.bind_some,mes_get,where_get h]
    cases getM k l <;> rfl
theorem upd_none {k : α} {v : β} : ∀ {l : List (α × β)},whereM k l = none → updM k v l = l ++ [(k,v)]
  | [],h=>rfl
  | e :: r,h=>by
    unfold whereM at h
    unfold updM
    split at h
    · cases h
    · rename_i hk
      rw [if_neg hk,upd_none (by simpa using h)]; rfl
theorem upd_some {k : α} {v : β} : ∀ {l : List (α × β)} {i : Nat},whereM k l = some i → updM k v l = l.set i (k,v)
  | [],i,h=>by cases h
  | e :: r,i,h=>by
    unfold whereM at h
    unfold updM
    split at h
    · rename_i hk; cases h; simp [hk]
    · rename_i hk
      obtain ⟨j,hj,e2⟩:=Option.map_eq_some_iff.1 h
      subst e2
      rw [if_neg hk,upd_some hj]; rfl
theorem mes_snoc (k : α) (v : β) : ∀ (l : List (α × β)) (n : Nat),mesF key val n (l ++ [(k,v)]) = mesF key val n l ++ [⟨key k,val v,n + l.length⟩]
  | [],n=>rfl
  | e :: r,n=>by simp only [List.cons_append,mesF,mes_snoc k v r (n + 1),List.length_cons]; rw [show n + 1 + r.length = n + (r.length + 1) by omega]
theorem mes_modify {k : α} {v : β} {l : List (α × β)} {i n : Nat} (h : whereM k l = some i) : (mesF key val n l).modify i (fun e=>{ e with val:=val v }) = mesF key val n (l.set i (k,v)):=by
  apply List.ext_getElem?
  intro j
  rw [List.getElem?_modify,mes_get,mes_get,List.getElem?_set]
  have hi:=where_lt h
  have hg:=where_get h
  by_cases hij : i = j
  · subst hij
    rw [hg]
    simp only [if_true,hi]
    obtain ⟨w,hw⟩:=Option.isSome_iff_exists.1 (where_some h)
    rw [hw]; rfl
  · simp [hij]
variable {h : Heap} {id : Nat} {l : List (α × β)} {kk : Sh × List Nat} {k : α}
theorem mget_mes (hh : h[id]? = some (mobj key val l)) : mget h (.mp id) = some (id,mesF key val 0 l,l.length):=by
  simp only [mget,hh,mobj]
theorem look_mes (hk : KeyI key) (hh : h[id]? = some (mobj key val l)) (hq : keyOf kk (.p (key k)) = some (key k)) {ok : Bool} {z : AV} :
    oLook kk ok z (.mp id) (.p (key k)) h = some (bif ok then .tup [((getM k l).map val).getD z,AV.p (.bool (getM k l).isSome)] else ((getM k l).map val).getD z):=by
  simp only [oLook,hq,mget_mes hh,Option.map_some,mfind_mes hk,look_val,Option.isSome_map]
  rfl
theorem mupd_mes (hk : KeyI key) (hh : h[id]? = some (mobj key val l)) (hq : keyOf kk (.p (key k)) = some (key k)) {v : β} (hv : okIn (val v) = true) :
    oMupd kk (.mp id) (.p (key k)) (val v) h = some (.und,h.set id (mobj key val (updM k v l)),escOf id (val v)):=by
  simp only [oMupd,hq,mget_mes hh,hv,mfind_mes hk]
  cases hw : whereM k l with
  | none=>
    simp only [mobj,upd_none hw,mes_snoc,List.length_append,List.length_cons,List.length_nil,Nat.zero_add]
  | some i=>
    simp only [mobj,upd_some hw,mes_modify hw,List.length_set]
end
end Go.Am
end
section
/- Lists of strings sorted,left out: printed by program. -/
open Go
set_option linter.unusedSimpArgs false
namespace Go.Am
attribute [-go_sem] PV.cells splice
variable {h : Heap} {K : Post}
end Go.Am
end
section
/- Finding values in lists: printed by program. -/
open Go
set_option linter.unusedSimpArgs false
namespace Go.Am
attribute [-go_sem] PV.cells
variable {h : Heap} {K : Post}
theorem IndexFunc_int {v : AV} {g : Nat} {caps : List AV} {p : PV → Bool} {xs : List PV} (hv : Shows none v xs h) (hp : Tells g caps p xs h) (hl : xs.length ≤ 1000000000) :
    ACall X f_q034 [v,.fn g caps] h K = K (AI (idxP p xs)) h []:=by
  refine rule ?_
  rw [c_q034]
  have vl:=hv.len
  simp only [d_q034,go_sem,vl]
  refine N_loop (fun k : Nat=>⟨[(0,v),(1,.fn g caps),(7,AI xs.length),(8,AI k)],h,[]⟩) (fun k=>k ≤ xs.length ∧ ∀ x ∈ xs.take k,p x = false) (fun k=>xs.length - k) 0 rfl (by simp) ?_
  rintro k ⟨hk,hn⟩
  rcases Nat.lt_or_ge k xs.length with hlt | hge
  · obtain ⟨a, ha, hb⟩ := hv.get k hlt
    have w2 : IntKind.i64.wrap ((k : Int) + 1) = ((k + 1 : Nat) : Int):=i64_wrap _ (by omega) (by omega)
    have ht:=hp _ (List.getElem_mem hlt)
    cases hpk : p xs[k] with
    | true=>
      have hf : xs.findIdx p = k:=by
        rw [List.findIdx_eq hlt]
        refine ⟨hpk,fun j hj=>?_⟩
        have:=hn xs[j] (by rw [List.mem_take_iff_getElem]; exact ⟨j,by omega,rfl⟩)
        simpa using this
      simp only [go_sem,hlt,ha,hb,ht,hpk,w2]
      simp only [idxP,hf,hlt,if_true]
    | false=>
      simp only [go_sem,hlt,ha,hb,ht,hpk,w2]
      refine ⟨k + 1,rfl,⟨by omega,fun x hx=>?_⟩,by omega⟩
      rw [List.take_succ_eq_append_getElem hlt,List.mem_append,List.mem_singleton] at hx
      rcases hx with hx | hx
      · exact hn x hx
      · rw [hx]; exact hpk
  · have e1 : k = xs.length := by omega
    subst e1
    simp only [go_sem,Nat.lt_irrefl]
    rw [List.take_length] at hn
    have : ¬ xs.findIdx p < xs.length:=by
      rw [Nat.not_lt,Nat.le_iff_lt_or_eq]; right
      exact (List.findIdx_eq_length.2 (fun x hx=>by simp [hn x hx])).symm
    simp [idxP,this]
theorem ContainsFunc_int {g : Nat} {caps : List AV} {p : PV → Bool} {xs : List PV} (hp : Tells g caps p xs h) (hs : shps none xs) (hl : xs.length ≤ 1000000000) :
    ACall X f_q02y [.p (.sl none xs),.fn g caps] h K = K (AB (xs.any p)) h []:=by
  refine rule ?_
  rw [c_q02y]
  have vi:=fun K=>IndexFunc_int (h:=h) (K:=K) (shows_sl hs) hp hl
  simp only [d_q02y,go_sem,vi,idxP_any]
end Go.Am
end
section
/- Limits: what they are,what is wrong with them. -/
open Go
namespace Go.Am
variable {h : Heap} {K : Post}
structure Lim where
  key : List UInt8
  lo : Int
  hi : Int
  bin : Int
def Lim.pv (x : Lim) : PV:=.agg [.str x.key,eI x.lo,eI x.hi,eI x.bin]
end Go.Am
end
section
/- What is wrong with limits,both ways: printed by program. -/
open Go
set_option linter.unusedSimpArgs false
namespace Go.Am
variable {h : Heap} {K : Post}
end Go.Am
end
section
/- Package lot on measured values,and what the reference says of them. -/
open Go
namespace Go.Am
variable {h : Heap} {K : Post}
end Go.Am
end
section
/- Records: what they are,what is wrong with them. -/
open Go
set_option linter.unusedSimpArgs false
namespace Go.Am
variable {h : Heap} {K : Post}
theorem retK_keep {b : Nat} {P : Post} {vs : List AV} {h : Heap} : retK true b P (some vs) h [] = P (oneOf vs) (h.take (max b (oneOf vs).top)) []:=by
  simp [retK,close,closed]
attribute [go_sem] retK_keep
structure Rec where
  unit : List UInt8
  time : Int
  site : List UInt8
  res : List Int
def Rec.pv (r : Rec) : PV:=.agg [.str r.unit,eI r.time,.str r.site,.sl none (r.res.map eI)]
end Go.Am
end
section
/- What is drawn: numbers,measured values. -/
open Go
namespace Go.Am
variable {L : List Int} {a : Int}
theorem g_Odd (hp : posN 14 a) (u v : Int) (huv : u ≤ v) (hu : -1000000000000 ≤ u) (hv : v ≤ 1000000000000) : ∃ k a2 : Int,a ≤ a2 ∧ a2 ≤ a + 2 ∧ -1099511627776 ≤ k ∧ k ≤ 1099511627776 ∧
    Gen f_q026 [AI u,AI v] L a a2 (AI k):=by
  have w1 : IntKind.i64.wrap (u - 1) = u - 1:=i64_wrap _ (by omega) (by omega)
  have w2 : IntKind.i64.wrap (v + 1) = v + 1:=i64_wrap _ (by omega) (by omega)
  by_cases hf : nextV L a 12 = 0
  · have hm := pickV_mem (L := L) (a := a + 1) (l := [u - 1, v + 1, u, v, -1099511627776, 1099511627776]) (by simp) (by simp)
    simp only [List.mem_cons,List.not_mem_nil,or_false] at hm
    refine ⟨pickV [u - 1,v + 1,u,v,-1099511627776,1099511627776] L (a + 1),a + 1 + 1,by omega,by omega,by omega,by omega,Gen.of fun h id hid=>?_⟩
    rw [c_q026 rfl]
    simp only [d_q026,go_sem,hid,posAll hp,hf,w1,w2]
  · have hm := rangeV_bd L (a + 1) huv (by omega)
    refine ⟨rangeV u v L (a + 1),a + 1 + 1,by omega,by omega,by omega,by omega,Gen.of fun h id hid=>?_⟩
    rw [c_q026 rfl]
    simp only [d_q026,go_sem,hid,posAll hp,hf,w1,w2,huv,show -1152921504606846976 ≤ u by omega,show v ≤ 1152921504606846976 by omega]
end Go.Am
end
section
/- Strings that are drawn. -/
open Go
set_option linter.unusedSimpArgs false
namespace Go.Am
variable {L : List Int} {a : Int} {h l : Heap} {id : Nat} {K : Post}
def isS : PV → Bool
  | .str _=>true
  | _=>false
def unS : PV → List UInt8
  | .str s=>s
  | _=>[]
def pickS (l : List (List UInt8)) (L : List Int) (a : Int) : List UInt8:=l.getD (nextV L a l.length).toNat []
theorem pickS_mem {l : List (List UInt8)} {L : List Int} {a : Int} (hl : 0 < l.length) (hl2 : l.length < 4611686018427387904) : pickS l L a ∈ l:=by
  obtain ⟨b1,b2⟩:=nextV_bd L a l.length (by omega) (by omega)
  unfold pickS
  have : (nextV L a l.length).toNat < l.length:=by omega
  simp only [List.getD,List.getElem?_eq_getElem this,Option.getD_some]
  exact List.getElem_mem _
theorem unS_map {xs : List PV} (h : xs.all isS = true) : xs = (xs.map unS).map PV.str:=by
  induction xs with
  | nil=>rfl
  | cons x r ih=>
    simp only [List.all_cons,Bool.and_eq_true] at h
    simp only [List.map_cons]
    rw [← ih h.2]
    cases x <;> first | rfl | cases h.1
theorem g_Some (hp : posN 0 a) (xs : List PV) (hx : xs.all isS = true) (hl : 0 < xs.length) (hl2 : xs.length < 4611686018427387904) :
    Gen f_q02b [.p (.sl none xs)] L a (a + 1) (AS (pickS (xs.map unS) L a)):=by
  refine Gen.of fun h id hid=>?_
  rw [c_q02b rfl]
  obtain ⟨b1,b2⟩:=nextV_bd L a xs.length (by omega) (by omega)
  have e4:=natOf_int (k:=.i64) b1
  have e5 : xs[(nextV L a xs.length).toNat]? = some (.str (pickS (xs.map unS) L a)):=by
      have hm:=unS_map hx
      generalize hq : xs.map unS = q at *
      subst hm
      simp only [List.length_map] at *
      rw [map_get PV.str (show (nextV L a q.length).toNat < q.length by omega)]
      simp [pickS,List.getD,show (nextV L a q.length).toNat < q.length by omega]
  simp only [d_q02b,go_sem,s_Next_set hid hp,e4,e5]
theorem s_Some_set (hid : id < h.length) (hp : posN 0 a) {xs : List PV} (hx : xs.all isS = true) (hl : 0 < xs.length) (hl2 : xs.length < 4611686018427387904) :
    ACall X f_q02b [.ref id 0,.p (.sl none xs)] (h.set id (strm L a)) K = K (AS (pickS (xs.map unS) L a)) (h.set id (strm L (a + 1))) []:=(g_Some hp xs hx hl hl2).set hid
theorem s_Some_app (hid : id < h.length) (hp : posN 0 a) {xs : List PV} (hx : xs.all isS = true) (hl : 0 < xs.length) (hl2 : xs.length < 4611686018427387904) :
    ACall X f_q02b [.ref id 0,.p (.sl none xs)] (h.set id (strm L a) ++ l) K = K (AS (pickS (xs.map unS) L a)) (h.set id (strm L (a + 1)) ++ l) []:=(g_Some hp xs hx hl hl2).app hid
theorem s_Some_hd (hp : posN 0 a) {xs : List PV} (hx : xs.all isS = true) (hl : 0 < xs.length) (hl2 : xs.length < 4611686018427387904) :
    ACall X f_q02b [.ref 0 0,.p (.sl none xs)] (strm L a :: l) K = K (AS (pickS (xs.map unS) L a)) (strm L (a + 1) :: l) []:=(g_Some hp xs hx hl hl2).hd
attribute [go_sem ↓] s_Some_set s_Some_app s_Some_hd
attribute [go_sem] s_Some_set s_Some_app s_Some_hd isS unS
end Go.Am
end
section
/- What is drawn: strings,limits. -/
open Go
set_option linter.unusedSimpArgs false
namespace Go.Am
variable {L : List Int} {a : Int} {h l : Heap} {id : Nat} {K : Post}
end Go.Am
end
section
/- Records: what is wrong with them,both ways. -/
open Go
set_option linter.unusedSimpArgs false
namespace Go.Am
variable {h : Heap} {K : Post}
end Go.Am
end
section
/- Sorting records: printed by program. -/
open Go
set_option linter.unusedSimpArgs false
namespace Go.Am
attribute [-go_sem] PV.cells splice
variable {h : Heap} {K : Post}
end Go.Am
end
section
/- Leaving out what is alike: printed by program. -/
open Go
set_option linter.unusedSimpArgs false
namespace Go.Am
attribute [-go_sem] PV.cells splice
variable {h : Heap} {K : Post}
end Go.Am
end
section
/- What is drawn: records. -/
open Go
set_option linter.unusedSimpArgs false
namespace Go.Am
variable {L : List Int} {a : Int} {h l : Heap} {id : Nat} {K : Post}
theorem close_out {b : Nat} {x : Esc} (hx : ∀ y ∈ x,b ≤ y.1) : ∀ k,close k x b = b:=by
  have hb : bump x b = b:=by
    unfold bump
    induction x with
    | nil=>rfl
    | cons y r ih=>
      simp only [List.foldl_cons]
      rw [if_neg (by have:=hx y (by simp); omega)]
      exact ih (fun z hz=>hx z (by simp [hz]))
  intro k
  induction k with
  | zero=>rfl
  | succ k ih=>unfold close; rw [hb,ih]
end Go.Am
end
section
/- Merging two ordered lists: by sorting and leaving out what is alike,and by looking each one up. Plain lists. -/
namespace Go.Am
variable {α : Type}
structure Ordr (c : α → α → Int) : Prop where
  neg : ∀ a b,c b a = - c a b
  trans : ∀ a b d,c a b ≤ 0 → c b d ≤ 0 → c a d ≤ 0
theorem Ordr.refl {c : α → α → Int} (o : Ordr c) (a : α) : c a a = 0:=by have:=o.neg a a; omega
variable {c : α → α → Int} {q : α → α → Bool} {a b : List α}
end Go.Am
end
section
/- Records alike; copies; bins. -/
open Go
set_option linter.unusedSimpArgs false
namespace Go.Am
variable {h : Heap} {K : Post}
def sameR (a b : Rec) : Bool:=decide (a.unit = b.unit) && (decide (a.time = b.time) && (decide (a.site = b.site) && decide (a.res = b.res)))
theorem sameR_iff (a b : Rec) : sameR a b = true ↔ a = b:=by
  cases a; cases b
  simp [sameR]
theorem retK_out {b : Nat} {P : Post} {vs : List AV} {h : Heap} {x : Esc} (hx : ∀ y ∈ x,b ≤ y.1) {v : AV} (h1 : reif b h (oneOf vs) = some v) (h2 : v.top ≤ b) : retK false b P (some vs) h x = P v (h.take b) []:=by
  have e : max b v.top = b:=by omega
  have c : closed x b = true:=by
    unfold closed
    rw [List.all_eq_true]
    intro y hy
    simp [hx y hy]
  have f : x.filter (fun y=>decide (y.1 < b)) = []:=by
    rw [List.filter_eq_nil_iff]
    intro y hy
    have:=hx y hy
    simp; omega
  simp only [retK,h1,e,close_out hx,c,if_true,f]
  exact propext ⟨fun h=>h.2,fun h=>⟨h2,h⟩⟩
end Go.Am
end
section
/- Sorting numbers: printed by program. -/
open Go
set_option linter.unusedSimpArgs false
namespace Go.Am
attribute [-go_sem] PV.cells splice
variable {h : Heap} {K : Post}
end Go.Am
end
section
/- Bins,both ways; lists joined; records sorted. -/
open Go
set_option linter.unusedSimpArgs false
namespace Go.Am
variable {h : Heap} {K : Post}
end Go.Am
end
section
/- Lists of records joined,compared,merged. -/
open Go
set_option linter.unusedSimpArgs false
namespace Go.Am
variable {h : Heap} {K : Post}
instance : DecidableEq Rec:=fun a b=>decidable_of_iff (sameR a b = true) (sameR_iff a b)
end Go.Am
end
section
/- Records merged asv the reference does it. -/
open Go
set_option linter.unusedSimpArgs false
namespace Go.Am
variable {h : Heap} {K : Post}
end Go.Am
end
section
/- Retests: which record of a unit counts. Plain lists; both ways yield the same. -/
set_option linter.all false
namespace Go.Am
end Go.Am
end
section
/- Lists of strings. -/
open Go
set_option linter.all false
namespace Go.Am
variable {h : Heap} {K : Post}
theorem X_ex2 : X.ex2 = libF GRL PRL:=rfl
abbrev AStr (us : List (List UInt8)) : AV:=.p (.sl none (us.map PV.str))
end Go.Am
end
section
/- Tests and faults: what is wrong with them,both ways. -/
open Go
set_option linter.all false
namespace Go.Am
variable {h : Heap} {K : Post}
theorem s_Trim (s cs : List UInt8) (hs : s.length ≤ 1000000) (hc : cs.length ≤ 1000) (ha : cs.all (fun b=>decide (b.toNat < 128)) = true) : ACall X f_q04g [AS s,AS cs] h K = K (AS (trimL s cs)) h []:=by
  refine lib_call (X:=X) (by kernel_rfl) ?_
  rw [X_ex2]
  exact libF_pure (vs:=[.str s,.str cs]) (by kernel_rfl) (s:=trimS) (by kernel_rfl) rfl (by simp only [trimS]; rw [if_pos ⟨hs,hc,ha⟩])
theorem s_BitsP (s : List UInt8) (hs : s.length ≤ 1000000) : ACall X f_q000 [AS s] h K = K (AB (bitsB s)) h []:=by
  refine rule ?_
  rw [c_q000 rfl]
  have e:=fun h K=>s_Trim (h:=h) (K:=K) s [48,49] hs (by simp) (by decide)
  have b : decide (trimL s [48,49] = []) = bitsB s:=trim_bits s
  simp only [d_q000,go_sem,e,b]
theorem s_BitsQ (s : List UInt8) (hs : s.length ≤ 1000000) : ACall X f_q02c [AS s] h K = K (AB (bitsB s)) h []:=by
  refine rule ?_
  rw [c_q02c rfl]
  have e:=fun h K=>s_only (h:=h) (K:=K) s [48,49] (by omega)
  have b : (s.all fun c=>[48,49].contains c) = bitsB s:=rfl
  simp only [d_q02c,go_sem,e,b]
theorem s_CheckTest (t : List (List UInt8)) (hb : ∀ s ∈ t,s.length ≤ 1000000) (hn : t.length ≤ 1000000) : ACall X f_q00w [AStr t] h K = K (AI (testF t)) h []:=by
  refine rule ?_
  rw [c_q00w rfl]
  unfold testF
  by_cases h0 : t.length = 0
  · simp only [d_q00w,go_sem,h0]
  have h0' : ¬ ((t.length : Int) = 0):=by omega
  by_cases h1 : 100 < t.length
  · have h1' : (100 : Int) < (t.length : Int) := by omega
    simp only [d_q00w,go_sem,h0',h0,h1,h1']
  have h1' : ¬ (100 : Int) < (t.length : Int):=by omega
  simp only [d_q00w,go_sem,h0',h0,h1,h1']
  obtain ⟨lg,hlg⟩ : ∃ n,(t.headD []).length = n:=⟨_,rfl⟩
  rw [hlg]
  refine N_loop (fun k : Nat=>⟨[(0,AStr t),(13,AStr t),(14,AI t.length),(15,AI k)],h,[]⟩) (fun k=>k ≤ t.length ∧ testL lg (t.drop k) = testL lg t) (fun k=>t.length - k) 0 rfl ⟨by omega,by simp⟩ ?_
  rintro k ⟨hk,hp⟩
  rcases Nat.lt_or_ge k t.length with hlt | hge
  · have hg := map_get PV.str hlt
    have hg0:=map_get PV.str (show 0 < t.length by omega)
    have cz : cutP none 0 (PV.str t[k]) = some (PV.str t[k]):=rfl
    have hz : t[0].length = lg:=by
      rw [← hlg]
      cases t with
      | nil=>exact absurd rfl h0
      | cons a r=>rfl
    have w2 : IntKind.i64.wrap ((k : Int) + 1) = ((k + 1 : Nat) : Int):=i64_wrap _ (by omega) (by omega)
    have eb:=fun h K=>s_BitsP (h:=h) (K:=K) t[k] (hb _ (List.getElem_mem hlt))
    rw [List.drop_eq_getElem_cons hlt,testL] at hp
    cases hbb : bitsB t[k] with
    | false=>
      rw [hbb] at hp
      simp only [if_true] at hp
      rw [← hp]
      simp only [go_sem,hlt,hg,eb,hbb]
    | true=>
      rw [hbb] at hp
      simp only [Bool.true_eq_false,if_false] at hp
      by_cases h2 : 64 < t[k].length
      · have h2' : (64 : Int) < (t[k].length : Int) := by omega
        rw [if_pos h2] at hp
        rw [← hp]
        simp only [go_sem,hlt,hg,eb,hbb,h2']
      · have h2' : ¬ (64 : Int) < (t[k].length : Int) := by omega
        rw [if_neg h2] at hp
        by_cases h3 : t[k].length = lg
        · have h3' : ((t[k].length : Int) = (lg : Int)) := by omega
          rw [if_neg (by omega)] at hp
          have h2'' : ¬ (64 : Int) < (lg : Int):=by omega
          simp only [go_sem,hlt,hg,hg0,hz,eb,hbb,h2',h2'',h3',w2]
          exact ⟨k + 1,rfl,⟨by omega,hp⟩,by omega⟩
        · have h3' : ¬ ((t[k].length : Int) = (lg : Int)) := by omega
          rw [if_pos h3] at hp
          rw [← hp]
          simp only [go_sem,hlt,hg,hg0,hz,eb,hbb,h2',h3']
  · have e1 : k = t.length := by omega
    subst e1
    rw [List.drop_length] at hp
    rw [← hp]
    simp only [go_sem,Nat.lt_irrefl]
    rfl
theorem s_TestFault (t : List (List UInt8)) (hb : ∀ s ∈ t,s.length ≤ 1000000) (hn : t.length ≤ 1000000) : ACall X f_q02j [AStr t] h K = K (AI (testF t)) h []:=by
  refine rule ?_
  rw [c_q02j rfl]
  unfold testF
  by_cases h0 : t.length = 0
  · simp only [d_q02j,go_sem,h0]
  have h0' : ¬ ((t.length : Int) = 0):=by omega
  by_cases h1 : 100 < t.length
  · have h1' : (100 : Int) < (t.length : Int) := by omega
    simp only [d_q02j,go_sem,h0',h0,h1,h1']
  have h1' : ¬ (100 : Int) < (t.length : Int):=by omega
  simp only [d_q02j,go_sem,h0',h0,h1,h1']
  obtain ⟨lg,hlg⟩ : ∃ n,(t.headD []).length = n:=⟨_,rfl⟩
  rw [hlg]
  refine N_loop (fun k : Nat=>⟨[(0,AStr t),(13,AStr t),(14,AI t.length),(15,AI k)],h,[]⟩) (fun k=>k ≤ t.length ∧ testL lg (t.drop k) = testL lg t) (fun k=>t.length - k) 0 rfl ⟨by omega,by simp⟩ ?_
  rintro k ⟨hk,hp⟩
  rcases Nat.lt_or_ge k t.length with hlt | hge
  · have hg := map_get PV.str hlt
    have hg0:=map_get PV.str (show 0 < t.length by omega)
    have cz : cutP none 0 (PV.str t[k]) = some (PV.str t[k]):=rfl
    have hz : t[0].length = lg:=by
      rw [← hlg]
      cases t with
      | nil=>exact absurd rfl h0
      | cons a r=>rfl
    have w2 : IntKind.i64.wrap ((k : Int) + 1) = ((k + 1 : Nat) : Int):=i64_wrap _ (by omega) (by omega)
    have eb:=fun h K=>s_BitsQ (h:=h) (K:=K) t[k] (hb _ (List.getElem_mem hlt))
    rw [List.drop_eq_getElem_cons hlt,testL] at hp
    cases hbb : bitsB t[k] with
    | false=>
      rw [hbb] at hp
      simp only [if_true] at hp
      rw [← hp]
      simp only [go_sem,hlt,hg,eb,hbb]
    | true=>
      rw [hbb] at hp
      simp only [Bool.true_eq_false,if_false] at hp
      by_cases h2 : 64 < t[k].length
      · have h2' : (64 : Int) < (t[k].length : Int) := by omega
        rw [if_pos h2] at hp
        rw [← hp]
        simp only [go_sem,hlt,hg,eb,hbb,h2']
      · have h2' : ¬ (64 : Int) < (t[k].length : Int) := by omega
        rw [if_neg h2] at hp
        by_cases h3 : t[k].length = lg
        · have h3' : ((t[k].length : Int) = (lg : Int)) := by omega
          rw [if_neg (by omega)] at hp
          have h2'' : ¬ (64 : Int) < (lg : Int):=by omega
          simp only [go_sem,hlt,hg,hg0,hz,eb,hbb,h2',h2'',h3',w2]
          exact ⟨k + 1,rfl,⟨by omega,hp⟩,by omega⟩
        · have h3' : ¬ ((t[k].length : Int) = (lg : Int)) := by omega
          rw [if_pos h3] at hp
          rw [← hp]
          simp only [go_sem,hlt,hg,hg0,hz,eb,hbb,h2',h3']
  · have e1 : k = t.length := by omega
    subst e1
    rw [List.drop_length] at hp
    rw [← hp]
    simp only [go_sem,Nat.lt_irrefl]
    rfl
end Go.Am
end
section
/- Faults: what is wrong with them,both ways. -/
open Go
set_option linter.all false
namespace Go.Am
variable {h : Heap} {K : Post}
def Flt.pv (f : Flt) : PV:=.agg [eI f.kind,.sl none (f.nets.map eI)]
abbrev AFlt (l : List Flt) : AV:=.p (.sl (some 2) (l.map Flt.pv))
theorem IndexI {v : AV} (l : List Int) (hv : Shows none v (l.map eI) h) (x : Int) (hl : l.length ≤ 1000000) : ACall X f_q036 [v,AI x] h K = K (AI (if l.findIdx (fun y=>decide (y = x)) < l.length then (l.findIdx (fun y=>decide (y = x)) : Int) else -1)) h []:=by
  refine rule ?_
  rw [c_q036]
  have vl:=hv.len
  rw [List.length_map] at vl
  simp only [d_q036,go_sem,vl]
  refine N_loop (fun k : Nat=>⟨[(0,v),(1,AI x),(7,AI l.length),(8,AI k)],h,[]⟩) (fun k=>k ≤ l.length ∧ ∀ y ∈ l.take k,decide (y = x) = false) (fun k=>l.length - k) 0 rfl (by simp) ?_
  rintro k ⟨hk,hn⟩
  rcases Nat.lt_or_ge k l.length with hlt | hge
  · obtain ⟨a, ha, hb⟩ := hv.get k (by simpa using hlt)
    rw [List.getElem_map] at hb
    have w2 : IntKind.i64.wrap ((k : Int) + 1) = ((k + 1 : Nat) : Int):=i64_wrap _ (by omega) (by omega)
    by_cases hpk : x = l[k]
    · have hf : l.findIdx (fun y=>decide (y = x)) = k:=by
        rw [List.findIdx_eq hlt]
        refine ⟨by simp [hpk],fun j hj=>?_⟩
        have:=hn l[j] (by rw [List.mem_take_iff_getElem]; exact ⟨j,by omega,rfl⟩)
        simpa using this
      simp only [go_sem,hlt,ha,hb,hpk.symm,w2]
      simp only [hf,hlt,if_true]
    · simp only [go_sem, hlt, ha, hb, hpk, w2]
      refine ⟨k + 1,rfl,⟨by omega,fun y hy=>?_⟩,by omega⟩
      rw [List.take_succ_eq_append_getElem hlt,List.mem_append,List.mem_singleton] at hy
      rcases hy with hy | hy
      · exact hn y hy
      · rw [hy]; simp; exact fun e=>hpk e.symm
  · have e1 : k = l.length := by omega
    subst e1
    simp only [go_sem,Nat.lt_irrefl]
    rw [List.take_length] at hn
    have : ¬ l.findIdx (fun y=>decide (y = x)) < l.length:=by
      rw [Nat.not_lt,Nat.le_iff_lt_or_eq]; right
      exact (List.findIdx_eq_length.2 (fun y hy=>by simp [hn y hy])).symm
    rw [if_neg this]
theorem ContainsI {v : AV} (l : List Int) (hv : ∀ h' : Heap,h' = h → Shows none v (l.map eI) h') (x : Int) (hl : l.length ≤ 1000000) : ACall X f_q02z [v,AI x] h K = K (AB (l.contains x)) h []:=by
  refine rule ?_
  rw [c_q02z]
  have e:=fun K=>IndexI (h:=h) (K:=K) l (hv h rfl) x hl
  have hd : decide (0 ≤ (if l.findIdx (fun y=>decide (y = x)) < l.length then (l.findIdx (fun y=>decide (y = x)) : Int) else -1)) = l.contains x:=by
    rw [Bool.eq_iff_iff,decide_eq_true_eq,List.contains_iff_mem]
    constructor
    · intro hq
      split at hq
      · rename_i hlt
        have:=List.findIdx_getElem (w:=hlt)
        simp only [decide_eq_true_eq] at this
        exact this ▸ List.getElem_mem hlt
      · omega
    · intro hm
      rw [if_pos (List.findIdx_lt_length_of_exists ⟨x,hm,by simp⟩)]; omega
  simp only [d_q02z,go_sem,e,hd]
theorem s_ContainsI (l : List Int) (x : Int) (hl : l.length ≤ 1000000) : ACall X f_q02z [AL l,AI x] h K = K (AB (l.contains x)) h []:=ContainsI l (fun h' _=>shows_sl shps_eI) x hl
def riseV (f : Flt) (r : List Int) : Int:=if risL r = false then 7 else if f.kind = 5 ∧ r.contains (f.nets.headD 0) = true then 6 else 0
theorem head_get {l : List Int} (hl : 0 < l.length) : (l.map eI)[0]? = some (eI (l.headD 0)):=by
  cases l with
  | nil=>simp at hl
  | cons a r=>rfl
theorem rise_P (f : Flt) (r : List Int) (hr : r.length ≤ 1000000) (h0 : 0 < f.nets.length) {id : Nat} (hh : h[id]? = some (.box [AI f.kind,AL f.nets])) {K : Ex → St → Prop} (hK : K .ret ⟨[(4,AI (riseV f r))],h,[]⟩) :
    d_q00v_k4 (ACall X) X.gl p_q00v_k2 p_q00v_k3 (.ref id 0) (AL r) h [] K:=by
  simp only [d_q00v_k4,go_sem]
  refine N_loop (fun k : Nat=>⟨[(3,.ref id 0),(7,AL r),(8,AI ((k + 1 : Nat) : Int))],h,[]⟩) (fun k=>(k + 1 ≤ r.length ∨ k = 0) ∧ risL (r.drop k) = risL r) (fun k=>r.length - k) 0 rfl ⟨.inr rfl,by simp⟩ ?_
  rintro k ⟨hk,hp⟩
  rcases Nat.lt_or_ge (k + 1) r.length with hlt | hge
  · have g1 := map_get eI (show k < r.length by omega)
    have g2:=map_get eI hlt
    have w1 : IntKind.i64.wrap (((k + 1 : Nat) : Int) - 1) = (k : Int):=by rw [i64_wrap _ (by omega) (by omega)]; omega
    have w2 : IntKind.i64.wrap (((k + 1 : Nat) : Int) + 1) = ((k + 1 + 1 : Nat) : Int):=i64_wrap _ (by omega) (by omega)
    rw [risL_take r k hlt] at hp
    by_cases hq : r[k + 1] ≤ r[k]
    · have : ¬ r[k] < r[k + 1] := by omega
      simp only [this,decide_false,Bool.false_and] at hp
      simp only [go_sem,hlt,g1,g2,w1,hq]
      have e : riseV f r = 7:=by unfold riseV; rw [← hp]; rfl
      rw [e] at hK
      exact hK
    · have : r[k] < r[k + 1] := by omega
      simp only [this,decide_true,Bool.true_and] at hp
      simp only [go_sem,hlt,g1,g2,w1,w2,hq]
      exact ⟨k + 1,rfl,⟨.inl (by omega),hp⟩,by omega⟩
  · have hge' : ¬ (((k + 1 : Nat) : Int) < (r.length : Int)) := by omega
    rw [risL_end r k hge] at hp
    have c:=fun h K=>s_ContainsI (h:=h) (K:=K) r (f.nets.headD 0) hr
    have g0:=head_get h0
    unfold riseV at hK
    rw [← hp] at hK
    simp only [Bool.true_eq_false,if_false] at hK
    by_cases h5 : f.kind = 5
    · cases hc : r.contains (f.nets.headD 0) with
      | true=>
        rw [hc] at hK
        simp only [h5,and_self,if_true] at hK
        rw [h5] at hh
        simp only [go_sem,hge',hh,c,g0,hc]
        exact hK
      | false=>
        rw [hc] at hK
        simp only [Bool.false_eq_true,and_false,if_false] at hK
        rw [h5] at hh
        simp only [go_sem,hge',hh,c,g0,hc]
        exact hK
    · simp only [h5, false_and, if_false] at hK
      simp only [go_sem,hge',hh,h5]
      exact hK
theorem rise_Q (f : Flt) (r : List Int) (hr : r.length ≤ 1000000) (h0 : 0 < f.nets.length) {id : Nat} (hh : h[id]? = some (.box [AI f.kind,AL f.nets])) {K : Ex → St → Prop} (hK : K .ret ⟨[(4,AI (riseV f r))],h,[]⟩) :
    d_q02e_k3 (ACall X) X.gl p_q02e_k1 p_q02e_k2 (.ref id 0) (AL r) h [] K:=by
  simp only [d_q02e_k3,go_sem]
  refine N_loop (fun k : Nat=>⟨[(3,.ref id 0),(5,AL r),(6,AI ((k + 1 : Nat) : Int))],h,[]⟩) (fun k=>(k + 1 ≤ r.length ∨ k = 0) ∧ risL (r.drop k) = risL r) (fun k=>r.length - k) 0 rfl ⟨.inr rfl,by simp⟩ ?_
  rintro k ⟨hk,hp⟩
  rcases Nat.lt_or_ge (k + 1) r.length with hlt | hge
  · have g1 := map_get eI (show k < r.length by omega)
    have g2:=map_get eI hlt
    have w1 : IntKind.i64.wrap (((k + 1 : Nat) : Int) - 1) = (k : Int):=by rw [i64_wrap _ (by omega) (by omega)]; omega
    have w2 : IntKind.i64.wrap (((k + 1 : Nat) : Int) + 1) = ((k + 1 + 1 : Nat) : Int):=i64_wrap _ (by omega) (by omega)
    rw [risL_take r k hlt] at hp
    by_cases hq : r[k + 1] ≤ r[k]
    · have : ¬ r[k] < r[k + 1] := by omega
      simp only [this,decide_false,Bool.false_and] at hp
      simp only [go_sem,hlt,g1,g2,w1,hq]
      have e : riseV f r = 7:=by unfold riseV; rw [← hp]; rfl
      rw [e] at hK
      exact hK
    · have : r[k] < r[k + 1] := by omega
      simp only [this,decide_true,Bool.true_and] at hp
      simp only [go_sem,hlt,g1,g2,w1,w2,hq]
      exact ⟨k + 1,rfl,⟨.inl (by omega),hp⟩,by omega⟩
  · have hge' : ¬ (((k + 1 : Nat) : Int) < (r.length : Int)) := by omega
    rw [risL_end r k hge] at hp
    have c:=fun h K=>s_ContainsI (h:=h) (K:=K) r (f.nets.headD 0) hr
    have g0:=head_get h0
    unfold riseV at hK
    rw [← hp] at hK
    simp only [Bool.true_eq_false,if_false] at hK
    by_cases h5 : f.kind = 5
    · cases hc : r.contains (f.nets.headD 0) with
      | true=>
        rw [hc] at hK
        simp only [h5,and_self,if_true] at hK
        rw [h5] at hh
        simp only [go_sem,hge',hh,c,g0,hc]
        exact hK
      | false=>
        rw [hc] at hK
        simp only [Bool.false_eq_true,and_false,if_false] at hK
        rw [h5] at hh
        simp only [go_sem,hge',hh,c,g0,hc]
        exact hK
    · simp only [h5, false_and, if_false] at hK
      simp only [go_sem,hge',hh,h5]
      exact hK
theorem s_isShort (k : Int) : ACall X f_q013 [AI k] h K = K (AB (shortK k)) h []:=by
  refine rule ?_
  rw [c_q013 rfl]
  have e : (!(decide (k < 3) || decide (5 < k))) = shortK k:=by unfold shortK; rw [Bool.eq_iff_iff]; simp
  simp only [d_q013,go_sem,s_Out,e]
theorem s_short (k : Int) : ACall X f_q02o [AI k] h K = K (AB (shortK k)) h []:=by
  refine rule ?_
  rw [c_q02o rfl]
  simp only [d_q02o,go_sem,s_in]
  rfl
theorem any_drop {p : Int → Bool} {l : List Int} {k : Nat} (hk : k < l.length) (hp : (l.drop k).any p = l.any p) : (p l[k] || (l.drop (k + 1)).any p) = l.any p:=by
  rw [List.drop_eq_getElem_cons hk,List.any_cons] at hp
  exact hp
attribute [-go_sem] d_q00v_k4 d_q02e_k3
theorem s_CheckFault (n : Int) (f : Flt) (hn : -1000000000000000 ≤ n) (hl : f.nets.length ≤ 1000000) : ACall X f_q00v [AI n,.p f.pv] h K = K (AI (fltF n f)) h []:=by
  refine rule ?_
  rw [c_q00v rfl]
  unfold fltF
  by_cases h1 : n < 1 ∨ 100 < n
  · have e : (decide (n < 1) || decide (100 < n)) = true := by rw [Bool.or_eq_true, decide_eq_true_eq, decide_eq_true_eq]; exact h1
    simp only [d_q00v,Flt.pv,go_sem,s_Out,e,h1]
  have e1 : (decide (n < 1) || decide (100 < n)) = false:=by rw [Bool.or_eq_false_iff,decide_eq_false_iff_not,decide_eq_false_iff_not]; omega
  by_cases h2 : f.kind < 1 ∨ 6 < f.kind
  · have e : (decide (f.kind < 1) || decide (6 < f.kind)) = true := by rw [Bool.or_eq_true, decide_eq_true_eq, decide_eq_true_eq]; exact h2
    simp only [d_q00v,Flt.pv,go_sem,s_Out,e1,e,h1,h2]
  have e2 : (decide (f.kind < 1) || decide (6 < f.kind)) = false:=by rw [Bool.or_eq_false_iff,decide_eq_false_iff_not,decide_eq_false_iff_not]; omega
  by_cases h3 : f.nets.length = 0
  · simp only [d_q00v,Flt.pv,go_sem,s_Out,e1,e2,h1,h2,h3]
  have h3' : ¬ ((f.nets.length : Int) = 0):=by omega
  by_cases h4 : 6 < f.nets.length
  · have h4' : (6 : Int) < f.nets.length := by omega
    simp only [d_q00v,Flt.pv,go_sem,s_Out,e1,e2,h1,h2,h3,h3',h4,h4']
  have h4' : ¬ (6 : Int) < f.nets.length:=by omega
  simp only [d_q00v,Flt.pv,go_sem,s_Out,e1,e2,h1,h2,h3,h3',h4,h4']
  refine N_loop (fun k : Nat=>⟨[(0,AI n),(3,.ref h.length 0),(27,AL f.nets),(28,AI f.nets.length),(29,AI k)],h ++ [.box [AI f.kind,AL f.nets]],[]⟩) (fun k=>k ≤ f.nets.length ∧ (f.nets.drop k).any (outN n) = f.nets.any (outN n)) (fun k=>f.nets.length - k) 0 rfl ⟨by omega,by simp⟩ ?_
  rintro k ⟨hk,hp⟩
  have w1 : IntKind.i64.wrap (n - 1) = n - 1:=i64_wrap _ (by omega) (by omega)
  rcases Nat.lt_or_ge k f.nets.length with hlt | hge
  · have hg := map_get eI hlt
    have w2 : IntKind.i64.wrap ((k : Int) + 1) = ((k + 1 : Nat) : Int):=i64_wrap _ (by omega) (by omega)
    have hp2:=any_drop hlt hp
    cases ho : outN n f.nets[k] with
    | true=>
      rw [ho,Bool.true_or] at hp2
      unfold outN at ho
      simp only [go_sem,hlt,hg,w1,s_Out,ho,← hp2]
    | false=>
      rw [ho,Bool.false_or] at hp2
      unfold outN at ho
      simp only [go_sem,hlt,hg,w1,s_Out,ho,w2]
      exact ⟨k + 1,rfl,⟨by omega,hp2⟩,by omega⟩
  · have e1 : k = f.nets.length := by omega
    subst e1
    rw [List.drop_length] at hp
    rw [← hp]
    simp only [List.any_nil,Bool.false_eq_true,if_false]
    have hi : (1 < (f.nets.length : Int)) = (1 < f.nets.length):=by simp only [eq_iff_iff]; omega
    have h0 : 0 < f.nets.length:=by omega
    have hh : (h ++ [Obj.box [AI f.kind,AL f.nets]])[h.length]? = some (.box [AI f.kind,AL f.nets]):=app_get0 _ _
    have R:=fun r hr (K : Ex → St → Prop)=>rise_P (h:=h ++ [Obj.box [AI f.kind,AL f.nets]]) f r hr h0 hh (K:=K)
    obtain ⟨kd,ns⟩:=f
    dsimp only at *
    have hw : win (ns.map eI) 1 (ns.length - 1) = (ns.drop 1).map eI:=by rw [win_map]; congr 1; unfold win; exact List.take_of_length_le (by simp)
    have hle : 1 ≤ ns.length:=h0
    by_cases h6 : kd = 5
    · subst h6
      have s5 : shortK 5 = true:=rfl
      by_cases hm : 1 < ns.length
      · have q := R (ns.drop 1) (by simp; omega)
        simp only [go_sem,Nat.lt_irrefl,s_isShort,s5,hi,hm,hw,hle]
        refine q _ ?_
        simp only [go_sem,riseV]
      · simp only [go_sem,Nat.lt_irrefl,s_isShort,s5,hi,hm]
    · have q := R ns hl
      cases hs : shortK kd with
      | true=>
        by_cases hm : 1 < ns.length
        · simp only [go_sem, Nat.lt_irrefl, s_isShort, hs, hi, hm, h6]
          refine q _ ?_
          simp only [go_sem,riseV,h6]
        · simp only [go_sem,Nat.lt_irrefl,s_isShort,hs,hi,hm]
      | false=>
        by_cases hm : 1 < ns.length
        · simp only [go_sem,Nat.lt_irrefl,s_isShort,hs,hi,hm]
        · simp only [go_sem, Nat.lt_irrefl, s_isShort, hs, hi, hm, h6]
          refine q _ ?_
          simp only [go_sem,riseV,h6]
theorem s_FF1 (n x : Int) (hn : -1000000000000000 ≤ n) (hn2 : n ≤ 100) (id : Nat) (hh : h[id]? = some (.box [AI n])) : ACall X f_q02f [AI x,.ref id 0] h K = K (AB (outN n x)) h []:=by
  refine rule ?_
  rw [c_q02f rfl]
  have w1 : IntKind.i64.wrap (n - 1) = n - 1:=i64_wrap _ (by omega) (by omega)
  have e : (!(decide (0 ≤ x) && decide (x ≤ n - 1))) = outN n x:=by
    unfold outN; rw [Bool.eq_iff_iff]; simp
  simp only [d_q02f,go_sem,hh,w1,s_in,e]
theorem s_FaultFault (n : Int) (f : Flt) (hn : -1000000000000000 ≤ n) (hl : f.nets.length ≤ 1000000) : ACall X f_q02e [AI n,.p f.pv] h K = K (AI (fltF n f)) h []:=by
  refine rule ?_
  rw [c_q02e rfl]
  unfold fltF
  by_cases h1 : n < 1 ∨ 100 < n
  · have e : (decide (1 ≤ n) && decide (n ≤ 100)) = false := by rw [Bool.and_eq_false_iff, decide_eq_false_iff_not, decide_eq_false_iff_not]; omega
    simp only [d_q02e,Flt.pv,go_sem,s_in,e,h1]
  have e1 : (decide (1 ≤ n) && decide (n ≤ 100)) = true:=by rw [Bool.and_eq_true,decide_eq_true_eq,decide_eq_true_eq]; omega
  by_cases h2 : f.kind < 1 ∨ 6 < f.kind
  · have e : (decide (1 ≤ f.kind) && decide (f.kind ≤ 6)) = false := by rw [Bool.and_eq_false_iff, decide_eq_false_iff_not, decide_eq_false_iff_not]; omega
    simp only [d_q02e,Flt.pv,go_sem,s_in,e1,e,h1,h2]
  have e2 : (decide (1 ≤ f.kind) && decide (f.kind ≤ 6)) = true:=by rw [Bool.and_eq_true,decide_eq_true_eq,decide_eq_true_eq]; omega
  by_cases h3 : f.nets.length = 0
  · simp only [d_q02e,Flt.pv,go_sem,s_in,e1,e2,h1,h2,h3]
  have h3' : ¬ ((f.nets.length : Int) = 0):=by omega
  by_cases h4 : 6 < f.nets.length
  · have h4' : (6 : Int) < f.nets.length := by omega
    simp only [d_q02e,Flt.pv,go_sem,s_in,e1,e2,h1,h2,h3,h3',h4,h4']
  have h4' : ¬ (6 : Int) < f.nets.length:=by omega
  have T : Tells f_q02f [.ref h.length 0] (fun x=>outN n (unI x)) (f.nets.map eI) (h ++ [.box [AI n],.box [AI f.kind,AL f.nets]]):=by
    intro x hx K
    obtain ⟨m,_,rfl⟩:=List.mem_map.1 hx
    exact s_FF1 n m hn (by omega) h.length (by rw [app_get0]; rfl)
  have C:=fun K=>ContainsFunc_int (K:=K) T shps_eI (by simp; omega)
  have ea : (f.nets.map eI).any (fun x=>outN n (unI x)) = f.nets.any (outN n):=by rw [List.any_map]; rfl
  rw [ea] at C
  cases ha : f.nets.any (outN n) with
  | true=>
    rw [ha] at C
    simp only [d_q02e,Flt.pv,go_sem,s_in,e1,e2,h1,h2,h3,h3',h4,h4',C]
  | false=>
  rw [ha] at C
  simp only [d_q02e,Flt.pv,go_sem,s_in,e1,e2,h1,h2,h3,h3',h4,h4',C]
  have hi : (1 < (f.nets.length : Int)) = (1 < f.nets.length):=by simp only [eq_iff_iff]; omega
  have h0 : 0 < f.nets.length:=by omega
  have hh : (h ++ [.box [AI n],Obj.box [AI f.kind,AL f.nets]])[h.length + 1]? = some (.box [AI f.kind,AL f.nets]):=by rw [app_get]; rfl
  have R:=fun r hr (K : Ex → St → Prop)=>rise_Q (h:=h ++ [.box [AI n],Obj.box [AI f.kind,AL f.nets]]) f r hr h0 hh (K:=K)
  obtain ⟨kd,ns⟩:=f
  dsimp only at *
  have hw : win (ns.map eI) 1 (ns.length - 1) = (ns.drop 1).map eI:=by rw [win_map]; congr 1; unfold win; exact List.take_of_length_le (by simp)
  have hle : 1 ≤ ns.length:=h0
  by_cases h6 : kd = 5
  · subst h6
    have s5 : shortK 5 = true:=rfl
    by_cases hm : 1 < ns.length
    · have q := R (ns.drop 1) (by simp; omega)
      simp only [go_sem,s_short,s5,hi,hm,hw,hle]
      refine q _ ?_
      simp only [go_sem,riseV]
    · simp only [go_sem,s_short,s5,hi,hm]
  · have q := R ns hl
    cases hs : shortK kd with
    | true=>
      by_cases hm : 1 < ns.length
      · simp only [go_sem, s_short, hs, hi, hm, h6]
        refine q _ ?_
        simp only [go_sem,riseV,h6]
      · simp only [go_sem,s_short,hs,hi,hm]
    | false=>
      by_cases hm : 1 < ns.length
      · simp only [go_sem,s_short,hs,hi,hm]
      · simp only [go_sem, s_short, hs, hi, hm, h6]
        refine q _ ?_
        simp only [go_sem,riseV,h6]
end Go.Am
end
section
/- Lists of faults: what is wrong with them,both ways. -/
open Go
set_option linter.all false
namespace Go.Am
variable {h : Heap} {K : Post}
theorem flt_cut {f : Flt} : cutP (some 2) 0 f.pv = some f.pv:=rfl
def allF (t : List (List UInt8)) (l : List Flt) : Int:=if testF t ≠ 0 then testF t else fltsF t.length l
theorem s_faultsFault (t : List (List UInt8)) (l : List Flt) (hb : ∀ s ∈ t,s.length ≤ 1000000) (ht : t.length ≤ 1000000) (hf : ∀ f ∈ l,f.nets.length ≤ 1000000) (hn : l.length ≤ 1000000) : ACall X f_q012 [AStr t,AFlt l] h K = K (AI (allF t l)) h []:=by
  refine rule ?_
  rw [c_q012 rfl]
  have c:=fun h K=>s_CheckTest (h:=h) (K:=K) t hb ht
  unfold allF
  by_cases h1 : testF t = 0
  case neg=>simp only [d_q012,go_sem,c,h1]
  simp only [d_q012,go_sem,c,h1]
  refine N_loop (fun k : Nat=>⟨[(0,AStr t),(14,AFlt l),(15,AI l.length),(16,AI k)],h,[]⟩) (fun k=>k ≤ l.length ∧ fltsF (t.length : Int) (l.drop k) = fltsF (t.length : Int) l) (fun k=>l.length - k) 0 rfl ⟨by omega,by simp⟩ ?_
  rintro k ⟨hk,hp⟩
  rcases Nat.lt_or_ge k l.length with hlt | hge
  · have hg := map_get Flt.pv hlt
    have w2 : IntKind.i64.wrap ((k : Int) + 1) = ((k + 1 : Nat) : Int):=i64_wrap _ (by omega) (by omega)
    have e:=fun h K=>s_CheckFault (h:=h) (K:=K) (t.length : Int) l[k] (by omega) (hf _ (List.getElem_mem hlt))
    have cx:=flt_cut (f:=l[k])
    rw [List.drop_eq_getElem_cons hlt,fltsF] at hp
    simp only [Flt.pv] at hg cx e
    by_cases h2 : fltF (t.length : Int) l[k] = 0
    · rw [if_neg (by simp [h2])] at hp
      simp only [go_sem,hlt,hg,cx,e,h2,w2]
      exact ⟨k + 1,rfl,⟨by omega,hp⟩,by omega⟩
    · rw [if_pos h2] at hp
      simp only [go_sem,hlt,hg,cx,e,h2]
      rw [← hp]
  · have ek : k = l.length := by omega
    subst ek
    rw [List.drop_length] at hp
    simp only [go_sem,Nat.lt_irrefl]
    rw [← hp]; rfl
end Go.Am
end
section
/- Rows of a test asv numbers. -/
open Go
set_option linter.all false
namespace Go.Am
variable {h : Heap} {K : Post}
abbrev eU (n : Nat) : PV:=.int .u64 (n : Int)
theorem testL_ok {lg : Nat} : ∀ {t : List (List UInt8)},testL lg t = 0 → ∀ s ∈ t,bitsB s = true ∧ s.length = lg ∧ s.length ≤ 64
  | [],_,s,hs=>by cases hs
  | a :: r,h,s,hs=>by
    unfold testL at h
    split at h
    · cases h
    split at h
    · cases h
    split at h
    · cases h
    rename_i h1 h2 h3
    rcases List.mem_cons.1 hs with rfl | hs
    · exact ⟨by simpa using h1,by simpa using h3,by omega⟩
    · exact testL_ok h s hs
structure TestOk (t : List (List UInt8)) (lg : Nat) : Prop where
  n0 : 0 < t.length
  n1 : t.length ≤ 100
  l : lg ≤ 64
  b : ∀ s ∈ t,bitsB s = true
  e : ∀ s ∈ t,s.length = lg
theorem testF_ok {t : List (List UInt8)} (h : testF t = 0) : TestOk t (t.headD []).length:=by
  unfold testF at h
  split at h
  · cases h
  split at h
  · cases h
  have k:=testL_ok h
  have hm : t.headD [] ∈ t:=by
    cases t with
    | nil=>rename_i h0 _; exact absurd rfl h0
    | cons a r=>exact List.mem_cons_self ..
  exact ⟨by omega,by omega,(k _ hm).2.2,fun s hs=>(k s hs).1,fun s hs=>(k s hs).2.1⟩
theorem s_rows (t : List (List UInt8)) (hb : ∀ s ∈ t,bitsB s = true) (hl : ∀ s ∈ t,s.length ≤ 64) (hn : t.length ≤ 1000000) : ACall X f_q015 [AStr t] h K = K (.own h.length t.length 0 t.length) (h ++ [.row none ((t.map rowN).map eU) 0]) []:=by
  refine rule ?_
  rw [c_q015 rfl]
  simp only [d_q015,go_sem]
  refine N_loop (fun k : Nat=>⟨[(3,.own h.length k 0 k),(8,AStr t),(9,AI t.length),(10,AI k)],h ++ [.row none (((t.take k).map rowN).map eU) 0],[]⟩) (fun k=>k ≤ t.length) (fun k=>t.length - k) 0 rfl (by omega) ?_
  intro k hk
  rcases Nat.lt_or_ge k t.length with hlt | hge
  · have hg := map_get PV.str hlt
    have w2 : IntKind.i64.wrap ((k : Int) + 1) = ((k + 1 : Nat) : Int):=i64_wrap _ (by omega) (by omega)
    have b1:=hb _ (List.getElem_mem hlt)
    have l1:=hl _ (List.getElem_mem hlt)
    have cx : cutP none 0 (PV.str t[k]) = some (PV.str t[k]):=rfl
    simp only [go_sem,hlt,hg,cx]
    generalize hs : t[k] = s at *
    refine N_loop (fun i : Nat=>⟨[(3,.own h.length k 0 k),(5,AS s),(6,.p (eU (rowN (s.take i)))),(8,AStr t),(9,AI t.length),(10,AI k),(15,AI s.length),(16,AI i)],h ++ [.row none (((t.take k).map rowN).map eU) 0],[]⟩) (fun i=>i ≤ s.length) (fun i=>s.length - i) 0 rfl (by omega) ?_
    intro i hi
    rcases Nat.lt_or_ge i s.length with hlt2 | hge2
    · have g2 : s[i]? = some s[i] := List.getElem?_eq_getElem hlt2
      have w3 : IntKind.i64.wrap ((i : Int) + 1) = ((i + 1 : Nat) : Int):=i64_wrap _ (by omega) (by omega)
      have bt:=bit_at hlt2 b1
      have e1 : IntKind.u8.wrap ((s[i].toNat : Int) - 48) = ((s[i].toNat - 48 : Nat) : Int):=by
        rcases bt with e | e <;> rw [e] <;> rfl
      have hsm : s[i].toNat - 48 ≤ 1:=by rcases bt with e | e <;> rw [e] <;> decide
      have e2 : IntKind.u64.wrap ((s[i].toNat - 48 : Nat) : Int) = ((s[i].toNat - 48 : Nat) : Int):=u64w _ (by omega)
      have hp : (2 : Nat) ^ i ≤ 2 ^ 63:=Nat.pow_le_pow_right (by omega) (by omega)
      have hp2 : (2 : Nat) ^ 63 = 9223372036854775808:=rfl
      have hm : (s[i].toNat - 48) * 2 ^ i ≤ 1 * 2 ^ i:=Nat.mul_le_mul_right _ hsm
      have e3:=ishl_nat (a:=s[i].toNat - 48) (i:=i) (by omega) (by omega)
      have hr:=rowN_lt (s.take i) (bitsB_take i b1)
      rw [List.length_take,Nat.min_eq_left (by omega)] at hr
      have e4:=ior_nat (a:=rowN (s.take i)) (b:=(s[i].toNat - 48) * 2 ^ i) (by omega) (by omega)
      rw [rowN_take_succ hlt2 b1] at e4
      have hneg : ¬ ((i : Int) < 0):=by omega
      simp only [go_sem,hlt2,g2,e1,e2,e3,e4,w3,hneg]
      exact ⟨i + 1,rfl,by omega,by omega⟩
    · have ei : i = s.length := by omega
      subst ei
      have hmx : k + 1 ≤ maxSl:=by unfold maxSl; omega
      have hlen : (((t.take k).map rowN).map eU).length = k:=by simp; omega
      simp only [go_sem,Nat.lt_irrefl,List.take_length,w2,hmx,hlen]
      refine ⟨k + 1,?_,by omega,by omega⟩
      rw [List.take_succ_eq_append_getElem hlt,hs]
      simp
  · have ek : k = t.length := by omega
    subst ek
    simp only [go_sem,Nat.lt_irrefl,List.take_length]
    exact List.take_of_length_le (by simp)
theorem s_whole (n : Nat) (hn : n ≤ 64) : ACall X f_q017 [AI n] h K = K (.p (eU (2 ^ n - 1))) h []:=by
  refine rule ?_
  rw [c_q017 rfl]
  have hneg : ¬ ((n : Int) < 0):=by omega
  have hpos:=Nat.two_pow_pos n
  have e : IntKind.u64.wrap (ishl .u64 1 (n : Int) - 1) = ((2 ^ n - 1 : Nat) : Int):=by
    by_cases h64 : n = 64
    · subst h64; rfl
    · have hp : (2 : Nat) ^ n ≤ 2 ^ 63 := Nat.pow_le_pow_right (by omega) (by omega)
      have hp2 : (2 : Nat) ^ 63 = 9223372036854775808:=rfl
      have:=ishl_nat (a:=1) (i:=n) hn (by omega)
      rw [Nat.one_mul] at this
      rw [show ((1 : Nat) : Int) = 1 from rfl] at this
      rw [this,show ((2 ^ n : Nat) : Int) - 1 = ((2 ^ n - 1 : Nat) : Int) by omega]
      exact u64w _ (by omega)
  simp only [d_q017,go_sem,hneg,e]
end Go.Am
end
section
/- Faults on rows: what the program makes of them. -/
open Go
set_option linter.all false
namespace Go.Am
variable {h : Heap} {K : Post}
theorem set_app_get {h t : Heap} {id : Nat} (hid : id < h.length) (o : Obj) : (h.set id o ++ t)[id]? = some o:=by
  rw [List.getElem?_append_left (by simpa using hid)]; exact set_get' hid
theorem set_app_set {h t : Heap} {id : Nat} (hid : id < h.length) (o o' : Obj) : (h.set id o ++ t).set id o' = h.set id o' ++ t:=by
  rw [List.set_append_left _ _ (by simpa using hid),List.set_set]
theorem set_app_take {h t : Heap} {id : Nat} (o : Obj) : (h.set id o ++ t).take h.length = h.set id o:=by
  have : h.length = (h.set id o).length:=by simp
  rw [this,List.take_left]
theorem set_app_box {h : Heap} {id : Nat} (o b : Obj) : (h.set id o ++ [b])[h.length]? = some b:=by
  have : h.length = (h.set id o).length:=by simp
  rw [this,app_get0]; rfl
theorem fold_take {f : Nat → Int → Nat} {v : Nat} {l : List Int} {k : Nat} (hk : k < l.length) : (l.take (k + 1)).foldl f v = f ((l.take k).foldl f v) l[k]:=by
  rw [List.take_succ_eq_append_getElem hk,List.foldl_append]; rfl
theorem rowAt_get {r : List Nat} {n : Int} (h0 : 0 ≤ n) (h1 : n < r.length) : (r.map eU)[n.toNat]? = some (eU (rowAt r n)):=by
  rw [map_get eU (show n.toNat < r.length by omega)]
  unfold rowAt
  simp [List.getD_eq_getElem?_getD,List.getElem?_eq_getElem (show n.toNat < r.length by omega)]
def NetsIn (ns : List Int) (n : Nat) : Prop:=ns ≠ [] ∧ ns.length ≤ 1000 ∧ ∀ x ∈ ns,0 ≤ x ∧ x < n
theorem with_k5 (f : Flt) (r : List Nat) (v : Nat) (hf : NetsIn f.nets r.length) {id : Nat} (hid : id < h.length) (hr : r.length ≤ 1000000) {K : Ex → St → Prop}
    (hK : ∀ e,K .normal ⟨e,h.set id (.row none ((setNs v f.nets r).map eU) 0) ++ [.box [AI f.kind,AL f.nets]],[]⟩) :
    d_q018_k5 (ACall X) X.gl p_q018_k4 (.own id r.length 0 r.length) (.ref h.length 0) (.p (eU v)) (h.set id (.row none (r.map eU) 0) ++ [.box [AI f.kind,AL f.nets]]) [] K:=by
  have sg:=fun o=>set_app_get (t:=[.box [AI f.kind,AL f.nets]]) hid o
  have ss:=fun o o'=>set_app_set (t:=[.box [AI f.kind,AL f.nets]]) hid o o'
  have sb:=fun o=>set_app_box (h:=h) (id:=id) o (.box [AI f.kind,AL f.nets])
  simp only [d_q018_k5,go_sem,sb]
  refine N_loop (fun k : Nat=>⟨[(0,.own id r.length 0 r.length),(6,.p (eU v)),(61,AL f.nets),(62,AI f.nets.length),(63,AI k)],h.set id (.row none ((setNs v (f.nets.take k) r).map eU) 0) ++ [.box [AI f.kind,AL f.nets]],[]⟩) (fun k=>k ≤ f.nets.length) (fun k=>f.nets.length - k) 0 rfl (by omega) ?_
  intro k hk
  rcases Nat.lt_or_ge k f.nets.length with hlt | hge
  · have hg := map_get eI hlt
    have hn:=hf.2.2 _ (List.getElem_mem hlt)
    have w2 : IntKind.i64.wrap ((k : Int) + 1) = ((k + 1 : Nat) : Int):=i64_wrap _ (by have:=hf.2.1; omega) (by have:=hf.2.1; omega)
    have e4:=natOf_int (k:=.i64) hn.1
    have hl:=setNs_len v (f.nets.take k) r
    have hs : setNs v (f.nets.take (k + 1)) r = (setNs v (f.nets.take k) r).set f.nets[k].toNat v:=by rw [List.take_succ_eq_append_getElem hlt,setNs_snoc]
    have hlt3 : f.nets[k].toNat < r.length:=by omega
    have gq : ((setNs v (f.nets.take k) r).map eU)[f.nets[k].toNat]? = some (eU ((setNs v (f.nets.take k) r).getD f.nets[k].toNat 0)):=by
      rw [map_get eU (by rw [hl]; exact hlt3)]
      simp [List.getD_eq_getElem?_getD,List.getElem?_eq_getElem (show f.nets[k].toNat < (setNs v (f.nets.take k) r).length by rw [hl]; exact hlt3)]
    generalize setNs v (f.nets.take k) r = R at *
    generalize f.nets[k] = m at *
    simp only [go_sem,hlt,hg,e4,sg,ss,hl,hlt3,w2,gq]
    refine ⟨k + 1,?_,by omega,by omega⟩
    rw [hs,List.map_set]
  · have ek : k = f.nets.length := by omega
    subst ek
    simp only [go_sem,Nat.lt_irrefl,List.take_length]
    exact hK _
attribute [-go_sem] d_q018_k5
theorem with_val (f : Flt) (r : List Nat) (hf : NetsIn f.nets r.length) {id : Nat} (hid : id < h.length) (hr : r.length ≤ 1000000) (hb : ∀ x ∈ r,x < 18446744073709551616) (ones : Nat) :
    ACall X f_q018 [.own id r.length 0 r.length,.p f.pv,.p (eU ones)] (h.set id (.row none (r.map eU) 0)) K = K (.tup []) (h.set id (.row none ((fwithN r f ones).map eU) 0)) []:=by
  refine rule ?_
  rw [c_q018]
  have sg:=fun (t : Heap) o=>set_app_get (t:=t) hid o
  have sb:=fun o c=>set_app_box (h:=h) (id:=id) o c
  have st:=fun (t : Heap) o=>set_app_take (h:=h) (id:=id) (t:=t) o
  have h0 : 0 < f.nets.length:=by have:=hf.1; exact List.length_pos_iff.2 this
  have hhd : f.nets.headD 0 ∈ f.nets:=by
    cases hq : f.nets with
    | nil=>rw [hq] at h0; cases h0
    | cons a l=>simp
  have hn:=hf.2.2 _ hhd
  have g0:=head_get h0
  have e4:=natOf_int (k:=.i64) hn.1
  have hlt3 : (f.nets.headD 0).toNat < r.length:=by omega
  have gq:=rowAt_get (r:=r) hn.1 hn.2
  have W:=fun v K hK=>with_k5 (h:=h) f r v hf hid hr (K:=K) hK
  have fin : ∀ v,(d_q018_k5 (ACall X) X.gl p_q018_k4 (.own id r.length 0 r.length) (.ref h.length 0) (.p (eU v)) (h.set id (.row none (r.map eU) 0) ++ [.box [AI f.kind,AL f.nets]]) [] (finR [] false h.length fun v1 h1 x1=>v1 = AV.tup [] ∧ h1 = h.set id (.row none ((fwithN r f ones).map eU) 0) ∧ x1 = [])) ∨ v ≠ fvalN r f ones:=by
    intro v
    by_cases hv : v = fvalN r f ones
    · left
      refine W v _ (fun e=>?_)
      subst hv
      simp only [go_sem,st]
      rfl
    · right; exact hv
  have fin2 : ∀ v,v = fvalN r f ones → d_q018_k5 (ACall X) X.gl p_q018_k4 (.own id r.length 0 r.length) (.ref h.length 0) (.p (eU v)) (h.set id (.row none (r.map eU) 0) ++ [.box [AI f.kind,AL f.nets]]) [] (finR [] false h.length fun v1 h1 x1=>v1 = AV.tup [] ∧ h1 = h.set id (.row none ((fwithN r f ones).map eU) 0) ∧ x1 = []):=fun v hv=>(fin v).resolve_right (fun h=>h hv)
  clear fin W
  have hbq : ∀ n,rowAt r n < 18446744073709551616:=rowAt_lt hb (by omega)
  by_cases k1 : f.kind = 1
  · simp only [d_q018, Flt.pv, go_sem, sg, sb, g0, e4, hlt3, gq, k1, List.length_set]
    simp only [k1] at fin2
    exact fin2 0 (by simp [fvalN,k1])
  by_cases k2 : f.kind = 2
  · simp only [d_q018, Flt.pv, go_sem, sg, sb, g0, e4, hlt3, gq, k2, List.length_set]
    simp only [k2] at fin2
    exact fin2 ones (by simp [fvalN,k2])
  by_cases k6 : f.kind = 6
  · simp only [d_q018, Flt.pv, go_sem, sg, sb, g0, e4, hlt3, gq, k6, List.length_set]
    simp only [k6] at fin2
    exact fin2 ones (by simp [fvalN,k6])
  by_cases k3 : f.kind = 3
  · simp only [d_q018, Flt.pv, go_sem, sg, sb, g0, e4, hlt3, gq, k3, List.length_set]
    refine N_loop (fun k : Nat=>⟨[(0,.own id r.length 0 r.length),(4,.ref h.length 0),(6,.p (eU ((f.nets.take k).foldl (fun v n=>v &&& rowAt r n) (rowAt r (f.nets.headD 0))))),(31,AL f.nets),(32,AI f.nets.length),(33,AI k)],h.set id (.row none (r.map eU) 0) ++ [.box [AI 3,AL f.nets]],[]⟩) (fun k=>k ≤ f.nets.length) (fun k=>f.nets.length - k) 0 rfl (by omega) ?_
    intro k hk
    rcases Nat.lt_or_ge k f.nets.length with hlt | hge
    · have hg := map_get eI hlt
      have hnk:=hf.2.2 _ (List.getElem_mem hlt)
      have w2 : IntKind.i64.wrap ((k : Int) + 1) = ((k + 1 : Nat) : Int):=i64_wrap _ (by have:=hf.2.1; omega) (by have:=hf.2.1; omega)
      have e5:=natOf_int (k:=.i64) hnk.1
      have gk:=rowAt_get (r:=r) hnk.1 hnk.2
      have hlt4 : (f.nets[k]).toNat < r.length:=by omega
      have hfo:=fold_take (f:=fun v n=>v &&& rowAt r n) (v:=rowAt r (f.nets.headD 0)) hlt
      have hbd : (f.nets.take k).foldl (fun v n=>v &&& rowAt r n) (rowAt r (f.nets.headD 0)) < 18446744073709551616:=foldl_bdN (f:=(· &&& ·)) (fun a b ha hb=>by rw [← pow64] at *; exact Nat.lt_of_le_of_lt Nat.and_le_left ha) (rowAt r) hbq _ _ (hbq _)
      generalize (f.nets.take k).foldl (fun v n=>v &&& rowAt r n) (rowAt r (f.nets.headD 0)) = v at *
      have e6:=iand_nat hbd (hbq f.nets[k])
      generalize f.nets[k] = m at *
      simp only [go_sem,hlt,hg,sg,e5,gk,hlt4,e6,w2]
      exact ⟨k + 1,by rw [hfo],by omega,by omega⟩
    · have ek : k = f.nets.length := by omega
      subst ek
      simp only [go_sem,Nat.lt_irrefl,List.take_length]
      simp only [k3] at fin2
      exact fin2 _ (by simp [fvalN,k3])
  by_cases k4 : f.kind = 4
  · simp only [d_q018, Flt.pv, go_sem, sg, sb, g0, e4, hlt3, gq, k4, List.length_set]
    refine N_loop (fun k : Nat=>⟨[(0,.own id r.length 0 r.length),(4,.ref h.length 0),(6,.p (eU ((f.nets.take k).foldl (fun v n=>v ||| rowAt r n) (rowAt r (f.nets.headD 0))))),(47,AL f.nets),(48,AI f.nets.length),(49,AI k)],h.set id (.row none (r.map eU) 0) ++ [.box [AI 4,AL f.nets]],[]⟩) (fun k=>k ≤ f.nets.length) (fun k=>f.nets.length - k) 0 rfl (by omega) ?_
    intro k hk
    rcases Nat.lt_or_ge k f.nets.length with hlt | hge
    · have hg := map_get eI hlt
      have hnk:=hf.2.2 _ (List.getElem_mem hlt)
      have w2 : IntKind.i64.wrap ((k : Int) + 1) = ((k + 1 : Nat) : Int):=i64_wrap _ (by have:=hf.2.1; omega) (by have:=hf.2.1; omega)
      have e5:=natOf_int (k:=.i64) hnk.1
      have gk:=rowAt_get (r:=r) hnk.1 hnk.2
      have hlt4 : (f.nets[k]).toNat < r.length:=by omega
      have hfo:=fold_take (f:=fun v n=>v ||| rowAt r n) (v:=rowAt r (f.nets.headD 0)) hlt
      have hbd : (f.nets.take k).foldl (fun v n=>v ||| rowAt r n) (rowAt r (f.nets.headD 0)) < 18446744073709551616:=foldl_bdN (f:=(· ||| ·)) (fun a b ha hb=>by rw [← pow64] at *; exact Nat.or_lt_two_pow ha hb) (rowAt r) hbq _ _ (hbq _)
      generalize (f.nets.take k).foldl (fun v n=>v ||| rowAt r n) (rowAt r (f.nets.headD 0)) = v at *
      have e6:=ior_nat hbd (hbq f.nets[k])
      generalize f.nets[k] = m at *
      simp only [go_sem,hlt,hg,sg,e5,gk,hlt4,e6,w2]
      exact ⟨k + 1,by rw [hfo],by omega,by omega⟩
    · have ek : k = f.nets.length := by omega
      subst ek
      simp only [go_sem,Nat.lt_irrefl,List.take_length]
      simp only [k4] at fin2
      exact fin2 _ (by simp [fvalN,k4])
  · simp only [d_q018, Flt.pv, go_sem, sg, sb, g0, e4, hlt3, gq, k1, k2, k3, k4, k6, List.length_set]
    exact fin2 _ (by simp [fvalN,k1,k2,k3,k4,k6])
end Go.Am
end
section
/- Rows that are handed to a function: it sees their values. -/
open Go
namespace Go.Am
theorem arg_pur {X : Ctx} {f : Nat} {F : AFun} {a : List AV} {vs : List PV} {h h1 : Heap} {P : Post} (hf : X.fn f = some F) (hr : F.byref = false) (hp : puras h a = some (vs.map .p,h1)) (hq : puras h1 (vs.map .p) = some (vs.map .p,h1)) (hl : vs.length = F.nparams) (hlen : h1.length = h.length) : ACall X f a h P = ACall X f (vs.map .p) h1 P:=by
  cases hd : F.isDet with
  | false=>rw [call_val hf hr hp (by simpa using hl) hd,call_val hf hr hq (by simpa using hl) hd,hlen]
  | true=>rw [call_val_det hf hr hp (by simpa using hl) hd,call_val_det hf hr hq (by simpa using hl) hd,hlen]
theorem frz_len {h : Heap} {id k : Nat} : (frz h id k).length = h.length:=by
  unfold frz
  split <;> simp
end Go.Am
end
section
/- Responses,asv the program computes them. -/
open Go
set_option linter.all false
namespace Go.Am
variable {h : Heap} {K : Post}
theorem s_with (f : Flt) (r : List Nat) (hf : NetsIn f.nets r.length) {id : Nat} (hh : h[id]? = some (.row none (r.map eU) 0)) (hr : r.length ≤ 1000000) (hb : ∀ x ∈ r,x < 18446744073709551616) (ones : Nat) :
    ACall X f_q018 [.own id r.length 0 r.length,.p f.pv,.p (eU ones)] h K = K (.tup []) (h.set id (.row none ((fwithN r f ones).map eU) 0)) []:=by
  have:=with_val (h:=h) (K:=K) f r hf (get_lt hh) hr hb ones
  rw [set_self hh] at this
  exact this
theorem toB_map : ∀ s : List UInt8,toBytes (bytesP s) = some s
  | []=>rfl
  | c :: r=>by
    show toBytes (.int .u8 c.toNat :: bytesP r) = _
    unfold toBytes
    have : ((c.toNat : Int)) < 256:=by have:=c.toNat_lt; omega
    rw [if_pos ⟨by omega,this⟩,toB_map r]
    simp
theorem bit48 (b : Bool) : ((bitC b).toNat : Int) = 48 + ((if b = true then 1 else 0 : Nat) : Int):=by cases b <;> rfl
theorem textN_take_succ (k long n : Nat) : textN (k + 1) n = textN k n ++ [bitC (n.testBit k)]:=by
  unfold textN; rw [List.range_succ,List.map_append]; rfl
theorem s_texts (r : List Nat) (long : Nat) (hl : long ≤ 64) (hn : r.length ≤ 1000000) (hb : ∀ x ∈ r,x < 18446744073709551616) :
    ACall X f_q016 [.p (.sl none (r.map eU)),AI long] h K = K (AStr (r.map (textN long))) h []:=by
  refine rule ?_
  rw [c_q016 rfl]
  simp only [d_q016,go_sem]
  refine N_loop (fun k : Nat=>⟨[(1,AI long),(5,.own h.length k 0 k),(10,.p (.sl none (r.map eU))),(11,AI r.length),(12,AI k)],h ++ [.row none (((r.take k).map (textN long)).map PV.str) 0],[]⟩) (fun k=>k ≤ r.length) (fun k=>r.length - k) 0 rfl (by omega) ?_
  intro k hk
  rcases Nat.lt_or_ge k r.length with hlt | hge
  · have hg := map_get eU hlt
    have hx:=hb _ (List.getElem_mem hlt)
    have w2 : IntKind.i64.wrap ((k : Int) + 1) = ((k + 1 : Nat) : Int):=i64_wrap _ (by omega) (by omega)
    have hsn : (r.take (k + 1)).map (textN long) = (r.take k).map (textN long) ++ [textN long r[k]]:=by rw [List.take_succ_eq_append_getElem hlt,List.map_append]; rfl
    have hlen : (((r.take k).map (textN long)).map PV.str).length = k:=by simp; omega
    generalize ((r.take k).map (textN long)) = T at *
    generalize r[k] = n at *
    have hmx : long ≤ maxSl:=by unfold maxSl; omega
    have hmk : k + 1 ≤ maxSl:=by unfold maxSl; omega
    have hsz : PV.shp none (.int .u8 0) = true:=rfl
    simp only [go_sem,hlt,hg,hmx,hsz]
    refine N_loop (fun i : Nat=>⟨[(1,AI long),(5,.own h.length k 0 k),(7,.p (eU n)),(8,.own (h.length + 1) long 0 long),(10,.p (.sl none (r.map eU))),(11,AI r.length),(12,AI k),(19,AI long),(20,AI i)],h ++ [.row none (T.map PV.str) 0,.row none (bytesP (textN i n) ++ List.replicate (long - i) (.int .u8 0)) 0],[]⟩) (fun i=>i ≤ long) (fun i=>long - i) 0 rfl (by omega) ?_
    intro i hi
    rcases Nat.lt_or_ge i long with hlt2 | hge2
    · have w3 : IntKind.i64.wrap ((i : Int) + 1) = ((i + 1 : Nat) : Int) := i64_wrap _ (by omega) (by omega)
      have e1:=ishr_nat (a:=n) (i:=i) (by omega)
      have hd : n / 2 ^ i < 18446744073709551616:=Nat.lt_of_le_of_lt (Nat.div_le_self _ _) hx
      have e2:=iand_nat (a:=n / 2 ^ i) (b:=1) hd (by omega)
      rw [and_one] at e2
      have e3 : IntKind.u64.wrap (48 + ((if n.testBit i = true then 1 else 0 : Nat) : Int)) = ((bitC (n.testBit i)).toNat : Int):=by
        rw [← bit48]; cases n.testBit i <;> rfl
      have e4 : IntKind.u8.wrap ((bitC (n.testBit i)).toNat : Int) = ((bitC (n.testBit i)).toNat : Int):=by cases n.testBit i <;> rfl
      have hneg : ¬ ((i : Int) < 0):=by omega
      have hbl : (bytesP (textN i n)).length = i:=by simp [bytesP,textN]
      have hlr : (bytesP (textN i n) ++ List.replicate (long - i) (PV.int .u8 0)).length = long:=by rw [List.length_append,hbl,List.length_replicate]; omega
      have hgr : (bytesP (textN i n) ++ List.replicate (long - i) (PV.int .u8 0))[i]? = some (.int .u8 0):=by
        rw [List.getElem?_append_right (by omega),hbl,Nat.sub_self,List.getElem?_replicate]
        simp; omega
      have hst : (bytesP (textN i n) ++ List.replicate (long - i) (PV.int .u8 0)).set i (.int .u8 (bitC (n.testBit i)).toNat) = bytesP (textN (i + 1) n) ++ List.replicate (long - (i + 1)) (PV.int .u8 0):=by
        rw [List.set_append_right _ _ (by omega),hbl,Nat.sub_self]
        obtain ⟨m,hm⟩ : ∃ m,long - i = m + 1:=⟨long - i - 1,by omega⟩
        rw [hm,List.replicate_succ,List.set_cons_zero,show long - (i + 1) = m by omega,textN_take_succ i long n]
        simp [bytesP]
      rw [show ((1 : Nat) : Int) = 1 from rfl] at e2
      simp only [go_sem,hlt2,e1,hneg,e2,e3,e4,hlr,hgr,w3,hst]
      exact ⟨i + 1,rfl,by omega,by omega⟩
    · have ei : i = long := by omega
      subst ei
      have hbl : (bytesP (textN i n)).length = i:=by simp [bytesP,textN]
      have hwf : win (bytesP (textN i n)) 0 i = bytesP (textN i n):=win_full (by omega)
      have tb:=toB_map (textN i n)
      simp only [go_sem,Nat.lt_irrefl,Nat.sub_self,List.replicate_zero,List.append_nil,rd,hbl,hwf,tb,aconv,rds,hmk,hlen,w2]
      refine ⟨k + 1,?_,by omega,by omega⟩
      rw [hsn]
      simp
  · have ek : k = r.length := by omega
    subst ek
    simp only [go_sem,Nat.lt_irrefl,List.take_length]
    rw [win_full (by simp)]
theorem s_textsOwn (r : List Nat) (long : Nat) (hl : long ≤ 64) (hn : r.length ≤ 1000000) (hb : ∀ x ∈ r,x < 18446744073709551616) {id : Nat} (hh : h[id]? = some (.row none (r.map eU) 0)) :
    ACall X f_q016 [.own id r.length 0 r.length,AI long] h K = K (AStr (r.map (textN long))) (frz h id r.length) []:=by
  have e:=arg_pur (X:=X) (f:=f_q016) (F:=a_q016) (a:=[.own id r.length 0 r.length,AI long]) (vs:=[.sl none (r.map eU),.int .i64 long]) (h:=h) (h1:=frz h id r.length) (P:=K) x_q016 rfl
    (by
      have : win (r.map eU) 0 r.length = r.map eU:=win_full (by simp)
      simp [puras,pur,rd,hh,this]) rfl rfl frz_len
  rw [e]
  exact s_texts r long hl hn hb
theorem fltF_ok {n : Int} {f : Flt} (h : fltF n f = 0) : f.nets ≠ [] ∧ f.nets.length ≤ 6 ∧ (∀ x ∈ f.nets,0 ≤ x ∧ x < n) ∧ 1 ≤ f.kind ∧ f.kind ≤ 6 ∧ shortK f.kind = decide (1 < f.nets.length):=by
  unfold fltF at h
  split at h
  · cases h
  split at h
  · cases h
  split at h
  · cases h
  split at h
  · cases h
  split at h
  · cases h
  split at h
  · cases h
  rename_i h1 h2 h3 h4 h5 h6
  refine ⟨fun e=>h3 (by rw [e]; rfl),by omega,fun x hx=>?_,by omega,by omega,Decidable.not_not.1 h6⟩
  have : outN n x = false:=by
    cases hq : outN n x with
    | false=>rfl
    | true=>exact absurd (List.any_eq_true.2 ⟨x,hx,hq⟩) h5
  unfold outN at this
  rw [Bool.or_eq_false_iff,decide_eq_false_iff_not,decide_eq_false_iff_not] at this
  omega
theorem fltF_in {n : Nat} {f : Flt} (h : fltF n f = 0) : NetsIn f.nets n:=by
  obtain ⟨h1,h2,h3,_⟩:=fltF_ok h
  exact ⟨h1,by omega,h3⟩
theorem fltsF_ok {n : Int} : ∀ {l : List Flt},fltsF n l = 0 → ∀ f ∈ l,fltF n f = 0
  | [],_,f,hf=>by cases hf
  | g :: r,h,f,hf=>by
    unfold fltsF at h
    split at h
    · rename_i h1; exact absurd h h1
    · rename_i h1
      rcases List.mem_cons.1 hf with rfl | hf
      · exact Decidable.not_not.1 h1
      · exact fltsF_ok h f hf
def foldN (lg : Nat) (r : List Nat) (l : List Flt) : List Nat:=l.foldl (fun r f=>fwithN r f (2 ^ lg - 1)) r
theorem foldN_len (lg : Nat) : ∀ (l : List Flt) (r : List Nat),(foldN lg r l).length = r.length
  | [],r=>rfl
  | f :: l,r=>by
    unfold foldN
    rw [List.foldl_cons]
    exact (foldN_len lg l _).trans (fwithN_len _ _ _)
theorem ones_lt (lg : Nat) : 2 ^ lg - 1 < 2 ^ lg:=by have:=Nat.two_pow_pos lg; omega
theorem foldN_lt {lg : Nat} : ∀ (l : List Flt) (r : List Nat),(∀ x ∈ r,x < 2 ^ lg) → ∀ x ∈ foldN lg r l,x < 2 ^ lg
  | [],r,h=>h
  | f :: l,r,h=>by
    unfold foldN
    rw [List.foldl_cons]
    exact foldN_lt l _ (fwithN_lt h (ones_lt lg))
theorem foldN_take {lg : Nat} {r : List Nat} {l : List Flt} {k : Nat} (hk : k < l.length) : foldN lg r (l.take (k + 1)) = fwithN (foldN lg r (l.take k)) l[k] (2 ^ lg - 1):=by
  unfold foldN
  rw [List.take_succ_eq_append_getElem hk,List.foldl_append]; rfl
def combT (t : List (List UInt8)) (l : List Flt) : List (List UInt8):=(foldN (t.headD []).length (t.map rowN) l).map (textN (t.headD []).length)
def combV (t : List (List UInt8)) (l : List Flt) : AV:=if allF t l ≠ 0 then .tup [.p (.sl none []),AI (allF t l)] else .tup [AStr (combT t l),AI 0]
theorem le64 {lg : Nat} (h : lg ≤ 64) : 2 ^ lg ≤ 18446744073709551616:=by rw [← pow64]; exact Nat.pow_le_pow_right (by omega) h
theorem rows_lt {t : List (List UInt8)} {lg : Nat} (T : TestOk t lg) : ∀ x ∈ t.map rowN,x < 2 ^ lg:=by
  intro x hx
  obtain ⟨s,hs,rfl⟩:=List.mem_map.1 hx
  have:=rowN_lt s (T.b s hs)
  rwa [T.e s hs] at this
theorem s_Combined (t : List (List UInt8)) (l : List Flt) (hb : ∀ s ∈ t,s.length ≤ 1000000) (ht : t.length ≤ 1000000) (hf : ∀ f ∈ l,f.nets.length ≤ 1000000) (hn : l.length ≤ 1000000) :
    ACall X f_q00x [AStr t,AFlt l] h K = K (combV t l) h []:=by
  refine rule ?_
  rw [c_q00x rfl]
  have c:=fun h K=>s_faultsFault (h:=h) (K:=K) t l hb ht hf hn
  unfold combV
  by_cases h1 : allF t l = 0
  case neg=>simp only [d_q00x,go_sem,c,h1]
  have hT : testF t = 0:=by unfold allF at h1; split at h1 <;> simp_all
  have hF : fltsF t.length l = 0:=by unfold allF at h1; rw [if_neg (by simp [hT])] at h1; exact h1
  have T:=testF_ok hT
  have F:=fltsF_ok hF
  unfold combT
  generalize hlg : (t.headD []).length = lg at *
  have R:=fun h K=>s_rows (h:=h) (K:=K) t T.b (fun s hs=>by rw [T.e s hs]; exact T.l) (by have:=T.n1; omega)
  have r0:=rows_lt T
  have hz : (t.map PV.str)[0]? = some (.str (t.headD [])):=by
    cases t with
    | nil=>exact absurd T.n0 (by simp)
    | cons a r=>rfl
  have wh:=fun h K=>s_whole (h:=h) (K:=K) lg T.l
  have l64:=le64 T.l
  simp only [d_q00x,go_sem,c,h1,R]
  have hfl : ∀ k,((foldN lg (t.map rowN) (l.take k)).length = t.length):=fun k=>by rw [foldN_len,List.length_map]
  refine N_loop (fun k : Nat=>⟨[(0,AStr t),(7,.own h.length t.length 0 t.length),(18,AFlt l),(19,AI l.length),(20,AI k)],h ++ [.row none ((foldN lg (t.map rowN) (l.take k)).map eU) 0],[]⟩) (fun k=>k ≤ l.length) (fun k=>l.length - k) 0 rfl (by omega) ?_
  intro k hk
  rcases Nat.lt_or_ge k l.length with hlt | hge
  · have hg := map_get Flt.pv hlt
    have w2 : IntKind.i64.wrap ((k : Int) + 1) = ((k + 1 : Nat) : Int):=i64_wrap _ (by omega) (by omega)
    have cx:=flt_cut (f:=l[k])
    have rl:=hfl k
    have rb:=foldN_lt (l.take k) _ r0
    have hs:=foldN_take (lg:=lg) (r:=t.map rowN) hlt
    have hni:=fltF_in (F _ (List.getElem_mem hlt))
    generalize foldN lg (t.map rowN) (l.take k) = r at *
    have W:=fun (g : Heap) (K : Post)=>s_with (h:=h ++ .row none (r.map eU) 0 :: g) (K:=K) l[k] r (by rw [rl]; exact hni) (id:=h.length) (by rw [app_get0]; rfl) (by have:=T.n1; omega) (fun x hx=>Nat.lt_of_lt_of_le (rb x hx) l64) (2 ^ lg - 1)
    rw [rl] at W
    generalize l[k] = f at *
    simp only [Flt.pv] at hg cx W
    simp only [go_sem,hlt,hg,cx,hz,hlg,wh,w2,W]
    exact ⟨k + 1,by rw [hs],by omega,by omega⟩
  · have ek : k = l.length := by omega
    subst ek
    simp only [go_sem,Nat.lt_irrefl,List.take_length]
    have rl:=hfl l.length
    have rb:=foldN_lt l _ r0
    rw [List.take_length] at rl
    generalize foldN lg (t.map rowN) l = r at *
    have q:=fun K=>s_textsOwn (h:=h ++ [.row none (r.map eU) 0]) (K:=K) r lg T.l (by have:=T.n1; omega) (fun x hx=>Nat.lt_of_lt_of_le (rb x hx) l64) (id:=h.length) (by rw [app_get0]; rfl)
    rw [rl] at q
    simp only [go_sem,hz,hlg,q]
theorem s_Response (t : List (List UInt8)) (f : Flt) (hb : ∀ s ∈ t,s.length ≤ 1000000) (ht : t.length ≤ 1000000) (hf : f.nets.length ≤ 1000000) :
    ACall X f_q010 [AStr t,.p f.pv] h K = K (combV t [f]) h []:=by
  refine rule ?_
  rw [c_q010 rfl]
  have e:=fun h K=>s_Combined (h:=h) (K:=K) t [f] hb ht (fun g hg=>by rw [List.mem_singleton.1 hg]; exact hf) (by simp)
  simp only [AFlt,List.map_cons,List.map_nil,Flt.pv] at e
  have ev : ∃ a b,combV t [f] = .tup [.p a,.p b]:=by unfold combV; split <;> exact ⟨_,_,rfl⟩
  obtain ⟨a,b,ev⟩:=ev
  rw [ev] at e ⊢
  simp only [d_q010,Flt.pv,go_sem,e]
end Go.Am
end
section
/- Sorting the middle of a row: printed by program. -/
open Go
set_option linter.unusedSimpArgs false
namespace Go.Am
attribute [-go_sem] PV.cells splice
variable {h : Heap} {K : Post}
theorem insOrdO_int (id n o : Nat) (pre l tl : List PV) (ho : pre.length = o) (hn : n = o + (l.length + tl.length)) (hs : shps none l) (hl : l.length ≤ 1000) (hh : h[id]? = some (.row none (pre ++ (l ++ tl)) 0)) {lt : PV → PV → Bool} (hc : ∀ x ∈ l,∀ y ∈ l,∀ (h : Heap) (K : Post),ACall X f_q00s [.p x,.p y] h K = K (AB (lt x y)) h []) :
    ACall X f_q03c [.own id n o l.length,AI 0,AI l.length] h K = K (.tup []) (h.set id (.row none (pre ++ (isort lt l ++ tl)) 0)) []:=by
  refine rule ?_
  rw [c_q03c]
  have hid:=get_lt hh
  have hst : ∀ o,(h.set id o)[id]? = some o:=fun o=>set_get' hid
  have pg : ∀ (r : List PV) k,(pre ++ r)[o + k]? = r[k]?:=fun r k=>by rw [← ho,app_get]
  have ps : ∀ (r : List PV) k v,(pre ++ r).set (o + k) v = pre ++ r.set k v:=fun r k v=>by rw [← ho,app_set]
  simp only [d_q03c,go_sem,show IntKind.i64.wrap 1 = 1 from rfl]
  refine N_loop (fun i : Nat=>⟨[(0,.own id n o l.length),(1,AI 0),(2,AI l.length),(6,AI i)],h.set id (.row none (pre ++ ((isortR lt (l.take i)).reverse ++ (l.drop i ++ tl))) 0),[]⟩) (fun i=>1 ≤ i ∧ (i ≤ l.length ∨ i = 1)) (fun i=>l.length - i) 1 ?_ (by simp) ?_
  · have : (isortR lt (l.take 1)).reverse ++ (l.drop 1 ++ tl) = l ++ tl := by cases l <;> rfl
    rw [this,set_self hh]; rfl
  rintro i ⟨hi1,hi2⟩
  rcases Nat.lt_or_ge i l.length with hlt | hge
  · simp only [go_sem, hlt]
    have hxl : l[i] ∈ l:=List.getElem_mem hlt
    generalize hx : l[i] = x at *
    generalize hR : isortR lt (l.take i) = R
    have hRl : R.length = i:=by rw [← hR,isortR_len]; simp; omega
    have hRm : ∀ z ∈ R,z ∈ l:=fun z hz=>List.mem_of_mem_take ((isortR_perm lt (l.take i)).mem_iff.1 (by rw [hR]; exact hz))
    have hdrop : l.drop i = x :: l.drop (i + 1):=by rw [← hx]; exact List.drop_eq_getElem_cons hlt
    have hnext : isortR lt (l.take (i + 1)) = insR lt x R:=by rw [isortR_take_succ _ _ _ hlt,hR,hx]
    refine N_loop (fun t : List PV × List PV=>⟨[(0,.own id n o l.length),(1,AI 0),(2,AI l.length),(6,AI i),(7,AI t.1.length)],h.set id (.row none (pre ++ (t.1.reverse ++ x :: t.2)) 0),[]⟩)
      (fun t=>∃ B,R = B ++ t.1 ∧ t.2 = B.reverse ++ (l.drop (i + 1) ++ tl) ∧ ∀ b ∈ B,lt x b = true) (fun t=>t.1.length) (R,l.drop (i + 1) ++ tl) (by rw [hdrop,hRl]; rfl) ⟨[],rfl,rfl,by simp⟩ ?_
    rintro ⟨A,C⟩ ⟨B,q1,q2,q3⟩
    dsimp only at q1 q2 q3
    have hlen : (pre ++ (A.reverse ++ x :: C)).length = n:=by
      have : R.length = B.length + A.length:=by rw [q1]; simp
      rw [q2]; simp; omega
    have hBA : B.length + A.length < l.length:=by
      have : R.length = B.length + A.length:=by rw [q1]; simp
      omega
    have hln : o + l.length ≤ n:=by omega
    have w1 : IntKind.i64.wrap ((i : Int) + 1) = ((i + 1 : Nat) : Int):=i64_wrap _ (by omega) (by omega)
    cases A with
    | nil=>
      have hd : insR lt x R = B ++ [x]:=by rw [q1]; exact ins_done lt x [] B q3 (fun y r h=>by cases h)
      simp only [go_sem,Int.lt_irrefl,w1]
      refine ⟨i + 1,?_,by omega,by omega⟩
      simp only [hnext,hd,q2,List.reverse_append,List.reverse_nil,List.nil_append,List.reverse_cons,List.append_assoc,List.cons_append]
    | cons y A=>
      have hyl : y ∈ l:=hRm y (by rw [q1]; simp)
      have g1:=ins_get (y :: A) C x
      have g2:=ins_get1 A C x y
      have sw:=ins_swap A C x y
      simp only [List.length_cons] at hBA
      generalize hrow : (y :: A).reverse ++ x :: C = row at *
      have hsl : ∀ k v,(pre ++ row.set k v).length = n:=fun k v=>by rw [← hlen]; simp
      simp only [List.length_cons] at g1
      have w2 : IntKind.i64.wrap (((A.length + 1 : Nat) : Int) - 1) = (A.length : Int):=by rw [i64_wrap _ (by omega) (by omega)]; omega
      have p1 : (0 : Int) < ((A.length + 1 : Nat) : Int):=by omega
      have b1 : A.length + 1 < l.length:=by omega
      have b2 : A.length < l.length:=by omega
      have cx:=shp_cut (hs x hxl)
      have cy:=shp_cut (hs y hyl)
      have hcc:=fun h K=>hc x hxl y hyl h K
      cases hxy : lt x y with
      | false=>
        have hd : insR lt x R = B ++ x :: y :: A:=by rw [q1]; exact ins_done lt x (y :: A) B q3 (fun z r h=>by cases h; exact hxy)
        simp only [go_sem,hst,p1,hlen,pg,ps,g1,g2,w2,b1,b2,hln,cx,cy,hcc,hxy,w1]
        refine ⟨i + 1,?_,by omega,by omega⟩
        simp only [hnext,hd,← hrow,q2,List.reverse_append,List.reverse_cons,List.append_assoc,List.cons_append,List.nil_append]
      | true=>
        have g3 : (row.set (A.length + 1) y)[A.length]? = some y:=by rw [List.getElem?_set_ne (by omega),g2]
        have lx:=shp_len (hs x hxl)
        have ly:=shp_len (hs y hyl)
        have sx:=shp_all (hs x hxl)
        have sy:=shp_all (hs y hyl)
        simp only [shSize] at lx ly
        have t1:=fun i xs h1=>shp_st (hs x hxl) (hs y hyl) id i 0 xs h1
        have t2:=fun i xs h1=>shp_st (hs y hyl) (hs x hxl) id i 0 xs h1
        simp only [go_sem,hst,p1,hlen,hsl,pg,ps,g1,g2,g3,w2,b1,b2,hln,cx,cy,hcc,hxy,lx,ly,sx,sy,t1,t2,sw]
        refine ⟨(A,y :: C),rfl,⟨B ++ [y],by simp [q1],by simp [q2],fun b hb=>?_⟩,by simp⟩
        rw [List.mem_append,List.mem_singleton] at hb
        rcases hb with hb | rfl
        · exact q3 b hb
        · exact hxy
  · have hge' : ¬ i < l.length := by omega
    have e1 : l.take i = l:=List.take_of_length_le hge
    have e2 : l.drop i = []:=List.drop_of_length_le hge
    simp only [go_sem,hge',e1,e2]
    rfl
theorem SortO_int (id n o : Nat) (pre l tl : List PV) (ho : pre.length = o) (hn : n = o + (l.length + tl.length)) (hs : shps none l) (hl : l.length ≤ 12) (hh : h[id]? = some (.row none (pre ++ (l ++ tl)) 0)) {lt : PV → PV → Bool} (hc : ∀ x ∈ l,∀ y ∈ l,∀ (h : Heap) (K : Post),ACall X f_q00s [.p x,.p y] h K = K (AB (lt x y)) h []) :
    ACall X f_q038 [.own id n o l.length] h K = K (.tup []) (h.set id (.row none (pre ++ (isort lt l ++ tl)) 0)) []:=by
  refine rule ?_
  rw [c_q038]
  have w0 : IntKind.u64.wrap (l.length : Int) = l.length:=u64_wrap _ (by omega) (by omega)
  obtain ⟨m,hm⟩:=len_any (l.length : Int) (by omega) (by omega)
  have is:=fun h' (hq : h' = h) K=>insOrdO_int (h:=h) (K:=K) id n o pre l tl ho hn hs (by omega) hh hc
  have key : ∀ K : Post,ACall X f_q03k [.own id n o l.length,AI 0,AI l.length,AI m] h K = K (.tup []) (h.set id (.row none (pre ++ (isort lt l ++ tl)) 0)) []:=by
    intro K
    refine rule ?_
    rw [c_q03k]
    simp only [d_q03k,go_sem]
    refine N_loop (fun _ : Unit=>⟨[(0,.own id n o l.length),(1,AI 0),(2,AI l.length),(3,AI m),(8,AB true),(9,AB true)],h,[]⟩) (fun _=>True) (fun _=>0) () rfl trivial ?_
    intro _ _
    have w1 : IntKind.i64.wrap ((l.length : Int) - 0) = l.length:=by rw [i64_wrap _ (by omega) (by omega)]; omega
    have b1 : ((l.length : Int) ≤ 12):=by omega
    simp only [go_sem,w1,b1,is _ rfl]
  simp only [d_q038,go_sem,w0,hm,key]
end Go.Am
end
section
/- What is drawn: orders,tests. -/
open Go
set_option linter.all false
namespace Go.Am
variable {L : List Int} {a : Int} {h l : Heap} {id : Nat} {K : Post}
def GenK (f : Nat) (args : List AV) (L : List Int) (a : Int) (sh : Sh) (Q : List PV → Int → Prop) : Prop:=∀ (h : Heap) (id : Nat),h[id]? = some (strm L a) → ∃ xs a2,Q xs a2 ∧ ∀ K : Post,ACall X f (.ref id 0 :: args) h K = K (.own h.length xs.length 0 xs.length) (h.set id (strm L a2) ++ [.row sh xs 0]) []
theorem GenK.of {f : Nat} {args : List AV} {L : List Int} {a : Int} {sh : Sh} {Q : List PV → Int → Prop} (H : ∀ (h : Heap) (id : Nat),id < h.length → ACall X f (.ref id 0 :: args) (h.set id (strm L a)) fun v1 h1 x1=>∃ xs a2,Q xs a2 ∧ v1 = .own h.length xs.length 0 xs.length ∧ h1 = h.set id (strm L a2) ++ [.row sh xs 0] ∧ x1 = []) : GenK f args L a sh Q:=by
  intro h id hh
  have hid:=get_lt hh
  have k:=H h id hid
  rw [set_self hh] at k
  obtain ⟨v,h',x,⟨xs,a2,q,e0,e1,e2⟩,r⟩:=ACall.one X_noNext k
  subst e0; subst e1; subst e2
  exact ⟨xs,a2,q,r⟩
theorem swap_perm (l : List Int) (i k : Nat) (hi : i < l.length) (hk : k < l.length) : ((l.set i l[k]).set k l[i]).Perm l:=by
  have h:=Array.swap_perm (xs:=l.toArray) (i:=i) (j:=k) (by simpa using hi) (by simpa using hk)
  rw [Array.perm_iff_toList_perm] at h
  simpa [Array.swap_def] using h
def upI (n : Nat) : List Int:=(List.range n).map fun (k : Nat)=>(k : Int)
theorem upI_succ (n : Nat) : upI (n + 1) = upI n ++ [(n : Int)]:=by unfold upI; rw [List.range_succ,List.map_append]; rfl
theorem upI_len (n : Nat) : (upI n).length = n:=by simp [upI]
theorem upI_mem {n : Nat} {x : Int} : x ∈ upI n ↔ 0 ≤ x ∧ x < n:=by
  unfold upI
  simp only [List.mem_map,List.mem_range]
  constructor
  · rintro ⟨k,hk,rfl⟩; omega
  · intro ⟨h1,h2⟩; exact ⟨x.toNat,by omega,by omega⟩
theorem g_Order (n : Nat) (hn : n ≤ 1000) (hp : posN 2000 a) : GenK f_q027 [AI n] L a none (fun xs a2=>a ≤ a2 ∧ a2 ≤ a + n ∧ ∃ l : List Int,l.Perm (upI n) ∧ xs = l.map eI):=by
  refine GenK.of fun h id hid=>?_
  rw [c_q027 rfl]
  have hid' : id ≤ h.length:=by omega
  simp only [d_q027,go_sem,hid]
  refine N_loop (fun k : Nat=>⟨[(0,.ref id 0),(1,AI n),(5,.own h.length k 0 k),(9,AI n),(10,AI k)],h.set id (strm L a) ++ [.row none ((upI k).map eI) 0],[]⟩) (fun k=>k ≤ n) (fun k=>n - k) 0 rfl (by omega) ?_
  intro k hk
  have hkl : ((upI k).map eI).length = k:=by rw [List.length_map,upI_len]
  rcases Nat.lt_or_ge k n with hlt | hge
  · have w2 : IntKind.i64.wrap ((k : Int) + 1) = ((k + 1 : Nat) : Int) := i64_wrap _ (by omega) (by omega)
    have hmx : k + 1 ≤ maxSl:=by unfold maxSl; omega
    simp only [go_sem,hid,hid',hlt,hkl,hmx,w2]
    refine ⟨k + 1,?_,by omega,by omega⟩
    rw [upI_succ,List.map_append]; rfl
  · have ek : k = n := by omega
    subst ek
    have w3 : IntKind.i64.wrap ((k : Int) - 1) = (k : Int) - 1:=i64_wrap _ (by omega) (by omega)
    simp only [go_sem,hid,hid',Nat.lt_irrefl,w3]
    refine N_loop (fun t : List Int × Int × Int=>⟨[(0,.ref id 0),(5,.own h.length k 0 k),(7,AI t.2.1)],h.set id (strm L t.2.2) ++ [.row none (t.1.map eI) 0],[]⟩)
      (fun t=>t.1.Perm (upI k) ∧ -1 ≤ t.2.1 ∧ t.2.1 < k ∧ a ≤ t.2.2 ∧ t.2.2 + t.2.1 + 1 ≤ a + k) (fun t=>t.2.1.toNat) (upI k,(k : Int) - 1,a) rfl ⟨List.Perm.refl _,by simp; omega,by simp; omega,by simp,by simp; omega⟩ ?_
    rintro ⟨l,i,b⟩ ⟨q1,q2,q3,q4,q5⟩
    dsimp only at q1 q2 q3 q4 q5 ⊢
    have hll : l.length = k:=by rw [q1.length_eq,upI_len]
    have hlm : (l.map eI).length = k:=by rw [List.length_map,hll]
    by_cases hi : 0 < i
    · have pb := posN_le (n := 0) hp q4 (by omega)
      obtain ⟨n1,n2⟩:=nextV_bd L b (i + 1) (by omega) (by omega)
      have w4 : IntKind.i64.wrap (i + 1) = i + 1:=i64_wrap _ (by omega) (by omega)
      have w5 : IntKind.i64.wrap (i - 1) = i - 1:=i64_wrap _ (by omega) (by omega)
      have e1:=natOf_int (k:=.i64) n1
      have e2:=natOf_int (k:=.i64) (show 0 ≤ i by omega)
      obtain ⟨c,hc⟩ : ∃ c,nextV L b (i + 1) = c:=⟨_,rfl⟩
      rw [hc] at n1 n2 e1
      have b1 : c.toNat < k:=by omega
      have b2 : i.toNat < k:=by omega
      have g1:=map_get eI (l:=l) (k:=c.toNat) (by omega)
      have g2:=map_get eI (l:=l) (k:=i.toNat) (by omega)
      have hsw:=swap_perm l i.toNat c.toNat (by omega) (by omega)
      have g3 : ((l.set i.toNat l[c.toNat]).map eI)[c.toNat]? = some (eI ((l.set i.toNat l[c.toNat])[c.toNat]'(by simp; omega))):=map_get eI (by simp; omega)
      have m1 : (l.map eI).set i.toNat (eI l[c.toNat]) = (l.set i.toNat l[c.toNat]).map eI:=by rw [List.map_set]
      have m2 : ((l.set i.toNat l[c.toNat]).map eI).set c.toNat (eI l[i.toNat]) = ((l.set i.toNat l[c.toNat]).set c.toNat l[i.toNat]).map eI:=List.map_set.symm
      have hl2 : ((l.set i.toNat l[c.toNat]).map eI).length = k:=by simp [hll]
      simp only [go_sem,hid,hid',hi,w4,pb,hc,e1,e2,hlm,b1,b2,g1,g2,m1,g3,m2,hl2,w5]
      exact ⟨((l.set i.toNat l[c.toNat]).set c.toNat l[i.toNat],i - 1,b + 1),rfl,⟨hsw.trans q1,by dsimp only; omega,by dsimp only; omega,by dsimp only; omega,by dsimp only; omega⟩,by dsimp only; omega⟩
    · simp only [go_sem, hi]
      refine ⟨l.map eI,b,⟨q4,by omega,l,q1,rfl⟩,by rw [hlm],?_⟩
      exact List.take_of_length_le (by simp)
def SmallT (t : List (List UInt8)) : Prop:=t.length ≤ 5 ∧ ∀ s ∈ t,s.length ≤ 1000
theorem s_Repeat (s : List UInt8) (c : Int) (h0 : 0 ≤ c) (hc : s.length * c.toNat ≤ 1000000) (h1 : c ≤ 1000000) : ACall X f_q04f [AS s,AI c] h K = K (AS (repL s c.toNat)) h []:=by
  refine lib_call (X:=X) (by kernel_rfl) ?_
  rw [X_ex2]
  exact libF_pure (vs:=[.str s,.int .i64 c]) (by kernel_rfl) (s:=repeatS) (by kernel_rfl) rfl (by simp only [repeatS]; rw [if_pos ⟨h0,hc,h1⟩])
theorem repL_len (s : List UInt8) : ∀ c,(repL s c).length = c * s.length
  | 0=>by simp [repL]
  | c + 1=>by rw [repL,List.length_append,repL_len s c,Nat.add_mul,Nat.one_mul,Nat.add_comm]
theorem g_ATest (hp : posN 200 a) : GenE f_q022 [] L a (fun v a2=>a ≤ a2 ∧ a2 ≤ a + 60 ∧ ∃ t : List (List UInt8),SmallT t ∧ v = AStr t):=by
  refine GenE.of fun h id hid=>?_
  rw [c_q022 rfl]
  have hid' : id ≤ h.length:=by omega
  have p0:=posN_le (n:=0) hp (Int.le_refl a) (by omega)
  have p1:=posN_le (n:=0) hp (show a ≤ a + 1 by omega) (by omega)
  have pl:=pickV_mem (l:=[0,1,2,3,4,5]) (L:=L) (a:=a) (by simp) (by simp)
  obtain ⟨lg,hlg⟩ : ∃ n,pickV [0,1,2,3,4,5] L a = n:=⟨_,rfl⟩
  rw [hlg] at pl
  have hlg0 : 0 ≤ lg ∧ lg ≤ 5:=by simp only [List.mem_cons,List.not_mem_nil,or_false] at pl; omega
  obtain ⟨long,rfl⟩:=Int.eq_ofNat_of_zero_le hlg0.1
  obtain ⟨n1,n2⟩:=rangeV_bd (u:=1) (v:=5) L (a + 1) (by omega) (by omega)
  obtain ⟨n,hn⟩:=Int.eq_ofNat_of_zero_le (show 0 ≤ rangeV 1 5 L (a + 1) by omega)
  rw [hn] at n1 n2
  simp only [d_q022,go_sem,hid,p0,p1,hlg,hn]
  refine N_loop (fun t : List (List UInt8) × Int=>⟨[(0,.ref id 0),(3,.own h.length t.1.length 0 t.1.length),(4,AI long),(11,AI n),(12,AI t.1.length)],h.set id (strm L t.2) ++ [.row none (t.1.map PV.str) 0],[]⟩)
    (fun t=>t.1.length ≤ n ∧ (∀ s ∈ t.1,s.length ≤ 5) ∧ a ≤ t.2 ∧ t.2 ≤ a + 2 + 5 * t.1.length) (fun t=>n - t.1.length) ([],a + 1 + 1) rfl ⟨by simp,by simp,by simp; omega,by simp; omega⟩ ?_
  rintro ⟨t,b⟩ ⟨q1,q2,q3,q4⟩
  dsimp only at q1 q2 q3 q4 ⊢
  rcases Nat.lt_or_ge t.length n with hlt | hge
  · have w2 : IntKind.i64.wrap ((t.length : Int) + 1) = ((t.length + 1 : Nat) : Int) := i64_wrap _ (by omega) (by omega)
    simp only [go_sem,hid,hlt]
    refine N_loop (fun u : List UInt8 × Int=>⟨[(0,.ref id 0),(3,.own h.length t.length 0 t.length),(4,AI long),(5,AS u.1),(11,AI n),(12,AI t.length),(14,AI long),(15,AI u.1.length)],h.set id (strm L u.2) ++ [.row none (t.map PV.str) 0],[]⟩)
      (fun u=>u.1.length ≤ long ∧ b ≤ u.2 ∧ u.2 ≤ b + u.1.length) (fun u=>long - u.1.length) ([],b) rfl ⟨by simp,by simp,by simp⟩ ?_
    rintro ⟨s,c⟩ ⟨r1,r2,r3⟩
    dsimp only at r1 r2 r3 ⊢
    rcases Nat.lt_or_ge s.length long with hlt2 | hge2
    · have pc := posN_le (n := 0) hp (show a ≤ c by omega) (by omega)
      have w3 : IntKind.i64.wrap ((s.length : Int) + 1) = ((s.length + 1 : Nat) : Int):=i64_wrap _ (by omega) (by omega)
      have ps:=pickS_mem (l:=[[48],[49]]) (L:=L) (a:=c) (by simp) (by simp)
      have hs1 : (pickS [[48],[49]] L c).length = 1:=by
        simp only [List.mem_cons,List.not_mem_nil,or_false] at ps
        rcases ps with e | e <;> rw [e] <;> rfl
      obtain ⟨z,hz⟩ : ∃ z,pickS [[48],[49]] L c = z:=⟨_,rfl⟩
      rw [hz] at hs1
      have hmx : s.length + 1 ≤ maxStr:=by unfold maxStr; omega
      simp only [go_sem,hid,hlt2,pc,hz,hs1,hmx,w3]
      exact ⟨(s ++ z,c + 1),by simp [hs1],⟨by simp [hs1]; omega,by dsimp only; omega,by simp [hs1]; omega⟩,by simp [hs1]; omega⟩
    · have hge2' : ¬ s.length < long := by omega
      have hmx : t.length + 1 ≤ maxSl:=by unfold maxSl; omega
      simp only [go_sem,hid,hid',hge2',hmx,w2]
      refine ⟨(t ++ [s],c),by simp,⟨by simp; omega,fun z hz=>?_,by dsimp only; omega,by simp; omega⟩,by simp; omega⟩
      rcases List.mem_append.1 hz with hz | hz
      · exact q2 z hz
      · rw [List.mem_singleton.1 hz]; omega
  · have hge' : ¬ t.length < n := by omega
    have pb:=posAll (posN_le hp q3 (show b + 14 ≤ a + 200 by omega))
    have hq2 : ∀ s ∈ t,s.length ≤ 1000:=fun s hs=>by have:=q2 s hs; omega
    by_cases f1 : nextV L b 20 = 0
    · obtain ⟨m1, m2⟩ := nextV_bd L (b + 1) t.length (by omega) (by omega)
      obtain ⟨m,hm⟩:=Int.eq_ofNat_of_zero_le m1
      rw [hm] at m2
      have hml : m < t.length:=by omega
      have gm:=map_get PV.str hml
      have ps:=pickS_mem (l:=[[48],[120]]) (L:=L) (a:=b + 1 + 1) (by simp) (by simp)
      have hs1 : (pickS [[48],[120]] L (b + 1 + 1)).length = 1:=by
        simp only [List.mem_cons,List.not_mem_nil,or_false] at ps
        rcases ps with e | e <;> rw [e] <;> rfl
      obtain ⟨z,hz⟩ : ∃ z,pickS [[48],[120]] L (b + 1 + 1) = z:=⟨_,rfl⟩
      rw [hz] at hs1
      have htm:=q2 _ (List.getElem_mem hml)
      have hmx : t[m].length + 1 ≤ maxStr:=by unfold maxStr; omega
      simp only [go_sem,hid,hid',hge',pb,f1,hm,hml,gm,hz,hs1,hmx]
      refine ⟨b + 1 + 1 + 1,⟨by omega,by omega,t.set m (t[m] ++ z),⟨by simp; omega,fun x hx=>?_⟩,?_⟩,rfl⟩
      · rcases List.mem_or_eq_of_mem_set hx with hx | rfl
        · exact hq2 x hx
        · simp [hs1]; omega
      · have em : (t.map PV.str).set m (PV.str (t[m] ++ z)) = (t.set m (t[m] ++ z)).map PV.str := List.map_set.symm
        rw [em,win_full (by simp)]
    · by_cases f2 : nextV L (b + 1) 40 = 0
      · simp only [go_sem, hid, hid', hge', pb, f1, f2]
        exact ⟨b + 1 + 1,⟨by omega,by omega,[],⟨by simp,by simp⟩,rfl⟩,rfl⟩
      · by_cases f3 : nextV L (b + 1 + 1) 40 = 0
        · simp only [go_sem, hid, hid', hge', pb, f1, f2, f3]
          refine N_loop (fun u : List (List UInt8) × Nat × Int=>⟨[(0,.ref id 0),(3,.own h.length t.length 0 t.length),(50,AI t.length),(51,AI u.2.1)],h.set id (strm L u.2.2) ++ [.row none (u.1.map PV.str) 0],[]⟩)
            (fun u=>u.1.length = t.length ∧ (∀ s ∈ u.1,s.length ≤ 1000) ∧ u.2.1 ≤ t.length ∧ b + 3 ≤ u.2.2 ∧ u.2.2 ≤ b + 3 + 3 * u.2.1) (fun u=>t.length - u.2.1) (t,0,b + 1 + 1 + 1) rfl ⟨rfl,hq2,by simp,by simp; omega,by simp; omega⟩ ?_
          rintro ⟨u,j,c⟩ ⟨u1,u2,u3,u4,u5⟩
          dsimp only at u1 u2 u3 u4 u5 ⊢
          rcases Nat.lt_or_ge j t.length with hlt | hge
          · have pc := posAll (posN_le hp (show a ≤ c by omega) (show c + 14 ≤ a + 200 by omega))
            have w2 : IntKind.i64.wrap ((j : Int) + 1) = ((j + 1 : Nat) : Int):=i64_wrap _ (by omega) (by omega)
            have ps:=pickS_mem (l:=[[48],[49],[48,49]]) (L:=L) (a:=c) (by simp) (by simp)
            have hs1 : (pickS [[48],[49],[48,49]] L c).length ≤ 2:=by
              simp only [List.mem_cons,List.not_mem_nil,or_false] at ps
              rcases ps with e | e | e <;> rw [e] <;> decide
            obtain ⟨z,hz⟩ : ∃ z,pickS [[48],[49],[48,49]] L c = z:=⟨_,rfl⟩
            rw [hz] at hs1
            obtain ⟨v1,v2⟩:=rangeV_bd (u:=0) (v:=1) L (c + 1) (by omega) (by omega)
            obtain ⟨x1,x2⟩:=rangeV_bd (u:=0) (v:=32) L (c + 1 + 1) (by omega) (by omega)
            obtain ⟨d,hd⟩ : ∃ z,rangeV 0 1 L (c + 1) = z:=⟨_,rfl⟩
            obtain ⟨e,he⟩ : ∃ z,rangeV 0 32 L (c + 1 + 1) = z:=⟨_,rfl⟩
            rw [hd] at v1 v2
            rw [he] at x1 x2
            have w5 : IntKind.i64.wrap (32 + d) = 32 + d:=i64_wrap _ (by omega) (by omega)
            have hm1 : z.length * (32 + d).toNat ≤ 2 * 33:=Nat.mul_le_mul hs1 (by omega)
            have R1:=fun h K=>s_Repeat (h:=h) (K:=K) z (32 + d) (by omega) (by omega) (by omega)
            have R2:=fun h K=>s_Repeat (h:=h) (K:=K) [49] e (by omega) (by simp; omega) (by omega)
            have l1 : (repL z (32 + d).toNat).length ≤ 66:=by rw [repL_len,Nat.mul_comm]; exact hm1
            have l2 : (repL [49] e.toNat).length ≤ 32:=by rw [repL_len]; simp; omega
            generalize repL z (32 + d).toNat = A at *
            generalize repL [49] e.toNat = B at *
            have hmx : A.length + B.length ≤ maxStr:=by unfold maxStr; omega
            have gu:=map_get PV.str (l:=u) (k:=j) (by omega)
            have hul : (u.map PV.str).length = t.length:=by rw [List.length_map,u1]
            simp only [go_sem,hid,hid',hlt,pc,hz,hd,he,w5,R1,R2,hmx,hul,gu,w2]
            refine ⟨(u.set j (A ++ B),j + 1,c + 1 + 1 + 1),?_,⟨by simp [u1],fun x hx=>?_,by dsimp only; omega,by dsimp only; omega,by dsimp only; omega⟩,by dsimp only; omega⟩
            · rw [List.map_set]
            · rcases List.mem_or_eq_of_mem_set hx with hx | rfl
              · exact u2 x hx
              · simp; omega
          · have hge2 : ¬ j < t.length := by omega
            simp only [go_sem,hid,hid',hge2,u1]
            refine ⟨c,⟨by omega,by omega,u,⟨by omega,u2⟩,?_⟩,rfl⟩
            rw [win_full (by simp [u1])]
        · simp only [go_sem, hid, hid', hge', pb, f1, f2, f3]
          refine ⟨b + 1 + 1 + 1,⟨by omega,by omega,t,⟨by omega,hq2⟩,?_⟩,rfl⟩
          rw [win_full (by simp)]
theorem head_str {t : List (List UInt8)} (h : 0 < t.length) : (t.map PV.str)[0]? = some (.str (t.headD [])):=by
  cases t with
  | nil=>cases h
  | cons a r=>rfl
theorem g_RightTest (hp : posN 2000 a) : GenE f_q02a [] L a (fun v a2=>a ≤ a2 ∧ a2 ≤ a + 360 ∧ ∃ t : List (List UInt8),SmallT t ∧ testF t = 0 ∧ (t.headD []).length < 20 ∧ v = AStr t):=by
  refine GenE.of fun h id hid=>?_
  rw [c_q02a rfl]
  have hid' : id ≤ h.length:=by omega
  simp only [d_q02a,go_sem,hid]
  refine N_loop (fun t : Nat × Int=>⟨[(0,.ref id 0),(4,AI t.1)],h.set id (strm L t.2),[]⟩) (fun t=>t.1 ≤ 6 ∧ a ≤ t.2 ∧ t.2 ≤ a + 60 * t.1) (fun t=>6 - t.1) (0,a) rfl ⟨by simp,by simp,by simp⟩ ?_
  rintro ⟨k,b⟩ ⟨h1,h2,h3⟩
  dsimp only at h1 h2 h3 ⊢
  rcases Nat.lt_or_ge k 6 with hlt | hge
  · have hk : (k : Int) < 6 := by omega
    have w1 : IntKind.i64.wrap ((k : Int) + 1) = ((k + 1 : Nat) : Int):=i64_wrap _ (by omega) (by omega)
    obtain ⟨_,a2,⟨c1,c2,t,ts,rfl⟩,V⟩:=(g_ATest (L:=L) (a:=b) (posN_le hp h2 (by omega))).set (h:=h) hid
    have F:=fun h K=>s_TestFault (h:=h) (K:=K) t (fun s hs=>by have:=ts.2 s hs; omega) (by have:=ts.1; omega)
    by_cases hf : testF t = 0
    · have T := testF_ok hf
      have g0:=head_str T.n0
      by_cases hl : (t.headD []).length < 20
      · have hl' : ((t.headD []).length : Int) < 20 := by omega
        simp only [go_sem,hid,hk,↓V,V,↓F,F,hf,g0,hl']
        exact ⟨a2,⟨by omega,by omega,t,ts,hf,hl,rfl⟩,rfl⟩
      · have hl' : ¬ ((t.headD []).length : Int) < 20 := by omega
        simp only [go_sem,hid,hk,↓V,V,↓F,F,hf,g0,hl',w1]
        exact ⟨(k + 1,a2),rfl,⟨by dsimp only; omega,by dsimp only; omega,by dsimp only; omega⟩,by dsimp only; omega⟩
    · simp only [go_sem, hid, hk, ↓V, V, ↓F, F, hf, w1]
      exact ⟨(k + 1,a2),rfl,⟨by dsimp only; omega,by dsimp only; omega,by dsimp only; omega⟩,by dsimp only; omega⟩
  · have hk : ¬ (k : Int) < 6 := by omega
    simp only [go_sem,hid,hk]
    exact ⟨b,⟨by omega,by omega,[[48,49],[49,48]],⟨by decide,by decide⟩,by decide,by decide,rfl⟩,rfl⟩
end Go.Am
end
section
/- What is drawn: faults. -/
open Go
set_option linter.all false
namespace Go.Am
variable {L : List Int} {a : Int} {h l : Heap} {id : Nat} {K : Post}
def SmallF (f : Flt) : Prop:=f.nets.length ≤ 8 ∧ (∀ x ∈ f.nets,-1152921504606846976 ≤ x ∧ x ≤ 1152921504606846976) ∧ -1152921504606846976 ≤ f.kind ∧ f.kind ≤ 1152921504606846976
theorem win_pre {α : Type} (xs : List α) (n : Nat) : win xs 0 n = xs.take n:=by simp [win]
theorem af_ret {kd : Int} {w : AV} {ns : List Int} {b2 : Int} {t : Heap} {x : Esc} {K0 : Post} (hw : reif h.length (h.set id (strm L b2) ++ t) w = some (.p (.sl none (ns.map eI)))) (hx : ∀ y ∈ x,h.length ≤ y.1)
    (hK : K0 (.p (Flt.pv ⟨kd,ns⟩)) (h.set id (strm L b2)) []) : retK false h.length K0 (some [.agg [AI kd,w]]) (h.set id (strm L b2) ++ t) x:=by
  have hr : reif h.length (h.set id (strm L b2) ++ t) (oneOf [.agg [AI kd,w]]) = some (.p (Flt.pv ⟨kd,ns⟩)):=by
    simp only [oneOf,reif_agg,reifs_cons,reif_p,hw,reifs_nil]
    rfl
  rw [retK_out hx hr (Nat.zero_le _),set_app_take]
  exact hK
theorem af_retP {v : PV} {b2 : Int} {t : Heap} {x : Esc} {K0 : Post} (hx : ∀ y ∈ x,h.length ≤ y.1)
    (hK : K0 (.p v) (h.set id (strm L b2)) []) : retK false h.length K0 (some [.p v]) (h.set id (strm L b2) ++ t) x:=by
  rw [retK_out hx (v:=.p v) (by rfl) (Nat.zero_le _),set_app_take]
  exact hK
theorem reif_row {b2 : Int} {t : Heap} {j n m : Nat} {R : List PV} {fz : Nat} (ht : t[j]? = some (.row none R fz)) (hR : R.length = n) (hm : m ≤ n) : reif h.length (h.set id (strm L b2) ++ t) (.own (h.length + j) n 0 m) = some (.p (.sl none (R.take m))):=by
  have : (h.set id (strm L b2) ++ t)[h.length + j]? = some (.row none R fz):=by
    have e : h.length = (h.set id (strm L b2)).length:=by simp
    rw [e,app_get]; exact ht
  simp [reif_own,rd,this,hR,hm,win_pre]
theorem esc_if {n m : Nat} {x : Esc} {p : Prop} [Decidable p] (hn : n ≤ m) (hx : ∀ y ∈ x,n ≤ y.1) {t : Nat} : ∀ y ∈ (if p then [(m,t)] else []) ++ x,n ≤ y.1:=by
  intro y hy
  rcases List.mem_append.1 hy with hy | hy
  · split at hy
    · rw [List.mem_singleton.1 hy]; exact hn
    · cases hy
  · exact hx y hy
theorem af_k2 (kd : Int) (hkd : 1 ≤ kd ∧ kd ≤ 6) (R : List Int) (n m : Nat) (hR : R.length = n) (hm1 : 1 ≤ m) (hmn : m ≤ n) (hm3 : m ≤ 3) (hx : ∀ x ∈ R,0 ≤ x ∧ x ≤ 1000) (v1 : Int) (hv1 : -1000 ≤ v1 ∧ v1 ≤ 1000) (b : Int) (hp : posN 20 b) (hid : id < h.length) (x : Esc) (hxe : ∀ y ∈ x,h.length ≤ y.1) (K0 : Post)
    (hK : ∀ (f : Flt) (b2 : Int),SmallF f → b ≤ b2 → b2 ≤ b + 6 → K0 (.p f.pv) (h.set id (strm L b2)) []) :
    d_q021_k2 (ACall X) X.gl p_q021_k1 (.ref id 0) (AI v1) (.ref h.length 0) (.ref (h.length + 1) 0)
      (h.set id (strm L b) ++ [.box [AI 0,.sl0 none],.box [AI kd,.own (h.length + 2) n 0 m],.row none (R.map eI) 0]) x (finR [.cell 4 (some 2)] false h.length K0):=by
  have hid' : id ≤ h.length:=by omega
  have P:=posAll (posN_le hp (Int.le_refl b) (by omega))
  have hRl : (R.map eI).length = n:=by rw [List.length_map,hR]
  by_cases f1 : nextV L b 30 = 0
  · by_cases f2 : nextV L (b + 1) 4 = 0
    · obtain ⟨kv, a3, o1, o2, o3, o4, O⟩ := g_Odd (L := L) (a := b + 1 + 1) (posN_le hp (by omega) (by omega)) 1 6 (by omega) (by omega) (by omega)
      have O':=fun l K=>O.app (h:=h) (id:=id) (l:=l) (K:=K) hid
      simp only [d_q021_k2,go_sem,hid,hid',P,f1,f2,↓O',O',hRl,hmn,escOf]
      refine af_ret (ns:=R.take m) (by rw [reif_row (j:=2) (fz:=0) rfl hRl hmn,List.map_take]) (esc_if (Nat.le_refl _) (esc_if (by omega) hxe)) ?_
      exact hK ⟨kv,R.take m⟩ a3 ⟨by simp; omega,fun z hz=>by have:=hx z (List.mem_of_mem_take hz); omega,by dsimp only; omega,by dsimp only; omega⟩ (by omega) (by omega)
    · by_cases f3 : nextV L (b + 1) 4 = 1
      · have hR0 : 0 < R.length := by omega
        have g0:=head_get hR0
        have hhd : R.headD 0 ∈ R:=by
          cases R with
          | nil=>cases hR0
          | cons z r=>simp
        have hb0:=hx _ hhd
        have pm:=pickV_mem (l:=[0,1,-1,v1,R.headD 0]) (L:=L) (a:=b + 1 + 1) (by simp) (by simp)
        obtain ⟨c,hc⟩ : ∃ c,pickV [0,1,-1,v1,R.headD 0] L (b + 1 + 1) = c:=⟨_,rfl⟩
        rw [hc] at pm
        have hcb : -1000 ≤ c ∧ c ≤ 1000:=by simp only [List.mem_cons,List.not_mem_nil,or_false] at pm; omega
        have hms : m + 1 ≤ maxSl:=by unfold maxSl; omega
        have hall : (R.map eI).all PV.intP = true:=by rw [List.all_eq_true]; intro z hz; obtain ⟨q,_,rfl⟩:=List.mem_map.1 hz; rfl
        by_cases hmn2 : m = n
        · simp only [d_q021_k2, go_sem, hid, hid', P, f1, f2, f3, hc, hRl, hmn, hmn2, g0, hm1, escOf, hms]
          have hns : n + 1 ≤ maxSl:=by unfold maxSl; omega
          rw [if_pos (by omega),if_pos hns]
          refine af_ret (ns:=R ++ [c]) ?_ (esc_if (Nat.le_refl _) (esc_if (by omega) hxe)) ?_
          · rw [reif_row (j:=2) (fz:=0) rfl (by simp [hR]) (Nat.le_refl _),List.take_of_length_le (by simp [hR]),List.map_append]; rfl
          · refine hK ⟨kd, R ++ [c]⟩ (b + 1 + 1 + 1) ⟨by simp; omega, fun z hz => ?_, by dsimp only; omega, by dsimp only; omega⟩ (by omega) (by omega)
            rcases List.mem_append.1 hz with hz | hz
            · have:=hx z hz; omega
            · rw [List.mem_singleton.1 hz]; omega
        · simp only [d_q021_k2, go_sem, hid, hid', P, f1, f2, f3, hc, hRl, hmn, hmn2, g0, hm1, escOf, hms, hall]
          rw [if_pos (by omega),if_pos ⟨by omega,rfl⟩]
          refine af_retP (esc_if (Nat.le_refl _) (esc_if (by omega) hxe)) ?_
          have hw : win (R.map eI) 0 m ++ [PV.int IntKind.i64 c] = (R.take m ++ [c]).map eI:=by rw [win_pre,List.map_append,List.map_take]; rfl
          rw [hw]
          refine hK ⟨kd,R.take m ++ [c]⟩ (b + 1 + 1 + 1) ⟨by simp; omega,fun z hz=>?_,by dsimp only; omega,by dsimp only; omega⟩ (by omega) (by omega)
          rcases List.mem_append.1 hz with hz | hz
          · have:=hx z (List.mem_of_mem_take hz); omega
          · rw [List.mem_singleton.1 hz]; omega
      · by_cases f4 : nextV L (b + 1) 4 = 2
        · simp only [d_q021_k2, go_sem, hid, hid', P, f1, f2, f3, f4, hRl, hmn, escOf]
          refine af_retP (esc_if (Nat.le_refl _) (esc_if (by omega) hxe)) ?_
          exact hK ⟨kd,[]⟩ (b + 1 + 1) ⟨by simp,fun z hz=>by simp at hz,by dsimp only; omega,by dsimp only; omega⟩ (by omega) (by omega)
        · obtain ⟨r1, r2⟩ := rangeV_bd (u := 5) (v := 7) L (b + 1 + 1) (by omega) (by omega)
          obtain ⟨c,hc⟩:=Int.eq_ofNat_of_zero_le (show 0 ≤ rangeV 5 7 L (b + 1 + 1) by omega)
          rw [hc] at r1 r2
          have hc7 : c ≤ 7:=by omega
          simp only [d_q021_k2,go_sem,hid,hid',P,f1,f2,f3,f4,hc,hc7,hRl,hmn,escOf]
          refine af_retP (esc_if (Nat.le_refl _) (esc_if (by omega) hxe)) ?_
          have hw : win [PV.int IntKind.i64 0,PV.int IntKind.i64 1,PV.int IntKind.i64 2,PV.int IntKind.i64 3,PV.int IntKind.i64 4,PV.int IntKind.i64 5,PV.int IntKind.i64 6] 0 c = (([0,1,2,3,4,5,6] : List Int).take c).map eI:=by rw [List.map_take]; rfl
          rw [hw]
          refine hK ⟨kd,([0,1,2,3,4,5,6] : List Int).take c⟩ (b + 1 + 1 + 1) ⟨by simp; omega,fun z hz=>?_,by dsimp only; omega,by dsimp only; omega⟩ (by omega) (by omega)
          have:=List.mem_of_mem_take hz
          simp only [List.mem_cons,List.not_mem_nil,or_false] at this
          omega
  · simp only [d_q021_k2, go_sem, hid, hid', P, f1, hRl, hmn, escOf]
    refine af_ret (ns:=R.take m) (by rw [reif_row (j:=2) (fz:=0) rfl hRl hmn,List.map_take]) (esc_if (Nat.le_refl _) hxe) ?_
    exact hK ⟨kd,R.take m⟩ (b + 1) ⟨by simp; omega,fun z hz=>by have:=hx z (List.mem_of_mem_take hz); omega,by dsimp only; omega,by dsimp only; omega⟩ (by omega) (by omega)
attribute [-go_sem] d_q021_k2
theorem isort_eI (l : List Int) : isort ltP (l.map eI) = (isort ltI l).map eI:=isort_map eI (fun a b=>rfl) l
theorem esc_if1 {n m : Nat} {p : Prop} [Decidable p] (hn : n ≤ m) {t : Nat} : ∀ y ∈ (if p then [(m,t)] else ([] : Esc)),n ≤ y.1:=by
  intro y hy
  split at hy
  · rw [List.mem_singleton.1 hy]; exact hn
  · cases hy
theorem sort_at {l0 : List Int} (o m N : Nat) (hl : l0.length = N) (hom : o + m ≤ N) (hm : m ≤ 12) (x y : Obj) (b : Int) : ∃ R : List Int,R.length = N ∧ (∀ z ∈ R,z ∈ l0) ∧ ∀ K : Post,ACall X f_q038 [.own (h.length + 2) N o m] (h.set id (strm L b) ++ [x,y,.row none (l0.map eI) 0]) K = K (.tup []) (h.set id (strm L b) ++ [x,y,.row none (R.map eI) 0]) []:=by
  have hsp : l0 = l0.take o ++ ((l0.drop o).take m ++ l0.drop (o + m)):=by
    rw [← List.drop_drop,List.take_append_drop,List.take_append_drop]
  have hl1 : ((l0.drop o).take m).length = m:=by simp; omega
  have hg : (h.set id (strm L b) ++ [x,y,.row none (l0.map eI) 0])[h.length + 2]? = some (.row none (((l0.take o).map eI) ++ (((l0.drop o).take m).map eI ++ (l0.drop (o + m)).map eI)) 0):=by
    have e : h.length = (h.set id (strm L b)).length:=by simp
    rw [e,app_get]
    show some (Obj.row none (l0.map eI) 0) = _
    rw [← List.map_append,← List.map_append,← hsp]
  refine ⟨l0.take o ++ (isort ltI ((l0.drop o).take m) ++ l0.drop (o + m)),?_,fun z hz=>?_,fun K=>?_⟩
  · rw [List.length_append,List.length_append,isort_len,hl1]; simp; omega
  · rw [hsp]
    rcases List.mem_append.1 hz with hz | hz
    · exact List.mem_append_left _ hz
    · rcases List.mem_append.1 hz with hz | hz
      · exact List.mem_append_right _ (List.mem_append_left _ (isort_mem.1 hz))
      · exact List.mem_append_right _ (List.mem_append_right _ hz)
  · have := SortO_int (K := K) (h.length + 2) N o ((l0.take o).map eI) (((l0.drop o).take m).map eI) ((l0.drop (o + m)).map eI) (by simp; omega) (by rw [List.length_map, hl1]; simp; omega) shps_eI (by rw [List.length_map, hl1]; exact hm) hg (lt := ltP) less_eI
    rw [List.length_map,hl1] at this
    rw [this,isort_eI,← List.map_append,← List.map_append]
    congr 1
    have e : h.length + 2 = (h.set id (strm L b)).length + 2:=by simp
    rw [e,app_set]; rfl
theorem g_AFault (n : Nat) (hn : n ≤ 100) (hp : posN 3000 a) : GenE f_q021 [AI n] L a (fun v a2=>a ≤ a2 ∧ a2 ≤ a + 120 ∧ ∃ f : Flt,SmallF f ∧ v = .p f.pv):=by
  refine GenE.of fun h id hid=>?_
  rw [c_q021 rfl]
  have hid' : id ≤ h.length:=by omega
  have p0:=posN_le (n:=0) hp (Int.le_refl a) (by omega)
  obtain ⟨k1,k2⟩:=rangeV_bd (u:=1) (v:=6) L a (by omega) (by omega)
  obtain ⟨kd,hkd⟩ : ∃ k,rangeV 1 6 L a = k:=⟨_,rfl⟩
  rw [hkd] at k1 k2
  obtain ⟨N,hN⟩ : ∃ N : Nat,max (n : Int) 1 = (N : Int):=⟨max n 1,by omega⟩
  have hN1 : 1 ≤ N ∧ N ≤ 100:=by omega
  have hg : ∀ t : Heap,(h.set id (strm L (a + 1)) ++ t)[id]? = some (strm L (a + 1)):=fun t=>set_app_get hid _
  obtain ⟨xs,a3,⟨d1,d2,l,hl,rfl⟩,V⟩:=g_Order (L:=L) (a:=a + 1) N (by omega) (posN_le hp (by omega) (by omega)) (h.set id (strm L (a + 1)) ++ [.box [AI 0,.sl0 none],.box [AI kd,.sl0 none]]) id (hg _)
  have hll : l.length = N:=by rw [hl.length_eq,upI_len]
  have hb2 : (h.set id (strm L (a + 1)) ++ [Obj.box [AI 0,.sl0 none],.box [AI kd,.sl0 none]]).length = h.length + 2:=by simp
  rw [List.length_map,hll,hb2] at V
  simp only [set_app_set hid,List.append_assoc,List.cons_append,List.nil_append] at V
  have hlm : ∀ x ∈ l,0 ≤ x ∧ x ≤ 1000:=fun x hx=>by have:=upI_mem.1 (hl.mem_iff.1 hx); omega
  have P3:=posAll (posN_le hp (show a ≤ a3 by omega) (show a3 + 14 ≤ a + 3000 by omega))
  by_cases hk : 3 ≤ kd ∧ kd ≤ 5
  · have pm := pickV_mem (l := [2, 2, 3]) (L := L) (a := a3) (by simp) (by simp)
    obtain ⟨c,hc⟩ : ∃ c,pickV [2,2,3] L a3 = c:=⟨_,rfl⟩
    rw [hc] at pm
    have hc3 : 2 ≤ c ∧ c ≤ 3:=by simp only [List.mem_cons,List.not_mem_nil,or_false] at pm; omega
    obtain ⟨m,hm⟩ : ∃ m : Nat,min c (N : Int) = (m : Int):=⟨(min c (N : Int)).toNat,by omega⟩
    have hm2 : 1 ≤ m ∧ m ≤ N ∧ m ≤ 3:=by omega
    have hm0 : ¬ m = 0:=by omega
    have hpos : posN 20 (a3 + 1):=posN_le hp (by omega) (by omega)
    by_cases h5 : kd = 5
    · subst h5
      simp only [d_q021,go_sem,hid,hid',p0,hkd,hN,V,P3,hk.1,hk.2,hc,hm,hll,hm2,hm0,escOf]
      obtain ⟨R,r1,r2,r3⟩:=sort_at (h:=h) (id:=id) (L:=L) (l0:=l) 1 (m - 1) N hll (by omega) (by omega) (.box [AI 0,AV.sl0 none]) (.box [AI 5,AV.own (h.length + 2) N 0 m]) (a3 + 1)
      rw [r3]
      refine af_k2 5 (by omega) R N m r1 (by omega) (by omega) (by omega) (fun z hz=>hlm z (r2 z hz)) n (by omega) (a3 + 1) hpos hid _ ?_ _ ?_
      · rw [List.nil_append]
        exact esc_if (by omega) (esc_if1 (by omega))
      · intro f b2 q1 q2 q3
        exact ⟨b2,⟨by omega,by omega,f,q1,rfl⟩,rfl,rfl⟩
    · have h5' : ¬ (kd = 5) := h5
      simp only [d_q021,go_sem,hid,hid',p0,hkd,hN,V,P3,hk.1,hk.2,hc,hm,h5',hll,hm2,hm0,escOf]
      obtain ⟨R,r1,r2,r3⟩:=sort_at (h:=h) (id:=id) (L:=L) (l0:=l) 0 m N hll (by omega) (by omega) (.box [AI 0,AV.sl0 none]) (.box [AI kd,AV.own (h.length + 2) N 0 m]) (a3 + 1)
      rw [r3]
      refine af_k2 kd (by omega) R N m r1 (by omega) (by omega) (by omega) (fun z hz=>hlm z (r2 z hz)) n (by omega) (a3 + 1) hpos hid _ ?_ _ ?_
      · rw [List.nil_append]
        exact esc_if (by omega) (esc_if1 (by omega))
      · intro f b2 q1 q2 q3
        exact ⟨b2,⟨by omega,by omega,f,q1,rfl⟩,rfl,rfl⟩
  · have h5 : ¬ kd = 5 := by omega
    have hpos : posN 20 a3:=posN_le hp (by omega) (by omega)
    have fin : ∀ (y : Esc),(∀ z ∈ y,h.length ≤ z.1) → (ACall X f_q038 [.own (h.length + 2) N 0 1] (h.set id (strm L a3) ++ [.box [AI 0,AV.sl0 none],.box [AI kd,AV.own (h.length + 2) N 0 1],.row none (l.map eI) 0])
        fun t12 h13 y14=>d_q021_k2 (ACall X) X.gl p_q021_k1 (.ref id 0) (AI n) (.ref h.length 0) (.ref (h.length + 1) 0) h13 (y14 ++ y)
          (finR [.cell 4 (some 2)] false h.length fun v1 h1 x1=>∃ a2,(a ≤ a2 ∧ a2 ≤ a + 120 ∧ ∃ f : Flt,SmallF f ∧ v1 = .p f.pv) ∧ h1 = h.set id (strm L a2) ∧ x1 = [])):=by
      intro y hy
      obtain ⟨R,r1,r2,r3⟩:=sort_at (h:=h) (id:=id) (L:=L) (l0:=l) 0 1 N hll (by omega) (by omega) (.box [AI 0,AV.sl0 none]) (.box [AI kd,AV.own (h.length + 2) N 0 1]) a3
      rw [r3]
      refine af_k2 kd (by omega) R N 1 r1 (by omega) (by omega) (by omega) (fun z hz=>hlm z (r2 z hz)) n (by omega) a3 hpos hid _ ?_ _ ?_
      · rw [List.nil_append]; exact hy
      · intro f b2 q1 q2 q3
        exact ⟨b2,⟨by omega,by omega,f,q1,rfl⟩,rfl,rfl⟩
    by_cases h3 : 3 ≤ kd
    · have h6 : ¬ kd ≤ 5 := by omega
      simp only [d_q021,go_sem,hid,hid',p0,hkd,hN,V,h3,h6,h5,hll,hN1.1,escOf]
      refine fin _ ?_
      exact esc_if (by omega) (esc_if1 (by omega))
    · simp only [d_q021, go_sem, hid, hid', p0, hkd, hN, V, h3, h5, hll, hN1.1, escOf]
      refine fin _ ?_
      exact esc_if (by omega) (esc_if1 (by omega))
end Go.Am
end
section
/- What is drawn: lists of faults. -/
open Go
set_option linter.all false
namespace Go.Am
variable {L : List Int} {a : Int} {h l : Heap} {id : Nat} {K : Post}
theorem s_CloneUP (l : List PV) (hl : l.length ≤ 1000000) : ACall X f_q02v [.p (.sl none l)] h K = K (.own h.length l.length 0 l.length) (h ++ [.row none l 0]) []:=by
  refine rule ?_
  rw [c_q02v rfl]
  simp only [d_q02v]
  refine ⟨_,_,_,⟨rfl,rfl,rfl⟩,?_⟩
  cases l with
  | nil=>
    simp only [List.length_nil,go_sem]
    exact List.take_of_length_le (by simp)
  | cons x r=>
    have hm : r.length + 1 ≤ maxSl:=by simp only [List.length_cons] at hl; unfold maxSl; omega
    simp only [List.length_cons,go_sem,hm]
    exact List.take_of_length_le (by simp)
end Go.Am
end
section
/- Faults detected,asv the program computes it. -/
open Go
set_option linter.all false
namespace Go.Am
variable {h : Heap} {K : Post}
theorem s_EqualS (l m : List (List UInt8)) (hl : l.length ≤ 1000000000) : ACall X f_q032 [AStr l,AStr m] h K = K (AB (decide (l = m))) h []:=by
  refine rule ?_
  rw [c_q032 rfl]
  by_cases hlen : l.length = m.length
  · simp only [d_q032, go_sem, hlen]
    refine N_loop (fun k : Nat=>⟨[(0,AStr l),(1,AStr m),(12,AI m.length),(13,AI k)],h,[]⟩) (fun k=>k ≤ m.length ∧ l.take k = m.take k) (fun k=>m.length - k) 0 rfl (by simp) ?_
    rintro k ⟨hk,hp⟩
    rcases Nat.lt_or_ge k m.length with hlt | hge
    · have hg1 := map_get PV.str (show k < l.length by omega)
      have hg2:=map_get PV.str hlt
      have w2 : IntKind.i64.wrap ((k : Int) + 1) = ((k + 1 : Nat) : Int):=i64_wrap _ (by omega) (by omega)
      by_cases he : l[k] = m[k]
      · simp only [go_sem, hlt, hg1, hg2, w2, he]
        exact ⟨k + 1,rfl,⟨by omega,by rw [List.take_succ_eq_append_getElem (by omega),List.take_succ_eq_append_getElem hlt,hp,he]⟩,by omega⟩
      · simp only [go_sem, hlt, hg1, hg2, w2, he]
        have : ¬ l = m:=fun h=>he (by simp only [h])
        simp [this]
    · have e1 : k = m.length := by omega
      have e2 : l = m:=by rw [← List.take_length (l:=l),← List.take_length (l:=m),hlen,← e1,hp]
      subst e1
      simp only [go_sem,Nat.lt_irrefl]
      simp [e2]
  · have e1 : ((l.length : Int) = m.length) = False := by simp only [eq_iff_iff, iff_false]; omega
    simp only [d_q032,go_sem,e1]
    have : ¬ l = m:=fun h=>hlen (by rw [h])
    simp [this]
theorem s_respond (r : List Nat) (f : Flt) (lg : Nat) (hl : lg ≤ 64) (hf : NetsIn f.nets r.length) (hr : r.length ≤ 1000000) (hb : ∀ x ∈ r,x < 18446744073709551616) :
    ACall X f_q014 [.p (.sl none (r.map eU)),.p f.pv,AI lg] h K = K (.p (.sl none ((fwithN r f (2 ^ lg - 1)).map eU))) h []:=by
  refine rule ?_
  rw [c_q014 rfl]
  have C:=fun h K=>s_CloneUP (h:=h) (K:=K) (r.map eU) (by simpa using hr)
  rw [List.length_map] at C
  have wh:=fun h K=>s_whole (h:=h) (K:=K) lg hl
  have W:=fun (K : Post)=>s_with (h:=h ++ [.box [AI f.kind,AL f.nets],.row none (r.map eU) 0]) (K:=K) f r hf (id:=h.length + 1) (by rw [app_get]; rfl) hr hb (2 ^ lg - 1)
  have hw : win ((fwithN r f (2 ^ lg - 1)).map eU) 0 r.length = (fwithN r f (2 ^ lg - 1)).map eU:=win_full (by rw [List.length_map,fwithN_len])
  have hl2 : ((fwithN r f (2 ^ lg - 1)).map eU).length = r.length:=by rw [List.length_map,fwithN_len]
  have hl3 : (fwithN r f (2 ^ lg - 1)).length = r.length:=fwithN_len _ _ _
  simp only [Flt.pv] at W
  simp only [d_q014,Flt.pv,go_sem,C,wh,W,hw,hl3]
theorem s_detected (r : List Nat) (f : Flt) (lg : Nat) (hl : lg ≤ 64) (hf : NetsIn f.nets r.length) (hr : r.length ≤ 1000000) (hb : ∀ x ∈ r,x < 2 ^ lg) :
    ACall X f_q011 [.p (.sl none (r.map eU)),.p f.pv,AI lg] h K = K (.p (eU (detN lg r f))) h []:=by
  refine rule ?_
  rw [c_q011 rfl]
  have l64:=le64 hl
  have R:=fun h K=>s_respond (h:=h) (K:=K) r f lg hl hf hr (fun x hx=>Nat.lt_of_lt_of_le (hb x hx) l64)
  have hl3 : (fwithN r f (2 ^ lg - 1)).length = r.length:=fwithN_len _ _ _
  have hb2:=fwithN_lt (f:=f) hb (ones_lt lg)
  simp only [Flt.pv] at R
  simp only [d_q011,Flt.pv,go_sem,R,hl3]
  unfold detN
  generalize fwithN r f (2 ^ lg - 1) = r2 at *
  refine N_loop (fun k : Nat=>⟨[(0,.p (.sl none (r.map eU))),(7,.p (eU (dtK r2 r k))),(13,.p (.sl none (r2.map eU))),(14,AI r.length),(15,AI k)],h ++ [.box [AI f.kind,AL f.nets]],[]⟩) (fun k=>k ≤ r.length) (fun k=>r.length - k) 0 rfl (by omega) ?_
  intro k hk
  rcases Nat.lt_or_ge k r.length with hlt | hge
  · have g1 := map_get eU hlt
    have g2:=map_get eU (show k < r2.length by omega)
    have w2 : IntKind.i64.wrap ((k : Int) + 1) = ((k + 1 : Nat) : Int):=i64_wrap _ (by omega) (by omega)
    have b1:=Nat.lt_of_lt_of_le (hb _ (List.getElem_mem hlt)) l64
    have b2:=Nat.lt_of_lt_of_le (hb2 _ (List.getElem_mem (show k < r2.length by omega))) l64
    have b3:=Nat.lt_of_lt_of_le (dtK_lt hb2 hb k) l64
    have e1:=ixor_nat b2 b1
    have e2:=ior_nat b3 (b:=r2[k] ^^^ r[k]) (by rw [← pow64] at *; exact Nat.xor_lt_two_pow b2 b1)
    have e3 : dtK r2 r (k + 1) = dtK r2 r k ||| (r2[k] ^^^ r[k]):=by
      rw [dtK]; simp [List.getD_eq_getElem?_getD,List.getElem?_eq_getElem hlt,List.getElem?_eq_getElem (show k < r2.length by omega)]
    simp only [go_sem,hlt,g1,g2,e1,e2,w2]
    exact ⟨k + 1,by rw [e3],by omega,by omega⟩
  · have ek : k = r.length := by omega
    subst ek
    simp only [go_sem,Nat.lt_irrefl]
theorem s_detectedOwn (r : List Nat) (f : Flt) (lg : Nat) (hl : lg ≤ 64) (hf : NetsIn f.nets r.length) (hr : r.length ≤ 1000000) (hb : ∀ x ∈ r,x < 2 ^ lg) {id : Nat} (hh : h[id]? = some (.row none (r.map eU) 0)) :
    ACall X f_q011 [.own id r.length 0 r.length,.p f.pv,AI lg] h K = K (.p (eU (detN lg r f))) (frz h id r.length) []:=by
  have e:=arg_pur (X:=X) (f:=f_q011) (F:=a_q011) (a:=[.own id r.length 0 r.length,.p f.pv,AI lg]) (vs:=[.sl none (r.map eU),f.pv,.int .i64 lg]) (h:=h) (h1:=frz h id r.length) (P:=K) x_q011 rfl
    (by
      have : win (r.map eU) 0 r.length = r.map eU:=win_full (by simp)
      simp [puras,pur,rd,hh,this]) rfl rfl frz_len
  rw [e]
  exact s_detected r f lg hl hf hr hb
def detT (t : List (List UInt8)) (f : Flt) : Nat:=detN (t.headD []).length (t.map rowN) f
theorem s_ctz (n : Nat) (hn : n < 18446744073709551616) : ACall X f_q01r [.p (eU n)] h K = K (AI (ctzN n : Nat)) h []:=by
  refine lib_call (X:=X) (by kernel_rfl) ?_
  rw [X_ex2]
  exact libF_pure (vs:=[eU n]) (by kernel_rfl) (s:=ctzS) (by kernel_rfl) rfl (by simp only [ctzS]; rw [if_pos ⟨by omega,by omega⟩]; rfl)
theorem allF_one {t : List (List UInt8)} {f : Flt} (h : allF t [f] = 0) : testF t = 0 ∧ fltF t.length f = 0:=by
  have hT : testF t = 0:=by unfold allF at h; split at h <;> simp_all
  refine ⟨hT,?_⟩
  unfold allF at h
  rw [if_neg (by simp [hT])] at h
  exact fltsF_ok h f (by simp)
theorem s_Detects (t : List (List UInt8)) (f : Flt) (hb : ∀ s ∈ t,s.length ≤ 1000000) (ht : t.length ≤ 1000000) (hf : f.nets.length ≤ 1000000) :
    ACall X f_q00y [AStr t,.p f.pv] h K = K (if allF t [f] ≠ 0 then .tup [AB false,AI (allF t [f])] else .tup [AB (!decide (detT t f = 0)),AI 0]) h []:=by
  refine rule ?_
  rw [c_q00y rfl]
  have c:=fun h K=>s_faultsFault (h:=h) (K:=K) t [f] hb ht (fun g hg=>by rw [List.mem_singleton.1 hg]; exact hf) (by simp)
  simp only [AFlt,List.map_cons,List.map_nil,Flt.pv] at c
  by_cases h1 : allF t [f] = 0
  case neg=>simp only [d_q00y,Flt.pv,go_sem,c,h1]
  obtain ⟨hT,hF⟩:=allF_one h1
  have T:=testF_ok hT
  unfold detT
  obtain ⟨lg,hlg⟩ : ∃ n,(t.headD []).length = n:=⟨_,rfl⟩
  rw [hlg] at T ⊢
  have R:=fun h K=>s_rows (h:=h) (K:=K) t T.b (fun s hs=>by rw [T.e s hs]; exact T.l) (by have:=T.n1; omega)
  have r0:=rows_lt T
  have hz:=head_str T.n0
  have D:=fun (K : Post)=>s_detectedOwn (h:=h ++ [.box [AI f.kind,AL f.nets],.row none ((t.map rowN).map eU) 0]) (K:=K) (t.map rowN) f lg T.l (by rw [List.length_map]; exact fltF_in hF) (by have:=T.n1; simp; omega) r0 (id:=h.length + 1) (by rw [app_get]; rfl)
  rw [List.length_map] at D
  simp only [Flt.pv] at D
  have e0 : ((detN lg (t.map rowN) f : Nat) : Int) = 0 ↔ detN lg (t.map rowN) f = 0:=by omega
  simp only [d_q00y,Flt.pv,go_sem,c,h1,R,hz,hlg,D,e0]
theorem s_First (t : List (List UInt8)) (f : Flt) (hb : ∀ s ∈ t,s.length ≤ 1000000) (ht : t.length ≤ 1000000) (hf : f.nets.length ≤ 1000000) :
    ACall X f_q00z [AStr t,.p f.pv] h K = K (if allF t [f] ≠ 0 then .tup [AI 0,AB false,AI (allF t [f])] else if detT t f = 0 then .tup [AI 0,AB false,AI 0] else .tup [AI (ctzN (detT t f) : Nat),AB true,AI 0]) h []:=by
  refine rule ?_
  rw [c_q00z rfl]
  have c:=fun h K=>s_faultsFault (h:=h) (K:=K) t [f] hb ht (fun g hg=>by rw [List.mem_singleton.1 hg]; exact hf) (by simp)
  simp only [AFlt,List.map_cons,List.map_nil,Flt.pv] at c
  by_cases h1 : allF t [f] = 0
  case neg=>simp only [d_q00z,Flt.pv,go_sem,c,h1]
  obtain ⟨hT,hF⟩:=allF_one h1
  have T:=testF_ok hT
  unfold detT
  obtain ⟨lg,hlg⟩ : ∃ n,(t.headD []).length = n:=⟨_,rfl⟩
  rw [hlg] at T ⊢
  have R:=fun h K=>s_rows (h:=h) (K:=K) t T.b (fun s hs=>by rw [T.e s hs]; exact T.l) (by have:=T.n1; omega)
  have r0:=rows_lt T
  have hz:=head_str T.n0
  have D:=fun (K : Post)=>s_detectedOwn (h:=h ++ [.box [AI f.kind,AL f.nets],.row none ((t.map rowN).map eU) 0]) (K:=K) (t.map rowN) f lg T.l (by rw [List.length_map]; exact fltF_in hF) (by have:=T.n1; simp; omega) r0 (id:=h.length + 1) (by rw [app_get]; rfl)
  rw [List.length_map] at D
  simp only [Flt.pv] at D
  have hd:=Nat.lt_of_lt_of_le (detN_lt (f:=f) r0) (le64 T.l)
  have Z:=fun h K=>s_ctz (h:=h) (K:=K) (detN lg (t.map rowN) f) hd
  by_cases h0 : detN lg (t.map rowN) f = 0
  · have e0 : ((detN lg (t.map rowN) f : Nat) : Int) = 0 := by omega
    simp only [d_q00z,Flt.pv,go_sem,c,h1,R,hz,hlg,D,e0,h0]
  · have e0 : ¬ ((detN lg (t.map rowN) f : Nat) : Int) = 0 := by omega
    simp only [d_q00z,Flt.pv,go_sem,c,h1,R,hz,hlg,D,e0,h0,Z]
end Go.Am
end
