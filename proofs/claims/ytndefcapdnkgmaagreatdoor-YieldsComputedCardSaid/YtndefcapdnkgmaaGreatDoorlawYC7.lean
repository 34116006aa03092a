/- Texts of the proof, laid together: SpBase, SpList, PSort, SpShp, SpStr, SpFind, SpLimD, SpLim, SpLotA, SpRecD, SpGenA, SpGenL, SpRec, SpSortRec, SpCompact, SpGenR, PMerge, SpMrgA, SpLen, SpSort, SpMrgB, SpMrgC, SpMrgD. -/
import Derived.Test.YtndefcapdnkgmaaGreatDoorlawYC6
set_option linter.all false
section
/- Small functions of numbers and of lists of numbers. -/
open Go
namespace Go.Am
variable {h : Heap} {K : Post}
theorem s_Out (n a b : Int) : ACall X f_q008 [AI n,AI a,AI b] h K = K (AB (decide (n < a) || decide (b < n))) h []:=by
  refine rule ?_
  rw [c_q008 rfl]
  by_cases h1 : n < a <;> simp only [d_q008,go_sem,h1]
theorem s_in (n a b : Int) : ACall X f_q04s [AI n,AI a,AI b] h K = K (AB (decide (a ≤ n) && decide (n ≤ b))) h []:=by
  refine rule ?_
  rw [c_q04s rfl]
  by_cases h1 : a ≤ n <;> simp only [d_q04s,go_sem,h1]
theorem out_eq (n a b : Int) : (decide (n < a) || decide (b < n)) = !(decide (a ≤ n) && decide (n ≤ b)):=by
  rw [Bool.eq_iff_iff]; simp
theorem s_sign (n : Int) : ACall X f_q04y [AI n] h K = K (AI n.sign) h []:=by
  refine rule ?_
  rw [c_q04y rfl]
  rcases Int.lt_trichotomy n 0 with h1 | h1 | h1
  · simp only [d_q04y,go_sem,h1,Int.sign_eq_neg_one_of_neg h1]
  · subst h1; simp only [d_q04y,go_sem,Int.sign_zero]
  · simp only [d_q04y,go_sem,show ¬ n < 0 by omega,h1,Int.sign_eq_one_of_pos h1]
theorem gcd_step (a b : Int) : Int.gcd b (a.tmod b) = Int.gcd a b:=by
  unfold Int.gcd
  rw [Int.natAbs_tmod,Nat.gcd_comm,← Nat.gcd_rec,Nat.gcd_comm]
theorem s_Gcd (a b : Int) (ha : 0 ≤ a) (hb : 0 ≤ b) : ACall X f_q005 [AI a,AI b] h K = K (AI (Int.gcd a b)) h []:=by
  refine rule ?_
  rw [c_q005 rfl]
  simp only [d_q005,go_sem]
  refine N_loop (fun t : Int × Int=>⟨[(0,AI t.1),(1,AI t.2)],h,[]⟩) (fun t=>0 ≤ t.1 ∧ 0 ≤ t.2 ∧ Int.gcd t.1 t.2 = Int.gcd a b) (fun t=>t.2.toNat) (a,b) rfl ⟨ha,hb,rfl⟩ ?_
  rintro ⟨u,v⟩ ⟨h1,h2,h3⟩
  dsimp only at h1 h2 h3
  by_cases hv : v = 0
  · subst hv
    simp only [go_sem]
    rw [← h3]; simp; omega
  · simp only [go_sem, hv]
    exact ⟨(v,u.tmod v),rfl,⟨h2,Int.tmod_nonneg _ h1,by rw [gcd_step]; exact h3⟩,by have:=Int.tmod_lt_of_pos u (show 0 < v by omega); dsimp only; omega⟩
theorem s_divisor (a b : Int) (ha : -9223372036854775807 ≤ a ∧ a ≤ 9223372036854775807) (hb : -9223372036854775807 ≤ b ∧ b ≤ 9223372036854775807) : ACall X f_q04q [AI a,AI b] h K = K (AI (Int.gcd a b)) h []:=by
  refine rule ?_
  rw [c_q04q rfl]
  simp only [d_q04q,go_sem]
  refine N_loop (fun t : Int × Int=>⟨[(0,AI t.1),(1,AI t.2)],h,[]⟩) (fun t=>(-9223372036854775807 ≤ t.1 ∧ t.1 ≤ 9223372036854775807) ∧ (-9223372036854775807 ≤ t.2 ∧ t.2 ≤ 9223372036854775807) ∧ Int.gcd t.1 t.2 = Int.gcd a b) (fun t=>t.2.natAbs) (a,b) rfl ⟨ha,hb,rfl⟩ ?_
  rintro ⟨u,v⟩ ⟨h1,h2,h3⟩
  dsimp only at h1 h2 h3
  by_cases hv : v = 0
  · subst hv
    have w : IntKind.i64.wrap (-u) = -u:=i64_wrap _ (by omega) (by omega)
    simp only [go_sem,w]
    rw [← h3]; simp; omega
  · simp only [go_sem, hv]
    have hl : (u.tmod v).natAbs < v.natAbs:=by rw [Int.natAbs_tmod]; exact Nat.mod_lt _ (by omega)
    exact ⟨(v,u.tmod v),rfl,⟨h2,by dsimp only; omega,by rw [gcd_step]; exact h3⟩,hl⟩
theorem s_Fraction (a b : Int) (ha : -9223372036854775807 ≤ a ∧ a ≤ 9223372036854775807) (hb : 0 < b ∧ b ≤ 9223372036854775807) : ACall X f_q004 [AI a,AI b] h K = K (.p (.agg [eI (low a b).1,eI (low a b).2])) h []:=by
  refine rule ?_
  rw [c_q004 rfl]
  have w : IntKind.i64.wrap (-a) = -a:=i64_wrap _ (by omega) (by omega)
  have e : Int.gcd (max a (-a)) b = Int.gcd a b:=by
    rcases Int.le_total 0 a with h | h
    · rw [show max a (-a) = a by omega]
    · rw [show max a (-a) = -a by omega,Int.neg_gcd]
  have hg:=gcd_pos a b hb.1
  have hd:=low_den_le a b hb.1
  have hp:=low_den_pos a b hb.1
  have hn:=low_abs a b hb.1
  have w1 : IntKind.i64.wrap (a.tdiv (Int.gcd a b)) = (low a b).1:=i64_wrap (low a b).1 (by omega) (by omega)
  have w2 : IntKind.i64.wrap (b.tdiv (Int.gcd a b)) = (low a b).2:=i64_wrap (low a b).2 (by omega) (by omega)
  have e0 : ((Int.gcd a b : Int) = 0) = False:=by simp only [eq_iff_iff,iff_false]; omega
  simp only [d_q004,go_sem,w,s_Gcd (max a (-a)) b (by omega) (by omega),e,e0,w1,w2]
theorem s_refLowest (a b : Int) (ha : -9223372036854775807 ≤ a ∧ a ≤ 9223372036854775807) (hb : 0 < b ∧ b ≤ 9223372036854775807) : ACall X f_q04e [AI a,AI b] h K = K (.p (.agg [eI (low a b).1,eI (low a b).2])) h []:=by
  refine rule ?_
  rw [c_q04e rfl]
  have hg:=gcd_pos a b hb.1
  have hd:=low_den_le a b hb.1
  have hp:=low_den_pos a b hb.1
  have hn:=low_abs a b hb.1
  have w1 : IntKind.i64.wrap (a.tdiv (Int.gcd a b)) = (low a b).1:=i64_wrap (low a b).1 (by omega) (by omega)
  have w2 : IntKind.i64.wrap (b.tdiv (Int.gcd a b)) = (low a b).2:=i64_wrap (low a b).2 (by omega) (by omega)
  have e0 : ((Int.gcd a b : Int) = 0) = False:=by simp only [eq_iff_iff,iff_false]; omega
  simp only [d_q04e,go_sem,s_divisor a b ha (by omega),e0,w1,w2]
theorem u64_wrap (n : Int) (h1 : 0 ≤ n) (h2 : n < 18446744073709551616) : IntKind.u64.wrap n = n:=by
  simp [IntKind.wrap,IntKind.bits,IntKind.signed]; omega
abbrev AU (n : Int) : AV:=.p (.int .u64 n)
theorem mul_bd {a b A B : Int} (h1 : 0 ≤ a) (h2 : a ≤ A) (h3 : 0 ≤ b) (h4 : b ≤ B) : 0 ≤ a * b ∧ a * b ≤ A * B:=
  ⟨Int.mul_nonneg h1 h3,Int.mul_le_mul h2 h4 h3 (by omega)⟩
def cmp3 (x y : Int) : Int:=if x < y then -1 else if x = y then 0 else 1
theorem cmp3_sign (x y : Int) : cmp3 x y = (x - y).sign:=by
  unfold cmp3
  rcases Int.lt_trichotomy x y with h | h | h
  · rw [if_pos h,Int.sign_eq_neg_one_of_neg (by omega)]
  · rw [if_neg (by omega),if_pos h,h]; simp
  · rw [if_neg (by omega),if_neg (by omega),Int.sign_eq_one_of_pos (by omega)]
end Go.Am
end
section
/- Functions of lists. -/
open Go
namespace Go.Am
variable {h : Heap} {K : Post}
theorem s_isNaN (a : Int) : ACall X f_q00w [AI a] h K = K (AB false) h []:=by
  refine rule ?_
  rw [c_q00w rfl]
  simp only [d_q00w,go_sem]
theorem s_cmpCompare (a b : Int) : ACall X f_q00s [AI a,AI b] h K = K (AI (cmp3 a b)) h []:=by
  refine rule ?_
  rw [c_q00s rfl]
  unfold cmp3
  by_cases h1 : a < b
  · simp only [d_q00s,go_sem,s_isNaN,h1]
  · by_cases h2 : b < a
    · simp only [d_q00s,go_sem,s_isNaN,h1,h2,show ¬ a = b by omega]
    · simp only [d_q00s,go_sem,s_isNaN,h1,h2,show a = b by omega,Int.lt_irrefl]
theorem sum_take_succ (l : List Int) (k : Nat) (hk : k < l.length) : (l.take (k + 1)).sum = (l.take k).sum + l[k]:=by
  rw [List.take_succ_eq_append_getElem hk,List.sum_append]; simp
theorem sum_bd (l : List Int) (a b : Int) (hv : ∀ n ∈ l,a ≤ n ∧ n ≤ b) : (l.length : Int) * a ≤ l.sum ∧ l.sum ≤ (l.length : Int) * b:=by
  induction l with
  | nil=>simp
  | cons x r ih=>
    obtain ⟨i1,i2⟩:=ih (fun n hn=>hv n (by simp [hn]))
    obtain ⟨x1,x2⟩:=hv x (by simp)
    simp only [List.length_cons,List.sum_cons,Int.natCast_add,Int.add_mul]
    omega
theorem sum_bd' {l : List Int} {B : Int} (hv : ∀ n ∈ l,-B ≤ n ∧ n ≤ B) {N : Nat} (hl : l.length ≤ N) (hB : 0 ≤ B) : -(N * B) ≤ l.sum ∧ l.sum ≤ N * B:=by
  obtain ⟨h1,h2⟩:=sum_bd l (-B) B hv
  have : (l.length : Int) * B ≤ N * B:=Int.mul_le_mul_of_nonneg_right (by omega) hB
  rw [Int.mul_neg] at h1
  omega
theorem sum_bd_take {l : List Int} {B : Int} (hv : ∀ n ∈ l,-B ≤ n ∧ n ≤ B) {N : Nat} (hl : l.length ≤ N) (hB : 0 ≤ B) (k : Nat) : -(N * B) ≤ (l.take k).sum ∧ (l.take k).sum ≤ N * B:=
  sum_bd' (fun n hn=>hv n (List.mem_of_mem_take hn)) (by simp; omega) hB
def Tells (g : Nat) (caps : List AV) (p : PV → Bool) (xs : List PV) (h : Heap) : Prop:=∀ x ∈ xs,∀ K : Post,ACall X g (.p x :: caps) h K = K (AB (p x)) h []
def idxP (p : PV → Bool) (xs : List PV) : Int:=if xs.findIdx p < xs.length then (xs.findIdx p : Int) else -1
theorem idxP_any (p : PV → Bool) (xs : List PV) : decide (0 ≤ idxP p xs) = xs.any p:=by
  unfold idxP
  rw [Bool.eq_iff_iff]
  by_cases h : xs.findIdx p < xs.length
  · rw [if_pos h]; simp only [decide_eq_true_eq, List.any_eq_true]
    exact ⟨fun _=>⟨_,List.getElem_mem h,List.findIdx_getElem⟩,fun _=>by omega⟩
  · rw [if_neg h]; simp only [decide_eq_true_eq, List.any_eq_true]
    refine ⟨fun h=>by omega,fun ⟨x,hx,hp⟩=>absurd (List.findIdx_lt_length_of_exists ⟨x,hx,hp⟩) h⟩
def firstErr : List Int → Int
  | []=>0
  | e :: r=>if e = 0 then firstErr r else e
theorem s_errs (l : List Int) (hl : l.length ≤ 1000) : ACall X f_q03w [AL l] h K = K (AI (firstErr l)) h []:=by
  refine rule ?_
  rw [c_q03w rfl]
  simp only [d_q03w,go_sem]
  refine N_loop (fun k : Nat=>⟨[(5,AL l),(6,AI l.length),(7,AI k)],h,[]⟩) (fun k=>k ≤ l.length ∧ firstErr (l.drop k) = firstErr l) (fun k=>l.length - k) 0 rfl (by simp) ?_
  rintro k ⟨hk,hp⟩
  rcases Nat.lt_or_ge k l.length with hlt | hge
  · have hg := map_get eI hlt
    have w2 : IntKind.i64.wrap ((k : Int) + 1) = ((k + 1 : Nat) : Int):=i64_wrap _ (by omega) (by omega)
    rw [List.drop_eq_getElem_cons hlt,firstErr] at hp
    by_cases he : l[k] = 0
    · rw [if_pos he] at hp
      simp only [go_sem,hlt,hg,w2,he]
      exact ⟨k + 1,rfl,⟨by omega,hp⟩,by omega⟩
    · rw [if_neg he] at hp
      simp only [go_sem,hlt,hg,w2,he]
      rw [hp]
  · have e1 : k = l.length := by omega
    subst e1
    simp only [go_sem,Nat.lt_irrefl]
    rw [List.drop_length] at hp
    rw [← hp]; rfl
end Go.Am
end
section
/- Plain lists: insertion sort asv Go's package slices does it on short lists; deleting; compacting. -/
namespace Go.Am
variable {α : Type}
def insR (lt : α → α → Bool) (x : α) : List α → List α
  | []=>[x]
  | y :: r=>bif lt x y then y :: insR lt x r else x :: y :: r
def isortR (lt : α → α → Bool) (l : List α) : List α:=l.foldl (fun r x=>insR lt x r) []
def isort (lt : α → α → Bool) (l : List α) : List α:=(isortR lt l).reverse
theorem insR_perm (lt : α → α → Bool) (x : α) : ∀ r : List α,(insR lt x r).Perm (x :: r)
  | []=>.refl _
  | y :: r=>by
    unfold insR
    cases lt x y with
    | true=>exact ((insR_perm lt x r).cons y).trans (.swap _ _ _)
    | false=>exact .refl _
theorem isortR_perm_aux (lt : α → α → Bool) : ∀ (l r : List α),(l.foldl (fun r x=>insR lt x r) r).Perm (l ++ r)
  | [],r=>.refl _
  | x :: l,r=>by
    simp only [List.foldl_cons,List.cons_append]
    refine (isortR_perm_aux lt l _).trans ?_
    exact ((insR_perm lt x r).append_left l).trans (List.perm_middle)
theorem isortR_perm (lt : α → α → Bool) (l : List α) : (isortR lt l).Perm l:=by
  have:=isortR_perm_aux lt l []
  rwa [List.append_nil] at this
theorem isort_perm (lt : α → α → Bool) (l : List α) : (isort lt l).Perm l:=(List.reverse_perm _).trans (isortR_perm lt l)
theorem isort_len (lt : α → α → Bool) (l : List α) : (isort lt l).length = l.length:=(isort_perm lt l).length_eq
theorem isort_mem {lt : α → α → Bool} {l : List α} {x : α} : x ∈ isort lt l ↔ x ∈ l:=(isort_perm lt l).mem_iff
theorem isortR_len (lt : α → α → Bool) (l : List α) : (isortR lt l).length = l.length:=(isortR_perm lt l).length_eq
structure Weak (lt : α → α → Bool) : Prop where
  asym : ∀ a b,lt a b = true → lt b a = false
  ntrans : ∀ a b c,lt b a = false → lt c b = false → lt c a = false
theorem insR_sorted {lt : α → α → Bool} (w : Weak lt) (x : α) : ∀ r : List α,r.Pairwise (fun a b=>lt a b = false) → (insR lt x r).Pairwise (fun a b=>lt a b = false)
  | [],_=>by simp [insR]
  | y :: r,h=>by
    unfold insR
    rw [List.pairwise_cons] at h
    cases hxy : lt x y with
    | true=>
      rw [cond_true,List.pairwise_cons]
      refine ⟨fun z hz=>?_,insR_sorted w x r h.2⟩
      rcases List.mem_cons.1 ((insR_perm lt x r).mem_iff.1 hz) with rfl | hz
      · exact w.asym _ _ hxy
      · exact h.1 z hz
    | false=>
      rw [cond_false,List.pairwise_cons,List.pairwise_cons]
      refine ⟨fun z hz=>?_,h⟩
      rcases List.mem_cons.1 hz with rfl | hz
      · exact hxy
      · exact w.ntrans _ _ _ (h.1 z hz) hxy
theorem isortR_sorted_aux {lt : α → α → Bool} (w : Weak lt) : ∀ (l r : List α),r.Pairwise (fun a b=>lt a b = false) → (l.foldl (fun r x=>insR lt x r) r).Pairwise (fun a b=>lt a b = false)
  | [],r,h=>h
  | x :: l,r,h=>isortR_sorted_aux w l _ (insR_sorted w x r h)
theorem isort_sorted {lt : α → α → Bool} (w : Weak lt) (l : List α) : (isort lt l).Pairwise (fun a b=>lt b a = false):=by
  unfold isort
  rw [List.pairwise_reverse]
  exact isortR_sorted_aux w l [] .nil
theorem isortR_take_succ (lt : α → α → Bool) (l : List α) (k : Nat) (hk : k < l.length) : isortR lt (l.take (k + 1)) = insR lt l[k] (isortR lt (l.take k)):=by
  rw [List.take_succ_eq_append_getElem hk]; unfold isortR; rw [List.foldl_append]; rfl
theorem map_insR {β : Type} (f : α → β) {lt : α → α → Bool} {lt' : β → β → Bool} (h : ∀ a b,lt' (f a) (f b) = lt a b) (x : α) : ∀ r : List α,insR lt' (f x) (r.map f) = (insR lt x r).map f
  | []=>rfl
  | y :: r=>by
    simp only [List.map_cons,insR,h]
    cases lt x y with
    | true=>simp only [cond_true,List.map_cons,map_insR f h x r]
    | false=>rfl
theorem insR_split (lt : α → α → Bool) (x : α) (A : List α) : ∀ B : List α,(∀ b ∈ B,lt x b = true) → insR lt x (B ++ A) = B ++ insR lt x A
  | [],_=>rfl
  | b :: B,h=>by
    simp only [List.cons_append,insR,h b (by simp),cond_true]
    rw [insR_split lt x A B (fun b hb=>h b (by simp [hb]))]
theorem ins_get (A C : List α) (x : α) : (A.reverse ++ x :: C)[A.length]? = some x:=by
  rw [List.getElem?_append_right (by simp)]; simp
theorem ins_get1 (A C : List α) (x y : α) : ((y :: A).reverse ++ x :: C)[A.length]? = some y:=by
  rw [List.getElem?_append_left (by simp)]; simp
theorem ins_swap (A C : List α) (x y : α) : (((y :: A).reverse ++ x :: C).set (A.length + 1) y).set A.length x = A.reverse ++ x :: y :: C:=by
  have e : (y :: A).reverse ++ x :: C = A.reverse ++ y :: x :: C:=by simp
  rw [e,List.set_append_right _ _ (by simp),List.length_reverse,Nat.add_sub_cancel_left,List.set_append_right _ _ (by simp),List.length_reverse,Nat.sub_self]
  rfl
theorem ins_done (lt : α → α → Bool) (x : α) (A B : List α) (hB : ∀ b ∈ B,lt x b = true) (hA : ∀ y r,A = y :: r → lt x y = false) : insR lt x (B ++ A) = B ++ x :: A:=by
  rw [insR_split lt x A B hB]
  cases A with
  | nil=>rfl
  | cons y r=>simp only [insR,hA y r rfl,cond_false]
theorem isort_map {β : Type} (f : α → β) {lt : α → α → Bool} {lt' : β → β → Bool} (h : ∀ a b,lt' (f a) (f b) = lt a b) (l : List α) : isort lt' (l.map f) = (isort lt l).map f:=by
  have key : ∀ (l r : List α),(l.map f).foldl (fun r x=>insR lt' x r) (r.map f) = (l.foldl (fun r x=>insR lt x r) r).map f:=by
    intro l
    induction l with
    | nil=>intro r; rfl
    | cons x l ih=>intro r; simp only [List.map_cons,List.foldl_cons,map_insR f h,ih]
  unfold isort isortR
  have:=key l []
  simp only [List.map_nil] at this
  rw [this,List.map_reverse]
end Go.Am
namespace Go.Am
variable {α : Type}
def cmpctFrom (q : α → α → Bool) (prev : α) : List α → List α
  | []=>[]
  | x :: r=>bif q x prev then cmpctFrom q x r else x :: cmpctFrom q x r
def compactL (q : α → α → Bool) : List α → List α
  | []=>[]
  | x :: r=>x :: cmpctFrom q x r
theorem cmpctFrom_len (q : α → α → Bool) : ∀ (l : List α) (p : α),(cmpctFrom q p l).length ≤ l.length
  | [],_=>Nat.le_refl _
  | x :: r,p=>by
    unfold cmpctFrom
    have:=cmpctFrom_len q r x
    cases q x p with
    | true=>simp only [cond_true,List.length_cons]; omega
    | false=>simp only [cond_false,List.length_cons]; omega
theorem compactL_len (q : α → α → Bool) (l : List α) : (compactL q l).length ≤ l.length:=by
  cases l with
  | nil=>exact Nat.le_refl _
  | cons x r=>have:=cmpctFrom_len q r x; simp only [compactL,List.length_cons]; omega
theorem cmpctFrom_mem (q : α → α → Bool) : ∀ (l : List α) (p : α),∀ x ∈ cmpctFrom q p l,x ∈ l
  | [],_,x,h=>h
  | y :: r,p,x,h=>by
    unfold cmpctFrom at h
    cases hq : q y p with
    | true=>rw [hq] at h; exact List.mem_cons_of_mem _ (cmpctFrom_mem q r y x h)
    | false=>
      rw [hq] at h
      rcases List.mem_cons.1 h with rfl | h
      · simp
      · exact List.mem_cons_of_mem _ (cmpctFrom_mem q r y x h)
theorem compactL_mem {q : α → α → Bool} {l : List α} {x : α} (h : x ∈ compactL q l) : x ∈ l:=by
  cases l with
  | nil=>exact h
  | cons y r=>
    rcases List.mem_cons.1 h with rfl | h
    · simp
    · exact List.mem_cons_of_mem _ (cmpctFrom_mem q r y x h)
theorem cmpctFrom_snoc (q : α → α → Bool) (z : α) : ∀ (l : List α) (p : α),cmpctFrom q p (l ++ [z]) = cmpctFrom q p l ++ (bif q z ((p :: l).getLast (by simp)) then [] else [z])
  | [],p=>by simp only [List.nil_append,cmpctFrom,List.getLast_singleton]
  | x :: r,p=>by
    simp only [List.cons_append,cmpctFrom,cmpctFrom_snoc q z r x]
    have e : (p :: x :: r).getLast (by simp) = (x :: r).getLast (by simp):=List.getLast_cons (by simp)
    rw [e]
    cases q x p <;> rfl
theorem compactL_take_succ (q : α → α → Bool) (l : List α) (k : Nat) (hk : k + 1 < l.length) : compactL q (l.take (k + 1 + 1)) = compactL q (l.take (k + 1)) ++ (bif q l[k + 1] l[k] then [] else [l[k + 1]]):=by
  rw [List.take_succ_eq_append_getElem hk]
  cases l with
  | nil=>simp at hk
  | cons x r=>
    simp only [List.take_succ_cons,List.cons_append,compactL,cmpctFrom_snoc]
    have e : (x :: r.take k).getLast (by simp) = (x :: r)[k]:=by
      have : x :: r.take k = (x :: r).take (k + 1):=rfl
      simp only [this]
      rw [List.getLast_eq_getElem]
      simp only [List.getElem_take]
      congr 1
      simp only [List.length_take,List.length_cons] at hk ⊢
      omega
    rw [e]
theorem compactL_map {β : Type} (f : α → β) {q : α → α → Bool} {q' : β → β → Bool} (h : ∀ a b,q' (f a) (f b) = q a b) (l : List α) : compactL q' (l.map f) = (compactL q l).map f:=by
  have key : ∀ (l : List α) (p : α),cmpctFrom q' (f p) (l.map f) = (cmpctFrom q p l).map f:=by
    intro l
    induction l with
    | nil=>intro p; rfl
    | cons x r ih=>
      intro p
      simp only [List.map_cons,cmpctFrom,h,ih]
      cases q x p <;> rfl
  cases l with
  | nil=>rfl
  | cons x r=>simp only [List.map_cons,compactL,key]
end Go.Am
end
section
/- Values of a shape: loads and stores in rows. -/
open Go
namespace Go.Am
variable {h : Heap} {K : Post}
theorem shp_cut {sh : Sh} {x : PV} (hx : x.shp sh = true) : cutP sh 0 x = some x:=by
  cases sh with
  | none=>exact cutP_sc hx
  | some n=>
    cases x with
    | agg cs=>
      simp only [PV.shp,Bool.and_eq_true,beq_iff_eq] at hx
      simp [cutP,hx.1]
      exact List.take_of_length_le (by omega)
    | _=>cases hx
theorem shp_len {sh : Sh} {x : PV} (hx : x.shp sh = true) : x.cells.length = shSize sh:=by
  cases sh with
  | none=>cases x <;> first | rfl | cases hx
  | some n=>
    cases x with
    | agg cs=>simp only [PV.shp,Bool.and_eq_true,beq_iff_eq] at hx; exact hx.1
    | _=>cases hx
theorem shp_all {sh : Sh} {x : PV} (hx : x.shp sh = true) : x.cells.all PV.sc = true:=by
  cases sh with
  | none=>cases x <;> first | rfl | cases hx
  | some n=>
    cases x with
    | agg cs=>simp only [PV.shp,Bool.and_eq_true,beq_iff_eq] at hx; exact hx.2
    | _=>cases hx
theorem shp_st {sh : Sh} {x y : PV} (hx : x.shp sh = true) (hy : y.shp sh = true) (id i fz : Nat) (xs : List PV) (h1 : Heap) : stE sh id i 0 fz sh xs x h1 (some y) = some (.und,h1.set id (.row sh (xs.set i x) fz),[]):=by
  cases sh with
  | none=>
    cases y with
    | agg cs=>cases hy
    | _=>simp only [PV.shp] at hx; simp [stE,hx]
  | some n=>
    cases y with
    | agg cs=>
      cases x with
      | agg ds=>
        simp only [PV.shp,Bool.and_eq_true,beq_iff_eq] at hx hy
        simp [stE,PV.cells,splice,hx.1,hy.1,show cs.drop n = [] from List.drop_of_length_le (by omega)]
      | _=>cases hx
    | _=>cases hy
def shps (sh : Sh) (xs : List PV) : Prop:=∀ x ∈ xs,x.shp sh = true
theorem shps_get {sh : Sh} {xs : List PV} (hx : shps sh xs) {i : Nat} (hi : i < xs.length) : xs[i].shp sh = true:=hx _ (List.getElem_mem hi)
theorem set_self {h : Heap} {id : Nat} {o : Obj} (hh : h[id]? = some o) : h.set id o = h:=by
  apply List.ext_getElem?
  intro i
  rw [List.getElem?_set]
  split
  · rename_i e; subst e; rw [hh]; simp [get_lt hh]
  · rfl
def Cmps (g : Nat) (caps : List AV) (c : PV → PV → Int) (xs : List PV) (id : Nat) (h : Heap) : Prop:=∀ (o : Obj) (x : PV),x ∈ xs → ∀ y,y ∈ xs → ∀ K : Post,ACall X g (.p x :: .p y :: caps) (h.set id o) K = K (AI (c x y)) (h.set id o) []
def ltC (c : PV → PV → Int) (a b : PV) : Bool:=decide (c a b < 0)
structure Shows (sh : Sh) (v : AV) (xs : List PV) (h : Heap) : Prop where
  len : oLen v = some (AI xs.length)
  get : ∀ (k : Nat) (hk : k < xs.length),∃ a,oIaddr sh v (AI k) h = some a ∧ oLoad sh a h = some (.p xs[k])
theorem shows_sl {sh : Sh} {xs : List PV} (hs : shps sh xs) : Shows sh (.p (.sl sh xs)) xs h:=by
  refine ⟨rfl,fun k hk=>⟨.vp xs[k],?_,?_⟩⟩
  · simp [oIaddr,natOf,hk]
  · simp only [load_vp,shp_cut (shps_get hs hk)]; rfl
theorem shows_own {sh : Sh} {id off len fz : Nat} {xs : List PV} (hs : shps sh xs) (hh : h[id]? = some (.row sh xs fz)) (hl : off + len ≤ xs.length) : Shows sh (.own id xs.length off len) (win xs off len) h:=by
  have hw : (win xs off len).length = len:=by simp [win]; omega
  refine ⟨by rw [hw]; rfl,fun k hk=>⟨.rref id xs.length (off + k) 0,?_,?_⟩⟩
  · rw [hw] at hk
    simp [oIaddr,natOf,hh,hl,hk]
  · have hk' : off + k < xs.length := by rw [hw] at hk; omega
    have e : (win xs off len)[k] = xs[off + k]:=by simp [win]
    rw [e]
    simp only [load_rref,hh,ldR_row,if_true,List.getElem?_eq_getElem hk',Option.bind_some,shp_cut (shps_get hs hk'),Option.map_some]
theorem shows_full {sh : Sh} {id fz : Nat} {xs : List PV} (hs : shps sh xs) (hh : h[id]? = some (.row sh xs fz)) : Shows sh (.own id xs.length 0 xs.length) xs h:=by
  have:=shows_own hs hh (off:=0) (len:=xs.length) (by omega)
  rwa [win_all] at this
def Alikes (g : Nat) (caps : List AV) (q : PV → PV → Bool) (xs : List PV) (id : Nat) (h : Heap) : Prop:=∀ (o : Obj) (x : PV),x ∈ xs → ∀ y,y ∈ xs → ∀ K : Post,ACall X g (.p x :: .p y :: caps) (h.set id o) K = K (AB (q x y)) (h.set id o) []
def TellsX (g : Nat) (caps : List AV) (p : PV → Bool) (xs : List PV) (id : Nat) (h : Heap) : Prop:=∀ (o : Obj) (t : Heap) (x : PV),x ∈ xs → ∀ K : Post,ACall X g (.p x :: caps) (h.set id o ++ t) K = K (AB (p x)) (h.set id o ++ t) []
theorem shp_agg {n : Nat} {x : PV} (hx : x.shp (some n) = true) : ∃ cs,x = .agg cs ∧ cs.length = n ∧ cs.all PV.sc = true:=by
  cases x with
  | agg cs=>simp only [PV.shp,Bool.and_eq_true,beq_iff_eq] at hx; exact ⟨cs,rfl,hx.1,hx.2⟩
  | _=>cases hx
theorem unp_pmap : ∀ cs : List PV,unp (cs.map AV.p) = some cs
  | []=>rfl
  | c :: cs=>by simp [unp,unp_pmap cs]
theorem cut_map {n : Nat} {cs : List PV} (h : cs.length = n) : cut (some n) 0 (cs.map AV.p) = some (.p (.agg cs)):=by
  unfold cut
  simp only [List.length_map,h,Nat.zero_add,Nat.le_refl,if_true,List.drop_zero]
  rw [List.take_of_length_le (by simp [h])]
  unfold mkA
  rw [unp_pmap]
end Go.Am
end
section
/- Strings: keys,the library's functions without text. -/
open Go
set_option linter.unusedSimpArgs false
namespace Go.Am
variable {h : Heap} {K : Post}
abbrev AS (s : List UInt8) : AV:=.p (.str s)
theorem X_ext : X.ext = extF f_internal_bytealg_IndexByteString f_internal_bytealg_abigen_runtime_cmpstring:=rfl
theorem s_idxExt (s : List UInt8) (c : UInt8) : ACall X f_internal_bytealg_IndexByteString [AS s,.p (.int .u8 c.toNat)] h K = K (AI (idxB s c)) h []:=by
  have:=ext_call (X:=X) (f:=f_internal_bytealg_IndexByteString) (asv:=[AS s,.p (.int .u8 c.toNat)]) (vs:=[.str s,.int .u8 c.toNat]) (h:=h) (h1:=h) (r:=.int .i64 (idxB s c)) (K:=K) (by kernel_rfl) rfl rfl rfl ?_
  · exact this
  · rw [X_ext]
    unfold extF
    rw [show Nat.beq f_internal_bytealg_IndexByteString f_internal_bytealg_IndexByteString = true from by kernel_rfl]
    simp
theorem s_cmpExt (a b : List UInt8) : ACall X f_internal_bytealg_abigen_runtime_cmpstring [AS a,AS b] h K = K (AI (cmpL a b)) h []:=by
  have:=ext_call (X:=X) (f:=f_internal_bytealg_abigen_runtime_cmpstring) (asv:=[AS a,AS b]) (vs:=[.str a,.str b]) (h:=h) (h1:=h) (r:=.int .i64 (cmpL a b)) (K:=K) (by kernel_rfl) rfl rfl rfl ?_
  · exact this
  · rw [X_ext]
    unfold extF
    rw [show Nat.beq f_internal_bytealg_abigen_runtime_cmpstring f_internal_bytealg_IndexByteString = false from by kernel_rfl,show Nat.beq f_internal_bytealg_abigen_runtime_cmpstring f_internal_bytealg_abigen_runtime_cmpstring = true from by kernel_rfl]
    rfl
theorem s_strCompare (a b : List UInt8) : ACall X f_q07x [AS a,AS b] h K = K (AI (cmpL a b)) h []:=by
  have key : ∀ (h : Heap) (K : Post),ACall X f_q01d [AS a,AS b] h K = K (AI (cmpL a b)) h []:=by
    intro h K
    refine rule ?_
    rw [c_q01d rfl]
    simp only [d_q01d,go_sem,s_cmpExt]
  refine rule ?_
  rw [c_q07x rfl]
  simp only [d_q07x,go_sem,key]
theorem s_IndexByte (s : List UInt8) (c : UInt8) : ACall X f_q080 [AS s,.p (.int .u8 c.toNat)] h K = K (AI (idxB s c)) h []:=by
  have key : ∀ (h : Heap) (K : Post),ACall X f_q01y [AS s,.p (.int .u8 c.toNat)] h K = K (AI (idxB s c)) h []:=by
    intro h K
    refine rule ?_
    rw [c_q01y rfl]
    simp only [d_q01y,go_sem,s_idxExt]
  refine rule ?_
  rw [c_q080 rfl]
  simp only [d_q080,go_sem,key]
theorem cmpL_eq : ∀ {a b : List UInt8},cmpL a b = 0 → a = b
  | [],[],_=>rfl
  | [],_ :: _,h=>by simp [cmpL] at h
  | _ :: _,[],h=>by simp [cmpL] at h
  | x :: a,y :: b,h=>by
    simp only [cmpL] at h
    split at h
    · cases h
    · split at h
      · cases h
      · rename_i h1 h2
        have : x = y:=UInt8.le_antisymm (UInt8.not_lt.1 h2) (UInt8.not_lt.1 h1)
        rw [this,cmpL_eq h]
theorem cmpL_neg : ∀ a b,cmpL b a = - cmpL a b
  | [],[]=>rfl
  | [],_ :: _=>rfl
  | _ :: _,[]=>rfl
  | x :: a,y :: b=>by
    simp only [cmpL]
    by_cases h1 : x < y
    · have h2 : ¬ y < x := UInt8.lt_asymm h1
      simp [h1,h2]
    · by_cases h2 : y < x
      · simp [h1,h2]
      · simp [h1,h2,cmpL_neg a b]
theorem cmpL_trans : ∀ {a b c : List UInt8},cmpL a b < 0 → cmpL b c < 0 → cmpL a c < 0
  | [],[],_,h,_=>by simp [cmpL] at h
  | [],_ :: _,[],_,h=>by simp [cmpL] at h
  | [],_ :: _,_ :: _,_,_=>by simp [cmpL]
  | _ :: _,[],_,h,_=>by simp [cmpL] at h
  | _ :: _,_ :: _,[],_,h=>by simp [cmpL] at h
  | x :: a,y :: b,z :: c,h1,h2=>by
    simp only [cmpL] at h1 h2 ⊢
    by_cases hxy : x < y
    · by_cases hyz : y < z
      · simp [UInt8.lt_trans hxy hyz]
      · by_cases hzy : z < y
        · simp [hyz,hzy] at h2
        · have : y = z := UInt8.le_antisymm (UInt8.not_lt.1 hzy) (UInt8.not_lt.1 hyz)
          subst this; simp [hxy]
    · by_cases hyx : y < x
      · simp [hxy,hyx] at h1
      · have : x = y := UInt8.le_antisymm (UInt8.not_lt.1 hyx) (UInt8.not_lt.1 hxy)
        subst this
        simp only [UInt8.lt_irrefl,if_false] at h1
        by_cases hyz : x < z
        · simp [hyz]
        · by_cases hzy : z < x
          · simp [hyz,hzy] at h2
          · simp only [hyz, hzy, if_false] at h2 ⊢
            exact cmpL_trans h1 h2
def keyCh (c : UInt8) : Bool:=decide ((97 : Int) ≤ c.toNat) && decide ((c.toNat : Int) ≤ 122) || decide ((48 : Int) ≤ c.toNat) && decide ((c.toNat : Int) ≤ 57) || decide ((c.toNat : Int) = 45) || decide ((c.toNat : Int) = 95)
def keyB (s : List UInt8) : Bool:=match s with
  | []=>false
  | c :: r=>decide (r.length < 40) && (decide ((97 : Int) ≤ c.toNat) && decide ((c.toNat : Int) ≤ 122)) && (c :: r).all keyCh
theorem s_Key (s : List UInt8) (hl : s.length ≤ 1000000000) : ACall X f_q006 [AS s] h K = K (AB (keyB s)) h []:=by
  refine rule ?_
  rw [c_q006 rfl]
  cases s with
  | nil=>simp only [d_q006,go_sem,keyB]
  | cons c r=>
    have n0 : ((c :: r) = []) = False:=by simp
    have e1 : (((r.length + 1 : Nat) : Int) ≤ 40) = (r.length < 40):=by simp only [eq_iff_iff]; omega
    by_cases h1 : (40 : Int) < ((r.length + 1 : Nat) : Int)
    · have : ¬ r.length < 40 := by omega
      simp only [d_q006,go_sem,n0,h1,keyB,this]
    have h1' : r.length < 40:=by omega
    by_cases h2 : (c.toNat : Int) < 97
    · have : ¬ (97 : Int) ≤ c.toNat := by omega
      simp only [d_q006,go_sem,n0,h1,h2,keyB,this,h1']
    have h2' : (97 : Int) ≤ c.toNat:=by omega
    by_cases h3 : (122 : Int) < c.toNat
    · have : ¬ (c.toNat : Int) ≤ 122 := by omega
      simp only [d_q006,go_sem,n0,h1,h2,h3,keyB,this,h1',h2']
    have h3' : (c.toNat : Int) ≤ 122:=by omega
    have ek : keyB (c :: r) = (c :: r).all keyCh:=by simp [keyB,h1',h2',h3']
    rw [ek]
    generalize hB : (c :: r).all keyCh = B
    simp only [d_q006,go_sem,n0,h1,h2,h3]
    have hlen : (c :: r).length = r.length + 1:=rfl
    rw [← hlen]
    generalize c :: r = s at *
    refine N_loop (fun k : Nat=>⟨[(0,AS s),(23,AI s.length),(24,AI k)],h,[]⟩) (fun k=>k ≤ s.length ∧ (s.take k).all keyCh = true) (fun k=>s.length - k) 0 rfl ⟨by omega,rfl⟩ ?_
    rintro k ⟨hk,hp⟩
    rcases Nat.lt_or_ge k s.length with hlt | hge
    · have hg : s[k]? = some s[k] := List.getElem?_eq_getElem hlt
      have w2 : IntKind.i64.wrap ((k : Int) + 1) = ((k + 1 : Nat) : Int):=i64_wrap _ (by omega) (by omega)
      generalize hc : s[k] = c at *
      have key : (decide ((97 : Int) ≤ c.toNat) && decide ((c.toNat : Int) ≤ 122) || decide ((48 : Int) ≤ c.toNat) && decide ((c.toNat : Int) ≤ 57) || decide ((c.toNat : Int) = 45) || decide ((c.toNat : Int) = 95)) = keyCh c:=rfl
      cases hkc : keyCh c with
      | true=>
        rw [hkc] at key
        have hn : (s.take (k + 1)).all keyCh = true:=by rw [List.take_succ_eq_append_getElem hlt,List.all_append,hp,hc]; simp [hkc]
        by_cases b1 : (97 : Int) ≤ c.toNat <;> by_cases b2 : (c.toNat : Int) ≤ 122 <;> by_cases b3 : (48 : Int) ≤ c.toNat <;> by_cases b4 : (c.toNat : Int) ≤ 57 <;> by_cases b5 : (c.toNat : Int) = 45 <;> by_cases b6 : (c.toNat : Int) = 95
        all_goals first
          | (simp only [b1,b2,b3,b4,b5,b6,decide_true,decide_false,Bool.and_self,Bool.and_true,Bool.and_false,Bool.or_self,Bool.or_true,Bool.or_false,Bool.true_or,Bool.false_or,Bool.false_and,reduceCtorEq] at key; done)
          | (exfalso; omega)
          | (simp only [go_sem,hlt,hg,w2,b1,b2,b3,b4,b5,b6]
             exact ⟨k + 1,rfl,⟨by omega,hn⟩,by omega⟩)
      | false=>
        rw [hkc] at key
        have hn : s.all keyCh = false:=by rw [List.all_eq_false]; exact ⟨_,List.getElem_mem hlt,by rw [hc,hkc]; simp⟩
        rw [hn] at hB
        subst hB
        by_cases b1 : (97 : Int) ≤ c.toNat <;> by_cases b2 : (c.toNat : Int) ≤ 122 <;> by_cases b3 : (48 : Int) ≤ c.toNat <;> by_cases b4 : (c.toNat : Int) ≤ 57 <;> by_cases b5 : (c.toNat : Int) = 45 <;> by_cases b6 : (c.toNat : Int) = 95
        all_goals first
          | (simp only [b1,b2,b3,b4,b5,b6,decide_true,decide_false,Bool.and_self,Bool.and_true,Bool.and_false,Bool.or_self,Bool.or_true,Bool.or_false,Bool.true_or,Bool.false_or,Bool.false_and,reduceCtorEq] at key; done)
          | (exfalso; omega)
          | (simp only [go_sem,hlt,hg,b1,b2,b3,b4,b5,b6])
    · have ek : k = s.length := by omega
      subst ek
      rw [List.take_length,hB] at hp
      subst hp
      simp only [go_sem,Nat.lt_irrefl]
theorem idxB_neg (s : List UInt8) (c : UInt8) : decide (idxB s c < 0) = !s.contains c:=by
  unfold idxB
  rw [Bool.eq_iff_iff]
  by_cases hf : s.findIdx (· == c) < s.length
  · rw [if_pos hf]
    have:=List.findIdx_getElem (w:=hf)
    simp only [beq_iff_eq] at this
    have hm : c ∈ s:=by rw [← this]; exact List.getElem_mem hf
    simp [hm]
  · rw [if_neg hf]
    have hm : ¬ c ∈ s:=fun hm=>hf (List.findIdx_lt_length_of_exists ⟨c,hm,by simp⟩)
    simp [hm]
theorem s_only (s t : List UInt8) (hl : s.length ≤ 1000000000) : ACall X f_q04t [AS s,AS t] h K = K (AB (s.all fun c=>t.contains c)) h []:=by
  refine rule ?_
  rw [c_q04t rfl]
  simp only [d_q04t,go_sem]
  refine N_loop (fun k : Nat=>⟨[(0,AS s),(1,AS t),(7,AI s.length),(8,AI k)],h,[]⟩) (fun k=>k ≤ s.length ∧ (s.take k).all (fun c=>t.contains c) = true) (fun k=>s.length - k) 0 rfl ⟨by omega,rfl⟩ ?_
  rintro k ⟨hk,hp⟩
  rcases Nat.lt_or_ge k s.length with hlt | hge
  · have hg : s[k]? = some s[k] := List.getElem?_eq_getElem hlt
    have w2 : IntKind.i64.wrap ((k : Int) + 1) = ((k + 1 : Nat) : Int):=i64_wrap _ (by omega) (by omega)
    have hi:=idxB_neg t s[k]
    by_cases hc : idxB t s[k] < 0
    · have : s.all (fun c=>t.contains c) = false:=by
        rw [List.all_eq_false]
        refine ⟨_,List.getElem_mem hlt,?_⟩
        rw [decide_eq_true hc] at hi
        cases hq : t.contains s[k] with
        | true=>rw [hq] at hi; cases hi
        | false=>simp
      simp only [go_sem,hlt,hg,s_IndexByte,hc,this]
    · rw [decide_eq_false hc] at hi
      have hq : t.contains s[k] = true:=by cases hq : t.contains s[k] with | true=>rfl | false=>rw [hq] at hi; cases hi
      simp only [go_sem,hlt,hg,s_IndexByte,hc,w2]
      exact ⟨k + 1,rfl,⟨by omega,by rw [List.take_succ_eq_append_getElem hlt,List.all_append,hp]; simp only [List.all_cons,List.all_nil,hq]; rfl⟩,by omega⟩
  · have ek : k = s.length := by omega
    subst ek
    rw [List.take_length] at hp
    simp only [go_sem,Nat.lt_irrefl,hp]
def smallsL : List UInt8:=[97,98,99,100,101,102,103,104,105,106,107,108,109,110,111,112,113,114,115,116,117,118,119,120,121,122]
def keysL : List UInt8:=[97,98,99,100,101,102,103,104,105,106,107,108,109,110,111,112,113,114,115,116,117,118,119,120,121,122,48,49,50,51,52,53,54,55,56,57,45,95]
theorem u8_all {p : UInt8 → Bool} (h : ((List.range 256).all fun n=>p (UInt8.ofNat n)) = true) (c : UInt8) : p c = true:=by
  have:=List.all_eq_true.1 h c.toNat (by simp; exact c.toNat_lt)
  rwa [UInt8.ofNat_toNat] at this
theorem smalls_iff (c : UInt8) : smallsL.contains c = (decide ((97 : Int) ≤ c.toNat) && decide ((c.toNat : Int) ≤ 122)):=by
  have:=u8_all (p:=fun c=>smallsL.contains c == (decide ((97 : Int) ≤ c.toNat) && decide ((c.toNat : Int) ≤ 122))) (by kernel_rfl) c
  simpa using this
theorem keys_iff (c : UInt8) : keysL.contains c = keyCh c:=by
  have:=u8_all (p:=fun c=>keysL.contains c == keyCh c) (by kernel_rfl) c
  simpa using this
theorem s_refKey (s : List UInt8) (hl : s.length ≤ 1000000000) : ACall X f_q04c [AS s] h K = K (AB (keyB s)) h []:=by
  refine rule ?_
  rw [c_q04c rfl]
  have o1:=fun h K=>s_only (h:=h) (K:=K) s keysL hl
  have e2 : (s.all fun c=>keysL.contains c) = s.all keyCh:=by congr 1; funext c; exact keys_iff c
  rw [e2] at o1
  unfold keysL at o1
  cases s with
  | nil=>simp only [d_q04c,go_sem,s_in,keyB]
  | cons c r=>
    have o2:=fun h K=>s_only (h:=h) (K:=K) [c] smallsL (by simp)
    have e3 : ([c].all fun c=>smallsL.contains c) = (decide ((97 : Int) ≤ c.toNat) && decide ((c.toNat : Int) ≤ 122)):=by simp only [List.all_cons,List.all_nil,Bool.and_true]; exact smalls_iff c
    rw [e3] at o2
    unfold smallsL at o2
    have q1 : (1 : Int) ≤ ((r.length + 1 : Nat) : Int):=by omega
    have q2 : 1 ≤ r.length + 1:=by omega
    by_cases h1 : r.length < 40
    · have h1' : ((r.length + 1 : Nat) : Int) ≤ 40 := by omega
      cases h2 : (decide ((97 : Int) ≤ c.toNat) && decide ((c.toNat : Int) ≤ 122)) with
      | true=>
        have ek : keyB (c :: r) = (c :: r).all keyCh:=by
          simp only [keyB,h1,decide_true,Bool.true_and,h2]
        rw [ek]
        simp only [d_q04c,go_sem,s_in,h1',q1,q2,win,↓o2,o2,h2,↓o1,o1]
      | false=>
        have ek : keyB (c :: r) = false:=by simp only [keyB,h1,decide_true,Bool.true_and,h2,Bool.false_and]
        rw [ek]
        simp only [d_q04c,go_sem,s_in,h1',q1,q2,win,↓o2,o2,h2]
    · have h1' : ¬ ((r.length + 1 : Nat) : Int) ≤ 40 := by omega
      have ek : keyB (c :: r) = false:=by simp only [keyB,h1,decide_false,Bool.false_and]
      rw [ek]
      simp only [d_q04c,go_sem,s_in,h1',q1]
end Go.Am
end
section
/- Finding values in lists: printed by program. -/
open Go
set_option linter.unusedSimpArgs false
namespace Go.Am
attribute [-go_sem] PV.cells
variable {h : Heap} {K : Post}
theorem IndexFunc_int {v : AV} {g : Nat} {caps : List AV} {p : PV → Bool} {xs : List PV} (hv : Shows none v xs h) (hp : Tells g caps p xs h) (hl : xs.length ≤ 1000000000) :
    ACall X f_q05l [v,.fn g caps] h K = K (AI (idxP p xs)) h []:=by
  refine rule ?_
  rw [c_q05l]
  have vl:=hv.len
  simp only [d_q05l,go_sem,vl]
  refine N_loop (fun k : Nat=>⟨[(0,v),(1,.fn g caps),(7,AI xs.length),(8,AI k)],h,[]⟩) (fun k=>k ≤ xs.length ∧ ∀ x ∈ xs.take k,p x = false) (fun k=>xs.length - k) 0 rfl (by simp) ?_
  rintro k ⟨hk,hn⟩
  rcases Nat.lt_or_ge k xs.length with hlt | hge
  · obtain ⟨a, ha, hb⟩ := hv.get k hlt
    have w2 : IntKind.i64.wrap ((k : Int) + 1) = ((k + 1 : Nat) : Int):=i64_wrap _ (by omega) (by omega)
    have ht:=hp _ (List.getElem_mem hlt)
    cases hpk : p xs[k] with
    | true=>
      have hf : xs.findIdx p = k:=by
        rw [List.findIdx_eq hlt]
        refine ⟨hpk,fun j hj=>?_⟩
        have:=hn xs[j] (by rw [List.mem_take_iff_getElem]; exact ⟨j,by omega,rfl⟩)
        simpa using this
      simp only [go_sem,hlt,ha,hb,ht,hpk,w2]
      simp only [idxP,hf,hlt,if_true]
    | false=>
      simp only [go_sem,hlt,ha,hb,ht,hpk,w2]
      refine ⟨k + 1,rfl,⟨by omega,fun x hx=>?_⟩,by omega⟩
      rw [List.take_succ_eq_append_getElem hlt,List.mem_append,List.mem_singleton] at hx
      rcases hx with hx | hx
      · exact hn x hx
      · rw [hx]; exact hpk
  · have e1 : k = xs.length := by omega
    subst e1
    simp only [go_sem,Nat.lt_irrefl]
    rw [List.take_length] at hn
    have : ¬ xs.findIdx p < xs.length:=by
      rw [Nat.not_lt,Nat.le_iff_lt_or_eq]; right
      exact (List.findIdx_eq_length.2 (fun x hx=>by simp [hn x hx])).symm
    simp [idxP,this]
theorem IndexFunc_Limit {v : AV} {g : Nat} {caps : List AV} {p : PV → Bool} {xs : List PV} (hv : Shows (some 4) v xs h) (hp : Tells g caps p xs h) (hl : xs.length ≤ 1000000000) :
    ACall X f_q05j [v,.fn g caps] h K = K (AI (idxP p xs)) h []:=by
  refine rule ?_
  rw [c_q05j]
  have vl:=hv.len
  simp only [d_q05j,go_sem,vl]
  refine N_loop (fun k : Nat=>⟨[(0,v),(1,.fn g caps),(7,AI xs.length),(8,AI k)],h,[]⟩) (fun k=>k ≤ xs.length ∧ ∀ x ∈ xs.take k,p x = false) (fun k=>xs.length - k) 0 rfl (by simp) ?_
  rintro k ⟨hk,hn⟩
  rcases Nat.lt_or_ge k xs.length with hlt | hge
  · obtain ⟨a, ha, hb⟩ := hv.get k hlt
    have w2 : IntKind.i64.wrap ((k : Int) + 1) = ((k + 1 : Nat) : Int):=i64_wrap _ (by omega) (by omega)
    have ht:=hp _ (List.getElem_mem hlt)
    cases hpk : p xs[k] with
    | true=>
      have hf : xs.findIdx p = k:=by
        rw [List.findIdx_eq hlt]
        refine ⟨hpk,fun j hj=>?_⟩
        have:=hn xs[j] (by rw [List.mem_take_iff_getElem]; exact ⟨j,by omega,rfl⟩)
        simpa using this
      simp only [go_sem,hlt,ha,hb,ht,hpk,w2]
      simp only [idxP,hf,hlt,if_true]
    | false=>
      simp only [go_sem,hlt,ha,hb,ht,hpk,w2]
      refine ⟨k + 1,rfl,⟨by omega,fun x hx=>?_⟩,by omega⟩
      rw [List.take_succ_eq_append_getElem hlt,List.mem_append,List.mem_singleton] at hx
      rcases hx with hx | hx
      · exact hn x hx
      · rw [hx]; exact hpk
  · have e1 : k = xs.length := by omega
    subst e1
    simp only [go_sem,Nat.lt_irrefl]
    rw [List.take_length] at hn
    have : ¬ xs.findIdx p < xs.length:=by
      rw [Nat.not_lt,Nat.le_iff_lt_or_eq]; right
      exact (List.findIdx_eq_length.2 (fun x hx=>by simp [hn x hx])).symm
    simp [idxP,this]
theorem IndexFunc_Record {v : AV} {g : Nat} {caps : List AV} {p : PV → Bool} {xs : List PV} (hv : Shows (some 4) v xs h) (hp : Tells g caps p xs h) (hl : xs.length ≤ 1000000000) :
    ACall X f_q05k [v,.fn g caps] h K = K (AI (idxP p xs)) h []:=by
  refine rule ?_
  rw [c_q05k]
  have vl:=hv.len
  simp only [d_q05k,go_sem,vl]
  refine N_loop (fun k : Nat=>⟨[(0,v),(1,.fn g caps),(7,AI xs.length),(8,AI k)],h,[]⟩) (fun k=>k ≤ xs.length ∧ ∀ x ∈ xs.take k,p x = false) (fun k=>xs.length - k) 0 rfl (by simp) ?_
  rintro k ⟨hk,hn⟩
  rcases Nat.lt_or_ge k xs.length with hlt | hge
  · obtain ⟨a, ha, hb⟩ := hv.get k hlt
    have w2 : IntKind.i64.wrap ((k : Int) + 1) = ((k + 1 : Nat) : Int):=i64_wrap _ (by omega) (by omega)
    have ht:=hp _ (List.getElem_mem hlt)
    cases hpk : p xs[k] with
    | true=>
      have hf : xs.findIdx p = k:=by
        rw [List.findIdx_eq hlt]
        refine ⟨hpk,fun j hj=>?_⟩
        have:=hn xs[j] (by rw [List.mem_take_iff_getElem]; exact ⟨j,by omega,rfl⟩)
        simpa using this
      simp only [go_sem,hlt,ha,hb,ht,hpk,w2]
      simp only [idxP,hf,hlt,if_true]
    | false=>
      simp only [go_sem,hlt,ha,hb,ht,hpk,w2]
      refine ⟨k + 1,rfl,⟨by omega,fun x hx=>?_⟩,by omega⟩
      rw [List.take_succ_eq_append_getElem hlt,List.mem_append,List.mem_singleton] at hx
      rcases hx with hx | hx
      · exact hn x hx
      · rw [hx]; exact hpk
  · have e1 : k = xs.length := by omega
    subst e1
    simp only [go_sem,Nat.lt_irrefl]
    rw [List.take_length] at hn
    have : ¬ xs.findIdx p < xs.length:=by
      rw [Nat.not_lt,Nat.le_iff_lt_or_eq]; right
      exact (List.findIdx_eq_length.2 (fun x hx=>by simp [hn x hx])).symm
    simp [idxP,this]
theorem ContainsFunc_int {g : Nat} {caps : List AV} {p : PV → Bool} {xs : List PV} (hp : Tells g caps p xs h) (hs : shps none xs) (hl : xs.length ≤ 1000000000) :
    ACall X f_q057 [.p (.sl none xs),.fn g caps] h K = K (AB (xs.any p)) h []:=by
  refine rule ?_
  rw [c_q057]
  have vi:=fun K=>IndexFunc_int (h:=h) (K:=K) (shows_sl hs) hp hl
  simp only [d_q057,go_sem,vi,idxP_any]
end Go.Am
end
section
/- Limits: what they are,what is wrong with them. -/
open Go
namespace Go.Am
variable {h : Heap} {K : Post}
structure Lim where
  key : List UInt8
  lo : Int
  hi : Int
  bin : Int
def Lim.pv (x : Lim) : PV:=.agg [.str x.key,eI x.lo,eI x.hi,eI x.bin]
abbrev ALim (l : List Lim) : AV:=.p (.sl (some 4) (l.map Lim.pv))
theorem lim_shps {l : List Lim} : shps (some 4) (l.map Lim.pv):=fun x hx=>by obtain ⟨n,_,rfl⟩:=List.mem_map.1 hx; rfl
def keyIs (key : List UInt8) : PV → Bool
  | .agg (.str k :: _)=>decide (k = key)
  | _=>false
def findK (l : List Lim) (key : List UInt8) : Int:=idxP (keyIs key) (l.map Lim.pv)
def inB (a n b : Int) : Bool:=decide (a ≤ n) && decide (n ≤ b)
theorem s_OutB (n a b : Int) : ACall X f_q008 [AI n,AI a,AI b] h K = K (AB (!inB a n b)) h []:=by rw [s_Out,out_eq]; rfl
theorem s_inB (n a b : Int) : ACall X f_q04s [AI n,AI a,AI b] h K = K (AB (inB a n b)) h []:=s_in n a b
def limBad (x : Lim) : Bool:=!inB (-100000) x.lo x.hi || decide (100000 < x.hi) || !inB 2 x.bin 100
def limsFaultFrom (pre : List Lim) : List Lim → Int
  | []=>0
  | x :: r=>if keyB x.key = false then 5 else if 0 ≤ findK pre x.key then 6 else if limBad x then 1 else limsFaultFrom (pre ++ [x]) r
def limsFault (l : List Lim) : Int:=if l.length = 0 then 8 else if (100 : Int) < l.length then 2 else limsFaultFrom [] l
end Go.Am
end
section
/- What is wrong with limits,both ways: printed by program. -/
open Go
set_option linter.unusedSimpArgs false
namespace Go.Am
variable {h : Heap} {K : Post}
theorem s_find1 (x : Lim) (key : List UInt8) (id : Nat) (hh : h[id]? = some (.box [AS key])) : ACall X f_q02s [.p x.pv,.ref id 0] h K = K (AB (decide (x.key = key))) h []:=by
  refine rule ?_
  rw [c_q02s rfl]
  have hg : ∀ l,(h ++ l)[id]? = some (.box [AS key]):=fun l=>by rw [get_app (get_lt hh),hh]
  simp only [d_q02s,Lim.pv,go_sem,hg]
theorem s_find (l : List Lim) (key : List UInt8) (hl : l.length ≤ 1000000) : ACall X f_q02r [ALim l,AS key] h K = K (AI (findK l key)) h []:=by
  refine rule ?_
  rw [c_q02r rfl]
  have hi:=fun K=>IndexFunc_Limit (h:=h ++ [.box [AS key]]) (K:=K) (g:=f_q02s) (caps:=[.ref h.length 0]) (p:=keyIs key) (xs:=l.map Lim.pv) (shows_sl lim_shps)
    (fun y hy K=>by obtain ⟨x,_,rfl⟩:=List.mem_map.1 hy; exact s_find1 x key _ (by simp)) (by simpa using (by omega : l.length ≤ 1000000000))
  simp only [d_q02r,go_sem,hi]
  rfl
set_option maxHeartbeats 1000000 in
theorem s_CheckLimits (l : List Lim) (hk : ∀ x ∈ l,x.key.length ≤ 1000) (hl : l.length ≤ 1000000) : ACall X f_q022 [ALim l] h K = K (AI (limsFault l)) h []:=by
  refine rule ?_
  rw [c_q022 rfl]
  unfold limsFault
  by_cases h0 : l.length = 0
  · have h0' : (l.length : Int) = 0 := by omega
    simp only [d_q022,go_sem,h0',h0]
  have h0' : ¬ (l.length : Int) = 0:=by omega
  by_cases h1 : (100 : Int) < l.length
  · simp only [d_q022,go_sem,h0',h0,h1]
  simp only [d_q022,go_sem,h0',h0,h1]
  refine N_loop (fun k : Nat=>⟨[(0,ALim l),(13,ALim l),(14,AI l.length),(15,AI k)],h,[]⟩) (fun k=>k ≤ l.length ∧ limsFaultFrom (l.take k) (l.drop k) = limsFaultFrom [] l) (fun k=>l.length - k) 0 rfl ⟨by omega,rfl⟩ ?_
  rintro k ⟨hkl,hp⟩
  rcases Nat.lt_or_ge k l.length with hlt | hge
  · have hg := map_get Lim.pv hlt
    have w2 : IntKind.i64.wrap ((k : Int) + 1) = ((k + 1 : Nat) : Int):=i64_wrap _ (by omega) (by omega)
    have hkx:=hk _ (List.getElem_mem hlt)
    rw [List.drop_eq_getElem_cons hlt,limsFaultFrom,← List.take_succ_eq_append_getElem hlt] at hp
    have ewin : win (l.map Lim.pv) 0 k = (l.take k).map Lim.pv:=by simp [win,List.map_take]
    have fnd:=fun h K=>s_find (h:=h) (K:=K) (l.take k) l[k].key (by simp; omega)
    generalize l[k] = x at *
    have ky:=fun h K=>s_Key (h:=h) (K:=K) x.key (by omega)
    generalize hw : findK (l.take k) x.key = w at *
    cases h2 : keyB x.key with
    | false=>
      rw [h2] at hp
      simp only [if_true] at hp
      simp only [go_sem,Lim.pv,hlt,hg,ky,h2]
      rw [← hp]
    | true=>
      rw [h2] at hp
      simp only [reduceCtorEq,if_false] at hp
      by_cases h3 : 0 ≤ w
      · rw [if_pos h3] at hp
        simp only [go_sem,Lim.pv,hlt,hg,ky,h2,hkl,ewin,fnd,h3]
        rw [← hp]
      · rw [if_neg h3] at hp
        unfold limBad at hp
        cases h4 : inB (-100000) x.lo x.hi with
        | false=>
          simp only [h4,Bool.not_false,Bool.true_or,if_true] at hp
          simp only [go_sem,Lim.pv,hlt,hg,ky,h2,hkl,ewin,fnd,h3,s_OutB,h4]
          rw [← hp]
        | true=>
          by_cases h5 : 100000 < x.hi
          · simp only [h4, h5, Bool.not_true, Bool.false_or, decide_true, Bool.true_or, if_true] at hp
            simp only [go_sem,Lim.pv,hlt,hg,ky,h2,hkl,ewin,fnd,h3,s_OutB,h4,h5]
            rw [← hp]
          · cases h6 : inB 2 x.bin 100 with
            | false=>
              simp only [h4,h5,h6,Bool.not_true,Bool.false_or,decide_false,Bool.not_false,if_true] at hp
              simp only [go_sem,Lim.pv,hlt,hg,ky,h2,hkl,ewin,fnd,h3,s_OutB,h4,h5,h6]
              rw [← hp]
            | true=>
              simp only [h4,h5,h6,Bool.not_true,Bool.false_or,decide_false,Bool.or_self,reduceCtorEq,if_false] at hp
              simp only [go_sem,Lim.pv,hlt,hg,ky,h2,hkl,ewin,fnd,h3,s_OutB,h4,h5,h6,w2]
              exact ⟨k + 1,rfl,⟨by omega,hp⟩,by omega⟩
  · have ek : k = l.length := by omega
    subst ek
    rw [List.drop_length] at hp
    simp only [go_sem,Nat.lt_irrefl]
    rw [← hp]; rfl
theorem s_TestAt1 (x : Lim) (key : List UInt8) (id : Nat) (hh : h[id]? = some (.box [AS key])) : ACall X f_q04k [.p x.pv,.ref id 0] h K = K (AB (decide (x.key = key))) h []:=by
  refine rule ?_
  rw [c_q04k rfl]
  have hg : ∀ l,(h ++ l)[id]? = some (.box [AS key]):=fun l=>by rw [get_app (get_lt hh),hh]
  simp only [d_q04k,Lim.pv,go_sem,hg]
theorem s_TestAt (l : List Lim) (key : List UInt8) (hl : l.length ≤ 1000000) : ACall X f_q04j [ALim l,AS key] h K = K (AI (findK l key)) h []:=by
  refine rule ?_
  rw [c_q04j rfl]
  have hi:=fun K=>IndexFunc_Limit (h:=h ++ [.box [AS key]]) (K:=K) (g:=f_q04k) (caps:=[.ref h.length 0]) (p:=keyIs key) (xs:=l.map Lim.pv) (shows_sl lim_shps)
    (fun y hy K=>by obtain ⟨x,_,rfl⟩:=List.mem_map.1 hy; exact s_TestAt1 x key _ (by simp)) (by simpa using (by omega : l.length ≤ 1000000000))
  simp only [d_q04j,go_sem,hi]
  rfl
set_option maxHeartbeats 1000000 in
theorem s_LimitsFault (l : List Lim) (hk : ∀ x ∈ l,x.key.length ≤ 1000) (hl : l.length ≤ 1000000) : ACall X f_q04d [ALim l] h K = K (AI (limsFault l)) h []:=by
  refine rule ?_
  rw [c_q04d rfl]
  unfold limsFault
  by_cases h0 : l.length = 0
  · have h0' : (l.length : Int) = 0 := by omega
    simp only [d_q04d,go_sem,h0',h0]
  have h0' : ¬ (l.length : Int) = 0:=by omega
  by_cases h1 : (100 : Int) < l.length
  · simp only [d_q04d,go_sem,h0',h0,h1]
  simp only [d_q04d,go_sem,h0',h0,h1]
  refine N_loop (fun k : Nat=>⟨[(0,ALim l),(13,ALim l),(14,AI l.length),(15,AI k)],h,[]⟩) (fun k=>k ≤ l.length ∧ limsFaultFrom (l.take k) (l.drop k) = limsFaultFrom [] l) (fun k=>l.length - k) 0 rfl ⟨by omega,rfl⟩ ?_
  rintro k ⟨hkl,hp⟩
  rcases Nat.lt_or_ge k l.length with hlt | hge
  · have hg := map_get Lim.pv hlt
    have w2 : IntKind.i64.wrap ((k : Int) + 1) = ((k + 1 : Nat) : Int):=i64_wrap _ (by omega) (by omega)
    have hkx:=hk _ (List.getElem_mem hlt)
    rw [List.drop_eq_getElem_cons hlt,limsFaultFrom,← List.take_succ_eq_append_getElem hlt] at hp
    have ewin : win (l.map Lim.pv) 0 k = (l.take k).map Lim.pv:=by simp [win,List.map_take]
    have fnd:=fun h K=>s_TestAt (h:=h) (K:=K) (l.take k) l[k].key (by simp; omega)
    generalize l[k] = x at *
    have ky:=fun h K=>s_refKey (h:=h) (K:=K) x.key (by omega)
    generalize hw : findK (l.take k) x.key = w at *
    cases h2 : keyB x.key with
    | false=>
      rw [h2] at hp
      simp only [if_true] at hp
      simp only [go_sem,Lim.pv,hlt,hg,ky,h2]
      rw [← hp]
    | true=>
      rw [h2] at hp
      simp only [reduceCtorEq,if_false] at hp
      by_cases h3 : 0 ≤ w
      · rw [if_pos h3] at hp
        simp only [go_sem,Lim.pv,hlt,hg,ky,h2,hkl,ewin,fnd,h3]
        rw [← hp]
      · rw [if_neg h3] at hp
        unfold limBad at hp
        cases h4 : inB (-100000) x.lo x.hi with
        | false=>
          simp only [h4,Bool.not_false,Bool.true_or,if_true] at hp
          simp only [go_sem,Lim.pv,hlt,hg,ky,h2,hkl,ewin,fnd,h3,s_inB,h4]
          rw [← hp]
        | true=>
          by_cases h5 : 100000 < x.hi
          · simp only [h4, h5, Bool.not_true, Bool.false_or, decide_true, Bool.true_or, if_true] at hp
            simp only [go_sem,Lim.pv,hlt,hg,ky,h2,hkl,ewin,fnd,h3,s_inB,h4,h5]
            rw [← hp]
          · cases h6 : inB 2 x.bin 100 with
            | false=>
              simp only [h4,h5,h6,Bool.not_true,Bool.false_or,decide_false,Bool.not_false,if_true] at hp
              simp only [go_sem,Lim.pv,hlt,hg,ky,h2,hkl,ewin,fnd,h3,s_inB,h4,h5,h6]
              rw [← hp]
            | true=>
              simp only [h4,h5,h6,Bool.not_true,Bool.false_or,decide_false,Bool.or_self,reduceCtorEq,if_false] at hp
              simp only [go_sem,Lim.pv,hlt,hg,ky,h2,hkl,ewin,fnd,h3,s_inB,h4,h5,h6,w2]
              exact ⟨k + 1,rfl,⟨by omega,hp⟩,by omega⟩
  · have ek : k = l.length := by omega
    subst ek
    rw [List.drop_length] at hp
    simp only [go_sem,Nat.lt_irrefl]
    rw [← hp]; rfl
end Go.Am
end
section
/- Package lot on measured values,and what the reference says of them. -/
open Go
namespace Go.Am
variable {h : Heap} {K : Post}
def isM (n : Int) : Bool:=decide (-100000 ≤ n) && decide (n ≤ 100000)
def measFault (l : List Int) (least : Int) : Int:=if (l.length : Int) < least then 8 else if 5000 < (l.length : Int) then 2 else if l.all isM then 0 else 1
theorem all_eI' {l : List Int} : shps none (l.map eI):=fun x hx=>by obtain ⟨n,_,rfl⟩:=List.mem_map.1 hx; rfl
theorem s_isMeasure (n : Int) : ACall X f_q02v [AI n] h K = K (AB (isM n)) h []:=by
  refine rule ?_
  rw [c_q02v rfl]
  simp only [d_q02v,go_sem,s_Out,out_eq,Bool.not_not]
  rfl
theorem s_vf1 (n : Int) : ACall X f_q036 [AI n] h K = K (AB (!isM n)) h []:=by
  refine rule ?_
  rw [c_q036 rfl]
  simp only [d_q036,go_sem,s_isMeasure]
def noM : PV → Bool:=fun x=>match x with | .int _ n=>!isM n | _=>false
theorem any_noM (l : List Int) : (l.map eI).any noM = !l.all isM:=by
  induction l with
  | nil=>rfl
  | cons x r ih=>simp only [List.map_cons,List.any_cons,List.all_cons,ih,Bool.not_and]; rfl
theorem s_valuesFault (l : List Int) (n : Int) (hl : l.length ≤ 1000000000) : ACall X f_q035 [AL l,AI n] h K = K (AI (measFault l n)) h []:=by
  refine rule ?_
  rw [c_q035 rfl]
  have c:=fun K=>ContainsFunc_int (h:=h) (K:=K) (g:=f_q036) (caps:=[]) (p:=noM) (xs:=l.map eI) (fun x hx K=>by obtain ⟨n,_,rfl⟩:=List.mem_map.1 hx; exact s_vf1 n) all_eI' (by simpa using hl)
  rw [any_noM] at c
  unfold measFault
  by_cases h1 : (l.length : Int) < n
  · simp only [d_q035,go_sem,h1]
  · by_cases h2 : (5000 : Int) < l.length
    · simp only [d_q035,go_sem,h1,h2]
    · cases h3 : l.all isM <;> simp only [d_q035,go_sem,h1,h2,c,h3]
structure Meas (l : List Int) : Prop where
  len : l.length ≤ 5000
  bd : ∀ n ∈ l,-100000 ≤ n ∧ n ≤ 100000
theorem measFault_ok {l : List Int} {n : Int} (h : measFault l n = 0) : Meas l ∧ n ≤ l.length:=by
  unfold measFault at h
  split at h
  · cases h
  · split at h
    · cases h
    · split at h
      · rename_i h1 h2 h3
        refine ⟨⟨by omega,fun x hx=>?_⟩,by omega⟩
        have:=List.all_eq_true.1 h3 x hx
        simpa [isM] using this
      · cases h
def sqs (l : List Int) : Int:=(l.map fun n=>n * n).sum
theorem sqs_take_succ (l : List Int) (k : Nat) (hk : k < l.length) : sqs (l.take (k + 1)) = sqs (l.take k) + l[k] * l[k]:=by
  unfold sqs; rw [List.take_succ_eq_append_getElem hk,List.map_append,List.sum_append]; simp
theorem sq_bd {n B : Int} (h : -B ≤ n ∧ n ≤ B) : 0 ≤ n * n ∧ n * n ≤ B * B:=by
  have h1 : n.natAbs * n.natAbs ≤ B.natAbs * B.natAbs:=Nat.mul_le_mul (by omega) (by omega)
  have e1:=Int.natAbs_mul_self (a:=n)
  have e2:=Int.natAbs_mul_self (a:=B)
  have h2 : ((n.natAbs * n.natAbs : Nat) : Int) ≤ ((B.natAbs * B.natAbs : Nat) : Int):=by exact_mod_cast h1
  exact ⟨by rw [← e1]; omega,by rw [← e1,← e2]; exact h2⟩
theorem sqs_bd {l : List Int} (hm : Meas l) (k : Nat) : 0 ≤ sqs (l.take k) ∧ sqs (l.take k) ≤ 50000000000000:=by
  have h1 : ∀ n ∈ (l.take k).map (fun n=>n * n),0 ≤ n ∧ n ≤ 10000000000:=by
    intro n hn
    obtain ⟨x,hx,rfl⟩:=List.mem_map.1 hn
    have:=sq_bd (hm.bd x (List.mem_of_mem_take hx))
    omega
  have h2:=sum_bd _ _ _ h1
  have h3:=hm.len
  simp only [List.length_map,List.length_take] at h2
  unfold sqs
  omega
theorem Meas.sum {l : List Int} (hm : Meas l) (k : Nat) : -500000000 ≤ (l.take k).sum ∧ (l.take k).sum ≤ 500000000:=by
  have:=sum_bd_take hm.bd hm.len (by omega) k
  omega
def spreadN (l : List Int) : Int:=l.length * sqs l - l.sum * l.sum
theorem spread_bds {l : List Int} (hm : Meas l) : (0 ≤ l.length * sqs l ∧ l.length * sqs l ≤ 250000000000000000) ∧ (0 ≤ l.sum * l.sum ∧ l.sum * l.sum ≤ 250000000000000000):=by
  have h1:=sqs_bd hm l.length
  have h2:=hm.sum l.length
  rw [List.take_length] at h1 h2
  have h3:=hm.len
  exact ⟨mul_bd (by omega) (show (l.length : Int) ≤ 5000 by omega) h1.1 h1.2,sq_bd h2⟩
theorem s_sums (l : List Int) (hm : Meas l) : ACall X f_q032 [AL l] h K = K (.tup [AI l.sum,AI (spreadN l)]) h []:=by
  refine rule ?_
  rw [c_q032 rfl]
  simp only [d_q032,go_sem]
  refine N_loop (fun k : Nat=>⟨[(0,AL l),(2,AI (l.take k).sum),(4,AI (sqs (l.take k))),(7,AL l),(8,AI l.length),(9,AI k)],h,[]⟩) (fun k=>k ≤ l.length) (fun k=>l.length - k) 0 rfl (by simp) ?_
  intro k hk
  have h3:=hm.len
  rcases Nat.lt_or_ge k l.length with hlt | hge
  · have hg := map_get eI hlt
    have e1:=sum_take_succ l k hlt
    have e2:=sqs_take_succ l k hlt
    have b1:=hm.sum (k + 1)
    have b2:=sqs_bd hm (k + 1)
    have b3:=sq_bd (hm.bd _ (List.getElem_mem hlt))
    have w1 : IntKind.i64.wrap ((l.take k).sum + l[k]) = (l.take (k + 1)).sum:=by rw [← e1]; exact i64_wrap _ (by omega) (by omega)
    have w2 : IntKind.i64.wrap (l[k] * l[k]) = l[k] * l[k]:=i64_wrap _ (by omega) (by omega)
    have w3 : IntKind.i64.wrap (sqs (l.take k) + l[k] * l[k]) = sqs (l.take (k + 1)):=by rw [← e2]; exact i64_wrap _ (by omega) (by omega)
    have w4 : IntKind.i64.wrap ((k : Int) + 1) = ((k + 1 : Nat) : Int):=i64_wrap _ (by omega) (by omega)
    simp only [go_sem,hlt,hg,w1,w2,w3,w4]
    exact ⟨k + 1,rfl,by omega,by omega⟩
  · have : k = l.length := by omega
    subst this
    obtain ⟨⟨b1,b2⟩,b3,b4⟩:=spread_bds hm
    have w1 : IntKind.i64.wrap (l.length * sqs l) = l.length * sqs l:=i64_wrap _ (by omega) (by omega)
    have w2 : IntKind.i64.wrap (l.sum * l.sum) = l.sum * l.sum:=i64_wrap _ (by omega) (by omega)
    have w3 : IntKind.i64.wrap (l.length * sqs l - l.sum * l.sum) = spreadN l:=i64_wrap _ (by omega) (by omega)
    simp only [go_sem,Nat.lt_irrefl,List.take_length,w1,w2,w3]
def fracP (x : Int × Int) : PV:=.agg [eI x.1,eI x.2]
theorem spreadN_bd {l : List Int} (hm : Meas l) : -250000000000000000 ≤ spreadN l ∧ spreadN l ≤ 250000000000000000:=by
  obtain ⟨⟨b1,b2⟩,b3,b4⟩:=spread_bds hm
  unfold spreadN; omega
def spreadV (l : List Int) : AV:=if measFault l 1 = 0 then .tup [.p (fracP (low l.sum l.length)),.p (fracP (low (spreadN l) (l.length * l.length))),AI 0] else .tup [.p (fracP (0,0)),.p (fracP (0,0)),AI (measFault l 1)]
theorem s_Spread (l : List Int) (hl : l.length ≤ 1000000000) : ACall X f_q02b [AL l] h K = K (spreadV l) h []:=by
  refine rule ?_
  rw [c_q02b rfl]
  have vf:=fun h K=>s_valuesFault (h:=h) (K:=K) l 1 hl
  unfold spreadV
  by_cases hf : measFault l 1 = 0
  · obtain ⟨hm, hn⟩ := measFault_ok hf
    have h3:=hm.len
    have b1:=hm.sum l.length
    rw [List.take_length] at b1
    have b2:=spreadN_bd hm
    have b3:=mul_bd (show 0 ≤ (l.length : Int) by omega) (show (l.length : Int) ≤ 5000 by omega) (show 0 ≤ (l.length : Int) by omega) (show (l.length : Int) ≤ 5000 by omega)
    have b4 : 0 < (l.length : Int) * l.length:=Int.mul_pos (by omega) (by omega)
    have w : IntKind.i64.wrap (l.length * l.length) = l.length * l.length:=i64_wrap _ (by omega) (by omega)
    rw [hf] at vf
    simp only [d_q02b,go_sem,vf,hf,s_sums l hm,s_Fraction l.sum l.length (by omega) (by omega),w,s_Fraction (spreadN l) (l.length * l.length) (by omega) (by omega)]
    rfl
  · simp only [d_q02b, go_sem, vf, hf]
    rfl
end Go.Am
end
section
/- Records: what they are,what is wrong with them. -/
open Go
set_option linter.unusedSimpArgs false
namespace Go.Am
variable {h : Heap} {K : Post}
theorem retK_keep {b : Nat} {P : Post} {vs : List AV} {h : Heap} : retK true b P (some vs) h [] = P (oneOf vs) (h.take (max b (oneOf vs).top)) []:=by
  simp [retK,close,closed]
attribute [go_sem] retK_keep
structure Rec where
  unit : List UInt8
  time : Int
  site : List UInt8
  res : List Int
def Rec.pv (r : Rec) : PV:=.agg [.str r.unit,eI r.time,.str r.site,.sl none (r.res.map eI)]
abbrev ARec (l : List Rec) : AV:=.p (.sl (some 4) (l.map Rec.pv))
theorem rec_shps {l : List Rec} : shps (some 4) (l.map Rec.pv):=fun x hx=>by obtain ⟨n,_,rfl⟩:=List.mem_map.1 hx; rfl
structure RecOk (r : Rec) : Prop where
  u : r.unit.length ≤ 1000
  s : r.site.length ≤ 1000
  n : r.res.length ≤ 1000
structure LimOk (l : List Lim) : Prop where
  n : l.length ≤ 1000
  k : ∀ x ∈ l,x.key.length ≤ 1000
def good (x : Lim) (n : Int) : Bool:=inB x.lo n x.hi
def goods (l : List Lim) (res : List Int) : List Bool:=List.zipWith good l res
def failIdx (l : List Lim) (res : List Int) : Int:=if (goods l res).findIdx (fun b=>!b) < (goods l res).length then ((goods l res).findIdx (fun b=>!b) : Int) else -1
def formB (l : List Lim) (res : List Int) : Bool:=inB 1 res.length l.length && !(decide (0 ≤ failIdx l res) && decide (failIdx l res ≠ (res.length : Int) - 1)) && !(decide (failIdx l res < 0) && decide ((res.length : Int) ≠ l.length))
def momentB (n : Int) : Bool:=inB 0 n 345686399999
def recFault (l : List Lim) (r : Rec) : Int:=if (keyB r.unit && keyB r.site) = false then 5 else if momentB r.time = false then 1 else if r.res.all isM = false then 1 else if formB l r.res = false then 3 else 0
def recCmp (a b : Rec) : Int:=if cmp3 a.time b.time ≠ 0 then cmp3 a.time b.time else cmpL a.unit b.unit
def recsFaultFrom (l : List Lim) : Option Rec → List Rec → Int
  | _,[]=>0
  | p,x :: r=>if recFault l x ≠ 0 then recFault l x else if (match p with | some q=>decide (recCmp x q ≤ 0) | none=>false) = true then 7 else recsFaultFrom l (some x) r
def recsFault0 (l : List Lim) (r : List Rec) : Int:=if (5000 : Int) < r.length then 2 else recsFaultFrom l none r
def recsFault (l : List Lim) (r : List Rec) : Int:=if limsFault l ≠ 0 then limsFault l else recsFault0 l r
theorem cmp3_neg (x y : Int) : cmp3 y x = - cmp3 x y:=by
  unfold cmp3; split <;> split <;> (try split) <;> (try split) <;> omega
theorem recCmp_neg (a b : Rec) : recCmp b a = - recCmp a b:=by
  unfold recCmp
  rw [cmp3_neg a.time b.time,cmpL_neg a.unit b.unit]
  by_cases hc : cmp3 a.time b.time = 0
  · simp [hc]
  · rw [if_pos (by omega),if_pos hc]
theorem s_good (x : Lim) (n : Int) : ACall X f_q02t [.p x.pv,AI n] h K = K (AB (good x n)) h []:=by
  refine rule ?_
  rw [c_q02t rfl]
  simp only [d_q02t,Lim.pv,go_sem,s_OutB,Bool.not_not]
  rfl
theorem s_Moment (n : Int) : ACall X f_q007 [AI n] h K = K (AB (momentB n)) h []:=by
  refine rule ?_
  rw [c_q007 rfl]
  simp only [d_q007,go_sem,s_OutB,Bool.not_not]
  rfl
theorem s_refMoment (n : Int) : ACall X f_q04f [AI n] h K = K (AB (momentB n)) h []:=by
  refine rule ?_
  rw [c_q04f rfl]
  simp only [d_q04f,go_sem,s_inB]
  rfl
theorem goods_len {l : List Lim} {res : List Int} (h : res.length ≤ l.length) : (goods l res).length = res.length:=by simp [goods]; omega
theorem goods_get {l : List Lim} {res : List Int} {i : Nat} (h1 : i < l.length) (h2 : i < res.length) : (goods l res)[i]? = some (good l[i] res[i]):=by
  unfold goods; rw [List.getElem?_zipWith]; simp [h1,h2]
def okTo (l : List Lim) (res : List Int) (k : Nat) : Prop:=∀ i,i < k → (goods l res)[i]? ≠ some false
theorem failIdx_of {l : List Lim} {res : List Int} {k : Nat} (h1 : okTo l res k) (h2 : (goods l res)[k]? = some false) : failIdx l res = k:=by
  obtain ⟨hk,e⟩:=List.getElem?_eq_some_iff.1 h2
  have : (goods l res).findIdx (fun b=>!b) = k:=by
    rw [List.findIdx_eq hk]
    refine ⟨by simp [e],fun j hj=>?_⟩
    have:=h1 j hj
    rw [List.getElem?_eq_getElem (by omega)] at this
    cases hq : (goods l res)[j] with
    | true=>rfl
    | false=>rw [hq] at this; exact absurd rfl this
  unfold failIdx
  rw [this,if_pos hk]
theorem failIdx_none {l : List Lim} {res : List Int} (h1 : okTo l res (goods l res).length) : failIdx l res = -1:=by
  unfold failIdx
  rw [if_neg]
  intro h
  have:=List.findIdx_getElem (w:=h)
  have h2:=h1 _ h
  rw [List.getElem?_eq_getElem h] at h2
  simp at this
  rw [this] at h2
  exact h2 rfl
theorem s_fails (l : List Lim) (r : Rec) (h1 : 1 ≤ r.res.length) (h2 : r.res.length ≤ l.length) (hn : l.length ≤ 1000) :
    ACall X f_q02o [ALim l,.p r.pv] h K = K (AI (if good l[r.res.length - 1] r.res[r.res.length - 1] then -1 else (r.res.length : Int) - 1)) h []:=by
  refine rule ?_
  rw [c_q02o rfl]
  have w : IntKind.i64.wrap ((r.res.length : Int) - 1) = ((r.res.length - 1 : Nat) : Int):=by rw [i64_wrap _ (by omega) (by omega)]; omega
  have g1:=map_get Lim.pv (show r.res.length - 1 < l.length by omega)
  have g2:=map_get eI (show r.res.length - 1 < r.res.length by omega)
  have e : (r.res.length : Int) - 1 = ((r.res.length - 1 : Nat) : Int):=by omega
  have cx : cutP (some 4) 0 (l[r.res.length - 1].pv) = some l[r.res.length - 1].pv:=rfl
  rw [e]
  cases hg : good l[r.res.length - 1] r.res[r.res.length - 1] with
  | true=>simp only [d_q02o,Rec.pv,go_sem,w,g1,g2,cx,s_good,hg]
  | false=>simp only [d_q02o,Rec.pv,go_sem,w,g1,g2,cx,s_good,hg]
theorem s_complete (l : List Lim) (r : Rec) (hl : l.length ≤ 1000) (hr : r.res.length ≤ 1000) : ACall X f_q02l [ALim l,.p r.pv] h K = K (AB (formB l r.res)) h []:=by
  refine rule ?_
  rw [c_q02l rfl]
  by_cases h1 : r.res.length = 0
  · have h1' : (r.res.length : Int) = 0 := by omega
    have : formB l r.res = false:=by simp [formB,inB,h1]
    simp only [d_q02l,Rec.pv,go_sem,h1',this]
  have h1' : ¬ (r.res.length : Int) = 0:=by omega
  by_cases h2 : (l.length : Int) < r.res.length
  · have : formB l r.res = false := by simp [formB, inB]; intro; omega
    simp only [d_q02l,Rec.pv,go_sem,h1',h2,this]
  have hle : r.res.length ≤ l.length:=by omega
  have w : IntKind.i64.wrap ((r.res.length : Int) - 1) = ((r.res.length - 1 : Nat) : Int):=by rw [i64_wrap _ (by omega) (by omega)]; omega
  have hn1 : r.res.length - 1 ≤ r.res.length:=by omega
  have ewin : win (r.res.map eI) 0 (r.res.length - 1) = (r.res.take (r.res.length - 1)).map eI:=by simp [win,List.map_take]
  have hfm : inB 1 r.res.length l.length = true:=by simp [inB]; omega
  simp only [d_q02l,Rec.pv,go_sem,h1',h2,w,hn1,ewin]
  have etl : min (r.res.length - 1) r.res.length = r.res.length - 1:=by omega
  refine N_loop (fun k : Nat=>⟨[(0,ALim l),(3,.ref h.length 0),(5,AI r.res.length),(23,AL (r.res.take (r.res.length - 1))),(24,AI ((r.res.length - 1 : Nat) : Int)),(25,AI k)],h ++ [.box [AS r.unit,AI r.time,AS r.site,AL r.res]],[]⟩) (fun k=>k ≤ r.res.length - 1 ∧ okTo l r.res k) (fun k=>r.res.length - k) 0 ?_ ⟨by omega,fun i hi=>by omega⟩ ?_
  · simp [etl]
  rintro k ⟨hk,hok⟩
  rcases Nat.lt_or_ge k (r.res.length - 1) with hlt | hge
  · have g1 := map_get Lim.pv (show k < l.length by omega)
    have g2 : ((r.res.take (r.res.length - 1)).map eI)[k]? = some (eI r.res[k]):=by simp [List.getElem?_take,hlt,show k < r.res.length by omega]
    have cx : cutP (some 4) 0 (l[k].pv) = some l[k].pv:=rfl
    have gg:=goods_get (l:=l) (res:=r.res) (show k < l.length by omega) (show k < r.res.length by omega)
    have w2 : IntKind.i64.wrap ((k : Int) + 1) = ((k + 1 : Nat) : Int):=i64_wrap _ (by omega) (by omega)
    have hlt' : k < r.res.length - 1:=hlt
    cases hg : good l[k] r.res[k] with
    | false=>
      rw [hg] at gg
      have hf:=failIdx_of hok gg
      have : formB l r.res = false:=by
        unfold formB
        rw [hf]
        have q1 : decide ((0 : Int) ≤ (k : Int)) = true:=by simp
        have q2 : decide ((k : Int) ≠ (r.res.length : Int) - 1) = true:=by simp; omega
        rw [q1,q2]; simp
      simp only [go_sem,hlt',g1,g2,cx,s_good,hg,this]
    | true=>
      simp only [go_sem,hlt',g1,g2,cx,s_good,hg,w2]
      refine ⟨k + 1,rfl,⟨by omega,fun i hi=>?_⟩,by omega⟩
      rcases Nat.lt_or_ge i k with h3 | h3
      · exact hok i h3
      · have : i = k := by omega
        subst this; rw [gg,hg]; simp
  · have ek : k = r.res.length - 1 := by omega
    subst ek
    have hb : ¬ (r.res.length - 1 < r.res.length - 1):=by omega
    have gg:=goods_get (l:=l) (res:=r.res) (show r.res.length - 1 < l.length by omega) (show r.res.length - 1 < r.res.length by omega)
    have cx : cutP (some 4) 0 (PV.agg [.str r.unit,eI r.time,.str r.site,.sl none (r.res.map eI)]) = some r.pv:=rfl
    have fl:=fun h K=>s_fails (h:=h) (K:=K) l r (by omega) hle hl
    have hF : formB l r.res = (decide ((r.res.length : Int) = l.length) || !good l[r.res.length - 1] r.res[r.res.length - 1]):=by
      unfold formB
      rw [hfm]
      cases hg : good l[r.res.length - 1] r.res[r.res.length - 1] with
      | false=>
        rw [hg] at gg
        rw [failIdx_of hok gg]
        have q1 : decide (((r.res.length - 1 : Nat) : Int) ≠ (r.res.length : Int) - 1) = false:=by simp; omega
        have q2 : decide (((r.res.length - 1 : Nat) : Int) < 0) = false:=by simp
        rw [q1,q2]; simp
      | true=>
        have hokn : okTo l r.res (goods l r.res).length:=by
          rw [goods_len hle]
          intro i hi
          rcases Nat.lt_or_ge i (r.res.length - 1) with h3 | h3
          · exact hok i h3
          · have : i = r.res.length - 1 := by omega
            subst this; rw [gg,hg]; simp
        rw [failIdx_none hokn]
        simp
    rw [hF]
    by_cases he : (r.res.length : Int) = l.length
    · simp only [go_sem,hb,he]
    · cases hg : good l[r.res.length - 1] r.res[r.res.length - 1] with
      | true=>
        have fl':=fun h K=>fl h K
        simp only [hg,if_true,Rec.pv] at fl'
        simp only [go_sem,hb,he,fl',Rec.pv]
      | false=>
        have fl':=fun h K=>fl h K
        have hz : (0 : Int) ≤ (r.res.length : Int) - 1:=by omega
        simp only [hg,Rec.pv,reduceCtorEq,if_false] at fl'
        simp only [go_sem,hb,he,fl',Rec.pv,hz]
end Go.Am
end
section
/- What is drawn: numbers,measured values. -/
open Go
namespace Go.Am
variable {L : List Int} {a : Int}
theorem g_Odd (hp : posN 14 a) (u v : Int) (huv : u ≤ v) (hu : -1000000000000 ≤ u) (hv : v ≤ 1000000000000) : ∃ k a2 : Int,a ≤ a2 ∧ a2 ≤ a + 2 ∧ -1099511627776 ≤ k ∧ k ≤ 1099511627776 ∧
    Gen f_q041 [AI u,AI v] L a a2 (AI k):=by
  have w1 : IntKind.i64.wrap (u - 1) = u - 1:=i64_wrap _ (by omega) (by omega)
  have w2 : IntKind.i64.wrap (v + 1) = v + 1:=i64_wrap _ (by omega) (by omega)
  by_cases hf : nextV L a 12 = 0
  · have hm := pickV_mem (L := L) (a := a + 1) (l := [u - 1, v + 1, u, v, -1099511627776, 1099511627776]) (by simp) (by simp)
    simp only [List.mem_cons,List.not_mem_nil,or_false] at hm
    refine ⟨pickV [u - 1,v + 1,u,v,-1099511627776,1099511627776] L (a + 1),a + 1 + 1,by omega,by omega,by omega,by omega,Gen.of fun h id hid=>?_⟩
    rw [c_q041 rfl]
    simp only [d_q041,go_sem,hid,posAll hp,hf,w1,w2]
  · have hm := rangeV_bd L (a + 1) huv (by omega)
    refine ⟨rangeV u v L (a + 1),a + 1 + 1,by omega,by omega,by omega,by omega,Gen.of fun h id hid=>?_⟩
    rw [c_q041 rfl]
    simp only [d_q041,go_sem,hid,posAll hp,hf,w1,w2,huv,show -1152921504606846976 ≤ u by omega,show v ≤ 1152921504606846976 by omega]
end Go.Am
end
section
/- What is drawn: strings,limits. -/
open Go
set_option linter.unusedSimpArgs false
namespace Go.Am
variable {L : List Int} {a : Int} {h l : Heap} {id : Nat} {K : Post}
def isS : PV → Bool
  | .str _=>true
  | _=>false
def unS : PV → List UInt8
  | .str s=>s
  | _=>[]
def pickS (l : List (List UInt8)) (L : List Int) (a : Int) : List UInt8:=l.getD (nextV L a l.length).toNat []
theorem pickS_mem {l : List (List UInt8)} {L : List Int} {a : Int} (hl : 0 < l.length) (hl2 : l.length < 4611686018427387904) : pickS l L a ∈ l:=by
  obtain ⟨b1,b2⟩:=nextV_bd L a l.length (by omega) (by omega)
  unfold pickS
  have : (nextV L a l.length).toNat < l.length:=by omega
  simp only [List.getD,List.getElem?_eq_getElem this,Option.getD_some]
  exact List.getElem_mem _
theorem unS_map {xs : List PV} (h : xs.all isS = true) : xs = (xs.map unS).map PV.str:=by
  induction xs with
  | nil=>rfl
  | cons x r ih=>
    simp only [List.all_cons,Bool.and_eq_true] at h
    simp only [List.map_cons]
    rw [← ih h.2]
    cases x <;> first | rfl | cases h.1
theorem g_Some (hp : posN 0 a) (xs : List PV) (hx : xs.all isS = true) (hl : 0 < xs.length) (hl2 : xs.length < 4611686018427387904) :
    Gen f_q049 [.p (.sl none xs)] L a (a + 1) (AS (pickS (xs.map unS) L a)):=by
  refine Gen.of fun h id hid=>?_
  rw [c_q049 rfl]
  obtain ⟨b1,b2⟩:=nextV_bd L a xs.length (by omega) (by omega)
  have e4:=natOf_int (k:=.i64) b1
  have e5 : xs[(nextV L a xs.length).toNat]? = some (.str (pickS (xs.map unS) L a)):=by
      have hm:=unS_map hx
      generalize hq : xs.map unS = q at *
      subst hm
      simp only [List.length_map] at *
      rw [map_get PV.str (show (nextV L a q.length).toNat < q.length by omega)]
      simp [pickS,List.getD,show (nextV L a q.length).toNat < q.length by omega]
  simp only [d_q049,go_sem,s_Next_set hid hp,e4,e5]
theorem s_Some_set (hid : id < h.length) (hp : posN 0 a) {xs : List PV} (hx : xs.all isS = true) (hl : 0 < xs.length) (hl2 : xs.length < 4611686018427387904) :
    ACall X f_q049 [.ref id 0,.p (.sl none xs)] (h.set id (strm L a)) K = K (AS (pickS (xs.map unS) L a)) (h.set id (strm L (a + 1))) []:=(g_Some hp xs hx hl hl2).set hid
theorem s_Some_app (hid : id < h.length) (hp : posN 0 a) {xs : List PV} (hx : xs.all isS = true) (hl : 0 < xs.length) (hl2 : xs.length < 4611686018427387904) :
    ACall X f_q049 [.ref id 0,.p (.sl none xs)] (h.set id (strm L a) ++ l) K = K (AS (pickS (xs.map unS) L a)) (h.set id (strm L (a + 1)) ++ l) []:=(g_Some hp xs hx hl hl2).app hid
theorem s_Some_hd (hp : posN 0 a) {xs : List PV} (hx : xs.all isS = true) (hl : 0 < xs.length) (hl2 : xs.length < 4611686018427387904) :
    ACall X f_q049 [.ref 0 0,.p (.sl none xs)] (strm L a :: l) K = K (AS (pickS (xs.map unS) L a)) (strm L (a + 1) :: l) []:=(g_Some hp xs hx hl hl2).hd
attribute [go_sem ↓] s_Some_set s_Some_app s_Some_hd
attribute [go_sem] s_Some_set s_Some_app s_Some_hd isS unS
structure LimBd (x : Lim) : Prop where
  k : x.key.length ≤ 1000
  lo : -200000 ≤ x.lo ∧ x.lo ≤ 200000
  hi : -200000 ≤ x.hi ∧ x.hi ≤ 200000
theorem g_LimitList (hp : posN 60 a) : GenE f_q03z [] L a (fun v a2=>a ≤ a2 ∧ a2 ≤ a + 12 ∧ ∃ l : List Lim,1 ≤ l.length ∧ l.length ≤ 3 ∧ (∀ x ∈ l,LimBd x) ∧ v = ALim l):=by
  refine GenE.of fun h id hid=>?_
  rw [c_q03z rfl]
  have P:=posAll (posN_le hp (Int.le_refl a) (by omega))
  obtain ⟨n1,n2⟩:=rangeV_bd (u:=1) (v:=3) L (a + 1) (by omega) (by omega)
  obtain ⟨n,hn⟩:=Int.eq_ofNat_of_zero_le (show 0 ≤ rangeV 1 3 L (a + 1) by omega)
  have hn3 : n ≤ 3:=by omega
  have l1 : LimBd ⟨[118,111,108,116],0,10,5⟩:=⟨by simp,by simp,by simp⟩
  have l2 : LimBd ⟨[97,109,112],-5,5,pickV [5,6,2] L a⟩:=⟨by simp,by simp,by simp⟩
  have l3 : LimBd ⟨[104,122],3,8,9⟩:=⟨by simp,by simp,by simp⟩
  have hb : h.length ≤ h.length:=Nat.le_refl _
  by_cases hf : nextV L (a + 1 + 1) 15 = 0
  · obtain ⟨m1, m2⟩ := nextV_bd L (a + 1 + 1 + 1) n (by omega) (by omega)
    obtain ⟨m,hm⟩:=Int.eq_ofNat_of_zero_le m1
    have hmn : m < n:=by omega
    have hm3 : m < 3:=by omega
    obtain ⟨kv,a3,c1,c2,_,_,O⟩:=g_Odd (L:=L) (a:=a + 1 + 1 + 1 + 1 + 1 + 1 + 1) (posN_le hp (by omega) (by omega)) 2 100 (by omega) (by omega) (by omega)
    have O':=fun l K=>O.app (h:=h) (id:=id) (l:=l) (K:=K) hid
    have p1:=pickS_mem (l:=[[118,111,108,116],[],[122]]) (L:=L) (a:=a + 1 + 1 + 1 + 1) (by simp) (by simp)
    have p2:=pickV_mem (l:=[0,-100000,-100001,20]) (L:=L) (a:=a + 1 + 1 + 1 + 1 + 1) (by simp) (by simp)
    have p3:=pickV_mem (l:=[10,100000,100001]) (L:=L) (a:=a + 1 + 1 + 1 + 1 + 1 + 1) (by simp) (by simp)
    simp only [List.mem_cons,List.not_mem_nil,or_false] at p1 p2 p3
    have l4 : LimBd ⟨pickS [[118,111,108,116],[],[122]] L (a + 1 + 1 + 1 + 1),pickV [0,-100000,-100001,20] L (a + 1 + 1 + 1 + 1 + 1),pickV [10,100000,100001] L (a + 1 + 1 + 1 + 1 + 1 + 1),kv⟩:=
      ⟨by rcases p1 with p1 | p1 | p1 <;> simp [p1],by dsimp only; omega,by dsimp only; omega⟩
    have hw : ∃ y,[PV.agg [.str [118,111,108,116],eI 0,eI 10,eI 5],.agg [.str [97,109,112],eI (-5),eI 5,eI (pickV [5,6,2] L a)],.agg [.str [104,122],eI 3,eI 8,eI 9]][m]? = some (.agg y) ∧ y.length = 4:=by
      rcases m with _ | _ | _ | m
      · exact ⟨_,rfl,rfl⟩
      · exact ⟨_,rfl,rfl⟩
      · exact ⟨_,rfl,rfl⟩
      · omega
    obtain ⟨y,hy,hyl⟩:=hw
    simp only [d_q03z,go_sem,hid,P,hn,hn3,hf,hm,hmn,hm3,↓O',O',hy,hyl]
    have ed : List.drop 4 y = []:=List.drop_of_length_le (by omega)
    refine ⟨a3,⟨by omega,by omega,win ([⟨[118,111,108,116],0,10,5⟩,⟨[97,109,112],-5,5,pickV [5,6,2] L a⟩,⟨[104,122],3,8,9⟩].set m ⟨pickS [[118,111,108,116],[],[122]] L (a + 1 + 1 + 1 + 1),pickV [0,-100000,-100001,20] L (a + 1 + 1 + 1 + 1 + 1),pickV [10,100000,100001] L (a + 1 + 1 + 1 + 1 + 1 + 1),kv⟩) 0 n,by simp [win]; omega,by simp [win]; omega,fun x hx=>?_,?_⟩,rfl⟩
    · have hx2 := List.mem_of_mem_drop (List.mem_of_mem_take hx)
      rcases List.mem_or_eq_of_mem_set hx2 with hx3 | rfl
      · simp only [List.mem_cons, List.not_mem_nil, or_false] at hx3
        rcases hx3 with rfl | rfl | rfl
        · exact l1
        · exact l2
        · exact l3
      · exact l4
    · rw [ed]
      show _ = AV.p (.sl (some 4) ((win _ 0 n).map Lim.pv))
      rw [← win_map,List.map_set]; rfl
  · simp only [d_q03z, go_sem, hid, P, hn, hn3, hf]
    refine ⟨a + 1 + 1 + 1,⟨by omega,by omega,win [⟨[118,111,108,116],0,10,5⟩,⟨[97,109,112],-5,5,pickV [5,6,2] L a⟩,⟨[104,122],3,8,9⟩] 0 n,by simp [win]; omega,by simp [win]; omega,fun x hx=>?_,?_⟩,rfl⟩
    · have hx3 := List.mem_of_mem_drop (List.mem_of_mem_take hx)
      simp only [List.mem_cons,List.not_mem_nil,or_false] at hx3
      rcases hx3 with rfl | rfl | rfl
      · exact l1
      · exact l2
      · exact l3
    · show _ = AV.p (.sl (some 4) ((win _ 0 n).map Lim.pv))
      rw [← win_map]; rfl
end Go.Am
end
section
/- Records: what is wrong with them,both ways. -/
open Go
set_option linter.unusedSimpArgs false
namespace Go.Am
variable {h : Heap} {K : Post}
theorem s_rf1 (n : Int) : ACall X f_q02y [AI n] h K = K (AB (!isM n)) h []:=by
  refine rule ?_
  rw [c_q02y rfl]
  simp only [d_q02y,go_sem,s_isMeasure]
theorem s_rrf1 (n : Int) : ACall X f_q04w [AI n] h K = K (AB (!isM n)) h []:=by
  refine rule ?_
  rw [c_q04w rfl]
  simp only [d_q04w,go_sem,s_in]
  rfl
theorem s_recordFault (l : List Lim) (r : Rec) (hl : LimOk l) (hr : RecOk r) : ACall X f_q02x [ALim l,.p r.pv] h K = K (AI (recFault l r)) h []:=by
  refine rule ?_
  rw [c_q02x rfl]
  have ku:=fun h K=>s_Key (h:=h) (K:=K) r.unit (by have:=hr.u; omega)
  have ks:=fun h K=>s_Key (h:=h) (K:=K) r.site (by have:=hr.s; omega)
  have cf:=fun h K=>ContainsFunc_int (h:=h) (K:=K) (g:=f_q02y) (caps:=[]) (p:=noM) (xs:=r.res.map eI) (fun x hx K=>by obtain ⟨n,_,rfl⟩:=List.mem_map.1 hx; exact s_rf1 n) all_eI' (by have:=hr.n; simp; omega)
  have cp:=fun h K=>s_complete (h:=h) (K:=K) l r hl.n hr.n
  rw [any_noM] at cf
  simp only [Rec.pv] at cp
  unfold recFault
  cases h1 : keyB r.unit with
  | false=>simp only [d_q02x,Rec.pv,go_sem,↓ku,ku,h1]
  | true=>
    cases h2 : keyB r.site with
    | false=>simp only [d_q02x,Rec.pv,go_sem,↓ku,ku,↓ks,ks,h1,h2]
    | true=>
      cases h3 : momentB r.time with
      | false=>simp only [d_q02x,Rec.pv,go_sem,↓ku,ku,↓ks,ks,h1,h2,s_Moment,h3]
      | true=>
        cases h4 : r.res.all isM with
        | false=>simp only [d_q02x,Rec.pv,go_sem,↓ku,ku,↓ks,ks,h1,h2,s_Moment,h3,↓cf,cf,h4]
        | true=>
          cases h5 : formB l r.res with
          | false=>simp only [d_q02x,Rec.pv,go_sem,↓ku,ku,↓ks,ks,h1,h2,s_Moment,h3,↓cf,cf,h4,↓cp,cp,h5]
          | true=>simp only [d_q02x,Rec.pv,go_sem,↓ku,ku,↓ks,ks,h1,h2,s_Moment,h3,↓cf,cf,h4,↓cp,cp,h5]
theorem s_refFails (l : List Lim) (res : List Int) (hl : l.length ≤ 1000) (hr : res.length ≤ 1000) : ACall X f_q04r [ALim l,AL res] h K = K (AI (failIdx l res)) h []:=by
  refine rule ?_
  rw [c_q04r rfl]
  simp only [d_q04r,go_sem]
  refine N_loop (fun k : Nat=>⟨[(0,ALim l),(7,AL res),(8,AI res.length),(9,AI k)],h,[]⟩) (fun k=>k ≤ res.length ∧ okTo l res k) (fun k=>res.length - k) 0 rfl ⟨by omega,fun i hi=>by omega⟩ ?_
  rintro k ⟨hk,hok⟩
  rcases Nat.lt_or_ge k res.length with hlt | hge
  · have g2 := map_get eI hlt
    have w2 : IntKind.i64.wrap ((k : Int) + 1) = ((k + 1 : Nat) : Int):=i64_wrap _ (by omega) (by omega)
    rcases Nat.lt_or_ge k l.length with hkl | hkl
    · have g1 := map_get Lim.pv hkl
      have gg:=goods_get (l:=l) (res:=res) hkl hlt
      unfold good at gg
      cases hg : inB l[k].lo res[k] l[k].hi with
      | false=>
        rw [hg] at gg
        simp only [go_sem,hlt,hkl,g1,g2,Lim.pv,s_inB,hg]
        rw [failIdx_of hok gg]
      | true=>
        simp only [go_sem,hlt,hkl,g1,g2,Lim.pv,s_inB,hg,w2]
        refine ⟨k + 1,rfl,⟨by omega,fun i hi=>?_⟩,by omega⟩
        rcases Nat.lt_or_ge i k with h3 | h3
        · exact hok i h3
        · have : i = k := by omega
          subst this; rw [gg,hg]; simp
    · have hkl' : ¬ k < l.length := by omega
      simp only [go_sem,hlt,hkl',g2,w2]
      refine ⟨k + 1,rfl,⟨by omega,fun i hi=>?_⟩,by omega⟩
      rcases Nat.lt_or_ge i k with h3 | h3
      · exact hok i h3
      · have : (goods l res)[i]? = none := List.getElem?_eq_none (by simp [goods]; omega)
        rw [this]; simp
  · have ek : k = res.length := by omega
    subst ek
    have : okTo l res (goods l res).length:=fun i hi=>hok i (by simp [goods] at hi; omega)
    simp only [go_sem,Nat.lt_irrefl]
    rw [failIdx_none this]
set_option maxHeartbeats 1000000 in
theorem s_refRecordFault (l : List Lim) (r : Rec) (hl : LimOk l) (hr : RecOk r) : ACall X f_q04v [ALim l,.p r.pv] h K = K (AI (recFault l r)) h []:=by
  refine rule ?_
  rw [c_q04v rfl]
  have ku:=fun h K=>s_refKey (h:=h) (K:=K) r.unit (by have:=hr.u; omega)
  have ks:=fun h K=>s_refKey (h:=h) (K:=K) r.site (by have:=hr.s; omega)
  have cf:=fun h K=>ContainsFunc_int (h:=h) (K:=K) (g:=f_q04w) (caps:=[]) (p:=noM) (xs:=r.res.map eI) (fun x hx K=>by obtain ⟨n,_,rfl⟩:=List.mem_map.1 hx; exact s_rrf1 n) all_eI' (by have:=hr.n; simp; omega)
  have fl:=fun h K=>s_refFails (h:=h) (K:=K) l r.res hl.n hr.n
  rw [any_noM] at cf
  have hw : IntKind.i64.wrap ((r.res.length : Int) - 1) = (r.res.length : Int) - 1:=i64_wrap _ (by omega) (by have:=hr.n; omega)
  unfold recFault
  cases h1 : keyB r.unit with
  | false=>simp only [d_q04v,Rec.pv,go_sem,↓ku,ku,h1]
  | true=>
    cases h2 : keyB r.site with
    | false=>simp only [d_q04v,Rec.pv,go_sem,↓ku,ku,↓ks,ks,h1,h2]
    | true=>
      cases h3 : momentB r.time with
      | false=>simp only [d_q04v,Rec.pv,go_sem,↓ku,ku,↓ks,ks,h1,h2,s_refMoment,h3]
      | true=>
        cases h4 : r.res.all isM with
        | false=>simp only [d_q04v,Rec.pv,go_sem,↓ku,ku,↓ks,ks,h1,h2,s_refMoment,h3,↓cf,cf,h4]
        | true=>
          unfold formB
          generalize failIdx l r.res = w at *
          cases h5 : inB 1 r.res.length l.length with
          | false=>simp only [d_q04v,Rec.pv,go_sem,↓ku,ku,↓ks,ks,h1,h2,s_refMoment,h3,↓cf,cf,h4,↓fl,fl,s_inB,h5]
          | true=>
            by_cases h6 : 0 ≤ w
            · have h6' : ¬ w < 0 := by omega
              by_cases h7 : w = (r.res.length : Int) - 1
              · simp only [d_q04v,Rec.pv,go_sem,↓ku,ku,↓ks,ks,h1,h2,s_refMoment,h3,↓cf,cf,h4,↓fl,fl,s_inB,h5,h6,h6',hw,eq_true h7]
              · simp only [d_q04v,Rec.pv,go_sem,↓ku,ku,↓ks,ks,h1,h2,s_refMoment,h3,↓cf,cf,h4,↓fl,fl,s_inB,h5,h6,h6',hw,h7]
            · have h6' : w < 0 := by omega
              by_cases h7 : (r.res.length : Int) = l.length
              · simp only [d_q04v,Rec.pv,go_sem,↓ku,ku,↓ks,ks,h1,h2,s_refMoment,h3,↓cf,cf,h4,↓fl,fl,s_inB,h5,h6,h6',eq_true h7]
              · simp only [d_q04v,Rec.pv,go_sem,↓ku,ku,↓ks,ks,h1,h2,s_refMoment,h3,↓cf,cf,h4,↓fl,fl,s_inB,h5,h6,h6',h7]
def orL : List Int → Int
  | []=>0
  | x :: r=>if x ≠ 0 then x else orL r
theorem s_cmpOr (l : List Int) (hl : l.length ≤ 1000) : ACall X f_q00v [AL l] h K = K (AI (orL l)) h []:=by
  refine rule ?_
  rw [c_q00v rfl]
  simp only [d_q00v,go_sem]
  refine N_loop (fun k : Nat=>⟨[(3,AI 0),(6,AL l),(7,AI l.length),(8,AI k)],h,[]⟩) (fun k=>k ≤ l.length ∧ orL (l.drop k) = orL l) (fun k=>l.length - k) 0 rfl ⟨by omega,rfl⟩ ?_
  rintro k ⟨hk,hp⟩
  rcases Nat.lt_or_ge k l.length with hlt | hge
  · have g2 := map_get eI hlt
    have w2 : IntKind.i64.wrap ((k : Int) + 1) = ((k + 1 : Nat) : Int):=i64_wrap _ (by omega) (by omega)
    rw [List.drop_eq_getElem_cons hlt,orL] at hp
    by_cases hz : l[k] = 0
    · rw [if_neg (by simp [hz])] at hp
      simp only [go_sem,hlt,g2,hz,w2]
      exact ⟨k + 1,rfl,⟨by omega,hp⟩,by omega⟩
    · rw [if_pos hz] at hp
      simp only [go_sem,hlt,g2,hz]
      rw [hp]
  · have ek : k = l.length := by omega
    subst ek
    rw [List.drop_length] at hp
    simp only [go_sem,Nat.lt_irrefl]
    rw [← hp]; rfl
theorem s_byTime (a b : Rec) : ACall X f_q02i [.p a.pv,.p b.pv] h K = K (AI (recCmp a b)) h []:=by
  refine rule ?_
  rw [c_q02i rfl]
  have o:=fun h K=>s_cmpOr (h:=h) (K:=K) [cmp3 a.time b.time,cmpL a.unit b.unit] (by simp)
  simp only [AL,List.map_cons,List.map_nil] at o
  have e : orL [cmp3 a.time b.time,cmpL a.unit b.unit] = recCmp a b:=by
    unfold recCmp orL
    split
    · rfl
    · unfold orL
      split
      · rfl
      · rename_i h; simp only [ne_eq,Decidable.not_not] at h; rw [h]; rfl
  rw [e] at o
  simp only [d_q02i,Rec.pv,go_sem,s_cmpCompare,s_strCompare,o]
theorem s_recordOrder (a b : Rec) (ha : -1000000000000000000 ≤ a.time ∧ a.time ≤ 1000000000000000000) (hb : -1000000000000000000 ≤ b.time ∧ b.time ≤ 1000000000000000000) : ACall X f_q04x [.p a.pv,.p b.pv] h K = K (AI (recCmp a b)) h []:=by
  refine rule ?_
  rw [c_q04x rfl]
  have w : IntKind.i64.wrap (a.time - b.time) = a.time - b.time:=i64_wrap _ (by omega) (by omega)
  unfold recCmp
  by_cases he : a.time = b.time
  · have : cmp3 a.time b.time = 0 := by rw [he]; unfold cmp3; simp
    rw [if_neg (by simp [this])]
    simp only [d_q04x,Rec.pv,go_sem,he,s_strCompare]
  · have hc : cmp3 a.time b.time ≠ 0 := by unfold cmp3; split <;> (try split) <;> omega
    rw [if_pos hc]
    rw [cmp3_sign]
    simp only [d_q04x,Rec.pv,go_sem,he,w,s_sign]
theorem recsFaultFrom_cons {l : List Lim} {p : Option Rec} {x : Rec} {r : List Rec} : recsFaultFrom l p (x :: r) = if recFault l x ≠ 0 then recFault l x else if (match p with | some q=>decide (recCmp x q ≤ 0) | none=>false) = true then 7 else recsFaultFrom l (some x) r:=rfl
theorem recFault_time {l : List Lim} {r : Rec} (hf : recFault l r = 0) : 0 ≤ r.time ∧ r.time ≤ 345686399999:=by
  unfold recFault at hf
  split at hf
  · cases hf
  · split at hf
    · cases hf
    · rename_i h
      simp [momentB,inB] at h
      exact h
theorem s_recordsFault (l : List Lim) (r : List Rec) (hl : LimOk l) (hr : ∀ x ∈ r,RecOk x) (hn : r.length ≤ 1000000) : ACall X f_q02z [ALim l,ARec r] h K = K (AI (recsFault0 l r)) h []:=by
  refine rule ?_
  rw [c_q02z rfl]
  unfold recsFault0
  by_cases h1 : (5000 : Int) < r.length
  · simp only [d_q02z,go_sem,h1]
  simp only [d_q02z,go_sem,h1]
  refine N_loop (fun k : Nat=>⟨[(0,ALim l),(1,ARec r),(11,ARec r),(12,AI r.length),(13,AI k)],h,[]⟩) (fun k=>k ≤ r.length ∧ recsFaultFrom l (r.take k).getLast? (r.drop k) = recsFaultFrom l none r) (fun k=>r.length - k) 0 rfl ⟨by omega,rfl⟩ ?_
  rintro k ⟨hkl,hp⟩
  rcases Nat.lt_or_ge k r.length with hlt | hge
  · have hg := map_get Rec.pv hlt
    have w2 : IntKind.i64.wrap ((k : Int) + 1) = ((k + 1 : Nat) : Int):=i64_wrap _ (by omega) (by omega)
    have hx:=hr _ (List.getElem_mem hlt)
    have hlast : (r.take (k + 1)).getLast? = some r[k]:=by rw [List.take_succ_eq_append_getElem hlt]; exact List.getLast?_concat
    rw [List.drop_eq_getElem_cons hlt,recsFaultFrom_cons] at hp
    have cx : cutP (some 4) 0 (r[k].pv) = some r[k].pv:=rfl
    have rf:=fun h K=>s_recordFault (h:=h) (K:=K) l r[k] hl hx
    simp only [Rec.pv] at rf
    by_cases h2 : recFault l r[k] = 0
    · rw [if_neg (by simp [h2])] at hp
      cases k with
      | zero=>
        simp only [List.take_zero,List.getLast?_nil,reduceCtorEq,if_false] at hp
        have hlt0 : (0 : Int) < r.length:=by omega
        simp only [go_sem,hlt0,hg,cx,Rec.pv,rf,h2,Int.lt_irrefl,show IntKind.i64.wrap 1 = 1 from rfl]
        exact ⟨0 + 1,rfl,⟨by omega,by rw [hlast]; exact hp⟩,by omega⟩
      | succ j=>
        have hj : j < r.length:=by omega
        have hgj:=map_get Rec.pv hj
        have cj : cutP (some 4) 0 (r[j].pv) = some r[j].pv:=rfl
        have hlj : (r.take (j + 1)).getLast? = some r[j]:=by rw [List.take_succ_eq_append_getElem hj]; exact List.getLast?_concat
        have w3 : IntKind.i64.wrap (((j + 1 : Nat) : Int) - 1) = (j : Int):=by rw [i64_wrap _ (by omega) (by omega)]; omega
        have p1 : (0 : Int) < ((j + 1 : Nat) : Int):=by omega
        have bt:=fun h K=>s_byTime (h:=h) (K:=K) r[j + 1] r[j]
        simp only [Rec.pv] at bt
        rw [hlj] at hp
        by_cases h3 : recCmp r[j + 1] r[j] ≤ 0
        · simp only [h3, decide_true, if_true] at hp
          simp only [go_sem,hlt,hj,hg,hgj,cx,cj,Rec.pv,rf,h2,p1,w3,bt,h3]
          rw [← hp]
        · simp only [h3, decide_false, reduceCtorEq, if_false] at hp
          simp only [go_sem,hlt,hj,hg,hgj,cx,cj,Rec.pv,rf,h2,p1,w3,bt,h3,w2]
          exact ⟨j + 1 + 1,rfl,⟨by omega,by rw [hlast]; exact hp⟩,by omega⟩
    · rw [if_pos h2] at hp
      simp only [go_sem,hlt,hg,cx,Rec.pv,rf,h2]
      rw [← hp]
  · have ek : k = r.length := by omega
    subst ek
    rw [List.drop_length] at hp
    simp only [go_sem,Nat.lt_irrefl]
    rw [← hp]
    cases (r.take r.length).getLast? <;> rfl
theorem s_CheckRecords (l : List Lim) (r : List Rec) (hl : LimOk l) (hr : ∀ x ∈ r,RecOk x) (hn : r.length ≤ 1000000) : ACall X f_q023 [ALim l,ARec r] h K = K (AI (recsFault l r)) h []:=by
  refine rule ?_
  rw [c_q023 rfl]
  have cl:=fun h K=>s_CheckLimits (h:=h) (K:=K) l hl.k (by have:=hl.n; omega)
  have cr:=fun h K=>s_recordsFault (h:=h) (K:=K) l r hl hr hn
  unfold recsFault
  by_cases h1 : limsFault l = 0
  · simp only [d_q023,go_sem,cl,cr,h1]
  · simp only [d_q023,go_sem,cl,cr,h1]
theorem s_RecordsFault (l : List Lim) (r : List Rec) (hl : LimOk l) (hr : ∀ x ∈ r,RecOk x) (hn : r.length ≤ 1000000) : ACall X f_q04g [ALim l,ARec r] h K = K (AI (recsFault l r)) h []:=by
  refine rule ?_
  rw [c_q04g rfl]
  have cl:=fun h K=>s_LimitsFault (h:=h) (K:=K) l hl.k (by have:=hl.n; omega)
  unfold recsFault recsFault0
  by_cases h0 : limsFault l = 0
  case neg=>simp only [d_q04g,go_sem,cl,h0]
  by_cases h1 : (5000 : Int) < r.length
  · simp only [d_q04g,go_sem,cl,h0,h1]
  simp only [d_q04g,go_sem,cl,h0,h1]
  refine N_loop (fun k : Nat=>⟨[(0,ALim l),(1,ARec r),(17,ARec r),(18,AI r.length),(19,AI k)],h,[]⟩) (fun k=>k ≤ r.length ∧ recsFaultFrom l (r.take k).getLast? (r.drop k) = recsFaultFrom l none r ∧ ∀ x ∈ r.take k,recFault l x = 0) (fun k=>r.length - k) 0 rfl ⟨by omega,rfl,by simp⟩ ?_
  rintro k ⟨hkl,hp,hz⟩
  rcases Nat.lt_or_ge k r.length with hlt | hge
  · have hg := map_get Rec.pv hlt
    have w2 : IntKind.i64.wrap ((k : Int) + 1) = ((k + 1 : Nat) : Int):=i64_wrap _ (by omega) (by omega)
    have hx:=hr _ (List.getElem_mem hlt)
    have hlast : (r.take (k + 1)).getLast? = some r[k]:=by rw [List.take_succ_eq_append_getElem hlt]; exact List.getLast?_concat
    rw [List.drop_eq_getElem_cons hlt,recsFaultFrom_cons] at hp
    have cx : cutP (some 4) 0 (r[k].pv) = some r[k].pv:=rfl
    have rf:=fun h K=>s_refRecordFault (h:=h) (K:=K) l r[k] hl hx
    simp only [Rec.pv] at rf
    by_cases h2 : recFault l r[k] = 0
    · rw [if_neg (by simp [h2])] at hp
      have hz' : ∀ x ∈ r.take (k + 1),recFault l x = 0:=fun x hx=>by
        rw [List.take_succ_eq_append_getElem hlt,List.mem_append,List.mem_singleton] at hx
        rcases hx with hx | rfl
        · exact hz x hx
        · exact h2
      cases k with
      | zero=>
        simp only [List.take_zero,List.getLast?_nil,reduceCtorEq,if_false] at hp
        have hlt0 : (0 : Int) < r.length:=by omega
        simp only [go_sem,hlt0,hg,cx,Rec.pv,rf,h2,Int.lt_irrefl,show IntKind.i64.wrap 1 = 1 from rfl]
        exact ⟨0 + 1,rfl,⟨by omega,by rw [hlast]; exact hp,hz'⟩,by omega⟩
      | succ j=>
        have hj : j < r.length:=by omega
        have hgj:=map_get Rec.pv hj
        have cj : cutP (some 4) 0 (r[j].pv) = some r[j].pv:=rfl
        have hlj : (r.take (j + 1)).getLast? = some r[j]:=by rw [List.take_succ_eq_append_getElem hj]; exact List.getLast?_concat
        have w3 : IntKind.i64.wrap (((j + 1 : Nat) : Int) - 1) = (j : Int):=by rw [i64_wrap _ (by omega) (by omega)]; omega
        have p1 : (0 : Int) < ((j + 1 : Nat) : Int):=by omega
        have t1:=recFault_time h2
        have t2:=recFault_time (hz r[j] (by rw [List.mem_take_iff_getElem]; exact ⟨j,by omega,rfl⟩))
        have bt:=fun h K=>s_recordOrder (h:=h) (K:=K) r[j] r[j + 1] (by omega) (by omega)
        simp only [Rec.pv] at bt
        rw [hlj] at hp
        have hneg:=recCmp_neg r[j + 1] r[j]
        by_cases h3 : recCmp r[j + 1] r[j] ≤ 0
        · have h3' : 0 ≤ recCmp r[j] r[j + 1] := by omega
          simp only [h3,decide_true,if_true] at hp
          simp only [go_sem,hlt,hj,hg,hgj,cx,cj,Rec.pv,rf,h2,p1,w3,bt,h3']
          rw [← hp]
        · have h3' : ¬ 0 ≤ recCmp r[j] r[j + 1] := by omega
          simp only [h3,decide_false,reduceCtorEq,if_false] at hp
          simp only [go_sem,hlt,hj,hg,hgj,cx,cj,Rec.pv,rf,h2,p1,w3,bt,h3',w2]
          exact ⟨j + 1 + 1,rfl,⟨by omega,by rw [hlast]; exact hp,hz'⟩,by omega⟩
    · rw [if_pos h2] at hp
      simp only [go_sem,hlt,hg,cx,Rec.pv,rf,h2]
      rw [← hp]
  · have ek : k = r.length := by omega
    subst ek
    rw [List.drop_length] at hp
    simp only [go_sem,Nat.lt_irrefl]
    rw [← hp]
    cases (r.take r.length).getLast? <;> rfl
end Go.Am
end
section
/- Sorting records: printed by program. -/
open Go
set_option linter.unusedSimpArgs false
namespace Go.Am
attribute [-go_sem] PV.cells splice
variable {h : Heap} {K : Post}
theorem insCmp_api_Record (id n : Nat) (l tl : List PV) (hn : n = l.length + tl.length) (hs : shps (some 4) l) (hl : l.length ≤ 1000) (hh : h[id]? = some (.row (some 4) (l ++ tl) 0)) {g : Nat} {caps : List AV} {c : PV → PV → Int} (hc : Cmps g caps c l id h) :
    ACall X f_q065 [.own id n 0 l.length,AI 0,AI l.length,.fn g caps] h K = K (.tup []) (h.set id (.row (some 4) (isort (ltC c) l ++ tl) 0)) []:=by
  refine rule ?_
  rw [c_q065]
  have hid:=get_lt hh
  have hst : ∀ o,(h.set id o)[id]? = some o:=fun o=>set_get' hid
  simp only [d_q065,go_sem,show IntKind.i64.wrap 1 = 1 from rfl]
  refine N_loop (fun i : Nat=>⟨[(0,.own id n 0 l.length),(1,AI 0),(2,AI l.length),(3,.fn g caps),(8,AI i)],h.set id (.row (some 4) ((isortR (ltC c) (l.take i)).reverse ++ (l.drop i ++ tl)) 0),[]⟩) (fun i=>1 ≤ i ∧ (i ≤ l.length ∨ i = 1)) (fun i=>l.length - i) 1 ?_ (by simp) ?_
  · have : (isortR (ltC c) (l.take 1)).reverse ++ (l.drop 1 ++ tl) = l ++ tl := by cases l <;> rfl
    rw [this,set_self hh]; rfl
  rintro i ⟨hi1,hi2⟩
  rcases Nat.lt_or_ge i l.length with hlt | hge
  · simp only [go_sem, hlt]
    have hxl : l[i] ∈ l:=List.getElem_mem hlt
    generalize hx : l[i] = x at *
    generalize hR : isortR (ltC c) (l.take i) = R
    have hRl : R.length = i:=by rw [← hR,isortR_len]; simp; omega
    have hRm : ∀ z ∈ R,z ∈ l:=fun z hz=>List.mem_of_mem_take ((isortR_perm (ltC c) (l.take i)).mem_iff.1 (by rw [hR]; exact hz))
    have hdrop : l.drop i = x :: l.drop (i + 1):=by rw [← hx]; exact List.drop_eq_getElem_cons hlt
    have hnext : isortR (ltC c) (l.take (i + 1)) = insR (ltC c) x R:=by rw [isortR_take_succ _ _ _ hlt,hR,hx]
    refine N_loop (fun t : List PV × List PV=>⟨[(0,.own id n 0 l.length),(1,AI 0),(2,AI l.length),(3,.fn g caps),(8,AI i),(9,AI t.1.length)],h.set id (.row (some 4) (t.1.reverse ++ x :: t.2) 0),[]⟩)
      (fun t=>∃ B,R = B ++ t.1 ∧ t.2 = B.reverse ++ (l.drop (i + 1) ++ tl) ∧ ∀ b ∈ B,ltC c x b = true) (fun t=>t.1.length) (R,l.drop (i + 1) ++ tl) (by rw [hdrop,hRl]; rfl) ⟨[],rfl,rfl,by simp⟩ ?_
    rintro ⟨A,C⟩ ⟨B,q1,q2,q3⟩
    dsimp only at q1 q2 q3
    have hlen : (A.reverse ++ x :: C).length = n:=by
      have : R.length = B.length + A.length:=by rw [q1]; simp
      rw [q2]; simp; omega
    have hBA : B.length + A.length < l.length:=by
      have : R.length = B.length + A.length:=by rw [q1]; simp
      omega
    have hln : l.length ≤ n:=by omega
    have w1 : IntKind.i64.wrap ((i : Int) + 1) = ((i + 1 : Nat) : Int):=i64_wrap _ (by omega) (by omega)
    cases A with
    | nil=>
      have hd : insR (ltC c) x R = B ++ [x]:=by rw [q1]; exact ins_done (ltC c) x [] B q3 (fun y r h=>by cases h)
      simp only [go_sem,Int.lt_irrefl,w1]
      refine ⟨i + 1,?_,by omega,by omega⟩
      simp only [hnext,hd,q2,List.reverse_append,List.reverse_nil,List.nil_append,List.reverse_cons,List.append_assoc,List.cons_append]
    | cons y A=>
      have hyl : y ∈ l:=hRm y (by rw [q1]; simp)
      have g1:=ins_get (y :: A) C x
      have g2:=ins_get1 A C x y
      have sw:=ins_swap A C x y
      simp only [List.length_cons] at hBA
      generalize hrow : (y :: A).reverse ++ x :: C = row at *
      simp only [List.length_cons] at g1
      have w2 : IntKind.i64.wrap (((A.length + 1 : Nat) : Int) - 1) = (A.length : Int):=by rw [i64_wrap _ (by omega) (by omega)]; omega
      have p1 : (0 : Int) < ((A.length + 1 : Nat) : Int):=by omega
      have b1 : A.length + 1 < l.length:=by omega
      have b2 : A.length < l.length:=by omega
      have cx:=shp_cut (hs x hxl)
      have cy:=shp_cut (hs y hyl)
      have hcc:=fun o K=>hc o x hxl y hyl K
      by_cases hxy : c x y < 0
      · have g3 : (row.set (A.length + 1) y)[A.length]? = some y := by rw [List.getElem?_set_ne (by omega), g2]
        have lx:=shp_len (hs x hxl)
        have ly:=shp_len (hs y hyl)
        have sx:=shp_all (hs x hxl)
        have sy:=shp_all (hs y hyl)
        simp only [shSize] at lx ly
        have t1:=fun i xs h1=>shp_st (hs x hxl) (hs y hyl) id i 0 xs h1
        have t2:=fun i xs h1=>shp_st (hs y hyl) (hs x hxl) id i 0 xs h1
        simp only [go_sem,hst,p1,hlen,g1,g2,g3,w2,b1,b2,hln,cx,cy,hcc,hxy,lx,ly,sx,sy,t1,t2,sw]
        refine ⟨(A,y :: C),rfl,⟨B ++ [y],by simp [q1],by simp [q2],fun b hb=>?_⟩,by simp⟩
        rw [List.mem_append,List.mem_singleton] at hb
        rcases hb with hb | rfl
        · exact q3 b hb
        · simpa [ltC] using hxy
      · have hd : insR (ltC c) x R = B ++ x :: y :: A := by rw [q1]; exact ins_done (ltC c) x (y :: A) B q3 (fun z r h => by cases h; simpa [ltC] using hxy)
        simp only [go_sem,hst,p1,hlen,g1,g2,w2,b1,b2,hln,cx,cy,hcc,hxy,w1]
        refine ⟨i + 1,?_,by omega,by omega⟩
        simp only [hnext,hd,← hrow,q2,List.reverse_append,List.reverse_cons,List.append_assoc,List.cons_append,List.nil_append]
  · have hge' : ¬ i < l.length := by omega
    have e1 : l.take i = l:=List.take_of_length_le hge
    have e2 : l.drop i = []:=List.drop_of_length_le hge
    simp only [go_sem,hge',e1,e2]
    rfl
theorem stable_api_Record (id : Nat) (l : List PV) (hs : shps (some 4) l) (hl : l.length ≤ 19) (hh : h[id]? = some (.row (some 4) l 0)) {g : Nat} {caps : List AV} {c : PV → PV → Int} (hc : Cmps g caps c l id h) :
    ACall X f_q05s [.own id l.length 0 l.length,.fn g caps] h K = K (.tup []) (h.set id (.row (some 4) (isort (ltC c) l) 0)) []:=by
  refine rule ?_
  rw [c_q05s]
  have key : ∀ K : Post,ACall X f_q073 [.own id l.length 0 l.length,AI l.length,.fn g caps] h K = K (.tup []) (h.set id (.row (some 4) (isort (ltC c) l) 0)) []:=by
    intro K
    refine rule ?_
    rw [c_q073]
    have is:=fun K=>insCmp_api_Record (h:=h) (K:=K) id l.length l [] rfl hs (by omega) (by rw [List.append_nil]; exact hh) hc
    simp only [List.append_nil] at is
    have b1 : ¬ ((20 : Int) ≤ (l.length : Int)):=by omega
    have b2 : ¬ ((20 : Int) < (l.length : Int)):=by omega
    simp only [d_q073,go_sem]
    refine N_loop (fun _ : Unit=>⟨[(0,.own id l.length 0 l.length),(1,AI l.length),(2,.fn g caps),(6,AI 20),(7,AI 0),(8,AI 20)],h,[]⟩) (fun _=>True) (fun _=>0) () rfl trivial ?_
    intro _ _
    simp only [go_sem,b1,is]
    refine N_loop (fun _ : Unit=>⟨[(0,.own id l.length 0 l.length),(1,AI l.length),(2,.fn g caps),(6,AI 20)],h.set id (.row (some 4) (isort (ltC c) l) 0),[]⟩) (fun _=>True) (fun _=>0) () rfl trivial ?_
    intro _ _
    simp only [go_sem,b2]
  simp only [d_q05s,go_sem,key]
end Go.Am
end
section
/- Leaving out what is alike: printed by program. -/
open Go
set_option linter.unusedSimpArgs false
namespace Go.Am
attribute [-go_sem] PV.cells splice
variable {h : Heap} {K : Post}
theorem CompactFunc_Record (id : Nat) (l : List PV) (hs : shps (some 4) l) (hl : l.length ≤ 100000) (hh : h[id]? = some (.row (some 4) l 0)) {g : Nat} {caps : List AV} {q : PV → PV → Bool} (hq : Alikes g caps q l id h) :
    ACall X f_q053 [.own id l.length 0 l.length,.fn g caps] h K = K (.own id l.length 0 (compactL q l).length) (h.set id (.row (some 4) (compactL q l ++ List.replicate (l.length - (compactL q l).length) (PV.agg [.str [],.int .i64 0,.str [],.sl none []])) 0)) []:=by
  refine rule ?_
  rw [c_q053]
  have hid:=get_lt hh
  have hst : ∀ o,(h.set id o)[id]? = some o:=fun o=>set_get' hid
  have hb : ¬ h.length ≤ id:=by omega
  have hb2 : max h.length (id + 1) = h.length:=by omega
  have hb3 : id + 1 ≤ h.length:=hid
  have hq0 : ∀ x ∈ l,∀ y ∈ l,∀ K : Post,ACall X g (.p x :: .p y :: caps) h K = K (AB (q x y)) h []:=fun x hx y hy K=>by have:=hq (.row (some 4) l 0) x hx y hy K; rwa [set_self hh] at this
  by_cases h2 : l.length < 2
  · have h2' : (l.length : Int) < 2 := by omega
    have e : compactL q l = l:=by
      cases l with
      | nil=>rfl
      | cons x r=>
        have : r = []:=List.length_eq_zero_iff.1 (by simp only [List.length_cons] at h2; omega)
        subst this; rfl
    simp only [d_q053,go_sem,h2',e,Nat.sub_self,List.replicate_zero,List.append_nil,hb,hb2,hb3]
    rw [set_self hh]
  have h2' : ¬ (l.length : Int) < 2:=by omega
  simp only [d_q053,go_sem,h2']
  refine N_loop (fun k : Nat=>⟨[(0,.own id l.length 0 l.length),(1,.fn g caps),(5,AI ((k + 1 : Nat) : Int))],h,[]⟩) (fun k=>k + 1 ≤ l.length ∧ compactL q (l.take (k + 1)) = l.take (k + 1)) (fun k=>l.length - (k + 1)) 0 rfl ⟨by omega,?_⟩ ?_
  · cases l with
    | nil=>rfl
    | cons x r=>rfl
  rintro k ⟨hk,hc⟩
  rcases Nat.lt_or_ge (k + 1) l.length with hlt | hge
  · have hk0 : k < l.length := by omega
    have g1 : l[k + 1]? = some l[k + 1]:=List.getElem?_eq_getElem hlt
    have g2 : l[k]? = some l[k]:=List.getElem?_eq_getElem hk0
    have c1:=shp_cut (shps_get hs hlt)
    have c2:=shp_cut (shps_get hs hk0)
    have w1 : IntKind.i64.wrap (((k + 1 : Nat) : Int) - 1) = (k : Int):=by rw [i64_wrap _ (by omega) (by omega)]; omega
    have w2 : IntKind.i64.wrap (((k + 1 : Nat) : Int) + 1) = ((k + 1 + 1 : Nat) : Int):=i64_wrap _ (by omega) (by omega)
    have hqk:=fun K=>hq0 _ (List.getElem_mem hlt) _ (List.getElem_mem hk0) K
    have hcs:=compactL_take_succ q l k hlt
    cases hqx : q l[k + 1] l[k] with
    | false=>
      rw [hqx] at hcs
      simp only [go_sem,hh,hlt,hk0,g1,g2,c1,c2,w1,w2,hqk,hqx]
      exact ⟨k + 1,rfl,⟨by omega,by rw [hcs,hc,cond_false,List.take_succ_eq_append_getElem hlt]⟩,by omega⟩
    | true=>
      rw [hqx,cond_true,List.append_nil,hc] at hcs
      have hle : k + 1 ≤ l.length:=by omega
      simp only [go_sem,hh,hlt,hk0,hle,g1,g2,c1,c2,w1,hqk,hqx]
      have e0 : k + 1 + (l.length - (k + 1)) = l.length:=by omega
      refine N_loop (fun t : List PV × Nat × Nat=>⟨[(0,.own id l.length 0 l.length),(1,.fn g caps),(5,AI ((t.2.1 : Nat) : Int)),(6,.own id l.length (k + 1) (l.length - (k + 1))),(7,AI ((t.2.2 + 1 : Nat) : Int))],h.set id (.row (some 4) t.1 0),[]⟩)
        (fun t=>t.1.length = l.length ∧ shps (some 4) t.1 ∧ t.2.1 ≤ k + 1 + t.2.2 ∧ k + 1 + t.2.2 < l.length ∧ t.1.take t.2.1 = compactL q (l.take (k + 1 + t.2.2 + 1)) ∧ t.1.drop (k + 1 + t.2.2) = l.drop (k + 1 + t.2.2)) (fun t=>l.length - t.2.2)
        (l,k + 1,0) (by rw [set_self hh]; rfl) ⟨rfl,hs,by simp,by simpa using hlt,by simpa using hcs.symm,rfl⟩ ?_
      rintro ⟨row,i,j⟩ ⟨r1,r2,r3,r4,r5,r6⟩
      dsimp only at r1 r2 r3 r4 r5 r6
      rcases Nat.lt_or_ge (k + 1 + j + 1) l.length with hlt2 | hge2
      · have a1 : row[k + 1 + j + 1]? = some l[k + 1 + j + 1]:=by
          have:=congrArg (·[1]?) r6
          simp only [List.getElem?_drop] at this
          rw [this,List.getElem?_eq_getElem hlt2]
        have a2 : row[k + 1 + j]? = some l[k + 1 + j]:=by
          have:=congrArg (·[0]?) r6
          simp only [List.getElem?_drop,Nat.add_zero] at this
          rw [this,List.getElem?_eq_getElem r4]
        have s1:=shps_get hs hlt2
        have d1:=shp_cut s1
        have d2:=shp_cut (shps_get hs r4)
        have hil : i < l.length:=by omega
        have hir : i < row.length:=by omega
        have g3 : row[i]? = some row[i]:=List.getElem?_eq_getElem hir
        have t1:=fun xs h1=>shp_st s1 (shps_get r2 hir) id i 0 xs h1
        have lx:=shp_len s1
        have sx:=shp_all s1
        simp only [shSize] at lx
        have v1 : IntKind.i64.wrap (((j + 1 : Nat) : Int) - 1) = (j : Int):=by rw [i64_wrap _ (by omega) (by omega)]; omega
        have v2 : IntKind.i64.wrap (((j + 1 : Nat) : Int) + 1) = ((j + 1 + 1 : Nat) : Int):=i64_wrap _ (by omega) (by omega)
        have v3 : IntKind.i64.wrap ((i : Int) + 1) = ((i + 1 : Nat) : Int):=i64_wrap _ (by omega) (by omega)
        have p1 : j + 1 < l.length - (k + 1):=by omega
        have p2 : j < l.length - (k + 1):=by omega
        have p3 : k + 1 + (j + 1) = k + 1 + j + 1:=by omega
        have p4 : k + 1 + (l.length - (k + 1)) ≤ l.length:=by omega
        have hqj:=fun o K=>hq o _ (List.getElem_mem hlt2) _ (List.getElem_mem r4) K
        have hcs2:=compactL_take_succ q l (k + 1 + j) hlt2
        cases hqy : q l[k + 1 + j + 1] l[k + 1 + j] with
        | true=>
          rw [hqy,cond_true,List.append_nil] at hcs2
          simp only [go_sem,hst,r1,p1,p2,p3,p4,e0,a1,a2,d1,d2,v1,v2,hqj,hqy]
          refine ⟨(row,i,j + 1),rfl,⟨r1,r2,by dsimp only; omega,by dsimp only; omega,?_,?_⟩,by dsimp only; omega⟩
          · dsimp only; rw [r5,← hcs2]; rfl
          · dsimp only; rw [show k + 1 + (j + 1) = k + 1 + j + 1 from rfl,← List.drop_drop,r6,List.drop_drop]
        | false=>
          rw [hqy,cond_false] at hcs2
          simp only [go_sem,hst,r1,p1,p2,p3,p4,e0,a1,a2,g3,d1,d2,v1,v2,v3,hil,hqj,hqy,lx,sx,t1]
          refine ⟨(row.set i l[k + 1 + j + 1],i + 1,j + 1),rfl,⟨by simpa using r1,fun x hx=>?_,by dsimp only; omega,by dsimp only; omega,?_,?_⟩,by dsimp only; omega⟩
          · rcases List.mem_or_eq_of_mem_set hx with hx | rfl
            · exact r2 x hx
            · exact s1
          · dsimp only
            rw [show k + 1 + (j + 1) + 1 = k + 1 + j + 1 + 1 from rfl,hcs2,← r5,List.take_succ_eq_append_getElem (by simp; omega)]
            simp [List.take_set_of_le]
          · dsimp only
            rw [List.drop_set_of_lt (by omega),show k + 1 + (j + 1) = k + 1 + j + 1 from rfl,← List.drop_drop,r6,List.drop_drop]
      · have ej : k + 1 + j + 1 = l.length := by omega
        rw [ej,List.take_length] at r5
        have hil : i ≤ l.length:=by omega
        have hm : (compactL q l).length = i:=by rw [← r5]; simp; omega
        have p1 : ¬ (j + 1 < l.length - (k + 1)):=by omega
        have sp : splice row i (List.replicate (l.length - i) (PV.agg [.str [],.int .i64 0,.str [],.sl none []])) = compactL q l ++ List.replicate (l.length - i) (PV.agg [.str [],.int .i64 0,.str [],.sl none []]):=by
          unfold splice
          rw [r5,List.length_replicate,List.drop_of_length_le (by omega),List.append_nil]
        have rl : (compactL q l ++ List.replicate (l.length - i) (PV.agg [.str [],.int .i64 0,.str [],.sl none []])).length = l.length:=by simp only [List.length_append,hm,List.length_replicate]; omega
        rw [hm]
        generalize compactL q l ++ List.replicate (l.length - i) (PV.agg [.str [],.int .i64 0,.str [],.sl none []]) = row' at *
        simp only [go_sem,hst,r1,rl,hil,p1,sp,show i + (l.length - i) = l.length by omega,hb,hb2,hb3]
  · have ek : k + 1 = l.length := by omega
    rw [ek,List.take_length] at hc
    have hge' : ¬ k + 1 < l.length:=by omega
    simp only [go_sem,hge',hc,Nat.sub_self,List.replicate_zero,List.append_nil,hb,hb2,hb3]
    rw [set_self hh]
end Go.Am
end
section
/- What is drawn: records. -/
open Go
set_option linter.unusedSimpArgs false
namespace Go.Am
variable {L : List Int} {a : Int} {h l : Heap} {id : Nat} {K : Post}
theorem close_out {b : Nat} {x : Esc} (hx : ∀ y ∈ x,b ≤ y.1) : ∀ k,close k x b = b:=by
  have hb : bump x b = b:=by
    unfold bump
    induction x with
    | nil=>rfl
    | cons y r ih=>
      simp only [List.foldl_cons]
      rw [if_neg (by have:=hx y (by simp); omega)]
      exact ih (fun z hz=>hx z (by simp [hz]))
  intro k
  induction k with
  | zero=>rfl
  | succ k ih=>unfold close; rw [hb,ih]
theorem trunc_out {b : Nat} {x0 x : Esc} {e : List (Nat × AV)} {h : Heap} (hx : ∀ y ∈ x,b ≤ y.1) : trunc b x0 ⟨e,h,x⟩ = ⟨clean b e,h.take b,x0⟩:=by
  unfold trunc
  simp only [close_out hx]
  have hc : closed x b = true:=by
    unfold closed
    rw [List.all_eq_true]
    intro y hy
    simp [hx y hy]
  have hf : x.filter (fun y=>decide (y.1 < b)) = []:=by
    rw [List.filter_eq_nil_iff]
    intro y hy
    have:=hx y hy
    simp; omega
  rw [if_pos hc,hf,List.nil_append]
theorem trunc_one {b i t : Nat} {x0 : Esc} {e : List (Nat × AV)} {h : Heap} (hi : i < b) : trunc b x0 ⟨e,h,[(i,t)]⟩ = ⟨clean (max b t) e,h.take (max b t),(i,t) :: x0⟩:=by
  unfold trunc
  have hb : close [(i,t)].length [(i,t)] b = max b t:=by simp [close,bump,hi]
  simp only [hb]
  have hc : closed [(i,t)] (max b t) = true:=by simp [closed]; omega
  have hf : [(i,t)].filter (fun y=>decide (y.1 < max b t)) = [(i,t)]:=by simp; omega
  rw [if_pos hc,hf]; rfl
theorem frz3 {o0 o1 o2 : Obj} {sh : Sh} {xs : List PV} {fz k : Nat} : frz [o0,o1,o2,.row sh xs fz] 3 k = [o0,o1,o2,.row sh xs (max fz k)]:=rfl
set_option maxHeartbeats 2000000 in
theorem rec_k5 (hid : id < h.length) (hp : posN 30 a) (rs : List Rec) (hrs : rs.length ≤ 1000) (u s : List UInt8) (hu : u.length ≤ 1000) (hs : s.length ≤ 1000) (t : Int) (ns : List Int) (hns : ns.length ≤ 100) (G : Obj) (v1 v8 v13 v14 : AV) (x : Esc) (hx : ∀ y ∈ x,h.length + 1 ≤ y.1) (K : Ex → St → Prop)
    (hK : ∀ (r' : Rec) (a' : Int) (J : Heap) (x' : Esc),RecOk r' → a ≤ a' → a' ≤ a + 8 → (∀ y ∈ x',h.length + 1 ≤ y.1) →
      K .normal ⟨[(0,.ref id 0),(1,v1),(7,.own h.length (rs.length + 1) 0 (rs.length + 1)),(8,v8),(13,v13),(14,v14)],h.set id (strm L a') ++ .row (some 4) (rs.map Rec.pv ++ [r'.pv]) 0 :: J,x'⟩) :
    d_q044_k5 (ACall X) X.gl p_q044_k4 (.ref id 0) v1 (.own h.length rs.length 0 rs.length) v8 (.ref (h.length + 1) 0) v13 v14
      (h.set id (strm L a) ++ [.row (some 4) (rs.map Rec.pv) 0,.box [AS u,AI t,AS s,.own (h.length + 3) ns.length 0 ns.length],G,.row none (ns.map eI) 0]) x K:=by
  have P:=posAll (posN_le hp (Int.le_refl a) (by omega))
  have hmx : rs.length + 1 ≤ maxSl:=by unfold maxSl; omega
  have hmn : ns.length + 1 ≤ maxSl:=by unfold maxSl; omega
  have e1 : h.length + 1 < h.length + 3 + 1:=by omega
  by_cases hf : nextV L a 60 = 0
  · by_cases h0 : nextV L (a + 1) 3 = 0
    · obtain ⟨kv, a3, c1, c2, _, _, O⟩ := g_Odd (L := L) (a := a + 1 + 1 + 1 + 1) (posN_le hp (by omega) (by omega)) 0 50 (by omega) (by omega) (by omega)
      have O':=fun l K=>O.app (h:=h) (id:=id) (l:=l) (K:=K) hid
      have p1:=pickS_mem (l:=[[],[117,49]]) (L:=L) (a:=a + 1 + 1) (by simp) (by simp)
      have p2:=pickS_mem (l:=[[65],[115,49]]) (L:=L) (a:=a + 1 + 1 + 1) (by simp) (by simp)
      simp only [List.mem_cons,List.not_mem_nil,or_false] at p1 p2
      simp only [d_q044_k5,go_sem,hid,P,hf,h0,↓O',O',hmx,frz3]
      rw [win_full (by simp)]
      exact hK ⟨pickS [[],[117,49]] L (a + 1 + 1),kv,pickS [[65],[115,49]] L (a + 1 + 1 + 1),ns⟩ a3 _ _ ⟨by rcases p1 with p1 | p1 <;> simp [p1],by rcases p2 with p2 | p2 <;> simp [p2],by dsimp only; omega⟩ (by omega) (by omega) hx
    · by_cases h1 : nextV L (a + 1) 3 = 1
      · simp only [d_q044_k5, go_sem, hid, P, hf, h0, h1, hmx, hmn, escOf, e1, frz3]
        rw [win_full (by simp)]
        have e : List.map eI ns ++ [PV.int .i64 (pickV [0,100001,-100001] L (a + 1 + 1))] = (ns ++ [pickV [0,100001,-100001] L (a + 1 + 1)]).map eI:=by simp
        rw [e]
        refine hK ⟨u,t,s,ns ++ [pickV [0,100001,-100001] L (a + 1 + 1)]⟩ (a + 1 + 1 + 1) _ _ ⟨hu,hs,by simp; omega⟩ (by omega) (by omega) (fun y hy=>?_)
        rcases List.mem_cons.1 hy with rfl | hy
        · exact Nat.le_refl _
        · exact hx y hy
      · obtain ⟨m1, m2⟩ := nextV_bd L (a + 1 + 1) (ns.length + 1) (by omega) (by omega)
        obtain ⟨m,hm⟩:=Int.eq_ofNat_of_zero_le m1
        have w1 : IntKind.i64.wrap ((ns.length : Int) + 1) = (ns.length : Int) + 1:=i64_wrap _ (by omega) (by omega)
        have hml : m ≤ ns.length:=by omega
        simp only [d_q044_k5,go_sem,hid,P,hf,h0,h1,w1,hm,hml,hmx,escOf,e1,frz3]
        rw [win_map]
        refine hK ⟨u,t,s,win ns 0 m⟩ (a + 1 + 1 + 1) _ _ ⟨hu,hs,by simp [win]; omega⟩ (by omega) (by omega) (fun y hy=>?_)
        rcases List.mem_cons.1 hy with rfl | hy
        · exact Nat.le_refl _
        · exact hx y hy
  · simp only [d_q044_k5, go_sem, hid, P, hf, hmx, frz3]
    rw [win_full (by simp)]
    exact hK ⟨u,t,s,ns⟩ (a + 1) _ _ ⟨hu,hs,by dsimp only; omega⟩ (by omega) (by omega) hx
attribute [-go_sem] d_q044_k5
def unRec : PV → Rec
  | .agg [.str u,.int _ t,.str s,.sl _ xs]=>⟨u,t,s,xs.map unI⟩
  | _=>⟨[],0,[],[]⟩
theorem unRec_pv (r : Rec) : unRec r.pv = r:=by
  cases r with | mk u t s ns=>
  have : (ns.map eI).map unI = ns:=by
    rw [List.map_map]
    have : (unI ∘ eI) = id:=by funext n; rfl
    rw [this,List.map_id]
  simp only [Rec.pv,unRec,this]
theorem recs_of {P : Rec → Prop} : ∀ {xs : List PV},(∀ x ∈ xs,∃ r,P r ∧ x = Rec.pv r) → ∃ rs : List Rec,(∀ r ∈ rs,P r) ∧ xs = rs.map Rec.pv
  | [],_=>⟨[],by simp,rfl⟩
  | x :: xs,h=>by
    obtain ⟨r,h1,h2⟩:=h x (by simp)
    obtain ⟨rs,h3,h4⟩:=recs_of (xs:=xs) (fun y hy=>h y (List.mem_cons_of_mem _ hy))
    refine ⟨r :: rs,fun z hz=>?_,by rw [h2,h4]; rfl⟩
    rcases List.mem_cons.1 hz with rfl | hz
    · exact h1
    · exact h3 z hz
theorem s_rec1 (a b : Rec) : ACall X f_q045 [.p a.pv,.p b.pv] h K = K (AI (recCmp a b)) h []:=by
  refine rule ?_
  rw [c_q045 rfl]
  have o:=fun h K=>s_cmpOr (h:=h) (K:=K) [cmp3 a.time b.time,cmpL a.unit b.unit] (by simp)
  simp only [AL,List.map_cons,List.map_nil] at o
  have e : orL [cmp3 a.time b.time,cmpL a.unit b.unit] = recCmp a b:=by
    unfold recCmp orL
    split
    · rfl
    · unfold orL
      split
      · rfl
      · rename_i h; simp only [ne_eq,Decidable.not_not] at h; rw [h]; rfl
  rw [e] at o
  simp only [d_q045,Rec.pv,go_sem,s_cmpCompare,s_strCompare,o]
def sameAt (a b : Rec) : Bool:=decide (a.time = b.time) && decide (a.unit = b.unit)
theorem s_rec2 (a b : Rec) : ACall X f_q046 [.p a.pv,.p b.pv] h K = K (AB (sameAt a b)) h []:=by
  refine rule ?_
  rw [c_q046 rfl]
  unfold sameAt
  by_cases h1 : a.time = b.time
  · simp only [d_q046,Rec.pv,go_sem,h1]
  · simp only [d_q046,Rec.pv,go_sem,h1]
set_option maxHeartbeats 4000000 in
theorem g_Records (hp : posN 4000 a) (l : List Lim) (hl1 : 1 ≤ l.length) (hl2 : l.length ≤ 3) (n : Nat) (hn : n ≤ 19) :
    GenE f_q044 [ALim l,AI n] L a (fun v a2=>a ≤ a2 ∧ a2 ≤ a + 2000 ∧ ∃ rs : List Rec,rs.length ≤ n ∧ (∀ r ∈ rs,RecOk r) ∧ v = ARec rs):=by
  refine GenE.of fun h id hid=>?_
  rw [c_q044 rfl]
  simp only [d_q044,go_sem,hid]
  refine N_loop (fun t : List Rec × Int × Int=>⟨[(0,.ref id 0),(1,ALim l),(7,.own h.length t.1.length 0 t.1.length),(8,AI t.2.1),(13,AI n),(14,AI t.1.length)],h.set id (strm L t.2.2) ++ [.row (some 4) (t.1.map Rec.pv) 0],[]⟩)
    (fun t=>t.1.length ≤ n ∧ (∀ r ∈ t.1,RecOk r) ∧ a ≤ t.2.2 ∧ t.2.2 ≤ a + 40 * t.1.length) (fun t=>n - t.1.length) ([],0,a) rfl ⟨by simp,by simp,by simp,by simp⟩ ?_
  rintro ⟨rs,t,b⟩ ⟨q1,q2,q3,q4⟩
  dsimp only at q1 q2 q3 q4
  rcases Nat.lt_or_ge rs.length n with hlt | hge
  · have P := posAll (posN_le hp q3 (show b + 14 ≤ a + 4000 by omega))
    have w1 : IntKind.i64.wrap ((rs.length : Int) + 1) = ((rs.length + 1 : Nat) : Int):=i64_wrap _ (by omega) (by omega)
    have p1:=pickS_mem (l:=[[117,49],[117,50],[117,51],[117,52]]) (L:=L) (a:=b + 1) (by simp) (by simp)
    have p2:=pickS_mem (l:=[[115,49],[115,49],[115,50]]) (L:=L) (a:=b + 1 + 1) (by simp) (by simp)
    have pu : (pickS [[117,49],[117,50],[117,51],[117,52]] L (b + 1)).length ≤ 1000:=by
      simp only [List.mem_cons,List.not_mem_nil,or_false] at p1
      rcases p1 with p1 | p1 | p1 | p1 <;> simp [p1]
    have ps : (pickS [[115,49],[115,49],[115,50]] L (b + 1 + 1)).length ≤ 1000:=by
      simp only [List.mem_cons,List.not_mem_nil,or_false] at p2
      rcases p2 with p2 | p2 | p2 <;> simp [p2]
    simp only [go_sem,hid,P,hlt]
    generalize pickS [[117,49],[117,50],[117,51],[117,52]] L (b + 1) = u at *
    generalize pickS [[115,49],[115,49],[115,50]] L (b + 1 + 1) = s at *
    generalize IntKind.i64.wrap (t + pickV [1,1,5,0] L b) = t' at *
    have hb3 : b + 1 + 1 + 1 + 14 ≤ a + 4000:=by omega
    have fin : ∀ (c : Int) (ns : List Int) (G : Obj) (x : Esc),ns.length ≤ 100 → b + 3 ≤ c → c ≤ b + 3 + 9 → (∀ y ∈ x,h.length + 1 ≤ y.1) →
        d_q044_k5 (ACall X) X.gl p_q044_k4 (.ref id 0) (ALim l) (.own h.length rs.length 0 rs.length) (AI t') (.ref (h.length + 1) 0) (AI n) (AI rs.length)
          (h.set id (strm L c) ++ [.row (some 4) (rs.map Rec.pv) 0,.box [AS u,AI t',AS s,.own (h.length + 3) ns.length 0 ns.length],G,.row none (ns.map eI) 0]) x
          (blockN 1 (seqN (ACall X) X.gl p_q044_k6 (scopeK (h.length + 1) [] (loopK
            (fun t : List Rec × Int × Int=>⟨[(0,.ref id 0),(1,ALim l),(7,.own h.length t.1.length 0 t.1.length),(8,AI t.2.1),(13,AI n),(14,AI t.1.length)],h.set id (strm L t.2.2) ++ [.row (some 4) (t.1.map Rec.pv) 0],[]⟩)
            (fun t=>t.1.length ≤ n ∧ (∀ r ∈ t.1,RecOk r) ∧ a ≤ t.2.2 ∧ t.2.2 ≤ a + 40 * t.1.length) (fun t=>n - t.1.length)
            (blockN 0 (seqN (ACall X) X.gl p_q044_k8 (finR [.t 6] false h.length (fun v1 h1 x1=>∃ a2,(a ≤ a2 ∧ a2 ≤ a + 2000 ∧ ∃ rs : List Rec,rs.length ≤ n ∧ (∀ r ∈ rs,RecOk r) ∧ v1 = ARec rs) ∧ h1 = h.set id (strm L a2) ∧ x1 = [])))) (rs,t,b))))):=by
      intro c ns G x h1 h2 h3 h4
      refine rec_k5 hid (posN_le hp (by omega) (by omega)) rs (by omega) u s pu ps t' ns h1 G (ALim l) (AI t') (AI n) (AI rs.length) x h4 _ (fun r' a' J x' r1 r2 r3 r4=>?_)
      have f1 : id + 1 ≤ h.length + 1:=by omega
      simp only [go_sem,w1,trunc_out r4,f1]
      refine ⟨(rs ++ [r'],t',a'),?_,⟨by simp; omega,fun r hr=>?_,by dsimp only; omega,by simp; omega⟩,by simp; omega⟩
      · simp only [List.length_append,List.length_cons,List.length_nil,List.map_append,List.map_cons,List.map_nil]
      · rcases List.mem_append.1 hr with hr | hr
        · exact q2 r hr
        · rw [List.mem_singleton] at hr; rw [hr]; exact r1
    generalize hc0 : b + 1 + 1 + 1 = c0 at *
    refine N_loop (fun o : Option (List Int × Int × Obj × Esc)=>match o with
        | none=>⟨[(0,.ref id 0),(1,ALim l),(7,.own h.length rs.length 0 rs.length),(8,AI t'),(9,.ref (h.length + 1) 0),(13,AI n),(14,AI rs.length),(29,ALim l),(30,AI l.length),(31,AI 0)],h.set id (strm L c0) ++ [.row (some 4) (rs.map Rec.pv) 0,.box [AS u,AI t',AS s,.sl0 none]],[]⟩
        | some (ns,c,G,x)=>⟨[(0,.ref id 0),(1,ALim l),(7,.own h.length rs.length 0 rs.length),(8,AI t'),(9,.ref (h.length + 1) 0),(13,AI n),(14,AI rs.length),(29,ALim l),(30,AI l.length),(31,AI ns.length)],h.set id (strm L c) ++ [.row (some 4) (rs.map Rec.pv) 0,.box [AS u,AI t',AS s,.own (h.length + 3) ns.length 0 ns.length],G,.row none (ns.map eI) 0],x⟩)
      (fun o=>match o with
        | none=>True
        | some (ns,c,G,x)=>1 ≤ ns.length ∧ ns.length ≤ l.length ∧ c0 ≤ c ∧ c ≤ c0 + 3 * ns.length ∧ ∀ y ∈ x,h.length + 1 ≤ y.1)
      (fun o=>match o with
        | none=>l.length + 1
        | some (ns,c,G,x)=>l.length - ns.length) none rfl trivial ?_
    rintro (_ | ⟨ns,c,G,x⟩) hP
    · have P := posAll (posN_le hp (show a ≤ c0 by omega) (show c0 + 14 ≤ a + 4000 by omega))
      have hl0 : (0 : Int) < l.length:=by omega
      have hg:=map_get Lim.pv (show 0 < l.length by omega)
      have cx : cutP (some 4) 0 (l[0].pv) = some l[0].pv:=rfl
      generalize l[0] = y at *
      have e2 : h.length + 1 < h.length + 2:=by omega
      have e3 : max (h.length + 2) (h.length + 3 + 1) = h.length + 4:=by omega
      have eo : escOf (h.length + 1) (.own (h.length + 3) 1 0 1) = [(h.length + 1,h.length + 3 + 1)]:=by unfold escOf; rw [if_pos (by simp [AV.top]),top_own]
      have e4 : id + 1 ≤ h.length + 4:=by omega
      have e5 : h.length + 1 ≤ h.length + 4:=by omega
      have e6 : h.length + 1 + 1 ≤ h.length + 4:=by omega
      have hmx : 1 ≤ maxSl:=by unfold maxSl; omega
      have hnb : Nat.beq 2 3 = false:=rfl
      have wk : IntKind.i64.wrap 1 = 1:=rfl
      have tr : ∀ (x0 : Esc) (e : List (Nat × AV)) (H : Heap),trunc (h.length + 2) x0 ⟨e,H,[(h.length + 1,h.length + 3 + 1)]⟩ = ⟨clean (h.length + 4) e,H.take (h.length + 4),(h.length + 1,h.length + 3 + 1) :: x0⟩:=fun x0 e H=>by rw [trunc_one e2,e3]
      by_cases hf : nextV L (c0 + 1) 5 = 0
      · obtain ⟨v, hv⟩ : ∃ v, pickV [IntKind.i64.wrap (y.lo - 1), IntKind.i64.wrap (y.hi + 1), IntKind.i64.wrap (y.hi + 7)] L (c0 + 1 + 1) = v := ⟨_, rfl⟩
        by_cases b1 : v < y.lo
        · simp only [go_sem, hid, P, hl0, hg, cx, Lim.pv, hf, eo, hv, b1, hmx, hnb, tr, e4, e5, e6]
          refine fin (c0 + 1 + 1 + 1) [v] _ _ (by simp) (by omega) (by omega) (by simp)
        · by_cases b2 : y.hi < v
          · simp only [go_sem, hid, P, hl0, hg, cx, Lim.pv, hf, eo, hv, b1, b2, hmx, hnb, tr, e4, e5, e6]
            refine fin (c0 + 1 + 1 + 1) [v] _ _ (by simp) (by omega) (by omega) (by simp)
          · simp only [go_sem, hid, P, hl0, hg, cx, Lim.pv, hf, eo, hv, b1, b2, hmx, hnb, tr, e4, e5, e6, wk]
            exact ⟨some ([v],c0 + 1 + 1 + 1,_,_),rfl,⟨by simp,by simpa using hl1,by omega,by simp; omega,by simp⟩,by show l.length - [v].length < l.length + 1; simp only [List.length_cons,List.length_nil]; omega⟩
      · obtain ⟨v, hv⟩ : ∃ v, pickV [y.lo, y.hi, IntKind.i64.wrap ((IntKind.i64.wrap (y.lo + y.hi)).tdiv 2), IntKind.i64.wrap ((IntKind.i64.wrap (y.lo + y.hi)).tdiv 2), IntKind.i64.wrap (y.lo + 1)] L c0 = v := ⟨_, rfl⟩
        by_cases b1 : v < y.lo
        · simp only [go_sem, hid, P, hl0, hg, cx, Lim.pv, hf, eo, hv, b1, hmx, hnb, tr, e4, e5, e6]
          refine fin (c0 + 1 + 1) [v] _ _ (by simp) (by omega) (by omega) (by simp)
        · by_cases b2 : y.hi < v
          · simp only [go_sem, hid, P, hl0, hg, cx, Lim.pv, hf, eo, hv, b1, b2, hmx, hnb, tr, e4, e5, e6]
            refine fin (c0 + 1 + 1) [v] _ _ (by simp) (by omega) (by omega) (by simp)
          · simp only [go_sem, hid, P, hl0, hg, cx, Lim.pv, hf, eo, hv, b1, b2, hmx, hnb, tr, e4, e5, e6, wk]
            exact ⟨some ([v],c0 + 1 + 1,_,_),rfl,⟨by simp,by simpa using hl1,by omega,by simp; omega,by simp⟩,by show l.length - [v].length < l.length + 1; simp only [List.length_cons,List.length_nil]; omega⟩
    · obtain ⟨r1, r2, r3, r4, r5⟩ := hP
      rcases Nat.lt_or_ge ns.length l.length with hlt2 | hge2
      · have P := posAll (posN_le hp (show a ≤ c by omega) (show c + 14 ≤ a + 4000 by omega))
        have hg:=map_get Lim.pv hlt2
        have cx : cutP (some 4) 0 (l[ns.length].pv) = some l[ns.length].pv:=rfl
        generalize l[ns.length] = y at *
        have e2 : h.length + 1 < h.length + 4:=by omega
        have e3 : max (h.length + 4) (h.length + 3 + 1) = h.length + 4:=by omega
        have eo : escOf (h.length + 1) (.own (h.length + 3) (ns.length + 1) 0 (ns.length + 1)) = [(h.length + 1,h.length + 3 + 1)]:=by unfold escOf; rw [if_pos (by simp [AV.top]),top_own]
        have e4 : id + 1 ≤ h.length + 4:=by omega
        have e5 : h.length + 1 ≤ h.length + 4:=by omega
        have e6 : h.length + 1 + 1 ≤ h.length + 4:=by omega
        have e7 : h.length + 3 + 1 ≤ h.length + 4:=by omega
        have e8 : h.length + 4 ≤ h.length + 4:=by omega
        have hmx : ns.length + 1 ≤ maxSl:=by unfold maxSl; omega
        have hnb : Nat.beq 2 3 = false:=rfl
        have wi : IntKind.i64.wrap ((ns.length : Int) + 1) = ((ns.length + 1 : Nat) : Int):=i64_wrap _ (by omega) (by omega)
        have tr : ∀ (x0 : Esc) (e : List (Nat × AV)) (H : Heap),trunc (h.length + 4) x0 ⟨e,H,[(h.length + 1,h.length + 3 + 1)]⟩ = ⟨clean (h.length + 4) e,H.take (h.length + 4),(h.length + 1,h.length + 3 + 1) :: x0⟩:=fun x0 e H=>by rw [trunc_one e2,e3]
        by_cases hf : nextV L (c + 1) 5 = 0
        · obtain ⟨v, hv⟩ : ∃ v, pickV [IntKind.i64.wrap (y.lo - 1), IntKind.i64.wrap (y.hi + 1), IntKind.i64.wrap (y.hi + 7)] L (c + 1 + 1) = v := ⟨_, rfl⟩
          have ev : ns.map eI ++ [PV.int .i64 v] = (ns ++ [v]).map eI:=by simp
          have el : (ns ++ [v]).length = ns.length + 1:=by simp
          have hx2 : ∀ z ∈ (h.length + 1,h.length + 3 + 1) :: x,h.length + 1 ≤ z.1:=fun z hz=>by
            rcases List.mem_cons.1 hz with rfl | hz
            · exact Nat.le_refl _
            · exact r5 z hz
          by_cases b1 : v < y.lo
          · simp only [go_sem, hid, P, hlt2, hg, cx, Lim.pv, hf, eo, hv, b1, hmx, hnb, tr, e4, e5, e6, e7, e8]
            rw [ev,← el]
            exact fin (c + 1 + 1 + 1) (ns ++ [v]) _ _ (by omega) (by omega) (by omega) hx2
          · by_cases b2 : y.hi < v
            · simp only [go_sem, hid, P, hlt2, hg, cx, Lim.pv, hf, eo, hv, b1, b2, hmx, hnb, tr, e4, e5, e6, e7, e8]
              rw [ev,← el]
              exact fin (c + 1 + 1 + 1) (ns ++ [v]) _ _ (by omega) (by omega) (by omega) hx2
            · simp only [go_sem, hid, P, hlt2, hg, cx, Lim.pv, hf, eo, hv, b1, b2, hmx, hnb, tr, e4, e5, e6, e7, e8, wi]
              rw [ev]
              refine ⟨some (ns ++ [v],c + 1 + 1 + 1,G,(h.length + 1,h.length + 3 + 1) :: x),?_,⟨by omega,by omega,by omega,by rw [el]; omega,hx2⟩,by show l.length - (ns ++ [v]).length < l.length - ns.length; omega⟩
              simp only [el]
        · obtain ⟨v, hv⟩ : ∃ v, pickV [y.lo, y.hi, IntKind.i64.wrap ((IntKind.i64.wrap (y.lo + y.hi)).tdiv 2), IntKind.i64.wrap ((IntKind.i64.wrap (y.lo + y.hi)).tdiv 2), IntKind.i64.wrap (y.lo + 1)] L c = v := ⟨_, rfl⟩
          have ev : ns.map eI ++ [PV.int .i64 v] = (ns ++ [v]).map eI:=by simp
          have el : (ns ++ [v]).length = ns.length + 1:=by simp
          have hx2 : ∀ z ∈ (h.length + 1,h.length + 3 + 1) :: x,h.length + 1 ≤ z.1:=fun z hz=>by
            rcases List.mem_cons.1 hz with rfl | hz
            · exact Nat.le_refl _
            · exact r5 z hz
          by_cases b1 : v < y.lo
          · simp only [go_sem, hid, P, hlt2, hg, cx, Lim.pv, hf, eo, hv, b1, hmx, hnb, tr, e4, e5, e6, e7, e8]
            rw [ev,← el]
            exact fin (c + 1 + 1) (ns ++ [v]) _ _ (by omega) (by omega) (by omega) hx2
          · by_cases b2 : y.hi < v
            · simp only [go_sem, hid, P, hlt2, hg, cx, Lim.pv, hf, eo, hv, b1, b2, hmx, hnb, tr, e4, e5, e6, e7, e8]
              rw [ev,← el]
              exact fin (c + 1 + 1) (ns ++ [v]) _ _ (by omega) (by omega) (by omega) hx2
            · simp only [go_sem, hid, P, hlt2, hg, cx, Lim.pv, hf, eo, hv, b1, b2, hmx, hnb, tr, e4, e5, e6, e7, e8, wi]
              rw [ev]
              refine ⟨some (ns ++ [v],c + 1 + 1,G,(h.length + 1,h.length + 3 + 1) :: x),?_,⟨by omega,by omega,by omega,by rw [el]; omega,hx2⟩,by show l.length - (ns ++ [v]).length < l.length - ns.length; omega⟩
              simp only [el]
      · have hb2 : ¬ (ns.length < l.length) := by omega
        have e4 : id + 1 ≤ h.length + 4:=by omega
        have e5 : h.length + 1 ≤ h.length + 4:=by omega
        have e6 : h.length + 1 + 1 ≤ h.length + 4:=by omega
        simp only [go_sem,hb2,e4,e5,e6]
        exact fin c ns G x (by omega) (by omega) (by omega) r5
  · have en : rs.length = n := by omega
    have hb2 : ¬ (rs.length < n):=by omega
    have hh : (h.set id (strm L b) ++ [Obj.row (some 4) (rs.map Rec.pv) 0])[h.length]? = some (.row (some 4) (rs.map Rec.pv) 0):=by rw [List.getElem?_append_right (by simp)]; simp
    have st:=fun K=>stable_api_Record (h:=h.set id (strm L b) ++ [Obj.row (some 4) (rs.map Rec.pv) 0]) (K:=K) h.length (rs.map Rec.pv) rec_shps (by simp; omega) hh (g:=f_q045) (caps:=[]) (c:=fun x y=>recCmp (unRec x) (unRec y))
      (fun o x hx y hy K=>by
        obtain ⟨p,_,rfl⟩:=List.mem_map.1 hx
        obtain ⟨q,_,rfl⟩:=List.mem_map.1 hy
        dsimp only
        rw [unRec_pv,unRec_pv]
        exact s_rec1 p q)
    have so:=isort_perm (ltC fun x y=>recCmp (unRec x) (unRec y)) (rs.map Rec.pv)
    have hsm : ∀ x ∈ isort (ltC fun x y=>recCmp (unRec x) (unRec y)) (rs.map Rec.pv),∃ r,RecOk r ∧ x = Rec.pv r:=fun x hx=>by
      obtain ⟨r,hr,rfl⟩:=List.mem_map.1 (isort_mem.1 hx)
      exact ⟨r,q2 r hr,rfl⟩
    obtain ⟨ss,s1,s2⟩:=recs_of hsm
    have hsl : ss.length = rs.length:=by have:=congrArg List.length s2; simp [isort_len] at this; omega
    simp only [List.length_map,s2] at st
    have hh2 : (h.set id (strm L b) ++ [Obj.row (some 4) (ss.map Rec.pv) 0])[h.length]? = some (.row (some 4) (ss.map Rec.pv) 0):=by rw [List.getElem?_append_right (by simp)]; simp
    have cp:=fun K=>CompactFunc_Record (h:=h.set id (strm L b) ++ [Obj.row (some 4) (ss.map Rec.pv) 0]) (K:=K) h.length (ss.map Rec.pv) rec_shps (by simp; omega) hh2 (g:=f_q046) (caps:=[]) (q:=fun x y=>sameAt (unRec x) (unRec y))
      (fun o x hx y hy K=>by
        obtain ⟨p,_,rfl⟩:=List.mem_map.1 hx
        obtain ⟨q,_,rfl⟩:=List.mem_map.1 hy
        dsimp only
        rw [unRec_pv,unRec_pv]
        exact s_rec2 p q)
    have hcm : ∀ x ∈ compactL (fun x y=>sameAt (unRec x) (unRec y)) (ss.map Rec.pv),∃ r,RecOk r ∧ x = Rec.pv r:=fun x hx=>by
      obtain ⟨r,hr,rfl⟩:=List.mem_map.1 (compactL_mem hx)
      exact ⟨r,s1 r hr,rfl⟩
    obtain ⟨cs,c1,c2⟩:=recs_of hcm
    have hcl : cs.length ≤ ss.length:=by
      have h1:=congrArg List.length c2
      have h2:=compactL_len (fun x y=>sameAt (unRec x) (unRec y)) (ss.map Rec.pv)
      simp at h1 h2; omega
    simp only [List.length_map,c2,hsl] at cp
    have e0 : ∀ o,(h.set id (strm L b) ++ [Obj.row (some 4) (rs.map Rec.pv) 0]).set h.length o = h.set id (strm L b) ++ [o]:=fun o=>by rw [List.set_append_right _ _ (by simp)]; simp
    have e1 : ∀ o,(h.set id (strm L b) ++ [Obj.row (some 4) (ss.map Rec.pv) 0]).set h.length o = h.set id (strm L b) ++ [o]:=fun o=>by rw [List.set_append_right _ _ (by simp)]; simp
    simp only [e0] at st
    simp only [e1] at cp
    have rl : (cs.map Rec.pv ++ List.replicate (rs.length - cs.length) (PV.agg [.str [],.int .i64 0,.str [],.sl none []])).length = rs.length:=by simp; omega
    have hw : win (cs.map Rec.pv ++ List.replicate (rs.length - cs.length) (PV.agg [.str [],.int .i64 0,.str [],.sl none []])) 0 cs.length = cs.map Rec.pv:=by simp [win]
    have hcr : cs.length ≤ rs.length:=by omega
    generalize cs.map Rec.pv ++ List.replicate (rs.length - cs.length) (PV.agg [.str [],.int .i64 0,.str [],.sl none []]) = row at *
    simp only [go_sem,hb2,↓st,st,↓cp,cp,rl,hw,hcr]
    exact ⟨b,⟨q3,by omega,cs,by omega,c1,rfl⟩,rfl⟩
end Go.Am
end
section
/- Merging two ordered lists: by sorting and leaving out what is alike,and by looking each one up. Plain lists. -/
namespace Go.Am
variable {α : Type}
structure Ordr (c : α → α → Int) : Prop where
  neg : ∀ a b,c b a = - c a b
  trans : ∀ a b d,c a b ≤ 0 → c b d ≤ 0 → c a d ≤ 0
theorem Ordr.refl {c : α → α → Int} (o : Ordr c) (a : α) : c a a = 0:=by have:=o.neg a a; omega
theorem Ordr.lt_le {c : α → α → Int} (o : Ordr c) {a b d : α} (h1 : c a b < 0) (h2 : c b d ≤ 0) : c a d < 0:=by
  by_cases h : c a d < 0
  · exact h
  · have h3 := o.neg a d
    have h4:=o.trans b d a h2 (by omega)
    have:=o.neg a b
    omega
def ltO (c : α → α → Int) (a b : α) : Bool:=decide (c a b < 0)
theorem Ordr.weak {c : α → α → Int} (o : Ordr c) : Weak (ltO c):=by
  refine ⟨fun a b h=>?_,fun a b d h1 h2=>?_⟩
  · simp only [ltO, decide_eq_true_eq, decide_eq_false_iff_not] at h ⊢
    have:=o.neg a b; omega
  · simp only [ltO, decide_eq_false_iff_not] at h1 h2 ⊢
    have q1:=o.neg a b
    have q2:=o.neg b d
    have q3:=o.trans a b d (by omega) (by omega)
    have q4:=o.neg a d
    omega
def Strict (c : α → α → Int) (l : List α) : Prop:=l.Pairwise fun x y=>c x y < 0
theorem strict_ext {c : α → α → Int} (o : Ordr c) : ∀ {l m : List α},Strict c l → Strict c m → (∀ x,x ∈ l ↔ x ∈ m) → l = m
  | [],[],_,_,_=>rfl
  | [],y :: m,_,_,h=>absurd ((h y).2 (by simp)) (by simp)
  | x :: l,[],_,_,h=>absurd ((h x).1 (by simp)) (by simp)
  | x :: l,y :: m,h1,h2,h=>by
    have a1:=List.pairwise_cons.1 h1
    have a2:=List.pairwise_cons.1 h2
    have e : x = y:=by
      rcases List.mem_cons.1 ((h x).1 (by simp)) with e | e
      · exact e
      · rcases List.mem_cons.1 ((h y).2 (by simp)) with e' | e'
        · exact e'.symm
        · have b1 := a2.1 x e
          have b2:=a1.1 y e'
          have:=o.neg x y
          omega
    subst e
    rw [strict_ext o a1.2 a2.2 fun z=>?_]
    constructor
    · intro hz
      rcases List.mem_cons.1 ((h z).1 (by simp [hz])) with e | e
      · subst e; have:=a1.1 z hz; have:=o.refl z; omega
      · exact e
    · intro hz
      rcases List.mem_cons.1 ((h z).2 (by simp [hz])) with e | e
      · subst e; have:=a2.1 z hz; have:=o.refl z; omega
      · exact e
theorem cmpct_sub (q : α → α → Bool) : ∀ (l : List α) (p : α),(cmpctFrom q p l).Sublist l
  | [],_=>List.Sublist.slnil
  | x :: r,p=>by
    unfold cmpctFrom
    cases q x p with
    | true=>exact (cmpct_sub q r x).cons x
    | false=>exact (cmpct_sub q r x).cons_cons x
theorem compact_sub (q : α → α → Bool) : ∀ l : List α,(compactL q l).Sublist l
  | []=>List.Sublist.slnil
  | x :: r=>(cmpct_sub q r x).cons_cons x
theorem cmpct_all {q : α → α → Bool} (hq : ∀ x y,q x y = true → x = y) : ∀ (l : List α) (p x : α),x ∈ l → x = p ∨ x ∈ cmpctFrom q p l
  | [],_,x,hx=>by simp at hx
  | y :: r,p,x,hx=>by
    unfold cmpctFrom
    cases h : q y p with
    | true=>
      have e:=hq _ _ h
      subst e
      rcases List.mem_cons.1 hx with e | e
      · exact .inl e
      · exact cmpct_all hq r y x e
    | false=>
      rcases List.mem_cons.1 hx with e | e
      · subst e; exact .inr (by simp)
      · rcases cmpct_all hq r y x e with e | e
        · subst e; exact .inr (by simp)
        · exact .inr (by simp [e])
theorem compact_all {q : α → α → Bool} (hq : ∀ x y,q x y = true → x = y) : ∀ {l : List α} {x : α},x ∈ l → x ∈ compactL q l
  | y :: r,x,hx=>by
    rcases List.mem_cons.1 hx with e | e
    · subst e; simp [compactL]
    · rcases cmpct_all hq r y x e with e | e
      · subst e; simp [compactL]
      · simp [compactL,e]
theorem cmpct_adj {q : α → α → Bool} (hq : ∀ x y,q x y = true ↔ x = y) : ∀ (l : List α) (p : α) (i : Nat) (h : i + 1 < (p :: cmpctFrom q p l).length),(p :: cmpctFrom q p l)[i] ≠ (p :: cmpctFrom q p l)[i + 1]
  | [],p,i,h=>by simp [cmpctFrom] at h
  | x :: r,p,i,h=>by
    cases hx : q x p with
    | true=>
      have e:=(hq _ _).1 hx
      subst e
      have e2 : cmpctFrom q x (x :: r) = cmpctFrom q x r:=by rw [cmpctFrom]; rw [hx]; rfl
      simp only [e2] at h ⊢
      exact cmpct_adj hq r x i h
    | false=>
      have e2 : cmpctFrom q p (x :: r) = x :: cmpctFrom q x r:=by rw [cmpctFrom]; rw [hx]; rfl
      simp only [e2] at h ⊢
      cases i with
      | zero=>
        simp only [List.getElem_cons_zero,List.getElem_cons_succ]
        intro e
        rw [(hq _ _).2 e.symm] at hx
        cases hx
      | succ i=>
        simp only [List.getElem_cons_succ]
        exact cmpct_adj hq r x i (by simpa using h)
theorem compact_adj {q : α → α → Bool} (hq : ∀ x y,q x y = true ↔ x = y) : ∀ (l : List α) (i : Nat) (h : i + 1 < (compactL q l).length),(compactL q l)[i] ≠ (compactL q l)[i + 1]
  | [],i,h=>by simp [compactL] at h
  | x :: r,i,h=>cmpct_adj hq r x i h
variable {c : α → α → Int} {q : α → α → Bool} {a b : List α}
theorem adj_strict (o : Ordr c) {l : List α} (hle : l.Pairwise fun x y=>c x y ≤ 0) (hadj : ∀ i (h : i + 1 < l.length),c l[i + 1] l[i] ≠ 0) : Strict c l:=by
  rw [List.pairwise_iff_getElem] at hle
  unfold Strict
  rw [List.pairwise_iff_getElem]
  intro i j hi hj hij
  have h1 : c l[i] l[i + 1] < 0:=by
    have:=hle i (i + 1) hi (by omega) (by omega)
    have h2:=hadj i (by omega)
    have:=o.neg l[i] l[i + 1]
    omega
  rcases Nat.lt_or_ge (i + 1) j with h | h
  · exact o.lt_le h1 (hle (i + 1) j (by omega) hj h)
  · have e : j = i + 1 := by omega
    subst e
    exact h1
theorem strict_isort (o : Ordr c) {l : List α} (hl : l.Pairwise fun x y=>c x y ≠ 0) : Strict c (isort (ltO c) l):=by
  have h1:=isort_sorted o.weak l
  have h2 : (isort (ltO c) l).Pairwise fun x y=>c x y ≠ 0:=((isort_perm (ltO c) l).pairwise_iff (fun {x y} h=>by have:=o.neg x y; omega)).2 hl
  refine (h1.and h2).imp fun {x y} h=>?_
  have:=h.1
  simp only [ltO,decide_eq_false_iff_not] at this
  have h3:=o.neg x y
  have:=h.2
  omega
end Go.Am
end
section
/- Records alike; copies; bins. -/
open Go
set_option linter.unusedSimpArgs false
namespace Go.Am
variable {h : Heap} {K : Post}
def sameR (a b : Rec) : Bool:=decide (a.unit = b.unit) && (decide (a.time = b.time) && (decide (a.site = b.site) && decide (a.res = b.res)))
theorem sameR_iff (a b : Rec) : sameR a b = true ↔ a = b:=by
  cases a; cases b
  simp [sameR]
theorem s_CloneR (l : List Rec) (hl : l.length ≤ 1000000) : ACall X f_q051 [ARec l] h K = K (.own h.length l.length 0 l.length) (h ++ [.row (some 4) (l.map Rec.pv) 0]) []:=by
  refine rule ?_
  rw [c_q051 rfl]
  simp only [d_q051]
  refine ⟨_,_,_,⟨rfl,rfl,rfl⟩,?_⟩
  cases l with
  | nil=>
    simp only [AL,ARec,List.map_nil,List.length_nil,go_sem]
    exact List.take_of_length_le (by simp)
  | cons x r=>
    have hm : r.length + 1 ≤ maxSl:=by simp only [List.length_cons] at hl; unfold maxSl; omega
    simp only [AL,ARec,List.map_cons,List.length_cons,go_sem,hm]
    exact List.take_of_length_le (by simp)
end Go.Am
end
section
/- Lengths of numbers in bits,and comparisons of plain values. -/
open Go
namespace Go.Am
variable {h : Heap} {K : Post}
set_option maxRecDepth 20000
theorem tab_get (k : Nat) (hk : k < 256) : ∃ b,([0,1,2,2,3,3,3,3,4,4,4,4,4,4,4,4,5,5,5,5,5,5,5,5,5,5,5,5,5,5,5,5,6,6,6,6,6,6,6,6,6,6,6,6,6,6,6,6,6,6,6,6,6,6,6,6,6,6,6,6,6,6,6,6,7,7,7,7,7,7,7,7,7,7,7,7,7,7,7,7,7,7,7,7,7,7,7,7,7,7,7,7,7,7,7,7,7,7,7,7,7,7,7,7,7,7,7,7,7,7,7,7,7,7,7,7,7,7,7,7,7,7,7,7,7,7,7,7,8,8,8,8,8,8,8,8,8,8,8,8,8,8,8,8,8,8,8,8,8,8,8,8,8,8,8,8,8,8,8,8,8,8,8,8,8,8,8,8,8,8,8,8,8,8,8,8,8,8,8,8,8,8,8,8,8,8,8,8,8,8,8,8,8,8,8,8,8,8,8,8,8,8,8,8,8,8,8,8,8,8,8,8,8,8,8,8,8,8,8,8,8,8,8,8,8,8,8,8,8,8,8,8,8,8,8,8,8,8,8,8,8,8,8,8,8,8,8,8,8,8,8,8,8,8,8,8] : List UInt8)[k]? = some b:=⟨_,List.getElem?_eq_getElem (Nat.lt_of_lt_of_eq hk (by kernel_rfl))⟩
theorem len_any (x : Int) (h0 : 0 ≤ x) (h1 : x < 256) : ∃ m : Int,∀ (h : Heap) (K : Post),ACall X f_q039 [AU x] h K = K (AI m) h []:=by
  obtain ⟨b,hb⟩:=tab_get x.toNat (by omega)
  refine ⟨IntKind.i64.wrap (0 + IntKind.i64.wrap b.toNat),fun h K=>?_⟩
  have w : IntKind.u8.wrap x = x:=by simp [IntKind.wrap,IntKind.bits,IntKind.signed]; omega
  have b1 : ¬ (4294967296 ≤ x):=by omega
  have b2 : ¬ (65536 ≤ x):=by omega
  have b3 : ¬ (256 ≤ x):=by omega
  have hn:=natOf_int (k:=.u8) h0
  have key : ∀ (h : Heap) (K : Post),ACall X f_q03b [AU x] h K = K (AI (IntKind.i64.wrap (0 + IntKind.i64.wrap b.toNat))) h []:=by
    intro h K
    refine rule ?_
    rw [c_q03b rfl]
    simp only [d_q03b,go_sem,b1,b2,b3,w,hn,hb]
  refine rule ?_
  rw [c_q039 rfl]
  simp only [d_q039,go_sem,key]
end Go.Am
end
section
/- Sorting numbers: printed by program. -/
open Go
set_option linter.unusedSimpArgs false
namespace Go.Am
attribute [-go_sem] PV.cells splice
variable {h : Heap} {K : Post}
end Go.Am
end
section
/- Bins,both ways; lists joined; records sorted. -/
open Go
set_option linter.unusedSimpArgs false
namespace Go.Am
variable {h : Heap} {K : Post}
theorem failIdx_cases (l : List Lim) (res : List Int) : (failIdx l res = -1 ∧ ∀ b ∈ goods l res,b = true) ∨ ∃ k : Nat,failIdx l res = k ∧ k < (goods l res).length ∧ (goods l res)[k]? = some false:=by
  unfold failIdx
  split
  · rename_i hlt
    refine .inr ⟨_,rfl,hlt,?_⟩
    have:=List.findIdx_getElem (w:=hlt)
    rw [List.getElem?_eq_getElem hlt]
    simpa using this
  · rename_i hlt
    refine .inl ⟨rfl,fun b hb=>?_⟩
    have hge : (goods l res).length ≤ (goods l res).findIdx fun b=>!b:=by omega
    have:=List.findIdx_eq_length.1 (Nat.le_antisymm List.findIdx_le_length hge) b hb
    simpa using this
theorem formB_len {l : List Lim} {res : List Int} (hf : formB l res = true) : 1 ≤ res.length ∧ res.length ≤ l.length:=by
  unfold formB inB at hf
  simp only [Bool.and_eq_true,decide_eq_true_eq] at hf
  omega
theorem fails_eq {l : List Lim} {res : List Int} (hf : formB l res = true) (h1 : res.length - 1 < l.length) (h2 : res.length - 1 < res.length) : (if good l[res.length - 1] res[res.length - 1] then (-1 : Int) else (res.length : Int) - 1) = failIdx l res:=by
  have hl:=formB_len hf
  have gg:=goods_get (l:=l) (res:=res) h1 h2
  have gl:=goods_len (l:=l) (res:=res) hl.2
  rcases failIdx_cases l res with ⟨e,ha⟩ | ⟨k,e,hk,hg⟩
  · rw [e]
    have:=ha _ (List.mem_of_getElem? gg)
    rw [this]; rfl
  · unfold formB at hf
    rw [e] at hf ⊢
    have ek : k = res.length - 1:=by
      simp only [Bool.and_eq_true,Bool.not_eq_true',Bool.and_eq_false_iff,decide_eq_false_iff_not] at hf
      have:=hf.1.2
      rcases this with h | h
      · exact absurd (by omega) h
      · simp at h; omega
    subst ek
    rw [gg] at hg
    simp only [Option.some.injEq] at hg
    rw [hg]
    simp
    omega
def binV (l : List Lim) (f : Int) : Int:=if 0 ≤ f then (l.getD f.toNat ⟨[],0,0,0⟩).bin else 1
theorem s_failsF (l : List Lim) (r : Rec) (hf : formB l r.res = true) (hn : l.length ≤ 1000) : ACall X f_q02o [ALim l,.p r.pv] h K = K (AI (failIdx l r.res)) h []:=by
  have hl:=formB_len hf
  rw [s_fails l r hl.1 hl.2 hn,fails_eq hf]
theorem s_binOf (l : List Lim) (r : Rec) (hf : formB l r.res = true) (hn : l.length ≤ 1000) : ACall X f_q02h [ALim l,.p r.pv] h K = K (AI (binV l (failIdx l r.res))) h []:=by
  refine rule ?_
  rw [c_q02h rfl]
  have q:=fun h K=>s_failsF (h:=h) (K:=K) l r hf hn
  have hl:=formB_len hf
  simp only [Rec.pv] at q
  rcases failIdx_cases l r.res with ⟨e,_⟩ | ⟨k,e,hk,_⟩
  · rw [e] at q ⊢
    simp only [d_q02h,Rec.pv,go_sem,↓q,q]
    rfl
  · rw [e] at q ⊢
    have hkl : k < l.length:=by rw [goods_len hl.2] at hk; omega
    have g1:=map_get Lim.pv hkl
    have b1 : (0 : Int) ≤ (k : Int):=by omega
    simp only [d_q02h,Rec.pv,go_sem,↓q,q,b1,hkl,g1,Lim.pv]
    unfold binV
    rw [if_pos b1,Int.toNat_natCast,List.getD_eq_getElem?_getD,List.getElem?_eq_getElem hkl]
    rfl
theorem recFault_form {l : List Lim} {r : Rec} (hf : recFault l r = 0) : formB l r.res = true:=by
  unfold recFault at hf
  cases h : formB l r.res with
  | true=>rfl
  | false=>
    rw [h] at hf
    split at hf
    · omega
    · split at hf
      · omega
      · split at hf
        · omega
        · simp at hf
theorem s_BinOf (l : List Lim) (r : Rec) (hl : LimOk l) (hr : RecOk r) : ACall X f_q04a [ALim l,.p r.pv] h K = K (.tup [AI (binV l (failIdx l r.res)),AI (failIdx l r.res)]) h []:=by
  refine rule ?_
  rw [c_q04a rfl]
  have q:=fun h K=>s_refFails (h:=h) (K:=K) l r.res hl.n hr.n
  rcases failIdx_cases l r.res with ⟨e,_⟩ | ⟨k,e,hk,_⟩
  · rw [e] at q ⊢
    simp only [d_q04a,Rec.pv,go_sem,↓q,q]
    rfl
  · rw [e] at q ⊢
    have hkl : k < l.length:=by
      have : (goods l r.res).length ≤ l.length:=by simp [goods]; omega
      omega
    have g1:=map_get Lim.pv hkl
    have b1 : (0 : Int) ≤ (k : Int):=by omega
    simp only [d_q04a,Rec.pv,go_sem,↓q,q,b1,hkl,g1,Lim.pv]
    unfold binV
    rw [if_pos b1,Int.toNat_natCast,List.getD_eq_getElem?_getD,List.getElem?_eq_getElem hkl]
    rfl
theorem SortFunc_Record (id : Nat) (l : List PV) (hs : shps (some 4) l) (hl : l.length ≤ 12) (hh : h[id]? = some (.row (some 4) l 0)) {g : Nat} {caps : List AV} {c : PV → PV → Int} (hc : Cmps g caps c l id h) :
    ACall X f_q05r [.own id l.length 0 l.length,.fn g caps] h K = K (.tup []) (h.set id (.row (some 4) (isort (ltC c) l) 0)) []:=by
  refine rule ?_
  rw [c_q05r]
  have w0 : IntKind.u64.wrap (l.length : Int) = l.length:=u64_wrap _ (by omega) (by omega)
  obtain ⟨m,hm⟩:=len_any (l.length : Int) (by omega) (by omega)
  have is:=fun K=>insCmp_api_Record (h:=h) (K:=K) id l.length l [] rfl hs (by omega) (by rw [List.append_nil]; exact hh) hc
  simp only [List.append_nil] at is
  have key : ∀ K : Post,ACall X f_q06s [.own id l.length 0 l.length,AI 0,AI l.length,AI m,.fn g caps] h K = K (.tup []) (h.set id (.row (some 4) (isort (ltC c) l) 0)) []:=by
    intro K
    refine rule ?_
    rw [c_q06s]
    simp only [d_q06s,go_sem]
    refine N_loop (fun _ : Unit=>⟨[(0,.own id l.length 0 l.length),(1,AI 0),(2,AI l.length),(3,AI m),(4,.fn g caps),(10,AB true),(11,AB true)],h,[]⟩) (fun _=>True) (fun _=>0) () rfl trivial ?_
    intro _ _
    have w1 : IntKind.i64.wrap ((l.length : Int) - 0) = l.length:=by rw [i64_wrap _ (by omega) (by omega)]; omega
    have b1 : ((l.length : Int) ≤ 12):=by omega
    simp only [go_sem,w1,b1,is]
  simp only [d_q05r,go_sem,w0,hm,key]
end Go.Am
end
section
/- Lists of records joined,compared,merged. -/
open Go
set_option linter.unusedSimpArgs false
namespace Go.Am
variable {h : Heap} {K : Post}
instance : DecidableEq Rec:=fun a b=>decidable_of_iff (sameR a b = true) (sameR_iff a b)
end Go.Am
end
section
/- Records merged asv the reference does it. -/
open Go
set_option linter.unusedSimpArgs false
namespace Go.Am
variable {h : Heap} {K : Post}
theorem cmpL_le_trans {a b c : List UInt8} (h1 : cmpL a b ≤ 0) (h2 : cmpL b c ≤ 0) : cmpL a c ≤ 0:=by
  by_cases e1 : cmpL a b = 0
  · rw [cmpL_eq e1]; exact h2
  · by_cases e2 : cmpL b c = 0
    · rw [← cmpL_eq e2]; exact h1
    · have := cmpL_trans (a := a) (b := b) (c := c) (by omega) (by omega)
      omega
end Go.Am
end
