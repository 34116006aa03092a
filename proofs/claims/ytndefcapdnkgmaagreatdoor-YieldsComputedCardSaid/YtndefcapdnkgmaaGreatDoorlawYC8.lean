/- Texts of the proof, laid together: PFin, PCnt, SpDel, PTight, SpVal, SpMap, SpFin, SpStrs, SpDelR, SpUni, SpCnt, PThr, SpThr, SpDelT, SpRcv, SpThr2. -/
import Derived.Test.YtndefcapdnkgmaaGreatDoorlawYC7
set_option linter.all false
section
/- Retests: which record of a unit counts. Plain lists; both ways yield the same. -/
set_option linter.all false
namespace Go.Am
def badR (l : List Lim) (r : Rec) : Bool:=decide (0 ≤ failIdx l r.res)
def updR (l : List Lim) (rule : Int) (o x : Rec) : Rec:=if rule = 2 ∨ rule = 3 ∧ badR l o = true then x else o
def posU (u : List UInt8) (out : List Rec) : Nat:=out.findIdx fun o=>decide (o.unit = u)
def putR (l : List Lim) (rule : Int) (out : List Rec) (x : Rec) : List Rec:=
  if h : posU x.unit out < out.length then out.set (posU x.unit out) (updR l rule (out[posU x.unit out]) x) else out ++ [x]
def finL0 (l : List Lim) (rule : Int) (r : List Rec) : List Rec:=r.foldl (putR l rule) []
def unitC (a b : Rec) : Int:=cmpL a.unit b.unit
def finL (l : List Lim) (rule : Int) (r : List Rec) : List Rec:=isort (ltO unitC) (finL0 l rule r)
def ltS (a b : List UInt8) : Bool:=decide (cmpL a b < 0)
def unitsL (r : List Rec) : List (List UInt8):=compactL (fun a b=>decide (a = b)) (isort ltS (r.map Rec.unit))
def ofU (r : List Rec) (u : List UInt8) : List Rec:=r.filter fun x=>decide (x.unit = u)
def rec0 : Rec:=⟨[],0,[],[]⟩
def cntL (l : List Lim) (rule : Int) (f : List Rec) : Rec:=
  if rule = 1 then f.headD rec0 else if f.findIdx (fun x=>!badR l x) < f.length ∧ rule = 3 then f.getD (f.findIdx fun x=>!badR l x) rec0 else f.getLastD rec0
def cntO (l : List Lim) (rule : Int) : Option Rec → List Rec → Option Rec
  | o,[]=>o
  | none,x :: r=>cntO l rule (some x) r
  | some y,x :: r=>cntO l rule (some (updR l rule y x)) r
theorem cntO_some (l : List Lim) (rule : Int) : ∀ (f : List Rec) (y : Rec),cntO l rule (some y) f = some (f.foldl (updR l rule) y)
  | [],y=>rfl
  | x :: r,y=>by unfold cntO; rw [cntO_some l rule r]; rfl
theorem cntO_snoc (l : List Lim) (rule : Int) (x : Rec) : ∀ (f : List Rec) (o : Option Rec),cntO l rule o (f ++ [x]) = some (match cntO l rule o f with | none=>x | some y=>updR l rule y x)
  | [],none=>rfl
  | [],some y=>rfl
  | z :: f,none=>by simp only [List.cons_append,cntO]; exact cntO_snoc l rule x f _
  | z :: f,some y=>by simp only [List.cons_append,cntO]; exact cntO_snoc l rule x f _
theorem fold1 (l : List Lim) : ∀ (f : List Rec) (y : Rec),f.foldl (updR l 1) y = y
  | [],y=>rfl
  | x :: r,y=>by simp only [List.foldl_cons]; rw [fold1 l r]; simp [updR]
theorem fold2 (l : List Lim) : ∀ (f : List Rec) (y : Rec),f.foldl (updR l 2) y = f.getLastD y
  | [],y=>rfl
  | x :: r,y=>by
    simp only [List.foldl_cons]; rw [fold2 l r]
    have : updR l 2 y x = x:=by simp [updR]
    rw [this]; cases r <;> simp [List.getLastD]
theorem fold3g (l : List Lim) : ∀ (f : List Rec) (y : Rec),badR l y = false → f.foldl (updR l 3) y = y
  | [],y,_=>rfl
  | x :: r,y,h=>by
    simp only [List.foldl_cons]
    have : updR l 3 y x = y:=by simp [updR,h]
    rw [this]; exact fold3g l r y h
theorem fold3b (l : List Lim) : ∀ (f : List Rec) (y : Rec),some (f.foldl (updR l 3) y) = some (cntL l 3 (y :: f))
  | [],y=>by
    unfold cntL
    cases hb : badR l y <;> simp [hb,List.findIdx_cons]
  | x :: r,y=>by
    cases hb : badR l y with
    | false=>
      rw [fold3g l _ y hb]
      unfold cntL
      simp [hb,List.findIdx_cons]
    | true=>
      simp only [List.foldl_cons]
      have : updR l 3 y x = x:=by simp [updR,hb]
      rw [this,fold3b l r x]
      unfold cntL
      have e : (y :: x :: r).findIdx (fun x=>!badR l x) = (x :: r).findIdx (fun x=>!badR l x) + 1:=by
        rw [List.findIdx_cons]; simp [hb]
      rw [e]
      simp only [List.length_cons,Nat.add_lt_add_iff_right,List.getD_cons_succ]
      have : (y :: x :: r).getLastD rec0 = (x :: r).getLastD rec0:=by simp [List.getLastD]
      rw [this]
      rfl
theorem cntO_cntL (l : List Lim) {rule : Int} (hr : 1 ≤ rule ∧ rule ≤ 3) : ∀ {f : List Rec},f ≠ [] → cntO l rule none f = some (cntL l rule f)
  | [],h=>absurd rfl h
  | y :: f,_=>by
    show cntO l rule (some y) f = _
    rw [cntO_some]
    rcases (by omega : rule = 1 ∨ rule = 2 ∨ rule = 3) with h | h | h
    · subst h; rw [fold1]; rfl
    · subst h; rw [fold2]
      unfold cntL
      simp [List.getLastD]
      cases f <;> simp
    · subst h; exact fold3b l f y
structure FinI (l : List Lim) (rule : Int) (p out : List Rec) : Prop where
  nd : out.Pairwise fun a b=>a.unit ≠ b.unit
  val : ∀ o ∈ out,cntO l rule none (ofU p o.unit) = some o
  all : ∀ x ∈ p,∃ o ∈ out,o.unit = x.unit
  sub : ∀ o ∈ out,∃ x ∈ p,x.unit = o.unit
  le : out.length ≤ p.length
  mem : ∀ o ∈ out,o ∈ p
theorem posU_lt {u : List UInt8} {out : List Rec} : posU u out < out.length ↔ ∃ o ∈ out,o.unit = u:=by
  unfold posU
  rw [List.findIdx_lt_length]
  simp
theorem posU_get {u : List UInt8} {out : List Rec} (h : posU u out < out.length) : (out[posU u out]).unit = u:=by
  have:=List.findIdx_getElem (p:=fun o : Rec=>decide (o.unit = u)) (xs:=out) (w:=h)
  exact of_decide_eq_true this
theorem updR_unit {l : List Lim} {rule : Int} {o x : Rec} (h : o.unit = x.unit) : (updR l rule o x).unit = x.unit:=by
  unfold updR; split <;> simp [h]
theorem updR_or {l : List Lim} {rule : Int} {o x : Rec} : updR l rule o x = x ∨ updR l rule o x = o:=by
  unfold updR; split <;> simp
theorem putR_units {l : List Lim} {rule : Int} {out : List Rec} {x : Rec} : (putR l rule out x).map Rec.unit = if posU x.unit out < out.length then out.map Rec.unit else out.map Rec.unit ++ [x.unit]:=by
  unfold putR
  split
  · rename_i h
    rw [List.map_set,updR_unit (posU_get h)]
    apply List.ext_getElem?
    intro i
    rw [List.getElem?_set]
    split
    · rename_i e
      subst e
      simp [h,posU_get h]
    · rfl
  · simp
theorem ofU_snoc (p : List Rec) (x : Rec) (u : List UInt8) : ofU (p ++ [x]) u = if x.unit = u then ofU p u ++ [x] else ofU p u:=by
  unfold ofU
  rw [List.filter_append]
  by_cases h : x.unit = u <;> simp [h]
theorem finI_step {l : List Lim} {rule : Int} {p out : List Rec} (I : FinI l rule p out) (x : Rec) : FinI l rule (p ++ [x]) (putR l rule out x):=by
  have hu:=putR_units (l:=l) (rule:=rule) (out:=out) (x:=x)
  have mU : ∀ u,(∃ o ∈ putR l rule out x,o.unit = u) ↔ u = x.unit ∨ ∃ o ∈ out,o.unit = u:=by
    intro u
    have h1 : (∃ o ∈ putR l rule out x,o.unit = u) ↔ u ∈ (putR l rule out x).map Rec.unit:=by simp
    have h2 : (∃ o ∈ out,o.unit = u) ↔ u ∈ out.map Rec.unit:=by simp
    rw [h1,h2,hu]
    split
    · rename_i h
      obtain ⟨o,ho,e⟩:=posU_lt.1 h
      constructor
      · intro h; exact .inr h
      · rintro (h | h)
        · rw [h]; exact List.mem_map.2 ⟨o,ho,e⟩
        · exact h
    · simp [or_comm]
  refine ⟨?_,?_,?_,?_,?_,?_⟩
  · have : (out.map Rec.unit).Pairwise (· ≠ ·) := List.pairwise_map.2 I.nd
    suffices hs : ((putR l rule out x).map Rec.unit).Pairwise (· ≠ ·) from List.pairwise_map.1 hs
    rw [hu]
    split
    · exact this
    · rename_i h
      rw [List.pairwise_append]
      refine ⟨this,by simp,fun a ha b hb=>?_⟩
      rw [List.mem_singleton] at hb
      subst hb
      intro e
      obtain ⟨o,ho,e2⟩:=List.mem_map.1 ha
      exact h (posU_lt.2 ⟨o,ho,by rw [e2,e]⟩)
  · intro o ho
    unfold putR at ho
    split at ho
    · rename_i h
      obtain ⟨i,hi,e⟩:=List.mem_iff_getElem.1 ho
      rw [List.getElem_set] at e
      split at e
      · have eu : o.unit = x.unit := by rw [← e]; exact updR_unit (posU_get h)
        rw [ofU_snoc,if_pos eu.symm,cntO_snoc]
        have h9:=I.val _ (List.getElem_mem h)
        have hpg:=posU_get h
        generalize out[posU x.unit out] = z at *
        rw [hpg,← eu] at h9
        rw [h9,← e]
      · have ho2 : o ∈ out := by rw [← e]; exact List.getElem_mem _
        have hne : ¬ x.unit = o.unit:=by
          intro eu
          rename_i hni
          have q:=List.pairwise_iff_getElem.1 I.nd
          simp only [List.length_set] at hi
          rcases Nat.lt_or_ge i (posU x.unit out) with h3 | h3
          · exact q i _ hi h h3 (by rw [posU_get h,e,eu])
          · exact q _ i h hi (by omega) (by rw [posU_get h,e,eu])
        rw [ofU_snoc,if_neg hne]
        exact I.val o ho2
    · rename_i h
      rcases List.mem_append.1 ho with ho | ho
      · have hne : ¬ x.unit = o.unit := fun eu => h (posU_lt.2 ⟨o, ho, eu.symm⟩)
        rw [ofU_snoc,if_neg hne]
        exact I.val o ho
      · rw [List.mem_singleton] at ho
        subst ho
        rw [ofU_snoc,if_pos rfl,cntO_snoc]
        have : ofU p o.unit = []:=by
          unfold ofU
          rw [List.filter_eq_nil_iff]
          intro z hz
          simp only [decide_eq_true_eq]
          intro e
          obtain ⟨o',ho',e'⟩:=I.all z hz
          exact h (posU_lt.2 ⟨o',ho',by rw [e',e]⟩)
        rw [this]; rfl
  · intro z hz
    rw [mU]
    rcases List.mem_append.1 hz with hz | hz
    · exact .inr (I.all z hz)
    · rw [List.mem_singleton] at hz; subst hz; exact .inl rfl
  · intro o ho
    rcases (mU o.unit).1 ⟨o,ho,rfl⟩ with h | ⟨o',ho',e⟩
    · exact ⟨x,by simp,h.symm⟩
    · obtain ⟨z, hz, e2⟩ := I.sub o' ho'
      exact ⟨z,by simp [hz],by rw [e2,e]⟩
  · have := I.le
    unfold putR
    split <;> simp <;> omega
  · intro o ho
    unfold putR at ho
    split at ho
    · rename_i h
      rcases List.mem_or_eq_of_mem_set ho with ho | ho
      · exact List.mem_append_left _ (I.mem o ho)
      · rcases updR_or (l := l) (rule := rule) (o := out[posU x.unit out]) (x := x) with e | e
        · rw [ho,e]; simp
        · rw [ho,e]; exact List.mem_append_left _ (I.mem _ (List.getElem_mem h))
    · rcases List.mem_append.1 ho with ho | ho
      · exact List.mem_append_left _ (I.mem o ho)
      · exact List.mem_append_right _ ho
theorem finI_nil (l : List Lim) (rule : Int) : FinI l rule [] []:=⟨.nil,by simp,by simp,by simp,by simp,by simp⟩
theorem finI_all (l : List Lim) (rule : Int) : ∀ (q p out : List Rec),FinI l rule p out → FinI l rule (p ++ q) (q.foldl (putR l rule) out)
  | [],p,out,I=>by simpa using I
  | x :: q,p,out,I=>by
    have:=finI_all l rule q (p ++ [x]) (putR l rule out x) (finI_step I x)
    simpa using this
theorem finI (l : List Lim) (rule : Int) (r : List Rec) : FinI l rule r (finL0 l rule r):=by
  have:=finI_all l rule r [] [] (finI_nil l rule)
  simpa [finL0] using this
theorem ordS : Ordr cmpL:=⟨fun a b=>cmpL_neg a b,fun a b d h1 h2=>cmpL_le_trans h1 h2⟩
theorem ordU : Ordr unitC:=⟨fun a b=>cmpL_neg a.unit b.unit,fun a b d h1 h2=>cmpL_le_trans h1 h2⟩
theorem ltS_eq : ltS = ltO cmpL:=rfl
theorem units_strict (r : List Rec) : Strict cmpL (unitsL r):=by
  unfold unitsL
  rw [ltS_eq]
  have hq : ∀ x y : List UInt8,(fun a b=>decide (a = b)) x y = true ↔ x = y:=fun x y=>by simp
  refine adj_strict ordS ?_ fun i h=>?_
  · refine (List.Pairwise.sublist (compact_sub _ _) (isort_sorted ordS.weak _)).imp fun {x y} h => ?_
    simp only [ltO,decide_eq_false_iff_not] at h
    have:=ordS.neg x y
    omega
  · intro hc
    exact compact_adj hq _ i h (cmpL_eq hc).symm
theorem units_mem {r : List Rec} {u : List UInt8} : u ∈ unitsL r ↔ ∃ x ∈ r,x.unit = u:=by
  unfold unitsL
  constructor
  · intro h
    have:=isort_mem.1 (compactL_mem h)
    simpa using this
  · intro h
    exact compact_all (fun x y h=>by simpa using h) (isort_mem.2 (by simpa using h))
theorem finL_units (l : List Lim) (rule : Int) (r : List Rec) : (finL l rule r).map Rec.unit = unitsL r:=by
  have I:=finI l rule r
  have hs : Strict unitC (finL l rule r):=by
    refine strict_isort ordU (I.nd.imp fun {a b} h=>?_)
    intro hc
    exact h (cmpL_eq hc)
  refine strict_ext ordS (List.pairwise_map.2 hs) (units_strict r) fun u=>?_
  rw [units_mem,List.mem_map]
  constructor
  · rintro ⟨o, ho, e⟩
    obtain ⟨x,hx,e2⟩:=I.sub o (isort_mem.1 ho)
    exact ⟨x,hx,by rw [e2,e]⟩
  · rintro ⟨x, hx, e⟩
    obtain ⟨o,ho,e2⟩:=I.all x hx
    exact ⟨o,isort_mem.2 ho,by rw [e2,e]⟩
theorem finL_val {l : List Lim} {rule : Int} (hr : 1 ≤ rule ∧ rule ≤ 3) {r : List Rec} {o : Rec} (ho : o ∈ finL l rule r) : o = cntL l rule (ofU r o.unit):=by
  have I:=finI l rule r
  have h1:=I.val o (isort_mem.1 ho)
  have hne : ofU r o.unit ≠ []:=by
    intro e; rw [e] at h1; cases h1
  rw [cntO_cntL l hr hne] at h1
  exact (Option.some.inj h1).symm
theorem finL_len (l : List Lim) (rule : Int) (r : List Rec) : (finL l rule r).length ≤ r.length:=by
  unfold finL; rw [isort_len]; exact (finI l rule r).le
theorem finL_mem {l : List Lim} {rule : Int} {r : List Rec} {o : Rec} (h : o ∈ finL l rule r) : o ∈ r:=(finI l rule r).mem o (isort_mem.1 h)
theorem cntL_mem {l : List Lim} {rule : Int} {f : List Rec} (h : f ≠ []) : cntL l rule f ∈ f:=by
  unfold cntL
  split
  · cases f with
    | nil=>exact absurd rfl h
    | cons x r=>simp
  · split
    · rename_i hh
      rw [List.getD_eq_getElem?_getD,List.getElem?_eq_getElem hh.1]
      simp
    · rw [List.getLastD_eq_getLast?, List.getLast?_eq_some_getLast h]
      simp
theorem ofU_mem {r : List Rec} {u : List UInt8} {x : Rec} : x ∈ ofU r u ↔ x ∈ r ∧ x.unit = u:=by simp [ofU]
theorem ofU_ne {r : List Rec} {u : List UInt8} (h : u ∈ unitsL r) : ofU r u ≠ []:=by
  obtain ⟨x,hx,e⟩:=units_mem.1 h
  intro h2
  have : x ∈ ofU r u:=ofU_mem.2 ⟨hx,e⟩
  rw [h2] at this
  exact absurd this (by simp)
theorem cnt_mem {l : List Lim} {rule : Int} {r : List Rec} {u : List UInt8} (h : u ∈ unitsL r) : cntL l rule (ofU r u) ∈ r:=(ofU_mem.1 (cntL_mem (ofU_ne h))).1
end Go.Am
end
section
/- Units counted: bins,tests,recovered units,sites; both ways yield the same. Plain lists. -/
set_option linter.all false
namespace Go.Am
theorem digC_inj {a b : Nat} (ha : a < 10) (hb : b < 10) (h : digC a = digC b) : a = b:=by
  have:=congrArg UInt8.toNat h
  simp only [digC,UInt8.toNat_ofNat'] at this
  omega
theorem decN_ne (n : Nat) : decN n ≠ []:=by
  rcases Nat.lt_or_ge n 10 with h | h
  · rw [decN_lt h]; simp
  · rw [decN_ge h]; simp
theorem snoc_inj {α : Type} {a b : List α} {x y : α} (h : a ++ [x] = b ++ [y]) : a = b ∧ x = y:=by
  have h1:=congrArg List.getLast? h
  have h2:=congrArg List.dropLast h
  simp at h1 h2
  exact ⟨h2,h1⟩
theorem decN_inj : ∀ (n m : Nat),decN n = decN m → n = m:=by
  intro n
  induction n using Nat.strongRecOn with
  | _ n ih=>
    intro m h
    rcases Nat.lt_or_ge n 10 with h1 | h1 <;> rcases Nat.lt_or_ge m 10 with h2 | h2
    · rw [decN_lt h1, decN_lt h2] at h
      exact digC_inj h1 h2 (List.cons.inj h).1
    · rw [decN_lt h1, decN_ge h2] at h
      have:=snoc_inj (a:=[]) (x:=digC n) (by simpa using h)
      exact absurd this.1.symm (decN_ne _)
    · rw [decN_lt h2, decN_ge h1] at h
      have:=snoc_inj (b:=[]) (y:=digC m) (by simpa using h)
      exact absurd this.1 (decN_ne _)
    · rw [decN_ge h1, decN_ge h2] at h
      obtain ⟨e1,e2⟩:=snoc_inj h
      have:=ih (n / 10) (by omega) _ e1
      have:=digC_inj (by omega) (by omega) e2
      omega
theorem digC_ne45 {n : Nat} (h : n < 10) : digC n ≠ 45:=by
  intro e
  have:=congrArg UInt8.toNat e
  simp only [digC,UInt8.toNat_ofNat'] at this
  have h45 : (45 : UInt8).toNat = 45:=rfl
  omega
theorem decN_dig : ∀ (n : Nat),∀ c ∈ decN n,∃ k,k < 10 ∧ c = digC k:=by
  intro n
  induction n using Nat.strongRecOn with
  | _ n ih=>
    intro c hc
    rcases Nat.lt_or_ge n 10 with h1 | h1
    · rw [decN_lt h1, List.mem_singleton] at hc
      exact ⟨n,h1,hc⟩
    · rw [decN_ge h1, List.mem_append, List.mem_singleton] at hc
      rcases hc with hc | hc
      · exact ih _ (by omega) c hc
      · exact ⟨n % 10,by omega,hc⟩
theorem itoa_inj {a b : Int} (h : itoa a = itoa b) : a = b:=by
  unfold itoa at h
  have key : ∀ (n m : Nat),decN n ≠ 45 :: m.repeat id (decN m):=by
    intro n m e
    have:=decN_dig n 45 (by rw [e]; simp)
    obtain ⟨k,hk,e2⟩:=this
    exact digC_ne45 hk e2.symm
  split at h <;> split at h
  · have:=decN_inj _ _ (List.cons.inj h).2; omega
  · obtain ⟨k, hk, e2⟩ := decN_dig b.natAbs 45 (by rw [← h]; simp)
    exact absurd e2.symm (digC_ne45 hk)
  · obtain ⟨k, hk, e2⟩ := decN_dig a.natAbs 45 (by rw [h]; simp)
    exact absurd e2.symm (digC_ne45 hk)
  · have:=decN_inj _ _ h; omega
def binR (l : List Lim) (x : Rec) : Int:=binV l (failIdx l x.res)
abbrev SS:=List UInt8 × List UInt8
def finalP (l : List Lim) (rule : Int) (r : List Rec) : List SS:=(finL l rule r).map fun x=>(x.unit,itoa (binR l x))
def finalQ (l : List Lim) (rule : Int) (r : List Rec) : List SS:=(unitsL r).map fun u=>(u,itoa (binR l (cntL l rule (ofU r u))))
theorem final_eq (l : List Lim) {rule : Int} (hr : 1 ≤ rule ∧ rule ≤ 3) (r : List Rec) : finalP l rule r = finalQ l rule r:=by
  unfold finalP finalQ
  rw [← finL_units l rule r,List.map_map]
  refine List.map_congr_left fun o ho=>?_
  simp only [Function.comp]
  rw [← finL_val hr ho]
def nBin (l : List Lim) (rule : Int) (r : List Rec) (b : Int) : Nat:=(finL l rule r).countP fun x=>decide (binR l x = b)
theorem nBin_eq (l : List Lim) {rule : Int} (hr : 1 ≤ rule ∧ rule ≤ 3) (r : List Rec) (b : Int) : (finalQ l rule r).countP (fun p=>decide (p.2 = itoa b)) = nBin l rule r b:=by
  rw [← final_eq l hr r]
  unfold finalP nBin
  rw [List.countP_map]
  refine List.countP_congr fun x _=>?_
  simp only [Function.comp,decide_eq_true_eq]
  exact ⟨fun h=>itoa_inj h,fun h=>by rw [h]⟩
end Go.Am
end
section
/- Deleting values: printed by program. -/
open Go
set_option linter.unusedSimpArgs false
namespace Go.Am
attribute [-go_sem] PV.cells splice
variable {h : Heap} {K : Post}
end Go.Am
end
section
/- Plain lists: the narrowest window of a sorted list,and the narrowest of all pairs that leave few values outside. -/
namespace Go.Am
def outN (g : List Int) (u v : Int) : Nat:=g.countP fun n=>!(decide (u ≤ n) && decide (n ≤ v))
def pairsAt (g : List Int) (most : Int) (i : Nat) : List (Int × Int):=((g.drop i).map fun v=>(g.getD i 0,v)).filter fun p=>decide ((outN g p.1 p.2 : Int) ≤ most)
def pairs (g : List Int) (most : Int) : List (Int × Int):=(List.range g.length).flatMap (pairsAt g most)
end Go.Am
end
section
/- Values of a test; limits asv narrow asv can be: package lot. -/
open Go
set_option linter.unusedSimpArgs false
namespace Go.Am
variable {h : Heap} {K : Post}
def ordB (x : Rec) : Option Rec → Bool
  | some q=>decide (recCmp x q ≤ 0)
  | none=>false
theorem recsFaultFrom_cons' {l : List Lim} {p : Option Rec} {x : Rec} {r : List Rec} : recsFaultFrom l p (x :: r) = if recFault l x ≠ 0 then recFault l x else if ordB x p = true then 7 else recsFaultFrom l (some x) r:=by cases p <;> rfl
theorem recsFaultFrom_all {l : List Lim} : ∀ {r : List Rec} {p : Option Rec},recsFaultFrom l p r = 0 → ∀ x ∈ r,recFault l x = 0
  | [],_,_,x,hx=>by cases hx
  | y :: r,p,h,x,hx=>by
    rw [recsFaultFrom_cons'] at h
    by_cases h1 : recFault l y = 0
    · rw [if_neg (by simp [h1])] at h
      by_cases h2 : ordB y p = true
      · rw [if_pos h2] at h
        exact absurd h (by decide)
      · rw [if_neg h2] at h
        rcases List.mem_cons.1 hx with rfl | hx
        · exact h1
        · exact recsFaultFrom_all h x hx
    · rw [if_pos h1] at h
      exact absurd h h1
theorem recsFault_all {l : List Lim} {r : List Rec} (h : recsFault l r = 0) : ∀ x ∈ r,recFault l x = 0:=by
  unfold recsFault recsFault0 at h
  split at h
  · rename_i h1; exact absurd h h1
  · split at h
    · cases h
    · exact recsFaultFrom_all h
end Go.Am
end
section
/- Maps,asv lists of keys with values. -/
open Go
set_option linter.all false
namespace Go.Am
section
variable {α β : Type} [DecidableEq α]
def mesF (key : α → PV) (val : β → AV) : Nat → List (α × β) → List ME
  | _,[]=>[]
  | n,e :: r=>⟨key e.1,val e.2,n⟩ :: mesF key val (n + 1) r
def mobj (key : α → PV) (val : β → AV) (l : List (α × β)) : Obj:=.amap (mesF key val 0 l) l.length
def whereM (k : α) : List (α × β) → Option Nat
  | []=>none
  | e :: r=>if k = e.1 then some 0 else (whereM k r).map (· + 1)
def getM (k : α) : List (α × β) → Option β
  | []=>none
  | e :: r=>if k = e.1 then some e.2 else getM k r
def updM (k : α) (v : β) : List (α × β) → List (α × β)
  | []=>[(k,v)]
  | e :: r=>if k = e.1 then (k,v) :: r else e :: updM k v r
def KeyI (key : α → PV) : Prop:=∀ a b,PV.eqv (key a) (key b) = some (decide (a = b))
theorem keyI_str : KeyI PV.str:=fun a b=>rfl
theorem keyI_int : KeyI (fun n : Int=>PV.int .i64 n):=fun a b=>by simp [PV.eqv,PV.eq1]
theorem keyOf_str {s : List UInt8} : keyOf (none,[2]) (.p (.str s)) = some (.str s):=by simp [keyOf,PV.key,PV.shp,PV.sc,PV.cells,PV.kind]
theorem keyOf_int {n : Int} {k : IntKind} : keyOf (none,[0]) (.p (.int k n)) = some (.int k n):=by simp [keyOf,PV.key,PV.shp,PV.sc,PV.cells,PV.kind]
variable {key : α → PV} {val : β → AV}
theorem mfind_mes (hk : KeyI key) (k : α) : ∀ (l : List (α × β)) (n : Nat),mfind (key k) (mesF key val n l) = some (whereM k l)
  | [],n=>rfl
  | e :: r,n=>by
    simp only [mesF,mfind,hk k e.1,whereM]
    by_cases h : k = e.1
    · simp [h]
    · simp [h,mfind_mes hk k r (n + 1)]
theorem mes_len : ∀ (l : List (α × β)) (n : Nat),(mesF key val n l).length = l.length
  | [],n=>rfl
  | e :: r,n=>by simp [mesF,mes_len r (n + 1)]
theorem mes_get : ∀ (l : List (α × β)) (n i : Nat),(mesF key val n l)[i]? = (l[i]?).map fun e=>⟨key e.1,val e.2,n + i⟩
  | [],n,i=>rfl
  | e :: r,n,0=>rfl
  | e :: r,n,i + 1=>by simp only [mesF,List.getElem?_cons_succ,mes_get r (n + 1) i]; rw [show n + 1 + i = n + (i + 1) by omega]
theorem where_lt {k : α} : ∀ {l : List (α × β)} {i : Nat},whereM k l = some i → i < l.length
  | [],i,h=>by cases h
  | e :: r,i,h=>by
    unfold whereM at h
    split at h
    · cases h; simp
    · obtain ⟨j, hj, e2⟩ := Option.map_eq_some_iff.1 h
      have:=where_lt hj
      simp; omega
theorem where_get {k : α} : ∀ {l : List (α × β)} {i : Nat},whereM k l = some i → l[i]? = (getM k l).map fun v=>(k,v)
  | [],i,h=>by cases h
  | e :: r,i,h=>by
    unfold whereM at h
    unfold getM
    split at h
    · rename_i hk; cases h; simp [hk]
    · rename_i hk
      obtain ⟨j,hj,e2⟩:=Option.map_eq_some_iff.1 h
      subst e2
      rw [if_neg hk,List.getElem?_cons_succ]
      exact where_get hj
theorem where_none {k : α} : ∀ {l : List (α × β)},whereM k l = none → getM k l = none
  | [],h=>rfl
  | e :: r,h=>by
    unfold whereM at h
    unfold getM
    split at h
    · cases h
    · rename_i hk
      rw [if_neg hk]
      exact where_none (by simpa using h)
theorem where_some {k : α} : ∀ {l : List (α × β)} {i : Nat},whereM k l = some i → (getM k l).isSome = true
  | [],i,h=>by cases h
  | e :: r,i,h=>by
    unfold whereM at h
    unfold getM
    split at h
    · rename_i hk; simp [hk]
    · rename_i hk
      obtain ⟨j,hj,e2⟩:=Option.map_eq_some_iff.1 h
      rw [if_neg hk]
      exact where_some hj
theorem look_val {k : α} {l : List (α × β)} {n : Nat} : ((whereM k l).bind fun i=>(mesF key val n l)[i]?).map ME.val = (getM k l).map val:=by
  cases h : whereM k l with
  | none=>rw [where_none h]; rfl
  | some i=>
    simp only [Option.bind_some,mes_get,where_get h]
    cases getM k l <;> rfl
theorem upd_none {k : α} {v : β} : ∀ {l : List (α × β)},whereM k l = none → updM k v l = l ++ [(k,v)]
  | [],h=>rfl
  | e :: r,h=>by
    unfold whereM at h
    unfold updM
    split at h
    · cases h
    · rename_i hk
      rw [if_neg hk,upd_none (by simpa using h)]; rfl
theorem upd_some {k : α} {v : β} : ∀ {l : List (α × β)} {i : Nat},whereM k l = some i → updM k v l = l.set i (k,v)
  | [],i,h=>by cases h
  | e :: r,i,h=>by
    unfold whereM at h
    unfold updM
    split at h
    · rename_i hk; cases h; simp [hk]
    · rename_i hk
      obtain ⟨j,hj,e2⟩:=Option.map_eq_some_iff.1 h
      subst e2
      rw [if_neg hk,upd_some hj]; rfl
theorem mes_snoc (k : α) (v : β) : ∀ (l : List (α × β)) (n : Nat),mesF key val n (l ++ [(k,v)]) = mesF key val n l ++ [⟨key k,val v,n + l.length⟩]
  | [],n=>rfl
  | e :: r,n=>by simp only [List.cons_append,mesF,mes_snoc k v r (n + 1),List.length_cons]; rw [show n + 1 + r.length = n + (r.length + 1) by omega]
theorem mes_modify {k : α} {v : β} {l : List (α × β)} {i n : Nat} (h : whereM k l = some i) : (mesF key val n l).modify i (fun e=>{ e with val:=val v }) = mesF key val n (l.set i (k,v)):=by
  apply List.ext_getElem?
  intro j
  rw [List.getElem?_modify,mes_get,mes_get,List.getElem?_set]
  have hi:=where_lt h
  have hg:=where_get h
  by_cases hij : i = j
  · subst hij
    rw [hg]
    simp only [if_true,hi]
    obtain ⟨w,hw⟩:=Option.isSome_iff_exists.1 (where_some h)
    rw [hw]; rfl
  · simp [hij]
variable {h : Heap} {id : Nat} {l : List (α × β)} {kk : Sh × List Nat} {k : α}
theorem mget_mes (hh : h[id]? = some (mobj key val l)) : mget h (.mp id) = some (id,mesF key val 0 l,l.length):=by
  simp only [mget,hh,mobj]
theorem look_mes (hk : KeyI key) (hh : h[id]? = some (mobj key val l)) (hq : keyOf kk (.p (key k)) = some (key k)) {ok : Bool} {z : AV} :
    oLook kk ok z (.mp id) (.p (key k)) h = some (bif ok then .tup [((getM k l).map val).getD z,AV.p (.bool (getM k l).isSome)] else ((getM k l).map val).getD z):=by
  simp only [oLook,hq,mget_mes hh,Option.map_some,mfind_mes hk,look_val,Option.isSome_map]
  rfl
theorem mupd_mes (hk : KeyI key) (hh : h[id]? = some (mobj key val l)) (hq : keyOf kk (.p (key k)) = some (key k)) {v : β} (hv : okIn (val v) = true) :
    oMupd kk (.mp id) (.p (key k)) (val v) h = some (.und,h.set id (mobj key val (updM k v l)),escOf id (val v)):=by
  simp only [oMupd,hq,mget_mes hh,hv,mfind_mes hk]
  cases hw : whereM k l with
  | none=>
    simp only [mobj,upd_none hw,mes_snoc,List.length_append,List.length_cons,List.length_nil,Nat.zero_add]
  | some i=>
    simp only [mobj,upd_some hw,mes_modify hw,List.length_set]
theorem born_find {l : List (α × β)} {i : Nat} (hi : i < l.length) : (mesF key val 0 l).findIdx? (fun e=>e.born == i) = some i:=by
  rw [List.findIdx?_eq_some_iff_getElem]
  have hl:=mes_len (key:=key) (val:=val) l 0
  have hb : ∀ j (hj : j < (mesF key val 0 l).length),(mesF key val 0 l)[j].born = j:=fun j hj=>by
    have h1:=List.getElem?_eq_getElem hj
    rw [mes_get,List.getElem?_eq_getElem (by omega)] at h1
    simp only [Option.map_some,Option.some.injEq] at h1
    rw [← h1]; simp
  refine ⟨by omega,by simp [hb],fun j hj=>?_⟩
  simp [hb]; omega
theorem get_upd (k k' : α) (v : β) : ∀ (l : List (α × β)),getM k' (updM k v l) = if k' = k then some v else getM k' l
  | []=>by simp [updM,getM]
  | e :: r=>by
    unfold updM
    by_cases h1 : k = e.1
    · rw [if_pos h1]; simp only [getM]
      by_cases h2 : k' = k
      · simp [h2]
      · rw [if_neg h2,if_neg h2,if_neg (by rw [← h1]; exact h2)]
    · rw [if_neg h1]; simp only [getM, get_upd k k' v r]
      by_cases h2 : k' = e.1
      · rw [if_pos h2,if_pos h2,if_neg (by rw [h2]; exact fun h=>h1 h.symm)]
      · rw [if_neg h2,if_neg h2]
def keysM (l : List (α × β)) : List α:=l.map (·.1)
theorem keys_cons (e : α × β) (r : List (α × β)) : keysM (e :: r) = e.1 :: keysM r:=rfl
theorem keys_upd (k : α) (v : β) : ∀ (l : List (α × β)),keysM (updM k v l) = if k ∈ keysM l then keysM l else keysM l ++ [k]
  | []=>rfl
  | e :: r=>by
    unfold updM
    by_cases h1 : k = e.1
    · rw [if_pos h1]; simp [keys_cons,h1]
    · rw [if_neg h1]
      rw [keys_cons,keys_cons,keys_upd k v r]
      by_cases h2 : k ∈ keysM r
      · rw [if_pos h2,if_pos (by simp [h2])]
      · rw [if_neg h2,if_neg (by simp [h1,h2])]; rfl
theorem keys_nodup (k : α) (v : β) {l : List (α × β)} (h : (keysM l).Nodup) : (keysM (updM k v l)).Nodup:=by
  rw [keys_upd]
  split
  · exact h
  · rename_i hk
    rw [List.nodup_append]
    exact ⟨h,by simp,fun a ha b hb=>by rw [List.mem_singleton] at hb; subst hb; intro e; subst e; exact hk ha⟩
theorem get_isSome {k : α} : ∀ {l : List (α × β)},(getM k l).isSome = true ↔ k ∈ keysM l
  | []=>by simp [getM,keysM]
  | e :: r=>by
    unfold getM
    by_cases h : k = e.1
    · simp [h,keysM]
    · have := get_isSome (k := k) (l := r)
      simp only [keysM] at this
      simp [h,keysM,this]
theorem nx_mes {j m : Nat} {seen : List Nat} {K : AV → Heap → Esc → Prop} (hj : h[j]? = some (.iter (some m) l.length seen l.length)) (hm : h[m]? = some (mobj key val l))
    (hend : (∀ i,i < l.length → i ∈ seen) → K (.tup [AV.p (.bool false)]) (h.set j (.iter none 1 [] 0)) [])
    (hstep : ∀ (i : Nat) (hi : i < l.length),i ∉ seen → K (.tup [AV.p (.bool true),.p (key l[i].1),val l[i].2]) (h.set j (.iter (some m) l.length (seen ++ [i]) l.length)) []) : nxK (.it j) h K:=by
  unfold nxK mnexts
  simp only [hj,mget_mes hm,and_self,if_true]
  have hmem : ∀ e ∈ (mesF key val 0 l).filter (fun e=>!seen.contains e.born),∃ (i : Nat) (hi : i < l.length),e = ⟨key l[i].1,val l[i].2,i⟩ ∧ i ∉ seen:=by
    intro e he
    obtain ⟨h1,h2⟩:=List.mem_filter.1 he
    obtain ⟨i,hi,e2⟩:=List.mem_iff_getElem?.1 h1 |>.elim fun i hi=>by
      rw [mes_get] at hi
      obtain ⟨x,hx,e3⟩:=Option.map_eq_some_iff.1 hi
      obtain ⟨hl,e4⟩:=List.getElem?_eq_some_iff.1 hx
      exact (⟨i,hl,by rw [← e3,← e4]; simp⟩ : ∃ (i : Nat) (hi : i < l.length),e = ⟨key l[i].1,val l[i].2,i⟩)
    refine ⟨i,hi,e2,?_⟩
    rw [e2] at h2
    simpa using h2
  have hnil : (mesF key val 0 l).filter (fun e=>!seen.contains e.born) = [] → ∀ i,i < l.length → i ∈ seen:=by
    intro hf i hi
    have h1:=List.filter_eq_nil_iff.1 hf ⟨key l[i].1,val l[i].2,i⟩ (by
      apply List.mem_iff_getElem?.2
      exact ⟨i,by rw [mes_get,List.getElem?_eq_getElem hi]; simp⟩)
    simpa using h1
  generalize (mesF key val 0 l).filter (fun e=>!seen.contains e.born) = F at *
  cases F with
  | nil=>
    refine ⟨by simp,fun y hy=>?_⟩
    rw [List.mem_singleton] at hy
    subst hy
    exact hend (hnil rfl)
  | cons e F=>
    refine ⟨by simp,fun y hy=>?_⟩
    obtain ⟨e',he',rfl⟩:=List.mem_map.1 hy
    obtain ⟨i,hi,e2,h2⟩:=hmem e' he'
    subst e2
    exact hstep i hi h2
theorem mrange_mes (hh : h[id]? = some (mobj key val l)) : oMrange (.mp id) h = some (.it h.length,h ++ [.iter (some id) l.length [] l.length],[]):=by
  simp only [oMrange,mget_mes hh]
theorem mentry_mes {j m : Nat} {seen : List Nat} {i : Nat} (hj : h[j]? = some (.iter (some m) l.length (seen ++ [i]) l.length)) (hm : h[m]? = some (mobj key val l)) (hi : i < l.length) :
    oMentry (.it j) h = some (.tup [.p (key l[i].1),val l[i].2],h,[]):=by
  simp only [oMentry,hj,mget_mes hm,List.getLast?_append,List.getLast?_singleton,Option.some_or,if_true]
  have hb:=born_find (key:=key) (val:=val) hi
  have hg:=mes_get (key:=key) (val:=val) l 0 i
  rw [List.getElem?_eq_getElem hi] at hg
  have hf : (mesF key val 0 l).find? (fun e=>e.born == i) = some ⟨key l[i].1,val l[i].2,i⟩:=by
    rw [List.find?_eq_some_iff_getElem]
    rw [List.findIdx?_eq_some_iff_getElem] at hb
    obtain ⟨h1,h2,h3⟩:=hb
    refine ⟨by simp,i,h1,?_,fun j hj=>by simpa using h3 j hj⟩
    have:=List.getElem?_eq_getElem h1
    rw [hg] at this
    simpa using (Option.some.inj this).symm
  rw [hf]
  rfl
theorem seen_perm {n : Nat} {seen : List Nat} (hd : seen.Nodup) (hb : ∀ i ∈ seen,i < n) (ha : ∀ i,i < n → i ∈ seen) : seen.Perm (List.range n):=by
  rw [List.perm_ext_iff_of_nodup hd List.nodup_range]
  intro i
  rw [List.mem_range]
  exact ⟨hb i,ha i⟩
end
end Go.Am
end
section
/- Retests: which record of a unit counts,asv the program finds it. -/
open Go
set_option linter.all false
namespace Go.Am
variable {h : Heap} {K : Post}
theorem X_ex2 : X.ex2 = libF GRL PRL:=rfl
theorem s_Itoa (n : Int) (h0 : -9223372036854775808 ≤ n) (h1 : n ≤ 9223372036854775807) : ACall X f_q07r [AI n] h K = K (AS (itoa n)) h []:=by
  refine lib_call (X:=X) (by kernel_rfl) ?_
  rw [X_ex2]
  exact libF_pure (vs:=[.int .i64 n]) (by kernel_rfl) (s:=itoaS) rfl rfl (by simp [itoaS,h0,h1])
theorem s_final1 (a b : Rec) : ACall X f_q02q [.p a.pv,.p b.pv] h K = K (AI (unitC a b)) h []:=by
  refine rule ?_
  rw [c_q02q rfl]
  simp only [d_q02q,Rec.pv,go_sem,s_strCompare]
  rfl
def ruleF (ru : Int) : Int:=if 1 ≤ ru ∧ ru ≤ 3 then 0 else 4
theorem s_ruleFault (l : List Lim) (r : List Rec) (ru : Int) (hl : LimOk l) (hr : ∀ x ∈ r,RecOk x) (hn : r.length ≤ 1000000) : ACall X f_q030 [ALim l,ARec r,AI ru] h K = K (AI (orL [recsFault l r,ruleF ru])) h []:=by
  refine rule ?_
  rw [c_q030 rfl]
  have q:=fun h K=>s_CheckRecords (h:=h) (K:=K) l r hl hr hn
  by_cases h1 : recsFault l r = 0
  · by_cases h2 : 1 ≤ ru ∧ ru ≤ 3
    · have e : inB 1 ru 3 = true := by simp [inB, h2]
      simp only [d_q030,go_sem,q,h1,s_OutB,e,orL,ruleF,h2]
    · have e : inB 1 ru 3 = false := by simp only [inB]; simp; omega
      simp only [d_q030,go_sem,q,h1,s_OutB,e,orL,ruleF,h2]
  · simp only [d_q030,go_sem,q,h1,orL]
theorem s_RuleFault (ru : Int) : ACall X f_q04h [AI ru] h K = K (AI (ruleF ru)) h []:=by
  refine rule ?_
  rw [c_q04h rfl]
  by_cases h2 : 1 ≤ ru ∧ ru ≤ 3
  · have e : inB 1 ru 3 = true := by simp [inB, h2]
    simp only [d_q04h,go_sem,s_inB,e,ruleF,h2]
  · have e : inB 1 ru 3 = false := by simp only [inB]; simp; omega
    simp only [d_q04h,go_sem,s_inB,e,ruleF,h2]
def ssPv (p : SS) : PV:=.agg [.str p.1,.str p.2]
abbrev ASS (l : List SS) : AV:=.p (.sl (some 2) (l.map ssPv))
theorem s_pair (s : List UInt8) (n : Int) (h0 : -9223372036854775808 ≤ n) (h1 : n ≤ 9223372036854775807) : ACall X f_q02w [AS s,AI n] h K = K (.p (ssPv (s,itoa n))) h []:=by
  refine rule ?_
  rw [c_q02w rfl]
  have q:=fun h K=>s_Itoa (h:=h) (K:=K) n h0 h1
  simp only [d_q02w,go_sem,q]
  rfl
def unitAt (out : List Rec) : List (List UInt8 × Int):=out.zipIdx.map fun y=>(y.1.unit,(y.2 : Int))
theorem unitAt_get {u : List UInt8} : ∀ (out : List Rec) (n : Nat),getM u ((out.zipIdx n).map fun y=>(y.1.unit,(y.2 : Int))) = if posU u out < out.length then some ((n + posU u out : Nat) : Int) else none
  | [],n=>by simp [getM,posU]
  | o :: out,n=>by
    simp only [List.zipIdx_cons,List.map_cons,getM]
    by_cases hu : u = o.unit
    · have e : posU u (o :: out) = 0 := by simp [posU, List.findIdx_cons, hu]
      rw [if_pos hu,e]
      simp
    · have e : posU u (o :: out) = posU u out + 1:=by
        have : ¬ o.unit = u:=fun h=>hu h.symm
        simp [posU,List.findIdx_cons,this]
      rw [if_neg hu,unitAt_get out (n + 1),e]
      simp only [List.length_cons,Nat.add_lt_add_iff_right]
      split
      · congr 2; omega
      · rfl
theorem unitAt_get0 {u : List UInt8} (out : List Rec) : getM u (unitAt out) = if posU u out < out.length then some ((posU u out : Nat) : Int) else none:=by
  have:=unitAt_get (u:=u) out 0
  simpa [unitAt] using this
theorem unitAt_snoc {out : List Rec} {x : Rec} (h : ¬ posU x.unit out < out.length) : updM x.unit (out.length : Int) (unitAt out) = unitAt (out ++ [x]):=by
  have h1 : whereM x.unit (unitAt out) = none:=by
    cases hw : whereM x.unit (unitAt out) with
    | none=>rfl
    | some i=>
      have:=where_some hw
      rw [unitAt_get0,if_neg h] at this
      cases this
  rw [upd_none h1]
  simp [unitAt,List.zipIdx_append]
theorem unitAt_set {out : List Rec} {i : Nat} {x : Rec} (hi : i < out.length) (h : x.unit = out[i].unit) : unitAt (out.set i x) = unitAt out:=by
  apply List.ext_getElem?
  intro j
  simp only [unitAt,List.getElem?_map,List.getElem?_zipIdx,List.getElem?_set]
  by_cases hij : i = j
  · subst hij
    simp [hi,h]
  · simp [hij]
def atObj (out : List Rec) : Obj:=mobj PV.str (fun n : Int=>AI n) (unitAt out)
attribute [-go_sem] oLook oMupd
set_option maxHeartbeats 2000000 in
theorem s_final (l : List Lim) (ru : Int) (r : List Rec) (hf : ∀ x ∈ r,formB l x.res = true) (hl : l.length ≤ 1000) (hn : r.length ≤ 12) : ACall X f_q02p [ALim l,ARec r,AI ru] h K = K (ARec (finL l ru r)) h []:=by
  refine rule ?_
  rw [c_q02p rfl]
  simp only [d_q02p,go_sem]
  refine N_loop (fun k : Nat=>⟨[(0,ALim l),(2,AI ru),(7,.mp h.length),(8,.own (h.length + 1) ((r.take k).foldl (putR l ru) []).length 0 ((r.take k).foldl (putR l ru) []).length),(14,ARec r),(15,AI r.length),(16,AI k)],h ++ [atObj ((r.take k).foldl (putR l ru) []),.row (some 4) (((r.take k).foldl (putR l ru) []).map Rec.pv) 0],[]⟩)
    (fun k=>k ≤ r.length) (fun k=>r.length - k) 0 rfl (by omega) ?_
  intro k hk
  rcases Nat.lt_or_ge k r.length with hlt | hge
  · have hg := map_get Rec.pv hlt
    have cx : cutP (some 4) 0 (r[k].pv) = some r[k].pv:=rfl
    have w2 : IntKind.i64.wrap ((k : Int) + 1) = ((k + 1 : Nat) : Int):=i64_wrap _ (by omega) (by omega)
    have et : (r.take (k + 1)).foldl (putR l ru) [] = putR l ru ((r.take k).foldl (putR l ru) []) r[k]:=by
      rw [List.take_succ_eq_append_getElem hlt,List.foldl_append]; rfl
    have hI:=finI_all l ru (r.take k) [] [] (finI_nil l ru)
    simp only [List.nil_append] at hI
    have hxf:=hf _ (List.getElem_mem hlt)
    generalize (r.take k).foldl (putR l ru) [] = out at *
    generalize hx : r[k] = x at *
    have ho : out.length ≤ 12:=by have:=hI.le; simp at this; omega
    have hoff : ∀ o ∈ out,formB l o.res = true:=fun o hm=>hf o (List.mem_of_mem_take (hI.mem o hm))
    by_cases hp : posU x.unit out < out.length
    · have lk : ∀ (hp : Heap) (z : AV),hp[h.length]? = some (atObj out) → oLook (none,[2]) true z (.mp h.length) (AS x.unit) hp = some (.tup [AI (posU x.unit out),AB true]):=fun hp' z hh=>by
        have:=look_mes (val:=fun n : Int=>AI n) keyI_str hh (kk:=(none,[2])) keyOf_str (ok:=true) (z:=z) (k:=x.unit)
        rw [unitAt_get0,if_pos hp] at this
        exact this
      have hgo:=map_get Rec.pv hp
      have co : cutP (some 4) 0 (out[posU x.unit out].pv) = some out[posU x.unit out].pv:=rfl
      have fl:=fun h K=>s_failsF (h:=h) (K:=K) l out[posU x.unit out] (hoff _ (List.getElem_mem hp)) hl
      have hpu:=posU_get hp
      have epu : putR l ru out x = out.set (posU x.unit out) (updR l ru out[posU x.unit out] x):=by unfold putR; rw [dif_pos hp]
      have hun:=unitAt_set (i:=posU x.unit out) (x:=updR l ru out[posU x.unit out] x) hp (by rw [updR_unit hpu,hpu])
      have hpx : (posU x.unit out : Int) < out.length:=by omega
      have hset : ∀ y : Rec,(out.map Rec.pv).set (posU x.unit out) y.pv = (out.set (posU x.unit out) y).map Rec.pv:=fun y=>by rw [List.map_set]
      have hself : out.set (posU x.unit out) out[posU x.unit out] = out:=List.set_getElem_self hp
      have st:=shp_st (sh:=some 4) (x:=x.pv) (y:=(out[posU x.unit out]).pv) rfl rfl
      generalize posU x.unit out = p at *
      generalize hop : out[p] = o at *
      have fin : ∀ y : Rec,updR l ru o x = y → ∃ u,(⟨[(0,ALim l),(2,AI ru),(7,AV.mp h.length),(8,AV.own (h.length + 1) out.length 0 out.length),(14,ARec r),(15,AI r.length),(16,AI ((k + 1 : Nat) : Int))],h ++ [atObj out,Obj.row (some 4) ((out.set p y).map Rec.pv) 0],[]⟩ : St) =
          ⟨[(0,ALim l),(2,AI ru),(7,.mp h.length),(8,.own (h.length + 1) ((r.take u).foldl (putR l ru) []).length 0 ((r.take u).foldl (putR l ru) []).length),(14,ARec r),(15,AI r.length),(16,AI u)],h ++ [atObj ((r.take u).foldl (putR l ru) []),.row (some 4) (((r.take u).foldl (putR l ru) []).map Rec.pv) 0],[]⟩ ∧ u ≤ r.length ∧ r.length - u < r.length - k:=fun y hy=>by
        refine ⟨k + 1,?_,by omega,by omega⟩
        simp only [et,epu,hy,List.length_set]
        rw [← hy]
        unfold atObj
        rw [hun]
      simp only [Rec.pv] at hg cx hgo co fl lk hset st
      by_cases r2 : ru = 2
      · have e : updR l ru o x = x := by simp [updR, r2]
        have f1 : h.length + 2 ≤ h.length + 2:=by omega
        simp only [go_sem,hlt,hg,cx,lk,r2,hp,hgo,co,st,hset,w2]
        rw [← r2]
        exact fin x e
      · by_cases r3 : ru = 3
        · by_cases hb : 0 ≤ failIdx l o.res
          · have e : updR l ru o x = x := by simp [updR, r3, badR, hb]
            simp only [go_sem,hlt,hg,cx,lk,r2,r3,hp,hgo,co,st,hset,w2,fl,hb]
            rw [← r3]
            exact fin x e
          · have e : updR l ru o x = o := by simp [updR, r3, badR, hb]
            simp only [go_sem,hlt,hg,cx,lk,r2,r3,hp,hgo,co,st,hset,w2,fl,hb]
            rw [← r3]
            have:=fin o e
            rw [hself] at this
            exact this
        · have e : updR l ru o x = o := by simp [updR, r2, r3]
          simp only [go_sem,hlt,hg,cx,lk,r2,r3,hp,hgo,co,st,hset,w2,fl]
          have:=fin o e
          rw [hself] at this
          exact this
    · have lk : ∀ (hp : Heap),hp[h.length]? = some (atObj out) → oLook (none,[2]) true (AI 0) (.mp h.length) (AS x.unit) hp = some (.tup [AI 0,AB false]):=fun hp' hh=>by
        have:=look_mes (val:=fun n : Int=>AI n) keyI_str hh (kk:=(none,[2])) keyOf_str (ok:=true) (z:=AI 0) (k:=x.unit)
        rw [unitAt_get0,if_neg hp] at this
        exact this
      have ud : ∀ (hp : Heap),hp[h.length]? = some (atObj out) → oMupd (none,[2]) (.mp h.length) (AS x.unit) (AI out.length) hp = some (.und,hp.set h.length (atObj (out ++ [x])),[]):=fun hp' hh=>by
        have:=mupd_mes (val:=fun n : Int=>AI n) keyI_str hh (kk:=(none,[2])) keyOf_str (k:=x.unit) (v:=(out.length : Int)) rfl
        rw [unitAt_snoc hp] at this
        exact this
      have epu : putR l ru out x = out ++ [x]:=by unfold putR; rw [dif_neg hp]
      have hmx : out.length + 1 ≤ maxSl:=by unfold maxSl; omega
      have ems : out.map Rec.pv ++ [PV.agg [.str x.unit,eI x.time,.str x.site,.sl none (x.res.map eI)]] = (out ++ [x]).map Rec.pv:=by simp [Rec.pv]
      simp only [Rec.pv] at hg cx
      simp only [go_sem,hlt,hg,cx,lk,ud,w2,hmx]
      refine ⟨k + 1,?_,by omega,by omega⟩
      simp only [et,epu,ems,List.length_append,List.length_cons,List.length_nil]
  · have ek : k = r.length := by omega
    subst ek
    rw [List.take_length]
    have eo : (r.foldl (putR l ru) []).length ≤ r.length:=(finI l ru r).le
    show _
    have hfl : finL l ru r = isort (ltO unitC) (r.foldl (putR l ru) []):=rfl
    rw [hfl]
    generalize r.foldl (putR l ru) [] = out at *
    have so:=fun K=>SortFunc_Record (h:=h ++ [atObj out,Obj.row (some 4) (out.map Rec.pv) 0]) (K:=K) (h.length + 1) (out.map Rec.pv) rec_shps (by simp; omega) (by simp) (g:=f_q02q) (caps:=[]) (c:=fun x y=>unitC (unRec x) (unRec y))
      (fun o x hx y hy K=>by
        obtain ⟨p,_,rfl⟩:=List.mem_map.1 hx
        obtain ⟨q,_,rfl⟩:=List.mem_map.1 hy
        dsimp only
        rw [unRec_pv,unRec_pv]
        exact s_final1 p q)
    have em : isort (ltC fun x y=>unitC (unRec x) (unRec y)) (out.map Rec.pv) = (isort (ltO unitC) out).map Rec.pv:=isort_map Rec.pv (fun x y=>by simp only [ltC,ltO,unRec_pv]) _
    rw [em] at so
    have il:=isort_len (ltO unitC) out
    generalize isort (ltO unitC) out = ss at *
    simp only [List.length_map] at so
    have hw : win (ss.map Rec.pv) 0 out.length = ss.map Rec.pv:=win_full (by simp [il])
    have e0 : ∀ o : Obj,(h ++ [atObj out,Obj.row (some 4) (out.map Rec.pv) 0]).set (h.length + 1) o = h ++ [atObj out,o]:=fun o=>by rw [List.set_append_right _ _ (by omega)]; simp
    simp only [e0] at so
    have b1 : ¬ (h.length + 1 < h.length):=by omega
    have b2 : h.length ≤ h.length + 1:=by omega
    simp only [go_sem,Nat.lt_irrefl,so,il,hw,b1,b2]
end Go.Am
end
section
/- Lists of strings sorted,left out: printed by program. -/
open Go
set_option linter.unusedSimpArgs false
namespace Go.Am
attribute [-go_sem] PV.cells splice
variable {h : Heap} {K : Post}
theorem insOrd_string (id n : Nat) (l tl : List PV) (hn : n = l.length + tl.length) (hs : shps none l) (hl : l.length ≤ 1000) (hh : h[id]? = some (.row none (l ++ tl) 0)) {lt : PV → PV → Bool} (hc : ∀ x ∈ l,∀ y ∈ l,∀ (h : Heap) (K : Post),ACall X f_q00u [.p x,.p y] h K = K (AB (lt x y)) h []) :
    ACall X f_q068 [.own id n 0 l.length,AI 0,AI l.length] h K = K (.tup []) (h.set id (.row none (isort lt l ++ tl) 0)) []:=by
  refine rule ?_
  rw [c_q068]
  have hid:=get_lt hh
  have hst : ∀ o,(h.set id o)[id]? = some o:=fun o=>set_get' hid
  simp only [d_q068,go_sem,show IntKind.i64.wrap 1 = 1 from rfl]
  refine N_loop (fun i : Nat=>⟨[(0,.own id n 0 l.length),(1,AI 0),(2,AI l.length),(6,AI i)],h.set id (.row none ((isortR lt (l.take i)).reverse ++ (l.drop i ++ tl)) 0),[]⟩) (fun i=>1 ≤ i ∧ (i ≤ l.length ∨ i = 1)) (fun i=>l.length - i) 1 ?_ (by simp) ?_
  · have : (isortR lt (l.take 1)).reverse ++ (l.drop 1 ++ tl) = l ++ tl := by cases l <;> rfl
    rw [this,set_self hh]; rfl
  rintro i ⟨hi1,hi2⟩
  rcases Nat.lt_or_ge i l.length with hlt | hge
  · simp only [go_sem, hlt]
    have hxl : l[i] ∈ l:=List.getElem_mem hlt
    generalize hx : l[i] = x at *
    generalize hR : isortR lt (l.take i) = R
    have hRl : R.length = i:=by rw [← hR,isortR_len]; simp; omega
    have hRm : ∀ z ∈ R,z ∈ l:=fun z hz=>List.mem_of_mem_take ((isortR_perm lt (l.take i)).mem_iff.1 (by rw [hR]; exact hz))
    have hdrop : l.drop i = x :: l.drop (i + 1):=by rw [← hx]; exact List.drop_eq_getElem_cons hlt
    have hnext : isortR lt (l.take (i + 1)) = insR lt x R:=by rw [isortR_take_succ _ _ _ hlt,hR,hx]
    refine N_loop (fun t : List PV × List PV=>⟨[(0,.own id n 0 l.length),(1,AI 0),(2,AI l.length),(6,AI i),(7,AI t.1.length)],h.set id (.row none (t.1.reverse ++ x :: t.2) 0),[]⟩)
      (fun t=>∃ B,R = B ++ t.1 ∧ t.2 = B.reverse ++ (l.drop (i + 1) ++ tl) ∧ ∀ b ∈ B,lt x b = true) (fun t=>t.1.length) (R,l.drop (i + 1) ++ tl) (by rw [hdrop,hRl]; rfl) ⟨[],rfl,rfl,by simp⟩ ?_
    rintro ⟨A,C⟩ ⟨B,q1,q2,q3⟩
    dsimp only at q1 q2 q3
    have hlen : (A.reverse ++ x :: C).length = n:=by
      have : R.length = B.length + A.length:=by rw [q1]; simp
      rw [q2]; simp; omega
    have hBA : B.length + A.length < l.length:=by
      have : R.length = B.length + A.length:=by rw [q1]; simp
      omega
    have hln : l.length ≤ n:=by omega
    have w1 : IntKind.i64.wrap ((i : Int) + 1) = ((i + 1 : Nat) : Int):=i64_wrap _ (by omega) (by omega)
    cases A with
    | nil=>
      have hd : insR lt x R = B ++ [x]:=by rw [q1]; exact ins_done lt x [] B q3 (fun y r h=>by cases h)
      simp only [go_sem,Int.lt_irrefl,w1]
      refine ⟨i + 1,?_,by omega,by omega⟩
      simp only [hnext,hd,q2,List.reverse_append,List.reverse_nil,List.nil_append,List.reverse_cons,List.append_assoc,List.cons_append]
    | cons y A=>
      have hyl : y ∈ l:=hRm y (by rw [q1]; simp)
      have g1:=ins_get (y :: A) C x
      have g2:=ins_get1 A C x y
      have sw:=ins_swap A C x y
      simp only [List.length_cons] at hBA
      generalize hrow : (y :: A).reverse ++ x :: C = row at *
      simp only [List.length_cons] at g1
      have w2 : IntKind.i64.wrap (((A.length + 1 : Nat) : Int) - 1) = (A.length : Int):=by rw [i64_wrap _ (by omega) (by omega)]; omega
      have p1 : (0 : Int) < ((A.length + 1 : Nat) : Int):=by omega
      have b1 : A.length + 1 < l.length:=by omega
      have b2 : A.length < l.length:=by omega
      have cx:=shp_cut (hs x hxl)
      have cy:=shp_cut (hs y hyl)
      have hcc:=fun h K=>hc x hxl y hyl h K
      cases hxy : lt x y with
      | false=>
        have hd : insR lt x R = B ++ x :: y :: A:=by rw [q1]; exact ins_done lt x (y :: A) B q3 (fun z r h=>by cases h; exact hxy)
        simp only [go_sem,hst,p1,hlen,g1,g2,w2,b1,b2,hln,cx,cy,hcc,hxy,w1]
        refine ⟨i + 1,?_,by omega,by omega⟩
        simp only [hnext,hd,← hrow,q2,List.reverse_append,List.reverse_cons,List.append_assoc,List.cons_append,List.nil_append]
      | true=>
        have g3 : (row.set (A.length + 1) y)[A.length]? = some y:=by rw [List.getElem?_set_ne (by omega),g2]
        have lx:=shp_len (hs x hxl)
        have ly:=shp_len (hs y hyl)
        have sx:=shp_all (hs x hxl)
        have sy:=shp_all (hs y hyl)
        simp only [shSize] at lx ly
        have t1:=fun i xs h1=>shp_st (hs x hxl) (hs y hyl) id i 0 xs h1
        have t2:=fun i xs h1=>shp_st (hs y hyl) (hs x hxl) id i 0 xs h1
        simp only [go_sem,hst,p1,hlen,g1,g2,g3,w2,b1,b2,hln,cx,cy,hcc,hxy,lx,ly,sx,sy,t1,t2,sw]
        refine ⟨(A,y :: C),rfl,⟨B ++ [y],by simp [q1],by simp [q2],fun b hb=>?_⟩,by simp⟩
        rw [List.mem_append,List.mem_singleton] at hb
        rcases hb with hb | rfl
        · exact q3 b hb
        · exact hxy
  · have hge' : ¬ i < l.length := by omega
    have e1 : l.take i = l:=List.take_of_length_le hge
    have e2 : l.drop i = []:=List.drop_of_length_le hge
    simp only [go_sem,hge',e1,e2]
    rfl
theorem Sort_string (id n : Nat) (l tl : List PV) (hn : n = l.length + tl.length) (hs : shps none l) (hl : l.length ≤ 12) (hh : h[id]? = some (.row none (l ++ tl) 0)) {lt : PV → PV → Bool} (hc : ∀ x ∈ l,∀ y ∈ l,∀ (h : Heap) (K : Post),ACall X f_q00u [.p x,.p y] h K = K (AB (lt x y)) h []) :
    ACall X f_q05v [.own id n 0 l.length] h K = K (.tup []) (h.set id (.row none (isort lt l ++ tl) 0)) []:=by
  refine rule ?_
  rw [c_q05v]
  have w0 : IntKind.u64.wrap (l.length : Int) = l.length:=u64_wrap _ (by omega) (by omega)
  obtain ⟨m,hm⟩:=len_any (l.length : Int) (by omega) (by omega)
  have is:=fun h' (hq : h' = h) K=>insOrd_string (h:=h) (K:=K) id n l tl hn hs (by omega) hh hc
  have key : ∀ K : Post,ACall X f_q06u [.own id n 0 l.length,AI 0,AI l.length,AI m] h K = K (.tup []) (h.set id (.row none (isort lt l ++ tl) 0)) []:=by
    intro K
    refine rule ?_
    rw [c_q06u]
    simp only [d_q06u,go_sem]
    refine N_loop (fun _ : Unit=>⟨[(0,.own id n 0 l.length),(1,AI 0),(2,AI l.length),(3,AI m),(8,AB true),(9,AB true)],h,[]⟩) (fun _=>True) (fun _=>0) () rfl trivial ?_
    intro _ _
    have w1 : IntKind.i64.wrap ((l.length : Int) - 0) = l.length:=by rw [i64_wrap _ (by omega) (by omega)]; omega
    have b1 : ((l.length : Int) ≤ 12):=by omega
    simp only [go_sem,w1,b1,is _ rfl]
  simp only [d_q05v,go_sem,w0,hm,key]
theorem Compact_string (id : Nat) (l : List PV) (hs : shps none l) (hl : l.length ≤ 100000) (hh : h[id]? = some (.row none l 0)) {q : PV → PV → Bool} (hq1 : ∀ x ∈ l,∀ y ∈ l,oBin .eql (.p x) (.p y) = some (AB (q x y))) (hq2 : ∀ x ∈ l,∀ y ∈ l,oBin .neq (.p x) (.p y) = some (AB (!q x y))) :
    ACall X f_q054 [.own id l.length 0 l.length] h K = K (.own id l.length 0 (compactL q l).length) (h.set id (.row none (compactL q l ++ List.replicate (l.length - (compactL q l).length) (PV.str [])) 0)) []:=by
  refine rule ?_
  rw [c_q054]
  have hid:=get_lt hh
  have hst : ∀ o,(h.set id o)[id]? = some o:=fun o=>set_get' hid
  have hb : ¬ h.length ≤ id:=by omega
  have hb2 : max h.length (id + 1) = h.length:=by omega
  have hb3 : id + 1 ≤ h.length:=hid
  by_cases h2 : l.length < 2
  · have h2' : (l.length : Int) < 2 := by omega
    have e : compactL q l = l:=by
      cases l with
      | nil=>rfl
      | cons x r=>
        have : r = []:=List.length_eq_zero_iff.1 (by simp only [List.length_cons] at h2; omega)
        subst this; rfl
    simp only [d_q054,go_sem,h2',e,Nat.sub_self,List.replicate_zero,List.append_nil,hb,hb2,hb3]
    rw [set_self hh]
  have h2' : ¬ (l.length : Int) < 2:=by omega
  simp only [d_q054,go_sem,h2']
  refine N_loop (fun k : Nat=>⟨[(0,.own id l.length 0 l.length),(3,AI ((k + 1 : Nat) : Int))],h,[]⟩) (fun k=>k + 1 ≤ l.length ∧ compactL q (l.take (k + 1)) = l.take (k + 1)) (fun k=>l.length - (k + 1)) 0 rfl ⟨by omega,?_⟩ ?_
  · cases l with
    | nil=>rfl
    | cons x r=>rfl
  rintro k ⟨hk,hc⟩
  rcases Nat.lt_or_ge (k + 1) l.length with hlt | hge
  · have hk0 : k < l.length := by omega
    have g1 : l[k + 1]? = some l[k + 1]:=List.getElem?_eq_getElem hlt
    have g2 : l[k]? = some l[k]:=List.getElem?_eq_getElem hk0
    have c1:=shp_cut (shps_get hs hlt)
    have c2:=shp_cut (shps_get hs hk0)
    have w1 : IntKind.i64.wrap (((k + 1 : Nat) : Int) - 1) = (k : Int):=by rw [i64_wrap _ (by omega) (by omega)]; omega
    have w2 : IntKind.i64.wrap (((k + 1 : Nat) : Int) + 1) = ((k + 1 + 1 : Nat) : Int):=i64_wrap _ (by omega) (by omega)
    have hqk:=hq1 _ (List.getElem_mem hlt) _ (List.getElem_mem hk0)
    have hcs:=compactL_take_succ q l k hlt
    cases hqx : q l[k + 1] l[k] with
    | false=>
      rw [hqx] at hcs
      simp only [go_sem,hh,hlt,hk0,g1,g2,c1,c2,w1,w2,hqk,hqx]
      exact ⟨k + 1,rfl,⟨by omega,by rw [hcs,hc,cond_false,List.take_succ_eq_append_getElem hlt]⟩,by omega⟩
    | true=>
      rw [hqx,cond_true,List.append_nil,hc] at hcs
      have hle : k + 1 ≤ l.length:=by omega
      simp only [go_sem,hh,hlt,hk0,hle,g1,g2,c1,c2,w1,hqk,hqx]
      have e0 : k + 1 + (l.length - (k + 1)) = l.length:=by omega
      refine N_loop (fun t : List PV × Nat × Nat=>⟨[(0,.own id l.length 0 l.length),(3,AI ((t.2.1 : Nat) : Int)),(4,.own id l.length (k + 1) (l.length - (k + 1))),(5,AI ((t.2.2 + 1 : Nat) : Int))],h.set id (.row none t.1 0),[]⟩)
        (fun t=>t.1.length = l.length ∧ shps none t.1 ∧ t.2.1 ≤ k + 1 + t.2.2 ∧ k + 1 + t.2.2 < l.length ∧ t.1.take t.2.1 = compactL q (l.take (k + 1 + t.2.2 + 1)) ∧ t.1.drop (k + 1 + t.2.2) = l.drop (k + 1 + t.2.2)) (fun t=>l.length - t.2.2)
        (l,k + 1,0) (by rw [set_self hh]; rfl) ⟨rfl,hs,by simp,by simpa using hlt,by simpa using hcs.symm,rfl⟩ ?_
      rintro ⟨row,i,j⟩ ⟨r1,r2,r3,r4,r5,r6⟩
      dsimp only at r1 r2 r3 r4 r5 r6
      rcases Nat.lt_or_ge (k + 1 + j + 1) l.length with hlt2 | hge2
      · have a1 : row[k + 1 + j + 1]? = some l[k + 1 + j + 1]:=by
          have:=congrArg (·[1]?) r6
          simp only [List.getElem?_drop] at this
          rw [this,List.getElem?_eq_getElem hlt2]
        have a2 : row[k + 1 + j]? = some l[k + 1 + j]:=by
          have:=congrArg (·[0]?) r6
          simp only [List.getElem?_drop,Nat.add_zero] at this
          rw [this,List.getElem?_eq_getElem r4]
        have s1:=shps_get hs hlt2
        have d1:=shp_cut s1
        have d2:=shp_cut (shps_get hs r4)
        have hil : i < l.length:=by omega
        have hir : i < row.length:=by omega
        have g3 : row[i]? = some row[i]:=List.getElem?_eq_getElem hir
        have t1:=fun xs h1=>shp_st s1 (shps_get r2 hir) id i 0 xs h1
        have lx:=shp_len s1
        have sx:=shp_all s1
        simp only [shSize] at lx
        have v1 : IntKind.i64.wrap (((j + 1 : Nat) : Int) - 1) = (j : Int):=by rw [i64_wrap _ (by omega) (by omega)]; omega
        have v2 : IntKind.i64.wrap (((j + 1 : Nat) : Int) + 1) = ((j + 1 + 1 : Nat) : Int):=i64_wrap _ (by omega) (by omega)
        have v3 : IntKind.i64.wrap ((i : Int) + 1) = ((i + 1 : Nat) : Int):=i64_wrap _ (by omega) (by omega)
        have p1 : j + 1 < l.length - (k + 1):=by omega
        have p2 : j < l.length - (k + 1):=by omega
        have p3 : k + 1 + (j + 1) = k + 1 + j + 1:=by omega
        have p4 : k + 1 + (l.length - (k + 1)) ≤ l.length:=by omega
        have hqj:=hq2 _ (List.getElem_mem hlt2) _ (List.getElem_mem r4)
        have hcs2:=compactL_take_succ q l (k + 1 + j) hlt2
        cases hqy : q l[k + 1 + j + 1] l[k + 1 + j] with
        | true=>
          rw [hqy,cond_true,List.append_nil] at hcs2
          simp only [go_sem,hst,r1,p1,p2,p3,p4,e0,a1,a2,d1,d2,v1,v2,hqj,hqy]
          refine ⟨(row,i,j + 1),rfl,⟨r1,r2,by dsimp only; omega,by dsimp only; omega,?_,?_⟩,by dsimp only; omega⟩
          · dsimp only; rw [r5,← hcs2]; rfl
          · dsimp only; rw [show k + 1 + (j + 1) = k + 1 + j + 1 from rfl,← List.drop_drop,r6,List.drop_drop]
        | false=>
          rw [hqy,cond_false] at hcs2
          simp only [go_sem,hst,r1,p1,p2,p3,p4,e0,a1,a2,g3,d1,d2,v1,v2,v3,hil,hqj,hqy,lx,sx,t1]
          refine ⟨(row.set i l[k + 1 + j + 1],i + 1,j + 1),rfl,⟨by simpa using r1,fun x hx=>?_,by dsimp only; omega,by dsimp only; omega,?_,?_⟩,by dsimp only; omega⟩
          · rcases List.mem_or_eq_of_mem_set hx with hx | rfl
            · exact r2 x hx
            · exact s1
          · dsimp only
            rw [show k + 1 + (j + 1) + 1 = k + 1 + j + 1 + 1 from rfl,hcs2,← r5,List.take_succ_eq_append_getElem (by simp; omega)]
            simp [List.take_set_of_le]
          · dsimp only
            rw [List.drop_set_of_lt (by omega),show k + 1 + (j + 1) = k + 1 + j + 1 from rfl,← List.drop_drop,r6,List.drop_drop]
      · have ej : k + 1 + j + 1 = l.length := by omega
        rw [ej,List.take_length] at r5
        have hil : i ≤ l.length:=by omega
        have hm : (compactL q l).length = i:=by rw [← r5]; simp; omega
        have p1 : ¬ (j + 1 < l.length - (k + 1)):=by omega
        have sp : splice row i (List.replicate (l.length - i) (PV.str [])) = compactL q l ++ List.replicate (l.length - i) (PV.str []):=by
          unfold splice
          rw [r5,List.length_replicate,List.drop_of_length_le (by omega),List.append_nil]
        have rl : (compactL q l ++ List.replicate (l.length - i) (PV.str [])).length = l.length:=by simp only [List.length_append,hm,List.length_replicate]; omega
        rw [hm]
        generalize compactL q l ++ List.replicate (l.length - i) (PV.str []) = row' at *
        simp only [go_sem,hst,r1,rl,hil,p1,sp,show i + (l.length - i) = l.length by omega,hb,hb2,hb3]
  · have ek : k + 1 = l.length := by omega
    rw [ek,List.take_length] at hc
    have hge' : ¬ k + 1 < l.length:=by omega
    simp only [go_sem,hge',hc,Nat.sub_self,List.replicate_zero,List.append_nil,hb,hb2,hb3]
    rw [set_self hh]
end Go.Am
end
section
/- Finding and deleting records,strings: printed by program. -/
open Go
set_option linter.unusedSimpArgs false
namespace Go.Am
attribute [-go_sem] PV.cells splice
variable {h : Heap} {K : Post}
attribute [-go_sem] AV.cells cut
theorem DeleteFunc_Record (id : Nat) (l : List PV) (hs : shps (some 4) l) (hl : l.length ≤ 100000) (hh : h[id]? = some (.row (some 4) l 0)) {g : Nat} {caps : List AV} {p : PV → Bool} (hp : TellsX g caps p l id h) (hcaps : AV.tops caps ≤ h.length) :
    ACall X f_q05b [.own id l.length 0 l.length,.fn g caps] h K = K (.own id l.length 0 (l.filter fun x=>!p x).length) (h.set id (.row (some 4) ((l.filter fun x=>!p x) ++ List.replicate (l.length - (l.filter fun x=>!p x).length) (PV.agg [.str [],.int .i64 0,.str [],.sl none []])) 0)) []:=by
  refine rule ?_
  rw [c_q05b]
  have hid:=get_lt hh
  have hst : ∀ o,(h.set id o)[id]? = some o:=fun o=>set_get' hid
  have hid2 : id + 1 ≤ h.length:=hid
  have hi:=fun K=>IndexFunc_Record (h:=h) (K:=K) (shows_full hs hh) (fun x hx K=>by have:=hp (.row (some 4) l 0) [] x hx K; rwa [List.append_nil,set_self hh] at this) (by omega)
  simp only [d_q05b,go_sem,hi]
  by_cases hf : l.findIdx p < l.length
  · have e1 : idxP p l = (l.findIdx p : Int) := by simp [idxP, hf]
    have e2 : ¬ ((l.findIdx p : Int) = -1):=by omega
    have w0 : IntKind.i64.wrap ((l.findIdx p : Int) + 1) = ((l.findIdx p + 1 : Nat) : Int):=i64_wrap _ (by omega) (by omega)
    simp only [go_sem,e1,e2,w0]
    have hF0 : ((l.take (l.findIdx p + 1)).filter fun x=>!p x) = l.take (l.findIdx p):=by
      rw [List.take_succ_eq_append_getElem hf,List.filter_append]
      have q1 : (l.take (l.findIdx p)).filter (fun x=>!p x) = l.take (l.findIdx p):=by
        rw [List.filter_eq_self]
        intro x hx
        obtain ⟨j,hj,rfl⟩:=List.mem_take_iff_getElem.1 hx
        have:=List.not_of_lt_findIdx (show j < l.findIdx p by omega)
        simpa using this
      rw [q1]
      have : p l[l.findIdx p] = true:=List.findIdx_getElem (w:=hf)
      simp [this]
    refine N_loop (fun t : List PV × Nat × Nat=>⟨[(0,.own id l.length 0 l.length),(1,.fn g caps),(5,AI t.2.1),(6,AI t.2.2)],h.set id (.row (some 4) t.1 0),[]⟩)
      (fun t=>t.1.length = l.length ∧ shps (some 4) t.1 ∧ t.2.1 < t.2.2 ∧ t.2.2 ≤ l.length ∧ t.1.take t.2.1 = ((l.take t.2.2).filter fun x=>!p x) ∧ t.1.drop t.2.2 = l.drop t.2.2) (fun t=>l.length - t.2.2)
      (l,l.findIdx p,l.findIdx p + 1) (by rw [set_self hh]) ⟨rfl,hs,by simp,hf,by rw [hF0],rfl⟩ ?_
    rintro ⟨row,i,j⟩ ⟨r1,r2,r3,r4,r5,r6⟩
    dsimp only at r1 r2 r3 r4 r5 r6
    have w1 : IntKind.i64.wrap ((j : Int) + 1) = ((j + 1 : Nat) : Int):=i64_wrap _ (by omega) (by omega)
    have w2 : IntKind.i64.wrap ((i : Int) + 1) = ((i + 1 : Nat) : Int):=i64_wrap _ (by omega) (by omega)
    rcases Nat.lt_or_ge j l.length with hlt | hge
    · have g1 : row[j]? = some l[j]:=by
        have:=congrArg (·[0]?) r6
        simp only [List.getElem?_drop,Nat.add_zero] at this
        rw [this,List.getElem?_eq_getElem hlt]
      have hsj:=shps_get hs hlt
      have cx:=shp_cut hsj
      have hil : i < l.length:=by omega
      have g2 : row[i]? = some row[i]:=List.getElem?_eq_getElem (by omega)
      have hsi:=shps_get r2 (show i < row.length by omega)
      have t1:=fun xs h1=>shp_st hsj hsi id i 0 xs h1
      have lx:=shp_len hsj
      have sx:=shp_all hsj
      simp only [shSize] at lx
      have hpj:=fun o t K=>hp o t _ (List.getElem_mem hlt) K
      obtain ⟨cs,hcs,hcl,hca⟩:=shp_agg hsj
      have hcells : AV.cells (.p l[j]) = some (cs.map AV.p):=by rw [hcs]; simp [AV.cells,hca]
      have hsp : splice [.p (.str []),.p (.int .i64 0),.p (.str []),.sl0 none] 0 (cs.map AV.p) = cs.map AV.p:=by unfold splice; simp [hcl]
      have hcut : cut (some 4) 0 (cs.map AV.p) = some (.p l[j]):=by rw [hcs]; exact cut_map hcl
      have hn4 : (shSize (some 4)) = 4:=rfl
      have q5 : ∀ o : Obj,(h.set id o ++ [Obj.box (cs.map AV.p)])[id]? = some o:=fun o=>by rw [List.getElem?_append_left (by simpa using hid)]; exact hst o
      have q6 : ∀ o o' : Obj,(h.set id o ++ [Obj.box (cs.map AV.p)]).set id o' = h.set id o' ++ [Obj.box (cs.map AV.p)]:=fun o o'=>by rw [List.set_append_left _ _ (by simpa using hid),List.set_set]
      cases hpx : p l[j] with
      | true=>
        simp only [go_sem,hst,r1,hlt,g1,cx,hpj,hpx,w1,hcells,hsp,hcut,hcl,hid2,hcaps]
        refine ⟨(row,i,j + 1),rfl,⟨r1,r2,by dsimp only; omega,by dsimp only; omega,?_,?_⟩,by dsimp only; omega⟩
        · rw [List.take_succ_eq_append_getElem hlt, List.filter_append]
          simp [hpx,r5]
        · rw [← List.drop_drop,r6,List.drop_drop]
      | false=>
        simp only [go_sem,hst,r1,hlt,hil,g1,g2,cx,hpj,hpx,w1,w2,lx,sx,t1,hcells,hsp,hcut,hcl,q5,q6,hid2,hcaps]
        refine ⟨(row.set i l[j],i + 1,j + 1),rfl,⟨by simpa using r1,fun x hx=>?_,by dsimp only; omega,by dsimp only; omega,?_,?_⟩,by dsimp only; omega⟩
        · rcases List.mem_or_eq_of_mem_set hx with hx | rfl
          · exact r2 x hx
          · exact hsj
        · dsimp only
          rw [List.take_succ_eq_append_getElem hlt,List.filter_append,← r5,List.take_succ_eq_append_getElem (by simp; omega)]
          simp [hpx,List.take_set_of_le]
        · dsimp only
          rw [List.drop_set_of_lt (by omega),← List.drop_drop,r6,List.drop_drop]
    · have ej : j = l.length := by omega
      subst ej
      rw [List.take_length] at r5
      have hm : (l.filter fun x=>!p x).length = i:=by rw [← r5]; simp; omega
      have hil : i ≤ l.length:=by omega
      have e3 : l.length - i + i = l.length:=by omega
      have sp : splice row i (List.replicate (l.length - i) (PV.agg [.str [],.int .i64 0,.str [],.sl none []])) = (l.filter fun x=>!p x) ++ List.replicate (l.length - i) (PV.agg [.str [],.int .i64 0,.str [],.sl none []]):=by
        unfold splice
        rw [r5,List.length_replicate,List.drop_of_length_le (by omega),List.append_nil]
      have rl : ((l.filter fun x=>!p x) ++ List.replicate (l.length - i) (PV.agg [.str [],.int .i64 0,.str [],.sl none []])).length = l.length:=by simp only [List.length_append,hm,List.length_replicate]; omega
      rw [hm]
      generalize (l.filter fun x=>!p x) ++ List.replicate (l.length - i) (PV.agg [.str [],.int .i64 0,.str [],.sl none []]) = row' at *
      have hb : ¬ h.length ≤ id:=by omega
      have hb2 : max h.length (id + 1) = h.length:=by omega
      have hb3 : id + 1 ≤ h.length:=hid
      simp only [go_sem,Nat.lt_irrefl,hst,r1,rl,hil,sp,show i + (l.length - i) = l.length by omega,hb,hb2,hb3]
  · have e1 : idxP p l = -1 := by simp [idxP, hf]
    have hF : (l.filter fun x=>!p x) = l:=by
      rw [List.filter_eq_self]
      intro x hx
      cases hpx : p x with
      | false=>rfl
      | true=>exact absurd (List.findIdx_lt_length_of_exists ⟨x,hx,hpx⟩) hf
    have hb : ¬ h.length ≤ id:=by omega
    have hb2 : max h.length (id + 1) = h.length:=by omega
    have hb3 : id + 1 ≤ h.length:=hid
    simp only [go_sem,e1,hF,Nat.sub_self,List.replicate_zero,List.append_nil,hb,hb2,hb3]
    rw [set_self hh]
attribute [go_sem] AV.cells cut
end Go.Am
end
section
/- Units,and the record of each that counts: the reference's way. -/
open Go
set_option linter.all false
namespace Go.Am
variable {h : Heap} {K : Post}
theorem str_shps {us : List (List UInt8)} : shps none (us.map PV.str):=fun x hx=>by obtain ⟨n,_,rfl⟩:=List.mem_map.1 hx; rfl
def unStr : PV → List UInt8
  | .str s=>s
  | _=>[]
theorem bytesLess_cmpL : ∀ a b : List UInt8,Op.bytesLess a b = ltS a b
  | [],[]=>rfl
  | [],_ :: _=>rfl
  | _ :: _,[]=>rfl
  | a :: x,b :: y=>by
    have ih:=bytesLess_cmpL x y
    unfold ltS at ih ⊢
    unfold Op.bytesLess cmpL
    rw [ih]
    by_cases h1 : a < b
    · simp [h1]
    · by_cases h2 : b < a
      · have : ¬ a = b := fun e => by subst e; exact UInt8.lt_irrefl _ h2
        simp [h1,h2,this]
      · have : a = b:=by
          rcases UInt8.lt_or_lt_of_ne (a:=a) (b:=b) |> fun f=>Classical.em (a = b) with e | e
          · exact e
          · rcases UInt8.lt_or_lt_of_ne e with h | h
            · exact absurd h h1
            · exact absurd h h2
        simp [h1,h2,this]
def ltPS (x y : PV) : Bool:=ltS (unStr x) (unStr y)
theorem s_isNaNS (a : List UInt8) : ACall X f_q00x [AS a] h K = K (AB false) h []:=by
  refine rule ?_
  rw [c_q00x rfl]
  simp only [d_q00x,go_sem]
theorem s_LessS (a b : List UInt8) : ACall X f_q00u [AS a,AS b] h K = K (AB (ltS a b)) h []:=by
  refine rule ?_
  rw [c_q00u rfl]
  simp only [d_q00u,go_sem,s_isNaNS,bytesLess_cmpL]
theorem less_str {us : List (List UInt8)} : ∀ x ∈ us.map PV.str,∀ y ∈ us.map PV.str,∀ (h : Heap) (K : Post),ACall X f_q00u [.p x,.p y] h K = K (AB (ltPS x y)) h []:=by
  intro x hx y hy h K
  obtain ⟨a,_,rfl⟩:=List.mem_map.1 hx
  obtain ⟨b,_,rfl⟩:=List.mem_map.1 hy
  exact s_LessS a b
theorem isort_str (us : List (List UInt8)) : isort ltPS (us.map PV.str) = (isort ltS us).map PV.str:=isort_map PV.str (fun a b=>rfl) us
theorem s_SortS (id : Nat) (us : List (List UInt8)) (hl : us.length ≤ 12) (hh : h[id]? = some (.row none (us.map PV.str) 0)) :
    ACall X f_q05v [.own id us.length 0 us.length] h K = K (.tup []) (h.set id (.row none ((isort ltS us).map PV.str) 0)) []:=by
  have:=Sort_string (h:=h) (K:=K) id us.length (us.map PV.str) [] (by simp) str_shps (by simpa using hl) (by simpa using hh) (lt:=ltPS) less_str
  simp only [List.length_map,List.append_nil,isort_str] at this
  exact this
def eqS (a b : List UInt8) : Bool:=decide (a = b)
theorem s_CompactS (id : Nat) (us : List (List UInt8)) (hl : us.length ≤ 1000) (hh : h[id]? = some (.row none (us.map PV.str) 0)) :
    ACall X f_q054 [.own id us.length 0 us.length] h K = K (.own id us.length 0 (compactL eqS us).length) (h.set id (.row none ((compactL eqS us).map PV.str ++ List.replicate (us.length - (compactL eqS us).length) (PV.str [])) 0)) []:=by
  have:=Compact_string (h:=h) (K:=K) id (us.map PV.str) str_shps (by simp; omega) hh (q:=fun x y=>eqS (unStr x) (unStr y))
    (fun x hx y hy=>by
      obtain ⟨a,_,rfl⟩:=List.mem_map.1 hx
      obtain ⟨b,_,rfl⟩:=List.mem_map.1 hy
      exact str_eql)
    (fun x hx y hy=>by
      obtain ⟨a,_,rfl⟩:=List.mem_map.1 hx
      obtain ⟨b,_,rfl⟩:=List.mem_map.1 hy
      exact str_neq)
  have e : compactL (fun x y=>eqS (unStr x) (unStr y)) (us.map PV.str) = (compactL eqS us).map PV.str:=compactL_map PV.str (fun a b=>rfl) us
  rw [e] at this
  simp only [List.length_map] at this
  exact this
def uRow (r : List Rec) : List PV:=(unitsL r).map PV.str ++ List.replicate (r.length - (unitsL r).length) (PV.str [])
theorem units_le (r : List Rec) : (unitsL r).length ≤ r.length:=by
  have:=compactL_len eqS (isort ltS (r.map Rec.unit))
  rw [isort_len,List.length_map] at this
  exact this
theorem uRow_len (r : List Rec) : (uRow r).length = r.length:=by unfold uRow; have:=units_le r; simp; omega
theorem uRow_get (r : List Rec) {k : Nat} (hk : k < (unitsL r).length) : (uRow r)[k]? = some (.str (unitsL r)[k]):=by
  unfold uRow
  rw [List.getElem?_append_left (by simpa using hk)]
  simp [hk]
theorem s_units (r : List Rec) (hn : r.length ≤ 12) : ACall X f_q04z [ARec r] h K = K (.own h.length r.length 0 (unitsL r).length) (h ++ [.row none (uRow r) 0]) []:=by
  refine rule ?_
  rw [c_q04z rfl]
  simp only [d_q04z,go_sem]
  refine N_loop (fun k : Nat=>⟨[(3,.own h.length k 0 k),(6,ARec r),(7,AI r.length),(8,AI k)],h ++ [.row none (((r.take k).map Rec.unit).map PV.str) 0],[]⟩)
    (fun k=>k ≤ r.length) (fun k=>r.length - k) 0 rfl (by omega) ?_
  intro k hk
  rcases Nat.lt_or_ge k r.length with hlt | hge
  · have hg := map_get Rec.pv hlt
    have cx : cutP (some 4) 0 (r[k].pv) = some r[k].pv:=rfl
    have w2 : IntKind.i64.wrap ((k : Int) + 1) = ((k + 1 : Nat) : Int):=i64_wrap _ (by omega) (by omega)
    have hmx : k + 1 ≤ maxSl:=by unfold maxSl; omega
    have hln : min k r.length = k:=by omega
    have et : ((r.take (k + 1)).map Rec.unit).map PV.str = ((r.take k).map Rec.unit).map PV.str ++ [.str r[k].unit]:=by rw [List.take_succ_eq_append_getElem hlt,List.map_append,List.map_append]; rfl
    simp only [Rec.pv] at hg cx
    simp only [go_sem,hlt,hg,cx,w2,hmx,hln,List.length_take]
    refine ⟨k + 1,?_,by omega,by omega⟩
    rw [et]
  · have ek : k = r.length := by omega
    subst ek
    rw [List.take_length]
    have so:=fun K=>s_SortS (h:=h ++ [.row none ((r.map Rec.unit).map PV.str) 0]) (K:=K) h.length (r.map Rec.unit) (by simpa using hn) (by simp)
    have e0 : ∀ o o' : Obj,(h ++ [o]).set h.length o' = h ++ [o']:=fun o o'=>by rw [List.set_append_right _ _ (by simp)]; simp
    have il:=isort_len ltS (r.map Rec.unit)
    have cp:=fun K=>s_CompactS (h:=h ++ [.row none ((isort ltS (r.map Rec.unit)).map PV.str) 0]) (K:=K) h.length (isort ltS (r.map Rec.unit)) (by simp at il; omega) (by simp)
    have eu : compactL eqS (isort ltS (r.map Rec.unit)) = unitsL r:=rfl
    simp only [List.length_map] at il
    simp only [e0,List.length_map] at so
    simp only [e0,il,eu] at cp
    have hle:=units_le r
    have hu0 : (unitsL r).map PV.str ++ List.replicate (r.length - (unitsL r).length) (PV.str []) = uRow r:=rfl
    have rl:=uRow_len r
    have hmx : max h.length (h.length + 1) = h.length + 1:=by omega
    rw [hu0] at cp
    simp only [go_sem,Nat.lt_irrefl,↓so,so,↓cp,cp,rl,hle,hmx]
theorem s_counts1 (x : Rec) (u : List UInt8) (id : Nat) (hh : h[id]? = some (.box [AS u])) : ACall X f_q04o [.p x.pv,.ref id 0] h K = K (AB (!decide (x.unit = u))) h []:=by
  refine rule ?_
  rw [c_q04o rfl]
  have hid:=get_lt hh
  have hh2 : ∀ o,(h ++ [o])[id]? = some (.box [AS u]):=fun o=>by rw [List.getElem?_append_left hid]; exact hh
  simp only [d_q04o,Rec.pv,go_sem,hh2]
theorem s_counts2 (l : List Lim) (x : Rec) (id : Nat) (hl : l.length ≤ 1000) (hx : x.res.length ≤ 1000) (hh : h[id]? = some (.box [ALim l])) : ACall X f_q04p [.p x.pv,.ref id 0] h K = K (AB (!badR l x)) h []:=by
  refine rule ?_
  rw [c_q04p rfl]
  have hid:=get_lt hh
  have hh2 : ∀ o,(h ++ [o])[id]? = some (.box [ALim l]):=fun o=>by rw [List.getElem?_append_left hid]; exact hh
  have q:=fun h K=>s_refFails (h:=h) (K:=K) l x.res hl hx
  by_cases hb : failIdx l x.res < 0
  · have e : badR l x = false := by unfold badR; simp; omega
    simp only [d_q04p,Rec.pv,go_sem,hh2,↓q,q,hb,e]
  · have e : badR l x = true := by unfold badR; simp; omega
    simp only [d_q04p,Rec.pv,go_sem,hh2,↓q,q,hb,e]
theorem ofU_filter (r : List Rec) (u : List UInt8) : ((r.map Rec.pv).filter fun x=>!(!decide ((unRec x).unit = u))) = (ofU r u).map Rec.pv:=by
  unfold ofU
  rw [List.filter_map]
  congr 1
  refine List.filter_congr fun x _=>?_
  simp [unRec_pv]
def zRec : List AV:=[.p (.str []),.p (.int .i64 0),.p (.str []),.sl0 none]
theorem idx_good (l : List Lim) (f : List Rec) : idxP (fun x=>!badR l (unRec x)) (f.map Rec.pv) = if f.findIdx (fun x=>!badR l x) < f.length then (f.findIdx (fun x=>!badR l x) : Int) else -1:=by
  have e : (f.map Rec.pv).findIdx (fun x=>!badR l (unRec x)) = f.findIdx (fun x=>!badR l x):=by
    rw [List.findIdx_map]
    congr 1
    funext x
    simp [unRec_pv]
  unfold idxP
  rw [e,List.length_map]
set_option maxHeartbeats 1000000 in
theorem s_counts (l : List Lim) (r : List Rec) (u : List UInt8) (ru : Int) (hl : l.length ≤ 1000) (hr : ∀ x ∈ r,x.res.length ≤ 1000) (hn : r.length ≤ 1000) (hu : ofU r u ≠ []) :
    ACall X f_q04n [ALim l,ARec r,AS u,AI ru] h K = K (.p (cntL l ru (ofU r u)).pv) h []:=by
  refine rule ?_
  rw [c_q04n rfl]
  have cl:=fun h K=>s_CloneR (h:=h) (K:=K) r (by omega)
  have dl:=fun K=>DeleteFunc_Record (h:=h ++ [Obj.box [ALim l],Obj.box [AS u],Obj.box zRec,Obj.row (some 4) (r.map Rec.pv) 0]) (K:=K) (h.length + 3) (r.map Rec.pv) rec_shps (by simp; omega) (by simp) (g:=f_q04o) (caps:=[.ref (h.length + 1) 0]) (p:=fun x=>!decide ((unRec x).unit = u))
    (fun o t x hx K=>by
      obtain ⟨q,_,rfl⟩:=List.mem_map.1 hx
      dsimp only
      rw [unRec_pv]
      refine s_counts1 q u (h.length + 1) ?_
      rw [List.getElem?_append_left (by simp),List.getElem?_set_ne (by omega),List.getElem?_append_right (by omega)]
      simp)
    (by simp [AV.tops,AV.top])
  have e0 : ∀ o : Obj,(h ++ [Obj.box [ALim l],Obj.box [AS u],Obj.box zRec,Obj.row (some 4) (r.map Rec.pv) 0]).set (h.length + 3) o = h ++ [Obj.box [ALim l],Obj.box [AS u],Obj.box zRec,o]:=fun o=>by rw [List.set_append_right _ _ (by omega)]; simp
  simp only [ofU_filter,e0,List.length_map] at dl
  have hfl : (ofU r u).length ≤ r.length:=List.length_filter_le _ _
  have hfm : ∀ x ∈ ofU r u,x.res.length ≤ 1000:=fun x hx=>hr x (ofU_mem.1 hx).1
  unfold cntL
  generalize ofU r u = f at *
  have hrow : (f.map Rec.pv ++ List.replicate (r.length - f.length) (PV.agg [.str [],.int .i64 0,.str [],.sl none []])).length = r.length:=by simp; omega
  have hget : ∀ i (hi : i < f.length),(f.map Rec.pv ++ List.replicate (r.length - f.length) (PV.agg [.str [],.int .i64 0,.str [],.sl none []]))[i]? = some f[i].pv:=fun i hi=>by rw [List.getElem?_append_left (by simpa using hi)]; simp [hi]
  have hsh : shps (some 4) (f.map Rec.pv ++ List.replicate (r.length - f.length) (PV.agg [.str [],.int .i64 0,.str [],.sl none []])):=fun x hx=>by
    rcases List.mem_append.1 hx with h1 | h1
    · exact rec_shps x h1
    · rw [List.mem_replicate] at h1; rw [h1.2]; rfl
  have hwin : win (f.map Rec.pv ++ List.replicate (r.length - f.length) (PV.agg [.str [],.int .i64 0,.str [],.sl none []])) 0 f.length = f.map Rec.pv:=by simp [win]
  generalize f.map Rec.pv ++ List.replicate (r.length - f.length) (PV.agg [.str [],.int .i64 0,.str [],.sl none []]) = row at *
  have hpos : 0 < f.length:=List.length_pos_iff.2 hu
  have ck : ∀ x : Rec,cutP (some 4) 0 x.pv = some x.pv:=fun x=>rfl
  have e2 : h.length + 1 + 1 = h.length + 2:=rfl
  have ix:=fun K=>IndexFunc_Record (h:=h ++ [Obj.box [ALim l],Obj.box [AS u],Obj.box zRec,Obj.row (some 4) row 0]) (K:=K) (v:=.own (h.length + 3) row.length 0 f.length) (xs:=win row 0 f.length) (shows_own (id:=h.length + 3) (off:=0) (len:=f.length) (fz:=0) (xs:=row) hsh (by simp) (by omega)) (g:=f_q04p) (caps:=[.ref h.length 0]) (p:=fun x=>!badR l (unRec x))
    (fun x hx K=>by
      rw [hwin] at hx
      obtain ⟨q,hq,rfl⟩:=List.mem_map.1 hx
      dsimp only
      rw [unRec_pv]
      exact s_counts2 l q h.length hl (hfm q hq) (by simp))
    (by rw [hwin]; simp; omega)
  rw [hwin] at ix
  simp only [idx_good,hrow] at ix
  by_cases r1 : ru = 1
  · have e : f.headD rec0 = f[0] := by cases f with | nil => exact absurd rfl hu | cons _ _ => rfl
    have g0:=hget 0 hpos
    have c0:=ck f[0]
    simp only [r1,if_true,e]
    simp only [Rec.pv] at g0 c0
    simp only [zRec] at dl
    simp only [d_q04n,go_sem,e2,↓cl,cl,↓dl,dl,r1,hrow,hpos,hfl,g0,c0,Rec.pv]
  · simp only [r1, if_false]
    have el : f.getLastD rec0 = f[f.length - 1]:=by rw [List.getLastD_eq_getLast?,List.getLast?_eq_some_getLast hu,Option.getD_some,List.getLast_eq_getElem]
    have gl:=hget (f.length - 1) (by omega)
    have cl1:=ck f[f.length - 1]
    have w1 : IntKind.i64.wrap ((f.length : Int) - 1) = ((f.length - 1 : Nat) : Int):=by rw [i64_wrap _ (by omega) (by omega)]; omega
    have hb1 : f.length - 1 < f.length:=by omega
    simp only [zRec] at dl ix
    by_cases hx : f.findIdx (fun x=>!badR l x) < f.length
    · have gx := hget _ hx
      have cx:=ck f[f.findIdx fun x=>!badR l x]
      have ex : f.getD (f.findIdx fun x=>!badR l x) rec0 = f[f.findIdx fun x=>!badR l x]:=by rw [List.getD_eq_getElem?_getD,List.getElem?_eq_getElem hx]; rfl
      simp only [hx,if_true,true_and] at ix ⊢
      rw [ex,el]
      generalize hj : f.findIdx (fun x=>!badR l x) = j at *
      have hb2 : (0 : Int) ≤ (j : Int):=by omega
      by_cases r3 : ru = 3
      · simp only [r3, if_true]
        simp only [Rec.pv] at gx cx
        simp only [d_q04n,go_sem,e2,↓cl,cl,↓dl,dl,↓ix,ix,r1,r3,hrow,hx,hb2,hfl,gx,cx,Rec.pv]
      · simp only [r3, if_false]
        simp only [Rec.pv] at gl cl1
        simp only [d_q04n,go_sem,e2,↓cl,cl,↓dl,dl,↓ix,ix,r1,r3,hrow,hb2,hfl,w1,hb1,gl,cl1,Rec.pv]
    · simp only [hx, if_false, false_and] at ix ⊢
      rw [el]
      simp only [Rec.pv] at gl cl1
      simp only [d_q04n,go_sem,e2,↓cl,cl,↓dl,dl,↓ix,ix,r1,hrow,hfl,w1,hb1,gl,cl1,Rec.pv]
end Go.Am
end
section
/- Final bins,both ways. -/
open Go
set_option linter.all false
namespace Go.Am
variable {h : Heap} {K : Post}
theorem limsFaultFrom_all : ∀ {l pre : List Lim},limsFaultFrom pre l = 0 → ∀ x ∈ l,limBad x = false
  | [],_,_,x,hx=>by cases hx
  | y :: l,pre,hf,x,hx=>by
    unfold limsFaultFrom at hf
    split at hf
    · cases hf
    · split at hf
      · cases hf
      · split at hf
        · cases hf
        · rename_i hb
          rcases List.mem_cons.1 hx with e | e
          · subst e; simpa using hb
          · exact limsFaultFrom_all hf x e
theorem lims_bin {l : List Lim} (hf : limsFault l = 0) : ∀ x ∈ l,2 ≤ x.bin ∧ x.bin ≤ 100:=by
  unfold limsFault at hf
  split at hf
  · cases hf
  · split at hf
    · cases hf
    · intro x hx
      have:=limsFaultFrom_all hf x hx
      unfold limBad inB at this
      simp at this
      omega
theorem binR_bd {l : List Lim} (hf : limsFault l = 0) (x : Rec) : 1 ≤ binR l x ∧ binR l x ≤ 100 ∧ (binR l x = 1 ↔ badR l x = false):=by
  have hb:=lims_bin hf
  unfold binR binV badR
  rcases failIdx_cases l x.res with ⟨e,_⟩ | ⟨k,e,hk,_⟩
  · rw [e]; simp
  · rw [e]
    have hkl : k < l.length:=by unfold goods at hk; simp at hk; omega
    have:=hb l[k] (List.getElem_mem hkl)
    rw [if_pos (by omega),Int.toNat_natCast,List.getD_eq_getElem?_getD,List.getElem?_eq_getElem hkl,Option.getD_some]
    refine ⟨by omega,by omega,?_⟩
    constructor
    · intro h; omega
    · intro h; simp at h
theorem recsFault_lims {l : List Lim} {r : List Rec} (h : recsFault l r = 0) : limsFault l = 0:=by
  unfold recsFault at h
  split at h
  · rename_i h1; exact absurd h h1
  · rename_i h1
    by_cases h2 : limsFault l = 0
    · exact h2
    · exact absurd h2 h1
theorem s_FinalOf (l : List Lim) (r : List Rec) (ru : Int) (hl : LimOk l) (hr : ∀ x ∈ r,RecOk x) (hn : r.length ≤ 12) (hf : limsFault l = 0) :
    ACall X f_q04b [ALim l,ARec r,AI ru] h K = K (ASS (finalQ l ru r)) h []:=by
  refine rule ?_
  rw [c_q04b rfl]
  have q1:=fun h K=>s_units (h:=h) (K:=K) r hn
  have hul : (unitsL r).length ≤ 12:=by rw [← finL_units l ru r]; have:=finL_len l ru r; simp; omega
  have hne : ∀ u ∈ unitsL r,ofU r u ≠ []:=fun u hu=>ofU_ne hu
  have hcm : ∀ u ∈ unitsL r,cntL l ru (ofU r u) ∈ r:=fun u hu=>cnt_mem hu
  unfold finalQ
  have ug:=fun k (hk : k < (unitsL r).length)=>uRow_get r hk
  have ul:=uRow_len r
  have hle:=units_le r
  simp only [d_q04b,go_sem,↓q1,q1]
  generalize uRow r = ur at *
  generalize unitsL r = us at *
  refine N_loop (fun k : Nat=>⟨[(0,ALim l),(1,ARec r),(2,AI ru),(7,.own h.length k 0 k),(13,.own (h.length + 1) r.length 0 us.length),(14,AI us.length),(15,AI k)],h ++ [.row (some 2) (((us.take k).map fun u=>(u,itoa (binR l (cntL l ru (ofU r u))))).map ssPv) 0,.row none ur 0],[]⟩)
    (fun k=>k ≤ us.length) (fun k=>us.length - k) 0 rfl (by omega) ?_
  intro k hk
  rcases Nat.lt_or_ge k us.length with hlt | hge
  · have hg := ug k hlt
    have w2 : IntKind.i64.wrap ((k : Int) + 1) = ((k + 1 : Nat) : Int):=i64_wrap _ (by omega) (by omega)
    have hmx : k + 1 ≤ maxSl:=by unfold maxSl; omega
    have hln : min k us.length = k:=by omega
    have hum:=List.getElem_mem hlt
    have et : ((us.take (k + 1)).map fun u=>(u,itoa (binR l (cntL l ru (ofU r u))))).map ssPv = ((us.take k).map fun u=>(u,itoa (binR l (cntL l ru (ofU r u))))).map ssPv ++ [ssPv (us[k],itoa (binR l (cntL l ru (ofU r us[k]))))]:=by rw [List.take_succ_eq_append_getElem hlt,List.map_append,List.map_append]; rfl
    have q2:=fun h K=>s_counts (h:=h) (K:=K) l r us[k] ru hl.n (fun x hx=>(hr x hx).n) (by omega) (hne _ hum)
    have hcr:=hr _ (hcm _ hum)
    generalize cntL l ru (ofU r us[k]) = c at *
    have q3:=fun h K=>s_BinOf (h:=h) (K:=K) l c hl hcr
    have hbd:=binR_bd hf c
    have q4:=fun h K=>s_Itoa (h:=h) (K:=K) (binR l c) (by omega) (by omega)
    have ebr : binV l (failIdx l c.res) = binR l c:=rfl
    rw [ebr] at q3
    simp only [Rec.pv] at q2 q3
    simp only [ssPv] at et
    simp only [go_sem,hlt,hg,ul,hle,w2,hmx,hln,List.length_take,↓q2,q2,↓q3,q3,↓q4,q4]
    refine ⟨k + 1,?_,by omega,by omega⟩
    simp only [et]
  · have ek : k = us.length := by omega
    subst ek
    simp only [go_sem,Nat.lt_irrefl,List.take_length]
    rw [win_full (by simp)]
theorem s_lotFinal (l : List Lim) (r : List Rec) (ru : Int) (hl : LimOk l) (hr : ∀ x ∈ r,RecOk x) (hn : r.length ≤ 12) :
    ACall X f_q024 [ALim l,ARec r,AI ru] h K = K (if orL [recsFault l r,ruleF ru] = 0 then .tup [ASS (finalP l ru r),AI 0] else .tup [ASS [],AI (orL [recsFault l r,ruleF ru])]) h []:=by
  refine rule ?_
  rw [c_q024 rfl]
  have q1:=fun h K=>s_ruleFault (h:=h) (K:=K) l r ru hl hr (by omega)
  by_cases he : orL [recsFault l r,ruleF ru] = 0
  case neg=>
    simp only [d_q024,go_sem,↓q1,q1,he]
    rfl
  have hz : recsFault l r = 0:=by unfold orL at he; split at he <;> simp_all
  have hfm : ∀ x ∈ r,formB l x.res = true:=fun x hx=>recFault_form (recsFault_all hz x hx)
  have q2:=fun h K=>s_final (h:=h) (K:=K) l ru r hfm hl.n hn
  have hul : (finL l ru r).length ≤ 12:=by have:=finL_len l ru r; omega
  have hmem : ∀ x ∈ finL l ru r,formB l x.res = true:=fun x hx=>hfm x (finL_mem hx)
  unfold finalP
  simp only [d_q024,go_sem,↓q1,q1,he,↓q2,q2]
  generalize finL l ru r = fs at *
  refine N_loop (fun k : Nat=>⟨[(0,ALim l),(9,.own h.length k 0 k),(22,ARec fs),(23,AI fs.length),(24,AI k)],h ++ [.row (some 2) (((fs.take k).map fun x=>(x.unit,itoa (binR l x))).map ssPv) 0],[]⟩)
    (fun k=>k ≤ fs.length) (fun k=>fs.length - k) 0 rfl (by omega) ?_
  intro k hk
  rcases Nat.lt_or_ge k fs.length with hlt | hge
  · have hg := map_get Rec.pv hlt
    have cx : cutP (some 4) 0 (fs[k].pv) = some fs[k].pv:=rfl
    have w2 : IntKind.i64.wrap ((k : Int) + 1) = ((k + 1 : Nat) : Int):=i64_wrap _ (by omega) (by omega)
    have hmx : k + 1 ≤ maxSl:=by unfold maxSl; omega
    have hln : min k fs.length = k:=by omega
    have hum:=List.getElem_mem hlt
    have et : ((fs.take (k + 1)).map fun x=>(x.unit,itoa (binR l x))).map ssPv = ((fs.take k).map fun x=>(x.unit,itoa (binR l x))).map ssPv ++ [ssPv (fs[k].unit,itoa (binR l fs[k]))]:=by rw [List.take_succ_eq_append_getElem hlt,List.map_append,List.map_append]; rfl
    have hcf:=hmem _ hum
    generalize fs[k] = c at *
    have q3:=fun h K=>s_binOf (h:=h) (K:=K) l c hcf hl.n
    have hbd:=binR_bd (recsFault_lims hz) c
    have q4:=fun h K=>s_pair (h:=h) (K:=K) c.unit (binR l c) (by omega) (by omega)
    have ebr : binV l (failIdx l c.res) = binR l c:=rfl
    rw [ebr] at q3
    simp only [Rec.pv] at q3 hg cx
    simp only [ssPv] at et q4
    simp only [go_sem,hlt,hg,cx,w2,hmx,hln,List.length_take,↓q3,q3,↓q4,q4]
    refine ⟨k + 1,?_,by omega,by omega⟩
    simp only [et]
  · have ek : k = fs.length := by omega
    subst ek
    simp only [go_sem,Nat.lt_irrefl,List.take_length]
    rw [win_full (by simp)]
attribute [-go_sem] oLook oMupd
def kI (n : Int) : PV:=.int .i64 n
def vI (n : Int) : AV:=.p (.int .i64 n)
theorem lookI {hp : Heap} {id : Nat} {m : List (Int × Int)} {b : Int} (hh : hp[id]? = some (mobj kI vI m)) : oLook (none,[0]) false (AI 0) (.mp id) (AI b) hp = some (AI ((getM b m).getD 0)):=by
  have:=look_mes (key:=kI) (val:=vI) (fun a b=>keyI_int a b) hh (kk:=(none,[0])) (k:=b) keyOf_int (ok:=false) (z:=AI 0)
  rw [cond_false] at this
  refine this.trans ?_
  cases getM b m <;> rfl
theorem updI {hp : Heap} {id : Nat} {m : List (Int × Int)} {b v : Int} (hh : hp[id]? = some (mobj kI vI m)) : oMupd (none,[0]) (.mp id) (AI b) (AI v) hp = some (.und,hp.set id (mobj kI vI (updM b v m)),[]):=
  mupd_mes (key:=kI) (val:=vI) (fun a b=>keyI_int a b) hh (kk:=(none,[0])) (k:=b) keyOf_int (v:=v) rfl
end Go.Am
end
section
/- Products of fractions by prime factors: plain numbers. -/
set_option linter.all false
namespace Go.Am
def facK : Nat → Nat → Nat → List Nat
  | 0,_,_=>[]
  | k + 1,p,n=>if n ≤ 1 then [] else if n % p = 0 then p :: facK k p (n / p) else facK k (p + 1) n
def doneK : Nat → Nat → Nat → Bool
  | 0,_,n=>decide (n ≤ 1)
  | k + 1,p,n=>decide (n ≤ 1) || (if n % p = 0 then doneK k p (n / p) else doneK k (p + 1) n)
def powG (ks : List (Int × Int)) (q : Int) : Int:=(getM q ks).getD 0
def addP (by' : Int) (ks : List (Int × Int)) (p : Nat) : List (Int × Int):=updM (p : Int) (powG ks p + by') ks
def addAll (by' : Int) (ks : List (Int × Int)) (n : Nat) : List (Int × Int):=(facK 20 2 n).foldl (addP by') ks
theorem powG_add (by' : Int) (ks : List (Int × Int)) (p : Nat) (q : Int) : powG (addP by' ks p) q = powG ks q + if q = p then by' else 0:=by
  unfold addP
  unfold powG
  rw [get_upd]
  by_cases h : q = p
  · simp [h]
  · simp [h]
theorem powG_fold (by' : Int) (q : Nat) : ∀ (l : List Nat) (ks : List (Int × Int)),powG (l.foldl (addP by') ks) q = powG ks q + by' * (l.count q : Nat)
  | [],ks=>by simp
  | p :: l,ks=>by
    simp only [List.foldl_cons]
    rw [powG_fold by' q l,powG_add,List.count_cons]
    by_cases h : (q : Int) = p
    · have : (p == q) = true := by simp; omega
      rw [if_pos h,this]
      simp only [if_true,Int.natCast_add,Int.mul_add]
      omega
    · have : (p == q) = false := by simp; omega
      rw [if_neg h,this]
      simp
def KeysOk (N : Nat) (ks : List (Int × Int)) : Prop:=(keysM ks).Nodup ∧ ∀ q ∈ keysM ks,2 ≤ q ∧ q ≤ N
theorem keys_add {by' : Int} {N p : Nat} {ks : List (Int × Int)} (hp : 2 ≤ p ∧ p ≤ N) (h : KeysOk N ks) : KeysOk N (addP by' ks p):=by
  refine ⟨keys_nodup _ _ h.1,fun q hq=>?_⟩
  unfold addP at hq
  rw [keys_upd] at hq
  split at hq
  · exact h.2 q hq
  · rcases List.mem_append.1 hq with e | e
    · exact h.2 q e
    · rw [List.mem_singleton] at e
      omega
theorem keys_fold {by' : Int} {N : Nat} : ∀ (l : List Nat) {ks : List (Int × Int)},(∀ q ∈ l,2 ≤ q ∧ q ≤ N) → KeysOk N ks → KeysOk N (l.foldl (addP by') ks)
  | [],ks,_,h=>h
  | p :: l,ks,h1,h=>keys_fold l (fun q hq=>h1 q (by simp [hq])) (keys_add (h1 p (by simp)) h)
theorem fac_small : ∀ n : Fin 13,doneK 20 2 n.val = true ∧ (∀ q ∈ facK 20 2 n.val,2 ≤ q ∧ q ≤ 12):=by decide +kernel
def mostC (q : Nat) : Nat:=if q = 2 then 3 else if q = 3 then 2 else if q = 5 then 1 else if q = 7 then 1 else if q = 11 then 1 else 0
theorem count_small : ∀ n : Fin 13,∀ q : Fin 13,(facK 20 2 n.val).count q.val ≤ mostC q.val:=by decide +kernel
theorem count_most {n : Nat} (hn : n ≤ 12) (q : Nat) : (facK 20 2 n).count q ≤ mostC q:=by
  by_cases hq : q ≤ 12
  · exact count_small ⟨n,by omega⟩ ⟨q,by omega⟩
  · have h := (fac_small ⟨n, by omega⟩).2
    rw [List.count_eq_zero.2 (fun hm=>by have:=(h q hm).2; omega)]
    omega
theorem low_small : ∀ n : Fin 13,∀ m : Fin 13,∀ q : Fin 13,1 ≤ n.val → n.val ≤ m.val →
    ((facK 20 2 n.val).count q.val : Int) - (facK 20 2 m.val).count q.val = (facK 20 2 (n.val / Nat.gcd n.val m.val)).count q.val - (facK 20 2 (m.val / Nat.gcd n.val m.val)).count q.val:=by decide +kernel
def netC (t : Nat × Nat) (q : Nat) : Int:=((facK 20 2 t.1).count q : Int) - (facK 20 2 t.2).count q
def addPart (ks : List (Int × Int)) (t : Nat × Nat) : List (Int × Int):=addAll (-1) (addAll 1 ks t.1) t.2
theorem powG_part (ks : List (Int × Int)) (t : Nat × Nat) (q : Nat) : powG (addPart ks t) q = powG ks q + netC t q:=by
  unfold addPart addAll netC
  rw [powG_fold,powG_fold]
  omega
def sumC (l : List (Nat × Nat)) (q : Nat) : Int:=(l.map fun t=>netC t q).sum
theorem sumC_snoc (l : List (Nat × Nat)) (t : Nat × Nat) (q : Nat) : sumC (l ++ [t]) q = sumC l q + netC t q:=by
  unfold sumC
  simp
def lowN (t : Nat × Nat) : Nat × Nat:=(t.1 / Nat.gcd t.1 t.2,t.2 / Nat.gcd t.1 t.2)
def PartOk (t : Nat × Nat) : Prop:=1 ≤ t.1 ∧ t.1 ≤ t.2 ∧ t.2 ≤ 12
theorem net_low {t : Nat × Nat} (h : PartOk t) (q : Nat) : netC t q = netC (lowN t) q:=by
  obtain ⟨n,m⟩:=t
  obtain ⟨h1,h2,h3⟩:=h
  dsimp only at h1 h2 h3
  by_cases hq : q ≤ 12
  · exact low_small ⟨n,by omega⟩ ⟨m,by omega⟩ ⟨q,by omega⟩ h1 h2
  · have z : ∀ a, a ≤ 12 → (facK 20 2 a).count q = 0 := fun a ha => List.count_eq_zero.2 fun hm => by have := ((fac_small ⟨a, by omega⟩).2 q hm).2; omega
    have d1 : n / Nat.gcd n m ≤ n:=Nat.div_le_self _ _
    have d2 : m / Nat.gcd n m ≤ m:=Nat.div_le_self _ _
    unfold netC lowN
    dsimp only
    rw [z n (by omega),z m (by omega),z _ (by omega : n / Nat.gcd n m ≤ 12),z _ (by omega : m / Nat.gcd n m ≤ 12)]
theorem net_same {n : Nat} (q : Nat) : netC (n,n) q = 0:=by unfold netC; dsimp only; omega
theorem net_bd {t : Nat × Nat} (h : t.1 ≤ 12 ∧ t.2 ≤ 12) (q : Nat) : - (mostC q : Int) ≤ netC t q ∧ netC t q ≤ mostC q:=by
  have a:=count_most h.1 q
  have b:=count_most h.2 q
  unfold netC
  omega
theorem sumC_bd {l : List (Nat × Nat)} (h : ∀ t ∈ l,t.1 ≤ 12 ∧ t.2 ≤ 12) (q : Nat) : - (mostC q * l.length : Int) ≤ sumC l q ∧ sumC l q ≤ mostC q * l.length:=by
  induction l with
  | nil=>simp [sumC]
  | cons t l ih=>
    have i:=ih fun t ht=>h t (by simp [ht])
    have b:=net_bd (h t (by simp)) q
    have e : sumC (t :: l) q = netC t q + sumC l q:=by unfold sumC; simp
    rw [e,List.length_cons]
    have : ((mostC q : Int) * ((l.length + 1 : Nat) : Int)) = mostC q * l.length + mostC q:=by rw [Int.natCast_add,Int.mul_add]; omega
    omega
def prodI (l : List Int) : Int:=l.foldl (· * ·) 1
theorem prodI_from (l : List Int) (x : Int) : l.foldl (· * ·) x = x * prodI l:=by
  unfold prodI
  induction l generalizing x with
  | nil=>simp
  | cons y l ih=>simp only [List.foldl_cons]; rw [ih,ih (1 * y)]; simp [Int.mul_assoc]
theorem prodI_cons (y : Int) (l : List Int) : prodI (y :: l) = y * prodI l:=by
  show (y :: l).foldl (· * ·) 1 = _
  simp only [List.foldl_cons,Int.one_mul]
  exact prodI_from l y
theorem prodI_nil : prodI [] = 1:=rfl
theorem prodI_append (a b : List Int) : prodI (a ++ b) = prodI a * prodI b:=by
  induction a with
  | nil=>simp [prodI_nil]
  | cons x a ih=>rw [List.cons_append,prodI_cons,prodI_cons,ih,Int.mul_assoc]
theorem prodI_perm {a b : List Int} (h : a.Perm b) : prodI a = prodI b:=by
  induction h with
  | nil=>rfl
  | cons x _ ih=>rw [prodI_cons,prodI_cons,ih]
  | swap x y l=>simp only [prodI_cons]; rw [← Int.mul_assoc,← Int.mul_assoc,Int.mul_comm y x]
  | trans _ _ h1 h2=>exact h1.trans h2
theorem prodI_ones {α : Type} {f : α → Int} : ∀ {l : List α},(∀ x ∈ l,f x = 1) → prodI (l.map f) = 1
  | [],_=>rfl
  | x :: l,h=>by rw [List.map_cons,prodI_cons,h x (by simp),prodI_ones fun y hy=>h y (by simp [hy])]; rfl
theorem prodI_pos {α : Type} {f : α → Int} : ∀ {l : List α},(∀ x ∈ l,1 ≤ f x) → 1 ≤ prodI (l.map f)
  | [],_=>by simp [prodI_nil]
  | x :: l,h=>by
    rw [List.map_cons,prodI_cons]
    have h1:=h x (by simp)
    have h2:=prodI_pos fun y hy=>h y (List.mem_cons_of_mem _ hy)
    have:=Int.mul_le_mul h1 h2 (by omega) (by omega)
    omega
theorem prodI_le {α : Type} {f g : α → Int} : ∀ {l : List α},(∀ x ∈ l,1 ≤ f x ∧ f x ≤ g x) → prodI (l.map f) ≤ prodI (l.map g)
  | [],_=>by simp [prodI_nil]
  | x :: l,h=>by
    rw [List.map_cons,prodI_cons,List.map_cons,prodI_cons]
    have h1:=h x (by simp)
    have h2:=prodI_le fun y hy=>h y (List.mem_cons_of_mem _ hy)
    have h3:=prodI_pos fun y hy=>(h y (List.mem_cons_of_mem _ hy)).1
    exact Int.mul_le_mul h1.2 h2 (by omega) (by omega)
theorem prodI_among {α : Type} [DecidableEq α] {f : α → Int} {ks R : List α} (h1 : ks.Nodup) (h2 : R.Nodup) (h3 : ∀ q ∈ ks,q ∈ R) (h4 : ∀ q ∈ R,q ∉ ks → f q = 1) : prodI (R.map f) = prodI (ks.map f):=by
  have e1 : (R.filter (fun q=>decide (q ∈ ks)) ++ R.filter (fun q=>!decide (q ∈ ks))).Perm R:=List.filter_append_perm _ _
  have e2 : (R.filter (fun q=>decide (q ∈ ks))).Perm ks:=by
    rw [List.perm_ext_iff_of_nodup (h2.sublist List.filter_sublist) h1]
    intro q
    rw [List.mem_filter]
    exact ⟨fun h=>by simpa using h.2,fun h=>⟨h3 q h,by simpa using h⟩⟩
  rw [← prodI_perm (e1.map f),List.map_append,prodI_append,prodI_perm (e2.map f),prodI_ones (l:=R.filter (fun q=>!decide (q ∈ ks))) (fun q hq=>by
    rw [List.mem_filter] at hq
    exact h4 q hq.1 (by simpa using hq.2)),Int.mul_one]
def bigP (P : Nat → Int) (q : Nat) : Int:=(q : Int) ^ (P q).toNat
theorem bigP_pos {P : Nat → Int} {q : Nat} (h : 1 ≤ q) : 1 ≤ bigP P q:=by
  unfold bigP
  have : (0 : Int) < (q : Int) ^ (P q).toNat:=Int.pow_pos (by omega)
  omega
def topP (q : Nat) : Int:=(q : Int) ^ (3 * mostC q)
theorem topP_pos {q : Nat} (h : 1 ≤ q) : 1 ≤ topP q:=by
  unfold topP
  have : (0 : Int) < (q : Int) ^ (3 * mostC q):=Int.pow_pos (by omega)
  omega
theorem prod_bound {P : Nat → Int} (hP : ∀ q,P q ≤ 3 * mostC q) {ks : List Nat} (h1 : ks.Nodup) (h2 : ∀ q ∈ ks,2 ≤ q ∧ q ≤ 12) : prodI (ks.map (bigP P)) ≤ 1000000000000000:=by
  have a : prodI (ks.map (bigP P)) ≤ prodI (ks.map topP):=prodI_le fun q hq=>by
    have hq2:=h2 q hq
    refine ⟨bigP_pos (by omega),?_⟩
    unfold bigP topP
    have:=hP q
    exact_mod_cast Nat.pow_le_pow_right (by omega : 0 < q) (by omega : (P q).toNat ≤ 3 * mostC q)
  have b : prodI ((List.range' 2 11).map topP) = prodI (((List.range' 2 11).filter fun q=>decide (q ∈ ks)).map topP) * prodI (((List.range' 2 11).filter fun q=>!decide (q ∈ ks)).map topP):=by
    rw [← prodI_append,← List.map_append]
    exact (prodI_perm ((List.filter_append_perm (fun q=>decide (q ∈ ks)) (List.range' 2 11)).map _)).symm
  have c : ((List.range' 2 11).filter fun q=>decide (q ∈ ks)).Perm ks:=by
    rw [List.perm_ext_iff_of_nodup ((List.nodup_range' : (List.range' 2 11 1).Nodup).sublist List.filter_sublist) h1]
    intro q
    rw [List.mem_filter,List.mem_range'_1]
    exact ⟨fun h=>by simpa using h.2,fun h=>⟨by have:=h2 q h; omega,by simpa using h⟩⟩
  rw [prodI_perm (c.map _)] at b
  have d : 1 ≤ prodI (((List.range' 2 11).filter fun q=>!decide (q ∈ ks)).map topP):=prodI_pos fun q hq=>by
    rw [List.mem_filter,List.mem_range'_1] at hq
    exact topP_pos (by omega)
  have e : prodI ((List.range' 2 11).map topP) ≤ 1000000000000000:=by decide +kernel
  have f : 1 ≤ prodI (ks.map topP):=prodI_pos fun q hq=>by
    have:=h2 q hq
    exact topP_pos (by omega)
  generalize prodI (((List.range' 2 11).filter fun q=>!decide (q ∈ ks)).map topP) = D at *
  generalize prodI (ks.map topP) = F at *
  have g : F * 1 ≤ F * D:=Int.mul_le_mul_of_nonneg_left d (by omega)
  omega
end Go.Am
end
section
/- The product of fractions,the program's way: counting the prime factors. -/
open Go
set_option linter.all false
namespace Go.Am
variable {h : Heap} {K : Post}
attribute [-go_sem] oLook oMupd oMentry oMrange
theorem mod_1 {p : Nat} (hp : 2 ≤ p) {n : Nat} (hn : n ≤ 1) (h1 : 1 ≤ n) : n % p ≠ 0:=by
  have : n = 1:=by omega
  subst this
  rw [Nat.mod_eq_of_lt (by omega)]; omega
theorem fac_step {k p n : Nat} (h1 : 1 < n) (hm : n % p = 0) (hd : doneK k p n = true) : ∃ k',k = k' + 1 ∧ doneK k' p (n / p) = true ∧ facK k p n = p :: facK k' p (n / p):=by
  cases k with
  | zero=>simp [doneK] at hd; omega
  | succ k'=>
    refine ⟨k',rfl,?_,?_⟩
    · unfold doneK at hd
      simpa [hm,show ¬ n ≤ 1 by omega] using hd
    · rw [facK,if_neg (by omega),if_pos hm]
theorem fac_next {k p n : Nat} (h1 : 1 < n) (hm : n % p ≠ 0) (hd : doneK k p n = true) : ∃ k',k = k' + 1 ∧ doneK k' (p + 1) n = true ∧ facK k p n = facK k' (p + 1) n:=by
  cases k with
  | zero=>simp [doneK] at hd; omega
  | succ k'=>
    refine ⟨k',rfl,?_,?_⟩
    · unfold doneK at hd
      simpa [hm,show ¬ n ≤ 1 by omega] using hd
    · rw [facK,if_neg (by omega),if_neg hm]
theorem fac_done {k p n : Nat} (h1 : n ≤ 1) : facK k p n = [] ∧ doneK k p n = true:=by
  cases k with
  | zero=>exact ⟨rfl,by simp [doneK,h1]⟩
  | succ k'=>exact ⟨by rw [facK,if_pos h1],by unfold doneK; simp [h1]⟩
theorem tmod_nat (n p : Nat) : (n : Int).tmod p = (n % p : Nat):=by rw [Int.tmod_eq_emod_of_nonneg (by omega)]; rfl
theorem wrapN (m : Nat) (h : m < 9223372036854775808) : IntKind.i64.wrap (m : Int) = m:=i64_wrap _ (by omega) (by omega)
theorem tdiv_nat (n p : Nat) : (n : Int).tdiv p = (n / p : Nat):=by rw [Int.tdiv_eq_ediv_of_nonneg (by omega)]; rfl
set_option maxHeartbeats 1000000 in
theorem s_count (n : Nat) (b : Int) (ks : List (Int × Int)) (m id : Nat) (hn : n ≤ 12) (hb : b = 1 ∨ b = -1) (hk : ∀ q : Nat,-100 ≤ powG ks q ∧ powG ks q ≤ 100)
    (hm : h[m]? = some (.box [.mp id])) (hid : h[id]? = some (mobj kI vI ks)) :
    ACall X f_q00a [AI n,AI b,.ref m 0] h K = K (.tup []) (h.set id (mobj kI vI (addAll b ks n))) []:=by
  refine rule ?_
  have hne : m ≠ id:=by intro e; subst e; rw [hm] at hid; exact absurd hid (by simp [mobj])
  have hlt : id < h.length:=(List.getElem?_eq_some_iff.1 hid).1
  have hmm : ∀ o,(h.set id o)[m]? = some (.box [.mp id]):=fun o=>by rw [List.getElem?_set_ne (fun e=>hne e.symm)]; exact hm
  have hii : ∀ o,(h.set id o)[id]? = some o:=fun o=>by rw [List.getElem?_set_self hlt]
  have hss : ∀ o o',(h.set id o).set id o' = h.set id o':=fun o o'=>List.set_set ..
  rw [c_q00a rfl]
  have hd0:=(fac_small ⟨n,by omega⟩).1
  generalize hR : addAll b ks n = R
  have h0 : h = h.set id (mobj kI vI ks):=by
    apply List.ext_getElem?
    intro i
    by_cases hi : i = id
    · subst hi; rw [hii]; exact hid
    · rw [List.getElem?_set_ne (fun e=>hi e.symm)]
  simp only [d_q00a,go_sem]
  refine N_loop (fun t : Nat × Nat × Nat × List (Int × Int)=>⟨[(0,AI t.2.2.1),(1,AI b),(2,.ref m 0),(5,AI t.2.1)],h.set id (mobj kI vI t.2.2.2),[]⟩)
    (fun t=>2 ≤ t.2.1 ∧ t.2.1 + t.1 ≤ 40 ∧ t.2.2.1 ≤ 12 ∧ doneK t.1 t.2.1 t.2.2.1 = true ∧ (facK t.1 t.2.1 t.2.2.1).foldl (addP b) t.2.2.2 = R ∧ ∀ q : Nat,-140 + (t.1 : Int) ≤ powG t.2.2.2 q ∧ powG t.2.2.2 q ≤ 140 - (t.1 : Int))
    (fun t=>if t.2.2.1 ≤ 1 then 0 else t.1 + 1) (20,2,n,ks) (by dsimp only; rw [← h0]; rfl) ⟨by dsimp only; omega,by dsimp only; omega,hn,hd0,hR,fun q=>by have:=hk q; dsimp only; omega⟩ ?_
  rintro ⟨k,p,n,ms⟩ ⟨i1,i2,i3,i4,i5,i6⟩
  dsimp only at i1 i2 i3 i4 i5 i6 ⊢
  by_cases hn1 : n ≤ 1
  · have hf := (fac_done (k := k) (p := p) hn1).1
    rw [hf] at i5
    have i5 : ms = R:=i5
    have hg : ¬ (1 : Int) < n:=by omega
    simp only [go_sem,hg]
    rw [i5]
  · have hg : (1 : Int) < n := by omega
    simp only [go_sem,hg]
    refine N_loop (fun t : Nat × Nat × List (Int × Int)=>⟨[(0,AI t.2.1),(1,AI b),(2,.ref m 0),(5,AI p)],h.set id (mobj kI vI t.2.2),[]⟩)
      (fun t=>t.1 ≤ k ∧ (t.1 = k → t.2.1 = n) ∧ 1 ≤ t.2.1 ∧ t.2.1 ≤ 12 ∧ doneK t.1 p t.2.1 = true ∧ (facK t.1 p t.2.1).foldl (addP b) t.2.2 = R ∧ ∀ q : Nat,-140 + (t.1 : Int) ≤ powG t.2.2 q ∧ powG t.2.2 q ≤ 140 - (t.1 : Int))
      (fun t=>t.1) (k,n,ms) rfl ⟨Nat.le_refl _,fun _=>rfl,by dsimp only; omega,i3,i4,i5,i6⟩ ?_
    rintro ⟨k1,n1,m1⟩ ⟨j1,j2,j3,j4,j5,j6,j7⟩
    dsimp only at j1 j2 j3 j4 j5 j6 j7 ⊢
    have p0 : ((p : Int) = 0) = False:=by simp only [eq_iff_iff,iff_false]; omega
    have lk:=fun (hp : Heap) (hh : hp[id]? = some (mobj kI vI m1))=>lookI (b:=(p : Int)) hh
    have up:=fun (hp : Heap) (v : Int) (hh : hp[id]? = some (mobj kI vI m1))=>updI (b:=(p : Int)) (v:=v) hh
    have tm:=tmod_nat n1 p
    have td:=tdiv_nat n1 p
    have wm : IntKind.i64.wrap ((n1 % p : Nat) : Int) = ((n1 % p : Nat) : Int):=wrapN _ (Nat.lt_of_le_of_lt (Nat.mod_le n1 p) (by omega))
    have wd : IntKind.i64.wrap ((n1 / p : Nat) : Int) = ((n1 / p : Nat) : Int):=wrapN _ (Nat.lt_of_le_of_lt (Nat.div_le_self n1 p) (by omega))
    by_cases hz : n1 % p = 0
    · have hn2 : 1 < n1:=by
        rcases Nat.lt_or_ge 1 n1 with q | q
        · exact q
        · exact absurd hz (mod_1 i1 q j3)
      obtain ⟨k2,e2,d2,f2⟩:=fac_step hn2 hz j5
      rw [f2] at j6
      have hpw:=j7 p
      have wp : IntKind.i64.wrap ((getM (p : Int) m1).getD 0 + b) = powG m1 p + b:=i64_wrap (powG m1 p + b) (by omega) (by omega)
      have ez : ((n1 % p : Nat) : Int) = 0:=by omega
      simp only [go_sem,p0,tm,td,wm,wd,ez,hmm,hii,hss,lk,up,wp]
      refine ⟨(k2,n1 / p,addP b m1 p),rfl,⟨by dsimp only; omega,fun e=>by dsimp only at e; omega,?_,?_,d2,j6,fun q=>?_⟩,by dsimp only; omega⟩
      · exact Nat.div_pos (Nat.le_of_dvd (by omega) (Nat.dvd_of_mod_eq_zero hz)) (by omega)
      · have:=Nat.div_le_self n1 p; dsimp only; omega
      · have := j7 q
        rw [powG_add]
        dsimp only
        split <;> omega
    · have hz2 : ¬ (((n1 % p : Nat) : Int) = 0) := by omega
      have wq : IntKind.i64.wrap ((p : Int) + 1) = ((p + 1 : Nat) : Int):=i64_wrap _ (by omega) (by omega)
      simp only [go_sem,p0,tm,wm,hz2,wq]
      by_cases hn2 : n1 ≤ 1
      · refine ⟨(k1, p + 1, n1, m1), rfl, ⟨by dsimp only; omega, ?_, j4, (fac_done hn2).2, ?_, j7⟩, ?_⟩
        · have : k1 ≠ k := fun e => by have := j2 e; omega
          dsimp only; omega
        · rw [(fac_done hn2).1] at j6
          dsimp only
          rw [(fac_done hn2).1]; exact j6
        · dsimp only; rw [if_pos hn2,if_neg hn1]; omega
      · obtain ⟨k2, e2, d2, f2⟩ := fac_next (by omega) hz j5
        rw [f2] at j6
        refine ⟨(k2,p + 1,n1,m1),rfl,⟨by dsimp only; omega,by dsimp only; omega,j4,d2,j6,fun q=>?_⟩,?_⟩
        · have:=j7 q; dsimp only; omega
        · dsimp only; rw [if_neg hn2,if_neg hn1]; omega
end Go.Am
end
section
/- Deleting strings at the front of a row: printed by program. -/
open Go
set_option linter.unusedSimpArgs false
namespace Go.Am
attribute [-go_sem] PV.cells splice
variable {h : Heap} {K : Post}
end Go.Am
end
section
/- Recovered units,both ways. -/
open Go
set_option linter.all false
namespace Go.Am
variable {h : Heap} {K : Post}
theorem snoc_ind {α : Type} {P : List α → Prop} (h0 : P []) (h1 : ∀ xs x,P xs → P (xs ++ [x])) (l : List α) : P l:=by
  have key : ∀ l : List α,P l.reverse:=by
    intro l
    induction l with
    | nil=>exact h0
    | cons x l ih=>rw [List.reverse_cons]; exact h1 _ _ ih
  have:=key l.reverse
  rwa [List.reverse_reverse] at this
attribute [-go_sem] oLook oMupd oMentry oMrange
end Go.Am
end
section
/- The product of fractions,the program's way. -/
open Go
set_option linter.all false
namespace Go.Am
variable {h : Heap} {K : Post}
attribute [-go_sem] oLook oMupd oMentry oMrange
def frP (t : Nat × Nat) : PV:=.agg [eI t.1,eI t.2]
abbrev AFr (l : List (Nat × Nat)) : AV:=.p (.sl (some 2) (l.map frP))
def FrOk (t : Nat × Nat) : Prop:=t.1 ≤ t.2 ∧ 1 ≤ t.2 ∧ t.2 ≤ 12
def powM (l : List (Nat × Nat)) : List (Int × Int):=l.foldl addPart []
theorem powM_snoc (l : List (Nat × Nat)) (t : Nat × Nat) : powM (l ++ [t]) = addPart (powM l) t:=by unfold powM; simp
theorem powM_get (l : List (Nat × Nat)) (q : Nat) : powG (powM l) q = sumC l q:=by
  refine snoc_ind (P:=fun l=>powG (powM l) q = sumC l q) rfl (fun l t ih=>?_) l
  rw [powM_snoc,powG_part,ih,sumC_snoc]
theorem keys_all {b : Int} {ks : List (Int × Int)} {n : Nat} (hn : n ≤ 12) (h : KeysOk 12 ks) : KeysOk 12 (addAll b ks n):=keys_fold _ ((fac_small ⟨n,by omega⟩).2) h
theorem powM_keys (l : List (Nat × Nat)) : (∀ t ∈ l,FrOk t) → KeysOk 12 (powM l):=by
  refine snoc_ind (P:=fun l=>(∀ t ∈ l,FrOk t) → KeysOk 12 (powM l)) (fun _=>⟨List.nodup_nil,by simp [powM,keysM]⟩) (fun l t ih hl=>?_) l
  have ht:=hl t (by simp)
  unfold FrOk at ht
  rw [powM_snoc]
  exact keys_all (by omega) (keys_all (by omega) (ih fun t ht=>hl t (by simp [ht])))
def denF (l : List (Nat × Nat)) : Int:=prodI ((List.range' 2 11).map (bigP fun q=>- sumC l q))
def numF (l : List (Nat × Nat)) : Int:=prodI ((List.range' 2 11).map (bigP (sumC l)))
def kn (ks : List (Int × Int)) (i : Nat) : Nat:=((keysM ks).getD i 0).toNat
theorem kn_get {ks : List (Int × Int)} {i : Nat} (hi : i < ks.length) : kn ks i = ks[i].1.toNat:=by
  unfold kn keysM
  simp [List.getD_eq_getElem?_getD,hi]
theorem kn_bd {ks : List (Int × Int)} (hk : KeysOk 12 ks) {i : Nat} (hi : i < ks.length) : 2 ≤ kn ks i ∧ kn ks i ≤ 12 ∧ ks[i].1 = kn ks i:=by
  have:=hk.2 ks[i].1 (List.mem_map.2 ⟨_,List.getElem_mem hi,rfl⟩)
  rw [kn_get hi]
  omega
theorem kn_inj {ks : List (Int × Int)} (hk : KeysOk 12 ks) {i j : Nat} (hi : i < ks.length) (hj : j < ks.length) (e : kn ks i = kn ks j) : i = j:=by
  have a:=(kn_bd hk hi).2.2
  have b:=(kn_bd hk hj).2.2
  have c : (keysM ks)[i]'(by simpa [keysM] using hi) = (keysM ks)[j]'(by simpa [keysM] using hj):=by
    unfold keysM
    rw [List.getElem_map,List.getElem_map,a,b,e]
  exact (List.getElem_inj hk.1).1 c
theorem kn_nodup {ks : List (Int × Int)} (hk : KeysOk 12 ks) {s : List Nat} (hd : s.Nodup) (hb : ∀ i ∈ s,i < ks.length) : (s.map (kn ks)).Nodup:=by
  unfold List.Nodup
  rw [List.pairwise_map]
  exact List.Pairwise.imp_of_mem (fun ha hb2 hne e=>hne (kn_inj hk (hb _ ha) (hb _ hb2) e)) hd
theorem get_at {ks : List (Int × Int)} (hd : (keysM ks).Nodup) : ∀ {i : Nat} (hi : i < ks.length),getM ks[i].1 ks = some ks[i].2:=by
  induction ks with
  | nil=>intro i hi; simp at hi
  | cons e r ih=>
    rw [keys_cons,List.nodup_cons] at hd
    intro i hi
    cases i with
    | zero=>simp [getM]
    | succ i=>
      simp only [List.getElem_cons_succ]
      have hi2 : i < r.length:=by simpa using hi
      unfold getM
      rw [if_neg,ih hd.2 hi2]
      intro e2
      exact hd.1 (e2 ▸ List.mem_map.2 ⟨_,List.getElem_mem hi2,rfl⟩)
def dpart (S : Nat → Int) (ks : List (Int × Int)) (s : List Nat) : Int:=prodI ((s.map (kn ks)).map (bigP S))
theorem dpart_snoc (S : Nat → Int) (ks : List (Int × Int)) (s : List Nat) (i : Nat) : dpart S ks (s ++ [i]) = dpart S ks s * bigP S (kn ks i):=by
  unfold dpart
  rw [List.map_append,List.map_append,prodI_append]
  congr 1
  exact Int.one_mul _
theorem dpart_bd {S : Nat → Int} {ks : List (Int × Int)} (hS : ∀ q,S q ≤ 3 * mostC q) (hk : KeysOk 12 ks) {s : List Nat} (hd : s.Nodup) (hb : ∀ i ∈ s,i < ks.length) : 1 ≤ dpart S ks s ∧ dpart S ks s ≤ 1000000000000000:=by
  have hq : ∀ q ∈ s.map (kn ks),2 ≤ q ∧ q ≤ 12:=fun q hq=>by
    obtain ⟨i,hi,rfl⟩:=List.mem_map.1 hq
    have:=kn_bd hk (hb i hi)
    omega
  exact ⟨prodI_pos fun q h=>bigP_pos (by have:=hq q h; omega),prod_bound hS (kn_nodup hk hd hb) hq⟩
theorem dpart_full {S : Nat → Int} {ks : List (Int × Int)} (hk : KeysOk 12 ks) (hS : ∀ q : Nat,powG ks q = 0 → S q = 0) {s : List Nat} (hp : s.Perm (List.range ks.length)) : dpart S ks s = prodI ((List.range' 2 11).map (bigP S)):=by
  unfold dpart
  rw [prodI_perm ((hp.map (kn ks)).map (bigP S))]
  symm
  refine prodI_among (kn_nodup hk List.nodup_range fun i hi=>List.mem_range.1 hi) List.nodup_range' (fun q hq=>?_) fun q hq hn=>?_
  · obtain ⟨i, hi, rfl⟩ := List.mem_map.1 hq
    have:=kn_bd hk (List.mem_range.1 hi)
    rw [List.mem_range'_1]
    omega
  · have : powG ks q = 0:=by
      unfold powG
      cases hg : getM (q : Int) ks with
      | none=>rfl
      | some v=>
        have hm:=get_isSome.1 (by rw [hg]; rfl : (getM (q : Int) ks).isSome = true)
        obtain ⟨e,he,e2⟩:=List.mem_map.1 hm
        obtain ⟨i,hi,rfl⟩:=List.mem_iff_getElem.1 he
        exact absurd (List.mem_map.2 ⟨i,List.mem_range.2 hi,by rw [kn_get hi,e2]; rfl⟩) hn
    unfold bigP
    rw [hS q this]
    rfl
theorem mostC_le (q : Nat) : mostC q ≤ 3:=by unfold mostC; split <;> (try omega); split <;> (try omega); split <;> (try omega); split <;> (try omega); split <;> omega
theorem sumC_small {l : List (Nat × Nat)} (hl : ∀ t ∈ l,FrOk t) (h3 : l.length ≤ 3) (q : Nat) : -9 ≤ sumC l q ∧ sumC l q ≤ 9:=by
  have a:=sumC_bd (l:=l) (fun t ht=>by have:=hl t ht; unfold FrOk at this; omega) q
  have b:=mostC_le q
  have c : mostC q * l.length ≤ 3 * 3:=Nat.mul_le_mul b h3
  omega
theorem nodup_snoc {s : List Nat} {i : Nat} (hd : s.Nodup) (hni : i ∉ s) : (s ++ [i]).Nodup:=by
  rw [List.nodup_append]; exact ⟨hd,by simp,fun a ha b hb=>by rw [List.mem_singleton] at hb; subst hb; intro e; subst e; exact hni ha⟩
theorem below_snoc {s : List Nat} {i n : Nat} (hb : ∀ j ∈ s,j < n) (hi : i < n) : ∀ j ∈ s ++ [i],j < n:=fun x hx=>by
  rcases List.mem_append.1 hx with hx | hx
  · exact hb x hx
  · rw [List.mem_singleton] at hx; rw [hx]; exact hi
theorem seen_lt {s : List Nat} {i n : Nat} (hd : s.Nodup) (hb : ∀ j ∈ s,j < n) (hi : i < n) (hni : i ∉ s) : s.length < n:=by
  have h2:=(nodup_snoc hd hni).length_le_of_subset (l₂:=List.range n) (fun x hx=>List.mem_range.2 (below_snoc hb hi x hx))
  simp at h2
  omega
theorem pow_step {D : Int} {p c j : Nat} (hD : 1 ≤ D) (hp : 2 ≤ p) (hj : j < c) (hB : D * (p : Int) ^ c ≤ 1000000000000000) :
    1 ≤ D * (p : Int) ^ j ∧ D * (p : Int) ^ j ≤ 1000000000000000 ∧ D * (p : Int) ^ j * p = D * (p : Int) ^ (j + 1) ∧ D * (p : Int) ^ (j + 1) ≤ 1000000000000000 ∧ 1 ≤ D * (p : Int) ^ (j + 1) ∧ D * (p : Int) ^ j ≤ (1000000000000000 : Int).tdiv p:=by
  have e : D * (p : Int) ^ j * p = D * (p : Int) ^ (j + 1):=by rw [Int.pow_succ,Int.mul_assoc]
  have h1 : (p : Int) ^ (j + 1) ≤ (p : Int) ^ c:=by exact_mod_cast Nat.pow_le_pow_right (by omega) (by omega)
  have h2 : D * (p : Int) ^ (j + 1) ≤ D * (p : Int) ^ c:=Int.mul_le_mul_of_nonneg_left h1 (by omega)
  have h3 : ∀ k : Nat,1 ≤ D * (p : Int) ^ k:=fun k=>by
    have : (0 : Int) < (p : Int) ^ k:=Int.pow_pos (by omega)
    have:=Int.mul_pos (by omega : 0 < D) this
    omega
  have h4:=h3 j
  have h5 : D * (p : Int) ^ j ≤ D * (p : Int) ^ j * p:=by
    have:=Int.mul_le_mul_of_nonneg_left (by omega : (1 : Int) ≤ p) (by omega : 0 ≤ D * (p : Int) ^ j)
    rw [Int.mul_one] at this
    exact this
  refine ⟨h4,by omega,e,by omega,h3 _,?_⟩
  rw [Int.tdiv_eq_ediv_of_nonneg (by omega)]
  exact (Int.le_ediv_iff_mul_le (by omega)).2 (by omega)
set_option maxHeartbeats 4000000 in
theorem s_Product (l : List (Nat × Nat)) (hl : ∀ t ∈ l,FrOk t) (h3 : l.length ≤ 3) :
    ACall X f_q009 [AFr l] h K = K (.tup [.p (.agg (if l.any (fun t=>t.1 == 0) then [eI 0,eI 1] else [eI (numF l),eI (denF l)])),AB true]) h []:=by
  refine rule ?_
  rw [c_q009 rfl]
  simp only [d_q009]
  refine ⟨_,_,_,⟨rfl,rfl,rfl⟩,?_⟩
  have ee : escOf (h.length + 2) (.mp (h.length + 1)) = []:=by simp [escOf,AV.top]
  simp only [go_sem,ee]
  refine N_loop (fun k : Nat=>⟨[(2,.ref h.length 0),(4,.ref (h.length + 2) 0),(5,.fn f_q00a [.ref (h.length + 2) 0]),(15,AFr l),(16,AI l.length),(17,AI k)],h ++ [.box [AI 0,AI 0],mobj kI vI (powM (l.take k)),.box [.mp (h.length + 1)]],[]⟩)
    (fun k=>k ≤ l.length ∧ ∀ t ∈ l.take k,t.1 ≠ 0) (fun k=>l.length - k) 0 (by simp; rfl) ⟨by omega,by simp⟩ ?_
  rintro k ⟨hk,hz⟩
  rcases Nat.lt_or_ge k l.length with hlt | hge
  · have hg := map_get frP hlt
    have hmem:=List.getElem_mem hlt
    have hfr:=hl _ hmem
    have hsn:=powM_snoc (l.take k) l[k]
    have htk:=List.take_succ_eq_append_getElem hlt
    rw [← htk] at hsn
    have htl : ∀ t ∈ l.take k,FrOk t:=fun t ht=>hl t (List.mem_of_mem_take ht)
    have hsm:=fun q=>sumC_small htl (by rw [List.length_take]; omega) q
    generalize hc : l[k] = c at *
    obtain ⟨n,m⟩:=c
    have hfr2:=hfr
    unfold FrOk at hfr2
    dsimp only at hfr2
    have cx : cutP (some 2) 0 (frP (n,m)) = some (frP (n,m)):=rfl
    simp only [frP] at hg cx
    have w2 : IntKind.i64.wrap ((k : Int) + 1) = ((k + 1 : Nat) : Int):=i64_wrap _ (by omega) (by omega)
    by_cases hn0 : n = 0
    · subst hn0
      have ha : l.any (fun t=>t.1 == 0) = true:=List.any_eq_true.2 ⟨_,hmem,rfl⟩
      have i0 : ((0 : Nat) : Int) = 0:=rfl
      simp only [i0] at hg cx
      simp only [go_sem,hlt,hg,cx,ha]
      done
    · have hn1 : ¬ ((n : Int) = 0) := by omega
      have e0 : ∀ (a b o o' : Obj) (f : Obj),(h ++ [a,o,b,f]).set (h.length + 1) o' = h ++ [a,o',b,f]:=fun a b o o' f=>by rw [List.set_append_right _ _ (by omega)]; simp
      have c1:=fun K=>s_count (h:=h ++ [.box [AI 0,AI 0],mobj kI vI (powM (l.take k)),.box [.mp (h.length + 1)],.box [AI n,AI m]]) (K:=K) n 1 (powM (l.take k)) (h.length + 2) (h.length + 1) (by omega) (.inl rfl) (fun q=>by rw [powM_get]; have:=hsm q; omega) (by simp) (by simp)
      have c2:=fun K=>s_count (h:=h ++ [.box [AI 0,AI 0],mobj kI vI (addAll 1 (powM (l.take k)) n),.box [.mp (h.length + 1)],.box [AI n,AI m]]) (K:=K) m (-1) (addAll 1 (powM (l.take k)) n) (h.length + 2) (h.length + 1) (by omega) (.inr rfl) (fun q=>by
        unfold addAll; rw [powG_fold,powM_get]; have:=hsm q; have h2:=count_most (show n ≤ 12 by omega) q; have h3:=mostC_le q; omega) (by simp) (by simp)
      simp only [e0] at c1 c2
      simp only [go_sem,hlt,hg,cx,hn1,c1,c2,w2]
      refine ⟨k + 1,by rw [hsn]; rfl,⟨by omega,fun t ht=>?_⟩,by omega⟩
      rw [htk] at ht
      rcases List.mem_append.1 ht with q | q
      · exact hz t q
      · rw [List.mem_singleton] at q; subst q; exact hn0
  · have ek : k = l.length := by omega
    subst ek
    rw [List.take_length] at *
    have hany : l.any (fun t=>t.1 == 0) = false:=by
      rw [Bool.eq_false_iff]; intro hh; obtain ⟨t,ht,e⟩:=List.any_eq_true.1 hh; exact hz t ht (by simpa using e)
    have hks:=powM_keys l hl
    have hpg:=powM_get l
    have hsm:=fun q=>sumC_bd (l:=l) (fun t ht=>by have:=hl t ht; unfold FrOk at this; omega) q
    have hS1 : ∀ q,(fun q=>- sumC l q) q ≤ 3 * mostC q:=fun q=>by have:=hsm q; have h5 : mostC q * l.length ≤ mostC q * 3:=Nat.mul_le_mul (Nat.le_refl _) h3; dsimp only; omega
    have hS2 : ∀ q,sumC l q ≤ 3 * mostC q:=fun q=>by have:=hsm q; have h5 : mostC q * l.length ≤ mostC q * 3:=Nat.mul_le_mul (Nat.le_refl _) h3; omega
    have hZ1 : ∀ q : Nat,powG (powM l) q = 0 → (fun q=>- sumC l q) q = 0:=fun q hq=>by rw [hpg] at hq; dsimp only; omega
    have hZ2 : ∀ q : Nat,powG (powM l) q = 0 → sumC l q = 0:=fun q hq=>by rw [hpg] at hq; exact hq
    have hF1:=fun s=>@dpart_full (fun q=>- sumC l q) (powM l) hks hZ1 s
    have hF2:=fun s=>@dpart_full (sumC l) (powM l) hks hZ2 s
    have hB1:=fun s=>@dpart_bd (fun q=>- sumC l q) (powM l) hS1 hks s
    have hB2:=fun s=>@dpart_bd (sumC l) (powM l) hS2 hks s
    have hN1:=dpart_snoc (fun q=>- sumC l q) (powM l)
    have hN2:=dpart_snoc (sumC l) (powM l)
    have hval : ∀ i (hi : i < (powM l).length),(powM l)[i].2 = sumC l (kn (powM l) i):=fun i hi=>by
      have a:=get_at hks.1 hi
      have b:=(kn_bd hks hi).2.2
      rw [b] at a
      have c:=hpg (kn (powM l) i)
      unfold powG at c
      rw [a] at c
      exact c
    have hkey : ∀ i (hi : i < (powM l).length),2 ≤ kn (powM l) i ∧ kn (powM l) i ≤ 12 ∧ (powM l)[i].1 = kn (powM l) i:=fun i hi=>kn_bd hks hi
    have hsm9:=fun q=>sumC_small hl h3 q
    change (∀ s : List Nat,s.Perm (List.range (powM l).length) → dpart (fun q=>- sumC l q) (powM l) s = denF l) at hF1
    change (∀ s : List Nat,s.Perm (List.range (powM l).length) → dpart (sumC l) (powM l) s = numF l) at hF2
    clear hZ1 hZ2 hS1 hS2 hpg hks
    generalize hD1 : dpart (fun q=>- sumC l q) (powM l) = D1 at *
    generalize hD2 : dpart (sumC l) (powM l) = D2 at *
    generalize hkn : kn (powM l) = kq at *
    generalize hks : powM l = ks at *
    have mr:=mrange_mes (h:=h ++ [.box [AI 0,AI 0],mobj kI vI ks,.box [.mp (h.length + 1)],.box [AI 1,AI 1]]) (id:=h.length + 1) (key:=kI) (val:=vI) (l:=ks) (by simp)
    have e4 : (h ++ [.box [AI 0,AI 0],mobj kI vI ks,.box [.mp (h.length + 1)],.box [AI 1,AI 1]]).length = h.length + 4:=by simp
    rw [e4] at mr
    simp only [go_sem,Nat.lt_irrefl,mr]
    have D10 : D1 [] = 1:=by rw [← hD1]; rfl
    have D20 : D2 [] = 1:=by rw [← hD2]; rfl
    clear hD1 hD2 hks hkn
    refine N_loop (fun t : List Nat × Option (Nat × Int × Nat)=>⟨match t.2 with
        | none=>[(2,.ref h.length 0),(4,.ref (h.length + 2) 0),(8,.ref (h.length + 3) 0),(36,.it (h.length + 4))]
        | some x=>[(2,.ref h.length 0),(4,.ref (h.length + 2) 0),(8,.ref (h.length + 3) 0),(9,AI x.1),(36,.it (h.length + 4)),(43,AI (-x.2.1)),(44,AI x.2.2),(45,AB false)],
        h ++ [.box [AI 0,AI 0],mobj kI vI ks,.box [.mp (h.length + 1)],.box [AI 1,AI (D1 t.1)],.iter (some (h.length + 1)) ks.length t.1 ks.length],[]⟩)
      (fun t=>t.1.Nodup ∧ ∀ i ∈ t.1,i < ks.length) (fun t=>ks.length - t.1.length) ([],none) (by dsimp only; rw [D10]) ⟨List.nodup_nil,by simp⟩ ?_
    rintro ⟨s,e⟩ ⟨hd,hb⟩
    dsimp only at hd hb ⊢
    rcases e with _ | ⟨x1,x2,x3⟩
    all_goals dsimp only
    all_goals simp only [go_sem]
    all_goals
      have eI : ∀ (a b c f o o' : Obj),(h ++ [a,b,c,f,o]).set (h.length + 4) o' = h ++ [a,b,c,f,o']:=fun a b c f o o'=>by rw [List.set_append_right _ _ (by omega)]; simp
      refine nx_mes (key:=kI) (val:=vI) (l:=ks) (m:=h.length + 1) (seen:=s) (by simp) (by simp) ?_ ?_
      · intro hall
        have hp:=seen_perm hd hb hall
        rw [hF1 s hp,eI]
        have mr:=mrange_mes (h:=h ++ [.box [AI 0,AI 0],mobj kI vI ks,.box [.mp (h.length + 1)],.box [AI 1,AI (denF l)],.iter none 1 [] 0]) (id:=h.length + 1) (key:=kI) (val:=vI) (l:=ks) (by simp)
        have e4 : (h ++ [.box [AI 0,AI 0],mobj kI vI ks,.box [.mp (h.length + 1)],.box [AI 1,AI (denF l)],.iter none 1 [] 0]).length = h.length + 5:=by simp
        rw [e4] at mr
        simp only [go_sem,mr]
        refine N_loop (fun t : List Nat × Option (Nat × Int × Nat)=>⟨match t.2 with
            | none=>[(2,.ref h.length 0),(8,.ref (h.length + 3) 0),(59,.it (h.length + 5))]
            | some x=>[(2,.ref h.length 0),(8,.ref (h.length + 3) 0),(11,AI x.1),(59,.it (h.length + 5)),(65,AI x.2.1),(66,AI x.2.2),(67,AB false)],
            h ++ [.box [AI 0,AI 0],mobj kI vI ks,.box [.mp (h.length + 1)],.box [AI (D2 t.1),AI (denF l)],.iter none 1 [] 0,.iter (some (h.length + 1)) ks.length t.1 ks.length],[]⟩)
          (fun t=>t.1.Nodup ∧ ∀ i ∈ t.1,i < ks.length) (fun t=>ks.length - t.1.length) ([],none) (by dsimp only; rw [D20]) ⟨List.nodup_nil,by simp⟩ ?_
        clear s hd hb hall hp mr e4 eI
        rintro ⟨s,e⟩ ⟨hd,hb⟩
        dsimp only at hd hb ⊢
        rcases e with _ | ⟨y1,y2,y3⟩
        all_goals dsimp only
        all_goals simp only [go_sem]
        all_goals
          have eI : ∀ (a b c f g o o' : Obj),(h ++ [a,b,c,f,g,o]).set (h.length + 5) o' = h ++ [a,b,c,f,g,o']:=fun a b c f g o o'=>by rw [List.set_append_right _ _ (by omega)]; simp
          refine nx_mes (key:=kI) (val:=vI) (l:=ks) (m:=h.length + 1) (seen:=s) (by simp) (by simp) ?_ ?_
          · intro hall
            have hp:=seen_perm hd hb hall
            rw [hF2 s hp,eI]
            simp only [go_sem]
            rw [hany]
            rfl
          · intro i hi hni
            rw [eI]
            have me:=mentry_mes (h:=h ++ [.box [AI 0,AI 0],mobj kI vI ks,.box [.mp (h.length + 1)],.box [AI (D2 s),AI (denF l)],.iter none 1 [] 0,.iter (some (h.length + 1)) ks.length (s ++ [i]) ks.length]) (j:=h.length + 5) (m:=h.length + 1) (key:=kI) (val:=vI) (l:=ks) (seen:=s) (i:=i) (by simp) (by simp) hi
            have hk3:=hkey i hi
            rw [hval i hi,hk3.2.2] at me
            rw [hval i hi,hk3.2.2]
            have hsl:=seen_lt hd hb hi hni
            have hdn:=nodup_snoc hd hni
            have hbn:=below_snoc hb hi
            have b0:=hB2 s hd hb
            have b1:=hB2 _ hdn hbn
            have bn:=hN2 s i
            unfold bigP at bn
            have hv:=hsm9 (kq i)
            generalize kq i = p at *
            generalize sumC l p = v at *
            have vIe : ∀ x : Int,vI x = AI x:=fun _=>rfl
            have kIe : ∀ x : Int,kI x = PV.int .i64 x:=fun _=>rfl
            simp only [kIe,vIe] at me ⊢
            simp only [go_sem,me]
            refine N_loop (fun j : Nat=>⟨[(2,.ref h.length 0),(8,.ref (h.length + 3) 0),(11,AI p),(59,.it (h.length + 5)),(65,AI v),(66,AI j)],h ++ [.box [AI 0,AI 0],mobj kI vI ks,.box [.mp (h.length + 1)],.box [AI (D2 s * (p : Int) ^ j),AI (denF l)],.iter none 1 [] 0,.iter (some (h.length + 1)) ks.length (s ++ [i]) ks.length],[]⟩)
              (fun j=>j ≤ v.toNat) (fun j=>v.toNat - j) 0 (by rw [Int.pow_zero,Int.mul_one]; rfl) (by omega) ?_
            intro j hj
            by_cases hjc : j < v.toNat
            · have hps := pow_step (D := D2 s) (p := p) (c := v.toNat) (j := j) b0.1 hk3.1 hjc (by rw [← bn]; exact b1.2)
              obtain ⟨g1,g2,g3,g4,g5,g6⟩:=hps
              have hjv : ((j : Int) < v) = True:=by simp only [eq_iff_iff,iff_true]; omega
              have wm : IntKind.i64.wrap (D2 s * (p : Int) ^ (j + 1)) = D2 s * (p : Int) ^ (j + 1):=i64_wrap _ (by omega) (by omega)
              have wj : IntKind.i64.wrap ((j : Int) + 1) = ((j + 1 : Nat) : Int):=i64_wrap _ (by omega) (by omega)
              simp only [go_sem,hjv,g3,wm,wj]
              exact ⟨j + 1,rfl,by omega,by omega⟩
            · have ej : j = v.toNat := by omega
              have hjv : ((j : Int) < v) = False:=by simp only [eq_iff_iff,iff_false]; omega
              simp only [go_sem,hjv]
              rw [ej,← bn]
              exact ⟨(s ++ [i],some (p,v,v.toNat)),rfl,⟨hdn,hbn⟩,by dsimp only; simp; omega⟩
      · intro i hi hni
        rw [eI]
        have me:=mentry_mes (h:=h ++ [.box [AI 0,AI 0],mobj kI vI ks,.box [.mp (h.length + 1)],.box [AI 1,AI (D1 s)],.iter (some (h.length + 1)) ks.length (s ++ [i]) ks.length]) (j:=h.length + 4) (m:=h.length + 1) (key:=kI) (val:=vI) (l:=ks) (seen:=s) (i:=i) (by simp) (by simp) hi
        have hk3:=hkey i hi
        rw [hval i hi,hk3.2.2] at me
        rw [hval i hi,hk3.2.2]
        have hsl:=seen_lt hd hb hi hni
        have hdn:=nodup_snoc hd hni
        have hbn:=below_snoc hb hi
        have b0:=hB1 s hd hb
        have b1:=hB1 _ hdn hbn
        have bn:=hN1 s i
        unfold bigP at bn
        dsimp only at bn
        have hv:=hsm9 (kq i)
        generalize kq i = p at *
        generalize sumC l p = v at *
        have wn : IntKind.i64.wrap (-v) = -v:=i64_wrap _ (by omega) (by omega)
        have vIe : ∀ x : Int,vI x = AI x:=fun _=>rfl
        have kIe : ∀ x : Int,kI x = PV.int .i64 x:=fun _=>rfl
        simp only [kIe,vIe] at me ⊢
        simp only [go_sem,me,wn]
        refine N_loop (fun j : Nat=>⟨[(2,.ref h.length 0),(4,.ref (h.length + 2) 0),(8,.ref (h.length + 3) 0),(9,AI p),(36,.it (h.length + 4)),(43,AI (-v)),(44,AI j)],h ++ [.box [AI 0,AI 0],mobj kI vI ks,.box [.mp (h.length + 1)],.box [AI 1,AI (D1 s * (p : Int) ^ j)],.iter (some (h.length + 1)) ks.length (s ++ [i]) ks.length],[]⟩)
          (fun j=>j ≤ (-v).toNat) (fun j=>(-v).toNat - j) 0 (by rw [Int.pow_zero,Int.mul_one]; rfl) (by omega) ?_
        intro j hj
        have p0 : ((p : Int) = 0) = False:=by simp only [eq_iff_iff,iff_false]; omega
        have wd : IntKind.i64.wrap ((1000000000000000 : Int).tdiv p) = (1000000000000000 : Int).tdiv p:=by
          have:=Int.tdiv_eq_ediv_of_nonneg (a:=1000000000000000) (b:=(p : Int)) (by omega)
          have h1:=Int.ediv_nonneg (show (0 : Int) ≤ 1000000000000000 by omega) (show (0 : Int) ≤ p by omega)
          have h2:=Int.ediv_le_self (p : Int) (show (0 : Int) ≤ 1000000000000000 by omega)
          exact i64_wrap _ (by omega) (by omega)
        by_cases hjc : j < (-v).toNat
        · have hps := pow_step (D := D1 s) (p := p) (c := (-v).toNat) (j := j) b0.1 hk3.1 hjc (by rw [← bn]; exact b1.2)
          obtain ⟨g1,g2,g3,g4,g5,g6⟩:=hps
          have hjv : ((j : Int) < -v) = True:=by simp only [eq_iff_iff,iff_true]; omega
          have hno : ((1000000000000000 : Int).tdiv p < D1 s * (p : Int) ^ j) = False:=by simp only [eq_iff_iff,iff_false]; omega
          have wm : IntKind.i64.wrap (D1 s * (p : Int) ^ (j + 1)) = D1 s * (p : Int) ^ (j + 1):=i64_wrap _ (by omega) (by omega)
          have wj : IntKind.i64.wrap ((j : Int) + 1) = ((j + 1 : Nat) : Int):=i64_wrap _ (by omega) (by omega)
          simp only [go_sem,hjv,p0,wd,hno,g3,wm,wj]
          exact ⟨j + 1,rfl,by omega,by omega⟩
        · have ej : j = (-v).toNat := by omega
          have hjv : ((j : Int) < -v) = False:=by simp only [eq_iff_iff,iff_false]; omega
          simp only [go_sem,hjv]
          rw [ej,← bn]
          exact ⟨(s ++ [i],some (p,v,(-v).toNat)),rfl,⟨hdn,hbn⟩,by dsimp only; simp; omega⟩
end Go.Am
end
