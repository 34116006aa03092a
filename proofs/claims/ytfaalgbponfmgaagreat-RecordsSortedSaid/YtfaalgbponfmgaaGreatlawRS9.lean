/- Texts of the proof, laid together: SpRec, SpSortRec, SpCompact, SpGenR, PMerge, SpMrgA, SpLen, SpSort, SpMrgB, SpMrgC, SpMrgD, SpMrgE, SpMrgF, SpMrgG, SpDel, PTight, SpVal, SpTight, SpTightQ, SpBin, SpLawLT, SpLawRS, SpLawRS2, Bridge. -/
import Derived.ProofKit
import Derived.Test.YtfaalgbponfmgaaGreatlawRS8
set_option linter.all false
section
/- Records: what is wrong with them, both ways. -/
open Go
set_option linter.unusedSimpArgs false
namespace Go.Am
variable {h : Heap} {K : Post}
theorem s_rf1 (n : Int) : ACall X f_lot_recordFault_1 [AI n] h K = K (AB (!isM n)) h [] := by
  refine rule ?_
  rw [c_lot_recordFault_1 rfl]
  simp only [d_lot_recordFault_1, go_sem, s_isMeasure]
theorem s_rrf1 (n : Int) : ACall X f_scanref2_recordFault_1 [AI n] h K = K (AB (!isM n)) h [] := by
  refine rule ?_
  rw [c_scanref2_recordFault_1 rfl]
  simp only [d_scanref2_recordFault_1, go_sem, s_in]
  rfl
theorem s_recordFault (l : List Lim) (r : Rec) (hl : LimOk l) (hr : RecOk r) : ACall X f_lot_recordFault [ALim l, .p r.pv] h K = K (AI (recFault l r)) h [] := by
  refine rule ?_
  rw [c_lot_recordFault rfl]
  have ku := fun h K => s_Key (h := h) (K := K) r.unit (by have := hr.u; omega)
  have ks := fun h K => s_Key (h := h) (K := K) r.site (by have := hr.s; omega)
  have cf := fun h K => ContainsFunc_int (h := h) (K := K) (g := f_lot_recordFault_1) (caps := []) (p := noM) (xs := r.res.map eI) (fun x hx K => by obtain ⟨n, _, rfl⟩ := List.mem_map.1 hx; exact s_rf1 n) all_eI' (by have := hr.n; simp; omega)
  have cp := fun h K => s_complete (h := h) (K := K) l r hl.n hr.n
  rw [any_noM] at cf
  simp only [Rec.pv] at cp
  unfold recFault
  cases h1 : keyB r.unit with
  | false => simp only [d_lot_recordFault, Rec.pv, go_sem, ↓ku, ku, h1]
  | true =>
    cases h2 : keyB r.site with
    | false => simp only [d_lot_recordFault, Rec.pv, go_sem, ↓ku, ku, ↓ks, ks, h1, h2]
    | true =>
      cases h3 : momentB r.time with
      | false => simp only [d_lot_recordFault, Rec.pv, go_sem, ↓ku, ku, ↓ks, ks, h1, h2, s_Moment, h3]
      | true =>
        cases h4 : r.res.all isM with
        | false => simp only [d_lot_recordFault, Rec.pv, go_sem, ↓ku, ku, ↓ks, ks, h1, h2, s_Moment, h3, ↓cf, cf, h4]
        | true =>
          cases h5 : formB l r.res with
          | false => simp only [d_lot_recordFault, Rec.pv, go_sem, ↓ku, ku, ↓ks, ks, h1, h2, s_Moment, h3, ↓cf, cf, h4, ↓cp, cp, h5]
          | true => simp only [d_lot_recordFault, Rec.pv, go_sem, ↓ku, ku, ↓ks, ks, h1, h2, s_Moment, h3, ↓cf, cf, h4, ↓cp, cp, h5]
theorem s_refFails (l : List Lim) (res : List Int) (hl : l.length ≤ 1000) (hr : res.length ≤ 1000) : ACall X f_scanref2_fails [ALim l, AL res] h K = K (AI (failIdx l res)) h [] := by
  refine rule ?_
  rw [c_scanref2_fails rfl]
  simp only [d_scanref2_fails, go_sem]
  refine N_loop (fun k : Nat => ⟨[(0, ALim l), (7, AL res), (8, AI res.length), (9, AI k)], h, []⟩) (fun k => k ≤ res.length ∧ okTo l res k) (fun k => res.length - k) 0 rfl ⟨by omega, fun i hi => by omega⟩ ?_
  rintro k ⟨hk, hok⟩
  rcases Nat.lt_or_ge k res.length with hlt | hge
  · have g2 := map_get eI hlt
    have w2 : IntKind.i64.wrap ((k : Int) + 1) = ((k + 1 : Nat) : Int) := i64_wrap _ (by omega) (by omega)
    rcases Nat.lt_or_ge k l.length with hkl | hkl
    · have g1 := map_get Lim.pv hkl
      have gg := goods_get (l := l) (res := res) hkl hlt
      unfold good at gg
      cases hg : inB l[k].lo res[k] l[k].hi with
      | false =>
        rw [hg] at gg
        simp only [go_sem, hlt, hkl, g1, g2, Lim.pv, s_inB, hg]
        rw [failIdx_of hok gg]
      | true =>
        simp only [go_sem, hlt, hkl, g1, g2, Lim.pv, s_inB, hg, w2]
        refine ⟨k + 1, rfl, ⟨by omega, fun i hi => ?_⟩, by omega⟩
        rcases Nat.lt_or_ge i k with h3 | h3
        · exact hok i h3
        · have : i = k := by omega
          subst this; rw [gg, hg]; simp
    · have hkl' : ¬ k < l.length := by omega
      simp only [go_sem, hlt, hkl', g2, w2]
      refine ⟨k + 1, rfl, ⟨by omega, fun i hi => ?_⟩, by omega⟩
      rcases Nat.lt_or_ge i k with h3 | h3
      · exact hok i h3
      · have : (goods l res)[i]? = none := List.getElem?_eq_none (by simp [goods]; omega)
        rw [this]; simp
  · have ek : k = res.length := by omega
    subst ek
    have : okTo l res (goods l res).length := fun i hi => hok i (by simp [goods] at hi; omega)
    simp only [go_sem, Nat.lt_irrefl]
    rw [failIdx_none this]
set_option maxHeartbeats 1000000 in
theorem s_refRecordFault (l : List Lim) (r : Rec) (hl : LimOk l) (hr : RecOk r) : ACall X f_scanref2_recordFault [ALim l, .p r.pv] h K = K (AI (recFault l r)) h [] := by
  refine rule ?_
  rw [c_scanref2_recordFault rfl]
  have ku := fun h K => s_refKey (h := h) (K := K) r.unit (by have := hr.u; omega)
  have ks := fun h K => s_refKey (h := h) (K := K) r.site (by have := hr.s; omega)
  have cf := fun h K => ContainsFunc_int (h := h) (K := K) (g := f_scanref2_recordFault_1) (caps := []) (p := noM) (xs := r.res.map eI) (fun x hx K => by obtain ⟨n, _, rfl⟩ := List.mem_map.1 hx; exact s_rrf1 n) all_eI' (by have := hr.n; simp; omega)
  have fl := fun h K => s_refFails (h := h) (K := K) l r.res hl.n hr.n
  rw [any_noM] at cf
  have hw : IntKind.i64.wrap ((r.res.length : Int) - 1) = (r.res.length : Int) - 1 := i64_wrap _ (by omega) (by have := hr.n; omega)
  unfold recFault
  cases h1 : keyB r.unit with
  | false => simp only [d_scanref2_recordFault, Rec.pv, go_sem, ↓ku, ku, h1]
  | true =>
    cases h2 : keyB r.site with
    | false => simp only [d_scanref2_recordFault, Rec.pv, go_sem, ↓ku, ku, ↓ks, ks, h1, h2]
    | true =>
      cases h3 : momentB r.time with
      | false => simp only [d_scanref2_recordFault, Rec.pv, go_sem, ↓ku, ku, ↓ks, ks, h1, h2, s_refMoment, h3]
      | true =>
        cases h4 : r.res.all isM with
        | false => simp only [d_scanref2_recordFault, Rec.pv, go_sem, ↓ku, ku, ↓ks, ks, h1, h2, s_refMoment, h3, ↓cf, cf, h4]
        | true =>
          unfold formB
          generalize failIdx l r.res = w at *
          cases h5 : inB 1 r.res.length l.length with
          | false => simp only [d_scanref2_recordFault, Rec.pv, go_sem, ↓ku, ku, ↓ks, ks, h1, h2, s_refMoment, h3, ↓cf, cf, h4, ↓fl, fl, s_inB, h5]
          | true =>
            by_cases h6 : 0 ≤ w
            · have h6' : ¬ w < 0 := by omega
              by_cases h7 : w = (r.res.length : Int) - 1
              · simp only [d_scanref2_recordFault, Rec.pv, go_sem, ↓ku, ku, ↓ks, ks, h1, h2, s_refMoment, h3, ↓cf, cf, h4, ↓fl, fl, s_inB, h5, h6, h6', hw, eq_true h7]
              · simp only [d_scanref2_recordFault, Rec.pv, go_sem, ↓ku, ku, ↓ks, ks, h1, h2, s_refMoment, h3, ↓cf, cf, h4, ↓fl, fl, s_inB, h5, h6, h6', hw, h7]
            · have h6' : w < 0 := by omega
              by_cases h7 : (r.res.length : Int) = l.length
              · simp only [d_scanref2_recordFault, Rec.pv, go_sem, ↓ku, ku, ↓ks, ks, h1, h2, s_refMoment, h3, ↓cf, cf, h4, ↓fl, fl, s_inB, h5, h6, h6', eq_true h7]
              · simp only [d_scanref2_recordFault, Rec.pv, go_sem, ↓ku, ku, ↓ks, ks, h1, h2, s_refMoment, h3, ↓cf, cf, h4, ↓fl, fl, s_inB, h5, h6, h6', h7]
/-! ### the order of records -/
def orL : List Int → Int
  | [] => 0
  | x :: r => if x ≠ 0 then x else orL r
theorem s_cmpOr (l : List Int) (hl : l.length ≤ 1000) : ACall X f_cmp_Or_int [AL l] h K = K (AI (orL l)) h [] := by
  refine rule ?_
  rw [c_cmp_Or_int rfl]
  simp only [d_cmp_Or_int, go_sem]
  refine N_loop (fun k : Nat => ⟨[(3, AI 0), (6, AL l), (7, AI l.length), (8, AI k)], h, []⟩) (fun k => k ≤ l.length ∧ orL (l.drop k) = orL l) (fun k => l.length - k) 0 rfl ⟨by omega, rfl⟩ ?_
  rintro k ⟨hk, hp⟩
  rcases Nat.lt_or_ge k l.length with hlt | hge
  · have g2 := map_get eI hlt
    have w2 : IntKind.i64.wrap ((k : Int) + 1) = ((k + 1 : Nat) : Int) := i64_wrap _ (by omega) (by omega)
    rw [List.drop_eq_getElem_cons hlt, orL] at hp
    by_cases hz : l[k] = 0
    · rw [if_neg (by simp [hz])] at hp
      simp only [go_sem, hlt, g2, hz, w2]
      exact ⟨k + 1, rfl, ⟨by omega, hp⟩, by omega⟩
    · rw [if_pos hz] at hp
      simp only [go_sem, hlt, g2, hz]
      rw [hp]
  · have ek : k = l.length := by omega
    subst ek
    rw [List.drop_length] at hp
    simp only [go_sem, Nat.lt_irrefl]
    rw [← hp]; rfl
theorem s_byTime (a b : Rec) : ACall X f_lot_byTime [.p a.pv, .p b.pv] h K = K (AI (recCmp a b)) h [] := by
  refine rule ?_
  rw [c_lot_byTime rfl]
  have o := fun h K => s_cmpOr (h := h) (K := K) [cmp3 a.time b.time, cmpL a.unit b.unit] (by simp)
  simp only [AL, List.map_cons, List.map_nil] at o
  have e : orL [cmp3 a.time b.time, cmpL a.unit b.unit] = recCmp a b := by
    unfold recCmp orL
    split
    · rfl
    · unfold orL
      split
      · rfl
      · rename_i h; simp only [ne_eq, Decidable.not_not] at h; rw [h]; rfl
  rw [e] at o
  simp only [d_lot_byTime, Rec.pv, go_sem, s_cmpCompare, s_strCompare, o]
theorem s_recordOrder (a b : Rec) (ha : -1000000000000000000 ≤ a.time ∧ a.time ≤ 1000000000000000000) (hb : -1000000000000000000 ≤ b.time ∧ b.time ≤ 1000000000000000000) : ACall X f_scanref2_recordOrder [.p a.pv, .p b.pv] h K = K (AI (recCmp a b)) h [] := by
  refine rule ?_
  rw [c_scanref2_recordOrder rfl]
  have w : IntKind.i64.wrap (a.time - b.time) = a.time - b.time := i64_wrap _ (by omega) (by omega)
  unfold recCmp
  by_cases he : a.time = b.time
  · have : cmp3 a.time b.time = 0 := by rw [he]; unfold cmp3; simp
    rw [if_neg (by simp [this])]
    simp only [d_scanref2_recordOrder, Rec.pv, go_sem, he, s_strCompare]
  · have hc : cmp3 a.time b.time ≠ 0 := by unfold cmp3; split <;> (try split) <;> omega
    rw [if_pos hc]
    rw [cmp3_sign]
    simp only [d_scanref2_recordOrder, Rec.pv, go_sem, he, w, s_sign]
theorem recsFaultFrom_cons {l : List Lim} {p : Option Rec} {x : Rec} {r : List Rec} : recsFaultFrom l p (x :: r) = if recFault l x ≠ 0 then recFault l x else if (match p with | some q => decide (recCmp x q ≤ 0) | none => false) = true then 7 else recsFaultFrom l (some x) r := rfl
theorem recFault_time {l : List Lim} {r : Rec} (hf : recFault l r = 0) : 0 ≤ r.time ∧ r.time ≤ 345686399999 := by
  unfold recFault at hf
  split at hf
  · cases hf
  · split at hf
    · cases hf
    · rename_i h
      simp [momentB, inB] at h
      exact h
theorem s_recordsFault (l : List Lim) (r : List Rec) (hl : LimOk l) (hr : ∀ x ∈ r, RecOk x) (hn : r.length ≤ 1000000) : ACall X f_lot_recordsFault [ALim l, ARec r] h K = K (AI (recsFault0 l r)) h [] := by
  refine rule ?_
  rw [c_lot_recordsFault rfl]
  unfold recsFault0
  by_cases h1 : (5000 : Int) < r.length
  · simp only [d_lot_recordsFault, go_sem, h1]
  simp only [d_lot_recordsFault, go_sem, h1]
  refine N_loop (fun k : Nat => ⟨[(0, ALim l), (1, ARec r), (11, ARec r), (12, AI r.length), (13, AI k)], h, []⟩) (fun k => k ≤ r.length ∧ recsFaultFrom l (r.take k).getLast? (r.drop k) = recsFaultFrom l none r) (fun k => r.length - k) 0 rfl ⟨by omega, rfl⟩ ?_
  rintro k ⟨hkl, hp⟩
  rcases Nat.lt_or_ge k r.length with hlt | hge
  · have hg := map_get Rec.pv hlt
    have w2 : IntKind.i64.wrap ((k : Int) + 1) = ((k + 1 : Nat) : Int) := i64_wrap _ (by omega) (by omega)
    have hx := hr _ (List.getElem_mem hlt)
    have hlast : (r.take (k + 1)).getLast? = some r[k] := by rw [List.take_succ_eq_append_getElem hlt]; exact List.getLast?_concat
    rw [List.drop_eq_getElem_cons hlt, recsFaultFrom_cons] at hp
    have cx : cutP (some 4) 0 (r[k].pv) = some r[k].pv := rfl
    have rf := fun h K => s_recordFault (h := h) (K := K) l r[k] hl hx
    simp only [Rec.pv] at rf
    by_cases h2 : recFault l r[k] = 0
    · rw [if_neg (by simp [h2])] at hp
      cases k with
      | zero =>
        simp only [List.take_zero, List.getLast?_nil, reduceCtorEq, if_false] at hp
        have hlt0 : (0 : Int) < r.length := by omega
        simp only [go_sem, hlt0, hg, cx, Rec.pv, rf, h2, Int.lt_irrefl, show IntKind.i64.wrap 1 = 1 from rfl]
        exact ⟨0 + 1, rfl, ⟨by omega, by rw [hlast]; exact hp⟩, by omega⟩
      | succ j =>
        have hj : j < r.length := by omega
        have hgj := map_get Rec.pv hj
        have cj : cutP (some 4) 0 (r[j].pv) = some r[j].pv := rfl
        have hlj : (r.take (j + 1)).getLast? = some r[j] := by rw [List.take_succ_eq_append_getElem hj]; exact List.getLast?_concat
        have w3 : IntKind.i64.wrap (((j + 1 : Nat) : Int) - 1) = (j : Int) := by rw [i64_wrap _ (by omega) (by omega)]; omega
        have p1 : (0 : Int) < ((j + 1 : Nat) : Int) := by omega
        have bt := fun h K => s_byTime (h := h) (K := K) r[j + 1] r[j]
        simp only [Rec.pv] at bt
        rw [hlj] at hp
        by_cases h3 : recCmp r[j + 1] r[j] ≤ 0
        · simp only [h3, decide_true, if_true] at hp
          simp only [go_sem, hlt, hj, hg, hgj, cx, cj, Rec.pv, rf, h2, p1, w3, bt, h3]
          rw [← hp]
        · simp only [h3, decide_false, reduceCtorEq, if_false] at hp
          simp only [go_sem, hlt, hj, hg, hgj, cx, cj, Rec.pv, rf, h2, p1, w3, bt, h3, w2]
          exact ⟨j + 1 + 1, rfl, ⟨by omega, by rw [hlast]; exact hp⟩, by omega⟩
    · rw [if_pos h2] at hp
      simp only [go_sem, hlt, hg, cx, Rec.pv, rf, h2]
      rw [← hp]
  · have ek : k = r.length := by omega
    subst ek
    rw [List.drop_length] at hp
    simp only [go_sem, Nat.lt_irrefl]
    rw [← hp]
    cases (r.take r.length).getLast? <;> rfl
theorem s_CheckRecords (l : List Lim) (r : List Rec) (hl : LimOk l) (hr : ∀ x ∈ r, RecOk x) (hn : r.length ≤ 1000000) : ACall X f_lot_CheckRecords [ALim l, ARec r] h K = K (AI (recsFault l r)) h [] := by
  refine rule ?_
  rw [c_lot_CheckRecords rfl]
  have cl := fun h K => s_CheckLimits (h := h) (K := K) l hl.k (by have := hl.n; omega)
  have cr := fun h K => s_recordsFault (h := h) (K := K) l r hl hr hn
  unfold recsFault
  by_cases h1 : limsFault l = 0
  · simp only [d_lot_CheckRecords, go_sem, cl, cr, h1]
  · simp only [d_lot_CheckRecords, go_sem, cl, cr, h1]
theorem s_RecordsFault (l : List Lim) (r : List Rec) (hl : LimOk l) (hr : ∀ x ∈ r, RecOk x) (hn : r.length ≤ 1000000) : ACall X f_scanref2_RecordsFault [ALim l, ARec r] h K = K (AI (recsFault l r)) h [] := by
  refine rule ?_
  rw [c_scanref2_RecordsFault rfl]
  have cl := fun h K => s_LimitsFault (h := h) (K := K) l hl.k (by have := hl.n; omega)
  unfold recsFault recsFault0
  by_cases h0 : limsFault l = 0
  case neg => simp only [d_scanref2_RecordsFault, go_sem, cl, h0]
  by_cases h1 : (5000 : Int) < r.length
  · simp only [d_scanref2_RecordsFault, go_sem, cl, h0, h1]
  simp only [d_scanref2_RecordsFault, go_sem, cl, h0, h1]
  refine N_loop (fun k : Nat => ⟨[(0, ALim l), (1, ARec r), (17, ARec r), (18, AI r.length), (19, AI k)], h, []⟩) (fun k => k ≤ r.length ∧ recsFaultFrom l (r.take k).getLast? (r.drop k) = recsFaultFrom l none r ∧ ∀ x ∈ r.take k, recFault l x = 0) (fun k => r.length - k) 0 rfl ⟨by omega, rfl, by simp⟩ ?_
  rintro k ⟨hkl, hp, hz⟩
  rcases Nat.lt_or_ge k r.length with hlt | hge
  · have hg := map_get Rec.pv hlt
    have w2 : IntKind.i64.wrap ((k : Int) + 1) = ((k + 1 : Nat) : Int) := i64_wrap _ (by omega) (by omega)
    have hx := hr _ (List.getElem_mem hlt)
    have hlast : (r.take (k + 1)).getLast? = some r[k] := by rw [List.take_succ_eq_append_getElem hlt]; exact List.getLast?_concat
    rw [List.drop_eq_getElem_cons hlt, recsFaultFrom_cons] at hp
    have cx : cutP (some 4) 0 (r[k].pv) = some r[k].pv := rfl
    have rf := fun h K => s_refRecordFault (h := h) (K := K) l r[k] hl hx
    simp only [Rec.pv] at rf
    by_cases h2 : recFault l r[k] = 0
    · rw [if_neg (by simp [h2])] at hp
      have hz' : ∀ x ∈ r.take (k + 1), recFault l x = 0 := fun x hx => by
        rw [List.take_succ_eq_append_getElem hlt, List.mem_append, List.mem_singleton] at hx
        rcases hx with hx | rfl
        · exact hz x hx
        · exact h2
      cases k with
      | zero =>
        simp only [List.take_zero, List.getLast?_nil, reduceCtorEq, if_false] at hp
        have hlt0 : (0 : Int) < r.length := by omega
        simp only [go_sem, hlt0, hg, cx, Rec.pv, rf, h2, Int.lt_irrefl, show IntKind.i64.wrap 1 = 1 from rfl]
        exact ⟨0 + 1, rfl, ⟨by omega, by rw [hlast]; exact hp, hz'⟩, by omega⟩
      | succ j =>
        have hj : j < r.length := by omega
        have hgj := map_get Rec.pv hj
        have cj : cutP (some 4) 0 (r[j].pv) = some r[j].pv := rfl
        have hlj : (r.take (j + 1)).getLast? = some r[j] := by rw [List.take_succ_eq_append_getElem hj]; exact List.getLast?_concat
        have w3 : IntKind.i64.wrap (((j + 1 : Nat) : Int) - 1) = (j : Int) := by rw [i64_wrap _ (by omega) (by omega)]; omega
        have p1 : (0 : Int) < ((j + 1 : Nat) : Int) := by omega
        have t1 := recFault_time h2
        have t2 := recFault_time (hz r[j] (by rw [List.mem_take_iff_getElem]; exact ⟨j, by omega, rfl⟩))
        have bt := fun h K => s_recordOrder (h := h) (K := K) r[j] r[j + 1] (by omega) (by omega)
        simp only [Rec.pv] at bt
        rw [hlj] at hp
        have hneg := recCmp_neg r[j + 1] r[j]
        by_cases h3 : recCmp r[j + 1] r[j] ≤ 0
        · have h3' : 0 ≤ recCmp r[j] r[j + 1] := by omega
          simp only [h3, decide_true, if_true] at hp
          simp only [go_sem, hlt, hj, hg, hgj, cx, cj, Rec.pv, rf, h2, p1, w3, bt, h3']
          rw [← hp]
        · have h3' : ¬ 0 ≤ recCmp r[j] r[j + 1] := by omega
          simp only [h3, decide_false, reduceCtorEq, if_false] at hp
          simp only [go_sem, hlt, hj, hg, hgj, cx, cj, Rec.pv, rf, h2, p1, w3, bt, h3', w2]
          exact ⟨j + 1 + 1, rfl, ⟨by omega, by rw [hlast]; exact hp, hz'⟩, by omega⟩
    · rw [if_pos h2] at hp
      simp only [go_sem, hlt, hg, cx, Rec.pv, rf, h2]
      rw [← hp]
  · have ek : k = r.length := by omega
    subst ek
    rw [List.drop_length] at hp
    simp only [go_sem, Nat.lt_irrefl]
    rw [← hp]
    cases (r.take r.length).getLast? <;> rfl
end Go.Am
end
section
/- Sorting records: printed by program. -/
open Go
set_option linter.unusedSimpArgs false
namespace Go.Am
attribute [-go_sem] PV.cells splice
variable {h : Heap} {K : Post}
theorem insCmp_api_Record (id n : Nat) (l tl : List PV) (hn : n = l.length + tl.length) (hs : shps (some 4) l) (hl : l.length ≤ 1000) (hh : h[id]? = some (.row (some 4) (l ++ tl) 0)) {g : Nat} {caps : List AV} {c : PV → PV → Int} (hc : Cmps g caps c l id h) :
    ACall X f_slices_insertionSortCmpFunc_api_Record [.own id n 0 l.length, AI 0, AI l.length, .fn g caps] h K = K (.tup []) (h.set id (.row (some 4) (isort (ltC c) l ++ tl) 0)) [] := by
  refine rule ?_
  rw [c_slices_insertionSortCmpFunc_api_Record]
  have hid := get_lt hh
  have hst : ∀ o, (h.set id o)[id]? = some o := fun o => set_get' hid
  simp only [d_slices_insertionSortCmpFunc_api_Record, go_sem, show IntKind.i64.wrap 1 = 1 from rfl]
  refine N_loop (fun i : Nat => ⟨[(0, .own id n 0 l.length), (1, AI 0), (2, AI l.length), (3, .fn g caps), (8, AI i)], h.set id (.row (some 4) ((isortR (ltC c) (l.take i)).reverse ++ (l.drop i ++ tl)) 0), []⟩) (fun i => 1 ≤ i ∧ (i ≤ l.length ∨ i = 1)) (fun i => l.length - i) 1 ?_ (by simp) ?_
  · have : (isortR (ltC c) (l.take 1)).reverse ++ (l.drop 1 ++ tl) = l ++ tl := by cases l <;> rfl
    rw [this, set_self hh]; rfl
  rintro i ⟨hi1, hi2⟩
  rcases Nat.lt_or_ge i l.length with hlt | hge
  · simp only [go_sem, hlt]
    have hxl : l[i] ∈ l := List.getElem_mem hlt
    generalize hx : l[i] = x at *
    generalize hR : isortR (ltC c) (l.take i) = R
    have hRl : R.length = i := by rw [← hR, isortR_len]; simp; omega
    have hRm : ∀ z ∈ R, z ∈ l := fun z hz => List.mem_of_mem_take ((isortR_perm (ltC c) (l.take i)).mem_iff.1 (by rw [hR]; exact hz))
    have hdrop : l.drop i = x :: l.drop (i + 1) := by rw [← hx]; exact List.drop_eq_getElem_cons hlt
    have hnext : isortR (ltC c) (l.take (i + 1)) = insR (ltC c) x R := by rw [isortR_take_succ _ _ _ hlt, hR, hx]
    refine N_loop (fun t : List PV × List PV => ⟨[(0, .own id n 0 l.length), (1, AI 0), (2, AI l.length), (3, .fn g caps), (8, AI i), (9, AI t.1.length)], h.set id (.row (some 4) (t.1.reverse ++ x :: t.2) 0), []⟩)
      (fun t => ∃ B, R = B ++ t.1 ∧ t.2 = B.reverse ++ (l.drop (i + 1) ++ tl) ∧ ∀ b ∈ B, ltC c x b = true) (fun t => t.1.length) (R, l.drop (i + 1) ++ tl) (by rw [hdrop, hRl]; rfl) ⟨[], rfl, rfl, by simp⟩ ?_
    rintro ⟨A, C⟩ ⟨B, q1, q2, q3⟩
    dsimp only at q1 q2 q3
    have hlen : (A.reverse ++ x :: C).length = n := by
      have : R.length = B.length + A.length := by rw [q1]; simp
      rw [q2]; simp; omega
    have hBA : B.length + A.length < l.length := by
      have : R.length = B.length + A.length := by rw [q1]; simp
      omega
    have hln : l.length ≤ n := by omega
    have w1 : IntKind.i64.wrap ((i : Int) + 1) = ((i + 1 : Nat) : Int) := i64_wrap _ (by omega) (by omega)
    cases A with
    | nil =>
      have hd : insR (ltC c) x R = B ++ [x] := by rw [q1]; exact ins_done (ltC c) x [] B q3 (fun y r h => by cases h)
      simp only [go_sem, Int.lt_irrefl, w1]
      refine ⟨i + 1, ?_, by omega, by omega⟩
      simp only [hnext, hd, q2, List.reverse_append, List.reverse_nil, List.nil_append, List.reverse_cons, List.append_assoc, List.cons_append]
    | cons y A =>
      have hyl : y ∈ l := hRm y (by rw [q1]; simp)
      have g1 := ins_get (y :: A) C x
      have g2 := ins_get1 A C x y
      have sw := ins_swap A C x y
      simp only [List.length_cons] at hBA
      generalize hrow : (y :: A).reverse ++ x :: C = row at *
      simp only [List.length_cons] at g1
      have w2 : IntKind.i64.wrap (((A.length + 1 : Nat) : Int) - 1) = (A.length : Int) := by rw [i64_wrap _ (by omega) (by omega)]; omega
      have p1 : (0 : Int) < ((A.length + 1 : Nat) : Int) := by omega
      have b1 : A.length + 1 < l.length := by omega
      have b2 : A.length < l.length := by omega
      have cx := shp_cut (hs x hxl)
      have cy := shp_cut (hs y hyl)
      have hcc := fun o K => hc o x hxl y hyl K
      by_cases hxy : c x y < 0
      · have g3 : (row.set (A.length + 1) y)[A.length]? = some y := by rw [List.getElem?_set_ne (by omega), g2]
        have lx := shp_len (hs x hxl)
        have ly := shp_len (hs y hyl)
        have sx := shp_all (hs x hxl)
        have sy := shp_all (hs y hyl)
        simp only [shSize] at lx ly
        have t1 := fun i xs h1 => shp_st (hs x hxl) (hs y hyl) id i 0 xs h1
        have t2 := fun i xs h1 => shp_st (hs y hyl) (hs x hxl) id i 0 xs h1
        simp only [go_sem, hst, p1, hlen, g1, g2, g3, w2, b1, b2, hln, cx, cy, hcc, hxy, lx, ly, sx, sy, t1, t2, sw]
        refine ⟨(A, y :: C), rfl, ⟨B ++ [y], by simp [q1], by simp [q2], fun b hb => ?_⟩, by simp⟩
        rw [List.mem_append, List.mem_singleton] at hb
        rcases hb with hb | rfl
        · exact q3 b hb
        · simpa [ltC] using hxy
      · have hd : insR (ltC c) x R = B ++ x :: y :: A := by rw [q1]; exact ins_done (ltC c) x (y :: A) B q3 (fun z r h => by cases h; simpa [ltC] using hxy)
        simp only [go_sem, hst, p1, hlen, g1, g2, w2, b1, b2, hln, cx, cy, hcc, hxy, w1]
        refine ⟨i + 1, ?_, by omega, by omega⟩
        simp only [hnext, hd, ← hrow, q2, List.reverse_append, List.reverse_cons, List.append_assoc, List.cons_append, List.nil_append]
  · have hge' : ¬ i < l.length := by omega
    have e1 : l.take i = l := List.take_of_length_le hge
    have e2 : l.drop i = [] := List.drop_of_length_le hge
    simp only [go_sem, hge', e1, e2]
    rfl
/-- A stable sort of at most 20 values. -/
theorem stable_api_Record (id : Nat) (l : List PV) (hs : shps (some 4) l) (hl : l.length ≤ 19) (hh : h[id]? = some (.row (some 4) l 0)) {g : Nat} {caps : List AV} {c : PV → PV → Int} (hc : Cmps g caps c l id h) :
    ACall X f_slices_SortStableFunc_api_Record_api_Record [.own id l.length 0 l.length, .fn g caps] h K = K (.tup []) (h.set id (.row (some 4) (isort (ltC c) l) 0)) [] := by
  refine rule ?_
  rw [c_slices_SortStableFunc_api_Record_api_Record]
  have key : ∀ K : Post, ACall X f_slices_stableCmpFunc_api_Record [.own id l.length 0 l.length, AI l.length, .fn g caps] h K = K (.tup []) (h.set id (.row (some 4) (isort (ltC c) l) 0)) [] := by
    intro K
    refine rule ?_
    rw [c_slices_stableCmpFunc_api_Record]
    have is := fun K => insCmp_api_Record (h := h) (K := K) id l.length l [] rfl hs (by omega) (by rw [List.append_nil]; exact hh) hc
    simp only [List.append_nil] at is
    have b1 : ¬ ((20 : Int) ≤ (l.length : Int)) := by omega
    have b2 : ¬ ((20 : Int) < (l.length : Int)) := by omega
    simp only [d_slices_stableCmpFunc_api_Record, go_sem]
    refine N_loop (fun _ : Unit => ⟨[(0, .own id l.length 0 l.length), (1, AI l.length), (2, .fn g caps), (6, AI 20), (7, AI 0), (8, AI 20)], h, []⟩) (fun _ => True) (fun _ => 0) () rfl trivial ?_
    intro _ _
    simp only [go_sem, b1, is]
    refine N_loop (fun _ : Unit => ⟨[(0, .own id l.length 0 l.length), (1, AI l.length), (2, .fn g caps), (6, AI 20)], h.set id (.row (some 4) (isort (ltC c) l) 0), []⟩) (fun _ => True) (fun _ => 0) () rfl trivial ?_
    intro _ _
    simp only [go_sem, b2]
  simp only [d_slices_SortStableFunc_api_Record_api_Record, go_sem, key]
end Go.Am
end
section
/- Leaving out what is alike: printed by program. -/
open Go
set_option linter.unusedSimpArgs false
namespace Go.Am
attribute [-go_sem] PV.cells splice
variable {h : Heap} {K : Post}
theorem CompactFunc_Record (id : Nat) (l : List PV) (hs : shps (some 4) l) (hl : l.length ≤ 100000) (hh : h[id]? = some (.row (some 4) l 0)) {g : Nat} {caps : List AV} {q : PV → PV → Bool} (hq : Alikes g caps q l id h) :
    ACall X f_slices_CompactFunc_api_Record_api_Record [.own id l.length 0 l.length, .fn g caps] h K = K (.own id l.length 0 (compactL q l).length) (h.set id (.row (some 4) (compactL q l ++ List.replicate (l.length - (compactL q l).length) (PV.agg [.str [], .int .i64 0, .str [], .sl none []])) 0)) [] := by
  refine rule ?_
  rw [c_slices_CompactFunc_api_Record_api_Record]
  have hid := get_lt hh
  have hst : ∀ o, (h.set id o)[id]? = some o := fun o => set_get' hid
  have hb : ¬ h.length ≤ id := by omega
  have hb2 : max h.length (id + 1) = h.length := by omega
  have hb3 : id + 1 ≤ h.length := hid
  have hq0 : ∀ x ∈ l, ∀ y ∈ l, ∀ K : Post, ACall X g (.p x :: .p y :: caps) h K = K (AB (q x y)) h [] := fun x hx y hy K => by have := hq (.row (some 4) l 0) x hx y hy K; rwa [set_self hh] at this
  by_cases h2 : l.length < 2
  · have h2' : (l.length : Int) < 2 := by omega
    have e : compactL q l = l := by
      cases l with
      | nil => rfl
      | cons x r =>
        have : r = [] := List.length_eq_zero_iff.1 (by simp only [List.length_cons] at h2; omega)
        subst this; rfl
    simp only [d_slices_CompactFunc_api_Record_api_Record, go_sem, h2', e, Nat.sub_self, List.replicate_zero, List.append_nil, hb, hb2, hb3]
    rw [set_self hh]
  have h2' : ¬ (l.length : Int) < 2 := by omega
  simp only [d_slices_CompactFunc_api_Record_api_Record, go_sem, h2']
  refine N_loop (fun k : Nat => ⟨[(0, .own id l.length 0 l.length), (1, .fn g caps), (5, AI ((k + 1 : Nat) : Int))], h, []⟩) (fun k => k + 1 ≤ l.length ∧ compactL q (l.take (k + 1)) = l.take (k + 1)) (fun k => l.length - (k + 1)) 0 rfl ⟨by omega, ?_⟩ ?_
  · cases l with
    | nil => rfl
    | cons x r => rfl
  rintro k ⟨hk, hc⟩
  rcases Nat.lt_or_ge (k + 1) l.length with hlt | hge
  · have hk0 : k < l.length := by omega
    have g1 : l[k + 1]? = some l[k + 1] := List.getElem?_eq_getElem hlt
    have g2 : l[k]? = some l[k] := List.getElem?_eq_getElem hk0
    have c1 := shp_cut (shps_get hs hlt)
    have c2 := shp_cut (shps_get hs hk0)
    have w1 : IntKind.i64.wrap (((k + 1 : Nat) : Int) - 1) = (k : Int) := by rw [i64_wrap _ (by omega) (by omega)]; omega
    have w2 : IntKind.i64.wrap (((k + 1 : Nat) : Int) + 1) = ((k + 1 + 1 : Nat) : Int) := i64_wrap _ (by omega) (by omega)
    have hqk := fun K => hq0 _ (List.getElem_mem hlt) _ (List.getElem_mem hk0) K
    have hcs := compactL_take_succ q l k hlt
    cases hqx : q l[k + 1] l[k] with
    | false =>
      rw [hqx] at hcs
      simp only [go_sem, hh, hlt, hk0, g1, g2, c1, c2, w1, w2, hqk, hqx]
      exact ⟨k + 1, rfl, ⟨by omega, by rw [hcs, hc, cond_false, List.take_succ_eq_append_getElem hlt]⟩, by omega⟩
    | true =>
      rw [hqx, cond_true, List.append_nil, hc] at hcs
      have hle : k + 1 ≤ l.length := by omega
      simp only [go_sem, hh, hlt, hk0, hle, g1, g2, c1, c2, w1, hqk, hqx]
      have e0 : k + 1 + (l.length - (k + 1)) = l.length := by omega
      refine N_loop (fun t : List PV × Nat × Nat => ⟨[(0, .own id l.length 0 l.length), (1, .fn g caps), (5, AI ((t.2.1 : Nat) : Int)), (6, .own id l.length (k + 1) (l.length - (k + 1))), (7, AI ((t.2.2 + 1 : Nat) : Int))], h.set id (.row (some 4) t.1 0), []⟩)
        (fun t => t.1.length = l.length ∧ shps (some 4) t.1 ∧ t.2.1 ≤ k + 1 + t.2.2 ∧ k + 1 + t.2.2 < l.length ∧ t.1.take t.2.1 = compactL q (l.take (k + 1 + t.2.2 + 1)) ∧ t.1.drop (k + 1 + t.2.2) = l.drop (k + 1 + t.2.2)) (fun t => l.length - t.2.2)
        (l, k + 1, 0) (by rw [set_self hh]; rfl) ⟨rfl, hs, by simp, by simpa using hlt, by simpa using hcs.symm, rfl⟩ ?_
      rintro ⟨row, i, j⟩ ⟨r1, r2, r3, r4, r5, r6⟩
      dsimp only at r1 r2 r3 r4 r5 r6
      rcases Nat.lt_or_ge (k + 1 + j + 1) l.length with hlt2 | hge2
      · have a1 : row[k + 1 + j + 1]? = some l[k + 1 + j + 1] := by
          have := congrArg (·[1]?) r6
          simp only [List.getElem?_drop] at this
          rw [this, List.getElem?_eq_getElem hlt2]
        have a2 : row[k + 1 + j]? = some l[k + 1 + j] := by
          have := congrArg (·[0]?) r6
          simp only [List.getElem?_drop, Nat.add_zero] at this
          rw [this, List.getElem?_eq_getElem r4]
        have s1 := shps_get hs hlt2
        have d1 := shp_cut s1
        have d2 := shp_cut (shps_get hs r4)
        have hil : i < l.length := by omega
        have hir : i < row.length := by omega
        have g3 : row[i]? = some row[i] := List.getElem?_eq_getElem hir
        have t1 := fun xs h1 => shp_st s1 (shps_get r2 hir) id i 0 xs h1
        have lx := shp_len s1
        have sx := shp_all s1
        simp only [shSize] at lx
        have v1 : IntKind.i64.wrap (((j + 1 : Nat) : Int) - 1) = (j : Int) := by rw [i64_wrap _ (by omega) (by omega)]; omega
        have v2 : IntKind.i64.wrap (((j + 1 : Nat) : Int) + 1) = ((j + 1 + 1 : Nat) : Int) := i64_wrap _ (by omega) (by omega)
        have v3 : IntKind.i64.wrap ((i : Int) + 1) = ((i + 1 : Nat) : Int) := i64_wrap _ (by omega) (by omega)
        have p1 : j + 1 < l.length - (k + 1) := by omega
        have p2 : j < l.length - (k + 1) := by omega
        have p3 : k + 1 + (j + 1) = k + 1 + j + 1 := by omega
        have p4 : k + 1 + (l.length - (k + 1)) ≤ l.length := by omega
        have hqj := fun o K => hq o _ (List.getElem_mem hlt2) _ (List.getElem_mem r4) K
        have hcs2 := compactL_take_succ q l (k + 1 + j) hlt2
        cases hqy : q l[k + 1 + j + 1] l[k + 1 + j] with
        | true =>
          rw [hqy, cond_true, List.append_nil] at hcs2
          simp only [go_sem, hst, r1, p1, p2, p3, p4, e0, a1, a2, d1, d2, v1, v2, hqj, hqy]
          refine ⟨(row, i, j + 1), rfl, ⟨r1, r2, by dsimp only; omega, by dsimp only; omega, ?_, ?_⟩, by dsimp only; omega⟩
          · dsimp only; rw [r5, ← hcs2]; rfl
          · dsimp only; rw [show k + 1 + (j + 1) = k + 1 + j + 1 from rfl, ← List.drop_drop, r6, List.drop_drop]
        | false =>
          rw [hqy, cond_false] at hcs2
          simp only [go_sem, hst, r1, p1, p2, p3, p4, e0, a1, a2, g3, d1, d2, v1, v2, v3, hil, hqj, hqy, lx, sx, t1]
          refine ⟨(row.set i l[k + 1 + j + 1], i + 1, j + 1), rfl, ⟨by simpa using r1, fun x hx => ?_, by dsimp only; omega, by dsimp only; omega, ?_, ?_⟩, by dsimp only; omega⟩
          · rcases List.mem_or_eq_of_mem_set hx with hx | rfl
            · exact r2 x hx
            · exact s1
          · dsimp only
            rw [show k + 1 + (j + 1) + 1 = k + 1 + j + 1 + 1 from rfl, hcs2, ← r5, List.take_succ_eq_append_getElem (by simp; omega)]
            simp [List.take_set_of_le]
          · dsimp only
            rw [List.drop_set_of_lt (by omega), show k + 1 + (j + 1) = k + 1 + j + 1 from rfl, ← List.drop_drop, r6, List.drop_drop]
      · have ej : k + 1 + j + 1 = l.length := by omega
        rw [ej, List.take_length] at r5
        have hil : i ≤ l.length := by omega
        have hm : (compactL q l).length = i := by rw [← r5]; simp; omega
        have p1 : ¬ (j + 1 < l.length - (k + 1)) := by omega
        have sp : splice row i (List.replicate (l.length - i) (PV.agg [.str [], .int .i64 0, .str [], .sl none []])) = compactL q l ++ List.replicate (l.length - i) (PV.agg [.str [], .int .i64 0, .str [], .sl none []]) := by
          unfold splice
          rw [r5, List.length_replicate, List.drop_of_length_le (by omega), List.append_nil]
        have rl : (compactL q l ++ List.replicate (l.length - i) (PV.agg [.str [], .int .i64 0, .str [], .sl none []])).length = l.length := by simp only [List.length_append, hm, List.length_replicate]; omega
        rw [hm]
        generalize compactL q l ++ List.replicate (l.length - i) (PV.agg [.str [], .int .i64 0, .str [], .sl none []]) = row' at *
        simp only [go_sem, hst, r1, rl, hil, p1, sp, show i + (l.length - i) = l.length by omega, hb, hb2, hb3]
  · have ek : k + 1 = l.length := by omega
    rw [ek, List.take_length] at hc
    have hge' : ¬ k + 1 < l.length := by omega
    simp only [go_sem, hge', hc, Nat.sub_self, List.replicate_zero, List.append_nil, hb, hb2, hb3]
    rw [set_self hh]
end Go.Am
end
section
/- What is drawn: records. -/
open Go
set_option linter.unusedSimpArgs false
namespace Go.Am
variable {L : List Int} {a : Int} {h l : Heap} {id : Nat} {K : Post}
theorem close_out {b : Nat} {x : Esc} (hx : ∀ y ∈ x, b ≤ y.1) : ∀ k, close k x b = b := by
  have hb : bump x b = b := by
    unfold bump
    induction x with
    | nil => rfl
    | cons y r ih =>
      simp only [List.foldl_cons]
      rw [if_neg (by have := hx y (by simp); omega)]
      exact ih (fun z hz => hx z (by simp [hz]))
  intro k
  induction k with
  | zero => rfl
  | succ k ih => unfold close; rw [hb, ih]
theorem trunc_out {b : Nat} {x0 x : Esc} {e : List (Nat × AV)} {h : Heap} (hx : ∀ y ∈ x, b ≤ y.1) : trunc b x0 ⟨e, h, x⟩ = ⟨clean b e, h.take b, x0⟩ := by
  unfold trunc
  simp only [close_out hx]
  have hc : closed x b = true := by
    unfold closed
    rw [List.all_eq_true]
    intro y hy
    simp [hx y hy]
  have hf : x.filter (fun y => decide (y.1 < b)) = [] := by
    rw [List.filter_eq_nil_iff]
    intro y hy
    have := hx y hy
    simp; omega
  rw [if_pos hc, hf, List.nil_append]
theorem trunc_one {b i t : Nat} {x0 : Esc} {e : List (Nat × AV)} {h : Heap} (hi : i < b) : trunc b x0 ⟨e, h, [(i, t)]⟩ = ⟨clean (max b t) e, h.take (max b t), (i, t) :: x0⟩ := by
  unfold trunc
  have hb : close [(i, t)].length [(i, t)] b = max b t := by simp [close, bump, hi]
  simp only [hb]
  have hc : closed [(i, t)] (max b t) = true := by simp [closed]; omega
  have hf : [(i, t)].filter (fun y => decide (y.1 < max b t)) = [(i, t)] := by simp; omega
  rw [if_pos hc, hf]; rfl
theorem frz3 {o0 o1 o2 : Obj} {sh : Sh} {xs : List PV} {fz k : Nat} : frz [o0, o1, o2, .row sh xs fz] 3 k = [o0, o1, o2, .row sh xs (max fz k)] := rfl
set_option maxHeartbeats 2000000 in
/-- A record as it is added to the list. -/
theorem rec_k5 (hid : id < h.length) (hp : posN 30 a) (rs : List Rec) (hrs : rs.length ≤ 1000) (u s : List UInt8) (hu : u.length ≤ 1000) (hs : s.length ≤ 1000) (t : Int) (ns : List Int) (hns : ns.length ≤ 100) (G : Obj) (v1 v8 v13 v14 : AV) (x : Esc) (hx : ∀ y ∈ x, h.length + 1 ≤ y.1) (K : Ex → St → Prop)
    (hK : ∀ (r' : Rec) (a' : Int) (J : Heap) (x' : Esc), RecOk r' → a ≤ a' → a' ≤ a + 8 → (∀ y ∈ x', h.length + 1 ≤ y.1) →
      K .normal ⟨[(0, .ref id 0), (1, v1), (7, .own h.length (rs.length + 1) 0 (rs.length + 1)), (8, v8), (13, v13), (14, v14)], h.set id (strm L a') ++ .row (some 4) (rs.map Rec.pv ++ [r'.pv]) 0 :: J, x'⟩) :
    d_scanmake_Stream_Records_k5 (ACall X) X.gl p_scanmake_Stream_Records_k4 (.ref id 0) v1 (.own h.length rs.length 0 rs.length) v8 (.ref (h.length + 1) 0) v13 v14
      (h.set id (strm L a) ++ [.row (some 4) (rs.map Rec.pv) 0, .box [AS u, AI t, AS s, .own (h.length + 3) ns.length 0 ns.length], G, .row none (ns.map eI) 0]) x K := by
  have P := posAll (posN_le hp (Int.le_refl a) (by omega))
  have hmx : rs.length + 1 ≤ maxSl := by unfold maxSl; omega
  have hmn : ns.length + 1 ≤ maxSl := by unfold maxSl; omega
  have e1 : h.length + 1 < h.length + 3 + 1 := by omega
  by_cases hf : nextV L a 60 = 0
  · by_cases h0 : nextV L (a + 1) 3 = 0
    · obtain ⟨kv, a3, c1, c2, _, _, O⟩ := g_Odd (L := L) (a := a + 1 + 1 + 1 + 1) (posN_le hp (by omega) (by omega)) 0 50 (by omega) (by omega) (by omega)
      have O' := fun l K => O.app (h := h) (id := id) (l := l) (K := K) hid
      have p1 := pickS_mem (l := [[], [117, 49]]) (L := L) (a := a + 1 + 1) (by simp) (by simp)
      have p2 := pickS_mem (l := [[65], [115, 49]]) (L := L) (a := a + 1 + 1 + 1) (by simp) (by simp)
      simp only [List.mem_cons, List.not_mem_nil, or_false] at p1 p2
      simp only [d_scanmake_Stream_Records_k5, go_sem, hid, P, hf, h0, ↓O', O', hmx, frz3]
      rw [win_full (by simp)]
      exact hK ⟨pickS [[], [117, 49]] L (a + 1 + 1), kv, pickS [[65], [115, 49]] L (a + 1 + 1 + 1), ns⟩ a3 _ _ ⟨by rcases p1 with p1 | p1 <;> simp [p1], by rcases p2 with p2 | p2 <;> simp [p2], by dsimp only; omega⟩ (by omega) (by omega) hx
    · by_cases h1 : nextV L (a + 1) 3 = 1
      · simp only [d_scanmake_Stream_Records_k5, go_sem, hid, P, hf, h0, h1, hmx, hmn, escOf, e1, frz3]
        rw [win_full (by simp)]
        have e : List.map eI ns ++ [PV.int .i64 (pickV [0, 100001, -100001] L (a + 1 + 1))] = (ns ++ [pickV [0, 100001, -100001] L (a + 1 + 1)]).map eI := by simp
        rw [e]
        refine hK ⟨u, t, s, ns ++ [pickV [0, 100001, -100001] L (a + 1 + 1)]⟩ (a + 1 + 1 + 1) _ _ ⟨hu, hs, by simp; omega⟩ (by omega) (by omega) (fun y hy => ?_)
        rcases List.mem_cons.1 hy with rfl | hy
        · exact Nat.le_refl _
        · exact hx y hy
      · obtain ⟨m1, m2⟩ := nextV_bd L (a + 1 + 1) (ns.length + 1) (by omega) (by omega)
        obtain ⟨m, hm⟩ := Int.eq_ofNat_of_zero_le m1
        have w1 : IntKind.i64.wrap ((ns.length : Int) + 1) = (ns.length : Int) + 1 := i64_wrap _ (by omega) (by omega)
        have hml : m ≤ ns.length := by omega
        simp only [d_scanmake_Stream_Records_k5, go_sem, hid, P, hf, h0, h1, w1, hm, hml, hmx, escOf, e1, frz3]
        rw [win_map]
        refine hK ⟨u, t, s, win ns 0 m⟩ (a + 1 + 1 + 1) _ _ ⟨hu, hs, by simp [win]; omega⟩ (by omega) (by omega) (fun y hy => ?_)
        rcases List.mem_cons.1 hy with rfl | hy
        · exact Nat.le_refl _
        · exact hx y hy
  · simp only [d_scanmake_Stream_Records_k5, go_sem, hid, P, hf, hmx, frz3]
    rw [win_full (by simp)]
    exact hK ⟨u, t, s, ns⟩ (a + 1) _ _ ⟨hu, hs, by dsimp only; omega⟩ (by omega) (by omega) hx
attribute [-go_sem] d_scanmake_Stream_Records_k5
def unRec : PV → Rec
  | .agg [.str u, .int _ t, .str s, .sl _ xs] => ⟨u, t, s, xs.map unI⟩
  | _ => ⟨[], 0, [], []⟩
theorem unRec_pv (r : Rec) : unRec r.pv = r := by
  cases r with | mk u t s ns =>
  have : (ns.map eI).map unI = ns := by
    rw [List.map_map]
    have : (unI ∘ eI) = id := by funext n; rfl
    rw [this, List.map_id]
  simp only [Rec.pv, unRec, this]
theorem recs_of {P : Rec → Prop} : ∀ {xs : List PV}, (∀ x ∈ xs, ∃ r, P r ∧ x = Rec.pv r) → ∃ rs : List Rec, (∀ r ∈ rs, P r) ∧ xs = rs.map Rec.pv
  | [], _ => ⟨[], by simp, rfl⟩
  | x :: xs, h => by
    obtain ⟨r, h1, h2⟩ := h x (by simp)
    obtain ⟨rs, h3, h4⟩ := recs_of (xs := xs) (fun y hy => h y (List.mem_cons_of_mem _ hy))
    refine ⟨r :: rs, fun z hz => ?_, by rw [h2, h4]; rfl⟩
    rcases List.mem_cons.1 hz with rfl | hz
    · exact h1
    · exact h3 z hz
theorem s_rec1 (a b : Rec) : ACall X f_scanmake_Stream_Records_1 [.p a.pv, .p b.pv] h K = K (AI (recCmp a b)) h [] := by
  refine rule ?_
  rw [c_scanmake_Stream_Records_1 rfl]
  have o := fun h K => s_cmpOr (h := h) (K := K) [cmp3 a.time b.time, cmpL a.unit b.unit] (by simp)
  simp only [AL, List.map_cons, List.map_nil] at o
  have e : orL [cmp3 a.time b.time, cmpL a.unit b.unit] = recCmp a b := by
    unfold recCmp orL
    split
    · rfl
    · unfold orL
      split
      · rfl
      · rename_i h; simp only [ne_eq, Decidable.not_not] at h; rw [h]; rfl
  rw [e] at o
  simp only [d_scanmake_Stream_Records_1, Rec.pv, go_sem, s_cmpCompare, s_strCompare, o]
def sameAt (a b : Rec) : Bool := decide (a.time = b.time) && decide (a.unit = b.unit)
theorem s_rec2 (a b : Rec) : ACall X f_scanmake_Stream_Records_2 [.p a.pv, .p b.pv] h K = K (AB (sameAt a b)) h [] := by
  refine rule ?_
  rw [c_scanmake_Stream_Records_2 rfl]
  unfold sameAt
  by_cases h1 : a.time = b.time
  · simp only [d_scanmake_Stream_Records_2, Rec.pv, go_sem, h1]
  · simp only [d_scanmake_Stream_Records_2, Rec.pv, go_sem, h1]
set_option maxHeartbeats 4000000 in
theorem g_Records (hp : posN 4000 a) (l : List Lim) (hl1 : 1 ≤ l.length) (hl2 : l.length ≤ 3) (n : Nat) (hn : n ≤ 19) :
    GenE f_scanmake_Stream_Records [ALim l, AI n] L a (fun v a2 => a ≤ a2 ∧ a2 ≤ a + 2000 ∧ ∃ rs : List Rec, rs.length ≤ n ∧ (∀ r ∈ rs, RecOk r) ∧ v = ARec rs) := by
  refine GenE.of fun h id hid => ?_
  rw [c_scanmake_Stream_Records rfl]
  simp only [d_scanmake_Stream_Records, go_sem, hid]
  refine N_loop (fun t : List Rec × Int × Int => ⟨[(0, .ref id 0), (1, ALim l), (7, .own h.length t.1.length 0 t.1.length), (8, AI t.2.1), (13, AI n), (14, AI t.1.length)], h.set id (strm L t.2.2) ++ [.row (some 4) (t.1.map Rec.pv) 0], []⟩)
    (fun t => t.1.length ≤ n ∧ (∀ r ∈ t.1, RecOk r) ∧ a ≤ t.2.2 ∧ t.2.2 ≤ a + 40 * t.1.length) (fun t => n - t.1.length) ([], 0, a) rfl ⟨by simp, by simp, by simp, by simp⟩ ?_
  rintro ⟨rs, t, b⟩ ⟨q1, q2, q3, q4⟩
  dsimp only at q1 q2 q3 q4
  rcases Nat.lt_or_ge rs.length n with hlt | hge
  · have P := posAll (posN_le hp q3 (show b + 14 ≤ a + 4000 by omega))
    have w1 : IntKind.i64.wrap ((rs.length : Int) + 1) = ((rs.length + 1 : Nat) : Int) := i64_wrap _ (by omega) (by omega)
    have p1 := pickS_mem (l := [[117, 49], [117, 50], [117, 51], [117, 52]]) (L := L) (a := b + 1) (by simp) (by simp)
    have p2 := pickS_mem (l := [[115, 49], [115, 49], [115, 50]]) (L := L) (a := b + 1 + 1) (by simp) (by simp)
    have pu : (pickS [[117, 49], [117, 50], [117, 51], [117, 52]] L (b + 1)).length ≤ 1000 := by
      simp only [List.mem_cons, List.not_mem_nil, or_false] at p1
      rcases p1 with p1 | p1 | p1 | p1 <;> simp [p1]
    have ps : (pickS [[115, 49], [115, 49], [115, 50]] L (b + 1 + 1)).length ≤ 1000 := by
      simp only [List.mem_cons, List.not_mem_nil, or_false] at p2
      rcases p2 with p2 | p2 | p2 <;> simp [p2]
    simp only [go_sem, hid, P, hlt]
    generalize pickS [[117, 49], [117, 50], [117, 51], [117, 52]] L (b + 1) = u at *
    generalize pickS [[115, 49], [115, 49], [115, 50]] L (b + 1 + 1) = s at *
    generalize IntKind.i64.wrap (t + pickV [1, 1, 5, 0] L b) = t' at *
    have hb3 : b + 1 + 1 + 1 + 14 ≤ a + 4000 := by omega
    have fin : ∀ (c : Int) (ns : List Int) (G : Obj) (x : Esc), ns.length ≤ 100 → b + 3 ≤ c → c ≤ b + 3 + 9 → (∀ y ∈ x, h.length + 1 ≤ y.1) →
        d_scanmake_Stream_Records_k5 (ACall X) X.gl p_scanmake_Stream_Records_k4 (.ref id 0) (ALim l) (.own h.length rs.length 0 rs.length) (AI t') (.ref (h.length + 1) 0) (AI n) (AI rs.length)
          (h.set id (strm L c) ++ [.row (some 4) (rs.map Rec.pv) 0, .box [AS u, AI t', AS s, .own (h.length + 3) ns.length 0 ns.length], G, .row none (ns.map eI) 0]) x
          (blockN 1 (seqN (ACall X) X.gl p_scanmake_Stream_Records_k6 (scopeK (h.length + 1) [] (loopK
            (fun t : List Rec × Int × Int => ⟨[(0, .ref id 0), (1, ALim l), (7, .own h.length t.1.length 0 t.1.length), (8, AI t.2.1), (13, AI n), (14, AI t.1.length)], h.set id (strm L t.2.2) ++ [.row (some 4) (t.1.map Rec.pv) 0], []⟩)
            (fun t => t.1.length ≤ n ∧ (∀ r ∈ t.1, RecOk r) ∧ a ≤ t.2.2 ∧ t.2.2 ≤ a + 40 * t.1.length) (fun t => n - t.1.length)
            (blockN 0 (seqN (ACall X) X.gl p_scanmake_Stream_Records_k8 (finR [.t 6] false h.length (fun v1 h1 x1 => ∃ a2, (a ≤ a2 ∧ a2 ≤ a + 2000 ∧ ∃ rs : List Rec, rs.length ≤ n ∧ (∀ r ∈ rs, RecOk r) ∧ v1 = ARec rs) ∧ h1 = h.set id (strm L a2) ∧ x1 = [])))) (rs, t, b))))) := by
      intro c ns G x h1 h2 h3 h4
      refine rec_k5 hid (posN_le hp (by omega) (by omega)) rs (by omega) u s pu ps t' ns h1 G (ALim l) (AI t') (AI n) (AI rs.length) x h4 _ (fun r' a' J x' r1 r2 r3 r4 => ?_)
      have f1 : id + 1 ≤ h.length + 1 := by omega
      simp only [go_sem, w1, trunc_out r4, f1]
      refine ⟨(rs ++ [r'], t', a'), ?_, ⟨by simp; omega, fun r hr => ?_, by dsimp only; omega, by simp; omega⟩, by simp; omega⟩
      · simp only [List.length_append, List.length_cons, List.length_nil, List.map_append, List.map_cons, List.map_nil]
      · rcases List.mem_append.1 hr with hr | hr
        · exact q2 r hr
        · rw [List.mem_singleton] at hr; rw [hr]; exact r1
    generalize hc0 : b + 1 + 1 + 1 = c0 at *
    refine N_loop (fun o : Option (List Int × Int × Obj × Esc) => match o with
        | none => ⟨[(0, .ref id 0), (1, ALim l), (7, .own h.length rs.length 0 rs.length), (8, AI t'), (9, .ref (h.length + 1) 0), (13, AI n), (14, AI rs.length), (29, ALim l), (30, AI l.length), (31, AI 0)], h.set id (strm L c0) ++ [.row (some 4) (rs.map Rec.pv) 0, .box [AS u, AI t', AS s, .sl0 none]], []⟩
        | some (ns, c, G, x) => ⟨[(0, .ref id 0), (1, ALim l), (7, .own h.length rs.length 0 rs.length), (8, AI t'), (9, .ref (h.length + 1) 0), (13, AI n), (14, AI rs.length), (29, ALim l), (30, AI l.length), (31, AI ns.length)], h.set id (strm L c) ++ [.row (some 4) (rs.map Rec.pv) 0, .box [AS u, AI t', AS s, .own (h.length + 3) ns.length 0 ns.length], G, .row none (ns.map eI) 0], x⟩)
      (fun o => match o with
        | none => True
        | some (ns, c, G, x) => 1 ≤ ns.length ∧ ns.length ≤ l.length ∧ c0 ≤ c ∧ c ≤ c0 + 3 * ns.length ∧ ∀ y ∈ x, h.length + 1 ≤ y.1)
      (fun o => match o with
        | none => l.length + 1
        | some (ns, c, G, x) => l.length - ns.length) none rfl trivial ?_
    rintro (_ | ⟨ns, c, G, x⟩) hP
    · have P := posAll (posN_le hp (show a ≤ c0 by omega) (show c0 + 14 ≤ a + 4000 by omega))
      have hl0 : (0 : Int) < l.length := by omega
      have hg := map_get Lim.pv (show 0 < l.length by omega)
      have cx : cutP (some 4) 0 (l[0].pv) = some l[0].pv := rfl
      generalize l[0] = y at *
      have e2 : h.length + 1 < h.length + 2 := by omega
      have e3 : max (h.length + 2) (h.length + 3 + 1) = h.length + 4 := by omega
      have eo : escOf (h.length + 1) (.own (h.length + 3) 1 0 1) = [(h.length + 1, h.length + 3 + 1)] := by unfold escOf; rw [if_pos (by simp [AV.top]), top_own]
      have e4 : id + 1 ≤ h.length + 4 := by omega
      have e5 : h.length + 1 ≤ h.length + 4 := by omega
      have e6 : h.length + 1 + 1 ≤ h.length + 4 := by omega
      have hmx : 1 ≤ maxSl := by unfold maxSl; omega
      have hnb : Nat.beq 2 3 = false := rfl
      have wk : IntKind.i64.wrap 1 = 1 := rfl
      have tr : ∀ (x0 : Esc) (e : List (Nat × AV)) (H : Heap), trunc (h.length + 2) x0 ⟨e, H, [(h.length + 1, h.length + 3 + 1)]⟩ = ⟨clean (h.length + 4) e, H.take (h.length + 4), (h.length + 1, h.length + 3 + 1) :: x0⟩ := fun x0 e H => by rw [trunc_one e2, e3]
      by_cases hf : nextV L (c0 + 1) 5 = 0
      · obtain ⟨v, hv⟩ : ∃ v, pickV [IntKind.i64.wrap (y.lo - 1), IntKind.i64.wrap (y.hi + 1), IntKind.i64.wrap (y.hi + 7)] L (c0 + 1 + 1) = v := ⟨_, rfl⟩
        by_cases b1 : v < y.lo
        · simp only [go_sem, hid, P, hl0, hg, cx, Lim.pv, hf, eo, hv, b1, hmx, hnb, tr, e4, e5, e6]
          refine fin (c0 + 1 + 1 + 1) [v] _ _ (by simp) (by omega) (by omega) (by simp)
        · by_cases b2 : y.hi < v
          · simp only [go_sem, hid, P, hl0, hg, cx, Lim.pv, hf, eo, hv, b1, b2, hmx, hnb, tr, e4, e5, e6]
            refine fin (c0 + 1 + 1 + 1) [v] _ _ (by simp) (by omega) (by omega) (by simp)
          · simp only [go_sem, hid, P, hl0, hg, cx, Lim.pv, hf, eo, hv, b1, b2, hmx, hnb, tr, e4, e5, e6, wk]
            exact ⟨some ([v], c0 + 1 + 1 + 1, _, _), rfl, ⟨by simp, by simpa using hl1, by omega, by simp; omega, by simp⟩, by show l.length - [v].length < l.length + 1; simp only [List.length_cons, List.length_nil]; omega⟩
      · obtain ⟨v, hv⟩ : ∃ v, pickV [y.lo, y.hi, IntKind.i64.wrap ((IntKind.i64.wrap (y.lo + y.hi)).tdiv 2), IntKind.i64.wrap ((IntKind.i64.wrap (y.lo + y.hi)).tdiv 2), IntKind.i64.wrap (y.lo + 1)] L c0 = v := ⟨_, rfl⟩
        by_cases b1 : v < y.lo
        · simp only [go_sem, hid, P, hl0, hg, cx, Lim.pv, hf, eo, hv, b1, hmx, hnb, tr, e4, e5, e6]
          refine fin (c0 + 1 + 1) [v] _ _ (by simp) (by omega) (by omega) (by simp)
        · by_cases b2 : y.hi < v
          · simp only [go_sem, hid, P, hl0, hg, cx, Lim.pv, hf, eo, hv, b1, b2, hmx, hnb, tr, e4, e5, e6]
            refine fin (c0 + 1 + 1) [v] _ _ (by simp) (by omega) (by omega) (by simp)
          · simp only [go_sem, hid, P, hl0, hg, cx, Lim.pv, hf, eo, hv, b1, b2, hmx, hnb, tr, e4, e5, e6, wk]
            exact ⟨some ([v], c0 + 1 + 1, _, _), rfl, ⟨by simp, by simpa using hl1, by omega, by simp; omega, by simp⟩, by show l.length - [v].length < l.length + 1; simp only [List.length_cons, List.length_nil]; omega⟩
    · obtain ⟨r1, r2, r3, r4, r5⟩ := hP
      rcases Nat.lt_or_ge ns.length l.length with hlt2 | hge2
      · have P := posAll (posN_le hp (show a ≤ c by omega) (show c + 14 ≤ a + 4000 by omega))
        have hg := map_get Lim.pv hlt2
        have cx : cutP (some 4) 0 (l[ns.length].pv) = some l[ns.length].pv := rfl
        generalize l[ns.length] = y at *
        have e2 : h.length + 1 < h.length + 4 := by omega
        have e3 : max (h.length + 4) (h.length + 3 + 1) = h.length + 4 := by omega
        have eo : escOf (h.length + 1) (.own (h.length + 3) (ns.length + 1) 0 (ns.length + 1)) = [(h.length + 1, h.length + 3 + 1)] := by unfold escOf; rw [if_pos (by simp [AV.top]), top_own]
        have e4 : id + 1 ≤ h.length + 4 := by omega
        have e5 : h.length + 1 ≤ h.length + 4 := by omega
        have e6 : h.length + 1 + 1 ≤ h.length + 4 := by omega
        have e7 : h.length + 3 + 1 ≤ h.length + 4 := by omega
        have e8 : h.length + 4 ≤ h.length + 4 := by omega
        have hmx : ns.length + 1 ≤ maxSl := by unfold maxSl; omega
        have hnb : Nat.beq 2 3 = false := rfl
        have wi : IntKind.i64.wrap ((ns.length : Int) + 1) = ((ns.length + 1 : Nat) : Int) := i64_wrap _ (by omega) (by omega)
        have tr : ∀ (x0 : Esc) (e : List (Nat × AV)) (H : Heap), trunc (h.length + 4) x0 ⟨e, H, [(h.length + 1, h.length + 3 + 1)]⟩ = ⟨clean (h.length + 4) e, H.take (h.length + 4), (h.length + 1, h.length + 3 + 1) :: x0⟩ := fun x0 e H => by rw [trunc_one e2, e3]
        by_cases hf : nextV L (c + 1) 5 = 0
        · obtain ⟨v, hv⟩ : ∃ v, pickV [IntKind.i64.wrap (y.lo - 1), IntKind.i64.wrap (y.hi + 1), IntKind.i64.wrap (y.hi + 7)] L (c + 1 + 1) = v := ⟨_, rfl⟩
          have ev : ns.map eI ++ [PV.int .i64 v] = (ns ++ [v]).map eI := by simp
          have el : (ns ++ [v]).length = ns.length + 1 := by simp
          have hx2 : ∀ z ∈ (h.length + 1, h.length + 3 + 1) :: x, h.length + 1 ≤ z.1 := fun z hz => by
            rcases List.mem_cons.1 hz with rfl | hz
            · exact Nat.le_refl _
            · exact r5 z hz
          by_cases b1 : v < y.lo
          · simp only [go_sem, hid, P, hlt2, hg, cx, Lim.pv, hf, eo, hv, b1, hmx, hnb, tr, e4, e5, e6, e7, e8]
            rw [ev, ← el]
            exact fin (c + 1 + 1 + 1) (ns ++ [v]) _ _ (by omega) (by omega) (by omega) hx2
          · by_cases b2 : y.hi < v
            · simp only [go_sem, hid, P, hlt2, hg, cx, Lim.pv, hf, eo, hv, b1, b2, hmx, hnb, tr, e4, e5, e6, e7, e8]
              rw [ev, ← el]
              exact fin (c + 1 + 1 + 1) (ns ++ [v]) _ _ (by omega) (by omega) (by omega) hx2
            · simp only [go_sem, hid, P, hlt2, hg, cx, Lim.pv, hf, eo, hv, b1, b2, hmx, hnb, tr, e4, e5, e6, e7, e8, wi]
              rw [ev]
              refine ⟨some (ns ++ [v], c + 1 + 1 + 1, G, (h.length + 1, h.length + 3 + 1) :: x), ?_, ⟨by omega, by omega, by omega, by rw [el]; omega, hx2⟩, by show l.length - (ns ++ [v]).length < l.length - ns.length; omega⟩
              simp only [el]
        · obtain ⟨v, hv⟩ : ∃ v, pickV [y.lo, y.hi, IntKind.i64.wrap ((IntKind.i64.wrap (y.lo + y.hi)).tdiv 2), IntKind.i64.wrap ((IntKind.i64.wrap (y.lo + y.hi)).tdiv 2), IntKind.i64.wrap (y.lo + 1)] L c = v := ⟨_, rfl⟩
          have ev : ns.map eI ++ [PV.int .i64 v] = (ns ++ [v]).map eI := by simp
          have el : (ns ++ [v]).length = ns.length + 1 := by simp
          have hx2 : ∀ z ∈ (h.length + 1, h.length + 3 + 1) :: x, h.length + 1 ≤ z.1 := fun z hz => by
            rcases List.mem_cons.1 hz with rfl | hz
            · exact Nat.le_refl _
            · exact r5 z hz
          by_cases b1 : v < y.lo
          · simp only [go_sem, hid, P, hlt2, hg, cx, Lim.pv, hf, eo, hv, b1, hmx, hnb, tr, e4, e5, e6, e7, e8]
            rw [ev, ← el]
            exact fin (c + 1 + 1) (ns ++ [v]) _ _ (by omega) (by omega) (by omega) hx2
          · by_cases b2 : y.hi < v
            · simp only [go_sem, hid, P, hlt2, hg, cx, Lim.pv, hf, eo, hv, b1, b2, hmx, hnb, tr, e4, e5, e6, e7, e8]
              rw [ev, ← el]
              exact fin (c + 1 + 1) (ns ++ [v]) _ _ (by omega) (by omega) (by omega) hx2
            · simp only [go_sem, hid, P, hlt2, hg, cx, Lim.pv, hf, eo, hv, b1, b2, hmx, hnb, tr, e4, e5, e6, e7, e8, wi]
              rw [ev]
              refine ⟨some (ns ++ [v], c + 1 + 1, G, (h.length + 1, h.length + 3 + 1) :: x), ?_, ⟨by omega, by omega, by omega, by rw [el]; omega, hx2⟩, by show l.length - (ns ++ [v]).length < l.length - ns.length; omega⟩
              simp only [el]
      · have hb2 : ¬ (ns.length < l.length) := by omega
        have e4 : id + 1 ≤ h.length + 4 := by omega
        have e5 : h.length + 1 ≤ h.length + 4 := by omega
        have e6 : h.length + 1 + 1 ≤ h.length + 4 := by omega
        simp only [go_sem, hb2, e4, e5, e6]
        exact fin c ns G x (by omega) (by omega) (by omega) r5
  · have en : rs.length = n := by omega
    have hb2 : ¬ (rs.length < n) := by omega
    have hh : (h.set id (strm L b) ++ [Obj.row (some 4) (rs.map Rec.pv) 0])[h.length]? = some (.row (some 4) (rs.map Rec.pv) 0) := by rw [List.getElem?_append_right (by simp)]; simp
    have st := fun K => stable_api_Record (h := h.set id (strm L b) ++ [Obj.row (some 4) (rs.map Rec.pv) 0]) (K := K) h.length (rs.map Rec.pv) rec_shps (by simp; omega) hh (g := f_scanmake_Stream_Records_1) (caps := []) (c := fun x y => recCmp (unRec x) (unRec y))
      (fun o x hx y hy K => by
        obtain ⟨p, _, rfl⟩ := List.mem_map.1 hx
        obtain ⟨q, _, rfl⟩ := List.mem_map.1 hy
        dsimp only
        rw [unRec_pv, unRec_pv]
        exact s_rec1 p q)
    have so := isort_perm (ltC fun x y => recCmp (unRec x) (unRec y)) (rs.map Rec.pv)
    have hsm : ∀ x ∈ isort (ltC fun x y => recCmp (unRec x) (unRec y)) (rs.map Rec.pv), ∃ r, RecOk r ∧ x = Rec.pv r := fun x hx => by
      obtain ⟨r, hr, rfl⟩ := List.mem_map.1 (isort_mem.1 hx)
      exact ⟨r, q2 r hr, rfl⟩
    obtain ⟨ss, s1, s2⟩ := recs_of hsm
    have hsl : ss.length = rs.length := by have := congrArg List.length s2; simp [isort_len] at this; omega
    simp only [List.length_map, s2] at st
    have hh2 : (h.set id (strm L b) ++ [Obj.row (some 4) (ss.map Rec.pv) 0])[h.length]? = some (.row (some 4) (ss.map Rec.pv) 0) := by rw [List.getElem?_append_right (by simp)]; simp
    have cp := fun K => CompactFunc_Record (h := h.set id (strm L b) ++ [Obj.row (some 4) (ss.map Rec.pv) 0]) (K := K) h.length (ss.map Rec.pv) rec_shps (by simp; omega) hh2 (g := f_scanmake_Stream_Records_2) (caps := []) (q := fun x y => sameAt (unRec x) (unRec y))
      (fun o x hx y hy K => by
        obtain ⟨p, _, rfl⟩ := List.mem_map.1 hx
        obtain ⟨q, _, rfl⟩ := List.mem_map.1 hy
        dsimp only
        rw [unRec_pv, unRec_pv]
        exact s_rec2 p q)
    have hcm : ∀ x ∈ compactL (fun x y => sameAt (unRec x) (unRec y)) (ss.map Rec.pv), ∃ r, RecOk r ∧ x = Rec.pv r := fun x hx => by
      obtain ⟨r, hr, rfl⟩ := List.mem_map.1 (compactL_mem hx)
      exact ⟨r, s1 r hr, rfl⟩
    obtain ⟨cs, c1, c2⟩ := recs_of hcm
    have hcl : cs.length ≤ ss.length := by
      have h1 := congrArg List.length c2
      have h2 := compactL_len (fun x y => sameAt (unRec x) (unRec y)) (ss.map Rec.pv)
      simp at h1 h2; omega
    simp only [List.length_map, c2, hsl] at cp
    have e0 : ∀ o, (h.set id (strm L b) ++ [Obj.row (some 4) (rs.map Rec.pv) 0]).set h.length o = h.set id (strm L b) ++ [o] := fun o => by rw [List.set_append_right _ _ (by simp)]; simp
    have e1 : ∀ o, (h.set id (strm L b) ++ [Obj.row (some 4) (ss.map Rec.pv) 0]).set h.length o = h.set id (strm L b) ++ [o] := fun o => by rw [List.set_append_right _ _ (by simp)]; simp
    simp only [e0] at st
    simp only [e1] at cp
    have rl : (cs.map Rec.pv ++ List.replicate (rs.length - cs.length) (PV.agg [.str [], .int .i64 0, .str [], .sl none []])).length = rs.length := by simp; omega
    have hw : win (cs.map Rec.pv ++ List.replicate (rs.length - cs.length) (PV.agg [.str [], .int .i64 0, .str [], .sl none []])) 0 cs.length = cs.map Rec.pv := by simp [win]
    have hcr : cs.length ≤ rs.length := by omega
    generalize cs.map Rec.pv ++ List.replicate (rs.length - cs.length) (PV.agg [.str [], .int .i64 0, .str [], .sl none []]) = row at *
    simp only [go_sem, hb2, ↓st, st, ↓cp, cp, rl, hw, hcr]
    exact ⟨b, ⟨q3, by omega, cs, by omega, c1, rfl⟩, rfl⟩
end Go.Am
end
section
/- Merging two ordered lists: by sorting and leaving out what is alike, and by looking each one up. Plain lists. -/
namespace Go.Am
variable {α : Type}
structure Ordr (c : α → α → Int) : Prop where
  neg : ∀ a b, c b a = - c a b
  trans : ∀ a b d, c a b ≤ 0 → c b d ≤ 0 → c a d ≤ 0
theorem Ordr.refl {c : α → α → Int} (o : Ordr c) (a : α) : c a a = 0 := by have := o.neg a a; omega
theorem Ordr.lt_le {c : α → α → Int} (o : Ordr c) {a b d : α} (h1 : c a b < 0) (h2 : c b d ≤ 0) : c a d < 0 := by
  by_cases h : c a d < 0
  · exact h
  · have h3 := o.neg a d
    have h4 := o.trans b d a h2 (by omega)
    have := o.neg a b
    omega
def ltO (c : α → α → Int) (a b : α) : Bool := decide (c a b < 0)
theorem Ordr.weak {c : α → α → Int} (o : Ordr c) : Weak (ltO c) := by
  refine ⟨fun a b h => ?_, fun a b d h1 h2 => ?_⟩
  · simp only [ltO, decide_eq_true_eq, decide_eq_false_iff_not] at h ⊢
    have := o.neg a b; omega
  · simp only [ltO, decide_eq_false_iff_not] at h1 h2 ⊢
    have q1 := o.neg a b
    have q2 := o.neg b d
    have q3 := o.trans a b d (by omega) (by omega)
    have q4 := o.neg a d
    omega
def Strict (c : α → α → Int) (l : List α) : Prop := l.Pairwise fun x y => c x y < 0
theorem strict_ext {c : α → α → Int} (o : Ordr c) : ∀ {l m : List α}, Strict c l → Strict c m → (∀ x, x ∈ l ↔ x ∈ m) → l = m
  | [], [], _, _, _ => rfl
  | [], y :: m, _, _, h => absurd ((h y).2 (by simp)) (by simp)
  | x :: l, [], _, _, h => absurd ((h x).1 (by simp)) (by simp)
  | x :: l, y :: m, h1, h2, h => by
    have a1 := List.pairwise_cons.1 h1
    have a2 := List.pairwise_cons.1 h2
    have e : x = y := by
      rcases List.mem_cons.1 ((h x).1 (by simp)) with e | e
      · exact e
      · rcases List.mem_cons.1 ((h y).2 (by simp)) with e' | e'
        · exact e'.symm
        · have b1 := a2.1 x e
          have b2 := a1.1 y e'
          have := o.neg x y
          omega
    subst e
    rw [strict_ext o a1.2 a2.2 fun z => ?_]
    constructor
    · intro hz
      rcases List.mem_cons.1 ((h z).1 (by simp [hz])) with e | e
      · subst e; have := a1.1 z hz; have := o.refl z; omega
      · exact e
    · intro hz
      rcases List.mem_cons.1 ((h z).2 (by simp [hz])) with e | e
      · subst e; have := a2.1 z hz; have := o.refl z; omega
      · exact e
theorem strict_ne {c : α → α → Int} (o : Ordr c) : ∀ {l : List α}, Strict c l → ∀ {x y : α}, x ∈ l → y ∈ l → c x y = 0 → x = y
  | [], _, x, y, hx, _, _ => by simp at hx
  | z :: l, h, x, y, hx, hy, hc => by
    have a := List.pairwise_cons.1 h
    rcases List.mem_cons.1 hx with e | e <;> rcases List.mem_cons.1 hy with e' | e'
    · rw [e, e']
    · subst e; have := a.1 y e'; omega
    · subst e'; have := a.1 x e; have := o.neg y x; omega
    · exact strict_ne o a.2 e e' hc
/-! ### leaving out -/
theorem cmpct_sub (q : α → α → Bool) : ∀ (l : List α) (p : α), (cmpctFrom q p l).Sublist l
  | [], _ => List.Sublist.slnil
  | x :: r, p => by
    unfold cmpctFrom
    cases q x p with
    | true => exact (cmpct_sub q r x).cons x
    | false => exact (cmpct_sub q r x).cons_cons x
theorem compact_sub (q : α → α → Bool) : ∀ l : List α, (compactL q l).Sublist l
  | [] => List.Sublist.slnil
  | x :: r => (cmpct_sub q r x).cons_cons x
theorem cmpct_all {q : α → α → Bool} (hq : ∀ x y, q x y = true → x = y) : ∀ (l : List α) (p x : α), x ∈ l → x = p ∨ x ∈ cmpctFrom q p l
  | [], _, x, hx => by simp at hx
  | y :: r, p, x, hx => by
    unfold cmpctFrom
    cases h : q y p with
    | true =>
      have e := hq _ _ h
      subst e
      rcases List.mem_cons.1 hx with e | e
      · exact .inl e
      · exact cmpct_all hq r y x e
    | false =>
      rcases List.mem_cons.1 hx with e | e
      · subst e; exact .inr (by simp)
      · rcases cmpct_all hq r y x e with e | e
        · subst e; exact .inr (by simp)
        · exact .inr (by simp [e])
theorem compact_all {q : α → α → Bool} (hq : ∀ x y, q x y = true → x = y) : ∀ {l : List α} {x : α}, x ∈ l → x ∈ compactL q l
  | y :: r, x, hx => by
    rcases List.mem_cons.1 hx with e | e
    · subst e; simp [compactL]
    · rcases cmpct_all hq r y x e with e | e
      · subst e; simp [compactL]
      · simp [compactL, e]
theorem cmpct_adj {q : α → α → Bool} (hq : ∀ x y, q x y = true ↔ x = y) : ∀ (l : List α) (p : α) (i : Nat) (h : i + 1 < (p :: cmpctFrom q p l).length), (p :: cmpctFrom q p l)[i] ≠ (p :: cmpctFrom q p l)[i + 1]
  | [], p, i, h => by simp [cmpctFrom] at h
  | x :: r, p, i, h => by
    cases hx : q x p with
    | true =>
      have e := (hq _ _).1 hx
      subst e
      have e2 : cmpctFrom q x (x :: r) = cmpctFrom q x r := by rw [cmpctFrom]; rw [hx]; rfl
      simp only [e2] at h ⊢
      exact cmpct_adj hq r x i h
    | false =>
      have e2 : cmpctFrom q p (x :: r) = x :: cmpctFrom q x r := by rw [cmpctFrom]; rw [hx]; rfl
      simp only [e2] at h ⊢
      cases i with
      | zero =>
        simp only [List.getElem_cons_zero, List.getElem_cons_succ]
        intro e
        rw [(hq _ _).2 e.symm] at hx
        cases hx
      | succ i =>
        simp only [List.getElem_cons_succ]
        exact cmpct_adj hq r x i (by simpa using h)
theorem compact_adj {q : α → α → Bool} (hq : ∀ x y, q x y = true ↔ x = y) : ∀ (l : List α) (i : Nat) (h : i + 1 < (compactL q l).length), (compactL q l)[i] ≠ (compactL q l)[i + 1]
  | [], i, h => by simp [compactL] at h
  | x :: r, i, h => cmpct_adj hq r x i h
/-! ### the two ways of merging -/
def newB (c : α → α → Int) (a : List α) (x : α) : Bool := !a.any fun y => decide (c y x = 0)
def confB (c : α → α → Int) (q : α → α → Bool) (a b : List α) : Bool := b.any fun x => a.any fun y => decide (c y x = 0) && !q y x
def merged (c : α → α → Int) (q : α → α → Bool) (a b : List α) : List α := compactL q (isort (ltO c) (a ++ b))
variable {c : α → α → Int} {q : α → α → Bool} {a b : List α}
theorem merged_mem (hq : ∀ x y, q x y = true → x = y) {x : α} : x ∈ merged c q a b ↔ x ∈ a ∨ x ∈ b := by
  unfold merged
  constructor
  · intro h
    have := isort_mem.1 (compactL_mem h)
    simpa using this
  · intro h
    exact compact_all hq (isort_mem.2 (by simpa using h))
theorem merged_le (o : Ordr c) : (merged c q a b).Pairwise fun x y => c x y ≤ 0 := by
  unfold merged
  refine (List.Pairwise.sublist (compact_sub q _) (isort_sorted o.weak _)).imp fun {x y} h => ?_
  simp only [ltO, decide_eq_false_iff_not] at h
  have := o.neg x y
  omega
theorem adj_strict (o : Ordr c) {l : List α} (hle : l.Pairwise fun x y => c x y ≤ 0) (hadj : ∀ i (h : i + 1 < l.length), c l[i + 1] l[i] ≠ 0) : Strict c l := by
  rw [List.pairwise_iff_getElem] at hle
  unfold Strict
  rw [List.pairwise_iff_getElem]
  intro i j hi hj hij
  have h1 : c l[i] l[i + 1] < 0 := by
    have := hle i (i + 1) hi (by omega) (by omega)
    have h2 := hadj i (by omega)
    have := o.neg l[i] l[i + 1]
    omega
  rcases Nat.lt_or_ge (i + 1) j with h | h
  · exact o.lt_le h1 (hle (i + 1) j (by omega) hj h)
  · have e : j = i + 1 := by omega
    subst e
    exact h1
theorem merged_strict (o : Ordr c) (hadj : ∀ i (h : i + 1 < (merged c q a b).length), c (merged c q a b)[i + 1] (merged c q a b)[i] ≠ 0) : Strict c (merged c q a b) := adj_strict o (merged_le o) hadj
theorem strict_isort (o : Ordr c) {l : List α} (hl : l.Pairwise fun x y => c x y ≠ 0) : Strict c (isort (ltO c) l) := by
  have h1 := isort_sorted o.weak l
  have h2 : (isort (ltO c) l).Pairwise fun x y => c x y ≠ 0 := ((isort_perm (ltO c) l).pairwise_iff (fun {x y} h => by have := o.neg x y; omega)).2 hl
  refine (h1.and h2).imp fun {x y} h => ?_
  have := h.1
  simp only [ltO, decide_eq_false_iff_not] at this
  have h3 := o.neg x y
  have := h.2
  omega
theorem merge_ok (o : Ordr c) (hq : ∀ x y, q x y = true ↔ x = y) (ha : Strict c a) (hb : Strict c b) (hadj : ∀ i (h : i + 1 < (merged c q a b).length), c (merged c q a b)[i + 1] (merged c q a b)[i] ≠ 0) :
    confB c q a b = false ∧ merged c q a b = isort (ltO c) (a ++ b.filter (newB c a)) := by
  have hs := merged_strict o hadj
  have hm : ∀ x, x ∈ merged c q a b ↔ x ∈ a ∨ x ∈ b := fun x => merged_mem fun x y h => (hq x y).1 h
  have hab : ∀ y ∈ a, ∀ x ∈ b, c y x = 0 → y = x := fun y hy x hx h => strict_ne o hs ((hm y).2 (.inl hy)) ((hm x).2 (.inr hx)) h
  constructor
  · cases h : confB c q a b with
    | false => rfl
    | true =>
      unfold confB at h
      obtain ⟨x, hx, h2⟩ := List.any_eq_true.1 h
      obtain ⟨y, hy, h3⟩ := List.any_eq_true.1 h2
      simp only [Bool.and_eq_true, decide_eq_true_eq, Bool.not_eq_true'] at h3
      have e := hab y hy x hx h3.1
      rw [(hq _ _).2 e] at h3
      exact absurd h3.2 (by simp)
  · refine strict_ext o hs (strict_isort o ?_) fun x => ?_
    · rw [List.pairwise_append]
      refine ⟨ha.imp fun h => by omega, (List.Pairwise.sublist List.filter_sublist hb).imp fun h => by omega, fun y hy x hx => ?_⟩
      have h2 := (List.mem_filter.1 hx).2
      unfold newB at h2
      simp only [Bool.not_eq_true', List.any_eq_false, decide_eq_true_eq] at h2
      exact h2 y hy
    · rw [hm, isort_mem, List.mem_append, List.mem_filter]
      constructor
      · rintro (h | h)
        · exact .inl h
        · cases hn : newB c a x with
          | true => exact .inr ⟨h, rfl⟩
          | false =>
            unfold newB at hn
            simp only [Bool.not_eq_false', List.any_eq_true, decide_eq_true_eq] at hn
            obtain ⟨y, hy, h2⟩ := hn
            have e := hab y hy x h h2
            subst e
            exact .inl hy
      · rintro (h | h)
        · exact .inl h
        · exact .inr h.1
theorem merge_conf (o : Ordr c) (hq : ∀ x y, q x y = true ↔ x = y) (ha : Strict c a) (hb : Strict c b) {i : Nat} (h : i + 1 < (merged c q a b).length) (he : c (merged c q a b)[i + 1] (merged c q a b)[i] = 0) : confB c q a b = true := by
  have hne : (merged c q a b)[i] ≠ (merged c q a b)[i + 1] := compact_adj hq _ i h
  have hm : ∀ x, x ∈ merged c q a b ↔ x ∈ a ∨ x ∈ b := fun x => merged_mem fun x y h => (hq x y).1 h
  have m1 := (hm _).1 (List.getElem_mem (l := merged c q a b) (n := i) (by omega))
  have m2 := (hm _).1 (List.getElem_mem (l := merged c q a b) (n := i + 1) h)
  revert he hne m1 m2
  generalize (merged c q a b)[i] = p
  generalize (merged c q a b)[i + 1] = r
  intro he hne m1 m2
  have he2 : c p r = 0 := by have := o.neg p r; omega
  have mk : ∀ y ∈ a, ∀ x ∈ b, c y x = 0 → y ≠ x → confB c q a b = true := fun y hy x hx h1 h2 => by
    unfold confB
    refine List.any_eq_true.2 ⟨x, hx, List.any_eq_true.2 ⟨y, hy, ?_⟩⟩
    cases h3 : q y x with
    | true => exact absurd ((hq _ _).1 h3) h2
    | false => simp [h1]
  rcases m1 with m1 | m1 <;> rcases m2 with m2 | m2
  · exact absurd (strict_ne o ha m1 m2 he2) hne
  · exact mk p m1 r m2 he2 hne
  · exact mk r m2 p m1 he hne.symm
  · exact absurd (strict_ne o hb m1 m2 he2) hne
end Go.Am
end
section
/- Records alike; copies; bins. -/
open Go
set_option linter.unusedSimpArgs false
namespace Go.Am
variable {h : Heap} {K : Post}
def sameR (a b : Rec) : Bool := decide (a.unit = b.unit) && (decide (a.time = b.time) && (decide (a.site = b.site) && decide (a.res = b.res)))
theorem sameR_iff (a b : Rec) : sameR a b = true ↔ a = b := by
  cases a; cases b
  simp [sameR]
theorem s_same (a b : Rec) (ha : a.res.length ≤ 1000) : ACall X f_lot_same [.p a.pv, .p b.pv] h K = K (AB (sameR a b)) h [] := by
  refine rule ?_
  rw [c_lot_same rfl]
  have q := fun h K => s_EqualI (h := h) (K := K) a.res b.res (by omega)
  unfold sameR
  by_cases h1 : a.unit = b.unit
  · by_cases h2 : a.time = b.time
    · by_cases h3 : a.site = b.site
      · simp only [d_lot_same, Rec.pv, go_sem, eq_true h1, eq_true h2, eq_true h3, ↓q, q]
      · simp only [d_lot_same, Rec.pv, go_sem, eq_true h1, eq_true h2, h3]
    · simp only [d_lot_same, Rec.pv, go_sem, eq_true h1, h2]
  · simp only [d_lot_same, Rec.pv, go_sem, h1]
theorem s_SameRecord (a b : Rec) (ha : a.res.length ≤ 1000) : ACall X f_scanref2_SameRecord [.p a.pv, .p b.pv] h K = K (AB (sameR a b)) h [] := by
  refine rule ?_
  rw [c_scanref2_SameRecord rfl]
  have q := fun h K => s_EqualI (h := h) (K := K) a.res b.res (by omega)
  unfold sameR
  by_cases h1 : a.unit = b.unit
  · by_cases h2 : a.time = b.time
    · by_cases h3 : a.site = b.site
      · simp only [d_scanref2_SameRecord, Rec.pv, go_sem, eq_true h1, eq_true h2, eq_true h3, ↓q, q]
      · simp only [d_scanref2_SameRecord, Rec.pv, go_sem, eq_true h1, eq_true h2, h3]
    · simp only [d_scanref2_SameRecord, Rec.pv, go_sem, eq_true h1, h2]
  · simp only [d_scanref2_SameRecord, Rec.pv, go_sem, h1]
theorem s_CloneI (l : List Int) (hl : l.length ≤ 1000000) : ACall X f_slices_Clone_int_int [AL l] h K = K (.own h.length l.length 0 l.length) (h ++ [.row none (l.map eI) 0]) [] := by
  refine rule ?_
  rw [c_slices_Clone_int_int rfl]
  simp only [d_slices_Clone_int_int]
  refine detK_of (e := .ret) (s := ⟨[(2, .own h.length l.length 0 l.length)], h ++ [.row none (l.map eI) 0], []⟩) ?_ ?_
  · cases l with
    | nil => simp only [AL, ARec, List.map_nil, List.length_nil, go_sem]
    | cons x r =>
      have hm : r.length + 1 ≤ maxSl := by simp only [List.length_cons] at hl; unfold maxSl; omega
      simp only [AL, ARec, List.map_cons, List.length_cons, go_sem, hm]
  · simp only [go_sem]
    rw [List.take_of_length_le (by simp)]
theorem s_CloneR (l : List Rec) (hl : l.length ≤ 1000000) : ACall X f_slices_Clone_api_Record_api_Record [ARec l] h K = K (.own h.length l.length 0 l.length) (h ++ [.row (some 4) (l.map Rec.pv) 0]) [] := by
  refine rule ?_
  rw [c_slices_Clone_api_Record_api_Record rfl]
  simp only [d_slices_Clone_api_Record_api_Record]
  refine detK_of (e := .ret) (s := ⟨[(2, .own h.length l.length 0 l.length)], h ++ [.row (some 4) (l.map Rec.pv) 0], []⟩) ?_ ?_
  · cases l with
    | nil => simp only [AL, ARec, List.map_nil, List.length_nil, go_sem]
    | cons x r =>
      have hm : r.length + 1 ≤ maxSl := by simp only [List.length_cons] at hl; unfold maxSl; omega
      simp only [AL, ARec, List.map_cons, List.length_cons, go_sem, hm]
  · simp only [go_sem]
    rw [List.take_of_length_le (by simp)]
theorem retK_out {b : Nat} {P : Post} {vs : List AV} {h : Heap} {x : Esc} (hx : ∀ y ∈ x, b ≤ y.1) {v : AV} (h1 : reif b h (oneOf vs) = some v) (h2 : v.top ≤ b) : retK false b P (some vs) h x = P v (h.take b) [] := by
  have e : max b v.top = b := by omega
  have c : closed x b = true := by
    unfold closed
    rw [List.all_eq_true]
    intro y hy
    simp [hx y hy]
  have f : x.filter (fun y => decide (y.1 < b)) = [] := by
    rw [List.filter_eq_nil_iff]
    intro y hy
    have := hx y hy
    simp; omega
  simp only [retK, h1, e, close_out hx, c, if_true, f]
  exact propext ⟨fun h => h.2, fun h => ⟨h2, h⟩⟩
theorem s_copied (r : Rec) (hr : r.res.length ≤ 1000) : ACall X f_lot_copied [.p r.pv] h K = K (.p r.pv) h [] := by
  refine rule ?_
  rw [c_lot_copied rfl]
  have q := fun h K => s_CloneI (h := h) (K := K) r.res (by omega)
  simp only [d_lot_copied, Rec.pv, go_sem, ↓q, q]
  have w : win (r.res.map eI) 0 r.res.length = r.res.map eI := win_full (by simp)
  rw [retK_out (v := .p (.agg [.str r.unit, eI r.time, .str r.site, .sl none (r.res.map eI)])) ?_ ?_ (by simp only [go_sem])]
  · simp only [go_sem]
  · intro y hy
    simp only [escOf, List.mem_append] at hy
    rcases hy with hy | hy <;> split at hy <;> simp at hy <;> subst hy <;> simp
  · simp only [go_sem, w]
theorem s_First (l : List Int) (hl : l.length ≤ 1000) : ACall X f_base_First [AL l] h K = K (AI (orL l)) h [] := by
  refine rule ?_
  rw [c_base_First rfl]
  simp only [d_base_First, go_sem]
  refine N_loop (fun k : Nat => ⟨[(5, AL l), (6, AI l.length), (7, AI k)], h, []⟩) (fun k => k ≤ l.length ∧ orL (l.drop k) = orL l) (fun k => l.length - k) 0 rfl ⟨by omega, rfl⟩ ?_
  rintro k ⟨hk, hp⟩
  rcases Nat.lt_or_ge k l.length with hlt | hge
  · have g2 := map_get eI hlt
    have w2 : IntKind.i64.wrap ((k : Int) + 1) = ((k + 1 : Nat) : Int) := i64_wrap _ (by omega) (by omega)
    rw [List.drop_eq_getElem_cons hlt, orL] at hp
    by_cases hz : l[k] = 0
    · rw [if_neg (by simp [hz])] at hp
      simp only [go_sem, hlt, g2, hz, w2]
      exact ⟨k + 1, rfl, ⟨by omega, hp⟩, by omega⟩
    · rw [if_pos hz] at hp
      simp only [go_sem, hlt, g2, hz]
      rw [hp]
  · have ek : k = l.length := by omega
    subst ek
    rw [List.drop_length] at hp
    simp only [go_sem, Nat.lt_irrefl]
    rw [← hp]; rfl
end Go.Am
end
section
/- Lengths of numbers in bits, and comparisons of plain values. -/
open Go
namespace Go.Am
variable {h : Heap} {K : Post}
set_option maxRecDepth 20000
theorem tab_get (k : Nat) (hk : k < 256) : ∃ b, ([0, 1, 2, 2, 3, 3, 3, 3, 4, 4, 4, 4, 4, 4, 4, 4, 5, 5, 5, 5, 5, 5, 5, 5, 5, 5, 5, 5, 5, 5, 5, 5, 6, 6, 6, 6, 6, 6, 6, 6, 6, 6, 6, 6, 6, 6, 6, 6, 6, 6, 6, 6, 6, 6, 6, 6, 6, 6, 6, 6, 6, 6, 6, 6, 7, 7, 7, 7, 7, 7, 7, 7, 7, 7, 7, 7, 7, 7, 7, 7, 7, 7, 7, 7, 7, 7, 7, 7, 7, 7, 7, 7, 7, 7, 7, 7, 7, 7, 7, 7, 7, 7, 7, 7, 7, 7, 7, 7, 7, 7, 7, 7, 7, 7, 7, 7, 7, 7, 7, 7, 7, 7, 7, 7, 7, 7, 7, 7, 8, 8, 8, 8, 8, 8, 8, 8, 8, 8, 8, 8, 8, 8, 8, 8, 8, 8, 8, 8, 8, 8, 8, 8, 8, 8, 8, 8, 8, 8, 8, 8, 8, 8, 8, 8, 8, 8, 8, 8, 8, 8, 8, 8, 8, 8, 8, 8, 8, 8, 8, 8, 8, 8, 8, 8, 8, 8, 8, 8, 8, 8, 8, 8, 8, 8, 8, 8, 8, 8, 8, 8, 8, 8, 8, 8, 8, 8, 8, 8, 8, 8, 8, 8, 8, 8, 8, 8, 8, 8, 8, 8, 8, 8, 8, 8, 8, 8, 8, 8, 8, 8, 8, 8, 8, 8, 8, 8, 8, 8, 8, 8, 8, 8, 8, 8, 8, 8, 8, 8, 8, 8, 8, 8, 8, 8, 8, 8] : List UInt8)[k]? = some b := ⟨_, List.getElem?_eq_getElem (Nat.lt_of_lt_of_eq hk (by kernel_rfl))⟩
theorem len_any (x : Int) (h0 : 0 ≤ x) (h1 : x < 256) : ∃ m : Int, ∀ (h : Heap) (K : Post), ACall X f_math_bits_Len [AU x] h K = K (AI m) h [] := by
  obtain ⟨b, hb⟩ := tab_get x.toNat (by omega)
  refine ⟨IntKind.i64.wrap (0 + IntKind.i64.wrap b.toNat), fun h K => ?_⟩
  have w : IntKind.u8.wrap x = x := by simp [IntKind.wrap, IntKind.bits, IntKind.signed]; omega
  have b1 : ¬ (4294967296 ≤ x) := by omega
  have b2 : ¬ (65536 ≤ x) := by omega
  have b3 : ¬ (256 ≤ x) := by omega
  have hn := natOf_int (k := .u8) h0
  have key : ∀ (h : Heap) (K : Post), ACall X f_math_bits_Len64 [AU x] h K = K (AI (IntKind.i64.wrap (0 + IntKind.i64.wrap b.toNat))) h [] := by
    intro h K
    refine rule ?_
    rw [c_math_bits_Len64 rfl]
    simp only [d_math_bits_Len64, go_sem, b1, b2, b3, w, hn, hb]
  refine rule ?_
  rw [c_math_bits_Len rfl]
  simp only [d_math_bits_Len, go_sem, key]
end Go.Am
end
section
/- Sorting numbers: printed by program. -/
open Go
set_option linter.unusedSimpArgs false
namespace Go.Am
attribute [-go_sem] PV.cells splice
variable {h : Heap} {K : Post}
end Go.Am
end
section
/- Bins, both ways; lists joined; records sorted. -/
open Go
set_option linter.unusedSimpArgs false
namespace Go.Am
variable {h : Heap} {K : Post}
theorem failIdx_cases (l : List Lim) (res : List Int) : (failIdx l res = -1 ∧ ∀ b ∈ goods l res, b = true) ∨ ∃ k : Nat, failIdx l res = k ∧ k < (goods l res).length ∧ (goods l res)[k]? = some false := by
  unfold failIdx
  split
  · rename_i hlt
    refine .inr ⟨_, rfl, hlt, ?_⟩
    have := List.findIdx_getElem (w := hlt)
    rw [List.getElem?_eq_getElem hlt]
    simpa using this
  · rename_i hlt
    refine .inl ⟨rfl, fun b hb => ?_⟩
    have hge : (goods l res).length ≤ (goods l res).findIdx fun b => !b := by omega
    have := List.findIdx_eq_length.1 (Nat.le_antisymm List.findIdx_le_length hge) b hb
    simpa using this
theorem formB_len {l : List Lim} {res : List Int} (hf : formB l res = true) : 1 ≤ res.length ∧ res.length ≤ l.length := by
  unfold formB inB at hf
  simp only [Bool.and_eq_true, decide_eq_true_eq] at hf
  omega
theorem fails_eq {l : List Lim} {res : List Int} (hf : formB l res = true) (h1 : res.length - 1 < l.length) (h2 : res.length - 1 < res.length) : (if good l[res.length - 1] res[res.length - 1] then (-1 : Int) else (res.length : Int) - 1) = failIdx l res := by
  have hl := formB_len hf
  have gg := goods_get (l := l) (res := res) h1 h2
  have gl := goods_len (l := l) (res := res) hl.2
  rcases failIdx_cases l res with ⟨e, ha⟩ | ⟨k, e, hk, hg⟩
  · rw [e]
    have := ha _ (List.mem_of_getElem? gg)
    rw [this]; rfl
  · unfold formB at hf
    rw [e] at hf ⊢
    have ek : k = res.length - 1 := by
      simp only [Bool.and_eq_true, Bool.not_eq_true', Bool.and_eq_false_iff, decide_eq_false_iff_not] at hf
      have := hf.1.2
      rcases this with h | h
      · exact absurd (by omega) h
      · simp at h; omega
    subst ek
    rw [gg] at hg
    simp only [Option.some.injEq] at hg
    rw [hg]
    simp
    omega
def binV (l : List Lim) (f : Int) : Int := if 0 ≤ f then (l.getD f.toNat ⟨[], 0, 0, 0⟩).bin else 1
theorem s_failsF (l : List Lim) (r : Rec) (hf : formB l r.res = true) (hn : l.length ≤ 1000) : ACall X f_lot_fails [ALim l, .p r.pv] h K = K (AI (failIdx l r.res)) h [] := by
  have hl := formB_len hf
  rw [s_fails l r hl.1 hl.2 hn, fails_eq hf]
theorem s_binOf (l : List Lim) (r : Rec) (hf : formB l r.res = true) (hn : l.length ≤ 1000) : ACall X f_lot_binOf [ALim l, .p r.pv] h K = K (AI (binV l (failIdx l r.res))) h [] := by
  refine rule ?_
  rw [c_lot_binOf rfl]
  have q := fun h K => s_failsF (h := h) (K := K) l r hf hn
  have hl := formB_len hf
  simp only [Rec.pv] at q
  rcases failIdx_cases l r.res with ⟨e, _⟩ | ⟨k, e, hk, _⟩
  · rw [e] at q ⊢
    simp only [d_lot_binOf, Rec.pv, go_sem, ↓q, q]
    rfl
  · rw [e] at q ⊢
    have hkl : k < l.length := by rw [goods_len hl.2] at hk; omega
    have g1 := map_get Lim.pv hkl
    have b1 : (0 : Int) ≤ (k : Int) := by omega
    simp only [d_lot_binOf, Rec.pv, go_sem, ↓q, q, b1, hkl, g1, Lim.pv]
    unfold binV
    rw [if_pos b1, Int.toNat_natCast, List.getD_eq_getElem?_getD, List.getElem?_eq_getElem hkl]
    rfl
def binF (l : List Lim) (r : Rec) : Int := if limsFault l ≠ 0 then limsFault l else recFault l r
theorem recFault_form {l : List Lim} {r : Rec} (hf : recFault l r = 0) : formB l r.res = true := by
  unfold recFault at hf
  cases h : formB l r.res with
  | true => rfl
  | false =>
    rw [h] at hf
    split at hf
    · omega
    · split at hf
      · omega
      · split at hf
        · omega
        · simp at hf
theorem s_Bin (l : List Lim) (r : Rec) (hl : LimOk l) (hr : RecOk r) : ACall X f_lot_Bin [ALim l, .p r.pv] h K = K (.tup [AI (if binF l r = 0 then binV l (failIdx l r.res) else 0), AI (if binF l r = 0 then failIdx l r.res else 0), AI (binF l r)]) h [] := by
  refine rule ?_
  rw [c_lot_Bin rfl]
  have q1 := fun h K => s_CheckLimits (h := h) (K := K) l hl.k (by have := hl.n; omega)
  have q2 := fun h K => s_recordFault (h := h) (K := K) l r hl hr
  simp only [Rec.pv] at q2
  unfold binF
  by_cases h1 : limsFault l = 0
  · by_cases h2 : recFault l r = 0
    · have q3 := fun h K => s_binOf (h := h) (K := K) l r (recFault_form h2) hl.n
      have q4 := fun h K => s_failsF (h := h) (K := K) l r (recFault_form h2) hl.n
      simp only [Rec.pv] at q3 q4
      simp only [h1, h2] at q1 q2
      simp only [d_lot_Bin, Rec.pv, go_sem, ↓q1, q1, ↓q2, q2, ↓q3, q3, ↓q4, q4, h1, h2]
    · simp only [h1] at q1
      simp only [d_lot_Bin, Rec.pv, go_sem, ↓q1, q1, ↓q2, q2, h1, h2]
  · simp only [d_lot_Bin, Rec.pv, go_sem, ↓q1, q1, h1]
theorem s_RecordFault (l : List Lim) (r : Rec) (hl : LimOk l) (hr : RecOk r) : ACall X f_scanref2_RecordFault [ALim l, .p r.pv] h K = K (AI (binF l r)) h [] := by
  refine rule ?_
  rw [c_scanref2_RecordFault rfl]
  have q1 := fun h K => s_LimitsFault (h := h) (K := K) l hl.k (by have := hl.n; omega)
  have q2 := fun h K => s_refRecordFault (h := h) (K := K) l r hl hr
  simp only [Rec.pv] at q2
  unfold binF
  by_cases h1 : limsFault l = 0
  · simp only [h1] at q1
    simp only [d_scanref2_RecordFault, Rec.pv, go_sem, ↓q1, q1, ↓q2, q2, h1]
  · simp only [d_scanref2_RecordFault, Rec.pv, go_sem, ↓q1, q1, h1]
theorem s_BinOf (l : List Lim) (r : Rec) (hl : LimOk l) (hr : RecOk r) : ACall X f_scanref2_BinOf [ALim l, .p r.pv] h K = K (.tup [AI (binV l (failIdx l r.res)), AI (failIdx l r.res)]) h [] := by
  refine rule ?_
  rw [c_scanref2_BinOf rfl]
  have q := fun h K => s_refFails (h := h) (K := K) l r.res hl.n hr.n
  rcases failIdx_cases l r.res with ⟨e, _⟩ | ⟨k, e, hk, _⟩
  · rw [e] at q ⊢
    simp only [d_scanref2_BinOf, Rec.pv, go_sem, ↓q, q]
    rfl
  · rw [e] at q ⊢
    have hkl : k < l.length := by
      have : (goods l r.res).length ≤ l.length := by simp [goods]; omega
      omega
    have g1 := map_get Lim.pv hkl
    have b1 : (0 : Int) ≤ (k : Int) := by omega
    simp only [d_scanref2_BinOf, Rec.pv, go_sem, ↓q, q, b1, hkl, g1, Lim.pv]
    unfold binV
    rw [if_pos b1, Int.toNat_natCast, List.getD_eq_getElem?_getD, List.getElem?_eq_getElem hkl]
    rfl
/-! ### sorting -/
theorem SortFunc_Record (id : Nat) (l : List PV) (hs : shps (some 4) l) (hl : l.length ≤ 12) (hh : h[id]? = some (.row (some 4) l 0)) {g : Nat} {caps : List AV} {c : PV → PV → Int} (hc : Cmps g caps c l id h) :
    ACall X f_slices_SortFunc_api_Record_api_Record [.own id l.length 0 l.length, .fn g caps] h K = K (.tup []) (h.set id (.row (some 4) (isort (ltC c) l) 0)) [] := by
  refine rule ?_
  rw [c_slices_SortFunc_api_Record_api_Record]
  have w0 : IntKind.u64.wrap (l.length : Int) = l.length := u64_wrap _ (by omega) (by omega)
  obtain ⟨m, hm⟩ := len_any (l.length : Int) (by omega) (by omega)
  have is := fun K => insCmp_api_Record (h := h) (K := K) id l.length l [] rfl hs (by omega) (by rw [List.append_nil]; exact hh) hc
  simp only [List.append_nil] at is
  have key : ∀ K : Post, ACall X f_slices_pdqsortCmpFunc_api_Record [.own id l.length 0 l.length, AI 0, AI l.length, AI m, .fn g caps] h K = K (.tup []) (h.set id (.row (some 4) (isort (ltC c) l) 0)) [] := by
    intro K
    refine rule ?_
    rw [c_slices_pdqsortCmpFunc_api_Record]
    simp only [d_slices_pdqsortCmpFunc_api_Record, go_sem]
    refine N_loop (fun _ : Unit => ⟨[(0, .own id l.length 0 l.length), (1, AI 0), (2, AI l.length), (3, AI m), (4, .fn g caps), (10, AB true), (11, AB true)], h, []⟩) (fun _ => True) (fun _ => 0) () rfl trivial ?_
    intro _ _
    have w1 : IntKind.i64.wrap ((l.length : Int) - 0) = l.length := by rw [i64_wrap _ (by omega) (by omega)]; omega
    have b1 : ((l.length : Int) ≤ 12) := by omega
    simp only [go_sem, w1, b1, is]
  simp only [d_slices_SortFunc_api_Record_api_Record, go_sem, w0, hm, key]
end Go.Am
end
section
/- Lists of records joined, compared, merged. -/
open Go
set_option linter.unusedSimpArgs false
namespace Go.Am
variable {h : Heap} {K : Post}
theorem ex2_call {X : Ctx} {f : Nat} {vs : List AV} {h h1 : Heap} {v : AV} {x : Esc} {K : Post} (hf : X.fn f = none) (h2 : X.ex2 f vs h = some (v, h1, x)) : ACall X f vs h K = K v h1 x := by
  refine propext (ACall.eq (ACall.fold ?_) K)
  unfold Step
  simp only [hf, h2]
  exact ⟨trivial, trivial, trivial⟩
theorem X_ex2 : X.ex2 = growF [(f_slices_Grow_api_Record_api_Record, some 4)] := rfl
instance : DecidableEq Rec := fun a b => decidable_of_iff (sameR a b = true) (sameR_iff a b)
theorem s_Grow (n : Nat) (hn : n ≤ 1048576) : ACall X f_slices_Grow_api_Record_api_Record [.sl0 (some 4), AI n] h K = K (.own h.length 0 0 0) (h ++ [.row (some 4) [] 0]) [] := by
  refine ex2_call (by kernel_rfl) ?_
  rw [X_ex2]
  unfold growF
  rw [show Nat.beq f_slices_Grow_api_Record_api_Record f_slices_Grow_api_Record_api_Record = true from by kernel_rfl]
  have b1 : (0 : Int) ≤ (n : Int) := by omega
  have b2 : ((n : Int) ≤ 1048576) := by omega
  simp [b1, b2]
def lsl (xs : List PV) : PV := .sl (some 4) xs
theorem flat_take {ls : List (List PV)} {k : Nat} (hk : k < ls.length) : (ls.take (k + 1)).flatten = (ls.take k).flatten ++ ls[k] := by
  rw [List.take_succ_eq_append_getElem hk, List.flatten_append]; simp
theorem flat_le : ∀ (ls : List (List PV)) (k : Nat), (ls.take k).flatten.length ≤ ls.flatten.length
  | [], k => by simp
  | x :: r, 0 => by simp
  | x :: r, k + 1 => by
    have := flat_le r k
    simp only [List.take_succ_cons, List.flatten_cons, List.length_append]
    omega
theorem s_Concat (ls : List (List PV)) (hs : ∀ l ∈ ls, shps (some 4) l) (hl : ls.length ≤ 1000) (hn : ls.flatten.length ≤ 1000000) :
    ACall X f_slices_Concat_api_Record_api_Record [.p (.sl none (ls.map lsl))] h K = K (.own h.length ls.flatten.length 0 ls.flatten.length) (h ++ [.row (some 4) ls.flatten 0]) [] := by
  refine rule ?_
  rw [c_slices_Concat_api_Record_api_Record rfl]
  simp only [d_slices_Concat_api_Record_api_Record, go_sem]
  refine N_loop (fun k : Nat => ⟨[(0, .p (.sl none (ls.map lsl))), (3, AI (ls.take k).flatten.length), (9, .p (.sl none (ls.map lsl))), (10, AI ls.length), (11, AI k)], h, []⟩) (fun k => k ≤ ls.length) (fun k => ls.length - k) 0 rfl (by omega) ?_
  intro k hk
  rcases Nat.lt_or_ge k ls.length with hlt | hge
  · have g2 := map_get lsl hlt
    have f1 := flat_take hlt
    have f2 := flat_le ls (k + 1)
    have w2 : IntKind.i64.wrap ((k : Int) + 1) = ((k + 1 : Nat) : Int) := i64_wrap _ (by omega) (by omega)
    have w3 : IntKind.i64.wrap (((ls.take k).flatten.length : Int) + (ls[k].length : Int)) = ((ls.take (k + 1)).flatten.length : Int) := by
      rw [f1, List.length_append]
      have : (ls.take k).flatten.length + ls[k].length ≤ 1000000 := by rw [f1, List.length_append] at f2; omega
      rw [i64_wrap _ (by omega) (by omega)]; omega
    have b1 : ¬ (((ls.take (k + 1)).flatten.length : Int) < 0) := by omega
    simp only [go_sem, hlt, g2, lsl, w3, b1, w2]
    exact ⟨k + 1, rfl, by omega, by omega⟩
  · have ek : k = ls.length := by omega
    subst ek
    have q := fun h K => s_Grow (h := h) (K := K) ls.flatten.length (by omega)
    have tl : ls.take ls.length = ls := List.take_length
    simp only [go_sem, Nat.lt_irrefl, tl, ↓q, q]
    refine N_loop (fun k : Nat => ⟨[(6, .own h.length (ls.take k).flatten.length 0 (ls.take k).flatten.length), (25, .p (.sl none (ls.map lsl))), (26, AI ls.length), (27, AI k)], h ++ [.row (some 4) (ls.take k).flatten 0], []⟩) (fun k => k ≤ ls.length) (fun k => ls.length - k) 0 rfl (by omega) ?_
    intro k hk
    rcases Nat.lt_or_ge k ls.length with hlt | hge
    · have g2 := map_get lsl hlt
      have f1 := flat_take hlt
      have f2 := flat_le ls (k + 1)
      have w2 : IntKind.i64.wrap ((k : Int) + 1) = ((k + 1 : Nat) : Int) := i64_wrap _ (by omega) (by omega)
      have hm : (ls.take k).flatten.length + ls[k].length ≤ maxSl := by rw [f1, List.length_append] at f2; unfold maxSl; omega
      have hm0 : ls[k].length ≤ maxSl := by omega
      simp only [go_sem, hlt, g2, lsl, w2, hm, hm0]
      exact ⟨k + 1, by rw [f1]; simp, by omega, by omega⟩
    · have ek : k = ls.length := by omega
      subst ek
      simp only [go_sem, Nat.lt_irrefl, tl]
      rw [List.take_of_length_le (by simp)]
theorem s_EqualFunc (a b : List Rec) (ha : a.length ≤ 1000000) (hr : ∀ x ∈ a, x.res.length ≤ 1000) : ACall X f_slices_EqualFunc_api_Record_api_Record_api_Record_api_Record [ARec a, ARec b, .fn f_scanref2_SameRecord []] h K = K (AB (decide (a = b))) h [] := by
  refine rule ?_
  rw [c_slices_EqualFunc_api_Record_api_Record_api_Record_api_Record rfl]
  by_cases hl : a.length = b.length
  · have hl' : (a.length : Int) = (b.length : Int) := by omega
    simp only [d_slices_EqualFunc_api_Record_api_Record_api_Record_api_Record, go_sem, eq_true hl']
    refine N_loop (fun k : Nat => ⟨[(1, ARec b), (2, .fn f_scanref2_SameRecord []), (15, ARec a), (16, AI a.length), (17, AI k)], h, []⟩) (fun k => k ≤ a.length ∧ a.take k = b.take k) (fun k => a.length - k) 0 rfl ⟨by omega, rfl⟩ ?_
    rintro k ⟨hk, hp⟩
    rcases Nat.lt_or_ge k a.length with hlt | hge
    · have hkb : k < b.length := by omega
      have g1 := map_get Rec.pv hlt
      have g2 := map_get Rec.pv hkb
      have c1 : cutP (some 4) 0 a[k].pv = some a[k].pv := rfl
      have c2 : cutP (some 4) 0 b[k].pv = some b[k].pv := rfl
      have q := fun h K => s_SameRecord (h := h) (K := K) a[k] b[k] (hr _ (List.getElem_mem hlt))
      simp only [Rec.pv] at q g1 g2
      have w2 : IntKind.i64.wrap ((k : Int) + 1) = ((k + 1 : Nat) : Int) := i64_wrap _ (by omega) (by omega)
      cases hs : sameR a[k] b[k] with
      | true =>
        rw [hs] at q
        simp only [go_sem, hlt, hkb, g1, g2, c1, c2, Rec.pv, ↓q, q, w2]
        refine ⟨k + 1, rfl, ⟨by omega, ?_⟩, by omega⟩
        rw [List.take_succ_eq_append_getElem hlt, List.take_succ_eq_append_getElem hkb, hp, (sameR_iff _ _).1 hs]
      | false =>
        rw [hs] at q
        have : ¬ a = b := by
          intro e
          subst e
          rw [(sameR_iff _ _).2 rfl] at hs
          cases hs
        simp only [go_sem, hlt, hkb, g1, g2, c1, c2, Rec.pv, ↓q, q, this]
    · have ek : k = a.length := by omega
      subst ek
      have : a = b := by rw [List.take_length, hl, List.take_length] at hp; exact hp
      simp only [go_sem, Nat.lt_irrefl, eq_true this]
  · have hl' : ¬ (a.length : Int) = (b.length : Int) := by omega
    have : ¬ a = b := fun e => hl (by rw [e])
    simp only [d_slices_EqualFunc_api_Record_api_Record_api_Record_api_Record, go_sem, hl', this]
end Go.Am
end
section
/- Records merged as the reference does it. -/
open Go
set_option linter.unusedSimpArgs false
namespace Go.Am
variable {h : Heap} {K : Post}
theorem recCmp_le {a b : Rec} : recCmp a b ≤ 0 ↔ a.time < b.time ∨ (a.time = b.time ∧ cmpL a.unit b.unit ≤ 0) := by
  unfold recCmp cmp3
  by_cases h1 : a.time < b.time
  · simp [h1]
  · by_cases h2 : b.time < a.time
    · simp [h1, h2]; omega
    · have : a.time = b.time := by omega
      simp [this]
theorem cmpL_le_trans {a b c : List UInt8} (h1 : cmpL a b ≤ 0) (h2 : cmpL b c ≤ 0) : cmpL a c ≤ 0 := by
  by_cases e1 : cmpL a b = 0
  · rw [cmpL_eq e1]; exact h2
  · by_cases e2 : cmpL b c = 0
    · rw [← cmpL_eq e2]; exact h1
    · have := cmpL_trans (a := a) (b := b) (c := c) (by omega) (by omega)
      omega
theorem ordC : Ordr recCmp := by
  refine ⟨fun a b => recCmp_neg a b, fun a b d h1 h2 => ?_⟩
  rw [recCmp_le] at *
  rcases h1 with h1 | ⟨h1, h1'⟩ <;> rcases h2 with h2 | ⟨h2, h2'⟩
  · exact .inl (by omega)
  · exact .inl (by omega)
  · exact .inl (by omega)
  · exact .inr ⟨by omega, cmpL_le_trans h1' h2'⟩
def TimeOk (r : Rec) : Prop := -1000000000000000000 ≤ r.time ∧ r.time ≤ 1000000000000000000
def recBox (x : Rec) : Obj := .box [AS x.unit, AI x.time, AS x.site, .p (.sl none (x.res.map eI))]
theorem s_MR1 (o x : Rec) (ho : TimeOk o) (hx : TimeOk x) (id : Nat) (hh : h[id]? = some (recBox x)) : ACall X f_scanref2_MergedRecords_1 [.p o.pv, .ref id 0] h K = K (AB (decide (recCmp o x = 0))) h [] := by
  refine rule ?_
  rw [c_scanref2_MergedRecords_1 rfl]
  have hid := get_lt hh
  have q := fun h K => s_recordOrder (h := h) (K := K) o x ho hx
  simp only [Rec.pv] at q
  have hh' : ∀ l, (h ++ l)[id]? = some (.box [AS x.unit, AI x.time, AS x.site, .p (.sl none (x.res.map eI))]) := fun l => by rw [get_app hid]; exact hh
  simp only [d_scanref2_MergedRecords_1, Rec.pv, go_sem, hh', ↓q, q]
def outK (a b : List Rec) (k : Nat) : List Rec := a ++ (b.take k).filter (newB recCmp a)
def isAt (x : Rec) (y : PV) : Bool := decide (recCmp (unRec y) x = 0)
theorem outK_len (a b : List Rec) (k : Nat) : (outK a b k).length ≤ a.length + b.length := by
  unfold outK
  have h1 := List.length_filter_le (newB recCmp a) (b.take k)
  have h2 : (b.take k).length ≤ b.length := by simp; omega
  simp only [List.length_append]; omega
theorem outK_mem {a b : List Rec} {k : Nat} {x : Rec} (hx : x ∈ outK a b k) : x ∈ a ∨ x ∈ b.take k := by
  unfold outK at hx
  rcases List.mem_append.1 hx with h | h
  · exact .inl h
  · exact .inr (List.mem_filter.1 h).1
theorem outK_succ {a b : List Rec} {k : Nat} (hk : k < b.length) : outK a b (k + 1) = outK a b k ++ (if newB recCmp a b[k] then [b[k]] else []) := by
  unfold outK
  rw [List.take_succ_eq_append_getElem hk, List.filter_append, ← List.append_assoc]
  congr 1
  simp only [List.filter_cons, List.filter_nil]
theorem idx_none {a b : List Rec} {k : Nat} (hb : Strict recCmp b) (hk : k < b.length) (hn : newB recCmp a b[k] = true) : idxP (isAt b[k]) ((outK a b k).map Rec.pv) = -1 := by
  unfold idxP
  rw [if_neg]
  rw [Nat.not_lt, Nat.le_iff_lt_or_eq]; right
  refine (List.findIdx_eq_length.2 fun y hy => ?_).symm
  obtain ⟨o, ho, rfl⟩ := List.mem_map.1 hy
  unfold isAt
  rw [unRec_pv, decide_eq_false_iff_not]
  rcases outK_mem ho with h | h
  · unfold newB at hn
    simp only [Bool.not_eq_true', List.any_eq_false, decide_eq_true_eq] at hn
    exact hn o h
  · obtain ⟨j, hj, rfl⟩ := List.mem_take_iff_getElem.1 h
    have := (List.pairwise_iff_getElem.1 hb) j k (by omega) hk (by omega)
    omega
theorem idx_some {a b : List Rec} {k : Nat} (hb : Strict recCmp b) (hk : k < b.length) (hn : newB recCmp a b[k] = false) : ∃ (i : Nat) (hi : i < (outK a b k).length), idxP (isAt b[k]) ((outK a b k).map Rec.pv) = i ∧ (outK a b k)[i] ∈ a ∧ recCmp (outK a b k)[i] b[k] = 0 := by
  unfold newB at hn
  simp only [Bool.not_eq_false', List.any_eq_true, decide_eq_true_eq] at hn
  obtain ⟨y, hy, hc⟩ := hn
  have hlt : ((outK a b k).map Rec.pv).findIdx (isAt b[k]) < ((outK a b k).map Rec.pv).length := by
    refine List.findIdx_lt_length_of_exists ⟨y.pv, List.mem_map.2 ⟨y, by unfold outK; simp [hy], rfl⟩, ?_⟩
    unfold isAt
    rw [unRec_pv]; simp [hc]
  have hi : ((outK a b k).map Rec.pv).findIdx (isAt b[k]) < (outK a b k).length := by simpa using hlt
  refine ⟨_, hi, by unfold idxP; rw [if_pos hlt], ?_⟩
  have hp := List.findIdx_getElem (w := hlt)
  revert hp hi
  generalize ((outK a b k).map Rec.pv).findIdx (isAt b[k]) = i at *
  intro hi hp
  simp only [List.getElem_map] at hp
  unfold isAt at hp
  rw [unRec_pv] at hp
  have hp' : recCmp (outK a b k)[i] b[k] = 0 := by simpa using hp
  refine ⟨?_, hp'⟩
  rcases outK_mem (List.getElem_mem hi) with h | h
  · exact h
  · obtain ⟨j, hj, e⟩ := List.mem_take_iff_getElem.1 h
    have := (List.pairwise_iff_getElem.1 hb) j k (by omega) hk (by omega)
    rw [e] at this
    omega
end Go.Am
end
section
/- Records merged: the reference's walk. -/
open Go
set_option linter.unusedSimpArgs false
namespace Go.Am
variable {h : Heap} {K : Post}
/-- What the reference's merge yields. -/
def refM (a b : List Rec) : List Rec × Int := if confB recCmp sameR a b then ([], 13) else (isort (ltO recCmp) (a ++ b.filter (newB recCmp a)), 0)
def noConf (a b : List Rec) (k : Nat) : Prop := ∀ x ∈ b.take k, ∀ y ∈ a, recCmp y x = 0 → sameR y x = true
theorem noConf_end {a b : List Rec} (hn : noConf a b b.length) : confB recCmp sameR a b = false := by
  unfold confB
  rw [List.any_eq_false]
  intro x hx
  rw [Bool.not_eq_true, List.any_eq_false]
  intro y hy
  have := hn x (by rw [List.take_length]; exact hx) y hy
  by_cases hc : recCmp y x = 0
  · simp [this hc]
  · simp [hc]
theorem conf_at {a b : List Rec} {x y : Rec} (hx : x ∈ b) (hy : y ∈ a) (hc : recCmp y x = 0) (hs : sameR y x = false) : confB recCmp sameR a b = true := by
  unfold confB
  exact List.any_eq_true.2 ⟨x, hx, List.any_eq_true.2 ⟨y, hy, by simp [hc, hs]⟩⟩
set_option maxHeartbeats 2000000 in
theorem s_MergedRecords (a b : List Rec) (ha : Strict recCmp a) (hb : Strict recCmp b) (hta : ∀ x ∈ a, TimeOk x) (htb : ∀ x ∈ b, TimeOk x) (hra : ∀ x ∈ a, x.res.length ≤ 1000) (hl : a.length + b.length ≤ 1000) (hl2 : (a ++ b.filter (newB recCmp a)).length ≤ 12) :
    ACall X f_scanref2_MergedRecords [ARec a, ARec b] h K = K (.tup [ARec (refM a b).1, AI (refM a b).2]) h [] := by
  refine rule ?_
  rw [c_scanref2_MergedRecords rfl]
  have cl := fun h K => s_CloneR (h := h) (K := K) a (by omega)
  simp only [d_scanref2_MergedRecords, go_sem, ↓cl, cl]
  refine N_loop (fun k : Nat => ⟨[(6, .own h.length (outK a b k).length 0 (outK a b k).length), (12, ARec b), (13, AI b.length), (14, AI k)], h ++ [.row (some 4) ((outK a b k).map Rec.pv) 0], []⟩) (fun k => k ≤ b.length ∧ noConf a b k) (fun k => b.length - k) 0 (by simp [outK]) ⟨by omega, by simp [noConf]⟩ ?_
  rintro k ⟨hk, hn⟩
  have ol := outK_len a b k
  rcases Nat.lt_or_ge k b.length with hlt | hge
  · have g2 := map_get Rec.pv hlt
    have c2 : cutP (some 4) 0 b[k].pv = some b[k].pv := rfl
    have w2 : IntKind.i64.wrap ((k : Int) + 1) = ((k + 1 : Nat) : Int) := i64_wrap _ (by omega) (by omega)
    have bm : b[k] ∈ b := List.getElem_mem hlt
    have tells : Tells f_scanref2_MergedRecords_1 [.ref (h.length + 1) 0] (isAt b[k]) ((outK a b k).map Rec.pv) (h ++ [.row (some 4) ((outK a b k).map Rec.pv) 0, recBox b[k]]) := by
      intro y hy K
      obtain ⟨o, ho, rfl⟩ := List.mem_map.1 hy
      unfold isAt
      rw [unRec_pv]
      refine s_MR1 o b[k] ?_ (htb _ bm) (h.length + 1) (by simp)
      rcases outK_mem ho with h1 | h1
      · exact hta o h1
      · exact htb o (List.mem_of_mem_take h1)
    have ix := fun K => IndexFunc_Record (h := h ++ [.row (some 4) ((outK a b k).map Rec.pv) 0, recBox b[k]]) (K := K) (shows_full (id := h.length) (fz := 0) rec_shps (by simp)) tells (by simp; omega)
    simp only [List.length_map, recBox] at ix
    simp only [Rec.pv] at g2 c2
    have os := outK_succ (a := a) hlt
    cases hnew : newB recCmp a b[k] with
    | true =>
      rw [idx_none hb hlt hnew] at ix
      rw [hnew, if_pos rfl] at os
      have hm : (outK a b k).length + 1 ≤ maxSl := by unfold maxSl; omega
      simp only [go_sem, hlt, g2, c2, Rec.pv, ↓ix, ix, w2, hm]
      refine ⟨k + 1, ?_, ⟨by omega, ?_⟩, by omega⟩
      · rw [os]; simp [Rec.pv]
      · intro x hx y hy hc
        rw [List.take_succ_eq_append_getElem hlt, List.mem_append, List.mem_singleton] at hx
        rcases hx with hx | rfl
        · exact hn x hx y hy hc
        · unfold newB at hnew
          simp only [Bool.not_eq_true', List.any_eq_false, decide_eq_true_eq] at hnew
          exact absurd hc (hnew y hy)
    | false =>
      obtain ⟨i, hi, hix, him, hic⟩ := idx_some hb hlt hnew
      rw [hix] at ix
      rw [hnew, if_neg (by simp), List.append_nil] at os
      have g3 := map_get Rec.pv hi
      have c3 : cutP (some 4) 0 (outK a b k)[i].pv = some (outK a b k)[i].pv := rfl
      have sr := fun h K => s_SameRecord (h := h) (K := K) (outK a b k)[i] b[k] (hra _ him)
      have b1 : ¬ ((i : Int) < 0) := by omega
      simp only [Rec.pv] at g3 c3 sr
      cases hs : sameR (outK a b k)[i] b[k] with
      | true =>
        rw [hs] at sr
        simp only [go_sem, hlt, g2, c2, Rec.pv, ↓ix, ix, w2, b1, hi, g3, c3, ↓sr, sr]
        refine ⟨k + 1, ?_, ⟨by omega, ?_⟩, by omega⟩
        · rw [os]
        · intro x hx y hy hc
          rw [List.take_succ_eq_append_getElem hlt, List.mem_append, List.mem_singleton] at hx
          rcases hx with hx | rfl
          · exact hn x hx y hy hc
          · have e : y = (outK a b k)[i] := by
              refine strict_ne ordC ha hy him ?_
              have h1 := ordC.trans y b[k] (outK a b k)[i] (by omega) (by have := ordC.neg (outK a b k)[i] b[k]; omega)
              have h2 := ordC.trans (outK a b k)[i] b[k] y (by omega) (by have := ordC.neg y b[k]; omega)
              have := ordC.neg y (outK a b k)[i]
              omega
            rw [e]; exact hs
      | false =>
        rw [hs] at sr
        simp only [go_sem, hlt, g2, c2, Rec.pv, ↓ix, ix, w2, b1, hi, g3, c3, ↓sr, sr]
        have hcf := conf_at bm him hic hs
        simp only [refM, hcf, if_true, List.map_nil, ARec]
  · have ek : k = b.length := by omega
    subst ek
    have oe : outK a b b.length = a ++ b.filter (newB recCmp a) := by unfold outK; rw [List.take_length]
    have hcf := noConf_end hn
    rw [← oe] at hl2
    have hh : (h ++ [Obj.row (some 4) ((outK a b b.length).map Rec.pv) 0])[h.length]? = some (.row (some 4) ((outK a b b.length).map Rec.pv) 0) := by simp
    have st := fun K => SortFunc_Record (h := h ++ [Obj.row (some 4) ((outK a b b.length).map Rec.pv) 0]) (K := K) h.length ((outK a b b.length).map Rec.pv) rec_shps (by simp; omega) hh (g := f_scanref2_recordOrder) (caps := []) (c := fun x y => recCmp (unRec x) (unRec y))
      (fun o x hx y hy K => by
        obtain ⟨p, hp, rfl⟩ := List.mem_map.1 hx
        obtain ⟨q, hq, rfl⟩ := List.mem_map.1 hy
        dsimp only
        rw [unRec_pv, unRec_pv]
        have tm : ∀ z ∈ outK a b b.length, TimeOk z := fun z hz => by
          rcases outK_mem hz with h1 | h1
          · exact hta z h1
          · exact htb z (List.mem_of_mem_take h1)
        exact s_recordOrder p q (tm p hp) (tm q hq))
    have em : isort (ltC fun x y => recCmp (unRec x) (unRec y)) ((outK a b b.length).map Rec.pv) = (isort (ltO recCmp) (outK a b b.length)).map Rec.pv := isort_map Rec.pv (fun x y => by simp only [ltC, ltO, unRec_pv]) _
    rw [em] at st
    have e0 : ∀ o, (h ++ [Obj.row (some 4) ((outK a b b.length).map Rec.pv) 0]).set h.length o = h ++ [o] := fun o => by rw [List.set_append_right _ _ (by simp)]; simp
    simp only [e0, List.length_map] at st
    have il := isort_len (ltO recCmp) (outK a b b.length)
    have b1 : ¬ ((5000 : Int) < ((outK a b b.length).length : Int)) := by omega
    have hw : win ((isort (ltO recCmp) (outK a b b.length)).map Rec.pv) 0 (outK a b b.length).length = (isort (ltO recCmp) (outK a b b.length)).map Rec.pv := win_full (by simp [il])
    simp only [go_sem, Nat.lt_irrefl, ↓st, st, b1, il, hw]
    simp only [refM, hcf, oe]
    simp
end Go.Am
end
section
/- Records merged: lot's walk. -/
open Go
set_option linter.unusedSimpArgs false
namespace Go.Am
variable {h : Heap} {K : Post}
/-- What lot's merge leaves, and whether two clash. -/
def okAdj (C : List Rec) (k : Nat) : Prop := ∀ i (h : i + 1 < C.length), i + 1 < k → recCmp C[i + 1] C[i] ≠ 0
attribute [-go_sem] e_lot_Merge_k4 d_lot_Merge_k4 e_lot_Merge_k2 d_lot_Merge_k2 e_lot_Merge_k3 d_lot_Merge_k3
set_option maxHeartbeats 2000000 in
/-- The copies. -/
theorem merge_k4 (C : List Rec) (N : Nat) (row : List PV) (id : Nat) (hr : ∀ x ∈ C, x.res.length ≤ 1000) (hC : C.length ≤ 1000) (hN : row.length = N) (hw : win row 0 C.length = C.map Rec.pv) (hid : h[id]? = some (.row (some 4) row 0)) (hCN : C.length ≤ N) {x : Esc} (hx : x = []) (K : Ex → St → Prop)
    (hK : ∀ h2 y, y = [] → h2 = h ++ [.row (some 4) (C.map Rec.pv) 0] → K .ret ⟨[(6, .own h.length C.length 0 C.length), (7, AI 0)], h2, y⟩) :
    d_lot_Merge_k4 (ACall X) X.gl p_lot_Merge_k2 p_lot_Merge_k3 (.own id N 0 C.length) h x K := by
  subst hx
  have b1 : ¬ ((5000 : Int) < (C.length : Int)) := by omega
  simp only [d_lot_Merge_k4, go_sem, b1]
  have hidl := get_lt hid
  refine N_loop (fun k : Nat => ⟨[(12, .own h.length k 0 k), (57, .own id N 0 C.length), (58, AI C.length), (59, AI k)], h ++ [.row (some 4) ((C.take k).map Rec.pv) 0], []⟩) (fun k => k ≤ C.length) (fun k => C.length - k) 0 (by simp) (by omega) ?_
  intro k hk
  rcases Nat.lt_or_ge k C.length with hlt | hge
  · have w2 : IntKind.i64.wrap ((k : Int) + 1) = ((k + 1 : Nat) : Int) := i64_wrap _ (by omega) (by omega)
    have hg : row[k]? = some C[k].pv := by
      have h1 : (win row 0 C.length)[k]? = some C[k].pv := by rw [hw]; exact map_get Rec.pv hlt
      rw [win, List.drop_zero, List.getElem?_take_of_lt hlt] at h1
      exact h1
    have hid' : ∀ l, (h ++ l)[id]? = some (.row (some 4) row 0) := fun l => by rw [get_app hidl]; exact hid
    have cp := fun h K => s_copied (h := h) (K := K) C[k] (hr _ (List.getElem_mem hlt))
    have c1 : cutP (some 4) 0 C[k].pv = some C[k].pv := rfl
    have hm : k + 1 ≤ maxSl := by unfold maxSl; omega
    have tk : (C.take k).length = k := by simp; omega
    simp only [Rec.pv] at hg cp c1
    simp only [@e_lot_Merge_k2, aget, Nat.reduceEqDiff, if_true, if_false, d_lot_Merge_k2, go_sem, hlt, hN, hid', hg, c1, hCN, ↓cp, cp, w2, hm, tk]
    refine ⟨k + 1, ?_, by omega, by omega⟩
    have e : (C.take (k + 1)).map Rec.pv = (C.take k).map Rec.pv ++ [C[k].pv] := by rw [List.take_succ_eq_append_getElem hlt, List.map_append]; rfl
    have hidl2 : id ≤ h.length := by omega
    rw [e]
    simp [Rec.pv, hidl2, -List.map_take]
  · have ek : k = C.length := by omega
    subst ek
    simp only [@e_lot_Merge_k2, @e_lot_Merge_k3, aget, Nat.reduceEqDiff, if_true, if_false, d_lot_Merge_k2, d_lot_Merge_k3, go_sem, Nat.lt_irrefl]
    exact hK _ _ rfl (by rw [List.take_length])
theorem recsFaultFrom_inv {l : List Lim} {r : List Rec} {x : Rec} {p : Option Rec} (h : recsFaultFrom l p (x :: r) = 0) : recFault l x = 0 ∧ (∀ q, p = some q → ¬ recCmp x q ≤ 0) ∧ recsFaultFrom l (some x) r = 0 := by
  rw [recsFaultFrom_cons] at h
  by_cases h1 : recFault l x ≠ 0
  · rw [if_pos h1] at h; exact absurd h h1
  · rw [if_neg h1] at h
    refine ⟨by omega, ?_⟩
    cases p with
    | none => exact ⟨by simp, by simpa using h⟩
    | some q =>
      by_cases h2 : recCmp x q ≤ 0
      · simp [h2] at h
      · refine ⟨fun q' e => ?_, by simpa [h2] using h⟩
        injection e with e
        subst e; exact h2
/-- Strictly ordered where nothing is wrong. -/
theorem recsFaultFrom_strict {l : List Lim} : ∀ {r : List Rec} {p : Option Rec}, recsFaultFrom l p r = 0 → (∀ x, r.head? = some x → ∀ q, p = some q → recCmp q x < 0) ∧ Strict recCmp r
  | [], p, h => ⟨by simp, List.Pairwise.nil⟩
  | x :: r, p, h => by
    obtain ⟨_, h2, h3⟩ := recsFaultFrom_inv h
    obtain ⟨g1, g2⟩ := recsFaultFrom_strict (r := r) (p := some x) h3
    refine ⟨fun y hy q hq => ?_, List.pairwise_cons.2 ⟨fun y hy => ?_, g2⟩⟩
    · simp only [List.head?_cons, Option.some.injEq] at hy
      subst hy
      have := h2 q hq
      have := recCmp_neg x q
      omega
    · cases r with
      | nil => simp at hy
      | cons z r =>
        have hz := g1 z rfl x rfl
        rcases List.mem_cons.1 hy with e | e
        · subst e; exact hz
        · have := (List.pairwise_cons.1 g2).1 y e
          exact ordC.lt_le hz (by omega)
theorem recsFaultFrom_time {l : List Lim} : ∀ {r : List Rec} {p : Option Rec}, recsFaultFrom l p r = 0 → ∀ x ∈ r, TimeOk x
  | [], _, _, x, hx => by simp at hx
  | y :: r, p, h, x, hx => by
    obtain ⟨h1, _, h3⟩ := recsFaultFrom_inv h
    rcases List.mem_cons.1 hx with e | e
    · subst e
      have := recFault_time h1
      unfold TimeOk; omega
    · exact recsFaultFrom_time h3 x e
theorem recsFault_ok {l : List Lim} {r : List Rec} (h : recsFault l r = 0) : Strict recCmp r ∧ ∀ x ∈ r, TimeOk x := by
  unfold recsFault recsFault0 at h
  split at h
  · rename_i h1; exact absurd h h1
  · split at h
    · omega
    · exact ⟨(recsFaultFrom_strict h).2, recsFaultFrom_time h⟩
end Go.Am
end
section
/- Records merged: lot's walk, whole. -/
open Go
set_option linter.unusedSimpArgs false
namespace Go.Am
variable {h : Heap} {K : Post}
attribute [-go_sem] e_lot_Merge_k4 d_lot_Merge_k4 e_lot_Merge_k2 d_lot_Merge_k2 e_lot_Merge_k3 d_lot_Merge_k3
/-- What lot.Merge tells. -/
def mergeV (l : List Lim) (a b : List Rec) : List Rec × Int := if orL [recsFault l a, recsFault l b] ≠ 0 then ([], orL [recsFault l a, recsFault l b]) else refM a b
set_option maxHeartbeats 4000000 in
theorem s_Merge (l : List Lim) (a b : List Rec) (hl : LimOk l) (ha : ∀ x ∈ a, RecOk x) (hb : ∀ x ∈ b, RecOk x) (hn : a.length + b.length ≤ 19) :
    ACall X f_lot_Merge [ALim l, ARec a, ARec b] h K = K (.tup [ARec (mergeV l a b).1, AI (mergeV l a b).2]) h [] := by
  refine rule ?_
  rw [c_lot_Merge rfl]
  have q1 := fun h K => s_CheckRecords (h := h) (K := K) l a hl ha (by omega)
  have q2 := fun h K => s_CheckRecords (h := h) (K := K) l b hl hb (by omega)
  have q3 := fun h K => s_First (h := h) (K := K) [recsFault l a, recsFault l b] (by simp)
  simp only [AL, List.map_cons, List.map_nil] at q3
  unfold mergeV
  by_cases he : orL [recsFault l a, recsFault l b] = 0
  · rw [he] at q3
    have hfa : recsFault l a = 0 := by
      unfold orL at he; split at he
      · assumption
      · omega
    have hfb : recsFault l b = 0 := by
      rw [hfa] at he
      unfold orL at he
      rw [if_neg (by simp)] at he
      unfold orL at he
      split at he
      · assumption
      · omega
    obtain ⟨sa, ta⟩ := recsFault_ok hfa
    obtain ⟨sb, tb⟩ := recsFault_ok hfb
    have hres : ∀ x ∈ a ++ b, x.res.length ≤ 1000 := fun x hx => by
      rcases List.mem_append.1 hx with h1 | h1
      · exact (ha x h1).n
      · exact (hb x h1).n
    have q4 := fun h K => s_Concat (h := h) (K := K) [a.map Rec.pv, b.map Rec.pv] (fun z hz => by
      simp only [List.mem_cons, List.not_mem_nil, or_false] at hz
      rcases hz with rfl | rfl <;> exact rec_shps) (by simp) (by simp; omega)
    have ef : [a.map Rec.pv, b.map Rec.pv].flatten = (a ++ b).map Rec.pv := by simp
    simp only [ef, List.map_cons, List.map_nil, lsl, List.length_map] at q4
    have e0 : ∀ o o', (h ++ [o]).set h.length o' = h ++ [o'] := fun o o' => by rw [List.set_append_right _ _ (by simp)]; simp
    have st := fun K => stable_api_Record (h := h ++ [Obj.row (some 4) ((a ++ b).map Rec.pv) 0]) (K := K) h.length ((a ++ b).map Rec.pv) rec_shps (by simp; omega) (by simp) (g := f_lot_byTime) (caps := []) (c := fun x y => recCmp (unRec x) (unRec y))
      (fun o x hx y hy K => by
        obtain ⟨p, _, rfl⟩ := List.mem_map.1 hx
        obtain ⟨q, _, rfl⟩ := List.mem_map.1 hy
        dsimp only
        rw [unRec_pv, unRec_pv]
        exact s_byTime p q)
    have em : isort (ltC fun x y => recCmp (unRec x) (unRec y)) ((a ++ b).map Rec.pv) = (isort (ltO recCmp) (a ++ b)).map Rec.pv := isort_map Rec.pv (fun x y => by simp only [ltC, ltO, unRec_pv]) _
    rw [em] at st
    simp only [e0, List.length_map] at st
    have il := isort_len (ltO recCmp) (a ++ b)
    have cp := fun K => CompactFunc_Record (h := h ++ [Obj.row (some 4) ((isort (ltO recCmp) (a ++ b)).map Rec.pv) 0]) (K := K) h.length ((isort (ltO recCmp) (a ++ b)).map Rec.pv) rec_shps (by simp [il]; omega) (by simp) (g := f_lot_same) (caps := []) (q := fun x y => sameR (unRec x) (unRec y))
      (fun o x hx y hy K => by
        obtain ⟨p, hp, rfl⟩ := List.mem_map.1 hx
        obtain ⟨q, _, rfl⟩ := List.mem_map.1 hy
        dsimp only
        rw [unRec_pv, unRec_pv]
        exact s_same p q (hres p (isort_mem.1 hp)))
    have ec : compactL (fun x y => sameR (unRec x) (unRec y)) ((isort (ltO recCmp) (a ++ b)).map Rec.pv) = (merged recCmp sameR a b).map Rec.pv := compactL_map Rec.pv (fun x y => by simp only [unRec_pv]) _
    rw [ec] at cp
    simp only [e0, List.length_map, il] at cp
    obtain ⟨C, hC⟩ : ∃ C, C = merged recCmp sameR a b := ⟨_, rfl⟩
    have mo : (∀ i (h : i + 1 < C.length), recCmp C[i + 1] C[i] ≠ 0) → confB recCmp sameR a b = false ∧ C = isort (ltO recCmp) (a ++ b.filter (newB recCmp a)) := by
      subst hC; exact fun hadj => merge_ok (a := a) (b := b) ordC sameR_iff sa sb hadj
    have mc : ∀ i (h : i + 1 < C.length), recCmp C[i + 1] C[i] = 0 → confB recCmp sameR a b = true := by
      subst hC; exact fun i h he => merge_conf (a := a) (b := b) (i := i) ordC sameR_iff sa sb h he
    have hcl : C.length ≤ (a ++ b).length := by
      have := compactL_len sameR (isort (ltO recCmp) (a ++ b))
      rw [il] at this; rw [hC]; exact this
    have hcr : ∀ x ∈ C, x.res.length ≤ 1000 := fun x hx => hres x (isort_mem.1 (compactL_mem (by rw [hC] at hx; exact hx)))
    rw [← hC] at cp
    clear ec hC
    have hab : (a ++ b).length ≤ 19 := by simp; omega
    generalize hNN : (a ++ b).length = N at *
    have hrow : (C.map Rec.pv ++ List.replicate (N - C.length) (PV.agg [.str [], .int .i64 0, .str [], .sl none []])).length = N := by simp; omega
    have hw : win (C.map Rec.pv ++ List.replicate (N - C.length) (PV.agg [.str [], .int .i64 0, .str [], .sl none []])) 0 C.length = C.map Rec.pv := by simp [win]
    generalize C.map Rec.pv ++ List.replicate (N - C.length) (PV.agg [.str [], .int .i64 0, .str [], .sl none []]) = row at *
    simp only [d_lot_Merge, go_sem, ↓q1, q1, ↓q2, q2, ↓q3, q3, ↓q4, q4, ↓st, st, ↓cp, cp]
    refine N_loop (fun k : Nat => ⟨[(9, .own h.length N 0 C.length), (34, .own h.length N 0 C.length), (35, AI C.length), (36, AI k)], h ++ [.row (some 4) row 0], []⟩) (fun k => k ≤ C.length ∧ okAdj C k) (fun k => C.length - k) 0 rfl ⟨by omega, fun i h1 h2 => by omega⟩ ?_
    rintro k ⟨hk, hok⟩
    have hg : ∀ j (hj : j < C.length), row[j]? = some C[j].pv := fun j hj => by
      have h1 : (win row 0 C.length)[j]? = some C[j].pv := by rw [hw]; exact map_get Rec.pv hj
      rw [win, List.drop_zero, List.getElem?_take_of_lt hj] at h1
      exact h1
    rcases Nat.lt_or_ge k C.length with hlt | hge
    · have w2 : IntKind.i64.wrap ((k : Int) + 1) = ((k + 1 : Nat) : Int) := i64_wrap _ (by omega) (by omega)
      have g1 := hg k hlt
      have c1 : cutP (some 4) 0 C[k].pv = some C[k].pv := rfl
      simp only [Rec.pv] at g1 c1
      rcases Nat.eq_zero_or_pos k with h0 | h0
      · subst h0
        have l0 : (0 : Int) < (C.length : Int) := by omega
        simp only [go_sem, hlt, l0, hrow, g1, c1, hcl, w2, show IntKind.i64.wrap 1 = 1 from rfl]
        exact ⟨1, rfl, ⟨by omega, fun i h1 h2 => by omega⟩, by omega⟩
      · have hk1 : k - 1 < C.length := by omega
        have g2 := hg (k - 1) hk1
        have c2 : cutP (some 4) 0 C[k - 1].pv = some C[k - 1].pv := rfl
        have bt := fun h K => s_byTime (h := h) (K := K) C[k] C[k - 1]
        simp only [Rec.pv] at g2 c2 bt
        have b1 : (0 : Int) < (k : Int) := by omega
        have w3 : IntKind.i64.wrap ((k : Int) - 1) = ((k - 1 : Nat) : Int) := by rw [i64_wrap _ (by omega) (by omega)]; omega
        by_cases hz : recCmp C[k] C[k - 1] = 0
        · obtain ⟨j, rfl⟩ : ∃ j, k = j + 1 := ⟨k - 1, by omega⟩
          have hcf := mc j hlt hz
          rw [hz] at bt
          simp only [go_sem, hlt, hrow, g1, c1, hcl, w2, b1, w3, hk1, g2, c2, ↓bt, bt]
          simp only [he, refM, hcf, ARec]
          simp
        · simp only [go_sem, hlt, hrow, g1, c1, hcl, w2, b1, w3, hk1, g2, c2, ↓bt, bt, hz]
          refine ⟨k + 1, rfl, ⟨by omega, fun i h1 h2 => ?_⟩, by omega⟩
          by_cases hik : i + 1 = k
          · have e : i = k - 1 := by omega
            subst hik
            exact hz
          · exact hok i h1 (by omega)
    · have ek : k = C.length := by omega
      subst ek
      obtain ⟨m1, m2⟩ := mo (fun i h1 => hok i h1 h1)
      simp only [go_sem, Nat.lt_irrefl]
      simp only [@e_lot_Merge_k4, aget, Nat.reduceEqDiff, if_true, if_false]
      refine merge_k4 C N row h.length hcr (by omega) hrow hw (by simp) (by omega) rfl _ (fun h2 y hy hh => ?_)
      subst hy; subst hh
      have hwc : win (C.map Rec.pv) 0 C.length = C.map Rec.pv := win_full (by simp)
      simp only [go_sem, hwc]
      simp only [he, refM, m1, m2]
      simp
  · simp only [d_lot_Merge, go_sem, ↓q1, q1, ↓q2, q2, ↓q3, q3, he]
    simp [he]
end Go.Am
end
section
/- Deleting values: printed by program. -/
open Go
set_option linter.unusedSimpArgs false
namespace Go.Am
attribute [-go_sem] PV.cells splice
variable {h : Heap} {K : Post}
end Go.Am
end
section
/- Plain lists: the narrowest window of a sorted list, and the narrowest of all pairs that leave few values outside. -/
namespace Go.Am
end Go.Am
end
section
/- Values of a test; limits as narrow as can be: package lot. -/
open Go
set_option linter.unusedSimpArgs false
namespace Go.Am
variable {h : Heap} {K : Post}
end Go.Am
end
section
/- Limits as narrow as can be, both ways. -/
open Go
set_option linter.unusedSimpArgs false
namespace Go.Am
variable {h : Heap} {K : Post}
end Go.Am
end
section
/- Limits as narrow as can be: the reference, all pairs. -/
open Go
set_option linter.unusedSimpArgs false
namespace Go.Am
variable {h : Heap} {K : Post}
end Go.Am
end
section
/- Package lot computes spreads. -/
open Go
set_option linter.unusedSimpArgs false
namespace Go.Am
variable {h : Heap} {K : Post}
theorem spread13 : spreadV [1, 3] = .tup [.p (.agg [eI 2, eI 1]), .p (.agg [eI 1, eI 1]), AI 0] := by kernel_rfl
theorem s_binned : ACall X f_scanlaw2_binned [] h K = K (AB true) h [] := by
  refine rule ?_
  rw [c_scanlaw2_binned rfl]
  have s1 := fun h K => s_Spread (h := h) (K := K) [1, 3] (by simp)
  rw [spread13] at s1
  simp only [AL, List.map_cons, List.map_nil] at s1
  simp only [d_scanlaw2_binned, go_sem, ↓s1, s1]
end Go.Am
end
section
/- LimitsTightened returns true. -/
open Go
set_option linter.unusedSimpArgs false
namespace Go.Am
variable {h : Heap} {K : Post}
theorem arg_pur {X : Ctx} {f : Nat} {F : AFun} {a : List AV} {vs : List PV} {h h1 : Heap} {P : Post} (hf : X.fn f = some F) (hr : F.byref = false) (hp : puras h a = some (vs.map .p, h1)) (hq : puras h1 (vs.map .p) = some (vs.map .p, h1)) (hl : vs.length = F.nparams) (hlen : h1.length = h.length) : ACall X f a h P = ACall X f (vs.map .p) h1 P := by
  rw [call_val hf hr hp (by simpa using hl), call_val hf hr hq (by simpa using hl), hlen]
end Go.Am
end
section
/- RecordsSorted returns true. -/
open Go
set_option linter.unusedSimpArgs false
namespace Go.Am
variable {h : Heap} {K : Post}
theorem refM_mem {a b : List Rec} {x : Rec} (hx : x ∈ (refM a b).1) : x ∈ a ∨ x ∈ b := by
  unfold refM at hx
  split at hx
  · simp at hx
  · have := isort_mem.1 hx
    rcases List.mem_append.1 this with h | h
    · exact .inl h
    · exact .inr (List.mem_filter.1 h).1
theorem refM_len (a b : List Rec) : (refM a b).1.length ≤ a.length + b.length := by
  unfold refM
  split
  · simp
  · have := List.length_filter_le (newB recCmp a) b
    simp [isort_len]; omega
theorem firstErr_orL : ∀ l : List Int, firstErr l = orL l
  | [] => rfl
  | x :: r => by unfold firstErr orL; rw [firstErr_orL r]; by_cases h : x = 0 <;> simp [h]
attribute [-go_sem] e_scanlaw2_RecordsSorted_k1 e_scanlaw2_RecordsSorted_k2 e_scanlaw2_RecordsSorted_k3 e_scanlaw2_RecordsSorted_k4 d_scanlaw2_RecordsSorted_k1 d_scanlaw2_RecordsSorted_k2 d_scanlaw2_RecordsSorted_k3 d_scanlaw2_RecordsSorted_k4
theorem rs_k1 (l : List Lim) (a m : List Rec) (e n k f : Int) (hl : LimOk l) (ha : ∀ x ∈ a, RecOk x) (hn : a.length ≤ 1000) (hm : ∀ x ∈ m, x.res.length ≤ 1000) (hml : m.length ≤ 1000) (h : Heap) (K : Ex → St → Prop) (hK : ∀ h x, x = [] → K .ret ⟨[(2, AB true)], h, x⟩) :
    d_scanlaw2_RecordsSorted_k1 (ACall X) X.gl (ALim l) (ARec a) (ARec m) (AI e) (AI n) (AI k) (AI f) (AI (recsFault l a)) (AI e) (AI f) (ARec m) (AI n) (AI k) h [] K := by
  have q1 := fun h K => s_CheckLimits (h := h) (K := K) l hl.k (by have := hl.n; omega)
  have q2 := fun h K => s_LimitsFault (h := h) (K := K) l hl.k (by have := hl.n; omega)
  have q3 := fun h K => s_CheckRecords (h := h) (K := K) l a hl ha (by omega)
  have q4 := fun h K => s_EqualFunc (h := h) (K := K) m m (by omega) hm
  simp only [decide_true] at q4
  simp only [d_scanlaw2_RecordsSorted_k1, go_sem, ↓q1, q1, ↓q2, q2, ↓q3, q3, ↓q4, q4, s_binned]
  exact hK _ _ rfl
theorem rs_k2 (l : List Lim) (a m : List Rec) (e : Int) (r : Rec) (id : Nat) (hl : LimOk l) (hr : RecOk r) (ha : ∀ x ∈ a, RecOk x) (hn : a.length ≤ 1000) (hm : ∀ x ∈ m, x.res.length ≤ 1000) (hml : m.length ≤ 1000) (h : Heap) (hb : h[id]? = some (recBox r)) (K : Ex → St → Prop) (hK : ∀ h x, x = [] → K .ret ⟨[(2, AB true)], h, x⟩) :
    d_scanlaw2_RecordsSorted_k2 (ACall X) X.gl p_scanlaw2_RecordsSorted_k1 (ALim l) (ARec a) (.ref id 0) (ARec m) (AI e) (AI (if binF l r = 0 then binV l (failIdx l r.res) else 0)) (AI (if binF l r = 0 then failIdx l r.res else 0)) (AI (binF l r)) (AI (recsFault l a)) (AI e) (AI (binF l r)) (ARec m) h [] K := by
  have q := fun h K => s_BinOf (h := h) (K := K) l r hl hr
  have e1 := @e_scanlaw2_RecordsSorted_k1
  simp only [Rec.pv] at q
  simp only [recBox] at hb
  by_cases hf : binF l r = 0
  · simp only [d_scanlaw2_RecordsSorted_k2, go_sem, hf, hb, ↓q, q]
    rw [e1]
    simp only [aget, Nat.reduceEqDiff, if_true, if_false]
    exact rs_k1 l a m e _ _ 0 hl ha hn hm hml h K hK
  · simp only [d_scanlaw2_RecordsSorted_k2, go_sem, hf]
    rw [e1]
    simp only [aget, Nat.reduceEqDiff, if_true, if_false]
    exact rs_k1 l a m e 0 0 _ hl ha hn hm hml h K hK
theorem rs_k3 (l : List Lim) (a b : List Rec) (r : Rec) (vb : AV) (id : Nat) (h h1 : Heap) (hl : LimOk l) (hr : RecOk r) (ha : ∀ x ∈ a, RecOk x) (hb : ∀ x ∈ b, RecOk x) (hn : a.length + b.length ≤ 19)
    (hM : ∀ K : Post, ACall X f_lot_Merge [ALim l, ARec a, vb] h K = K (.tup [ARec (mergeV l a b).1, AI (mergeV l a b).2]) h1 []) (hF : ∀ K : Post, ACall X f_scanref2_RecordsFault [ALim l, vb] h1 K = K (AI (recsFault l b)) h1 [])
    (hR : orL [recsFault l a, recsFault l b] = 0 → ∀ K : Post, ACall X f_scanref2_MergedRecords [ARec a, vb] h1 K = K (.tup [ARec (refM a b).1, AI (refM a b).2]) h1 []) (hbx : h1[id]? = some (recBox r))
    (K : Ex → St → Prop) (hK : ∀ h x, x = [] → K .ret ⟨[(2, AB true)], h, x⟩) :
    d_scanlaw2_RecordsSorted_k3 (ACall X) X.gl p_scanlaw2_RecordsSorted_k2 (ALim l) (ARec a) vb (.ref id 0) h [] K := by
  have q1 := fun h K => s_Bin (h := h) (K := K) l r hl hr
  have q2 := fun h K => s_RecordsFault (h := h) (K := K) l a hl ha (by omega)
  have q3 := fun h K => s_errs (h := h) (K := K) [recsFault l a, recsFault l b] (by simp)
  have q4 := fun h K => s_RecordFault (h := h) (K := K) l r hl hr
  have e2 := @e_scanlaw2_RecordsSorted_k2
  simp only [AL, List.map_cons, List.map_nil, firstErr_orL] at q3
  simp only [Rec.pv] at q1 q4
  have hbx' := hbx
  simp only [recBox] at hbx'
  have hres : ∀ x ∈ (refM a b).1, x.res.length ≤ 1000 := fun x hx => by
    rcases refM_mem hx with h1 | h1
    · exact (ha x h1).n
    · exact (hb x h1).n
  have hlen := refM_len a b
  unfold mergeV at hM
  by_cases he : orL [recsFault l a, recsFault l b] = 0
  · have hR' := hR he
    simp only [he] at q3
    simp only [he, ne_eq, not_true_eq_false, if_false] at hM
    simp only [d_scanlaw2_RecordsSorted_k3, go_sem, ↓hM, hM, hbx', ↓q1, q1, ↓q2, q2, ↓hF, hF, ↓q3, q3, ↓q4, q4, ↓hR', hR']
    rw [e2]
    simp only [aget, Nat.reduceEqDiff, if_true, if_false]
    exact rs_k2 l a _ _ r id hl hr ha (by omega) hres (by omega) h1 hbx K hK
  · simp only [he, ne_eq, not_false_eq_true, if_true] at hM
    simp only [d_scanlaw2_RecordsSorted_k3, go_sem, ↓hM, hM, hbx', ↓q1, q1, ↓q2, q2, ↓hF, hF, ↓q3, q3, ↓q4, q4, he]
    rw [e2]
    simp only [aget, Nat.reduceEqDiff, if_true, if_false]
    exact rs_k2 l a [] _ r id hl hr ha (by omega) (by simp) (by simp) h1 hbx K hK
/-- What is asked of the second list, wherever it lies. -/
def Second (l : List Lim) (a b : List Rec) (vb : AV) (L : List Int) (tl : Heap) : Prop := ∀ (c : Int) (r : Rec), ∃ h1 : Heap, h1[tl.length + 1]? = some (recBox r) ∧
  (∀ K : Post, ACall X f_lot_Merge [ALim l, ARec a, vb] (strm L c :: (tl ++ [recBox r])) K = K (.tup [ARec (mergeV l a b).1, AI (mergeV l a b).2]) h1 []) ∧
  (∀ K : Post, ACall X f_scanref2_RecordsFault [ALim l, vb] h1 K = K (AI (recsFault l b)) h1 []) ∧
  (orL [recsFault l a, recsFault l b] = 0 → ∀ K : Post, ACall X f_scanref2_MergedRecords [ARec a, vb] h1 K = K (.tup [ARec (refM a b).1, AI (refM a b).2]) h1 [])
theorem rs_k4 (L : List Int) (c : Int) (tl : Heap) (l : List Lim) (a b : List Rec) (vb : AV) (hp : posN 20 c) (hl : LimOk l) (ha : ∀ x ∈ a, RecOk x) (hb : ∀ x ∈ b, RecOk x) (hn : a.length + b.length ≤ 19) (HB : Second l a b vb L tl)
    (K : Ex → St → Prop) (hK : ∀ h x, x = [] → K .ret ⟨[(2, AB true)], h, x⟩) :
    d_scanlaw2_RecordsSorted_k4 (ACall X) X.gl p_scanlaw2_RecordsSorted_k3 (.ref 0 0) (ALim l) (ARec a) vb (strm L c :: tl) [] K := by
  have P := posAll (a := c) (by unfold posN at *; omega)
  have e3 := @e_scanlaw2_RecordsSorted_k3
  have pk := fun K => (g_Pick (L := L) (a := c) P.1 [eI 5, eI 11, eI 0] rfl (by simp) (by simp)).hd (l := tl) (K := K)
  generalize hq : pickV _ L c = q at pk
  rcases Nat.eq_zero_or_pos a.length with h0 | h0
  · have b1 : ¬ ((0 : Int) < (a.length : Int)) := by omega
    obtain ⟨h1, m0, m1, m2, m3⟩ := HB (c + 1) ⟨[117, 49], 1, [115, 49], [q]⟩
    simp only [d_scanlaw2_RecordsSorted_k4, go_sem, P, ↓pk, pk, b1]
    rw [e3]
    simp only [aget, Nat.reduceEqDiff, if_true, if_false]
    exact rs_k3 l a b ⟨[117, 49], 1, [115, 49], [q]⟩ vb (tl.length + 1) _ h1 hl ⟨by simp, by simp, by simp⟩ ha hb hn m1 m2 m3 m0 K hK
  · have b1 : ((0 : Int) < (a.length : Int)) := by omega
    obtain ⟨n1, n2⟩ := nextV_bd L (c + 1) a.length (by omega) (by omega)
    obtain ⟨i, hi⟩ := Int.eq_ofNat_of_zero_le n1
    have hil : i < a.length := by omega
    have g1 := map_get Rec.pv hil
    have c1 : cutP (some 4) 0 a[i].pv = some a[i].pv := rfl
    simp only [Rec.pv] at g1 c1
    obtain ⟨h1, m0, m1, m2, m3⟩ := HB (c + 1 + 1) a[i]
    simp only [d_scanlaw2_RecordsSorted_k4, go_sem, P, ↓pk, pk, b1, hi, hil, g1, c1]
    rw [e3]
    simp only [aget, Nat.reduceEqDiff, if_true, if_false]
    exact rs_k3 l a b a[i] vb (tl.length + 1) _ h1 hl (ha _ (List.getElem_mem hil)) ha hb hn m1 m2 m3 m0 K hK
end Go.Am
end
section
/- RecordsSorted returns true: the draws. -/
open Go
set_option linter.unusedSimpArgs false
namespace Go.Am
variable {h : Heap} {K : Post}
attribute [-go_sem] e_scanlaw2_RecordsSorted_k1 e_scanlaw2_RecordsSorted_k2 e_scanlaw2_RecordsSorted_k3 e_scanlaw2_RecordsSorted_k4 d_scanlaw2_RecordsSorted_k1 d_scanlaw2_RecordsSorted_k2 d_scanlaw2_RecordsSorted_k3 d_scanlaw2_RecordsSorted_k4
theorem second_val (l : List Lim) (a b : List Rec) (L : List Int) (hl : LimOk l) (ha : ∀ x ∈ a, RecOk x) (hb : ∀ x ∈ b, RecOk x) (hn : a.length + b.length ≤ 12) : Second l a b (ARec b) L [] := by
  intro c r
  refine ⟨[strm L c, recBox r], rfl, fun K => s_Merge l a b hl ha hb (by omega), fun K => s_RecordsFault l b hl hb (by omega), fun he K => ?_⟩
  have hfa : recsFault l a = 0 := by
    unfold orL at he; split at he
    · assumption
    · omega
  have hfb : recsFault l b = 0 := by
    rw [hfa] at he
    unfold orL at he
    rw [if_neg (by simp)] at he
    unfold orL at he
    split at he
    · assumption
    · omega
  obtain ⟨sa, ta⟩ := recsFault_ok hfa
  obtain ⟨sb, tb⟩ := recsFault_ok hfb
  have := List.length_filter_le (newB recCmp a) b
  exact s_MergedRecords a b sa sb ta tb (fun x hx => (ha x hx).n) (by omega) (by simp; omega)
theorem second_own (l : List Lim) (a b : List Rec) (L : List Int) (hl : LimOk l) (ha : ∀ x ∈ a, RecOk x) (hb : ∀ x ∈ b, RecOk x) (hn : a.length + b.length ≤ 19) (hn2 : a.length ≤ 12) (hnew : b.filter (newB recCmp a) = []) :
    Second l a b (.own 1 b.length 0 b.length) L [.row (some 4) (b.map Rec.pv) 0] := by
  intro c r
  have hw : win (b.map Rec.pv) 0 b.length = b.map Rec.pv := win_full (by simp)
  refine ⟨[strm L c, .row (some 4) (b.map Rec.pv) b.length, recBox r], rfl, fun K => ?_, fun K => ?_, fun he K => ?_⟩
  · have e := arg_pur (X := X) (f := f_lot_Merge) (F := a_lot_Merge) (a := [ALim l, ARec a, .own 1 b.length 0 b.length]) (vs := [.sl (some 4) (l.map Lim.pv), .sl (some 4) (a.map Rec.pv), .sl (some 4) (b.map Rec.pv)])
      (h := [strm L c, .row (some 4) (b.map Rec.pv) 0, recBox r]) (h1 := [strm L c, .row (some 4) (b.map Rec.pv) b.length, recBox r]) (P := K) x_lot_Merge rfl (by simp [puras, rd, hw, frz]) rfl rfl rfl
    exact e.trans (s_Merge l a b hl ha hb hn)
  · have e := arg_pur (X := X) (f := f_scanref2_RecordsFault) (F := a_scanref2_RecordsFault) (a := [ALim l, .own 1 b.length 0 b.length]) (vs := [.sl (some 4) (l.map Lim.pv), .sl (some 4) (b.map Rec.pv)])
      (h := [strm L c, .row (some 4) (b.map Rec.pv) b.length, recBox r]) (h1 := [strm L c, .row (some 4) (b.map Rec.pv) b.length, recBox r]) (P := K) x_scanref2_RecordsFault rfl (by simp [puras, rd, hw, frz]) rfl rfl rfl
    exact e.trans (s_RecordsFault l b hl hb (by omega))
  · have hfa : recsFault l a = 0 := by
      unfold orL at he; split at he
      · assumption
      · omega
    have hfb : recsFault l b = 0 := by
      rw [hfa] at he
      unfold orL at he
      rw [if_neg (by simp)] at he
      unfold orL at he
      split at he
      · assumption
      · omega
    obtain ⟨sa, ta⟩ := recsFault_ok hfa
    obtain ⟨sb, tb⟩ := recsFault_ok hfb
    have e := arg_pur (X := X) (f := f_scanref2_MergedRecords) (F := a_scanref2_MergedRecords) (a := [ARec a, .own 1 b.length 0 b.length]) (vs := [.sl (some 4) (a.map Rec.pv), .sl (some 4) (b.map Rec.pv)])
      (h := [strm L c, .row (some 4) (b.map Rec.pv) b.length, recBox r]) (h1 := [strm L c, .row (some 4) (b.map Rec.pv) b.length, recBox r]) (P := K) x_scanref2_MergedRecords rfl (by simp [puras, rd, hw, frz]) rfl rfl rfl
    exact e.trans (s_MergedRecords a b sa sb ta tb (fun x hx => (ha x hx).n) (by omega) (by rw [hnew]; simp; omega))
theorem new_none {a b : List Rec} (hb : ∀ x ∈ b, ∃ y ∈ a, recCmp y x = 0) : b.filter (newB recCmp a) = [] := by
  rw [List.filter_eq_nil_iff]
  intro x hx
  obtain ⟨y, hy, hc⟩ := hb x hx
  unfold newB
  simp
  exact ⟨y, hy, hc⟩
set_option maxHeartbeats 4000000 in
theorem law_RS (L : List Int) {K : Post} : ACall X f_scanlaw2_RecordsSorted [AL L] [] K = K (AB true) [] [] := by
  refine rule ?_
  rw [c_scanlaw2_RecordsSorted rfl]
  obtain ⟨_, a1, ⟨b1, b2, l, hl1, hl2, hlb, rfl⟩, V⟩ := (g_LimitList (L := L) (a := 0) (by unfold posN; omega)).hd (l := [])
  have P1 : posN 0 a1 := by unfold posN; omega
  obtain ⟨n1, n2⟩ := rangeV_bd (u := 0) (v := 8) L a1 (by omega) (by omega)
  obtain ⟨n, hn⟩ := Int.eq_ofNat_of_zero_le n1
  obtain ⟨_, a2, ⟨b3, b4, a, ha1, ha2, rfl⟩, R⟩ := (g_Records (L := L) (a := a1 + 1) (by unfold posN; omega) l hl1 hl2 n (by omega)).hd (l := [])
  have P2 : posN 0 a2 := by unfold posN; omega
  obtain ⟨n3, n4⟩ := rangeV_bd (u := 0) (v := 4) L a2 (by omega) (by omega)
  obtain ⟨m, hm⟩ := Int.eq_ofNat_of_zero_le n3
  obtain ⟨_, a3, ⟨b5, b6, b, hb1, hb2, rfl⟩, R2⟩ := (g_Records (L := L) (a := a2 + 1) (by unfold posN; omega) l hl1 hl2 m (by omega)).hd (l := [])
  have P3 : posN 0 a3 := by unfold posN; omega
  have P4 : posN 0 (a3 + 1) := by unfold posN; omega
  have P5 : posN 0 (a3 + 1 + 1) := by unfold posN; omega
  have hl : LimOk l := ⟨by omega, fun x hx => (hlb x hx).k⟩
  have e4 := @e_scanlaw2_RecordsSorted_k4
  have fin : ∀ (h : Heap) (x : Esc), x = [] → finR [.t 2] false (List.length ([] : Heap)) (fun v1 h1 x1 => v1 = AB true ∧ h1 = [] ∧ x1 = []) .ret ⟨[(2, AB true)], h, x⟩ := fun h x hx => by
    subst hx
    simp only [go_sem]
  rcases Nat.eq_zero_or_pos a.length with h0 | h0
  · have c1 : ¬ ((0 : Int) < (a.length : Int)) := by omega
    simp only [d_scanlaw2_RecordsSorted, go_sem, P1, P2, P3, P4, P5, ↓V, V, hn, ↓R, R, hm, ↓R2, R2, c1]
    rw [e4]
    simp only [aget, Nat.reduceEqDiff, if_true, if_false]
    exact rs_k4 L _ [] l a b _ (by unfold posN; omega) hl ha2 hb2 (by omega) (second_val l a b L hl ha2 hb2 (by omega)) _ fin
  · have c1 : ((0 : Int) < (a.length : Int)) := by omega
    by_cases f1 : nextV L a3 2 = 0
    · obtain ⟨m1, m2⟩ := nextV_bd L (a3 + 1) a.length (by omega) (by omega)
      obtain ⟨i, hi⟩ := Int.eq_ofNat_of_zero_le m1
      have hil : i < a.length := by omega
      have hil2 : i ≤ a.length := by omega
      have hwin : win (a.map Rec.pv) i (a.length - i) = (a.drop i).map Rec.pv := by
        unfold win
        rw [List.take_of_length_le (by simp), List.map_drop]
      have hdl : (a.drop i).length = a.length - i := by simp
      have hdm : ∀ x ∈ a.drop i, RecOk x := fun x hx => ha2 x (List.mem_of_mem_drop hx)
      have cl := fun h K => s_CloneR (h := h) (K := K) (a.drop i) (by omega)
      obtain ⟨z, zs, hz⟩ : ∃ z zs, a.drop i = z :: zs := by
        cases hd : a.drop i with
        | nil => rw [hd] at hdl; simp at hdl; omega
        | cons z zs => exact ⟨z, zs, rfl⟩
      have hnw : ∀ x ∈ a.drop i, ∃ y ∈ a, recCmp y x = 0 := fun x hx => ⟨x, List.mem_of_mem_drop hx, ordC.refl x⟩
      generalize hbb : a.drop i = bb at *
      by_cases f2 : nextV L (a3 + 1 + 1) 4 = 0
      · subst hz
        have hzz : ∀ x ∈ (⟨z.unit, z.time, [115, 57], z.res⟩ : Rec) :: zs, RecOk x := fun x hx => by
          rcases List.mem_cons.1 hx with e | e
          · subst e
            have := hdm z (by simp)
            exact ⟨this.u, by simp, this.n⟩
          · exact hdm x (by simp [e])
        have hnz : ∀ x ∈ (⟨z.unit, z.time, [115, 57], z.res⟩ : Rec) :: zs, ∃ y ∈ a, recCmp y x = 0 := fun x hx => by
          rcases List.mem_cons.1 hx with e | e
          · subst e
            obtain ⟨y, hy, hc⟩ := hnw z (by simp)
            exact ⟨y, hy, hc⟩
          · exact hnw x (by simp [e])
        simp only [ARec, List.map_cons, List.length_cons, Rec.pv] at hwin cl
        simp only [d_scanlaw2_RecordsSorted, go_sem, P1, P2, P3, P4, P5, ↓V, V, hn, ↓R, R, hm, ↓R2, R2, c1, f1, hi, hil2, hwin, ↓cl, cl, f2, Rec.pv]
        rw [e4]
        simp only [aget, Nat.reduceEqDiff, if_true, if_false]
        exact rs_k4 L _ [.row (some 4) (((⟨z.unit, z.time, [115, 57], z.res⟩ : Rec) :: zs).map Rec.pv) 0] l a ((⟨z.unit, z.time, [115, 57], z.res⟩ : Rec) :: zs) _ (by unfold posN; omega) hl ha2 hzz (by simp at hdl ⊢; omega) (second_own l a _ L hl ha2 hzz (by simp at hdl ⊢; omega) (by omega) (new_none hnz)) _ fin
      · simp only [d_scanlaw2_RecordsSorted, go_sem, P1, P2, P3, P4, P5, ↓V, V, hn, ↓R, R, hm, ↓R2, R2, c1, f1, hi, hil2, hwin, ↓cl, cl, f2]
        rw [e4]
        simp only [aget, Nat.reduceEqDiff, if_true, if_false]
        exact rs_k4 L _ [.row (some 4) (bb.map Rec.pv) 0] l a bb _ (by unfold posN; omega) hl ha2 hdm (by omega) (second_own l a bb L hl ha2 hdm (by omega) (by omega) (new_none hnw)) _ fin
    · simp only [d_scanlaw2_RecordsSorted, go_sem, P1, P2, P3, P4, P5, ↓V, V, hn, ↓R, R, hm, ↓R2, R2, c1, f1]
      rw [e4]
      simp only [aget, Nat.reduceEqDiff, if_true, if_false]
      exact rs_k4 L _ [] l a b _ (by unfold posN; omega) hl ha2 hb2 (by omega) (second_val l a b L hl ha2 hb2 (by omega)) _ fin
end Go.Am
end
section
/- From a law that is true here to the model's calls at what came in. -/
open Go
namespace Go.Am
variable {P : Program}
/-- A call with whole numbers that came in: it returns true, and what was is as it was. -/
theorem law_nil {X : Ctx} (HX : Fits P X) (hgl : X.gl = fun _ => none) {f : Nat} {F : AFun} (hF : X.fn f = some F) (H : ∀ L : List Int, ACall X f [pints L] [] fun v _ _ => v = .p (.bool true)) (W : World) :
    Calls P f #[.slice none 0 0] W fun e W' => e = .returned (.bool true) ∧ RowKit.Below W.heap.size W W' := by
  refine (calls_of HX hF (H []) (W := W) (vs := [.slice none 0 0]) (fun n v hv => by rw [hgl] at hv; cases hv) rfl (fun j y v hy hv => ?_)).mono fun e W' he => ?_
  · cases j with
    | zero => cases hy; cases hv; exact came_nil W
    | succ j => cases hy
  · cases e with
    | returned r =>
      obtain ⟨⟨v, h, x, μ, hk, hr⟩, hb⟩ := he
      subst hk
      exact ⟨by rw [hr.p_bool], hb⟩
    | panicked _ => exact he.elim
    | outgrown => exact he.elim
theorem law_ints {X : Ctx} (HX : Fits P X) (hgl : X.gl = fun _ => none) {f : Nat} {F : AFun} (hF : X.fn f = some F) (H : ∀ L : List Int, ACall X f [pints L] [] fun v _ _ => v = .p (.bool true)) {W : World} {a : Addr} {len cap : Nat} {zs : List Int}
    (hl : len ≤ cap) (hz : len ≤ zs.length) (hc : ∀ i, i < zs.length → W.cell? (a.add i) = some (.int .i64 (zs.getD i 0))) :
    Calls P f #[.slice (some a) len cap] W fun e W' => e = .returned (.bool true) ∧ RowKit.Below W.heap.size W W' := by
  refine (calls_of HX hF (H (zs.take len)) (W := W) (vs := [.slice (some a) len cap]) (fun n v hv => by rw [hgl] at hv; cases hv) rfl (fun j y v hy hv => ?_)).mono fun e W' he => ?_
  · cases j with
    | zero =>
      cases hy; cases hv
      rcases Nat.eq_zero_or_pos len with h0 | h0
      · subst h0
        exact .p _ _ (.nils _ _ _)
      · exact came_ints (by simpa [Addr.add] using World.cell?_spot (hc 0 (by omega))) hl hz hc
    | succ j => cases hy
  · cases e with
    | returned r =>
      obtain ⟨⟨v, h, x, μ, hk, hr⟩, hb⟩ := he
      subst hk
      exact ⟨by rw [hr.p_bool], hb⟩
    | panicked _ => exact he.elim
    | outgrown => exact he.elim
end Go.Am
namespace Go.ChangeShapes
open Go.RowKit Go.WideShapes
section
variable {H : Type} {enc : TypeId × Value → H} {P : Program}
end
end Go.ChangeShapes
end
