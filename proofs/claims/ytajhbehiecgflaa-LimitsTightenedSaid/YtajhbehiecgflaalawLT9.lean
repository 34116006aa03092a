/- Texts of the proof, laid together: SpRec, SpSortRec, SpCompact, SpGenR, SpLen, SpSort, SpDel, PTight, SpVal, SpTight, SpTightQ, SpBin, SpLawLT, Bridge. -/
import Derived.ProofKit
import Derived.Test.YtajhbehiecgflaalawLT8
set_option linter.all false
section
/- Records: what is wrong with them, both ways. -/
open Go
set_option linter.unusedSimpArgs false
namespace Go.Am
variable {h : Heap} {K : Post}
theorem s_rf1 (n : Int) : ACall X f_lot_recordFault_1 [AI n] h K = K (AB (!isM n)) h [] := by
  refine rule ?_
  rw [c_lot_recordFault_1 rfl]
  simp only [d_lot_recordFault_1, go_sem, s_isMeasure]
theorem s_rrf1 (n : Int) : ACall X f_scanref2_recordFault_1 [AI n] h K = K (AB (!isM n)) h [] := by
  refine rule ?_
  rw [c_scanref2_recordFault_1 rfl]
  simp only [d_scanref2_recordFault_1, go_sem, s_in]
  rfl
theorem s_recordFault (l : List Lim) (r : Rec) (hl : LimOk l) (hr : RecOk r) : ACall X f_lot_recordFault [ALim l, .p r.pv] h K = K (AI (recFault l r)) h [] := by
  refine rule ?_
  rw [c_lot_recordFault rfl]
  have ku := fun h K => s_Key (h := h) (K := K) r.unit (by have := hr.u; omega)
  have ks := fun h K => s_Key (h := h) (K := K) r.site (by have := hr.s; omega)
  have cf := fun h K => ContainsFunc_int (h := h) (K := K) (g := f_lot_recordFault_1) (caps := []) (p := noM) (xs := r.res.map eI) (fun x hx K => by obtain ⟨n, _, rfl⟩ := List.mem_map.1 hx; exact s_rf1 n) all_eI' (by have := hr.n; simp; omega)
  have cp := fun h K => s_complete (h := h) (K := K) l r hl.n hr.n
  rw [any_noM] at cf
  simp only [Rec.pv] at cp
  unfold recFault
  cases h1 : keyB r.unit with
  | false => simp only [d_lot_recordFault, Rec.pv, go_sem, ↓ku, ku, h1]
  | true =>
    cases h2 : keyB r.site with
    | false => simp only [d_lot_recordFault, Rec.pv, go_sem, ↓ku, ku, ↓ks, ks, h1, h2]
    | true =>
      cases h3 : momentB r.time with
      | false => simp only [d_lot_recordFault, Rec.pv, go_sem, ↓ku, ku, ↓ks, ks, h1, h2, s_Moment, h3]
      | true =>
        cases h4 : r.res.all isM with
        | false => simp only [d_lot_recordFault, Rec.pv, go_sem, ↓ku, ku, ↓ks, ks, h1, h2, s_Moment, h3, ↓cf, cf, h4]
        | true =>
          cases h5 : formB l r.res with
          | false => simp only [d_lot_recordFault, Rec.pv, go_sem, ↓ku, ku, ↓ks, ks, h1, h2, s_Moment, h3, ↓cf, cf, h4, ↓cp, cp, h5]
          | true => simp only [d_lot_recordFault, Rec.pv, go_sem, ↓ku, ku, ↓ks, ks, h1, h2, s_Moment, h3, ↓cf, cf, h4, ↓cp, cp, h5]
theorem s_refFails (l : List Lim) (res : List Int) (hl : l.length ≤ 1000) (hr : res.length ≤ 1000) : ACall X f_scanref2_fails [ALim l, AL res] h K = K (AI (failIdx l res)) h [] := by
  refine rule ?_
  rw [c_scanref2_fails rfl]
  simp only [d_scanref2_fails, go_sem]
  refine N_loop (fun k : Nat => ⟨[(0, ALim l), (7, AL res), (8, AI res.length), (9, AI k)], h, []⟩) (fun k => k ≤ res.length ∧ okTo l res k) (fun k => res.length - k) 0 rfl ⟨by omega, fun i hi => by omega⟩ ?_
  rintro k ⟨hk, hok⟩
  rcases Nat.lt_or_ge k res.length with hlt | hge
  · have g2 := map_get eI hlt
    have w2 : IntKind.i64.wrap ((k : Int) + 1) = ((k + 1 : Nat) : Int) := i64_wrap _ (by omega) (by omega)
    rcases Nat.lt_or_ge k l.length with hkl | hkl
    · have g1 := map_get Lim.pv hkl
      have gg := goods_get (l := l) (res := res) hkl hlt
      unfold good at gg
      cases hg : inB l[k].lo res[k] l[k].hi with
      | false =>
        rw [hg] at gg
        simp only [go_sem, hlt, hkl, g1, g2, Lim.pv, s_inB, hg]
        rw [failIdx_of hok gg]
      | true =>
        simp only [go_sem, hlt, hkl, g1, g2, Lim.pv, s_inB, hg, w2]
        refine ⟨k + 1, rfl, ⟨by omega, fun i hi => ?_⟩, by omega⟩
        rcases Nat.lt_or_ge i k with h3 | h3
        · exact hok i h3
        · have : i = k := by omega
          subst this; rw [gg, hg]; simp
    · have hkl' : ¬ k < l.length := by omega
      simp only [go_sem, hlt, hkl', g2, w2]
      refine ⟨k + 1, rfl, ⟨by omega, fun i hi => ?_⟩, by omega⟩
      rcases Nat.lt_or_ge i k with h3 | h3
      · exact hok i h3
      · have : (goods l res)[i]? = none := List.getElem?_eq_none (by simp [goods]; omega)
        rw [this]; simp
  · have ek : k = res.length := by omega
    subst ek
    have : okTo l res (goods l res).length := fun i hi => hok i (by simp [goods] at hi; omega)
    simp only [go_sem, Nat.lt_irrefl]
    rw [failIdx_none this]
set_option maxHeartbeats 1000000 in
theorem s_refRecordFault (l : List Lim) (r : Rec) (hl : LimOk l) (hr : RecOk r) : ACall X f_scanref2_recordFault [ALim l, .p r.pv] h K = K (AI (recFault l r)) h [] := by
  refine rule ?_
  rw [c_scanref2_recordFault rfl]
  have ku := fun h K => s_refKey (h := h) (K := K) r.unit (by have := hr.u; omega)
  have ks := fun h K => s_refKey (h := h) (K := K) r.site (by have := hr.s; omega)
  have cf := fun h K => ContainsFunc_int (h := h) (K := K) (g := f_scanref2_recordFault_1) (caps := []) (p := noM) (xs := r.res.map eI) (fun x hx K => by obtain ⟨n, _, rfl⟩ := List.mem_map.1 hx; exact s_rrf1 n) all_eI' (by have := hr.n; simp; omega)
  have fl := fun h K => s_refFails (h := h) (K := K) l r.res hl.n hr.n
  rw [any_noM] at cf
  have hw : IntKind.i64.wrap ((r.res.length : Int) - 1) = (r.res.length : Int) - 1 := i64_wrap _ (by omega) (by have := hr.n; omega)
  unfold recFault
  cases h1 : keyB r.unit with
  | false => simp only [d_scanref2_recordFault, Rec.pv, go_sem, ↓ku, ku, h1]
  | true =>
    cases h2 : keyB r.site with
    | false => simp only [d_scanref2_recordFault, Rec.pv, go_sem, ↓ku, ku, ↓ks, ks, h1, h2]
    | true =>
      cases h3 : momentB r.time with
      | false => simp only [d_scanref2_recordFault, Rec.pv, go_sem, ↓ku, ku, ↓ks, ks, h1, h2, s_refMoment, h3]
      | true =>
        cases h4 : r.res.all isM with
        | false => simp only [d_scanref2_recordFault, Rec.pv, go_sem, ↓ku, ku, ↓ks, ks, h1, h2, s_refMoment, h3, ↓cf, cf, h4]
        | true =>
          unfold formB
          generalize failIdx l r.res = w at *
          cases h5 : inB 1 r.res.length l.length with
          | false => simp only [d_scanref2_recordFault, Rec.pv, go_sem, ↓ku, ku, ↓ks, ks, h1, h2, s_refMoment, h3, ↓cf, cf, h4, ↓fl, fl, s_inB, h5]
          | true =>
            by_cases h6 : 0 ≤ w
            · have h6' : ¬ w < 0 := by omega
              by_cases h7 : w = (r.res.length : Int) - 1
              · simp only [d_scanref2_recordFault, Rec.pv, go_sem, ↓ku, ku, ↓ks, ks, h1, h2, s_refMoment, h3, ↓cf, cf, h4, ↓fl, fl, s_inB, h5, h6, h6', hw, eq_true h7]
              · simp only [d_scanref2_recordFault, Rec.pv, go_sem, ↓ku, ku, ↓ks, ks, h1, h2, s_refMoment, h3, ↓cf, cf, h4, ↓fl, fl, s_inB, h5, h6, h6', hw, h7]
            · have h6' : w < 0 := by omega
              by_cases h7 : (r.res.length : Int) = l.length
              · simp only [d_scanref2_recordFault, Rec.pv, go_sem, ↓ku, ku, ↓ks, ks, h1, h2, s_refMoment, h3, ↓cf, cf, h4, ↓fl, fl, s_inB, h5, h6, h6', eq_true h7]
              · simp only [d_scanref2_recordFault, Rec.pv, go_sem, ↓ku, ku, ↓ks, ks, h1, h2, s_refMoment, h3, ↓cf, cf, h4, ↓fl, fl, s_inB, h5, h6, h6', h7]
/-! ### the order of records -/
def orL : List Int → Int
  | [] => 0
  | x :: r => if x ≠ 0 then x else orL r
theorem s_cmpOr (l : List Int) (hl : l.length ≤ 1000) : ACall X f_cmp_Or_int [AL l] h K = K (AI (orL l)) h [] := by
  refine rule ?_
  rw [c_cmp_Or_int rfl]
  simp only [d_cmp_Or_int, go_sem]
  refine N_loop (fun k : Nat => ⟨[(3, AI 0), (6, AL l), (7, AI l.length), (8, AI k)], h, []⟩) (fun k => k ≤ l.length ∧ orL (l.drop k) = orL l) (fun k => l.length - k) 0 rfl ⟨by omega, rfl⟩ ?_
  rintro k ⟨hk, hp⟩
  rcases Nat.lt_or_ge k l.length with hlt | hge
  · have g2 := map_get eI hlt
    have w2 : IntKind.i64.wrap ((k : Int) + 1) = ((k + 1 : Nat) : Int) := i64_wrap _ (by omega) (by omega)
    rw [List.drop_eq_getElem_cons hlt, orL] at hp
    by_cases hz : l[k] = 0
    · rw [if_neg (by simp [hz])] at hp
      simp only [go_sem, hlt, g2, hz, w2]
      exact ⟨k + 1, rfl, ⟨by omega, hp⟩, by omega⟩
    · rw [if_pos hz] at hp
      simp only [go_sem, hlt, g2, hz]
      rw [hp]
  · have ek : k = l.length := by omega
    subst ek
    rw [List.drop_length] at hp
    simp only [go_sem, Nat.lt_irrefl]
    rw [← hp]; rfl
theorem s_byTime (a b : Rec) : ACall X f_lot_byTime [.p a.pv, .p b.pv] h K = K (AI (recCmp a b)) h [] := by
  refine rule ?_
  rw [c_lot_byTime rfl]
  have o := fun h K => s_cmpOr (h := h) (K := K) [cmp3 a.time b.time, cmpL a.unit b.unit] (by simp)
  simp only [AL, List.map_cons, List.map_nil] at o
  have e : orL [cmp3 a.time b.time, cmpL a.unit b.unit] = recCmp a b := by
    unfold recCmp orL
    split
    · rfl
    · unfold orL
      split
      · rfl
      · rename_i h; simp only [ne_eq, Decidable.not_not] at h; rw [h]; rfl
  rw [e] at o
  simp only [d_lot_byTime, Rec.pv, go_sem, s_cmpCompare, s_strCompare, o]
theorem s_recordOrder (a b : Rec) (ha : -1000000000000000000 ≤ a.time ∧ a.time ≤ 1000000000000000000) (hb : -1000000000000000000 ≤ b.time ∧ b.time ≤ 1000000000000000000) : ACall X f_scanref2_recordOrder [.p a.pv, .p b.pv] h K = K (AI (recCmp a b)) h [] := by
  refine rule ?_
  rw [c_scanref2_recordOrder rfl]
  have w : IntKind.i64.wrap (a.time - b.time) = a.time - b.time := i64_wrap _ (by omega) (by omega)
  unfold recCmp
  by_cases he : a.time = b.time
  · have : cmp3 a.time b.time = 0 := by rw [he]; unfold cmp3; simp
    rw [if_neg (by simp [this])]
    simp only [d_scanref2_recordOrder, Rec.pv, go_sem, he, s_strCompare]
  · have hc : cmp3 a.time b.time ≠ 0 := by unfold cmp3; split <;> (try split) <;> omega
    rw [if_pos hc]
    rw [cmp3_sign]
    simp only [d_scanref2_recordOrder, Rec.pv, go_sem, he, w, s_sign]
theorem recsFaultFrom_cons {l : List Lim} {p : Option Rec} {x : Rec} {r : List Rec} : recsFaultFrom l p (x :: r) = if recFault l x ≠ 0 then recFault l x else if (match p with | some q => decide (recCmp x q ≤ 0) | none => false) = true then 7 else recsFaultFrom l (some x) r := rfl
theorem recFault_time {l : List Lim} {r : Rec} (hf : recFault l r = 0) : 0 ≤ r.time ∧ r.time ≤ 345686399999 := by
  unfold recFault at hf
  split at hf
  · cases hf
  · split at hf
    · cases hf
    · rename_i h
      simp [momentB, inB] at h
      exact h
theorem s_recordsFault (l : List Lim) (r : List Rec) (hl : LimOk l) (hr : ∀ x ∈ r, RecOk x) (hn : r.length ≤ 1000000) : ACall X f_lot_recordsFault [ALim l, ARec r] h K = K (AI (recsFault0 l r)) h [] := by
  refine rule ?_
  rw [c_lot_recordsFault rfl]
  unfold recsFault0
  by_cases h1 : (5000 : Int) < r.length
  · simp only [d_lot_recordsFault, go_sem, h1]
  simp only [d_lot_recordsFault, go_sem, h1]
  refine N_loop (fun k : Nat => ⟨[(0, ALim l), (1, ARec r), (11, ARec r), (12, AI r.length), (13, AI k)], h, []⟩) (fun k => k ≤ r.length ∧ recsFaultFrom l (r.take k).getLast? (r.drop k) = recsFaultFrom l none r) (fun k => r.length - k) 0 rfl ⟨by omega, rfl⟩ ?_
  rintro k ⟨hkl, hp⟩
  rcases Nat.lt_or_ge k r.length with hlt | hge
  · have hg := map_get Rec.pv hlt
    have w2 : IntKind.i64.wrap ((k : Int) + 1) = ((k + 1 : Nat) : Int) := i64_wrap _ (by omega) (by omega)
    have hx := hr _ (List.getElem_mem hlt)
    have hlast : (r.take (k + 1)).getLast? = some r[k] := by rw [List.take_succ_eq_append_getElem hlt]; exact List.getLast?_concat
    rw [List.drop_eq_getElem_cons hlt, recsFaultFrom_cons] at hp
    have cx : cutP (some 4) 0 (r[k].pv) = some r[k].pv := rfl
    have rf := fun h K => s_recordFault (h := h) (K := K) l r[k] hl hx
    simp only [Rec.pv] at rf
    by_cases h2 : recFault l r[k] = 0
    · rw [if_neg (by simp [h2])] at hp
      cases k with
      | zero =>
        simp only [List.take_zero, List.getLast?_nil, reduceCtorEq, if_false] at hp
        have hlt0 : (0 : Int) < r.length := by omega
        simp only [go_sem, hlt0, hg, cx, Rec.pv, rf, h2, Int.lt_irrefl, show IntKind.i64.wrap 1 = 1 from rfl]
        exact ⟨0 + 1, rfl, ⟨by omega, by rw [hlast]; exact hp⟩, by omega⟩
      | succ j =>
        have hj : j < r.length := by omega
        have hgj := map_get Rec.pv hj
        have cj : cutP (some 4) 0 (r[j].pv) = some r[j].pv := rfl
        have hlj : (r.take (j + 1)).getLast? = some r[j] := by rw [List.take_succ_eq_append_getElem hj]; exact List.getLast?_concat
        have w3 : IntKind.i64.wrap (((j + 1 : Nat) : Int) - 1) = (j : Int) := by rw [i64_wrap _ (by omega) (by omega)]; omega
        have p1 : (0 : Int) < ((j + 1 : Nat) : Int) := by omega
        have bt := fun h K => s_byTime (h := h) (K := K) r[j + 1] r[j]
        simp only [Rec.pv] at bt
        rw [hlj] at hp
        by_cases h3 : recCmp r[j + 1] r[j] ≤ 0
        · simp only [h3, decide_true, if_true] at hp
          simp only [go_sem, hlt, hj, hg, hgj, cx, cj, Rec.pv, rf, h2, p1, w3, bt, h3]
          rw [← hp]
        · simp only [h3, decide_false, reduceCtorEq, if_false] at hp
          simp only [go_sem, hlt, hj, hg, hgj, cx, cj, Rec.pv, rf, h2, p1, w3, bt, h3, w2]
          exact ⟨j + 1 + 1, rfl, ⟨by omega, by rw [hlast]; exact hp⟩, by omega⟩
    · rw [if_pos h2] at hp
      simp only [go_sem, hlt, hg, cx, Rec.pv, rf, h2]
      rw [← hp]
  · have ek : k = r.length := by omega
    subst ek
    rw [List.drop_length] at hp
    simp only [go_sem, Nat.lt_irrefl]
    rw [← hp]
    cases (r.take r.length).getLast? <;> rfl
theorem s_CheckRecords (l : List Lim) (r : List Rec) (hl : LimOk l) (hr : ∀ x ∈ r, RecOk x) (hn : r.length ≤ 1000000) : ACall X f_lot_CheckRecords [ALim l, ARec r] h K = K (AI (recsFault l r)) h [] := by
  refine rule ?_
  rw [c_lot_CheckRecords rfl]
  have cl := fun h K => s_CheckLimits (h := h) (K := K) l hl.k (by have := hl.n; omega)
  have cr := fun h K => s_recordsFault (h := h) (K := K) l r hl hr hn
  unfold recsFault
  by_cases h1 : limsFault l = 0
  · simp only [d_lot_CheckRecords, go_sem, cl, cr, h1]
  · simp only [d_lot_CheckRecords, go_sem, cl, cr, h1]
theorem s_RecordsFault (l : List Lim) (r : List Rec) (hl : LimOk l) (hr : ∀ x ∈ r, RecOk x) (hn : r.length ≤ 1000000) : ACall X f_scanref2_RecordsFault [ALim l, ARec r] h K = K (AI (recsFault l r)) h [] := by
  refine rule ?_
  rw [c_scanref2_RecordsFault rfl]
  have cl := fun h K => s_LimitsFault (h := h) (K := K) l hl.k (by have := hl.n; omega)
  unfold recsFault recsFault0
  by_cases h0 : limsFault l = 0
  case neg => simp only [d_scanref2_RecordsFault, go_sem, cl, h0]
  by_cases h1 : (5000 : Int) < r.length
  · simp only [d_scanref2_RecordsFault, go_sem, cl, h0, h1]
  simp only [d_scanref2_RecordsFault, go_sem, cl, h0, h1]
  refine N_loop (fun k : Nat => ⟨[(0, ALim l), (1, ARec r), (17, ARec r), (18, AI r.length), (19, AI k)], h, []⟩) (fun k => k ≤ r.length ∧ recsFaultFrom l (r.take k).getLast? (r.drop k) = recsFaultFrom l none r ∧ ∀ x ∈ r.take k, recFault l x = 0) (fun k => r.length - k) 0 rfl ⟨by omega, rfl, by simp⟩ ?_
  rintro k ⟨hkl, hp, hz⟩
  rcases Nat.lt_or_ge k r.length with hlt | hge
  · have hg := map_get Rec.pv hlt
    have w2 : IntKind.i64.wrap ((k : Int) + 1) = ((k + 1 : Nat) : Int) := i64_wrap _ (by omega) (by omega)
    have hx := hr _ (List.getElem_mem hlt)
    have hlast : (r.take (k + 1)).getLast? = some r[k] := by rw [List.take_succ_eq_append_getElem hlt]; exact List.getLast?_concat
    rw [List.drop_eq_getElem_cons hlt, recsFaultFrom_cons] at hp
    have cx : cutP (some 4) 0 (r[k].pv) = some r[k].pv := rfl
    have rf := fun h K => s_refRecordFault (h := h) (K := K) l r[k] hl hx
    simp only [Rec.pv] at rf
    by_cases h2 : recFault l r[k] = 0
    · rw [if_neg (by simp [h2])] at hp
      have hz' : ∀ x ∈ r.take (k + 1), recFault l x = 0 := fun x hx => by
        rw [List.take_succ_eq_append_getElem hlt, List.mem_append, List.mem_singleton] at hx
        rcases hx with hx | rfl
        · exact hz x hx
        · exact h2
      cases k with
      | zero =>
        simp only [List.take_zero, List.getLast?_nil, reduceCtorEq, if_false] at hp
        have hlt0 : (0 : Int) < r.length := by omega
        simp only [go_sem, hlt0, hg, cx, Rec.pv, rf, h2, Int.lt_irrefl, show IntKind.i64.wrap 1 = 1 from rfl]
        exact ⟨0 + 1, rfl, ⟨by omega, by rw [hlast]; exact hp, hz'⟩, by omega⟩
      | succ j =>
        have hj : j < r.length := by omega
        have hgj := map_get Rec.pv hj
        have cj : cutP (some 4) 0 (r[j].pv) = some r[j].pv := rfl
        have hlj : (r.take (j + 1)).getLast? = some r[j] := by rw [List.take_succ_eq_append_getElem hj]; exact List.getLast?_concat
        have w3 : IntKind.i64.wrap (((j + 1 : Nat) : Int) - 1) = (j : Int) := by rw [i64_wrap _ (by omega) (by omega)]; omega
        have p1 : (0 : Int) < ((j + 1 : Nat) : Int) := by omega
        have t1 := recFault_time h2
        have t2 := recFault_time (hz r[j] (by rw [List.mem_take_iff_getElem]; exact ⟨j, by omega, rfl⟩))
        have bt := fun h K => s_recordOrder (h := h) (K := K) r[j] r[j + 1] (by omega) (by omega)
        simp only [Rec.pv] at bt
        rw [hlj] at hp
        have hneg := recCmp_neg r[j + 1] r[j]
        by_cases h3 : recCmp r[j + 1] r[j] ≤ 0
        · have h3' : 0 ≤ recCmp r[j] r[j + 1] := by omega
          simp only [h3, decide_true, if_true] at hp
          simp only [go_sem, hlt, hj, hg, hgj, cx, cj, Rec.pv, rf, h2, p1, w3, bt, h3']
          rw [← hp]
        · have h3' : ¬ 0 ≤ recCmp r[j] r[j + 1] := by omega
          simp only [h3, decide_false, reduceCtorEq, if_false] at hp
          simp only [go_sem, hlt, hj, hg, hgj, cx, cj, Rec.pv, rf, h2, p1, w3, bt, h3', w2]
          exact ⟨j + 1 + 1, rfl, ⟨by omega, by rw [hlast]; exact hp, hz'⟩, by omega⟩
    · rw [if_pos h2] at hp
      simp only [go_sem, hlt, hg, cx, Rec.pv, rf, h2]
      rw [← hp]
  · have ek : k = r.length := by omega
    subst ek
    rw [List.drop_length] at hp
    simp only [go_sem, Nat.lt_irrefl]
    rw [← hp]
    cases (r.take r.length).getLast? <;> rfl
end Go.Am
end
section
/- Sorting records: printed by program. -/
open Go
set_option linter.unusedSimpArgs false
namespace Go.Am
attribute [-go_sem] PV.cells splice
variable {h : Heap} {K : Post}
theorem insCmp_api_Record (id n : Nat) (l tl : List PV) (hn : n = l.length + tl.length) (hs : shps (some 4) l) (hl : l.length ≤ 1000) (hh : h[id]? = some (.row (some 4) (l ++ tl) 0)) {g : Nat} {caps : List AV} {c : PV → PV → Int} (hc : Cmps g caps c l id h) :
    ACall X f_slices_insertionSortCmpFunc_api_Record [.own id n 0 l.length, AI 0, AI l.length, .fn g caps] h K = K (.tup []) (h.set id (.row (some 4) (isort (ltC c) l ++ tl) 0)) [] := by
  refine rule ?_
  rw [c_slices_insertionSortCmpFunc_api_Record]
  have hid := get_lt hh
  have hst : ∀ o, (h.set id o)[id]? = some o := fun o => set_get' hid
  simp only [d_slices_insertionSortCmpFunc_api_Record, go_sem, show IntKind.i64.wrap 1 = 1 from rfl]
  refine N_loop (fun i : Nat => ⟨[(0, .own id n 0 l.length), (1, AI 0), (2, AI l.length), (3, .fn g caps), (8, AI i)], h.set id (.row (some 4) ((isortR (ltC c) (l.take i)).reverse ++ (l.drop i ++ tl)) 0), []⟩) (fun i => 1 ≤ i ∧ (i ≤ l.length ∨ i = 1)) (fun i => l.length - i) 1 ?_ (by simp) ?_
  · have : (isortR (ltC c) (l.take 1)).reverse ++ (l.drop 1 ++ tl) = l ++ tl := by cases l <;> rfl
    rw [this, set_self hh]; rfl
  rintro i ⟨hi1, hi2⟩
  rcases Nat.lt_or_ge i l.length with hlt | hge
  · simp only [go_sem, hlt]
    have hxl : l[i] ∈ l := List.getElem_mem hlt
    generalize hx : l[i] = x at *
    generalize hR : isortR (ltC c) (l.take i) = R
    have hRl : R.length = i := by rw [← hR, isortR_len]; simp; omega
    have hRm : ∀ z ∈ R, z ∈ l := fun z hz => List.mem_of_mem_take ((isortR_perm (ltC c) (l.take i)).mem_iff.1 (by rw [hR]; exact hz))
    have hdrop : l.drop i = x :: l.drop (i + 1) := by rw [← hx]; exact List.drop_eq_getElem_cons hlt
    have hnext : isortR (ltC c) (l.take (i + 1)) = insR (ltC c) x R := by rw [isortR_take_succ _ _ _ hlt, hR, hx]
    refine N_loop (fun t : List PV × List PV => ⟨[(0, .own id n 0 l.length), (1, AI 0), (2, AI l.length), (3, .fn g caps), (8, AI i), (9, AI t.1.length)], h.set id (.row (some 4) (t.1.reverse ++ x :: t.2) 0), []⟩)
      (fun t => ∃ B, R = B ++ t.1 ∧ t.2 = B.reverse ++ (l.drop (i + 1) ++ tl) ∧ ∀ b ∈ B, ltC c x b = true) (fun t => t.1.length) (R, l.drop (i + 1) ++ tl) (by rw [hdrop, hRl]; rfl) ⟨[], rfl, rfl, by simp⟩ ?_
    rintro ⟨A, C⟩ ⟨B, q1, q2, q3⟩
    dsimp only at q1 q2 q3
    have hlen : (A.reverse ++ x :: C).length = n := by
      have : R.length = B.length + A.length := by rw [q1]; simp
      rw [q2]; simp; omega
    have hBA : B.length + A.length < l.length := by
      have : R.length = B.length + A.length := by rw [q1]; simp
      omega
    have hln : l.length ≤ n := by omega
    have w1 : IntKind.i64.wrap ((i : Int) + 1) = ((i + 1 : Nat) : Int) := i64_wrap _ (by omega) (by omega)
    cases A with
    | nil =>
      have hd : insR (ltC c) x R = B ++ [x] := by rw [q1]; exact ins_done (ltC c) x [] B q3 (fun y r h => by cases h)
      simp only [go_sem, Int.lt_irrefl, w1]
      refine ⟨i + 1, ?_, by omega, by omega⟩
      simp only [hnext, hd, q2, List.reverse_append, List.reverse_nil, List.nil_append, List.reverse_cons, List.append_assoc, List.cons_append]
    | cons y A =>
      have hyl : y ∈ l := hRm y (by rw [q1]; simp)
      have g1 := ins_get (y :: A) C x
      have g2 := ins_get1 A C x y
      have sw := ins_swap A C x y
      simp only [List.length_cons] at hBA
      generalize hrow : (y :: A).reverse ++ x :: C = row at *
      simp only [List.length_cons] at g1
      have w2 : IntKind.i64.wrap (((A.length + 1 : Nat) : Int) - 1) = (A.length : Int) := by rw [i64_wrap _ (by omega) (by omega)]; omega
      have p1 : (0 : Int) < ((A.length + 1 : Nat) : Int) := by omega
      have b1 : A.length + 1 < l.length := by omega
      have b2 : A.length < l.length := by omega
      have cx := shp_cut (hs x hxl)
      have cy := shp_cut (hs y hyl)
      have hcc := fun o K => hc o x hxl y hyl K
      by_cases hxy : c x y < 0
      · have g3 : (row.set (A.length + 1) y)[A.length]? = some y := by rw [List.getElem?_set_ne (by omega), g2]
        have lx := shp_len (hs x hxl)
        have ly := shp_len (hs y hyl)
        have sx := shp_all (hs x hxl)
        have sy := shp_all (hs y hyl)
        simp only [shSize] at lx ly
        have t1 := fun i xs h1 => shp_st (hs x hxl) (hs y hyl) id i 0 xs h1
        have t2 := fun i xs h1 => shp_st (hs y hyl) (hs x hxl) id i 0 xs h1
        simp only [go_sem, hst, p1, hlen, g1, g2, g3, w2, b1, b2, hln, cx, cy, hcc, hxy, lx, ly, sx, sy, t1, t2, sw]
        refine ⟨(A, y :: C), rfl, ⟨B ++ [y], by simp [q1], by simp [q2], fun b hb => ?_⟩, by simp⟩
        rw [List.mem_append, List.mem_singleton] at hb
        rcases hb with hb | rfl
        · exact q3 b hb
        · simpa [ltC] using hxy
      · have hd : insR (ltC c) x R = B ++ x :: y :: A := by rw [q1]; exact ins_done (ltC c) x (y :: A) B q3 (fun z r h => by cases h; simpa [ltC] using hxy)
        simp only [go_sem, hst, p1, hlen, g1, g2, w2, b1, b2, hln, cx, cy, hcc, hxy, w1]
        refine ⟨i + 1, ?_, by omega, by omega⟩
        simp only [hnext, hd, ← hrow, q2, List.reverse_append, List.reverse_cons, List.append_assoc, List.cons_append, List.nil_append]
  · have hge' : ¬ i < l.length := by omega
    have e1 : l.take i = l := List.take_of_length_le hge
    have e2 : l.drop i = [] := List.drop_of_length_le hge
    simp only [go_sem, hge', e1, e2]
    rfl
/-- A stable sort of at most 20 values. -/
theorem stable_api_Record (id : Nat) (l : List PV) (hs : shps (some 4) l) (hl : l.length ≤ 19) (hh : h[id]? = some (.row (some 4) l 0)) {g : Nat} {caps : List AV} {c : PV → PV → Int} (hc : Cmps g caps c l id h) :
    ACall X f_slices_SortStableFunc_api_Record_api_Record [.own id l.length 0 l.length, .fn g caps] h K = K (.tup []) (h.set id (.row (some 4) (isort (ltC c) l) 0)) [] := by
  refine rule ?_
  rw [c_slices_SortStableFunc_api_Record_api_Record]
  have key : ∀ K : Post, ACall X f_slices_stableCmpFunc_api_Record [.own id l.length 0 l.length, AI l.length, .fn g caps] h K = K (.tup []) (h.set id (.row (some 4) (isort (ltC c) l) 0)) [] := by
    intro K
    refine rule ?_
    rw [c_slices_stableCmpFunc_api_Record]
    have is := fun K => insCmp_api_Record (h := h) (K := K) id l.length l [] rfl hs (by omega) (by rw [List.append_nil]; exact hh) hc
    simp only [List.append_nil] at is
    have b1 : ¬ ((20 : Int) ≤ (l.length : Int)) := by omega
    have b2 : ¬ ((20 : Int) < (l.length : Int)) := by omega
    simp only [d_slices_stableCmpFunc_api_Record, go_sem]
    refine N_loop (fun _ : Unit => ⟨[(0, .own id l.length 0 l.length), (1, AI l.length), (2, .fn g caps), (6, AI 20), (7, AI 0), (8, AI 20)], h, []⟩) (fun _ => True) (fun _ => 0) () rfl trivial ?_
    intro _ _
    simp only [go_sem, b1, is]
    refine N_loop (fun _ : Unit => ⟨[(0, .own id l.length 0 l.length), (1, AI l.length), (2, .fn g caps), (6, AI 20)], h.set id (.row (some 4) (isort (ltC c) l) 0), []⟩) (fun _ => True) (fun _ => 0) () rfl trivial ?_
    intro _ _
    simp only [go_sem, b2]
  simp only [d_slices_SortStableFunc_api_Record_api_Record, go_sem, key]
end Go.Am
end
section
/- Leaving out what is alike: printed by program. -/
open Go
set_option linter.unusedSimpArgs false
namespace Go.Am
attribute [-go_sem] PV.cells splice
variable {h : Heap} {K : Post}
theorem CompactFunc_Record (id : Nat) (l : List PV) (hs : shps (some 4) l) (hl : l.length ≤ 100000) (hh : h[id]? = some (.row (some 4) l 0)) {g : Nat} {caps : List AV} {q : PV → PV → Bool} (hq : Alikes g caps q l id h) :
    ACall X f_slices_CompactFunc_api_Record_api_Record [.own id l.length 0 l.length, .fn g caps] h K = K (.own id l.length 0 (compactL q l).length) (h.set id (.row (some 4) (compactL q l ++ List.replicate (l.length - (compactL q l).length) (PV.agg [.str [], .int .i64 0, .str [], .sl none []])) 0)) [] := by
  refine rule ?_
  rw [c_slices_CompactFunc_api_Record_api_Record]
  have hid := get_lt hh
  have hst : ∀ o, (h.set id o)[id]? = some o := fun o => set_get' hid
  have hb : ¬ h.length ≤ id := by omega
  have hb2 : max h.length (id + 1) = h.length := by omega
  have hb3 : id + 1 ≤ h.length := hid
  have hq0 : ∀ x ∈ l, ∀ y ∈ l, ∀ K : Post, ACall X g (.p x :: .p y :: caps) h K = K (AB (q x y)) h [] := fun x hx y hy K => by have := hq (.row (some 4) l 0) x hx y hy K; rwa [set_self hh] at this
  by_cases h2 : l.length < 2
  · have h2' : (l.length : Int) < 2 := by omega
    have e : compactL q l = l := by
      cases l with
      | nil => rfl
      | cons x r =>
        have : r = [] := List.length_eq_zero_iff.1 (by simp only [List.length_cons] at h2; omega)
        subst this; rfl
    simp only [d_slices_CompactFunc_api_Record_api_Record, go_sem, h2', e, Nat.sub_self, List.replicate_zero, List.append_nil, hb, hb2, hb3]
    rw [set_self hh]
  have h2' : ¬ (l.length : Int) < 2 := by omega
  simp only [d_slices_CompactFunc_api_Record_api_Record, go_sem, h2']
  refine N_loop (fun k : Nat => ⟨[(0, .own id l.length 0 l.length), (1, .fn g caps), (5, AI ((k + 1 : Nat) : Int))], h, []⟩) (fun k => k + 1 ≤ l.length ∧ compactL q (l.take (k + 1)) = l.take (k + 1)) (fun k => l.length - (k + 1)) 0 rfl ⟨by omega, ?_⟩ ?_
  · cases l with
    | nil => rfl
    | cons x r => rfl
  rintro k ⟨hk, hc⟩
  rcases Nat.lt_or_ge (k + 1) l.length with hlt | hge
  · have hk0 : k < l.length := by omega
    have g1 : l[k + 1]? = some l[k + 1] := List.getElem?_eq_getElem hlt
    have g2 : l[k]? = some l[k] := List.getElem?_eq_getElem hk0
    have c1 := shp_cut (shps_get hs hlt)
    have c2 := shp_cut (shps_get hs hk0)
    have w1 : IntKind.i64.wrap (((k + 1 : Nat) : Int) - 1) = (k : Int) := by rw [i64_wrap _ (by omega) (by omega)]; omega
    have w2 : IntKind.i64.wrap (((k + 1 : Nat) : Int) + 1) = ((k + 1 + 1 : Nat) : Int) := i64_wrap _ (by omega) (by omega)
    have hqk := fun K => hq0 _ (List.getElem_mem hlt) _ (List.getElem_mem hk0) K
    have hcs := compactL_take_succ q l k hlt
    cases hqx : q l[k + 1] l[k] with
    | false =>
      rw [hqx] at hcs
      simp only [go_sem, hh, hlt, hk0, g1, g2, c1, c2, w1, w2, hqk, hqx]
      exact ⟨k + 1, rfl, ⟨by omega, by rw [hcs, hc, cond_false, List.take_succ_eq_append_getElem hlt]⟩, by omega⟩
    | true =>
      rw [hqx, cond_true, List.append_nil, hc] at hcs
      have hle : k + 1 ≤ l.length := by omega
      simp only [go_sem, hh, hlt, hk0, hle, g1, g2, c1, c2, w1, hqk, hqx]
      have e0 : k + 1 + (l.length - (k + 1)) = l.length := by omega
      refine N_loop (fun t : List PV × Nat × Nat => ⟨[(0, .own id l.length 0 l.length), (1, .fn g caps), (5, AI ((t.2.1 : Nat) : Int)), (6, .own id l.length (k + 1) (l.length - (k + 1))), (7, AI ((t.2.2 + 1 : Nat) : Int))], h.set id (.row (some 4) t.1 0), []⟩)
        (fun t => t.1.length = l.length ∧ shps (some 4) t.1 ∧ t.2.1 ≤ k + 1 + t.2.2 ∧ k + 1 + t.2.2 < l.length ∧ t.1.take t.2.1 = compactL q (l.take (k + 1 + t.2.2 + 1)) ∧ t.1.drop (k + 1 + t.2.2) = l.drop (k + 1 + t.2.2)) (fun t => l.length - t.2.2)
        (l, k + 1, 0) (by rw [set_self hh]; rfl) ⟨rfl, hs, by simp, by simpa using hlt, by simpa using hcs.symm, rfl⟩ ?_
      rintro ⟨row, i, j⟩ ⟨r1, r2, r3, r4, r5, r6⟩
      dsimp only at r1 r2 r3 r4 r5 r6
      rcases Nat.lt_or_ge (k + 1 + j + 1) l.length with hlt2 | hge2
      · have a1 : row[k + 1 + j + 1]? = some l[k + 1 + j + 1] := by
          have := congrArg (·[1]?) r6
          simp only [List.getElem?_drop] at this
          rw [this, List.getElem?_eq_getElem hlt2]
        have a2 : row[k + 1 + j]? = some l[k + 1 + j] := by
          have := congrArg (·[0]?) r6
          simp only [List.getElem?_drop, Nat.add_zero] at this
          rw [this, List.getElem?_eq_getElem r4]
        have s1 := shps_get hs hlt2
        have d1 := shp_cut s1
        have d2 := shp_cut (shps_get hs r4)
        have hil : i < l.length := by omega
        have hir : i < row.length := by omega
        have g3 : row[i]? = some row[i] := List.getElem?_eq_getElem hir
        have t1 := fun xs h1 => shp_st s1 (shps_get r2 hir) id i 0 xs h1
        have lx := shp_len s1
        have sx := shp_all s1
        simp only [shSize] at lx
        have v1 : IntKind.i64.wrap (((j + 1 : Nat) : Int) - 1) = (j : Int) := by rw [i64_wrap _ (by omega) (by omega)]; omega
        have v2 : IntKind.i64.wrap (((j + 1 : Nat) : Int) + 1) = ((j + 1 + 1 : Nat) : Int) := i64_wrap _ (by omega) (by omega)
        have v3 : IntKind.i64.wrap ((i : Int) + 1) = ((i + 1 : Nat) : Int) := i64_wrap _ (by omega) (by omega)
        have p1 : j + 1 < l.length - (k + 1) := by omega
        have p2 : j < l.length - (k + 1) := by omega
        have p3 : k + 1 + (j + 1) = k + 1 + j + 1 := by omega
        have p4 : k + 1 + (l.length - (k + 1)) ≤ l.length := by omega
        have hqj := fun o K => hq o _ (List.getElem_mem hlt2) _ (List.getElem_mem r4) K
        have hcs2 := compactL_take_succ q l (k + 1 + j) hlt2
        cases hqy : q l[k + 1 + j + 1] l[k + 1 + j] with
        | true =>
          rw [hqy, cond_true, List.append_nil] at hcs2
          simp only [go_sem, hst, r1, p1, p2, p3, p4, e0, a1, a2, d1, d2, v1, v2, hqj, hqy]
          refine ⟨(row, i, j + 1), rfl, ⟨r1, r2, by dsimp only; omega, by dsimp only; omega, ?_, ?_⟩, by dsimp only; omega⟩
          · dsimp only; rw [r5, ← hcs2]; rfl
          · dsimp only; rw [show k + 1 + (j + 1) = k + 1 + j + 1 from rfl, ← List.drop_drop, r6, List.drop_drop]
        | false =>
          rw [hqy, cond_false] at hcs2
          simp only [go_sem, hst, r1, p1, p2, p3, p4, e0, a1, a2, g3, d1, d2, v1, v2, v3, hil, hqj, hqy, lx, sx, t1]
          refine ⟨(row.set i l[k + 1 + j + 1], i + 1, j + 1), rfl, ⟨by simpa using r1, fun x hx => ?_, by dsimp only; omega, by dsimp only; omega, ?_, ?_⟩, by dsimp only; omega⟩
          · rcases List.mem_or_eq_of_mem_set hx with hx | rfl
            · exact r2 x hx
            · exact s1
          · dsimp only
            rw [show k + 1 + (j + 1) + 1 = k + 1 + j + 1 + 1 from rfl, hcs2, ← r5, List.take_succ_eq_append_getElem (by simp; omega)]
            simp [List.take_set_of_le]
          · dsimp only
            rw [List.drop_set_of_lt (by omega), show k + 1 + (j + 1) = k + 1 + j + 1 from rfl, ← List.drop_drop, r6, List.drop_drop]
      · have ej : k + 1 + j + 1 = l.length := by omega
        rw [ej, List.take_length] at r5
        have hil : i ≤ l.length := by omega
        have hm : (compactL q l).length = i := by rw [← r5]; simp; omega
        have p1 : ¬ (j + 1 < l.length - (k + 1)) := by omega
        have sp : splice row i (List.replicate (l.length - i) (PV.agg [.str [], .int .i64 0, .str [], .sl none []])) = compactL q l ++ List.replicate (l.length - i) (PV.agg [.str [], .int .i64 0, .str [], .sl none []]) := by
          unfold splice
          rw [r5, List.length_replicate, List.drop_of_length_le (by omega), List.append_nil]
        have rl : (compactL q l ++ List.replicate (l.length - i) (PV.agg [.str [], .int .i64 0, .str [], .sl none []])).length = l.length := by simp only [List.length_append, hm, List.length_replicate]; omega
        rw [hm]
        generalize compactL q l ++ List.replicate (l.length - i) (PV.agg [.str [], .int .i64 0, .str [], .sl none []]) = row' at *
        simp only [go_sem, hst, r1, rl, hil, p1, sp, show i + (l.length - i) = l.length by omega, hb, hb2, hb3]
  · have ek : k + 1 = l.length := by omega
    rw [ek, List.take_length] at hc
    have hge' : ¬ k + 1 < l.length := by omega
    simp only [go_sem, hge', hc, Nat.sub_self, List.replicate_zero, List.append_nil, hb, hb2, hb3]
    rw [set_self hh]
end Go.Am
end
section
/- What is drawn: records. -/
open Go
set_option linter.unusedSimpArgs false
namespace Go.Am
variable {L : List Int} {a : Int} {h l : Heap} {id : Nat} {K : Post}
theorem close_out {b : Nat} {x : Esc} (hx : ∀ y ∈ x, b ≤ y.1) : ∀ k, close k x b = b := by
  have hb : bump x b = b := by
    unfold bump
    induction x with
    | nil => rfl
    | cons y r ih =>
      simp only [List.foldl_cons]
      rw [if_neg (by have := hx y (by simp); omega)]
      exact ih (fun z hz => hx z (by simp [hz]))
  intro k
  induction k with
  | zero => rfl
  | succ k ih => unfold close; rw [hb, ih]
theorem trunc_out {b : Nat} {x0 x : Esc} {e : List (Nat × AV)} {h : Heap} (hx : ∀ y ∈ x, b ≤ y.1) : trunc b x0 ⟨e, h, x⟩ = ⟨clean b e, h.take b, x0⟩ := by
  unfold trunc
  simp only [close_out hx]
  have hc : closed x b = true := by
    unfold closed
    rw [List.all_eq_true]
    intro y hy
    simp [hx y hy]
  have hf : x.filter (fun y => decide (y.1 < b)) = [] := by
    rw [List.filter_eq_nil_iff]
    intro y hy
    have := hx y hy
    simp; omega
  rw [if_pos hc, hf, List.nil_append]
theorem trunc_one {b i t : Nat} {x0 : Esc} {e : List (Nat × AV)} {h : Heap} (hi : i < b) : trunc b x0 ⟨e, h, [(i, t)]⟩ = ⟨clean (max b t) e, h.take (max b t), (i, t) :: x0⟩ := by
  unfold trunc
  have hb : close [(i, t)].length [(i, t)] b = max b t := by simp [close, bump, hi]
  simp only [hb]
  have hc : closed [(i, t)] (max b t) = true := by simp [closed]; omega
  have hf : [(i, t)].filter (fun y => decide (y.1 < max b t)) = [(i, t)] := by simp; omega
  rw [if_pos hc, hf]; rfl
theorem frz3 {o0 o1 o2 : Obj} {sh : Sh} {xs : List PV} {fz k : Nat} : frz [o0, o1, o2, .row sh xs fz] 3 k = [o0, o1, o2, .row sh xs (max fz k)] := rfl
set_option maxHeartbeats 2000000 in
/-- A record as it is added to the list. -/
theorem rec_k5 (hid : id < h.length) (hp : posN 30 a) (rs : List Rec) (hrs : rs.length ≤ 1000) (u s : List UInt8) (hu : u.length ≤ 1000) (hs : s.length ≤ 1000) (t : Int) (ns : List Int) (hns : ns.length ≤ 100) (G : Obj) (v1 v8 v13 v14 : AV) (x : Esc) (hx : ∀ y ∈ x, h.length + 1 ≤ y.1) (K : Ex → St → Prop)
    (hK : ∀ (r' : Rec) (a' : Int) (J : Heap) (x' : Esc), RecOk r' → a ≤ a' → a' ≤ a + 8 → (∀ y ∈ x', h.length + 1 ≤ y.1) →
      K .normal ⟨[(0, .ref id 0), (1, v1), (7, .own h.length (rs.length + 1) 0 (rs.length + 1)), (8, v8), (13, v13), (14, v14)], h.set id (strm L a') ++ .row (some 4) (rs.map Rec.pv ++ [r'.pv]) 0 :: J, x'⟩) :
    d_scanmake_Stream_Records_k5 (ACall X) X.gl p_scanmake_Stream_Records_k4 (.ref id 0) v1 (.own h.length rs.length 0 rs.length) v8 (.ref (h.length + 1) 0) v13 v14
      (h.set id (strm L a) ++ [.row (some 4) (rs.map Rec.pv) 0, .box [AS u, AI t, AS s, .own (h.length + 3) ns.length 0 ns.length], G, .row none (ns.map eI) 0]) x K := by
  have P := posAll (posN_le hp (Int.le_refl a) (by omega))
  have hmx : rs.length + 1 ≤ maxSl := by unfold maxSl; omega
  have hmn : ns.length + 1 ≤ maxSl := by unfold maxSl; omega
  have e1 : h.length + 1 < h.length + 3 + 1 := by omega
  by_cases hf : nextV L a 60 = 0
  · by_cases h0 : nextV L (a + 1) 3 = 0
    · obtain ⟨kv, a3, c1, c2, _, _, O⟩ := g_Odd (L := L) (a := a + 1 + 1 + 1 + 1) (posN_le hp (by omega) (by omega)) 0 50 (by omega) (by omega) (by omega)
      have O' := fun l K => O.app (h := h) (id := id) (l := l) (K := K) hid
      have p1 := pickS_mem (l := [[], [117, 49]]) (L := L) (a := a + 1 + 1) (by simp) (by simp)
      have p2 := pickS_mem (l := [[65], [115, 49]]) (L := L) (a := a + 1 + 1 + 1) (by simp) (by simp)
      simp only [List.mem_cons, List.not_mem_nil, or_false] at p1 p2
      simp only [d_scanmake_Stream_Records_k5, go_sem, hid, P, hf, h0, ↓O', O', hmx, frz3]
      rw [win_full (by simp)]
      exact hK ⟨pickS [[], [117, 49]] L (a + 1 + 1), kv, pickS [[65], [115, 49]] L (a + 1 + 1 + 1), ns⟩ a3 _ _ ⟨by rcases p1 with p1 | p1 <;> simp [p1], by rcases p2 with p2 | p2 <;> simp [p2], by dsimp only; omega⟩ (by omega) (by omega) hx
    · by_cases h1 : nextV L (a + 1) 3 = 1
      · simp only [d_scanmake_Stream_Records_k5, go_sem, hid, P, hf, h0, h1, hmx, hmn, escOf, e1, frz3]
        rw [win_full (by simp)]
        have e : List.map eI ns ++ [PV.int .i64 (pickV [0, 100001, -100001] L (a + 1 + 1))] = (ns ++ [pickV [0, 100001, -100001] L (a + 1 + 1)]).map eI := by simp
        rw [e]
        refine hK ⟨u, t, s, ns ++ [pickV [0, 100001, -100001] L (a + 1 + 1)]⟩ (a + 1 + 1 + 1) _ _ ⟨hu, hs, by simp; omega⟩ (by omega) (by omega) (fun y hy => ?_)
        rcases List.mem_cons.1 hy with rfl | hy
        · exact Nat.le_refl _
        · exact hx y hy
      · obtain ⟨m1, m2⟩ := nextV_bd L (a + 1 + 1) (ns.length + 1) (by omega) (by omega)
        obtain ⟨m, hm⟩ := Int.eq_ofNat_of_zero_le m1
        have w1 : IntKind.i64.wrap ((ns.length : Int) + 1) = (ns.length : Int) + 1 := i64_wrap _ (by omega) (by omega)
        have hml : m ≤ ns.length := by omega
        simp only [d_scanmake_Stream_Records_k5, go_sem, hid, P, hf, h0, h1, w1, hm, hml, hmx, escOf, e1, frz3]
        rw [win_map]
        refine hK ⟨u, t, s, win ns 0 m⟩ (a + 1 + 1 + 1) _ _ ⟨hu, hs, by simp [win]; omega⟩ (by omega) (by omega) (fun y hy => ?_)
        rcases List.mem_cons.1 hy with rfl | hy
        · exact Nat.le_refl _
        · exact hx y hy
  · simp only [d_scanmake_Stream_Records_k5, go_sem, hid, P, hf, hmx, frz3]
    rw [win_full (by simp)]
    exact hK ⟨u, t, s, ns⟩ (a + 1) _ _ ⟨hu, hs, by dsimp only; omega⟩ (by omega) (by omega) hx
attribute [-go_sem] d_scanmake_Stream_Records_k5
def unRec : PV → Rec
  | .agg [.str u, .int _ t, .str s, .sl _ xs] => ⟨u, t, s, xs.map unI⟩
  | _ => ⟨[], 0, [], []⟩
theorem unRec_pv (r : Rec) : unRec r.pv = r := by
  cases r with | mk u t s ns =>
  have : (ns.map eI).map unI = ns := by
    rw [List.map_map]
    have : (unI ∘ eI) = id := by funext n; rfl
    rw [this, List.map_id]
  simp only [Rec.pv, unRec, this]
theorem recs_of {P : Rec → Prop} : ∀ {xs : List PV}, (∀ x ∈ xs, ∃ r, P r ∧ x = Rec.pv r) → ∃ rs : List Rec, (∀ r ∈ rs, P r) ∧ xs = rs.map Rec.pv
  | [], _ => ⟨[], by simp, rfl⟩
  | x :: xs, h => by
    obtain ⟨r, h1, h2⟩ := h x (by simp)
    obtain ⟨rs, h3, h4⟩ := recs_of (xs := xs) (fun y hy => h y (List.mem_cons_of_mem _ hy))
    refine ⟨r :: rs, fun z hz => ?_, by rw [h2, h4]; rfl⟩
    rcases List.mem_cons.1 hz with rfl | hz
    · exact h1
    · exact h3 z hz
theorem s_rec1 (a b : Rec) : ACall X f_scanmake_Stream_Records_1 [.p a.pv, .p b.pv] h K = K (AI (recCmp a b)) h [] := by
  refine rule ?_
  rw [c_scanmake_Stream_Records_1 rfl]
  have o := fun h K => s_cmpOr (h := h) (K := K) [cmp3 a.time b.time, cmpL a.unit b.unit] (by simp)
  simp only [AL, List.map_cons, List.map_nil] at o
  have e : orL [cmp3 a.time b.time, cmpL a.unit b.unit] = recCmp a b := by
    unfold recCmp orL
    split
    · rfl
    · unfold orL
      split
      · rfl
      · rename_i h; simp only [ne_eq, Decidable.not_not] at h; rw [h]; rfl
  rw [e] at o
  simp only [d_scanmake_Stream_Records_1, Rec.pv, go_sem, s_cmpCompare, s_strCompare, o]
def sameAt (a b : Rec) : Bool := decide (a.time = b.time) && decide (a.unit = b.unit)
theorem s_rec2 (a b : Rec) : ACall X f_scanmake_Stream_Records_2 [.p a.pv, .p b.pv] h K = K (AB (sameAt a b)) h [] := by
  refine rule ?_
  rw [c_scanmake_Stream_Records_2 rfl]
  unfold sameAt
  by_cases h1 : a.time = b.time
  · simp only [d_scanmake_Stream_Records_2, Rec.pv, go_sem, h1]
  · simp only [d_scanmake_Stream_Records_2, Rec.pv, go_sem, h1]
set_option maxHeartbeats 4000000 in
theorem g_Records (hp : posN 4000 a) (l : List Lim) (hl1 : 1 ≤ l.length) (hl2 : l.length ≤ 3) (n : Nat) (hn : n ≤ 19) :
    GenE f_scanmake_Stream_Records [ALim l, AI n] L a (fun v a2 => a ≤ a2 ∧ a2 ≤ a + 2000 ∧ ∃ rs : List Rec, rs.length ≤ n ∧ (∀ r ∈ rs, RecOk r) ∧ v = ARec rs) := by
  refine GenE.of fun h id hid => ?_
  rw [c_scanmake_Stream_Records rfl]
  simp only [d_scanmake_Stream_Records, go_sem, hid]
  refine N_loop (fun t : List Rec × Int × Int => ⟨[(0, .ref id 0), (1, ALim l), (7, .own h.length t.1.length 0 t.1.length), (8, AI t.2.1), (13, AI n), (14, AI t.1.length)], h.set id (strm L t.2.2) ++ [.row (some 4) (t.1.map Rec.pv) 0], []⟩)
    (fun t => t.1.length ≤ n ∧ (∀ r ∈ t.1, RecOk r) ∧ a ≤ t.2.2 ∧ t.2.2 ≤ a + 40 * t.1.length) (fun t => n - t.1.length) ([], 0, a) rfl ⟨by simp, by simp, by simp, by simp⟩ ?_
  rintro ⟨rs, t, b⟩ ⟨q1, q2, q3, q4⟩
  dsimp only at q1 q2 q3 q4
  rcases Nat.lt_or_ge rs.length n with hlt | hge
  · have P := posAll (posN_le hp q3 (show b + 14 ≤ a + 4000 by omega))
    have w1 : IntKind.i64.wrap ((rs.length : Int) + 1) = ((rs.length + 1 : Nat) : Int) := i64_wrap _ (by omega) (by omega)
    have p1 := pickS_mem (l := [[117, 49], [117, 50], [117, 51], [117, 52]]) (L := L) (a := b + 1) (by simp) (by simp)
    have p2 := pickS_mem (l := [[115, 49], [115, 49], [115, 50]]) (L := L) (a := b + 1 + 1) (by simp) (by simp)
    have pu : (pickS [[117, 49], [117, 50], [117, 51], [117, 52]] L (b + 1)).length ≤ 1000 := by
      simp only [List.mem_cons, List.not_mem_nil, or_false] at p1
      rcases p1 with p1 | p1 | p1 | p1 <;> simp [p1]
    have ps : (pickS [[115, 49], [115, 49], [115, 50]] L (b + 1 + 1)).length ≤ 1000 := by
      simp only [List.mem_cons, List.not_mem_nil, or_false] at p2
      rcases p2 with p2 | p2 | p2 <;> simp [p2]
    simp only [go_sem, hid, P, hlt]
    generalize pickS [[117, 49], [117, 50], [117, 51], [117, 52]] L (b + 1) = u at *
    generalize pickS [[115, 49], [115, 49], [115, 50]] L (b + 1 + 1) = s at *
    generalize IntKind.i64.wrap (t + pickV [1, 1, 5, 0] L b) = t' at *
    have hb3 : b + 1 + 1 + 1 + 14 ≤ a + 4000 := by omega
    have fin : ∀ (c : Int) (ns : List Int) (G : Obj) (x : Esc), ns.length ≤ 100 → b + 3 ≤ c → c ≤ b + 3 + 9 → (∀ y ∈ x, h.length + 1 ≤ y.1) →
        d_scanmake_Stream_Records_k5 (ACall X) X.gl p_scanmake_Stream_Records_k4 (.ref id 0) (ALim l) (.own h.length rs.length 0 rs.length) (AI t') (.ref (h.length + 1) 0) (AI n) (AI rs.length)
          (h.set id (strm L c) ++ [.row (some 4) (rs.map Rec.pv) 0, .box [AS u, AI t', AS s, .own (h.length + 3) ns.length 0 ns.length], G, .row none (ns.map eI) 0]) x
          (blockN 1 (seqN (ACall X) X.gl p_scanmake_Stream_Records_k6 (scopeK (h.length + 1) [] (loopK
            (fun t : List Rec × Int × Int => ⟨[(0, .ref id 0), (1, ALim l), (7, .own h.length t.1.length 0 t.1.length), (8, AI t.2.1), (13, AI n), (14, AI t.1.length)], h.set id (strm L t.2.2) ++ [.row (some 4) (t.1.map Rec.pv) 0], []⟩)
            (fun t => t.1.length ≤ n ∧ (∀ r ∈ t.1, RecOk r) ∧ a ≤ t.2.2 ∧ t.2.2 ≤ a + 40 * t.1.length) (fun t => n - t.1.length)
            (blockN 0 (seqN (ACall X) X.gl p_scanmake_Stream_Records_k8 (finR [.t 6] false h.length (fun v1 h1 x1 => ∃ a2, (a ≤ a2 ∧ a2 ≤ a + 2000 ∧ ∃ rs : List Rec, rs.length ≤ n ∧ (∀ r ∈ rs, RecOk r) ∧ v1 = ARec rs) ∧ h1 = h.set id (strm L a2) ∧ x1 = [])))) (rs, t, b))))) := by
      intro c ns G x h1 h2 h3 h4
      refine rec_k5 hid (posN_le hp (by omega) (by omega)) rs (by omega) u s pu ps t' ns h1 G (ALim l) (AI t') (AI n) (AI rs.length) x h4 _ (fun r' a' J x' r1 r2 r3 r4 => ?_)
      have f1 : id + 1 ≤ h.length + 1 := by omega
      simp only [go_sem, w1, trunc_out r4, f1]
      refine ⟨(rs ++ [r'], t', a'), ?_, ⟨by simp; omega, fun r hr => ?_, by dsimp only; omega, by simp; omega⟩, by simp; omega⟩
      · simp only [List.length_append, List.length_cons, List.length_nil, List.map_append, List.map_cons, List.map_nil]
      · rcases List.mem_append.1 hr with hr | hr
        · exact q2 r hr
        · rw [List.mem_singleton] at hr; rw [hr]; exact r1
    generalize hc0 : b + 1 + 1 + 1 = c0 at *
    refine N_loop (fun o : Option (List Int × Int × Obj × Esc) => match o with
        | none => ⟨[(0, .ref id 0), (1, ALim l), (7, .own h.length rs.length 0 rs.length), (8, AI t'), (9, .ref (h.length + 1) 0), (13, AI n), (14, AI rs.length), (29, ALim l), (30, AI l.length), (31, AI 0)], h.set id (strm L c0) ++ [.row (some 4) (rs.map Rec.pv) 0, .box [AS u, AI t', AS s, .sl0 none]], []⟩
        | some (ns, c, G, x) => ⟨[(0, .ref id 0), (1, ALim l), (7, .own h.length rs.length 0 rs.length), (8, AI t'), (9, .ref (h.length + 1) 0), (13, AI n), (14, AI rs.length), (29, ALim l), (30, AI l.length), (31, AI ns.length)], h.set id (strm L c) ++ [.row (some 4) (rs.map Rec.pv) 0, .box [AS u, AI t', AS s, .own (h.length + 3) ns.length 0 ns.length], G, .row none (ns.map eI) 0], x⟩)
      (fun o => match o with
        | none => True
        | some (ns, c, G, x) => 1 ≤ ns.length ∧ ns.length ≤ l.length ∧ c0 ≤ c ∧ c ≤ c0 + 3 * ns.length ∧ ∀ y ∈ x, h.length + 1 ≤ y.1)
      (fun o => match o with
        | none => l.length + 1
        | some (ns, c, G, x) => l.length - ns.length) none rfl trivial ?_
    rintro (_ | ⟨ns, c, G, x⟩) hP
    · have P := posAll (posN_le hp (show a ≤ c0 by omega) (show c0 + 14 ≤ a + 4000 by omega))
      have hl0 : (0 : Int) < l.length := by omega
      have hg := map_get Lim.pv (show 0 < l.length by omega)
      have cx : cutP (some 4) 0 (l[0].pv) = some l[0].pv := rfl
      generalize l[0] = y at *
      have e2 : h.length + 1 < h.length + 2 := by omega
      have e3 : max (h.length + 2) (h.length + 3 + 1) = h.length + 4 := by omega
      have eo : escOf (h.length + 1) (.own (h.length + 3) 1 0 1) = [(h.length + 1, h.length + 3 + 1)] := by unfold escOf; rw [if_pos (by simp [AV.top]), top_own]
      have e4 : id + 1 ≤ h.length + 4 := by omega
      have e5 : h.length + 1 ≤ h.length + 4 := by omega
      have e6 : h.length + 1 + 1 ≤ h.length + 4 := by omega
      have hmx : 1 ≤ maxSl := by unfold maxSl; omega
      have hnb : Nat.beq 2 3 = false := rfl
      have wk : IntKind.i64.wrap 1 = 1 := rfl
      have tr : ∀ (x0 : Esc) (e : List (Nat × AV)) (H : Heap), trunc (h.length + 2) x0 ⟨e, H, [(h.length + 1, h.length + 3 + 1)]⟩ = ⟨clean (h.length + 4) e, H.take (h.length + 4), (h.length + 1, h.length + 3 + 1) :: x0⟩ := fun x0 e H => by rw [trunc_one e2, e3]
      by_cases hf : nextV L (c0 + 1) 5 = 0
      · obtain ⟨v, hv⟩ : ∃ v, pickV [IntKind.i64.wrap (y.lo - 1), IntKind.i64.wrap (y.hi + 1), IntKind.i64.wrap (y.hi + 7)] L (c0 + 1 + 1) = v := ⟨_, rfl⟩
        by_cases b1 : v < y.lo
        · simp only [go_sem, hid, P, hl0, hg, cx, Lim.pv, hf, eo, hv, b1, hmx, hnb, tr, e4, e5, e6]
          refine fin (c0 + 1 + 1 + 1) [v] _ _ (by simp) (by omega) (by omega) (by simp)
        · by_cases b2 : y.hi < v
          · simp only [go_sem, hid, P, hl0, hg, cx, Lim.pv, hf, eo, hv, b1, b2, hmx, hnb, tr, e4, e5, e6]
            refine fin (c0 + 1 + 1 + 1) [v] _ _ (by simp) (by omega) (by omega) (by simp)
          · simp only [go_sem, hid, P, hl0, hg, cx, Lim.pv, hf, eo, hv, b1, b2, hmx, hnb, tr, e4, e5, e6, wk]
            exact ⟨some ([v], c0 + 1 + 1 + 1, _, _), rfl, ⟨by simp, by simpa using hl1, by omega, by simp; omega, by simp⟩, by show l.length - [v].length < l.length + 1; simp only [List.length_cons, List.length_nil]; omega⟩
      · obtain ⟨v, hv⟩ : ∃ v, pickV [y.lo, y.hi, IntKind.i64.wrap ((IntKind.i64.wrap (y.lo + y.hi)).tdiv 2), IntKind.i64.wrap ((IntKind.i64.wrap (y.lo + y.hi)).tdiv 2), IntKind.i64.wrap (y.lo + 1)] L c0 = v := ⟨_, rfl⟩
        by_cases b1 : v < y.lo
        · simp only [go_sem, hid, P, hl0, hg, cx, Lim.pv, hf, eo, hv, b1, hmx, hnb, tr, e4, e5, e6]
          refine fin (c0 + 1 + 1) [v] _ _ (by simp) (by omega) (by omega) (by simp)
        · by_cases b2 : y.hi < v
          · simp only [go_sem, hid, P, hl0, hg, cx, Lim.pv, hf, eo, hv, b1, b2, hmx, hnb, tr, e4, e5, e6]
            refine fin (c0 + 1 + 1) [v] _ _ (by simp) (by omega) (by omega) (by simp)
          · simp only [go_sem, hid, P, hl0, hg, cx, Lim.pv, hf, eo, hv, b1, b2, hmx, hnb, tr, e4, e5, e6, wk]
            exact ⟨some ([v], c0 + 1 + 1, _, _), rfl, ⟨by simp, by simpa using hl1, by omega, by simp; omega, by simp⟩, by show l.length - [v].length < l.length + 1; simp only [List.length_cons, List.length_nil]; omega⟩
    · obtain ⟨r1, r2, r3, r4, r5⟩ := hP
      rcases Nat.lt_or_ge ns.length l.length with hlt2 | hge2
      · have P := posAll (posN_le hp (show a ≤ c by omega) (show c + 14 ≤ a + 4000 by omega))
        have hg := map_get Lim.pv hlt2
        have cx : cutP (some 4) 0 (l[ns.length].pv) = some l[ns.length].pv := rfl
        generalize l[ns.length] = y at *
        have e2 : h.length + 1 < h.length + 4 := by omega
        have e3 : max (h.length + 4) (h.length + 3 + 1) = h.length + 4 := by omega
        have eo : escOf (h.length + 1) (.own (h.length + 3) (ns.length + 1) 0 (ns.length + 1)) = [(h.length + 1, h.length + 3 + 1)] := by unfold escOf; rw [if_pos (by simp [AV.top]), top_own]
        have e4 : id + 1 ≤ h.length + 4 := by omega
        have e5 : h.length + 1 ≤ h.length + 4 := by omega
        have e6 : h.length + 1 + 1 ≤ h.length + 4 := by omega
        have e7 : h.length + 3 + 1 ≤ h.length + 4 := by omega
        have e8 : h.length + 4 ≤ h.length + 4 := by omega
        have hmx : ns.length + 1 ≤ maxSl := by unfold maxSl; omega
        have hnb : Nat.beq 2 3 = false := rfl
        have wi : IntKind.i64.wrap ((ns.length : Int) + 1) = ((ns.length + 1 : Nat) : Int) := i64_wrap _ (by omega) (by omega)
        have tr : ∀ (x0 : Esc) (e : List (Nat × AV)) (H : Heap), trunc (h.length + 4) x0 ⟨e, H, [(h.length + 1, h.length + 3 + 1)]⟩ = ⟨clean (h.length + 4) e, H.take (h.length + 4), (h.length + 1, h.length + 3 + 1) :: x0⟩ := fun x0 e H => by rw [trunc_one e2, e3]
        by_cases hf : nextV L (c + 1) 5 = 0
        · obtain ⟨v, hv⟩ : ∃ v, pickV [IntKind.i64.wrap (y.lo - 1), IntKind.i64.wrap (y.hi + 1), IntKind.i64.wrap (y.hi + 7)] L (c + 1 + 1) = v := ⟨_, rfl⟩
          have ev : ns.map eI ++ [PV.int .i64 v] = (ns ++ [v]).map eI := by simp
          have el : (ns ++ [v]).length = ns.length + 1 := by simp
          have hx2 : ∀ z ∈ (h.length + 1, h.length + 3 + 1) :: x, h.length + 1 ≤ z.1 := fun z hz => by
            rcases List.mem_cons.1 hz with rfl | hz
            · exact Nat.le_refl _
            · exact r5 z hz
          by_cases b1 : v < y.lo
          · simp only [go_sem, hid, P, hlt2, hg, cx, Lim.pv, hf, eo, hv, b1, hmx, hnb, tr, e4, e5, e6, e7, e8]
            rw [ev, ← el]
            exact fin (c + 1 + 1 + 1) (ns ++ [v]) _ _ (by omega) (by omega) (by omega) hx2
          · by_cases b2 : y.hi < v
            · simp only [go_sem, hid, P, hlt2, hg, cx, Lim.pv, hf, eo, hv, b1, b2, hmx, hnb, tr, e4, e5, e6, e7, e8]
              rw [ev, ← el]
              exact fin (c + 1 + 1 + 1) (ns ++ [v]) _ _ (by omega) (by omega) (by omega) hx2
            · simp only [go_sem, hid, P, hlt2, hg, cx, Lim.pv, hf, eo, hv, b1, b2, hmx, hnb, tr, e4, e5, e6, e7, e8, wi]
              rw [ev]
              refine ⟨some (ns ++ [v], c + 1 + 1 + 1, G, (h.length + 1, h.length + 3 + 1) :: x), ?_, ⟨by omega, by omega, by omega, by rw [el]; omega, hx2⟩, by show l.length - (ns ++ [v]).length < l.length - ns.length; omega⟩
              simp only [el]
        · obtain ⟨v, hv⟩ : ∃ v, pickV [y.lo, y.hi, IntKind.i64.wrap ((IntKind.i64.wrap (y.lo + y.hi)).tdiv 2), IntKind.i64.wrap ((IntKind.i64.wrap (y.lo + y.hi)).tdiv 2), IntKind.i64.wrap (y.lo + 1)] L c = v := ⟨_, rfl⟩
          have ev : ns.map eI ++ [PV.int .i64 v] = (ns ++ [v]).map eI := by simp
          have el : (ns ++ [v]).length = ns.length + 1 := by simp
          have hx2 : ∀ z ∈ (h.length + 1, h.length + 3 + 1) :: x, h.length + 1 ≤ z.1 := fun z hz => by
            rcases List.mem_cons.1 hz with rfl | hz
            · exact Nat.le_refl _
            · exact r5 z hz
          by_cases b1 : v < y.lo
          · simp only [go_sem, hid, P, hlt2, hg, cx, Lim.pv, hf, eo, hv, b1, hmx, hnb, tr, e4, e5, e6, e7, e8]
            rw [ev, ← el]
            exact fin (c + 1 + 1) (ns ++ [v]) _ _ (by omega) (by omega) (by omega) hx2
          · by_cases b2 : y.hi < v
            · simp only [go_sem, hid, P, hlt2, hg, cx, Lim.pv, hf, eo, hv, b1, b2, hmx, hnb, tr, e4, e5, e6, e7, e8]
              rw [ev, ← el]
              exact fin (c + 1 + 1) (ns ++ [v]) _ _ (by omega) (by omega) (by omega) hx2
            · simp only [go_sem, hid, P, hlt2, hg, cx, Lim.pv, hf, eo, hv, b1, b2, hmx, hnb, tr, e4, e5, e6, e7, e8, wi]
              rw [ev]
              refine ⟨some (ns ++ [v], c + 1 + 1, G, (h.length + 1, h.length + 3 + 1) :: x), ?_, ⟨by omega, by omega, by omega, by rw [el]; omega, hx2⟩, by show l.length - (ns ++ [v]).length < l.length - ns.length; omega⟩
              simp only [el]
      · have hb2 : ¬ (ns.length < l.length) := by omega
        have e4 : id + 1 ≤ h.length + 4 := by omega
        have e5 : h.length + 1 ≤ h.length + 4 := by omega
        have e6 : h.length + 1 + 1 ≤ h.length + 4 := by omega
        simp only [go_sem, hb2, e4, e5, e6]
        exact fin c ns G x (by omega) (by omega) (by omega) r5
  · have en : rs.length = n := by omega
    have hb2 : ¬ (rs.length < n) := by omega
    have hh : (h.set id (strm L b) ++ [Obj.row (some 4) (rs.map Rec.pv) 0])[h.length]? = some (.row (some 4) (rs.map Rec.pv) 0) := by rw [List.getElem?_append_right (by simp)]; simp
    have st := fun K => stable_api_Record (h := h.set id (strm L b) ++ [Obj.row (some 4) (rs.map Rec.pv) 0]) (K := K) h.length (rs.map Rec.pv) rec_shps (by simp; omega) hh (g := f_scanmake_Stream_Records_1) (caps := []) (c := fun x y => recCmp (unRec x) (unRec y))
      (fun o x hx y hy K => by
        obtain ⟨p, _, rfl⟩ := List.mem_map.1 hx
        obtain ⟨q, _, rfl⟩ := List.mem_map.1 hy
        dsimp only
        rw [unRec_pv, unRec_pv]
        exact s_rec1 p q)
    have so := isort_perm (ltC fun x y => recCmp (unRec x) (unRec y)) (rs.map Rec.pv)
    have hsm : ∀ x ∈ isort (ltC fun x y => recCmp (unRec x) (unRec y)) (rs.map Rec.pv), ∃ r, RecOk r ∧ x = Rec.pv r := fun x hx => by
      obtain ⟨r, hr, rfl⟩ := List.mem_map.1 (isort_mem.1 hx)
      exact ⟨r, q2 r hr, rfl⟩
    obtain ⟨ss, s1, s2⟩ := recs_of hsm
    have hsl : ss.length = rs.length := by have := congrArg List.length s2; simp [isort_len] at this; omega
    simp only [List.length_map, s2] at st
    have hh2 : (h.set id (strm L b) ++ [Obj.row (some 4) (ss.map Rec.pv) 0])[h.length]? = some (.row (some 4) (ss.map Rec.pv) 0) := by rw [List.getElem?_append_right (by simp)]; simp
    have cp := fun K => CompactFunc_Record (h := h.set id (strm L b) ++ [Obj.row (some 4) (ss.map Rec.pv) 0]) (K := K) h.length (ss.map Rec.pv) rec_shps (by simp; omega) hh2 (g := f_scanmake_Stream_Records_2) (caps := []) (q := fun x y => sameAt (unRec x) (unRec y))
      (fun o x hx y hy K => by
        obtain ⟨p, _, rfl⟩ := List.mem_map.1 hx
        obtain ⟨q, _, rfl⟩ := List.mem_map.1 hy
        dsimp only
        rw [unRec_pv, unRec_pv]
        exact s_rec2 p q)
    have hcm : ∀ x ∈ compactL (fun x y => sameAt (unRec x) (unRec y)) (ss.map Rec.pv), ∃ r, RecOk r ∧ x = Rec.pv r := fun x hx => by
      obtain ⟨r, hr, rfl⟩ := List.mem_map.1 (compactL_mem hx)
      exact ⟨r, s1 r hr, rfl⟩
    obtain ⟨cs, c1, c2⟩ := recs_of hcm
    have hcl : cs.length ≤ ss.length := by
      have h1 := congrArg List.length c2
      have h2 := compactL_len (fun x y => sameAt (unRec x) (unRec y)) (ss.map Rec.pv)
      simp at h1 h2; omega
    simp only [List.length_map, c2, hsl] at cp
    have e0 : ∀ o, (h.set id (strm L b) ++ [Obj.row (some 4) (rs.map Rec.pv) 0]).set h.length o = h.set id (strm L b) ++ [o] := fun o => by rw [List.set_append_right _ _ (by simp)]; simp
    have e1 : ∀ o, (h.set id (strm L b) ++ [Obj.row (some 4) (ss.map Rec.pv) 0]).set h.length o = h.set id (strm L b) ++ [o] := fun o => by rw [List.set_append_right _ _ (by simp)]; simp
    simp only [e0] at st
    simp only [e1] at cp
    have rl : (cs.map Rec.pv ++ List.replicate (rs.length - cs.length) (PV.agg [.str [], .int .i64 0, .str [], .sl none []])).length = rs.length := by simp; omega
    have hw : win (cs.map Rec.pv ++ List.replicate (rs.length - cs.length) (PV.agg [.str [], .int .i64 0, .str [], .sl none []])) 0 cs.length = cs.map Rec.pv := by simp [win]
    have hcr : cs.length ≤ rs.length := by omega
    generalize cs.map Rec.pv ++ List.replicate (rs.length - cs.length) (PV.agg [.str [], .int .i64 0, .str [], .sl none []]) = row at *
    simp only [go_sem, hb2, ↓st, st, ↓cp, cp, rl, hw, hcr]
    exact ⟨b, ⟨q3, by omega, cs, by omega, c1, rfl⟩, rfl⟩
end Go.Am
end
section
/- Lengths of numbers in bits, and comparisons of plain values. -/
open Go
namespace Go.Am
variable {h : Heap} {K : Post}
set_option maxRecDepth 20000
theorem tab_get (k : Nat) (hk : k < 256) : ∃ b, ([0, 1, 2, 2, 3, 3, 3, 3, 4, 4, 4, 4, 4, 4, 4, 4, 5, 5, 5, 5, 5, 5, 5, 5, 5, 5, 5, 5, 5, 5, 5, 5, 6, 6, 6, 6, 6, 6, 6, 6, 6, 6, 6, 6, 6, 6, 6, 6, 6, 6, 6, 6, 6, 6, 6, 6, 6, 6, 6, 6, 6, 6, 6, 6, 7, 7, 7, 7, 7, 7, 7, 7, 7, 7, 7, 7, 7, 7, 7, 7, 7, 7, 7, 7, 7, 7, 7, 7, 7, 7, 7, 7, 7, 7, 7, 7, 7, 7, 7, 7, 7, 7, 7, 7, 7, 7, 7, 7, 7, 7, 7, 7, 7, 7, 7, 7, 7, 7, 7, 7, 7, 7, 7, 7, 7, 7, 7, 7, 8, 8, 8, 8, 8, 8, 8, 8, 8, 8, 8, 8, 8, 8, 8, 8, 8, 8, 8, 8, 8, 8, 8, 8, 8, 8, 8, 8, 8, 8, 8, 8, 8, 8, 8, 8, 8, 8, 8, 8, 8, 8, 8, 8, 8, 8, 8, 8, 8, 8, 8, 8, 8, 8, 8, 8, 8, 8, 8, 8, 8, 8, 8, 8, 8, 8, 8, 8, 8, 8, 8, 8, 8, 8, 8, 8, 8, 8, 8, 8, 8, 8, 8, 8, 8, 8, 8, 8, 8, 8, 8, 8, 8, 8, 8, 8, 8, 8, 8, 8, 8, 8, 8, 8, 8, 8, 8, 8, 8, 8, 8, 8, 8, 8, 8, 8, 8, 8, 8, 8, 8, 8, 8, 8, 8, 8, 8, 8] : List UInt8)[k]? = some b := ⟨_, List.getElem?_eq_getElem (Nat.lt_of_lt_of_eq hk (by kernel_rfl))⟩
theorem len_any (x : Int) (h0 : 0 ≤ x) (h1 : x < 256) : ∃ m : Int, ∀ (h : Heap) (K : Post), ACall X f_math_bits_Len [AU x] h K = K (AI m) h [] := by
  obtain ⟨b, hb⟩ := tab_get x.toNat (by omega)
  refine ⟨IntKind.i64.wrap (0 + IntKind.i64.wrap b.toNat), fun h K => ?_⟩
  have w : IntKind.u8.wrap x = x := by simp [IntKind.wrap, IntKind.bits, IntKind.signed]; omega
  have b1 : ¬ (4294967296 ≤ x) := by omega
  have b2 : ¬ (65536 ≤ x) := by omega
  have b3 : ¬ (256 ≤ x) := by omega
  have hn := natOf_int (k := .u8) h0
  have key : ∀ (h : Heap) (K : Post), ACall X f_math_bits_Len64 [AU x] h K = K (AI (IntKind.i64.wrap (0 + IntKind.i64.wrap b.toNat))) h [] := by
    intro h K
    refine rule ?_
    rw [c_math_bits_Len64 rfl]
    simp only [d_math_bits_Len64, go_sem, b1, b2, b3, w, hn, hb]
  refine rule ?_
  rw [c_math_bits_Len rfl]
  simp only [d_math_bits_Len, go_sem, key]
theorem s_Less (a b : Int) : ACall X f_cmp_Less_int [AI a, AI b] h K = K (AB (decide (a < b))) h [] := by
  refine rule ?_
  rw [c_cmp_Less_int rfl]
  simp only [d_cmp_Less_int, go_sem, s_isNaN]
def ltI (a b : Int) : Bool := decide (a < b)
def ltP (a b : PV) : Bool := match a, b with
  | .int _ a, .int _ b => decide (a < b)
  | _, _ => false
theorem ltP_eI (a b : Int) : ltP (eI a) (eI b) = ltI a b := rfl
theorem less_eI {l : List Int} : ∀ x ∈ l.map eI, ∀ y ∈ l.map eI, ∀ (h : Heap) (K : Post), ACall X f_cmp_Less_int [.p x, .p y] h K = K (AB (ltP x y)) h [] := by
  intro x hx y hy h K
  obtain ⟨a, _, rfl⟩ := List.mem_map.1 hx
  obtain ⟨b, _, rfl⟩ := List.mem_map.1 hy
  exact s_Less a b
theorem shps_eI {l : List Int} : shps none (l.map eI) := fun x hx => by obtain ⟨n, _, rfl⟩ := List.mem_map.1 hx; rfl
end Go.Am
end
section
/- Sorting numbers: printed by program. -/
open Go
set_option linter.unusedSimpArgs false
namespace Go.Am
attribute [-go_sem] PV.cells splice
variable {h : Heap} {K : Post}
theorem insOrd_int (id n : Nat) (l tl : List PV) (hn : n = l.length + tl.length) (hs : shps none l) (hl : l.length ≤ 1000) (hh : h[id]? = some (.row none (l ++ tl) 0)) {lt : PV → PV → Bool} (hc : ∀ x ∈ l, ∀ y ∈ l, ∀ (h : Heap) (K : Post), ACall X f_cmp_Less_int [.p x, .p y] h K = K (AB (lt x y)) h []) :
    ACall X f_slices_insertionSortOrdered_int [.own id n 0 l.length, AI 0, AI l.length] h K = K (.tup []) (h.set id (.row none (isort lt l ++ tl) 0)) [] := by
  refine rule ?_
  rw [c_slices_insertionSortOrdered_int]
  have hid := get_lt hh
  have hst : ∀ o, (h.set id o)[id]? = some o := fun o => set_get' hid
  simp only [d_slices_insertionSortOrdered_int, go_sem, show IntKind.i64.wrap 1 = 1 from rfl]
  refine N_loop (fun i : Nat => ⟨[(0, .own id n 0 l.length), (1, AI 0), (2, AI l.length), (6, AI i)], h.set id (.row none ((isortR lt (l.take i)).reverse ++ (l.drop i ++ tl)) 0), []⟩) (fun i => 1 ≤ i ∧ (i ≤ l.length ∨ i = 1)) (fun i => l.length - i) 1 ?_ (by simp) ?_
  · have : (isortR lt (l.take 1)).reverse ++ (l.drop 1 ++ tl) = l ++ tl := by cases l <;> rfl
    rw [this, set_self hh]; rfl
  rintro i ⟨hi1, hi2⟩
  rcases Nat.lt_or_ge i l.length with hlt | hge
  · simp only [go_sem, hlt]
    have hxl : l[i] ∈ l := List.getElem_mem hlt
    generalize hx : l[i] = x at *
    generalize hR : isortR lt (l.take i) = R
    have hRl : R.length = i := by rw [← hR, isortR_len]; simp; omega
    have hRm : ∀ z ∈ R, z ∈ l := fun z hz => List.mem_of_mem_take ((isortR_perm lt (l.take i)).mem_iff.1 (by rw [hR]; exact hz))
    have hdrop : l.drop i = x :: l.drop (i + 1) := by rw [← hx]; exact List.drop_eq_getElem_cons hlt
    have hnext : isortR lt (l.take (i + 1)) = insR lt x R := by rw [isortR_take_succ _ _ _ hlt, hR, hx]
    refine N_loop (fun t : List PV × List PV => ⟨[(0, .own id n 0 l.length), (1, AI 0), (2, AI l.length), (6, AI i), (7, AI t.1.length)], h.set id (.row none (t.1.reverse ++ x :: t.2) 0), []⟩)
      (fun t => ∃ B, R = B ++ t.1 ∧ t.2 = B.reverse ++ (l.drop (i + 1) ++ tl) ∧ ∀ b ∈ B, lt x b = true) (fun t => t.1.length) (R, l.drop (i + 1) ++ tl) (by rw [hdrop, hRl]; rfl) ⟨[], rfl, rfl, by simp⟩ ?_
    rintro ⟨A, C⟩ ⟨B, q1, q2, q3⟩
    dsimp only at q1 q2 q3
    have hlen : (A.reverse ++ x :: C).length = n := by
      have : R.length = B.length + A.length := by rw [q1]; simp
      rw [q2]; simp; omega
    have hBA : B.length + A.length < l.length := by
      have : R.length = B.length + A.length := by rw [q1]; simp
      omega
    have hln : l.length ≤ n := by omega
    have w1 : IntKind.i64.wrap ((i : Int) + 1) = ((i + 1 : Nat) : Int) := i64_wrap _ (by omega) (by omega)
    cases A with
    | nil =>
      have hd : insR lt x R = B ++ [x] := by rw [q1]; exact ins_done lt x [] B q3 (fun y r h => by cases h)
      simp only [go_sem, Int.lt_irrefl, w1]
      refine ⟨i + 1, ?_, by omega, by omega⟩
      simp only [hnext, hd, q2, List.reverse_append, List.reverse_nil, List.nil_append, List.reverse_cons, List.append_assoc, List.cons_append]
    | cons y A =>
      have hyl : y ∈ l := hRm y (by rw [q1]; simp)
      have g1 := ins_get (y :: A) C x
      have g2 := ins_get1 A C x y
      have sw := ins_swap A C x y
      simp only [List.length_cons] at hBA
      generalize hrow : (y :: A).reverse ++ x :: C = row at *
      simp only [List.length_cons] at g1
      have w2 : IntKind.i64.wrap (((A.length + 1 : Nat) : Int) - 1) = (A.length : Int) := by rw [i64_wrap _ (by omega) (by omega)]; omega
      have p1 : (0 : Int) < ((A.length + 1 : Nat) : Int) := by omega
      have b1 : A.length + 1 < l.length := by omega
      have b2 : A.length < l.length := by omega
      have cx := shp_cut (hs x hxl)
      have cy := shp_cut (hs y hyl)
      have hcc := fun h K => hc x hxl y hyl h K
      cases hxy : lt x y with
      | false =>
        have hd : insR lt x R = B ++ x :: y :: A := by rw [q1]; exact ins_done lt x (y :: A) B q3 (fun z r h => by cases h; exact hxy)
        simp only [go_sem, hst, p1, hlen, g1, g2, w2, b1, b2, hln, cx, cy, hcc, hxy, w1]
        refine ⟨i + 1, ?_, by omega, by omega⟩
        simp only [hnext, hd, ← hrow, q2, List.reverse_append, List.reverse_cons, List.append_assoc, List.cons_append, List.nil_append]
      | true =>
        have g3 : (row.set (A.length + 1) y)[A.length]? = some y := by rw [List.getElem?_set_ne (by omega), g2]
        have lx := shp_len (hs x hxl)
        have ly := shp_len (hs y hyl)
        have sx := shp_all (hs x hxl)
        have sy := shp_all (hs y hyl)
        simp only [shSize] at lx ly
        have t1 := fun i xs h1 => shp_st (hs x hxl) (hs y hyl) id i 0 xs h1
        have t2 := fun i xs h1 => shp_st (hs y hyl) (hs x hxl) id i 0 xs h1
        simp only [go_sem, hst, p1, hlen, g1, g2, g3, w2, b1, b2, hln, cx, cy, hcc, hxy, lx, ly, sx, sy, t1, t2, sw]
        refine ⟨(A, y :: C), rfl, ⟨B ++ [y], by simp [q1], by simp [q2], fun b hb => ?_⟩, by simp⟩
        rw [List.mem_append, List.mem_singleton] at hb
        rcases hb with hb | rfl
        · exact q3 b hb
        · exact hxy
  · have hge' : ¬ i < l.length := by omega
    have e1 : l.take i = l := List.take_of_length_le hge
    have e2 : l.drop i = [] := List.drop_of_length_le hge
    simp only [go_sem, hge', e1, e2]
    rfl
/-- Sorting at most 12 values of the front of a row. -/
theorem Sort_int (id n : Nat) (l tl : List PV) (hn : n = l.length + tl.length) (hs : shps none l) (hl : l.length ≤ 12) (hh : h[id]? = some (.row none (l ++ tl) 0)) {lt : PV → PV → Bool} (hc : ∀ x ∈ l, ∀ y ∈ l, ∀ (h : Heap) (K : Post), ACall X f_cmp_Less_int [.p x, .p y] h K = K (AB (lt x y)) h []) :
    ACall X f_slices_Sort_int_int [.own id n 0 l.length] h K = K (.tup []) (h.set id (.row none (isort lt l ++ tl) 0)) [] := by
  refine rule ?_
  rw [c_slices_Sort_int_int]
  have w0 : IntKind.u64.wrap (l.length : Int) = l.length := u64_wrap _ (by omega) (by omega)
  obtain ⟨m, hm⟩ := len_any (l.length : Int) (by omega) (by omega)
  have is := fun h' (hq : h' = h) K => insOrd_int (h := h) (K := K) id n l tl hn hs (by omega) hh hc
  have key : ∀ K : Post, ACall X f_slices_pdqsortOrdered_int [.own id n 0 l.length, AI 0, AI l.length, AI m] h K = K (.tup []) (h.set id (.row none (isort lt l ++ tl) 0)) [] := by
    intro K
    refine rule ?_
    rw [c_slices_pdqsortOrdered_int]
    simp only [d_slices_pdqsortOrdered_int, go_sem]
    refine N_loop (fun _ : Unit => ⟨[(0, .own id n 0 l.length), (1, AI 0), (2, AI l.length), (3, AI m), (8, AB true), (9, AB true)], h, []⟩) (fun _ => True) (fun _ => 0) () rfl trivial ?_
    intro _ _
    have w1 : IntKind.i64.wrap ((l.length : Int) - 0) = l.length := by rw [i64_wrap _ (by omega) (by omega)]; omega
    have b1 : ((l.length : Int) ≤ 12) := by omega
    simp only [go_sem, w1, b1, is _ rfl]
  simp only [d_slices_Sort_int_int, go_sem, w0, hm, key]
end Go.Am
end
section
/- Deleting values: printed by program. -/
open Go
set_option linter.unusedSimpArgs false
namespace Go.Am
attribute [-go_sem] PV.cells splice
variable {h : Heap} {K : Post}
theorem DeleteFunc_int (id : Nat) (l : List PV) (hs : shps none l) (hl : l.length ≤ 100000) (hh : h[id]? = some (.row none l 0)) {g : Nat} {caps : List AV} {p : PV → Bool} (hp : TellsS g caps p l id h) :
    ACall X f_slices_DeleteFunc_int_int [.own id l.length 0 l.length, .fn g caps] h K = K (.own id l.length 0 (l.filter fun x => !p x).length) (h.set id (.row none ((l.filter fun x => !p x) ++ List.replicate (l.length - (l.filter fun x => !p x).length) (PV.int .i64 0)) 0)) [] := by
  refine rule ?_
  rw [c_slices_DeleteFunc_int_int]
  have hid := get_lt hh
  have hst : ∀ o, (h.set id o)[id]? = some o := fun o => set_get' hid
  have hi := fun K => IndexFunc_int (h := h) (K := K) (shows_full hs hh) (fun x hx K => by have := hp (.row none l 0) x hx K; rwa [set_self hh] at this) (by omega)
  simp only [d_slices_DeleteFunc_int_int, go_sem, hi]
  by_cases hf : l.findIdx p < l.length
  · have e1 : idxP p l = (l.findIdx p : Int) := by simp [idxP, hf]
    have e2 : ¬ ((l.findIdx p : Int) = -1) := by omega
    have w0 : IntKind.i64.wrap ((l.findIdx p : Int) + 1) = ((l.findIdx p + 1 : Nat) : Int) := i64_wrap _ (by omega) (by omega)
    simp only [go_sem, e1, e2, w0]
    have hF0 : ((l.take (l.findIdx p + 1)).filter fun x => !p x) = l.take (l.findIdx p) := by
      rw [List.take_succ_eq_append_getElem hf, List.filter_append]
      have q1 : (l.take (l.findIdx p)).filter (fun x => !p x) = l.take (l.findIdx p) := by
        rw [List.filter_eq_self]
        intro x hx
        obtain ⟨j, hj, rfl⟩ := List.mem_take_iff_getElem.1 hx
        have := List.not_of_lt_findIdx (show j < l.findIdx p by omega)
        simpa using this
      rw [q1]
      have : p l[l.findIdx p] = true := List.findIdx_getElem (w := hf)
      simp [this]
    refine N_loop (fun t : List PV × Nat × Nat => ⟨[(0, .own id l.length 0 l.length), (1, .fn g caps), (5, AI t.2.1), (6, AI t.2.2)], h.set id (.row none t.1 0), []⟩)
      (fun t => t.1.length = l.length ∧ shps none t.1 ∧ t.2.1 < t.2.2 ∧ t.2.2 ≤ l.length ∧ t.1.take t.2.1 = ((l.take t.2.2).filter fun x => !p x) ∧ t.1.drop t.2.2 = l.drop t.2.2) (fun t => l.length - t.2.2)
      (l, l.findIdx p, l.findIdx p + 1) (by rw [set_self hh]) ⟨rfl, hs, by simp, hf, by rw [hF0], rfl⟩ ?_
    rintro ⟨row, i, j⟩ ⟨r1, r2, r3, r4, r5, r6⟩
    dsimp only at r1 r2 r3 r4 r5 r6
    have w1 : IntKind.i64.wrap ((j : Int) + 1) = ((j + 1 : Nat) : Int) := i64_wrap _ (by omega) (by omega)
    have w2 : IntKind.i64.wrap ((i : Int) + 1) = ((i + 1 : Nat) : Int) := i64_wrap _ (by omega) (by omega)
    rcases Nat.lt_or_ge j l.length with hlt | hge
    · have g1 : row[j]? = some l[j] := by
        have := congrArg (·[0]?) r6
        simp only [List.getElem?_drop, Nat.add_zero] at this
        rw [this, List.getElem?_eq_getElem hlt]
      have hsj := shps_get hs hlt
      have cx := shp_cut hsj
      have hil : i < l.length := by omega
      have g2 : row[i]? = some row[i] := List.getElem?_eq_getElem (by omega)
      have hsi := shps_get r2 (show i < row.length by omega)
      have t1 := fun xs h1 => shp_st hsj hsi id i 0 xs h1
      have lx := shp_len hsj
      have sx := shp_all hsj
      simp only [shSize] at lx
      have hpj := fun o K => hp o _ (List.getElem_mem hlt) K
      cases hpx : p l[j] with
      | true =>
        simp only [go_sem, hst, r1, hlt, g1, cx, hpj, hpx, w1]
        refine ⟨(row, i, j + 1), rfl, ⟨r1, r2, by dsimp only; omega, by dsimp only; omega, ?_, ?_⟩, by dsimp only; omega⟩
        · rw [List.take_succ_eq_append_getElem hlt, List.filter_append]
          simp [hpx, r5]
        · rw [← List.drop_drop, r6, List.drop_drop]
      | false =>
        simp only [go_sem, hst, r1, hlt, hil, g1, g2, cx, hpj, hpx, w1, w2, lx, sx, t1]
        refine ⟨(row.set i l[j], i + 1, j + 1), rfl, ⟨by simpa using r1, fun x hx => ?_, by dsimp only; omega, by dsimp only; omega, ?_, ?_⟩, by dsimp only; omega⟩
        · rcases List.mem_or_eq_of_mem_set hx with hx | rfl
          · exact r2 x hx
          · exact hsj
        · dsimp only
          rw [List.take_succ_eq_append_getElem hlt, List.filter_append, ← r5, List.take_succ_eq_append_getElem (by simp; omega)]
          simp [hpx, List.take_set_of_le]
        · dsimp only
          rw [List.drop_set_of_lt (by omega), ← List.drop_drop, r6, List.drop_drop]
    · have ej : j = l.length := by omega
      subst ej
      rw [List.take_length] at r5
      have hm : (l.filter fun x => !p x).length = i := by rw [← r5]; simp; omega
      have hil : i ≤ l.length := by omega
      have e3 : l.length - i + i = l.length := by omega
      have sp : splice row i (List.replicate (l.length - i) (PV.int .i64 0)) = (l.filter fun x => !p x) ++ List.replicate (l.length - i) (PV.int .i64 0) := by
        unfold splice
        rw [r5, List.length_replicate, List.drop_of_length_le (by omega), List.append_nil]
      have rl : ((l.filter fun x => !p x) ++ List.replicate (l.length - i) (PV.int .i64 0)).length = l.length := by simp only [List.length_append, hm, List.length_replicate]; omega
      rw [hm]
      generalize (l.filter fun x => !p x) ++ List.replicate (l.length - i) (PV.int .i64 0) = row' at *
      have hb : ¬ h.length ≤ id := by omega
      have hb2 : max h.length (id + 1) = h.length := by omega
      have hb3 : id + 1 ≤ h.length := hid
      simp only [go_sem, Nat.lt_irrefl, hst, r1, rl, hil, sp, show i + (l.length - i) = l.length by omega, hb, hb2, hb3]
  · have e1 : idxP p l = -1 := by simp [idxP, hf]
    have hF : (l.filter fun x => !p x) = l := by
      rw [List.filter_eq_self]
      intro x hx
      cases hpx : p x with
      | false => rfl
      | true => exact absurd (List.findIdx_lt_length_of_exists ⟨x, hx, hpx⟩) hf
    have hb : ¬ h.length ≤ id := by omega
    have hb2 : max h.length (id + 1) = h.length := by omega
    have hb3 : id + 1 ≤ h.length := hid
    simp only [go_sem, e1, hF, Nat.sub_self, List.replicate_zero, List.append_nil, hb, hb2, hb3]
    rw [set_self hh]
end Go.Am
end
section
/- Plain lists: the narrowest window of a sorted list, and the narrowest of all pairs that leave few values outside. -/
namespace Go.Am
def better (acc : Option (Int × Int)) (p : Int × Int) : Option (Int × Int) := match acc with
  | none => some p
  | some q => if p.2 - p.1 < q.2 - q.1 then some p else some q
def fstMin (l : List (Int × Int)) : Option (Int × Int) := l.foldl better none
theorem fstMin_aux : ∀ (l : List (Int × Int)) (q : Int × Int), ∃ x, l.foldl better (some q) = some x ∧
    ((x = q ∧ ∀ y ∈ l, q.2 - q.1 ≤ y.2 - y.1) ∨ (∃ a b, l = a ++ x :: b ∧ x.2 - x.1 < q.2 - q.1 ∧ (∀ y ∈ a, x.2 - x.1 < y.2 - y.1) ∧ ∀ y ∈ b, x.2 - x.1 ≤ y.2 - y.1))
  | [], q => ⟨q, rfl, .inl ⟨rfl, fun y hy => by cases hy⟩⟩
  | p :: l, q => by
    simp only [List.foldl_cons, better]
    by_cases h : p.2 - p.1 < q.2 - q.1
    · rw [if_pos h]
      obtain ⟨x, e, h1 | ⟨a, b, e1, h1, h2, h3⟩⟩ := fstMin_aux l p
      · obtain ⟨rfl, h2⟩ := h1
        exact ⟨x, e, .inr ⟨[], l, rfl, h, fun y hy => (by cases hy), h2⟩⟩
      · refine ⟨x, e, .inr ⟨p :: a, b, by rw [e1]; rfl, by omega, fun y hy => ?_, h3⟩⟩
        rcases List.mem_cons.1 hy with rfl | hy
        · exact h1
        · exact h2 y hy
    · rw [if_neg h]
      obtain ⟨x, e, h1 | ⟨a, b, e1, h1, h2, h3⟩⟩ := fstMin_aux l q
      · obtain ⟨rfl, h2⟩ := h1
        refine ⟨x, e, .inl ⟨rfl, fun y hy => ?_⟩⟩
        rcases List.mem_cons.1 hy with rfl | hy
        · omega
        · exact h2 y hy
      · refine ⟨x, e, .inr ⟨p :: a, b, by rw [e1]; rfl, h1, fun y hy => ?_, h3⟩⟩
        rcases List.mem_cons.1 hy with rfl | hy
        · omega
        · exact h2 y hy
theorem fstMin_spec {l : List (Int × Int)} (hl : l ≠ []) : ∃ x a b, fstMin l = some x ∧ l = a ++ x :: b ∧ (∀ y ∈ a, x.2 - x.1 < y.2 - y.1) ∧ ∀ y ∈ b, x.2 - x.1 ≤ y.2 - y.1 := by
  cases l with
  | nil => exact absurd rfl hl
  | cons q l =>
    unfold fstMin
    simp only [List.foldl_cons, better]
    obtain ⟨x, e, h1 | ⟨a, b, e1, h1, h2, h3⟩⟩ := fstMin_aux l q
    · obtain ⟨rfl, h2⟩ := h1
      exact ⟨x, [], l, e, rfl, fun y hy => (by cases hy), h2⟩
    · refine ⟨x, q :: a, b, e, by rw [e1]; rfl, fun y hy => ?_, h3⟩
      rcases List.mem_cons.1 hy with rfl | hy
      · exact h1
      · exact h2 y hy
theorem fstMin_same {P Q : List (Int × Int)} (hQ : Q ≠ []) (sP : P.Pairwise fun a b => a.1 ≤ b.1) (sQ : Q.Pairwise fun a b => a.1 ≤ b.1)
    (h1 : ∀ q ∈ Q, q ∈ P) (h2 : ∀ p ∈ P, ∃ q ∈ Q, q.1 = p.1 ∧ q.2 ≤ p.2) : fstMin P = fstMin Q := by
  obtain ⟨y, c, d, ey, eQ, y1, y2⟩ := fstMin_spec hQ
  have hyQ : y ∈ Q := by rw [eQ]; simp
  have hyP := h1 y hyQ
  have hP : P ≠ [] := fun h => by rw [h] at hyP; cases hyP
  obtain ⟨x, a, b, ex, eP, x1, x2⟩ := fstMin_spec hP
  have hxP : x ∈ P := by rw [eP]; simp
  obtain ⟨q, hqQ, q1, q2⟩ := h2 x hxP
  have minQ : ∀ z ∈ Q, y.2 - y.1 ≤ z.2 - z.1 := fun z hz => by
    rw [eQ, List.mem_append, List.mem_cons] at hz
    rcases hz with hz | rfl | hz
    · have := y1 z hz; omega
    · omega
    · exact y2 z hz
  have minP : ∀ z ∈ P, x.2 - x.1 ≤ z.2 - z.1 := fun z hz => by
    rw [eP, List.mem_append, List.mem_cons] at hz
    rcases hz with hz | rfl | hz
    · have := x1 z hz; omega
    · omega
    · exact x2 z hz
  have w1 := minP y hyP
  have w2 := minQ q hqQ
  have lex : x.1 ≤ y.1 := by
    rw [eP, List.pairwise_append] at sP
    rw [eP, List.mem_append, List.mem_cons] at hyP
    rcases hyP with hz | rfl | hz
    · have := x1 y hz; omega
    · omega
    · exact (List.pairwise_cons.1 sP.2.1).1 y hz
  have ley : y.1 ≤ q.1 := by
    rw [eQ, List.pairwise_append] at sQ
    rw [eQ, List.mem_append, List.mem_cons] at hqQ
    rcases hqQ with hz | rfl | hz
    · have := y1 q hz; omega
    · omega
    · exact (List.pairwise_cons.1 sQ.2.1).1 q hz
  rw [ex, ey]
  congr 1
  exact Prod.ext (by omega) (by omega)
theorem sorted_idx : ∀ {g : List Int}, g.Pairwise (· ≤ ·) → ∀ (v : Int) (k : Nat) (hk : k < g.length), g[k] ≤ v ↔ k < g.countP (fun x => decide (x ≤ v))
  | [], _, v, k, hk => absurd hk (by simp)
  | x :: r, hs, v, k, hk => by
    rw [List.pairwise_cons] at hs
    rw [List.countP_cons]
    by_cases hx : x ≤ v
    · rw [if_pos (by simpa using hx)]
      cases k with
      | zero => simp only [List.getElem_cons_zero]; omega
      | succ k =>
        simp only [List.getElem_cons_succ]
        rw [sorted_idx hs.2 v k (by simpa using hk)]; omega
    · rw [if_neg (by simpa using hx)]
      have h0 : r.countP (fun x => decide (x ≤ v)) = 0 := by
        rw [List.countP_eq_zero]
        intro y hy
        have := hs.1 y hy
        simp; omega
      rw [h0]
      cases k with
      | zero => simp only [List.getElem_cons_zero]; omega
      | succ k =>
        have := hs.1 _ (List.getElem_mem (show k < r.length by simpa using hk))
        simp only [List.getElem_cons_succ]; omega
def outN (g : List Int) (u v : Int) : Nat := g.countP fun n => !(decide (u ≤ n) && decide (n ≤ v))
def pairsAt (g : List Int) (most : Int) (i : Nat) : List (Int × Int) := ((g.drop i).map fun v => (g.getD i 0, v)).filter fun p => decide ((outN g p.1 p.2 : Int) ≤ most)
def pairs (g : List Int) (most : Int) : List (Int × Int) := (List.range g.length).flatMap (pairsAt g most)
def wins (g : List Int) (m : Nat) : List (Int × Int) := (List.range (g.length - m + 1)).map fun i => (g.getD i 0, g.getD (i + m - 1) 0)
theorem getD_le {g : List Int} (hs : g.Pairwise (· ≤ ·)) {i j : Nat} (hij : i ≤ j) (hj : j < g.length) : g.getD i 0 ≤ g.getD j 0 := by
  rw [List.getD_eq_getElem?_getD, List.getD_eq_getElem?_getD, List.getElem?_eq_getElem (by omega), List.getElem?_eq_getElem hj]
  simp only [Option.getD_some]
  rcases Nat.lt_or_eq_of_le hij with h | h
  · exact List.pairwise_iff_getElem.1 hs i j (by omega) hj h
  · subst h; exact Int.le_refl _
theorem cnt_split (g : List Int) (u v : Int) (huv : u ≤ v) : g.countP (fun x => decide (x ≤ v)) + outN g u v = g.length + g.countP (fun x => decide (x ≤ u - 1)) := by
  unfold outN
  induction g with
  | nil => rfl
  | cons x r ih =>
    simp only [List.countP_cons, List.length_cons]
    by_cases h1 : x ≤ u - 1
    · rw [if_pos (by simp; omega), if_pos (by simp; omega), if_pos (by simp; omega)]; omega
    · by_cases h2 : x ≤ v
      · rw [if_pos (by simp; omega), if_neg (by simp; omega), if_neg (by simp; omega)]; omega
      · rw [if_neg (by simp; omega), if_pos (by simp; omega), if_neg (by simp; omega)]; omega
theorem tight_same {g : List Int} (hs : g.Pairwise (· ≤ ·)) (hg : g ≠ []) {most : Int} {m : Nat} (hm0 : 0 ≤ most) (hm : (m : Int) = max 1 (g.length - most)) : fstMin (pairs g most) = fstMin (wins g m) := by
  have hl : 0 < g.length := List.length_pos_iff.2 hg
  have hm1 : 1 ≤ m := by omega
  have hm2 : m ≤ g.length := by omega
  have gd : ∀ {k : Nat} (hk : k < g.length), g.getD k 0 = g[k] := fun {k} hk => by
    rw [List.getD_eq_getElem?_getD, List.getElem?_eq_getElem hk]; rfl
  refine fstMin_same ?_ ?_ ?_ ?_ ?_
  · unfold wins
    intro h
    have := congrArg List.length h
    simp at this
  · unfold pairs
    rw [List.pairwise_flatMap]
    constructor
    · intro i hi
      refine List.Pairwise.filter _ ?_
      rw [List.pairwise_map]
      exact List.pairwise_of_forall (fun _ _ => Int.le_refl _)
    · refine List.pairwise_lt_range.imp_of_mem (fun {i j} hi hj hij x hx y hy => ?_)
      rw [List.mem_range] at hj
      obtain ⟨v, _, rfl⟩ := List.mem_map.1 ((List.mem_filter.1 hx).1)
      obtain ⟨v', _, rfl⟩ := List.mem_map.1 ((List.mem_filter.1 hy).1)
      exact getD_le hs (by omega) hj
  · unfold wins
    rw [List.pairwise_map]
    refine List.pairwise_lt_range.imp_of_mem (fun {i j} hi hj hij => ?_)
    rw [List.mem_range] at hj
    exact getD_le hs (by omega) (by omega)
  · intro q hq
    obtain ⟨i, hi, rfl⟩ := List.mem_map.1 hq
    rw [List.mem_range] at hi
    have hj : i + m - 1 < g.length := by omega
    unfold pairs
    rw [List.mem_flatMap]
    refine ⟨i, by rw [List.mem_range]; omega, ?_⟩
    unfold pairsAt
    rw [List.mem_filter, List.mem_map]
    refine ⟨⟨g.getD (i + m - 1) 0, ?_, rfl⟩, ?_⟩
    · rw [gd hj, List.mem_drop_iff_getElem]
      exact ⟨m - 1, by omega, by congr 1; omega⟩
    · have le := getD_le hs (show i ≤ i + m - 1 by omega) hj
      have c := cnt_split g _ _ le
      have k1 := (sorted_idx hs (g.getD (i + m - 1) 0) (i + m - 1) hj).1 (by rw [gd hj]; exact Int.le_refl _)
      have k2 : g.countP (fun x => decide (x ≤ g.getD i 0 - 1)) ≤ i := by
        rw [← Nat.not_lt, ← sorted_idx hs _ i (by omega), gd (show i < g.length by omega)]; omega
      rw [decide_eq_true_eq]
      dsimp only
      omega
  · intro p hp
    unfold pairs at hp
    rw [List.mem_flatMap] at hp
    obtain ⟨i, hi, hp⟩ := hp
    rw [List.mem_range] at hi
    unfold pairsAt at hp
    rw [List.mem_filter, List.mem_map] at hp
    obtain ⟨⟨v, hv, rfl⟩, ho⟩ := hp
    rw [decide_eq_true_eq] at ho
    dsimp only at ho ⊢
    obtain ⟨k, hk, rfl⟩ := List.mem_drop_iff_getElem.1 hv
    have hk : i + k < g.length := by omega
    have le : g.getD i 0 ≤ g[i + k] := by rw [← gd hk]; exact getD_le hs (by omega) hk
    have c := cnt_split g _ _ le
    generalize hi0 : g.countP (fun x => decide (x ≤ g.getD i 0 - 1)) = i0 at *
    have a1 : i0 ≤ i := by
      rw [← hi0, ← Nat.not_lt, ← sorted_idx hs _ i hi, gd hi]; omega
    have a2 : g.getD i 0 ≤ g.getD i0 0 := by
      have := (sorted_idx hs (g.getD i 0 - 1) i0 (by omega))
      rw [hi0] at this
      rw [gd (show i0 < g.length by omega)]
      omega
    have a3 : g.getD i0 0 = g.getD i 0 := by have := getD_le hs a1 hi; omega
    have a4 : i + k < g.countP (fun x => decide (x ≤ g[i + k])) := (sorted_idx hs g[i + k] (i + k) hk).1 (Int.le_refl _)
    have a5 : g.countP (fun x => decide (x ≤ g[i + k])) ≤ g.length := List.countP_le_length
    have a6 : i0 + m - 1 < g.countP (fun x => decide (x ≤ g[i + k])) := by omega
    have a7 : g.getD (i0 + m - 1) 0 ≤ g[i + k] := by
      rw [gd (show i0 + m - 1 < g.length by omega), sorted_idx hs]; exact a6
    exact ⟨(g.getD i0 0, g.getD (i0 + m - 1) 0), List.mem_map.2 ⟨i0, by rw [List.mem_range]; omega, rfl⟩, a3, a7⟩
end Go.Am
end
section
/- Values of a test; limits as narrow as can be: package lot. -/
open Go
set_option linter.unusedSimpArgs false
namespace Go.Am
variable {h : Heap} {K : Post}
def valsAt (k : Nat) (r : List Rec) : List Int := r.filterMap fun x => x.res[k]?
theorem valsAt_succ (k : Nat) (r : List Rec) (i : Nat) (hi : i < r.length) : valsAt k (r.take (i + 1)) = valsAt k (r.take i) ++ (match r[i].res[k]? with | some v => [v] | none => []) := by
  unfold valsAt
  rw [List.take_succ_eq_append_getElem hi, List.filterMap_append]
  congr 1
  simp only [List.filterMap_cons, List.filterMap_nil]
  cases r[i].res[k]? <;> rfl
theorem valsAt_len (k : Nat) (r : List Rec) : (valsAt k r).length ≤ r.length := List.length_filterMap_le _ _
theorem s_values (r : List Rec) (k : Nat) (hk : k ≤ 1000000) (hn : r.length ≤ 1000000) : ACall X f_lot_values [ARec r, AI k] h K = K (.own h.length (valsAt k r).length 0 (valsAt k r).length) (h ++ [.row none ((valsAt k r).map eI) 0]) [] := by
  refine rule ?_
  rw [c_lot_values rfl]
  simp only [d_lot_values, go_sem]
  refine N_loop (fun i : Nat => ⟨[(1, AI k), (5, .own h.length (valsAt k (r.take i)).length 0 (valsAt k (r.take i)).length), (8, ARec r), (9, AI r.length), (10, AI i)], h ++ [.row none ((valsAt k (r.take i)).map eI) 0], []⟩) (fun i => i ≤ r.length) (fun i => r.length - i) 0 rfl (by omega) ?_
  intro i hi
  rcases Nat.lt_or_ge i r.length with hlt | hge
  · have hg := map_get Rec.pv hlt
    have w2 : IntKind.i64.wrap ((i : Int) + 1) = ((i + 1 : Nat) : Int) := i64_wrap _ (by omega) (by omega)
    have hs := valsAt_succ k r i hlt
    have hl := valsAt_len k (r.take i)
    have hmx : (valsAt k (r.take i)).length + 1 ≤ maxSl := by unfold maxSl; simp at hl; omega
    rcases Nat.lt_or_ge k r[i].res.length with hk1 | hk1
    · have g2 := map_get eI hk1
      rw [List.getElem?_eq_getElem hk1] at hs
      simp only [go_sem, hlt, hg, Rec.pv, hk1, g2, hmx, w2]
      refine ⟨i + 1, ?_, by omega, by omega⟩
      simp only [hs, List.map_append, List.map_cons, List.map_nil, List.length_append, List.length_cons, List.length_nil]
    · have hk1' : ¬ k < r[i].res.length := by omega
      rw [List.getElem?_eq_none hk1, List.append_nil] at hs
      simp only [go_sem, hlt, hg, Rec.pv, hk1', w2]
      exact ⟨i + 1, by simp only [hs], by omega, by omega⟩
  · have : i = r.length := by omega
    subst this
    simp only [go_sem, Nat.lt_irrefl, List.take_length, show max h.length (h.length + 1) = h.length + 1 by omega]
def valuesV (l : List Lim) (r : List Rec) (t : List UInt8) : AV := if recsFault l r ≠ 0 then .tup [AL [], AI (recsFault l r)] else if findK l t < 0 then .tup [AL [], AI 8] else .tup [AL (valsAt (findK l t).toNat r), AI 0]
theorem findK_bd (l : List Lim) (t : List UInt8) : -1 ≤ findK l t ∧ findK l t < l.length := by
  unfold findK idxP
  split
  · rename_i h; simp at h ⊢; omega
  · omega
theorem s_Values (l : List Lim) (r : List Rec) (t : List UInt8) (hl : LimOk l) (hr : ∀ x ∈ r, RecOk x) (hn : r.length ≤ 1000000) : ACall X f_lot_Values [ALim l, ARec r, AS t] h K = K (valuesV l r t) h [] := by
  refine rule ?_
  rw [c_lot_Values rfl]
  have cr := fun h K => s_CheckRecords (h := h) (K := K) l r hl hr hn
  have fk := fun h K => s_find (h := h) (K := K) l t (by have := hl.n; omega)
  have hb := findK_bd l t
  have hln := hl.n
  unfold valuesV
  by_cases h1 : recsFault l r = 0
  · rw [if_neg (by simp [h1])]
    by_cases h2 : findK l t < 0
    · simp only [d_lot_Values, go_sem, cr, h1, fk, h2]
      rfl
    · obtain ⟨k, hk⟩ := Int.eq_ofNat_of_zero_le (show 0 ≤ findK l t by omega)
      have vs := fun h K => s_values (h := h) (K := K) r k (by omega) hn
      rw [hk]
      have hlt : ¬ ((k : Int) < 0) := by omega
      simp only [d_lot_Values, go_sem, cr, h1, fk, h2, hk, hlt, vs, Int.toNat_natCast]
      rw [win_full (by simp)]
  · rw [if_pos h1]
    simp only [d_lot_Values, go_sem, cr, h1]
    rfl
theorem s_ValuesOf (l : List Lim) (r : List Rec) (t : List UInt8) (hl : LimOk l) (k : Nat) (hk : findK l t = k) (hn : r.length ≤ 1000000) : ACall X f_scanref2_ValuesOf [ALim l, ARec r, AS t] h K = K (.own h.length (valsAt k r).length 0 (valsAt k r).length) (h ++ [.row none ((valsAt k r).map eI) 0]) [] := by
  refine rule ?_
  rw [c_scanref2_ValuesOf rfl]
  have fk := fun h K => s_TestAt (h := h) (K := K) l t (by have := hl.n; omega)
  rw [hk] at fk
  have hln := hl.n
  have hb := findK_bd l t
  have hk0 : (0 : Int) ≤ (k : Int) := by omega
  simp only [d_scanref2_ValuesOf, go_sem, fk]
  refine N_loop (fun i : Nat => ⟨[(7, AI k), (8, .own h.length (valsAt k (r.take i)).length 0 (valsAt k (r.take i)).length), (14, ARec r), (15, AI r.length), (16, AI i)], h ++ [.row none ((valsAt k (r.take i)).map eI) 0], []⟩) (fun i => i ≤ r.length) (fun i => r.length - i) 0 rfl (by omega) ?_
  intro i hi
  rcases Nat.lt_or_ge i r.length with hlt | hge
  · have hg := map_get Rec.pv hlt
    have w2 : IntKind.i64.wrap ((i : Int) + 1) = ((i + 1 : Nat) : Int) := i64_wrap _ (by omega) (by omega)
    have hs := valsAt_succ k r i hlt
    have hl := valsAt_len k (r.take i)
    have hmx : (valsAt k (r.take i)).length + 1 ≤ maxSl := by unfold maxSl; simp at hl; omega
    rcases Nat.lt_or_ge k r[i].res.length with hk1 | hk1
    · have g2 := map_get eI hk1
      rw [List.getElem?_eq_getElem hk1] at hs
      simp only [go_sem, hlt, hg, Rec.pv, hk0, hk1, g2, hmx, w2]
      refine ⟨i + 1, ?_, by omega, by omega⟩
      simp only [hs, List.map_append, List.map_cons, List.map_nil, List.length_append, List.length_cons, List.length_nil]
    · have hk1' : ¬ k < r[i].res.length := by omega
      rw [List.getElem?_eq_none hk1, List.append_nil] at hs
      simp only [go_sem, hlt, hg, Rec.pv, hk0, hk1', w2]
      exact ⟨i + 1, by simp only [hs], by omega, by omega⟩
  · have : i = r.length := by omega
    subst this
    simp only [go_sem, Nat.lt_irrefl, List.take_length, show max h.length (h.length + 1) = h.length + 1 by omega]
/-! ### what right records bear -/
def ordB (x : Rec) : Option Rec → Bool
  | some q => decide (recCmp x q ≤ 0)
  | none => false
theorem recsFaultFrom_cons' {l : List Lim} {p : Option Rec} {x : Rec} {r : List Rec} : recsFaultFrom l p (x :: r) = if recFault l x ≠ 0 then recFault l x else if ordB x p = true then 7 else recsFaultFrom l (some x) r := by cases p <;> rfl
theorem recsFaultFrom_all {l : List Lim} : ∀ {r : List Rec} {p : Option Rec}, recsFaultFrom l p r = 0 → ∀ x ∈ r, recFault l x = 0
  | [], _, _, x, hx => by cases hx
  | y :: r, p, h, x, hx => by
    rw [recsFaultFrom_cons'] at h
    by_cases h1 : recFault l y = 0
    · rw [if_neg (by simp [h1])] at h
      by_cases h2 : ordB y p = true
      · rw [if_pos h2] at h
        exact absurd h (by decide)
      · rw [if_neg h2] at h
        rcases List.mem_cons.1 hx with rfl | hx
        · exact h1
        · exact recsFaultFrom_all h x hx
    · rw [if_pos h1] at h
      exact absurd h h1
theorem recsFault_all {l : List Lim} {r : List Rec} (h : recsFault l r = 0) : ∀ x ∈ r, recFault l x = 0 := by
  unfold recsFault recsFault0 at h
  split at h
  · rename_i h1; exact absurd h h1
  · split at h
    · cases h
    · exact recsFaultFrom_all h
theorem recFault_meas {l : List Lim} {r : Rec} (hf : recFault l r = 0) : ∀ n ∈ r.res, -100000 ≤ n ∧ n ≤ 100000 := by
  unfold recFault at hf
  split at hf
  · cases hf
  · split at hf
    · cases hf
    · split at hf
      · cases hf
      · rename_i h
        intro n hn
        have := List.all_eq_true.1 (by simpa using h) n hn
        simpa [isM] using this
theorem valsAt_meas {l : List Lim} {r : List Rec} (h : recsFault l r = 0) (k : Nat) : ∀ n ∈ valsAt k r, -100000 ≤ n ∧ n ≤ 100000 := by
  intro n hn
  obtain ⟨x, hx, e⟩ := List.mem_filterMap.1 hn
  exact recFault_meas (recsFault_all h x hx) n (List.mem_of_getElem? e)
end Go.Am
end
section
/- Limits as narrow as can be, both ways. -/
open Go
set_option linter.unusedSimpArgs false
namespace Go.Am
variable {h : Heap} {K : Post}
/-- The good results of a test, sorted. -/
def goodOf (x : Lim) (vs : List Int) : List Int := vs.filter (good x)
def sortedOf (x : Lim) (vs : List Int) : List Int := isort ltI (goodOf x vs)
theorem weakI : Weak ltI := ⟨fun a b h => by simp [ltI] at *; omega, fun a b c h1 h2 => by simp [ltI] at *; omega⟩
theorem sortedOf_le (x : Lim) (vs : List Int) : (sortedOf x vs).Pairwise (· ≤ ·) := by
  refine (isort_sorted weakI (goodOf x vs)).imp (fun {a b} h => ?_)
  simp [ltI] at h; omega
theorem sortedOf_len (x : Lim) (vs : List Int) : (sortedOf x vs).length = (goodOf x vs).length := isort_len _ _
theorem goodOf_len (x : Lim) (vs : List Int) : (goodOf x vs).length ≤ vs.length := List.length_filter_le _ _
def tightV (g : List Int) (most : Int) : Int × Int × Bool := if g.length = 0 then (0, 0, false) else match fstMin (wins g (max 1 (g.length - most)).toNat) with
  | some p => (p.1, p.2, true)
  | none => (0, 0, false)
def badP (x : Lim) : PV → Bool := fun v => match v with | .int _ n => !good x n | _ => false
theorem filter_bad (x : Lim) (vs : List Int) : (vs.map eI).filter (fun v => !badP x v) = (goodOf x vs).map eI := by
  unfold goodOf
  rw [List.filter_map]
  congr 1
  apply List.filter_congr
  intro n _
  simp [badP]
theorem s_tight1 (l : List Lim) (k : Nat) (hk : k < l.length) (n : Int) (b1 b2 : Nat) (h1 : h[b1]? = some (.box [ALim l])) (h2 : h[b2]? = some (.box [AI k])) : ACall X f_lot_Tighter_1 [AI n, .ref b1 0, .ref b2 0] h K = K (AB (!good l[k] n)) h [] := by
  refine rule ?_
  rw [c_lot_Tighter_1 rfl]
  have hg := map_get Lim.pv hk
  have cx : cutP (some 4) 0 (l[k].pv) = some l[k].pv := rfl
  simp only [d_lot_Tighter_1, go_sem, h1, h2, hg, cx, s_good]
theorem s_reftight1 (x : Lim) (n : Int) (b1 : Nat) (h1 : h[b1]? = some (.box [AS x.key, AI x.lo, AI x.hi, AI x.bin])) : ACall X f_scanref2_TighterOf_1 [AI n, .ref b1 0] h K = K (AB (!good x n)) h [] := by
  refine rule ?_
  rw [c_scanref2_TighterOf_1 rfl]
  simp only [d_scanref2_TighterOf_1, go_sem, h1, s_inB]
  rfl
theorem wins_take_succ (g : List Int) (M i : Nat) (hi : i < g.length - M + 1) : (wins g M).take (i + 1) = (wins g M).take i ++ [(g.getD i 0, g.getD (i + M - 1) 0)] := by
  unfold wins
  rw [List.take_succ_eq_append_getElem (by simpa using hi)]
  simp
theorem fstMin_snoc (l : List (Int × Int)) (p : Int × Int) : fstMin (l ++ [p]) = better (fstMin l) p := by
  unfold fstMin; rw [List.foldl_append]; rfl
set_option maxHeartbeats 1000000 in
theorem s_Tighter (l : List Lim) (r : List Rec) (t : List UInt8) (most : Int) (hl : LimOk l) (hr : ∀ x ∈ r, RecOk x) (hn : r.length ≤ 12) (hm : -1000000 ≤ most ∧ most ≤ 1000000) :
    ACall X f_lot_Tighter [ALim l, ARec r, AS t, AI most] h K = K (if recsFault l r ≠ 0 then .tup [AI 0, AI 0, AB false, AI (recsFault l r)] else if findK l t < 0 then .tup [AI 0, AI 0, AB false, AI 8] else if inB 0 most 5000 = false then .tup [AI 0, AI 0, AB false, AI 1]
      else .tup [AI (tightV (sortedOf (l.getD (findK l t).toNat ⟨[], 0, 0, 0⟩) (valsAt (findK l t).toNat r)) most).1, AI (tightV (sortedOf (l.getD (findK l t).toNat ⟨[], 0, 0, 0⟩) (valsAt (findK l t).toNat r)) most).2.1, AB (tightV (sortedOf (l.getD (findK l t).toNat ⟨[], 0, 0, 0⟩) (valsAt (findK l t).toNat r)) most).2.2, AI 0]) h [] := by
  refine rule ?_
  rw [c_lot_Tighter rfl]
  have cr := fun h K => s_CheckRecords (h := h) (K := K) l r hl hr (by omega)
  have fk := fun h K => s_find (h := h) (K := K) l t (by have := hl.n; omega)
  have hb := findK_bd l t
  have hln := hl.n
  by_cases h1 : recsFault l r = 0
  case neg => simp only [d_lot_Tighter, go_sem, cr, h1]
  by_cases h2 : findK l t < 0
  · simp only [d_lot_Tighter, go_sem, cr, h1, fk, h2]
  obtain ⟨k, hk⟩ := Int.eq_ofNat_of_zero_le (show 0 ≤ findK l t by omega)
  have hk' : findK l t = (k : Int) := hk
  rw [hk'] at fk hb ⊢
  have hlt : ¬ ((k : Int) < 0) := by omega
  cases h3 : inB 0 most 5000 with
  | false => simp only [d_lot_Tighter, go_sem, cr, h1, fk, hlt, s_OutB, h3]
  | true =>
    have hkl : k < l.length := by omega
    have hmm : 0 ≤ most ∧ most ≤ 5000 := by simpa [inB] using h3
    have hD : l.getD k ⟨[], 0, 0, 0⟩ = l[k] := by rw [List.getD_eq_getElem?_getD, List.getElem?_eq_getElem hkl]; rfl
    simp only [h1, ne_eq, not_true_eq_false, if_false, hlt, reduceCtorEq, Int.toNat_natCast, hD]
    have hvl := valsAt_len k r
    have hvm := valsAt_meas h1 k
    generalize hvs : valsAt k r = vs at *
    have vsp := fun h K => s_values (h := h) (K := K) r k (by omega) (by omega)
    rw [hvs] at vsp
    -- the deletion
    have hgl := goodOf_len l[k] vs
    have dl := fun K => DeleteFunc_int (h := h ++ [.box [ALim l], .box [AI k], .row none (vs.map eI) 0]) (K := K) (h.length + 2) (vs.map eI) shps_eI (by simp; omega) (by simp) (g := f_lot_Tighter_1) (caps := [.ref h.length 0, .ref (h.length + 1) 0]) (p := badP l[k])
      (fun o x hx K => by
        obtain ⟨n, _, rfl⟩ := List.mem_map.1 hx
        rw [app_set]
        exact s_tight1 l k hkl n h.length (h.length + 1) (by simp) (by simp))
    simp only [filter_bad, List.length_map, app_set, List.set_cons_succ, List.set_cons_zero] at dl
    by_cases hg0 : (goodOf l[k] vs).length = 0
    · have hg0' : ((goodOf l[k] vs).length : Int) = 0 := by omega
      have : tightV (sortedOf l[k] vs) most = (0, 0, false) := by unfold tightV; rw [if_pos (by rw [sortedOf_len]; exact hg0)]
      rw [this]
      simp only [d_lot_Tighter, go_sem, cr, h1, fk, hlt, s_OutB, h3, vsp, ↓dl, dl, hg0']
    · have hg0' : ¬ ((goodOf l[k] vs).length : Int) = 0 := by omega
      have hsl := sortedOf_len l[k] vs
      have hgm : ∀ n ∈ sortedOf l[k] vs, -100000 ≤ n ∧ n ≤ 100000 := fun n hn => hvm n (List.mem_filter.1 (isort_mem.1 hn)).1
      have so := fun K => Sort_int (h := h ++ [.box [ALim l], .box [AI k], .row none ((goodOf l[k] vs).map eI ++ List.replicate (vs.length - (goodOf l[k] vs).length) (PV.int .i64 0)) 0]) (K := K) (h.length + 2) vs.length ((goodOf l[k] vs).map eI) (List.replicate (vs.length - (goodOf l[k] vs).length) (PV.int .i64 0)) (by simp; omega) shps_eI (by simp; omega) (by simp) (lt := ltP) less_eI
      simp only [isort_map eI (fun a b => ltP_eI a b), List.length_map, app_set, List.set_cons_succ, List.set_cons_zero] at so
      have hGS : isort ltI (goodOf l[k] vs) = sortedOf l[k] vs := rfl
      rw [hGS] at so
      generalize hg : sortedOf l[k] vs = g at *
      generalize hG : goodOf l[k] vs = G at *
      generalize hT : List.replicate (vs.length - G.length) (PV.int .i64 0) = T at *
      have hTl : T.length = vs.length - G.length := by rw [← hT]; simp
      have w1 : IntKind.i64.wrap ((G.length : Int) - most) = (G.length : Int) - most := i64_wrap _ (by omega) (by omega)
      obtain ⟨M, hM⟩ := Int.eq_ofNat_of_zero_le (show 0 ≤ max 1 ((G.length : Int) - most) by omega)
      have hM1 : 1 ≤ M := by omega
      have hM2 : M ≤ G.length := by omega
      have w2 : IntKind.i64.wrap ((G.length : Int) - M) = ((G.length - M : Nat) : Int) := by rw [i64_wrap _ (by omega) (by omega)]; omega
      have w3 : IntKind.i64.wrap (((G.length - M : Nat) : Int) + 1) = ((G.length - M + 1 : Nat) : Int) := by rw [i64_wrap _ (by omega) (by omega)]; omega
      have rowget : ∀ j, j < G.length → (g.map eI ++ T)[j]? = some (eI (g.getD j 0)) := fun j hj => by
        rw [List.getElem?_append_left (by simp; omega), List.getElem?_map, List.getD_eq_getElem?_getD, List.getElem?_eq_getElem (by omega)]; rfl
      have rowlen : (g.map eI ++ T).length = vs.length := by simp; omega
      have gbd : ∀ j, -100000 ≤ g.getD j 0 ∧ g.getD j 0 ≤ 100000 := fun j => by
        rw [List.getD_eq_getElem?_getD]
        cases hq : g[j]? with
        | none => simp
        | some v => exact hgm v (List.mem_of_getElem? hq)
      have htv : tightV g most = (match fstMin (wins g M) with | some p => (p.1, p.2, true) | none => (0, 0, false)) := by
        unfold tightV
        rw [if_neg (by omega), hsl, hM]; rfl
      rw [htv]
      generalize hrow : g.map eI ++ T = row at *
      simp only [d_lot_Tighter, go_sem, cr, h1, fk, hlt, s_OutB, h3, vsp, ↓dl, dl, hg0', ↓so, so, w1, hM, w2, w3]
      refine N_loop (fun u : Nat × Nat => ⟨[(14, .own (h.length + 2) vs.length 0 G.length), (15, AI M), (16, AI u.2), (52, AI ((G.length - M + 1 : Nat) : Int)), (53, AI u.1)], h ++ [.box [ALim l], .box [AI k], .row none row 0], []⟩)
        (fun u => u.1 ≤ G.length - M + 1 ∧ u.2 < G.length - M + 1 ∧ (u.1 = 0 → u.2 = 0) ∧ (0 < u.1 → fstMin ((wins g M).take u.1) = some (g.getD u.2 0, g.getD (u.2 + M - 1) 0))) (fun u => G.length - M + 1 - u.1) (0, 0) rfl ⟨by simp, by simp, fun _ => rfl, fun h => absurd h (by simp)⟩ ?_
      rintro ⟨i, b⟩ ⟨q1, q2, q3, q4⟩
      dsimp only at q1 q2 q3 q4
      have v1 : IntKind.i64.wrap ((b : Int) + M) = ((b + M : Nat) : Int) := by rw [i64_wrap _ (by omega) (by omega)]; omega
      have v2 : IntKind.i64.wrap (((b + M : Nat) : Int) - 1) = ((b + M - 1 : Nat) : Int) := by rw [i64_wrap _ (by omega) (by omega)]; omega
      have r3 := rowget b (by omega)
      have r4 := rowget (b + M - 1) (by omega)
      have p3 : b < G.length := by omega
      have p4 : b + M - 1 < G.length := by omega
      have pG : G.length ≤ vs.length := hgl
      rcases Nat.lt_or_ge i (G.length - M + 1) with hlt2 | hge2
      · have u1 : IntKind.i64.wrap ((i : Int) + M) = ((i + M : Nat) : Int) := by rw [i64_wrap _ (by omega) (by omega)]; omega
        have u2 : IntKind.i64.wrap (((i + M : Nat) : Int) - 1) = ((i + M - 1 : Nat) : Int) := by rw [i64_wrap _ (by omega) (by omega)]; omega
        have u3 : IntKind.i64.wrap ((i : Int) + 1) = ((i + 1 : Nat) : Int) := i64_wrap _ (by omega) (by omega)
        have r1 := rowget i (by omega)
        have r2 := rowget (i + M - 1) (by omega)
        have p1 : i < G.length := by omega
        have p2 : i + M - 1 < G.length := by omega
        have d1 := gbd i
        have d2 := gbd (i + M - 1)
        have d3 := gbd b
        have d4 := gbd (b + M - 1)
        have hts := wins_take_succ g M i (by omega)
        have hfm : fstMin ((wins g M).take (i + 1)) = better (fstMin ((wins g M).take i)) (g.getD i 0, g.getD (i + M - 1) 0) := by rw [hts, fstMin_snoc]
        generalize hgi : g.getD i 0 = gi at *
        generalize hgim : g.getD (i + M - 1) 0 = gim at *
        generalize hgb : g.getD b 0 = gb at *
        generalize hgbm : g.getD (b + M - 1) 0 = gbm at *
        have z1 : IntKind.i64.wrap (gim - gi) = gim - gi := i64_wrap _ (by omega) (by omega)
        have z2 : IntKind.i64.wrap (gbm - gb) = gbm - gb := i64_wrap _ (by omega) (by omega)
        by_cases hw : gim - gi < gbm - gb
        · simp only [go_sem, hlt2, u1, u2, v1, v2, r1, r2, r3, r4, p1, p2, p3, p4, pG, rowlen, z1, z2, hw, u3]
          refine ⟨(i + 1, i), rfl, ⟨by dsimp only; omega, by dsimp only; omega, fun h => absurd h (by simp), fun _ => ?_⟩, by dsimp only; omega⟩
          dsimp only
          rw [hgi, hgim, hfm]
          rcases Nat.eq_zero_or_pos i with h0 | h0
          · have := q3 h0
            subst h0; subst this
            exfalso; rw [← hgi, ← hgim, ← hgb, ← hgbm] at hw; omega
          · rw [q4 h0, better, if_pos hw]
        · simp only [go_sem, hlt2, u1, u2, v1, v2, r1, r2, r3, r4, p1, p2, p3, p4, pG, rowlen, z1, z2, hw, u3]
          refine ⟨(i + 1, b), rfl, ⟨by dsimp only; omega, by dsimp only; omega, fun h => absurd h (by simp), fun _ => ?_⟩, by dsimp only; omega⟩
          dsimp only
          rw [hgb, hgbm, hfm]
          rcases Nat.eq_zero_or_pos i with h0 | h0
          · have := q3 h0
            subst h0; subst this
            rw [← hgi, ← hgim, ← hgb, ← hgbm]; rfl
          · rw [q4 h0, better, if_neg hw]
      · have ei : i = G.length - M + 1 := by omega
        have hq := q4 (by omega)
        have ew : (wins g M).take i = wins g M := List.take_of_length_le (by simp [wins]; omega)
        rw [ew] at hq
        rw [hq]
        have hb2 : ¬ i < G.length - M + 1 := by omega
        simp only [go_sem, hb2, v1, v2, r3, r4, p3, p4, pG, rowlen]
end Go.Am
end
section
/- Limits as narrow as can be: the reference, all pairs. -/
open Go
set_option linter.unusedSimpArgs false
namespace Go.Am
variable {h : Heap} {K : Post}
/-- What is found so far. -/
def acc3 : Option (Int × Int) → Int × Int × Bool
  | none => (0, 0, false)
  | some p => (p.1, p.2, true)
theorem outN_take_succ (g : List Int) (u v : Int) (k : Nat) (hk : k < g.length) : outN (g.take (k + 1)) u v = outN (g.take k) u v + (bif inB u g[k] v then 0 else 1) := by
  unfold outN
  rw [List.take_succ_eq_append_getElem hk, List.countP_append]
  congr 1
  simp only [List.countP_cons, List.countP_nil, inB]
  cases (decide (u ≤ g[k]) && decide (g[k] ≤ v)) <;> rfl
/-- The pairs of the first i values. -/
def accTo (g : List Int) (most : Int) (i : Nat) : Option (Int × Int) := ((List.range i).flatMap (pairsAt g most)).foldl better none
def cand (g : List Int) (most : Int) (u : Int) (vs : List Int) : List (Int × Int) := (vs.map fun v => (u, v)).filter fun p => decide ((outN g p.1 p.2 : Int) ≤ most)
def accIn (g : List Int) (most : Int) (i j : Nat) : Option (Int × Int) := (cand g most (g.getD i 0) ((g.drop i).take j)).foldl better (accTo g most i)
theorem accTo_succ (g : List Int) (most : Int) (i : Nat) : accTo g most (i + 1) = accIn g most i (g.drop i).length := by
  unfold accTo accIn
  rw [List.range_succ, List.flatMap_append, List.foldl_append, List.take_length]
  simp only [List.flatMap_cons, List.flatMap_nil, List.append_nil]
  rfl
theorem accIn_succ (g : List Int) (most : Int) (i j : Nat) (hj : j < (g.drop i).length) : accIn g most i (j + 1) = if (outN g (g.getD i 0) (g.drop i)[j] : Int) ≤ most then better (accIn g most i j) (g.getD i 0, (g.drop i)[j]) else accIn g most i j := by
  unfold accIn cand
  rw [List.take_succ_eq_append_getElem hj, List.map_append, List.filter_append, List.foldl_append]
  simp only [List.map_cons, List.map_nil, List.filter_cons, List.filter_nil]
  split <;> rename_i h
  · rw [if_pos (by simpa using h)]; rfl
  · rw [if_neg (by simpa using h)]; rfl
theorem acc3_bd {g : List Int} (hg : ∀ n ∈ g, -100000 ≤ n ∧ n ≤ 100000) (o : Option (Int × Int)) (ho : ∀ p, o = some p → (-100000 ≤ p.1 ∧ p.1 ≤ 100000) ∧ (-100000 ≤ p.2 ∧ p.2 ≤ 100000)) : (-100000 ≤ (acc3 o).1 ∧ (acc3 o).1 ≤ 100000) ∧ (-100000 ≤ (acc3 o).2.1 ∧ (acc3 o).2.1 ≤ 100000) := by
  cases o with
  | none => simp [acc3]
  | some p => exact ho p rfl
set_option maxHeartbeats 2000000 in
theorem s_TighterOf (l : List Lim) (r : List Rec) (t : List UInt8) (most : Int) (hl : LimOk l) (hn : r.length ≤ 12) (hz : recsFault l r = 0) (k : Nat) (hk : findK l t = k) (hm : 0 ≤ most ∧ most ≤ 5000) :
    ACall X f_scanref2_TighterOf [ALim l, ARec r, AS t, AI most] h K = K (.tup [AI (tightV (sortedOf (l.getD k ⟨[], 0, 0, 0⟩) (valsAt k r)) most).1, AI (tightV (sortedOf (l.getD k ⟨[], 0, 0, 0⟩) (valsAt k r)) most).2.1, AB (tightV (sortedOf (l.getD k ⟨[], 0, 0, 0⟩) (valsAt k r)) most).2.2]) h [] := by
  refine rule ?_
  rw [c_scanref2_TighterOf rfl]
  have fk := fun h K => s_TestAt (h := h) (K := K) l t (by have := hl.n; omega)
  have hb := findK_bd l t
  have hln := hl.n
  rw [hk] at fk hb
  have hkl : k < l.length := by omega
  have hD : l.getD k ⟨[], 0, 0, 0⟩ = l[k] := by rw [List.getD_eq_getElem?_getD, List.getElem?_eq_getElem hkl]; rfl
  rw [hD]
  have hvl := valsAt_len k r
  have hvm := valsAt_meas hz k
  have vsp := fun h K => s_ValuesOf (h := h) (K := K) l r t hl k hk (by omega)
  have hgx := map_get Lim.pv hkl
  generalize hvs : valsAt k r = vs at *
  generalize l[k] = x at *
  have hgl := goodOf_len x vs
  have hxp : x.pv = .agg [.str x.key, eI x.lo, eI x.hi, eI x.bin] := rfl
  have dl := fun K => DeleteFunc_int (h := h ++ [.box [AS x.key, AI x.lo, AI x.hi, AI x.bin], .row none (vs.map eI) 0]) (K := K) (h.length + 1) (vs.map eI) shps_eI (by simp; omega) (by simp) (g := f_scanref2_TighterOf_1) (caps := [.ref h.length 0]) (p := badP x)
    (fun o y hy K => by
      obtain ⟨n, _, rfl⟩ := List.mem_map.1 hy
      rw [app_set]
      exact s_reftight1 x n h.length (by simp))
  simp only [filter_bad, List.length_map, app_set, List.set_cons_succ, List.set_cons_zero] at dl
  have hsl := sortedOf_len x vs
  have hgm : ∀ n ∈ sortedOf x vs, -100000 ≤ n ∧ n ≤ 100000 := fun n hn => hvm n (List.mem_filter.1 (isort_mem.1 hn)).1
  have hsorted := sortedOf_le x vs
  have so := fun K => Sort_int (h := h ++ [.box [AS x.key, AI x.lo, AI x.hi, AI x.bin], .row none ((goodOf x vs).map eI ++ List.replicate (vs.length - (goodOf x vs).length) (PV.int .i64 0)) 0]) (K := K) (h.length + 1) vs.length ((goodOf x vs).map eI) (List.replicate (vs.length - (goodOf x vs).length) (PV.int .i64 0)) (by simp; omega) shps_eI (by simp; omega) (by simp) (lt := ltP) less_eI
  simp only [isort_map eI (fun a b => ltP_eI a b), List.length_map, app_set, List.set_cons_succ, List.set_cons_zero] at so
  have hGS : isort ltI (goodOf x vs) = sortedOf x vs := rfl
  rw [hGS] at so
  generalize hg : sortedOf x vs = g at *
  generalize hG : goodOf x vs = G at *
  generalize hT : List.replicate (vs.length - G.length) (PV.int .i64 0) = T at *
  have hTl : T.length = vs.length - G.length := by rw [← hT]; simp
  have rowget : ∀ j (hj : j < g.length), (g.map eI ++ T)[j]? = some (eI g[j]) := fun j hj => by
    rw [List.getElem?_append_left (by simpa using hj), List.getElem?_map, List.getElem?_eq_getElem hj]; rfl
  have rowlen : (g.map eI ++ T).length = vs.length := by simp; omega
  have hfin : (AV.tup [AI (tightV g most).1, AI (tightV g most).2.1, AB (tightV g most).2.2]) = .tup [AI (acc3 (accTo g most g.length)).1, AI (acc3 (accTo g most g.length)).2.1, AB (acc3 (accTo g most g.length)).2.2] := by
    have : tightV g most = acc3 (accTo g most g.length) := by
      unfold tightV
      by_cases h0 : g.length = 0
      · rw [if_pos h0]
        have : g = [] := List.length_eq_zero_iff.1 h0
        subst this; rfl
      · rw [if_neg h0]
        have hne : g ≠ [] := fun h => h0 (by rw [h]; rfl)
        have := tight_same hsorted hne hm.1 (m := (max 1 ((g.length : Int) - most)).toNat) (by omega)
        rw [← this]
        show (match fstMin (pairs g most) with | some p => (p.1, p.2, true) | none => (0, 0, false)) = acc3 (fstMin (pairs g most))
        cases fstMin (pairs g most) <;> rfl
    rw [this]
  rw [hfin]
  rw [← hsl] at dl so
  have pG : g.length ≤ vs.length := by omega
  generalize hrow : g.map eI ++ T = row at *
  simp only [d_scanref2_TighterOf, go_sem, fk, hgx, hxp, vsp, ↓dl, dl, ↓so, so]
  refine N_loop (fun i : Nat => ⟨[(3, AI most), (12, .own (h.length + 1) vs.length 0 g.length), (13, AI (acc3 (accTo g most i)).1), (14, AI (acc3 (accTo g most i)).2.1), (15, AB (acc3 (accTo g most i)).2.2), (37, .own (h.length + 1) vs.length 0 g.length), (38, AI g.length), (39, AI i)], h ++ [.box [AS x.key, AI x.lo, AI x.hi, AI x.bin], .row none row 0], []⟩)
    (fun i => i ≤ g.length ∧ ∀ p, accTo g most i = some p → (-100000 ≤ p.1 ∧ p.1 ≤ 100000) ∧ (-100000 ≤ p.2 ∧ p.2 ≤ 100000)) (fun i => g.length - i) 0 rfl ⟨by omega, fun p hp => by cases hp⟩ ?_
  rintro i ⟨hi, hacc⟩
  rcases Nat.lt_or_ge i g.length with hlt | hge
  · have u3 : IntKind.i64.wrap ((i : Int) + 1) = ((i + 1 : Nat) : Int) := i64_wrap _ (by omega) (by omega)
    have r1 := rowget i hlt
    have eg : g.getD i 0 = g[i] := by rw [List.getD_eq_getElem?_getD, List.getElem?_eq_getElem hlt]; rfl
    have hgi := hgm _ (List.getElem_mem hlt)
    have hdl : (g.drop i).length = g.length - i := by simp
    have hts := accTo_succ g most i
    have his := fun j => accIn_succ g most i j
    simp only [eg] at his
    have e0 : accTo g most i = accIn g most i 0 := by unfold accIn cand; simp
    rw [e0] at hacc ⊢
    simp only [go_sem, hlt, hi, r1, rowlen, pG]
    refine N_loop (fun j : Nat => ⟨[(3, AI most), (12, .own (h.length + 1) vs.length 0 g.length), (13, AI (acc3 (accIn g most i j)).1), (14, AI (acc3 (accIn g most i j)).2.1), (15, AB (acc3 (accIn g most i j)).2.2), (17, AI g[i]), (37, .own (h.length + 1) vs.length 0 g.length), (38, AI g.length), (39, AI i), (46, .own (h.length + 1) vs.length i (g.length - i)), (47, AI ((g.length - i : Nat) : Int)), (48, AI j)], h ++ [.box [AS x.key, AI x.lo, AI x.hi, AI x.bin], .row none row 0], []⟩)
      (fun j => j ≤ g.length - i ∧ ∀ p, accIn g most i j = some p → (-100000 ≤ p.1 ∧ p.1 ≤ 100000) ∧ (-100000 ≤ p.2 ∧ p.2 ≤ 100000)) (fun j => g.length - i - j) 0 rfl ⟨by omega, hacc⟩ ?_
    rintro j ⟨hj, haj⟩
    rcases Nat.lt_or_ge j (g.length - i) with hjl | hjg
    · have hij : i + j < g.length := by omega
      have r2 := rowget (i + j) hij
      have ed : (g.drop i)[j]'(by omega) = g[i + j] := by simp
      have hs := his j (by omega)
      rw [ed] at hs
      have hgj := hgm _ (List.getElem_mem hij)
      have u4 : IntKind.i64.wrap ((j : Int) + 1) = ((j + 1 : Nat) : Int) := i64_wrap _ (by omega) (by omega)
      have pi : i + (g.length - i) ≤ vs.length := by omega
      simp only [go_sem, hjl, r2, rowlen, pi]
      generalize hu : g[i] = u at *
      generalize hv : g[i + j] = v at *
      refine N_loop (fun m : Nat => ⟨[(3, AI most), (12, .own (h.length + 1) vs.length 0 g.length), (13, AI (acc3 (accIn g most i j)).1), (14, AI (acc3 (accIn g most i j)).2.1), (15, AB (acc3 (accIn g most i j)).2.2), (17, AI u), (19, AI v), (20, AI (outN (g.take m) u v : Nat)), (37, .own (h.length + 1) vs.length 0 g.length), (38, AI g.length), (39, AI i), (46, .own (h.length + 1) vs.length i (g.length - i)), (47, AI ((g.length - i : Nat) : Int)), (48, AI j), (52, .own (h.length + 1) vs.length 0 g.length), (53, AI g.length), (54, AI m)], h ++ [.box [AS x.key, AI x.lo, AI x.hi, AI x.bin], .row none row 0], []⟩)
        (fun m => m ≤ g.length) (fun m => g.length - m) 0 rfl (by omega) ?_
      intro m hm'
      rcases Nat.lt_or_ge m g.length with hml | hmg
      · have r3 := rowget m hml
        have u5 : IntKind.i64.wrap ((m : Int) + 1) = ((m + 1 : Nat) : Int) := i64_wrap _ (by omega) (by omega)
        have ho := outN_take_succ g u v m hml
        have hob : outN (g.take m) u v ≤ g.length := by unfold outN; exact Nat.le_trans List.countP_le_length (by simp; omega)
        have u6 : IntKind.i64.wrap (((outN (g.take m) u v : Nat) : Int) + 1) = ((outN (g.take m) u v + 1 : Nat) : Int) := i64_wrap _ (by omega) (by omega)
        cases hin : inB u g[m] v with
        | true =>
          rw [hin, cond_true] at ho
          simp only [go_sem, hml, r3, rowlen, pG, s_inB, hin, u5]
          exact ⟨m + 1, by simp only [ho, Nat.add_zero], by omega, by omega⟩
        | false =>
          rw [hin, cond_false] at ho
          simp only [go_sem, hml, r3, rowlen, pG, s_inB, hin, u5, u6]
          exact ⟨m + 1, by simp only [ho], by omega, by omega⟩
      · have em : m = g.length := by omega
        subst em
        have hb2 : ¬ g.length < g.length := by omega
        rw [List.take_length]
        have hbnd : ∀ q, better (accIn g most i j) (u, v) = some q → (-100000 ≤ q.1 ∧ q.1 ≤ 100000) ∧ (-100000 ≤ q.2 ∧ q.2 ≤ 100000) := by
          intro q hq
          unfold better at hq
          split at hq
          · cases hq; exact ⟨hgi, hgj⟩
          · rename_i q0 hq0
            split at hq
            · cases hq; exact ⟨hgi, hgj⟩
            · cases hq; exact haj _ hq0
        by_cases hc : (outN g u v : Int) ≤ most
        · rw [if_pos hc] at hs
          have ⟨hb3, hb4⟩ := acc3_bd hgm _ haj
          cases ha : accIn g most i j with
          | none =>
            rw [ha] at hs
            have hs' : accIn g most i (j + 1) = some (u, v) := by rw [hs]; rfl
            simp only [go_sem, hb2, hc, acc3, u4]
            exact ⟨j + 1, by simp only [hs', acc3], ⟨by omega, by rw [hs']; intro q hq; cases hq; exact ⟨hgi, hgj⟩⟩, by omega⟩
          | some q =>
            rw [ha] at hs hb3 hb4
            obtain ⟨c1, c2⟩ := haj q ha
            have z1 : IntKind.i64.wrap (v - u) = v - u := i64_wrap _ (by omega) (by omega)
            have z2 : IntKind.i64.wrap (q.2 - q.1) = q.2 - q.1 := i64_wrap _ (by omega) (by omega)
            by_cases hw : v - u < q.2 - q.1
            · have hs' : accIn g most i (j + 1) = some (u, v) := by rw [hs, better, if_pos hw]
              simp only [go_sem, hb2, hc, acc3, z1, z2, hw, u4]
              exact ⟨j + 1, by simp only [hs', acc3], ⟨by omega, by rw [hs']; intro q hq; cases hq; exact ⟨hgi, hgj⟩⟩, by omega⟩
            · have hs' : accIn g most i (j + 1) = some q := by rw [hs, better, if_neg hw]
              simp only [go_sem, hb2, hc, acc3, z1, z2, hw, u4]
              exact ⟨j + 1, by simp only [hs', acc3], ⟨by omega, by rw [hs']; intro q' hq; cases hq; exact ⟨c1, c2⟩⟩, by omega⟩
        · rw [if_neg hc] at hs
          simp only [go_sem, hb2, hc, u4]
          exact ⟨j + 1, by simp only [hs], ⟨by omega, by rw [hs]; exact haj⟩, by omega⟩
    · have ej : j = g.length - i := by omega
      subst ej
      have hb2 : ¬ (g.length - i < g.length - i) := by omega
      rw [hdl] at hts
      simp only [go_sem, hb2, u3]
      exact ⟨i + 1, by simp only [hts], ⟨by omega, by rw [hts]; exact haj⟩, by omega⟩
  · have ei : i = g.length := by omega
    subst ei
    have hb2 : ¬ (g.length < g.length) := by omega
    simp only [go_sem, hb2]
end Go.Am
end
section
/- Package lot computes spreads. -/
open Go
set_option linter.unusedSimpArgs false
namespace Go.Am
variable {h : Heap} {K : Post}
theorem spread13 : spreadV [1, 3] = .tup [.p (.agg [eI 2, eI 1]), .p (.agg [eI 1, eI 1]), AI 0] := by kernel_rfl
theorem s_binned : ACall X f_scanlaw2_binned [] h K = K (AB true) h [] := by
  refine rule ?_
  rw [c_scanlaw2_binned rfl]
  have s1 := fun h K => s_Spread (h := h) (K := K) [1, 3] (by simp)
  rw [spread13] at s1
  simp only [AL, List.map_cons, List.map_nil] at s1
  simp only [d_scanlaw2_binned, go_sem, ↓s1, s1]
end Go.Am
end
section
/- LimitsTightened returns true. -/
open Go
set_option linter.unusedSimpArgs false
namespace Go.Am
variable {h : Heap} {K : Post}
theorem s_when (b : Bool) (e : Int) : ACall X f_scanlaw2_when [AB b, AI e] h K = K (AI (if b then e else 0)) h [] := by
  refine rule ?_
  rw [c_scanlaw2_when rfl]
  cases b <;> simp only [d_scanlaw2_when, go_sem] <;> rfl
theorem arg_pur {X : Ctx} {f : Nat} {F : AFun} {a : List AV} {vs : List PV} {h h1 : Heap} {P : Post} (hf : X.fn f = some F) (hr : F.byref = false) (hp : puras h a = some (vs.map .p, h1)) (hq : puras h1 (vs.map .p) = some (vs.map .p, h1)) (hl : vs.length = F.nparams) (hlen : h1.length = h.length) : ACall X f a h P = ACall X f (vs.map .p) h1 P := by
  rw [call_val hf hr hp (by simpa using hl), call_val hf hr hq (by simpa using hl), hlen]
theorem frz_len {h : Heap} {id k : Nat} : (frz h id k).length = h.length := by
  unfold frz
  split <;> simp
theorem s_EqualOwn (l m : List Int) (id fz : Nat) (hl : l.length ≤ 1000000000) (hh : h[id]? = some (.row none (m.map eI) fz)) : ACall X f_slices_Equal_int_int [AL l, .own id m.length 0 m.length] h K = K (AB (decide (l = m))) (frz h id m.length) [] := by
  have e := arg_pur (X := X) (f := f_slices_Equal_int_int) (F := a_slices_Equal_int_int) (a := [AL l, .own id m.length 0 m.length]) (vs := [.sl none (l.map eI), .sl none (m.map eI)]) (h := h) (h1 := frz h id m.length) (P := K) x_slices_Equal_int_int rfl
    (by
      have : win (m.map eI) 0 m.length = m.map eI := win_full (by simp)
      simp [puras, pur, rd, hh, this]) rfl rfl frz_len
  rw [e]
  exact s_EqualI l m hl
attribute [-go_sem] e_scanlaw2_LimitsTightened_k1 e_scanlaw2_LimitsTightened_k2 d_scanlaw2_LimitsTightened_k1 d_scanlaw2_LimitsTightened_k2
/-- Both told the same. -/
theorem law_k1 (v16 : AV) (vs : List Int) (A B : Int) (C : Bool) (e f : Int) (h h2 : Heap) (x : Esc) (K : Ex → St → Prop) (hq : ∀ K : Post, ACall X f_slices_Equal_int_int [AL vs, v16] h K = K (AB true) h2 [])
    (hK : ∀ h x, x = [] → K .ret ⟨[(2, AB true)], h, x⟩) (hx : x = []) :
    d_scanlaw2_LimitsTightened_k1 (ACall X) X.gl (AL vs) (AI e) (AI A) (AI B) (AB C) (AI f) (AI e) (AI f) v16 (AI A) (AI B) (AB C) h x K := by
  subst hx
  simp only [d_scanlaw2_LimitsTightened_k1, go_sem, ↓hq, hq, s_binned]
  exact hK _ _ rfl
theorem law_k2 (l : List Lim) (r : List Rec) (t : List UInt8) (most : Int) (v16 : AV) (vs : List Int) (A B : Int) (C : Bool) (e f : Int) (h h2 : Heap) (K : Ex → St → Prop) (hq : ∀ K : Post, ACall X f_slices_Equal_int_int [AL vs, v16] h K = K (AB true) h2 [])
    (hT : f = 0 → ∀ h K, ACall X f_scanref2_TighterOf [ALim l, ARec r, AS t, AI most] h K = K (.tup [AI A, AI B, AB C]) h []) (hF : f ≠ 0 → A = 0 ∧ B = 0 ∧ C = false)
    (hK : ∀ h x, x = [] → K .ret ⟨[(2, AB true)], h, x⟩) :
    d_scanlaw2_LimitsTightened_k2 (ACall X) X.gl p_scanlaw2_LimitsTightened_k1 (ALim l) (ARec r) (AS t) (AI most) (AL vs) (AI e) (AI A) (AI B) (AB C) (AI f) (AI e) (AI f) v16 h [] K := by
  have e1 := @e_scanlaw2_LimitsTightened_k1
  by_cases hf : f = 0
  · have T := hT hf
    simp only [d_scanlaw2_LimitsTightened_k2, go_sem, hf, ↓T, T]
    rw [e1]
    simp only [aget, Nat.reduceEqDiff, if_true, if_false]
    exact law_k1 v16 vs A B C e 0 h h2 _ K hq hK rfl
  · obtain ⟨rfl, rfl, rfl⟩ := hF hf
    simp only [d_scanlaw2_LimitsTightened_k2, go_sem, hf]
    rw [e1]
    simp only [aget, Nat.reduceEqDiff, if_true, if_false]
    exact law_k1 v16 vs 0 0 false e f h h2 _ K hq hK rfl
set_option maxHeartbeats 4000000 in
theorem law_LT (L : List Int) {K : Post} : ACall X f_scanlaw2_LimitsTightened [AL L] [] K = K (AB true) [] [] := by
  refine rule ?_
  rw [c_scanlaw2_LimitsTightened rfl]
  obtain ⟨_, a1, ⟨b1, b2, l, hl1, hl2, hlb, rfl⟩, V⟩ := (g_LimitList (L := L) (a := 0) (by unfold posN; omega)).hd (l := [])
  have P1 := posAll (a := a1) (by unfold posN; omega)
  obtain ⟨n1, n2⟩ := rangeV_bd (u := 0) (v := 10) L a1 (by omega) (by omega)
  obtain ⟨n, hn⟩ := Int.eq_ofNat_of_zero_le n1
  obtain ⟨_, a2, ⟨b3, b4, r, hr1, hr2, rfl⟩, R⟩ := (g_Records (L := L) (a := a1 + 1) (by unfold posN; omega) l hl1 hl2 n (by omega)).hd (l := [])
  have P2 := posAll (a := a2) (by unfold posN; omega)
  have hl : LimOk l := ⟨by omega, fun x hx => (hlb x hx).k⟩
  have pm := pickV_mem (l := [0, 1, 2, 5, -1, 5000, 5001]) (L := L) (a := a2 + 1) (by simp) (by simp)
  simp only [List.mem_cons, List.not_mem_nil, or_false] at pm
  generalize hm : pickV [0, 1, 2, 5, -1, 5000, 5001] L (a2 + 1) = most at *
  obtain ⟨t, ht⟩ : ∃ t, pickS [[118, 111, 108, 116], [97, 109, 112], [104, 122], [122, 122]] L a2 = t := ⟨_, rfl⟩
  have S1 := fun h K => s_Values (h := h) (K := K) l r t hl hr2 (by omega)
  have S2 := fun h K => s_Tighter (h := h) (K := K) l r t most hl hr2 (by omega) (by omega)
  have S3 := fun h K => s_RecordsFault (h := h) (K := K) l r hl hr2 (by omega)
  have S4 := fun h K => s_TestAt (h := h) (K := K) l t (by omega)
  have S5 := fun e1 e2 h K => s_errs (h := h) (K := K) [e1, e2] (by simp)
  simp only [AL, List.map_cons, List.map_nil, firstErr] at S5
  have hw : IntKind.i64.wrap 0 = 0 := rfl
  unfold valuesV at S1
  generalize hrf : recsFault l r = E at *
  generalize hfk : findK l t = w at *
  have hb := findK_bd l t
  rw [hfk] at hb
  have e2 := @e_scanlaw2_LimitsTightened_k2
  have fin : ∀ (h : Heap) (x : Esc), x = [] → finR [.t 2] false (List.length ([] : Heap)) (fun v1 h1 x1 => v1 = AB true ∧ h1 = [] ∧ x1 = []) .ret ⟨[(2, AB true)], h, x⟩ := fun h x hx => by
    subst hx
    simp only [go_sem]
  have EQ0 := fun h K => s_EqualI (h := h) (K := K) [] [] (by simp)
  simp only [AL, List.map_nil, decide_true] at EQ0
  by_cases hE : E = 0
  · subst hE
    simp only [ne_eq, not_true_eq_false, if_false] at S1 S2
    by_cases hw0 : w < 0
    · simp only [hw0, if_true, AL, List.map_nil] at S1 S2
      have stop : ∀ K, (∀ h x, x = [] → K .ret ⟨[(2, AB true)], h, x⟩) → d_scanlaw2_LimitsTightened_k2 (ACall X) X.gl p_scanlaw2_LimitsTightened_k1 (ALim l) (ARec r) (AS t) (AI most) (.p (.sl none [])) (AI 8) (AI 0) (AI 0) (AB false) (AI 8) (AI 8) (AI 8) (.p (.sl none [])) [strm L (a2 + 1 + 1)] [] K :=
        fun K hK => law_k2 l r t most (.p (.sl none [])) [] 0 0 false 8 8 _ _ K (EQ0 _) (fun h => absurd h (by decide)) (fun _ => ⟨rfl, rfl, rfl⟩) hK
      by_cases hm1 : most < 0
      · simp only [d_scanlaw2_LimitsTightened, go_sem, P1, P2, ↓V, V, hn, ↓R, R, ht, hm, ↓S1, S1, ↓S2, S2, ↓S3, S3, ↓S4, S4, s_when, ↓S5, S5, hw0, hm1]
        rw [e2]
        simp only [aget, Nat.reduceEqDiff, if_true, if_false]
        exact stop _ fin
      · by_cases hm2 : 5000 < most
        · simp only [d_scanlaw2_LimitsTightened, go_sem, P1, P2, ↓V, V, hn, ↓R, R, ht, hm, ↓S1, S1, ↓S2, S2, ↓S3, S3, ↓S4, S4, s_when, ↓S5, S5, hw0, hm1, hm2]
          rw [e2]
          simp only [aget, Nat.reduceEqDiff, if_true, if_false]
          exact stop _ fin
        · simp only [d_scanlaw2_LimitsTightened, go_sem, P1, P2, ↓V, V, hn, ↓R, R, ht, hm, ↓S1, S1, ↓S2, S2, ↓S3, S3, ↓S4, S4, s_when, ↓S5, S5, hw0, hm1, hm2]
          rw [e2]
          simp only [aget, Nat.reduceEqDiff, if_true, if_false]
          exact stop _ fin
    · obtain ⟨k, hk⟩ := Int.eq_ofNat_of_zero_le (show 0 ≤ w by omega)
      have hk' : w = (k : Int) := hk
      subst hk'
      have S6 := fun h K => s_ValuesOf (h := h) (K := K) l r t hl k hfk (by omega)
      have hD : ∀ z, l.getD k z = l[k]'(by omega) := fun z => by rw [List.getD_eq_getElem?_getD, List.getElem?_eq_getElem (show k < l.length by omega)]; rfl
      have S7 := fun (hm : 0 ≤ most ∧ most ≤ 5000) h K => s_TighterOf (h := h) (K := K) l r t most hl (by omega) hrf k hfk hm
      simp only [hw0, if_false, Int.toNat_natCast] at S1 S2
      have hvl := valsAt_len k r
      generalize hvs : valsAt k r = vs at *
      generalize htv : tightV (sortedOf (l.getD k ⟨[], 0, 0, 0⟩) vs) most = T at *
      have EQ1 : ∀ K : Post, ACall X f_slices_Equal_int_int [AL vs, .own 1 vs.length 0 vs.length] [strm L (a2 + 1 + 1), .row none (vs.map eI) 0] K = K (AB true) (frz [strm L (a2 + 1 + 1), .row none (vs.map eI) 0] 1 vs.length) [] := fun K => by
        have := s_EqualOwn (h := [strm L (a2 + 1 + 1), .row none (vs.map eI) 0]) (K := K) vs vs 1 0 (by omega) rfl
        simpa using this
      by_cases hm1 : most < 0
      · have hin : inB 0 most 5000 = false := by simp [inB]; omega
        simp only [hin, if_true] at S2
        simp only [d_scanlaw2_LimitsTightened, go_sem, P1, P2, ↓V, V, hn, ↓R, R, ht, hm, ↓S1, S1, ↓S2, S2, ↓S3, S3, ↓S4, S4, s_when, ↓S5, S5, hw0, hm1, ↓S6, S6]
        rw [e2]
        simp only [aget, Nat.reduceEqDiff, if_true, if_false]
        exact law_k2 l r t most _ vs 0 0 false 0 1 _ _ _ EQ1 (fun h => absurd h (by decide)) (fun _ => ⟨rfl, rfl, rfl⟩) fin
      · by_cases hm2 : 5000 < most
        · have hin : inB 0 most 5000 = false := by simp [inB]; omega
          simp only [hin, if_true] at S2
          simp only [d_scanlaw2_LimitsTightened, go_sem, P1, P2, ↓V, V, hn, ↓R, R, ht, hm, ↓S1, S1, ↓S2, S2, ↓S3, S3, ↓S4, S4, s_when, ↓S5, S5, hw0, hm1, hm2, ↓S6, S6]
          rw [e2]
          simp only [aget, Nat.reduceEqDiff, if_true, if_false]
          exact law_k2 l r t most _ vs 0 0 false 0 1 _ _ _ EQ1 (fun h => absurd h (by decide)) (fun _ => ⟨rfl, rfl, rfl⟩) fin
        · have hin : inB 0 most 5000 = true := by simp [inB]; omega
          simp only [hin, reduceCtorEq, if_false] at S2
          simp only [d_scanlaw2_LimitsTightened, go_sem, P1, P2, ↓V, V, hn, ↓R, R, ht, hm, ↓S1, S1, ↓S2, S2, ↓S3, S3, ↓S4, S4, s_when, ↓S5, S5, hw0, hm1, hm2, ↓S6, S6]
          rw [e2]
          simp only [aget, Nat.reduceEqDiff, if_true, if_false]
          exact law_k2 l r t most _ vs T.1 T.2.1 T.2.2 0 0 _ _ _ EQ1 (fun _ h K => S7 ⟨by omega, by omega⟩ h K) (fun h => absurd rfl h) fin
  · simp only [hE, ne_eq, not_false_eq_true, if_true, AL, List.map_nil] at S1 S2
    have stop : ∀ K, (∀ h x, x = [] → K .ret ⟨[(2, AB true)], h, x⟩) → d_scanlaw2_LimitsTightened_k2 (ACall X) X.gl p_scanlaw2_LimitsTightened_k1 (ALim l) (ARec r) (AS t) (AI most) (.p (.sl none [])) (AI E) (AI 0) (AI 0) (AB false) (AI E) (AI E) (AI E) (.p (.sl none [])) [strm L (a2 + 1 + 1)] [] K :=
      fun K hK => law_k2 l r t most (.p (.sl none [])) [] 0 0 false E E _ _ K (EQ0 _) (fun h => absurd h hE) (fun _ => ⟨rfl, rfl, rfl⟩) hK
    by_cases hw0 : w < 0
    · by_cases hm1 : most < 0
      · simp only [d_scanlaw2_LimitsTightened, go_sem, P1, P2, ↓V, V, hn, ↓R, R, ht, hm, ↓S1, S1, ↓S2, S2, ↓S3, S3, ↓S4, S4, s_when, ↓S5, S5, hE, hw0, hm1]
        rw [e2]
        simp only [aget, Nat.reduceEqDiff, if_true, if_false]
        exact stop _ fin
      · by_cases hm2 : 5000 < most
        · simp only [d_scanlaw2_LimitsTightened, go_sem, P1, P2, ↓V, V, hn, ↓R, R, ht, hm, ↓S1, S1, ↓S2, S2, ↓S3, S3, ↓S4, S4, s_when, ↓S5, S5, hE, hw0, hm1, hm2]
          rw [e2]
          simp only [aget, Nat.reduceEqDiff, if_true, if_false]
          exact stop _ fin
        · simp only [d_scanlaw2_LimitsTightened, go_sem, P1, P2, ↓V, V, hn, ↓R, R, ht, hm, ↓S1, S1, ↓S2, S2, ↓S3, S3, ↓S4, S4, s_when, ↓S5, S5, hE, hw0, hm1, hm2]
          rw [e2]
          simp only [aget, Nat.reduceEqDiff, if_true, if_false]
          exact stop _ fin
    · by_cases hm1 : most < 0
      · simp only [d_scanlaw2_LimitsTightened, go_sem, P1, P2, ↓V, V, hn, ↓R, R, ht, hm, ↓S1, S1, ↓S2, S2, ↓S3, S3, ↓S4, S4, s_when, ↓S5, S5, hE, hw0, hm1]
        rw [e2]
        simp only [aget, Nat.reduceEqDiff, if_true, if_false]
        exact stop _ fin
      · by_cases hm2 : 5000 < most
        · simp only [d_scanlaw2_LimitsTightened, go_sem, P1, P2, ↓V, V, hn, ↓R, R, ht, hm, ↓S1, S1, ↓S2, S2, ↓S3, S3, ↓S4, S4, s_when, ↓S5, S5, hE, hw0, hm1, hm2]
          rw [e2]
          simp only [aget, Nat.reduceEqDiff, if_true, if_false]
          exact stop _ fin
        · simp only [d_scanlaw2_LimitsTightened, go_sem, P1, P2, ↓V, V, hn, ↓R, R, ht, hm, ↓S1, S1, ↓S2, S2, ↓S3, S3, ↓S4, S4, s_when, ↓S5, S5, hE, hw0, hm1, hm2]
          rw [e2]
          simp only [aget, Nat.reduceEqDiff, if_true, if_false]
          exact stop _ fin
end Go.Am
end
section
/- From a law that is true here to the model's calls at what came in. -/
open Go
namespace Go.Am
variable {P : Program}
/-- A call with whole numbers that came in: it returns true, and what was is as it was. -/
theorem law_nil {X : Ctx} (HX : Fits P X) (hgl : X.gl = fun _ => none) {f : Nat} {F : AFun} (hF : X.fn f = some F) (H : ∀ L : List Int, ACall X f [pints L] [] fun v _ _ => v = .p (.bool true)) (W : World) :
    Calls P f #[.slice none 0 0] W fun e W' => e = .returned (.bool true) ∧ RowKit.Below W.heap.size W W' := by
  refine (calls_of HX hF (H []) (W := W) (vs := [.slice none 0 0]) (fun n v hv => by rw [hgl] at hv; cases hv) rfl (fun j y v hy hv => ?_)).mono fun e W' he => ?_
  · cases j with
    | zero => cases hy; cases hv; exact came_nil W
    | succ j => cases hy
  · cases e with
    | returned r =>
      obtain ⟨⟨v, h, x, μ, hk, hr⟩, hb⟩ := he
      subst hk
      exact ⟨by rw [hr.p_bool], hb⟩
    | panicked _ => exact he.elim
    | outgrown => exact he.elim
theorem law_ints {X : Ctx} (HX : Fits P X) (hgl : X.gl = fun _ => none) {f : Nat} {F : AFun} (hF : X.fn f = some F) (H : ∀ L : List Int, ACall X f [pints L] [] fun v _ _ => v = .p (.bool true)) {W : World} {a : Addr} {len cap : Nat} {zs : List Int}
    (hl : len ≤ cap) (hz : len ≤ zs.length) (hc : ∀ i, i < zs.length → W.cell? (a.add i) = some (.int .i64 (zs.getD i 0))) :
    Calls P f #[.slice (some a) len cap] W fun e W' => e = .returned (.bool true) ∧ RowKit.Below W.heap.size W W' := by
  refine (calls_of HX hF (H (zs.take len)) (W := W) (vs := [.slice (some a) len cap]) (fun n v hv => by rw [hgl] at hv; cases hv) rfl (fun j y v hy hv => ?_)).mono fun e W' he => ?_
  · cases j with
    | zero =>
      cases hy; cases hv
      rcases Nat.eq_zero_or_pos len with h0 | h0
      · subst h0
        exact .p _ _ (.nils _ _ _)
      · exact came_ints (by simpa [Addr.add] using World.cell?_spot (hc 0 (by omega))) hl hz hc
    | succ j => cases hy
  · cases e with
    | returned r =>
      obtain ⟨⟨v, h, x, μ, hk, hr⟩, hb⟩ := he
      subst hk
      exact ⟨by rw [hr.p_bool], hb⟩
    | panicked _ => exact he.elim
    | outgrown => exact he.elim
end Go.Am
namespace Go.ChangeShapes
open Go.RowKit Go.WideShapes
section
variable {H : Type} {enc : TypeId × Value → H} {P : Program}
end
end Go.ChangeShapes
end
