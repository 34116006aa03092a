/- The abstract machine, part 15: append, copy. -/
import Derived.Test.YtajhbehiecgflaaAm14
set_option linter.unusedSimpArgs false
set_option linter.unusedVariables false
set_option maxHeartbeats 1000000
namespace Go.Am

variable {h h' : Heap} {μ μ' : Mu} {w w' : World} {P : Program} {M M' : Mem}

theorem splice_get' {α : Type} (cs vs : List α) (off j : Nat) (hl : off ≤ cs.length) : (splice cs off vs)[j]? = if off ≤ j ∧ j < off + vs.length then vs[j - off]? else cs[j]? := by
  unfold splice
  by_cases h1 : j < off
  · rw [List.getElem?_append_left (by simp; omega), List.getElem?_append_left (by simp; omega), List.getElem?_take, if_pos h1, if_neg (by omega)]
  · by_cases h2 : j < off + vs.length
    · rw [List.getElem?_append_left (by simp; omega), List.getElem?_append_right (by simp; omega), if_pos (by omega)]
      simp [Nat.min_eq_left hl]
    · rw [List.getElem?_append_right (by simp; omega), if_neg (by omega), List.getElem?_drop]
      congr 1
      simp
      omega

theorem splice_len' {α : Type} (cs vs : List α) (off : Nat) (hl : off ≤ cs.length) : (splice cs off vs).length = max cs.length (off + vs.length) := by
  unfold splice; simp; omega

theorem splice_end {α : Type} (cs vs : List α) : splice cs cs.length vs = cs ++ vs := by
  unfold splice; simp

theorem CRow.one {sh : Sh} {ys : List PV} {c : List Value} (H : CRow M sh ys c) : ∀ v ∈ c, v.oneCell' = true := by
  intro v hv
  obtain ⟨j, hj, e⟩ := List.getElem_of_mem hv
  have he : ∀ x ∈ ys, x.cells.length = shSize sh := fun x hx => shp_cells (H.2.1 x hx)
  have hlt : j < (ys.flatMap PV.cells).length := by rw [flat_len he, ← H.1]; exact hj
  have hy := List.getElem?_eq_getElem hlt
  obtain ⟨x, h1, h2, _, _⟩ := flat_split he hy
  have hs := shp_sc (H.2.1 x (List.mem_of_getElem? h1)) _ (List.mem_of_getElem? h2)
  obtain ⟨v', h3, h4⟩ := H.2.2 j _ hy
  rw [List.getElem?_eq_getElem hj, e] at h3
  injection h3 with h3
  subst h3
  exact sc_one (h := []) (μ := []) (.p _ _ h4) hs

/-- Elements written into a row, or behind its end. -/
theorem row_write {id at_ : Nat} {sh : Sh} {xs ys : List PV} {fz b n : Nat} {c : Array Value} {vs : List Value} (H : HeapRel h μ w) (ho : h[id]? = some (.row sh xs fz)) (hm : μ[id]? = some (some (b, n)))
    (hB : Block w b n c) (hR : CRow (imm h μ w) sh ys vs) (hfz : fz ≤ at_) (hat : at_ ≤ xs.length) (hn : (at_ + ys.length) * shSize sh ≤ n) :
    ∃ w', (storeCells ⟨b, at_ * shSize sh, none⟩ vs).run P w = .ok () w' ∧ HeapRel (h.set id (.row sh (splice xs at_ ys) fz)) μ w' ∧
      Evo (imm h μ w) h μ (imm (h.set id (.row sh (splice xs at_ ys) fz)) μ w') (h.set id (.row sh (splice xs at_ ys) fz)) μ ∧ EscInv h (h.set id (.row sh (splice xs at_ ys) fz)) [] := by
  obtain ⟨k1, k2, c', hB', hn', hcell⟩ := H.obj id _ _ ho hm
  have hcc : c' = c := by
    obtain ⟨_, E, lo, hi, e1, _⟩ := hB
    obtain ⟨_, E', lo', hi', e2, _⟩ := hB'
    rw [e1] at e2; injection e2 with e2; injection e2 with e2; exact e2.symm
  subst hcc
  have hmul : (at_ + ys.length) * shSize sh = at_ * shSize sh + ys.length * shSize sh := Nat.add_mul _ _ _
  obtain ⟨E, lo, hi, g1, g2⟩ := run_storeCells (P := P) (o := at_ * shSize sh) vs w c' 0 hB (by rw [hR.1]; omega) hR.one
  simp only [Nat.add_zero] at g2
  have hlo : lo < hi → n ≤ lo := by
    obtain ⟨_, E', lo', hi'', q1, q2⟩ := hB
    rw [g1] at q1; injection q1 with q1; injection q1 with _ _ q3; injection q3 with q3 q4; subst q3; subst q4; exact q2
  have hsz : at_ * shSize sh + vs.length ≤ c'.size := by rw [hB.1, hR.1]; omega
  have hμ : μ.set id (some (b, n)) = μ := set_eq_self hm
  have he : ∀ x ∈ ys, x.cells.length = shSize sh := fun x hx => shp_cells (hR.2.1 x hx)
  have key := H.set (w' := setBlk w b (.cells (setAll c' (at_ * shSize sh) vs) E (lo, hi))) (o' := .row sh (splice xs at_ ys) fz) (m' := some (b, n)) ho hm ⟨_, fz, rfl, by rw [splice_len' _ _ _ hat]; omega, fun _ => rfl⟩
    rfl (Nat.le_of_eq (setBlk_size _ _).symm) (fun b' _ hb' => setBlk_ne (fun e => hb' n (by rw [e])))
    (fun b' n e => .inl ⟨n, e⟩) (fun b' n' sh2 xs2 fz2 e1 e2 => by
      injection e2 with e2 e3 e4
      subst e2; subst e3; subst e4
      injection e1 with e1; injection e1 with e1 _; subst e1
      refine ⟨_, fz, rfl, fun j hj => ⟨?_, fun _ _ => hj⟩⟩
      have hB' : Block (setBlk w b (.cells (setAll c' (at_ * shSize sh) vs) E (lo, hi))) b n (setAll c' (at_ * shSize sh) vs) := ⟨by rw [setAll_size, hB.1], E, lo, hi, setBlk_at g1, hlo⟩
      rw [cell_of_block hB', cell_of_block hB, setAll_get _ _ _ _ hsz, if_neg]
      have : fz * shSize sh ≤ at_ * shSize sh := Nat.mul_le_mul_right _ hfz
      omega)
    (fun M' Ev => by
      refine ⟨by rw [splice_len' _ _ _ hat]; omega, fun z hz => ?_, setAll c' (at_ * shSize sh) vs, ⟨by rw [setAll_size, hB.1], E, lo, hi, setBlk_at g1, hlo⟩, ?_, fun i2 j z u hz hu => ?_⟩
      · simp only [splice, List.mem_append] at hz
        rcases hz with (hz | hz) | hz
        · exact k2 z (List.mem_of_mem_take hz)
        · exact hR.2.1 z hz
        · exact k2 z (List.mem_of_mem_drop hz)
      · rw [splice_len' _ _ _ hat]
        rcases Nat.le_total xs.length (at_ + ys.length) with q | q
        · rw [Nat.max_eq_right q]; exact hn
        · rw [Nat.max_eq_left q]; exact hn'
      · rw [splice_get' _ _ _ _ hat] at hz
        rw [setAll_get _ _ _ _ hsz]
        split at hz
        · rename_i hi2
          have hj : j < shSize sh := by
            have := he z (List.mem_of_getElem? hz); have := lt_of_get hu; omega
          have hfl := flat_get he (i2 - at_) j hj
          rw [hz] at hfl
          simp only [Option.bind_some, hu] at hfl
          obtain ⟨v, q1, q2⟩ := hR.2.2 _ u hfl
          have hidx : i2 * shSize sh + j - at_ * shSize sh = (i2 - at_) * shSize sh + j := by
            have : i2 * shSize sh = at_ * shSize sh + (i2 - at_) * shSize sh := by rw [← Nat.add_mul]; congr 1; omega
            omega
          have hlt := lt_of_get q1
          have hge : at_ * shSize sh ≤ i2 * shSize sh := Nat.mul_le_mul_right _ hi2.1
          rw [if_pos ⟨by omega, by omega⟩, hidx]
          exact ⟨v, q1, q2.mono Ev.le⟩
        · rename_i hi2
          have hj : j < shSize sh := by
            have := shp_cells (k2 z (List.mem_of_getElem? hz)); have := lt_of_get hu; omega
          rw [if_neg]
          · obtain ⟨v, q1, q2⟩ := hcell i2 j z u hz hu
            exact ⟨v, q1, q2.mono Ev.le⟩
          · rintro ⟨q1, q2⟩
            apply hi2
            rw [hR.1] at q2
            constructor
            · rcases Nat.lt_or_ge i2 at_ with q | q
              · have : (i2 + 1) * shSize sh ≤ at_ * shSize sh := Nat.mul_le_mul_right _ q
                rw [Nat.add_mul, Nat.one_mul] at this
                omega
              · exact q
            · rcases Nat.lt_or_ge i2 (at_ + ys.length) with q | q
              · exact q
              · have : (at_ + ys.length) * shSize sh ≤ i2 * shSize sh := Nat.mul_le_mul_right _ q
                omega)
  rw [hμ] at key
  exact ⟨_, g2, key.1, key.2, EscInv.set ho (by simp [Obj.top])⟩

/-- A row of new memory: the old elements, the new ones, room. -/
theorem RRow.join {sh : Sh} {xs ys : List PV} {old c rest : Array Value} (H1 : CRow M sh xs old.toList) (H2 : CRow M sh ys c.toList) : RRow M sh (xs ++ ys) (old ++ c ++ rest) := by
  have h1 : old.size = xs.length * shSize sh := by simpa using H1.1
  have h2 : c.size = ys.length * shSize sh := by simpa using H2.1
  have e1 : ∀ x ∈ xs, x.cells.length = shSize sh := fun x hx => shp_cells (H1.2.1 x hx)
  have e2 : ∀ x ∈ ys, x.cells.length = shSize sh := fun x hx => shp_cells (H2.2.1 x hx)
  refine ⟨by simp [h1, h2, Nat.add_mul], fun x hx => ?_, fun i j x y hx hy => ?_⟩
  · rcases List.mem_append.1 hx with hx | hx
    · exact H1.2.1 x hx
    · exact H2.2.1 x hx
  · rcases Nat.lt_or_ge i xs.length with hi | hi
    · rw [List.getElem?_append_left hi] at hx
      have hj : j < shSize sh := by have := e1 x (List.mem_of_getElem? hx); have := lt_of_get hy; omega
      have hf := flat_get e1 i j hj
      rw [hx] at hf
      simp only [Option.bind_some, hy] at hf
      obtain ⟨v, q1, q2⟩ := H1.2.2 _ y hf
      have := lt_of_get q1
      refine ⟨v, ?_, q2⟩
      rw [Array.getElem?_append_left (by simp at this ⊢; omega), Array.getElem?_append_left (by simpa using this)]
      simpa using q1
    · rw [List.getElem?_append_right hi] at hx
      have hj : j < shSize sh := by have := e2 x (List.mem_of_getElem? hx); have := lt_of_get hy; omega
      have hf := flat_get e2 (i - xs.length) j hj
      rw [hx] at hf
      simp only [Option.bind_some, hy] at hf
      obtain ⟨v, q1, q2⟩ := H2.2.2 _ y hf
      have hlt := lt_of_get q1
      have hidx : i * shSize sh + j = xs.length * shSize sh + ((i - xs.length) * shSize sh + j) := by
        have : i * shSize sh = xs.length * shSize sh + (i - xs.length) * shSize sh := by rw [← Nat.add_mul]; congr 1; omega
        omega
      refine ⟨v, ?_, q2⟩
      simp only [Array.length_toList] at hlt
      rw [hidx, Array.getElem?_append_left (by simp; omega), Array.getElem?_append_right (by omega), h1, Nat.add_sub_cancel_left]
      simpa using q1

theorem chkApp_sl {sh : Sh} {t u : TypeId} (hc : chkApp P sh t u = true) : shSize sh ≠ 0 := by
  unfold chkApp at hc
  split at hc
  · simp only [Bool.and_eq_true, decide_eq_true_eq] at hc
    exact hc.1.2
  · cases hc

/-- An append that grows: a new block, whichever row it is for. -/
theorem grow_run {sh : Sh} {t u ty : TypeId} (hc : chkApp P sh t u = true) {base : Option Addr} {sCap : Nat} {x : Value} {v : AV} {xs ys : List PV} (H : HeapRel h μ w) (R : RAV (imm h μ w) h μ v x) (hr : rds h v = some (sh, ys))
    (hroom : sCap < xs.length + ys.length) (hn : xs.length + ys.length ≤ maxSl) {v0 : AV} (R0 : RAV (imm h μ w) h μ v0 (.slice base xs.length sCap)) (hr0 : rds h v0 = some (sh, xs)) :
    ∃ newCap n w' c, xs.length + ys.length ≤ newCap ∧ newCap * shSize sh = n ∧ (Builtin.append_ #[t, u] ty #[.slice base xs.length sCap, x]).run P w = .ok (.slice (some ⟨w.heap.size, 0, none⟩) (xs.length + ys.length) newCap) w' ∧
      WExt w w' ∧ w.heap.size < w'.heap.size ∧ Block w' w.heap.size n c ∧ RRow (imm h μ w) sh (xs ++ ys) c := by
  have S := src_sound (P := P) H R hr
  obtain ⟨c, hck, hc2⟩ := S.2 ys.length (Nat.le_refl _)
  rw [List.take_length] at hc2
  obtain ⟨old, hok, ho2⟩ := (src_sound (P := P) H R0 hr0).2 xs.length (Nat.le_refl _)
  rw [List.take_length] at ho2
  obtain ⟨e, newCap, rest, h1, h2, h3⟩ := run_append_grow' (ty := ty) hc S.1 hck hroom hn hok
  have hxs : xs.length * shSize sh = old.size := by rw [← ho2.1]; simp
  have hys : ys.length * shSize sh = c.size := by rw [← hc2.1]; simp
  have hsz : newCap * shSize sh = (old ++ c ++ rest).size := by
    simp only [Array.size_append, ← hxs, ← hys, h2, Nat.sub_mul, Nat.add_mul]
    have := Nat.mul_le_mul_right (shSize sh) h1
    rw [Nat.add_mul] at this
    omega
  exact ⟨newCap, _, _, old ++ c ++ rest, h1, hsz, h3, ⟨by simp, fun b hb => by simp [Array.getElem?_push, Nat.ne_of_lt hb], rfl⟩, by simp, ⟨rfl, e, 0, 0, by simp, fun h => by omega⟩, RRow.join ho2 hc2⟩

theorem app_ok {sh : Sh} {t u ty : TypeId} (hc : chkApp P sh t u = true) {ev : Opd → AV} {p q : Opd} {s x : Value} {v : AV} {h1 : Heap} {e : Esc} (H : HeapRel h μ w) (Rs : RAV (imm h μ w) h μ (ev p) s) (Rx : RAV (imm h μ w) h μ (ev q) x)
    (he : aop (.app sh p q) ev h = some (v, h1, e)) : OpOk P (do pure (.value (← Builtin.append_ #[t, u] ty #[s, x]))) h μ w v h1 e := by
  simp only [aop] at he
  split at he
  · rename_i sh' ys hr
    split at he
    · rename_i hsh
      subst hsh
      have S := src_sound (P := P) H Rx hr
      obtain ⟨c, hck, hc2⟩ := S.2 ys.length (Nat.le_refl _)
      rw [List.take_length] at hc2
      have hck0 : (Builtin.firstCells (shSize sh') ys.length x).run P w = .ok c w := hck w.drawn
      split at he
      · rename_i sh0 hs0
        split at he
        · rename_i hmax
          simp at he
          obtain ⟨rfl, rfl, rfl⟩ := he
          rw [hs0] at Rs
          obtain ⟨a, rfl⟩ := sl0_inv Rs
          by_cases hz : ys.length = 0
          · have hy0 : ys = [] := List.length_eq_zero_iff.1 hz
            subst hy0
            have hrun := run_append_room' (ty := ty) (base := a) (sLen := 0) (sCap := 0) hc S.1 hck0 (by simp) (w' := w) (by
              have : c.toList = [] := by apply List.length_eq_zero_iff.1; rw [hc2.1]; simp
              cases a with
              | none => rfl
              | some a => rw [this]; rfl)
            obtain ⟨n1, n2⟩ := newNil H sh'
            refine ⟨_, _, _, run_v hrun, .inl ⟨_, rfl, ?_⟩, n1, n2, EscInv.push (by simp [Obj.top])⟩
            exact .own h.length 0 0 0 _ 0 sh' [] 0 none (Nat.le_refl _) (by simp) (by rw [← H.len]; simp) (by simp) (by simp) (fun _ => rfl)
          · obtain ⟨newCap, n, w', c', g1, g2, g3, g4, g5, g6, g7⟩ := grow_run (ty := ty) (base := a) (sCap := 0) (xs := []) (v0 := .sl0 sh') hc H Rx hr (by simp; omega) (by simpa using hmax) (.sl0 sh' a) rfl
            simp only [List.nil_append, List.length_nil, Nat.zero_add] at g1 g3 g7
            obtain ⟨n1, n2⟩ := newRow' H g4 (Nat.le_refl _) g5 g6 (by rw [← g2]; exact Nat.mul_le_mul_right _ g1) g7.2.1 g7.2.2
            refine ⟨_, _, _, run_v g3, .inl ⟨_, rfl, ?_⟩, n1, n2, EscInv.push (by simp [Obj.top])⟩
            refine .own h.length ys.length 0 ys.length _ newCap sh' ys 0 (some (w.heap.size, n)) g1 (by simp) (by rw [← H.len]; simp) (by simp) (by simp) (fun _ => ?_)
            right
            exact ⟨by simp, by rw [← g2]; simp⟩
        · cases he
      · rename_i id g off len hs0
        split at he
        · rename_i rsh xs fz ho
          split at he
          · rename_i hcond
            obtain ⟨rfl, hg, rfl, hlen, hmax⟩ := hcond
            simp at he
            obtain ⟨rfl, rfl, rfl⟩ := he
            rw [hs0] at Rs
            have RR := own_read H Rs ho hg
            obtain ⟨_, k2, a, cap, rfl, hlc, hcap⟩ := RR
            obtain ⟨m, hm, hO⟩ := obj_at H ho
            obtain ⟨kf, _, kO⟩ := hO
            subst hlen
            subst hg
            by_cases hroom : xs.length + ys.length ≤ cap
            · by_cases hc0 : 0 < cap
              · obtain ⟨b, n, c', hm', rfl, hB, hn1, hn2, hcell⟩ := hcap hc0
                simp only [Nat.zero_mul, Nat.zero_add] at hn1
                obtain ⟨w', r1, r2, r3, r4⟩ := row_write (P := P) (at_ := xs.length) H ho hm' hB hc2 kf (Nat.le_refl _) (Nat.le_trans (Nat.mul_le_mul_right _ hroom) hn1)
                rw [splice_end] at r2 r3 r4
                have hrun := run_append_room' (ty := ty) (base := some ⟨b, 0 * shSize rsh, none⟩) (sLen := xs.length) (sCap := cap) hc S.1 hck0 hroom (w' := w') (by simpa [add_at] using r1)
                refine ⟨_, _, _, run_v hrun, .inl ⟨_, rfl, ?_⟩, r2, r3, r4⟩
                refine .own id (xs.length + ys.length) 0 (xs.length + ys.length) _ cap rsh (xs ++ ys) fz (some (b, n)) hroom (set_same ho) hm' (by simp) (by simp) (fun _ => ?_)
                right
                exact ⟨rfl, by simpa using hn1⟩
              · have hx0 : xs = [] := by apply List.length_eq_zero_iff.1; omega
                have hy0 : ys = [] := by apply List.length_eq_zero_iff.1; omega
                subst hx0; subst hy0
                have hcap0 : cap = 0 := by omega
                subst hcap0
                have hrun := run_append_room' (ty := ty) (base := a) (sLen := 0) (sCap := 0) hc S.1 hck0 (by simp) (w' := w) (by
                  have : c.toList = [] := by apply List.length_eq_zero_iff.1; rw [hc2.1]; simp
                  cases a with
                  | none => rfl
                  | some a => rw [this]; rfl)
                have hs : h.set id (.row rsh ([] ++ []) fz) = h := set_eq_self ho
                rw [hs]
                refine ⟨_, _, _, run_v hrun, .inl ⟨_, rfl, ?_⟩, H, Evo.refl _ _ _, EscInv.refl _ _⟩
                exact .own id 0 0 0 _ 0 rsh [] fz m (Nat.le_refl _) ho hm (by simp) (by simp) (fun _ => by cases m with | none => rfl | some m => exact .inl rfl)
            · have hr0 : rds h (.own id xs.length 0 xs.length) = some (rsh, xs) := by simp [rds, rd, ho, win]
              obtain ⟨newCap, n, w', c', g1, g2, g3, g4, g5, g6, g7⟩ := grow_run (ty := ty) (base := a) (sCap := cap) (xs := xs) (v0 := .own id xs.length 0 xs.length) hc H Rx hr (by omega) hmax Rs hr0
              have hpos : 0 < ys.length := by omega
              have key := H.set (w' := w') (o' := .row rsh (xs ++ ys) fz) (m' := some (w.heap.size, n)) ho hm ⟨xs ++ ys, fz, rfl, by simp, fun hl => by rw [List.length_append] at hl; omega⟩
                g4.zz g4.1 (fun b hb _ => g4.2 b hb) (fun b n' e => by injection e with e; injection e with e1 e2; subst e1; exact .inr ⟨Nat.le_refl _, g5⟩)
                (fun b n' sh2 xs2 fz2 e1 e2 => by
                  injection e2 with e2 e3 e4
                  subst e2; subst e3; subst e4
                  refine ⟨_, fz, rfl, fun j hj => ⟨cell_of_heap (g4.2 b (H.inside id b n' (e1 ▸ hm))), fun n'' e3 => hj⟩⟩)
                (fun M' Ev => by
                  refine ⟨by simp; omega, g7.2.1, c', g6, ?_, fun i j x y hx hy => ?_⟩
                  · rw [← g2]; exact Nat.mul_le_mul_right _ (by simpa using g1)
                  · obtain ⟨v, q1, q2⟩ := g7.2.2 i j x y hx hy
                    exact ⟨v, q1, q2.mono Ev.le⟩)
              refine ⟨_, _, _, run_v g3, .inl ⟨_, rfl, ?_⟩, key.1, key.2, EscInv.set ho (by simp [Obj.top])⟩
              refine .own id (xs.length + ys.length) 0 (xs.length + ys.length) _ newCap rsh (xs ++ ys) fz (some (w.heap.size, n)) g1 (set_same ho) (set_same hm) (by simp) (by simp) (fun _ => ?_)
              right
              exact ⟨by simp, by rw [← g2]; simp⟩
          · cases he
        · cases he
      · cases he
    · cases he
  · cases he

def chkCopy (P : Program) (sh : Sh) (t : TypeId) : Bool := match P.underlying t with
  | some (.slice e) => shOf P e == some sh
  | _ => false

theorem copy_ok {sh : Sh} {t ty : TypeId} {ts : List TypeId} (hc : chkCopy P sh t = true) {ev : Opd → AV} {p q : Opd} {s x : Value} {v : AV} {h1 : Heap} {e : Esc} (H : HeapRel h μ w) (Rd : RAV (imm h μ w) h μ (ev p) s) (Rx : RAV (imm h μ w) h μ (ev q) x)
    (he : aop (.copy sh p q) ev h = some (v, h1, e)) : OpOk P (do pure (.value (← Builtin.copy_ (t :: ts).toArray ty #[s, x]))) h μ w v h1 e := by
  unfold chkCopy at hc
  split at hc
  · rename_i el hu
    simp only [beq_iff_eq] at hc
    simp only [aop] at he
    split at he
    · rename_i id g off len sh' ys hd hr
      split at he
      · rename_i rsh xs fz ho
        split at he
        · rename_i hcond
          obtain ⟨rfl, rfl, hg, hol, hfz⟩ := hcond
          simp at he
          obtain ⟨rfl, rfl, rfl⟩ := he
          rw [hd] at Rd
          obtain ⟨_, k2, a, cap, rfl, hlc, hcap⟩ := own_read H Rd ho hg
          have S := src_sound (P := P) H Rx hr
          obtain ⟨c, hck, hc2⟩ := S.2 (min ys.length len) (Nat.min_le_left _ _)
          have hck0 : (Builtin.firstCells (shSize sh') (min ys.length len) x).run P w = .ok c w := hck w.drawn
          have hrun : ∀ w', (match a with | some a => storeCells a c.toList | none => (pure () : Sem Unit)).run P w = .ok () w' → (Builtin.copy_ (t :: ts).toArray ty #[.slice a len cap, x]).run P w = .ok (goInt ((min ys.length len : Nat) : Int)) w' := by
            intro w' hst
            have hmin : Nat.min ys.length len = min ys.length len := rfl
            cases a with
            | none =>
              have hw : w' = w := by simpa using hst.symm
              subst hw
              simp only [Builtin.copy_, List.getElem?_toArray, List.getElem?_cons_zero, List.getElem?_cons_succ, Sem.run_bind, run_underlying_of hu, Result.andThen_ok, S.1, run_sizeOf_of hc, Sem.run_pure, hmin, hck0]
            | some a =>
              simp only at hst
              simp only [Builtin.copy_, List.getElem?_toArray, List.getElem?_cons_zero, List.getElem?_cons_succ, Sem.run_bind, run_underlying_of hu, Result.andThen_ok, S.1, run_sizeOf_of hc, Sem.run_pure, hmin, hck0, hst]
          by_cases hc0 : 0 < cap
          · obtain ⟨b, n, c', hm', rfl, hB, hn1, hn2, hcell⟩ := hcap hc0
            obtain ⟨w', r1, r2, r3, r4⟩ := row_write (P := P) (at_ := off) H ho hm' hB hc2 hfz (by omega) (Nat.le_trans (Nat.mul_le_mul_right _ (by simp; omega)) hn1)
            exact ⟨_, _, _, run_v (hrun w' r1), .inl ⟨_, rfl, RAV.pint _⟩, r2, r3, r4⟩
          · have hl0 : len = 0 := by omega
            subst hl0
            have hcl : c.toList = [] := by apply List.length_eq_zero_iff.1; rw [hc2.1]; simp
            have hs : h.set id (.row sh' (splice xs off (ys.take (min ys.length 0))) fz) = h := by
              have : splice xs off (ys.take (min ys.length 0)) = xs := by simp [splice]
              rw [this]
              exact set_eq_self ho
            rw [hs]
            refine OpOk.pure H (run_v (hrun w ?_)) (RAV.pint _)
            cases a <;> simp [hcl, storeCells]
        · cases he
      · cases he
    · cases he
  · cases hc

end Go.Am
