/- The abstract machine, part 10: each operation does in the model what it does here (third lot: stores, addresses, comparisons). -/
import Derived.Test.YtajhbehiecgflaaAm9
set_option linter.unusedSimpArgs false
set_option linter.unusedVariables false
namespace Go.Am

variable {h h' : Heap} {μ μ' : Mu} {w w' : World} {P : Program} {M : Mem}

theorem run_storeAt {t : TypeId} {sh : Sh} (hs : shOf P t = some sh) {b o n : Nat} {c : Array Value} {x : Value} (hB : Block w b n c) (hsz : x.cells.size = shSize sh) (hn : o + x.cells.size ≤ n)
    (hone : ∀ v ∈ x.cells.toList, v.oneCell' = true) :
    ∃ E lo hi, w.heap[b]? = some (.cells c E (lo, hi)) ∧ (Instr.storeAt t (.pointer (some ⟨b, o, none⟩)) x).run P w = .ok () (setBlk w b (.cells (setAll c o x.cells.toList) E (lo, hi))) := by
  obtain ⟨E, lo, hi, h1, h2⟩ := run_storeCells (P := P) x.cells.toList w c 0 hB (by simpa using hn) hone
  refine ⟨E, lo, hi, h1, ?_⟩
  unfold Instr.storeAt Instr.sureAddr storeVar
  simp only [Sem.run_bind, Sem.run_pure, Result.andThen_ok, run_sizeOf_of hs]
  rw [if_neg (by simp [hsz])]
  simpa using h2

theorem ok_skip {s : Sem Unit} {h' : Heap} {μ' : Mu} {w' : World} {x : Esc} (hr : s.run P w = .ok () w') (H : HeapRel h' μ' w') (E : Evo (imm h μ w) h μ (imm h' μ' w') h' μ') (hx : EscInv h h' x) :
    OpOk P (do s; pure .skip) h μ w .und h' x := ⟨_, w', μ', run_u hr, .inr ⟨rfl, rfl⟩, H, E, hx⟩

theorem set_eq_self {α : Type} {l : List α} {i : Nat} {x : α} (hx : l[i]? = some x) : l.set i x = l := by
  apply List.ext_getElem?
  intro j
  by_cases e : i = j
  · subst e; rw [set_same hx, hx]
  · rw [List.getElem?_set_ne e]

theorem store_box {t : TypeId} {sh : Sh} (hs : shOf P t = some sh) {id off : Nat} {cs vs : List AV} {v : AV} {a x : Value} (H : HeapRel h μ w) (R : RAV (imm h μ w) h μ (.ref id off) a) (Rv : RAV (imm h μ w) h μ v x)
    (ho : h[id]? = some (.box cs)) (hv : v.cells = some vs) (hl : vs.length = shSize sh) (hb : off + vs.length ≤ cs.length) :
    OpOk P (do Instr.storeAt t a x; pure .skip) h μ w .und (h.set id (.box (splice cs off vs))) (escOf id v) := by
  obtain ⟨m, hm, b, c, rfl, hB, hc⟩ := obj_at H ho
  cases R with | ref _ _ b' n cs' ho' hm' =>
  rw [hm] at hm'
  injection hm' with hm'
  injection hm' with hm'
  injection hm' with e1 e2
  subst e1
  obtain ⟨s1, s2⟩ := cells_sound Rv hv
  have hone : ∀ u ∈ x.cells.toList, u.oneCell' = true := by
    intro u hu
    obtain ⟨j, hj⟩ := List.getElem?_of_mem hu
    have hj2 : j < vs.length := by have := lt_of_get hj; simpa [s1] using this
    obtain ⟨h1, u', h2, h3⟩ := s2 j vs[j] (List.getElem?_eq_getElem hj2)
    rw [Array.getElem?_toList, h2] at hj
    injection hj with hj
    subst hj
    exact sc_one h3 h1
  obtain ⟨E, lo, hi, g1, g2⟩ := run_storeAt hs hB (by rw [s1, hl]) (by rw [s1]; exact hb) hone
  have hcs : RCells (imm h μ w) h μ cs c := ⟨hB.1, fun j y hy => by obtain ⟨_, u, p, q⟩ := hc j y hy; exact ⟨u, p, q⟩⟩
  have hnew := hcs.splice (xs := x.cells.toList) (by simp [s1]) hb (fun j y hy => by obtain ⟨_, u, p, q⟩ := s2 j y hy; exact ⟨u, by simpa using p, q⟩)
  have hμ : μ.set id (some (b, cs.length)) = μ := set_eq_self hm
  have hlo : lo < hi → cs.length ≤ lo := by
    obtain ⟨_, E', lo', hi', q1, q2⟩ := hB
    rw [g1] at q1; injection q1 with q1; injection q1 with _ _ q3; injection q3 with q3 q4; subst q3; subst q4; exact q2
  have key := H.set (w' := setBlk w b (.cells (setAll c off x.cells.toList) E (lo, hi))) (o' := .box (splice cs off vs)) (m' := some (b, cs.length)) ho hm ⟨⟨_, rfl⟩, rfl⟩
    rfl (Nat.le_of_eq (setBlk_size _ _).symm) (fun b' _ hb' => setBlk_ne (fun e => hb' cs.length (by rw [e])))
    (fun b' n e => .inl ⟨n, e⟩) (fun b' n sh xs fz _ e => by cases e)
    (fun M' Ev => ⟨b, setAll c off x.cells.toList, by rw [splice_length _ _ _ hb], ⟨by rw [setAll_size, hB.1, splice_length _ _ _ hb], E, lo, hi, setBlk_at g1, by rw [splice_length _ _ _ hb]; exact hlo⟩, fun j y hy => by
      obtain ⟨u, p, q⟩ := hnew.2 j y hy
      refine ⟨?_, u, p, q.evo Ev⟩
      rw [splice_get _ _ _ _ hb] at hy
      split at hy
      · exact (s2 _ y hy).1
      · exact (hc j y hy).1⟩)
  rw [hμ] at key
  refine ok_skip g2 key.1 key.2 (EscInv.set ho ?_)
  have := tops_splice cs vs off
  have := cells_top hv
  have := escTop_escOf id v
  simp only [Obj.top]
  omega

theorem pcells_sound {v : PV} {x : Value} (R : RPV M v x) (hs : v.cells.all PV.sc = true) :
    x.cells.size = v.cells.length ∧ (∀ (j : Nat) (y : PV), v.cells[j]? = some y → ∃ u, x.cells[j]? = some u ∧ RPV M y u) ∧ ∀ u ∈ x.cells.toList, u.oneCell' = true := by
  have hc : ∃ cs, (AV.p v).cells = some cs ∧ cs = v.cells.map .p := by
    cases v <;> simp [AV.cells, PV.cells]
    intro y hy
    rw [List.all_eq_true] at hs
    exact hs y (by simpa [PV.cells] using hy)
  obtain ⟨cs, h1, h2⟩ := hc
  obtain ⟨s1, s2⟩ := cells_sound (h := []) (μ := []) (.p v x R) h1
  subst h2
  refine ⟨by simpa using s1, fun j y hy => ?_, fun u hu => ?_⟩
  · obtain ⟨_, u, h3, h4⟩ := s2 j (.p y) (by simp [hy])
    exact ⟨u, h3, h4.p_inv⟩
  · obtain ⟨j, hj⟩ := List.getElem?_of_mem hu
    have hj2 : j < v.cells.length := by have := lt_of_get hj; simpa [s1] using this
    obtain ⟨h3, u', h4, h5⟩ := s2 j (.p v.cells[j]) (by simp [hj2])
    rw [Array.getElem?_toList, h4] at hj
    injection hj with hj
    subst hj
    exact sc_one h5 h3

theorem row_apart {i i' e j k : Nat} (hne : i ≠ i') (hj : j < e) (hk : k < e) : i * e + j ≠ i' * e + k := by
  intro hE
  rcases Nat.lt_or_ge i i' with h | h
  · have : (i + 1) * e ≤ i' * e := Nat.mul_le_mul_right _ h
    rw [Nat.add_mul, Nat.one_mul] at this
    omega
  · have : (i' + 1) * e ≤ i * e := Nat.mul_le_mul_right _ (by omega)
    rw [Nat.add_mul, Nat.one_mul] at this
    omega

/-- One element of a row written (whole or in part). -/
theorem store_row {t : TypeId} {sh : Sh} (hs : shOf P t = some sh) {id g i off : Nat} {xs : List PV} {rsh : Sh} {fz : Nat} {v y y' : PV} {a x : Value} (H : HeapRel h μ w) (R : RAV (imm h μ w) h μ (.rref id g i off) a) (Rv : RPV (imm h μ w) v x)
    (ho : h[id]? = some (.row rsh xs fz)) (hg : g = xs.length) (hfz : fz ≤ i) (hl : v.cells.length = shSize sh) (hsc : v.cells.all PV.sc = true) (hy : xs[i]? = some y)
    (hb : off + v.cells.length ≤ y.cells.length) (hy' : y'.cells = splice y.cells off v.cells) (hshp : y'.shp rsh = true) :
    OpOk P (do Instr.storeAt t a x; pure .skip) h μ w .und (h.set id (.row rsh (xs.set i y') fz)) [] := by
  obtain ⟨m, hm, k1, k2, k3⟩ := obj_at H ho
  cases R with | rref _ _ _ _ a' sh' xs' fz' m' ho' hm' hgg hi hval =>
  rw [ho] at ho'; injection ho' with ho'; injection ho' with e1 e2 e3
  subst e1; subst e2; subst e3
  rw [hm] at hm'; injection hm' with hm'; subst hm'
  obtain ⟨b, n, rfl, rfl⟩ := hval hg
  obtain ⟨c, hB, hn, hcell⟩ := k3
  obtain ⟨s1, s2, s3⟩ := pcells_sound Rv hsc
  have hil : i < xs.length := lt_of_get hy
  have hye : y.cells.length = shSize rsh := shp_cells (k2 y (List.mem_of_getElem? hy))
  have hrow : (i + 1) * shSize rsh ≤ xs.length * shSize rsh := Nat.mul_le_mul_right _ hil
  rw [Nat.add_mul, Nat.one_mul] at hrow
  obtain ⟨E, lo, hi', g1, g2⟩ := run_storeAt (o := i * shSize rsh + off) hs hB (by rw [s1, hl]) (by rw [s1]; omega) s3
  have hlo : lo < hi' → n ≤ lo := by
    obtain ⟨_, E', lo', hi'', q1, q2⟩ := hB
    rw [g1] at q1; injection q1 with q1; injection q1 with _ _ q3; injection q3 with q3 q4; subst q3; subst q4; exact q2
  have hsz : i * shSize rsh + off + x.cells.toList.length ≤ c.size := by rw [hB.1]; simp [s1]; omega
  have hμ : μ.set id (some (b, n)) = μ := set_eq_self hm
  have key := H.set (w' := setBlk w b (.cells (setAll c (i * shSize rsh + off) x.cells.toList) E (lo, hi'))) (o' := .row rsh (xs.set i y') fz) (m' := some (b, n)) ho hm ⟨_, fz, rfl, by simp, fun _ => rfl⟩
    rfl (Nat.le_of_eq (setBlk_size _ _).symm) (fun b' _ hb' => setBlk_ne (fun e => hb' n (by rw [e])))
    (fun b' n e => .inl ⟨n, e⟩) (fun b' n' sh2 xs2 fz2 e1 e2 => by
      injection e2 with e2 e3 e4
      subst e2; subst e3; subst e4
      injection e1 with e1; injection e1 with e1 _; subst e1
      refine ⟨_, fz, rfl, fun j hj => ⟨?_, fun _ _ => hj⟩⟩
      have hB' : Block (setBlk w b (.cells (setAll c (i * shSize rsh + off) x.cells.toList) E (lo, hi'))) b n (setAll c (i * shSize rsh + off) x.cells.toList) := ⟨by rw [setAll_size, hB.1], E, lo, hi', setBlk_at g1, hlo⟩
      rw [cell_of_block hB', cell_of_block hB, setAll_get _ _ _ _ hsz, if_neg]
      have : fz * shSize rsh ≤ i * shSize rsh := Nat.mul_le_mul_right _ hfz
      omega)
    (fun M' Ev => by
      refine ⟨by simpa using k1, fun z hz => ?_, setAll c (i * shSize rsh + off) x.cells.toList, ⟨by rw [setAll_size, hB.1], E, lo, hi', setBlk_at g1, hlo⟩, by simpa using hn, fun i2 j z u hz hu => ?_⟩
      · rcases List.mem_or_eq_of_mem_set hz with hz | rfl
        · exact k2 z hz
        · exact hshp
      · rw [setAll_get _ _ _ _ hsz]
        rcases get_set hz with ⟨hne, hz⟩ | ⟨rfl, rfl, _⟩
        · have hj : j < shSize rsh := by
            have := shp_cells (k2 z (List.mem_of_getElem? hz)); have := lt_of_get hu; omega
          have hlo2 : ¬ (i * shSize rsh + off ≤ i2 * shSize rsh + j ∧ i2 * shSize rsh + j < i * shSize rsh + off + x.cells.toList.length) := by
            rintro ⟨q1, q2⟩
            simp [s1] at q2
            exact row_apart (j := i2 * shSize rsh + j - i * shSize rsh) (k := j) hne (by omega) hj (by omega)
          rw [if_neg hlo2]
          obtain ⟨v', q1, q2⟩ := hcell i2 j z u hz hu
          exact ⟨v', q1, q2.mono Ev.le⟩
        · rw [hy', splice_get _ _ _ _ hb] at hu
          split at hu
          · rename_i hj
            rw [if_pos (by simp [s1]; omega)]
            obtain ⟨u', q1, q2⟩ := s2 _ u hu
            refine ⟨u', ?_, q2.mono Ev.le⟩
            rw [Array.getElem?_toList, show i * shSize rsh + j - (i * shSize rsh + off) = j - off by omega]
            exact q1
          · rename_i hj
            rw [if_neg (by simp [s1]; omega)]
            obtain ⟨v', q1, q2⟩ := hcell i j y u hy hu
            exact ⟨v', q1, q2.mono Ev.le⟩)
  rw [hμ] at key
  exact ok_skip g2 key.1 key.2 (EscInv.set ho (by simp [Obj.top]))

theorem splice_all {cs vs : List PV} {off : Nat} (h1 : cs.all PV.sc = true) (h2 : vs.all PV.sc = true) : (splice cs off vs).all PV.sc = true := by
  rw [List.all_eq_true] at *
  intro x hx
  simp only [splice, List.mem_append] at hx
  rcases hx with (hx | hx) | hx
  · exact h1 x (List.mem_of_mem_take hx)
  · exact h2 x hx
  · exact h1 x (List.mem_of_mem_drop hx)

theorem OpOk.after {s : Sem Next} {v : AV} {h1 h2 : Heap} {x : Esc} (a : PurOk h μ w h1) (b : OpOk P s h1 μ w v h2 x) : OpOk P s h μ w v h2 x := by
  obtain ⟨nx, w', μ', r, q, H, E, I⟩ := b
  exact ⟨nx, w', μ', r, q, H, a.2.1.trans E, by simpa using EscInv.trans a.2.2 I⟩

theorem store_ok {t : TypeId} {sh : Sh} (hs : shOf P t = some sh) {a x : Value} {v : AV} {h1 : Heap} {e : Esc} (H : HeapRel h μ w) (ev : Opd → AV) (p q : Opd) (R : RAV (imm h μ w) h μ (ev p) a) (Rv : RAV (imm h μ w) h μ (ev q) x)
    (he : aop (.store sh p q) ev h = some (v, h1, e)) : OpOk P (do Instr.storeAt t a x; pure .skip) h μ w v h1 e := by
  simp only [aop] at he
  cases hp : ev p with
  | ref id off =>
    rw [hp] at he R
    dsimp only at he
    split at he
    · rename_i cs vs ho hv
      split at he
      · rename_i hc
        simp at he
        obtain ⟨rfl, rfl, rfl⟩ := he
        exact store_box hs H R Rv ho hv hc.1 hc.2
      · cases he
    · cases he
  | rref id g i off =>
    rw [hp] at he R
    dsimp only at he
    split at he
    · rename_i pv h2 hpur
      obtain ⟨a1, a2⟩ := pur_sound _ H Rv hpur
      refine OpOk.after a1 ?_
      split at he
      · rename_i rsh xs fz ho
        split at he
        · rename_i hc
          obtain ⟨c1, c2, c3, c4⟩ := hc
          obtain ⟨m, hm, k1, k2, k3⟩ := obj_at a1.1 ho
          split at he
          · rename_i cs hy
            split at he
            · rename_i hb
              simp at he
              obtain ⟨rfl, rfl, rfl⟩ := he
              have hk := k2 _ (List.mem_of_getElem? hy)
              have hall : (PV.agg cs).cells.all PV.sc = true := by rw [List.all_eq_true]; exact shp_sc hk
              refine store_row hs a1.1 (R.evo a1.2.1) a2 ho c1 c2 c3 c4 hy (y' := .agg (splice cs off pv.cells)) (by simpa [PV.cells] using hb) rfl ?_
              cases rsh with
              | none => simp [PV.shp, PV.sc] at hk
              | some n =>
                simp only [PV.shp, Bool.and_eq_true, beq_iff_eq] at hk ⊢
                exact ⟨by rw [splice_length _ _ _ hb]; exact hk.1, splice_all hk.2 c4⟩
            · cases he
          · rename_i y hna hy
            split at he
            · rename_i hb
              simp at he
              obtain ⟨rfl, rfl, rfl⟩ := he
              have hk := k2 _ (List.mem_of_getElem? hy)
              have hyc : y.cells = [y] := by cases y <;> first | rfl | exact absurd rfl (hna _)
              have hvc : pv.cells = [pv] := by cases pv <;> first | rfl | (simp [PV.sc] at hb)
              have hsh : shSize sh = 1 := by rw [← c3, hvc]; rfl
              obtain ⟨hb1, hb2⟩ := hb
              subst hb1
              refine store_row hs a1.1 (R.evo a1.2.1) a2 ho c1 c2 c3 c4 hy (y' := pv) (by rw [hyc, hvc]; simp) (by rw [hyc, hvc]; simp [splice]) ?_
              cases rsh with
              | none => exact hb2
              | some n => cases y <;> first | (simp [PV.shp] at hk; done) | exact absurd rfl (hna _)
            · cases he
          · cases he
        · cases he
      · cases he
    · cases he
  | _ => rw [hp] at he; simp at he

end Go.Am
