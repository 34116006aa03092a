/- The abstract machine, part 18: conversions, functions, greatest and least, new maps. -/
import Derived.Test.YtajhbehiecgflaaAm17
set_option linter.unusedSimpArgs false
set_option linter.unusedVariables false
set_option maxHeartbeats 1000000
namespace Go.Am

variable {h h' : Heap} {μ μ' : Mu} {w w' : World} {P : Program} {M M' : Mem}

def chkConv (P : Program) (c : Cv) (src dst : TypeId) : Bool := match c with
  | .i k => (P.underlying src).isSome && (match P.underlying dst with | some (.int k') => k == k' | _ => false)
  | .s2b => (match P.underlying src with | some .string => true | _ => false) && (match P.underlying dst with | some (.slice e) => (match P.underlying e with | some (.int .u8) => shOf P e == some none | _ => false) | _ => false)
  | .b2s => (match P.underlying src with | some (.slice e) => (match P.underlying e with | some (.int .u8) => shOf P e == some none | _ => false) | _ => false) && (match P.underlying dst with | some .string => true | _ => false)
  | .r2s => (P.underlying src).isSome && (match P.underlying dst with | some .string => true | _ => false)
  | .same => (P.underlying src).isSome && (match P.underlying dst with | some .string => true | _ => false)

theorem toBytes_spec : ∀ {xs : List PV} {b : List UInt8}, toBytes xs = some b → xs = bytesP b
  | [], b, h => by simp [toBytes] at h; subst h; rfl
  | x :: r, b, h => by
    unfold toBytes at h
    split at h
    · cases ‹_ :: _ = []›
    · rename_i n r' he
      injection he with e1 e2
      subst e1; subst e2
      split at h
      · rename_i hn
        simp only [Option.map_eq_some_iff] at h
        obtain ⟨l, h1, rfl⟩ := h
        rw [toBytes_spec h1]
        simp [bytesP]
        omega
      · cases h
    · cases h

theorem bytesP_get (s : List UInt8) (j : Nat) : (bytesP s)[j]? = (s[j]?).map fun b => .int .u8 b.toNat := by simp [bytesP]

theorem conv_ok {c : Cv} {src dst : TypeId} (hc : chkConv P c src dst = true) {ev : Opd → AV} {p : Opd} {x : Value} {v : AV} {h1 : Heap} {e : Esc} (H : HeapRel h μ w) (Rp : RAV (imm h μ w) h μ (ev p) x)
    (he : aop (.conv c p) ev h = some (v, h1, e)) : OpOk P (do pure (.value (← convert src dst x))) h μ w v h1 e := by
  simp only [aop, Option.map_eq_some_iff, Prod.mk.injEq] at he
  obtain ⟨⟨u, hh⟩, hconv, rfl, rfl, rfl⟩ := he
  cases c with
  | i k =>
    simp only [chkConv, Bool.and_eq_true] at hc
    obtain ⟨c1, c2⟩ := hc
    obtain ⟨d, hd⟩ := Option.isSome_iff_exists.1 c1
    have hu : P.underlying dst = some (.int k) := by
      split at c2
      · rename_i k' hk; rw [hk]; simp at c2; rw [c2]
      · cases c2
    simp only [aconv] at hconv
    split at hconv
    · rename_i hp
      simp only [Option.some.injEq, Prod.mk.injEq] at hconv
      obtain ⟨rfl, rfl⟩ := hconv
      rw [hp] at Rp
      rw [Rp.p_int]
      refine OpOk.pure H (run_v (u := .int k (k.wrap _)) ?_) (.p _ _ (.int _ _))
      simp [convert, run_underlying_of hd, run_underlying_of hu, Conv.intToInt]
    · cases hconv
  | s2b =>
    simp only [chkConv, Bool.and_eq_true] at hc
    obtain ⟨c1, c2⟩ := hc
    have hs : P.underlying src = some .string := by split at c1 <;> simp_all
    have hd : ∃ el, P.underlying dst = some (.slice el) ∧ P.underlying el = some (.int .u8) ∧ shOf P el = some none := by
      split at c2
      · rename_i el hel
        split at c2
        · rename_i hu8; exact ⟨el, hel, hu8, by simpa using c2⟩
        · cases c2
      · cases c2
    obtain ⟨el, hd, hu8, hsh⟩ := hd
    simp only [aconv] at hconv
    split at hconv
    · rename_i s hp
      split at hconv
      · simp only [Option.some.injEq, Prod.mk.injEq] at hconv
        obtain ⟨rfl, rfl⟩ := hconv
        rw [hp] at Rp
        rw [Rp.p_str]
        have hrun := run_bytes_of_string w src dst el ⟨s.toArray⟩ hs hd hu8
        have hsz : (⟨s.toArray⟩ : ByteArray).size = s.length := rfl
        rw [hsz] at hrun
        generalize hcap : grownCap w s.length 0 el = cap at hrun
        have hle : s.length ≤ cap := by rw [← hcap]; exact appendCap_ge _ _ _ _
        generalize hrow : bytesRow ⟨s.toArray⟩ cap = row at hrun
        have hrs : row.size = cap := by rw [← hrow]; simp [bytesRow, hsz]; omega
        have hB : Block (w.drew.alloc (.cells row el (row.size, row.size + 1))) w.heap.size cap row := ⟨hrs, el, row.size, row.size + 1, by
            show (w.heap.push _)[w.heap.size]? = _
            simp, fun _ => by omega⟩
        have hW : WExt w (w.drew.alloc (.cells row el (row.size, row.size + 1))) := by
          refine ⟨?_, fun b hb => ?_, rfl⟩
          · show w.heap.size ≤ (w.heap.push _).size
            simp
          · show (w.heap.push _)[b]? = _
            simp [Array.getElem?_push, Nat.ne_of_lt hb]
        have hlt : w.heap.size < (w.drew.alloc (.cells row el (row.size, row.size + 1))).heap.size := by
          show w.heap.size < (w.heap.push _).size
          simp
        obtain ⟨n1, n2⟩ := newRow' (sh := none) (xs := bytesP s) H hW (Nat.le_refl _) hlt hB (by simp [bytesP, shSize]; omega) (fun x hx => by
            simp only [bytesP, List.mem_map] at hx
            obtain ⟨b, _, rfl⟩ := hx
            rfl) (fun i j x y hx hy => by
            rw [bytesP_get] at hx
            simp only [Option.map_eq_some_iff] at hx
            obtain ⟨b, hb, rfl⟩ := hx
            have hj : j = 0 ∧ y = .int .u8 b.toNat := by
              cases j with
              | zero => simp [PV.cells] at hy; exact ⟨rfl, hy.symm⟩
              | succ j => simp [PV.cells] at hy
            obtain ⟨rfl, rfl⟩ := hj
            have hi := lt_of_get hb
            refine ⟨.int .u8 b.toNat, ?_, .int _ _⟩
            rw [← hrow]
            have := bytesRow_at ⟨s.toArray⟩ cap i (by simpa using hi)
            simp only [shSize, Nat.mul_one, Nat.add_zero]
            rw [this]
            have hb' : s[i] = b := by rw [List.getElem?_eq_getElem hi] at hb; simpa using hb
            simp [hb'])
        refine ⟨_, _, _, run_v hrun, .inl ⟨_, rfl, ?_⟩, n1, n2, EscInv.push (by simp [Obj.top])⟩
        refine .own h.length s.length 0 s.length _ cap none (bytesP s) 0 (some (w.heap.size, cap)) hle (by simp) (by rw [← H.len]; simp) (by simp [bytesP]) (by omega) (fun _ => ?_)
        right
        exact ⟨by simp, by simp [shSize]⟩
      · cases hconv
    · cases hconv
  | b2s =>
    simp only [chkConv, Bool.and_eq_true] at hc
    obtain ⟨c1, c2⟩ := hc
    have hd : P.underlying dst = some .string := by split at c2 <;> simp_all
    have hs : ∃ el, P.underlying src = some (.slice el) ∧ P.underlying el = some (.int .u8) ∧ shOf P el = some none := by
      split at c1
      · rename_i el hel
        split at c1
        · rename_i hu8; exact ⟨el, hel, hu8, by simpa using c1⟩
        · cases c1
      · cases c1
    obtain ⟨el, hs, hu8, hsh⟩ := hs
    have hconv' := hconv
    simp only [aconv] at hconv'
    split at hconv'
    · rename_i y hy
      obtain ⟨sh, ys⟩ := y
      simp only [Option.map_eq_some_iff, Prod.mk.injEq] at hconv'
      obtain ⟨b, hb, rfl, rfl⟩ := hconv'
      have hys := toBytes_spec hb
      subst hys
      obtain ⟨a, cap, rfl, hcap, hrd⟩ := rd_sound H Rp hy
      have hlen : (bytesP b).length = b.length := by simp [bytesP]
      rw [hlen] at *
      refine OpOk.pure H (run_v (u := .string ⟨b.toArray⟩) ?_) (.p _ _ (.str b))
      cases a with
      | none =>
        have hb0 : b = [] := by
          rcases Classical.em (b = []) with h0 | h0
          · exact h0
          · obtain ⟨_, _, _, ha, _⟩ := hrd (by simp [bytesP]; exact h0)
            cases ha
        subst hb0
        rw [run_convert_bytes_string w src dst el none _ _ hs hu8 hd]
        rfl
      | some a =>
        refine run_convert_bytes_back w src dst el a cap b hs hu8 hd (fun j hj => ?_)
        obtain ⟨bb, o, f, ha, hshp, hcell⟩ := hrd (by intro h0; have := congrArg List.length h0; simp [bytesP] at this; rw [this] at hj; simp at hj)
        injection ha with ha
        subst ha
        have hfl : ((bytesP b).flatMap PV.cells)[j]? = some (.int .u8 b[j].toNat) := by
          rw [bytes_flat, bytesP_get, List.getElem?_eq_getElem hj]; rfl
        obtain ⟨q1, q2⟩ := hcell j _ hfl
        rw [add_at, q1]
        generalize f j = z at q2 ⊢
        cases q2
        rfl
    · cases hconv'
  | r2s =>
    simp only [chkConv, Bool.and_eq_true] at hc
    obtain ⟨c1, c2⟩ := hc
    have hd : P.underlying dst = some .string := by split at c2 <;> simp_all
    simp only [aconv] at hconv
    split at hconv
    · rename_i k n hp
      split at hconv
      · rename_i hn
        simp only [Option.some.injEq, Prod.mk.injEq] at hconv
        obtain ⟨rfl, rfl⟩ := hconv
        rw [hp] at Rp
        rw [Rp.p_int]
        refine OpOk.pure H (run_v (u := .string ⟨#[UInt8.ofNat n.toNat]⟩) ?_) ?_
        · rw [run_convert_int_string w src dst k n c1 hd]
          have hv : Utf8.valid n = true := by simp [Utf8.valid]; omega
          have h2 : n.toNat < 128 := by omega
          simp [Utf8.encode, hv, h2]
        · have := RPV.str (M := imm h μ w) [UInt8.ofNat n.toNat]
          exact .p _ _ this
      · cases hconv
    · cases hconv
  | same =>
    simp only [chkConv, Bool.and_eq_true] at hc
    obtain ⟨c1, c2⟩ := hc
    have hd : P.underlying dst = some .string := by split at c2 <;> simp_all
    obtain ⟨d, hd1⟩ := Option.isSome_iff_exists.1 c1
    simp only [aconv] at hconv
    split at hconv
    · rename_i s hp
      simp only [Option.some.injEq, Prod.mk.injEq] at hconv
      obtain ⟨rfl, rfl⟩ := hconv
      rw [hp] at Rp
      rw [Rp.p_str]
      refine OpOk.pure H (run_v (u := .string ⟨s.toArray⟩) ?_) (.p _ _ (.str s))
      simp [convert, run_underlying_of hd1, run_underlying_of hd]
    · cases hconv

/-! ### functions, maps, greatest and least -/

def opdsOk : List Opd → List Operand → Bool
  | [], [] => true
  | a :: r, b :: s => opdOk a b && opdsOk r s
  | _, _ => false

theorem opds_len : ∀ {xs : List Opd} {ys : List Operand}, opdsOk xs ys = true → xs.length = ys.length
  | [], [], _ => rfl
  | [], _ :: _, h => by simp [opdsOk] at h
  | _ :: _, [], h => by simp [opdsOk] at h
  | a :: r, b :: s, h => by simp only [opdsOk, Bool.and_eq_true] at h; simp [opds_len h.2]

theorem opds_rel {ev : Opd → AV} {ρ : Operand → Value} (R : OpdRel M h μ ev ρ) : ∀ {xs : List Opd} {ys : List Operand}, opdsOk xs ys = true →
    ∀ (j : Nat) (y : AV) (v : Value), (xs.map ev)[j]? = some y → (ys.map ρ)[j]? = some v → RAV M h μ y v
  | [], [], _, j, y, v, h1, h2 => by simp at h1
  | [], _ :: _, h, _, _, _, _, _ => by simp [opdsOk] at h
  | _ :: _, [], h, _, _, _, _, _ => by simp [opdsOk] at h
  | a :: r, b :: s, h, j, y, v, h1, h2 => by
    simp only [opdsOk, Bool.and_eq_true] at h
    cases j with
    | zero => simp at h1 h2; subst h1; subst h2; exact R a b h.1
    | succ j => exact opds_rel R h.2 j y v (by simpa using h1) (by simpa using h2)

theorem mkfn_ok {f : Nat} {caps : List Opd} {first cs : Array Operand} {ev : Opd → AV} {ρ : Operand → Value} (hc : opdsOk caps cs.toList = true) (hf : first = #[]) {v : AV} {h1 : Heap} {e : Esc} (H : HeapRel h μ w) (R : OpdRel (imm h μ w) h μ ev ρ)
    (he : aop (.mkfn f caps) ev h = some (v, h1, e)) : OpOk P (do pure (.value (← Instr.makeFunc (.func f) (first.map ρ) (cs.map ρ)))) h μ w v h1 e := by
  simp only [aop, Option.some.injEq, Prod.mk.injEq] at he
  obtain ⟨rfl, rfl, rfl⟩ := he
  subst hf
  refine OpOk.pure H (run_v rfl) ?_
  have := RAV.fn (M := imm h μ w) (h := h) (μ := μ) f (caps.map ev) (cs.toList.map ρ) (by simp [opds_len hc]) (fun j y v h1 h2 => opds_rel R hc j y v h1 h2)
  have h2 : (List.map ρ cs.toList).toArray = cs.map ρ := by rw [← Array.toList_map]
  rw [h2] at this
  have h3 : Array.map ρ #[] = #[] := by simp
  rw [h3]
  exact this

theorem mkmap_ok {t : TypeId} {r : Option Value} (hr : r = none) {ev : Opd → AV} {v : AV} {h1 : Heap} {e : Esc} (H : HeapRel h μ w) (he : aop .mkmap ev h = some (v, h1, e)) : OpOk P (do pure (.value (← Instr.makeMap t r))) h μ w v h1 e := by
  simp only [aop, Option.some.injEq, Prod.mk.injEq] at he
  obtain ⟨rfl, rfl, rfl⟩ := he
  subst hr
  have hrun : (Instr.makeMap t none).run P w = .ok (.map (some w.heap.size)) { w with heap := w.heap.push (.map #[] 0) } := by
    simp only [Instr.makeMap]
    rfl
  obtain ⟨n1, n2⟩ := H.push (WExt.push w (.map #[] 0)) (.amap [] 0) (some (w.heap.size, 0)) (fun b n e => by injection e with e; injection e with e1 e2; subst e1; exact ⟨Nat.le_refl _, by simp⟩)
    (fun M' E => ⟨w.heap.size, 0, #[], rfl, by simp, rfl, fun i e ce he => by cases he⟩)
  exact ⟨_, _, _, run_v hrun, .inl ⟨_, rfl, .mp h.length w.heap.size 0 [] 0 (by simp) (by rw [← H.len]; simp)⟩, n1, n2, EscInv.push (by simp [Obj.top, AV.tops])⟩

theorem unp_map {ev : Opd → AV} {xs : List Opd} {l : List PV} (hu : unp (xs.map ev) = some l) : xs.length = l.length ∧ ∀ (j : Nat) (y : PV), l[j]? = some y → (xs.map ev)[j]? = some (.p y) := by
  have := unp_spec hu
  refine ⟨by have := congrArg List.length this; simpa using this, fun j y hy => by rw [this]; simp [hy]⟩

theorem mx_ok {xs : List Opd} {cs : Array Operand} {ts : Array TypeId} {ty : TypeId} (hc : opdsOk xs cs.toList = true) {ev : Opd → AV} {ρ : Operand → Value} {v : AV} {h1 : Heap} {e : Esc} (H : HeapRel h μ w) (R : OpdRel (imm h μ w) h μ ev ρ)
    (he : aop (.mx xs) ev h = some (v, h1, e)) : OpOk P (do pure (.value (← Builtin.max_ ts ty (cs.map ρ)))) h μ w v h1 e := by
  simp only [aop] at he
  split at he
  · rename_i a r hm
    simp only [Option.map_eq_some_iff, Option.bind_eq_some_iff, Prod.mk.injEq] at he
    obtain ⟨q, ⟨l, hl, hq⟩, rfl, rfl, rfl⟩ := he
    cases xs with
    | nil => simp at hm
    | cons o os =>
      cases hcs : cs.toList with
      | nil => rw [hcs] at hc; simp [opdsOk] at hc
      | cons c cs' =>
        rw [hcs] at hc
        simp only [List.map_cons, List.cons.injEq] at hm
        obtain ⟨hm1, hm2⟩ := hm
        simp only [opdsOk, Bool.and_eq_true] at hc
        subst hm2
        obtain ⟨u1, u2⟩ := unp_map hl
        have h0 := R o c hc.1
        rw [hm1] at h0
        obtain ⟨u, hu, hR⟩ := amax_fold (w := w) (P := P) h0.p_inv (vs := cs'.map ρ) (by rw [← u1, opds_len hc.2]; simp) (fun j y v h1 h2 => (opds_rel R hc.2 j (.p y) v (u2 j y h1) h2).p_inv) hq
        refine OpOk.pure H (run_v (u := u) ?_) (.p _ _ hR)
        simp only [Builtin.max_, Array.toList_map, hcs, List.map_cons]
        exact hu
  · cases he

theorem mn_ok {xs : List Opd} {cs : Array Operand} {ts : Array TypeId} {ty : TypeId} (hc : opdsOk xs cs.toList = true) {ev : Opd → AV} {ρ : Operand → Value} {v : AV} {h1 : Heap} {e : Esc} (H : HeapRel h μ w) (R : OpdRel (imm h μ w) h μ ev ρ)
    (he : aop (.mn xs) ev h = some (v, h1, e)) : OpOk P (do pure (.value (← Builtin.min_ ts ty (cs.map ρ)))) h μ w v h1 e := by
  simp only [aop] at he
  split at he
  · rename_i a r hm
    simp only [Option.map_eq_some_iff, Option.bind_eq_some_iff, Prod.mk.injEq] at he
    obtain ⟨q, ⟨l, hl, hq⟩, rfl, rfl, rfl⟩ := he
    cases xs with
    | nil => simp at hm
    | cons o os =>
      cases hcs : cs.toList with
      | nil => rw [hcs] at hc; simp [opdsOk] at hc
      | cons c cs' =>
        rw [hcs] at hc
        simp only [List.map_cons, List.cons.injEq] at hm
        obtain ⟨hm1, hm2⟩ := hm
        simp only [opdsOk, Bool.and_eq_true] at hc
        subst hm2
        obtain ⟨u1, u2⟩ := unp_map hl
        have h0 := R o c hc.1
        rw [hm1] at h0
        obtain ⟨u, hu, hR⟩ := amin_fold (w := w) (P := P) h0.p_inv (vs := cs'.map ρ) (by rw [← u1, opds_len hc.2]; simp) (fun j y v h1 h2 => (opds_rel R hc.2 j (.p y) v (u2 j y h1) h2).p_inv) hq
        refine OpOk.pure H (run_v (u := u) ?_) (.p _ _ hR)
        simp only [Builtin.min_, Array.toList_map, hcs, List.map_cons]
        exact hu
  · cases he

end Go.Am
