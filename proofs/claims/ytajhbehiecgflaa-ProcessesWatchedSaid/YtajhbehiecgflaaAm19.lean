/- The abstract machine, part 19: which operation stands for which (chkOp), and that it is sound. -/
import Derived.Test.YtajhbehiecgflaaAm18
set_option linter.unusedSimpArgs false
set_option linter.unusedVariables false
set_option maxHeartbeats 1000000
namespace Go.Am

variable {h h' : Heap} {μ μ' : Mu} {w w' : World} {P : Program} {M M' : Mem}

def ifaceNot (P : Program) (t : TypeId) : Bool := match P.underlying t with | some (.interface _) => false | some _ => true | none => false

/-- A call of a built-in: its arguments, the first type. -/
def bargs (b : Builtin) (o : Op) : Option (List Operand × List TypeId) := match o with
  | .call c => match c.callee with
    | .builtin b' => if b = b' then some (c.args.toList, c.argTypes.toList) else none
    | _ => none
  | _ => none

def chkOp (P : Program) (a : AO) (o : Op) : Bool := match a with
  | .mv x => match o with
    | .move y => opdOk x y
    | .assign y => opdOk x y
    | _ => false
  | .pick c x y => match o with
    | .pick c' x' y' => opdOk c c' && opdOk x x' && opdOk y y'
    | _ => false
  | .alloc z => match o with
    | .alloc t => chkAlloc P z t
    | _ => false
  | .box x => match o with
    | .box _ y => opdOk x y
    | _ => false
  | .build z ps => match o with
    | .build t qs => chkBuild P z ps t qs.toList
    | _ => false
  | .bsl _ sh n z ps => match o with
    | .buildSlice t n' qs => chkBsl P sh n z ps t n' qs.toList
    | _ => false
  | .load sh x => match o with
    | .load t y => shOf P t == some sh && opdOk x y
    | _ => false
  | .store sh x v => match o with
    | .store t y u => shOf P t == some sh && opdOk x y && opdOk v u
    | _ => false
  | .nilchk x => match o with
    | .nilCheck y => opdOk x y
    | _ => false
  | .bin op x y => match o with
    | .binOp op' _ x' y' _ => decide (op = op') && opdOk x x' && opdOk y y'
    | _ => false
  | .eqa ks neg x y => match o with
    | .binOp op' t x' y' _ => decide (op' = if neg then .neq else .eql) && chkEqs P t ks && opdOk x x' && opdOk y y'
    | _ => false
  | .isnil k neg x => match o with
    | .binOp op' t x' y' _ => decide (op' = if neg then .neq else .eql) && chkNil P k t y' && opdOk x x'
    | _ => false
  | .mkif _ => match o with
    | .makeInterface t _ => ifaceNot P t
    | _ => false
  | .un op x => match o with
    | .unOp op' _ y => decide (op = op') && opdOk x y
    | _ => false
  | .conv c x => match o with
    | .convert s d y => chkConv P c s d && opdOk x y
    | _ => false
  | .mkfn f caps => match o with
    | .makeFunc fn first cs => (match fn with | .func f' => f == f' | _ => false) && first.size == 0 && opdsOk caps cs.toList
    | _ => false
  | .mkmap => match o with
    | .makeMap _ r => r.isNone
    | _ => false
  | .mksl sh z l c => match o with
    | .makeSlice t l' c' => chkMksl P sh z t && opdOk l l' && opdOk c c'
    | _ => false
  | .slice sh x lo hi mx => match o with
    | .slice t x' lo' hi' mx' => chkSlice P t sh && opdOk x x' && oOpdOk lo lo' && oOpdOk hi hi' && oOpdOk mx mx' && (mx.isNone || hi.isSome)
    | _ => false
  | .slstr x lo hi => match o with
    | .slice t x' lo' hi' mx' => chkStr P t && opdOk x x' && oOpdOk lo lo' && oOpdOk hi hi' && mx'.isNone
    | _ => false
  | .faddr off sh x => match o with
    | .fieldAddr s y f => chkFaddr P s f off sh && opdOk x y
    | _ => false
  | .field off sh x => match o with
    | .field s y f => chkFaddr P s f off sh && opdOk x y
    | _ => false
  | .iaddr sh x i => match o with
    | .indexAddr t y j => chkSlice P t sh && opdOk x y && opdOk i j
    | _ => false
  | .iaddra n sh x i => match o with
    | .indexAddr t y j => chkArray P t n sh && opdOk x y && opdOk i j
    | _ => false
  | .idxa n sh x i => match o with
    | .index t y j => chkArray P t n sh && opdOk x y && opdOk i j
    | _ => false
  | .idxs x i => match o with
    | .index t y j => chkStr P t && opdOk x y && opdOk i j
    | _ => false
  | .ext x i => match o with
    | .extract y j => opdOk x y && i == j
    | _ => false
  | .len x => match bargs .len o with
    | some ([y], t :: _) => chkLen P t == 1 && opdOk x y
    | _ => false
  | .lens x => match bargs .len o with
    | some ([y], t :: _) => chkLen P t == 2 && opdOk x y
    | _ => false
  | .lenm x => match bargs .len o with
    | some ([y], t :: _) => chkLen P t == 3 && opdOk x y
    | _ => false
  | .app sh x y => match bargs .append o with
    | some ([x', y'], [t, u]) => chkApp P sh t u && opdOk x x' && opdOk y y'
    | _ => false
  | .copy sh x y => match bargs .copy o with
    | some ([x', y'], t :: _) => chkCopy P sh t && opdOk x x' && opdOk y y'
    | _ => false
  | .mx xs => match bargs .max o with
    | some (ys, _) => opdsOk xs ys
    | _ => false
  | .mn xs => match bargs .min o with
    | some (ys, _) => opdsOk xs ys
    | _ => false
  | .new0 _ => match o with
    | .move (.const (.slice none 0 0)) => true
    | .assign (.const (.slice none 0 0)) => true
    | _ => false
  | _ => false

theorem bargs_spec {b : Builtin} {o : Oper} {ys : List Operand} {ts : List TypeId} (hb : bargs b o.op = some (ys, ts)) {ρ : Operand → Value} :
    ∃ cs, (execOp ρ o).run P w = (builtin b ts.toArray o.type cs (ys.map ρ).toArray).run P w := by
  unfold bargs at hb
  split at hb
  · rename_i c hc
    split at hb
    · rename_i b' hcb
      split at hb
      · rename_i hbb
        subst hbb
        injection hb with hb
        injection hb with h1 h2
        subst h1; subst h2
        refine ⟨(c.args.map fun | .const _ => true | _ => false), ?_⟩
        unfold execOp
        rw [hc]
        simp only [resolve, hcb, Sem.run_bind, Sem.run_pure, Result.andThen_ok, invoke]
        have e1 : (List.map ρ c.args.toList).toArray = c.args.map ρ := by rw [← Array.toList_map]
        rw [e1]
        rfl
      · cases hb
    · cases hb
  · cases hb

theorem OpOk.congr {s s' : Sem Next} {v : AV} {h1 : Heap} {e : Esc} (hr : s.run P w = s'.run P w) (H : OpOk P s' h μ w v h1 e) : OpOk P s h μ w v h1 e := by
  obtain ⟨nx, w', μ', r, q⟩ := H
  exact ⟨nx, w', μ', hr.trans r, q⟩


theorem op_sound {a : AO} {o : Oper} (hc : chkOp P a o.op = true) {ev : Opd → AV} {ρ : Operand → Value} (hρ : ∀ v, ρ (.const v) = v) {v : AV} {h1 : Heap} {e : Esc} (H : HeapRel h μ w) (R : OpdRel (imm h μ w) h μ ev ρ)
    (he : aop a ev h = some (v, h1, e)) : OpOk P (execOp ρ o) h μ w v h1 e := by
  have E : ∀ {s : Sem Next}, execOp ρ o = s → OpOk P s h μ w v h1 e → OpOk P (execOp ρ o) h μ w v h1 e := fun hs H => hs ▸ H
  cases a <;> simp only [chkOp] at hc
  case mv x =>
    split at hc
    · rename_i y ho; exact E (by unfold execOp; rw [ho]) (mv_ok H (R _ _ hc) he)
    · rename_i y ho; exact E (by unfold execOp; rw [ho]) (mv_ok H (R _ _ hc) he)
    · cases hc
  case pick c x y =>
    split at hc
    · rename_i c' x' y' ho
      simp only [Bool.and_eq_true] at hc
      exact E (by unfold execOp; rw [ho]) (pick_ok H (R _ _ hc.1.1) (R _ _ hc.1.2) (R _ _ hc.2) he)
    · cases hc
  case alloc z =>
    split at hc
    · rename_i t ho
      simp only [aop, Option.some.injEq, Prod.mk.injEq] at he
      obtain ⟨rfl, rfl, rfl⟩ := he
      exact E (by unfold execOp; rw [ho]) (alloc_ok hc H)
    · cases hc
  case box x =>
    split at hc
    · rename_i t y ho
      simp only [aop] at he
      split at he
      · rename_i cs hcs
        simp only [Option.some.injEq, Prod.mk.injEq] at he
        obtain ⟨rfl, rfl, rfl⟩ := he
        exact E (by unfold execOp; rw [ho]) (box_ok H (R _ _ hc) hcs)
      · cases he
    · cases hc
  case build z ps =>
    split at hc
    · rename_i t qs ho
      simp only [aop, Option.map_eq_some_iff, Prod.mk.injEq] at he
      obtain ⟨cs, hcs, rfl, rfl, rfl⟩ := he
      exact E (by unfold execOp; rw [ho]) (build_ok hc H R hcs)
    · cases hc
  case bsl own sh n z ps =>
    split at hc
    · rename_i t n' qs ho
      exact E (by unfold execOp; rw [ho]) (bsl_ok hc H R he)
    · cases hc
  case load sh x =>
    split at hc
    · rename_i t y ho
      simp only [Bool.and_eq_true, beq_iff_eq] at hc
      exact E (by unfold execOp; rw [ho]) (load_ok hc.1 H (R _ _ hc.2) ev x rfl he)
    · cases hc
  case store sh x u =>
    split at hc
    · rename_i t y z ho
      simp only [Bool.and_eq_true, beq_iff_eq] at hc
      exact E (by unfold execOp; rw [ho]) (store_ok hc.1.1 H ev x u (R _ _ hc.1.2) (R _ _ hc.2) he)
    · cases hc
  case nilchk x =>
    split at hc
    · rename_i y ho; exact nilchk_ok H (R _ _ hc) he rfl ho
    · cases hc
  case bin op x y =>
    split at hc
    · rename_i op' t x' y' u ho
      simp only [Bool.and_eq_true, decide_eq_true_eq] at hc
      obtain ⟨⟨rfl, c2⟩, c3⟩ := hc
      exact E (by unfold execOp; rw [ho]) (bin_ok H (R _ _ c2) (R _ _ c3) he)
    · cases hc
  case eqa ks neg x y =>
    split at hc
    · rename_i op' t x' y' u ho
      simp only [Bool.and_eq_true, decide_eq_true_eq] at hc
      obtain ⟨⟨⟨c1, c2⟩, c3⟩, c4⟩ := hc
      exact E (by unfold execOp; rw [ho]) (eqa_ok c1 c2 H (R _ _ c3) (R _ _ c4) he)
    · cases hc
  case isnil k neg x =>
    split at hc
    · rename_i op' t x' y' u ho
      simp only [Bool.and_eq_true, decide_eq_true_eq] at hc
      obtain ⟨⟨c1, c2⟩, c3⟩ := hc
      have hy : ∃ z, y' = .const z := by
        unfold chkNil at c2
        split at c2 <;> first | exact ⟨_, rfl⟩ | cases c2
      obtain ⟨z, rfl⟩ := hy
      have := isnil_ok (P := P) (a := x') c1 c2 H (R _ _ c3) he
      refine E (by unfold execOp; rw [ho]) ?_
      simp only [hρ]
      exact this
    · cases hc
  case mkif x =>
    split at hc
    · rename_i t y ho; exact E (by unfold execOp; rw [ho]) (mkif_ok hc H he)
    · cases hc
  case un op x =>
    split at hc
    · rename_i op' t y ho
      simp only [Bool.and_eq_true, decide_eq_true_eq] at hc
      obtain ⟨rfl, c2⟩ := hc
      exact E (by unfold execOp; rw [ho]) (un_ok H (R _ _ c2) he)
    · cases hc
  case conv c x =>
    split at hc
    · rename_i s d y ho
      simp only [Bool.and_eq_true] at hc
      exact E (by unfold execOp; rw [ho]) (conv_ok hc.1 H (R _ _ hc.2) he)
    · cases hc
  case mkfn f caps =>
    split at hc
    · rename_i fn first cs ho
      simp only [Bool.and_eq_true, beq_iff_eq] at hc
      obtain ⟨⟨c1, c2⟩, c3⟩ := hc
      split at c1
      · simp only [beq_iff_eq] at c1
        subst c1
        exact E (by unfold execOp; rw [ho]) (mkfn_ok c3 (Array.eq_empty_of_size_eq_zero c2) H R he)
      · cases c1
    · cases hc
  case mkmap =>
    split at hc
    · rename_i t r ho
      rw [Option.isNone_iff_eq_none] at hc
      subst hc
      exact E (s := do pure (.value (← Instr.makeMap t none))) (by unfold execOp; rw [ho]; rfl) (mkmap_ok rfl H he)
    · cases hc
  case mksl sh z l c =>
    split at hc
    · rename_i t l' c' ho
      simp only [Bool.and_eq_true] at hc
      exact E (by unfold execOp; rw [ho]) (mksl_ok hc.1.1 H (R _ _ hc.1.2) (R _ _ hc.2) he)
    · cases hc
  case slice sh x lo hi mx =>
    split at hc
    · rename_i t x' lo' hi' mx' ho
      simp only [Bool.and_eq_true, Bool.or_eq_true] at hc
      obtain ⟨⟨⟨⟨⟨c1, c2⟩, c3⟩, c4⟩, c5⟩, c6⟩ := hc
      refine E (by unfold execOp; rw [ho]) (slice_ok c1 H R c2 c3 c4 c5 (fun hm => ?_) he)
      rcases c6 with c6 | c6
      · cases mx <;> simp_all
      · exact c6
    · cases hc
  case slstr x lo hi =>
    split at hc
    · rename_i t x' lo' hi' mx' ho
      simp only [Bool.and_eq_true] at hc
      obtain ⟨⟨⟨⟨c1, c2⟩, c3⟩, c4⟩, c5⟩ := hc
      rw [Option.isNone_iff_eq_none] at c5
      subst c5
      exact E (s := do pure (.value (← Instr.sliceAt t (ρ x') (lo'.map ρ) (hi'.map ρ) none))) (by unfold execOp; rw [ho]; rfl) (slstr_ok c1 H R c2 c3 c4 he)
    · cases hc
  case faddr off sh x =>
    split at hc
    · rename_i s y f ho
      simp only [Bool.and_eq_true] at hc
      exact E (by unfold execOp; rw [ho]) (faddr_ok hc.1 H ev x (R _ _ hc.2) he)
    · cases hc
  case field off sh x =>
    split at hc
    · rename_i s y f ho
      simp only [Bool.and_eq_true] at hc
      exact E (by unfold execOp; rw [ho]) (field_ok hc.1 H ev x (R _ _ hc.2) he)
    · cases hc
  case iaddr sh x i =>
    split at hc
    · rename_i t y j ho
      simp only [Bool.and_eq_true] at hc
      exact E (by unfold execOp; rw [ho]) (iaddr_ok hc.1.1 H ev x i (R _ _ hc.1.2) (R _ _ hc.2) he)
    · cases hc
  case iaddra n sh x i =>
    split at hc
    · rename_i t y j ho
      simp only [Bool.and_eq_true] at hc
      exact E (by unfold execOp; rw [ho]) (iaddra_ok hc.1.1 H ev x i (R _ _ hc.1.2) (R _ _ hc.2) he)
    · cases hc
  case idxa n sh x i =>
    split at hc
    · rename_i t y j ho
      simp only [Bool.and_eq_true] at hc
      exact E (by unfold execOp; rw [ho]) (idxa_ok hc.1.1 H ev x i (R _ _ hc.1.2) (R _ _ hc.2) he)
    · cases hc
  case idxs x i =>
    split at hc
    · rename_i t y j ho
      simp only [Bool.and_eq_true] at hc
      exact E (by unfold execOp; rw [ho]) (idxs_ok hc.1.1 H ev x i (R _ _ hc.1.2) (R _ _ hc.2) he)
    · cases hc
  case ext x i =>
    split at hc
    · rename_i y j ho
      simp only [Bool.and_eq_true, beq_iff_eq] at hc
      obtain ⟨c1, rfl⟩ := hc
      exact E (by unfold execOp; rw [ho]) (ext_ok H (R _ _ c1) he)
    · cases hc
  case len x =>
    split at hc
    · rename_i y t ts hb
      simp only [Bool.and_eq_true, beq_iff_eq] at hc
      obtain ⟨cs, hr⟩ := bargs_spec (P := P) (w := w) hb (ρ := ρ)
      exact OpOk.congr hr (len_ok hc.1 H (R _ _ hc.2) he)
    · cases hc
  case lens x =>
    split at hc
    · rename_i y t ts hb
      simp only [Bool.and_eq_true, beq_iff_eq] at hc
      obtain ⟨cs, hr⟩ := bargs_spec (P := P) (w := w) hb (ρ := ρ)
      exact OpOk.congr hr (lens_ok hc.1 H (R _ _ hc.2) he)
    · cases hc
  case lenm x =>
    split at hc
    · rename_i y t ts hb
      simp only [Bool.and_eq_true, beq_iff_eq] at hc
      obtain ⟨cs, hr⟩ := bargs_spec (P := P) (w := w) hb (ρ := ρ)
      exact OpOk.congr hr (lenm_ok hc.1 H (R _ _ hc.2) he)
    · cases hc
  case app sh x y =>
    split at hc
    · rename_i x' y' t u hb
      simp only [Bool.and_eq_true] at hc
      obtain ⟨cs, hr⟩ := bargs_spec (P := P) (w := w) hb (ρ := ρ)
      exact OpOk.congr hr (app_ok hc.1.1 H (R _ _ hc.1.2) (R _ _ hc.2) he)
    · cases hc
  case copy sh x y =>
    split at hc
    · rename_i x' y' t ts hb
      simp only [Bool.and_eq_true] at hc
      obtain ⟨cs, hr⟩ := bargs_spec (P := P) (w := w) hb (ρ := ρ)
      exact OpOk.congr hr (copy_ok hc.1.1 H (R _ _ hc.1.2) (R _ _ hc.2) he)
    · cases hc
  case mx xs =>
    split at hc
    · rename_i ys ts hb
      obtain ⟨cs, hr⟩ := bargs_spec (P := P) (w := w) hb (ρ := ρ)
      refine OpOk.congr hr ?_
      have := mx_ok (P := P) (cs := ys.toArray) (ts := ts.toArray) (ty := o.type) hc H R he
      have h2 : Array.map ρ ys.toArray = (List.map ρ ys).toArray := by simp
      rw [h2] at this
      exact this
    · cases hc
  case mn xs =>
    split at hc
    · rename_i ys ts hb
      obtain ⟨cs, hr⟩ := bargs_spec (P := P) (w := w) hb (ρ := ρ)
      refine OpOk.congr hr ?_
      have := mn_ok (P := P) (cs := ys.toArray) (ts := ts.toArray) (ty := o.type) hc H R he
      have h2 : Array.map ρ ys.toArray = (List.map ρ ys).toArray := by simp
      rw [h2] at this
      exact this
    · cases hc
  case new0 sh =>
    split at hc
    · rename_i ho
      refine E (s := pure (.value (.slice none 0 0))) (by unfold execOp; rw [ho]; simp only [hρ]) (new0_ok H he)
    · rename_i ho
      refine E (s := pure (.value (.slice none 0 0))) (by unfold execOp; rw [ho]; simp only [hρ]) (new0_ok H he)
    · cases hc
  all_goals cases hc

end Go.Am
