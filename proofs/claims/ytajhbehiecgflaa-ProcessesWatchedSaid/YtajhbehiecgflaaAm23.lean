/- The abstract machine, part 23: a call that ends well here ends well in the model. -/
import Derived.Test.YtajhbehiecgflaaAm22
set_option linter.unusedSimpArgs false
set_option linter.unusedVariables false
set_option maxHeartbeats 1000000
namespace Go.Am

variable {h h' : Heap} {μ μ' : Mu} {w w' : World} {P : Program} {M M' : Mem}
variable {gl : Nat → Option PV} {nt : Nat} {M0 : Mem} {h0 : Heap} {μ0 : Mu} {e : List (Nat × AV)} {x : Esc} {a : Act}

theorem fin_ok {F : AFun} {fn : Func} {s : St} {K : Post} (R : Rel gl nt M0 h0 μ0 s.env s.h s.esc a w μ) (Hs : ∀ id, topAt h0 id ≤ h0.length) (hc : chkRes P F.results fn.results.toList = true) (H : fin F h0.length s K) :
    ∃ u, (results fn a.tmps).run P w = .ok u w ∧ ∃ v h' x μ', K v h' x ∧ RAV (imm h' μ' w) h' μ' v u ∧ HeapRel h' μ' w ∧ Evo M0 h0 μ0 (imm h' μ' w) h' μ' ∧ EscInv h0 h' x := by
  unfold fin at H
  split at H
  · rename_i vs hvs
    obtain ⟨u, hu, hR⟩ := results_ok R.heap R.env hc hvs
    refine ⟨u, hu, ?_⟩
    split at H
    · dsimp only at H
      split at H
      · rename_i hcl
        have hn := close_ge s.esc.length s.esc (max h0.length (oneOf vs).top)
        generalize close s.esc.length s.esc (max h0.length (oneOf vs).top) = n at H hcl hn
        obtain ⟨q1, q2, q3, q4⟩ := take_ok Hs R.heap R.evo R.esc (by omega) hcl
        exact ⟨_, _, _, μ.take n, H, hR.take q2 (by omega), q1, q3, q4⟩
      · exact ⟨_, _, _, μ, H, hR, R.heap, R.evo, R.esc⟩
    · split at H
      · rename_i v0 hv0
        dsimp only at H
        split at H
        · rename_i hcl
          have hn := close_ge s.esc.length s.esc (max h0.length v0.top)
          generalize close s.esc.length s.esc (max h0.length v0.top) = n at H hcl hn
          split at H
          · rename_i v hv
            obtain ⟨q1, q2, q3, q4⟩ := take_ok Hs R.heap R.evo R.esc (by omega) hcl
            exact ⟨_, _, _, μ.take n, H.2, reif_ok R.heap q2 _ hR hv H.1, q1, q3, q4⟩
          · exact H.elim
        · exact ⟨_, _, _, μ, H, hR, R.heap, R.evo, R.esc⟩
      · exact H.elim
  · exact H.elim

def chkFun (P : Program) (f : Nat) (F : AFun) : Bool := match P.funcs[f]? with
  | some fn => match fn.body with
    | some c => chkCode P fn.ntmps F.body c && chkRes P F.results fn.results.toList && fn.name != "runtime.NumGoroutine"
    | none => false
  | none => false

theorem enters {f : Nat} {fn : Func} {c : Code} (hf : P.funcs[f]? = some fn) (hb : fn.body = some c) (hn : fn.name ≠ "runtime.NumGoroutine") (args : Array Value) (w : World) : (callFunc f args).run P w = .ok (.enter f args) w := by
  unfold callFunc
  simp [hf, hb, hn]

theorem enter_get {as : List AV} {t : Nat} : aget (enter as) t = (as[t]?).getD .und := by
  have key : ∀ (l : List AV) (k t : Nat), aget ((l.zipIdx k).map fun y => (y.2, y.1)) t = if t < k then .und else (l[t - k]?).getD .und := by
    intro l
    induction l with
    | nil => intro k t; simp [aget]
    | cons v r ih =>
      intro k t
      simp only [List.zipIdx_cons, List.map_cons, aget]
      by_cases hk : k = t
      · subst hk; simp
      · rw [if_neg hk, ih]
        by_cases h1 : t < k
        · rw [if_pos h1, if_pos (by omega)]
        · rw [if_neg h1, if_neg (by omega), show t - k = (t - (k + 1)) + 1 by omega]
          simp
  have := key as 0 t
  simpa [enter] using this

/-- New memory, and what was read of the old. -/
def ExtM (M : Mem) (w w' : World) : Mem := ⟨fun b o => if b < w.heap.size then M.c b o else w'.cell? ⟨b, o, none⟩, fun _ => none, some (zed w')⟩

/-- What is asked of a function that is not walked here: it reads lists, and lays new memory at most. -/
def ExtOk (P : Program) (f : Nat) (vs : List PV) (r : PV) : Prop := ∀ (M : Mem) (w : World) (us : List Value), (∀ b o v, M.c b o = some v → w.cell? ⟨b, o, none⟩ = some v) → vs.length = us.length →
  (∀ (j : Nat) (y : PV) (v : Value), vs[j]? = some y → us[j]? = some v → RPV M y v) →
  (∀ w, (callFunc f us.toArray).run P w = .ok (.enter f us.toArray) w) ∧ Calls P f us.toArray w fun
    | .returned x, w' => WExt w w' ∧ RPV (ExtM M w w') r x
    | _, _ => False

structure Fits (P : Program) (X : Ctx) : Prop where
  mixed : P.follows .mixedOrders = true
  fn : ∀ f F, X.fn f = some F → chkFun P f F = true
  ext : ∀ f vs r, X.fn f = none → X.ext f vs = some r → ExtOk P f vs r

theorem step_sound {X : Ctx} (HX : Fits P X) {f : Nat} {as : List AV} {h : Heap} {K : Post} (H : Step X (CallOk P X.gl) f as h K) : CallOk P X.gl f as h K := by
  intro μ w vs Hh Hg hl hr
  unfold Step at H
  split at H
  · rename_i F hF
    have hck := HX.fn f F hF
    unfold chkFun at hck
    split at hck
    · rename_i fn hfn
      split at hck
      · rename_i c hb
        simp only [Bool.and_eq_true, bne_iff_ne, ne_eq] at hck
        obtain ⟨⟨c1, c2⟩, c3⟩ := hck
        refine ⟨fun w => enters hfn hb c3 _ w, calls_of_wp hfn hb ?_⟩
        unfold abody at H
        have body : ∀ {as' : List AV} {h1 : Heap}, PurOk h μ w h1 → as'.length = vs.length → (∀ (j : Nat) (y : AV) (v : Value), as'[j]? = some y → vs[j]? = some v → RAV (imm h1 μ w) h1 μ y v) →
            (as'.length = F.nparams ∧ AW (CallOk P X.gl) X.gl F.body ⟨enter as', h1, []⟩ fun e s => match e with
              | .exit _ => False
              | _ => fin F h.length s K) → Code.wp P c (bodyPost P fn fun
                | .returned r, w' => ∃ v h' x μ', K v h' x ∧ RAV (imm h' μ' w') h' μ' v r ∧ HeapRel h' μ' w' ∧ Evo (imm h μ w) h μ (imm h' μ' w') h' μ' ∧ EscInv h h' x
                | _, _ => False) { tmps := vs.toArray ++ Array.replicate (fn.ntmps - vs.toArray.size) undef, defers := [] } w := by
          intro as' h1 ⟨a1, a2, a3⟩ hl' hr' ⟨_, hA⟩
          refine code_sound HX.mixed (nt := fn.ntmps) (M0 := imm h μ w) (h0 := h) (μ0 := μ) (μ := μ) (fun _ _ _ _ h => h) F.body c1 hA ⟨a1, fun t => ?_, Hg.mono a2.le, a2, a3, ?_, rfl⟩ (fun ex s' a' w' μ' hk R' => ?_)
          · dsimp only
            rw [enter_get]
            cases ht : as'[t]? with
            | none => exact .und _
            | some y =>
              have hlt : t < vs.length := by rw [← hl']; exact lt_of_get ht
              have : (vs.toArray ++ Array.replicate (fn.ntmps - vs.toArray.size) undef).getD t undef = vs[t] := by
                simp [Array.getD, hlt]
                intro hh; omega
              rw [this]
              exact hr' t y _ ht (List.getElem?_eq_getElem hlt)
          · simp; omega
          · cases ex with
            | normal =>
              obtain ⟨u, q1, q2⟩ := fin_ok R' (fun id => topAt_le Hh id) c2 hk
              exact ⟨R'.defers, u, q1, q2⟩
            | exit i => exact hk.elim
            | ret =>
              obtain ⟨u, q1, q2⟩ := fin_ok R' (fun id => topAt_le Hh id) c2 hk
              exact ⟨R'.defers, u, q1, q2⟩
        split at H
        · rename_i as' h1 hp
          split at hp
          · injection hp with hp
            injection hp with e1 e2
            subst e1; subst e2
            exact body ⟨Hh, Evo.refl _ _ _, EscInv.refl _ _⟩ hl hr H
          · obtain ⟨q1, q2, q3⟩ := puras_ok as Hh hl hr hp
            exact body q1 q2 q3 H
        · exact H.elim
      · cases hck
    · cases hck
  · rename_i hF
    split at H
    · rename_i as' h1 hp
      split at H
      · rename_i ps hps
        split at H
        · rename_i r hrr
          obtain ⟨q1, q2, q3⟩ := puras_ok as Hh hl hr hp
          have hm := unp_spec hps
          subst hm
          obtain ⟨k1, k2⟩ := HX.ext f ps r hF hrr (imm h1 μ w) w vs (fun b o v hv => (imm_some.1 hv).2) (by simpa using q2) (fun j y v hy hv => (q3 j (.p y) v (by simp [hy]) hv).p_inv)
          refine ⟨k1, k2.mono fun en w' he => ?_⟩
          cases en with
          | returned u =>
            obtain ⟨g1, g2⟩ := he
            obtain ⟨n1, n2⟩ := q1.1.ext g1
            have L : (ExtM (imm h1 μ w) w w').le (imm h1 μ w') := by
              refine ⟨fun b o v hv => ?_, fun b o hv => ?_, rfl⟩
              · dsimp only [ExtM] at hv
                split at hv
                · exact n2.le.c _ _ _ hv
                · rename_i hb
                  exact imm_some.2 ⟨fun hO => hb (owned_lt q1.1 hO), hv⟩
              · dsimp only [ExtM] at hv
                cases hv
            exact ⟨_, _, _, μ, H, .p _ _ (g2.mono L), n1, q1.2.1.trans n2, q1.2.2⟩
          | panicked _ => exact he.elim
          | outgrown => exact he.elim
        · exact H.elim
      · exact H.elim
    · exact H.elim

/-- A call that ends well here ends well in the model. -/
theorem call_sound {X : Ctx} (HX : Fits P X) {f : Nat} {as : List AV} {h : Heap} {K : Post} (H : ACall X f as h K) : CallOk P X.gl f as h K :=
  H (CallOk P X.gl) (CallOk.mono P X.gl) (fun f a h K hs => step_sound HX hs)

end Go.Am
