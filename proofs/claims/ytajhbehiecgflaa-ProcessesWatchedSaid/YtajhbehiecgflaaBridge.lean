/- From a law that is true here to the model's calls at what came in. -/
import Derived.Test.YtajhbehiecgflaaAm31
import Derived.ProofKit
open Go
namespace Go.Am
variable {P : Program}

/-- A call with whole numbers that came in: it returns true, and what was is as it was. -/
theorem law_nil {X : Ctx} (HX : Fits P X) (hgl : X.gl = fun _ => none) {f : Nat} (H : ∀ L : List Int, ACall X f [pints L] [] fun v _ _ => v = .p (.bool true)) (W : World) :
    Calls P f #[.slice none 0 0] W fun e W' => e = .returned (.bool true) ∧ RowKit.Below W.heap.size W W' := by
  refine (calls_of HX (H []) (W := W) (vs := [.slice none 0 0]) (fun n v hv => by rw [hgl] at hv; cases hv) rfl (fun j y v hy hv => ?_)).mono fun e W' he => ?_
  · cases j with
    | zero => cases hy; cases hv; exact came_nil W
    | succ j => cases hy
  · cases e with
    | returned r =>
      obtain ⟨⟨v, h, x, μ, hk, hr⟩, hb⟩ := he
      subst hk
      exact ⟨by rw [hr.p_bool], hb⟩
    | panicked _ => exact he.elim
    | outgrown => exact he.elim
theorem law_ints {X : Ctx} (HX : Fits P X) (hgl : X.gl = fun _ => none) {f : Nat} (H : ∀ L : List Int, ACall X f [pints L] [] fun v _ _ => v = .p (.bool true)) {W : World} {a : Addr} {len cap : Nat} {zs : List Int}
    (hl : len ≤ cap) (hz : len ≤ zs.length) (hc : ∀ i, i < zs.length → W.cell? (a.add i) = some (.int .i64 (zs.getD i 0))) :
    Calls P f #[.slice (some a) len cap] W fun e W' => e = .returned (.bool true) ∧ RowKit.Below W.heap.size W W' := by
  refine (calls_of HX (H (zs.take len)) (W := W) (vs := [.slice (some a) len cap]) (fun n v hv => by rw [hgl] at hv; cases hv) rfl (fun j y v hy hv => ?_)).mono fun e W' he => ?_
  · cases j with
    | zero =>
      cases hy; cases hv
      rcases Nat.eq_zero_or_pos len with h0 | h0
      · subst h0
        exact .p _ _ (.nils _ _ _)
      · exact came_ints (by simpa [Addr.add] using World.cell?_spot (hc 0 (by omega))) hl hz hc
    | succ j => cases hy
  · cases e with
    | returned r =>
      obtain ⟨⟨v, h, x, μ, hk, hr⟩, hb⟩ := he
      subst hk
      exact ⟨by rw [hr.p_bool], hb⟩
    | panicked _ => exact he.elim
    | outgrown => exact he.elim

end Go.Am

namespace Go.ChangeShapes
open Go.RowKit Go.WideShapes
section
variable {H : Type} {enc : TypeId × Value → H} {P : Program}
theorem post_below {f : Func} {s : ChangeSpec} {apart fresh handsOn again : Bool} {W W' : World} {args : Array Value} {v : Value} {ds gs : List (DataW H)} {before pa pv : List MemPlace}
    (hW : DataW.Whole enc P f.params.toList s.vars apart W args.toList ds gs before)
    (hres : ∀ (b : Nat) (sp : Nat → Bool) (hd : Bool), DataW.TrodAll enc P W' b sp hd f.resultTypes.toList (v.resultList f.resultTypes.size) (s.fn H (ds ++ gs)).results [])
    (hargs : ∀ sp : Nat → Bool, (∀ p ∈ before, sp p.block = true) → DataW.TrodAll enc P W' 0 sp true f.params.toList args.toList (s.fn H (ds ++ gs)).args pa)
    (hvars : ∀ sp : Nat → Bool, (∀ p ∈ before, sp p.block = true) → DataW.TrodVars enc P W' sp s.vars (s.fn H (ds ++ gs)).vars pv)
    (hps : before = pa ++ pv) (hb : Below W.heap.size W W')
    (hok : ∀ (j : Nat) (t : TypeId) (r : Value), f.resultTypes[j]? = some t → (v.resultList f.resultTypes.size)[j]? = some r → Value.okWide P W' .any 0 t r) :
    s.post enc P f apart fresh handsOn again W args v W' := by
  have hlt : ∀ p ∈ before, p.block < W.heap.size := fun p hp => hW.lt p hp
  have hold : ∀ p ∈ before, (fun b => decide (b < W.heap.size)) p.block = true := fun p hp => by simpa using hlt p hp
  refine ⟨ds, gs, before, [], pa, pv, hW, hres _ _ _, hargs _ hold, hvars _ hold, World.keptBut_mono (fun p hp => ⟨hp, ?_⟩) (hb.frame (· ∈ before)), fun _ => ?_⟩
  · rw [hps, List.mem_append] at hp
    exact Or.inr hp
  · obtain ⟨_, _, _, _, _, hz, hn⟩ := hW
    refine ⟨hok, _, _, ([] ++ pa) ++ pv, ⟨[] ++ pa, pv, trodAll_append (hargs _ (fun _ _ => rfl)) (hres _ _ _), hvars _ (fun _ _ => rfl), rfl, ?_, ?_⟩, ?_⟩
    · intro b off hp
      have hin : MemPlace.cell b off ∈ before := by rw [hps]; simpa using hp
      rw [hb.frozen (hlt _ hin)]
      exact hz b off hin
    · intro ha
      have := hn ha
      rw [hps] at this
      simpa using this
    · intro p hp _
      rw [hps]
      simpa using hp
end
end Go.ChangeShapes
