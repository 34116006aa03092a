/- The abstract machine, part 25: from a call that ends well here to the model's call on a whole world. -/
import Derived.Test.YtajhbehiecgflaaAm24
import Derived.Below
import Derived.ChangeSlices
import Derived.Carry
set_option linter.unusedSimpArgs false
set_option linter.unusedVariables false
namespace Go.Am

variable {P : Program}

theorem heapRel0 (W : World) : HeapRel [] [] W := ⟨rfl, fun id o m h => by simp at h, fun i j b n n' h => by simp at h, fun i b n h => by simp at h⟩

theorem imm0_blk {W : World} {b : Nat} {o : Go.Obj} (hb : W.heap[b]? = some o) : (imm [] [] W).b b = some o := imm_blk.2 ⟨fun ⟨id, n, h⟩ => by simp at h, hb⟩

theorem imm0_cell {W : World} {b o : Nat} {v : Value} (hb : W.cell? ⟨b, o, none⟩ = some v) : (imm [] [] W).c b o = some v := imm_some.2 ⟨fun ⟨id, n, h, _⟩ => by simp at h, hb⟩

theorem below_of {W W' : World} {h : Heap} {μ : Mu} (E : (imm [] [] W).le (imm h μ W')) : RowKit.Below W.heap.size W W' := by
  have hz : zed W' = zed W := Option.some.inj E.z
  have hb : ∀ b, b < W.heap.size → W'.heap[b]? = W.heap[b]? := fun b hb => by
    have h1 := Array.getElem?_eq_getElem hb
    rw [h1]
    exact (imm_blk.1 (E.b b _ (imm0_blk h1))).2
  refine ⟨(congrArg World.os hz : (zed W').os = (zed W).os), (congrArg World.tape hz : (zed W').tape = (zed W).tape), (congrArg World.output hz : (zed W').output = (zed W).output), ?_, hb⟩
  rcases Nat.eq_zero_or_pos W.heap.size with h0 | h0
  · omega
  · have h1 := hb (W.heap.size - 1) (by omega)
    rw [Array.getElem?_eq_getElem (show W.heap.size - 1 < W.heap.size by omega)] at h1
    have := (Array.getElem?_eq_some_iff.1 h1).1
    omega

theorem calls_of {X : Ctx} (HX : Fits P X) {f : Nat} {as : List AV} {K : Post} (H : ACall X f as [] K) {W : World} {vs : List Value} (hG : GInv X.gl (imm [] [] W)) (hl : as.length = vs.length)
    (hr : ∀ (j : Nat) (y : AV) (v : Value), as[j]? = some y → vs[j]? = some v → RAV (imm [] [] W) [] [] y v) :
    Calls P f vs.toArray W fun
      | .returned r, W' => (∃ v h x μ, K v h x ∧ RAV (imm h μ W') h μ v r) ∧ RowKit.Below W.heap.size W W'
      | _, _ => False := by
  refine (call_sound HX H [] W vs (heapRel0 W) hG hl hr).2.mono fun e W' he => ?_
  cases e with
  | returned r =>
    obtain ⟨v, h', x, μ', k1, k2, k3, k4, k5⟩ := he
    exact ⟨⟨v, h', x, μ', k1, k2⟩, below_of k4.le⟩
  | panicked _ => exact he
  | outgrown => exact he

/-- Whole numbers as they came in. -/
def pints (zs : List Int) : AV := .p (.sl none (zs.map fun n => .int .i64 n))

theorem came_nil (W : World) : RAV (imm [] [] W) [] [] (pints []) (.slice none 0 0) := .p _ _ (.nils _ _ _)

theorem came_ints {W : World} {a : Addr} {len cap : Nat} {zs : List Int} (hs : a.spot = none) (hl : len ≤ cap) (hz : len ≤ zs.length) (hc : ∀ i, i < zs.length → W.cell? (a.add i) = some (.int .i64 (zs.getD i 0))) :
    RAV (imm [] [] W) [] [] (pints (zs.take len)) (.slice (some a) len cap) := by
  obtain ⟨b, o, s⟩ := a
  simp only at hs
  subst hs
  refine .p _ _ ?_
  have hlen : ((zs.take len).map fun n => PV.int .i64 n).length = len := by simp [hz]
  have hfl : ((zs.take len).map fun n => PV.int .i64 n).flatMap PV.cells = (zs.take len).map fun n => PV.int .i64 n := by
    generalize zs.take len = l
    induction l with
    | nil => rfl
    | cons n r ih => simp only [List.map_cons, List.flatMap_cons, ih]; rfl
  by_cases h0 : len = 0
  · subst h0
    simp
    exact .nils _ _ _
  · have key := RPV.sl (M := imm [] [] W) none ((zs.take len).map fun n => PV.int .i64 n) b o cap (fun j => .int .i64 (zs.getD j 0)) (fun hh => by rw [hh] at hlen; simp at hlen; omega) (by rw [hlen]; exact hl)
      (fun x hx => by obtain ⟨n, _, rfl⟩ := List.mem_map.1 hx; rfl)
      (fun j y hy => by
        rw [hfl] at hy
        have hj : j < len := by have := lt_of_get hy; rw [hlen] at this; exact this
        have := hc j (by omega)
        rw [add_at] at this
        exact imm0_cell this)
      (fun j y hy => by
        rw [hfl] at hy
        have hj : j < len := by have := lt_of_get hy; rw [hlen] at this; exact this
        have hjz : j < zs.length := by omega
        simp [List.getElem?_take, hj, hjz] at hy
        subst hy
        have : zs.getD j 0 = zs[j] := by simp [List.getD, hjz]
        rw [this]
        exact .int _ _)
    rwa [hlen] at key

end Go.Am
