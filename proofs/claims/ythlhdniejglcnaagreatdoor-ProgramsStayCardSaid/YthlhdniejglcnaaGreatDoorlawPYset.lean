/- What the reference says of a setting: the last command of a kind. -/
import Derived.RangeFuncBox
import Derived.RangeFuncNested
import Derived.RangeFuncLeaves
import Derived.Shelf.Abstract
import Derived.WalkKit
import Derived.OwnWalkIn
import Derived.TacticsInMore
import Derived.LoopNIn
import Derived.LoopIn
import Derived.Test.YthlhdniejglcnaaGreatDoorRows
namespace Go.Proofs.YthlhdniejglcnaaGreatDoor
open Go.RowKit Go.Shelf
attribute [local go_sem] Oper.semAt_some
def Bk.upto (len:Nat)(k:Nat):List Nat := (List.range k).map fun j => len-1-j
theorem Bk.upto_succ (len k:Nat):Bk.upto len (k+1)=Bk.upto len k++[len-1-k] := by simp [Bk.upto, List.range_succ]
theorem Bk.upto_length (len k:Nat):(Bk.upto len k).length=k := by simp [Bk.upto]
def Bk.el (f:Nat→Nat→Value)(j:Nat):Value := .agg #[f j 0, f j 1, f j 2, f j 3, f j 4, f j 5]
set_option maxRecDepth 100000 in
set_option maxHeartbeats 2000000 in
theorem Bk.back_in (F:Fence)(n:Nat)(h7:F.fn 222)(hro:F.round=none)(hn:1≤n)(l Bs n₀ b off len cap:Nat)(f:Nat→Nat→Value)(hreach:len*200≤140737488351232)(hb:b<n₀)(hBl:Bs<n₀)(J Jx:List Nat→World→Prop)
 (hY:∀(pre:List Nat) (x:Nat) (W:World), J pre W→pre.length<len→YieldAt F (n-1) Tryz.prog l #[.int .i64 (x:Nat), Bk.el f x] W fun e W' =>
  (e = .returned (.bool true)∧J (pre++[x]) W'∧Below n₀ W W')∨(e = .returned (.bool false)∧Jx (pre++[x]) W'))
 (W:World) (hBs:W.cell? ⟨Bs, 0, none⟩=some (.slice (some ⟨b, off, none⟩) len cap)) (hc:∀j q, j<len→q<6→W.cell? ⟨b, off+(6*j+q), none⟩=some (f j q)) (h0:J [] W) :
 CallsIn F n Tryz.prog 222 #[.func (.yield l) #[] #[], .pointer (some ⟨Bs, 0, none⟩)] W fun e W' => (∃v, e = .returned v) ∧
  ((∃ys, ys=Bk.upto len len∧J ys W')∨(∃pre, (∃k, k≤len∧pre=Bk.upto len k)∧Jx pre W')) := by
 refine callsIn_of_wp Tryz.func222 rfl h7 ?_ hro;simp only[Tryz.ntmps222, List.size_toArray, List.length_cons, List.length_nil, Nat.reduceAdd, Nat.reduceSub, Array.replicate_succ, Array.replicate_zero, List.push_toArray, List.append_toArray, List.nil_append, List.cons_append];gi_wp2
 gi_loopw [3] (fun i wr => ∃k j:Nat, k+j=len∧i = .int .i64 ((j:Int)-1)∧J (Bk.upto len k) wr∧Below n₀ W wr)
  (fun i _ => (intOf i+1).toNat)
 case atStart => exact⟨0, len, Nat.zero_add _, rfl, h0, Below.refl _ _⟩
 case round =>
  obtain⟨k, j, hk, rfl, hJs, hnx⟩ := hrel;cases j with
  | zero =>
   obtain rfl:k=len := by omega
   have e0:((0:Nat):Int)-1 = -1 := rfl
   rw[e0];gi_wp2
   go_end0
   exact⟨⟨_, rfl⟩, .inl ⟨_, rfl, hJs⟩⟩
  | succ j =>
   have e0:((j+1:Nat):Int)-1=(j:Int) := by omega
   rw[e0];have hx:len-1-k=j := by omega
   obtain⟨fn, tmps, assign, body, hy, hR⟩ := hY _ j wr hJs (by rw[Bk.upto_length];omega)
   have hcx:∀q, q<6→wr.cell? ⟨b, off+j*6+q, none⟩=some (f j q) := fun q hq => (hnx.cell (p := ⟨b, off+j*6+q, none⟩) hb).trans ((congrArg (fun o => W.cell? ⟨b, o, none⟩) (by omega)).trans (hc j q (by omega) hq))
   have c0:wr.cell? ⟨b, off+j*6, none⟩=some (f j 0) := hcx 0 (by omega)
   have c1 := hcx 1 (by omega)
   have c2 := hcx 2 (by omega)
   have c3 := hcx 3 (by omega)
   have c4 := hcx 4 (by omega)
   have c5 := hcx 5 (by omega)
   unfold Bk.el at hy;have hBs':wr.cell? ⟨Bs, 0, none⟩=some (.slice (some ⟨b, off, none⟩) len cap) := (hnx.cell (p := ⟨Bs, 0, none⟩) hBl).trans hBs
   gi_wp2
   refine hR.mono ?_;rintro e W3 (⟨rfl, hJ3, hk3⟩|⟨rfl, hJx3⟩)
   ·gi_wp2
    go_roundw
    case rel => exact⟨k+1, j, by omega, by simp, by rw[Bk.upto_succ, hx];exact hJ3, hnx.trans hk3⟩
    case measure => simp [intOf]
   ·gi_wp2
    refine bodyPost_ret (results_none rfl _ _ _) rfl ?_;exact⟨⟨_, rfl⟩, .inr ⟨_, ⟨k+1, by omega, ((Bk.upto_succ _ _).trans (by rw[hx])).symm⟩, hJx3⟩⟩
set_option maxRecDepth 100000 in
set_option maxHeartbeats 1000000 in
theorem Bk.back_nil_in (F:Fence)(n:Nat)(h7:F.fn 222)(hro:F.round=none)(l Bs:Nat)(a:Option Addr)(cap:Nat)(J:List Nat→World→Prop)(W:World)(hBs:W.cell? ⟨Bs, 0, none⟩=some (.slice a 0 cap))(h0:J [] W) :
 CallsIn F n Tryz.prog 222 #[.func (.yield l) #[] #[], .pointer (some ⟨Bs, 0, none⟩)] W fun e W' => (∃v, e = .returned v)∧J [] W' := by
 refine callsIn_of_wp Tryz.func222 rfl h7 ?_ hro;simp only[Tryz.ntmps222, List.size_toArray, List.length_cons, List.length_nil, Nat.reduceAdd, Nat.reduceSub, Array.replicate_succ, Array.replicate_zero, List.push_toArray, List.append_toArray, List.nil_append, List.cons_append];gi_wp2
 gi_loopw [3] (fun i wr => i = .int .i64 (-1)∧J [] wr) (fun _ _ => 0)
 case atStart => exact⟨rfl, h0⟩
 case round =>
  obtain⟨rfl, hJs⟩ := hrel;gi_wp2
  go_end0
  exact⟨⟨_, rfl⟩, hJs⟩
set_option maxHeartbeats 1000000 in
theorem Bk.backward_in (F:Fence)(n:Nat)(h5:F.fn 192)(hro:F.round=none)(a:Option Addr)(len cap:Nat)(w:World) :
 CallsIn F n Tryz.prog 192 #[.slice a len cap] w fun e w' => e = .returned (.func (.func 222) #[] #[.pointer (some ⟨w.heap.size, 0, none⟩)])∧w'=w.alloc (.cells #[.slice a len cap] 28) := by
 refine callsIn_of_wp Tryz.func192 rfl h5 ?_ hro;simp only[Tryz.ntmps192, List.size_toArray, List.length_cons, List.length_nil, Nat.reduceAdd, Nat.reduceSub, Array.replicate_succ, Array.replicate_zero, List.push_toArray, List.append_toArray, List.nil_append, List.cons_append];gi_wp2
 go_ret
 exact⟨rfl, rfl⟩
def Bk.Has (n₀:Nat)(W:World)(sv:Value)(len:Nat)(f:Nat→Nat→Value):Prop :=
 (len=0∧∃a cap, sv = .slice a 0 cap)∨∃b off cap, sv = .slice (some ⟨b, off, none⟩) len cap∧b<n₀∧∀j q, j<len→q<6→W.cell? ⟨b, off+(6*j+q), none⟩=some (f j q)
theorem Bk.Has.below {n₀:Nat}{A B:World}(h:Below n₀ A B){sv:Value}{len:Nat}{f:Nat→Nat→Value}:Bk.Has n₀ A sv len f→Bk.Has n₀ B sv len f
 | .inl e => .inl e
 | .inr ⟨b, off, cap, e, hb, hc⟩ => .inr ⟨b, off, cap, e, hb, fun j q hj hq => (h.cell (p := ⟨b, off+(6*j+q), none⟩) hb).trans (hc j q hj hq)⟩
theorem Bk.stops (F:Fence)(n:Nat)(h7:F.fn 222)(hro:F.round=none)(hn:1≤n)(Bs n₀:Nat)(hBl:Bs<n₀)(sv:Value)(len:Nat)(f:Nat→Nat→Value)(hreach:len*200≤140737488351232)(w:World)(hn₀:n₀≤w.heap.size)
 (hc:w.cell? ⟨Bs, 0, none⟩=some sv) (hI:Bk.Has n₀ w sv len f) :
 SeqStopsK F n Tryz.prog 222 #[.pointer (some ⟨Bs, 0, none⟩)] (fun x:Nat => #[Value.int .i64 (x:Int), Bk.el f x]) (Below n₀) (fun ys => ys=Bk.upto len len) (fun pre => ∃k, k≤len∧pre=Bk.upto len k) len w := fun l J Jx W hW _ _ hY h0 => by
 have hc' := (hW.cell (p := ⟨Bs, 0, none⟩) (by show Bs<_;omega)).trans hc
 rcases hI.below (hW.mono hn₀) with⟨rfl, a, cap, rfl⟩|⟨b, off, cap, rfl, hb, hcs⟩
 ·exact(Bk.back_nil_in F n h7 hro l Bs a cap J W hc' h0).mono fun e W' ⟨he, hj⟩ => ⟨he, .inl ⟨_, rfl, hj⟩⟩
 ·exact Bk.back_in F n h7 hro hn l Bs n₀ b off len cap f hreach hb hBl J Jx hY W hc' hcs h0
def Bk.set6 (W:World)(B:Nat)(v:Nat→Value):World := ((((((W.setCell ⟨B, 0, none⟩ (v 0)).setCell ⟨B, 1, none⟩ (v 1)).setCell ⟨B, 2, none⟩ (v 2)).setCell ⟨B, 3, none⟩ (v 3)).setCell ⟨B, 4, none⟩ (v 4)).setCell ⟨B, 5, none⟩ (v 5))
theorem Bk.set6_keeps (W:World)(B:Nat)(v:Nat→Value):KeepsOthers W (Bk.set6 W B v) :=
 (((((KeepsOthers.setCell W _ _).trans (KeepsOthers.setCell _ _ _)).trans (KeepsOthers.setCell _ _ _)).trans (KeepsOthers.setCell _ _ _)).trans (KeepsOthers.setCell _ _ _)).trans (KeepsOthers.setCell _ _ _)
theorem Bk.set6_below {s:Nat}{w W:World}(h:Below s w W)(B:Nat)(hB:s≤B)(v:Nat→Value):Below s w (Bk.set6 W B v) :=
 (((((h.setCell hB _).setCell hB _).setCell hB _).setCell hB _).setCell hB _).setCell hB _
theorem Bk.set6_cell {W:World}{B:Nat}(v:Nat→Value)(h:∀ q, q<6→∃ x, W.cell? ⟨B, q, none⟩=some x)(q:Nat)(hq:q<6):(Bk.set6 W B v).cell? ⟨B, q, none⟩=some (v q) := by
 obtain⟨x0, h0⟩ := h 0 (by omega)
 obtain⟨x1, h1⟩ := h 1 (by omega)
 obtain⟨x2, h2⟩ := h 2 (by omega)
 obtain⟨x3, h3⟩ := h 3 (by omega)
 obtain⟨x4, h4⟩ := h 4 (by omega)
 obtain⟨x5, h5⟩ := h 5 (by omega)
 have key:∀(U:World) (a c:Nat) (y:Value), c≠a→(U.setCell ⟨B, a, none⟩ y).cell? ⟨B, c, none⟩=U.cell? ⟨B, c, none⟩ := fun U a c y hn => World.cell?_setCell_other U _ _ y (fun e => hn (congrArg Addr.off e).symm)
 have same:∀(U:World) (a:Nat) (y z:Value), U.cell? ⟨B, a, none⟩=some z→(U.setCell ⟨B, a, none⟩ y).cell? ⟨B, a, none⟩=some y := fun U a y z hz => World.cell?_setCell_same' _ _ _ (by rw[hz];rfl)
 unfold Bk.set6;have hc:q=0∨q=1∨q=2∨q=3∨q=4∨q=5 := by omega
 rcases hc with rfl|rfl|rfl|rfl|rfl|rfl
 ·rw[key _ 5 _ _ (by decide), key _ 4 _ _ (by decide), key _ 3 _ _ (by decide), key _ 2 _ _ (by decide), key _ 1 _ _ (by decide)];exact same _ _ _ _ h0
 ·rw[key _ 5 _ _ (by decide), key _ 4 _ _ (by decide), key _ 3 _ _ (by decide), key _ 2 _ _ (by decide)];exact same _ _ _ x1 (by rw[key _ 0 _ _ (by decide)];exact h1)
 ·rw[key _ 5 _ _ (by decide), key _ 4 _ _ (by decide), key _ 3 _ _ (by decide)];exact same _ _ _ x2 (by rw[key _ 1 _ _ (by decide), key _ 0 _ _ (by decide)];exact h2)
 ·rw[key _ 5 _ _ (by decide), key _ 4 _ _ (by decide)];exact same _ _ _ x3 (by rw[key _ 2 _ _ (by decide), key _ 1 _ _ (by decide), key _ 0 _ _ (by decide)];exact h3)
 ·rw[key _ 5 _ _ (by decide)];exact same _ _ _ x4 (by rw[key _ 3 _ _ (by decide), key _ 2 _ _ (by decide), key _ 1 _ _ (by decide), key _ 0 _ _ (by decide)];exact h4)
 ·exact same _ _ _ x5 (by rw[key _ 4 _ _ (by decide), key _ 3 _ _ (by decide), key _ 2 _ _ (by decide), key _ 1 _ _ (by decide), key _ 0 _ _ (by decide)];exact h5)
def Bk.idle (q:Nat):Value := match q with|0 => .int .i64 0|1 => .int .i64 1|2 => .int .i64 0|_ => .string ⟨#[]⟩
theorem Bk.new6 (W:World)(v:Nat→Value)(t:TypeId)(q:Nat)(hq:q<6):(W.alloc (.cells #[v 0, v 1, v 2, v 3, v 4, v 5] t)).cell? ⟨W.heap.size, q, none⟩=some (v q)∧(W.alloc (.cells #[v 0, v 1, v 2, v 3, v 4, v 5] t)).frozen? ⟨W.heap.size, q, none⟩=false := by
 have hc:q=0∨q=1∨q=2∨q=3∨q=4∨q=5 := by omega
 have hb:(W.alloc (.cells #[v 0, v 1, v 2, v 3, v 4, v 5] t)).heap[W.heap.size]?=some (.cells #[v 0, v 1, v 2, v 3, v 4, v 5] t) := World.alloc_heap_new W _
 have h1 : #[v 0, v 1, v 2, v 3, v 4, v 5][q]?=some (v q) := by rcases hc with rfl|rfl|rfl|rfl|rfl|rfl <;> rfl
 constructor
 ·unfold World.cell?;simp only[hb];exact h1
 ·unfold World.frozen?;simp only[hb];rfl
set_option maxRecDepth 100000 in
set_option maxHeartbeats 2000000 in
theorem Bk.setting_in (F:Fence)(n:Nat)(h4:F.fn 150)(h6:F.fn 192)(h8:F.fn 222)(hro:F.round=none)(hn:3≤n)(b off len cap:Nat)(i:Nat)(k:Int)(hi:i≤len)(hcap:len≤cap)(f:Nat→Nat→Value)(kd:Nat→Int)(hf:∀ j, ∃ b c s t u, f j 0 = .int .i64 (kd j)∧f j 1 = .int .i64 b∧f j 2 = .int .i64 c∧f j 3 = .string s∧f j 4 = .string t∧f j 5 = .string u)(hreach:len*200≤140737488351232)(w:World)
 (hI:b<w.heap.size∧∀j q, j<len→q<6→w.cell? ⟨b, off+(6*j+q), none⟩=some (f j q)) :
 CallsIn F n Tryz.prog 150 #[.slice (some ⟨b, off, none⟩) len cap, .int .i64 i, .int .i64 k] w fun e W' =>
  ((∃j, j<i∧e = .returned (Bk.el f j)∧kd j=k∧∀j', j<j'→j'<i→kd j'≠k)∨(e = .returned (.agg #[.int .i64 0, .int .i64 1, .int .i64 0, .string ⟨#[]⟩, .string ⟨#[]⟩, .string ⟨#[]⟩])∧∀j, j<i→kd j≠k))∧Below w.heap.size w W' := by
 have h1:1≤n := by omega
 refine callsIn_of_wp_marks Tryz.func150 rfl h4 ?_ hro;simp only[Tryz.ntmps150, List.size_toArray, List.length_cons, List.length_nil, Nat.reduceAdd, Nat.reduceSub, Array.replicate_succ, Array.replicate_zero, List.push_toArray, List.append_toArray, List.nil_append, List.cons_append];gi_wp2_with (gi_at_call 192;refine(Bk.backward_in F (n-1) h6 hro _ _ _ _).mono ?_;rintro e w' ⟨rfl, rfl⟩)
 obtain⟨s, hs⟩:∃s, w.heap.size=s := ⟨_, rfl⟩;obtain⟨wR, hwR⟩:∃wR, wR=(((w.alloc (Obj.cells #[Value.int IntKind.i64 k] 3)).alloc (Obj.cells #[Value.int IntKind.i64 0, Value.int IntKind.i64 0, Value.int IntKind.i64 0, Value.string { data := #[] }, Value.string { data := #[] }, Value.string { data := #[] }] 50)).alloc (Obj.cells #[Value.slice (some { block := b, off := off }) i cap] 28)) := ⟨_, rfl⟩;have hsz:wR.heap.size=s+3 := by rw[hwR, ←hs];simp
 have hB0:Below s w wR := by rw[hwR, ←hs];exact(((Below.refl _ w).alloc (Nat.le_refl _) _).alloc (by simp) _).alloc (by simp;omega) _
 have hkb:wR.cell? ⟨s, 0, none⟩=some (.int .i64 k) := by rw[hwR, ←hs];exact((Boxed.new w 3 (.int .i64 k)).alloc _).alloc _ |>.cell
 have hz:∀q, q<6→∃v, wR.cell? ⟨s+1, q, none⟩=some v∧wR.frozen? ⟨s+1, q, none⟩=false := by
  intro q hq;have h6 := Bk.new6 (w.alloc (Obj.cells #[Value.int IntKind.i64 k] 3)) (fun q => match q with|0 => .int .i64 0|1 => .int .i64 0|2 => .int .i64 0|_ => .string ⟨#[]⟩) 50 q hq
  rw[World.size_alloc, hs]at h6;have hg := World.grownBy_alloc ((w.alloc (Obj.cells #[Value.int IntKind.i64 k] 3)).alloc (Obj.cells #[Value.int IntKind.i64 0, Value.int IntKind.i64 0, Value.int IntKind.i64 0, Value.string { data := #[] }, Value.string { data := #[] }, Value.string { data := #[] }] 50)) (Obj.cells #[Value.slice (some { block := b, off := off }) i cap] 28) none
  rw[hwR];exact⟨_, cell_kept h6.1 hg (fun r e => by cases e), (frozen_kept h6.1 hg (fun r e => by cases e)).trans h6.2⟩
 have hbx:wR.cell? ⟨s+2, 0, none⟩=some (.slice (some ⟨b, off, none⟩) i cap) := by
  have := (Boxed.new ((w.alloc (Obj.cells #[Value.int IntKind.i64 k] 3)).alloc (Obj.cells #[Value.int IntKind.i64 0, Value.int IntKind.i64 0, Value.int IntKind.i64 0, Value.string { data := #[] }, Value.string { data := #[] }, Value.string { data := #[] }] 50)) 28 (Value.slice (some { block := b, off := off }) i cap)).cell
  rw[World.size_alloc, World.size_alloc, hs]at this;rw[hwR];exact this
 rw[hs, ←hwR];refine wpIn_rangeFunc_ownH hro h1 (gf := 222) (lb := #[.pointer (some ⟨s+1+1, 0, none⟩)]) rfl h8 (enters_of Tryz.func222 (by kernel_rfl) rfl)
  (Bk.stops F (n-1) h8 hro (by omega) (s+2) (s+3) (by omega) _ i f (by omega) wR (by omega) hbx (.inr ⟨b, off, cap, rfl, by omega, fun j q hj hq => (hB0.cell (p := ⟨b, off+(6*j+q), none⟩) (by show b<_;omega)).trans (hI.2 j q (by omega) hq)⟩)) belowK_t (belowK_b (by omega)) (Below.refl _ _) (fun _ => rfl)
  (fun pre W => ((∀p∈pre, kd p≠k)∧W.cell? ⟨s, 0, none⟩=some (.int .i64 k)∧(∀q, q<6→∃v, W.cell? ⟨s+1, q, none⟩=some v∧W.frozen? ⟨s+1, q, none⟩=false))∧Below s w W∧Below (s+3) wR W)
  (fun c pre W => (c = .ret∧∃ini last, pre=ini++[last]∧(∀p∈ini, kd p≠k)∧kd last=k∧∀q, q<6→W.cell? ⟨s+1, q, none⟩=some (f last q))∧Below s w W)
  (OwnFrom.and (Own.from (fun s A B row hs hg hr => ⟨hs.1, cell_kept hs.2.1 hg hr, fun q hq => by obtain⟨v, h1, h2⟩ := hs.2.2 q hq;exact⟨v, cell_kept h1 hg hr, (frozen_kept h1 hg hr).trans h2⟩⟩) _) (OwnFrom.and (ownFrom_below (by omega) (by omega)) (ownFrom_below (by omega) (by omega))))
  (fun c => OwnFrom.and (Own.from (fun s A B row hs hg hr => by obtain⟨hc, ini, last, e1, e2, e3, e4⟩ := hs;exact⟨hc, ini, last, e1, e2, e3, fun q hq => cell_kept (e4 q hq) hg hr⟩) _) (ownFrom_below (by omega) (by omega)))
  ⟨⟨by simp, hkb, hz⟩, hB0, Below.refl _ _⟩
  (fun x a' W => ∃p, a'={ tmps := #[.slice (some ⟨b, off, none⟩) len cap, .int .i64 i, .int .i64 k, undef, undef, .pointer (some ⟨s, 0, none⟩), .pointer (some ⟨s+1, 0, none⟩), undef, .pointer (some ⟨p, 0, none⟩), .slice (some ⟨b, off, none⟩) len cap, .int .i64 i, .slice (some ⟨b, off, none⟩) i cap, .func (.func 222) #[] #[.pointer (some ⟨s+1+1, 0, none⟩)], .int .i64 (x:Int), Bk.el f x, undef, undef, undef, undef, undef, undef], defers := [] }∧∀q, q<6→W.cell? ⟨p, q, none⟩=some (f x q))
  (fun x a' => Own.from (fun s A B row hs hg hr => by obtain⟨p, e1, e2⟩ := hs;exact⟨p, e1, fun q hq => cell_kept (e2 q hq) hg hr⟩) _) ?assign ?body ?done ?stop
 case assign =>
  rintro l pre x W K ⟨⟨hp, hcr, hfr⟩, hB, hB3⟩ hK
  obtain⟨fb, fc, fs, ft, fu, f0, f1, f2, f3, f4, f5⟩ := hf x;simp only[Bk.el, f0, f1, f2, f3, f4, f5];gi_wp2
  have e6 := World.alloc_heap_new W (Obj.cells #[Value.int IntKind.i64 (kd x), Value.int IntKind.i64 fb, Value.int IntKind.i64 fc, Value.string fs, Value.string ft, Value.string fu] 50)
  have hKO := KeepsOthers.alloc W (Obj.cells #[Value.int IntKind.i64 (kd x), Value.int IntKind.i64 fb, Value.int IntKind.i64 fc, Value.string fs, Value.string ft, Value.string fu] 50)
  have hg := World.grownBy_alloc W (Obj.cells #[Value.int IntKind.i64 (kd x), Value.int IntKind.i64 fb, Value.int IntKind.i64 fc, Value.string fs, Value.string ft, Value.string fu] 50) none
  have hWs:s+3≤W.heap.size := by have := hB3.size;omega
  refine hK _ _ (hKO.from _) ((Below.refl (s+3) W).alloc hWs _) ⟨⟨hp, cell_kept hcr hg (fun r e => by cases e), fun q hq => by obtain⟨v, h1, h2⟩ := hfr q hq;exact⟨v, cell_kept h1 hg (fun r e => by cases e), (frozen_kept h1 hg (fun r e => by cases e)).trans h2⟩⟩, hB.trans ((Below.refl s W).alloc (by omega) _), hB3.trans ((Below.refl (s+3) W).alloc hWs _)⟩ ⟨W.heap.size, by simp only[Bk.el, f0, f1, f2, f3, f4, f5], fun q hq => ?_⟩
  have h6 := (Bk.new6 W (f x) 50 q hq).1
  rw[f0, f1, f2, f3, f4, f5]at h6;exact h6
 case body =>
  rintro l pre x a' W hl _ ⟨⟨hp, hcr, hfr⟩, hB, hB3⟩ ⟨p, rfl, hpc⟩ _
  obtain⟨fb, fc, fs, ft, fu, f0, f1, f2, f3, f4, f5⟩ := hf x;have p0 := f0 ▸ hpc 0 (by omega)
  have p1 := f1 ▸ hpc 1 (by omega)
  have p2 := f2 ▸ hpc 2 (by omega)
  have p3 := f3 ▸ hpc 3 (by omega)
  have p4 := f4 ▸ hpc 4 (by omega)
  have p5 := f5 ▸ hpc 5 (by omega)
  obtain⟨v0, r0, z0⟩ := hfr 0 (by omega)
  obtain⟨v1, r1, z1⟩ := hfr 1 (by omega)
  obtain⟨v2, r2, z2⟩ := hfr 2 (by omega)
  obtain⟨v3, r3, z3⟩ := hfr 3 (by omega)
  obtain⟨v4, r4, z4⟩ := hfr 4 (by omega)
  obtain⟨v5, r5, z5⟩ := hfr 5 (by omega)
  gi_wp2
  ·have hkx:kd x=k := by simpa using ‹(kd x==k)=true›
   have e6 := Bk.set6_cell (W := W) (B := s+1) (f x) (fun q hq => by obtain⟨v, h1, _⟩ := hfr q hq;exact⟨v, h1⟩)
   have hKO := Bk.set6_keeps W (s+1) (f x)
   have hBs := Bk.set6_below hB (s+1) (by omega) (f x)
   simp only[Bk.set6, f0, f1, f2, f3, f4, f5]at hKO hBs;exact⟨hKO.from _, ⟨rfl, pre, x, rfl, hp, hkx, fun q hq => by have := e6 q hq;simp only[Bk.set6, f0, f1, f2, f3, f4, f5]at this;exact this⟩, hBs⟩
  ·have hx:kd x≠k := by simpa using ‹(kd x==k)=false›
   exact⟨KeepsFrom.refl _ _, Below.refl _ _, ⟨fun p hp' => (List.mem_append.1 hp').elim (hp p) (fun e => by simp at e;subst e;exact hx), hcr, hfr⟩, hB, hB3⟩
 case done =>
  rintro D ys W hD rfl ⟨⟨hne, hcr, hfr⟩, hB, hB3⟩ hK
  obtain⟨v0, r0, z0⟩ := hfr 0 (by omega)
  obtain⟨v1, r1, z1⟩ := hfr 1 (by omega)
  obtain⟨v2, r2, z2⟩ := hfr 2 (by omega)
  obtain⟨v3, r3, z3⟩ := hfr 3 (by omega)
  obtain⟨v4, r4, z4⟩ := hfr 4 (by omega)
  obtain⟨v5, r5, z5⟩ := hfr 5 (by omega)
  gi_wp2
  have e6 := Bk.set6_cell (W := W) (B := s+1) Bk.idle (fun q hq => by obtain⟨v, h1, _⟩ := hfr q hq;exact⟨v, h1⟩)
  have hKO := Bk.set6_keeps W (s+1) Bk.idle
  have hBs := Bk.set6_below hB (s+1) (by omega) Bk.idle
  simp only[Bk.set6, Bk.idle]at e6 hKO hBs;have hK' := hKO.same D _ hK rfl
  refine⟨by simp, .inl ⟨_, _, rfl, run_takeDeferred hK', ?_⟩⟩
  have hc5 := fun q hq => cell_kept (e6 q hq) (grownBy_putObj' _ D (.deferred none)) (fun r e => by cases e;exact⟨_, hK', rfl⟩)
  have q0 := hc5 0 (by omega)
  have q1 := hc5 1 (by omega)
  have q2 := hc5 2 (by omega)
  have q3 := hc5 3 (by omega)
  have q4 := hc5 4 (by omega)
  have q5 := hc5 5 (by omega)
  refine⟨.agg #[.int .i64 0, .int .i64 1, .int .i64 0, .string ⟨#[]⟩, .string ⟨#[]⟩, .string ⟨#[]⟩], ?_, .inr ⟨rfl, fun j hj => hne j (by simp only[Bk.upto, List.mem_map, List.mem_range];exact⟨i-1-j, by omega, by omega⟩)⟩, ?_⟩
  ·simp [results, Tryz.f150, go_sem, q0, q1, q2, q3, q4, q5]
  ·rw[hs];exact hBs.trans (belowK_b (w := w) (by omega) _ D _ _ (by omega) hK' rfl rfl)
 case stop =>
  rintro D c pre W hD ⟨m, hm, rfl⟩ ⟨⟨rfl, ini, last, e1, e2, e3, hcr⟩, hB⟩ hK
  gi_wp2
  refine⟨by simp, .inl ⟨_, _, rfl, run_takeDeferred hK, ?_⟩⟩
  have hc5 := fun q hq => cell_kept (hcr q hq) (grownBy_putObj' _ D (.deferred none)) (fun r e => by cases e;exact⟨_, hK, rfl⟩)
  obtain⟨m', rfl⟩:∃m', m=m'+1 := by
   cases m with
   | zero => simp [Bk.upto]at e1
   | succ m' => exact⟨m', rfl⟩
  rw[Bk.upto_succ]at e1;obtain⟨rfl, e5⟩ := List.append_inj' e1 rfl;obtain rfl:i-1-m'=last := by simpa using e5
  refine⟨Bk.el f (i-1-m'), ?_, .inl ⟨i-1-m', by omega, rfl, e3, fun j' h1 h2 => e2 j' (by simp only[Bk.upto, List.mem_map, List.mem_range];exact⟨i-1-j', by omega, by omega⟩)⟩, by rw[hs];exact hB.trans (belowK_b (w := w) (by omega) W D _ _ (by omega) hK rfl rfl)⟩
  have q0 := hc5 0 (by omega)
  have q1 := hc5 1 (by omega)
  have q2 := hc5 2 (by omega)
  have q3 := hc5 3 (by omega)
  have q4 := hc5 4 (by omega)
  have q5 := hc5 5 (by omega)
  simp [results, Tryz.f150, go_sem, Bk.el, q0, q1, q2, q3, q4, q5]
set_option maxRecDepth 100000 in
set_option maxHeartbeats 2000000 in
theorem Bk.setting0_in (F:Fence)(n:Nat)(h4:F.fn 150)(h6:F.fn 192)(h8:F.fn 222)(hro:F.round=none)(hn:3≤n)(a:Option Addr)(cap:Nat)(k:Int)(f:Nat→Nat→Value)(kd:Nat→Int)(hf:∀ j, ∃ b c s t u, f j 0 = .int .i64 (kd j)∧f j 1 = .int .i64 b∧f j 2 = .int .i64 c∧f j 3 = .string s∧f j 4 = .string t∧f j 5 = .string u)(w:World) :
 CallsIn F n Tryz.prog 150 #[.slice a 0 cap, .int .i64 0, .int .i64 k] w fun e W' =>
  ((∃j, j<0∧e = .returned (Bk.el f j)∧kd j=k∧∀j', j<j'→j'<0→kd j'≠k)∨(e = .returned (.agg #[.int .i64 0, .int .i64 1, .int .i64 0, .string ⟨#[]⟩, .string ⟨#[]⟩, .string ⟨#[]⟩])∧∀j, j<0→kd j≠k))∧Below w.heap.size w W' := by
 have h1:1≤n := by omega
 refine callsIn_of_wp_marks Tryz.func150 rfl h4 ?_ hro;simp only[Tryz.ntmps150, List.size_toArray, List.length_cons, List.length_nil, Nat.reduceAdd, Nat.reduceSub, Array.replicate_succ, Array.replicate_zero, List.push_toArray, List.append_toArray, List.nil_append, List.cons_append];gi_wp2_with (gi_at_call 192;refine(Bk.backward_in F (n-1) h6 hro _ _ _ _).mono ?_;rintro e w' ⟨rfl, rfl⟩)
 obtain⟨s, hs⟩:∃s, w.heap.size=s := ⟨_, rfl⟩;obtain⟨wR, hwR⟩:∃wR, wR=(((w.alloc (Obj.cells #[Value.int IntKind.i64 k] 3)).alloc (Obj.cells #[Value.int IntKind.i64 0, Value.int IntKind.i64 0, Value.int IntKind.i64 0, Value.string { data := #[] }, Value.string { data := #[] }, Value.string { data := #[] }] 50)).alloc (Obj.cells #[Value.slice a 0 cap] 28)) := ⟨_, rfl⟩;have hsz:wR.heap.size=s+3 := by rw[hwR, ←hs];simp
 have hB0:Below s w wR := by rw[hwR, ←hs];exact(((Below.refl _ w).alloc (Nat.le_refl _) _).alloc (by simp) _).alloc (by simp;omega) _
 have hkb:wR.cell? ⟨s, 0, none⟩=some (.int .i64 k) := by rw[hwR, ←hs];exact((Boxed.new w 3 (.int .i64 k)).alloc _).alloc _ |>.cell
 have hz:∀q, q<6→∃v, wR.cell? ⟨s+1, q, none⟩=some v∧wR.frozen? ⟨s+1, q, none⟩=false := by
  intro q hq;have h6 := Bk.new6 (w.alloc (Obj.cells #[Value.int IntKind.i64 k] 3)) (fun q => match q with|0 => .int .i64 0|1 => .int .i64 0|2 => .int .i64 0|_ => .string ⟨#[]⟩) 50 q hq
  rw[World.size_alloc, hs]at h6;have hg := World.grownBy_alloc ((w.alloc (Obj.cells #[Value.int IntKind.i64 k] 3)).alloc (Obj.cells #[Value.int IntKind.i64 0, Value.int IntKind.i64 0, Value.int IntKind.i64 0, Value.string { data := #[] }, Value.string { data := #[] }, Value.string { data := #[] }] 50)) (Obj.cells #[Value.slice a 0 cap] 28) none
  rw[hwR];exact⟨_, cell_kept h6.1 hg (fun r e => by cases e), (frozen_kept h6.1 hg (fun r e => by cases e)).trans h6.2⟩
 have hbx:wR.cell? ⟨s+2, 0, none⟩=some (.slice a 0 cap) := by
  have := (Boxed.new ((w.alloc (Obj.cells #[Value.int IntKind.i64 k] 3)).alloc (Obj.cells #[Value.int IntKind.i64 0, Value.int IntKind.i64 0, Value.int IntKind.i64 0, Value.string { data := #[] }, Value.string { data := #[] }, Value.string { data := #[] }] 50)) 28 (Value.slice a 0 cap)).cell
  rw[World.size_alloc, World.size_alloc, hs]at this;rw[hwR];exact this
 rw[hs, ←hwR];refine wpIn_rangeFunc_ownH hro h1 (gf := 222) (lb := #[.pointer (some ⟨s+1+1, 0, none⟩)]) rfl h8 (enters_of Tryz.func222 (by kernel_rfl) rfl)
  (Bk.stops F (n-1) h8 hro (by omega) (s+2) (s+3) (by omega) _ 0 f (by omega) wR (by omega) hbx (.inl ⟨rfl, a, cap, rfl⟩)) belowK_t (belowK_b (by omega)) (Below.refl _ _) (fun _ => rfl)
  (fun pre W => ((∀p∈pre, kd p≠k)∧W.cell? ⟨s, 0, none⟩=some (.int .i64 k)∧(∀q, q<6→∃v, W.cell? ⟨s+1, q, none⟩=some v∧W.frozen? ⟨s+1, q, none⟩=false))∧Below s w W∧Below (s+3) wR W)
  (fun c pre W => (c = .ret∧∃ini last, pre=ini++[last]∧(∀p∈ini, kd p≠k)∧kd last=k∧∀q, q<6→W.cell? ⟨s+1, q, none⟩=some (f last q))∧Below s w W)
  (OwnFrom.and (Own.from (fun s A B row hs hg hr => ⟨hs.1, cell_kept hs.2.1 hg hr, fun q hq => by obtain⟨v, h1, h2⟩ := hs.2.2 q hq;exact⟨v, cell_kept h1 hg hr, (frozen_kept h1 hg hr).trans h2⟩⟩) _) (OwnFrom.and (ownFrom_below (by omega) (by omega)) (ownFrom_below (by omega) (by omega))))
  (fun c => OwnFrom.and (Own.from (fun s A B row hs hg hr => by obtain⟨hc, ini, last, e1, e2, e3, e4⟩ := hs;exact⟨hc, ini, last, e1, e2, e3, fun q hq => cell_kept (e4 q hq) hg hr⟩) _) (ownFrom_below (by omega) (by omega)))
  ⟨⟨by simp, hkb, hz⟩, hB0, Below.refl _ _⟩
  (fun x a' W => ∃p, a'={ tmps := #[.slice a 0 cap, .int .i64 0, .int .i64 k, undef, undef, .pointer (some ⟨s, 0, none⟩), .pointer (some ⟨s+1, 0, none⟩), undef, .pointer (some ⟨p, 0, none⟩), .slice a 0 cap, .int .i64 0, .slice a 0 cap, .func (.func 222) #[] #[.pointer (some ⟨s+1+1, 0, none⟩)], .int .i64 (x:Int), Bk.el f x, undef, undef, undef, undef, undef, undef], defers := [] }∧∀q, q<6→W.cell? ⟨p, q, none⟩=some (f x q))
  (fun x a' => Own.from (fun s A B row hs hg hr => by obtain⟨p, e1, e2⟩ := hs;exact⟨p, e1, fun q hq => cell_kept (e2 q hq) hg hr⟩) _) ?assign ?body ?done ?stop
 case assign =>
  rintro l pre x W K ⟨⟨hp, hcr, hfr⟩, hB, hB3⟩ hK
  obtain⟨fb, fc, fs, ft, fu, f0, f1, f2, f3, f4, f5⟩ := hf x;simp only[Bk.el, f0, f1, f2, f3, f4, f5];gi_wp2
  have e6 := World.alloc_heap_new W (Obj.cells #[Value.int IntKind.i64 (kd x), Value.int IntKind.i64 fb, Value.int IntKind.i64 fc, Value.string fs, Value.string ft, Value.string fu] 50)
  have hKO := KeepsOthers.alloc W (Obj.cells #[Value.int IntKind.i64 (kd x), Value.int IntKind.i64 fb, Value.int IntKind.i64 fc, Value.string fs, Value.string ft, Value.string fu] 50)
  have hg := World.grownBy_alloc W (Obj.cells #[Value.int IntKind.i64 (kd x), Value.int IntKind.i64 fb, Value.int IntKind.i64 fc, Value.string fs, Value.string ft, Value.string fu] 50) none
  have hWs:s+3≤W.heap.size := by have := hB3.size;omega
  refine hK _ _ (hKO.from _) ((Below.refl (s+3) W).alloc hWs _) ⟨⟨hp, cell_kept hcr hg (fun r e => by cases e), fun q hq => by obtain⟨v, h1, h2⟩ := hfr q hq;exact⟨v, cell_kept h1 hg (fun r e => by cases e), (frozen_kept h1 hg (fun r e => by cases e)).trans h2⟩⟩, hB.trans ((Below.refl s W).alloc (by omega) _), hB3.trans ((Below.refl (s+3) W).alloc hWs _)⟩ ⟨W.heap.size, by simp only[Bk.el, f0, f1, f2, f3, f4, f5], fun q hq => ?_⟩
  have h6 := (Bk.new6 W (f x) 50 q hq).1
  rw[f0, f1, f2, f3, f4, f5]at h6;exact h6
 case body =>
  intro l pre x a' W _ _ _ _ h;exact absurd h (Nat.not_lt_zero _)
 case done =>
  rintro D ys W hD rfl ⟨⟨hne, hcr, hfr⟩, hB, hB3⟩ hK
  obtain⟨v0, r0, z0⟩ := hfr 0 (by omega)
  obtain⟨v1, r1, z1⟩ := hfr 1 (by omega)
  obtain⟨v2, r2, z2⟩ := hfr 2 (by omega)
  obtain⟨v3, r3, z3⟩ := hfr 3 (by omega)
  obtain⟨v4, r4, z4⟩ := hfr 4 (by omega)
  obtain⟨v5, r5, z5⟩ := hfr 5 (by omega)
  gi_wp2
  have e6 := Bk.set6_cell (W := W) (B := s+1) Bk.idle (fun q hq => by obtain⟨v, h1, _⟩ := hfr q hq;exact⟨v, h1⟩)
  have hKO := Bk.set6_keeps W (s+1) Bk.idle
  have hBs := Bk.set6_below hB (s+1) (by omega) Bk.idle
  simp only[Bk.set6, Bk.idle]at e6 hKO hBs;have hK' := hKO.same D _ hK rfl
  refine⟨by simp, .inl ⟨_, _, rfl, run_takeDeferred hK', ?_⟩⟩
  have hc5 := fun q hq => cell_kept (e6 q hq) (grownBy_putObj' _ D (.deferred none)) (fun r e => by cases e;exact⟨_, hK', rfl⟩)
  have q0 := hc5 0 (by omega)
  have q1 := hc5 1 (by omega)
  have q2 := hc5 2 (by omega)
  have q3 := hc5 3 (by omega)
  have q4 := hc5 4 (by omega)
  have q5 := hc5 5 (by omega)
  refine⟨.agg #[.int .i64 0, .int .i64 1, .int .i64 0, .string ⟨#[]⟩, .string ⟨#[]⟩, .string ⟨#[]⟩], ?_, .inr ⟨rfl, fun j hj => hne j (by simp only[Bk.upto, List.mem_map, List.mem_range];exact⟨0-1-j, by omega, by omega⟩)⟩, ?_⟩
  ·simp [results, Tryz.f150, go_sem, q0, q1, q2, q3, q4, q5]
  ·rw[hs];exact hBs.trans (belowK_b (w := w) (by omega) _ D _ _ (by omega) hK' rfl rfl)
 case stop =>
  rintro D c pre W hD ⟨m, hm, rfl⟩ ⟨⟨rfl, ini, last, e1, e2, e3, hcr⟩, hB⟩ hK
  gi_wp2
  refine⟨by simp, .inl ⟨_, _, rfl, run_takeDeferred hK, ?_⟩⟩
  have hc5 := fun q hq => cell_kept (hcr q hq) (grownBy_putObj' _ D (.deferred none)) (fun r e => by cases e;exact⟨_, hK, rfl⟩)
  obtain⟨m', rfl⟩:∃m', m=m'+1 := by
   cases m with
   | zero => simp [Bk.upto]at e1
   | succ m' => exact⟨m', rfl⟩
  rw[Bk.upto_succ]at e1;obtain⟨rfl, e5⟩ := List.append_inj' e1 rfl;obtain rfl:0-1-m'=last := by simpa using e5
  refine⟨Bk.el f (0-1-m'), ?_, .inl ⟨0-1-m', by omega, rfl, e3, fun j' h1 h2 => e2 j' (by simp only[Bk.upto, List.mem_map, List.mem_range];exact⟨0-1-j', by omega, by omega⟩)⟩, by rw[hs];exact hB.trans (belowK_b (w := w) (by omega) W D _ _ (by omega) hK rfl rfl)⟩
  have q0 := hc5 0 (by omega)
  have q1 := hc5 1 (by omega)
  have q2 := hc5 2 (by omega)
  have q3 := hc5 3 (by omega)
  have q4 := hc5 4 (by omega)
  have q5 := hc5 5 (by omega)
  simp [results, Tryz.f150, go_sem, Bk.el, q0, q1, q2, q3, q4, q5]
end Go.Proofs.YthlhdniejglcnaaGreatDoor
