/- The abstract machine, part 31: words in which a function's code is printed, and the rules of computing over them. -/
import Derived.Test.YtajhbehiecgflaaAm30
set_option linter.unusedSimpArgs false
set_option linter.unusedVariables false
namespace Go.Am

variable {C : Hd} {gl : Nat → Option PV} {e : List (Nat × AV)} {h : Heap} {x : Esc} {K : Ex → St → Prop} {s : St}

def seqN (C : Hd) (gl : Nat → Option PV) (b : ACode) (K : Ex → St → Prop) (e : Ex) (s : St) : Prop := match e with
  | .normal => NW C gl b s K
  | .exit i => K (.exit i) s
  | .ret => K .ret s
def blockN (id : Nat) (K : Ex → St → Prop) (e : Ex) (s : St) : Prop := match e with
  | .normal => K .normal s
  | .exit i => bif Nat.beq i id then K .normal s else K (.exit i) s
  | .ret => K .ret s
def gP (v : AV) (b : Bool) (o : Option AV) (h : Heap) (k : AV → Heap → Esc → Prop) : Prop := gV v b h (fun k => pK o fun u => k u h []) k
def gM (v : AV) (b : Bool) (u : AV) (h : Heap) (k : AV → Heap → Esc → Prop) : Prop := gV v b h (fun k => k u h []) k
def nxK (i : AV) (h : Heap) (k : AV → Heap → Esc → Prop) : Prop := match mnexts h i with
    | some l => l ≠ [] ∧ ∀ y ∈ l, k y.1 y.2 []
    | none => False
def gv (gl : Nat → Option PV) (n : Nat) : AV := match gl n with | some v => .vp v | none => .und

theorem seqN_normal {b : ACode} : seqN C gl b K .normal s = NW C gl b s K := (rfl)
theorem seqN_exit {b : ACode} {i : Nat} : seqN C gl b K (.exit i) s = K (.exit i) s := (rfl)
theorem seqN_ret {b : ACode} : seqN C gl b K .ret s = K .ret s := (rfl)
theorem blockN_normal {i : Nat} : blockN i K .normal s = K .normal s := (rfl)
theorem blockN_same {i : Nat} : blockN i K (.exit i) s = K .normal s := by simp [blockN]
theorem blockN_exit {i j : Nat} : blockN i K (.exit j) s = bif Nat.beq j i then K .normal s else K (.exit j) s := (rfl)
theorem blockN_ret {i : Nat} : blockN i K .ret s = K .ret s := (rfl)
theorem seqN_congr {b : ACode} {ex ex' : Ex} {s s' : St} (he : ex = ex') (hs : s = s') : seqN C gl b K ex s = seqN C gl b K ex' s' := by rw [he, hs]
theorem blockN_congr {i : Nat} {ex ex' : Ex} {s s' : St} (he : ex = ex') (hs : s = s') : blockN i K ex s = blockN i K ex' s' := by rw [he, hs]
theorem NW_scope {b : ACode} : NW C gl (.scope b) ⟨e, h, x⟩ K = NW C gl b ⟨e, h, []⟩ (scopeK h.length x K) := (rfl)
theorem NW_congr {c : ACode} {s s' : St} (hs : s = s') : NW C gl c s K = NW C gl c s' K := by rw [hs]

def NLoop (C : Hd) (gl : Nat → Option PV) (b : ACode) (K : Ex → St → Prop) (e : List (Nat × AV)) (h : Heap) (x : Esc) : Prop := ALoop (NW C gl b) K ⟨e, h, x⟩
theorem NLoop_pr {l : List Nat} {b : ACode} : NW C gl (.loop (.pr l b)) ⟨e, h, x⟩ K = NLoop C gl (.pr l b) K (prune (some l) e) h x := by
  show ALoop _ _ _ = ALoop _ _ _
  exact ALoop_same (funext fun R => by show NW C gl b _ R = NW C gl b _ R; dsimp only; rw [prune_prune])
theorem NLoop_sc {l : List Nat} {b : ACode} : NW C gl (.loop (.scope (.pr l b))) ⟨e, h, x⟩ K = NLoop C gl (.scope (.pr l b)) K (prune (some l) e) h x := by
  show ALoop _ _ _ = ALoop _ _ _
  exact ALoop_same (funext fun R => by show NW C gl b _ _ = NW C gl b _ _; dsimp only; rw [prune_prune])
theorem NLoop_congr {b : ACode} {e e' : List (Nat × AV)} {h h' : Heap} {x x' : Esc} (h1 : e = e') (h2 : h = h') (h3 : x = x') : NLoop C gl b K e h x = NLoop C gl b K e' h' x' := by rw [h1, h2, h3]

/-- The loop rule: a shape of the states at its head, what holds there, what falls. -/
theorem N_loop {σ : Type} {b : ACode} (S : σ → St) (P : σ → Prop) (m : σ → Nat) (t0 : σ) (hs : (⟨e, h, x⟩ : St) = S t0) (h0 : P t0) (hr : ∀ t, P t → NW C gl b (S t) (loopK S P m K t)) : NLoop C gl b K e h x := by
  show ALoop (NW C gl b) K _
  rw [hs]
  have key : ∀ n t, m t < n → P t → ALoop (NW C gl b) K (S t) := by
    intro n
    induction n with
    | zero => intro t h; omega
    | succ n ih =>
      intro t hm hp
      refine .mk _ _ (hr t hp) (fun s' h' => ?_) (fun i s' h' => h') (fun s' h' => h')
      obtain ⟨u, rfl, hu, hlt⟩ := h'
      exact ih u (by omega) hu
  exact key _ t0 (Nat.lt_succ_self _) h0

theorem call_val {X : Ctx} {f : Nat} {F : AFun} {a as : List AV} {h h1 : Heap} {P : Post} (hf : X.fn f = some F) (hr : F.byref = false) (hp : puras h a = some (as, h1)) (hl : as.length = F.nparams) :
    ACall X f a h P = NW (ACall X) X.gl F.body ⟨enter as, h1, []⟩ (finR F.results F.keep h.length P) := by
  rw [step_val hf hr hp hl, NW_eq]
theorem call_ref {X : Ctx} {f : Nat} {F : AFun} {as : List AV} {h : Heap} {P : Post} (hf : X.fn f = some F) (hr : F.byref = true) (hl : as.length = F.nparams) :
    ACall X f as h P = NW (ACall X) X.gl F.body ⟨enter as, h, []⟩ (finR F.results F.keep h.length P) := by
  rw [step_ref hf hr hl, NW_eq]

/-! ### rules -/
theorem pK_some {v : AV} {k : AV → Prop} : pK (some v) k = k v := (rfl)
theorem pK_none {k : AV → Prop} : pK none k = False := (rfl)
theorem wK_some {v : AV} {h : Heap} {x : Esc} {k : AV → Heap → Esc → Prop} : wK (some (v, h, x)) k = k v h x := (rfl)
theorem wK_none {k : AV → Heap → Esc → Prop} : wK none k = False := (rfl)
theorem pK_ite {p : Prop} [Decidable p] {a b : Option AV} {k : AV → Prop} : pK (if p then a else b) k = if p then pK a k else pK b k := by split <;> rfl
theorem wK_ite {p : Prop} [Decidable p] {a b : Option (AV × Heap × Esc)} {k : AV → Heap → Esc → Prop} : wK (if p then a else b) k = if p then wK a k else wK b k := by split <;> rfl
theorem pK_congr {o o' : Option AV} {k : AV → Prop} (h : o = o') : pK o k = pK o' k := by rw [h]
theorem wK_congr {o o' : Option (AV × Heap × Esc)} {k : AV → Heap → Esc → Prop} (h : o = o') : wK o k = wK o' k := by rw [h]
theorem gV_congr {v v' : AV} {b : Bool} {h : Heap} {A : (AV → Heap → Esc → Prop) → Prop} {k : AV → Heap → Esc → Prop} (h1 : v = v') : gV v b h A k = gV v' b h A k := by rw [h1]
theorem gP_congr {v v' : AV} {b : Bool} {o : Option AV} {h : Heap} {k : AV → Heap → Esc → Prop} (h1 : v = v') : gP v b o h k = gP v' b o h k := by rw [h1]
theorem gM_congr {v v' : AV} {b : Bool} {u : AV} {h : Heap} {k : AV → Heap → Esc → Prop} (h1 : v = v') : gM v b u h k = gM v' b u h k := by rw [h1]
section
variable {A : (AV → Heap → Esc → Prop) → Prop} {o : Option AV} {u : AV} {k : AV → Heap → Esc → Prop} {t b : Bool}
theorem gV_tt : gV (.p (.bool true)) true h A k = A k := (rfl)
theorem gV_ff : gV (.p (.bool false)) false h A k = A k := (rfl)
theorem gV_tf : gV (.p (.bool true)) false h A k = k .skp h [] := (rfl)
theorem gV_ft : gV (.p (.bool false)) true h A k = k .skp h [] := (rfl)
theorem gV_skp : gV .skp b h A k = k .skp h [] := (rfl)
theorem gV_any : gV (.p (.bool t)) b h A k = wantK (.p (.bool t)) b (A k) (k .skp h []) := (rfl)
theorem gP_tt : gP (.p (.bool true)) true o h k = pK o fun v => k v h [] := (rfl)
theorem gP_ff : gP (.p (.bool false)) false o h k = pK o fun v => k v h [] := (rfl)
theorem gP_tf : gP (.p (.bool true)) false o h k = k .skp h [] := (rfl)
theorem gP_ft : gP (.p (.bool false)) true o h k = k .skp h [] := (rfl)
theorem gP_skp : gP .skp b o h k = k .skp h [] := (rfl)
theorem gP_any : gP (.p (.bool t)) b o h k = wantK (.p (.bool t)) b (pK o fun v => k v h []) (k .skp h []) := (rfl)
theorem gM_tt : gM (.p (.bool true)) true u h k = k u h [] := (rfl)
theorem gM_ff : gM (.p (.bool false)) false u h k = k u h [] := (rfl)
theorem gM_tf : gM (.p (.bool true)) false u h k = k .skp h [] := (rfl)
theorem gM_ft : gM (.p (.bool false)) true u h k = k .skp h [] := (rfl)
theorem gM_skp : gM .skp b u h k = k .skp h [] := (rfl)
theorem gM_any : gM (.p (.bool t)) b u h k = wantK (.p (.bool t)) b (k u h []) (k .skp h []) := (rfl)
end
/-! operations on whole numbers, strings -/
section
variable {k k' : IntKind} {a b : Int} {sa sb : List UInt8}
theorem bin_add : oBin .add (.p (.int k a)) (.p (.int k b)) = some (.p (.int k (k.wrap (a + b)))) := by simp [oBin, abin, aint]
theorem bin_sub : oBin .sub (.p (.int k a)) (.p (.int k b)) = some (.p (.int k (k.wrap (a - b)))) := by simp [oBin, abin, aint]
theorem bin_mul : oBin .mul (.p (.int k a)) (.p (.int k b)) = some (.p (.int k (k.wrap (a * b)))) := by simp [oBin, abin, aint]
theorem bin_quo : oBin .quo (.p (.int k a)) (.p (.int k b)) = if b = 0 then none else some (.p (.int k (k.wrap (a.tdiv b)))) := by simp [oBin, abin, aint] <;> split <;> rfl
theorem bin_rem : oBin .rem (.p (.int k a)) (.p (.int k b)) = if b = 0 then none else some (.p (.int k (a.tmod b))) := by simp [oBin, abin, aint] <;> split <;> rfl
theorem bin_and : oBin .and (.p (.int k a)) (.p (.int k b)) = some (.p (.int k (iand k a b))) := by simp [oBin, abin, aint]
theorem bin_or : oBin .or (.p (.int k a)) (.p (.int k b)) = some (.p (.int k (ior k a b))) := by simp [oBin, abin, aint]
theorem bin_xor : oBin .xor (.p (.int k a)) (.p (.int k b)) = some (.p (.int k (ixor k a b))) := by simp [oBin, abin, aint]
theorem bin_andNot : oBin .andNot (.p (.int k a)) (.p (.int k b)) = some (.p (.int k (iandn k a b))) := by simp [oBin, abin, aint]
theorem bin_eql : oBin .eql (.p (.int k a)) (.p (.int k b)) = some (.p (.bool (decide (a = b)))) := by simp [oBin, abin, aint]
theorem bin_neq : oBin .neq (.p (.int k a)) (.p (.int k b)) = some (.p (.bool (!decide (a = b)))) := by simp [oBin, abin, aint]
theorem bin_lss : oBin .lss (.p (.int k a)) (.p (.int k b)) = some (.p (.bool (decide (a < b)))) := by simp [oBin, abin, aint]
theorem bin_leq : oBin .leq (.p (.int k a)) (.p (.int k b)) = some (.p (.bool (decide (a ≤ b)))) := by simp [oBin, abin, aint]
theorem bin_gtr : oBin .gtr (.p (.int k a)) (.p (.int k b)) = some (.p (.bool (decide (b < a)))) := by simp [oBin, abin, aint]
theorem bin_geq : oBin .geq (.p (.int k a)) (.p (.int k b)) = some (.p (.bool (decide (b ≤ a)))) := by simp [oBin, abin, aint]
theorem bin_shl : oBin .shl (.p (.int k a)) (.p (.int k' b)) = if b < 0 then none else some (.p (.int k (ishl k a b))) := by simp [oBin, abin] <;> split <;> rfl
theorem bin_shr : oBin .shr (.p (.int k a)) (.p (.int k' b)) = if b < 0 then none else some (.p (.int k (ishr k a b))) := by simp [oBin, abin] <;> split <;> rfl
theorem str_add : oBin .add (.p (.str sa)) (.p (.str sb)) = if sa.length + sb.length ≤ maxStr then some (.p (.str (sa ++ sb))) else none := by simp [oBin, abin, astr] <;> split <;> rfl
theorem str_eql : oBin .eql (.p (.str sa)) (.p (.str sb)) = some (.p (.bool (decide (sa = sb)))) := by simp [oBin, abin, astr]
theorem str_neq : oBin .neq (.p (.str sa)) (.p (.str sb)) = some (.p (.bool (!decide (sa = sb)))) := by simp [oBin, abin, astr]
theorem str_lss : oBin .lss (.p (.str sa)) (.p (.str sb)) = some (.p (.bool (Op.bytesLess sa sb))) := by simp [oBin, abin, astr]
theorem str_leq : oBin .leq (.p (.str sa)) (.p (.str sb)) = some (.p (.bool (Op.bytesLess sa sb || decide (sa = sb)))) := by simp [oBin, abin, astr]
theorem str_gtr : oBin .gtr (.p (.str sa)) (.p (.str sb)) = some (.p (.bool (!(Op.bytesLess sa sb || decide (sa = sb))))) := by simp [oBin, abin, astr]
theorem str_geq : oBin .geq (.p (.str sa)) (.p (.str sb)) = some (.p (.bool (!Op.bytesLess sa sb))) := by simp [oBin, abin, astr]
theorem un_neg : oUn .neg (.p (.int k a)) = some (.p (.int k (k.wrap (-a)))) := by simp [oUn, aun]
theorem un_not {t : Bool} : oUn .not (.p (.bool t)) = some (.p (.bool !t)) := (rfl)
theorem convI {k' : IntKind} : oConvI k (.p (.int k' a)) = some (.p (.int k (k.wrap a))) := (rfl)
theorem nilref {i j : Nat} : oNil (.ref i j) = some (.ref i j) := (rfl)
theorem nilrref {i j m n : Nat} : oNil (.rref i j m n) = some (.rref i j m n) := (rfl)
theorem nilvp {v : PV} : oNil (.vp v) = some (.vp v) := (rfl)
theorem nilfn {f : Nat} {cs : List AV} : oNil (.fn f cs) = some (.fn f cs) := (rfl)
theorem pick_b {t : Bool} {u v : AV} : oPick (.p (.bool t)) u v = some (bif t then u else v) := (rfl)
theorem len_sl {sh : Sh} {xs : List PV} : oLen (.p (.sl sh xs)) = some (.p (.int .i64 xs.length)) := (rfl)
theorem len_sl0 {sh : Sh} : oLen (.sl0 sh) = some (.p (.int .i64 0)) := (rfl)
theorem len_own {i g o l : Nat} : oLen (.own i g o l) = some (.p (.int .i64 l)) := (rfl)
theorem lens_s : oLens (.p (.str sa)) = some (.p (.int .i64 sa.length)) := (rfl)
theorem ext_t {vs : List AV} {i : Nat} : oExt (.tup vs) i = vs[i]? := (rfl)
theorem faddr_ref {off i j : Nat} {sh : Sh} : oFaddr off sh (.ref i j) = some (.ref i (j + off)) := (rfl)
theorem faddr_rref {off i j m n : Nat} {sh : Sh} : oFaddr off sh (.rref i j m n) = some (.rref i j m (n + off)) := (rfl)
theorem faddr_vp {off : Nat} {sh : Sh} {v : PV} : oFaddr off sh (.vp v) = (cutP sh off v).map .vp := (rfl)
theorem field_p {off : Nat} {sh : Sh} {cs : List PV} : oField off sh (.p (.agg cs)) = (cutP sh off (.agg cs)).map .p := (rfl)
theorem field_a {off : Nat} {sh : Sh} {cs : List AV} : oField off sh (.agg cs) = cut sh off cs := (rfl)
def ldB (sh : Sh) (off : Nat) : Option Obj → Option AV
  | some (.box cs) => cut sh off cs
  | _ => none
def ldR (sh : Sh) (g i off : Nat) : Option Obj → Option AV
  | some (.row _ xs _) => if g = xs.length then ((xs[i]?).bind (cutP sh off)).map .p else none
  | _ => none
theorem load_ref {sh : Sh} {i j : Nat} : oLoad sh (.ref i j) h = ldB sh j h[i]? := by unfold oLoad ldB; rfl
theorem load_rref {sh : Sh} {i g m n : Nat} : oLoad sh (.rref i g m n) h = ldR sh g m n h[i]? := by unfold oLoad ldR; rfl
theorem load_vp {sh : Sh} {v : PV} : oLoad sh (.vp v) h = (cutP sh 0 v).map .p := (rfl)
theorem ldB_box {sh : Sh} {off : Nat} {cs : List AV} : ldB sh off (some (.box cs)) = cut sh off cs := (rfl)
theorem ldR_row {sh sh' : Sh} {g i off fz : Nat} {xs : List PV} : ldR sh g i off (some (.row sh' xs fz)) = if g = xs.length then ((xs[i]?).bind (cutP sh off)).map .p else none := (rfl)
def stB (sh : Sh) (id off : Nat) (v : AV) (h : Heap) : Option Obj → Option (List AV) → Option (AV × Heap × Esc)
  | some (.box cs), some vs => if vs.length = shSize sh ∧ off + vs.length ≤ cs.length then some (.und, h.set id (.box (splice cs off vs)), escOf id v) else none
  | _, _ => none
theorem store_ref {sh : Sh} {i j : Nat} {v : AV} : oStore sh (.ref i j) v h = stB sh i j v h h[i]? v.cells := by unfold oStore stB; rfl
theorem stB_box {sh : Sh} {id off : Nat} {v : AV} {cs vs : List AV} : stB sh id off v h (some (.box cs)) (some vs) = if vs.length = shSize sh ∧ off + vs.length ≤ cs.length then some (.und, h.set id (.box (splice cs off vs)), escOf id v) else none := (rfl)
def stE (sh : Sh) (id i off fz : Nat) (rsh : Sh) (xs : List PV) (v : PV) (h1 : Heap) : Option PV → Option (AV × Heap × Esc)
  | some (.agg cs) => if off + v.cells.length ≤ cs.length then some (.und, h1.set id (.row rsh (xs.set i (.agg (splice cs off v.cells))) fz), []) else none
  | some _ => if off = 0 ∧ v.sc then some (.und, h1.set id (.row rsh (xs.set i v) fz), []) else none
  | none => none
def stO (sh : Sh) (id g i off : Nat) (v : PV) (h1 : Heap) : Option Obj → Option (AV × Heap × Esc)
  | some (.row rsh xs fz) => if g = xs.length ∧ fz ≤ i ∧ v.cells.length = shSize sh ∧ v.cells.all PV.sc then stE sh id i off fz rsh xs v h1 xs[i]? else none
  | _ => none
def stR (sh : Sh) (id g i off : Nat) : Option (PV × Heap) → Option (AV × Heap × Esc)
  | some y => stO sh id g i off y.1 y.2 y.2[id]?
  | none => none
theorem store_rref {sh : Sh} {id g i off : Nat} {x : AV} : oStore sh (.rref id g i off) x h = stR sh id g i off (pur h x) := by
  unfold oStore stR
  cases pur h x with
  | none => rfl
  | some y =>
    obtain ⟨v, h1⟩ := y
    dsimp only
    unfold stO
    cases h1[id]? with
    | none => rfl
    | some o => cases o <;> rfl
theorem stR_some {sh : Sh} {id g i off : Nat} {v : PV} {h1 : Heap} : stR sh id g i off (some (v, h1)) = stO sh id g i off v h1 h1[id]? := (rfl)
theorem stO_row {sh rsh : Sh} {id g i off fz : Nat} {v : PV} {h1 : Heap} {xs : List PV} : stO sh id g i off v h1 (some (.row rsh xs fz)) = if g = xs.length ∧ fz ≤ i ∧ v.cells.length = shSize sh ∧ v.cells.all PV.sc then stE sh id i off fz rsh xs v h1 xs[i]? else none := (rfl)
theorem stE_agg {sh rsh : Sh} {id i off fz : Nat} {v : PV} {h1 : Heap} {xs cs : List PV} : stE sh id i off fz rsh xs v h1 (some (.agg cs)) = if off + v.cells.length ≤ cs.length then some (.und, h1.set id (.row rsh (xs.set i (.agg (splice cs off v.cells))) fz), []) else none := (rfl)
theorem stE_int {sh rsh : Sh} {id i off fz : Nat} {v : PV} {h1 : Heap} {xs : List PV} {k : IntKind} {n : Int} : stE sh id i off fz rsh xs v h1 (some (.int k n)) = if off = 0 ∧ v.sc then some (.und, h1.set id (.row rsh (xs.set i v) fz), []) else none := (rfl)
theorem stE_bool {sh rsh : Sh} {id i off fz : Nat} {v : PV} {h1 : Heap} {xs : List PV} {t : Bool} : stE sh id i off fz rsh xs v h1 (some (.bool t)) = if off = 0 ∧ v.sc then some (.und, h1.set id (.row rsh (xs.set i v) fz), []) else none := (rfl)
theorem stE_str {sh rsh : Sh} {id i off fz : Nat} {v : PV} {h1 : Heap} {xs : List PV} {s : List UInt8} : stE sh id i off fz rsh xs v h1 (some (.str s)) = if off = 0 ∧ v.sc then some (.und, h1.set id (.row rsh (xs.set i v) fz), []) else none := (rfl)
theorem stE_sl {sh rsh : Sh} {id i off fz : Nat} {v : PV} {h1 : Heap} {xs : List PV} {sh' : Sh} {ys : List PV} : stE sh id i off fz rsh xs v h1 (some (.sl sh' ys)) = if off = 0 ∧ v.sc then some (.und, h1.set id (.row rsh (xs.set i v) fz), []) else none := (rfl)
theorem stE_nilp {sh rsh : Sh} {id i off fz : Nat} {v : PV} {h1 : Heap} {xs : List PV}  : stE sh id i off fz rsh xs v h1 (some .nilp) = if off = 0 ∧ v.sc then some (.und, h1.set id (.row rsh (xs.set i v) fz), []) else none := (rfl)
theorem pur_p {v : PV} : pur h (.p v) = some (v, h) := (rfl)
def iaS (xs : List PV) : Option Nat → Option AV
  | some k => (xs[k]?).map .vp
  | none => none
theorem iaddr_sl {sh : Sh} {xs : List PV} {i : AV} : oIaddr sh (.p (.sl sh xs)) i h = iaS xs (natOf i) := by
  unfold oIaddr iaS; cases natOf i <;> simp
theorem iaS_some {xs : List PV} {n : Nat} : iaS xs (some n) = (xs[n]?).map .vp := (rfl)
def iaO (sh : Sh) (id g off len : Nat) : Option Obj → Option Nat → Option AV
  | some (.row rsh xs _), some k => if rsh = sh ∧ g = xs.length ∧ off + len ≤ xs.length ∧ k < len then some (.rref id g (off + k) 0) else none
  | _, _ => none
theorem iaddr_own {sh : Sh} {id g off len : Nat} {i : AV} : oIaddr sh (.own id g off len) i h = iaO sh id g off len h[id]? (natOf i) := by
  unfold oIaddr iaO
  cases natOf i with
  | none => dsimp only; cases h[id]? with
    | none => rfl
    | some o => cases o <;> rfl
  | some k => dsimp only; cases h[id]? with
    | none => rfl
    | some o => cases o <;> rfl
theorem iaO_row {sh rsh : Sh} {id g off len k fz : Nat} {xs : List PV} : iaO sh id g off len (some (.row rsh xs fz)) (some k) = if rsh = sh ∧ g = xs.length ∧ off + len ≤ xs.length ∧ k < len then some (.rref id g (off + k) 0) else none := (rfl)
theorem idxs_s {i : AV} : oIdxs (.p (.str sa)) i = (natOf i).bind fun n => (sa[n]?).map fun b => .p (.int .u8 b.toNat) := by
  unfold oIdxs; cases natOf i <;> rfl
end
theorem alK_eq {z : List AV} {k : AV → Heap → Esc → Prop} : alK z h k = k (.ref h.length 0) (h ++ [.box z]) [] := (rfl)
theorem nwK_eq {sh : Sh} {k : AV → Heap → Esc → Prop} : nwK sh h k = k (.own h.length 0 0 0) (h ++ [.row sh [] 0]) [] := (rfl)
theorem mmK_eq {k : AV → Heap → Esc → Prop} : mmK h k = k (.mp h.length) (h ++ [.amap [] 0]) [] := (rfl)

attribute [go_sem] seqN_normal seqN_exit seqN_ret blockN_normal blockN_same blockN_ret NW_scope
  pK_some pK_none wK_some wK_none pK_ite wK_ite gV_tt gV_ff gV_tf gV_ft gV_skp gP_tt gP_ff gP_tf gP_ft gP_skp gM_tt gM_ff gM_tf gM_ft gM_skp
  bin_add bin_sub bin_mul bin_quo bin_rem bin_and bin_or bin_xor bin_andNot bin_eql bin_neq bin_lss bin_leq bin_gtr bin_geq bin_shl bin_shr str_add str_eql str_neq str_lss str_leq str_gtr str_geq un_neg un_not convI nilref nilrref nilvp nilfn
  pick_b len_sl len_sl0 len_own lens_s ext_t faddr_ref faddr_rref faddr_vp field_p field_a load_ref load_rref load_vp ldB_box ldR_row store_ref stB_box store_rref stR_some stO_row stE_agg stE_int stE_bool stE_str stE_sl stE_nilp pur_p iaddr_sl iaS_some iaddr_own iaO_row idxs_s alK_eq nwK_eq mmK_eq
  oBox oBuild fillV oBsl fillW oEqa oIsnil nilOf oMkif okIn oConv oMksl bndV oSlstr oSlice oIaddra oIdxa oApp oCopy oMx oMn oLook oMupd oMent oEstore oMdel oLenm oMrange oMentry
attribute [go_sem ↓] pK_some pK_none wK_some wK_none gV_tt gV_ff gV_tf gV_ft gV_skp gP_tt gP_ff gP_tf gP_ft gP_skp gM_tt gM_ff gM_tf gM_ft gM_skp condB_true condB_false wantK_tt wantK_ff wantK_tf wantK_ft wantK_skp seqN_normal seqN_exit seqN_ret blockN_normal blockN_same blockN_ret alK_eq nwK_eq mmK_eq loopK_normal loopK_exit loopK_ret scopeK_eq finR_normal finR_ret
attribute [go_sem low] gV_any gP_any gM_any blockN_exit
attribute [congr] seqN_congr blockN_congr NW_congr NLoop_congr pK_congr wK_congr gV_congr gP_congr gM_congr

end Go.Am
