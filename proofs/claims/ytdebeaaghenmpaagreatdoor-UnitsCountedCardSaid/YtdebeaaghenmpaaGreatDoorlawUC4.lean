/- Texts of the proof, laid together: Am31, AmX, CodesA. -/
import GoSem.Extern.Table
import Derived.Laws.World
import Derived.KernelRfl
import Derived.Test.YtdebeaaghenmpaaGreatDoorlawUC3
set_option linter.all false
section
/- The abstract machine,part 31: words in which a function's code is printed,and the rules of computing over them. -/
set_option linter.unusedSimpArgs false
set_option linter.unusedVariables false
namespace Go.Am
variable {C : Hd} {gl : Nat → Option PV} {e : List (Nat × AV)} {h : Heap} {x : Esc} {K : Ex → St → Prop} {s : St}
def seqN (C : Hd) (gl : Nat → Option PV) (b : ACode) (K : Ex → St → Prop) (e : Ex) (s : St) : Prop:=match e with
  | .normal=>NW C gl b s K
  | .exit i=>K (.exit i) s
  | .ret=>K .ret s
def blockN (id : Nat) (K : Ex → St → Prop) (e : Ex) (s : St) : Prop:=match e with
  | .normal=>K .normal s
  | .exit i=>bif Nat.beq i id then K .normal s else K (.exit i) s
  | .ret=>K .ret s
def nxK (i : AV) (h : Heap) (k : AV → Heap → Esc → Prop) : Prop:=match mnexts h i with
    | some l=>l ≠ [] ∧ ∀ y ∈ l,k y.1 y.2 []
    | none=>False
theorem seqN_normal {b : ACode} : seqN C gl b K .normal s = NW C gl b s K:=(rfl)
theorem seqN_exit {b : ACode} {i : Nat} : seqN C gl b K (.exit i) s = K (.exit i) s:=(rfl)
theorem seqN_ret {b : ACode} : seqN C gl b K .ret s = K .ret s:=(rfl)
theorem blockN_normal {i : Nat} : blockN i K .normal s = K .normal s:=(rfl)
theorem blockN_same {i : Nat} : blockN i K (.exit i) s = K .normal s:=by simp [blockN]
theorem blockN_exit {i j : Nat} : blockN i K (.exit j) s = bif Nat.beq j i then K .normal s else K (.exit j) s:=(rfl)
theorem blockN_ret {i : Nat} : blockN i K .ret s = K .ret s:=(rfl)
theorem seqN_congr {b : ACode} {ex ex' : Ex} {s s' : St} (he : ex = ex') (hs : s = s') : seqN C gl b K ex s = seqN C gl b K ex' s':=by rw [he,hs]
theorem blockN_congr {i : Nat} {ex ex' : Ex} {s s' : St} (he : ex = ex') (hs : s = s') : blockN i K ex s = blockN i K ex' s':=by rw [he,hs]
theorem NW_scope {b : ACode} : NW C gl (.scope b) ⟨e,h,x⟩ K = NW C gl b ⟨e,h,[]⟩ (scopeK h.length x K):=(rfl)
theorem NW_congr {c : ACode} {s s' : St} (hs : s = s') : NW C gl c s K = NW C gl c s' K:=by rw [hs]
def NLoop (C : Hd) (gl : Nat → Option PV) (b : ACode) (K : Ex → St → Prop) (e : List (Nat × AV)) (h : Heap) (x : Esc) : Prop:=ALoop (NW C gl b) K ⟨e,h,x⟩
theorem NLoop_pr {l : List Nat} {b : ACode} : NW C gl (.loop (.pr l b)) ⟨e,h,x⟩ K = NLoop C gl (.pr l b) K (prune (some l) e) h x:=by
  show ALoop _ _ _ = ALoop _ _ _
  exact ALoop_same (funext fun R=>by show NW C gl b _ R = NW C gl b _ R; dsimp only; rw [prune_prune])
theorem NLoop_sc {l : List Nat} {b : ACode} : NW C gl (.loop (.scope (.pr l b))) ⟨e,h,x⟩ K = NLoop C gl (.scope (.pr l b)) K (prune (some l) e) h x:=by
  show ALoop _ _ _ = ALoop _ _ _
  exact ALoop_same (funext fun R=>by show NW C gl b _ _ = NW C gl b _ _; dsimp only; rw [prune_prune])
theorem NLoop_congr {b : ACode} {e e' : List (Nat × AV)} {h h' : Heap} {x x' : Esc} (h1 : e = e') (h2 : h = h') (h3 : x = x') : NLoop C gl b K e h x = NLoop C gl b K e' h' x':=by rw [h1,h2,h3]
theorem N_loop {σ : Type} {b : ACode} (S : σ → St) (P : σ → Prop) (m : σ → Nat) (t0 : σ) (hs : (⟨e,h,x⟩ : St) = S t0) (h0 : P t0) (hr : ∀ t,P t → NW C gl b (S t) (loopK S P m K t)) : NLoop C gl b K e h x:=by
  show ALoop (NW C gl b) K _
  rw [hs]
  have key : ∀ n t,m t < n → P t → ALoop (NW C gl b) K (S t):=by
    intro n
    induction n with
    | zero=>intro t h; omega
    | succ n ih=>
      intro t hm hp
      refine .mk _ _ (hr t hp) (fun s' h'=>?_) (fun i s' h'=>h') (fun s' h'=>h')
      obtain ⟨u,rfl,hu,hlt⟩:=h'
      exact ih u (by omega) hu
  exact key _ t0 (Nat.lt_succ_self _) h0
theorem call_val {X : Ctx} {f : Nat} {F : AFun} {a as : List AV} {h h1 : Heap} {P : Post} (hf : X.fn f = some F) (hr : F.byref = false) (hp : puras h a = some (as,h1)) (hl : as.length = F.nparams) :
    ACall X f a h P = NW (ACall X) X.gl F.body ⟨enter as,h1,[]⟩ (finR F.results F.keep h.length P):=by
  rw [step_val hf hr hp hl,NW_eq]
theorem call_ref {X : Ctx} {f : Nat} {F : AFun} {as : List AV} {h : Heap} {P : Post} (hf : X.fn f = some F) (hr : F.byref = true) (hl : as.length = F.nparams) :
    ACall X f as h P = NW (ACall X) X.gl F.body ⟨enter as,h,[]⟩ (finR F.results F.keep h.length P):=by
  rw [step_ref hf hr hl,NW_eq]
theorem pK_some {v : AV} {k : AV → Prop} : pK (some v) k = k v:=(rfl)
theorem pK_none {k : AV → Prop} : pK none k = False:=(rfl)
theorem wK_some {v : AV} {h : Heap} {x : Esc} {k : AV → Heap → Esc → Prop} : wK (some (v,h,x)) k = k v h x:=(rfl)
theorem wK_none {k : AV → Heap → Esc → Prop} : wK none k = False:=(rfl)
theorem pK_ite {p : Prop} [Decidable p] {a b : Option AV} {k : AV → Prop} : pK (if p then a else b) k = if p then pK a k else pK b k:=by split <;> rfl
theorem wK_ite {p : Prop} [Decidable p] {a b : Option (AV × Heap × Esc)} {k : AV → Heap → Esc → Prop} : wK (if p then a else b) k = if p then wK a k else wK b k:=by split <;> rfl
theorem pK_congr {o o' : Option AV} {k : AV → Prop} (h : o = o') : pK o k = pK o' k:=by rw [h]
theorem wK_congr {o o' : Option (AV × Heap × Esc)} {k : AV → Heap → Esc → Prop} (h : o = o') : wK o k = wK o' k:=by rw [h]
theorem gV_congr {v v' : AV} {b : Bool} {h : Heap} {A : (AV → Heap → Esc → Prop) → Prop} {k : AV → Heap → Esc → Prop} (h1 : v = v') : gV v b h A k = gV v' b h A k:=by rw [h1]
theorem gP_congr {v v' : AV} {b : Bool} {o : Option AV} {h : Heap} {k : AV → Heap → Esc → Prop} (h1 : v = v') : gP v b o h k = gP v' b o h k:=by rw [h1]
theorem gM_congr {v v' : AV} {b : Bool} {u : AV} {h : Heap} {k : AV → Heap → Esc → Prop} (h1 : v = v') : gM v b u h k = gM v' b u h k:=by rw [h1]
section
variable {A : (AV → Heap → Esc → Prop) → Prop} {o : Option AV} {u : AV} {k : AV → Heap → Esc → Prop} {t b : Bool}
theorem gV_tt : gV (.p (.bool true)) true h A k = A k:=(rfl)
theorem gV_ff : gV (.p (.bool false)) false h A k = A k:=(rfl)
theorem gV_tf : gV (.p (.bool true)) false h A k = k .skp h []:=(rfl)
theorem gV_ft : gV (.p (.bool false)) true h A k = k .skp h []:=(rfl)
theorem gV_skp : gV .skp b h A k = k .skp h []:=(rfl)
theorem gV_any : gV (.p (.bool t)) b h A k = wantK (.p (.bool t)) b (A k) (k .skp h []):=(rfl)
theorem gP_tt : gP (.p (.bool true)) true o h k = pK o fun v=>k v h []:=(rfl)
theorem gP_ff : gP (.p (.bool false)) false o h k = pK o fun v=>k v h []:=(rfl)
theorem gP_tf : gP (.p (.bool true)) false o h k = k .skp h []:=(rfl)
theorem gP_ft : gP (.p (.bool false)) true o h k = k .skp h []:=(rfl)
theorem gP_skp : gP .skp b o h k = k .skp h []:=(rfl)
theorem gP_any : gP (.p (.bool t)) b o h k = wantK (.p (.bool t)) b (pK o fun v=>k v h []) (k .skp h []):=(rfl)
theorem gM_tt : gM (.p (.bool true)) true u h k = k u h []:=(rfl)
theorem gM_ff : gM (.p (.bool false)) false u h k = k u h []:=(rfl)
theorem gM_tf : gM (.p (.bool true)) false u h k = k .skp h []:=(rfl)
theorem gM_ft : gM (.p (.bool false)) true u h k = k .skp h []:=(rfl)
theorem gM_skp : gM .skp b u h k = k .skp h []:=(rfl)
theorem gM_any : gM (.p (.bool t)) b u h k = wantK (.p (.bool t)) b (k u h []) (k .skp h []):=(rfl)
end
section
variable {k k' : IntKind} {a b : Int} {sa sb : List UInt8}
theorem bin_add : oBin .add (.p (.int k a)) (.p (.int k b)) = some (.p (.int k (k.wrap (a + b)))):=by simp [oBin,abin,aint]
theorem bin_sub : oBin .sub (.p (.int k a)) (.p (.int k b)) = some (.p (.int k (k.wrap (a - b)))):=by simp [oBin,abin,aint]
theorem bin_mul : oBin .mul (.p (.int k a)) (.p (.int k b)) = some (.p (.int k (k.wrap (a * b)))):=by simp [oBin,abin,aint]
theorem bin_quo : oBin .quo (.p (.int k a)) (.p (.int k b)) = if b = 0 then none else some (.p (.int k (k.wrap (a.tdiv b)))):=by simp [oBin,abin,aint] <;> split <;> rfl
theorem bin_rem : oBin .rem (.p (.int k a)) (.p (.int k b)) = if b = 0 then none else some (.p (.int k (a.tmod b))):=by simp [oBin,abin,aint] <;> split <;> rfl
theorem bin_and : oBin .and (.p (.int k a)) (.p (.int k b)) = some (.p (.int k (iand k a b))):=by simp [oBin,abin,aint]
theorem bin_or : oBin .or (.p (.int k a)) (.p (.int k b)) = some (.p (.int k (ior k a b))):=by simp [oBin,abin,aint]
theorem bin_xor : oBin .xor (.p (.int k a)) (.p (.int k b)) = some (.p (.int k (ixor k a b))):=by simp [oBin,abin,aint]
theorem bin_andNot : oBin .andNot (.p (.int k a)) (.p (.int k b)) = some (.p (.int k (iandn k a b))):=by simp [oBin,abin,aint]
theorem bin_eql : oBin .eql (.p (.int k a)) (.p (.int k b)) = some (.p (.bool (decide (a = b)))):=by simp [oBin,abin,aint]
theorem bin_neq : oBin .neq (.p (.int k a)) (.p (.int k b)) = some (.p (.bool (!decide (a = b)))):=by simp [oBin,abin,aint]
theorem bin_lss : oBin .lss (.p (.int k a)) (.p (.int k b)) = some (.p (.bool (decide (a < b)))):=by simp [oBin,abin,aint]
theorem bin_leq : oBin .leq (.p (.int k a)) (.p (.int k b)) = some (.p (.bool (decide (a ≤ b)))):=by simp [oBin,abin,aint]
theorem bin_gtr : oBin .gtr (.p (.int k a)) (.p (.int k b)) = some (.p (.bool (decide (b < a)))):=by simp [oBin,abin,aint]
theorem bin_geq : oBin .geq (.p (.int k a)) (.p (.int k b)) = some (.p (.bool (decide (b ≤ a)))):=by simp [oBin,abin,aint]
theorem bin_shl : oBin .shl (.p (.int k a)) (.p (.int k' b)) = if b < 0 then none else some (.p (.int k (ishl k a b))):=by simp [oBin,abin] <;> split <;> rfl
theorem bin_shr : oBin .shr (.p (.int k a)) (.p (.int k' b)) = if b < 0 then none else some (.p (.int k (ishr k a b))):=by simp [oBin,abin] <;> split <;> rfl
theorem str_add : oBin .add (.p (.str sa)) (.p (.str sb)) = if sa.length + sb.length ≤ maxStr then some (.p (.str (sa ++ sb))) else none:=by simp [oBin,abin,astr] <;> split <;> rfl
theorem str_eql : oBin .eql (.p (.str sa)) (.p (.str sb)) = some (.p (.bool (decide (sa = sb)))):=by simp [oBin,abin,astr]
theorem str_neq : oBin .neq (.p (.str sa)) (.p (.str sb)) = some (.p (.bool (!decide (sa = sb)))):=by simp [oBin,abin,astr]
theorem str_lss : oBin .lss (.p (.str sa)) (.p (.str sb)) = some (.p (.bool (Op.bytesLess sa sb))):=by simp [oBin,abin,astr]
theorem str_leq : oBin .leq (.p (.str sa)) (.p (.str sb)) = some (.p (.bool (Op.bytesLess sa sb || decide (sa = sb)))):=by simp [oBin,abin,astr]
theorem str_gtr : oBin .gtr (.p (.str sa)) (.p (.str sb)) = some (.p (.bool (!(Op.bytesLess sa sb || decide (sa = sb))))):=by simp [oBin,abin,astr]
theorem str_geq : oBin .geq (.p (.str sa)) (.p (.str sb)) = some (.p (.bool (!Op.bytesLess sa sb))):=by simp [oBin,abin,astr]
theorem un_neg : oUn .neg (.p (.int k a)) = some (.p (.int k (k.wrap (-a)))):=by simp [oUn,aun]
theorem un_not {t : Bool} : oUn .not (.p (.bool t)) = some (.p (.bool !t)):=(rfl)
theorem convI {k' : IntKind} : oConvI k (.p (.int k' a)) = some (.p (.int k (k.wrap a))):=(rfl)
theorem nilref {i j : Nat} : oNil (.ref i j) = some (.ref i j):=(rfl)
theorem nilrref {i j m n : Nat} : oNil (.rref i j m n) = some (.rref i j m n):=(rfl)
theorem nilvp {v : PV} : oNil (.vp v) = some (.vp v):=(rfl)
theorem nilfn {f : Nat} {cs : List AV} : oNil (.fn f cs) = some (.fn f cs):=(rfl)
theorem pick_b {t : Bool} {u v : AV} : oPick (.p (.bool t)) u v = some (bif t then u else v):=(rfl)
theorem len_sl {sh : Sh} {xs : List PV} : oLen (.p (.sl sh xs)) = some (.p (.int .i64 xs.length)):=(rfl)
theorem len_sl0 {sh : Sh} : oLen (.sl0 sh) = some (.p (.int .i64 0)):=(rfl)
theorem len_own {i g o l : Nat} : oLen (.own i g o l) = some (.p (.int .i64 l)):=(rfl)
theorem lens_s : oLens (.p (.str sa)) = some (.p (.int .i64 sa.length)):=(rfl)
theorem ext_t {vs : List AV} {i : Nat} : oExt (.tup vs) i = vs[i]?:=(rfl)
theorem faddr_ref {off i j : Nat} {sh : Sh} : oFaddr off sh (.ref i j) = some (.ref i (j + off)):=(rfl)
theorem faddr_rref {off i j m n : Nat} {sh : Sh} : oFaddr off sh (.rref i j m n) = some (.rref i j m (n + off)):=(rfl)
theorem faddr_vp {off : Nat} {sh : Sh} {v : PV} : oFaddr off sh (.vp v) = (cutP sh off v).map .vp:=(rfl)
theorem field_p {off : Nat} {sh : Sh} {cs : List PV} : oField off sh (.p (.agg cs)) = (cutP sh off (.agg cs)).map .p:=(rfl)
theorem field_a {off : Nat} {sh : Sh} {cs : List AV} : oField off sh (.agg cs) = cut sh off cs:=(rfl)
def ldB (sh : Sh) (off : Nat) : Option Obj → Option AV
  | some (.box cs)=>cut sh off cs
  | _=>none
def ldR (sh : Sh) (g i off : Nat) : Option Obj → Option AV
  | some (.row _ xs _)=>if g = xs.length then ((xs[i]?).bind (cutP sh off)).map .p else none
  | _=>none
theorem load_ref {sh : Sh} {i j : Nat} : oLoad sh (.ref i j) h = ldB sh j h[i]?:=by unfold oLoad ldB; rfl
theorem load_rref {sh : Sh} {i g m n : Nat} : oLoad sh (.rref i g m n) h = ldR sh g m n h[i]?:=by unfold oLoad ldR; rfl
theorem load_vp {sh : Sh} {v : PV} : oLoad sh (.vp v) h = (cutP sh 0 v).map .p:=(rfl)
theorem ldB_box {sh : Sh} {off : Nat} {cs : List AV} : ldB sh off (some (.box cs)) = cut sh off cs:=(rfl)
theorem ldR_row {sh sh' : Sh} {g i off fz : Nat} {xs : List PV} : ldR sh g i off (some (.row sh' xs fz)) = if g = xs.length then ((xs[i]?).bind (cutP sh off)).map .p else none:=(rfl)
def stB (sh : Sh) (id off : Nat) (v : AV) (h : Heap) : Option Obj → Option (List AV) → Option (AV × Heap × Esc)
  | some (.box cs),some vs=>if vs.length = shSize sh ∧ off + vs.length ≤ cs.length then some (.und,h.set id (.box (splice cs off vs)),escOf id v) else none
  | _,_=>none
theorem store_ref {sh : Sh} {i j : Nat} {v : AV} : oStore sh (.ref i j) v h = stB sh i j v h h[i]? v.cells:=by unfold oStore stB; rfl
theorem stB_box {sh : Sh} {id off : Nat} {v : AV} {cs vs : List AV} : stB sh id off v h (some (.box cs)) (some vs) = if vs.length = shSize sh ∧ off + vs.length ≤ cs.length then some (.und,h.set id (.box (splice cs off vs)),escOf id v) else none:=(rfl)
def stE (sh : Sh) (id i off fz : Nat) (rsh : Sh) (xs : List PV) (v : PV) (h1 : Heap) : Option PV → Option (AV × Heap × Esc)
  | some (.agg cs)=>if off + v.cells.length ≤ cs.length then some (.und,h1.set id (.row rsh (xs.set i (.agg (splice cs off v.cells))) fz),[]) else none
  | some _=>if off = 0 ∧ v.sc then some (.und,h1.set id (.row rsh (xs.set i v) fz),[]) else none
  | none=>none
def stO (sh : Sh) (id g i off : Nat) (v : PV) (h1 : Heap) : Option Obj → Option (AV × Heap × Esc)
  | some (.row rsh xs fz)=>if g = xs.length ∧ fz ≤ i ∧ v.cells.length = shSize sh ∧ v.cells.all PV.sc then stE sh id i off fz rsh xs v h1 xs[i]? else none
  | _=>none
def stR (sh : Sh) (id g i off : Nat) : Option (PV × Heap) → Option (AV × Heap × Esc)
  | some y=>stO sh id g i off y.1 y.2 y.2[id]?
  | none=>none
theorem store_rref {sh : Sh} {id g i off : Nat} {x : AV} : oStore sh (.rref id g i off) x h = stR sh id g i off (pur h x):=by
  unfold oStore stR
  cases pur h x with
  | none=>rfl
  | some y=>
    obtain ⟨v,h1⟩:=y
    dsimp only
    unfold stO
    cases h1[id]? with
    | none=>rfl
    | some o=>cases o <;> rfl
theorem stR_some {sh : Sh} {id g i off : Nat} {v : PV} {h1 : Heap} : stR sh id g i off (some (v,h1)) = stO sh id g i off v h1 h1[id]?:=(rfl)
theorem stO_row {sh rsh : Sh} {id g i off fz : Nat} {v : PV} {h1 : Heap} {xs : List PV} : stO sh id g i off v h1 (some (.row rsh xs fz)) = if g = xs.length ∧ fz ≤ i ∧ v.cells.length = shSize sh ∧ v.cells.all PV.sc then stE sh id i off fz rsh xs v h1 xs[i]? else none:=(rfl)
theorem stE_agg {sh rsh : Sh} {id i off fz : Nat} {v : PV} {h1 : Heap} {xs cs : List PV} : stE sh id i off fz rsh xs v h1 (some (.agg cs)) = if off + v.cells.length ≤ cs.length then some (.und,h1.set id (.row rsh (xs.set i (.agg (splice cs off v.cells))) fz),[]) else none:=(rfl)
theorem stE_int {sh rsh : Sh} {id i off fz : Nat} {v : PV} {h1 : Heap} {xs : List PV} {k : IntKind} {n : Int} : stE sh id i off fz rsh xs v h1 (some (.int k n)) = if off = 0 ∧ v.sc then some (.und,h1.set id (.row rsh (xs.set i v) fz),[]) else none:=(rfl)
theorem stE_bool {sh rsh : Sh} {id i off fz : Nat} {v : PV} {h1 : Heap} {xs : List PV} {t : Bool} : stE sh id i off fz rsh xs v h1 (some (.bool t)) = if off = 0 ∧ v.sc then some (.und,h1.set id (.row rsh (xs.set i v) fz),[]) else none:=(rfl)
theorem stE_str {sh rsh : Sh} {id i off fz : Nat} {v : PV} {h1 : Heap} {xs : List PV} {s : List UInt8} : stE sh id i off fz rsh xs v h1 (some (.str s)) = if off = 0 ∧ v.sc then some (.und,h1.set id (.row rsh (xs.set i v) fz),[]) else none:=(rfl)
theorem stE_sl {sh rsh : Sh} {id i off fz : Nat} {v : PV} {h1 : Heap} {xs : List PV} {sh' : Sh} {ys : List PV} : stE sh id i off fz rsh xs v h1 (some (.sl sh' ys)) = if off = 0 ∧ v.sc then some (.und,h1.set id (.row rsh (xs.set i v) fz),[]) else none:=(rfl)
theorem stE_nilp {sh rsh : Sh} {id i off fz : Nat} {v : PV} {h1 : Heap} {xs : List PV}  : stE sh id i off fz rsh xs v h1 (some .nilp) = if off = 0 ∧ v.sc then some (.und,h1.set id (.row rsh (xs.set i v) fz),[]) else none:=(rfl)
theorem pur_p {v : PV} : pur h (.p v) = some (v,h):=(rfl)
def iaS (xs : List PV) : Option Nat → Option AV
  | some k=>(xs[k]?).map .vp
  | none=>none
theorem iaddr_sl {sh : Sh} {xs : List PV} {i : AV} : oIaddr sh (.p (.sl sh xs)) i h = iaS xs (natOf i):=by
  unfold oIaddr iaS; cases natOf i <;> simp
theorem iaS_some {xs : List PV} {n : Nat} : iaS xs (some n) = (xs[n]?).map .vp:=(rfl)
def iaO (sh : Sh) (id g off len : Nat) : Option Obj → Option Nat → Option AV
  | some (.row rsh xs _),some k=>if rsh = sh ∧ g = xs.length ∧ off + len ≤ xs.length ∧ k < len then some (.rref id g (off + k) 0) else none
  | _,_=>none
theorem iaddr_own {sh : Sh} {id g off len : Nat} {i : AV} : oIaddr sh (.own id g off len) i h = iaO sh id g off len h[id]? (natOf i):=by
  unfold oIaddr iaO
  cases natOf i with
  | none=>dsimp only; cases h[id]? with
    | none=>rfl
    | some o=>cases o <;> rfl
  | some k=>dsimp only; cases h[id]? with
    | none=>rfl
    | some o=>cases o <;> rfl
theorem iaO_row {sh rsh : Sh} {id g off len k fz : Nat} {xs : List PV} : iaO sh id g off len (some (.row rsh xs fz)) (some k) = if rsh = sh ∧ g = xs.length ∧ off + len ≤ xs.length ∧ k < len then some (.rref id g (off + k) 0) else none:=(rfl)
theorem idxs_s {i : AV} : oIdxs (.p (.str sa)) i = (natOf i).bind fun n=>(sa[n]?).map fun b=>.p (.int .u8 b.toNat):=by
  unfold oIdxs; cases natOf i <;> rfl
end
theorem alK_eq {z : List AV} {k : AV → Heap → Esc → Prop} : alK z h k = k (.ref h.length 0) (h ++ [.box z]) []:=(rfl)
theorem nwK_eq {sh : Sh} {k : AV → Heap → Esc → Prop} : nwK sh h k = k (.own h.length 0 0 0) (h ++ [.row sh [] 0]) []:=(rfl)
theorem mmK_eq {k : AV → Heap → Esc → Prop} : mmK h k = k (.mp h.length) (h ++ [.amap [] 0]) []:=(rfl)
theorem condU_true {A B : Prop} : condU (.p (.bool true)) A B = A:=(rfl)
theorem condU_false {A B : Prop} : condU (.p (.bool false)) A B = B:=(rfl)
theorem condU_any {A B : Prop} : condU .anyb A B = (A ∧ B):=(rfl)
theorem detK_of {A : (Ex → St → Prop) → Prop} {K : Ex → St → Prop} {e : Ex} {s : St} (h : A fun e1 s1=>e1 = e ∧ s1 = s) (k : K e s) : detK A K:=⟨e,s,k,h⟩
attribute [go_sem] seqN_normal seqN_exit seqN_ret blockN_normal blockN_same blockN_ret NW_scope pK_some pK_none wK_some wK_none pK_ite wK_ite gV_tt gV_ff gV_tf gV_ft gV_skp gP_tt gP_ff gP_tf gP_ft gP_skp gM_tt gM_ff gM_tf gM_ft gM_skp bin_add bin_sub bin_mul bin_quo bin_rem bin_and bin_or bin_xor bin_andNot bin_eql bin_neq bin_lss bin_leq bin_gtr bin_geq bin_shl bin_shr str_add str_eql str_neq str_lss str_leq str_gtr str_geq un_neg un_not convI nilref nilrref nilvp nilfn pick_b len_sl len_sl0 len_own lens_s ext_t faddr_ref faddr_rref faddr_vp field_p field_a load_ref load_rref load_vp ldB_box ldR_row store_ref stB_box store_rref stR_some stO_row stE_agg stE_int stE_bool stE_str stE_sl stE_nilp pur_p iaddr_sl iaS_some iaddr_own iaO_row idxs_s alK_eq nwK_eq mmK_eq oBox oBuild fillV oBsl fillW oEqa oIsnil nilAny condU_true condU_false condU_any nilOf oMkif okIn oConv oMksl bndV oSlstr oSlice oIaddra oIdxa oApp oCopy oClr oMx oMn oLook oMupd oMent oEstore oMdel oLenm oMrange oMentry
attribute [go_sem ↓] pK_some pK_none wK_some wK_none gV_tt gV_ff gV_tf gV_ft gV_skp gP_tt gP_ff gP_tf gP_ft gP_skp gM_tt gM_ff gM_tf gM_ft gM_skp condB_true condB_false wantK_tt wantK_ff wantK_tf wantK_ft wantK_skp seqN_normal seqN_exit seqN_ret blockN_normal blockN_same blockN_ret alK_eq nwK_eq mmK_eq loopK_normal loopK_exit loopK_ret scopeK_eq finR_normal finR_ret
attribute [go_sem low] gV_any gP_any gM_any blockN_exit
attribute [congr] seqN_congr blockN_congr NW_congr NLoop_congr pK_congr wK_congr gV_congr gP_congr gM_congr
end Go.Am
end
section
/- The abstract machine,part X: the library's functions that have no Go text: comparing strings,finding a byte. -/
set_option linter.unusedSimpArgs false
set_option linter.unusedVariables false
namespace Go.Am
variable {P : Program}
structure ExtRow (P : Program) (f : Nat) (e : Array Value → Sem Value) : Prop where
  row : ∃ fn,P.funcs[f]? = some fn ∧ fn.name ≠ "runtime.NumGoroutine" ∧ fn.body = none ∧ Extern.findNext fn = none ∧ Extern.find fn = some e
theorem ExtRow.run {f : Nat} {e : Array Value → Sem Value} (R : ExtRow P f e) {us : Array Value} {w w' : World} {x : Value} (he : (e us).run P w = .ok x w') : (callFunc f us).run P w = .ok (.value x) w':=by
  obtain ⟨fn,h1,h2,h3,h4,h5⟩:=R.row
  unfold callFunc
  simp [h1,h2,h3,h4,h5,he]
theorem extRow_of {f : Nat} {e : Array Value → Sem Value} (h : (match P.funcs[f]? with | some fn=>fn.name != "runtime.NumGoroutine" && fn.body.isNone && (Extern.findNext fn).isNone | none=>false) = true) (h2 : (P.funcs[f]?).bind Extern.find = some e) : ExtRow P f e:=by
  cases hf : P.funcs[f]? with
  | none=>rw [hf] at h; cases h
  | some fn=>
    rw [hf] at h h2
    simp only [Bool.and_eq_true,bne_iff_ne,ne_eq,Option.isNone_iff_eq_none] at h
    exact ⟨⟨fn,hf,h.1.1,h.1.2,h.2,h2⟩⟩
def idxB (s : List UInt8) (c : UInt8) : Int:=if s.findIdx (· == c) < s.length then (s.findIdx (· == c) : Int) else -1
def cmpL : List UInt8 → List UInt8 → Int
  | [],[]=>0
  | [],_ :: _=>-1
  | _ :: _,[]=>1
  | a :: as,b :: bs=>if a < b then -1 else if b < a then 1 else cmpL as bs
theorem ba_get (s : List UInt8) (i : Nat) : (⟨s.toArray⟩ : ByteArray)[i]! = s.getD i 0:=by
  by_cases h : i < s.length
  · rw [getElem!_pos (⟨s.toArray⟩ : ByteArray) i h]
    show s.toArray[i] = _
    simp [h]
  · rw [getElem!_neg (⟨s.toArray⟩ : ByteArray) i h]
    simp [Nat.not_lt.1 h]
    rfl
theorem find_idx (s : List UInt8) (c : UInt8) : (match (List.range (⟨s.toArray⟩ : ByteArray).size).find? fun i=>(⟨s.toArray⟩ : ByteArray)[i]! == c with
    | some i=>(i : Int)
    | none=>-1) = idxB s c:=by
  have hsz : (⟨s.toArray⟩ : ByteArray).size = s.length:=rfl
  have hget : ∀ i,i < s.length → (⟨s.toArray⟩ : ByteArray)[i]! = s.getD i 0:=by
    intro i hi
    exact ba_get s i
  unfold idxB
  rw [hsz]
  by_cases h : s.findIdx (· == c) < s.length
  · rw [if_pos h]
    have hf : (List.range s.length).find? (fun i=>(⟨s.toArray⟩ : ByteArray)[i]! == c) = some (s.findIdx (· == c)):=by
      rw [List.find?_eq_some_iff_getElem]
      refine ⟨?_,s.findIdx (· == c),by simpa using h,by simp,fun j hj=>?_⟩
      · rw [hget _ h]
        have:=List.findIdx_getElem (w:=h)
        simpa [h] using this
      · simp only [List.getElem_range]
        have hj' : j < s.length:=by omega
        rw [hget _ hj']
        have:=List.not_of_lt_findIdx hj
        simpa [hj'] using this
    rw [hf]
  · rw [if_neg h]
    have hf : (List.range s.length).find? (fun i=>(⟨s.toArray⟩ : ByteArray)[i]! == c) = none:=by
      rw [List.find?_eq_none]
      intro i hi
      rw [List.mem_range] at hi
      rw [hget _ hi]
      intro hc
      exact h (List.findIdx_lt_length_of_exists ⟨s[i],List.getElem_mem hi,by simpa [hi] using hc⟩)
    rw [hf]
theorem cmp_cmpL : ∀ (a b : List UInt8),Extern.BytealgCompare.cmp ⟨a.toArray⟩ ⟨b.toArray⟩ = cmpL a b:=by
  have key : ∀ (a b : List UInt8),(match (List.range (min a.length b.length)).find? fun i=>a.getD i 0 != b.getD i 0 with
      | some i=>if a.getD i 0 < b.getD i 0 then (-1 : Int) else 1
      | none=>if a.length < b.length then -1 else if a.length > b.length then 1 else 0) = cmpL a b:=by
    intro a
    induction a with
    | nil=>intro b; cases b <;> simp [cmpL]
    | cons x a ih=>
      intro b
      cases b with
      | nil=>simp [cmpL]
      | cons y b=>
        have hm : min (x :: a).length (y :: b).length = min a.length b.length + 1:=by simp only [List.length_cons]; omega
        rw [hm,List.range_succ_eq_map,List.find?_cons]
        simp only [List.getD_cons_zero]
        by_cases hxy : x = y
        · subst hxy
          have hlt : ¬ x < x:=UInt8.lt_irrefl x
          simp only [bne_self_eq_false,List.find?_map,cmpL,hlt,if_false]
          rw [← ih b]
          have hc : ((fun i=>(x :: a).getD i 0 != (x :: b).getD i 0) ∘ Nat.succ) = fun i=>a.getD i 0 != b.getD i 0:=by
            funext i; simp
          rw [hc]
          cases (List.range (min a.length b.length)).find? fun i=>a.getD i 0 != b.getD i 0 with
          | none=>simp
          | some i=>simp
        · have : (x != y) = true := by simpa using hxy
          rw [this]
          simp only [cmpL,List.getD_cons_zero]
          by_cases h1 : x < y
          · simp [h1]
          · have h2 : y < x:=by
              rcases UInt8.lt_or_lt_of_ne (a:=x) (b:=y) hxy with h | h
              · exact absurd h h1
              · exact h
            simp [h1,h2]
  intro a b
  rw [← key a b]
  unfold Extern.BytealgCompare.cmp
  have sa : (⟨a.toArray⟩ : ByteArray).size = a.length:=rfl
  have sb : (⟨b.toArray⟩ : ByteArray).size = b.length:=rfl
  simp only [sa,sb,ba_get]
  generalize List.find? _ _ = q
  cases q <;> rfl
def extF (fi fc : Nat) (f : Nat) (vs : List PV) : Option PV:=
  bif Nat.beq f fi then (match vs with
    | [.str s,.int .u8 c]=>some (.int .i64 (idxB s (UInt8.ofNat c.toNat)))
    | _=>none)
  else bif Nat.beq f fc then (match vs with
    | [.str a,.str b]=>some (.int .i64 (cmpL a b))
    | _=>none)
  else none
theorem extF_ok {fi fc : Nat} (h1 : ExtRow P fi Extern.BytealgIndexByte.indexByte) (h2 : ExtRow P fc Extern.BytealgCompare.compare) {f : Nat} {vs : List PV} {r : PV} (h : extF fi fc f vs = some r) : ExtOk P f vs r:=by
  intro M w us hM hl hr
  unfold extF at h
  cases e1 : Nat.beq f fi with
  | true=>
    rw [e1] at h
    have e:=Nat.eq_of_beq_eq_true e1
    subst e
    simp only [cond_true] at h
    split at h
    · rename_i s c
      injection h with h
      subst h
      match us,hl with
      | [u,v],_=>
        have q1:=hr 0 _ u rfl rfl
        have q2:=hr 1 _ v rfl rfl
        cases q1; cases q2
        refine ⟨.int .i64 (idxB s (UInt8.ofNat c.toNat)),w,h1.run ?_,WExt.refl w,.int _ _⟩
        rw [← find_idx]
        show (match (List.range (⟨s.toArray⟩ : ByteArray).size).find? fun i=>(⟨s.toArray⟩ : ByteArray)[i]! == UInt8.ofNat c.toNat with | some i=>(pure (goInt i) : Sem Value) | none=>pure (goInt (-1))).run P w = _
        generalize List.find? _ _ = q
        cases q <;> rfl
    · cases h
  | false=>
    rw [e1] at h
    simp only [cond_false] at h
    cases e2 : Nat.beq f fc with
    | true=>
      rw [e2] at h
      have e:=Nat.eq_of_beq_eq_true e2
      subst e
      simp only [cond_true] at h
      split at h
      · rename_i a b
        injection h with h
        subst h
        match us,hl with
        | [u,v],_=>
          have q1:=hr 0 _ u rfl rfl
          have q2:=hr 1 _ v rfl rfl
          cases q1; cases q2
          refine ⟨.int .i64 (cmpL a b),w,h2.run ?_,WExt.refl w,.int _ _⟩
          rw [← cmp_cmpL]
          rfl
      · cases h
    | false=>rw [e2] at h; cases h
theorem ext_call {X : Ctx} {f : Nat} {as : List AV} {vs : List PV} {h h1 : Heap} {r : PV} {K : Post} (hf : X.fn f = none) (h2 : X.ex2 f as h = none) (hp : puras h as = some (vs.map .p,h1)) (hu : unp (vs.map AV.p) = some vs) (hx : X.ext f vs = some r) : ACall X f as h K = K (.p r) h1 []:=by
  refine propext (ACall.eq (ACall.fold ?_) K)
  unfold Step
  simp only [hf,h2,hp,hu,hx]
  exact ⟨trivial,trivial,trivial⟩
structure GrowRow (P : Program) (f : Nat) (sh : Sh) : Prop where
  enter : ∀ us w,(callFunc f us).run P w = .ok (.enter f us) w
  room : ∀ a w,Calls P f #[.slice a 0 0,.int .i64 0] w fun e w'=>e = .returned (.slice a 0 0) ∧ w' = w
  grow : ∀ a (n : Nat) w,0 < n → n ≤ 1048576 → Calls P f #[.slice a 0 0,.int .i64 n] w fun e w'=>∃ G cs E,e = .returned (.slice (some ⟨w.heap.size,0,none⟩) 0 G) ∧ cs.size = G * shSize sh ∧ w' = w.drew.alloc (.cells cs E)
def growF : List (Nat × Sh) → Nat → List AV → Heap → Option (AV × Heap × Esc)
  | [],_,_,_=>none
  | (g,sh) :: r,f,as,h=>bif Nat.beq f g then (match as with
    | [.sl0 _,.p (.int .i64 n)]=>bif decide (0 ≤ n) && decide (n ≤ 1048576) then some (.own h.length 0 0 0,h ++ [.row sh [] 0],[]) else none
    | _=>none) else growF r f as h
theorem growF_ok {gl : Nat → Option PV} : ∀ (gs : List (Nat × Sh)),(∀ g sh,(g,sh) ∈ gs → GrowRow P g sh) → ∀ {f : Nat} {as : List AV} {h : Heap} {v : AV} {h' : Heap} {x : Esc},growF gs f as h = some (v,h',x) →
    CallOk P gl f as h fun v1 h1 x1=>v1 = v ∧ h1 = h' ∧ x1 = x
  | [],_,f,as,h,v,h',x,H=>by cases H
  | (g,sh) :: r,hg,f,as,h,v,h',x,H=>by
    unfold growF at H
    cases e1 : Nat.beq f g with
    | false=>
      rw [e1] at H
      exact growF_ok r (fun g sh hm=>hg g sh (by simp [hm])) H
    | true=>
      rw [e1] at H
      have e:=Nat.eq_of_beq_eq_true e1
      subst e
      have R:=hg f sh (by simp)
      simp only [cond_true] at H
      split at H
      · rename_i sh' n
        cases hb : (decide (0 ≤ n) && decide (n ≤ 1048576)) with
        | false=>rw [hb] at H; cases H
        | true=>
          rw [hb] at H
          simp only [cond_true,Option.some.injEq,Prod.mk.injEq] at H
          obtain ⟨rfl,rfl,rfl⟩:=H
          simp only [Bool.and_eq_true,decide_eq_true_eq] at hb
          intro μ w vs Hh Hg hl hr
          match vs,hl with
          | [u1,u2],_=>
            have q1:=hr 0 _ u1 rfl rfl
            have q2:=(hr 1 _ u2 rfl rfl).p_inv
            cases q1
            cases q2
            obtain ⟨m,hm⟩:=Int.eq_ofNat_of_zero_le hb.1
            subst hm
            refine .inl ⟨R.enter _,?_⟩
            rcases Nat.eq_zero_or_pos m with h0 | h0
            · subst h0
              refine (R.room _ w).mono fun e w' he=>?_
              obtain ⟨rfl,rfl⟩:=he
              obtain ⟨n1,n2⟩:=newNil Hh sh
              refine ⟨_,_,_,_,⟨rfl,rfl,rfl⟩,?_,n1,n2,EscInv.push (by simp [Obj.top])⟩
              exact .own h.length 0 0 0 _ 0 sh [] 0 none (Nat.le_refl _) (by simp) (by rw [← Hh.len]; simp) (by simp) (by simp) (fun _=>rfl)
            · refine (R.grow _ m w h0 (by omega)).mono fun e w' he => ?_
              obtain ⟨G,cs,E,rfl,hcs,rfl⟩:=he
              have hw : WExt w (w.drew.alloc (.cells cs E)):=(WExt.drew w _).trans (WExt.push _ _)
              obtain ⟨n1,n2⟩:=newRow' (sh:=sh) (xs:=[]) Hh hw (b:=w.heap.size) (n:=cs.size) (Nat.le_refl _) (by show w.heap.size < (w.heap.push _).size; simp) (c:=cs) (Block.push (w:=w.drew) cs E) (by simp) (by simp) (by simp)
              refine ⟨_,_,_,_,⟨rfl,rfl,rfl⟩,?_,n1,n2,EscInv.push (by simp [Obj.top])⟩
              refine .own h.length 0 0 0 _ G sh [] 0 (some (w.heap.size,cs.size)) (Nat.zero_le _) (by simp) (by rw [← Hh.len]; simp) (by simp) (by simp) (fun _=>?_)
              exact .inr ⟨by simp,by simp [hcs]⟩
      · cases H
end Go.Am
end
section
/- The functions as abstract code,and as formulas over their values: printed by program out of the translation. -/
set_option linter.unusedVariables false
set_option maxRecDepth 100000
namespace Go.Am
def p_q047_k1 : ACode:=.pr [7,8,9,10,11,12,13,14,15,16,17,18,19,20] (.seq (.reg [
  ⟨some 85,none,.mv (.t 8)⟩,
  ⟨some 86,none,.mv (.t 16)⟩,
  ⟨some 87,none,.bin .eql (.t 85) (.t 86)⟩,
  ⟨some 88,none,.mv (.t 87)⟩,
  ⟨some 89,(some (88,true)),.mv (.t 7)⟩,
  ⟨some 90,(some (88,true)),.mv (.t 17)⟩,
  ⟨some 91,(some (88,true)),.call f_q069 [(.t 89),(.t 90)]⟩,
  ⟨some 92,none,.pick (.t 88) (.t 91) (.c (.p (.bool false)))⟩,
  ⟨some 93,none,.mv (.t 92)⟩,
  ⟨some 94,(some (93,true)),.mv (.t 10)⟩,
  ⟨some 95,(some (93,true)),.mv (.t 16)⟩,
  ⟨some 96,(some (93,true)),.bin .eql (.t 94) (.t 95)⟩,
  ⟨some 97,none,.pick (.t 93) (.t 96) (.c (.p (.bool false)))⟩,
  ⟨some 98,none,.mv (.t 97)⟩,
  ⟨some 99,(some (98,true)),.mv (.t 9)⟩,
  ⟨some 100,(some (98,true)),.mv (.t 18)⟩,
  ⟨some 101,(some (98,true)),.call f_q069 [(.t 99),(.t 100)]⟩,
  ⟨some 102,none,.pick (.t 98) (.t 101) (.c (.p (.bool false)))⟩,
  ⟨some 103,none,.mv (.t 102)⟩,
  ⟨some 104,(some (103,true)),.mv (.t 12)⟩,
  ⟨some 105,(some (103,true)),.mv (.t 15)⟩,
  ⟨some 106,(some (103,true)),.bin .eql (.t 104) (.t 105)⟩,
  ⟨some 107,none,.pick (.t 103) (.t 106) (.c (.p (.bool false)))⟩,
  ⟨some 108,none,.mv (.t 107)⟩,
  ⟨some 109,(some (108,true)),.mv (.t 11)⟩,
  ⟨some 110,(some (108,true)),.mv (.t 20)⟩,
  ⟨some 111,(some (108,true)),.call f_q06b [(.t 109),(.t 110)]⟩,
  ⟨some 112,none,.pick (.t 108) (.t 111) (.c (.p (.bool false)))⟩,
  ⟨some 113,none,.mv (.t 112)⟩,
  ⟨some 114,(some (113,true)),.mv (.t 14)⟩,
  ⟨some 115,(some (113,true)),.mv (.t 15)⟩,
  ⟨some 116,(some (113,true)),.bin .eql (.t 114) (.t 115)⟩,
  ⟨some 117,none,.pick (.t 113) (.t 116) (.c (.p (.bool false)))⟩,
  ⟨some 118,none,.mv (.t 117)⟩,
  ⟨some 119,(some (118,true)),.mv (.t 13)⟩,
  ⟨some 120,(some (118,true)),.mv (.t 19)⟩,
  ⟨some 121,(some (118,true)),.call f_q069 [(.t 119),(.t 120)]⟩,
  ⟨some 122,none,.pick (.t 118) (.t 121) (.c (.p (.bool false)))⟩,
  ⟨some 123,none,.mv (.t 122)⟩,
  ⟨some 124,(some (123,true)),.call f_q049 []⟩,
  ⟨some 125,none,.pick (.t 123) (.t 124) (.c (.p (.bool false)))⟩,
  ⟨some 2,none,.mv (.t 125)⟩] (some [2]))
 .ret)
def d_q047_k1 (C : Hd) (gl : Nat → Option PV) (v7 v8 v9 v10 v11 v12 v13 v14 v15 v16 v17 v18 v19 v20 : AV) (h : Heap) (x : Esc) (K : Ex → St → Prop) : Prop:=
 pK (oBin .eql v8 v16) fun t1=>
 gM t1 true v7 h fun t2 h3 y4=>
 gM t1 true v17 h3 fun t5 h6 y7=>
 gV t1 true h6 (C f_q069 [t2,t5] h6) fun t8 h9 y10=>
 pK (oPick t1 t8 (.p (.bool false))) fun t11=>
 gM t11 true v10 h9 fun t12 h13 y14=>
 gM t11 true v16 h13 fun t15 h16 y17=>
 gP t11 true (oBin .eql t12 t15) h16 fun t18 h19 y20=>
 pK (oPick t11 t18 (.p (.bool false))) fun t21=>
 gM t21 true v9 h19 fun t22 h23 y24=>
 gM t21 true v18 h23 fun t25 h26 y27=>
 gV t21 true h26 (C f_q069 [t22,t25] h26) fun t28 h29 y30=>
 pK (oPick t21 t28 (.p (.bool false))) fun t31=>
 gM t31 true v12 h29 fun t32 h33 y34=>
 gM t31 true v15 h33 fun t35 h36 y37=>
 gP t31 true (oBin .eql t32 t35) h36 fun t38 h39 y40=>
 pK (oPick t31 t38 (.p (.bool false))) fun t41=>
 gM t41 true v11 h39 fun t42 h43 y44=>
 gM t41 true v20 h43 fun t45 h46 y47=>
 gV t41 true h46 (C f_q06b [t42,t45] h46) fun t48 h49 y50=>
 pK (oPick t41 t48 (.p (.bool false))) fun t51=>
 gM t51 true v14 h49 fun t52 h53 y54=>
 gM t51 true v15 h53 fun t55 h56 y57=>
 gP t51 true (oBin .eql t52 t55) h56 fun t58 h59 y60=>
 pK (oPick t51 t58 (.p (.bool false))) fun t61=>
 gM t61 true v13 h59 fun t62 h63 y64=>
 gM t61 true v19 h63 fun t65 h66 y67=>
 gV t61 true h66 (C f_q069 [t62,t65] h66) fun t68 h69 y70=>
 pK (oPick t61 t68 (.p (.bool false))) fun t71=>
 gV t71 true h69 (C f_q049 [] h69) fun t72 h73 y74=>
 pK (oPick t71 t72 (.p (.bool false))) fun t75=>
 K .ret ⟨[(2,t75)],h73,(y74 ++ (y70 ++ (y67 ++ (y64 ++ (y60 ++ (y57 ++ (y54 ++ (y50 ++ (y47 ++ (y44 ++ (y40 ++ (y37 ++ (y34 ++ (y30 ++ (y27 ++ (y24 ++ (y20 ++ (y17 ++ (y14 ++ (y10 ++ (y7 ++ (y4 ++ x))))))))))))))))))))))⟩
theorem e_q047_k1 {C gl e h x K} : NW C gl p_q047_k1 ⟨e,h,x⟩ K = d_q047_k1 C gl (aget e 7) (aget e 8) (aget e 9) (aget e 10) (aget e 11) (aget e 12) (aget e 13) (aget e 14) (aget e 15) (aget e 16) (aget e 17) (aget e 18) (aget e 19) (aget e 20) h x K:=by kernel_rfl
def P_q047_k2 (q1 : ACode) : ACode:=.pr [4,5,7,8,9,10,11,12,13,14,15,16,17,18,19,20] (.seq (.seq (.reg [
  ⟨some 77,none,.mv (.t 15)⟩,
  ⟨some 78,none,.bin .eql (.t 77) (.c (.p (.int .i64 0)))⟩] (some [4,5,7,8,9,10,11,12,13,14,15,16,17,18,19,20,78]))
 (.cond (.t 78) (.reg [
  ⟨some 79,none,.mv (.t 4)⟩,
  ⟨some 80,none,.mv (.t 5)⟩,
  ⟨some 81,none,.call f_q057 [(.t 79),(.t 80)]⟩,
  ⟨some 82,none,.mv (.t 4)⟩,
  ⟨some 83,none,.mv (.t 5)⟩,
  ⟨some 84,none,.call f_q04s [(.t 82),(.t 83)]⟩,
  ⟨some 20,none,.mv (.t 81)⟩,
  ⟨some 19,none,.mv (.t 84)⟩] (some [7,8,9,10,11,12,13,14,15,16,17,18,19,20]))
 .skip))
 q1)
def p_q047_k2 : ACode:=P_q047_k2 p_q047_k1
def d_q047_k2 (C : Hd) (gl : Nat → Option PV) (q1 : ACode) (v4 v5 v7 v8 v9 v10 v11 v12 v13 v14 v15 v16 v17 v18 v19 v20 : AV) (h : Heap) (x : Esc) (K : Ex → St → Prop) : Prop:=
 pK (oBin .eql v15 (.p (.int .i64 0))) fun t1=>
 condB t1 (C f_q057 [v4,v5] h fun t2 h3 y4=>
 C f_q04s [v4,v5] h3 fun t5 h6 y7=>
 NW C gl q1 ⟨[(7,v7),(8,v8),(9,v9),(10,v10),(11,v11),(12,v12),(13,v13),(14,v14),(15,v15),(16,v16),(17,v17),(18,v18),(19,t5),(20,t2)],h6,(y7 ++ (y4 ++ x))⟩ K)
 (NW C gl q1 ⟨[(4,v4),(5,v5),(7,v7),(8,v8),(9,v9),(10,v10),(11,v11),(12,v12),(13,v13),(14,v14),(15,v15),(16,v16),(17,v17),(18,v18),(19,v19),(20,v20),(78,t1)],h,x⟩ K)
theorem E_q047_k2 {C gl q1 e h x K} : NW C gl (P_q047_k2 q1) ⟨e,h,x⟩ K = d_q047_k2 C gl q1 (aget e 4) (aget e 5) (aget e 7) (aget e 8) (aget e 9) (aget e 10) (aget e 11) (aget e 12) (aget e 13) (aget e 14) (aget e 15) (aget e 16) (aget e 17) (aget e 18) (aget e 19) (aget e 20) h x K:=by kernel_rfl
theorem e_q047_k2 {C gl e h x K} : NW C gl p_q047_k2 ⟨e,h,x⟩ K = d_q047_k2 C gl p_q047_k1 (aget e 4) (aget e 5) (aget e 7) (aget e 8) (aget e 9) (aget e 10) (aget e 11) (aget e 12) (aget e 13) (aget e 14) (aget e 15) (aget e 16) (aget e 17) (aget e 18) (aget e 19) (aget e 20) h x K:=E_q047_k2
def P_q047 (q2 : ACode) : ACode:=(.seq (.reg [
  ⟨some 2,none,.mv (.c (.p (.bool false)))⟩] (some [0]))
 (.seq (.reg [
  ⟨some 21,none,.mv (.t 0)⟩,
  ⟨some 22,none,.build [.sl0 none,.p (.int .i64 0)] [(0,1,(.t 21))]⟩,
  ⟨some 23,none,.box (.t 22)⟩,
  ⟨some 3,none,.mv (.t 23)⟩] (some [3]))
 (.seq (.reg [
  ⟨some 24,none,.mv (.t 3)⟩,
  ⟨some 25,none,.call f_q04e [(.t 24)]⟩,
  ⟨some 4,none,.mv (.t 25)⟩] (some [3,4]))
 (.seq (.reg [
  ⟨some 26,none,.mv (.t 3)⟩,
  ⟨some 27,none,.mv (.t 4)⟩,
  ⟨some 28,none,.mv (.t 3)⟩,
  ⟨some 29,none,.call f_q04i [(.t 28),(.c (.p (.int .i64 0))),(.c (.p (.int .i64 12)))]⟩,
  ⟨some 30,none,.call f_q04k [(.t 26),(.t 27),(.t 29)]⟩,
  ⟨some 31,none,.mv (.t 3)⟩,
  ⟨some 32,none,.call f_q04g [(.t 31),(.c (.p (.int .i64 1))),(.c (.p (.int .i64 3)))]⟩,
  ⟨some 5,none,.mv (.t 30)⟩,
  ⟨some 6,none,.mv (.t 32)⟩] (some [4,5,6]))
 (.seq (.reg [
  ⟨some 34,none,.mv (.t 4)⟩,
  ⟨some 35,none,.mv (.t 5)⟩,
  ⟨some 36,none,.mv (.t 6)⟩,
  ⟨some 37,none,.call f_q027 [(.t 34),(.t 35),(.t 36)]⟩,
  ⟨some 33,none,.mv (.t 37)⟩,
  ⟨some 38,none,.ext (.t 33) 0⟩,
  ⟨some 39,none,.ext (.t 33) 1⟩,
  ⟨some 7,none,.mv (.t 38)⟩,
  ⟨some 8,none,.mv (.t 39)⟩] (some [4,5,6,7,8]))
 (.seq (.reg [
  ⟨some 41,none,.mv (.t 4)⟩,
  ⟨some 42,none,.mv (.t 5)⟩,
  ⟨some 43,none,.mv (.t 6)⟩,
  ⟨some 44,none,.call f_q02f [(.t 41),(.t 42),(.t 43)]⟩,
  ⟨some 40,none,.mv (.t 44)⟩,
  ⟨some 45,none,.ext (.t 40) 0⟩,
  ⟨some 46,none,.ext (.t 40) 1⟩,
  ⟨some 9,none,.mv (.t 45)⟩,
  ⟨some 10,none,.mv (.t 46)⟩] (some [4,5,6,7,8,9,10]))
 (.seq (.reg [
  ⟨some 48,none,.mv (.t 4)⟩,
  ⟨some 49,none,.mv (.t 5)⟩,
  ⟨some 50,none,.call f_q02j [(.t 48),(.t 49)]⟩,
  ⟨some 47,none,.mv (.t 50)⟩,
  ⟨some 51,none,.ext (.t 47) 0⟩,
  ⟨some 52,none,.ext (.t 47) 1⟩,
  ⟨some 11,none,.mv (.t 51)⟩,
  ⟨some 12,none,.mv (.t 52)⟩] (some [4,5,6,7,8,9,10,11,12]))
 (.seq (.reg [
  ⟨some 54,none,.mv (.t 4)⟩,
  ⟨some 55,none,.mv (.t 5)⟩,
  ⟨some 56,none,.call f_q028 [(.t 54),(.t 55)]⟩,
  ⟨some 53,none,.mv (.t 56)⟩,
  ⟨some 57,none,.ext (.t 53) 0⟩,
  ⟨some 58,none,.ext (.t 53) 1⟩,
  ⟨some 13,none,.mv (.t 57)⟩,
  ⟨some 14,none,.mv (.t 58)⟩] (some [4,5,6,7,8,9,10,11,12,13,14]))
 (.seq (.reg [
  ⟨some 59,none,.mv (.t 4)⟩,
  ⟨some 60,none,.mv (.t 5)⟩,
  ⟨some 61,none,.call f_q054 [(.t 59),(.t 60)]⟩,
  ⟨some 15,none,.mv (.t 61)⟩] (some [4,5,6,7,8,9,10,11,12,13,14,15]))
 (.seq (.reg [
  ⟨some 62,none,.mv (.t 15)⟩,
  ⟨some 63,none,.mv (.t 6)⟩,
  ⟨some 64,none,.call f_q059 [(.t 63)]⟩,
  ⟨some 65,none,.bsl false none 2 (.int .i64 0) [(0,(.t 62)),(1,(.t 64))]⟩,
  ⟨some 66,none,.call f_q04a [(.t 65)]⟩,
  ⟨some 16,none,.mv (.t 66)⟩] (some [4,5,6,7,8,9,10,11,12,13,14,15,16]))
 (.seq (.reg [
  ⟨some 17,none,.mv (.c (.p (.sl (some 2) [])))⟩,
  ⟨some 18,none,.mv (.c (.p (.sl (some 2) [])))⟩,
  ⟨some 19,none,.mv (.c (.p (.sl (some 2) [])))⟩] (some [4,5,6,7,8,9,10,11,12,13,14,15,16,17,18,19]))
 (.seq (.reg [
  ⟨some 20,none,.mv (.c (.p (.sl none [])))⟩] (some [4,5,6,7,8,9,10,11,12,13,14,15,16,17,18,19,20]))
 (.seq (.seq (.reg [
  ⟨some 67,none,.mv (.t 16)⟩,
  ⟨some 68,none,.bin .eql (.t 67) (.c (.p (.int .i64 0)))⟩] (some [4,5,6,7,8,9,10,11,12,13,14,15,16,17,18,19,20,68]))
 (.cond (.t 68) (.reg [
  ⟨some 69,none,.mv (.t 4)⟩,
  ⟨some 70,none,.mv (.t 5)⟩,
  ⟨some 71,none,.mv (.t 6)⟩,
  ⟨some 72,none,.call f_q04r [(.t 69),(.t 70),(.t 71)]⟩,
  ⟨some 73,none,.mv (.t 4)⟩,
  ⟨some 74,none,.mv (.t 5)⟩,
  ⟨some 75,none,.mv (.t 6)⟩,
  ⟨some 76,none,.call f_q052 [(.t 73),(.t 74),(.t 75)]⟩,
  ⟨some 17,none,.mv (.t 72)⟩,
  ⟨some 18,none,.mv (.t 76)⟩] (some [4,5,7,8,9,10,11,12,13,14,15,16,17,18,19,20]))
 .skip))
 q2)))))))))))))
def a_q047 : AFun:=⟨1,[.t 2],P_q047 p_q047_k2,false,false⟩
def d_q047 (C : Hd) (gl : Nat → Option PV) (q2 : ACode) (v0 : AV) (h : Heap) (x : Esc) (K : Ex → St → Prop) : Prop:=
 pK (oBuild [.sl0 none,.p (.int .i64 0)] [(0,1,v0)]) fun t1=>
 wK (oBox t1 h) fun t2 h3 y4=>
 C f_q04e [t2] h3 fun t5 h6 y7=>
 C f_q04i [t2,(.p (.int .i64 0)),(.p (.int .i64 12))] h6 fun t8 h9 y10=>
 C f_q04k [t2,t5,t8] h9 fun t11 h12 y13=>
 C f_q04g [t2,(.p (.int .i64 1)),(.p (.int .i64 3))] h12 fun t14 h15 y16=>
 C f_q027 [t5,t11,t14] h15 fun t17 h18 y19=>
 pK (oExt t17 0) fun t20=>
 pK (oExt t17 1) fun t21=>
 C f_q02f [t5,t11,t14] h18 fun t22 h23 y24=>
 pK (oExt t22 0) fun t25=>
 pK (oExt t22 1) fun t26=>
 C f_q02j [t5,t11] h23 fun t27 h28 y29=>
 pK (oExt t27 0) fun t30=>
 pK (oExt t27 1) fun t31=>
 C f_q028 [t5,t11] h28 fun t32 h33 y34=>
 pK (oExt t32 0) fun t35=>
 pK (oExt t32 1) fun t36=>
 C f_q054 [t5,t11] h33 fun t37 h38 y39=>
 C f_q059 [t14] h38 fun t40 h41 y42=>
 wK (oBsl false none 2 (.int .i64 0) [(0,t37),(1,t40)] h41) fun t43 h44 y45=>
 C f_q04a [t43] h44 fun t46 h47 y48=>
 pK (oBin .eql t46 (.p (.int .i64 0))) fun t49=>
 condB t49 (C f_q04r [t5,t11,t14] h47 fun t50 h51 y52=>
 C f_q052 [t5,t11,t14] h51 fun t53 h54 y55=>
 NW C gl q2 ⟨[(4,t5),(5,t11),(7,t20),(8,t21),(9,t25),(10,t26),(11,t30),(12,t31),(13,t35),(14,t36),(15,t37),(16,t46),(17,t50),(18,t53),(19,(.p (.sl (some 2) []))),(20,(.p (.sl none [])))],h54,(y55 ++ (y52 ++ (y48 ++ (y45 ++ (y42 ++ (y39 ++ (y34 ++ (y29 ++ (y24 ++ (y19 ++ (y16 ++ (y13 ++ (y10 ++ (y7 ++ (y4 ++ x)))))))))))))))⟩ K)
 (NW C gl q2 ⟨[(4,t5),(5,t11),(6,t14),(7,t20),(8,t21),(9,t25),(10,t26),(11,t30),(12,t31),(13,t35),(14,t36),(15,t37),(16,t46),(17,(.p (.sl (some 2) []))),(18,(.p (.sl (some 2) []))),(19,(.p (.sl (some 2) []))),(20,(.p (.sl none []))),(68,t49)],h47,(y48 ++ (y45 ++ (y42 ++ (y39 ++ (y34 ++ (y29 ++ (y24 ++ (y19 ++ (y16 ++ (y13 ++ (y10 ++ (y7 ++ (y4 ++ x)))))))))))))⟩ K)
theorem E_q047 {C gl q2 v0 h x K} : NW C gl (P_q047 q2) ⟨enter [v0],h,x⟩ K = d_q047 C gl q2 v0 h x K:=by kernel_rfl
theorem e_q047 {C gl v0 h x K} : NW C gl a_q047.body ⟨enter [v0],h,x⟩ K = d_q047 C gl p_q047_k2 v0 h x K:=E_q047
def p_q04e_k1 : ACode:=.pr [3] (.seq (.reg [
  ⟨some 34,none,.mv (.t 3)⟩,
  ⟨some 2,none,.mv (.t 34)⟩] (some [2]))
 .ret)
def d_q04e_k1 (C : Hd) (gl : Nat → Option PV) (v3 : AV) (h : Heap) (x : Esc) (K : Ex → St → Prop) : Prop:=
 K .ret ⟨[(2,v3)],h,x⟩
theorem e_q04e_k1 {C gl e h x K} : NW C gl p_q04e_k1 ⟨e,h,x⟩ K = d_q04e_k1 C gl (aget e 3) h x K:=by kernel_rfl
def P_q04e (q1 : ACode) : ACode:=(.seq (.reg [
  ⟨some 2,none,.mv (.c (.p (.sl (some 4) [])))⟩] (some [0]))
 (.seq (.reg [
  ⟨some 4,none,.build [.p (.str []),.p (.int .i64 0),.p (.int .i64 0),.p (.int .i64 0)] [(0,1,(.c (.p (.str [118,111,108,116])))),(2,1,(.c (.p (.int .i64 10)))),(3,1,(.c (.p (.int .i64 5))))]⟩,
  ⟨some 5,none,.mv (.t 0)⟩,
  ⟨some 6,none,.bsl false none 3 (.int .i64 0) [(0,(.c (.p (.int .i64 5)))),(1,(.c (.p (.int .i64 6)))),(2,(.c (.p (.int .i64 2))))]⟩,
  ⟨some 7,none,.call f_q04h [(.t 5),(.t 6)]⟩,
  ⟨some 8,none,.build [.p (.str []),.p (.int .i64 0),.p (.int .i64 0),.p (.int .i64 0)] [(0,1,(.c (.p (.str [97,109,112])))),(1,1,(.c (.p (.int .i64 (-5))))),(2,1,(.c (.p (.int .i64 5)))),(3,1,(.t 7))]⟩,
  ⟨some 9,none,.build [.p (.str []),.p (.int .i64 0),.p (.int .i64 0),.p (.int .i64 0)] [(0,1,(.c (.p (.str [104,122])))),(1,1,(.c (.p (.int .i64 3)))),(2,1,(.c (.p (.int .i64 8)))),(3,1,(.c (.p (.int .i64 9))))]⟩,
  ⟨some 10,none,.bsl true (some 4) 3 (.agg [.str [],.int .i64 0,.int .i64 0,.int .i64 0]) [(0,(.t 4)),(1,(.t 8)),(2,(.t 9))]⟩,
  ⟨some 11,none,.mv (.t 0)⟩,
  ⟨some 12,none,.call f_q04i [(.t 11),(.c (.p (.int .i64 1))),(.c (.p (.int .i64 3)))]⟩,
  ⟨some 13,none,.slice (some 4) (.t 10) none (some (.t 12)) none⟩,
  ⟨some 3,none,.mv (.t 13)⟩] (some [0,3]))
 (.seq (.seq (.reg [
  ⟨some 14,none,.mv (.t 0)⟩,
  ⟨some 15,none,.call f_q04d [(.t 14),(.c (.p (.int .i64 15)))]⟩] (some [0,3,15]))
 (.cond (.t 15) (.reg [
  ⟨some 16,none,.mv (.t 3)⟩,
  ⟨some 17,none,.mv (.t 0)⟩,
  ⟨some 18,none,.mv (.t 3)⟩,
  ⟨some 19,none,.len (.t 18)⟩,
  ⟨some 20,none,.call f_q04f [(.t 17),(.t 19)]⟩,
  ⟨some 21,none,.mv (.t 0)⟩,
  ⟨some 22,none,.bsl false none 3 (.str []) [(0,(.c (.p (.str [118,111,108,116])))),(1,(.c (.p (.str [])))),(2,(.c (.p (.str [122]))))]⟩,
  ⟨some 23,none,.call f_q04p [(.t 21),(.t 22)]⟩,
  ⟨some 24,none,.mv (.t 0)⟩,
  ⟨some 25,none,.bsl false none 4 (.int .i64 0) [(0,(.c (.p (.int .i64 0)))),(1,(.c (.p (.int .i64 (-100000))))),(2,(.c (.p (.int .i64 (-100001))))),(3,(.c (.p (.int .i64 20))))]⟩,
  ⟨some 26,none,.call f_q04h [(.t 24),(.t 25)]⟩,
  ⟨some 27,none,.mv (.t 0)⟩,
  ⟨some 28,none,.bsl false none 3 (.int .i64 0) [(0,(.c (.p (.int .i64 10)))),(1,(.c (.p (.int .i64 100000)))),(2,(.c (.p (.int .i64 100001))))]⟩,
  ⟨some 29,none,.call f_q04h [(.t 27),(.t 28)]⟩,
  ⟨some 30,none,.mv (.t 0)⟩,
  ⟨some 31,none,.call f_q04g [(.t 30),(.c (.p (.int .i64 2))),(.c (.p (.int .i64 100)))]⟩,
  ⟨some 32,none,.build [.p (.str []),.p (.int .i64 0),.p (.int .i64 0),.p (.int .i64 0)] [(0,1,(.t 23)),(1,1,(.t 26)),(2,1,(.t 29)),(3,1,(.t 31))]⟩,
  ⟨some 33,none,.iaddr (some 4) (.t 16) (.t 20)⟩,
  ⟨none,none,.store (some 4) (.t 33) (.t 32)⟩] (some [3]))
 .skip))
 q1)))
def a_q04e : AFun:=⟨1,[.t 2],P_q04e p_q04e_k1,false,false⟩
def d_q04e (C : Hd) (gl : Nat → Option PV) (q1 : ACode) (v0 : AV) (h : Heap) (x : Esc) (K : Ex → St → Prop) : Prop:=
 pK (oBuild [.p (.str []),.p (.int .i64 0),.p (.int .i64 0),.p (.int .i64 0)] [(0,1,(.p (.str [118,111,108,116]))),(2,1,(.p (.int .i64 10))),(3,1,(.p (.int .i64 5)))]) fun t1=>
 wK (oBsl false none 3 (.int .i64 0) [(0,(.p (.int .i64 5))),(1,(.p (.int .i64 6))),(2,(.p (.int .i64 2)))] h) fun t2 h3 y4=>
 C f_q04h [v0,t2] h3 fun t5 h6 y7=>
 pK (oBuild [.p (.str []),.p (.int .i64 0),.p (.int .i64 0),.p (.int .i64 0)] [(0,1,(.p (.str [97,109,112]))),(1,1,(.p (.int .i64 (-5)))),(2,1,(.p (.int .i64 5))),(3,1,t5)]) fun t8=>
 pK (oBuild [.p (.str []),.p (.int .i64 0),.p (.int .i64 0),.p (.int .i64 0)] [(0,1,(.p (.str [104,122]))),(1,1,(.p (.int .i64 3))),(2,1,(.p (.int .i64 8))),(3,1,(.p (.int .i64 9)))]) fun t9=>
 wK (oBsl true (some 4) 3 (.agg [.str [],.int .i64 0,.int .i64 0,.int .i64 0]) [(0,t1),(1,t8),(2,t9)] h6) fun t10 h11 y12=>
 C f_q04i [v0,(.p (.int .i64 1)),(.p (.int .i64 3))] h11 fun t13 h14 y15=>
 pK (oSlice (some 4) t10 none (some t13) none h14) fun t16=>
 C f_q04d [v0,(.p (.int .i64 15))] h14 fun t17 h18 y19=>
 condB t17 (pK (oLen t16) fun t20=>
 C f_q04f [v0,t20] h18 fun t21 h22 y23=>
 wK (oBsl false none 3 (.str []) [(0,(.p (.str [118,111,108,116]))),(1,(.p (.str []))),(2,(.p (.str [122])))] h22) fun t24 h25 y26=>
 C f_q04p [v0,t24] h25 fun t27 h28 y29=>
 wK (oBsl false none 4 (.int .i64 0) [(0,(.p (.int .i64 0))),(1,(.p (.int .i64 (-100000)))),(2,(.p (.int .i64 (-100001)))),(3,(.p (.int .i64 20)))] h28) fun t30 h31 y32=>
 C f_q04h [v0,t30] h31 fun t33 h34 y35=>
 wK (oBsl false none 3 (.int .i64 0) [(0,(.p (.int .i64 10))),(1,(.p (.int .i64 100000))),(2,(.p (.int .i64 100001)))] h34) fun t36 h37 y38=>
 C f_q04h [v0,t36] h37 fun t39 h40 y41=>
 C f_q04g [v0,(.p (.int .i64 2)),(.p (.int .i64 100))] h40 fun t42 h43 y44=>
 pK (oBuild [.p (.str []),.p (.int .i64 0),.p (.int .i64 0),.p (.int .i64 0)] [(0,1,t27),(1,1,t33),(2,1,t39),(3,1,t42)]) fun t45=>
 pK (oIaddr (some 4) t16 t21 h43) fun t46=>
 wK (oStore (some 4) t46 t45 h43) fun t47 h48 y49=>
 NW C gl q1 ⟨[(3,t16)],h48,(y49 ++ (y44 ++ (y41 ++ (y38 ++ (y35 ++ (y32 ++ (y29 ++ (y26 ++ (y23 ++ (y19 ++ (y15 ++ (y12 ++ (y7 ++ (y4 ++ x))))))))))))))⟩ K)
 (NW C gl q1 ⟨[(0,v0),(3,t16),(15,t17)],h18,(y19 ++ (y15 ++ (y12 ++ (y7 ++ (y4 ++ x)))))⟩ K)
theorem E_q04e {C gl q1 v0 h x K} : NW C gl (P_q04e q1) ⟨enter [v0],h,x⟩ K = d_q04e C gl q1 v0 h x K:=by kernel_rfl
theorem e_q04e {C gl v0 h x K} : NW C gl a_q04e.body ⟨enter [v0],h,x⟩ K = d_q04e C gl p_q04e_k1 v0 h x K:=E_q04e
def p_q04k_k1 : ACode:=.pr [0,1,7,8,9,11,12,13,14,29,30,31] (.seq (.reg [
  ⟨some 71,none,.faddr 3 none (.t 9)⟩,
  ⟨some 72,none,.load none (.t 71)⟩,
  ⟨some 73,none,.mv (.t 12)⟩,
  ⟨some 74,none,.bsl false none 1 (.int .i64 0) [(0,(.t 73))]⟩,
  ⟨some 75,none,.app none (.t 72) (.t 74)⟩,
  ⟨some 76,none,.faddr 3 none (.t 9)⟩,
  ⟨none,none,.store none (.t 76) (.t 75)⟩] (some [0,1,7,8,9,11,12,13,14,29,30,31]))
 (.seq (.reg [
  ⟨some 77,none,.mv (.t 12)⟩,
  ⟨some 78,none,.faddr 1 none (.t 11)⟩,
  ⟨some 79,none,.load none (.t 78)⟩,
  ⟨some 80,none,.bin .lss (.t 77) (.t 79)⟩,
  ⟨some 81,none,.mv (.t 80)⟩,
  ⟨some 82,(some (81,false)),.mv (.t 12)⟩,
  ⟨some 83,(some (81,false)),.faddr 2 none (.t 11)⟩,
  ⟨some 84,(some (81,false)),.load none (.t 83)⟩,
  ⟨some 85,(some (81,false)),.bin .gtr (.t 82) (.t 84)⟩,
  ⟨some 86,none,.pick (.t 81) (.c (.p (.bool true))) (.t 85)⟩] (some [0,1,7,8,9,13,14,29,30,31,86]))
 (.cond (.t 86) (.exit 2)
 .skip)))
def d_q04k_k1 (C : Hd) (gl : Nat → Option PV) (v0 v1 v7 v8 v9 v11 v12 v13 v14 v29 v30 v31 : AV) (h : Heap) (x : Esc) (K : Ex → St → Prop) : Prop:=
 pK (oFaddr 3 none v9) fun t1=>
 pK (oLoad none t1 h) fun t2=>
 wK (oBsl false none 1 (.int .i64 0) [(0,v12)] h) fun t3 h4 y5=>
 wK (oApp none t2 t3 h4) fun t6 h7 y8=>
 pK (oFaddr 3 none v9) fun t9=>
 wK (oStore none t9 t6 h7) fun t10 h11 y12=>
 pK (oFaddr 1 none v11) fun t13=>
 pK (oLoad none t13 h11) fun t14=>
 pK (oBin .lss v12 t14) fun t15=>
 gM t15 false v12 h11 fun t16 h17 y18=>
 gP t15 false (oFaddr 2 none v11) h17 fun t19 h20 y21=>
 gP t15 false (oLoad none t19 h20) h20 fun t22 h23 y24=>
 gP t15 false (oBin .gtr t16 t22) h23 fun t25 h26 y27=>
 pK (oPick t15 (.p (.bool true)) t25) fun t28=>
 condB t28 (K (.exit 2) ⟨[(0,v0),(1,v1),(7,v7),(8,v8),(9,v9),(13,v13),(14,v14),(29,v29),(30,v30),(31,v31),(86,t28)],h26,(y27 ++ (y24 ++ (y21 ++ (y18 ++ (y12 ++ (y8 ++ (y5 ++ x)))))))⟩)
 (K .normal ⟨[(0,v0),(1,v1),(7,v7),(8,v8),(9,v9),(13,v13),(14,v14),(29,v29),(30,v30),(31,v31),(86,t28)],h26,(y27 ++ (y24 ++ (y21 ++ (y18 ++ (y12 ++ (y8 ++ (y5 ++ x)))))))⟩)
theorem e_q04k_k1 {C gl e h x K} : NW C gl p_q04k_k1 ⟨e,h,x⟩ K = d_q04k_k1 C gl (aget e 0) (aget e 1) (aget e 7) (aget e 8) (aget e 9) (aget e 11) (aget e 12) (aget e 13) (aget e 14) (aget e 29) (aget e 30) (aget e 31) h x K:=by kernel_rfl
def p_q04k_k2 : ACode:=.pr [0,1,7,8,9,13,14,29,30,31] (.reg [
  ⟨some 87,none,.bin .add (.t 31) (.c (.p (.int .i64 1)))⟩,
  ⟨some 31,none,.mv (.t 87)⟩] (some [0,1,7,8,9,13,14,29,30,31]))
def d_q04k_k2 (C : Hd) (gl : Nat → Option PV) (v0 v1 v7 v8 v9 v13 v14 v29 v30 v31 : AV) (h : Heap) (x : Esc) (K : Ex → St → Prop) : Prop:=
 pK (oBin .add v31 (.p (.int .i64 1))) fun t1=>
 K .normal ⟨[(0,v0),(1,v1),(7,v7),(8,v8),(9,v9),(13,v13),(14,v14),(29,v29),(30,v30),(31,t1)],h,x⟩
theorem e_q04k_k2 {C gl e h x K} : NW C gl p_q04k_k2 ⟨e,h,x⟩ K = d_q04k_k2 C gl (aget e 0) (aget e 1) (aget e 7) (aget e 8) (aget e 9) (aget e 13) (aget e 14) (aget e 29) (aget e 30) (aget e 31) h x K:=by kernel_rfl
def P_q04k_k3 (q1 q2 : ACode) : ACode:=.pr [0,1,7,8,9,13,14,29,30,31] (.seq (.reg [
  ⟨some 32,none,.bin .lss (.t 31) (.t 30)⟩] (some [0,1,7,8,9,13,14,29,30,31,32]))
 (.seq (.cond (.t 32) .skip
 (.exit 2))
 (.seq (.block 3 (.seq (.reg [
  ⟨some 33,none,.iaddr (some 4) (.t 29) (.t 31)⟩,
  ⟨some 34,none,.load (some 4) (.t 33)⟩,
  ⟨some 11,none,.alloc [.p (.str []),.p (.int .i64 0),.p (.int .i64 0),.p (.int .i64 0)]⟩,
  ⟨none,none,.store (some 4) (.t 11) (.t 34)⟩] (some [0,1,7,8,9,11,13,14,29,30,31]))
 (.seq (.reg [
  ⟨some 35,none,.mv (.t 0)⟩,
  ⟨some 36,none,.faddr 1 none (.t 11)⟩,
  ⟨some 37,none,.load none (.t 36)⟩,
  ⟨some 38,none,.faddr 2 none (.t 11)⟩,
  ⟨some 39,none,.load none (.t 38)⟩,
  ⟨some 40,none,.faddr 1 none (.t 11)⟩,
  ⟨some 41,none,.load none (.t 40)⟩,
  ⟨some 42,none,.faddr 2 none (.t 11)⟩,
  ⟨some 43,none,.load none (.t 42)⟩,
  ⟨some 44,none,.bin .add (.t 41) (.t 43)⟩,
  ⟨some 45,none,.bin .quo (.t 44) (.c (.p (.int .i64 2)))⟩,
  ⟨some 46,none,.faddr 1 none (.t 11)⟩,
  ⟨some 47,none,.load none (.t 46)⟩,
  ⟨some 48,none,.faddr 2 none (.t 11)⟩,
  ⟨some 49,none,.load none (.t 48)⟩,
  ⟨some 50,none,.bin .add (.t 47) (.t 49)⟩,
  ⟨some 51,none,.bin .quo (.t 50) (.c (.p (.int .i64 2)))⟩,
  ⟨some 52,none,.faddr 1 none (.t 11)⟩,
  ⟨some 53,none,.load none (.t 52)⟩,
  ⟨some 54,none,.bin .add (.t 53) (.c (.p (.int .i64 1)))⟩,
  ⟨some 55,none,.bsl false none 5 (.int .i64 0) [(0,(.t 37)),(1,(.t 39)),(2,(.t 45)),(3,(.t 51)),(4,(.t 54))]⟩,
  ⟨some 56,none,.call f_q04h [(.t 35),(.t 55)]⟩,
  ⟨some 12,none,.mv (.t 56)⟩] (some [0,1,7,8,9,11,12,13,14,29,30,31]))
 (.seq (.seq (.reg [
  ⟨some 57,none,.mv (.t 0)⟩,
  ⟨some 58,none,.call f_q04d [(.t 57),(.c (.p (.int .i64 5)))]⟩] (some [0,1,7,8,9,11,12,13,14,29,30,31,58]))
 (.cond (.t 58) (.reg [
  ⟨some 59,none,.mv (.t 0)⟩,
  ⟨some 60,none,.faddr 1 none (.t 11)⟩,
  ⟨some 61,none,.load none (.t 60)⟩,
  ⟨some 62,none,.bin .sub (.t 61) (.c (.p (.int .i64 1)))⟩,
  ⟨some 63,none,.faddr 2 none (.t 11)⟩,
  ⟨some 64,none,.load none (.t 63)⟩,
  ⟨some 65,none,.bin .add (.t 64) (.c (.p (.int .i64 1)))⟩,
  ⟨some 66,none,.faddr 2 none (.t 11)⟩,
  ⟨some 67,none,.load none (.t 66)⟩,
  ⟨some 68,none,.bin .add (.t 67) (.c (.p (.int .i64 7)))⟩,
  ⟨some 69,none,.bsl false none 3 (.int .i64 0) [(0,(.t 62)),(1,(.t 65)),(2,(.t 68))]⟩,
  ⟨some 70,none,.call f_q04h [(.t 59),(.t 69)]⟩,
  ⟨some 12,none,.mv (.t 70)⟩] (some [0,1,7,8,9,11,12,13,14,29,30,31]))
 .skip))
 q1))))
 q2)))
def p_q04k_k3 : ACode:=P_q04k_k3 p_q04k_k1 p_q04k_k2
def d_q04k_k3 (C : Hd) (gl : Nat → Option PV) (q1 q2 : ACode) (v0 v1 v7 v8 v9 v13 v14 v29 v30 v31 : AV) (h : Heap) (x : Esc) (K : Ex → St → Prop) : Prop:=
 pK (oBin .lss v31 v30) fun t1=>
 condB t1 (pK (oIaddr (some 4) v29 v31 h) fun t2=>
 pK (oLoad (some 4) t2 h) fun t3=>
 alK [.p (.str []),.p (.int .i64 0),.p (.int .i64 0),.p (.int .i64 0)] h fun t4 h5 y6=>
 wK (oStore (some 4) t4 t3 h5) fun t7 h8 y9=>
 pK (oFaddr 1 none t4) fun t10=>
 pK (oLoad none t10 h8) fun t11=>
 pK (oFaddr 2 none t4) fun t12=>
 pK (oLoad none t12 h8) fun t13=>
 pK (oFaddr 1 none t4) fun t14=>
 pK (oLoad none t14 h8) fun t15=>
 pK (oFaddr 2 none t4) fun t16=>
 pK (oLoad none t16 h8) fun t17=>
 pK (oBin .add t15 t17) fun t18=>
 pK (oBin .quo t18 (.p (.int .i64 2))) fun t19=>
 pK (oFaddr 1 none t4) fun t20=>
 pK (oLoad none t20 h8) fun t21=>
 pK (oFaddr 2 none t4) fun t22=>
 pK (oLoad none t22 h8) fun t23=>
 pK (oBin .add t21 t23) fun t24=>
 pK (oBin .quo t24 (.p (.int .i64 2))) fun t25=>
 pK (oFaddr 1 none t4) fun t26=>
 pK (oLoad none t26 h8) fun t27=>
 pK (oBin .add t27 (.p (.int .i64 1))) fun t28=>
 wK (oBsl false none 5 (.int .i64 0) [(0,t11),(1,t13),(2,t19),(3,t25),(4,t28)] h8) fun t29 h30 y31=>
 C f_q04h [v0,t29] h30 fun t32 h33 y34=>
 C f_q04d [v0,(.p (.int .i64 5))] h33 fun t35 h36 y37=>
 condB t35 (pK (oFaddr 1 none t4) fun t38=>
 pK (oLoad none t38 h36) fun t39=>
 pK (oBin .sub t39 (.p (.int .i64 1))) fun t40=>
 pK (oFaddr 2 none t4) fun t41=>
 pK (oLoad none t41 h36) fun t42=>
 pK (oBin .add t42 (.p (.int .i64 1))) fun t43=>
 pK (oFaddr 2 none t4) fun t44=>
 pK (oLoad none t44 h36) fun t45=>
 pK (oBin .add t45 (.p (.int .i64 7))) fun t46=>
 wK (oBsl false none 3 (.int .i64 0) [(0,t40),(1,t43),(2,t46)] h36) fun t47 h48 y49=>
 C f_q04h [v0,t47] h48 fun t50 h51 y52=>
 NW C gl q1 ⟨[(0,v0),(1,v1),(7,v7),(8,v8),(9,v9),(11,t4),(12,t50),(13,v13),(14,v14),(29,v29),(30,v30),(31,v31)],h51,(y52 ++ (y49 ++ (y37 ++ (y34 ++ (y31 ++ (y9 ++ (y6 ++ x)))))))⟩ (blockN 3 (seqN C gl q2 K)))
 (NW C gl q1 ⟨[(0,v0),(1,v1),(7,v7),(8,v8),(9,v9),(11,t4),(12,t32),(13,v13),(14,v14),(29,v29),(30,v30),(31,v31),(58,t35)],h36,(y37 ++ (y34 ++ (y31 ++ (y9 ++ (y6 ++ x)))))⟩ (blockN 3 (seqN C gl q2 K))))
 (K (.exit 2) ⟨[(0,v0),(1,v1),(7,v7),(8,v8),(9,v9),(13,v13),(14,v14),(29,v29),(30,v30),(31,v31),(32,t1)],h,x⟩)
theorem E_q04k_k3 {C gl q1 q2 e h x K} : NW C gl (P_q04k_k3 q1 q2) ⟨e,h,x⟩ K = d_q04k_k3 C gl q1 q2 (aget e 0) (aget e 1) (aget e 7) (aget e 8) (aget e 9) (aget e 13) (aget e 14) (aget e 29) (aget e 30) (aget e 31) h x K:=by kernel_rfl
theorem e_q04k_k3 {C gl e h x K} : NW C gl p_q04k_k3 ⟨e,h,x⟩ K = d_q04k_k3 C gl p_q04k_k1 p_q04k_k2 (aget e 0) (aget e 1) (aget e 7) (aget e 8) (aget e 9) (aget e 13) (aget e 14) (aget e 29) (aget e 30) (aget e 31) h x K:=E_q04k_k3
theorem l_q04k_k3 {C gl e h x K} : NW C gl (.loop (.scope p_q04k_k3)) ⟨e,h,x⟩ K = NLoop C gl (.scope p_q04k_k3) K [(0,aget e 0),(1,aget e 1),(7,aget e 7),(8,aget e 8),(9,aget e 9),(13,aget e 13),(14,aget e 14),(29,aget e 29),(30,aget e 30),(31,aget e 31)] h x:=NLoop_sc
def p_q04k_k4 : ACode:=.pr [0,1,7,8,9,13,14] (.reg [
  ⟨some 125,none,.mv (.t 7)⟩,
  ⟨some 126,none,.load (some 4) (.t 9)⟩,
  ⟨some 127,none,.bsl false (some 4) 1 (.agg [.str [],.int .i64 0,.str [],.sl none []]) [(0,(.t 126))]⟩,
  ⟨some 128,none,.app (some 4) (.t 125) (.t 127)⟩,
  ⟨some 7,none,.mv (.t 128)⟩] (some [0,1,7,8,13,14]))
def d_q04k_k4 (C : Hd) (gl : Nat → Option PV) (v0 v1 v7 v8 v9 v13 v14 : AV) (h : Heap) (x : Esc) (K : Ex → St → Prop) : Prop:=
 pK (oLoad (some 4) v9 h) fun t1=>
 wK (oBsl false (some 4) 1 (.agg [.str [],.int .i64 0,.str [],.sl none []]) [(0,t1)] h) fun t2 h3 y4=>
 wK (oApp (some 4) v7 t2 h3) fun t5 h6 y7=>
 K .normal ⟨[(0,v0),(1,v1),(7,t5),(8,v8),(13,v13),(14,v14)],h6,(y7 ++ (y4 ++ x))⟩
theorem e_q04k_k4 {C gl e h x K} : NW C gl p_q04k_k4 ⟨e,h,x⟩ K = d_q04k_k4 C gl (aget e 0) (aget e 1) (aget e 7) (aget e 8) (aget e 9) (aget e 13) (aget e 14) h x K:=by kernel_rfl
def P_q04k_k5 (q4 : ACode) : ACode:=.pr [0,1,7,8,9,13,14] (.seq (.seq (.reg [
  ⟨some 88,none,.mv (.t 0)⟩,
  ⟨some 89,none,.call f_q04d [(.t 88),(.c (.p (.int .i64 60)))]⟩] (some [0,1,7,8,9,13,14,89]))
 (.cond (.t 89) (.seq (.reg [
  ⟨some 90,none,.mv (.t 0)⟩,
  ⟨some 91,none,.call f_q04f [(.t 90),(.c (.p (.int .i64 3)))]⟩] (some [0,1,7,8,9,13,14,91]))
 (.block 4 (.seq (.reg [
  ⟨some 103,none,.bin .eql (.t 91) (.c (.p (.int .i64 0)))⟩,
  ⟨some 102,none,.mv (.t 103)⟩] (some [0,1,7,8,9,13,14,91,102]))
 (.cond (.t 102) (.reg [
  ⟨some 104,none,.mv (.t 0)⟩,
  ⟨some 105,none,.bsl false none 2 (.str []) [(0,(.c (.p (.str [])))),(1,(.c (.p (.str [117,49]))))]⟩,
  ⟨some 106,none,.call f_q04p [(.t 104),(.t 105)]⟩,
  ⟨some 107,none,.mv (.t 0)⟩,
  ⟨some 108,none,.bsl false none 2 (.str []) [(0,(.c (.p (.str [65])))),(1,(.c (.p (.str [115,49]))))]⟩,
  ⟨some 109,none,.call f_q04p [(.t 107),(.t 108)]⟩,
  ⟨some 110,none,.mv (.t 0)⟩,
  ⟨some 111,none,.call f_q04g [(.t 110),(.c (.p (.int .i64 0))),(.c (.p (.int .i64 50)))]⟩,
  ⟨some 112,none,.faddr 0 none (.t 9)⟩,
  ⟨none,none,.store none (.t 112) (.t 106)⟩,
  ⟨some 113,none,.faddr 2 none (.t 9)⟩,
  ⟨none,none,.store none (.t 113) (.t 109)⟩,
  ⟨some 114,none,.faddr 1 none (.t 9)⟩,
  ⟨none,none,.store none (.t 114) (.t 111)⟩] (some [0,1,7,8,9,13,14]))
 (.seq (.reg [
  ⟨some 116,none,.bin .eql (.t 91) (.c (.p (.int .i64 1)))⟩,
  ⟨some 115,none,.mv (.t 116)⟩] (some [0,1,7,8,9,13,14,115]))
 (.cond (.t 115) (.draw [
   ⟨⟨some 117,none,.faddr 3 none (.t 9)⟩,[9],false,[],[]⟩,
   ⟨⟨some 118,none,.load none (.t 117)⟩,[117],false,[],[]⟩,
   ⟨⟨some 119,none,.mv (.t 0)⟩,[0],false,[],[]⟩,
   ⟨⟨some 120,none,.bsl false none 3 (.int .i64 0) [(0,(.c (.p (.int .i64 0)))),(1,(.c (.p (.int .i64 100001)))),(2,(.c (.p (.int .i64 (-100001)))))]⟩,[],false,[],[]⟩,
   ⟨⟨some 121,none,.call f_q04h [(.t 119),(.t 120)]⟩,[119,120],true,[],[1]⟩,
   ⟨⟨some 122,none,.bsl false none 1 (.int .i64 0) [(0,(.t 121))]⟩,[121],false,[],[]⟩,
   ⟨⟨some 123,none,.app none (.t 118) (.t 122)⟩,[118,122],true,[],[]⟩,
   ⟨⟨some 124,none,.faddr 3 none (.t 9)⟩,[9],false,[],[]⟩,
   ⟨⟨none,none,.store none (.t 124) (.t 123)⟩,[124,123],true,[],[]⟩] (some [0,1,7,8,9,13,14]))
 (.draw [
   ⟨⟨some 92,none,.faddr 3 none (.t 9)⟩,[9],false,[],[]⟩,
   ⟨⟨some 93,none,.load none (.t 92)⟩,[92],false,[],[]⟩,
   ⟨⟨some 94,none,.mv (.t 0)⟩,[0],false,[],[]⟩,
   ⟨⟨some 95,none,.faddr 3 none (.t 9)⟩,[9],false,[],[]⟩,
   ⟨⟨some 96,none,.load none (.t 95)⟩,[95],false,[],[]⟩,
   ⟨⟨some 97,none,.len (.t 96)⟩,[96],false,[],[]⟩,
   ⟨⟨some 98,none,.bin .add (.t 97) (.c (.p (.int .i64 1)))⟩,[97],false,[],[]⟩,
   ⟨⟨some 99,none,.call f_q04f [(.t 94),(.t 98)]⟩,[94,98],true,[],[1]⟩,
   ⟨⟨some 100,none,.slice none (.t 93) none (some (.t 99)) none⟩,[93,99],false,[],[]⟩,
   ⟨⟨some 101,none,.faddr 3 none (.t 9)⟩,[9],false,[],[]⟩,
   ⟨⟨none,none,.store none (.t 101) (.t 100)⟩,[101,100],true,[],[]⟩] (some [0,1,7,8,9,13,14]))))))))
 .skip))
 q4)
def p_q04k_k5 : ACode:=P_q04k_k5 p_q04k_k4
def d_q04k_k5 (C : Hd) (gl : Nat → Option PV) (q4 : ACode) (v0 v1 v7 v8 v9 v13 v14 : AV) (h : Heap) (x : Esc) (K : Ex → St → Prop) : Prop:=
 C f_q04d [v0,(.p (.int .i64 60))] h fun t1 h2 y3=>
 condB t1 (C f_q04f [v0,(.p (.int .i64 3))] h2 fun t4 h5 y6=>
 pK (oBin .eql t4 (.p (.int .i64 0))) fun t7=>
 condB t7 (wK (oBsl false none 2 (.str []) [(0,(.p (.str []))),(1,(.p (.str [117,49])))] h5) fun t8 h9 y10=>
 C f_q04p [v0,t8] h9 fun t11 h12 y13=>
 wK (oBsl false none 2 (.str []) [(0,(.p (.str [65]))),(1,(.p (.str [115,49])))] h12) fun t14 h15 y16=>
 C f_q04p [v0,t14] h15 fun t17 h18 y19=>
 C f_q04g [v0,(.p (.int .i64 0)),(.p (.int .i64 50))] h18 fun t20 h21 y22=>
 pK (oFaddr 0 none v9) fun t23=>
 wK (oStore none t23 t11 h21) fun t24 h25 y26=>
 pK (oFaddr 2 none v9) fun t27=>
 wK (oStore none t27 t17 h25) fun t28 h29 y30=>
 pK (oFaddr 1 none v9) fun t31=>
 wK (oStore none t31 t20 h29) fun t32 h33 y34=>
 NW C gl q4 ⟨[(0,v0),(1,v1),(7,v7),(8,v8),(9,v9),(13,v13),(14,v14)],h33,(y34 ++ (y30 ++ (y26 ++ (y22 ++ (y19 ++ (y16 ++ (y13 ++ (y10 ++ (y6 ++ (y3 ++ x))))))))))⟩ K)
 (pK (oBin .eql t4 (.p (.int .i64 1))) fun t35=>
 condB t35 (pK (oFaddr 3 none v9) fun t36=>
 pK (oLoad none t36 h5) fun t37=>
 wK (oBsl false none 3 (.int .i64 0) [(0,(.p (.int .i64 0))),(1,(.p (.int .i64 100001))),(2,(.p (.int .i64 (-100001))))] h5) fun t38 h39 y40=>
 (h39 = h5 ∧ y40 = []) ∧ (callE C f_q04h [v0,t38] h39 fun t41 h42 y43=>
 (pK (oLoad none t36 h42) fun v=>(fun u (g1 : Heap) (y1 : Esc)=>u = t37 ∧ g1 = h42 ∧ y1 = []) v h42 []) ∧ (wK (oBsl false none 1 (.int .i64 0) [(0,t41)] h42) fun t44 h45 y46=>
 (h45 = h42 ∧ y46 = []) ∧ (wK (oApp none t37 t44 h45) fun t47 h48 y49=>
 pK (oFaddr 3 none v9) fun t50=>
 wK (oStore none t50 t47 h48) fun t51 h52 y53=>
 NW C gl q4 ⟨[(0,v0),(1,v1),(7,v7),(8,v8),(9,v9),(13,v13),(14,v14)],h52,(y53 ++ (y49 ++ (y46 ++ (y43 ++ (y40 ++ (y6 ++ (y3 ++ x)))))))⟩ K))))
 (pK (oFaddr 3 none v9) fun t54=>
 pK (oLoad none t54 h5) fun t55=>
 pK (oFaddr 3 none v9) fun t56=>
 pK (oLoad none t56 h5) fun t57=>
 pK (oLen t57) fun t58=>
 pK (oBin .add t58 (.p (.int .i64 1))) fun t59=>
 callE C f_q04f [v0,t59] h5 fun t60 h61 y62=>
 (pK (oLoad none t54 h61) fun v=>(fun u (g1 : Heap) (y1 : Esc)=>u = t55 ∧ g1 = h61 ∧ y1 = []) v h61 []) ∧ (pK (oSlice none t55 none (some t60) none h61) fun t63=>
 pK (oFaddr 3 none v9) fun t64=>
 wK (oStore none t64 t63 h61) fun t65 h66 y67=>
 NW C gl q4 ⟨[(0,v0),(1,v1),(7,v7),(8,v8),(9,v9),(13,v13),(14,v14)],h66,(y67 ++ (y62 ++ (y6 ++ (y3 ++ x))))⟩ K))))
 (NW C gl q4 ⟨[(0,v0),(1,v1),(7,v7),(8,v8),(9,v9),(13,v13),(14,v14),(89,t1)],h2,(y3 ++ x)⟩ K)
theorem E_q04k_k5 {C gl q4 e h x K} : NW C gl (P_q04k_k5 q4) ⟨e,h,x⟩ K = d_q04k_k5 C gl q4 (aget e 0) (aget e 1) (aget e 7) (aget e 8) (aget e 9) (aget e 13) (aget e 14) h x K:=by kernel_rfl
theorem e_q04k_k5 {C gl e h x K} : NW C gl p_q04k_k5 ⟨e,h,x⟩ K = d_q04k_k5 C gl p_q04k_k4 (aget e 0) (aget e 1) (aget e 7) (aget e 8) (aget e 9) (aget e 13) (aget e 14) h x K:=E_q04k_k5
def p_q04k_k6 : ACode:=.pr [0,1,7,8,13,14] (.reg [
  ⟨some 129,none,.bin .add (.t 14) (.c (.p (.int .i64 1)))⟩,
  ⟨some 14,none,.mv (.t 129)⟩] (some [0,1,7,8,13,14]))
def d_q04k_k6 (C : Hd) (gl : Nat → Option PV) (v0 v1 v7 v8 v13 v14 : AV) (h : Heap) (x : Esc) (K : Ex → St → Prop) : Prop:=
 pK (oBin .add v14 (.p (.int .i64 1))) fun t1=>
 K .normal ⟨[(0,v0),(1,v1),(7,v7),(8,v8),(13,v13),(14,t1)],h,x⟩
theorem e_q04k_k6 {C gl e h x K} : NW C gl p_q04k_k6 ⟨e,h,x⟩ K = d_q04k_k6 C gl (aget e 0) (aget e 1) (aget e 7) (aget e 8) (aget e 13) (aget e 14) h x K:=by kernel_rfl
def P_q04k_k7 (q3 q5 q6 : ACode) : ACode:=.pr [0,1,7,8,13,14] (.seq (.reg [
  ⟨some 15,none,.bin .lss (.t 14) (.t 13)⟩] (some [0,1,7,8,13,14,15]))
 (.seq (.cond (.t 15) .skip
 (.exit 0))
 (.seq (.block 1 (.seq (.reg [
  ⟨some 16,none,.mv (.t 8)⟩,
  ⟨some 17,none,.mv (.t 0)⟩,
  ⟨some 18,none,.bsl false none 4 (.int .i64 0) [(0,(.c (.p (.int .i64 1)))),(1,(.c (.p (.int .i64 1)))),(2,(.c (.p (.int .i64 5)))),(3,(.c (.p (.int .i64 0))))]⟩,
  ⟨some 19,none,.call f_q04h [(.t 17),(.t 18)]⟩,
  ⟨some 20,none,.bin .add (.t 16) (.t 19)⟩,
  ⟨some 8,none,.mv (.t 20)⟩] (some [0,1,7,8,13,14]))
 (.seq (.reg [
  ⟨some 21,none,.mv (.t 0)⟩,
  ⟨some 22,none,.bsl false none 4 (.str []) [(0,(.c (.p (.str [117,49])))),(1,(.c (.p (.str [117,50])))),(2,(.c (.p (.str [117,51])))),(3,(.c (.p (.str [117,52]))))]⟩,
  ⟨some 23,none,.call f_q04p [(.t 21),(.t 22)]⟩,
  ⟨some 24,none,.mv (.t 8)⟩,
  ⟨some 25,none,.mv (.t 0)⟩,
  ⟨some 26,none,.bsl false none 3 (.str []) [(0,(.c (.p (.str [115,49])))),(1,(.c (.p (.str [115,49])))),(2,(.c (.p (.str [115,50]))))]⟩,
  ⟨some 27,none,.call f_q04p [(.t 25),(.t 26)]⟩,
  ⟨some 28,none,.build [.p (.str []),.p (.int .i64 0),.p (.str []),.sl0 none] [(0,1,(.t 23)),(1,1,(.t 24)),(2,1,(.t 27))]⟩,
  ⟨some 9,none,.alloc [.p (.str []),.p (.int .i64 0),.p (.str []),.sl0 none]⟩,
  ⟨none,none,.store (some 4) (.t 9) (.t 28)⟩] (some [0,1,7,8,9,13,14]))
 (.seq (.seq (.reg [
  ⟨some 29,none,.mv (.t 1)⟩,
  ⟨some 30,none,.len (.t 29)⟩,
  ⟨some 31,none,.mv (.c (.p (.int .i64 0)))⟩] (some [0,1,7,8,9,13,14,29,30,31]))
 (.block 2 (.loop (.scope q3))))
 q5))))
 q6)))
def p_q04k_k7 : ACode:=P_q04k_k7 p_q04k_k3 p_q04k_k5 p_q04k_k6
def d_q04k_k7 (C : Hd) (gl : Nat → Option PV) (q3 q5 q6 : ACode) (v0 v1 v7 v8 v13 v14 : AV) (h : Heap) (x : Esc) (K : Ex → St → Prop) : Prop:=
 pK (oBin .lss v14 v13) fun t1=>
 condB t1 (wK (oBsl false none 4 (.int .i64 0) [(0,(.p (.int .i64 1))),(1,(.p (.int .i64 1))),(2,(.p (.int .i64 5))),(3,(.p (.int .i64 0)))] h) fun t2 h3 y4=>
 C f_q04h [v0,t2] h3 fun t5 h6 y7=>
 pK (oBin .add v8 t5) fun t8=>
 wK (oBsl false none 4 (.str []) [(0,(.p (.str [117,49]))),(1,(.p (.str [117,50]))),(2,(.p (.str [117,51]))),(3,(.p (.str [117,52])))] h6) fun t9 h10 y11=>
 C f_q04p [v0,t9] h10 fun t12 h13 y14=>
 wK (oBsl false none 3 (.str []) [(0,(.p (.str [115,49]))),(1,(.p (.str [115,49]))),(2,(.p (.str [115,50])))] h13) fun t15 h16 y17=>
 C f_q04p [v0,t15] h16 fun t18 h19 y20=>
 pK (oBuild [.p (.str []),.p (.int .i64 0),.p (.str []),.sl0 none] [(0,1,t12),(1,1,t8),(2,1,t18)]) fun t21=>
 alK [.p (.str []),.p (.int .i64 0),.p (.str []),.sl0 none] h19 fun t22 h23 y24=>
 wK (oStore (some 4) t22 t21 h23) fun t25 h26 y27=>
 pK (oLen v1) fun t28=>
 NW C gl (.loop (.scope q3)) ⟨[(0,v0),(1,v1),(7,v7),(8,t8),(9,t22),(13,v13),(14,v14),(29,v1),(30,t28),(31,(.p (.int .i64 0)))],h26,(y27 ++ (y24 ++ (y20 ++ (y17 ++ (y14 ++ (y11 ++ (y7 ++ (y4 ++ x))))))))⟩ (blockN 2 (seqN C gl q5 (blockN 1 (seqN C gl q6 K)))))
 (K (.exit 0) ⟨[(0,v0),(1,v1),(7,v7),(8,v8),(13,v13),(14,v14),(15,t1)],h,x⟩)
theorem E_q04k_k7 {C gl q3 q5 q6 e h x K} : NW C gl (P_q04k_k7 q3 q5 q6) ⟨e,h,x⟩ K = d_q04k_k7 C gl q3 q5 q6 (aget e 0) (aget e 1) (aget e 7) (aget e 8) (aget e 13) (aget e 14) h x K:=by kernel_rfl
theorem e_q04k_k7 {C gl e h x K} : NW C gl p_q04k_k7 ⟨e,h,x⟩ K = d_q04k_k7 C gl p_q04k_k3 p_q04k_k5 p_q04k_k6 (aget e 0) (aget e 1) (aget e 7) (aget e 8) (aget e 13) (aget e 14) h x K:=E_q04k_k7
theorem l_q04k_k7 {C gl e h x K} : NW C gl (.loop (.scope p_q04k_k7)) ⟨e,h,x⟩ K = NLoop C gl (.scope p_q04k_k7) K [(0,aget e 0),(1,aget e 1),(7,aget e 7),(8,aget e 8),(13,aget e 13),(14,aget e 14)] h x:=NLoop_sc
def p_q04k_k8 : ACode:=.pr [7] (.seq (.reg [
  ⟨some 130,none,.mv (.t 7)⟩,
  ⟨some 131,none,.call f_q06o [(.t 130),(.f f_q04l)]⟩] (some [7]))
 (.seq (.reg [
  ⟨some 132,none,.mv (.t 7)⟩,
  ⟨some 133,none,.call f_q05w [(.t 132),(.f f_q04m)]⟩,
  ⟨some 6,none,.mv (.t 133)⟩] (some [6]))
 .ret))
def d_q04k_k8 (C : Hd) (gl : Nat → Option PV) (v7 : AV) (h : Heap) (x : Esc) (K : Ex → St → Prop) : Prop:=
 C f_q06o [v7,(.fn f_q04l [])] h fun t1 h2 y3=>
 C f_q05w [v7,(.fn f_q04m [])] h2 fun t4 h5 y6=>
 K .ret ⟨[(6,t4)],h5,(y6 ++ (y3 ++ x))⟩
theorem e_q04k_k8 {C gl e h x K} : NW C gl p_q04k_k8 ⟨e,h,x⟩ K = d_q04k_k8 C gl (aget e 7) h x K:=by kernel_rfl
def P_q04k (q7 q8 : ACode) : ACode:=(.seq (.reg [
  ⟨some 6,none,.mv (.c (.p (.sl (some 4) [])))⟩] (some [0,1,2]))
 (.seq (.reg [
  ⟨some 7,none,.new0 (some 4)⟩] (some [0,1,2,7]))
 (.seq (.reg [
  ⟨some 8,none,.mv (.c (.p (.int .i64 0)))⟩] (some [0,1,2,7,8]))
 (.seq (.seq (.reg [
  ⟨some 13,none,.mv (.t 2)⟩,
  ⟨some 14,none,.mv (.c (.p (.int .i64 0)))⟩] (some [0,1,7,8,13,14]))
 (.block 0 (.loop (.scope q7))))
 q8))))
def a_q04k : AFun:=⟨3,[.t 6],P_q04k p_q04k_k7 p_q04k_k8,false,false⟩
def d_q04k (C : Hd) (gl : Nat → Option PV) (q7 q8 : ACode) (v0 v1 v2 : AV) (h : Heap) (x : Esc) (K : Ex → St → Prop) : Prop:=
 nwK (some 4) h fun t1 h2 y3=>
 NW C gl (.loop (.scope q7)) ⟨[(0,v0),(1,v1),(7,t1),(8,(.p (.int .i64 0))),(13,v2),(14,(.p (.int .i64 0)))],h2,(y3 ++ x)⟩ (blockN 0 (seqN C gl q8 K))
theorem E_q04k {C gl q7 q8 v0 v1 v2 h x K} : NW C gl (P_q04k q7 q8) ⟨enter [v0,v1,v2],h,x⟩ K = d_q04k C gl q7 q8 v0 v1 v2 h x K:=by kernel_rfl
theorem e_q04k {C gl v0 v1 v2 h x K} : NW C gl a_q04k.body ⟨enter [v0,v1,v2],h,x⟩ K = d_q04k C gl p_q04k_k7 p_q04k_k8 v0 v1 v2 h x K:=E_q04k
def P_q04i : ACode:=(.seq (.reg [
  ⟨some 6,none,.mv (.c (.p (.int .i64 0)))⟩] (some [0,1,2]))
 (.seq (.seq (.reg [
  ⟨some 7,none,.mv (.t 2)⟩,
  ⟨some 8,none,.mv (.t 1)⟩,
  ⟨some 9,none,.bin .lss (.t 7) (.t 8)⟩] (some [0,1,2,9]))
 (.cond (.t 9) (.seq (.reg [
  ⟨some 10,none,.mv (.t 1)⟩,
  ⟨some 6,none,.mv (.t 10)⟩] (some [6]))
 .ret)
 .skip))
 (.seq (.reg [
  ⟨some 11,none,.mv (.t 1)⟩,
  ⟨some 12,none,.mv (.t 0)⟩,
  ⟨some 13,none,.mv (.t 2)⟩,
  ⟨some 14,none,.mv (.t 1)⟩,
  ⟨some 15,none,.bin .sub (.t 13) (.t 14)⟩,
  ⟨some 16,none,.bin .add (.t 15) (.c (.p (.int .i64 1)))⟩,
  ⟨some 17,none,.call f_q04f [(.t 12),(.t 16)]⟩,
  ⟨some 18,none,.bin .add (.t 11) (.t 17)⟩,
  ⟨some 6,none,.mv (.t 18)⟩] (some [6]))
 .ret)))
def a_q04i : AFun:=⟨3,[.t 6],P_q04i,false,false⟩
def d_q04i (C : Hd) (gl : Nat → Option PV) (v0 v1 v2 : AV) (h : Heap) (x : Esc) (K : Ex → St → Prop) : Prop:=
 pK (oBin .lss v2 v1) fun t1=>
 condB t1 (K .ret ⟨[(6,v1)],h,x⟩)
 (pK (oBin .sub v2 v1) fun t2=>
 pK (oBin .add t2 (.p (.int .i64 1))) fun t3=>
 C f_q04f [v0,t3] h fun t4 h5 y6=>
 pK (oBin .add v1 t4) fun t7=>
 K .ret ⟨[(6,t7)],h5,(y6 ++ x)⟩)
theorem E_q04i {C gl v0 v1 v2 h x K} : NW C gl (P_q04i) ⟨enter [v0,v1,v2],h,x⟩ K = d_q04i C gl v0 v1 v2 h x K:=by kernel_rfl
theorem e_q04i {C gl v0 v1 v2 h x K} : NW C gl a_q04i.body ⟨enter [v0,v1,v2],h,x⟩ K = d_q04i C gl v0 v1 v2 h x K:=E_q04i
def p_q054_k1 : ACode:=.pr [0,1,17,18,19] (.seq (.reg [
  ⟨some 20,none,.bin .lss (.t 19) (.t 18)⟩] (some [0,1,17,18,19,20]))
 (.seq (.cond (.t 20) .skip
 (.exit 0))
 (.seq (.block 1 (.seq (.reg [
  ⟨some 21,none,.mv (.t 19)⟩,
  ⟨some 22,none,.iaddr (some 4) (.t 17) (.t 19)⟩,
  ⟨some 23,none,.load (some 4) (.t 22)⟩,
  ⟨some 7,none,.alloc [.p (.str []),.p (.int .i64 0),.p (.str []),.sl0 none]⟩,
  ⟨some 6,none,.mv (.t 21)⟩,
  ⟨none,none,.store (some 4) (.t 7) (.t 23)⟩] (some [0,1,6,7,17,18,19]))
 (.seq (.seq (.reg [
  ⟨some 24,none,.mv (.t 0)⟩,
  ⟨some 25,none,.load (some 4) (.t 7)⟩,
  ⟨some 26,none,.call f_q05o [(.t 24),(.t 25)]⟩,
  ⟨some 8,none,.mv (.t 26)⟩] (some [0,1,6,7,8,17,18,19]))
 (.seq (.reg [
  ⟨some 27,none,.mv (.t 8)⟩,
  ⟨some 28,none,.bin .neq (.t 27) (.c (.p (.int .i64 0)))⟩] (some [0,1,6,7,8,17,18,19,28]))
 (.cond (.t 28) (.seq (.reg [
  ⟨some 29,none,.mv (.t 8)⟩,
  ⟨some 4,none,.mv (.t 29)⟩] (some [4]))
 .ret)
 .skip)))
 (.seq (.draw [
   ⟨⟨some 30,none,.mv (.t 6)⟩,[6],false,[],[]⟩,
   ⟨⟨some 31,none,.bin .gtr (.t 30) (.c (.p (.int .i64 0)))⟩,[30],false,[],[]⟩,
   ⟨⟨some 32,none,.mv (.t 31)⟩,[31],false,[],[]⟩,
   ⟨⟨some 33,(some (32,true)),.mv (.t 1)⟩,[1,32],false,[],[]⟩,
   ⟨⟨some 34,(some (32,true)),.mv (.t 6)⟩,[6,32],false,[],[]⟩,
   ⟨⟨some 35,(some (32,true)),.bin .sub (.t 34) (.c (.p (.int .i64 1)))⟩,[34,32],false,[],[]⟩,
   ⟨⟨some 36,(some (32,true)),.iaddr (some 4) (.t 33) (.t 35)⟩,[33,35,32],false,[],[]⟩,
   ⟨⟨some 37,(some (32,true)),.load (some 4) (.t 36)⟩,[36,32],false,[],[]⟩,
   ⟨⟨some 38,(some (32,true)),.load (some 4) (.t 7)⟩,[7,32],false,[],[]⟩,
   ⟨⟨some 39,(some (32,true)),.call f_q05q [(.t 37),(.t 38)]⟩,[37,38,32],true,[],[]⟩,
   ⟨⟨some 40,(some (32,true)),.bin .geq (.t 39) (.c (.p (.int .i64 0)))⟩,[39,32],false,[],[]⟩,
   ⟨⟨some 41,none,.pick (.t 32) (.t 40) (.c (.p (.bool false)))⟩,[32,40],false,[],[]⟩] (some [0,1,17,18,19,41]))
 (.cond (.t 41) (.seq (.reg [
  ⟨some 4,none,.mv (.c (.p (.int .i64 7)))⟩] (some [4]))
 .ret)
 .skip)))))
 (.reg [
  ⟨some 42,none,.bin .add (.t 19) (.c (.p (.int .i64 1)))⟩,
  ⟨some 19,none,.mv (.t 42)⟩] (some [0,1,17,18,19])))))
def d_q054_k1 (C : Hd) (gl : Nat → Option PV) (v0 v1 v17 v18 v19 : AV) (h : Heap) (x : Esc) (K : Ex → St → Prop) : Prop:=
 pK (oBin .lss v19 v18) fun t1=>
 condB t1 (pK (oIaddr (some 4) v17 v19 h) fun t2=>
 pK (oLoad (some 4) t2 h) fun t3=>
 alK [.p (.str []),.p (.int .i64 0),.p (.str []),.sl0 none] h fun t4 h5 y6=>
 wK (oStore (some 4) t4 t3 h5) fun t7 h8 y9=>
 pK (oLoad (some 4) t4 h8) fun t10=>
 C f_q05o [v0,t10] h8 fun t11 h12 y13=>
 pK (oBin .neq t11 (.p (.int .i64 0))) fun t14=>
 condB t14 (K .ret ⟨[(4,t11)],h12,(y13 ++ (y9 ++ (y6 ++ x)))⟩)
 (pK (oBin .gtr v19 (.p (.int .i64 0))) fun t15=>
 gM t15 true v1 h12 fun t16 h17 y18=>
 gM t15 true v19 h17 fun t19 h20 y21=>
 gP t15 true (oBin .sub t19 (.p (.int .i64 1))) h20 fun t22 h23 y24=>
 gP t15 true (oIaddr (some 4) t16 t22 h23) h23 fun t25 h26 y27=>
 gP t15 true (oLoad (some 4) t25 h26) h26 fun t28 h29 y30=>
 gP t15 true (oLoad (some 4) t4 h29) h29 fun t31 h32 y33=>
 gV t15 true h32 (callE C f_q05q [t28,t31] h32) fun t34 h35 y36=>
 gP t15 true (oBin .geq t34 (.p (.int .i64 0))) h35 fun t37 h38 y39=>
 pK (oPick t15 t37 (.p (.bool false))) fun t40=>
 condB t40 (K .ret ⟨[(4,(.p (.int .i64 7)))],h38,(y39 ++ (y36 ++ (y33 ++ (y30 ++ (y27 ++ (y24 ++ (y21 ++ (y18 ++ (y13 ++ (y9 ++ (y6 ++ x)))))))))))⟩)
 (pK (oBin .add v19 (.p (.int .i64 1))) fun t41=>
 K .normal ⟨[(0,v0),(1,v1),(17,v17),(18,v18),(19,t41)],h38,(y39 ++ (y36 ++ (y33 ++ (y30 ++ (y27 ++ (y24 ++ (y21 ++ (y18 ++ (y13 ++ (y9 ++ (y6 ++ x)))))))))))⟩)))
 (K (.exit 0) ⟨[(0,v0),(1,v1),(17,v17),(18,v18),(19,v19),(20,t1)],h,x⟩)
theorem e_q054_k1 {C gl e h x K} : NW C gl p_q054_k1 ⟨e,h,x⟩ K = d_q054_k1 C gl (aget e 0) (aget e 1) (aget e 17) (aget e 18) (aget e 19) h x K:=by kernel_rfl
theorem l_q054_k1 {C gl e h x K} : NW C gl (.loop (.scope p_q054_k1)) ⟨e,h,x⟩ K = NLoop C gl (.scope p_q054_k1) K [(0,aget e 0),(1,aget e 1),(17,aget e 17),(18,aget e 18),(19,aget e 19)] h x:=NLoop_sc
def p_q054_k2 : ACode:=.pr [] (.seq (.reg [
  ⟨some 4,none,.mv (.c (.p (.int .i64 0)))⟩] (some [4]))
 .ret)
def d_q054_k2 (C : Hd) (gl : Nat → Option PV) (h : Heap) (x : Esc) (K : Ex → St → Prop) : Prop:=
 K .ret ⟨[(4,(.p (.int .i64 0)))],h,x⟩
theorem e_q054_k2 {C gl e h x K} : NW C gl p_q054_k2 ⟨e,h,x⟩ K = d_q054_k2 C gl h x K:=by kernel_rfl
def P_q054 (q1 q2 : ACode) : ACode:=(.seq (.reg [
  ⟨some 4,none,.mv (.c (.p (.int .i64 0)))⟩] (some [0,1]))
 (.seq (.seq (.reg [
  ⟨some 9,none,.mv (.t 0)⟩,
  ⟨some 10,none,.call f_q04v [(.t 9)]⟩,
  ⟨some 5,none,.mv (.t 10)⟩] (some [0,1,5]))
 (.seq (.reg [
  ⟨some 11,none,.mv (.t 5)⟩,
  ⟨some 12,none,.bin .neq (.t 11) (.c (.p (.int .i64 0)))⟩] (some [0,1,5,12]))
 (.cond (.t 12) (.seq (.reg [
  ⟨some 13,none,.mv (.t 5)⟩,
  ⟨some 4,none,.mv (.t 13)⟩] (some [4]))
 .ret)
 .skip)))
 (.seq (.seq (.reg [
  ⟨some 14,none,.mv (.t 1)⟩,
  ⟨some 15,none,.len (.t 14)⟩,
  ⟨some 16,none,.bin .gtr (.t 15) (.c (.p (.int .i64 5000)))⟩] (some [0,1,16]))
 (.cond (.t 16) (.seq (.reg [
  ⟨some 4,none,.mv (.c (.p (.int .i64 2)))⟩] (some [4]))
 .ret)
 .skip))
 (.seq (.seq (.reg [
  ⟨some 17,none,.mv (.t 1)⟩,
  ⟨some 18,none,.len (.t 17)⟩,
  ⟨some 19,none,.mv (.c (.p (.int .i64 0)))⟩] (some [0,1,17,18,19]))
 (.block 0 (.loop (.scope q1))))
 q2))))
def a_q054 : AFun:=⟨2,[.t 4],P_q054 p_q054_k1 p_q054_k2,false,false⟩
def d_q054 (C : Hd) (gl : Nat → Option PV) (q1 q2 : ACode) (v0 v1 : AV) (h : Heap) (x : Esc) (K : Ex → St → Prop) : Prop:=
 C f_q04v [v0] h fun t1 h2 y3=>
 pK (oBin .neq t1 (.p (.int .i64 0))) fun t4=>
 condB t4 (K .ret ⟨[(4,t1)],h2,(y3 ++ x)⟩)
 (pK (oLen v1) fun t5=>
 pK (oBin .gtr t5 (.p (.int .i64 5000))) fun t6=>
 condB t6 (K .ret ⟨[(4,(.p (.int .i64 2)))],h2,(y3 ++ x)⟩)
 (pK (oLen v1) fun t7=>
 NW C gl (.loop (.scope q1)) ⟨[(0,v0),(1,v1),(17,v1),(18,t7),(19,(.p (.int .i64 0)))],h2,(y3 ++ x)⟩ (blockN 0 (seqN C gl q2 K))))
theorem E_q054 {C gl q1 q2 v0 v1 h x K} : NW C gl (P_q054 q1 q2) ⟨enter [v0,v1],h,x⟩ K = d_q054 C gl q1 q2 v0 v1 h x K:=by kernel_rfl
theorem e_q054 {C gl v0 v1 h x K} : NW C gl a_q054.body ⟨enter [v0,v1],h,x⟩ K = d_q054 C gl p_q054_k1 p_q054_k2 v0 v1 h x K:=E_q054
def P_q049 : ACode:=(.seq (.reg [
  ⟨some 0,none,.mv (.c (.p (.bool false)))⟩] (some []))
 (.seq (.reg [
  ⟨some 5,none,.bsl false none 2 (.int .i64 0) [(0,(.c (.p (.int .i64 1)))),(1,(.c (.p (.int .i64 3))))]⟩,
  ⟨some 6,none,.call f_q02l [(.t 5)]⟩,
  ⟨some 4,none,.mv (.t 6)⟩,
  ⟨some 7,none,.ext (.t 4) 0⟩,
  ⟨some 8,none,.ext (.t 4) 1⟩,
  ⟨some 9,none,.ext (.t 4) 2⟩,
  ⟨some 1,none,.alloc [.p (.int .i64 0),.p (.int .i64 0)]⟩,
  ⟨some 2,none,.alloc [.p (.int .i64 0),.p (.int .i64 0)]⟩,
  ⟨none,none,.store (some 2) (.t 1) (.t 7)⟩,
  ⟨none,none,.store (some 2) (.t 2) (.t 8)⟩,
  ⟨some 3,none,.mv (.t 9)⟩] (some [1,2,3]))
 (.seq (.reg [
  ⟨some 10,none,.mv (.t 3)⟩,
  ⟨some 11,none,.bin .eql (.t 10) (.c (.p (.int .i64 0)))⟩,
  ⟨some 12,none,.mv (.t 11)⟩,
  ⟨some 13,(some (12,true)),.load (some 2) (.t 1)⟩,
  ⟨some 14,(some (12,true)),.build [.p (.int .i64 0),.p (.int .i64 0)] [(0,1,(.c (.p (.int .i64 2)))),(1,1,(.c (.p (.int .i64 1))))]⟩,
  ⟨some 15,(some (12,true)),.eqa [0,0] false (.t 13) (.t 14)⟩,
  ⟨some 16,none,.pick (.t 12) (.t 15) (.c (.p (.bool false)))⟩,
  ⟨some 17,none,.mv (.t 16)⟩,
  ⟨some 18,(some (17,true)),.load (some 2) (.t 2)⟩,
  ⟨some 19,(some (17,true)),.build [.p (.int .i64 0),.p (.int .i64 0)] [(0,1,(.c (.p (.int .i64 1)))),(1,1,(.c (.p (.int .i64 1))))]⟩,
  ⟨some 20,(some (17,true)),.eqa [0,0] false (.t 18) (.t 19)⟩,
  ⟨some 21,none,.pick (.t 17) (.t 20) (.c (.p (.bool false)))⟩,
  ⟨some 0,none,.mv (.t 21)⟩] (some [0]))
 .ret)))
def a_q049 : AFun:=⟨0,[.t 0],P_q049,false,false⟩
def d_q049 (C : Hd) (gl : Nat → Option PV) (h : Heap) (x : Esc) (K : Ex → St → Prop) : Prop:=
 wK (oBsl false none 2 (.int .i64 0) [(0,(.p (.int .i64 1))),(1,(.p (.int .i64 3)))] h) fun t1 h2 y3=>
 C f_q02l [t1] h2 fun t4 h5 y6=>
 pK (oExt t4 0) fun t7=>
 pK (oExt t4 1) fun t8=>
 pK (oExt t4 2) fun t9=>
 alK [.p (.int .i64 0),.p (.int .i64 0)] h5 fun t10 h11 y12=>
 alK [.p (.int .i64 0),.p (.int .i64 0)] h11 fun t13 h14 y15=>
 wK (oStore (some 2) t10 t7 h14) fun t16 h17 y18=>
 wK (oStore (some 2) t13 t8 h17) fun t19 h20 y21=>
 pK (oBin .eql t9 (.p (.int .i64 0))) fun t22=>
 gP t22 true (oLoad (some 2) t10 h20) h20 fun t23 h24 y25=>
 gP t22 true (oBuild [.p (.int .i64 0),.p (.int .i64 0)] [(0,1,(.p (.int .i64 2))),(1,1,(.p (.int .i64 1)))]) h24 fun t26 h27 y28=>
 gP t22 true (oEqa [0,0] false t23 t26) h27 fun t29 h30 y31=>
 pK (oPick t22 t29 (.p (.bool false))) fun t32=>
 gP t32 true (oLoad (some 2) t13 h30) h30 fun t33 h34 y35=>
 gP t32 true (oBuild [.p (.int .i64 0),.p (.int .i64 0)] [(0,1,(.p (.int .i64 1))),(1,1,(.p (.int .i64 1)))]) h34 fun t36 h37 y38=>
 gP t32 true (oEqa [0,0] false t33 t36) h37 fun t39 h40 y41=>
 pK (oPick t32 t39 (.p (.bool false))) fun t42=>
 K .ret ⟨[(0,t42)],h40,(y41 ++ (y38 ++ (y35 ++ (y31 ++ (y28 ++ (y25 ++ (y21 ++ (y18 ++ (y15 ++ (y12 ++ (y6 ++ (y3 ++ x))))))))))))⟩
theorem E_q049 {C gl h x K} : NW C gl (P_q049) ⟨enter [],h,x⟩ K = d_q049 C gl h x K:=by kernel_rfl
theorem e_q049 {C gl h x K} : NW C gl a_q049.body ⟨enter [],h,x⟩ K = d_q049 C gl h x K:=E_q049
def P_q02l : ACode:=(.seq (.reg [
  ⟨some 2,none,.alloc [.p (.int .i64 0),.p (.int .i64 0)]⟩,
  ⟨some 3,none,.alloc [.p (.int .i64 0),.p (.int .i64 0)]⟩,
  ⟨some 4,none,.mv (.c (.p (.int .i64 0)))⟩] (some [0,2,3]))
 (.seq (.seq (.reg [
  ⟨some 9,none,.mv (.t 0)⟩,
  ⟨some 10,none,.call f_q03h [(.t 9),(.c (.p (.int .i64 1)))]⟩,
  ⟨some 5,none,.mv (.t 10)⟩] (some [0,2,3,5]))
 (.seq (.reg [
  ⟨some 11,none,.mv (.t 5)⟩,
  ⟨some 12,none,.bin .neq (.t 11) (.c (.p (.int .i64 0)))⟩] (some [0,2,3,5,12]))
 (.cond (.t 12) (.seq (.reg [
  ⟨some 13,none,.build [.p (.int .i64 0),.p (.int .i64 0)] []⟩,
  ⟨some 14,none,.build [.p (.int .i64 0),.p (.int .i64 0)] []⟩,
  ⟨some 15,none,.mv (.t 5)⟩,
  ⟨none,none,.store (some 2) (.t 2) (.t 13)⟩,
  ⟨none,none,.store (some 2) (.t 3) (.t 14)⟩,
  ⟨some 4,none,.mv (.t 15)⟩] (some [2,3,4]))
 .ret)
 .skip)))
 (.seq (.reg [
  ⟨some 17,none,.mv (.t 0)⟩,
  ⟨some 18,none,.call f_q03e [(.t 17)]⟩,
  ⟨some 16,none,.mv (.t 18)⟩,
  ⟨some 19,none,.ext (.t 16) 0⟩,
  ⟨some 20,none,.ext (.t 16) 1⟩,
  ⟨some 6,none,.mv (.t 19)⟩,
  ⟨some 7,none,.mv (.t 20)⟩] (some [0,2,3,6,7]))
 (.seq (.reg [
  ⟨some 21,none,.mv (.t 0)⟩,
  ⟨some 22,none,.len (.t 21)⟩,
  ⟨some 8,none,.mv (.t 22)⟩] (some [2,3,6,7,8]))
 (.seq (.reg [
  ⟨some 23,none,.mv (.t 6)⟩,
  ⟨some 24,none,.mv (.t 8)⟩,
  ⟨some 25,none,.call f_q005 [(.t 23),(.t 24)]⟩,
  ⟨some 26,none,.mv (.t 7)⟩,
  ⟨some 27,none,.mv (.t 8)⟩,
  ⟨some 28,none,.mv (.t 8)⟩,
  ⟨some 29,none,.bin .mul (.t 27) (.t 28)⟩,
  ⟨some 30,none,.call f_q005 [(.t 26),(.t 29)]⟩,
  ⟨none,none,.store (some 2) (.t 2) (.t 25)⟩,
  ⟨none,none,.store (some 2) (.t 3) (.t 30)⟩,
  ⟨some 4,none,.mv (.c (.p (.int .i64 0)))⟩] (some [2,3,4]))
 .ret)))))
def a_q02l : AFun:=⟨1,[.cell 2 (some 2),.cell 3 (some 2),.t 4],P_q02l,false,false⟩
def d_q02l (C : Hd) (gl : Nat → Option PV) (v0 : AV) (h : Heap) (x : Esc) (K : Ex → St → Prop) : Prop:=
 alK [.p (.int .i64 0),.p (.int .i64 0)] h fun t1 h2 y3=>
 alK [.p (.int .i64 0),.p (.int .i64 0)] h2 fun t4 h5 y6=>
 C f_q03h [v0,(.p (.int .i64 1))] h5 fun t7 h8 y9=>
 pK (oBin .neq t7 (.p (.int .i64 0))) fun t10=>
 condB t10 (pK (oBuild [.p (.int .i64 0),.p (.int .i64 0)] []) fun t11=>
 pK (oBuild [.p (.int .i64 0),.p (.int .i64 0)] []) fun t12=>
 wK (oStore (some 2) t1 t11 h8) fun t13 h14 y15=>
 wK (oStore (some 2) t4 t12 h14) fun t16 h17 y18=>
 K .ret ⟨[(2,t1),(3,t4),(4,t7)],h17,(y18 ++ (y15 ++ (y9 ++ (y6 ++ (y3 ++ x)))))⟩)
 (C f_q03e [v0] h8 fun t19 h20 y21=>
 pK (oExt t19 0) fun t22=>
 pK (oExt t19 1) fun t23=>
 pK (oLen v0) fun t24=>
 C f_q005 [t22,t24] h20 fun t25 h26 y27=>
 pK (oBin .mul t24 t24) fun t28=>
 C f_q005 [t23,t28] h26 fun t29 h30 y31=>
 wK (oStore (some 2) t1 t25 h30) fun t32 h33 y34=>
 wK (oStore (some 2) t4 t29 h33) fun t35 h36 y37=>
 K .ret ⟨[(2,t1),(3,t4),(4,(.p (.int .i64 0)))],h36,(y37 ++ (y34 ++ (y31 ++ (y27 ++ (y21 ++ (y9 ++ (y6 ++ (y3 ++ x))))))))⟩)
theorem E_q02l {C gl v0 h x K} : NW C gl (P_q02l) ⟨enter [v0],h,x⟩ K = d_q02l C gl v0 h x K:=by kernel_rfl
theorem e_q02l {C gl v0 h x K} : NW C gl a_q02l.body ⟨enter [v0],h,x⟩ K = d_q02l C gl v0 h x K:=E_q02l
def P_q04g : ACode:=(.seq (.reg [
  ⟨some 6,none,.mv (.c (.p (.int .i64 0)))⟩] (some [0,1,2]))
 (.seq (.seq (.reg [
  ⟨some 7,none,.mv (.t 0)⟩,
  ⟨some 8,none,.call f_q04d [(.t 7),(.c (.p (.int .i64 12)))]⟩] (some [0,1,2,8]))
 (.cond (.t 8) (.seq (.reg [
  ⟨some 9,none,.mv (.t 0)⟩,
  ⟨some 10,none,.mv (.t 1)⟩,
  ⟨some 11,none,.bin .sub (.t 10) (.c (.p (.int .i64 1)))⟩,
  ⟨some 12,none,.mv (.t 2)⟩,
  ⟨some 13,none,.bin .add (.t 12) (.c (.p (.int .i64 1)))⟩,
  ⟨some 14,none,.mv (.t 1)⟩,
  ⟨some 15,none,.mv (.t 2)⟩,
  ⟨some 16,none,.bsl false none 6 (.int .i64 0) [(0,(.t 11)),(1,(.t 13)),(2,(.t 14)),(3,(.t 15)),(4,(.c (.p (.int .i64 (-1099511627776))))),(5,(.c (.p (.int .i64 1099511627776))))]⟩,
  ⟨some 17,none,.call f_q04h [(.t 9),(.t 16)]⟩,
  ⟨some 6,none,.mv (.t 17)⟩] (some [6]))
 .ret)
 .skip))
 (.seq (.reg [
  ⟨some 18,none,.mv (.t 0)⟩,
  ⟨some 19,none,.mv (.t 1)⟩,
  ⟨some 20,none,.mv (.t 2)⟩,
  ⟨some 21,none,.call f_q04i [(.t 18),(.t 19),(.t 20)]⟩,
  ⟨some 6,none,.mv (.t 21)⟩] (some [6]))
 .ret)))
def a_q04g : AFun:=⟨3,[.t 6],P_q04g,false,false⟩
def d_q04g (C : Hd) (gl : Nat → Option PV) (v0 v1 v2 : AV) (h : Heap) (x : Esc) (K : Ex → St → Prop) : Prop:=
 C f_q04d [v0,(.p (.int .i64 12))] h fun t1 h2 y3=>
 condB t1 (pK (oBin .sub v1 (.p (.int .i64 1))) fun t4=>
 pK (oBin .add v2 (.p (.int .i64 1))) fun t5=>
 wK (oBsl false none 6 (.int .i64 0) [(0,t4),(1,t5),(2,v1),(3,v2),(4,(.p (.int .i64 (-1099511627776)))),(5,(.p (.int .i64 1099511627776)))] h2) fun t6 h7 y8=>
 C f_q04h [v0,t6] h7 fun t9 h10 y11=>
 K .ret ⟨[(6,t9)],h10,(y11 ++ (y8 ++ (y3 ++ x)))⟩)
 (C f_q04i [v0,v1,v2] h2 fun t12 h13 y14=>
 K .ret ⟨[(6,t12)],h13,(y14 ++ (y3 ++ x))⟩)
theorem E_q04g {C gl v0 v1 v2 h x K} : NW C gl (P_q04g) ⟨enter [v0,v1,v2],h,x⟩ K = d_q04g C gl v0 v1 v2 h x K:=by kernel_rfl
theorem e_q04g {C gl v0 v1 v2 h x K} : NW C gl a_q04g.body ⟨enter [v0,v1,v2],h,x⟩ K = d_q04g C gl v0 v1 v2 h x K:=E_q04g
def p_q027_k1 : ACode:=.pr [0,9,25,26,27] (.seq (.reg [
  ⟨some 28,none,.bin .lss (.t 27) (.t 26)⟩] (some [0,9,25,26,27,28]))
 (.seq (.cond (.t 28) .skip
 (.exit 0))
 (.seq (.block 1 (.seq (.reg [
  ⟨some 29,none,.iaddr (some 4) (.t 25) (.t 27)⟩,
  ⟨some 30,none,.load (some 4) (.t 29)⟩,
  ⟨some 11,none,.alloc [.p (.str []),.p (.int .i64 0),.p (.str []),.sl0 none]⟩,
  ⟨none,none,.store (some 4) (.t 11) (.t 30)⟩] (some [0,9,11,25,26,27]))
 (.reg [
  ⟨some 31,none,.mv (.t 9)⟩,
  ⟨some 32,none,.mv (.t 0)⟩,
  ⟨some 33,none,.load (some 4) (.t 11)⟩,
  ⟨some 34,none,.call f_q02s [(.t 32),(.t 33)]⟩,
  ⟨some 35,none,.look (none,[0]) false (.p (.int .i64 0)) (.t 31) (.t 34)⟩,
  ⟨some 36,none,.bin .add (.t 35) (.c (.p (.int .i64 1)))⟩,
  ⟨none,none,.mupd (none,[0]) (.t 31) (.t 34) (.t 36)⟩] (some [0,9,25,26,27]))))
 (.reg [
  ⟨some 37,none,.bin .add (.t 27) (.c (.p (.int .i64 1)))⟩,
  ⟨some 27,none,.mv (.t 37)⟩] (some [0,9,25,26,27])))))
def d_q027_k1 (C : Hd) (gl : Nat → Option PV) (v0 v9 v25 v26 v27 : AV) (h : Heap) (x : Esc) (K : Ex → St → Prop) : Prop:=
 pK (oBin .lss v27 v26) fun t1=>
 condB t1 (pK (oIaddr (some 4) v25 v27 h) fun t2=>
 pK (oLoad (some 4) t2 h) fun t3=>
 alK [.p (.str []),.p (.int .i64 0),.p (.str []),.sl0 none] h fun t4 h5 y6=>
 wK (oStore (some 4) t4 t3 h5) fun t7 h8 y9=>
 pK (oLoad (some 4) t4 h8) fun t10=>
 C f_q02s [v0,t10] h8 fun t11 h12 y13=>
 pK (oLook (none,[0]) false (.p (.int .i64 0)) v9 t11 h12) fun t14=>
 pK (oBin .add t14 (.p (.int .i64 1))) fun t15=>
 wK (oMupd (none,[0]) v9 t11 t15 h12) fun t16 h17 y18=>
 pK (oBin .add v27 (.p (.int .i64 1))) fun t19=>
 K .normal ⟨[(0,v0),(9,v9),(25,v25),(26,v26),(27,t19)],h17,(y18 ++ (y13 ++ (y9 ++ (y6 ++ x))))⟩)
 (K (.exit 0) ⟨[(0,v0),(9,v9),(25,v25),(26,v26),(27,v27),(28,t1)],h,x⟩)
theorem e_q027_k1 {C gl e h x K} : NW C gl p_q027_k1 ⟨e,h,x⟩ K = d_q027_k1 C gl (aget e 0) (aget e 9) (aget e 25) (aget e 26) (aget e 27) h x K:=by kernel_rfl
theorem l_q027_k1 {C gl e h x K} : NW C gl (.loop (.scope p_q027_k1)) ⟨e,h,x⟩ K = NLoop C gl (.scope p_q027_k1) K [(0,aget e 0),(9,aget e 9),(25,aget e 25),(26,aget e 26),(27,aget e 27)] h x:=NLoop_sc
def p_q027_k2 : ACode:=.pr [9,12,13] (.reg [
  ⟨some 40,none,.mv (.t 13)⟩,
  ⟨some 41,none,.bin .add (.t 40) (.c (.p (.int .i64 1)))⟩,
  ⟨some 13,none,.mv (.t 41)⟩] (some [9,12,13]))
def d_q027_k2 (C : Hd) (gl : Nat → Option PV) (v9 v12 v13 : AV) (h : Heap) (x : Esc) (K : Ex → St → Prop) : Prop:=
 pK (oBin .add v13 (.p (.int .i64 1))) fun t1=>
 K .normal ⟨[(9,v9),(12,v12),(13,t1)],h,x⟩
theorem e_q027_k2 {C gl e h x K} : NW C gl p_q027_k2 ⟨e,h,x⟩ K = d_q027_k2 C gl (aget e 9) (aget e 12) (aget e 13) h x K:=by kernel_rfl
def P_q027_k3 (q2 : ACode) : ACode:=.pr [9,12,13] (.seq (.seq (.reg [
  ⟨some 38,none,.mv (.t 13)⟩,
  ⟨some 39,none,.bin .leq (.t 38) (.c (.p (.int .i64 100)))⟩] (some [9,12,13,39]))
 (.cond (.t 39) .skip
 (.exit 2)))
 (.seq (.block 3 (.seq (.reg [
  ⟨some 42,none,.mv (.t 9)⟩,
  ⟨some 43,none,.mv (.t 13)⟩,
  ⟨some 44,none,.look (none,[0]) false (.p (.int .i64 0)) (.t 42) (.t 43)⟩,
  ⟨some 45,none,.bin .gtr (.t 44) (.c (.p (.int .i64 0)))⟩] (some [9,12,13,45]))
 (.cond (.t 45) (.draw [
   ⟨⟨some 46,none,.mv (.t 12)⟩,[12],false,[],[]⟩,
   ⟨⟨some 47,none,.mv (.t 13)⟩,[13],false,[],[]⟩,
   ⟨⟨some 48,none,.call f_q08p [(.t 47)]⟩,[47],true,[],[]⟩,
   ⟨⟨some 49,none,.mv (.t 9)⟩,[9],false,[],[]⟩,
   ⟨⟨some 50,none,.mv (.t 13)⟩,[13],false,[],[]⟩,
   ⟨⟨some 51,none,.look (none,[0]) false (.p (.int .i64 0)) (.t 49) (.t 50)⟩,[49,50],false,[2],[]⟩,
   ⟨⟨some 52,none,.call f_q037 [(.t 48),(.t 51)]⟩,[48,51],true,[],[]⟩,
   ⟨⟨some 53,none,.bsl false (some 2) 1 (.agg [.str [],.str []]) [(0,(.t 52))]⟩,[52],false,[],[]⟩,
   ⟨⟨some 54,none,.app (some 2) (.t 46) (.t 53)⟩,[46,53],true,[],[]⟩,
   ⟨⟨some 12,none,.mv (.t 54)⟩,[54],false,[],[]⟩] (some [9,12,13]))
 .skip)))
 q2))
def p_q027_k3 : ACode:=P_q027_k3 p_q027_k2
def d_q027_k3 (C : Hd) (gl : Nat → Option PV) (q2 : ACode) (v9 v12 v13 : AV) (h : Heap) (x : Esc) (K : Ex → St → Prop) : Prop:=
 pK (oBin .leq v13 (.p (.int .i64 100))) fun t1=>
 condB t1 (pK (oLook (none,[0]) false (.p (.int .i64 0)) v9 v13 h) fun t2=>
 pK (oBin .gtr t2 (.p (.int .i64 0))) fun t3=>
 condB t3 (callE C f_q08p [v13] h fun t4 h5 y6=>
 pK (oLook (none,[0]) false (.p (.int .i64 0)) v9 v13 h5) fun t7=>
 (pK (oLook (none,[0]) false (.p (.int .i64 0)) v9 v13 h) fun v=>(fun u (g1 : Heap) (y1 : Esc)=>u = t7 ∧ g1 = h ∧ y1 = []) v h []) ∧ (callE C f_q037 [t4,t7] h5 fun t8 h9 y10=>
 wK (oBsl false (some 2) 1 (.agg [.str [],.str []]) [(0,t8)] h9) fun t11 h12 y13=>
 (h12 = h9 ∧ y13 = []) ∧ (wK (oApp (some 2) v12 t11 h12) fun t14 h15 y16=>
 NW C gl q2 ⟨[(9,v9),(12,t14),(13,v13)],h15,(y16 ++ (y13 ++ (y10 ++ (y6 ++ x))))⟩ K)))
 (NW C gl q2 ⟨[(9,v9),(12,v12),(13,v13),(45,t3)],h,x⟩ K))
 (K (.exit 2) ⟨[(9,v9),(12,v12),(13,v13),(39,t1)],h,x⟩)
theorem E_q027_k3 {C gl q2 e h x K} : NW C gl (P_q027_k3 q2) ⟨e,h,x⟩ K = d_q027_k3 C gl q2 (aget e 9) (aget e 12) (aget e 13) h x K:=by kernel_rfl
theorem e_q027_k3 {C gl e h x K} : NW C gl p_q027_k3 ⟨e,h,x⟩ K = d_q027_k3 C gl p_q027_k2 (aget e 9) (aget e 12) (aget e 13) h x K:=E_q027_k3
theorem l_q027_k3 {C gl e h x K} : NW C gl (.loop (.scope p_q027_k3)) ⟨e,h,x⟩ K = NLoop C gl (.scope p_q027_k3) K [(9,aget e 9),(12,aget e 12),(13,aget e 13)] h x:=NLoop_sc
def p_q027_k4 : ACode:=.pr [12] (.seq (.reg [
  ⟨some 55,none,.mv (.t 12)⟩,
  ⟨some 6,none,.mv (.t 55)⟩,
  ⟨some 7,none,.mv (.c (.p (.int .i64 0)))⟩] (some [6,7]))
 .ret)
def d_q027_k4 (C : Hd) (gl : Nat → Option PV) (v12 : AV) (h : Heap) (x : Esc) (K : Ex → St → Prop) : Prop:=
 K .ret ⟨[(6,v12),(7,(.p (.int .i64 0)))],h,x⟩
theorem e_q027_k4 {C gl e h x K} : NW C gl p_q027_k4 ⟨e,h,x⟩ K = d_q027_k4 C gl (aget e 12) h x K:=by kernel_rfl
def P_q027_k5 (q3 q4 : ACode) : ACode:=.pr [9] (.seq (.reg [
  ⟨some 12,none,.new0 (some 2)⟩] (some [9,12]))
 (.seq (.seq (.reg [
  ⟨some 13,none,.mv (.c (.p (.int .i64 1)))⟩] (some [9,12,13]))
 (.block 2 (.loop (.scope q3))))
 q4))
def p_q027_k5 : ACode:=P_q027_k5 p_q027_k3 p_q027_k4
def d_q027_k5 (C : Hd) (gl : Nat → Option PV) (q3 q4 : ACode) (v9 : AV) (h : Heap) (x : Esc) (K : Ex → St → Prop) : Prop:=
 nwK (some 2) h fun t1 h2 y3=>
 NW C gl (.loop (.scope q3)) ⟨[(9,v9),(12,t1),(13,(.p (.int .i64 1)))],h2,(y3 ++ x)⟩ (blockN 2 (seqN C gl q4 K))
theorem E_q027_k5 {C gl q3 q4 e h x K} : NW C gl (P_q027_k5 q3 q4) ⟨e,h,x⟩ K = d_q027_k5 C gl q3 q4 (aget e 9) h x K:=by kernel_rfl
theorem e_q027_k5 {C gl e h x K} : NW C gl p_q027_k5 ⟨e,h,x⟩ K = d_q027_k5 C gl p_q027_k3 p_q027_k4 (aget e 9) h x K:=E_q027_k5
def P_q027 (q1 q5 : ACode) : ACode:=(.seq (.reg [
  ⟨some 6,none,.mv (.c (.p (.sl (some 2) [])))⟩,
  ⟨some 7,none,.mv (.c (.p (.int .i64 0)))⟩] (some [0,1,2]))
 (.seq (.seq (.reg [
  ⟨some 14,none,.mv (.t 0)⟩,
  ⟨some 15,none,.mv (.t 1)⟩,
  ⟨some 16,none,.mv (.t 2)⟩,
  ⟨some 17,none,.call f_q03c [(.t 14),(.t 15),(.t 16)]⟩,
  ⟨some 8,none,.mv (.t 17)⟩] (some [0,1,2,8]))
 (.seq (.reg [
  ⟨some 18,none,.mv (.t 8)⟩,
  ⟨some 19,none,.bin .neq (.t 18) (.c (.p (.int .i64 0)))⟩] (some [0,1,2,8,19]))
 (.cond (.t 19) (.seq (.reg [
  ⟨some 20,none,.mv (.t 8)⟩,
  ⟨some 6,none,.mv (.c (.p (.sl (some 2) [])))⟩,
  ⟨some 7,none,.mv (.t 20)⟩] (some [6,7]))
 .ret)
 .skip)))
 (.seq (.reg [
  ⟨some 21,none,.mkmap⟩,
  ⟨some 9,none,.mv (.t 21)⟩] (some [0,1,2,9]))
 (.seq (.seq (.reg [
  ⟨some 22,none,.mv (.t 0)⟩,
  ⟨some 23,none,.mv (.t 1)⟩,
  ⟨some 24,none,.mv (.t 2)⟩,
  ⟨some 25,none,.call f_q030 [(.t 22),(.t 23),(.t 24)]⟩,
  ⟨some 26,none,.len (.t 25)⟩,
  ⟨some 27,none,.mv (.c (.p (.int .i64 0)))⟩] (some [0,9,25,26,27]))
 (.block 0 (.loop (.scope q1))))
 q5))))
def a_q027 : AFun:=⟨3,[.t 6,.t 7],P_q027 p_q027_k1 p_q027_k5,false,false⟩
def d_q027 (C : Hd) (gl : Nat → Option PV) (q1 q5 : ACode) (v0 v1 v2 : AV) (h : Heap) (x : Esc) (K : Ex → St → Prop) : Prop:=
 C f_q03c [v0,v1,v2] h fun t1 h2 y3=>
 pK (oBin .neq t1 (.p (.int .i64 0))) fun t4=>
 condB t4 (K .ret ⟨[(6,(.p (.sl (some 2) []))),(7,t1)],h2,(y3 ++ x)⟩)
 (mmK h2 fun t5 h6 y7=>
 C f_q030 [v0,v1,v2] h6 fun t8 h9 y10=>
 pK (oLen t8) fun t11=>
 NW C gl (.loop (.scope q1)) ⟨[(0,v0),(9,t5),(25,t8),(26,t11),(27,(.p (.int .i64 0)))],h9,(y10 ++ (y7 ++ (y3 ++ x)))⟩ (blockN 0 (seqN C gl q5 K)))
theorem E_q027 {C gl q1 q5 v0 v1 v2 h x K} : NW C gl (P_q027 q1 q5) ⟨enter [v0,v1,v2],h,x⟩ K = d_q027 C gl q1 q5 v0 v1 v2 h x K:=by kernel_rfl
theorem e_q027 {C gl v0 v1 v2 h x K} : NW C gl a_q027.body ⟨enter [v0,v1,v2],h,x⟩ K = d_q027 C gl p_q027_k1 p_q027_k5 v0 v1 v2 h x K:=E_q027
def p_q02f_k1 : ACode:=.pr [0,9,32,33,34] (.reg [
  ⟨some 49,none,.bin .add (.t 34) (.c (.p (.int .i64 1)))⟩,
  ⟨some 34,none,.mv (.t 49)⟩] (some [0,9,32,33,34]))
def d_q02f_k1 (C : Hd) (gl : Nat → Option PV) (v0 v9 v32 v33 v34 : AV) (h : Heap) (x : Esc) (K : Ex → St → Prop) : Prop:=
 pK (oBin .add v34 (.p (.int .i64 1))) fun t1=>
 K .normal ⟨[(0,v0),(9,v9),(32,v32),(33,v33),(34,t1)],h,x⟩
theorem e_q02f_k1 {C gl e h x K} : NW C gl p_q02f_k1 ⟨e,h,x⟩ K = d_q02f_k1 C gl (aget e 0) (aget e 9) (aget e 32) (aget e 33) (aget e 34) h x K:=by kernel_rfl
def P_q02f_k2 (q1 : ACode) : ACode:=.pr [0,9,32,33,34] (.seq (.reg [
  ⟨some 35,none,.bin .lss (.t 34) (.t 33)⟩] (some [0,9,32,33,34,35]))
 (.seq (.cond (.t 35) .skip
 (.exit 0))
 (.seq (.block 1 (.seq (.reg [
  ⟨some 36,none,.iaddr (some 4) (.t 32) (.t 34)⟩,
  ⟨some 37,none,.load (some 4) (.t 36)⟩,
  ⟨some 11,none,.alloc [.p (.str []),.p (.int .i64 0),.p (.str []),.sl0 none]⟩,
  ⟨none,none,.store (some 4) (.t 11) (.t 37)⟩] (some [0,9,11,32,33,34]))
 (.seq (.reg [
  ⟨some 38,none,.mv (.t 0)⟩,
  ⟨some 39,none,.load (some 4) (.t 11)⟩,
  ⟨some 40,none,.call f_q02z [(.t 38),(.t 39)]⟩,
  ⟨some 12,none,.mv (.t 40)⟩] (some [0,9,12,32,33,34]))
 (.seq (.reg [
  ⟨some 41,none,.mv (.t 12)⟩,
  ⟨some 42,none,.bin .geq (.t 41) (.c (.p (.int .i64 0)))⟩] (some [0,9,12,32,33,34,42]))
 (.cond (.t 42) (.reg [
  ⟨some 43,none,.load none (.t 9)⟩,
  ⟨some 44,none,.mv (.t 12)⟩,
  ⟨some 45,none,.iaddr none (.t 43) (.t 44)⟩,
  ⟨some 46,none,.load none (.t 45)⟩,
  ⟨some 47,none,.bin .add (.t 46) (.c (.p (.int .i64 1)))⟩,
  ⟨some 48,none,.iaddr none (.t 43) (.t 44)⟩,
  ⟨none,none,.store none (.t 48) (.t 47)⟩] (some [0,9,32,33,34]))
 .skip)))))
 q1)))
def p_q02f_k2 : ACode:=P_q02f_k2 p_q02f_k1
def d_q02f_k2 (C : Hd) (gl : Nat → Option PV) (q1 : ACode) (v0 v9 v32 v33 v34 : AV) (h : Heap) (x : Esc) (K : Ex → St → Prop) : Prop:=
 pK (oBin .lss v34 v33) fun t1=>
 condB t1 (pK (oIaddr (some 4) v32 v34 h) fun t2=>
 pK (oLoad (some 4) t2 h) fun t3=>
 alK [.p (.str []),.p (.int .i64 0),.p (.str []),.sl0 none] h fun t4 h5 y6=>
 wK (oStore (some 4) t4 t3 h5) fun t7 h8 y9=>
 pK (oLoad (some 4) t4 h8) fun t10=>
 C f_q02z [v0,t10] h8 fun t11 h12 y13=>
 pK (oBin .geq t11 (.p (.int .i64 0))) fun t14=>
 condB t14 (pK (oLoad none v9 h12) fun t15=>
 pK (oIaddr none t15 t11 h12) fun t16=>
 pK (oLoad none t16 h12) fun t17=>
 pK (oBin .add t17 (.p (.int .i64 1))) fun t18=>
 pK (oIaddr none t15 t11 h12) fun t19=>
 wK (oStore none t19 t18 h12) fun t20 h21 y22=>
 NW C gl q1 ⟨[(0,v0),(9,v9),(32,v32),(33,v33),(34,v34)],h21,(y22 ++ (y13 ++ (y9 ++ (y6 ++ x))))⟩ K)
 (NW C gl q1 ⟨[(0,v0),(9,v9),(12,t11),(32,v32),(33,v33),(34,v34),(42,t14)],h12,(y13 ++ (y9 ++ (y6 ++ x)))⟩ K))
 (K (.exit 0) ⟨[(0,v0),(9,v9),(32,v32),(33,v33),(34,v34),(35,t1)],h,x⟩)
theorem E_q02f_k2 {C gl q1 e h x K} : NW C gl (P_q02f_k2 q1) ⟨e,h,x⟩ K = d_q02f_k2 C gl q1 (aget e 0) (aget e 9) (aget e 32) (aget e 33) (aget e 34) h x K:=by kernel_rfl
theorem e_q02f_k2 {C gl e h x K} : NW C gl p_q02f_k2 ⟨e,h,x⟩ K = d_q02f_k2 C gl p_q02f_k1 (aget e 0) (aget e 9) (aget e 32) (aget e 33) (aget e 34) h x K:=E_q02f_k2
theorem l_q02f_k2 {C gl e h x K} : NW C gl (.loop (.scope p_q02f_k2)) ⟨e,h,x⟩ K = NLoop C gl (.scope p_q02f_k2) K [(0,aget e 0),(9,aget e 9),(32,aget e 32),(33,aget e 33),(34,aget e 34)] h x:=NLoop_sc
def p_q02f_k3 : ACode:=.pr [0,9,13,50,51,52] (.reg [
  ⟨some 63,none,.bin .add (.t 52) (.c (.p (.int .i64 1)))⟩,
  ⟨some 52,none,.mv (.t 63)⟩] (some [0,9,13,50,51,52]))
def d_q02f_k3 (C : Hd) (gl : Nat → Option PV) (v0 v9 v13 v50 v51 v52 : AV) (h : Heap) (x : Esc) (K : Ex → St → Prop) : Prop:=
 pK (oBin .add v52 (.p (.int .i64 1))) fun t1=>
 K .normal ⟨[(0,v0),(9,v9),(13,v13),(50,v50),(51,v51),(52,t1)],h,x⟩
theorem e_q02f_k3 {C gl e h x K} : NW C gl p_q02f_k3 ⟨e,h,x⟩ K = d_q02f_k3 C gl (aget e 0) (aget e 9) (aget e 13) (aget e 50) (aget e 51) (aget e 52) h x K:=by kernel_rfl
def P_q02f_k4 (q3 : ACode) : ACode:=.pr [0,9,13,50,51,52] (.seq (.reg [
  ⟨some 53,none,.bin .lss (.t 52) (.t 51)⟩] (some [0,9,13,50,51,52,53]))
 (.seq (.cond (.t 53) .skip
 (.exit 2))
 (.seq (.block 3 (.seq (.reg [
  ⟨some 54,none,.mv (.t 52)⟩,
  ⟨some 55,none,.iaddr none (.t 50) (.t 52)⟩,
  ⟨some 56,none,.load none (.t 55)⟩,
  ⟨some 14,none,.mv (.t 54)⟩,
  ⟨some 15,none,.mv (.t 56)⟩] (some [0,9,13,14,15,50,51,52]))
 (.seq (.reg [
  ⟨some 57,none,.mv (.t 15)⟩,
  ⟨some 58,none,.bin .gtr (.t 57) (.c (.p (.int .i64 0)))⟩] (some [0,9,13,14,50,51,52,58]))
 (.cond (.t 58) (.reg [
  ⟨some 59,none,.mv (.t 13)⟩,
  ⟨some 60,none,.mv (.t 14)⟩,
  ⟨some 61,none,.bsl false none 1 (.int .i64 0) [(0,(.t 60))]⟩,
  ⟨some 62,none,.app none (.t 59) (.t 61)⟩,
  ⟨some 13,none,.mv (.t 62)⟩] (some [0,9,13,50,51,52]))
 .skip))))
 q3)))
def p_q02f_k4 : ACode:=P_q02f_k4 p_q02f_k3
def d_q02f_k4 (C : Hd) (gl : Nat → Option PV) (q3 : ACode) (v0 v9 v13 v50 v51 v52 : AV) (h : Heap) (x : Esc) (K : Ex → St → Prop) : Prop:=
 pK (oBin .lss v52 v51) fun t1=>
 condB t1 (pK (oIaddr none v50 v52 h) fun t2=>
 pK (oLoad none t2 h) fun t3=>
 pK (oBin .gtr t3 (.p (.int .i64 0))) fun t4=>
 condB t4 (wK (oBsl false none 1 (.int .i64 0) [(0,v52)] h) fun t5 h6 y7=>
 wK (oApp none v13 t5 h6) fun t8 h9 y10=>
 NW C gl q3 ⟨[(0,v0),(9,v9),(13,t8),(50,v50),(51,v51),(52,v52)],h9,(y10 ++ (y7 ++ x))⟩ K)
 (NW C gl q3 ⟨[(0,v0),(9,v9),(13,v13),(14,v52),(50,v50),(51,v51),(52,v52),(58,t4)],h,x⟩ K))
 (K (.exit 2) ⟨[(0,v0),(9,v9),(13,v13),(50,v50),(51,v51),(52,v52),(53,t1)],h,x⟩)
theorem E_q02f_k4 {C gl q3 e h x K} : NW C gl (P_q02f_k4 q3) ⟨e,h,x⟩ K = d_q02f_k4 C gl q3 (aget e 0) (aget e 9) (aget e 13) (aget e 50) (aget e 51) (aget e 52) h x K:=by kernel_rfl
theorem e_q02f_k4 {C gl e h x K} : NW C gl p_q02f_k4 ⟨e,h,x⟩ K = d_q02f_k4 C gl p_q02f_k3 (aget e 0) (aget e 9) (aget e 13) (aget e 50) (aget e 51) (aget e 52) h x K:=E_q02f_k4
theorem l_q02f_k4 {C gl e h x K} : NW C gl (.loop (.scope p_q02f_k4)) ⟨e,h,x⟩ K = NLoop C gl (.scope p_q02f_k4) K [(0,aget e 0),(9,aget e 9),(13,aget e 13),(50,aget e 50),(51,aget e 51),(52,aget e 52)] h x:=NLoop_sc
def p_q02f_k5 : ACode:=.pr [0,9,16,67,68,69] (.seq (.reg [
  ⟨some 70,none,.bin .lss (.t 69) (.t 68)⟩] (some [0,9,16,67,68,69,70]))
 (.seq (.cond (.t 70) .skip
 (.exit 4))
 (.seq (.block 5 (.seq (.reg [
  ⟨some 71,none,.iaddr none (.t 67) (.t 69)⟩,
  ⟨some 72,none,.load none (.t 71)⟩,
  ⟨some 18,none,.mv (.t 72)⟩] (some [0,9,16,18,67,68,69]))
 (.draw [
   ⟨⟨some 73,none,.mv (.t 16)⟩,[16],false,[],[]⟩,
   ⟨⟨some 74,none,.mv (.t 0)⟩,[0],false,[],[]⟩,
   ⟨⟨some 75,none,.mv (.t 18)⟩,[18],false,[],[]⟩,
   ⟨⟨some 76,none,.iaddr (some 4) (.t 74) (.t 75)⟩,[74,75],false,[],[]⟩,
   ⟨⟨some 77,none,.faddr 0 none (.t 76)⟩,[76],false,[],[]⟩,
   ⟨⟨some 78,none,.load none (.t 77)⟩,[77],false,[],[]⟩,
   ⟨⟨some 79,none,.load none (.t 9)⟩,[9],false,[],[]⟩,
   ⟨⟨some 80,none,.mv (.t 18)⟩,[18],false,[],[]⟩,
   ⟨⟨some 81,none,.iaddr none (.t 79) (.t 80)⟩,[79,80],false,[],[]⟩,
   ⟨⟨some 82,none,.load none (.t 81)⟩,[81],false,[],[]⟩,
   ⟨⟨some 83,none,.call f_q037 [(.t 78),(.t 82)]⟩,[78,82],true,[],[]⟩,
   ⟨⟨some 84,none,.bsl false (some 2) 1 (.agg [.str [],.str []]) [(0,(.t 83))]⟩,[83],false,[],[]⟩,
   ⟨⟨some 85,none,.app (some 2) (.t 73) (.t 84)⟩,[73,84],true,[],[]⟩,
   ⟨⟨some 16,none,.mv (.t 85)⟩,[85],false,[],[]⟩] (some [0,9,16,67,68,69]))))
 (.reg [
  ⟨some 86,none,.bin .add (.t 69) (.c (.p (.int .i64 1)))⟩,
  ⟨some 69,none,.mv (.t 86)⟩] (some [0,9,16,67,68,69])))))
def d_q02f_k5 (C : Hd) (gl : Nat → Option PV) (v0 v9 v16 v67 v68 v69 : AV) (h : Heap) (x : Esc) (K : Ex → St → Prop) : Prop:=
 pK (oBin .lss v69 v68) fun t1=>
 condB t1 (pK (oIaddr none v67 v69 h) fun t2=>
 pK (oLoad none t2 h) fun t3=>
 pK (oIaddr (some 4) v0 t3 h) fun t4=>
 pK (oFaddr 0 none t4) fun t5=>
 pK (oLoad none t5 h) fun t6=>
 pK (oLoad none v9 h) fun t7=>
 pK (oIaddr none t7 t3 h) fun t8=>
 pK (oLoad none t8 h) fun t9=>
 callE C f_q037 [t6,t9] h fun t10 h11 y12=>
 wK (oBsl false (some 2) 1 (.agg [.str [],.str []]) [(0,t10)] h11) fun t13 h14 y15=>
 (h14 = h11 ∧ y15 = []) ∧ (wK (oApp (some 2) v16 t13 h14) fun t16 h17 y18=>
 pK (oBin .add v69 (.p (.int .i64 1))) fun t19=>
 K .normal ⟨[(0,v0),(9,v9),(16,t16),(67,v67),(68,v68),(69,t19)],h17,(y18 ++ (y15 ++ (y12 ++ x)))⟩))
 (K (.exit 4) ⟨[(0,v0),(9,v9),(16,v16),(67,v67),(68,v68),(69,v69),(70,t1)],h,x⟩)
theorem e_q02f_k5 {C gl e h x K} : NW C gl p_q02f_k5 ⟨e,h,x⟩ K = d_q02f_k5 C gl (aget e 0) (aget e 9) (aget e 16) (aget e 67) (aget e 68) (aget e 69) h x K:=by kernel_rfl
theorem l_q02f_k5 {C gl e h x K} : NW C gl (.loop (.scope p_q02f_k5)) ⟨e,h,x⟩ K = NLoop C gl (.scope p_q02f_k5) K [(0,aget e 0),(9,aget e 9),(16,aget e 16),(67,aget e 67),(68,aget e 68),(69,aget e 69)] h x:=NLoop_sc
def p_q02f_k6 : ACode:=.pr [16] (.seq (.reg [
  ⟨some 87,none,.mv (.t 16)⟩,
  ⟨some 6,none,.mv (.t 87)⟩,
  ⟨some 7,none,.mv (.c (.p (.int .i64 0)))⟩] (some [6,7]))
 .ret)
def d_q02f_k6 (C : Hd) (gl : Nat → Option PV) (v16 : AV) (h : Heap) (x : Esc) (K : Ex → St → Prop) : Prop:=
 K .ret ⟨[(6,v16),(7,(.p (.int .i64 0)))],h,x⟩
theorem e_q02f_k6 {C gl e h x K} : NW C gl p_q02f_k6 ⟨e,h,x⟩ K = d_q02f_k6 C gl (aget e 16) h x K:=by kernel_rfl
def P_q02f_k7 (q5 q6 : ACode) : ACode:=.pr [0,9,13] (.seq (.reg [
  ⟨some 64,none,.mv (.t 13)⟩,
  ⟨some 65,none,.mkfn f_q02g [(.t 9)]⟩,
  ⟨some 66,none,.call f_q06p [(.t 64),(.t 65)]⟩] (some [0,9,13]))
 (.seq (.reg [
  ⟨some 16,none,.new0 (some 2)⟩] (some [0,9,13,16]))
 (.seq (.seq (.reg [
  ⟨some 67,none,.mv (.t 13)⟩,
  ⟨some 68,none,.len (.t 67)⟩,
  ⟨some 69,none,.mv (.c (.p (.int .i64 0)))⟩] (some [0,9,16,67,68,69]))
 (.block 4 (.loop (.scope q5))))
 q6)))
def p_q02f_k7 : ACode:=P_q02f_k7 p_q02f_k5 p_q02f_k6
def d_q02f_k7 (C : Hd) (gl : Nat → Option PV) (q5 q6 : ACode) (v0 v9 v13 : AV) (h : Heap) (x : Esc) (K : Ex → St → Prop) : Prop:=
 C f_q06p [v13,(.fn f_q02g [v9])] h fun t1 h2 y3=>
 nwK (some 2) h2 fun t4 h5 y6=>
 pK (oLen v13) fun t7=>
 NW C gl (.loop (.scope q5)) ⟨[(0,v0),(9,v9),(16,t4),(67,v13),(68,t7),(69,(.p (.int .i64 0)))],h5,(y6 ++ (y3 ++ x))⟩ (blockN 4 (seqN C gl q6 K))
theorem E_q02f_k7 {C gl q5 q6 e h x K} : NW C gl (P_q02f_k7 q5 q6) ⟨e,h,x⟩ K = d_q02f_k7 C gl q5 q6 (aget e 0) (aget e 9) (aget e 13) h x K:=by kernel_rfl
theorem e_q02f_k7 {C gl e h x K} : NW C gl p_q02f_k7 ⟨e,h,x⟩ K = d_q02f_k7 C gl p_q02f_k5 p_q02f_k6 (aget e 0) (aget e 9) (aget e 13) h x K:=E_q02f_k7
def P_q02f_k8 (q4 q7 : ACode) : ACode:=.pr [0,9] (.seq (.reg [
  ⟨some 13,none,.new0 none⟩] (some [0,9,13]))
 (.seq (.seq (.reg [
  ⟨some 50,none,.load none (.t 9)⟩,
  ⟨some 51,none,.len (.t 50)⟩,
  ⟨some 52,none,.mv (.c (.p (.int .i64 0)))⟩] (some [0,9,13,50,51,52]))
 (.block 2 (.loop (.scope q4))))
 q7))
def p_q02f_k8 : ACode:=P_q02f_k8 p_q02f_k4 p_q02f_k7
def d_q02f_k8 (C : Hd) (gl : Nat → Option PV) (q4 q7 : ACode) (v0 v9 : AV) (h : Heap) (x : Esc) (K : Ex → St → Prop) : Prop:=
 nwK none h fun t1 h2 y3=>
 pK (oLoad none v9 h2) fun t4=>
 pK (oLen t4) fun t5=>
 NW C gl (.loop (.scope q4)) ⟨[(0,v0),(9,v9),(13,t1),(50,t4),(51,t5),(52,(.p (.int .i64 0)))],h2,(y3 ++ x)⟩ (blockN 2 (seqN C gl q7 K))
theorem E_q02f_k8 {C gl q4 q7 e h x K} : NW C gl (P_q02f_k8 q4 q7) ⟨e,h,x⟩ K = d_q02f_k8 C gl q4 q7 (aget e 0) (aget e 9) h x K:=by kernel_rfl
theorem e_q02f_k8 {C gl e h x K} : NW C gl p_q02f_k8 ⟨e,h,x⟩ K = d_q02f_k8 C gl p_q02f_k4 p_q02f_k7 (aget e 0) (aget e 9) h x K:=E_q02f_k8
def P_q02f (q2 q8 : ACode) : ACode:=(.seq (.reg [
  ⟨some 6,none,.mv (.c (.p (.sl (some 2) [])))⟩,
  ⟨some 7,none,.mv (.c (.p (.int .i64 0)))⟩] (some [0,1,2]))
 (.seq (.seq (.reg [
  ⟨some 19,none,.mv (.t 0)⟩,
  ⟨some 20,none,.mv (.t 1)⟩,
  ⟨some 21,none,.mv (.t 2)⟩,
  ⟨some 22,none,.call f_q03c [(.t 19),(.t 20),(.t 21)]⟩,
  ⟨some 8,none,.mv (.t 22)⟩] (some [0,1,2,8]))
 (.seq (.reg [
  ⟨some 23,none,.mv (.t 8)⟩,
  ⟨some 24,none,.bin .neq (.t 23) (.c (.p (.int .i64 0)))⟩] (some [0,1,2,8,24]))
 (.cond (.t 24) (.seq (.reg [
  ⟨some 25,none,.mv (.t 8)⟩,
  ⟨some 6,none,.mv (.c (.p (.sl (some 2) [])))⟩,
  ⟨some 7,none,.mv (.t 25)⟩] (some [6,7]))
 .ret)
 .skip)))
 (.seq (.reg [
  ⟨some 26,none,.mv (.t 0)⟩,
  ⟨some 27,none,.len (.t 26)⟩,
  ⟨some 28,none,.mksl none (.int .i64 0) (.t 27) (.t 27)⟩,
  ⟨some 9,none,.alloc [.sl0 none]⟩,
  ⟨none,none,.store none (.t 9) (.t 28)⟩] (some [0,1,2,9]))
 (.seq (.seq (.reg [
  ⟨some 29,none,.mv (.t 0)⟩,
  ⟨some 30,none,.mv (.t 1)⟩,
  ⟨some 31,none,.mv (.t 2)⟩,
  ⟨some 32,none,.call f_q030 [(.t 29),(.t 30),(.t 31)]⟩,
  ⟨some 33,none,.len (.t 32)⟩,
  ⟨some 34,none,.mv (.c (.p (.int .i64 0)))⟩] (some [0,9,32,33,34]))
 (.block 0 (.loop (.scope q2))))
 q8))))
def a_q02f : AFun:=⟨3,[.t 6,.t 7],P_q02f p_q02f_k2 p_q02f_k8,false,false⟩
def d_q02f (C : Hd) (gl : Nat → Option PV) (q2 q8 : ACode) (v0 v1 v2 : AV) (h : Heap) (x : Esc) (K : Ex → St → Prop) : Prop:=
 C f_q03c [v0,v1,v2] h fun t1 h2 y3=>
 pK (oBin .neq t1 (.p (.int .i64 0))) fun t4=>
 condB t4 (K .ret ⟨[(6,(.p (.sl (some 2) []))),(7,t1)],h2,(y3 ++ x)⟩)
 (pK (oLen v0) fun t5=>
 wK (oMksl none (.int .i64 0) t5 t5 h2) fun t6 h7 y8=>
 alK [.sl0 none] h7 fun t9 h10 y11=>
 wK (oStore none t9 t6 h10) fun t12 h13 y14=>
 C f_q030 [v0,v1,v2] h13 fun t15 h16 y17=>
 pK (oLen t15) fun t18=>
 NW C gl (.loop (.scope q2)) ⟨[(0,v0),(9,t9),(32,t15),(33,t18),(34,(.p (.int .i64 0)))],h16,(y17 ++ (y14 ++ (y11 ++ (y8 ++ (y3 ++ x)))))⟩ (blockN 0 (seqN C gl q8 K)))
theorem E_q02f {C gl q2 q8 v0 v1 v2 h x K} : NW C gl (P_q02f q2 q8) ⟨enter [v0,v1,v2],h,x⟩ K = d_q02f C gl q2 q8 v0 v1 v2 h x K:=by kernel_rfl
theorem e_q02f {C gl v0 v1 v2 h x K} : NW C gl a_q02f.body ⟨enter [v0,v1,v2],h,x⟩ K = d_q02f C gl p_q02f_k2 p_q02f_k8 v0 v1 v2 h x K:=E_q02f
def p_q02j_k1 : ACode:=.pr [0,7,8,10,11,13,24,25,26] (.seq (.reg [
  ⟨some 47,none,.mv (.t 11)⟩,
  ⟨some 48,none,.mv (.t 47)⟩,
  ⟨some 49,(some (48,true)),.mv (.t 13)⟩,
  ⟨some 50,(some (48,true)),.un .not (.t 49)⟩,
  ⟨some 51,none,.pick (.t 48) (.t 50) (.c (.p (.bool false)))⟩] (some [0,7,8,10,24,25,26,51]))
 (.cond (.t 51) (.reg [
  ⟨some 52,none,.mv (.t 8)⟩,
  ⟨some 53,none,.faddr 0 none (.t 10)⟩,
  ⟨some 54,none,.load none (.t 53)⟩,
  ⟨none,none,.mupd (none,[2]) (.t 52) (.t 54) (.c (.p (.bool true)))⟩] (some [0,7,8,24,25,26]))
 .skip))
def d_q02j_k1 (C : Hd) (gl : Nat → Option PV) (v0 v7 v8 v10 v11 v13 v24 v25 v26 : AV) (h : Heap) (x : Esc) (K : Ex → St → Prop) : Prop:=
 gM v11 true v13 h fun t1 h2 y3=>
 gP v11 true (oUn .not t1) h2 fun t4 h5 y6=>
 pK (oPick v11 t4 (.p (.bool false))) fun t7=>
 condB t7 (pK (oFaddr 0 none v10) fun t8=>
 pK (oLoad none t8 h5) fun t9=>
 wK (oMupd (none,[2]) v8 t9 (.p (.bool true)) h5) fun t10 h11 y12=>
 K .normal ⟨[(0,v0),(7,v7),(8,v8),(24,v24),(25,v25),(26,v26)],h11,(y12 ++ (y6 ++ (y3 ++ x)))⟩)
 (K .normal ⟨[(0,v0),(7,v7),(8,v8),(10,v10),(24,v24),(25,v25),(26,v26),(51,t7)],h5,(y6 ++ (y3 ++ x))⟩)
theorem e_q02j_k1 {C gl e h x K} : NW C gl p_q02j_k1 ⟨e,h,x⟩ K = d_q02j_k1 C gl (aget e 0) (aget e 7) (aget e 8) (aget e 10) (aget e 11) (aget e 13) (aget e 24) (aget e 25) (aget e 26) h x K:=by kernel_rfl
def p_q02j_k2 : ACode:=.pr [0,7,8,24,25,26] (.reg [
  ⟨some 55,none,.bin .add (.t 26) (.c (.p (.int .i64 1)))⟩,
  ⟨some 26,none,.mv (.t 55)⟩] (some [0,7,8,24,25,26]))
def d_q02j_k2 (C : Hd) (gl : Nat → Option PV) (v0 v7 v8 v24 v25 v26 : AV) (h : Heap) (x : Esc) (K : Ex → St → Prop) : Prop:=
 pK (oBin .add v26 (.p (.int .i64 1))) fun t1=>
 K .normal ⟨[(0,v0),(7,v7),(8,v8),(24,v24),(25,v25),(26,t1)],h,x⟩
theorem e_q02j_k2 {C gl e h x K} : NW C gl p_q02j_k2 ⟨e,h,x⟩ K = d_q02j_k2 C gl (aget e 0) (aget e 7) (aget e 8) (aget e 24) (aget e 25) (aget e 26) h x K:=by kernel_rfl
def P_q02j_k3 (q1 q2 : ACode) : ACode:=.pr [0,7,8,24,25,26] (.seq (.reg [
  ⟨some 27,none,.bin .lss (.t 26) (.t 25)⟩] (some [0,7,8,24,25,26,27]))
 (.seq (.cond (.t 27) .skip
 (.exit 0))
 (.seq (.block 1 (.seq (.reg [
  ⟨some 28,none,.iaddr (some 4) (.t 24) (.t 26)⟩,
  ⟨some 29,none,.load (some 4) (.t 28)⟩,
  ⟨some 10,none,.alloc [.p (.str []),.p (.int .i64 0),.p (.str []),.sl0 none]⟩,
  ⟨none,none,.store (some 4) (.t 10) (.t 29)⟩] (some [0,7,8,10,24,25,26]))
 (.seq (.reg [
  ⟨some 31,none,.mv (.t 7)⟩,
  ⟨some 32,none,.faddr 0 none (.t 10)⟩,
  ⟨some 33,none,.load none (.t 32)⟩,
  ⟨some 34,none,.look (none,[2]) true (.p (.bool false)) (.t 31) (.t 33)⟩,
  ⟨some 30,none,.mv (.t 34)⟩,
  ⟨some 35,none,.ext (.t 30) 0⟩,
  ⟨some 36,none,.ext (.t 30) 1⟩,
  ⟨some 11,none,.mv (.t 35)⟩,
  ⟨some 12,none,.mv (.t 36)⟩] (some [0,7,8,10,11,12,24,25,26]))
 (.seq (.reg [
  ⟨some 37,none,.mv (.t 0)⟩,
  ⟨some 38,none,.load (some 4) (.t 10)⟩,
  ⟨some 39,none,.call f_q02z [(.t 37),(.t 38)]⟩,
  ⟨some 40,none,.bin .geq (.t 39) (.c (.p (.int .i64 0)))⟩,
  ⟨some 13,none,.mv (.t 40)⟩] (some [0,7,8,10,11,12,13,24,25,26]))
 (.seq (.seq (.reg [
  ⟨some 41,none,.mv (.t 12)⟩,
  ⟨some 42,none,.un .not (.t 41)⟩] (some [0,7,8,10,11,13,24,25,26,42]))
 (.cond (.t 42) (.reg [
  ⟨some 43,none,.mv (.t 7)⟩,
  ⟨some 44,none,.faddr 0 none (.t 10)⟩,
  ⟨some 45,none,.load none (.t 44)⟩,
  ⟨some 46,none,.mv (.t 13)⟩,
  ⟨none,none,.mupd (none,[2]) (.t 43) (.t 45) (.t 46)⟩] (some [0,7,8,10,11,13,24,25,26]))
 .skip))
 q1)))))
 q2)))
def p_q02j_k3 : ACode:=P_q02j_k3 p_q02j_k1 p_q02j_k2
def d_q02j_k3 (C : Hd) (gl : Nat → Option PV) (q1 q2 : ACode) (v0 v7 v8 v24 v25 v26 : AV) (h : Heap) (x : Esc) (K : Ex → St → Prop) : Prop:=
 pK (oBin .lss v26 v25) fun t1=>
 condB t1 (pK (oIaddr (some 4) v24 v26 h) fun t2=>
 pK (oLoad (some 4) t2 h) fun t3=>
 alK [.p (.str []),.p (.int .i64 0),.p (.str []),.sl0 none] h fun t4 h5 y6=>
 wK (oStore (some 4) t4 t3 h5) fun t7 h8 y9=>
 pK (oFaddr 0 none t4) fun t10=>
 pK (oLoad none t10 h8) fun t11=>
 pK (oLook (none,[2]) true (.p (.bool false)) v7 t11 h8) fun t12=>
 pK (oExt t12 0) fun t13=>
 pK (oExt t12 1) fun t14=>
 pK (oLoad (some 4) t4 h8) fun t15=>
 C f_q02z [v0,t15] h8 fun t16 h17 y18=>
 pK (oBin .geq t16 (.p (.int .i64 0))) fun t19=>
 pK (oUn .not t14) fun t20=>
 condB t20 (pK (oFaddr 0 none t4) fun t21=>
 pK (oLoad none t21 h17) fun t22=>
 wK (oMupd (none,[2]) v7 t22 t19 h17) fun t23 h24 y25=>
 NW C gl q1 ⟨[(0,v0),(7,v7),(8,v8),(10,t4),(11,t13),(13,t19),(24,v24),(25,v25),(26,v26)],h24,(y25 ++ (y18 ++ (y9 ++ (y6 ++ x))))⟩ (blockN 1 (seqN C gl q2 K)))
 (NW C gl q1 ⟨[(0,v0),(7,v7),(8,v8),(10,t4),(11,t13),(13,t19),(24,v24),(25,v25),(26,v26),(42,t20)],h17,(y18 ++ (y9 ++ (y6 ++ x)))⟩ (blockN 1 (seqN C gl q2 K))))
 (K (.exit 0) ⟨[(0,v0),(7,v7),(8,v8),(24,v24),(25,v25),(26,v26),(27,t1)],h,x⟩)
theorem E_q02j_k3 {C gl q1 q2 e h x K} : NW C gl (P_q02j_k3 q1 q2) ⟨e,h,x⟩ K = d_q02j_k3 C gl q1 q2 (aget e 0) (aget e 7) (aget e 8) (aget e 24) (aget e 25) (aget e 26) h x K:=by kernel_rfl
theorem e_q02j_k3 {C gl e h x K} : NW C gl p_q02j_k3 ⟨e,h,x⟩ K = d_q02j_k3 C gl p_q02j_k1 p_q02j_k2 (aget e 0) (aget e 7) (aget e 8) (aget e 24) (aget e 25) (aget e 26) h x K:=E_q02j_k3
theorem l_q02j_k3 {C gl e h x K} : NW C gl (.loop (.scope p_q02j_k3)) ⟨e,h,x⟩ K = NLoop C gl (.scope p_q02j_k3) K [(0,aget e 0),(7,aget e 7),(8,aget e 8),(24,aget e 24),(25,aget e 25),(26,aget e 26)] h x:=NLoop_sc
def p_q02j_k4 : ACode:=.pr [14,57] (.seq (.reg [
  ⟨some 58,none,.mnext (.t 57)⟩,
  ⟨some 59,none,.ext (.t 58) 0⟩] (some [14,57,59]))
 (.seq (.cond (.t 59) .skip
 (.exit 2))
 (.block 3 (.seq (.reg [
  ⟨some 60,none,.mentry (.t 57)⟩,
  ⟨some 61,none,.ext (.t 60) 0⟩,
  ⟨some 15,none,.mv (.t 61)⟩] (some [14,15,57]))
 (.reg [
  ⟨some 62,none,.mv (.t 14)⟩,
  ⟨some 63,none,.mv (.t 15)⟩,
  ⟨some 64,none,.bsl false none 1 (.str []) [(0,(.t 63))]⟩,
  ⟨some 65,none,.app none (.t 62) (.t 64)⟩,
  ⟨some 14,none,.mv (.t 65)⟩] (some [14,57]))))))
def d_q02j_k4 (C : Hd) (gl : Nat → Option PV) (v14 v57 : AV) (h : Heap) (x : Esc) (K : Ex → St → Prop) : Prop:=
 nxK v57 h fun t1 h2 y3=>
 pK (oExt t1 0) fun t4=>
 condB t4 (wK (oMentry v57 h2) fun t5 h6 y7=>
 pK (oExt t5 0) fun t8=>
 wK (oBsl false none 1 (.str []) [(0,t8)] h6) fun t9 h10 y11=>
 wK (oApp none v14 t9 h10) fun t12 h13 y14=>
 K .normal ⟨[(14,t12),(57,v57)],h13,(y14 ++ (y11 ++ (y7 ++ (y3 ++ x))))⟩)
 (K (.exit 2) ⟨[(14,v14),(57,v57),(59,t4)],h2,(y3 ++ x)⟩)
theorem e_q02j_k4 {C gl e h x K} : NW C gl p_q02j_k4 ⟨e,h,x⟩ K = d_q02j_k4 C gl (aget e 14) (aget e 57) h x K:=by kernel_rfl
theorem l_q02j_k4 {C gl e h x K} : NW C gl (.loop (.scope p_q02j_k4)) ⟨e,h,x⟩ K = NLoop C gl (.scope p_q02j_k4) K [(14,aget e 14),(57,aget e 57)] h x:=NLoop_sc
def p_q02j_k5 : ACode:=.pr [14] (.seq (.reg [
  ⟨some 66,none,.mv (.t 14)⟩,
  ⟨some 67,none,.call f_q06r [(.t 66)]⟩] (some [14]))
 (.seq (.reg [
  ⟨some 68,none,.mv (.t 14)⟩,
  ⟨some 4,none,.mv (.t 68)⟩,
  ⟨some 5,none,.mv (.c (.p (.int .i64 0)))⟩] (some [4,5]))
 .ret))
def d_q02j_k5 (C : Hd) (gl : Nat → Option PV) (v14 : AV) (h : Heap) (x : Esc) (K : Ex → St → Prop) : Prop:=
 C f_q06r [v14] h fun t1 h2 y3=>
 K .ret ⟨[(4,v14),(5,(.p (.int .i64 0)))],h2,(y3 ++ x)⟩
theorem e_q02j_k5 {C gl e h x K} : NW C gl p_q02j_k5 ⟨e,h,x⟩ K = d_q02j_k5 C gl (aget e 14) h x K:=by kernel_rfl
def P_q02j_k6 (q4 q5 : ACode) : ACode:=.pr [8] (.seq (.reg [
  ⟨some 14,none,.new0 none⟩] (some [8,14]))
 (.seq (.seq (.reg [
  ⟨some 56,none,.mv (.t 8)⟩,
  ⟨some 57,none,.mrange (.t 56)⟩] (some [14,57]))
 (.block 2 (.loop (.scope q4))))
 q5))
def p_q02j_k6 : ACode:=P_q02j_k6 p_q02j_k4 p_q02j_k5
def d_q02j_k6 (C : Hd) (gl : Nat → Option PV) (q4 q5 : ACode) (v8 : AV) (h : Heap) (x : Esc) (K : Ex → St → Prop) : Prop:=
 nwK none h fun t1 h2 y3=>
 wK (oMrange v8 h2) fun t4 h5 y6=>
 NW C gl (.loop (.scope q4)) ⟨[(14,t1),(57,t4)],h5,(y6 ++ (y3 ++ x))⟩ (blockN 2 (seqN C gl q5 K))
theorem E_q02j_k6 {C gl q4 q5 e h x K} : NW C gl (P_q02j_k6 q4 q5) ⟨e,h,x⟩ K = d_q02j_k6 C gl q4 q5 (aget e 8) h x K:=by kernel_rfl
theorem e_q02j_k6 {C gl e h x K} : NW C gl p_q02j_k6 ⟨e,h,x⟩ K = d_q02j_k6 C gl p_q02j_k4 p_q02j_k5 (aget e 8) h x K:=E_q02j_k6
def P_q02j (q3 q6 : ACode) : ACode:=(.det (.seq (.reg [
  ⟨some 4,none,.mv (.c (.p (.sl none [])))⟩,
  ⟨some 5,none,.mv (.c (.p (.int .i64 0)))⟩] (some [0,1]))
 (.seq (.seq (.reg [
  ⟨some 16,none,.mv (.t 0)⟩,
  ⟨some 17,none,.mv (.t 1)⟩,
  ⟨some 18,none,.call f_q02b [(.t 16),(.t 17)]⟩,
  ⟨some 6,none,.mv (.t 18)⟩] (some [0,1,6]))
 (.seq (.reg [
  ⟨some 19,none,.mv (.t 6)⟩,
  ⟨some 20,none,.bin .neq (.t 19) (.c (.p (.int .i64 0)))⟩] (some [0,1,6,20]))
 (.cond (.t 20) (.seq (.reg [
  ⟨some 21,none,.mv (.t 6)⟩,
  ⟨some 4,none,.mv (.c (.p (.sl none [])))⟩,
  ⟨some 5,none,.mv (.t 21)⟩] (some [4,5]))
 .ret)
 .skip)))
 (.seq (.reg [
  ⟨some 22,none,.mkmap⟩,
  ⟨some 23,none,.mkmap⟩,
  ⟨some 7,none,.mv (.t 22)⟩,
  ⟨some 8,none,.mv (.t 23)⟩] (some [0,1,7,8]))
 (.seq (.seq (.reg [
  ⟨some 24,none,.mv (.t 1)⟩,
  ⟨some 25,none,.len (.t 24)⟩,
  ⟨some 26,none,.mv (.c (.p (.int .i64 0)))⟩] (some [0,7,8,24,25,26]))
 (.block 0 (.loop (.scope q3))))
 q6)))))
def a_q02j : AFun:=⟨2,[.t 4,.t 5],P_q02j p_q02j_k3 p_q02j_k6,false,false⟩
def d_q02j (C : Hd) (gl : Nat → Option PV) (q3 q6 : ACode) (v0 v1 : AV) (h : Heap) (x : Esc) (K : Ex → St → Prop) : Prop:=
 detK (fun K=>C f_q02b [v0,v1] h fun t1 h2 y3=>
 pK (oBin .neq t1 (.p (.int .i64 0))) fun t4=>
 condB t4 (K .ret ⟨[(4,(.p (.sl none []))),(5,t1)],h2,(y3 ++ x)⟩)
 (mmK h2 fun t5 h6 y7=>
 mmK h6 fun t8 h9 y10=>
 pK (oLen v1) fun t11=>
 NW C gl (.loop (.scope q3)) ⟨[(0,v0),(7,t5),(8,t8),(24,v1),(25,t11),(26,(.p (.int .i64 0)))],h9,(y10 ++ (y7 ++ (y3 ++ x)))⟩ (blockN 0 (seqN C gl q6 K)))) K
theorem E_q02j {C gl q3 q6 v0 v1 h x K} : NW C gl (P_q02j q3 q6) ⟨enter [v0,v1],h,x⟩ K = d_q02j C gl q3 q6 v0 v1 h x K:=by kernel_rfl
theorem e_q02j {C gl v0 v1 h x K} : NW C gl a_q02j.body ⟨enter [v0,v1],h,x⟩ K = d_q02j C gl p_q02j_k3 p_q02j_k6 v0 v1 h x K:=E_q02j
end Go.Am
end
