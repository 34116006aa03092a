/- The abstract machine, part 29: its meaning once more, spelt so that a function's code can be printed as a formula over its values (shallow), equal to the deep one by computing. -/
import Derived.Test.YtajhbehiecgflaaAm28
set_option linter.unusedSimpArgs false
set_option linter.unusedVariables false
namespace Go.Am

def pK (o : Option AV) (k : AV → Prop) : Prop := match o with
  | some v => k v
  | none => False
def wK (o : Option (AV × Heap × Esc)) (k : AV → Heap → Esc → Prop) : Prop := match o with
  | some y => k y.1 y.2.1 y.2.2
  | none => False

/-! ### the operations as functions of values -/
def oPick (c a b : AV) : Option AV := match c with
  | .p (.bool t) => some (bif t then a else b)
  | _ => none
def oBox (x : AV) (h : Heap) : Option (AV × Heap × Esc) := match x.cells with
  | some cs => some (.ref h.length 0, h ++ [.box cs], [])
  | none => none
def fillV : List (Nat × Nat × AV) → List AV → Option (List AV)
  | [], cs => some cs
  | (off, n, x) :: r, cs => match x.cells with
    | some vs => if vs.length = n ∧ off + n ≤ cs.length then fillV r (splice cs off vs) else none
    | none => none
def oBuild (z : List AV) (ps : List (Nat × Nat × AV)) : Option AV := (fillV ps z).map mkA
def fillW (sh : Sh) : List (Nat × AV) → Heap → List PV → Option (List PV × Heap)
  | [], h, xs => some (xs, h)
  | (i, x) :: r, h, xs => match pur h x with
    | some (v, h') => if v.shp sh ∧ i < xs.length then fillW sh r h' (xs.set i v) else none
    | none => none
def oBsl (own : Bool) (sh : Sh) (n : Nat) (z : PV) (ps : List (Nat × AV)) (h : Heap) : Option (AV × Heap × Esc) := match fillW sh ps h (List.replicate n z) with
  | some (xs, h') => if !z.shp sh then none else some (bif own then (.own h'.length n 0 n, h' ++ [.row sh xs 0], []) else (.p (.sl sh xs), h', []))
  | none => none
def oLoad (sh : Sh) (a : AV) (h : Heap) : Option AV := match a with
  | .ref id off => match h[id]? with
    | some (.box cs) => cut sh off cs
    | _ => none
  | .rref id g i off => match h[id]? with
    | some (.row _ xs _) => if g = xs.length then ((xs[i]?).bind (cutP sh off)).map .p else none
    | _ => none
  | .vp v => (cutP sh 0 v).map .p
  | _ => none
def oStore (sh : Sh) (a x : AV) (h : Heap) : Option (AV × Heap × Esc) := match a with
  | .ref id off => match h[id]?, x.cells with
    | some (.box cs), some vs => if vs.length = shSize sh ∧ off + vs.length ≤ cs.length then some (.und, h.set id (.box (splice cs off vs)), escOf id x) else none
    | _, _ => none
  | .rref id g i off => match pur h x with
    | some (v, h1) => match h1[id]? with
      | some (.row rsh xs fz) => if g = xs.length ∧ fz ≤ i ∧ v.cells.length = shSize sh ∧ v.cells.all PV.sc then match xs[i]? with
        | some (.agg cs) => if off + v.cells.length ≤ cs.length then some (.und, h1.set id (.row rsh (xs.set i (.agg (splice cs off v.cells))) fz), []) else none
        | some _ => if off = 0 ∧ v.sc then some (.und, h1.set id (.row rsh (xs.set i v) fz), []) else none
        | none => none
        else none
      | _ => none
    | none => none
  | _ => none
def oNil (x : AV) : Option AV := match x with
  | .ref _ _ | .rref _ _ _ _ | .vp _ | .fn _ _ => some x
  | _ => none
def oBin (op : BinOp) (x y : AV) : Option AV := match x, y with
  | .p a, .p b => (abin op a b).map .p
  | _, _ => none
def oEqa (ks : List Nat) (neg : Bool) (x y : AV) : Option AV := match x, y with
  | .p (.agg as), .p (.agg bs) => if as.map PV.kind = ks ∧ bs.map PV.kind = ks ∧ ks ≠ [] then (eqs as bs).map fun t => pbool (bif neg then !t else t) else none
  | .p (.bool a), .p (.bool b) => if ks = [] then some (pbool (bif neg then !decide (a = b) else decide (a = b))) else none
  | _, _ => none
def oIsnil (k : Nat) (neg : Bool) (x : AV) : Option AV := (nilOf k x).map fun r => pbool (bif neg then !r else r)
def oMkif (x : AV) : Option AV := if okIn x then some .ifc else none
def oUn (op : UnOp) (x : AV) : Option AV := match x with
  | .p a => (aun op a).map .p
  | _ => none
def oConv (c : Cv) (x : AV) (h : Heap) : Option (AV × Heap × Esc) := (aconv h c x).map fun y => (y.1, y.2, [])
def oConvI (k : IntKind) (x : AV) : Option AV := match x with
  | .p (.int _ n) => some (.p (.int k (k.wrap n)))
  | _ => none
def oMksl (sh : Sh) (z : PV) (len cap : AV) (h : Heap) : Option (AV × Heap × Esc) := match natOf len, natOf cap with
  | some n, some m => if n ≤ m ∧ m ≤ maxSl ∧ z.shp sh then some (.own h.length n 0 n, h ++ [.row sh (List.replicate n z) 0], []) else none
  | _, _ => none
def bndV (d : Nat) : Option AV → Option Nat
  | none => some d
  | some x => natOf x
def oSlstr (x : AV) (lo hi : Option AV) : Option AV := match x with
  | .p (.str s) => match bndV 0 lo, bndV s.length hi with
    | some l, some r => if l ≤ r ∧ r ≤ s.length then some (.p (.str (win s l (r - l)))) else none
    | _, _ => none
  | _ => none
def oSlice (sh : Sh) (x : AV) (lo hi mx : Option AV) (h : Heap) : Option AV := match x with
  | .p (.sl sh' xs) => match bndV 0 lo, bndV xs.length hi, bndV xs.length mx with
    | some l, some r, some m => if sh' = sh ∧ l ≤ r ∧ r ≤ m ∧ m ≤ xs.length then some (if mx.isSome ∧ m = l then .sl0 sh else .p (.sl sh (win xs l (r - l)))) else none
    | _, _, _ => none
  | .sl0 sh' => match bndV 0 lo, bndV 0 hi, bndV 0 mx with
    | some l, some r, some m => if l = 0 ∧ r = 0 ∧ m = 0 then some (.sl0 sh') else none
    | _, _, _ => none
  | .own id g off len => match h[id]? with
    | some (.row rsh xs _) => match bndV 0 lo, bndV len hi, bndV len mx with
      | some l, some r, some m => if rsh = sh ∧ g = xs.length ∧ off + len ≤ xs.length ∧ l ≤ r ∧ r ≤ m ∧ m ≤ len then some (if mx.isSome ∧ m = l then .sl0 sh else .own id g (off + l) (r - l)) else none
      | _, _, _ => none
    | _ => none
  | _ => none
def oFaddr (off : Nat) (sh : Sh) (x : AV) : Option AV := match x with
  | .ref id o => some (.ref id (o + off))
  | .rref id g i o => some (.rref id g i (o + off))
  | .vp v => (cutP sh off v).map .vp
  | _ => none
def oField (off : Nat) (sh : Sh) (x : AV) : Option AV := match x with
  | .p v => match v with
    | .agg _ => (cutP sh off v).map .p
    | _ => none
  | .agg cs => cut sh off cs
  | _ => none
def oIaddr (sh : Sh) (x i : AV) (h : Heap) : Option AV := match x, natOf i with
  | .p (.sl sh' xs), some k => if sh' = sh then (xs[k]?).map .vp else none
  | .own id g off len, some k => match h[id]? with
    | some (.row rsh xs _) => if rsh = sh ∧ g = xs.length ∧ off + len ≤ xs.length ∧ k < len then some (.rref id g (off + k) 0) else none
    | _ => none
  | _, _ => none
def oIaddra (n : Nat) (sh : Sh) (x i : AV) : Option AV := match x, natOf i with
  | .ref id o, some k => if k < n then some (.ref id (o + k * shSize sh)) else none
  | .rref id g j o, some k => if k < n then some (.rref id g j (o + k * shSize sh)) else none
  | .vp v, some k => if k < n then (cutP sh (k * shSize sh) v).map .vp else none
  | _, _ => none
def oIdxa (n : Nat) (sh : Sh) (x i : AV) : Option AV := match x, natOf i with
  | .p (.agg cs), some k => if k < n then (cutP sh (k * shSize sh) (.agg cs)).map .p else none
  | _, _ => none
def oIdxs (x i : AV) : Option AV := match x, natOf i with
  | .p (.str s), some k => (s[k]?).map fun b => .p (.int .u8 b.toNat)
  | _, _ => none
def oExt (x : AV) (i : Nat) : Option AV := match x with
  | .tup vs => vs[i]?
  | _ => none
def oLen (x : AV) : Option AV := match x with
  | .p (.sl _ xs) => some (pint xs.length)
  | .sl0 _ => some (pint 0)
  | .own _ _ _ len => some (pint len)
  | _ => none
def oLens (x : AV) : Option AV := match x with
  | .p (.str s) => some (pint s.length)
  | _ => none
def oApp (sh : Sh) (s x : AV) (h : Heap) : Option (AV × Heap × Esc) := match rds h x with
  | some (sh', ys) => if sh' = sh then match s with
    | .sl0 _ => if ys.length ≤ maxSl then some (.own h.length ys.length 0 ys.length, h ++ [.row sh ys 0], []) else none
    | .own id g off len => match h[id]? with
      | some (.row rsh xs fz) => if rsh = sh ∧ g = xs.length ∧ off = 0 ∧ len = xs.length ∧ len + ys.length ≤ maxSl then some (.own id (g + ys.length) off (len + ys.length), h.set id (.row sh (xs ++ ys) fz), []) else none
      | _ => none
    | _ => none
    else none
  | none => none
def oCopy (sh : Sh) (d s : AV) (h : Heap) : Option (AV × Heap × Esc) := match d, rds h s with
  | .own id g off len, some (sh', ys) => match h[id]? with
    | some (.row rsh xs fz) => if rsh = sh ∧ sh' = sh ∧ g = xs.length ∧ off + len ≤ xs.length ∧ fz ≤ off then
        some (pint (min ys.length len), h.set id (.row sh (splice xs off (ys.take (min ys.length len))) fz), [])
      else none
    | _ => none
  | _, _ => none
def oMx (xs : List AV) : Option AV := match xs with
  | .p a :: r => ((unp r).bind fun l => l.foldlM amax2 a).map .p
  | _ => none
def oMn (xs : List AV) : Option AV := match xs with
  | .p a :: r => ((unp r).bind fun l => l.foldlM amin2 a).map .p
  | _ => none

def oLook (ok : Bool) (z x k : AV) (h : Heap) : Option AV := match keyOf k with
  | some key => match (match x with | .nilm => some [] | m => (mget h m).map fun y => y.2.1) with
    | some es => match mfind key es with
      | some r =>
        let v := ((r.bind (es[·]?)).map ME.val)
        some (bif ok then .tup [v.getD z, pbool v.isSome] else v.getD z)
      | none => none
    | none => none
  | none => none
def oMupd (m k x : AV) (h : Heap) : Option (AV × Heap × Esc) := match keyOf k, mget h m, okIn x with
  | some key, some (id, es, c), true => match mfind key es with
    | some (some i) => some (.und, h.set id (.amap (es.modify i fun e => { e with val := x }) c), escOf id x)
    | some none => some (.und, h.set id (.amap (es ++ [⟨key, x, c⟩]) (c + 1)), escOf id x)
    | none => none
  | _, _, _ => none
def oMent (z m k : AV) (h : Heap) : Option (AV × Heap × Esc) := match keyOf k, mget h m with
  | some key, some (id, es, c) => match mfind key es with
    | some (some i) => (es[i]?).map fun e => (.tup [e.val, pint e.born], h, [])
    | some none => some (.tup [z, pint c], h.set id (.amap (es ++ [⟨key, z, c⟩]) (c + 1)), [])
    | none => none
  | _, _ => none
def oEstore (m s x : AV) (h : Heap) : Option (AV × Heap × Esc) := match mget h m, natOf s, okIn x with
  | some (id, es, c), some b, true => match es.findIdx? (fun e => e.born == b) with
    | some i => some (.und, h.set id (.amap (es.modify i fun e => { e with val := x }) c), escOf id x)
    | none => none
  | _, _, _ => none
def oMdel (m k : AV) (h : Heap) : Option (AV × Heap × Esc) := match keyOf k, mget h m with
  | some key, some (id, es, c) => match mfind key es with
    | some (some i) => some (.und, h.set id (.amap (es.eraseIdx i) c), [])
    | some none => some (.und, h, [])
    | none => none
  | _, _ => none
def oLenm (x : AV) (h : Heap) : Option AV := match x with
  | .nilm => some (pint 0)
  | .mp id => (mget h (.mp id)).map fun y => pint y.2.1.length
  | _ => none
def oMrange (x : AV) (h : Heap) : Option (AV × Heap × Esc) := match mget h x with
  | some (id, _, c) => some (.it h.length, h ++ [.iter (some id) c [] c], [])
  | none => match x with
    | .nilm => some (.it h.length, h ++ [.iter none 0 [] 0], [])
    | _ => none
def oMentry (i : AV) (h : Heap) : Option (AV × Heap × Esc) := match i with
  | .it id => match h[id]? with
    | some (.iter (some m) _ seen last) => match mget h (.mp m), seen.getLast? with
      | some (_, es, c), some b => if c = last then (es.find? (fun e => e.born == b)).map fun e => (.tup [.p e.key, e.val], h, []) else none
      | _, _ => none
    | _ => none
  | _ => none
def alK (z : List AV) (h : Heap) (k : AV → Heap → Esc → Prop) : Prop := k (.ref h.length 0) (h ++ [.box z]) []
def nwK (sh : Sh) (h : Heap) (k : AV → Heap → Esc → Prop) : Prop := k (.own h.length 0 0 0) (h ++ [.row sh [] 0]) []
def mmK (h : Heap) (k : AV → Heap → Esc → Prop) : Prop := k (.mp h.length) (h ++ [.amap [] 0]) []

def ev3 (ev : Opd → AV) : List (Nat × Nat × Opd) → List (Nat × Nat × AV)
  | [] => []
  | (a, b, x) :: r => (a, b, ev x) :: ev3 ev r
def ev2 (ev : Opd → AV) : List (Nat × Opd) → List (Nat × AV)
  | [] => []
  | (a, x) :: r => (a, ev x) :: ev2 ev r
def evO (ev : Opd → AV) : Option Opd → Option AV
  | none => none
  | some x => some (ev x)
def ev1 (ev : Opd → AV) : List Opd → List AV
  | [] => []
  | x :: r => ev x :: ev1 ev r

/-- An operation that is no call, with what follows it. -/
def opN (o : AO) (ev : Opd → AV) (h : Heap) (k : AV → Heap → Esc → Prop) : Prop := match o with
  | .mv x => k (ev x) h []
  | .pick c a b => pK (oPick (ev c) (ev a) (ev b)) fun v => k v h []
  | .alloc z => alK z h k
  | .box x => wK (oBox (ev x) h) k
  | .build z ps => pK (oBuild z (ev3 ev ps)) fun v => k v h []
  | .bsl own sh n z ps => wK (oBsl own sh n z (ev2 ev ps) h) k
  | .load sh a => pK (oLoad sh (ev a) h) fun v => k v h []
  | .store sh a x => wK (oStore sh (ev a) (ev x) h) k
  | .nilchk x => pK (oNil (ev x)) fun v => k v h []
  | .bin op x y => pK (oBin op (ev x) (ev y)) fun v => k v h []
  | .eqa ks neg x y => pK (oEqa ks neg (ev x) (ev y)) fun v => k v h []
  | .isnil n neg x => pK (oIsnil n neg (ev x)) fun v => k v h []
  | .mkif x => pK (oMkif (ev x)) fun v => k v h []
  | .un op x => pK (oUn op (ev x)) fun v => k v h []
  | .conv (.i c) x => pK (oConvI c (ev x)) fun v => k v h []
  | .mkfn f caps => k (.fn f (ev1 ev caps)) h []
  | .slice sh x lo hi mx => pK (oSlice sh (ev x) (evO ev lo) (evO ev hi) (evO ev mx) h) fun v => k v h []
  | .slstr x lo hi => pK (oSlstr (ev x) (evO ev lo) (evO ev hi)) fun v => k v h []
  | .mksl sh z len cap => wK (oMksl sh z (ev len) (ev cap) h) k
  | .faddr off sh x => pK (oFaddr off sh (ev x)) fun v => k v h []
  | .field off sh x => pK (oField off sh (ev x)) fun v => k v h []
  | .iaddr sh x i => pK (oIaddr sh (ev x) (ev i) h) fun v => k v h []
  | .iaddra n sh x i => pK (oIaddra n sh (ev x) (ev i)) fun v => k v h []
  | .idxa n sh x i => pK (oIdxa n sh (ev x) (ev i)) fun v => k v h []
  | .idxs x i => pK (oIdxs (ev x) (ev i)) fun v => k v h []
  | .ext x i => pK (oExt (ev x) i) fun v => k v h []
  | .len x => pK (oLen (ev x)) fun v => k v h []
  | .lens x => pK (oLens (ev x)) fun v => k v h []
  | .app sh s x => wK (oApp sh (ev s) (ev x) h) k
  | .copy sh d s => wK (oCopy sh (ev d) (ev s) h) k
  | .mx xs => pK (oMx (ev1 ev xs)) fun v => k v h []
  | .mn xs => pK (oMn (ev1 ev xs)) fun v => k v h []
  | .new0 sh => nwK sh h k
  | .conv .s2b x => wK (oConv .s2b (ev x) h) k
  | .conv .b2s x => wK (oConv .b2s (ev x) h) k
  | .conv .r2s x => wK (oConv .r2s (ev x) h) k
  | .conv .same x => wK (oConv .same (ev x) h) k
  | .mkmap => mmK h k
  | .look ok z x key => pK (oLook ok z (ev x) (ev key) h) fun v => k v h []
  | .mupd m key x => wK (oMupd (ev m) (ev key) (ev x) h) k
  | .ment z m key => wK (oMent z (ev m) (ev key) h) k
  | .estore m s x => wK (oEstore (ev m) (ev s) (ev x) h) k
  | .mdel m key => wK (oMdel (ev m) (ev key) h) k
  | .lenm x => pK (oLenm (ev x) h) fun v => k v h []
  | .mrange x => wK (oMrange (ev x) h) k
  | .mentry i => wK (oMentry (ev i) h) k
  | .call _ _ | .callv _ _ | .mnext _ => False

theorem wK_opt {o : Option (AV × Heap × Esc)} {k : AV → Heap → Esc → Prop} : optK o k = wK o k := rfl
theorem pK_map {o : Option AV} {h : Heap} {k : AV → Heap → Esc → Prop} : wK (o.map fun v => (v, h, [])) k = pK o fun v => k v h [] := by cases o <;> rfl
theorem fillA_eq (ev : Opd → AV) : ∀ (ps : List (Nat × Nat × Opd)) (z : List AV), fillA ev ps z = fillV (ev3 ev ps) z
  | [], z => rfl
  | (off, n, x) :: r, z => by
    simp only [fillA, ev3, fillV]
    cases (ev x).cells with
    | none => rfl
    | some vs => simp only [fillA_eq ev r]
theorem fillP_eq (ev : Opd → AV) (sh : Sh) : ∀ (ps : List (Nat × Opd)) (h : Heap) (z : List PV), fillP ev sh ps h z = fillW sh (ev2 ev ps) h z
  | [], h, z => rfl
  | (i, x) :: r, h, z => by
    simp only [fillP, ev2, fillW]
    cases pur h (ev x) with
    | none => rfl
    | some y => simp only [fillP_eq ev sh r]
theorem bnd_eq (ev : Opd → AV) (d : Nat) (o : Option Opd) : bnd ev d o = bndV d (evO ev o) := by cases o <;> rfl
theorem evO_some (ev : Opd → AV) (o : Option Opd) : (evO ev o).isSome = o.isSome := by cases o <;> rfl
theorem ev1_eq (ev : Opd → AV) (l : List Opd) : l.map ev = ev1 ev l := by
  induction l with
  | nil => rfl
  | cons x r ih => simp only [List.map_cons, ev1, ih]
theorem asl_eq (sh : Sh) (ev : Opd → AV) (h : Heap) (x : AV) (lo hi mx : Option Opd) : asl sh ev h x lo hi mx = oSlice sh x (evO ev lo) (evO ev hi) (evO ev mx) h := by
  unfold asl oSlice
  simp only [bnd_eq, evO_some]
  rfl

theorem wpK_ite {p : Prop} [Decidable p] {a : AV} {h : Heap} {k : AV → Heap → Esc → Prop} : wK (if p then some (a, h, []) else none) k = pK (if p then some a else none) fun v => k v h [] := by split <;> rfl
theorem wpK_map {α : Type} {o : Option α} {f : α → AV} {h : Heap} {k : AV → Heap → Esc → Prop} : wK (o.map fun v => (f v, h, [])) k = pK (o.map f) fun v => k v h [] := by cases o <;> rfl
theorem wpK_ite_map {α : Type} {p : Prop} [Decidable p] {o : Option α} {f : α → AV} {h : Heap} {k : AV → Heap → Esc → Prop} : wK (if p then o.map (fun v => (f v, h, [])) else none) k = pK (if p then o.map f else none) fun v => k v h [] := by
  split
  · exact wpK_map
  · rfl

theorem opN_aop {o : AO} (hp : o.plain = true) {ev : Opd → AV} {h : Heap} {k : AV → Heap → Esc → Prop} : optK (aop o ev h) k = opN o ev h k := by
  rw [wK_opt]
  cases o <;> first | (cases hp; done) | skip
  case mv => rfl
  case pick c a b =>
    simp only [aop, opN, oPick]
    generalize ev c = v
    cases v <;> try rfl
    rename_i p; cases p <;> rfl
  case alloc => rfl
  case box => rfl
  case build z ps => simp only [aop, opN]; rw [← pK_map, oBuild, fillA_eq, Option.map_map]; rfl
  case bsl => simp only [aop, opN, oBsl, fillP_eq]; rfl
  case load sh a =>
    simp only [aop, opN, oLoad]
    generalize ev a = v
    cases v with
    | ref id off => dsimp only; cases h[id]? with
      | none => rfl
      | some o => cases o <;> first | rfl | exact pK_map
    | rref id g i off => dsimp only; cases h[id]? with
      | none => rfl
      | some o => cases o <;> first | rfl | exact wpK_ite_map
    | vp v => exact wpK_map
    | p v => cases v <;> rfl
    | _ => rfl
  case store => simp only [aop, opN]; rfl
  case nilchk x =>
    simp only [aop, opN, oNil]
    generalize ev x = v
    cases v <;> rfl
  case bin op x y =>
    simp only [aop, opN, oBin]
    generalize ev x = v
    generalize ev y = u
    cases v <;> try rfl
    cases u <;> try rfl
    exact wpK_map
  case eqa ks neg x y =>
    simp only [aop, opN, oEqa]
    generalize ev x = v
    generalize ev y = u
    cases v <;> try rfl
    rename_i p
    cases p <;> try rfl
    all_goals (cases u <;> try rfl)
    all_goals (rename_i q; cases q <;> try rfl)
    · exact wpK_ite
    · exact wpK_ite_map
  case isnil => exact wpK_map
  case mkif => exact wpK_ite
  case un op x =>
    simp only [aop, opN, oUn]
    generalize ev x = v
    cases v <;> try rfl
    exact wpK_map
  case conv c x =>
    cases c
    case i k' =>
      simp only [aop, opN, oConvI, aconv]
      generalize ev x = v
      cases v <;> try rfl
      rename_i p; cases p <;> rfl
    all_goals rfl
  case mkfn f caps => simp only [aop, opN, ev1_eq]; rfl
  case slice => simp only [aop, opN, asl_eq]; exact pK_map
  case slstr x lo hi =>
    simp only [aop, opN, oSlstr, bnd_eq]
    generalize ev x = v
    cases v <;> try rfl
    rename_i p; cases p <;> try rfl
    rename_i s
    dsimp only
    generalize bndV 0 _ = o1
    generalize bndV s.length _ = o2
    cases o1 <;> try rfl
    cases o2 <;> try rfl
    exact wpK_ite
  case mksl => simp only [aop, opN]; rfl
  case faddr off sh x =>
    simp only [aop, opN, oFaddr]
    generalize ev x = v
    cases v <;> try rfl
    exact wpK_map
  case field off sh x =>
    simp only [aop, opN, oField]
    generalize ev x = v
    cases v <;> try rfl
    · rename_i p; cases p <;> try rfl
      exact wpK_map
    · exact pK_map
  case iaddr sh x i =>
    simp only [aop, opN, oIaddr]
    generalize ev x = v
    generalize natOf (ev i) = n
    cases v <;> try rfl
    · rename_i p; cases p <;> try rfl
      cases n <;> try rfl
      exact wpK_ite_map
    · cases n <;> try rfl
      rename_i id g off len k
      dsimp only
      cases h[id]? with
      | none => rfl
      | some o => cases o <;> first | rfl | exact wpK_ite
  case iaddra m sh x i =>
    simp only [aop, opN, oIaddra]
    generalize ev x = v
    generalize natOf (ev i) = n
    cases v <;> try rfl
    all_goals (cases n <;> try rfl)
    · exact wpK_ite
    · exact wpK_ite
    · exact wpK_ite_map
  case idxa m sh x i =>
    simp only [aop, opN, oIdxa]
    generalize ev x = v
    generalize natOf (ev i) = n
    cases v <;> try rfl
    rename_i p; cases p <;> try rfl
    cases n <;> try rfl
    exact wpK_ite_map
  case idxs x i =>
    simp only [aop, opN, oIdxs]
    generalize ev x = v
    generalize natOf (ev i) = n
    cases v <;> try rfl
    rename_i p; cases p <;> try rfl
    cases n <;> try rfl
    exact wpK_map
  case ext x i =>
    simp only [aop, opN, oExt]
    generalize ev x = v
    cases v <;> try rfl
    exact pK_map
  case len x =>
    simp only [aop, opN, oLen]
    generalize ev x = v
    cases v <;> try rfl
    rename_i p; cases p <;> rfl
  case lens x =>
    simp only [aop, opN, oLens]
    generalize ev x = v
    cases v <;> try rfl
    rename_i p; cases p <;> rfl
  case app => simp only [aop, opN]; rfl
  case copy => simp only [aop, opN]; rfl
  case mx xs =>
    simp only [aop, opN, ev1_eq, oMx]
    generalize ev1 ev xs = l
    cases l <;> try rfl
    rename_i v r
    cases v <;> try rfl
    exact wpK_map
  case mn xs =>
    simp only [aop, opN, ev1_eq, oMn]
    generalize ev1 ev xs = l
    cases l <;> try rfl
    rename_i v r
    cases v <;> try rfl
    exact wpK_map
  case new0 => rfl
  case look ok z x key =>
    simp only [aop, opN, oLook]
    cases keyOf (ev key) <;> try rfl
    rename_i kk
    generalize ev x = v
    cases v <;> try rfl
    rename_i id
    dsimp only
    cases mget h (.mp id) <;> try rfl
    rename_i y
    dsimp only [Option.map_some]
    cases mfind kk y.2.1 <;> rfl
  case lenm x =>
    simp only [aop, opN, oLenm]
    generalize ev x = v
    cases v <;> try rfl
    exact wpK_map
  all_goals rfl

end Go.Am
