/- The abstract machine, part 2: operations, code, and what it means that code ends well (AW), that a call ends well (ACall). -/
import Derived.Test.YtajhbehiecgflaaAm1
namespace Go.Am

inductive Opd where
  | t (n : Nat)
  | c (v : AV)
  | f (id : Nat)
  | g (n : Nat)
  deriving Inhabited

inductive Cv where
  | i (k : IntKind)
  | s2b | b2s | r2s | same
  deriving Inhabited

inductive AO where
  | mv (x : Opd)
  | pick (c a b : Opd)
  | alloc (z : List AV)
  | box (x : Opd)
  | build (z : List AV) (ps : List (Nat × Nat × Opd))
  | bsl (own : Bool) (sh : Sh) (n : Nat) (z : PV) (ps : List (Nat × Opd))
  | load (sh : Sh) (a : Opd)
  | store (sh : Sh) (a v : Opd)
  | nilchk (x : Opd)
  | bin (op : BinOp) (x y : Opd)
  | eqa (ks : List Nat) (neg : Bool) (x y : Opd)
  | isnil (k : Nat) (neg : Bool) (x : Opd)
  | mkif (x : Opd)
  | un (op : UnOp) (x : Opd)
  | conv (c : Cv) (x : Opd)
  | mkfn (f : Nat) (caps : List Opd)
  | mkmap
  | mksl (sh : Sh) (z : PV) (len cap : Opd)
  | slice (sh : Sh) (x : Opd) (lo hi mx : Option Opd)
  | slstr (x : Opd) (lo hi : Option Opd)
  | faddr (off : Nat) (sh : Sh) (x : Opd)
  | field (off : Nat) (sh : Sh) (x : Opd)
  | iaddr (sh : Sh) (x i : Opd)
  | iaddra (n : Nat) (sh : Sh) (x i : Opd)
  | idxa (n : Nat) (sh : Sh) (x i : Opd)
  | idxs (x i : Opd)
  | look (ok : Bool) (z : AV) (x k : Opd)
  | mupd (m k v : Opd)
  | ment (z : AV) (m k : Opd)
  | estore (m s v : Opd)
  | mdel (m k : Opd)
  | ext (x : Opd) (i : Nat)
  | len (x : Opd)
  | lens (x : Opd)
  | lenm (x : Opd)
  | app (sh : Sh) (s x : Opd)
  | copy (sh : Sh) (d s : Opd)
  | mx (xs : List Opd)
  | mn (xs : List Opd)
  | mrange (x : Opd)
  | mnext (it : Opd)
  | mentry (it : Opd)
  | new0 (sh : Sh)                        -- a nil slice that will be appended to: an empty row
  | call (f : Nat) (args : List Opd)
  | callv (f : Opd) (args : List Opd)
  deriving Inhabited

structure AOp where
  dst : Option Nat
  guard : Option (Nat × Bool)
  op : AO
  deriving Inhabited

/-- An operation of a region whose order is left open: does it change the heap; at which heaps it may be met besides its own (those ahead of earlier operations; those behind it, told at the operation that makes them). -/
structure DOp where
  op : AOp
  rd : List Nat      -- the slots that it reads
  eff : Bool
  early : List Nat
  again : List Nat
  deriving Inhabited

inductive ACode where
  | skip
  | reg (ops : List AOp) (keep : Option (List Nat))
  | draw (ds : List DOp) (keep : Option (List Nat))
  | seq (a b : ACode)
  | cond (c : Opd) (a b : ACode)
  | block (id : Nat) (b : ACode)
  | loop (b : ACode)
  | scope (b : ACode)
  | pr (keep : List Nat) (b : ACode)     -- only these slots are kept
  | exit (id : Nat)
  | ret
  | bad
  deriving Inhabited

inductive ARes where
  | t (n : Nat)
  | cell (a : Nat) (sh : Sh)
  deriving Inhabited

structure AFun where
  nparams : Nat
  results : List ARes
  body : ACode
  byref : Bool      -- slices of the caller's own come as they are
  keep : Bool       -- rows made here and handed back stay rows
  deriving Inhabited

structure St where
  env : List (Nat × AV)
  h : Heap
  esc : Esc

def aget : List (Nat × AV) → Nat → AV
  | [], _ => .und
  | (k, v) :: r, n => if k = n then v else aget r n

def Opd.ev (gl : Nat → Option PV) (e : List (Nat × AV)) : Opd → AV
  | .t n => aget e n
  | .c v => v
  | .f id => .fn id []
  | .g n => match gl n with | some v => .vp v | none => .und

def escOf (id : Nat) (v : AV) : Esc := if id < v.top then [(id, v.top)] else []

def shSize : Sh → Nat
  | none => 1
  | some n => n

def fillA (ev : Opd → AV) : List (Nat × Nat × Opd) → List AV → Option (List AV)
  | [], cs => some cs
  | (off, n, x) :: r, cs => match (ev x).cells with
    | some vs => if vs.length = n ∧ off + n ≤ cs.length then fillA ev r (splice cs off vs) else none
    | none => none

def fillP (ev : Opd → AV) (sh : Sh) : List (Nat × Opd) → Heap → List PV → Option (List PV × Heap)
  | [], h, xs => some (xs, h)
  | (i, x) :: r, h, xs => match pur h (ev x) with
    | some (v, h') => if v.shp sh ∧ i < xs.length then fillP ev sh r h' (xs.set i v) else none
    | none => none

def natOf : AV → Option Nat
  | .p (.int _ n) => if 0 ≤ n then some n.toNat else none
  | _ => none

def bnd (ev : Opd → AV) (d : Nat) : Option Opd → Option Nat
  | none => some d
  | some x => natOf (ev x)

def pint (n : Nat) : AV := .p (.int .i64 n)
def pbool (b : Bool) : AV := .p (.bool b)

def asl (sh : Sh) (ev : Opd → AV) (h : Heap) (x : AV) (lo hi mx : Option Opd) : Option AV :=
  match x with
  | .p (.sl sh' xs) => match bnd ev 0 lo, bnd ev xs.length hi, bnd ev xs.length mx with
    | some l, some r, some m => if sh' = sh ∧ l ≤ r ∧ r ≤ m ∧ m ≤ xs.length then some (if mx.isSome ∧ m = l then .sl0 sh else .p (.sl sh (win xs l (r - l)))) else none
    | _, _, _ => none
  | .sl0 sh' => match bnd ev 0 lo, bnd ev 0 hi, bnd ev 0 mx with
    | some l, some r, some m => if l = 0 ∧ r = 0 ∧ m = 0 then some (.sl0 sh') else none
    | _, _, _ => none
  | .own id g off len => match h[id]? with
    | some (.row rsh xs _) => match bnd ev 0 lo, bnd ev len hi, bnd ev len mx with
      | some l, some r, some m => if rsh = sh ∧ g = xs.length ∧ off + len ≤ xs.length ∧ l ≤ r ∧ r ≤ m ∧ m ≤ len then some (if mx.isSome ∧ m = l then .sl0 sh else .own id g (off + l) (r - l)) else none
      | _, _, _ => none
    | _ => none
  | _ => none

def bytesP (s : List UInt8) : List PV := s.map fun b => .int .u8 b.toNat
def toBytes : List PV → Option (List UInt8)
  | [] => some []
  | .int .u8 n :: r => if 0 ≤ n ∧ n < 256 then (toBytes r).map (UInt8.ofNat n.toNat :: ·) else none
  | _ :: _ => none

/-- A slice's or a string's elements. -/
def rds (h : Heap) : AV → Option (Sh × List PV)
  | .p (.str s) => some (none, bytesP s)
  | x => rd h x

def aconv (h : Heap) (c : Cv) (x : AV) : Option (AV × Heap) := match c with
  | .i k => match x with
    | .p (.int _ n) => some (.p (.int k (k.wrap n)), h)
    | _ => none
  | .s2b => match x with
    | .p (.str s) => if s.length ≤ maxSl then some (.own h.length s.length 0 s.length, h ++ [.row none (bytesP s) 0]) else none
    | _ => none
  | .b2s => match rd h x with
    | some y => (toBytes y.2).map fun b => (.p (.str b), h)
    | none => none
  | .r2s => match x with
    | .p (.int _ n) => if 0 ≤ n ∧ n < 128 then some (.p (.str [UInt8.ofNat n.toNat]), h) else none
    | _ => none
  | .same => match x with
    | .p (.str s) => some (.p (.str s), h)
    | _ => none

def mget (h : Heap) : AV → Option (Nat × List ME × Nat)
  | .mp id => match h[id]? with
    | some (.amap es c) => some (id, es, c)
    | _ => none
  | _ => none

def keyOf : AV → Option PV
  | .p k => if k.key then some k else none
  | _ => none

def okIn : AV → Bool
  | .und | .skp | .tup _ => false
  | _ => true

def nilOf (k : Nat) (v : AV) : Option Bool := match k with
  | 0 => match v with
    | .nilp | .p .nilp => some true
    | .ref _ _ | .rref _ _ _ _ | .vp _ => some false
    | _ => none
  | 1 => match v with
    | .nilm => some true
    | .mp _ => some false
    | _ => none
  | 2 => match v with
    | .nilf => some true
    | .fn _ _ => some false
    | _ => none
  | 3 => match v with
    | .nili => some true
    | .ifc => some false
    | _ => none
  | _ => match v with
    | .p (.sl _ (_ :: _)) => some false
    | _ => none

/-- The operations that are no calls: what they yield, the heap behind them, which newer objects older ones name now. -/
def aop (o : AO) (ev : Opd → AV) (h : Heap) : Option (AV × Heap × Esc) :=
  match o with
  | .mv x => some (ev x, h, [])
  | .pick c a b => match ev c with
    | .p (.bool t) => some (bif t then ev a else ev b, h, [])
    | _ => none
  | .alloc z => some (.ref h.length 0, h ++ [.box z], [])
  | .box x => match (ev x).cells with
    | some cs => some (.ref h.length 0, h ++ [.box cs], [])
    | none => none
  | .build z ps => (fillA ev ps z).map fun cs => (mkA cs, h, [])
  | .bsl own sh n z ps => match fillP ev sh ps h (List.replicate n z) with
    | some (xs, h') => if !z.shp sh then none else some (bif own then (.own h'.length n 0 n, h' ++ [.row sh xs 0], []) else (.p (.sl sh xs), h', []))
    | none => none
  | .load sh a => match ev a with
    | .ref id off => match h[id]? with
      | some (.box cs) => (cut sh off cs).map fun v => (v, h, [])
      | _ => none
    | .rref id g i off => match h[id]? with
      | some (.row _ xs _) => if g = xs.length then ((xs[i]?).bind (cutP sh off)).map fun v => (.p v, h, []) else none
      | _ => none
    | .vp v => (cutP sh 0 v).map fun v => (.p v, h, [])
    | _ => none
  | .store sh a x => match ev a with
    | .ref id off => match h[id]?, (ev x).cells with
      | some (.box cs), some vs => if vs.length = shSize sh ∧ off + vs.length ≤ cs.length then some (.und, h.set id (.box (splice cs off vs)), escOf id (ev x)) else none
      | _, _ => none
    | .rref id g i off => match pur h (ev x) with
      | some (v, h1) => match h1[id]? with
        | some (.row rsh xs fz) => if g = xs.length ∧ fz ≤ i ∧ v.cells.length = shSize sh ∧ v.cells.all PV.sc then match xs[i]? with
          | some (.agg cs) => if off + v.cells.length ≤ cs.length then some (.und, h1.set id (.row rsh (xs.set i (.agg (splice cs off v.cells))) fz), []) else none
          | some _ => if off = 0 ∧ v.sc then some (.und, h1.set id (.row rsh (xs.set i v) fz), []) else none
          | none => none
          else none
        | _ => none
      | none => none
    | _ => none
  | .nilchk x => match ev x with
    | .ref _ _ | .rref _ _ _ _ | .vp _ | .fn _ _ => some (ev x, h, [])
    | _ => none
  | .bin op x y => match ev x, ev y with
    | .p a, .p b => (abin op a b).map fun v => (.p v, h, [])
    | _, _ => none
  | .eqa ks neg x y => match ev x, ev y with
    | .p (.agg as), .p (.agg bs) => if as.map PV.kind = ks ∧ bs.map PV.kind = ks ∧ ks ≠ [] then (eqs as bs).map fun t => (pbool (bif neg then !t else t), h, []) else none
    | .p (.bool a), .p (.bool b) => if ks = [] then some (pbool (bif neg then !decide (a = b) else decide (a = b)), h, []) else none
    | _, _ => none
  | .isnil k neg x => (nilOf k (ev x)).map fun r => (pbool (bif neg then !r else r), h, [])
  | .mkif x => if okIn (ev x) then some (.ifc, h, []) else none
  | .un op x => match ev x with
    | .p a => (aun op a).map fun v => (.p v, h, [])
    | _ => none
  | .conv c x => (aconv h c (ev x)).map fun (v, h') => (v, h', [])
  | .mkfn f caps => some (.fn f (caps.map ev), h, [])
  | .mkmap => some (.mp h.length, h ++ [.amap [] 0], [])
  | .mksl sh z len cap => match natOf (ev len), natOf (ev cap) with
    | some n, some m => if n ≤ m ∧ m ≤ maxSl ∧ z.shp sh then some (.own h.length n 0 n, h ++ [.row sh (List.replicate n z) 0], []) else none
    | _, _ => none
  | .slstr x lo hi => match ev x with
    | .p (.str s) => match bnd ev 0 lo, bnd ev s.length hi with
      | some l, some r => if l ≤ r ∧ r ≤ s.length then some (.p (.str (win s l (r - l))), h, []) else none
      | _, _ => none
    | _ => none
  | .slice sh x lo hi mx => (asl sh ev h (ev x) lo hi mx).map fun v => (v, h, [])
  | .faddr off sh x => match ev x with
    | .ref id o => some (.ref id (o + off), h, [])
    | .rref id g i o => some (.rref id g i (o + off), h, [])
    | .vp v => (cutP sh off v).map fun u => (.vp u, h, [])
    | _ => none
  | .field off sh x => match ev x with
    | .p v => match v with
      | .agg _ => (cutP sh off v).map fun u => (.p u, h, [])
      | _ => none
    | .agg cs => (cut sh off cs).map fun u => (u, h, [])
    | _ => none
  | .iaddr sh x i => match ev x, natOf (ev i) with
    | .p (.sl sh' xs), some k => if sh' = sh then (xs[k]?).map fun v => (.vp v, h, []) else none
    | .own id g off len, some k => match h[id]? with
      | some (.row rsh xs _) => if rsh = sh ∧ g = xs.length ∧ off + len ≤ xs.length ∧ k < len then some (.rref id g (off + k) 0, h, []) else none
      | _ => none
    | _, _ => none
  | .iaddra n sh x i => match ev x, natOf (ev i) with
    | .ref id o, some k => if k < n then some (.ref id (o + k * shSize sh), h, []) else none
    | .rref id g j o, some k => if k < n then some (.rref id g j (o + k * shSize sh), h, []) else none
    | .vp v, some k => if k < n then (cutP sh (k * shSize sh) v).map fun u => (.vp u, h, []) else none
    | _, _ => none
  | .idxa n sh x i => match ev x, natOf (ev i) with
    | .p (.agg cs), some k => if k < n then (cutP sh (k * shSize sh) (.agg cs)).map fun u => (.p u, h, []) else none
    | _, _ => none
  | .idxs x i => match ev x, natOf (ev i) with
    | .p (.str s), some k => (s[k]?).map fun b => (.p (.int .u8 b.toNat), h, [])
    | _, _ => none
  | .look ok z x k => match keyOf (ev k) with
    | some key => match (match ev x with | .nilm => some [] | m => (mget h m).map fun y => y.2.1) with
      | some es => match mfind key es with
        | some r =>
          let v := ((r.bind (es[·]?)).map ME.val)
          some (bif ok then .tup [v.getD z, pbool v.isSome] else v.getD z, h, [])
        | none => none
      | none => none
    | none => none
  | .mupd m k x => match keyOf (ev k), mget h (ev m), okIn (ev x) with
    | some key, some (id, es, c), true => match mfind key es with
      | some (some i) => some (.und, h.set id (.amap (es.modify i fun e => { e with val := ev x }) c), escOf id (ev x))
      | some none => some (.und, h.set id (.amap (es ++ [⟨key, ev x, c⟩]) (c + 1)), escOf id (ev x))
      | none => none
    | _, _, _ => none
  | .ment z m k => match keyOf (ev k), mget h (ev m) with
    | some key, some (id, es, c) => match mfind key es with
      | some (some i) => (es[i]?).map fun e => (.tup [e.val, pint e.born], h, [])
      | some none => some (.tup [z, pint c], h.set id (.amap (es ++ [⟨key, z, c⟩]) (c + 1)), [])
      | none => none
    | _, _ => none
  | .estore m s x => match mget h (ev m), natOf (ev s), okIn (ev x) with
    | some (id, es, c), some b, true => match es.findIdx? (fun e => e.born == b) with
      | some i => some (.und, h.set id (.amap (es.modify i fun e => { e with val := ev x }) c), escOf id (ev x))
      | none => none
    | _, _, _ => none
  | .mdel m k => match keyOf (ev k), mget h (ev m) with
    | some key, some (id, es, c) => match mfind key es with
      | some (some i) => some (.und, h.set id (.amap (es.eraseIdx i) c), [])
      | some none => some (.und, h, [])
      | none => none
    | _, _ => none
  | .ext x i => match ev x with
    | .tup vs => (vs[i]?).map fun v => (v, h, [])
    | _ => none
  | .lens x => match ev x with
    | .p (.str s) => some (pint s.length, h, [])
    | _ => none
  | .len x => match ev x with
    | .p (.sl _ xs) => some (pint xs.length, h, [])
    | .sl0 _ => some (pint 0, h, [])
    | .own _ _ _ len => some (pint len, h, [])
    | _ => none
  | .lenm x => match ev x with
    | .nilm => some (pint 0, h, [])
    | .mp id => (mget h (.mp id)).map fun y => (pint y.2.1.length, h, [])
    | _ => none
  | .app sh s x => match rds h (ev x) with
    | some (sh', ys) => if sh' = sh then match ev s with
      | .sl0 _ => if ys.length ≤ maxSl then some (.own h.length ys.length 0 ys.length, h ++ [.row sh ys 0], []) else none
      | .own id g off len => match h[id]? with
        | some (.row rsh xs fz) => if rsh = sh ∧ g = xs.length ∧ off = 0 ∧ len = xs.length ∧ len + ys.length ≤ maxSl then some (.own id (g + ys.length) off (len + ys.length), h.set id (.row sh (xs ++ ys) fz), []) else none
        | _ => none
      | _ => none
      else none
    | none => none
  | .copy sh d s => match ev d, rds h (ev s) with
    | .own id g off len, some (sh', ys) => match h[id]? with
      | some (.row rsh xs fz) => if rsh = sh ∧ sh' = sh ∧ g = xs.length ∧ off + len ≤ xs.length ∧ fz ≤ off then
          some (pint (min ys.length len), h.set id (.row sh (splice xs off (ys.take (min ys.length len))) fz), [])
        else none
      | _ => none
    | _, _ => none
  | .mx xs => match xs.map ev with
    | .p a :: r => ((unp r).bind fun l => l.foldlM amax2 a).map fun v => (.p v, h, [])
    | _ => none
  | .mn xs => match xs.map ev with
    | .p a :: r => ((unp r).bind fun l => l.foldlM amin2 a).map fun v => (.p v, h, [])
    | _ => none
  | .new0 sh => some (.own h.length 0 0 0, h ++ [.row sh [] 0], [])
  | .mrange x => match mget h (ev x) with
    | some (id, _, c) => some (.it h.length, h ++ [.iter (some id) c [] c], [])
    | none => match ev x with
      | .nilm => some (.it h.length, h ++ [.iter none 0 [] 0], [])
      | _ => none
  | .mentry i => match ev i with
    | .it id => match h[id]? with
      | some (.iter (some m) _ seen last) => match mget h (.mp m), seen.getLast? with
        | some (_, es, c), some b => if c = last then (es.find? (fun e => e.born == b)).map fun e => (.tup [.p e.key, e.val], h, []) else none
        | _, _ => none
      | _ => none
    | _ => none
  | .call _ _ | .callv _ _ | .mnext _ => none

/-- What a step of a range over a map can yield: none: no step. -/
def mnexts (h : Heap) : AV → Option (List (AV × Heap))
  | .it id => match h[id]? with
    | some (.iter none _ _ _) => some [(.tup [pbool false], h)]
    | some (.iter (some m) since seen last) => match mget h (.mp m) with
      | some (_, es, c) => if c = since ∧ last = since then
          match es.filter (fun e => !seen.contains e.born) with
          | [] => some [(.tup [pbool false], h)]
          | l => some (l.map fun e => (.tup [pbool true, .p e.key, e.val], h.set id (.iter (some m) since (seen ++ [e.born]) last)))
        else none
      | none => none
    | _ => none
  | _ => none

end Go.Am
