/- The abstract machine, part 1: values, objects, operations. Plain definitions; nothing is proved of the program here. -/
import Derived.Calls
namespace Go.Am

/-- Values without memory of their own: numbers, strings, lists (slices that are only read), structs and arrays as lists of cells. -/
inductive PV where
  | int (k : IntKind) (n : Int)
  | bool (b : Bool)
  | str (s : List UInt8)
  | sl (sh : Option Nat) (xs : List PV)
  | agg (cs : List PV)
  | nilp
  deriving Inhabited

inductive AV where
  | p (v : PV)
  | own (id g off len : Nat)
  | sl0 (sh : Option Nat)
  | ref (id off : Nat)
  | rref (id g i off : Nat)
  | vp (v : PV)
  | nilp | nilm | nilf | nili | ifc
  | mp (id : Nat)
  | it (id : Nat)
  | fn (f : Nat) (caps : List AV)
  | agg (cs : List AV)
  | tup (vs : List AV)
  | skp            -- what an operation that was passed over leaves
  | und
  deriving Inhabited

structure ME where
  key : PV
  val : AV
  born : Nat
  deriving Inhabited

inductive Obj where
  | box (cs : List AV)
  | row (sh : Option Nat) (xs : List PV) (fz : Nat)
  | amap (es : List ME) (clock : Nat)
  | iter (m : Option Nat) (since : Nat) (seen : List Nat) (last : Nat)
  deriving Inhabited

abbrev Esc := List (Nat × Nat)
abbrev Heap := List Obj
abbrev Sh := Option Nat

/-! ### cells -/

def PV.sc : PV → Bool
  | .agg _ => false
  | _ => true

def PV.cells : PV → List PV
  | .agg cs => cs
  | v => [v]

def AV.sc : AV → Bool
  | .p v => v.sc
  | .agg _ | .tup _ | .skp | .und => false
  | _ => true

/-- The cells of a value that can lie in memory. -/
def AV.cells : AV → Option (List AV)
  | .p (.agg cs) => if cs.all PV.sc then some (cs.map .p) else none
  | .p v => some [.p v]
  | .agg cs => if cs.all AV.sc then some cs else none
  | .tup _ | .skp | .und => none
  | x => some [x]

def unp : List AV → Option (List PV)
  | [] => some []
  | .p v :: r => (unp r).map (v :: ·)
  | _ :: _ => none

def mkA (cs : List AV) : AV := match unp cs with
  | some vs => .p (.agg vs)
  | none => .agg cs

/-- A value of this shape (a scalar; n cells). -/
def PV.shp : Sh → PV → Bool
  | none, v => v.sc
  | some n, .agg cs => cs.length == n && cs.all PV.sc
  | some _, _ => false

/-- What lies at offset off of cells, in this shape. -/
def cut (sh : Sh) (off : Nat) (cs : List AV) : Option AV := match sh with
  | none => cs[off]?
  | some n => if off + n ≤ cs.length then some (mkA ((cs.drop off).take n)) else none

def cutP (sh : Sh) (off : Nat) : PV → Option PV
  | .agg cs => match sh with
    | none => (cs[off]?).bind fun x => if x.sc then some x else none
    | some n => if off + n ≤ cs.length then some (.agg ((cs.drop off).take n)) else none
  | v => match sh, off with
    | none, 0 => some v
    | _, _ => none

/-- Cells written over others, from an offset on. -/
def splice {α : Type} (cs : List α) (off : Nat) (vs : List α) : List α := cs.take off ++ vs ++ cs.drop (off + vs.length)

/-! ### references -/

mutual
/-- One more than the greatest object that a value names (0: none). -/
def AV.top : AV → Nat
  | .own id _ _ _ | .ref id _ | .rref id _ _ _ | .mp id | .it id => id + 1
  | .fn _ cs | .agg cs | .tup cs => AV.tops cs
  | _ => 0
def AV.tops : List AV → Nat
  | [] => 0
  | v :: r => max v.top (AV.tops r)
end

def Obj.top : Obj → Nat
  | .box cs => AV.tops cs
  | .row _ _ _ => 0
  | .amap es _ => AV.tops (es.map ME.val)
  | .iter m _ _ _ => match m with | some i => i + 1 | none => 0

/-! ### slices -/

/-- The part of a list that a slice shows. -/
def win {α : Type} (xs : List α) (off len : Nat) : List α := (xs.drop off).take len

/-- A slice's elements, read. -/
def rd (h : Heap) : AV → Option (Sh × List PV)
  | .p (.sl sh xs) => some (sh, xs)
  | .sl0 sh => some (sh, [])
  | .own id g off len => match h[id]? with
    | some (.row sh xs _) => if g = xs.length ∧ off + len ≤ xs.length then some (sh, win xs off len) else none
    | _ => none
  | _ => none

/-- A row whose first k elements are not written any more. -/
def frz (h : Heap) (id k : Nat) : Heap := match h[id]? with
  | some (.row sh xs fz) => h.set id (.row sh xs (max fz k))
  | _ => h

mutual
/-- A value as one without memory of its own: rows that it shows are frozen. -/
def pur (h : Heap) : AV → Option (PV × Heap)
  | .p v => some (v, h)
  | .sl0 sh => some (.sl sh [], h)
  | .nilp => some (.nilp, h)
  | .own id g off len => (rd h (.own id g off len)).map fun y => (.sl y.1 y.2, frz h id (off + len))
  | .agg cs => match purs h cs with
    | some (vs, h') => some (.agg vs, h')
    | none => none
  | _ => none
def purs (h : Heap) : List AV → Option (List PV × Heap)
  | [] => some ([], h)
  | v :: r => match pur h v with
    | some (x, h1) => match purs h1 r with
      | some (xs, h2) => some (x :: xs, h2)
      | none => none
    | none => none
end

/-! ### arithmetic and comparison -/

def PV.eq1 : PV → PV → Option Bool
  | .int k a, .int k' b => if k = k' then some (decide (a = b)) else none
  | .bool a, .bool b => some (decide (a = b))
  | .str a, .str b => some (decide (a = b))
  | _, _ => none

def eqs : List PV → List PV → Option Bool
  | [], [] => some true
  | a :: as, b :: bs => match PV.eq1 a b with
    | some x => (eqs as bs).map (x && ·)
    | none => none
  | _, _ => none

def PV.kind : PV → Nat
  | .int _ _ => 0
  | .bool _ => 1
  | .str _ => 2
  | _ => 3

/-- Equality of two structs (or of two scalars). -/
def PV.eqv : PV → PV → Option Bool
  | .agg as, .agg bs => eqs as bs
  | a, b => PV.eq1 a b

def iand (k : IntKind) (a b : Int) : Int := k.wrap (BitVec.ofInt k.bits a &&& BitVec.ofInt k.bits b).toNat
def ior (k : IntKind) (a b : Int) : Int := k.wrap (BitVec.ofInt k.bits a ||| BitVec.ofInt k.bits b).toNat
def ixor (k : IntKind) (a b : Int) : Int := k.wrap (BitVec.ofInt k.bits a ^^^ BitVec.ofInt k.bits b).toNat
def iandn (k : IntKind) (a b : Int) : Int := k.wrap (BitVec.ofInt k.bits a &&& ~~~(BitVec.ofInt k.bits b)).toNat
def ishl (k : IntKind) (a b : Int) : Int := k.wrap (a * 2 ^ (min b.toNat k.bits))
def ishr (k : IntKind) (a b : Int) : Int := a.fdiv (2 ^ (min b.toNat k.bits))
def aint (op : BinOp) (k : IntKind) (a b : Int) : Option PV := match op with
  | .add => some (.int k (k.wrap (a + b)))
  | .sub => some (.int k (k.wrap (a - b)))
  | .mul => some (.int k (k.wrap (a * b)))
  | .quo => if b = 0 then none else some (.int k (k.wrap (a.tdiv b)))
  | .rem => if b = 0 then none else some (.int k (a.tmod b))
  | .and => some (.int k (iand k a b))
  | .or => some (.int k (ior k a b))
  | .xor => some (.int k (ixor k a b))
  | .andNot => some (.int k (iandn k a b))
  | .eql => some (.bool (decide (a = b)))
  | .neq => some (.bool (!decide (a = b)))
  | .lss => some (.bool (decide (a < b)))
  | .leq => some (.bool (decide (a ≤ b)))
  | .gtr => some (.bool (decide (b < a)))
  | .geq => some (.bool (decide (b ≤ a)))
  | _ => none

/-- The most bytes of a string that is made here. -/
def maxStr : Nat := 2 ^ 46
/-- The most elements of a slice that is made here. -/
def maxSl : Nat := 2 ^ 38

def astr (op : BinOp) (a b : List UInt8) : Option PV := match op with
  | .add => if a.length + b.length ≤ maxStr then some (.str (a ++ b)) else none
  | .eql => some (.bool (decide (a = b)))
  | .neq => some (.bool (!decide (a = b)))
  | .lss => some (.bool (Op.bytesLess a b))
  | .leq => some (.bool (Op.bytesLess a b || decide (a = b)))
  | .gtr => some (.bool (!(Op.bytesLess a b || decide (a = b))))
  | .geq => some (.bool (!Op.bytesLess a b))
  | _ => none

def abin (op : BinOp) : PV → PV → Option PV
  | .int k a, .int k' b => match op with
    | .shl => if b < 0 then none else some (.int k (ishl k a b))
    | .shr => if b < 0 then none else some (.int k (ishr k a b))
    | _ => if k = k' then aint op k a b else none
  | .str a, .str b => astr op a b
  | _, _ => none

def aun (op : UnOp) : PV → Option PV
  | .int k n => match op with
    | .neg => some (.int k (k.wrap (0 - n)))
    | .xor => some (.int k (k.wrap (BitVec.ofInt k.bits (if k.signed then -1 else k.max) ^^^ BitVec.ofInt k.bits n).toNat))
    | _ => none
  | .bool b => match op with
    | .not => some (.bool !b)
    | _ => none
  | _ => none

def amax2 : PV → PV → Option PV
  | .int k x, .int k' y => if k = k' then some (.int k (max x y)) else none
  | _, _ => none
def amin2 : PV → PV → Option PV
  | .int k x, .int k' y => if k = k' then some (.int k (min x y)) else none
  | _, _ => none

/-! ### maps -/

def PV.key : PV → Bool
  | .int _ _ | .str _ | .bool _ => true
  | .agg cs => cs.all fun | .int _ _ | .str _ | .bool _ => true | _ => false
  | _ => false

/-- The place of a key. -/
def mfind (k : PV) : List ME → Option (Option Nat)
  | [] => some none
  | e :: es => match PV.eqv k e.key with
    | some true => some (some 0)
    | some false => (mfind k es).map (·.map (· + 1))
    | none => none

end Go.Am
