/- Texts of the proof, laid together: Nums, Am1, Am2, Am3, Am4, Am5, Am6, Am7, Am8. -/
import Derived.Calls
import Derived.Laws.Sem
import Derived.Laws.Strings
import Derived.Laws.StructEq
set_option linter.all false
section
/- The numbers of the functions in this translation. -/
namespace Go.Am
abbrev bE:Nat:=160
abbrev YZ:Nat:=176
abbrev uU:Nat:=77
abbrev ZZ:Nat:=125
abbrev tE:Nat:=140
abbrev vU:Nat:=219
abbrev DB:Nat:=124
abbrev z0a:Nat:=132
abbrev z0b:Nat:=168
abbrev z0c:Nat:=88
abbrev z0d:Nat:=245
abbrev z0e:Nat:=240
abbrev z0f:Nat:=169
abbrev z0g:Nat:=204
abbrev z0h:Nat:=243
abbrev z0i:Nat:=260
abbrev z0j:Nat:=269
abbrev cK:Nat:=241
abbrev z0k:Nat:=205
abbrev z0l:Nat:=133
abbrev yN:Nat:=134
abbrev z0m:Nat:=207
abbrev z0n:Nat:=244
abbrev z0o:Nat:=261
abbrev wU:Nat:=123
abbrev XE:Nat:=98
abbrev DF:Nat:=196
abbrev xU:Nat:=248
abbrev YE:Nat:=144
abbrev JH:Nat:=234
abbrev KH:Nat:=143
abbrev DG:Nat:=110
abbrev z0p:Nat:=45
abbrev dK:Nat:=10
abbrev eK:Nat:=11
abbrev z0q:Nat:=73
abbrev fK:Nat:=12
abbrev EF:Nat:=25
abbrev EG:Nat:=111
abbrev FF:Nat:=60
abbrev LH:Nat:=113
abbrev FG:Nat:=94
abbrev GG:Nat:=76
abbrev GF:Nat:=56
abbrev HF:Nat:=57
abbrev iK:Nat:=126
abbrev HG:Nat:=95
abbrev z0r:Nat:=97
abbrev uE:Nat:=59
abbrev IF:Nat:=96
abbrev z0s:Nat:=264
abbrev CF:Nat:=256
abbrev xN:Nat:=271
abbrev jK:Nat:=235
abbrev z0t:Nat:=91
abbrev z0u:Nat:=175
abbrev z0v:Nat:=138
abbrev z0w:Nat:=137
abbrev z0x:Nat:=174
abbrev MH:Nat:=101
abbrev zcr:Nat:=153
abbrev kK:Nat:=154
abbrev IG:Nat:=58
abbrev zN:Nat:=5
abbrev JG:Nat:=43
abbrev KG:Nat:=42
abbrev z0y:Nat:=89
abbrev LG:Nat:=102
abbrev lK:Nat:=54
abbrev mK:Nat:=8
abbrev nK:Nat:=9
abbrev MD:Nat:=22
abbrev kD:Nat:=52
abbrev NH:Nat:=74
abbrev OH:Nat:=109
abbrev ND:Nat:=20
abbrev UC:Nat:=23
abbrev oK:Nat:=41
abbrev qK:Nat:=86
abbrev rK:Nat:=40
abbrev JF:Nat:=51
abbrev sK:Nat:=117
abbrev tK:Nat:=87
abbrev MG:Nat:=131
abbrev uK:Nat:=64
abbrev vE:Nat:=79
abbrev vK:Nat:=164
abbrev PH:Nat:=80
abbrev z0z:Nat:=268
abbrev xK:Nat:=55
abbrev yK:Nat:=166
abbrev AN:Nat:=114
abbrev z00:Nat:=170
abbrev zK:Nat:=61
abbrev yU:Nat:=242
abbrev KF:Nat:=121
abbrev AK:Nat:=112
abbrev cE:Nat:=44
abbrev zU:Nat:=206
abbrev BK:Nat:=85
abbrev QH:Nat:=17
abbrev z01:Nat:=259
abbrev CK:Nat:=130
abbrev RH:Nat:=118
abbrev DK:Nat:=161
abbrev SH:Nat:=93
abbrev BU:Nat:=246
abbrev wE:Nat:=50
abbrev EK:Nat:=115
abbrev FK:Nat:=62
abbrev GK:Nat:=63
abbrev TH:Nat:=116
abbrev zcs:Nat:=147
abbrev zct:Nat:=192
abbrev zcu:Nat:=148
abbrev zcv:Nat:=193
abbrev zcw:Nat:=146
abbrev zcx:Nat:=191
abbrev HK:Nat:=145
abbrev IK:Nat:=190
abbrev zcy:Nat:=150
abbrev zcz:Nat:=195
abbrev zc0:Nat:=151
abbrev zc1:Nat:=197
abbrev zc2:Nat:=152
abbrev zc3:Nat:=198
abbrev NG:Nat:=100
abbrev OG:Nat:=163
abbrev zc4:Nat:=149
abbrev zc5:Nat:=194
abbrev z02:Nat:=178
abbrev z03:Nat:=177
abbrev z04:Nat:=92
abbrev z05:Nat:=217
abbrev z06:Nat:=180
abbrev z07:Nat:=216
abbrev z08:Nat:=139
abbrev z09:Nat:=250
abbrev z0A:Nat:=221
abbrev CU:Nat:=222
abbrev z0B:Nat:=220
abbrev z0C:Nat:=181
abbrev z0D:Nat:=141
abbrev z0E:Nat:=179
abbrev z0F:Nat:=218
abbrev z0G:Nat:=142
abbrev UH:Nat:=249
abbrev JK:Nat:=199
abbrev VH:Nat:=53
abbrev KK:Nat:=189
abbrev z0H:Nat:=247
abbrev DU:Nat:=262
abbrev PG:Nat:=270
abbrev QG:Nat:=263
abbrev z0I:Nat:=135
abbrev z0J:Nat:=90
abbrev FU:Nat:=209
abbrev z0K:Nat:=211
abbrev z0L:Nat:=171
abbrev GU:Nat:=136
abbrev BN:Nat:=215
abbrev z0M:Nat:=213
abbrev z0N:Nat:=173
abbrev LK:Nat:=214
abbrev z0O:Nat:=210
abbrev z0P:Nat:=212
abbrev z0Q:Nat:=208
abbrev z0R:Nat:=172
def bldT:Nat:=140
def bldE:Nat:=5
end Go.Am
end
section
/- The abstract machine,part 1: values,objects,operations. Plain definitions;nothing is proved of the program here. -/
namespace Go.Am
inductive PV where
 | int (k:IntKind) (n:Int)
 | bool (b:Bool)
 | str (s:List UInt8)
 | sl (sh:Option Nat) (xs:List PV)
 | agg (cs:List PV)
 | nilp
 | unk            -- a whole number,it is not said which
 deriving Inhabited
inductive AV where
 | p (v:PV)
 | own (id g off len:Nat)
 | sl0 (sh:Option Nat)
 | ref (id off:Nat)
 | rref (id g i off:Nat)
 | vp (v:PV)
 | nilp|nilm|nilf|nili|ifc
 | mp (id:Nat)
 | it (id:Nat)
 | fn (f:Nat) (caps:List AV)
 | agg (cs:List AV)
 | tup (vs:List AV)
 | anyb           -- true or false
 | skp            -- what an operation that was passed over leaves
 | und
 | anyp           -- a pointer,it is not said where tov
 | bt (k t id g:Nat)   -- (3: a slice over a row of rows,of a shape t;4: the address of its cell t;g its elements then) of a builder: 0 its nil address (the block's type t);1 its buffer;2 the buffer's first byte
 deriving Inhabited
structure ME where
 key:PV
 val:AV
 born:Nat
 deriving Inhabited
inductive Obj where
 | box (cs:List AV)
 | row (sh:Option Nat) (xs:List PV) (fz:Nat)
 | amap (es:List ME) (clock:Nat)
 | iter (m:Option Nat) (since:Nat) (seen:List Nat) (last:Nat)
 | arow (sh:Option Nat) (cs:List AV)   -- a row whose elements may name rows: its cells
 deriving Inhabited
abbrev Esc:=List (Nat × Nat)
abbrev aA:=List Obj
abbrev Sh:=Option Nat
def PV.sc:PV→Bool
 | .agg _=>false
 | _=>true
def PV.cells:PV→List PV
 | .agg cs=>cs
 | v=>[v]
def AV.sc:AV→Bool
 | .p v=>v.sc
 | .agg _ | .tup _ | .skp | .und | .anyb=>false
 | _=>true
def AV.cells:AV→Option (List AV)
 | .p (.agg cs)=>if cs.all PV.sc then some (cs.map .p) else none
 | .p v=>some [.p v]
 | .agg cs=>if cs.all AV.sc then some cs else none
 | .tup _ | .skp | .und | .anyb=>none
 | x=>some [x]
def unp:List AV→Option (List PV)
 | []=>some []
 | .p v::r=>(unp r).map (v :: ·)
 | _::_=>none
def mkA (cs:List AV):AV:=match unp cs with
 | some vs=>.p (.agg vs)
 | none=>.agg cs
def PV.shp:Sh→PV→Bool
 | none,v=>v.sc
 | some n,.agg cs=>cs.length==n&&cs.all PV.sc
 | some _,_=>false
def cut (sh:Sh)(off:Nat)(cs:List AV):Option AV:=match sh with
 | none=>cs[off]?
 | some n=>if off+n≤cs.length then some (mkA ((cs.drop off).take n)) else none
def qB (sh:Sh)(off:Nat):PV→Option PV
 | .agg cs=>match sh with
  | none=>(cs[off]?).bind fun x=>if x.sc then some x else none
  | some n=>if off+n≤cs.length then some (.agg ((cs.drop off).take n)) else none
 | v=>match sh,off with
  | none,0=>some v
  | _,_=>none
def splice {α:Type}(cs:List α)(off:Nat)(vs:List α):List α:=cs.take off++vs++cs.drop (off+vs.length)
mutual
def AV.top:AV→Nat
 | .own id _ _ _ | .ref id _ | .rref id _ _ _ | .mp id | .it id | .bt _ _ id _=>id+1
 | .fn _ cs | .agg cs | .tup cs=>AV.tops cs
 | _=>0
def AV.tops:List AV→Nat
 | []=>0
 | v::r=>max v.top (AV.tops r)
end
def Obj.top:Obj→Nat
 | .box cs=>AV.tops cs
 | .row _ _ _=>0
 | .amap es _=>AV.tops (es.map ME.val)
 | .iter m _ _ _=>match m with|some i=>i+1|none=>0
 | .arow _ cs=>AV.tops cs
def win {α:Type}(xs:List α)(off len:Nat):List α:=(xs.drop off).take len
def rd (h:aA):AV→Option (Sh×List PV)
 | .p (.sl sh xs)=>some (sh,xs)
 | .sl0 sh=>some (sh,[])
 | .own id g off len=>match h[id]? with
  | some (.row sh xs _)=>if g=xs.length∧off+len≤xs.length then some (sh,win xs off len) else none
  | _=>none
 | _=>none
def frz (h:aA)(id k:Nat):aA:=match h[id]? with
 | some (.row sh xs fz)=>h.set id (.row sh xs (max fz k))
 | _=>h
def gA:Sh→Nat
 | none=>1
 | some n=>n
def sE (n:Nat):Nat→List PV→List PV
 | 0,_=>[]
 | f+1,vs=>.agg (vs.take n)::sE n f (vs.drop n)
def fC (sh:Sh)(g:Nat)(vs:List PV):List PV:=match sh with
 | none=>vs
 | some n=>sE n g vs
def rL (h:aA):AV→Option (PV×aA)
 | .p v=>some (v,h)
 | .sl0 sh=>some (.sl sh [],h)
 | .nilp=>some (.nilp,h)
 | .own id g off len=>(rd h (.own id g off len)).map fun y=>(.sl y.1 y.2,frz h id (off+len))
 | _=>none
def ZF (h:aA):List AV→Option (List PV×aA)
 | []=>some ([],h)
 | v::r=>match rL h v with
  | some (x,h1)=>match ZF h1 r with
   | some (xs,h2)=>some (x::xs,h2)
   | none=>none
  | none=>none
def purA (h:aA)(id g:Nat):Option (PV×aA):=match h[id]? with
 | some (.arow sh cs)=>if g*gA sh=cs.length then match ZF h cs with
  | some (vs,h1)=>some (.sl sh (fC sh g vs),frz (h1.set id (.row sh (fC sh g vs) 0)) id (0+g))
  | none=>none
  else none
 | _=>none
mutual
def pur (h:aA):AV→Option (PV×aA)
 | .p v=>some (v,h)
 | .sl0 sh=>some (.sl sh [],h)
 | .nilp=>some (.nilp,h)
 | .own id g off len=>(rd h (.own id g off len)).map fun y=>(.sl y.1 y.2,frz h id (off+len))
 | .bt k _ id g=>bif Nat.beq k 3 then purA h id g else none
 | .agg cs=>match eJ h cs with
  | some (vs,h')=>some (.agg vs,h')
  | none=>none
 | _=>none
def eJ (h:aA):List AV→Option (List PV×aA)
 | []=>some ([],h)
 | v::r=>match pur h v with
  | some (x,h1)=>match eJ h1 r with
   | some (xs,h2)=>some (x::xs,h2)
   | none=>none
  | none=>none
end
def PV.eq1:PV→PV→Option Bool
 | .int k a,.int k' b=>if k=k' then some (decide (a=b)) else none
 | .bool a,.bool b=>some (decide (a=b))
 | .str a,.str b=>some (decide (a=b))
 | _,_=>none
def eqs:List PV→List PV→Option Bool
 | [],[]=>some true
 | a::asv,b::bs=>match PV.eq1 a b with
  | some x=>(eqs asv bs).map (x && ·)
  | none=>none
 | _,_=>none
def PV.intP:PV→Bool
 | .int _ _ | .unk=>true
 | _=>false
def PV.kind:PV→Nat
 | .int _ _=>0
 | .bool _=>1
 | .str _=>2
 | _=>3
def PV.eqv:PV→PV→Option Bool
 | .agg asv,.agg bs=>eqs asv bs
 | a,b=>PV.eq1 a b
def XC (k:IntKind)(a b:Int):Int:=k.wrap (BitVec.ofInt k.bits a &&& BitVec.ofInt k.bits b).toNat
def ior (k:IntKind)(a b:Int):Int:=k.wrap (BitVec.ofInt k.bits a ||| BitVec.ofInt k.bits b).toNat
def WG (k:IntKind)(a b:Int):Int:=k.wrap (BitVec.ofInt k.bits a ^^^ BitVec.ofInt k.bits b).toNat
def UG (k:IntKind)(a b:Int):Int:=k.wrap (BitVec.ofInt k.bits a &&& ~~~(BitVec.ofInt k.bits b)).toNat
def NF (k:IntKind)(a b:Int):Int:=k.wrap (a*2^(min b.toNat k.bits))
def yD (k:IntKind)(a b:Int):Int:=a.fdiv (2^(min b.toNat k.bits))
def cC (op:BinOp)(k:IntKind)(a b:Int):Option PV:=match op with
 | .add=>some (.int k (k.wrap (a+b)))
 | .sub=>some (.int k (k.wrap (a-b)))
 | .mul=>some (.int k (k.wrap (a*b)))
 | .quo=>if b=0 then none else some (.int k (k.wrap (a.tdiv b)))
 | .rem=>if b=0 then none else some (.int k (a.tmod b))
 | .and=>some (.int k (XC k a b))
 | .or=>some (.int k (ior k a b))
 | .xor=>some (.int k (WG k a b))
 | .andNot=>some (.int k (UG k a b))
 | .eql=>some (.bool (decide (a=b)))
 | .neq=>some (.bool (!decide (a=b)))
 | .lss=>some (.bool (decide (a<b)))
 | .leq=>some (.bool (decide (a≤b)))
 | .gtr=>some (.bool (decide (b<a)))
 | .geq=>some (.bool (decide (b≤a)))
 | _=>none
def zD:Nat:=2^46
def IA:Nat:=2^38
def qH (op:BinOp)(a b:List UInt8):Option PV:=match op with
 | .add=>if a.length+b.length≤zD then some (.str (a++b)) else none
 | .eql=>some (.bool (decide (a=b)))
 | .neq=>some (.bool (!decide (a=b)))
 | .lss=>some (.bool (Op.bytesLess a b))
 | .leq=>some (.bool (Op.bytesLess a b||decide (a=b)))
 | .gtr=>some (.bool (!(Op.bytesLess a b||decide (a=b))))
 | .geq=>some (.bool (!Op.bytesLess a b))
 | _=>none
def iB (op:BinOp):PV→PV→Option PV
 | .int k a,.int k' b=>match op with
  | .shl=>if b<0 then none else some (.int k (NF k a b))
  | .shr=>if b<0 then none else some (.int k (yD k a b))
  | _=>if k=k' then cC op k a b else none
 | .str a,.str b=>qH op a b
 | _,_=>none
def aun (op:UnOp):PV→Option PV
 | .int k n=>match op with
  | .neg=>some (.int k (k.wrap (0-n)))
  | .xor=>some (.int k (k.wrap (BitVec.ofInt k.bits (if k.signed then -1 else k.max) ^^^ BitVec.ofInt k.bits n).toNat))
  | _=>none
 | .bool b=>match op with
  | .not=>some (.bool !b)
  | _=>none
 | _=>none
def AJ:PV→PV→Option PV
 | .int k x,.int k' y=>if k=k' then some (.int k (max x y)) else none
 | _,_=>none
def BJ:PV→PV→Option PV
 | .int k x,.int k' y=>if k=k' then some (.int k (min x y)) else none
 | _,_=>none
def PV.key:PV→Bool
 | .int _ _ | .str _ | .bool _=>true
 | .agg cs=>cs.all fun | .int _ _ | .str _ | .bool _=>true|_=>false
 | _=>false
def NB (k:PV):List ME→Option (Option Nat)
 | []=>some none
 | e::es=>match PV.eqv k e.key with
  | some true=>some (some 0)
  | some false=>(NB k es).map (·.map (· + 1))
  | none=>none
end Go.Am
end
section
/- The abstract machine,part 2: operations,code,and what it means that code ends well (AW),that a call ends well (eA). -/
namespace Go.Am
inductive Opd where
 | t (n:Nat)
 | c (v:AV)
 | f (id:Nat)
 | g (n:Nat)
 deriving Inhabited
inductive Cv where
 | i (k:IntKind)
 | s2b|b2s|r2s|same
 deriving Inhabited
inductive AO where
 | mv (x:Opd)
 | pick (c a b:Opd)
 | alloc (z:List AV)
 | box (x:Opd)
 | build (z:List AV) (ps:List (Nat×Nat×Opd))
 | bsl (own:Bool) (sh:Sh) (n:Nat) (z:PV) (ps:List (Nat×Opd))
 | load (sh:Sh) (a:Opd)
 | store (sh:Sh) (a v:Opd)
 | nilchk (x:Opd)
 | bin (op:BinOp) (x y:Opd)
 | eqa (ks:List Nat) (neg:Bool) (x y:Opd)
 | isnil (k:Nat) (neg:Bool) (x:Opd)
 | mkif (x:Opd)
 | un (op:UnOp) (x:Opd)
 | conv (c:Cv) (x:Opd)
 | mkfn (f:Nat) (caps:List Opd)
 | mkmap
 | mksl (sh:Sh) (z:PV) (len cap:Opd)
 | slice (sh:Sh) (x:Opd) (lo hi mx:Option Opd)
 | slstr (x:Opd) (lo hi:Option Opd)
 | faddr (off:Nat) (sh:Sh) (x:Opd)
 | field (off:Nat) (sh:Sh) (x:Opd)
 | iaddr (sh:Sh) (x i:Opd)
 | iaddra (n:Nat) (sh:Sh) (x i:Opd)
 | idxa (n:Nat) (sh:Sh) (x i:Opd)
 | idxs (x i:Opd)
 | look (kk:Sh×List Nat) (ok:Bool) (z:AV) (x k:Opd)
 | mupd (kk:Sh×List Nat) (m k v:Opd)
 | ment (kk:Sh×List Nat) (z:AV) (m k:Opd)
 | estore (m s v:Opd)
 | mdel (kk:Sh×List Nat) (m k:Opd)
 | ext (x:Opd) (i:Nat)
 | len (x:Opd)
 | lens (x:Opd)
 | lenm (x:Opd)
 | app (sh:Sh) (s x:Opd)
 | copy (sh:Sh) (d s:Opd)
 | clr (sh:Sh) (z:PV) (x:Opd)
 | mx (xs:List Opd)
 | mn (xs:List Opd)
 | mrange (x:Opd)
 | mnext (sh:Option Sh) (xs:List Opd)   -- more ways than one: a step of a range (none);an append behind a cut (some)
 | mentry (it:Opd)
 | new0 (sh:Sh)                        -- a nil slice that will be appended tov: an empty row
 | uns (k t:Nat) (xs:List Opd)     -- of a builder (nF)
 | call (f:Nat) (args:List Opd)
 | callv (f:Opd) (args:List Opd)
 deriving Inhabited
structure AOp where
 dst:Option Nat
 guard:Option (Nat×Bool)
 op:AO
 deriving Inhabited
structure DOp where
 op:AOp
 rd:List Nat      -- the slots that it reads
 eff:Bool
 early:List Nat
 again:List Nat
 deriving Inhabited
inductive ACode where
 | skip
 | reg (ops:List AOp) (keep:Option (List Nat))
 | draw (ds:List DOp) (keep:Option (List Nat))
 | seq (a b:ACode)
 | cond (c:Opd) (a b:ACode)
 | condu (c:Opd) (a b:ACode)       -- the condition may be unknown: both ways
 | det (b:ACode)                     -- whichever way is gone,the end is one
 | block (id:Nat) (b:ACode)
 | loop (b:ACode)
 | scope (b:ACode)
 | pr (keep:List Nat) (b:ACode)     -- only these slots are kept
 | exit (id:Nat)
 | ret
 | bad
 deriving Inhabited
inductive ARes where
 | t (n:Nat)
 | o (n:Nat)                         -- a row that was made: it alone is handed back,right behind what was there
 | cell (a:Nat) (sh:Sh)
 deriving Inhabited
structure AFun where
 nparams:Nat
 results:List ARes
 body:ACode
 byref:Bool      -- slices of the caller's own come asv they are
 keep:Bool       -- rows made here and handed back stay rows
 deriving Inhabited
structure St where
 env:List (Nat×AV)
 h:aA
 esc:Esc
def bA:List (Nat × AV)→Nat→AV
 | [],_=>.und
 | (k,v)::r,n=>if k=n then v else bA r n
def Opd.ev (gl:Nat→Option PV)(e:List (Nat × AV)):Opd→AV
 | .t n=>bA e n
 | .c v=>v
 | .f id=>.fn id []
 | .g n=>match gl n with|some v=>.vp v|none=>.und
def GB (id:Nat)(v:AV):Esc:=if id<v.top then [(id,v.top)] else []
def MF:List AV→Bool
 | [_,.bt 1 _ _ _]=>true
 | _=>false
def BF (id:Nat)(cs:List AV)(v:AV):Esc:=bif MF cs&&decide (v.top≤AV.tops cs) then [] else GB id v
def ZE (ev:Opd→AV):List (Nat×Nat×Opd)→List AV→Option (List AV)
 | [],cs=>some cs
 | (off,n,x)::r,cs=>match (ev x).cells with
  | some vs=>if vs.length=n∧off+n≤cs.length then ZE ev r (splice cs off vs) else none
  | none=>none
def aF (ev:Opd→AV)(sh:Sh):List (Nat×Opd)→aA→List PV→Option (List PV×aA)
 | [],h,xs=>some (xs,h)
 | (i,x)::r,h,xs=>match pur h (ev x) with
  | some (v,h')=>if v.shp sh∧i<xs.length then aF ev sh r h' (xs.set i v) else none
  | none=>none
def WA:AV→Option Nat
 | .p (.int _ n)=>if 0≤n then some n.toNat else none
 | _=>none
def bnd (ev:Opd→AV)(d:Nat):Option Opd→Option Nat
 | none=>some d
 | some x=>WA (ev x)
def pint (n:Nat):AV:=.p (.int .i64 n)
def pbool (b:Bool):AV:=.p (.bool b)
def asl (sh:Sh)(ev:Opd→AV)(h:aA)(x:AV)(lo hi mx:Option Opd):Option AV:=
 match x with
 | .p (.sl sh' xs)=>match bnd ev 0 lo,bnd ev xs.length hi,bnd ev xs.length mx with
  | some l,some r,some m=>if sh'=sh∧l≤r∧r≤m∧m≤xs.length then some (if mx.isSome∧m=l then .sl0 sh else .p (.sl sh (win xs l (r-l)))) else none
  | _,_,_=>none
 | .sl0 sh'=>match bnd ev 0 lo,bnd ev 0 hi,bnd ev 0 mx with
  | some l,some r,some m=>if l=0∧r=0∧m=0 then some (.sl0 sh') else none
  | _,_,_=>none
 | .own id g off len=>match h[id]? with
  | some (.row rsh xs _)=>match bnd ev 0 lo,bnd ev len hi,bnd ev len mx with
   | some l,some r,some m=>if rsh=sh∧g=xs.length∧off+len≤xs.length∧l≤r∧r≤m∧m≤len then some (if mx.isSome∧m=l then .sl0 sh else .own id g (off+l) (r-l)) else none
   | _,_,_=>none
  | _=>none
 | _=>none
def ZA (s:List UInt8):List PV:=s.map fun b=>.int .u8 b.toNat
def mF:List PV→Option (List UInt8)
 | []=>some []
 | .int .u8 n::r=>if 0≤n∧n<256 then(mF r).map (UInt8.ofNat n.toNat :: ·) else none
 | _::_=>none
def rds (h:aA):AV→Option (Sh×List PV)
 | .p (.str s)=>some (none,ZA s)
 | x=>rd h x
def ZD (h:aA)(c:Cv)(x:AV):Option (AV×aA):=match c with
 | .i k=>match x with
  | .p (.int _ n)=>some (.p (.int k (k.wrap n)),h)
  | _=>none
 | .s2b=>match x with
  | .p (.str s)=>if s.length≤IA then some (.own h.length s.length 0 s.length,h++[.row none (ZA s) 0]) else none
  | _=>none
 | .b2s=>match rd h x with
  | some y=>(mF y.2).map fun b=>(.p (.str b),h)
  | none=>none
 | .r2s=>match x with
  | .p (.int _ n)=>if 0≤n∧n<128 then some (.p (.str [UInt8.ofNat n.toNat]),h) else none
  | _=>none
 | .same=>match x with
  | .p (.str s)=>some (.p (.str s),h)
  | _=>none
def JB (h:aA):AV→Option (Nat×List ME×Nat)
 | .mp id=>match h[id]? with
  | some (.amap es c)=>some (id,es,c)
  | _=>none
 | _=>none
def EC (kk:Sh × List Nat):AV→Option PV
 | .p k=>if k.key&&k.shp kk.1&&k.cells.map PV.kind==kk.2 then some k else none
 | _=>none
def VF:AV→Bool
 | .und | .skp | .tup _=>false
 | _=>true
def VK (k:Nat)(v:AV):Option Bool:=match k with
 | 0=>match v with
  | .nilp | .p .nilp | .bt 0 _ _ _=>some true
  | .ref _ _ | .rref _ _ _ _ | .vp _=>some false
  | _=>none
 | 1=>match v with
  | .nilm=>some true
  | .mp _=>some false
  | _=>none
 | 2=>match v with
  | .nilf=>some true
  | .fn _ _=>some false
  | _=>none
 | 3=>match v with
  | .nili=>some true
  | .ifc=>some false
  | _=>none
 | _=>match v with
  | .p (.sl _ (_::_))=>some false
  | _=>none
def RF (k:Nat)(v:AV):Bool:=match v with
 | .p (.sl _ [])=>decide (4≤k)
 | _=>false
def appB (t:Nat)(h:aA)(s x:AV):Option (AV×aA×Esc):=match rds h x with
 | some (none,ys)=>match s with
  | .bt 1 t' id g=>match h[id]? with
   | some (.row none xs fz)=>if t'=t∧g=xs.length∧fz≤xs.length∧g+ys.length≤IA then some (.bt 1 t id (g+ys.length),h.set id (.row none (xs++ys) fz),[]) else none
   | _=>none
  | _=>none
 | _=>none
def strB (t:Nat)(h:aA)(p:AV)(n:Nat):Option (AV×aA×Esc):=match p with
 | .anyp=>if n=0 then some (.p (.str []),h,[]) else none
 | .bt 2 t' id g=>match h[id]? with
  | some (.row none xs _)=>if t'=t∧g=xs.length∧n=g∧1≤n∧n≤IA then(mF xs).map fun s=>(.p (.str s),h.set id (.row none xs (xs.length+1)),[]) else none
  | _=>none
 | _=>none
def sZ (t:Nat)(h:aA)(s:AV):Option (AV×aA×Esc):=match s with
 | .bt 1 t' id g=>match h[id]? with
  | some (.row none xs _)=>if t'=t∧g=xs.length then(if g=0 then some (.anyp,h,[]) else some (.bt 2 t id g,h,[])) else none
  | _=>none
 | _=>none
def n64:AV→Option Nat
 | .p (.int .i64 n)=>if 0≤n then some n.toNat else none
 | _=>none
def upcB (t:Nat)(h:aA)(x:AV):Option (AV×aA×Esc):=match x with
 | .ref id 0=>match h[id]? with
  | some (.box [.bt 0 t' id' _,_])=>if t'=t∧id'=id then some (.ref id 0,h,[]) else none
  | _=>none
 | _=>none
def neqB (h:aA)(x y:AV):Option (AV×aA×Esc):=match x,y with
 | .ref id o,.ref id' o'=>if id=id'∧o=o' then some (pbool false,h,[]) else none
 | _,_=>none
def z33 (t:Nat)(h:aA)(f x:AV):Option (AV×aA×Esc):=match f with
 | .fn g []=>if g=t then some (x,h,[]) else none
 | _=>none
def lenB:AV→Option Nat
 | .bt 1 _ _ g=>some g
 | _=>none
def ldA (sh:Sh)(k off id g:Nat)(h:aA):Option AV:=bif Nat.beq k 4 then(match h[id]? with
 | some (.arow rsh cs)=>if g*gA rsh=cs.length then cut sh off cs else none
 | _=>none) else none
def stA (sh:Sh)(k off id g:Nat)(x:AV)(h:aA):Option (AV×aA×Esc):=bif Nat.beq k 4 then(match h[id]?,x.cells with
 | some (.arow rsh cs),some vs=>if g*gA rsh=cs.length∧vs.length=gA sh∧off+vs.length≤cs.length then some (.und,h.set id (.arow rsh (splice cs off vs)),GB id x) else none
 | _,_=>none) else none
def iaA (sh:Sh)(k id g i:Nat)(h:aA):Option AV:=bif Nat.beq k 3 then(match h[id]? with
 | some (.arow rsh cs)=>if rsh=sh∧g*gA rsh=cs.length∧i<g then some (.bt 4 (i*gA sh) id g) else none
 | _=>none) else none
def faA (k off o id g:Nat):Option AV:=bif Nat.beq k 4 then some (.bt 4 (o+off) id g) else none
def lnA (k g:Nat):Option AV:=bif Nat.beq k 3 then some (pint g) else none
def nlA (k:Nat)(x:AV):Option AV:=bif Nat.beq k 4 then some x else none
def apA (sh:Sh)(h:aA)(s x:AV):Option (AV×aA×Esc):=match s,x with
 | .bt k t id g,.bt k' _ id' g'=>bif Nat.beq k 3&&Nat.beq k' 3 then(match h[id]?,h[id']? with
  | some (.arow rsh cs),some (.arow rsh' ds)=>if rsh=sh∧rsh'=sh∧g*gA sh=cs.length∧g'*gA sh=ds.length∧g+g'≤IA then
   some (.bt 3 t id (g+g'),h.set id (.arow sh (cs++ds)),bif decide (id<AV.tops ds) then [(id,AV.tops ds)] else []) else none
  | _,_=>none) else none
 | _,_=>none
def CC:Nat→Sh
 | 0=>none
 | n+1=>some n
def iF:List AV→aA→List AV × aA
 | [],h=>([],h)
 | v::r,h=>match v with
  | .sl0 sh=>(.own h.length 0 0 0::(iF r (h++[.row sh [] 0])).1,(iF r (h++[.row sh [] 0])).2)
  | .bt _ t _ _=>(.bt 3 t h.length 0::(iF r (h++[.arow (CC t) []])).1,(iF r (h++[.arow (CC t) []])).2)
  | v=>(v::(iF r h).1,(iF r h).2)
def WN:Nat→Sh→Bool
 | 0,_=>false
 | e+1,sh=>sh==CC e
def kB (t:Nat):List AV→aA→List AV×aA
 | [],h=>([],h)
 | v::r,h=>match v with
  | .sl0 sh=>bif WN t sh then(.bt 3 (t-1) h.length 0::(kB t r (h++[.arow (CC (t-1)) []])).1,(kB t r (h++[.arow (CC (t-1)) []])).2) else(.own h.length 0 0 0::(kB t r (h++[.row sh [] 0])).1,(kB t r (h++[.row sh [] 0])).2)
  | v=>(v::(kB t r h).1,(kB t r h).2)
def nF (k t:Nat)(vs:List AV)(h:aA):Option (AV×aA×Esc):=match k with
 | 0=>match vs with
  | [v]=>match n64 v with
   | some te=>some (.ref h.length 0,h++[.box [.bt 0 t h.length 0,.bt 1 te (h.length+1) 0],.row none [] 0],[(h.length,h.length+2)])
   | none=>none
  | _=>none
 | 1=>match vs with
  | [x]=>upcB t h x
  | _=>none
 | 2=>match vs with
  | [x,y]=>neqB h x y
  | _=>none
 | 3=>match vs with
  | [s,x]=>appB t h s x
  | _=>none
 | 4=>match vs with
  | [s]=>(lenB s).map fun n=>(pint n,h,[])
  | _=>none
 | 5=>match vs with
  | [s]=>sZ t h s
  | _=>none
 | 6=>match vs with
  | [p,n]=>match n64 n with
   | some m=>strB t h p m
   | none=>none
  | _=>none
 | 7=>match vs with
  | [f,x]=>z33 t h f x
  | _=>none
 | 8=>some (.ref (iF vs h).2.length 0,(iF vs h).2++[.box (iF vs h).1],[])
 | 9=>match vs with
  | [x]=>match x.cells with
   | some cs=>if cs.length=gA (CC t) then some (.bt 3 t h.length 1,h++[.arow (CC t) cs],[]) else none
   | none=>none
  | _=>none
 | 10=>match vs with
  | []=>some (.bt 3 t h.length 0,h++[.arow (CC t) []],[])
  | _=>none
 | 11=>match vs with
  | [s,x]=>apA (CC t) h s x
  | _=>none
 | 12=>match vs with
  | [x]=>match x.cells with
   | some cs=>some (.ref (kB t cs h).2.length 0,(kB t cs h).2++[.box (kB t cs h).1],[])
   | none=>none
  | _=>none
 | _=>none
def aop (o:AO)(ev:Opd→AV)(h:aA):Option (AV×aA×Esc):=
 match o with
 | .mv x=>some (ev x,h,[])
 | .pick c a b=>match ev c with
  | .p (.bool t)=>some (bif t then ev a else ev b,h,[])
  | _=>none
 | .alloc z=>some (.ref h.length 0,h++[.box z],[])
 | .box x=>match (ev x).cells with
  | some cs=>some (.ref h.length 0,h++[.box cs],[])
  | none=>none
 | .build z ps=>(ZE ev ps z).map fun cs=>(mkA cs,h,[])
 | .bsl own sh n z ps=>match aF ev sh ps h (List.replicate n z) with
  | some (xs,h')=>if !z.shp sh then none else some (bif own then(.own h'.length n 0 n,h'++[.row sh xs 0],[]) else(.p (.sl sh xs),h',[]))
  | none=>none
 | .load sh a=>match ev a with
  | .ref id off=>match h[id]? with
   | some (.box cs)=>(cut sh off cs).map fun v=>(v,h,[])
   | _=>none
  | .rref id g i off=>match h[id]? with
   | some (.row _ xs _)=>if g=xs.length then((xs[i]?).bind (qB sh off)).map fun v=>(.p v,h,[]) else none
   | _=>none
  | .vp v=>(qB sh 0 v).map fun v=>(.p v,h,[])
  | .bt k off id g=>(ldA sh k off id g h).map fun v=>(v,h,[])
  | _=>none
 | .store sh a x=>match ev a with
  | .ref id off=>match h[id]?,(ev x).cells with
   | some (.box cs),some vs=>if vs.length=gA sh∧off+vs.length≤cs.length then some (.und,h.set id (.box (splice cs off vs)),BF id cs (ev x)) else none
   | _,_=>none
  | .rref id g i off=>match pur h (ev x) with
   | some (v,h1)=>match h1[id]? with
    | some (.row rsh xs fz)=>if g=xs.length∧fz≤i∧v.cells.length=gA sh∧v.cells.all PV.sc then match xs[i]? with
     | some (.agg cs)=>if off+v.cells.length≤cs.length then some (.und,h1.set id (.row rsh (xs.set i (.agg (splice cs off v.cells))) fz),[]) else none
     | some _=>if off=0∧v.sc then some (.und,h1.set id (.row rsh (xs.set i v) fz),[]) else none
     | none=>none
     else none
    | _=>none
   | none=>none
  | .bt k off id g=>stA sh k off id g (ev x) h
  | _=>none
 | .nilchk x=>match ev x with
  | .ref _ _ | .rref _ _ _ _ | .vp _ | .fn _ _=>some (ev x,h,[])
  | .bt k _ _ _=>(nlA k (ev x)).map fun v=>(v,h,[])
  | _=>none
 | .bin op x y=>match ev x,ev y with
  | .p a,.p b=>(iB op a b).map fun v=>(.p v,h,[])
  | _,_=>none
 | .eqa ks neg x y=>match ev x,ev y with
  | .p (.agg asv),.p (.agg bs)=>if asv.map PV.kind=ks∧bs.map PV.kind=ks∧ks≠[] then(eqs asv bs).map fun t=>(pbool (bif neg then !t else t),h,[]) else none
  | .p (.bool a),.p (.bool b)=>if ks=[] then some (pbool (bif neg then !decide (a=b) else decide (a=b)),h,[]) else none
  | _,_=>none
 | .isnil k neg x=>bif RF k (ev x) then some (.anyb,h,[]) else(VK k (ev x)).map fun r=>(pbool (bif neg then !r else r),h,[])
 | .mkif x=>if VF (ev x) then some (.ifc,h,[]) else none
 | .un op x=>match ev x with
  | .p a=>(aun op a).map fun v=>(.p v,h,[])
  | _=>none
 | .conv c x=>(ZD h c (ev x)).map fun(v,h')=>(v,h',[])
 | .mkfn f caps=>some (.fn f (caps.map ev),h,[])
 | .mkmap=>some (.mp h.length,h++[.amap [] 0],[])
 | .mksl sh z len cap=>match WA (ev len),WA (ev cap) with
  | some n,some m=>if n≤m∧m≤IA∧z.shp sh then some (.own h.length n 0 n,h++[.row sh (List.replicate n z) 0],[]) else none
  | _,_=>none
 | .slstr x lo hi=>match ev x with
  | .p (.str s)=>match bnd ev 0 lo,bnd ev s.length hi with
   | some l,some r=>if l≤r∧r≤s.length then some (.p (.str (win s l (r-l))),h,[]) else none
   | _,_=>none
  | _=>none
 | .slice sh x lo hi mx=>(asl sh ev h (ev x) lo hi mx).map fun v=>(v,h,[])
 | .faddr off sh x=>match ev x with
  | .ref id o=>some (.ref id (o+off),h,[])
  | .rref id g i o=>some (.rref id g i (o+off),h,[])
  | .vp v=>(qB sh off v).map fun u=>(.vp u,h,[])
  | .bt k o id g=>(faA k off o id g).map fun u=>(u,h,[])
  | _=>none
 | .field off sh x=>match ev x with
  | .p v=>match v with
   | .agg _=>(qB sh off v).map fun u=>(.p u,h,[])
   | _=>none
  | .agg cs=>(cut sh off cs).map fun u=>(u,h,[])
  | _=>none
 | .iaddr sh x i=>match ev x,WA (ev i) with
  | .p (.sl sh' xs),some k=>if sh'=sh then(xs[k]?).map fun v=>(.vp v,h,[]) else none
  | .own id g off len,some k=>match h[id]? with
   | some (.row rsh xs _)=>if rsh=sh∧g=xs.length∧off+len≤xs.length∧k<len then some (.rref id g (off+k) 0,h,[]) else none
   | _=>none
  | .bt kk _ id g,some k=>(iaA sh kk id g k h).map fun u=>(u,h,[])
  | _,_=>none
 | .iaddra n sh x i=>match ev x,WA (ev i) with
  | .ref id o,some k=>if k<n then some (.ref id (o+k*gA sh),h,[]) else none
  | .rref id g j o,some k=>if k<n then some (.rref id g j (o+k*gA sh),h,[]) else none
  | .vp v,some k=>if k<n then(qB sh (k*gA sh) v).map fun u=>(.vp u,h,[]) else none
  | _,_=>none
 | .idxa n sh x i=>match ev x,WA (ev i) with
  | .p (.agg cs),some k=>if k<n then(qB sh (k*gA sh) (.agg cs)).map fun u=>(.p u,h,[]) else none
  | _,_=>none
 | .idxs x i=>match ev x,WA (ev i) with
  | .p (.str s),some k=>(s[k]?).map fun b=>(.p (.int .u8 b.toNat),h,[])
  | _,_=>none
 | .look kk ok z x k=>match EC kk (ev k) with
  | some key=>match (match ev x with | .nilm=>some []|m=>(JB h m).map fun y=>y.2.1) with
   | some es=>match NB key es with
    | some r=>
     let v:=((r.bind (es[·]?)).map ME.val)
     some (bif ok then .tup [v.getD z,pbool v.isSome] else v.getD z,h,[])
    | none=>none
   | none=>none
  | none=>none
 | .mupd kk m k x=>match EC kk (ev k),JB h (ev m),VF (ev x) with
  | some key,some (id,es,c),true=>match NB key es with
   | some (some i)=>some (.und,h.set id (.amap (es.modify i fun e=>{ e with val:=ev x }) c),GB id (ev x))
   | some none=>some (.und,h.set id (.amap (es++[⟨key,ev x,c⟩]) (c+1)),GB id (ev x))
   | none=>none
  | _,_,_=>none
 | .ment kk z m k=>match EC kk (ev k),JB h (ev m) with
  | some key,some (id,es,c)=>match NB key es with
   | some (some i)=>(es[i]?).map fun e=>(.tup [e.val,pint e.born],h,[])
   | some none=>some (.tup [z,pint c],h.set id (.amap (es++[⟨key,z,c⟩]) (c+1)),[])
   | none=>none
  | _,_=>none
 | .estore m s x=>match JB h (ev m),WA (ev s),VF (ev x) with
  | some (id,es,c),some b,true=>match es.findIdx? (fun e=>e.born==b) with
   | some i=>some (.und,h.set id (.amap (es.modify i fun e=>{ e with val:=ev x }) c),GB id (ev x))
   | none=>none
  | _,_,_=>none
 | .mdel kk m k=>match EC kk (ev k),JB h (ev m) with
  | some key,some (id,es,c)=>match NB key es with
   | some (some i)=>some (.und,h.set id (.amap (es.eraseIdx i) c),[])
   | some none=>some (.und,h,[])
   | none=>none
  | _,_=>none
 | .ext x i=>match ev x with
  | .tup vs=>(vs[i]?).map fun v=>(v,h,[])
  | _=>none
 | .lens x=>match ev x with
  | .p (.str s)=>some (pint s.length,h,[])
  | _=>none
 | .len x=>match ev x with
  | .p (.sl _ xs)=>some (pint xs.length,h,[])
  | .sl0 _=>some (pint 0,h,[])
  | .own _ _ _ len=>some (pint len,h,[])
  | .bt k _ _ g=>(lnA k g).map fun u=>(u,h,[])
  | _=>none
 | .lenm x=>match ev x with
  | .nilm=>some (pint 0,h,[])
  | .mp id=>(JB h (.mp id)).map fun y=>(pint y.2.1.length,h,[])
  | _=>none
 | .app sh s x=>match rds h (ev x) with
  | some (sh',ys)=>if sh'=sh then match ev s with
   | .sl0 _=>if ys.length≤IA then some (.own h.length ys.length 0 ys.length,h++[.row sh ys 0],[]) else none
   | .own id g off len=>match h[id]? with
    | some (.row rsh xs fz)=>if rsh=sh∧g=xs.length∧off=0∧len=xs.length∧len+ys.length≤IA∧fz≤xs.length then some (.own id (g+ys.length) off (len+ys.length),h.set id (.row sh (xs++ys) fz),[])
     else if rsh=sh∧g=xs.length∧off+len+ys.length≤xs.length∧fz≤off+len∧1≤ys.length∧len+ys.length≤IA∧sh=none∧xs.all PV.intP=true∧ys.all PV.intP=true then
      some (.p (.sl sh (win xs off len++ys)),h.set id (.row sh (splice xs (off+len) (List.replicate ys.length .unk)) (off+len+ys.length)),[])
     else none
    | _=>none
   | _=>none
   else none
  | none=>none
 | .copy sh d s=>match ev d,rds h (ev s) with
  | .own id g off len,some (sh',ys)=>match h[id]? with
   | some (.row rsh xs fz)=>if rsh=sh∧sh'=sh∧g=xs.length∧off+len≤xs.length∧fz≤off then
    some (pint (min ys.length len),h.set id (.row sh (splice xs off (ys.take (min ys.length len))) fz),[])
    else none
   | _=>none
  | _,_=>none
 | .clr sh z x=>match ev x with
  | .sl0 _=>some (.tup [],h,[])
  | .own id g off len=>match h[id]? with
   | some (.row rsh xs fz)=>if rsh=sh∧g=xs.length∧off+len≤xs.length∧fz≤off then
    some (.tup [],h.set id (.row sh (splice xs off (List.replicate len z)) fz),[])
    else none
   | _=>none
  | _=>none
 | .mx xs=>match xs.map ev with
  | .p a::r=>((unp r).bind fun l=>l.foldlM AJ a).map fun v=>(.p v,h,[])
  | _=>none
 | .mn xs=>match xs.map ev with
  | .p a::r=>((unp r).bind fun l=>l.foldlM BJ a).map fun v=>(.p v,h,[])
  | _=>none
 | .new0 sh=>some (.own h.length 0 0 0,h++[.row sh [] 0],[])
 | .mrange x=>match JB h (ev x) with
  | some (id,_,c)=>some (.it h.length,h++[.iter (some id) c [] c],[])
  | none=>match ev x with
   | .nilm=>some (.it h.length,h++[.iter none 0 [] 0],[])
   | _=>none
 | .mentry i=>match ev i with
  | .it id=>match h[id]? with
   | some (.iter (some m) _ seen last)=>match JB h (.mp m),seen.getLast? with
    | some (_,es,c),some b=>if c=last then(es.find? (fun e=>e.born==b)).map fun e=>(.tup [.p e.key,e.val],h,[]) else none
    | _,_=>none
   | _=>none
  | _=>none
 | .uns k t xs=>nF k t (xs.map ev) h
 | .call _ _ | .callv _ _ | .mnext _ _=>none
def VN (h:aA):AV→Option (List (AV×aA))
 | .it id=>match h[id]? with
  | some (.iter none since _ _)=>if since=0 then some [(.tup [pbool false],h)] else none
  | some (.iter (some m) since seen last)=>match JB h (.mp m) with
   | some (_,es,c)=>if c=since∧last=since then
    match es.filter (fun e=>!seen.contains e.born) with
    | []=>some [(.tup [pbool false],h.set id (.iter none 1 [] 0))]
    | l=>some (l.map fun e=>(.tup [pbool true,.p e.key,e.val],h.set id (.iter (some m) since (seen++[e.born]) last)))
    else none
   | none=>none
  | _=>none
 | _=>none
def appq (h:aA)(sh:Sh)(s x:AV):Option (List (AV×aA)):=match rds h x with
 | some (sh',ys)=>if sh'=sh then match s with
  | .own id g off len=>match h[id]? with
   | some (.row rsh xs fz)=>if rsh=sh∧g=xs.length∧off+len=xs.length∧len+ys.length≤IA∧fz≤xs.length then
    some [(.own id (g+ys.length) off (len+ys.length),h.set id (.row sh (xs++ys) fz)),(.own h.length (len+ys.length) 0 (len+ys.length),h++[.row sh (win xs off len++ys) 0])]
    else if rsh=sh∧g=xs.length∧off+len<xs.length∧fz≤off+len∧len+ys.length≤IA then
     some [(.own id (splice xs (off+len) ys).length off (len+ys.length),h.set id (.row sh (splice xs (off+len) ys) fz)),(.own h.length (len+ys.length) 0 (len+ys.length),h++[.row sh (win xs off len++ys) 0])]
    else none
   | _=>none
  | _=>none
  else none
 | none=>none
def zG (h:aA):Option Sh→List AV→Option (List (AV×aA))
 | none,[it]=>VN h it
 | some sh,[s,x]=>appq h sh s x
 | _,_=>none
end Go.Am
end
section
/- The abstract machine,part 3: what it means that code,that a call ends well,whatever is left open (AW,eA). -/
namespace Go.Am
abbrev jA:=AV→aA→Esc→Prop
abbrev Hd:=Nat→List AV→aA→jA→Prop
structure Ctx where
 fn:Nat→Option AFun
 gl:Nat→Option PV
 ext:Nat→List PV→Option PV
 ex2:Nat→List AV→aA→Option (AV×aA×Esc):=fun _ _ _=>none
inductive Ex where
 | normal
 | exit (id:Nat)
 | ret
def put (d:Option Nat)(v:AV)(e:List (Nat × AV)):List (Nat×AV):=match d with
 | some d=>(d,v)::e
 | none=>e
def wanted (g:Option (Nat × Bool))(e:List (Nat × AV)):Option Bool:=match g with
 | none=>some true
 | some (t,b)=>match bA e t with
  | .p (.bool c)=>some (c==b)
  | .skp=>some false
  | _=>none
def GA (C:Hd)(gl:Nat→Option PV):List AOp→List (Nat×AV)→aA→Esc→(List (Nat×AV)→aA→Esc→Prop)→Prop
 | [],e,h,x,K=>K e h x
 | o::r,e,h,x,K=>match wanted o.guard e with
  | some true=>match o.op with
   | .call f args=>C f (args.map (Opd.ev gl e)) h fun v h' x'=>GA C gl r (put o.dst v e) h' (x'++x) K
   | .callv f args=>match Opd.ev gl e f with
    | .fn g caps=>C g (args.map (Opd.ev gl e)++caps) h fun v h' x'=>GA C gl r (put o.dst v e) h' (x'++x) K
    | _=>False
   | .mnext sh xs=>match zG h sh (xs.map (Opd.ev gl e)) with
    | some l=>l≠[]∧∀y∈l,GA C gl r (put o.dst y.1 e) y.2 x K
    | none=>False
   | op=>match aop op (Opd.ev gl e) h with
    | some (v,h',x')=>GA C gl r (put o.dst v e) h' (x'++x) K
    | none=>False
  | some false=>GA C gl r (put o.dst .skp e) h x K
  | none=>False
def zA (keep:Option (List Nat))(e:List (Nat × AV)):List (Nat×AV):=match keep with
 | none=>e
 | some l=>l.map fun t=>(t,bA e t)
def ADo (C:Hd)(gl:Nat→Option PV)(o:AOp)(e:List (Nat × AV))(h:aA)(v:AV)(h':aA)(x:Esc):Prop:=match wanted o.guard e with
 | some true=>match o.op with
  | .call f args=>C f (args.map (Opd.ev gl e)) h fun v1 h1 x1=>v1=v∧h1=h'∧x1=x
  | .callv f args=>match Opd.ev gl e f with
   | .fn g caps=>C g (args.map (Opd.ev gl e)++caps) h fun v1 h1 x1=>v1=v∧h1=h'∧x1=x
   | _=>False
  | .mnext _ _=>False
  | op=>aop op (Opd.ev gl e) h=some (v,h',x)
 | some false=>v = .skp∧h'=h∧x=[]
 | none=>False
abbrev aC:=List (AOp × List (Nat × AV) × AV)
def pC (C:Hd)(gl:Nat→Option PV):List DOp→aC→List aA→List (Nat×AV)→aA→Esc→(List (Nat×AV)→aA→Esc→Prop)→Prop
 | [],_,_,e,h,x,K=>K e h x
 | o::r,dn,hs,e,h,x,K=>∃v h' y,ADo C gl o.op (zA (some o.rd) e) h v h' y∧(o.eff=false→h'=h∧y=[])∧(∀k∈o.early,∃g,hs[k]?=some g∧ADo C gl o.op (zA (some o.rd) e) g v g []) ∧
  (∀j∈o.again,∃q,dn[j]?=some q∧ADo C gl q.1 q.2.1 h' q.2.2 h' [])∧pC C gl r (dn++[(o.op,zA (some o.rd) e,v)]) (hs++[h]) (put o.op.dst v e) h' (y++x) K
def GJ (x:Esc)(n:Nat):Nat:=x.foldl (fun m y=>if y.1<m then max m y.2 else m) n
def QB:Nat→Esc→Nat→Nat
 | 0,_,n=>n
 | k+1,x,n=>QB k x (GJ x n)
def BB (x:Esc)(n:Nat):Bool:=x.all fun y=>decide (n≤y.1)||decide (y.2≤n)
def SE (n:Nat)(e:List (Nat × AV)):List (Nat×AV):=e.map fun y=>(y.1,if y.2.top≤n then y.2 else .und)
def WD (b:Nat)(x0:Esc)(s:St):St:=
 let n:=QB s.esc.length s.esc b
 if BB s.esc n then⟨SE n s.env,s.h.take n,s.esc.filter (fun y=>decide (y.1<n))++x0⟩ else⟨s.env,s.h,s.esc++x0⟩
inductive ALoop (T:St→(Ex→St→Prop)→Prop) (K:Ex→St→Prop):St→Prop where
 | mk (s:St) (R:Ex→St→Prop) (h:T s R) (hn:∀s',R .normal s'→ALoop T K s') (he:∀i s',R (.exit i) s'→K (.exit i) s') (hr:∀s',R .ret s'→K .ret s'):ALoop T K s
def AW (C:Hd)(gl:Nat→Option PV):ACode→St→(Ex→St→Prop)→Prop
 | .skip,s,K=>K .normal s
 | .reg ops keep,s,K=>GA C gl ops s.env s.h s.esc fun e h x=>K .normal ⟨zA keep e,h,x⟩
 | .draw ds keep,s,K=>pC C gl ds [] [] s.env s.h s.esc fun e h x=>K .normal ⟨zA keep e,h,x⟩
 | .seq a b,s,K=>AW C gl a s fun e s'=>match e with
  | .normal=>AW C gl b s' K
  | .exit i=>K (.exit i) s'
  | .ret=>K .ret s'
 | .cond c a b,s,K=>match Opd.ev gl s.env c with
  | .p (.bool t)=>match t with
   | true=>AW C gl a s K
   | false=>AW C gl b s K
  | _=>False
 | .condu c a b,s,K=>match Opd.ev gl s.env c with
  | .p (.bool t)=>match t with
   | true=>AW C gl a s K
   | false=>AW C gl b s K
  | .anyb=>AW C gl a s K∧AW C gl b s K
  | _=>False
 | .det b,s,K=>AW C gl b s K
 | .block id b,s,K=>AW C gl b s fun e s'=>match e with
  | .normal=>K .normal s'
  | .exit i=>if i=id then K .normal s' else K (.exit i) s'
  | .ret=>K .ret s'
 | .loop b,s,K=>ALoop (AW C gl b) K s
 | .scope b,s,K=>AW C gl b ⟨s.env,s.h,[]⟩ fun e s'=>K e (WD s.h.length s.esc s')
 | .pr l b,s,K=>AW C gl b ⟨zA (some l) s.env,s.h,s.esc⟩ K
 | .exit id,s,K=>K (.exit id) s
 | .ret,s,K=>K .ret s
 | .bad,_,_=>False
def rd0 (b:Nat)(h:aA):AV→Option PV
 | .p v=>some v
 | .sl0 sh=>some (.sl sh [])
 | .nilp=>some .nilp
 | .own id g off len=>if b≤id then(rd h (.own id g off len)).map fun y=>.sl y.1 y.2 else none
 | _=>none
def sL (b:Nat)(h:aA):List AV→Option (List PV)
 | []=>some []
 | v::r=>match rd0 b h v with
  | some x=>(sL b h r).map (x :: ·)
  | none=>none
def rdA (b:Nat)(h:aA)(id g:Nat):Option AV:=match h[id]? with
 | some (.arow sh cs)=>if g*gA sh=cs.length then(sL b h cs).map fun vs=>.p (.sl sh (fC sh g vs)) else none
 | _=>none
mutual
def FA (b:Nat)(h:aA):AV→Option AV
 | .own id g off len=>if b≤id then(rd h (.own id g off len)).map fun y=>.p (.sl y.1 y.2) else some (.own id g off len)
 | .sl0 sh=>some (.p (.sl sh []))
 | .bt k t id g=>bif Nat.beq k 3&&decide (b≤id) then rdA b h id g else some (.bt k t id g)
 | .agg cs=>(RD b h cs).map mkA
 | .tup vs=>(RD b h vs).map .tup
 | v=>some v
def RD (b:Nat)(h:aA):List AV→Option (List AV)
 | []=>some []
 | v::r=>match FA b h v with
  | some x=>(RD b h r).map (x :: ·)
  | none=>none
end
def FJ (s:St):ARes→Option AV
 | .t n=>some (bA s.env n)
 | .o n=>some (bA s.env n)
 | .cell a sh=>match bA s.env a with
  | .ref id off=>match s.h[id]? with
   | some (.box cs)=>cut sh off cs
   | _=>none
  | _=>none
def lC (s:St):List ARes→Option (List AV)
 | []=>some []
 | r::rs=>match FJ s r with
  | some v=>(lC s rs).map (v :: ·)
  | none=>none
def JA:List AV→AV
 | [v]=>v
 | vs=>.tup vs
def ARes.isO:ARes→Bool
 | .o _=>true
 | _=>false
def mC:List ARes→Bool
 | []=>false
 | r::rs=>r.isO||mC rs
def z1d:List ARes→List AV→AV
 | r::rs,v::vs=>match r with
  | .o _=>v
  | _=>z1d rs vs
 | _,_=>.und
def mvO (id b:Nat):AV→AV
 | .own i g off len=>bif Nat.beq i id then .own b g off len else .own i g off len
 | v=>v
def okO (id b:Nat):AV→Bool
 | .own i _ _ _=>Nat.beq i id
 | v=>decide (v.top≤b)
def cmpO (b:Nat)(h:aA)(rs:List ARes)(vs:List AV):Option (AV×aA):=match z1d rs vs with
 | .own id _ _ _=>match h[id]? with
  | some (.row sh xs fz)=>if b≤id∧vs.all (okO id b)=true then some (JA (vs.map (mvO id b)),h.take b++[.row sh xs fz]) else none
  | _=>none
 | .p _=>if(vs.all fun v=>decide (v.top≤b))=true then some (JA vs,h.take b) else none
 | _=>none
def SD (b:Nat)(P:jA)(rs:List ARes)(o:Option (List AV))(h:aA)(x:Esc):Prop:=match o with
 | some vs=>match cmpO b h rs vs with
  | some y=>BB x b=true∧P y.1 y.2 (x.filter fun y=>decide (y.1<b))
  | none=>False
 | none=>False
def fin (F:AFun)(b:Nat)(s:St)(K:jA):Prop:=match mC F.results with
 | true=>SD b K F.results (lC s F.results) s.h s.esc
 | false=>match lC s F.results with
 | some vs=>match F.keep with
  | true=>
   let n:=QB s.esc.length s.esc (max b (JA vs).top)
   if BB s.esc n then K (JA vs) (s.h.take n) (s.esc.filter fun y=>decide (y.1<n)) else K (JA vs) s.h s.esc
  | false=>match FA b s.h (JA vs) with
   | some v0=>
    let n:=QB s.esc.length s.esc (max b v0.top)
    if BB s.esc n then match FA n s.h (JA vs) with
     | some v=>v.top≤n∧K v (s.h.take n) (s.esc.filter fun y=>decide (y.1<n))
     | none=>False
    else K (JA vs) s.h s.esc
   | none=>False
 | none=>False
def nA (h:aA):List AV→Option (List AV×aA)
 | []=>some ([],h)
 | v::r=>match v with
  | .own id g off len=>match rd h (.own id g off len) with
   | some z=>(nA (frz h id (off+len)) r).map fun y=>(.p (.sl z.1 z.2)::y.1,y.2)
   | none=>none
  | .agg cs=>match pur h (.agg cs) with
   | some (x,h1)=>(nA h1 r).map fun y=>(.p x::y.1,y.2)
   | none=>none
  | .sl0 sh=>(nA h r).map fun y=>(.p (.sl sh [])::y.1,y.2)
  | v=>(nA h r).map fun y=>(v::y.1,y.2)
def enter (args:List AV):List (Nat×AV):=(args.zipIdx).map fun y=>(y.2,y.1)
def WB (C:Hd)(gl:Nat→Option PV)(F:AFun)(args:List AV)(h:aA)(K:jA):Prop:=
 match (if F.byref then some (args,h) else nA h args) with
 | some (asv,h1)=>asv.length=F.nparams∧AW C gl F.body ⟨enter asv,h1,[]⟩ fun e s=>match e with
  | .exit _=>False
  | _=>fin F h.length s K
 | none=>False
def AFun.isDet (F:AFun):Bool:=match F.body with
 | .det _=>true
 | _=>false
def VC (C:Hd)(gl:Nat→Option PV)(F:AFun)(args:List AV)(h:aA)(K:jA):Prop:=match F.isDet with
 | true=>∃v h' x,K v h' x∧WB C gl F args h fun v1 h1 x1=>v1=v∧h1=h'∧x1=x
 | false=>WB C gl F args h K
def IB (X:Ctx)(C:Hd):Hd:=fun f args h K=>match X.fn f with
 | some F=>VC C X.gl F args h K
 | none=>match X.ex2 f args h with
  | some (v,h1,x)=>K v h1 x
  | none=>match nA h args with
   | some (asv,h1)=>match unp asv with
    | some vs=>match X.ext f vs with
     | some r=>K (.p r) h1 []
     | none=>False
    | none=>False
   | none=>False
def Hd.Mono (C:Hd):Prop:=∀f a h K K',(∀v h' x,K v h' x→K' v h' x)→C f a h K→C f a h K'
def eA (X:Ctx):Hd:=fun f a h K=>∀C:Hd,C.Mono→(∀f a h K,IB X C f a h K→C f a h K)→C f a h K
theorem oG {C C':Hd}{gl:Nat→Option PV}(hC:∀ f a h K K',(∀ v h' x,K v h' x→K' v h' x)→C f a h K→C' f a h K') :
 ∀(ops:List AOp) e h x K K',(∀e h x,K e h x→K' e h x)→GA C gl ops e h x K→GA C' gl ops e h x K'
 | [],e,h,x,K,K',hK,H=>hK _ _ _ H
 | o::r,e,h,x,K,K',hK,H=>by
  unfold GA at H ⊢;split at H
  ·split at H
   ·exact hC _ _ _ _ _ (fun v h' x' H'=>oG hC r _ _ _ K K' hK H') H
   ·split at H
    ·exact hC _ _ _ _ _ (fun v h' x' H'=>oG hC r _ _ _ K K' hK H') H
    ·exact H.elim
   ·split at H
    ·exact⟨H.1,fun y hy=>oG hC r _ _ _ K K' hK (H.2 y hy)⟩
    ·exact H.elim
   ·split at H
    ·exact oG hC r _ _ _ K K' hK H
    ·exact H.elim
  ·exact oG hC r _ _ _ K K' hK H
  ·exact H.elim
theorem mQ {C C':Hd}{gl:Nat→Option PV}(hC:∀ f a h K K',(∀ v h' x,K v h' x→K' v h' x)→C f a h K→C' f a h K'){o:AOp}{e:List (Nat × AV)}{h h':aA}{v:AV}{x:Esc}
 (H:ADo C gl o e h v h' x):ADo C' gl o e h v h' x:=by
 unfold ADo at H ⊢;split at H
 ·split at H
  ·exact hC _ _ _ _ _ (fun _ _ _ h=>h) H
  ·split at H
   ·exact hC _ _ _ _ _ (fun _ _ _ h=>h) H
   ·exact H.elim
  ·exact H.elim
  ·exact H
 ·exact H
 ·exact H.elim
theorem pQ {C C':Hd}{gl:Nat→Option PV}(hC:∀ f a h K K',(∀ v h' x,K v h' x→K' v h' x)→C f a h K→C' f a h K') :
 ∀(ds:List DOp) dn hs e h x K K',(∀e h x,K e h x→K' e h x)→pC C gl ds dn hs e h x K→pC C' gl ds dn hs e h x K'
 | [],dn,hs,e,h,x,K,K',hK,H=>hK _ _ _ H
 | o::r,dn,hs,e,h,x,K,K',hK,H=>by
  obtain⟨v,h',y,h1,h2,h3,h4,h5⟩:=H;exact⟨v,h',y,mQ hC h1,h2,fun k hk=>by obtain⟨g,q1,q2⟩:=h3 k hk;exact⟨g,q1,mQ hC q2⟩,fun j hj=>by obtain⟨q,q1,q2⟩:=h4 j hj;exact⟨q,q1,mQ hC q2⟩,
   pQ hC r _ _ _ _ _ K K' hK h5⟩
theorem ALoop.mono {T T':St→(Ex→St→Prop)→Prop}{K K':Ex→St→Prop}(hT:∀ s R,T s R→T' s R)(hK:∀ e s,K e s→K' e s){s:St}(H:ALoop T K s):ALoop T' K' s:=by
 induction H with
 | mk s R h hn he hr ih=>exact .mk s R (hT _ _ h) ih (fun i s' h=>hK _ _ (he i s' h)) (fun s' h=>hK _ _ (hr s' h))
theorem kC {C C':Hd}{gl:Nat→Option PV}(hC:∀ f a h K K',(∀ v h' x,K v h' x→K' v h' x)→C f a h K→C' f a h K') :
 ∀(c:ACode) s K K',(∀e s,K e s→K' e s)→AW C gl c s K→AW C' gl c s K'
 | .skip,s,K,K',hK,H=>hK _ _ H
 | .reg ops keep,s,K,K',hK,H=>oG hC ops _ _ _ _ _ (fun _ _ _ h=>hK _ _ h) H
 | .draw ds keep,s,K,K',hK,H=>pQ hC ds _ _ _ _ _ _ _ (fun _ _ _ h=>hK _ _ h) H
 | .seq a b,s,K,K',hK,H=>kC hC a s _ _ (fun e s' h=>by
  cases e
  ·exact kC hC b s' K K' hK h
  ·exact hK _ _ h
  ·exact hK _ _ h) H
 | .condu c a b,s,K,K',hK,H=>by
  unfold AW at H ⊢;split at H
  ·split at H
   ·exact kC hC a s K K' hK H
   ·exact kC hC b s K K' hK H
  ·exact⟨kC hC a s K K' hK H.1,kC hC b s K K' hK H.2⟩
  ·exact H.elim
 | .det b,s,K,K',hK,H=>kC hC b s K K' hK H
 | .cond c a b,s,K,K',hK,H=>by
  unfold AW at H ⊢;split at H
  ·split at H
   ·exact kC hC a s K K' hK H
   ·exact kC hC b s K K' hK H
  ·exact H.elim
 | .block id b,s,K,K',hK,H=>kC hC b s _ _ (fun e s' h=>by
  cases e
  ·exact hK _ _ h
  ·dsimp only at h ⊢;split at h
   ·rw[if_pos ‹_›];exact hK _ _ h
   ·rw[if_neg ‹_›];exact hK _ _ h
  ·exact hK _ _ h) H
 | .loop b,s,K,K',hK,H=>ALoop.mono (fun s R h=>kC hC b s R R (fun _ _ h=>h) h) hK H
 | .scope b,s,K,K',hK,H=>kC hC b _ _ _ (fun e s' h=>hK _ _ h) H
 | .pr l b,s,K,K',hK,H=>kC hC b _ K K' hK H
 | .exit id,s,K,K',hK,H=>hK _ _ H
 | .ret,s,K,K',hK,H=>hK _ _ H
 | .bad,s,K,K',hK,H=>H.elim
theorem zi1 {b:Nat}{rs:List ARes}{o:Option (List AV)}{h:aA}{x:Esc}{K K':jA}(hK:∀ v h x,K v h x→K' v h x)(H:SD b K rs o h x):SD b K' rs o h x:=by
 unfold SD at H ⊢;split at H
 ·split at H
  ·exact⟨H.1,hK _ _ _ H.2⟩
  ·exact H.elim
 ·exact H.elim
theorem z1b {F:AFun}{b:Nat}{s:St}{K K':jA}(hK:∀ v h x,K v h x→K' v h x)(H:fin F b s K):fin F b s K':=by
 unfold fin at H ⊢;split at H
 ·exact zi1 hK H
 split at H
 ·split at H
  ·dsimp only at H ⊢
   split at H
   ·rw[if_pos ‹_›];exact hK _ _ _ H
   ·rw[if_neg ‹_›];exact hK _ _ _ H
  ·split at H
   ·dsimp only at H ⊢
    split at H
    ·rw[if_pos ‹_›]
     split at H
     ·exact⟨H.1,hK _ _ _ H.2⟩
     ·exact H.elim
    ·rw[if_neg ‹_›];exact hK _ _ _ H
   ·exact H.elim
 ·exact H.elim
theorem VL {C C':Hd}{gl:Nat→Option PV}(hC:∀ f a h K K',(∀ v h' x,K v h' x→K' v h' x)→C f a h K→C' f a h K'){F:AFun}{a:List AV}{h:aA}{K K':jA}
 (hK:∀v h x,K v h x→K' v h x) (H:WB C gl F a h K):WB C' gl F a h K':=by
 unfold WB at H ⊢;split at H
 ·refine⟨H.1,kC hC _ _ _ _ (fun e s h=>?_) H.2⟩
  cases e
  ·exact z1b hK h
  ·exact h.elim
  ·exact z1b hK h
 ·exact H.elim
theorem zc9 {C C':Hd}{gl:Nat→Option PV}(hC:∀ f a h K K',(∀ v h' x,K v h' x→K' v h' x)→C f a h K→C' f a h K'){F:AFun}{a:List AV}{h:aA}{K K':jA}
 (hK:∀v h x,K v h x→K' v h x) (H:VC C gl F a h K):VC C' gl F a h K':=by
 unfold VC at H ⊢;cases hd:F.isDet with
 | true=>
  rw[hd]at H;obtain⟨v,h',x,k,H⟩:=H;exact⟨v,h',x,hK _ _ _ k,VL hC (fun _ _ _ h=>h) H⟩
 | false=>
  rw[hd]at H;exact VL hC hK H
theorem sQ {X:Ctx}{C C':Hd}(hC:∀ f a h K K',(∀ v h' x,K v h' x→K' v h' x)→C f a h K→C' f a h K'){f:Nat}{a:List AV}{h:aA}{K K':jA}
 (hK:∀v h x,K v h x→K' v h x) (H:IB X C f a h K):IB X C' f a h K':=by
 unfold IB at H ⊢;split at H
 ·exact zc9 hC hK H
 ·split at H
  ·exact hK _ _ _ H
  ·split at H
   ·split at H
    ·split at H
     ·exact hK _ _ _ H
     ·exact H.elim
    ·exact H.elim
   ·exact H.elim
theorem eA.mono (X:Ctx):(eA X).Mono:=fun f a h K K' hK H=>by
 intro C hM hS;exact hM _ _ _ _ _ hK (H C hM hS)
theorem eA.fold {X:Ctx}{f:Nat}{a:List AV}{h:aA}{K:jA}(H:IB X (eA X) f a h K):eA X f a h K:=by
 intro C hM hS;exact hS _ _ _ _ (sQ (fun f a h K K' hK H'=>hM _ _ _ _ _ hK (H' C hM hS)) (fun _ _ _ h=>h) H)
theorem zcA {C:Hd}(hC:C.Mono){gl:Nat→Option PV}{F:AFun}{a:List AV}{h:aA}{K:jA}(H:VC C gl F a h K):WB C gl F a h K:=by
 unfold VC at H;split at H
 ·obtain⟨v,h',x,k,H⟩:=H
  refine VL (C:=C) (C':=C) (fun f a h K K' hK g=>hC f a h K K' hK g) (fun v1 h1 x1 (hv:v1=v∧h1=h'∧x1=x)=>?_) H
  obtain⟨q1,q2,q3⟩:=hv;subst q1;subst q2;subst q3
  exact k
 ·exact H
theorem eA.unfold {X:Ctx}{f:Nat}{a:List AV}{h:aA}{K:jA}(H:eA X f a h K):IB X (eA X) f a h K:=by
 refine H (fun f a h K=>IB X (eA X) f a h K) ?_ ?_
 ·intro f a h K K' hK H'
  exact sQ (eA.mono X) hK H'
 ·intro f a h K H'
  exact sQ (C:=fun f a h K=>IB X (eA X) f a h K) (C':=eA X) (fun f a h K K' hK H''=>eA.mono X _ _ _ _ _ hK (eA.fold H'')) (fun _ _ _ h=>h) H'
theorem wX {X:Ctx}{f:Nat}{a:List AV}{h:aA}{K:jA}:eA X f a h K↔IB X (eA X) f a h K:=⟨eA.unfold,eA.fold⟩
def KE (C D:Hd):Prop:=∀f a h K L,C f a h K→D f a h L→∃v h' x,K v h' x∧L v h' x
theorem lH {C D:Hd}{gl:Nat→Option PV}(hC:KE C D) :
 ∀(ops:List AOp) e h x K L,GA C gl ops e h x K→GA D gl ops e h x L→∃e h x,K e h x∧L e h x
 | [],e,h,x,K,L,H,G=>⟨e,h,x,H,G⟩
 | o::r,e,h,x,K,L,H,G=>by
  obtain⟨dst,guard,op⟩:=o;unfold GA at H G;dsimp only at H G;split at H
  ·rename_i hw
   simp only[hw]at G;cases op;case call f args=>
    obtain⟨v,h',x',H',G'⟩:=hC _ _ _ _ _ H G;exact lH hC r _ _ _ K L H' G'
   case callv f args=>
    dsimp only at H G;split at H
    ·rename_i hf
     simp only[hf]at G;obtain⟨v,h',x',H',G'⟩:=hC _ _ _ _ _ H G;exact lH hC r _ _ _ K L H' G'
    ·exact H.elim
   case mnext sh xs=>
    dsimp only at H G;split at H
    ·rename_i l hl
     simp only[hl]at G;obtain⟨y,hy⟩:=List.exists_mem_of_ne_nil l H.1;exact lH hC r _ _ _ K L (H.2 y hy) (G.2 y hy)
    ·exact H.elim
   all_goals
    dsimp only at H G;split at H
    ·rename_i ha
     simp only[ha]at G;exact lH hC r _ _ _ K L H G
    ·exact H.elim
  ·rename_i hw
   simp only[hw]at G;exact lH hC r _ _ _ K L H G
  ·exact H.elim
theorem z49 {C D:Hd}{gl:Nat→Option PV}(hC:KE C D){o:AOp}{e:List (Nat × AV)}{h h1 h2:aA}{v1 v2:AV}{x1 x2:Esc}(H:ADo C gl o e h v1 h1 x1)(G:ADo D gl o e h v2 h2 x2):v1=v2∧h1=h2∧x1=x2:=by
 obtain⟨dst,guard,op⟩:=o;unfold ADo at H G;dsimp only at H G;split at H
 ·rename_i hw
  simp only[hw]at G;cases op;case call f args=>
   obtain⟨v,h',x',⟨a1,a2,a3⟩,b1,b2,b3⟩:=hC _ _ _ _ _ H G;exact⟨a1.symm.trans b1,a2.symm.trans b2,a3.symm.trans b3⟩
  case callv f args=>
   dsimp only at H G;split at H
   ·rename_i hf
    simp only[hf]at G;obtain⟨v,h',x',⟨a1,a2,a3⟩,b1,b2,b3⟩:=hC _ _ _ _ _ H G;exact⟨a1.symm.trans b1,a2.symm.trans b2,a3.symm.trans b3⟩
   ·exact H.elim
  case mnext sh xs=>exact H.elim
  all_goals
   dsimp only at H G;rw[H]at G;injection G with G
   injection G with g1 G
   injection G with g2 g3
   exact⟨g1,g2,g3⟩
 ·rename_i hw
  simp only[hw]at G;exact⟨H.1.trans G.1.symm,H.2.1.trans G.2.1.symm,H.2.2.trans G.2.2.symm⟩
 ·exact H.elim
theorem zX {C D:Hd}{gl:Nat→Option PV}(hC:KE C D) :
 ∀(ds:List DOp) dn hs e h x K L,pC C gl ds dn hs e h x K→pC D gl ds dn hs e h x L→∃e h x,K e h x∧L e h x
 | [],dn,hs,e,h,x,K,L,H,G=>⟨e,h,x,H,G⟩
 | o::r,dn,hs,e,h,x,K,L,H,G=>by
  obtain⟨v,h',y,h1,h2,h3,h4,h5⟩:=H;obtain⟨v',h'',y',g1,g2,g3,g4,g5⟩:=G;obtain⟨rfl,rfl,rfl⟩:=z49 hC h1 g1;exact zX hC r _ _ _ _ _ K L h5 g5
def bY (T U:St→(Ex→St→Prop)→Prop):Prop:=∀s K L,T s K→U s L→∃e s',K e s'∧L e s'
theorem z4C {T U:St→(Ex→St→Prop)→Prop}(hT:bY T U){K L:Ex→St→Prop}{s:St}(H:ALoop T K s):ALoop U L s→∃e s',K e s'∧L e s':=by
 induction H with
 | mk s R h hn he hr ih=>
  intro G;cases G with
  | mk _ S h' hn' he' hr'=>
   obtain⟨e,s',hR,hS⟩:=hT _ _ _ h h';cases e with
   | normal=>exact ih s' hR (hn' s' hS)
   | exit i=>exact⟨_,_,he i s' hR,he' i s' hS⟩
   | ret=>exact⟨_,_,hr s' hR,hr' s' hS⟩
theorem tD {C D:Hd}{gl:Nat→Option PV}(hC:KE C D):∀(c:ACode),bY (AW C gl c) (AW D gl c)
 | .skip,s,K,L,H,G=>⟨_,_,H,G⟩
 | .reg ops keep,s,K,L,H,G=>by
  obtain⟨e,h,x,h1,h2⟩:=lH hC ops _ _ _ _ _ H G;exact⟨_,_,h1,h2⟩
 | .draw ds keep,s,K,L,H,G=>by
  obtain⟨e,h,x,h1,h2⟩:=zX hC ds _ _ _ _ _ _ _ H G;exact⟨_,_,h1,h2⟩
 | .seq a b,s,K,L,H,G=>by
  obtain⟨e,s',h1,h2⟩:=tD hC a _ _ _ H G;cases e with
  | normal=>exact tD hC b _ _ _ h1 h2
  | exit i=>exact⟨_,_,h1,h2⟩
  | ret=>exact⟨_,_,h1,h2⟩
 | .condu c a b,s,K,L,H,G=>by
  unfold AW at H G;split at H
  ·rename_i t ht
   simp only[ht]at G;split at H
   ·exact tD hC a _ _ _ H G
   ·exact tD hC b _ _ _ H G
  ·rename_i ht
   simp only[ht]at G;exact tD hC a _ _ _ H.1 G.1
  ·exact H.elim
 | .det b,s,K,L,H,G=>tD hC b _ _ _ H G
 | .cond c a b,s,K,L,H,G=>by
  unfold AW at H G;split at H
  ·rename_i t ht
   simp only[ht]at G;split at H
   ·exact tD hC a _ _ _ H G
   ·exact tD hC b _ _ _ H G
  ·exact H.elim
 | .block id b,s,K,L,H,G=>by
  obtain⟨e,s',h1,h2⟩:=tD hC b _ _ _ H G;cases e with
  | normal=>exact⟨_,_,h1,h2⟩
  | exit i=>
   dsimp only at h1 h2;split at h1
   ·rw[if_pos ‹_›]at h2;exact⟨_,_,h1,h2⟩
   ·rw[if_neg ‹_›]at h2;exact⟨_,_,h1,h2⟩
  | ret=>exact⟨_,_,h1,h2⟩
 | .loop b,s,K,L,H,G=>z4C (tD hC b) H G
 | .scope b,s,K,L,H,G=>by
  obtain⟨e,s',h1,h2⟩:=tD hC b _ _ _ H G;exact⟨_,_,h1,h2⟩
 | .pr l b,s,K,L,H,G=>tD hC b _ K L H G
 | .exit id,s,K,L,H,G=>⟨_,_,H,G⟩
 | .ret,s,K,L,H,G=>⟨_,_,H,G⟩
 | .bad,s,K,L,H,G=>H.elim
theorem zi0 {b:Nat}{rs:List ARes}{o:Option (List AV)}{h:aA}{x:Esc}{K L:jA}(H:SD b K rs o h x)(G:SD b L rs o h x):∃v h x,K v h x∧L v h x:=by
 unfold SD at H G;split at H
 ·rename_i vs
  simp only at G;split at H
  ·rename_i y hy
   rw[hy]at G;exact⟨_,_,_,H.2,G.2⟩
  ·exact H.elim
 ·exact H.elim
theorem z1a {F:AFun}{b:Nat}{s:St}{K L:jA}(H:fin F b s K)(G:fin F b s L):∃v h x,K v h x∧L v h x:=by
 unfold fin at H G;split at H
 ·rename_i h0
  simp only[h0]at G;exact zi0 H G
 rename_i h0;simp only[h0]at G;split at H
 ·rename_i h1
  simp only[h1]at G;split at H
  ·rename_i h2
   simp only[h2]at G;dsimp only at H G;split at H
   ·rename_i h3;rw[if_pos h3]at G;exact⟨_,_,_,H,G⟩
   ·rename_i h3;rw[if_neg h3]at G;exact⟨_,_,_,H,G⟩
  ·rename_i h2
   simp only[h2]at G;split at H
   ·rename_i h4
    simp only[h4]at G;dsimp only at H G;split at H
    ·rename_i h3
     rw[if_pos h3]at G;split at H
     ·rename_i h5
      simp only[h5]at G;exact⟨_,_,_,H.2,G.2⟩
     ·exact H.elim
    ·rename_i h3;rw[if_neg h3]at G;exact⟨_,_,_,H,G⟩
   ·exact H.elim
 ·exact H.elim
theorem dY {C D:Hd}{gl:Nat→Option PV}(hC:KE C D){F:AFun}{a:List AV}{h:aA}{K L:jA}(H:WB C gl F a h K)(G:WB D gl F a h L):∃v h' x,K v h' x∧L v h' x:=by
 unfold WB at H G;split at H
 ·rename_i hp
  simp only[hp]at G;obtain⟨e,s',h1,h2⟩:=tD hC _ _ _ _ H.2 G.2;cases e with
  | normal=>exact z1a h1 h2
  | exit i=>exact h1.elim
  | ret=>exact z1a h1 h2
 ·exact H.elim
theorem zc8 {C D:Hd}{gl:Nat→Option PV}(hC:KE C D){F:AFun}{a:List AV}{h:aA}{K L:jA}(H:VC C gl F a h K)(G:VC D gl F a h L):∃v h' x,K v h' x∧L v h' x:=by
 unfold VC at H G;cases hd:F.isDet with
 | true=>
  rw[hd]at H G;obtain⟨v,h',x,k,H⟩:=H;obtain⟨v2,h2,x2,k2,G⟩:=G;obtain⟨v3,h3,x3,⟨q1,q2,q3⟩,q4,q5,q6⟩:=dY hC H G;subst q1;subst q2;subst q3;subst q4;subst q5;subst q6
  exact⟨_,_,_,k,k2⟩
 | false=>
  rw[hd]at H G;exact dY hC H G
theorem z5l {X:Ctx}{C D:Hd}(hC:KE C D):KE (IB X C) (IB X D):=by
 intro f a h K L H G;unfold IB at H G;split at H
 ·rename_i F hF
  simp only[hF]at G;exact zc8 hC H G
 ·rename_i hF
  simp only[hF]at G;split at H
  ·rename_i hx2
   simp only[hx2]at G;exact⟨_,_,_,H,G⟩
  ·rename_i hx2
   simp only[hx2]at G;split at H
   ·rename_i hp
    simp only[hp]at G;split at H
    ·rename_i hu
     simp only[hu]at G;split at H
     ·rename_i hx
      simp only[hx]at G;exact⟨_,_,_,H,G⟩
     ·exact H.elim
    ·exact H.elim
   ·exact H.elim
theorem z47 (X:Ctx):KE (eA X) (eA X):=by
 intro f a h K L H;refine H (fun f a h K=>∀L,eA X f a h L→∃v h' x,K v h' x∧L v h' x) ?_ ?_ L
 ·intro f a h K K' hK H' L hL
  obtain⟨v,h',x,h1,h2⟩:=H' L hL;exact⟨v,h',x,hK _ _ _ h1,h2⟩
 ·intro f a h K H' L hL
  exact z5l (C:=fun f a h K=>∀L,eA X f a h L→∃v h' x,K v h' x∧L v h' x) (fun f a h K L H1 H2=>H1 L H2) _ _ _ _ _ H' (eA.unfold hL)
theorem eA.eq {X:Ctx}{f:Nat}{a:List AV}{h:aA}{v:AV}{h':aA}{x:Esc}(H:eA X f a h fun v1 h1 x1=>v1=v∧h1=h'∧x1=x)(K:jA) :
 eA X f a h K↔K v h' x:=by
 constructor
 ·intro G
  obtain⟨v1,h1,x1,⟨rfl,rfl,rfl⟩,hk⟩:=z47 X _ _ _ _ _ H G;exact hk
 ·intro hk
  exact eA.mono X _ _ _ _ _ (fun v1 h1 x1 ⟨e1,e2,e3⟩=>by subst e1;subst e2;subst e3;exact hk) H
end Go.Am
end
section
/- The abstract machine,part 4: how its values and heap stand tov the model's (relations),and that they outlast what comes. -/
namespace Go.Am
def zed (w:World):World:={ w with heap:=#[],drawn:=0 }
structure Mem where
 c:Nat→Nat→Option Value
 b:Nat→Option Go.Obj
 z:Option World
 s:Nat→Option TypeId
instance:CoeFun Mem fun _=>Nat→Nat→Option Value:=⟨Mem.c⟩
abbrev Mu:=List (Option (Nat × Nat))
inductive RPV (M:Mem):PV→Value→Prop
 | int (k:IntKind) (n:Int):RPV M (.int k n) (.int k n)
 | bool (b:Bool):RPV M (.bool b) (.bool b)
 | str (s:List UInt8):RPV M (.str s) (.string ⟨s.toArray⟩)
 | nilp:RPV M .nilp (.pointer none)
 | unk (k:IntKind) (n:Int):RPV M .unk (.int k n)
 | nils (sh:Sh) (a:Option Addr) (cap:Nat):RPV M (.sl sh []) (.slice a 0 cap)
 | sl (sh:Sh) (xs:List PV) (b o cap:Nat) (f:Nat→Value) (hne:xs≠[]) (hc:xs.length≤cap) (he:∀x∈xs,x.shp sh=true)
  (hm:∀(j:Nat) (y:PV),(xs.flatMap PV.cells)[j]?=some y→M b (o+j)=some (f j))
  (hr:∀(j:Nat) (y:PV),(xs.flatMap PV.cells)[j]?=some y→RPV M y (f j)):RPV M (.sl sh xs) (.slice (some ⟨b,o,none⟩) xs.length cap)
 | agg (cs:List PV) (vs:List Value) (hl:cs.length=vs.length)
  (hr:∀(j:Nat) (y:PV) (v:Value),cs[j]?=some y→vs[j]?=some v→RPV M y v):RPV M (.agg cs) (.agg vs.toArray)
def pE (m:Option (Nat × Nat))(e off:Nat)(a:Option Addr)(cap:Nat):Prop:=match m with
 | none=>cap=0
 | some (b,n)=>cap=0∨(a=some ⟨b,off*e,none⟩∧(off+cap)*e≤n)
def BufAt (M:Mem)(t:Nat)(m:Option (Nat × Nat))(a:Option Addr)(cap:Nat):Prop:=match m with
 | none=>a=none∧cap=0
 | some (b,n)=>a=some ⟨b,0,none⟩∧(0<cap∧cap≤n)∧M.s b=some t
inductive RAV (M:Mem) (h:aA) (μ:Mu):AV→Value→Prop
 | p (v:PV) (x:Value) (hv:RPV M v x):RAV M h μ (.p v) x
 | own (id g off len:Nat) (a:Option Addr) (cap:Nat) (sh:Sh) (xs:List PV) (fz:Nat) (m:Option (Nat×Nat)) (hl:len≤cap) (ho:h[id]?=some (.row sh xs fz)) (hm:μ[id]?=some m)
  (hg:g≤xs.length) (hgl:off+len≤g) (hv:g=xs.length→pE m (gA sh) off a cap):RAV M h μ (.own id g off len) (.slice a len cap)
 | sl0 (sh:Sh) (a:Option Addr):RAV M h μ (.sl0 sh) (.slice a 0 0)
 | ref (id off b n:Nat) (cs:List AV) (ho:h[id]?=some (.box cs)) (hm:μ[id]?=some (some (b,n))):RAV M h μ (.ref id off) (.pointer (some ⟨b,off,none⟩))
 | rref (id g i off:Nat) (a:Addr) (sh:Sh) (xs:List PV) (fz:Nat) (m:Option (Nat×Nat)) (ho:h[id]?=some (.row sh xs fz)) (hm:μ[id]?=some m)
  (hg:g≤xs.length) (hi:i<g) (hv:g=xs.length→∃b n,m=some (b,n)∧a=⟨b,i*gA sh+off,none⟩):RAV M h μ (.rref id g i off) (.pointer (some a))
 | vp (v:PV) (b o:Nat) (f:Nat→Value) (hm:∀(j:Nat) (y:PV),v.cells[j]?=some y→M b (o+j)=some (f j)) (hr:∀(j:Nat) (y:PV),v.cells[j]?=some y→RPV M y (f j)) :
  RAV M h μ (.vp v) (.pointer (some ⟨b,o,none⟩))
 | nilp:RAV M h μ .nilp (.pointer none)
 | nilm:RAV M h μ .nilm (.map none)
 | nilf:RAV M h μ .nilf .nilFunc
 | nili:RAV M h μ .nili .nilIface
 | ifc (t:TypeId) (v:Value):RAV M h μ .ifc (.iface t v)
 | mp (id b n:Nat) (es:List ME) (c:Nat) (ho:h[id]?=some (.amap es c)) (hm:μ[id]?=some (some (b,n))):RAV M h μ (.mp id) (.map (some b))
 | it (id b n:Nat) (m:Option Nat) (s:Nat) (seen:List Nat) (l:Nat) (ho:h[id]?=some (.iter m s seen l)) (hm:μ[id]?=some (some (b,n))):RAV M h μ (.it id) (.pointer (some ⟨b,0,none⟩))
 | fn (f:Nat) (cs:List AV) (vs:List Value) (hl:cs.length=vs.length) (hr:∀(j:Nat) (y:AV) (v:Value),cs[j]?=some y→vs[j]?=some v→RAV M h μ y v) :
  RAV M h μ (.fn f cs) (.func (.func f) #[] vs.toArray)
 | agg (cs:List AV) (vs:List Value) (hl:cs.length=vs.length) (hr:∀(j:Nat) (y:AV) (v:Value),cs[j]?=some y→vs[j]?=some v→RAV M h μ y v):RAV M h μ (.agg cs) (.agg vs.toArray)
 | tup (cs:List AV) (vs:List Value) (hl:cs.length=vs.length) (hr:∀(j:Nat) (y:AV) (v:Value),cs[j]?=some y→vs[j]?=some v→RAV M h μ y v):RAV M h μ (.tup cs) (.tuple vs.toArray)
 | anyb (b:Bool):RAV M h μ .anyb (.bool b)
 | skp:RAV M h μ .skp undef
 | und (x:Value):RAV M h μ .und x
 | anyp (a:Option Addr):RAV M h μ .anyp (.pointer a)
 | bt0 (t id g b n:Nat) (cs:List AV) (ho:h[id]?=some (.box cs)) (hm:μ[id]?=some (some (b,n))) (hs:M.s b=some t):RAV M h μ (.bt 0 t id g) (.pointer none)
 | bt1 (t id g:Nat) (a:Option Addr) (cap:Nat) (xs:List PV) (fz:Nat) (m:Option (Nat×Nat)) (hl:g≤cap) (ho:h[id]?=some (.row none xs fz)) (hm:μ[id]?=some m)
  (hg:g≤xs.length) (hv:g=xs.length→BufAt M t m a cap):RAV M h μ (.bt 1 t id g) (.slice a g cap)
 | bt2 (t id g:Nat) (a:Addr) (xs:List PV) (fz:Nat) (m:Option (Nat×Nat)) (ho:h[id]?=some (.row none xs fz)) (hm:μ[id]?=some m)
  (hg:g≤xs.length) (hv:g=xs.length→∃b n,m=some (b,n)∧a=⟨b,0,none⟩∧M.s b=some t):RAV M h μ (.bt 2 t id g) (.pointer (some a))
 | bt3 (t id g:Nat) (a:Option Addr) (cap:Nat) (o:Obj) (m:Option (Nat×Nat)) (hl:g≤cap) (ho:h[id]?=some o) (hm:μ[id]?=some m)
  (hv:∀sh cs,o = .arow sh cs→g*gA sh≤cs.length∧(g*gA sh=cs.length→pE m (gA sh) 0 a cap)):RAV M h μ (.bt 3 t id g) (.slice a g cap)
 | bt4 (off id g:Nat) (a:Addr) (o:Obj) (m:Option (Nat×Nat)) (ho:h[id]?=some o) (hm:μ[id]?=some m)
  (hv:∀sh cs,o = .arow sh cs→g*gA sh≤cs.length∧(g*gA sh=cs.length→∃b n,m=some (b,n)∧a=⟨b,off,none⟩)):RAV M h μ (.bt 4 off id g) (.pointer (some a))
structure Mem.le (M M':Mem):Prop where
 c:∀b o v,M.c b o=some v→M'.c b o=some v
 b:∀b o,M.b b=some o→M'.b b=some o
 z:M'.z=M.z
 s:∀b t,M.s b=some t→M'.s b=some t
theorem RPV.mono {M M':Mem}(hM:M.le M'){v:PV}{x:Value}(H:RPV M v x):RPV M' v x:=by
 induction H with
 | int k n=>exact .int k n
 | bool b=>exact .bool b
 | str s=>exact .str s
 | nilp=>exact .nilp
 | unk k n=>exact .unk k n
 | nils sh a cap=>exact .nils sh a cap
 | sl sh xs b o cap f hne hc he hm hr ih=>exact .sl sh xs b o cap f hne hc he (fun j y hy=>hM.c _ _ _ (hm j y hy)) ih
 | agg cs vs hl hr ih=>exact .agg cs vs hl ih
def qC (o:Obj)(m:Option (Nat × Nat))(o':Obj)(m':Option (Nat × Nat)):Prop:=match o with
 | .box _=>(∃cs',o' = .box cs')∧m'=m
 | .row sh xs _=>∃xs' fz',o' = .row sh xs' fz'∧xs.length≤xs'.length∧(xs'.length=xs.length→m'=m)
 | .amap _ _=>(∃es c,o' = .amap es c)∧m'=m
 | .iter _ _ _ _=>(∃a b c d,o' = .iter a b c d)∧m'=m
 | .arow sh cs=>(∃cs',o' = .arow sh cs'∧cs.length≤cs'.length∧(cs'.length=cs.length→m'=m))∨∃sh' xs fz,o' = .row sh' xs fz
theorem qC.refl (o:Obj)(m:Option (Nat × Nat)):qC o m o m:=by
 cases o <;> simp [qC]
theorem qC.trans {o o' o'':Obj}{m m' m'':Option (Nat × Nat)}(h:qC o m o' m')(h':qC o' m' o'' m''):qC o m o'' m'':=by
 cases o with
 | box cs=>obtain⟨⟨cs',rfl⟩,rfl⟩:=h;exact h'
 | row sh xs fz=>
  obtain⟨xs',fz',rfl,h1,h2⟩:=h;obtain⟨xs'',fz'',rfl,h3,h4⟩:=h';exact⟨xs'',fz'',rfl,by omega,fun he=>(h4 (by omega)).trans (h2 (by omega))⟩
 | amap es c=>obtain⟨⟨es',c',rfl⟩,rfl⟩:=h;exact h'
 | iter a b c d=>obtain⟨⟨a',b',c',d',rfl⟩,rfl⟩:=h;exact h'
 | arow sh cs=>
  rcases h with⟨cs',rfl,h1,h2⟩|⟨sh',xs,fz,rfl⟩
  ·rcases h' with⟨cs'',rfl,h3,h4⟩|h'
   ·exact .inl ⟨cs'',rfl,by omega,fun he=>(h4 (by omega)).trans (h2 (by omega))⟩
   ·exact .inr h'
  ·obtain⟨xs'',fz'',rfl,_⟩:=h'
   exact .inr ⟨sh',xs'',fz'',rfl⟩
theorem qC.to_arow {o:Obj}{m m':Option (Nat × Nat)}{sh:Sh}{cs':List AV}(h:qC o m (.arow sh cs') m'):∃cs,o = .arow sh cs∧cs.length≤cs'.length∧(cs'.length=cs.length→m'=m):=by
 cases o with
 | box cs=>obtain⟨⟨_,h⟩,_⟩:=h;cases h
 | row sh xs fz=>obtain⟨_,_,h,_⟩:=h;cases h
 | amap es c=>obtain⟨⟨_,_,h⟩,_⟩:=h;cases h
 | iter a b c d=>obtain⟨⟨_,_,_,_,h⟩,_⟩:=h;cases h
 | arow sh' cs=>
  rcases h with⟨cs2,h1,h2,h3⟩|⟨_,_,_,h⟩
  ·injection h1 with h1 h4;subst h1;subst h4;exact⟨cs,rfl,h2,h3⟩
  ·cases h
structure Evo (M:Mem) (h:aA) (μ:Mu) (M':Mem) (h':aA) (μ':Mu):Prop where
 le:M.le M'
 len:h.length≤h'.length
 obj:∀(id:Nat) (o:Obj) (m:Option (Nat×Nat)),h[id]?=some o→μ[id]?=some m→∃o' m',h'[id]?=some o'∧μ'[id]?=some m'∧qC o m o' m'
theorem Evo.refl (M:Mem)(h:aA)(μ:Mu):Evo M h μ M h μ:=⟨⟨fun _ _ _ h=>h,fun _ _ h=>h,rfl,fun _ _ h=>h⟩,Nat.le_refl _,fun _ o m h1 h2=>⟨o,m,h1,h2,qC.refl o m⟩⟩
theorem Evo.trans {M M' M'':Mem}{h h' h'':aA}{μ μ' μ'':Mu}(a:Evo M h μ M' h' μ')(b:Evo M' h' μ' M'' h'' μ''):Evo M h μ M'' h'' μ'':=
 ⟨⟨fun x y v h=>b.le.c x y v (a.le.c x y v h),fun x y h=>b.le.b x y (a.le.b x y h),b.le.z.trans a.le.z,fun x t h=>b.le.s x t (a.le.s x t h)⟩,Nat.le_trans a.len b.len,fun id o m h1 h2=>by
  obtain⟨o',m',h3,h4,h5⟩:=a.obj id o m h1 h2;obtain⟨o'',m'',h6,h7,h8⟩:=b.obj id o' m' h3 h4;exact⟨o'',m'',h6,h7,h5.trans h8⟩⟩
theorem RAV.evo {M M':Mem}{h h':aA}{μ μ':Mu}(E:Evo M h μ M' h' μ'){v:AV}{x:Value}(H:RAV M h μ v x):RAV M' h' μ' v x:=by
 induction H with
 | p v x hv=>exact .p v x (hv.mono E.le)
 | own id g off len a cap sh xs fz m hl ho hm hg hgl hv=>
  obtain⟨o',m',h1,h2,xs',fz',rfl,h4,h5⟩:=E.obj id _ m ho hm;refine .own id g off len a cap sh xs' fz' m' hl h1 h2 (by omega) hgl (fun he=>?_)
  rw[h5 (by omega)]
  exact hv (by omega)
 | sl0 sh a=>exact .sl0 sh a
 | ref id off b n cs ho hm=>
  obtain⟨o',m',h1,h2,⟨cs',rfl⟩,rfl⟩:=E.obj id _ _ ho hm;exact .ref id off b n cs' h1 h2
 | rref id g i off a sh xs fz m ho hm hg hi hv=>
  obtain⟨o',m',h1,h2,xs',fz',rfl,h4,h5⟩:=E.obj id _ m ho hm;refine .rref id g i off a sh xs' fz' m' h1 h2 (by omega) hi (fun he=>?_)
  rw[h5 (by omega)]
  exact hv (by omega)
 | vp v b o f hm hr=>exact .vp v b o f (fun j y hy=>E.le.c _ _ _ (hm j y hy)) (fun j y hy=>(hr j y hy).mono E.le)
 | nilp=>exact .nilp
 | nilm=>exact .nilm
 | nilf=>exact .nilf
 | nili=>exact .nili
 | ifc t v=>exact .ifc t v
 | mp id b n es c ho hm=>
  obtain⟨o',m',h1,h2,⟨es',c',rfl⟩,rfl⟩:=E.obj id _ _ ho hm;exact .mp id b n es' c' h1 h2
 | it id b n m s seen l ho hm=>
  obtain⟨o',m',h1,h2,⟨a',b',c',d',rfl⟩,rfl⟩:=E.obj id _ _ ho hm;exact .it id b n a' b' c' d' h1 h2
 | fn f cs vs hl hr ih=>exact .fn f cs vs hl ih
 | agg cs vs hl hr ih=>exact .agg cs vs hl ih
 | tup cs vs hl hr ih=>exact .tup cs vs hl ih
 | anyb b=>exact .anyb b
 | skp=>exact .skp
 | und x=>exact .und x
 | anyp a=>exact .anyp a
 | bt0 t id g b n cs ho hm hs=>
  obtain⟨o',m',h1,h2,⟨cs',rfl⟩,rfl⟩:=E.obj id _ _ ho hm;exact .bt0 t id g b n cs' h1 h2 (E.le.s _ _ hs)
 | bt1 t id g a cap xs fz m hl ho hm hg hv=>
  obtain⟨o',m',h1,h2,xs',fz',rfl,h4,h5⟩:=E.obj id _ m ho hm;refine .bt1 t id g a cap xs' fz' m' hl h1 h2 (by omega) (fun he=>?_)
  rw[h5 (by omega)]
  have q:=hv (by omega)
  cases m with
  | none=>exact q
  | some m=>exact⟨q.1,q.2.1,E.le.s _ _ q.2.2⟩
 | bt2 t id g a xs fz m ho hm hg hv=>
  obtain⟨o',m',h1,h2,xs',fz',rfl,h4,h5⟩:=E.obj id _ m ho hm;refine .bt2 t id g a xs' fz' m' h1 h2 (by omega) (fun he=>?_)
  rw[h5 (by omega)]
  obtain⟨b,n,q1,q2,q3⟩:=hv (by omega)
  exact⟨b,n,q1,q2,E.le.s _ _ q3⟩
 | bt3 t id g a cap o m hl ho hm hv=>
  obtain⟨o',m',h1,h2,h3⟩:=E.obj id _ m ho hm;refine .bt3 t id g a cap o' m' hl h1 h2 (fun sh cs' e=>?_)
  subst e;obtain⟨cs,rfl,h4,h5⟩:=qC.to_arow h3;obtain⟨q1,q2⟩:=hv sh cs rfl;exact⟨by omega,fun he=>by rw[h5 (by omega)];exact q2 (by omega)⟩
 | bt4 off id g a o m ho hm hv=>
  obtain⟨o',m',h1,h2,h3⟩:=E.obj id _ m ho hm;refine .bt4 off id g a o' m' h1 h2 (fun sh cs' e=>?_)
  subst e;obtain⟨cs,rfl,h4,h5⟩:=qC.to_arow h3;obtain⟨q1,q2⟩:=hv sh cs rfl;exact⟨by omega,fun he=>by rw[h5 (by omega)];exact q2 (by omega)⟩
theorem iG {cs:List AV}{n:Nat}(H:∀ (j:Nat) (y:AV),cs[j]?=some y→y.top≤n):AV.tops cs≤n:=by
 induction cs with
 | nil=>simp [AV.tops]
 | cons v r ih=>
  simp only[AV.tops];have h0:=H 0 v rfl
  have h1:=ih (fun j y hy=>H (j+1) y (by simpa using hy))
  omega
theorem nD {cs:List AV}{j:Nat}{y:AV}(H:cs[j]?=some y):y.top≤AV.tops cs:=by
 induction cs generalizing j with
 | nil=>simp at H
 | cons v r ih=>
  simp only[AV.tops];cases j with
  | zero=>simp at H;subst H;omega
  | succ j=>have:=ih (by simpa using H);omega
theorem tA {α:Type}{l:List α}{i:Nat}{x:α}(h:l[i]?=some x):i<l.length:=by
 rcases Nat.lt_or_ge i l.length with h'|h'
 ·exact h'
 ·rw[List.getElem?_eq_none h']at h;cases h
theorem RAV.top_le {M:Mem}{h:aA}{μ:Mu}{v:AV}{x:Value}(H:RAV M h μ v x):v.top≤h.length:=by
 induction H with
 | own id g off len a cap sh xs fz m hl ho hm hg hgl hv=>exact tA ho
 | ref id off b n cs ho hm=>exact tA ho
 | rref id g i off a sh xs fz m ho hm hg hi hv=>exact tA ho
 | mp id b n es c ho hm=>exact tA ho
 | it id b n m s seen l ho hm=>exact tA ho
 | bt0 t id g b n cs ho hm hs=>exact tA ho
 | bt1 t id g a cap xs fz m hl ho hm hg hv=>exact tA ho
 | bt2 t id g a xs fz m ho hm hg hv=>exact tA ho
 | bt3 t id g a cap o m hl ho hm hv=>exact tA ho
 | bt4 off id g a o m ho hm hv=>exact tA ho
 | fn f cs vs hl hr ih=>
  simp only[AV.top];refine iG (fun j y hy=>?_)
  have hj:j<vs.length:=by rw[←hl];exact tA hy
  exact ih j y vs[j] hy (List.getElem?_eq_getElem hj)
 | agg cs vs hl hr ih=>
  simp only[AV.top];refine iG (fun j y hy=>?_)
  have hj:j<vs.length:=by rw[←hl];exact tA hy
  exact ih j y vs[j] hy (List.getElem?_eq_getElem hj)
 | tup cs vs hl hr ih=>
  simp only[AV.top];refine iG (fun j y hy=>?_)
  have hj:j<vs.length:=by rw[←hl];exact tA hy
  exact ih j y vs[j] hy (List.getElem?_eq_getElem hj)
 | _=>simp [AV.top]
theorem RAV.take {M M':Mem}(hM:M.le M'){h:aA}{μ:Mu}{n:Nat}{v:AV}{x:Value}(H:RAV M h μ v x):v.top≤n→RAV M' (h.take n) (μ.take n) v x:=by
 have get:∀{α:Type} {l:List α} {i:Nat} {y:α},l[i]?=some y→i<n→(l.take n)[i]?=some y:=by
  intro α l i y h hi;rw[List.getElem?_take,if_pos hi,h]
 induction H with
 | p v x hv=>exact fun _=>.p v x (hv.mono hM)
 | own id g off len a cap sh xs fz m hl ho hm hg hgl hv=>exact fun ht=>.own id g off len a cap sh xs fz m hl (get ho ht) (get hm ht) hg hgl hv
 | sl0 sh a=>exact fun _=>.sl0 sh a
 | ref id off b n cs ho hm=>exact fun ht=>.ref id off b n cs (get ho ht) (get hm ht)
 | rref id g i off a sh xs fz m ho hm hg hi hv=>exact fun ht=>.rref id g i off a sh xs fz m (get ho ht) (get hm ht) hg hi hv
 | vp v b o f hm hr=>exact fun _=>.vp v b o f (fun j y hy=>hM.c _ _ _ (hm j y hy)) (fun j y hy=>(hr j y hy).mono hM)
 | nilp=>exact fun _=>.nilp
 | nilm=>exact fun _=>.nilm
 | nilf=>exact fun _=>.nilf
 | nili=>exact fun _=>.nili
 | ifc t v=>exact fun _=>.ifc t v
 | mp id b n es c ho hm=>exact fun ht=>.mp id b n es c (get ho ht) (get hm ht)
 | it id b n m s seen l ho hm=>exact fun ht=>.it id b n m s seen l (get ho ht) (get hm ht)
 | fn f cs vs hl hr ih=>exact fun ht=>.fn f cs vs hl (fun j y v h1 h2=>ih j y v h1 h2 (by have:=nD h1;simp only[AV.top]at ht;omega))
 | agg cs vs hl hr ih=>exact fun ht=>.agg cs vs hl (fun j y v h1 h2=>ih j y v h1 h2 (by have:=nD h1;simp only[AV.top]at ht;omega))
 | tup cs vs hl hr ih=>exact fun ht=>.tup cs vs hl (fun j y v h1 h2=>ih j y v h1 h2 (by have:=nD h1;simp only[AV.top]at ht;omega))
 | anyb b=>exact fun _=>.anyb b
 | skp=>exact fun _=>.skp
 | und x=>exact fun _=>.und x
 | anyp a=>exact fun _=>.anyp a
 | bt0 t id g b n cs ho hm hs=>exact fun ht=>.bt0 t id g b n cs (get ho ht) (get hm ht) (hM.s _ _ hs)
 | bt1 t id g a cap xs fz m hl ho hm hg hv=>exact fun ht=>.bt1 t id g a cap xs fz m hl (get ho ht) (get hm ht) hg (fun e=>by
  have q:=hv e
  cases m with
  | none=>exact q
  | some m=>exact⟨q.1,q.2.1,hM.s _ _ q.2.2⟩)
 | bt2 t id g a xs fz m ho hm hg hv=>exact fun ht=>.bt2 t id g a xs fz m (get ho ht) (get hm ht) hg (fun e=>by obtain⟨b,n,q1,q2,q3⟩:=hv e;exact⟨b,n,q1,q2,hM.s _ _ q3⟩)
 | bt3 t id g a cap o m hl ho hm hv=>exact fun ht=>.bt3 t id g a cap o m hl (get ho ht) (get hm ht) hv
 | bt4 off id g a o m ho hm hv=>exact fun ht=>.bt4 off id g a o m (get ho ht) (get hm ht) hv
def LE (h:aA)(μ:Mu)(b o:Nat):Prop:=∃(id n:Nat),μ[id]?=some (some (b,n))∧∀(sh:Sh) (xs:List PV) (fz:Nat),h[id]?=some (.row sh xs fz)→fz*gA sh≤o
def nH (μ:Mu)(b:Nat):Prop:=∃(id n:Nat),μ[id]?=some (some (b,n))
def ety (w:World)(b:Nat):Option TypeId:=match w.heap[b]? with
 | some (.cells _ e _)=>some e
 | _=>none
open Classical in
noncomputable def imm (h:aA) (μ:Mu) (w:World):Mem:=⟨fun b o=>if LE h μ b o then none else w.cell? ⟨b,o,none⟩,fun b=>if nH μ b then none else w.heap[b]?,some (zed w),ety w⟩
theorem tC {h:aA}{μ:Mu}{w:World}{b o:Nat}{v:Value}:(imm h μ w).c b o=some v↔¬LE h μ b o∧w.cell? ⟨b,o,none⟩=some v:=by
 unfold imm;by_cases hO:LE h μ b o <;> simp [hO]
theorem LF {h:aA}{μ:Mu}{w:World}{b:Nat}{o:Go.Obj}:(imm h μ w).b b=some o↔¬nH μ b∧w.heap[b]?=some o:=by
 unfold imm;by_cases hO:nH μ b <;> simp [hO]
def QA (w:World)(b n:Nat)(c:Array Value)(sealed:Prop:=False):Prop:=c.size=n∧∃E lo hi,w.heap[b]?=some (.cells c E (lo,hi))∧(¬sealed→lo<hi→n≤lo)
theorem QA.unsl {w:World}{b n:Nat}{c:Array Value}{s:Prop}(h:QA w b n c s)(hs:¬ s):QA w b n c:=by
 obtain⟨h1,E,lo,hi,h2,h3⟩:=h;exact⟨h1,E,lo,hi,h2,fun _=>h3 hs⟩
theorem QA.imp {w:World}{b n:Nat}{c:Array Value}{s s':Prop}(i:s→s')(h:QA w b n c s):QA w b n c s':=by
 obtain⟨h1,E,lo,hi,h2,h3⟩:=h;exact⟨h1,E,lo,hi,h2,fun q=>h3 (fun p=>q (i p))⟩
theorem QA.sealed {w:World}{b n:Nat}{c:Array Value}(s:Prop)(h:QA w b n c):QA w b n c s:=by
 obtain⟨h1,E,lo,hi,h2,h3⟩:=h;exact⟨h1,E,lo,hi,h2,fun _=>h3 (fun h=>h)⟩
def qG (M:Mem)(h:aA)(μ:Mu)(w:World)(o:Obj)(m:Option (Nat × Nat)):Prop:=match o with
 | .box cs=>∃b c,m=some (b,cs.length)∧QA w b cs.length c∧∀(j:Nat) (x:AV),cs[j]?=some x→x.sc=true∧∃v,c[j]?=some v∧RAV M h μ x v
 | .row sh xs fz=>fz≤xs.length+1∧(∀x∈xs,x.shp sh=true)∧match m with
  | none=>xs=[]
  | some (b,n)=>∃c,QA w b n c (xs.length<fz)∧xs.length*gA sh≤n∧∀(i j:Nat) (x y:PV),xs[i]?=some x→x.cells[j]?=some y→∃v,c[i*gA sh+j]?=some v∧RPV M y v
 | .amap es clk=>∃b n ces,m=some (b,n)∧w.heap[b]?=some (.map ces clk)∧ces.size=es.length∧(∀e∈es,e.born<clk) ∧
  ∀(i:Nat) (e:ME) (ce:MapEntry),es[i]?=some e→ces[i]?=some ce→RPV M e.key ce.key∧e.key.key=true∧RAV M h μ e.val ce.val∧ce.born=e.born
 | .iter mm since seen last=>∃b n,m=some (b,n)∧match mm with
  | none=>since=0→w.heap[b]?=some (.mapIter none 0 #[] 0)
  | some id=>∃bm nm es c,μ[id]?=some (some (bm,nm))∧h[id]?=some (.amap es c)∧w.heap[b]?=some (.mapIter (some bm) since seen.toArray last)
 | .arow sh cs=>(∀x∈cs,x.sc=true)∧match m with
  | none=>cs=[]
  | some (b,n)=>∃c,QA w b n c∧cs.length≤n∧∀(j:Nat) (x:AV),cs[j]?=some x→∃v,c[j]?=some v∧RAV M h μ x v
structure HeapRel (h:aA) (μ:Mu) (w:World):Prop where
 len:μ.length=h.length
 obj:∀(id:Nat) (o:Obj) (m:Option (Nat×Nat)),h[id]?=some o→μ[id]?=some m→qG (imm h μ w) h μ w o m
 distinct:∀(i j b n n':Nat),μ[i]?=some (some (b,n))→μ[j]?=some (some (b,n'))→i=j
 inside:∀(i b n:Nat),μ[i]?=some (some (b,n))→b<w.heap.size
end Go.Am
end
section
/- The abstract machine,part 5: how the relation of the heaps outlasts what operations do tov the world. -/
namespace Go.Am
variable {h h':aA} {μ μ':Mu} {w w':World}
theorem ZL {b o:Nat}(e:w'.heap[b]?=w.heap[b]?):w'.cell? ⟨b,o,none⟩=w.cell? ⟨b,o,none⟩:=by
 unfold World.cell?;simp only[e]
theorem PC {b n o:Nat}{c:Array Value}{s:Prop}(hb:QA w b n c s):w.cell? ⟨b,o,none⟩=c[o]?:=by
 obtain⟨_,E,lo,hi,he,_⟩:=hb;unfold World.cell?;simp [he]
theorem SK (H:∀ (b o:Nat) (v:Value),¬ LE h μ b o→w.cell? ⟨b,o,none⟩=some v→¬ LE h' μ' b o∧w'.cell? ⟨b,o,none⟩=some v)
 (HB:∀(b:Nat) (o:Go.Obj),¬nH μ b→w.heap[b]?=some o→¬nH μ' b∧w'.heap[b]?=some o) (HZ:zed w'=zed w) (HS:∀b t,ety w b=some t→ety w' b=some t):(imm h μ w).le (imm h' μ' w'):=by
 refine⟨fun b o v hv=>?_,fun b o hv=>?_,congrArg some HZ,HS⟩
 ·obtain⟨h1,h2⟩:=tC.1 hv
  exact tC.2 (H b o v h1 h2)
 ·obtain⟨h1,h2⟩:=LF.1 hv
  exact LF.2 (HB b o h1 h2)
theorem rH {b:Nat}{o:Go.Obj}(hb:w.heap[b]?=some o):b<w.heap.size:=(Array.getElem?_eq_some_iff.1 hb).1
theorem tN {b:Nat}(e:w'.heap[b]?=w.heap[b]?):ety w' b=ety w b:=by
 unfold ety;simp only[e]
theorem PZ {b:Nat}{c:Array Value}{E:TypeId}{f:Nat × Nat}(e:w.heap[b]?=some (.cells c E f)):ety w b=some E:=by
 unfold ety;simp only[e]
theorem pU {b:Nat}{t:TypeId}(e:ety w b=some t):b<w.heap.size:=by
 unfold ety at e;rcases Nat.lt_or_ge b w.heap.size with h|h
 ·exact h
 ·rw[Array.getElem?_eq_none h]at e
  cases e
theorem QA.keep {b n:Nat}{c:Array Value}{s:Prop}(e:w'.heap[b]?=w.heap[b]?)(hb:QA w b n c s):QA w' b n c s:=by
 obtain⟨h1,E,lo,hi,he,h2⟩:=hb;exact⟨h1,E,lo,hi,by rw[e];exact he,h2⟩
theorem qG.keep {M M':Mem}{o:Obj}{m:Option (Nat × Nat)}(E:Evo M h μ M' h' μ')(hw:∀ b n,m=some (b,n)→w'.heap[b]?=w.heap[b]?)
 (H:qG M h μ w o m):qG M' h' μ' w' o m:=by
 cases o with
 | box cs=>
  obtain⟨b,c,rfl,hb,hc⟩:=H;refine⟨b,c,rfl,hb.keep (hw _ _ rfl),fun j x hx=>?_⟩
  obtain⟨h1,v,h2,h3⟩:=hc j x hx;exact⟨h1,v,h2,h3.evo E⟩
 | row sh xs fz=>
  obtain⟨h1,h2,h3⟩:=H;refine⟨h1,h2,?_⟩;cases m with
  | none=>exact h3
  | some m=>
   obtain⟨b,n⟩:=m;obtain⟨c,h4,h5,h6⟩:=h3;refine⟨c,h4.keep (hw _ _ rfl),h5,fun i j x y hx hy=>?_⟩
   obtain⟨v,h7,h8⟩:=h6 i j x y hx hy;exact⟨v,h7,h8.mono E.le⟩
 | amap es clk=>
  obtain⟨b,n,ces,rfl,h1,h2,hb,h3⟩:=H;refine⟨b,n,ces,rfl,by rw[hw _ _ rfl];exact h1,h2,hb,fun i e ce he hc=>?_⟩
  obtain⟨h4,h5,h6,h7⟩:=h3 i e ce he hc;exact⟨h4.mono E.le,h5,h6.evo E,h7⟩
 | iter mm s seen l=>
  obtain⟨b,n,rfl,h1⟩:=H;refine⟨b,n,rfl,?_⟩;cases mm with
  | none=>exact fun e=>by rw[hw _ _ rfl];exact h1 e
  | some id=>
   obtain⟨bm,nm,es,c,h2,h3,h4⟩:=h1;obtain⟨o',m',h5,h6,⟨es',c',rfl⟩,rfl⟩:=E.obj id _ _ h3 h2;exact⟨bm,nm,es',c',h6,h5,by rw[hw _ _ rfl];exact h4⟩
 | arow sh cs=>
  obtain⟨h1,h2⟩:=H;refine⟨h1,?_⟩;cases m with
  | none=>exact h2
  | some m=>
   obtain⟨b,n⟩:=m;obtain⟨c,h3,h4,h5⟩:=h2;refine⟨c,h3.keep (hw _ _ rfl),h4,fun j x hx=>?_⟩
   obtain⟨v,h6,h7⟩:=h5 j x hx;exact⟨v,h6,h7.evo E⟩
structure WExt (w w':World):Prop where
 left:w.heap.size≤w'.heap.size
 right:∀b,b<w.heap.size→w'.heap[b]?=w.heap[b]?
 zz:zed w'=zed w
theorem WExt.refl (w:World):WExt w w:=⟨Nat.le_refl _,fun _ _=>rfl,rfl⟩
theorem WExt.trans {w w' w'':World}(a:WExt w w')(b:WExt w' w''):WExt w w'':=
 ⟨Nat.le_trans a.1 b.1,fun x hx=>(b.2 x (Nat.lt_of_lt_of_le hx a.1)).trans (a.2 x hx),b.zz.trans a.zz⟩
theorem WExt.push (w:World)(o:Go.Obj):WExt w { w with heap:=w.heap.push o }:=
 ⟨by simp,fun b hb=>by simp [Array.getElem?_push,Nat.ne_of_lt hb],rfl⟩
theorem WExt.drew (w:World)(n:Nat):WExt w { w with drawn:=n }:=⟨Nat.le_refl _,fun _ _=>rfl,rfl⟩
theorem JJ {b o:Nat}{v:Value}(hv:w.cell? ⟨b,o,none⟩=some v):b<w.heap.size:=by
 rcases Nat.lt_or_ge b w.heap.size with h|h
 ·exact h
 ·unfold World.cell? at hv
  simp [Array.getElem?_eq_none h]at hv
theorem HeapRel.ext (H:HeapRel h μ w)(hw:WExt w w'):HeapRel h μ w'∧Evo (imm h μ w) h μ (imm h μ w') h μ:=by
 have E:Evo (imm h μ w) h μ (imm h μ w') h μ:=
  ⟨SK (fun b o v h1 h2=>⟨h1,by rw[ZL (hw.2 b (JJ h2))];exact h2⟩) (fun b o h1 h2=>⟨h1,by rw[hw.2 b (rH h2)];exact h2⟩) hw.zz (fun b t h=>by rw[tN (hw.2 b (pU h))];exact h),Nat.le_refl _,fun _ o m h1 h2=>⟨o,m,h1,h2,qC.refl o m⟩⟩
 exact⟨⟨H.len,fun id o m h1 h2=>(H.obj id o m h1 h2).keep E fun b n e=>hw.2 b (H.inside id b n (e ▸ h2)),H.distinct,fun i b n hb=>Nat.lt_of_lt_of_le (H.inside i b n hb) hw.1⟩,E⟩
theorem xE {α:Type}{l:List α}{x y:α}{i:Nat}(hy:(l++[x])[i]?=some y):l[i]?=some y∨(i=l.length∧y=x):=by
 rcases Nat.lt_trichotomy i l.length with h|h|h
 ·left;rw[List.getElem?_append_left h]at hy;exact hy
 ·right;subst h;simp at hy;exact⟨rfl,hy.symm⟩
 ·rw[List.getElem?_append_right (by omega)]at hy
  have:1≤i-l.length:=by omega
  rw[List.getElem?_eq_none (by simpa using this)]at hy;cases hy
theorem fF {α:Type}{l r:List α}{y:α}{i:Nat}(hy:l[i]?=some y):(l++r)[i]?=some y:=by
 rw[List.getElem?_append_left (tA hy)];exact hy
theorem HeapRel.push (H:HeapRel h μ w)(hw:WExt w w')(o:Obj)(m:Option (Nat × Nat))(hm:∀ b n,m=some (b,n)→w.heap.size≤b∧b<w'.heap.size)
 (ho:∀M',Evo (imm h μ w) h μ M' (h++[o]) (μ++[m])→qG M' (h++[o]) (μ++[m]) w' o m) :
 HeapRel (h++[o]) (μ++[m]) w'∧Evo (imm h μ w) h μ (imm (h++[o]) (μ++[m]) w') (h++[o]) (μ++[m]):=by
 have hO:∀b x,b<w.heap.size→LE (h++[o]) (μ++[m]) b x→LE h μ b x:=by
  rintro b x hb ⟨id,n,h1,h2⟩
  rcases xE h1 with h1|⟨_,h1⟩
  ·refine⟨id,n,h1,fun sh xs fz h3=>h2 sh xs fz (fF h3)⟩
  ·have:=(hm b n h1.symm).1;omega
 have E:Evo (imm h μ w) h μ (imm (h++[o]) (μ++[m]) w') (h++[o]) (μ++[m]):=
  ⟨SK (fun b x v h1 h2=>⟨fun h3=>h1 (hO b x (JJ h2) h3),by rw[ZL (hw.2 b (JJ h2))];exact h2⟩) (fun b o h1 h2=>⟨(by
   rintro⟨i,n,h3⟩
   rcases xE h3 with h3|⟨_,h3⟩
   ·exact h1 ⟨i,n,h3⟩
   ·have:=(hm b n h3.symm).1;have:=rH h2;omega),by rw[hw.2 b (rH h2)];exact h2⟩) hw.zz (fun b t h=>by rw[tN (hw.2 b (pU h))];exact h),by simp,
   fun _ o m h1 h2=>⟨o,m,fF h1,fF h2,qC.refl o m⟩⟩
 refine⟨⟨by simp [H.len],fun id o' m' h1 h2=>?_,fun i j b n n' h1 h2=>?_,fun i b n h1=>?_⟩,E⟩
 ·rcases xE h1 with h1|⟨e,e'⟩
  ·rw[List.getElem?_append_left (by rw[H.len];exact tA h1)]at h2
   exact(H.obj id o' m' h1 h2).keep E fun b n e=>hw.2 b (H.inside id b n (e ▸ h2))
  ·subst e'
   rw[e,←H.len]at h2;simp at h2;subst h2;exact ho _ E
 ·rcases xE h1 with h1|⟨e1,e1'⟩
  ·rcases xE h2 with h2|⟨e2,e2'⟩
   ·exact H.distinct i j b n n' h1 h2
   ·have h3:=H.inside i b n h1;have:=(hm b n' e2'.symm).1;omega
  ·rcases xE h2 with h2|⟨e2,e2'⟩
   ·have h3:=H.inside j b n' h2;have:=(hm b n e1'.symm).1;omega
   ·rw[e1,e2]
 ·rcases xE h1 with h1|⟨_,h1⟩
  ·exact Nat.lt_of_lt_of_le (H.inside i b n h1) hw.1
  ·exact(hm b n h1.symm).2
theorem dE {α:Type}{l:List α}{x y:α}{i j:Nat}(hy:(l.set i x)[j]?=some y):(i≠j∧l[j]?=some y)∨(i=j∧y=x∧j<l.length):=by
 by_cases e:i=j
 ·subst e
  right;have hl:i<l.length:=by simpa using tA hy
  rw[List.getElem?_set_self hl]at hy;exact⟨rfl,by simpa using hy.symm,hl⟩
 ·left;rw[List.getElem?_set_ne e]at hy;exact⟨e,hy⟩
theorem nC {α:Type}{l:List α}{x y:α}{i:Nat}(hy:l[i]?=some y):(l.set i x)[i]?=some x:=List.getElem?_set_self (tA hy)
theorem HeapRel.set (H:HeapRel h μ w){id:Nat}{o o':Obj}{m m':Option (Nat × Nat)}(ho:h[id]?=some o)(hm:μ[id]?=some m)(hev:qC o m o' m')
 (hz:zed w'=zed w) (hsz:w.heap.size≤w'.heap.size) (hw:∀b,b<w.heap.size→(∀n,m≠some (b,n))→w'.heap[b]?=w.heap[b]?)
 (hm':∀b n,m'=some (b,n)→(∃n0,m=some (b,n0))∨(w.heap.size≤b∧b<w'.heap.size))
 (hfz:∀b n sh xs fz,m=some (b,n)→o = .row sh xs fz→∃xs' fz',o' = .row sh xs' fz'∧∀j,j<fz*gA sh→w'.cell? ⟨b,j,none⟩=w.cell? ⟨b,j,none⟩∧(∀n',m'=some (b,n')→j<fz'*gA sh))
 (hob:∀M',Evo (imm h μ w) h μ M' (h.set id o') (μ.set id m')→qG M' (h.set id o') (μ.set id m') w' o' m')
 (hety:∀b n t,m=some (b,n)→ety w b=some t→ety w' b=some t) :
 HeapRel (h.set id o') (μ.set id m') w'∧Evo (imm h μ w) h μ (imm (h.set id o') (μ.set id m') w') (h.set id o') (μ.set id m'):=by
 have E:Evo (imm h μ w) h μ (imm (h.set id o') (μ.set id m') w') (h.set id o') (μ.set id m'):=by
  refine⟨SK (fun b x v h1 h2=>?_) (fun b o1 h1 h2=>⟨(by
   rintro⟨i,n,h3⟩
   rcases dE h3 with⟨_,h3⟩|⟨_,h3,_⟩
   ·exact h1 ⟨i,n,h3⟩
   ·rcases hm' b n h3.symm with⟨n0,e⟩|⟨e,_⟩
    ·exact h1 ⟨id,n0,by rw[hm,e]⟩
    ·have:=rH h2;omega),by rw[hw b (rH h2) (fun n e=>h1 ⟨id,n,by rw[hm,e]⟩)];exact h2⟩) hz (fun b t h=>by
   by_cases hmb:∃n,m=some (b,n)
   ·obtain⟨n,hn⟩:=hmb
    exact hety b n t hn h
   ·rw[tN (hw b (pU h) (fun n e=>hmb ⟨n,e⟩))];exact h),by simp,fun i o1 m1 h1 h2=>?_⟩
  ·have hb:=JJ h2
   by_cases hmb:∃n,m=some (b,n)
   ·obtain⟨n,rfl⟩:=hmb
    have hnot:∃sh xs fz,h[id]?=some (.row sh xs fz)∧x<fz*gA sh:=by
     apply Classical.byContradiction
     intro hc;exact h1 ⟨id,n,hm,fun sh xs fz h3=>by
      rcases Nat.lt_or_ge x (fz*gA sh) with h4|h4
      ·exact absurd ⟨sh,xs,fz,h3,h4⟩ hc
      ·exact h4⟩
    obtain⟨sh,xs,fz,h3,h4⟩:=hnot;rw[ho]at h3;injection h3 with h3
    obtain⟨xs',fz',rfl,h5⟩:=hfz b n sh xs fz rfl h3;obtain⟨h6,h7⟩:=h5 x h4;refine⟨?_,by rw[h6];exact h2⟩
    rintro⟨i,n',h8,h9⟩
    rcases dE h8 with⟨hne,h8⟩|⟨rfl,h8,_⟩
    ·exact hne (H.distinct id i b n n' hm h8)
    ·have:=h9 sh xs' fz' (nC ho)
     have:=h7 n' h8.symm;omega
   ·refine⟨?_,by rw[ZL (hw b hb (fun n e=>hmb ⟨n,e⟩))];exact h2⟩
    rintro⟨i,n',h8,h9⟩
    rcases dE h8 with⟨hne,h8⟩|⟨rfl,h8,_⟩
    ·exact h1 ⟨i,n',h8,fun sh xs fz h10=>h9 sh xs fz (by rw[List.getElem?_set_ne hne];exact h10)⟩
    ·rcases hm' b n' h8.symm with⟨n0,e⟩|⟨e,_⟩
     ·exact hmb ⟨n0,e⟩
     ·omega
  ·by_cases e:id=i
   ·subst e
    rw[ho]at h1;rw[hm]at h2
    injection h1 with h1;injection h2 with h2
    subst h1;subst h2
    exact⟨o',m',nC ho,nC hm,hev⟩
   ·exact⟨o1,m1,by rw[List.getElem?_set_ne e];exact h1,by rw[List.getElem?_set_ne e];exact h2,qC.refl _ _⟩
 refine⟨⟨by simp [H.len],fun i o1 m1 h1 h2=>?_,fun i j b n n' h1 h2=>?_,fun i b n h1=>?_⟩,E⟩
 ·rcases dE h1 with⟨hne,h1⟩|⟨rfl,rfl,_⟩
  ·rw[List.getElem?_set_ne hne]at h2
   refine(H.obj i o1 m1 h1 h2).keep E fun b n e=>hw b (H.inside i b n (e ▸ h2)) fun n' e'=>?_
   subst e;subst e'
   exact hne (H.distinct id i b n' n hm h2)
  ·rw[nC hm]at h2
   injection h2 with h2
   subst h2;exact hob _ E
 ·rcases dE h1 with⟨hne,h1⟩|⟨rfl,h1,_⟩
  ·rcases dE h2 with⟨hne',h2⟩|⟨rfl,h2,_⟩
   ·exact H.distinct i j b n n' h1 h2
   ·rcases hm' b n' h2.symm with⟨n0,e⟩|⟨e,_⟩
    ·subst e;exact absurd (H.distinct id i b n0 n hm h1) hne
    ·have:=H.inside i b n h1;omega
  ·rcases dE h2 with⟨hne',h2⟩|⟨rfl,h2,_⟩
   ·rcases hm' b n h1.symm with⟨n0,e⟩|⟨e,_⟩
    ·subst e;exact absurd (H.distinct id j b n0 n' hm h2) hne'
    ·have:=H.inside j b n' h2;omega
   ·rfl
 ·rcases dE h1 with⟨hne,h1⟩|⟨rfl,h1,_⟩
  ·exact Nat.lt_of_lt_of_le (H.inside i b n h1) hsz
  ·rcases hm' b n h1.symm with⟨n0,e⟩|⟨_,e⟩
   ·subst e;exact Nat.lt_of_lt_of_le (H.inside id b n0 hm) hsz
   ·exact e
theorem HeapRel.take (H:HeapRel h μ w)(n:Nat)(ht:∀ id o,h[id]?=some o→id<n→o.top≤n) :
 HeapRel (h.take n) (μ.take n) w∧(imm h μ w).le (imm (h.take n) (μ.take n) w):=by
 have get:∀{α:Type} {l:List α} {i:Nat} {y:α},(l.take n)[i]?=some y→i<n∧l[i]?=some y:=by
  intro α l i y hy;rw[List.getElem?_take]at hy;by_cases hi:i<n
  ·rw[if_pos hi]at hy;exact⟨hi,hy⟩
  ·rw[if_neg hi]at hy;cases hy
 have put:∀{α:Type} {l:List α} {i:Nat} {y:α},l[i]?=some y→i<n→(l.take n)[i]?=some y:=by
  intro α l i y hy hi;rw[List.getElem?_take,if_pos hi,hy]
 have L:(imm h μ w).le (imm (h.take n) (μ.take n) w):=SK (fun b x v h1 h2=>⟨fun⟨id,k,h3,h4⟩=>h1 ⟨id,k,(get h3).2,fun sh xs fz h5=>h4 sh xs fz (put h5 (get h3).1)⟩,h2⟩) (fun b o h1 h2=>⟨fun⟨i,k,h3⟩=>h1 ⟨i,k,(get h3).2⟩,h2⟩) rfl (fun _ _ h=>h)
 refine⟨⟨by simp [H.len],fun id o m h1 h2=>?_,fun i j b k k' h1 h2=>H.distinct i j b k k' (get h1).2 (get h2).2,fun i b k h1=>H.inside i b k (get h1).2⟩,L⟩
 obtain⟨hi,h1⟩:=get h1;obtain⟨_,h2⟩:=get h2;have hR:=H.obj id o m h1 h2
 have htop:=ht id o h1 hi
 cases o with
 | box cs=>
  obtain⟨b,c,rfl,hb,hc⟩:=hR;refine⟨b,c,rfl,hb,fun j x hx=>?_⟩
  obtain⟨h3,v,h4,h5⟩:=hc j x hx;exact⟨h3,v,h4,h5.take L (by have:=nD hx;simp only[Obj.top]at htop;omega)⟩
 | row sh xs fz=>
  obtain⟨h3,h4,h5⟩:=hR;refine⟨h3,h4,?_⟩;cases m with
  | none=>exact h5
  | some m=>
   obtain⟨b,k⟩:=m;obtain⟨c,h6,h7,h8⟩:=h5;refine⟨c,h6,h7,fun i j x y hx hy=>?_⟩
   obtain⟨v,h9,h10⟩:=h8 i j x y hx hy;exact⟨v,h9,h10.mono L⟩
 | amap es clk=>
  obtain⟨b,k,ces,rfl,h3,h4,hb,h5⟩:=hR;refine⟨b,k,ces,rfl,h3,h4,hb,fun i e ce he hc=>?_⟩
  obtain⟨h6,h7,h8,h9⟩:=h5 i e ce he hc;refine⟨h6.mono L,h7,h8.take L ?_,h9⟩;have:(es.map ME.val)[i]?=some e.val:=by simp [he]
  have:=nD this;simp only[Obj.top]at htop;omega
 | iter mm s seen l=>
  obtain⟨b,k,rfl,h3⟩:=hR;refine⟨b,k,rfl,?_⟩;cases mm with
  | none=>exact h3
  | some i=>
   obtain⟨bm,nm,es,c,h4,h5,h6⟩:=h3;simp only[Obj.top]at htop;exact⟨bm,nm,es,c,put h4 (by omega),put h5 (by omega),h6⟩
 | arow sh cs=>
  obtain⟨h3,h4⟩:=hR;refine⟨h3,?_⟩;cases m with
  | none=>exact h4
  | some m=>
   obtain⟨b,k⟩:=m;obtain⟨c,h6,h7,h8⟩:=h4;refine⟨c,h6,h7,fun j x hx=>?_⟩
   obtain⟨v,h9,h10⟩:=h8 j x hx;exact⟨v,h9,h10.take L (by have:=nD hx;simp only[Obj.top]at htop;omega)⟩
end Go.Am
end
section
/- The abstract machine,part 6: what the model's small steps on memory do (runs),and the book of newer references. -/
set_option linter.unusedSimpArgs false
set_option linter.unusedVariables false
namespace Go.Am
variable {h h':aA} {μ μ':Mu} {w w':World} {P:Program}
def DD (h:aA)(id:Nat):Nat:=match h[id]? with
 | some o=>o.top
 | none=>0
def RB:Esc→Nat→Nat
 | [],_=>0
 | y::r,id=>max (if y.1=id then y.2 else 0) (RB r id)
theorem zcl (x y:Esc)(id:Nat):RB (x++y) id=max (RB x id) (RB y id):=by
 induction x with
 | nil=>simp [RB]
 | cons a r ih=>simp only[List.cons_append,RB,ih];omega
def mA (h0 h:aA)(x:Esc):Prop:=∀(id:Nat) (o:Obj),h[id]?=some o→o.top≤max (max (DD h0 id) id) (RB x id)
theorem mA.refl (h:aA)(x:Esc):mA h h x:=by
 intro id o ho;simp only[DD,ho];omega
theorem mA.trans {h0 h1 h2:aA}{x1 x2:Esc}(a:mA h0 h1 x1)(b:mA h1 h2 x2):mA h0 h2 (x2++x1):=by
 intro id o ho;have h1':=b id o ho
 rw[zcl];simp only[DD]at h1' ⊢;cases hh:h1[id]? with
 | none=>rw[hh]at h1';simp at h1';omega
 | some o1=>
  rw[hh]at h1';have h2':=a id o1 hh
  simp only[DD]at h2';dsimp only at h1';omega
theorem mA.push {h:aA}{o:Obj}(ht:o.top≤h.length):mA h (h++[o]) []:=by
 intro id o' ho;rcases xE ho with ho|⟨e,e'⟩
 ·simp only[DD,ho];omega
 ·subst e';omega
theorem mA.set {h:aA}{id:Nat}{o o':Obj}{x:Esc}(ho:h[id]?=some o)(ht:o'.top≤max (max o.top id) (RB x id)):mA h (h.set id o') x:=by
 intro i o1 h1;rcases dE h1 with⟨_,h1⟩|⟨rfl,rfl,_⟩
 ·simp only[DD,h1];omega
 ·simp only[DD,ho];omega
theorem ZJ (id:Nat)(v:AV):v.top≤max id (RB (GB id v) id):=by
 unfold GB;split
 ·simp [RB];omega
 ·simp [RB];omega
theorem OZ {x:Esc}{n id:Nat}(hi:id<n):RB (x.filter fun y=>decide (y.1<n)) id=RB x id:=by
 induction x with
 | nil=>rfl
 | cons a r ih=>
  by_cases ha:a.1<n
  ·simp [List.filter_cons,ha,RB,ih]
  ·have:a.1≠id:=by omega
   simp [List.filter_cons,ha,RB,ih,this]
theorem NZ {x:Esc}{n id:Nat}(hc:BB x n=true)(hi:id<n):RB x id≤n:=by
 induction x with
 | nil=>simp [RB]
 | cons a r ih=>
  simp only[BB,List.all_cons,Bool.and_eq_true,Bool.or_eq_true,decide_eq_true_eq]at hc;have:=ih (by simpa [BB] using hc.2)
  simp only[RB];split
  ·have:=hc.1;omega
  ·omega
theorem xL (a b:List AV):AV.tops (a++b)=max (AV.tops a) (AV.tops b):=by
 induction a with
 | nil=>simp [AV.tops]
 | cons v r ih=>simp only[List.cons_append,AV.tops,ih];omega
theorem zjW (a:List AV)(n:Nat):AV.tops (a.take n)≤AV.tops a:=by
 have:=xL (a.take n) (a.drop n);rw[List.take_append_drop]at this;omega
theorem zjT (a:List AV)(n:Nat):AV.tops (a.drop n)≤AV.tops a:=by
 have:=xL (a.take n) (a.drop n);rw[List.take_append_drop]at this;omega
theorem z4a (cs vs:List AV)(off:Nat):AV.tops (splice cs off vs)≤max (AV.tops cs) (AV.tops vs):=by
 unfold splice;rw[xL,xL];have:=zjW cs off;have:=zjT cs (off+vs.length);omega
theorem z3X (vs:List PV):AV.tops (vs.map AV.p)=0:=by
 induction vs with
 | nil=>rfl
 | cons v r ih=>simp [AV.tops,AV.top,ih]
theorem IY {v:AV}{cs:List AV}(hc:v.cells=some cs):AV.tops cs=v.top:=by
 cases v with
 | p x=>
  cases x with
  | agg l=>simp only[AV.cells]at hc;split at hc <;> simp at hc;subst hc;rw[z3X];simp [AV.top]
  | _=>simp [AV.cells]at hc;subst hc;simp [AV.tops,AV.top]
 | agg l=>simp only[AV.cells]at hc;split at hc <;> simp at hc;subst hc;simp [AV.top]
 | tup l=>simp [AV.cells]at hc
 | anyb=>simp [AV.cells]at hc
 | skp=>simp [AV.cells]at hc
 | und=>simp [AV.cells]at hc
 | _=>simp [AV.cells]at hc;subst hc;simp [AV.tops]
def PA (P:Program)(t:TypeId):Option Sh:=match P.underlying t,P.info? t with
 | some (.struct _),some i=>some (some i.size)
 | some (.array _ _),some i=>some (some i.size)
 | some _,some i=>if i.size=1 then some none else none
 | _,_=>none
theorem eG {t:TypeId}{i:TypeInfo}(hi:P.info? t=some i):(typeInfo t).run P w = .ok i w:=by
 unfold typeInfo;simp [hi]
theorem AA {t:TypeId}{d:TypeDesc}(hd:P.underlying t=some d):(underlying t).run P w = .ok d w:=by
 unfold underlying;simp [hd]
theorem JC {t:TypeId}{sh:Sh}(hs:PA P t=some sh):(sizeOf t).run P w = .ok (gA sh) w:=by
 unfold sizeOf;unfold PA at hs;cases hi:P.info? t with
 | none=>simp [hi]at hs
 | some i=>
  simp only[hi]at hs;rw[Sem.run_bind,eG hi];split at hs <;> simp_all [gA]
  ·subst hs;rfl
  ·subst hs;rfl
  ·obtain⟨h1,h2⟩:=hs;subst h2;simp
theorem z3g {t:TypeId}{sh:Sh}(hs:PA P t=some sh):(isAgg t).run P w = .ok sh.isSome w:=by
 unfold isAgg;unfold PA at hs;cases hd:P.underlying t with
 | none=>simp [hd]at hs
 | some d=>
  rw[Sem.run_bind,AA hd];cases hi:P.info? t with
  | none=>simp [hd,hi]at hs
  | some i=>cases d <;> simp_all <;> (first|(obtain⟨h1,h2⟩:=hs;subst h2;rfl)|(subst hs;rfl))
theorem bC (b o k:Nat):(⟨b,o,none⟩:Addr).add k=⟨b,o+k,none⟩:=by
 unfold Addr.add;split
 ·subst_vars;rfl
 ·rfl
theorem z3k {b o:Nat}{v:Value}(hv:w.cell? ⟨b,o,none⟩=some v):(load ⟨b,o,none⟩).run P w = .ok v w:=by
 rw[run_load];simp [hv]
theorem z3i {b o:Nat}{f:Nat→Value}:∀(n i:Nat) (acc:Array Value),(∀j,j<n→w.cell? ⟨b,o+(i+j),none⟩=some (f (i+j))) →
 (loadCellsFrom ⟨b,o,none⟩ i n acc).run P w = .ok (acc++((List.range' i n).map f).toArray) w
 | 0,i,acc,_=>by simp [loadCellsFrom]
 | n+1,i,acc,hf=>by
  unfold loadCellsFrom;rw[Sem.run_bind,bC,z3k (v:=f i) (by simpa using hf 0 (by omega))]
  simp only[Result.andThen_ok];rw[z3i n (i+1) _ (fun j hj=>by have:=hf (j+1) (by omega);rw[show i+1+j=i+(j+1) by omega];exact this)]
  congr 1
  simp [List.range'_succ]
theorem z3h {b o n:Nat}{f:Nat→Value}(hf:∀ j,j<n→w.cell? ⟨b,o+j,none⟩=some (f j)) :
 (loadCells ⟨b,o,none⟩ n).run P w = .ok ((List.range n).map f).toArray w:=by
 unfold loadCells;rw[z3i n 0 _ (fun j hj=>by rw[Nat.zero_add];exact hf j hj)]
 simp [List.range_eq_range']
def oC (sh:Sh)(f:Nat→Value):Value:=match sh with
 | none=>f 0
 | some n=>.agg ((List.range n).map f).toArray
theorem z3j {t:TypeId}{sh:Sh}(hs:PA P t=some sh){b o:Nat}{f:Nat→Value}(hf:∀ j,j<gA sh→w.cell? ⟨b,o+j,none⟩=some (f j)) :
 (loadVar t ⟨b,o,none⟩).run P w = .ok (oC sh f) w:=by
 unfold loadVar;rw[Sem.run_bind,z3g hs];simp only[Result.andThen_ok];cases sh with
 | none=>
  simp only[Option.isSome,Bool.false_eq_true,if_false];exact z3k (hf 0 (by simp [gA]))
 | some n=>
  simp only[Option.isSome,if_true];rw[Sem.run_bind,JC hs];simp only[Result.andThen_ok,Sem.run_bind,gA];rw[z3h (f:=f) (fun j hj=>hf j (by simpa [gA] using hj))]
  rfl
def XA (w:World)(b:Nat)(o:Go.Obj):World:={ w with heap:=w.heap.setIfInBounds b o }
theorem lE {b:Nat}{o o':Go.Obj}(hb:w.heap[b]?=some o):(XA w b o').heap[b]?=some o':=by
 have:b<w.heap.size:=by
  rcases Nat.lt_or_ge b w.heap.size with h|h
  ·exact h
  ·rw[Array.getElem?_eq_none h]at hb;cases hb
 simp [XA,this]
theorem nJ {b b':Nat}{o':Go.Obj}(hb:b'≠b):(XA w b o').heap[b']?=w.heap[b']?:=by
 simp [XA,Array.getElem?_setIfInBounds,Ne.symm hb]
theorem oJ (b:Nat)(o':Go.Obj):(XA w b o').heap.size=w.heap.size:=by simp [XA]
theorem zjj (b:Nat)(x y:Go.Obj):XA (XA w b x) b y=XA w b y:=by
 simp only[XA];congr 1
 apply Array.ext'
 simp
theorem ZW {b:Nat}{o:Go.Obj}(hb:w.heap[b]?=some o):XA w b o=w:=by
 have hlt:b<w.heap.size:=by
  rcases Nat.lt_or_ge b w.heap.size with h|h
  ·exact h
  ·rw[Array.getElem?_eq_none h]at hb;cases hb
 have:w.heap.setIfInBounds b o=w.heap:=by
  apply Array.ext_getElem?
  intro i;by_cases hi:b=i
  ·subst hi;rw[hb,Array.getElem?_setIfInBounds_self_of_lt hlt]
  ·rw[Array.getElem?_setIfInBounds_ne hi]
 simp [XA,this]
theorem zjk {b o:Nat}{v:Value}{c:Array Value}{E:TypeId}{fr:Nat × Nat}(hb:w.heap[b]?=some (.cells c E fr)) :
 w.setCell ⟨b,o,none⟩ v=XA w b (.cells (c.setIfInBounds o v) E fr):=by
 have hlt:b<w.heap.size:=by
  rcases Nat.lt_or_ge b w.heap.size with h|h
  ·exact h
  ·rw[Array.getElem?_eq_none h]at hb;cases hb
 have hb':w.heap[b] = .cells c E fr:=by
  rw[Array.getElem?_eq_getElem hlt]at hb;injection hb
 simp only[World.setCell,XA];congr 1
 apply Array.ext_getElem?
 intro i;by_cases hi:b=i
 ·subst hi
  rw[Array.getElem?_setIfInBounds_self_of_lt hlt,Array.getElem?_modify];simp only[hlt,if_true,Option.map_some,Array.getElem?_eq_getElem,Option.some.injEq];rw[hb'];simp
 ·rw[Array.getElem?_setIfInBounds_ne hi,Array.getElem?_modify]
  simp [hi]
theorem zcG {b o n:Nat}{c:Array Value}(hb:QA w b n c)(ho:o<n):w.frozen? ⟨b,o,none⟩=false:=by
 obtain⟨_,E,lo,hi,he,hf⟩:=hb;unfold World.frozen?;simp only[he];simp;intro h1;rcases Nat.lt_or_ge lo hi with h2|h2
 ·have:=hf (fun h=>h) h2;omega
 ·omega
theorem uN {b n:Nat}{c c0:Array Value}{E:TypeId}{f f0:Nat × Nat}(g1:w.heap[b]?=some (.cells c0 E f0))(b' n':Nat)(t:TypeId)(e:some (b,n)=some (b',n'))(ht:ety w b'=some t) :
 ety (XA w b (.cells c E f)) b'=some t:=by
 injection e with e
 injection e with e1 e2
 subst e1;rw[PZ g1]at ht;rw[PZ (lE g1)];exact ht
def zB (c:Array Value)(o:Nat):List Value→Array Value
 | []=>c
 | v::r=>zB (c.setIfInBounds o v) (o+1) r
theorem kF (c:Array Value)(o:Nat)(vs:List Value):(zB c o vs).size=c.size:=by
 induction vs generalizing c o with
 | nil=>rfl
 | cons v r ih=>simp [zB,ih]
theorem jH (c:Array Value)(o:Nat)(vs:List Value)(j:Nat)(hl:o+vs.length≤c.size) :
 (zB c o vs)[j]?=if o≤j∧j<o+vs.length then vs[j-o]? else c[j]?:=by
 induction vs generalizing c o with
 | nil=>simp [zB];intro h1 h2;omega
 | cons v r ih=>
  simp only[zB,List.length_cons]at hl ⊢;rw[ih _ _ (by simp;omega)]
  by_cases h1:o+1≤j∧j<o+1+r.length
  ·rw[if_pos h1,if_pos (by omega)]
   rw[show j-o=(j-(o+1))+1 by omega]
   simp
  ·rw[if_neg h1]
   by_cases h2:o=j
   ·subst h2
    rw[if_pos (by omega),Array.getElem?_setIfInBounds_self_of_lt (by omega)]
    simp
   ·rw[if_neg (by omega)]
    simp [Array.getElem?_setIfInBounds,h2]
theorem z3n {b o n:Nat}(vs:List Value):∀(w:World) (c:Array Value) (i:Nat),QA w b n c→o+i+vs.length≤n→(∀v∈vs,v.oneCell'=true) →
 ∃E lo hi,w.heap[b]?=some (.cells c E (lo,hi))∧(storeCells ⟨b,o,none⟩ vs i).run P w = .ok () (XA w b (.cells (zB c (o+i) vs) E (lo,hi))):=by
 induction vs with
 | nil=>
  intro w c i hb hl hv;obtain⟨h1,E,lo,hi,he,hf⟩:=hb;refine⟨E,lo,hi,he,?_⟩;simp only[storeCells,zB,ZW he];rfl
 | cons v r ih=>
  intro w c i hb hl hv;have hb0:=hb
  obtain⟨h1,E,lo,hi,he,hf⟩:=hb;simp only[List.length_cons]at hl;have hcell:∃u,w.cell? ⟨b,o+i,none⟩=some u:=by
   rw[PC hb0];exact⟨c[o+i]'(by omega),Array.getElem?_eq_getElem _⟩
  obtain⟨u,hu⟩:=hcell;refine⟨E,lo,hi,he,?_⟩;unfold storeCells;rw[Sem.run_bind,bC,run_store P w _ _ _ (hv v (by simp)),hu]
  simp only[zcG hb0 (show o+i<n by omega),Bool.false_eq_true,if_false,Result.andThen_ok]
  rw[zjk he];have hb1:QA (XA w b (.cells (c.setIfInBounds (o+i) v) E (lo,hi))) b n (c.setIfInBounds (o+i) v):=
   ⟨by simp [h1],E,lo,hi,lE he,hf⟩
  obtain⟨E',lo',hi',he',hrun⟩:=ih _ _ (i+1) hb1 (by omega) (fun x hx=>hv x (by simp [hx]))
  rw[lE he]at he';injection he' with he'
  injection he' with e1 e2 e3
  injection e3 with e3 e4
  subst e2;subst e3;subst e4
  rw[hrun,zjj];simp [zB,Nat.add_assoc]
end Go.Am
end
section
/- The abstract machine,part 7: each operation does in the model what it does here (first lot: operations that leave the world alone). -/
set_option linter.unusedSimpArgs false
set_option linter.unusedVariables false
namespace Go.Am
variable {h h':aA} {μ μ':Mu} {w w':World} {P:Program} {M:Mem}
def iM:PV→Value→Bool
 | .int k n,.int k' n'=>k==k'&&n==n'
 | .bool b,.bool b'=>b==b'
 | .str s,.string s'=>s==s'.data.toList
 | .nilp,.pointer none=>true
 | .sl _ [],.slice _ 0 _=>true
 | _,_=>false
def xH:List PV→List Value→Bool
 | [],[]=>true
 | a::r,b::s=>iM a b&&xH r s
 | _,_=>false
def xF:AV→Value→Bool
 | .p (.agg cs),.agg vs=>xH cs vs.toList
 | .p v,x=>iM v x
 | .nilp,.pointer none=>true
 | .sl0 _,.slice _ 0 0=>true
 | .nilm,.map none=>true
 | .nilf,.nilFunc=>true
 | .nili,.nilIface=>true
 | _,_=>false
def xA:Opd→Operand→Bool
 | .t n,.tmp m=>n==m
 | .c a,.const v=>xF a v
 | .f i,.func j=>i==j
 | .g i,.global j=>i==j
 | _,_=>false
theorem eZ {v:PV}{x:Value}(hc:iM v x=true):RPV M v x:=by
 unfold iM at hc;split at hc <;> simp at hc
 ·obtain⟨rfl,rfl⟩:=hc;exact .int _ _
 ·subst hc;exact .bool _
 ·subst hc;rename_i s';exact .str s'.data.toList
 ·exact .nilp
 ·exact .nils _ _ _
theorem dZ:∀ {cs:List PV} {vs:List Value},xH cs vs=true→cs.length=vs.length∧∀ (j:Nat) (y:PV) (v:Value),cs[j]?=some y→vs[j]?=some v→RPV M y v
 | [],[],_=>⟨rfl,fun j y v h=>by simp at h⟩
 | [],_::_,h=>by simp [xH]at h
 | _::_,[],h=>by simp [xH]at h
 | a::r,b::s,h=>by
  simp only[xH,Bool.and_eq_true]at h;have hs:=dZ h.2
  refine⟨by simp [hs.1],fun j y v hy hv=>?_⟩
  cases j with
  | zero=>simp at hy hv;subst hy;subst hv;exact eZ h.1
  | succ j=>exact hs.2 j y v (by simpa using hy) (by simpa using hv)
theorem AG {a:AV}{x:Value}(hc:xF a x=true):RAV M h μ a x:=by
 unfold xF at hc;split at hc
 ·rename_i cs vs
  have hs:=dZ (M:=M) hc
  have:=RPV.agg (M:=M) cs vs.toList hs.1 hs.2;exact .p _ _ (by simpa using this)
 ·exact .p _ _ (eZ hc)
 ·exact .nilp
 ·exact .sl0 _ _
 ·exact .nilm
 ·exact .nilf
 ·exact .nili
 ·cases hc
def LC (M:Mem)(h:aA)(μ:Mu)(ev:Opd→AV)(ρ:Operand→Value):Prop:=∀x y,xA x y=true→RAV M h μ (ev x) (ρ y)
def kA (P:Program)(s:Sem Next)(h:aA)(μ:Mu)(w:World)(v:AV)(h':aA)(x:Esc):Prop:=
 ∃nx w' μ',s.run P w = .ok nx w'∧((∃u,nx = .value u∧RAV (imm h' μ' w') h' μ' v u)∨(nx = .skip∧v = .und))∧HeapRel h' μ' w' ∧
  Evo (imm h μ w) h μ (imm h' μ' w') h' μ'∧mA h h' x
theorem kA.pure {s:Sem Next}{v:AV}{u:Value}(H:HeapRel h μ w)(hr:s.run P w = .ok (.value u) w)(hu:RAV (imm h μ w) h μ v u):kA P s h μ w v h []:=
 ⟨_,w,μ,hr,.inl ⟨u,rfl,hu⟩,H,Evo.refl _ _ _,mA.refl _ _⟩
theorem kA.ext {s:Sem Next}{v:AV}{u:Value}{w':World}(H:HeapRel h μ w)(hw:WExt w w')(hr:s.run P w = .ok (.value u) w')(hu:RAV (imm h μ w') h μ v u):kA P s h μ w v h []:=
 ⟨_,w',μ,hr,.inl ⟨u,rfl,hu⟩,(H.ext hw).1,(H.ext hw).2,mA.refl _ _⟩
theorem sA {s:Sem Value}{u:Value}(hs:s.run P w = .ok u w'):((do pure (.value (←s)):Sem Next)).run P w = .ok (.value u) w':=by
 simp [hs]
theorem ZP {s:Sem Unit}(hs:s.run P w = .ok () w'):((do s;pure .skip:Sem Next)).run P w = .ok .skip w':=by
 simp [hs]
theorem RAV.p_int {k:IntKind}{n:Int}{x:Value}(H:RAV M h μ (.p (.int k n)) x):x = .int k n:=by
 cases H with|p _ _ hv=>cases hv;rfl
theorem RAV.p_bool {b:Bool}{x:Value}(H:RAV M h μ (.p (.bool b)) x):x = .bool b:=by
 cases H with|p _ _ hv=>cases hv;rfl
theorem RAV.p_str {s:List UInt8}{x:Value}(H:RAV M h μ (.p (.str s)) x):x = .string ⟨s.toArray⟩:=by
 cases H with|p _ _ hv=>cases hv;rfl
theorem RAV.p_inv {v:PV}{x:Value}(H:RAV M h μ (.p v) x):RPV M v x:=by
 cases H with|p _ _ hv=>exact hv
theorem QD {a:AV}{k:Nat}{x:Value}(hk:WA a=some k)(H:RAV M h μ a x):∃kk,x = .int kk (k:Int):=by
 unfold WA at hk;split at hk
 ·split at hk
  ·simp at hk
   rename_i kk n hn;rw[H.p_int];exact⟨kk,by rw[←hk];simp;omega⟩
  ·cases hk
 ·cases hk
theorem RAV.pint (n:Nat):RAV M h μ (pint n) (goInt n):=.p _ _ (.int _ _)
theorem RAV.pbool (b:Bool):RAV M h μ (pbool b) (.bool b):=.p _ _ (.bool b)
theorem vJ:∀ {cs:List AV} {vs:List PV},unp cs=some vs→cs=vs.map AV.p
 | [],vs,h=>by simp [unp]at h;subst h;rfl
 | a::r,vs,h=>by
  cases a <;> simp [unp]at h
  obtain⟨l,h1,rfl⟩:=h;simp [vJ h1]
theorem TU {cs:List AV}{vs:List Value}(hl:cs.length=vs.length)(hr:∀ (j:Nat) (y:AV) (v:Value),cs[j]?=some y→vs[j]?=some v→RAV M h μ y v) :
 RAV M h μ (mkA cs) (.agg vs.toArray):=by
 unfold mkA;split
 ·rename_i ps hp
  have:=vJ hp;subst this;refine .p _ _ (.agg ps vs (by simpa using hl) (fun j y v h1 h2=>?_))
  exact(hr j (.p y) v (by simp [h1]) h2).p_inv
 ·exact .agg cs vs hl hr
theorem tH {v:AV}{x:Value}{cs:List AV}(H:RAV M h μ v x)(hc:v.cells=some cs) :
 x.cells.size=cs.length∧(∀(j:Nat) (y:AV),cs[j]?=some y→y.sc=true∧∃u,x.cells[j]?=some u∧RAV M h μ y u):=by
 have one:∀{v:AV} {x:Value},RAV M h μ v x→v.sc=true→x.cells = #[x]→x.cells.size=[v].length∧(∀(j:Nat) (y:AV),[v][j]?=some y→y.sc=true∧∃u,x.cells[j]?=some u∧RAV M h μ y u):=by
  intro v x H hs hx;refine⟨by simp [hx],fun j y hy=>?_⟩
  cases j with
  | zero=>simp at hy;subst hy;exact⟨hs,x,by simp [hx],H⟩
  | succ j=>simp at hy
 cases v with
 | p pv=>
  cases pv with
  | agg l=>
   simp only[AV.cells]at hc;split at hc
   ·rename_i hall
    simp at hc;subst hc;cases H with|p _ _ hv=>cases hv with|agg _ vs hl hr=>
    refine⟨by simp [Value.cells,hl],fun j y hy=>?_⟩
    simp only[List.getElem?_map,Option.map_eq_some_iff]at hy;obtain⟨z,hz,rfl⟩:=hy;have hj:j<vs.length:=by rw[←hl];exact tA hz
    rw[List.all_eq_true]at hall;refine⟨by simp [AV.sc];exact hall z (List.mem_of_getElem? hz),vs[j],by simp [Value.cells,hj],.p _ _ (hr j z _ hz (List.getElem?_eq_getElem hj))⟩
   ·cases hc
  | int k n=>simp [AV.cells]at hc;subst hc;exact one H rfl (by rw[H.p_int];rfl)
  | bool b=>simp [AV.cells]at hc;subst hc;exact one H rfl (by rw[H.p_bool];rfl)
  | str s=>simp [AV.cells]at hc;subst hc;exact one H rfl (by rw[H.p_str];rfl)
  | nilp=>simp [AV.cells]at hc;subst hc;exact one H rfl (by cases H.p_inv;rfl)
  | unk=>simp [AV.cells]at hc;subst hc;exact one H rfl (by cases H.p_inv;rfl)
  | sl sh xs=>simp [AV.cells]at hc;subst hc;exact one H rfl (by cases H.p_inv <;> rfl)
 | agg l=>
  simp only[AV.cells]at hc;split at hc
  ·rename_i hall
   simp at hc;subst hc;cases H with|agg _ vs hl hr=>
   refine⟨by simp [Value.cells,hl],fun j y hy=>?_⟩
   have hj:j<vs.length:=by rw[←hl];exact tA hy
   rw[List.all_eq_true]at hall;exact⟨hall y (List.mem_of_getElem? hy),vs[j],by simp [Value.cells,hj],hr j y _ hy (List.getElem?_eq_getElem hj)⟩
  ·cases hc
 | tup l=>simp [AV.cells]at hc
 | anyb=>simp [AV.cells]at hc
 | skp=>simp [AV.cells]at hc
 | und=>simp [AV.cells]at hc
 | own a b c d=>simp [AV.cells]at hc;subst hc;exact one H rfl (by cases H;rfl)
 | sl0 sh=>simp [AV.cells]at hc;subst hc;exact one H rfl (by cases H;rfl)
 | ref a b=>simp [AV.cells]at hc;subst hc;exact one H rfl (by cases H;rfl)
 | rref a b c d=>simp [AV.cells]at hc;subst hc;exact one H rfl (by cases H;rfl)
 | vp v=>simp [AV.cells]at hc;subst hc;exact one H rfl (by cases H;rfl)
 | nilp=>simp [AV.cells]at hc;subst hc;exact one H rfl (by cases H;rfl)
 | nilm=>simp [AV.cells]at hc;subst hc;exact one H rfl (by cases H;rfl)
 | nilf=>simp [AV.cells]at hc;subst hc;exact one H rfl (by cases H;rfl)
 | nili=>simp [AV.cells]at hc;subst hc;exact one H rfl (by cases H;rfl)
 | ifc=>simp [AV.cells]at hc;subst hc;exact one H rfl (by cases H;rfl)
 | mp a=>simp [AV.cells]at hc;subst hc;exact one H rfl (by cases H;rfl)
 | it a=>simp [AV.cells]at hc;subst hc;exact one H rfl (by cases H;rfl)
 | fn a b=>simp [AV.cells]at hc;subst hc;exact one H rfl (by cases H;rfl)
 | anyp=>simp [AV.cells]at hc;subst hc;exact one H rfl (by cases H;rfl)
 | bt k t id g=>simp [AV.cells]at hc;subst hc;exact one H rfl (by cases H <;> rfl)
theorem dQ {v:AV}{x:Value}(H:RAV M h μ v x)(hs:v.sc=true):x.oneCell'=true:=by
 cases H with
 | p pv _ hv=>cases hv <;> first|rfl|(simp [AV.sc,PV.sc]at hs)
 | agg=>simp [AV.sc]at hs
 | tup=>simp [AV.sc]at hs
 | anyb=>simp [AV.sc]at hs
 | skp=>simp [AV.sc]at hs
 | und=>simp [AV.sc]at hs
 | _=>rfl
theorem JD {α:Type}[BEq α][LawfulBEq α][DecidableEq α](a b:α):(a==b)=decide (a=b):=by
 by_cases h:a=b <;> simp [h]
theorem z68 {op:BinOp}{k:IntKind}{a b:Int}{r:PV}{t:TypeId}(h1:op ≠ .shl)(h2:op ≠ .shr)(hr:cC op k a b=some r) :
 ∃u,(binOp op t (.int k a) (.int k b)).run P w = .ok u w∧RPV M r u:=by
 cases op <;> simp only[cC]at hr
 case shl=>exact absurd rfl h1
 case shr=>exact absurd rfl h2
 case quo=>split at hr <;> simp at hr;subst hr;exact⟨_,by simp [binOp,Op.intDiv, *],.int _ _⟩
 case rem=>split at hr <;> simp at hr;subst hr;exact⟨_,by simp [binOp,Op.intDiv, *],.int _ _⟩
 case add=>injection hr with hr;subst hr;exact⟨_,by simp [binOp,Op.intArith],.int _ _⟩
 case sub=>injection hr with hr;subst hr;exact⟨_,by simp [binOp,Op.intArith],.int _ _⟩
 case mul=>injection hr with hr;subst hr;exact⟨_,by simp [binOp,Op.intArith],.int _ _⟩
 case and=>injection hr with hr;subst hr;refine⟨_,?_,.int _ _⟩;simp [binOp,Op.intBits,XC,ior,WG,UG]
 case or=>injection hr with hr;subst hr;refine⟨_,?_,.int _ _⟩;simp [binOp,Op.intBits,XC,ior,WG,UG]
 case xor=>injection hr with hr;subst hr;refine⟨_,?_,.int _ _⟩;simp [binOp,Op.intBits,XC,ior,WG,UG]
 case andNot=>injection hr with hr;subst hr;refine⟨_,?_,.int _ _⟩;simp [binOp,Op.intBits,XC,ior,WG,UG]
 case eql=>injection hr with hr;subst hr;refine⟨_,?_,.bool _⟩;simp [binOp,Op.intCmp,JD]
 case neq=>injection hr with hr;subst hr;refine⟨_,?_,.bool _⟩;simp [binOp,Op.intCmp,JD,bne]
 case lss=>injection hr with hr;subst hr;refine⟨_,?_,.bool _⟩;simp [binOp,Op.intCmp]
 case leq=>injection hr with hr;subst hr;refine⟨_,?_,.bool _⟩;simp [binOp,Op.intCmp]
 case gtr=>injection hr with hr;subst hr;refine⟨_,?_,.bool _⟩;simp [binOp,Op.intCmp]
 case geq=>injection hr with hr;subst hr;refine⟨_,?_,.bool _⟩;simp [binOp,Op.intCmp]
theorem z6L {op:BinOp}{a b:List UInt8}{r:PV}{t:TypeId}(hr:qH op a b=some r) :
 ∃u,(binOp op t (.string ⟨a.toArray⟩) (.string ⟨b.toArray⟩)).run P w = .ok u w∧RPV M r u:=by
 cases op <;> simp only[qH]at hr
 case add=>
  split at hr
  ·rename_i hl
   injection hr with hr
   subst hr;refine⟨.string ⟨(a++b).toArray⟩,?_,.str _⟩;simp only[binOp,Op.stringOp];rw[if_neg]
   ·have:(⟨a.toArray⟩:ByteArray)++⟨b.toArray⟩=⟨(a++b).toArray⟩:=by
     apply ByteArray.ext
     simp [ByteArray.data_append]
    rw[this];rfl
   ·simp only[zD]at hl
    simp [ByteArray.size,IntKind.max,IntKind.signed,IntKind.bits];omega
  ·cases hr
 case eql=>injection hr with hr;subst hr;refine⟨_,?_,.bool _⟩;simp [binOp,Op.stringOp,Go.ByteArray.toList_mk,JD]
 case neq=>injection hr with hr;subst hr;refine⟨_,?_,.bool _⟩;simp [binOp,Op.stringOp,Go.ByteArray.toList_mk,JD]
 case lss=>injection hr with hr;subst hr;refine⟨_,?_,.bool _⟩;simp [binOp,Op.stringOp,Go.ByteArray.toList_mk]
 case leq=>injection hr with hr;subst hr;refine⟨_,?_,.bool _⟩;simp [binOp,Op.stringOp,Go.ByteArray.toList_mk,JD]
 case gtr=>injection hr with hr;subst hr;refine⟨_,?_,.bool _⟩;simp [binOp,Op.stringOp,Go.ByteArray.toList_mk,JD]
 case geq=>injection hr with hr;subst hr;refine⟨_,?_,.bool _⟩;simp [binOp,Op.stringOp,Go.ByteArray.toList_mk]
 all_goals cases hr
theorem z62 {op:BinOp}{a b r:PV}{x y:Value}{t:TypeId}(ha:RPV M a x)(hb:RPV M b y)(hr:iB op a b=some r) :
 ∃u,(binOp op t x y).run P w = .ok u w∧RPV M r u:=by
 cases a with
 | int k n=>
  cases ha;cases b with
  | int k' n'=>
   cases hb;by_cases h1:op = .shl
   ·subst h1
    simp only[iB]at hr;split at hr <;> simp at hr
    subst hr;refine⟨_,?_,.int _ _⟩;simp [binOp,Op.shift,NF,yD, *]
   ·by_cases h2:op = .shr
    ·subst h2
     simp only[iB]at hr;split at hr <;> simp at hr
     subst hr;refine⟨_,?_,.int _ _⟩;simp [binOp,Op.shift,NF,yD, *]
    ·have:iB op (.int k n) (.int k' n')=if k=k' then cC op k n n' else none:=by
      cases op <;> first|rfl|exact absurd rfl h1|exact absurd rfl h2
     rw[this]at hr;split at hr
     ·rename_i hk;subst hk;exact z68 h1 h2 hr
     ·cases hr
  | _=>simp [iB]at hr
 | str s=>
  cases ha;cases b with
  | str s'=>cases hb;exact z6L hr
  | _=>simp [iB]at hr
 | _=>simp [iB]at hr
theorem KZ {op:BinOp}{t:TypeId}{x y:Operand}{a b:Value}(h1:∀ vs,a ≠ .agg vs)(h2:a ≠ .nilIface∨b ≠ .nilIface):(eqGuard op t x y a b).run P w = .ok () w:=by
 unfold eqGuard;cases op;case eql=>cases a <;> first|exact absurd rfl (h1 _)|(cases b <;> first|rfl|(simp at h2;done))|rfl
 case neq=>cases a <;> first|exact absurd rfl (h1 _)|(cases b <;> first|rfl|(simp at h2;done))|rfl
 all_goals rfl
theorem z61 {op:BinOp}{a b r:PV}{x:Value}(ha:RPV M a x)(hr:iB op a b=some r):(∀vs,x ≠ .agg vs)∧x ≠ .nilIface:=by
 cases ha;case agg=>cases b <;> simp [iB]at hr
 all_goals exact⟨by simp,by simp⟩
theorem z6M {op:UnOp}{a r:PV}{x:Value}(ha:RPV M a x)(hr:aun op a=some r):∃u,(Op.unary op x).run P w = .ok u w∧RPV M r u:=by
 cases ha <;> cases op <;> simp [aun]at hr
 all_goals subst hr
 ·refine⟨_,?_,.int _ _⟩;simp [Op.unary,Op.intArith]
 ·refine⟨_,?_,.int _ _⟩;simp [Op.unary,Op.intBits]
 ·refine⟨_,?_,.bool _⟩;simp [Op.unary]
theorem jY:∀ {l:List PV} {a r:PV} {x:Value} {vs:List Value},RPV M a x→l.length=vs.length→(∀ (j:Nat) (y:PV) (v:Value),l[j]?=some y→vs[j]?=some v→RPV M y v) →
 l.foldlM AJ a=some r→∃u,(vs.foldlM Builtin.max2 x).run P w = .ok u w∧RPV M r u
 | [],a,r,x,[],ha,_,_,hr=>by simp at hr;subst hr;exact⟨x,rfl,ha⟩
 | b::l,a,r,x,v::vs,ha,hl,hh,hr=>by
  simp only[List.foldlM_cons,Option.bind_eq_bind,Option.bind_eq_some_iff]at hr;obtain⟨c,h1,h2⟩:=hr;have hb:=hh 0 b v rfl rfl
  have hmax:∃u,(Builtin.max2 x v).run P w = .ok u w∧RPV M c u:=by
   cases ha <;> cases hb <;> simp [AJ]at h1
   obtain⟨rfl,rfl⟩:=h1;refine⟨_,?_,.int _ _⟩;simp only[Builtin.max2,Sem.run_pure];congr 2
   omega
  obtain⟨u,h3,h4⟩:=hmax;obtain⟨u',h5,h6⟩:=jY h4 (by simpa using hl) (fun j y v' p q=>hh (j+1) y v' (by simpa using p) (by simpa using q)) h2
  exact⟨u',by simp [h3,h5],h6⟩
 | [],_,_,_,_::_,_,hl,_,_=>by simp at hl
 | _::_,_,_,_,[],_,hl,_,_=>by simp at hl
theorem kY:∀ {l:List PV} {a r:PV} {x:Value} {vs:List Value},RPV M a x→l.length=vs.length→(∀ (j:Nat) (y:PV) (v:Value),l[j]?=some y→vs[j]?=some v→RPV M y v) →
 l.foldlM BJ a=some r→∃u,(vs.foldlM Builtin.min2 x).run P w = .ok u w∧RPV M r u
 | [],a,r,x,[],ha,_,_,hr=>by simp at hr;subst hr;exact⟨x,rfl,ha⟩
 | b::l,a,r,x,v::vs,ha,hl,hh,hr=>by
  simp only[List.foldlM_cons,Option.bind_eq_bind,Option.bind_eq_some_iff]at hr;obtain⟨c,h1,h2⟩:=hr;have hb:=hh 0 b v rfl rfl
  have hmax:∃u,(Builtin.min2 x v).run P w = .ok u w∧RPV M c u:=by
   cases ha <;> cases hb <;> simp [BJ]at h1
   obtain⟨rfl,rfl⟩:=h1;refine⟨_,?_,.int _ _⟩;simp only[Builtin.min2,Sem.run_pure];congr 2
   omega
  obtain⟨u,h3,h4⟩:=hmax;obtain⟨u',h5,h6⟩:=kY h4 (by simpa using hl) (fun j y v' p q=>hh (j+1) y v' (by simpa using p) (by simpa using q)) h2
  exact⟨u',by simp [h3,h5],h6⟩
 | [],_,_,_,_::_,_,hl,_,_=>by simp at hl
 | _::_,_,_,_,[],_,hl,_,_=>by simp at hl
end Go.Am
end
section
/- The abstract machine,part 8: new memory,frozen rows,rows read. -/
set_option linter.unusedSimpArgs false
set_option linter.unusedVariables false
namespace Go.Am
variable {h h':aA} {μ μ':Mu} {w w':World} {P:Program} {M:Mem}
theorem MB {sh:Sh}{x:PV}(hx:x.shp sh=true):x.cells.length=gA sh:=by
 cases sh with
 | none=>cases x <;> first|rfl|(simp [PV.shp,PV.sc]at hx)
 | some n=>cases x <;> simp [PV.shp]at hx <;> simp [PV.cells,gA,hx.1]
theorem eQ {sh:Sh}{x:PV}(hx:x.shp sh=true):∀y∈x.cells,y.sc=true:=by
 cases sh with
 | none=>cases x <;> simp [PV.shp,PV.sc]at hx <;> simp [PV.cells,PV.sc]
 | some n=>cases x <;> simp [PV.shp]at hx <;> (simp [PV.cells];intro y hy;exact hx.2 y hy)
theorem RG:∀ {xs:List PV} {e:Nat},(∀ x∈xs,x.cells.length=e)→∀ i j,j<e→(xs.flatMap PV.cells)[i*e+j]?=(xs[i]?).bind fun x=>x.cells[j]?
 | [],e,he,i,j,hj=>by simp
 | x::r,e,he,i,j,hj=>by
  have hx:=he x (by simp)
  rw[List.flatMap_cons];cases i with
  | zero=>rw[List.getElem?_append_left (by omega)];simp
  | succ i=>
   rw[List.getElem?_append_right (by rw[hx,Nat.succ_mul];omega),hx]
   rw[show(i+1)*e+j-e=i*e+j by rw[Nat.succ_mul];omega]
   rw[RG (fun x hx=>he x (by simp [hx])) i j hj]
   simp
theorem bF {xs:List PV}{e q:Nat}{y:PV}(he:∀ x∈xs,x.cells.length=e)(hq:(xs.flatMap PV.cells)[q]?=some y) :
 ∃x,xs[q / e]?=some x∧x.cells[q%e]?=some y∧q%e<e∧q / e*e+q%e=q:=by
 have hpos:0<e:=by
  rcases Nat.eq_zero_or_pos e with h0|h0
  ·have:xs.flatMap PV.cells=[]:=by
    rw[List.flatMap_eq_nil_iff];intro x hx;have:=he x hx;exact List.length_eq_zero_iff.1 (by omega)
   rw[this]at hq;simp at hq
  ·exact h0
 have hm:=Nat.mod_lt q hpos
 have hd:q / e*e+q%e=q:=by rw[Nat.mul_comm];exact Nat.div_add_mod q e
 have:=RG he (q / e) (q%e) hm;rw[hd,hq]at this;cases hx:xs[q / e]? with
 | none=>simp [hx]at this
 | some x=>simp [hx]at this;exact⟨x,rfl,this.symm,hm,hd⟩
theorem fO (H:HeapRel h μ w){b o:Nat}(hO:LE h μ b o):b<w.heap.size:=by
 obtain⟨id,n,h1,_⟩:=hO;exact H.inside id b n h1
theorem QA.push (c:Array Value)(E:TypeId):QA { w with heap:=w.heap.push (.cells c E (0,0)) } w.heap.size c.size c:=
 ⟨rfl,E,0,0,by simp,fun _ h=>by omega⟩
theorem zeL (H:HeapRel h μ w)(hw:WExt w w'){b:Nat}(hb1:w.heap.size≤b)(hb2:b<w'.heap.size){cs:List AV}{c:Array Value}(hB:QA w' b cs.length c)
 (hc:∀(j:Nat) (x:AV),cs[j]?=some x→x.sc=true∧∃v,c[j]?=some v∧RAV (imm h μ w) h μ x v) :
 HeapRel (h++[.box cs]) (μ++[some (b,cs.length)]) w'∧Evo (imm h μ w) h μ (imm (h++[.box cs]) (μ++[some (b,cs.length)]) w') (h++[.box cs]) (μ++[some (b,cs.length)]):=by
 refine H.push hw _ _ (fun b' n e=>by injection e with e;injection e with e1 e2;subst e1;exact⟨hb1,hb2⟩) (fun M' E=>?_)
 refine⟨b,c,rfl,hB,fun j x hx=>?_⟩
 obtain⟨h1,v,h2,h3⟩:=hc j x hx;exact⟨h1,v,h2,h3.evo E⟩
theorem AY (H:HeapRel h μ w){cs:List AV}{c:Array Value}(hc:∀ (j:Nat) (x:AV),cs[j]?=some x→x.sc=true∧∃ v,c[j]?=some v∧RAV M h μ x v):AV.tops cs≤h.length:=
 iG fun j y hy=>by obtain⟨_,v,_,h3⟩:=hc j y hy;exact h3.top_le
theorem QF (H:HeapRel h μ w)(hw:WExt w w'){b n:Nat}(hb1:w.heap.size≤b)(hb2:b<w'.heap.size){sh:Sh}{xs:List PV}{c:Array Value}(hB:QA w' b n c)
 (hn:xs.length*gA sh≤n) (hs:∀x∈xs,x.shp sh=true) (hc:∀(i j:Nat) (x y:PV),xs[i]?=some x→x.cells[j]?=some y→∃v,c[i*gA sh+j]?=some v∧RPV (imm h μ w) y v) :
 HeapRel (h++[.row sh xs 0]) (μ++[some (b,n)]) w'∧Evo (imm h μ w) h μ (imm (h++[.row sh xs 0]) (μ++[some (b,n)]) w') (h++[.row sh xs 0]) (μ++[some (b,n)]):=by
 refine H.push hw _ _ (fun b' n e=>by injection e with e;injection e with e1 e2;subst e1;exact⟨hb1,hb2⟩) (fun M' E=>?_)
 refine⟨Nat.zero_le _,hs,c,hB.sealed _,hn,fun i j x y hx hy=>?_⟩
 obtain⟨v,h1,h2⟩:=hc i j x y hx hy;exact⟨v,h1,h2.mono E.le⟩
theorem UK (H:HeapRel h μ w)(sh:Sh) :
 HeapRel (h++[.row sh [] 0]) (μ++[none]) w∧Evo (imm h μ w) h μ (imm (h++[.row sh [] 0]) (μ++[none]) w) (h++[.row sh [] 0]) (μ++[none]):=
 H.push (WExt.refl w) _ _ (fun b' n e=>by cases e) (fun M' E=>⟨Nat.zero_le _,by simp,rfl⟩)
theorem zeN (H:HeapRel h μ w)(hw:WExt w w'){b:Nat}(hb1:w.heap.size≤b){n cap:Nat}{sh:Sh}{xs:List PV}{c:Array Value}(hB:QA w' b n c)
 (hcap:xs.length≤cap) (hs:∀x∈xs,x.shp sh=true) (hc:∀(i j:Nat) (x y:PV),xs[i]?=some x→x.cells[j]?=some y→∃v,c[i*gA sh+j]?=some v∧RPV (imm h μ w) y v) :
 RPV (imm h μ w') (.sl sh xs) (.slice (some ⟨b,0,none⟩) xs.length cap):=by
 have E:=(H.ext hw).2
 by_cases hne:xs=[]
 ·subst hne;exact .nils _ _ _
 ·have he:∀x∈xs,x.cells.length=gA sh:=fun x hx=>MB (hs x hx)
  have hcell:∀(j:Nat) (y:PV),(xs.flatMap PV.cells)[j]?=some y→∃v,c[j]?=some v∧RPV (imm h μ w) y v:=by
   intro j y hy;obtain⟨x,h1,h2,_,h3⟩:=bF he hy;have:=hc _ _ x y h1 h2;rwa [h3]at this
  refine .sl sh xs b 0 cap (fun j=>(c[j]?).getD undef) hne hcap hs (fun j y hy=>?_) (fun j y hy=>?_)
  ·obtain⟨v,h1,h2⟩:=hcell j y hy
   refine tC.2 ⟨fun hO=>?_,?_⟩
   ·have:=fO H hO;omega
   ·rw[PC hB,Nat.zero_add,h1];simp [h1]
  ·obtain⟨v,h1,h2⟩:=hcell j y hy
   have:(c[j]?).getD undef=v:=by simp [h1]
   rw[this];exact h2.mono E.le
theorem z1q (H:HeapRel h μ w){id k:Nat}{sh:Sh}{xs:List PV}{fz:Nat}(ho:h[id]?=some (.row sh xs fz))(hk:k≤xs.length) :
 HeapRel (frz h id k) μ w∧Evo (imm h μ w) h μ (imm (frz h id k) μ w) (frz h id k) μ∧mA h (frz h id k) []∧(frz h id k)[id]?=some (.row sh xs (max fz k)):=by
 have hf:frz h id k=h.set id (.row sh xs (max fz k)):=by simp [frz,ho]
 have hm:∃m,μ[id]?=some m:=⟨_,List.getElem?_eq_getElem (by rw[H.len];exact tA ho)⟩
 obtain⟨m,hm⟩:=hm;have hμ:μ.set id m=μ:=by
  apply List.ext_getElem?
  intro i;by_cases e:id=i
  ·subst e;rw[nC hm,hm]
  ·rw[List.getElem?_set_ne e]
 have hO:=H.obj id _ m ho hm
 have key:=H.set (w':=w) (o':=.row sh xs (max fz k)) (m':=m) ho hm ⟨xs,max fz k,rfl,Nat.le_refl _,fun _=>rfl⟩ rfl (Nat.le_refl _) (fun _ _ _=>rfl) (fun b n e=>.inl ⟨n,e⟩)
  (fun b n sh' xs' fz' e1 e2=>by
   injection e2 with e2 e3 e4
   subst e2;subst e3;subst e4
   exact⟨xs,_,rfl,fun j hj=>⟨rfl,fun n' _=>Nat.lt_of_lt_of_le hj (Nat.mul_le_mul_right _ (by omega))⟩⟩)
  (fun M' E=>by
   rw[hμ]at E ⊢;obtain⟨h1,h2,h3⟩:=hO.keep (w':=w) E (fun _ _ _=>rfl)
   refine⟨by omega,h2,?_⟩
   cases m with
   | none=>exact h3
   | some m=>
    obtain⟨c,q1,q2,q3⟩:=h3;exact⟨c,q1.imp (fun q=>by omega),q2,q3⟩)
  (fun _ _ _ _ h=>h)
 rw[hμ]at key;rw[hf];refine⟨key.1,key.2,mA.set ho (by simp [Obj.top]),nC ho⟩
def z5i (M:Mem)(w:World)(sh:Sh)(xs:List PV)(x:Value):Prop:=∃a cap,x = .slice a xs.length cap∧xs.length≤cap∧(xs≠[]→∃(b o:Nat) (f:Nat→Value),a=some ⟨b,o,none⟩∧(∀x∈xs,x.shp sh=true) ∧
 ∀(j:Nat) (y:PV),(xs.flatMap PV.cells)[j]?=some y→w.cell? ⟨b,o+j,none⟩=some (f j)∧RPV M y (f j))
theorem kQ {α:Type}{xs:List α}{off len i:Nat}{x:α}(hx:(win xs off len)[i]?=some x):i<len∧xs[off+i]?=some x:=by
 unfold win at hx;rw[List.getElem?_take]at hx;split at hx
 ·rename_i hi
  rw[List.getElem?_drop]at hx;exact⟨hi,hx⟩
 ·cases hx
theorem lQ {α:Type}{xs:List α}{off len:Nat}(hl:off+len≤xs.length):(win xs off len).length=len:=by
 simp [win];omega
theorem nG {α:Type}{xs:List α}{off len:Nat}{x:α}(hx:x∈win xs off len):x∈xs:=
 List.mem_of_mem_drop (List.mem_of_mem_take hx)
theorem CE (H:HeapRel h μ w){id g off len:Nat}{x:Value}(R:RAV (imm h μ w) h μ (.own id g off len) x){sh:Sh}{xs:List PV}{fz:Nat}(ho:h[id]?=some (.row sh xs fz))(hg:g=xs.length) :
 off+len≤xs.length∧(∀y∈xs,y.shp sh=true)∧∃a cap,x = .slice a len cap∧len≤cap∧(0<cap→∃b n c,μ[id]?=some (some (b,n))∧a=some ⟨b,off*gA sh,none⟩∧QA w b n c (xs.length<fz)∧(off+cap)*gA sh≤n∧xs.length*gA sh≤n ∧
  ∀(i j:Nat) (x y:PV),xs[i]?=some x→x.cells[j]?=some y→∃v,c[i*gA sh+j]?=some v∧RPV (imm h μ w) y v):=by
 cases R with|own _ _ _ _ a cap sh' xs' fz' m hl ho' hm hgg hgl hv=>
 rw[ho]at ho';injection ho' with ho'
 injection ho' with e1 e2 e3
 subst e1;subst e2;subst e3
 obtain⟨h1,h2,h3⟩:=H.obj id _ m ho hm;refine⟨by omega,h2,a,cap,rfl,hl,fun hc=>?_⟩
 have hv':=hv hg
 cases m with
 | none=>simp [pE]at hv';omega
 | some m=>
  obtain⟨b,n⟩:=m;rcases hv' with hv'|⟨e,hv'⟩
  ·omega
  ·obtain⟨c,h4,h5,h6⟩:=h3
   exact⟨b,n,c,hm,e,h4,hv',h5,h6⟩
theorem GW {h:aA}{id g off len:Nat}{sh:Sh}{xs:List PV}(hr:rd h (.own id g off len)=some (sh,xs)) :
 ∃ys fz,h[id]?=some (.row sh ys fz)∧g=ys.length∧off+len≤ys.length∧xs=win ys off len:=by
 simp only[rd]at hr;split at hr
 ·rename_i sh' ys fz ho
  split at hr
  ·rename_i hc
   injection hr with hr
   injection hr with hr1 hr2
   subst hr1;exact⟨ys,fz,ho,hc.1,hc.2,hr2.symm⟩
  ·cases hr
 ·cases hr
theorem z2J (H:HeapRel h μ w){v:AV}{x:Value}{sh:Sh}{xs:List PV}(R:RAV (imm h μ w) h μ v x)(hr:rd h v=some (sh,xs)):z5i (imm h μ w) w sh xs x:=by
 unfold rd at hr;split at hr
 ·simp at hr
  obtain⟨rfl,rfl⟩:=hr;have hv:=R.p_inv
  cases hv with
  | nils _ a cap=>exact⟨a,cap,rfl,Nat.zero_le _,fun h=>absurd rfl h⟩
  | sl _ _ b o cap f hne hc he hm hr=>
   exact⟨_,cap,rfl,hc,fun _=>⟨b,o,f,rfl,he,fun j y hy=>⟨(tC.1 (hm j y hy)).2,hr j y hy⟩⟩⟩
 ·simp at hr;obtain⟨rfl,rfl⟩:=hr;cases R with|sl0 _ a=>exact⟨a,0,rfl,Nat.le_refl _,fun h=>absurd rfl h⟩
 ·rename_i id g off len
  obtain⟨ys,fz,ho,hc1,hc2,hr⟩:=GW (h:=h) (id:=id) (g:=g) (off:=off) (len:=len) (by simpa [rd] using hr)
  obtain⟨h1,h2,a,cap,rfl,h3,h4⟩:=CE H R ho hc1;have hlen:xs.length=len:=by rw[hr];exact lQ hc2
  refine⟨a,cap,by rw[hlen],by omega,fun hne=>?_⟩
  have hpos:0<xs.length:=List.length_pos_iff.2 hne
  obtain⟨b,n,c,hm,ha,hB,hn,hn2,hcells⟩:=h4 (by omega)
  have he:∀x∈xs,x.cells.length=gA sh:=fun x hx=>MB (h2 x (nG (hr ▸ hx)))
  have hcell:∀(j:Nat) (y:PV),(xs.flatMap PV.cells)[j]?=some y→∃v,c[off*gA sh+j]?=some v∧RPV (imm h μ w) y v:=by
   intro j y hy;obtain⟨x,h5,h6,_,h7⟩:=bF he hy;rw[hr]at h5;have:=hcells _ _ x y (kQ h5).2 h6;rwa [show(off+j / gA sh)*gA sh+j%gA sh=off*gA sh+j by rw[Nat.add_mul];omega]at this
  refine⟨b,off*gA sh,fun j=>(c[off*gA sh+j]?).getD undef,ha,fun x hx=>h2 x (nG (hr ▸ hx)),fun j y hy=>?_⟩
  obtain⟨v,h5,h6⟩:=hcell j y hy;have:(c[off*gA sh+j]?).getD undef=v:=by simp [h5]
  simp only[this];exact⟨by rw[PC hB];exact h5,h6⟩
 ·cases hr
theorem gL (H:HeapRel h μ w){id g off len:Nat}{x:Value}{sh:Sh}{xs:List PV}(R:RAV (imm h μ w) h μ (.own id g off len) x)(hr:rd h (.own id g off len)=some (sh,xs)) :
 HeapRel (frz h id (off+len)) μ w∧Evo (imm h μ w) h μ (imm (frz h id (off+len)) μ w) (frz h id (off+len)) μ∧mA h (frz h id (off+len)) []∧RPV (imm (frz h id (off+len)) μ w) (.sl sh xs) x:=by
 obtain⟨ys,fz,ho,hc1,hc2,hr⟩:=GW hr;obtain⟨h1,h2,h3,h4⟩:=z1q H ho hc2;refine⟨h1,h2,h3,?_⟩;obtain⟨_,g2,a,cap,rfl,g3,g4⟩:=CE H R ho hc1;have hlen:xs.length=len:=by rw[hr];exact lQ hc2
 by_cases hne:xs=[]
 ·have hl0:len=0:=by rw[←hlen,hne];rfl
  rw[hne,hl0];exact .nils _ _ _
 ·have hpos:0<xs.length:=List.length_pos_iff.2 hne
  obtain⟨b,n,c,hm,ha,hB,hn,hn2,hcells⟩:=g4 (by omega)
  have he:∀x∈xs,x.cells.length=gA sh:=fun x hx=>MB (g2 x (nG (hr ▸ hx)))
  have hcell:∀(j:Nat) (y:PV),(xs.flatMap PV.cells)[j]?=some y→∃v,c[off*gA sh+j]?=some v∧RPV (imm h μ w) y v∧off*gA sh+j<(off+len)*gA sh:=by
   intro j y hy;obtain⟨x,h5,h6,h8,h7⟩:=bF he hy;rw[hr]at h5;have h9:=kQ h5
   have h10:=hcells _ _ x y h9.2 h6
   rw[show(off+j / gA sh)*gA sh+j%gA sh=off*gA sh+j by rw[Nat.add_mul];omega]at h10
   obtain⟨v,h11,h12⟩:=h10;refine⟨v,h11,h12,?_⟩;have:(j / gA sh+1)*gA sh≤len*gA sh:=Nat.mul_le_mul_right _ h9.1
   rw[Nat.add_mul,Nat.one_mul]at this;rw[Nat.add_mul];omega
  subst ha;have key:RPV (imm (frz h id (off+len)) μ w) (.sl sh xs) (.slice (some ⟨b,off*gA sh,none⟩) xs.length cap):=by
   refine .sl sh xs b (off*gA sh) cap (fun j=>(c[off*gA sh+j]?).getD undef) hne (by omega) (fun x hx=>g2 x (nG (hr ▸ hx))) (fun j y hy=>?_) (fun j y hy=>?_)
   ·obtain⟨v,h5,h6,h7⟩:=hcell j y hy
    refine tC.2 ⟨?_,by rw[PC hB,h5];simp [h5]⟩
    rintro⟨i,n',h8,h9⟩
    have:=H.distinct i id b n' n h8 hm;subst this;have h10:=h9 sh ys _ h4
    have:(off+len)*gA sh≤max fz (off+len)*gA sh:=Nat.mul_le_mul_right _ (by omega)
    omega
   ·obtain⟨v,h5,h6,h7⟩:=hcell j y hy
    have:(c[off*gA sh+j]?).getD undef=v:=by simp [h5]
    simp only[this];exact h6.mono h2.le
  rwa [hlen]at key
def YD (h:aA)(μ:Mu)(w:World)(h1:aA):Prop:=HeapRel h1 μ w∧Evo (imm h μ w) h μ (imm h1 μ w) h1 μ∧mA h h1 []
theorem zcH {h:aA}{id i k:Nat}{sh:Sh}{cs:List AV}(hi:h[i]?=some (.arow sh cs)):(frz h id k)[i]?=some (.arow sh cs):=by
 unfold frz;split
 ·rename_i sh' xs fz ho
  by_cases e:id=i
  ·subst e;rw[ho]at hi;cases hi
  ·rw[List.getElem?_set_ne e];exact hi
 ·exact hi
theorem zik:∀ {v:AV} {h:aA} {pv:PV} {h1:aA} {i:Nat} {sh:Sh} {cs:List AV},rL h v=some (pv,h1)→h[i]?=some (.arow sh cs)→h1[i]?=some (.arow sh cs):=by
 intro v h pv h1 i sh cs e hi;unfold rL at e;split at e
 ·simp at e;obtain⟨_,rfl⟩:=e;exact hi
 ·simp at e;obtain⟨_,rfl⟩:=e;exact hi
 ·simp at e;obtain⟨_,rfl⟩:=e;exact hi
 ·simp only[Option.map_eq_some_iff,Prod.mk.injEq]at e
  obtain⟨_,_,_,rfl⟩:=e;exact zcH hi
 ·cases e
theorem z2D:∀ {cs:List AV} {h:aA} {vs:List PV} {h1:aA} {i:Nat} {sh:Sh} {ds:List AV},ZF h cs=some (vs,h1)→h[i]?=some (.arow sh ds)→h1[i]?=some (.arow sh ds)
 | [],h,vs,h1,i,sh,ds,e,hi=>by simp [ZF]at e;obtain⟨_,rfl⟩:=e;exact hi
 | a::r,h,vs,h1,i,sh,ds,e,hi=>by
  simp only[ZF]at e;split at e
  ·rename_i pv h2 hp
   split at e
   ·rename_i ps h3 hq
    simp at e;obtain⟨_,rfl⟩:=e;exact z2D hq (zik hp hi)
   ·cases e
  ·cases e
theorem zil {v:AV}{h:aA}{x:Value}{pv:PV}{h1:aA}(H:HeapRel h μ w)(R:RAV (imm h μ w) h μ v x)(hs:v.sc=true)(e:rL h v=some (pv,h1)):YD h μ w h1∧RPV (imm h1 μ w) pv x∧pv.sc=true:=by
 unfold rL at e;split at e
 ·simp at e
  obtain⟨rfl,rfl⟩:=e;exact⟨⟨H,Evo.refl _ _ _,mA.refl _ _⟩,R.p_inv,hs⟩
 ·simp at e
  obtain⟨rfl,rfl⟩:=e;cases R with|sl0 _ a=>exact⟨⟨H,Evo.refl _ _ _,mA.refl _ _⟩,.nils _ _ _,rfl⟩
 ·simp at e
  obtain⟨rfl,rfl⟩:=e;cases R;exact⟨⟨H,Evo.refl _ _ _,mA.refl _ _⟩,.nilp,rfl⟩
 ·simp only[Option.map_eq_some_iff,Prod.mk.injEq]at e
  obtain⟨⟨sh,xs⟩,h2,rfl,rfl⟩:=e;obtain⟨a,b,c,d⟩:=gL H R h2;exact⟨⟨a,b,c⟩,d,rfl⟩
 ·cases e
theorem z2E:∀ (cs:List AV) {h:aA} {xs:List Value} {vs:List PV} {h1:aA},HeapRel h μ w→cs.length≤xs.length→(∀ x∈cs,x.sc=true) →
 (∀(j:Nat) (y:AV) (v:Value),cs[j]?=some y→xs[j]?=some v→RAV (imm h μ w) h μ y v)→ZF h cs=some (vs,h1) →
 YD h μ w h1∧vs.length=cs.length∧(∀x∈vs,x.sc=true)∧∀(j:Nat) (y:PV) (v:Value),vs[j]?=some y→xs[j]?=some v→RPV (imm h1 μ w) y v
 | [],h,xs,vs,h1,H,hl,_,hr,e=>by
  simp [ZF]at e;obtain⟨rfl,rfl⟩:=e;exact⟨⟨H,Evo.refl _ _ _,mA.refl _ _⟩,rfl,by simp,fun j y v hy=>by simp at hy⟩
 | a::r,h,xs,vs,h1,H,hl,hs,hr,e=>by
  cases xs with
  | nil=>simp at hl
  | cons x xs=>
   simp only[ZF]at e;split at e
   ·rename_i pv h2 hp
    split at e
    ·rename_i ps h3 hq
     simp at e;obtain⟨rfl,rfl⟩:=e;obtain⟨⟨a1,a2,a3⟩,a4,a5⟩:=zil H (hr 0 a x rfl rfl) (hs a (by simp)) hp
     obtain⟨⟨b1,b2,b3⟩,b4,b6,b5⟩:=z2E r a1 (xs:=xs) (by simpa using hl) (fun x hx=>hs x (by simp [hx])) (fun j y v hy hv=>(hr (j+1) y v (by simpa using hy) (by simpa using hv)).evo a2) hq
     refine⟨⟨b1,a2.trans b2,by simpa using mA.trans a3 b3⟩,by simp [b4],fun x hx=>?_,fun j y v hy hv=>?_⟩
     ·rcases List.mem_cons.1 hx with rfl|hx
      ·exact a5
      ·exact b6 x hx
     ·cases j with
      | zero=>simp at hy hv;subst hy;subst hv;exact a4.mono b2.le
      | succ j=>exact b5 j y v (by simpa using hy) (by simpa using hv)
    ·cases e
   ·cases e
theorem PY {n:Nat}:∀(g:Nat) (vs:List PV),vs.length=g*n→(∀x∈vs,x.sc=true)→(sE n g vs).length=g∧(∀x∈sE n g vs,x.shp (some n)=true) ∧
 ∀(i j:Nat) (x y:PV),(sE n g vs)[i]?=some x→x.cells[j]?=some y→vs[i*n+j]?=some y
 | 0,vs,_,_=>⟨rfl,by simp [sE],fun i j x y h=>by simp [sE]at h⟩
 | g+1,vs,hl,hs=>by
  have hl2:vs.length=g*n+n:=by rw[hl,Nat.succ_mul]
  obtain⟨h1,h2,h3⟩:=PY (n:=n) g (vs.drop n) (by rw[List.length_drop];omega) (fun x hx=>hs x (List.mem_of_mem_drop hx))
  refine⟨by simp [sE,h1],fun x hx=>?_,fun i j x y hx hy=>?_⟩
  ·simp only[sE]at hx
   rcases List.mem_cons.1 hx with rfl|hx
   ·simp only[PV.shp,Bool.and_eq_true,beq_iff_eq,List.all_eq_true]
    exact⟨by rw[List.length_take];omega,fun z hz=>hs z (List.mem_of_mem_take hz)⟩
   ·exact h2 x hx
  ·simp only[sE]at hx
   cases i with
   | zero=>
    simp at hx;subst hx;simp only[PV.cells]at hy;rw[List.getElem?_take]at hy;split at hy
    ·simpa using hy
    ·cases hy
   | succ i=>
    have:=h3 i j x y (by simpa using hx) hy
    rw[List.getElem?_drop]at this;rw[Nat.succ_mul,show i*n+n+j=n+(i*n+j) by omega]
    exact this
theorem QY {sh:Sh}{g:Nat}{vs:List PV}(hl:vs.length=g*gA sh)(hs:∀ x∈vs,x.sc=true):(fC sh g vs).length=g∧(∀x∈fC sh g vs,x.shp sh=true) ∧
 ∀(i j:Nat) (x y:PV),(fC sh g vs)[i]?=some x→x.cells[j]?=some y→vs[i*gA sh+j]?=some y:=by
 cases sh with
 | some n=>exact PY g vs hl hs
 | none=>
  refine⟨by simpa [gA,fC] using hl,fun x hx=>hs x hx,fun i j x y hx hy=>?_⟩
  have hx:vs[i]?=some x:=hx
  have hsc:=hs x (List.mem_of_getElem? hx)
  have hc:x.cells=[x]:=by cases x <;> first|rfl|(simp [PV.sc]at hsc)
  rw[hc]at hy;cases j with
  | zero=>simp at hy;subst hy;simpa [gA] using hx
  | succ j=>simp at hy
theorem zim {t id g:Nat}{h:aA}{x:Value}{pv:PV}{h1:aA}(H:HeapRel h μ w)(R:RAV (imm h μ w) h μ (.bt 3 t id g) x)(e:purA h id g=some (pv,h1)):YD h μ w h1∧RPV (imm h1 μ w) pv x:=by
 unfold purA at e;split at e;case h_2=>cases e
 rename_i sh cs ho;split at e;case isFalse=>cases e
 rename_i hg;split at e;case h_2=>cases e
 rename_i vs h2 hp;simp only[Option.some.injEq,Prod.mk.injEq]at e;obtain⟨rfl,rfl⟩:=e;cases R with|bt3 _ _ _ a cap o m hl ho' hm hv=>
 rw[ho]at ho';injection ho' with ho'
 obtain⟨hv1,hv2⟩:=hv sh cs ho'.symm;have hv3:=hv2 hg
 obtain⟨k1,k2⟩:=H.obj id _ m ho hm;have hcells:∃xs:List Value,cs.length≤xs.length∧(∀(j:Nat) (y:AV) (v:Value),cs[j]?=some y→xs[j]?=some v→RAV (imm h μ w) h μ y v)∧(∀b n,m=some (b,n)→∃c,QA w b n c∧cs.length≤n∧c.toList=xs):=by
  cases m with
  | none=>subst k2;exact⟨[],by simp,fun j y v hy=>by simp at hy,fun b n e=>by cases e⟩
  | some m=>
   obtain⟨b,n⟩:=m;obtain⟨c,c1,c2,c3⟩:=k2;refine⟨c.toList,by have:=c1.1;simp;omega,fun j y v hy hv=>?_,fun b' n' e=>by injection e with e;injection e with e1 e2;subst e1;subst e2;exact⟨c,c1,c2,rfl⟩⟩
   obtain⟨v',q1,q2⟩:=c3 j y hy;have:v'=v:=by
    have hv':c[j]?=some v:=by simpa using hv
    rw[q1]at hv';injection hv'
   exact this ▸ q2
 obtain⟨xs,x1,x2,x3⟩:=hcells;obtain⟨⟨a1,a2,a3⟩,a4,a5,a6⟩:=z2E cs H x1 k1 x2 hp;obtain⟨s1,s2,s3⟩:=QY (sh:=sh) (g:=g) (vs:=vs) (by rw[a4,hg]) a5
 have ho2:=z2D hp ho
 have key:=a1.set (w':=w) (o':=.row sh (fC sh g vs) 0) (m':=m) ho2 hm (.inr ⟨_,_,_,rfl⟩) rfl (Nat.le_refl _) (fun _ _ _=>rfl) (fun b n e=>.inl ⟨n,e⟩)
  (fun b n sh2 xs2 fz2 _ e2=>by cases e2)
  (fun M' Ev=>by
   refine⟨Nat.zero_le _,s2,?_⟩;cases m with
   | none=>
    have:g=0:=by simp [pE]at hv3;omega
    subst this;exact List.length_eq_zero_iff.1 s1
   | some m=>
    obtain⟨b,n⟩:=m;obtain⟨c,c1,c2,c3⟩:=x3 b n rfl;refine⟨c,c1.sealed _,by rw[s1,hg];exact c2,fun i j y z hy hz=>?_⟩
    have q1:=s3 i j y z hy hz
    have hj:i*gA sh+j<xs.length:=by have:=tA q1;omega
    have q2:=a6 _ z xs[i*gA sh+j] q1 (List.getElem?_eq_getElem hj)
    refine⟨xs[i*gA sh+j],?_,q2.mono Ev.le⟩;have:c.toList[i*gA sh+j]?=some xs[i*gA sh+j]:=by rw[c3];exact List.getElem?_eq_getElem hj
    simpa using this)
  (fun _ _ _ _ h=>h)
 have em:μ.set id m=μ:=by
  apply List.ext_getElem?
  intro i;by_cases e:id=i
  ·subst e;rw[nC hm,hm]
  ·rw[List.getElem?_set_ne e]
 rw[em]at key;obtain⟨key1,key2⟩:=key;have R2:RAV (imm (h2.set id (.row sh (fC sh g vs) 0)) μ w) (h2.set id (.row sh (fC sh g vs) 0)) μ (.own id g 0 g) (.slice a g cap):=
  .own id g 0 g a cap sh (fC sh g vs) 0 m hl (nC ho2) hm (by omega) (by omega) (fun _=>hv3)
 have hrd:rd (h2.set id (.row sh (fC sh g vs) 0)) (.own id g 0 g)=some (sh,fC sh g vs):=by
  simp only[rd,nC ho2,s1,Nat.zero_add,Nat.le_refl,and_self,if_true];congr 2
  unfold win;rw[List.drop_zero,List.take_of_length_le (by omega)]
 obtain⟨f1,f2,f3,f4⟩:=gL key1 R2 hrd;refine⟨⟨f1,(a2.trans key2).trans f2,?_⟩,f4⟩;have E2:mA h2 (h2.set id (.row sh (fC sh g vs) 0)) []:=mA.set ho2 (by simp [Obj.top])
 simpa using (a3.trans E2).trans f3
mutual
theorem OP:∀ (v:AV) {h:aA} {x:Value} {pv:PV} {h1:aA},HeapRel h μ w→RAV (imm h μ w) h μ v x→pur h v=some (pv,h1)→YD h μ w h1∧RPV (imm h1 μ w) pv x
 | .p v,h,x,pv,h1,H,R,e=>by
  simp [pur]at e;obtain⟨rfl,rfl⟩:=e;exact⟨⟨H,Evo.refl _ _ _,mA.refl _ _⟩,R.p_inv⟩
 | .sl0 sh,h,x,pv,h1,H,R,e=>by
  simp [pur]at e;obtain⟨rfl,rfl⟩:=e;cases R with|sl0 _ a=>exact⟨⟨H,Evo.refl _ _ _,mA.refl _ _⟩,.nils _ _ _⟩
 | .nilp,h,x,pv,h1,H,R,e=>by
  simp [pur]at e;obtain⟨rfl,rfl⟩:=e;cases R;exact⟨⟨H,Evo.refl _ _ _,mA.refl _ _⟩,.nilp⟩
 | .own id g off len,h,x,pv,h1,H,R,e=>by
  simp only[pur,Option.map_eq_some_iff,Prod.mk.injEq]at e;obtain⟨⟨sh,xs⟩,h2,rfl,rfl⟩:=e;obtain⟨a,b,c,d⟩:=gL H R h2;exact⟨⟨a,b,c⟩,d⟩
 | .agg cs,h,x,pv,h1,H,R,e=>by
  simp only[pur]at e;split at e
  ·rename_i vs h2 hp
   simp at e;obtain⟨rfl,rfl⟩:=e;cases R with|agg _ xs hl hr=>
   obtain⟨a,b⟩:=z2G cs H hl hr hp;exact⟨a,.agg vs xs b.1 b.2⟩
  ·cases e
 | .ref _ _,_,_,_,_,_,_,e=>by simp [pur]at e
 | .rref _ _ _ _,_,_,_,_,_,_,e=>by simp [pur]at e
 | .vp _,_,_,_,_,_,_,e=>by simp [pur]at e
 | .nilm,_,_,_,_,_,_,e=>by simp [pur]at e
 | .nilf,_,_,_,_,_,_,e=>by simp [pur]at e
 | .nili,_,_,_,_,_,_,e=>by simp [pur]at e
 | .ifc,_,_,_,_,_,_,e=>by simp [pur]at e
 | .mp _,_,_,_,_,_,_,e=>by simp [pur]at e
 | .it _,_,_,_,_,_,_,e=>by simp [pur]at e
 | .fn _ _,_,_,_,_,_,_,e=>by simp [pur]at e
 | .tup _,_,_,_,_,_,_,e=>by simp [pur]at e
 | .anyb,_,_,_,_,_,_,e=>by simp [pur]at e
 | .skp,_,_,_,_,_,_,e=>by simp [pur]at e
 | .und,_,_,_,_,_,_,e=>by simp [pur]at e
 | .anyp,_,_,_,_,_,_,e=>by simp [pur]at e
 | .bt k t id g,h,x,pv,h1,H,R,e=>by
  simp only[pur]at e;cases hk:Nat.beq k 3 with
  | false=>rw[hk]at e;cases e
  | true=>
   rw[hk]at e;have:=Nat.eq_of_beq_eq_true hk;subst this;exact zim H R e
theorem z2G:∀ (cs:List AV) {h:aA} {xs:List Value} {vs:List PV} {h1:aA},HeapRel h μ w→cs.length=xs.length →
 (∀(j:Nat) (y:AV) (v:Value),cs[j]?=some y→xs[j]?=some v→RAV (imm h μ w) h μ y v)→eJ h cs=some (vs,h1) →
 YD h μ w h1∧vs.length=xs.length∧∀(j:Nat) (y:PV) (v:Value),vs[j]?=some y→xs[j]?=some v→RPV (imm h1 μ w) y v
 | [],h,xs,vs,h1,H,hl,hr,e=>by
  simp [eJ]at e;obtain⟨rfl,rfl⟩:=e;exact⟨⟨H,Evo.refl _ _ _,mA.refl _ _⟩,by simpa using hl,fun j y v hy=>by simp at hy⟩
 | a::r,h,xs,vs,h1,H,hl,hr,e=>by
  cases xs with
  | nil=>simp at hl
  | cons x xs=>
   simp only[eJ]at e;split at e
   ·rename_i pv h2 hp
    split at e
    ·rename_i ps h3 hq
     simp at e;obtain⟨rfl,rfl⟩:=e;obtain⟨⟨a1,a2,a3⟩,a4⟩:=OP a H (hr 0 a x rfl rfl) hp;obtain⟨⟨b1,b2,b3⟩,b4,b5⟩:=z2G r a1 (xs:=xs) (by simpa using hl) (fun j y v hy hv=>(hr (j+1) y v (by simpa using hy) (by simpa using hv)).evo a2) hq
     refine⟨⟨b1,a2.trans b2,by simpa using mA.trans a3 b3⟩,by simp [b4],fun j y v hy hv=>?_⟩
     cases j with
     | zero=>simp at hy hv;subst hy;subst hv;exact a4.mono b2.le
     | succ j=>exact b5 j y v (by simpa using hy) (by simpa using hv)
    ·cases e
   ·cases e
end
end Go.Am
end
