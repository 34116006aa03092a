/- Texts of the proof, laid together: Am29, Am30, Am31, AmS, CodesA. -/
import Derived.KernelRfl
import Derived.Test.YtanoolccohkfmaaGreatDoorlawAF4
set_option linter.all false
section
/- The abstract machine,part 29: its meaning once more,spelt so that a function's code can be printed asv a formula over its values (shallow),equal to the deep one by computing. -/
set_option linter.unusedSimpArgs false
set_option linter.unusedVariables false
namespace Go.Am
def pK (o : Option AV) (k : AV → Prop) : Prop:=match o with
  | some v=>k v
  | none=>False
def wK (o : Option (AV × Heap × Esc)) (k : AV → Heap → Esc → Prop) : Prop:=match o with
  | some y=>k y.1 y.2.1 y.2.2
  | none=>False
def oPick (c a b : AV) : Option AV:=match c with
  | .p (.bool t)=>some (bif t then a else b)
  | _=>none
def oBox (x : AV) (h : Heap) : Option (AV × Heap × Esc):=match x.cells with
  | some cs=>some (.ref h.length 0,h ++ [.box cs],[])
  | none=>none
def fillV : List (Nat × Nat × AV) → List AV → Option (List AV)
  | [],cs=>some cs
  | (off,n,x) :: r,cs=>match x.cells with
    | some vs=>if vs.length = n ∧ off + n ≤ cs.length then fillV r (splice cs off vs) else none
    | none=>none
def oBuild (z : List AV) (ps : List (Nat × Nat × AV)) : Option AV:=(fillV ps z).map mkA
def fillW (sh : Sh) : List (Nat × AV) → Heap → List PV → Option (List PV × Heap)
  | [],h,xs=>some (xs,h)
  | (i,x) :: r,h,xs=>match pur h x with
    | some (v,h')=>if v.shp sh ∧ i < xs.length then fillW sh r h' (xs.set i v) else none
    | none=>none
def oBsl (own : Bool) (sh : Sh) (n : Nat) (z : PV) (ps : List (Nat × AV)) (h : Heap) : Option (AV × Heap × Esc):=match fillW sh ps h (List.replicate n z) with
  | some (xs,h')=>if !z.shp sh then none else some (bif own then (.own h'.length n 0 n,h' ++ [.row sh xs 0],[]) else (.p (.sl sh xs),h',[]))
  | none=>none
def oLoad (sh : Sh) (a : AV) (h : Heap) : Option AV:=match a with
  | .ref id off=>match h[id]? with
    | some (.box cs)=>cut sh off cs
    | _=>none
  | .rref id g i off=>match h[id]? with
    | some (.row _ xs _)=>if g = xs.length then ((xs[i]?).bind (cutP sh off)).map .p else none
    | _=>none
  | .vp v=>(cutP sh 0 v).map .p
  | _=>none
def oStore (sh : Sh) (a x : AV) (h : Heap) : Option (AV × Heap × Esc):=match a with
  | .ref id off=>match h[id]?,x.cells with
    | some (.box cs),some vs=>if vs.length = shSize sh ∧ off + vs.length ≤ cs.length then some (.und,h.set id (.box (splice cs off vs)),escS id cs x) else none
    | _,_=>none
  | .rref id g i off=>match pur h x with
    | some (v,h1)=>match h1[id]? with
      | some (.row rsh xs fz)=>if g = xs.length ∧ fz ≤ i ∧ v.cells.length = shSize sh ∧ v.cells.all PV.sc then match xs[i]? with
        | some (.agg cs)=>if off + v.cells.length ≤ cs.length then some (.und,h1.set id (.row rsh (xs.set i (.agg (splice cs off v.cells))) fz),[]) else none
        | some _=>if off = 0 ∧ v.sc then some (.und,h1.set id (.row rsh (xs.set i v) fz),[]) else none
        | none=>none
        else none
      | _=>none
    | none=>none
  | _=>none
def oNil (x : AV) : Option AV:=match x with
  | .ref _ _ | .rref _ _ _ _ | .vp _ | .fn _ _=>some x
  | _=>none
def oBin (op : BinOp) (x y : AV) : Option AV:=match x,y with
  | .p a,.p b=>(abin op a b).map .p
  | _,_=>none
def oEqa (ks : List Nat) (neg : Bool) (x y : AV) : Option AV:=match x,y with
  | .p (.agg asv),.p (.agg bs)=>if asv.map PV.kind = ks ∧ bs.map PV.kind = ks ∧ ks ≠ [] then (eqs asv bs).map fun t=>pbool (bif neg then !t else t) else none
  | .p (.bool a),.p (.bool b)=>if ks = [] then some (pbool (bif neg then !decide (a = b) else decide (a = b))) else none
  | _,_=>none
def oIsnil (k : Nat) (neg : Bool) (x : AV) : Option AV:=bif nilAny k x then some .anyb else (nilOf k x).map fun r=>pbool (bif neg then !r else r)
def oMkif (x : AV) : Option AV:=if okIn x then some .ifc else none
def oUn (op : UnOp) (x : AV) : Option AV:=match x with
  | .p a=>(aun op a).map .p
  | _=>none
def oConv (c : Cv) (x : AV) (h : Heap) : Option (AV × Heap × Esc):=(aconv h c x).map fun y=>(y.1,y.2,[])
def oConvI (k : IntKind) (x : AV) : Option AV:=match x with
  | .p (.int _ n)=>some (.p (.int k (k.wrap n)))
  | _=>none
def oMksl (sh : Sh) (z : PV) (len cap : AV) (h : Heap) : Option (AV × Heap × Esc):=match natOf len,natOf cap with
  | some n,some m=>if n ≤ m ∧ m ≤ maxSl ∧ z.shp sh then some (.own h.length n 0 n,h ++ [.row sh (List.replicate n z) 0],[]) else none
  | _,_=>none
def bndV (d : Nat) : Option AV → Option Nat
  | none=>some d
  | some x=>natOf x
def oSlstr (x : AV) (lo hi : Option AV) : Option AV:=match x with
  | .p (.str s)=>match bndV 0 lo,bndV s.length hi with
    | some l,some r=>if l ≤ r ∧ r ≤ s.length then some (.p (.str (win s l (r - l)))) else none
    | _,_=>none
  | _=>none
def oSlice (sh : Sh) (x : AV) (lo hi mx : Option AV) (h : Heap) : Option AV:=match x with
  | .p (.sl sh' xs)=>match bndV 0 lo,bndV xs.length hi,bndV xs.length mx with
    | some l,some r,some m=>if sh' = sh ∧ l ≤ r ∧ r ≤ m ∧ m ≤ xs.length then some (if mx.isSome ∧ m = l then .sl0 sh else .p (.sl sh (win xs l (r - l)))) else none
    | _,_,_=>none
  | .sl0 sh'=>match bndV 0 lo,bndV 0 hi,bndV 0 mx with
    | some l,some r,some m=>if l = 0 ∧ r = 0 ∧ m = 0 then some (.sl0 sh') else none
    | _,_,_=>none
  | .own id g off len=>match h[id]? with
    | some (.row rsh xs _)=>match bndV 0 lo,bndV len hi,bndV len mx with
      | some l,some r,some m=>if rsh = sh ∧ g = xs.length ∧ off + len ≤ xs.length ∧ l ≤ r ∧ r ≤ m ∧ m ≤ len then some (if mx.isSome ∧ m = l then .sl0 sh else .own id g (off + l) (r - l)) else none
      | _,_,_=>none
    | _=>none
  | _=>none
def oFaddr (off : Nat) (sh : Sh) (x : AV) : Option AV:=match x with
  | .ref id o=>some (.ref id (o + off))
  | .rref id g i o=>some (.rref id g i (o + off))
  | .vp v=>(cutP sh off v).map .vp
  | _=>none
def oField (off : Nat) (sh : Sh) (x : AV) : Option AV:=match x with
  | .p v=>match v with
    | .agg _=>(cutP sh off v).map .p
    | _=>none
  | .agg cs=>cut sh off cs
  | _=>none
def oIaddr (sh : Sh) (x i : AV) (h : Heap) : Option AV:=match x,natOf i with
  | .p (.sl sh' xs),some k=>if sh' = sh then (xs[k]?).map .vp else none
  | .own id g off len,some k=>match h[id]? with
    | some (.row rsh xs _)=>if rsh = sh ∧ g = xs.length ∧ off + len ≤ xs.length ∧ k < len then some (.rref id g (off + k) 0) else none
    | _=>none
  | _,_=>none
def oIaddra (n : Nat) (sh : Sh) (x i : AV) : Option AV:=match x,natOf i with
  | .ref id o,some k=>if k < n then some (.ref id (o + k * shSize sh)) else none
  | .rref id g j o,some k=>if k < n then some (.rref id g j (o + k * shSize sh)) else none
  | .vp v,some k=>if k < n then (cutP sh (k * shSize sh) v).map .vp else none
  | _,_=>none
def oIdxa (n : Nat) (sh : Sh) (x i : AV) : Option AV:=match x,natOf i with
  | .p (.agg cs),some k=>if k < n then (cutP sh (k * shSize sh) (.agg cs)).map .p else none
  | _,_=>none
def oIdxs (x i : AV) : Option AV:=match x,natOf i with
  | .p (.str s),some k=>(s[k]?).map fun b=>.p (.int .u8 b.toNat)
  | _,_=>none
def oExt (x : AV) (i : Nat) : Option AV:=match x with
  | .tup vs=>vs[i]?
  | _=>none
def oLen (x : AV) : Option AV:=match x with
  | .p (.sl _ xs)=>some (pint xs.length)
  | .sl0 _=>some (pint 0)
  | .own _ _ _ len=>some (pint len)
  | _=>none
def oLens (x : AV) : Option AV:=match x with
  | .p (.str s)=>some (pint s.length)
  | _=>none
def oApp (sh : Sh) (s x : AV) (h : Heap) : Option (AV × Heap × Esc):=match rds h x with
  | some (sh',ys)=>if sh' = sh then match s with
    | .sl0 _=>if ys.length ≤ maxSl then some (.own h.length ys.length 0 ys.length,h ++ [.row sh ys 0],[]) else none
    | .own id g off len=>match h[id]? with
      | some (.row rsh xs fz)=>if rsh = sh ∧ g = xs.length ∧ off = 0 ∧ len = xs.length ∧ len + ys.length ≤ maxSl ∧ fz ≤ xs.length then some (.own id (g + ys.length) off (len + ys.length),h.set id (.row sh (xs ++ ys) fz),[])
          else if rsh = sh ∧ g = xs.length ∧ off + len + ys.length ≤ xs.length ∧ fz ≤ off + len ∧ 1 ≤ ys.length ∧ len + ys.length ≤ maxSl ∧ sh = none ∧ xs.all PV.intP = true ∧ ys.all PV.intP = true then
            some (.p (.sl sh (win xs off len ++ ys)),h.set id (.row sh (splice xs (off + len) (List.replicate ys.length .unk)) (off + len + ys.length)),[])
          else none
      | _=>none
    | _=>none
    else none
  | none=>none
def oCopy (sh : Sh) (d s : AV) (h : Heap) : Option (AV × Heap × Esc):=match d,rds h s with
  | .own id g off len,some (sh',ys)=>match h[id]? with
    | some (.row rsh xs fz)=>if rsh = sh ∧ sh' = sh ∧ g = xs.length ∧ off + len ≤ xs.length ∧ fz ≤ off then
        some (pint (min ys.length len),h.set id (.row sh (splice xs off (ys.take (min ys.length len))) fz),[])
      else none
    | _=>none
  | _,_=>none
def oClr (sh : Sh) (z : PV) (x : AV) (h : Heap) : Option (AV × Heap × Esc):=match x with
  | .sl0 _=>some (.tup [],h,[])
  | .own id g off len=>match h[id]? with
    | some (.row rsh xs fz)=>if rsh = sh ∧ g = xs.length ∧ off + len ≤ xs.length ∧ fz ≤ off then
        some (.tup [],h.set id (.row sh (splice xs off (List.replicate len z)) fz),[])
      else none
    | _=>none
  | _=>none
def oMx (xs : List AV) : Option AV:=match xs with
  | .p a :: r=>((unp r).bind fun l=>l.foldlM amax2 a).map .p
  | _=>none
def oMn (xs : List AV) : Option AV:=match xs with
  | .p a :: r=>((unp r).bind fun l=>l.foldlM amin2 a).map .p
  | _=>none
def oLook (kk : Sh × List Nat) (ok : Bool) (z x k : AV) (h : Heap) : Option AV:=match keyOf kk k with
  | some key=>match (match x with | .nilm=>some [] | m=>(mget h m).map fun y=>y.2.1) with
    | some es=>match mfind key es with
      | some r=>
        let v:=((r.bind (es[·]?)).map ME.val)
        some (bif ok then .tup [v.getD z,pbool v.isSome] else v.getD z)
      | none=>none
    | none=>none
  | none=>none
def oMupd (kk : Sh × List Nat) (m k x : AV) (h : Heap) : Option (AV × Heap × Esc):=match keyOf kk k,mget h m,okIn x with
  | some key,some (id,es,c),true=>match mfind key es with
    | some (some i)=>some (.und,h.set id (.amap (es.modify i fun e=>{ e with val:=x }) c),escOf id x)
    | some none=>some (.und,h.set id (.amap (es ++ [⟨key,x,c⟩]) (c + 1)),escOf id x)
    | none=>none
  | _,_,_=>none
def oMent (kk : Sh × List Nat) (z m k : AV) (h : Heap) : Option (AV × Heap × Esc):=match keyOf kk k,mget h m with
  | some key,some (id,es,c)=>match mfind key es with
    | some (some i)=>(es[i]?).map fun e=>(.tup [e.val,pint e.born],h,[])
    | some none=>some (.tup [z,pint c],h.set id (.amap (es ++ [⟨key,z,c⟩]) (c + 1)),[])
    | none=>none
  | _,_=>none
def oEstore (m s x : AV) (h : Heap) : Option (AV × Heap × Esc):=match mget h m,natOf s,okIn x with
  | some (id,es,c),some b,true=>match es.findIdx? (fun e=>e.born == b) with
    | some i=>some (.und,h.set id (.amap (es.modify i fun e=>{ e with val:=x }) c),escOf id x)
    | none=>none
  | _,_,_=>none
def oMdel (kk : Sh × List Nat) (m k : AV) (h : Heap) : Option (AV × Heap × Esc):=match keyOf kk k,mget h m with
  | some key,some (id,es,c)=>match mfind key es with
    | some (some i)=>some (.und,h.set id (.amap (es.eraseIdx i) c),[])
    | some none=>some (.und,h,[])
    | none=>none
  | _,_=>none
def oLenm (x : AV) (h : Heap) : Option AV:=match x with
  | .nilm=>some (pint 0)
  | .mp id=>(mget h (.mp id)).map fun y=>pint y.2.1.length
  | _=>none
def oMrange (x : AV) (h : Heap) : Option (AV × Heap × Esc):=match mget h x with
  | some (id,_,c)=>some (.it h.length,h ++ [.iter (some id) c [] c],[])
  | none=>match x with
    | .nilm=>some (.it h.length,h ++ [.iter none 0 [] 0],[])
    | _=>none
def oMentry (i : AV) (h : Heap) : Option (AV × Heap × Esc):=match i with
  | .it id=>match h[id]? with
    | some (.iter (some m) _ seen last)=>match mget h (.mp m),seen.getLast? with
      | some (_,es,c),some b=>if c = last then (es.find? (fun e=>e.born == b)).map fun e=>(.tup [.p e.key,e.val],h,[]) else none
      | _,_=>none
    | _=>none
  | _=>none
def alK (z : List AV) (h : Heap) (k : AV → Heap → Esc → Prop) : Prop:=k (.ref h.length 0) (h ++ [.box z]) []
def nwK (sh : Sh) (h : Heap) (k : AV → Heap → Esc → Prop) : Prop:=k (.own h.length 0 0 0) (h ++ [.row sh [] 0]) []
def mmK (h : Heap) (k : AV → Heap → Esc → Prop) : Prop:=k (.mp h.length) (h ++ [.amap [] 0]) []
def ev3 (ev : Opd → AV) : List (Nat × Nat × Opd) → List (Nat × Nat × AV)
  | []=>[]
  | (a,b,x) :: r=>(a,b,ev x) :: ev3 ev r
def ev2 (ev : Opd → AV) : List (Nat × Opd) → List (Nat × AV)
  | []=>[]
  | (a,x) :: r=>(a,ev x) :: ev2 ev r
def evO (ev : Opd → AV) : Option Opd → Option AV
  | none=>none
  | some x=>some (ev x)
def ev1 (ev : Opd → AV) : List Opd → List AV
  | []=>[]
  | x :: r=>ev x :: ev1 ev r
def opN (o : AO) (ev : Opd → AV) (h : Heap) (k : AV → Heap → Esc → Prop) : Prop:=match o with
  | .mv x=>k (ev x) h []
  | .pick c a b=>pK (oPick (ev c) (ev a) (ev b)) fun v=>k v h []
  | .alloc z=>alK z h k
  | .box x=>wK (oBox (ev x) h) k
  | .build z ps=>pK (oBuild z (ev3 ev ps)) fun v=>k v h []
  | .bsl own sh n z ps=>wK (oBsl own sh n z (ev2 ev ps) h) k
  | .load sh a=>pK (oLoad sh (ev a) h) fun v=>k v h []
  | .store sh a x=>wK (oStore sh (ev a) (ev x) h) k
  | .nilchk x=>pK (oNil (ev x)) fun v=>k v h []
  | .bin op x y=>pK (oBin op (ev x) (ev y)) fun v=>k v h []
  | .eqa ks neg x y=>pK (oEqa ks neg (ev x) (ev y)) fun v=>k v h []
  | .isnil n neg x=>pK (oIsnil n neg (ev x)) fun v=>k v h []
  | .mkif x=>pK (oMkif (ev x)) fun v=>k v h []
  | .un op x=>pK (oUn op (ev x)) fun v=>k v h []
  | .conv (.i c) x=>pK (oConvI c (ev x)) fun v=>k v h []
  | .mkfn f caps=>k (.fn f (ev1 ev caps)) h []
  | .slice sh x lo hi mx=>pK (oSlice sh (ev x) (evO ev lo) (evO ev hi) (evO ev mx) h) fun v=>k v h []
  | .slstr x lo hi=>pK (oSlstr (ev x) (evO ev lo) (evO ev hi)) fun v=>k v h []
  | .mksl sh z len cap=>wK (oMksl sh z (ev len) (ev cap) h) k
  | .faddr off sh x=>pK (oFaddr off sh (ev x)) fun v=>k v h []
  | .field off sh x=>pK (oField off sh (ev x)) fun v=>k v h []
  | .iaddr sh x i=>pK (oIaddr sh (ev x) (ev i) h) fun v=>k v h []
  | .iaddra n sh x i=>pK (oIaddra n sh (ev x) (ev i)) fun v=>k v h []
  | .idxa n sh x i=>pK (oIdxa n sh (ev x) (ev i)) fun v=>k v h []
  | .idxs x i=>pK (oIdxs (ev x) (ev i)) fun v=>k v h []
  | .ext x i=>pK (oExt (ev x) i) fun v=>k v h []
  | .len x=>pK (oLen (ev x)) fun v=>k v h []
  | .lens x=>pK (oLens (ev x)) fun v=>k v h []
  | .app sh s x=>wK (oApp sh (ev s) (ev x) h) k
  | .copy sh d s=>wK (oCopy sh (ev d) (ev s) h) k
  | .uns m t xs=>wK (unsOp m t (ev1 ev xs) h) k
  | .clr sh z x=>wK (oClr sh z (ev x) h) k
  | .mx xs=>pK (oMx (ev1 ev xs)) fun v=>k v h []
  | .mn xs=>pK (oMn (ev1 ev xs)) fun v=>k v h []
  | .new0 sh=>nwK sh h k
  | .conv .s2b x=>wK (oConv .s2b (ev x) h) k
  | .conv .b2s x=>wK (oConv .b2s (ev x) h) k
  | .conv .r2s x=>wK (oConv .r2s (ev x) h) k
  | .conv .same x=>wK (oConv .same (ev x) h) k
  | .mkmap=>mmK h k
  | .look kk ok z x key=>pK (oLook kk ok z (ev x) (ev key) h) fun v=>k v h []
  | .mupd kk m key x=>wK (oMupd kk (ev m) (ev key) (ev x) h) k
  | .ment kk z m key=>wK (oMent kk z (ev m) (ev key) h) k
  | .estore m s x=>wK (oEstore (ev m) (ev s) (ev x) h) k
  | .mdel kk m key=>wK (oMdel kk (ev m) (ev key) h) k
  | .lenm x=>pK (oLenm (ev x) h) fun v=>k v h []
  | .mrange x=>wK (oMrange (ev x) h) k
  | .mentry i=>wK (oMentry (ev i) h) k
  | .call _ _ | .callv _ _ | .mnext _ _=>False
theorem wK_opt {o : Option (AV × Heap × Esc)} {k : AV → Heap → Esc → Prop} : optK o k = wK o k:=rfl
theorem pK_map {o : Option AV} {h : Heap} {k : AV → Heap → Esc → Prop} : wK (o.map fun v=>(v,h,[])) k = pK o fun v=>k v h []:=by cases o <;> rfl
theorem fillA_eq (ev : Opd → AV) : ∀ (ps : List (Nat × Nat × Opd)) (z : List AV),fillA ev ps z = fillV (ev3 ev ps) z
  | [],z=>rfl
  | (off,n,x) :: r,z=>by
    simp only [fillA,ev3,fillV]
    cases (ev x).cells with
    | none=>rfl
    | some vs=>simp only [fillA_eq ev r]
theorem fillP_eq (ev : Opd → AV) (sh : Sh) : ∀ (ps : List (Nat × Opd)) (h : Heap) (z : List PV),fillP ev sh ps h z = fillW sh (ev2 ev ps) h z
  | [],h,z=>rfl
  | (i,x) :: r,h,z=>by
    simp only [fillP,ev2,fillW]
    cases pur h (ev x) with
    | none=>rfl
    | some y=>simp only [fillP_eq ev sh r]
theorem bnd_eq (ev : Opd → AV) (d : Nat) (o : Option Opd) : bnd ev d o = bndV d (evO ev o):=by cases o <;> rfl
theorem evO_some (ev : Opd → AV) (o : Option Opd) : (evO ev o).isSome = o.isSome:=by cases o <;> rfl
theorem ev1_eq (ev : Opd → AV) (l : List Opd) : l.map ev = ev1 ev l:=by
  induction l with
  | nil=>rfl
  | cons x r ih=>simp only [List.map_cons,ev1,ih]
theorem asl_eq (sh : Sh) (ev : Opd → AV) (h : Heap) (x : AV) (lo hi mx : Option Opd) : asl sh ev h x lo hi mx = oSlice sh x (evO ev lo) (evO ev hi) (evO ev mx) h:=by
  unfold asl oSlice
  simp only [bnd_eq,evO_some]
  rfl
theorem wpK_ite {p : Prop} [Decidable p] {a : AV} {h : Heap} {k : AV → Heap → Esc → Prop} : wK (if p then some (a,h,[]) else none) k = pK (if p then some a else none) fun v=>k v h []:=by split <;> rfl
theorem wpK_map {α : Type} {o : Option α} {f : α → AV} {h : Heap} {k : AV → Heap → Esc → Prop} : wK (o.map fun v=>(f v,h,[])) k = pK (o.map f) fun v=>k v h []:=by cases o <;> rfl
theorem wpK_ite_map {α : Type} {p : Prop} [Decidable p] {o : Option α} {f : α → AV} {h : Heap} {k : AV → Heap → Esc → Prop} : wK (if p then o.map (fun v=>(f v,h,[])) else none) k = pK (if p then o.map f else none) fun v=>k v h []:=by
  split
  · exact wpK_map
  · rfl
theorem opN_aop {o : AO} (hp : o.plain = true) {ev : Opd → AV} {h : Heap} {k : AV → Heap → Esc → Prop} : optK (aop o ev h) k = opN o ev h k:=by
  rw [wK_opt]
  cases o <;> first | (cases hp; done) | skip
  case mv=>rfl
  case pick c a b=>
    simp only [aop,opN,oPick]
    generalize ev c = v
    cases v <;> try rfl
    rename_i p; cases p <;> rfl
  case alloc=>rfl
  case box=>rfl
  case build z ps=>simp only [aop,opN]; rw [← pK_map,oBuild,fillA_eq,Option.map_map]; rfl
  case bsl=>simp only [aop,opN,oBsl,fillP_eq]; rfl
  case load sh a=>
    simp only [aop,opN,oLoad]
    generalize ev a = v
    cases v with
    | ref id off=>dsimp only; cases h[id]? with
      | none=>rfl
      | some o=>cases o <;> first | rfl | exact pK_map
    | rref id g i off=>dsimp only; cases h[id]? with
      | none=>rfl
      | some o=>cases o <;> first | rfl | exact wpK_ite_map
    | vp v=>exact wpK_map
    | p v=>cases v <;> rfl
    | _=>rfl
  case store=>simp only [aop,opN]; rfl
  case nilchk x=>
    simp only [aop,opN,oNil]
    generalize ev x = v
    cases v <;> rfl
  case bin op x y=>
    simp only [aop,opN,oBin]
    generalize ev x = v
    generalize ev y = u
    cases v <;> try rfl
    cases u <;> try rfl
    exact wpK_map
  case eqa ks neg x y=>
    simp only [aop,opN,oEqa]
    generalize ev x = v
    generalize ev y = u
    cases v <;> try rfl
    rename_i p
    cases p <;> try rfl
    all_goals (cases u <;> try rfl)
    all_goals (rename_i q; cases q <;> try rfl)
    · exact wpK_ite
    · exact wpK_ite_map
  case isnil k neg p=>
    simp only [aop,opN,oIsnil]
    cases nilAny k (ev p) with
    | true=>rfl
    | false=>exact wpK_map
  case mkif=>exact wpK_ite
  case un op x=>
    simp only [aop,opN,oUn]
    generalize ev x = v
    cases v <;> try rfl
    exact wpK_map
  case conv c x=>
    cases c
    case i k'=>
      simp only [aop,opN,oConvI,aconv]
      generalize ev x = v
      cases v <;> try rfl
      rename_i p; cases p <;> rfl
    all_goals rfl
  case mkfn f caps=>simp only [aop,opN,ev1_eq]; rfl
  case slice=>simp only [aop,opN,asl_eq]; exact pK_map
  case slstr x lo hi=>
    simp only [aop,opN,oSlstr,bnd_eq]
    generalize ev x = v
    cases v <;> try rfl
    rename_i p; cases p <;> try rfl
    rename_i s
    dsimp only
    generalize bndV 0 _ = o1
    generalize bndV s.length _ = o2
    cases o1 <;> try rfl
    cases o2 <;> try rfl
    exact wpK_ite
  case mksl=>simp only [aop,opN]; rfl
  case faddr off sh x=>
    simp only [aop,opN,oFaddr]
    generalize ev x = v
    cases v <;> try rfl
    exact wpK_map
  case field off sh x=>
    simp only [aop,opN,oField]
    generalize ev x = v
    cases v <;> try rfl
    · rename_i p; cases p <;> try rfl
      exact wpK_map
    · exact pK_map
  case iaddr sh x i=>
    simp only [aop,opN,oIaddr]
    generalize ev x = v
    generalize natOf (ev i) = n
    cases v <;> try rfl
    · rename_i p; cases p <;> try rfl
      cases n <;> try rfl
      exact wpK_ite_map
    · cases n <;> try rfl
      rename_i id g off len k
      dsimp only
      cases h[id]? with
      | none=>rfl
      | some o=>cases o <;> first | rfl | exact wpK_ite
  case iaddra m sh x i=>
    simp only [aop,opN,oIaddra]
    generalize ev x = v
    generalize natOf (ev i) = n
    cases v <;> try rfl
    all_goals (cases n <;> try rfl)
    · exact wpK_ite
    · exact wpK_ite
    · exact wpK_ite_map
  case idxa m sh x i=>
    simp only [aop,opN,oIdxa]
    generalize ev x = v
    generalize natOf (ev i) = n
    cases v <;> try rfl
    rename_i p; cases p <;> try rfl
    cases n <;> try rfl
    exact wpK_ite_map
  case idxs x i=>
    simp only [aop,opN,oIdxs]
    generalize ev x = v
    generalize natOf (ev i) = n
    cases v <;> try rfl
    rename_i p; cases p <;> try rfl
    cases n <;> try rfl
    exact wpK_map
  case ext x i=>
    simp only [aop,opN,oExt]
    generalize ev x = v
    cases v <;> try rfl
    exact pK_map
  case len x=>
    simp only [aop,opN,oLen]
    generalize ev x = v
    cases v <;> try rfl
    rename_i p; cases p <;> rfl
  case lens x=>
    simp only [aop,opN,oLens]
    generalize ev x = v
    cases v <;> try rfl
    rename_i p; cases p <;> rfl
  case app=>simp only [aop,opN]; rfl
  case copy=>simp only [aop,opN]; rfl
  case uns=>simp only [aop,opN,ev1_eq,wK_opt]
  case clr=>simp only [aop,opN]; rfl
  case mx xs=>
    simp only [aop,opN,ev1_eq,oMx]
    generalize ev1 ev xs = l
    cases l <;> try rfl
    rename_i v r
    cases v <;> try rfl
    exact wpK_map
  case mn xs=>
    simp only [aop,opN,ev1_eq,oMn]
    generalize ev1 ev xs = l
    cases l <;> try rfl
    rename_i v r
    cases v <;> try rfl
    exact wpK_map
  case new0=>rfl
  case look kk ok z x key=>
    simp only [aop,opN,oLook]
    cases keyOf kk (ev key) <;> try rfl
    rename_i kk
    generalize ev x = v
    cases v <;> try rfl
    rename_i id
    dsimp only
    cases mget h (.mp id) <;> try rfl
    rename_i y
    dsimp only [Option.map_some]
    cases mfind kk y.2.1 <;> rfl
  case lenm x=>
    simp only [aop,opN,oLenm]
    generalize ev x = v
    cases v <;> try rfl
    exact wpK_map
  all_goals rfl
end Go.Am
end
section
/- The abstract machine,part 30: the meaning of code in the new spelling,and that it is the old one. -/
set_option linter.unusedSimpArgs false
set_option linter.unusedVariables false
namespace Go.Am
def gV (v : AV) (b : Bool) (h : Heap) (A : (AV → Heap → Esc → Prop) → Prop) (k : AV → Heap → Esc → Prop) : Prop:=wantK v b (A k) (k .skp h [])
def gP (v : AV) (b : Bool) (o : Option AV) (h : Heap) (k : AV → Heap → Esc → Prop) : Prop:=gV v b h (fun k=>pK o fun u=>k u h []) k
def gM (v : AV) (b : Bool) (u : AV) (h : Heap) (k : AV → Heap → Esc → Prop) : Prop:=gV v b h (fun k=>k u h []) k
def upB (b : Bool) : Bool:=(fun (_ : AV → Bool → Option AV → Heap → (AV → Heap → Esc → Prop) → Prop)=>b) gP
def gK (g : Option (Nat × Bool)) (e : List (Nat × AV)) (h : Heap) (A : (AV → Heap → Esc → Prop) → Prop) (k : AV → Heap → Esc → Prop) : Prop:=match g with
  | none=>A k
  | some (t,b)=>gV (aget e t) b h A k
def opC (C : Hd) (o : AO) (ev : Opd → AV) (h : Heap) (k : AV → Heap → Esc → Prop) : Prop:=match o with
  | .call f args=>C f (ev1 ev args) h k
  | .callv f args=>callvK C (ev f) (ev1 ev args) h k
  | .mnext sh xs=>match choices h sh (ev1 ev xs) with
    | some l=>l ≠ [] ∧ ∀ y ∈ l,k y.1 y.2 []
    | none=>False
  | o=>opN o ev h k
def NReg (C : Hd) (gl : Nat → Option PV) : List AOp → List (Nat × AV) → Heap → Esc → (List (Nat × AV) → Heap → Esc → Prop) → Prop
  | [],e,h,x,L=>L e h x
  | o :: r,e,h,x,L=>gK o.guard e h (opC C o.op (Opd.ev gl e) h) fun v h' x'=>NReg C gl r (put o.dst v e) h' (x' ++ x) L
variable {C : Hd} {gl : Nat → Option PV}
theorem opC_AReg {o : AO} {d : Option Nat} {r : List AOp} {e : List (Nat × AV)} {h : Heap} {x : Esc} {L : List (Nat × AV) → Heap → Esc → Prop} :
    AReg C gl (⟨d,none,o⟩ :: r) e h x L = opC C o (Opd.ev gl e) h (contR C gl r d e x L):=by
  cases hp : o.plain with
  | true=>
    rw [AReg_op hp,opN_aop hp]
    cases o <;> first | rfl | cases hp
  | false=>
    cases o <;> first | (cases hp; done) | skip
    all_goals first
      | (rw [AReg_call,ev1_eq]; rfl)
      | (rw [AReg_callvK,ev1_eq]; rfl)
      | (unfold AReg opC; simp only [wanted,ev1_eq]; rfl)
theorem NReg_eq : ∀ (ops : List AOp) (e : List (Nat × AV)) (h : Heap) (x : Esc) (L : List (Nat × AV) → Heap → Esc → Prop),AReg C gl ops e h x L = NReg C gl ops e h x L
  | [],e,h,x,L=>rfl
  | ⟨d,g,o⟩ :: r,e,h,x,L=>by
    have ih : (fun (v : AV) (h' : Heap) (x' : Esc)=>NReg C gl r (put d v e) h' (x' ++ x) L) = contR C gl r d e x L:=by
      funext v h' x'; rw [← NReg_eq r]; rfl
    show _ = gK g e h (opC C o (Opd.ev gl e) h) fun v h' x'=>NReg C gl r (put d v e) h' (x' ++ x) L
    rw [ih]
    cases g with
    | none=>exact opC_AReg
    | some tb=>
      obtain ⟨t,b⟩:=tb
      rw [AReg_guard,opC_AReg]; rfl
def opE (C : Hd) (o : AO) (ev : Opd → AV) (h : Heap) (k : AV → Heap → Esc → Prop) : Prop:=match o with
  | .call f args=>callE C f (ev1 ev args) h k
  | .callv f args=>callvE C (ev f) (ev1 ev args) h k
  | .mnext _ _=>False
  | o=>opN o ev h k
def effN (still eff : Bool) (h h' : Heap) (y : Esc) (Q : Prop) : Prop:=match upB eff with
  | true=>Q
  | false=>match still with
    | true=>Q
    | false=>(h' = h ∧ y = []) ∧ Q
def sameN (C : Hd) (gl : Nat → Option PV) (q : AOp × List (Nat × AV) × AV) (g : Heap) : Prop:=
  gK q.1.guard q.2.1 g (opE C q.1.op (Opd.ev gl q.2.1) g) fun v1 h1 x1=>v1 = q.2.2 ∧ h1 = g ∧ x1 = []
def againN (C : Hd) (gl : Nat → Option PV) (h : Heap) (dn : Done) (Q : Prop) : List Nat → Prop
  | []=>Q
  | j :: r=>(match dn[j]? with | some q=>sameN C gl q h | none=>False) ∧ againN C gl h dn Q r
def earlyN (C : Hd) (gl : Nat → Option PV) (o : AOp) (e : List (Nat × AV)) (v : AV) (hs : List Heap) (Q : Prop) : List Nat → Prop
  | []=>Q
  | k :: r=>(match hs[k]? with | some g=>sameN C gl (o,e,v) g | none=>False) ∧ earlyN C gl o e v hs Q r
def NDraw (C : Hd) (gl : Nat → Option PV) : List DOp → Done → List Heap → List (Nat × AV) → Heap → Esc → (List (Nat × AV) → Heap → Esc → Prop) → Prop
  | [],_,_,e,h,x,L=>L e h x
  | o :: r,dn,hs,e,h,x,L=>gK o.op.guard (prune (some o.rd) e) h (opE C o.op.op (Opd.ev gl (prune (some o.rd) e)) h) fun v h' y=>
      effN o.op.op.still o.eff h h' y (earlyN C gl o.op (prune (some o.rd) e) v hs (againN C gl h' dn (NDraw C gl r (dn ++ [(o.op,prune (some o.rd) e,v)]) (hs ++ [h]) (put o.op.dst v e) h' (y ++ x) L) o.again) o.early)
theorem opE_doK {o : AO} {d : Option Nat} {e : List (Nat × AV)} {h : Heap} {R : AV → Heap → Esc → Prop} : doK C gl ⟨d,none,o⟩ e h R = opE C o (Opd.ev gl e) h R:=by
  cases hp : o.plain with
  | true=>
    rw [doK_op hp,opN_aop hp]
    cases o <;> first | rfl | cases hp
  | false=>
    cases o <;> first | (cases hp; done) | skip
    all_goals first
      | (rw [doK_call,ev1_eq]; rfl)
      | (rw [doK_callvK,ev1_eq]; rfl)
      | (unfold doK ADo opE; simp [wanted])
theorem gK_doK {o : AOp} {e : List (Nat × AV)} {h : Heap} {R : AV → Heap → Esc → Prop} : doK C gl o e h R = gK o.guard e h (opE C o.op (Opd.ev gl e) h) R:=by
  obtain ⟨d,g,op⟩:=o
  cases g with
  | none=>exact opE_doK
  | some tb=>
    obtain ⟨t,b⟩:=tb
    rw [doK_guard,opE_doK]; rfl
theorem sameN_eq {q : AOp × List (Nat × AV) × AV} {g : Heap} : doS C gl q g = sameN C gl q g:=by
  obtain ⟨⟨d,gd,op⟩,e,v⟩:=q
  rw [doS_mk,gK_doK]; rfl
theorem againN_eq {h : Heap} {dn : Done} {Q : Prop} : ∀ {l : List Nat},againN C gl h dn Q l = (agK C gl h dn l ∧ Q)
  | []=>by simp [againN,agK]
  | j :: r=>by
    unfold againN agK
    rw [againN_eq (l:=r)]
    cases dn[j]? with
    | none=>simp
    | some q=>simp only [sameN_eq,and_assoc]
theorem earlyN_eq {o : AOp} {e : List (Nat × AV)} {v : AV} {hs : List Heap} {Q : Prop} : ∀ {l : List Nat},earlyN C gl o e v hs Q l = (eaK C gl o e v hs l ∧ Q)
  | []=>by simp [earlyN,eaK]
  | j :: r=>by
    unfold earlyN eaK
    rw [earlyN_eq (l:=r)]
    cases hs[j]? with
    | none=>simp
    | some q=>simp only [sameN_eq,and_assoc]
theorem doK_still {o : AOp} (hs : o.op.still = true) {e : List (Nat × AV)} {h : Heap} {R : AV → Heap → Esc → Prop} : doK C gl o e h (fun v h' y=>(h' = h ∧ y = []) ∧ R v h' y) = doK C gl o e h R:=by
  unfold doK
  refine propext ⟨fun ⟨v,h',y,H,_,r⟩=>⟨v,h',y,H,r⟩,fun ⟨v,h',y,H,r⟩=>⟨v,h',y,H,ADo_still hs H,r⟩⟩
theorem NDraw_eq : ∀ (ds : List DOp) (dn : Done) (hs : List Heap) (e : List (Nat × AV)) (h : Heap) (x : Esc) (L : List (Nat × AV) → Heap → Esc → Prop),ADraw C gl ds dn hs e h x L = NDraw C gl ds dn hs e h x L
  | [],dn,hs,e,h,x,L=>rfl
  | ⟨o,rd,eff,early,again⟩ :: r,dn,hs,e,h,x,L=>by
    rw [ADraw_cons]
    show _ = gK o.guard (prune (some rd) e) h (opE C o.op (Opd.ev gl (prune (some rd) e)) h) fun v h' y=>
      effN o.op.still eff h h' y (earlyN C gl o (prune (some rd) e) v hs (againN C gl h' dn (NDraw C gl r (dn ++ [(o,prune (some rd) e,v)]) (hs ++ [h]) (put o.dst v e) h' (y ++ x) L) again) early)
    rw [← gK_doK]
    have e1 : drawK C gl ⟨o,rd,eff,early,again⟩ r dn hs e h x L = fun v h' y=>(effK eff h h' y ∧ earlyN C gl o (prune (some rd) e) v hs (againN C gl h' dn (NDraw C gl r (dn ++ [(o,prune (some rd) e,v)]) (hs ++ [h]) (put o.dst v e) h' (y ++ x) L) again) early):=by
      funext v h' y
      rw [drawK_all,earlyN_eq,againN_eq,← NDraw_eq r]
    rw [e1]
    cases eff with
    | true=>
      congr 1; funext v h' y
      simp [effK,effN,upB]
    | false=>
      cases hs' : o.op.still with
      | true=>
        have:=doK_still (C:=C) (gl:=gl) (o:=o) hs' (e:=prune (some rd) e) (h:=h) (R:=fun v h' y=>earlyN C gl o (prune (some rd) e) v hs (againN C gl h' dn (NDraw C gl r (dn ++ [(o,prune (some rd) e,v)]) (hs ++ [h]) (put o.dst v e) h' (y ++ x) L) again) early)
        exact this
      | false=>rfl
def NW (C : Hd) (gl : Nat → Option PV) : ACode → St → (Ex → St → Prop) → Prop
  | .skip,s,K=>K .normal s
  | .reg ops keep,s,K=>NReg C gl ops s.env s.h s.esc fun e h x=>K .normal ⟨prune keep e,h,x⟩
  | .draw ds keep,s,K=>NDraw C gl ds [] [] s.env s.h s.esc fun e h x=>K .normal ⟨prune keep e,h,x⟩
  | .seq a b,s,K=>NW C gl a s fun e s'=>match e with
    | .normal=>NW C gl b s' K
    | .exit i=>K (.exit i) s'
    | .ret=>K .ret s'
  | .cond c a b,s,K=>condB (Opd.ev gl s.env c) (NW C gl a s K) (NW C gl b s K)
  | .condu c a b,s,K=>condU (Opd.ev gl s.env c) (NW C gl a s K) (NW C gl b s K)
  | .det b,s,K=>NW C gl b s K
  | .block id b,s,K=>NW C gl b s fun e s'=>match e with
    | .normal=>K .normal s'
    | .exit i=>bif Nat.beq i id then K .normal s' else K (.exit i) s'
    | .ret=>K .ret s'
  | .loop b,s,K=>ALoop (NW C gl b) K s
  | .scope b,s,K=>NW C gl b ⟨s.env,s.h,[]⟩ fun e s'=>K e (trunc s.h.length s.esc s')
  | .pr l b,s,K=>NW C gl b ⟨prune (some l) s.env,s.h,s.esc⟩ K
  | .exit id,s,K=>K (.exit id) s
  | .ret,s,K=>K .ret s
  | .bad,_,_=>False
theorem NW_eq : ∀ (c : ACode) (s : St) (K : Ex → St → Prop),AW C gl c s K = NW C gl c s K
  | .skip,s,K=>rfl
  | .reg ops keep,s,K=>NReg_eq _ _ _ _ _
  | .draw ds keep,s,K=>NDraw_eq _ _ _ _ _ _ _
  | .seq a b,s,K=>by
    unfold AW NW
    rw [NW_eq a]
    congr 1; funext e s'
    cases e with
    | normal=>exact NW_eq b s' K
    | _=>rfl
  | .cond c a b,s,K=>by
    unfold AW NW condB
    rw [← NW_eq a,← NW_eq b]
    rfl
  | .condu c a b,s,K=>by
    unfold AW NW condU
    rw [← NW_eq a,← NW_eq b]
    rfl
  | .det b,s,K=>NW_eq b s K
  | .block id b,s,K=>by
    unfold AW NW
    rw [NW_eq b]
    congr 1; funext e s'
    cases e with
    | exit i=>
      dsimp only
      by_cases hi : i = id
      · subst hi; simp
      · rw [if_neg hi]
        have : Nat.beq i id = false:=by cases h : Nat.beq i id with | false=>rfl | true=>exact absurd (Nat.eq_of_beq_eq_true h) hi
        rw [this]; rfl
    | _=>rfl
  | .loop b,s,K=>by
    show ALoop (AW C gl b) K s = ALoop (NW C gl b) K s
    rw [show AW C gl b = NW C gl b from funext fun s=>funext fun K=>NW_eq b s K]
  | .scope b,s,K=>NW_eq b _ _
  | .pr l b,s,K=>NW_eq b _ _
  | .exit id,s,K=>rfl
  | .ret,s,K=>rfl
  | .bad,s,K=>rfl
end Go.Am
end
section
/- The abstract machine,part 31: words in which a function's code is printed,and the rules of computing over them. -/
set_option linter.unusedSimpArgs false
set_option linter.unusedVariables false
namespace Go.Am
variable {C : Hd} {gl : Nat → Option PV} {e : List (Nat × AV)} {h : Heap} {x : Esc} {K : Ex → St → Prop} {s : St}
abbrev AI (n : Int) : AV:=.p (.int .i64 n)
abbrev AB (b : Bool) : AV:=.p (.bool b)
def seqN (C : Hd) (gl : Nat → Option PV) (b : ACode) (K : Ex → St → Prop) (e : Ex) (s : St) : Prop:=match e with
  | .normal=>NW C gl b s K
  | .exit i=>K (.exit i) s
  | .ret=>K .ret s
def blockN (id : Nat) (K : Ex → St → Prop) (e : Ex) (s : St) : Prop:=match e with
  | .normal=>K .normal s
  | .exit i=>bif Nat.beq i id then K .normal s else K (.exit i) s
  | .ret=>K .ret s
def nqK (sh : Option Sh) (l : List AV) (h : Heap) (k : AV → Heap → Esc → Prop) : Prop:=match choices h sh l with
    | some l=>l ≠ [] ∧ ∀ y ∈ l,k y.1 y.2 []
    | none=>False
def gv (gl : Nat → Option PV) (n : Nat) : AV:=match gl n with | some v=>.vp v | none=>.und
theorem seqN_normal {b : ACode} : seqN C gl b K .normal s = NW C gl b s K:=(rfl)
theorem seqN_exit {b : ACode} {i : Nat} : seqN C gl b K (.exit i) s = K (.exit i) s:=(rfl)
theorem seqN_ret {b : ACode} : seqN C gl b K .ret s = K .ret s:=(rfl)
theorem blockN_normal {i : Nat} : blockN i K .normal s = K .normal s:=(rfl)
theorem blockN_same {i : Nat} : blockN i K (.exit i) s = K .normal s:=by simp [blockN]
theorem blockN_exit {i j : Nat} : blockN i K (.exit j) s = bif Nat.beq j i then K .normal s else K (.exit j) s:=(rfl)
theorem blockN_ret {i : Nat} : blockN i K .ret s = K .ret s:=(rfl)
theorem seqN_congr {b : ACode} {ex ex' : Ex} {s s' : St} (he : ex = ex') (hs : s = s') : seqN C gl b K ex s = seqN C gl b K ex' s':=by rw [he,hs]
theorem blockN_congr {i : Nat} {ex ex' : Ex} {s s' : St} (he : ex = ex') (hs : s = s') : blockN i K ex s = blockN i K ex' s':=by rw [he,hs]
theorem NW_scope {b : ACode} : NW C gl (.scope b) ⟨e,h,x⟩ K = NW C gl b ⟨e,h,[]⟩ (scopeK h.length x K):=(rfl)
theorem NW_congr {c : ACode} {s s' : St} (hs : s = s') : NW C gl c s K = NW C gl c s' K:=by rw [hs]
def NLoop (C : Hd) (gl : Nat → Option PV) (b : ACode) (K : Ex → St → Prop) (e : List (Nat × AV)) (h : Heap) (x : Esc) : Prop:=ALoop (NW C gl b) K ⟨e,h,x⟩
theorem NLoop_pr {l : List Nat} {b : ACode} : NW C gl (.loop (.pr l b)) ⟨e,h,x⟩ K = NLoop C gl (.pr l b) K (prune (some l) e) h x:=by
  show ALoop _ _ _ = ALoop _ _ _
  exact ALoop_same (funext fun R=>by show NW C gl b _ R = NW C gl b _ R; dsimp only; rw [prune_prune])
theorem NLoop_sc {l : List Nat} {b : ACode} : NW C gl (.loop (.scope (.pr l b))) ⟨e,h,x⟩ K = NLoop C gl (.scope (.pr l b)) K (prune (some l) e) h x:=by
  show ALoop _ _ _ = ALoop _ _ _
  exact ALoop_same (funext fun R=>by show NW C gl b _ _ = NW C gl b _ _; dsimp only; rw [prune_prune])
theorem NLoop_congr {b : ACode} {e e' : List (Nat × AV)} {h h' : Heap} {x x' : Esc} (h1 : e = e') (h2 : h = h') (h3 : x = x') : NLoop C gl b K e h x = NLoop C gl b K e' h' x':=by rw [h1,h2,h3]
theorem N_loop {σ : Type} {b : ACode} (S : σ → St) (P : σ → Prop) (m : σ → Nat) (t0 : σ) (hs : (⟨e,h,x⟩ : St) = S t0) (h0 : P t0) (hr : ∀ t,P t → NW C gl b (S t) (loopK S P m K t)) : NLoop C gl b K e h x:=by
  show ALoop (NW C gl b) K _
  rw [hs]
  have key : ∀ n t,m t < n → P t → ALoop (NW C gl b) K (S t):=by
    intro n
    induction n with
    | zero=>intro t h; omega
    | succ n ih=>
      intro t hm hp
      refine .mk _ _ (hr t hp) (fun s' h'=>?_) (fun i s' h'=>h') (fun s' h'=>h')
      obtain ⟨u,rfl,hu,hlt⟩:=h'
      exact ih u (by omega) hu
  exact key _ t0 (Nat.lt_succ_self _) h0
theorem call_val {X : Ctx} {f : Nat} {F : AFun} {a asv : List AV} {h h1 : Heap} {P : Post} (hf : X.fn f = some F) (hr : F.byref = false) (hp : puras h a = some (asv,h1)) (hl : asv.length = F.nparams) (hd : F.isDet = false:=by rfl) :
    ACall X f a h P = NW (ACall X) X.gl F.body ⟨enter asv,h1,[]⟩ (finR F.results F.keep h.length P):=by
  rw [step_val hf hr hp hl hd,NW_eq]
theorem call_val_det {X : Ctx} {f : Nat} {F : AFun} {a asv : List AV} {h h1 : Heap} {P : Post} (hf : X.fn f = some F) (hr : F.byref = false) (hp : puras h a = some (asv,h1)) (hl : asv.length = F.nparams) (hd : F.isDet = true:=by rfl) :
    ACall X f a h P = ∃ v h' x,P v h' x ∧ NW (ACall X) X.gl F.body ⟨enter asv,h1,[]⟩ (finR F.results F.keep h.length fun v1 h1 x1=>v1 = v ∧ h1 = h' ∧ x1 = x):=by
  rw [step_val_det hf hr hp hl hd]
  simp only [NW_eq]
theorem call_ref {X : Ctx} {f : Nat} {F : AFun} {asv : List AV} {h : Heap} {P : Post} (hf : X.fn f = some F) (hr : F.byref = true) (hl : asv.length = F.nparams) (hd : F.isDet = false:=by rfl) :
    ACall X f asv h P = NW (ACall X) X.gl F.body ⟨enter asv,h,[]⟩ (finR F.results F.keep h.length P):=by
  rw [step_ref hf hr hl hd,NW_eq]
theorem pK_some {v : AV} {k : AV → Prop} : pK (some v) k = k v:=(rfl)
theorem pK_none {k : AV → Prop} : pK none k = False:=(rfl)
theorem wK_some {v : AV} {h : Heap} {x : Esc} {k : AV → Heap → Esc → Prop} : wK (some (v,h,x)) k = k v h x:=(rfl)
theorem wK_none {k : AV → Heap → Esc → Prop} : wK none k = False:=(rfl)
theorem pK_ite {p : Prop} [Decidable p] {a b : Option AV} {k : AV → Prop} : pK (if p then a else b) k = if p then pK a k else pK b k:=by split <;> rfl
theorem wK_ite {p : Prop} [Decidable p] {a b : Option (AV × Heap × Esc)} {k : AV → Heap → Esc → Prop} : wK (if p then a else b) k = if p then wK a k else wK b k:=by split <;> rfl
theorem pK_congr {o o' : Option AV} {k : AV → Prop} (h : o = o') : pK o k = pK o' k:=by rw [h]
theorem wK_congr {o o' : Option (AV × Heap × Esc)} {k : AV → Heap → Esc → Prop} (h : o = o') : wK o k = wK o' k:=by rw [h]
theorem gV_congr {v v' : AV} {b : Bool} {h : Heap} {A : (AV → Heap → Esc → Prop) → Prop} {k : AV → Heap → Esc → Prop} (h1 : v = v') : gV v b h A k = gV v' b h A k:=by rw [h1]
theorem gP_congr {v v' : AV} {b : Bool} {o : Option AV} {h : Heap} {k : AV → Heap → Esc → Prop} (h1 : v = v') : gP v b o h k = gP v' b o h k:=by rw [h1]
theorem gM_congr {v v' : AV} {b : Bool} {u : AV} {h : Heap} {k : AV → Heap → Esc → Prop} (h1 : v = v') : gM v b u h k = gM v' b u h k:=by rw [h1]
section
variable {A : (AV → Heap → Esc → Prop) → Prop} {o : Option AV} {u : AV} {k : AV → Heap → Esc → Prop} {t b : Bool}
theorem gV_tt : gV (.p (.bool true)) true h A k = A k:=(rfl)
theorem gV_ff : gV (.p (.bool false)) false h A k = A k:=(rfl)
theorem gV_tf : gV (.p (.bool true)) false h A k = k .skp h []:=(rfl)
theorem gV_ft : gV (.p (.bool false)) true h A k = k .skp h []:=(rfl)
theorem gV_skp : gV .skp b h A k = k .skp h []:=(rfl)
theorem gV_any : gV (.p (.bool t)) b h A k = wantK (.p (.bool t)) b (A k) (k .skp h []):=(rfl)
theorem gP_tt : gP (.p (.bool true)) true o h k = pK o fun v=>k v h []:=(rfl)
theorem gP_ff : gP (.p (.bool false)) false o h k = pK o fun v=>k v h []:=(rfl)
theorem gP_tf : gP (.p (.bool true)) false o h k = k .skp h []:=(rfl)
theorem gP_ft : gP (.p (.bool false)) true o h k = k .skp h []:=(rfl)
theorem gP_skp : gP .skp b o h k = k .skp h []:=(rfl)
theorem gP_any : gP (.p (.bool t)) b o h k = wantK (.p (.bool t)) b (pK o fun v=>k v h []) (k .skp h []):=(rfl)
theorem gM_tt : gM (.p (.bool true)) true u h k = k u h []:=(rfl)
theorem gM_ff : gM (.p (.bool false)) false u h k = k u h []:=(rfl)
theorem gM_tf : gM (.p (.bool true)) false u h k = k .skp h []:=(rfl)
theorem gM_ft : gM (.p (.bool false)) true u h k = k .skp h []:=(rfl)
theorem gM_skp : gM .skp b u h k = k .skp h []:=(rfl)
theorem gM_any : gM (.p (.bool t)) b u h k = wantK (.p (.bool t)) b (k u h []) (k .skp h []):=(rfl)
end
section
variable {k k' : IntKind} {a b : Int} {sa sb : List UInt8}
theorem bin_add : oBin .add (.p (.int k a)) (.p (.int k b)) = some (.p (.int k (k.wrap (a + b)))):=by simp [oBin,abin,aint]
theorem bin_sub : oBin .sub (.p (.int k a)) (.p (.int k b)) = some (.p (.int k (k.wrap (a - b)))):=by simp [oBin,abin,aint]
theorem bin_mul : oBin .mul (.p (.int k a)) (.p (.int k b)) = some (.p (.int k (k.wrap (a * b)))):=by simp [oBin,abin,aint]
theorem bin_quo : oBin .quo (.p (.int k a)) (.p (.int k b)) = if b = 0 then none else some (.p (.int k (k.wrap (a.tdiv b)))):=by simp [oBin,abin,aint] <;> split <;> rfl
theorem bin_rem : oBin .rem (.p (.int k a)) (.p (.int k b)) = if b = 0 then none else some (.p (.int k (a.tmod b))):=by simp [oBin,abin,aint] <;> split <;> rfl
theorem bin_and : oBin .and (.p (.int k a)) (.p (.int k b)) = some (.p (.int k (iand k a b))):=by simp [oBin,abin,aint]
theorem bin_or : oBin .or (.p (.int k a)) (.p (.int k b)) = some (.p (.int k (ior k a b))):=by simp [oBin,abin,aint]
theorem bin_xor : oBin .xor (.p (.int k a)) (.p (.int k b)) = some (.p (.int k (ixor k a b))):=by simp [oBin,abin,aint]
theorem bin_andNot : oBin .andNot (.p (.int k a)) (.p (.int k b)) = some (.p (.int k (iandn k a b))):=by simp [oBin,abin,aint]
theorem bin_eql : oBin .eql (.p (.int k a)) (.p (.int k b)) = some (.p (.bool (decide (a = b)))):=by simp [oBin,abin,aint]
theorem bin_neq : oBin .neq (.p (.int k a)) (.p (.int k b)) = some (.p (.bool (!decide (a = b)))):=by simp [oBin,abin,aint]
theorem bin_lss : oBin .lss (.p (.int k a)) (.p (.int k b)) = some (.p (.bool (decide (a < b)))):=by simp [oBin,abin,aint]
theorem bin_leq : oBin .leq (.p (.int k a)) (.p (.int k b)) = some (.p (.bool (decide (a ≤ b)))):=by simp [oBin,abin,aint]
theorem bin_gtr : oBin .gtr (.p (.int k a)) (.p (.int k b)) = some (.p (.bool (decide (b < a)))):=by simp [oBin,abin,aint]
theorem bin_geq : oBin .geq (.p (.int k a)) (.p (.int k b)) = some (.p (.bool (decide (b ≤ a)))):=by simp [oBin,abin,aint]
theorem bin_shl : oBin .shl (.p (.int k a)) (.p (.int k' b)) = if b < 0 then none else some (.p (.int k (ishl k a b))):=by simp [oBin,abin] <;> split <;> rfl
theorem bin_shr : oBin .shr (.p (.int k a)) (.p (.int k' b)) = if b < 0 then none else some (.p (.int k (ishr k a b))):=by simp [oBin,abin] <;> split <;> rfl
theorem str_add : oBin .add (.p (.str sa)) (.p (.str sb)) = if sa.length + sb.length ≤ maxStr then some (.p (.str (sa ++ sb))) else none:=by simp [oBin,abin,astr] <;> split <;> rfl
theorem str_eql : oBin .eql (.p (.str sa)) (.p (.str sb)) = some (.p (.bool (decide (sa = sb)))):=by simp [oBin,abin,astr]
theorem str_neq : oBin .neq (.p (.str sa)) (.p (.str sb)) = some (.p (.bool (!decide (sa = sb)))):=by simp [oBin,abin,astr]
theorem str_lss : oBin .lss (.p (.str sa)) (.p (.str sb)) = some (.p (.bool (Op.bytesLess sa sb))):=by simp [oBin,abin,astr]
theorem str_leq : oBin .leq (.p (.str sa)) (.p (.str sb)) = some (.p (.bool (Op.bytesLess sa sb || decide (sa = sb)))):=by simp [oBin,abin,astr]
theorem str_gtr : oBin .gtr (.p (.str sa)) (.p (.str sb)) = some (.p (.bool (!(Op.bytesLess sa sb || decide (sa = sb))))):=by simp [oBin,abin,astr]
theorem str_geq : oBin .geq (.p (.str sa)) (.p (.str sb)) = some (.p (.bool (!Op.bytesLess sa sb))):=by simp [oBin,abin,astr]
theorem un_neg : oUn .neg (.p (.int k a)) = some (.p (.int k (k.wrap (-a)))):=by simp [oUn,aun]
theorem un_not {t : Bool} : oUn .not (.p (.bool t)) = some (.p (.bool !t)):=(rfl)
theorem convI {k' : IntKind} : oConvI k (.p (.int k' a)) = some (.p (.int k (k.wrap a))):=(rfl)
theorem nilref {i j : Nat} : oNil (.ref i j) = some (.ref i j):=(rfl)
theorem nilrref {i j m n : Nat} : oNil (.rref i j m n) = some (.rref i j m n):=(rfl)
theorem nilvp {v : PV} : oNil (.vp v) = some (.vp v):=(rfl)
theorem nilfn {f : Nat} {cs : List AV} : oNil (.fn f cs) = some (.fn f cs):=(rfl)
theorem pick_b {t : Bool} {u v : AV} : oPick (.p (.bool t)) u v = some (bif t then u else v):=(rfl)
theorem len_sl {sh : Sh} {xs : List PV} : oLen (.p (.sl sh xs)) = some (.p (.int .i64 xs.length)):=(rfl)
theorem len_sl0 {sh : Sh} : oLen (.sl0 sh) = some (.p (.int .i64 0)):=(rfl)
theorem len_own {i g o l : Nat} : oLen (.own i g o l) = some (.p (.int .i64 l)):=(rfl)
theorem lens_s : oLens (.p (.str sa)) = some (.p (.int .i64 sa.length)):=(rfl)
theorem ext_t {vs : List AV} {i : Nat} : oExt (.tup vs) i = vs[i]?:=(rfl)
theorem faddr_ref {off i j : Nat} {sh : Sh} : oFaddr off sh (.ref i j) = some (.ref i (j + off)):=(rfl)
theorem faddr_rref {off i j m n : Nat} {sh : Sh} : oFaddr off sh (.rref i j m n) = some (.rref i j m (n + off)):=(rfl)
theorem faddr_vp {off : Nat} {sh : Sh} {v : PV} : oFaddr off sh (.vp v) = (cutP sh off v).map .vp:=(rfl)
theorem field_p {off : Nat} {sh : Sh} {cs : List PV} : oField off sh (.p (.agg cs)) = (cutP sh off (.agg cs)).map .p:=(rfl)
theorem field_a {off : Nat} {sh : Sh} {cs : List AV} : oField off sh (.agg cs) = cut sh off cs:=(rfl)
def ldB (sh : Sh) (off : Nat) : Option Obj → Option AV
  | some (.box cs)=>cut sh off cs
  | _=>none
def ldR (sh : Sh) (g i off : Nat) : Option Obj → Option AV
  | some (.row _ xs _)=>if g = xs.length then ((xs[i]?).bind (cutP sh off)).map .p else none
  | _=>none
theorem load_ref {sh : Sh} {i j : Nat} : oLoad sh (.ref i j) h = ldB sh j h[i]?:=by unfold oLoad ldB; rfl
theorem load_rref {sh : Sh} {i g m n : Nat} : oLoad sh (.rref i g m n) h = ldR sh g m n h[i]?:=by unfold oLoad ldR; rfl
theorem load_vp {sh : Sh} {v : PV} : oLoad sh (.vp v) h = (cutP sh 0 v).map .p:=(rfl)
theorem ldB_box {sh : Sh} {off : Nat} {cs : List AV} : ldB sh off (some (.box cs)) = cut sh off cs:=(rfl)
theorem ldR_row {sh sh' : Sh} {g i off fz : Nat} {xs : List PV} : ldR sh g i off (some (.row sh' xs fz)) = if g = xs.length then ((xs[i]?).bind (cutP sh off)).map .p else none:=(rfl)
def stB (sh : Sh) (id off : Nat) (v : AV) (h : Heap) : Option Obj → Option (List AV) → Option (AV × Heap × Esc)
  | some (.box cs),some vs=>if vs.length = shSize sh ∧ off + vs.length ≤ cs.length then some (.und,h.set id (.box (splice cs off vs)),escS id cs v) else none
  | _,_=>none
theorem store_ref {sh : Sh} {i j : Nat} {v : AV} : oStore sh (.ref i j) v h = stB sh i j v h h[i]? v.cells:=by unfold oStore stB; rfl
theorem stB_box {sh : Sh} {id off : Nat} {v : AV} {cs vs : List AV} : stB sh id off v h (some (.box cs)) (some vs) = if vs.length = shSize sh ∧ off + vs.length ≤ cs.length then some (.und,h.set id (.box (splice cs off vs)),escS id cs v) else none:=(rfl)
theorem escS_p {id : Nat} {cs : List AV} {v : PV} : escS id cs (.p v) = []:=by
  unfold escS
  cases isBld cs && decide (AV.top (.p v) ≤ AV.tops cs) <;> rfl
theorem escS_box {id : Nat} {cs : List AV} {v : AV} (h : isBld cs = false) : escS id cs v = escOf id v:=by
  unfold escS
  rw [h]
  rfl
theorem isBld_p {a : AV} {v : PV} : isBld [a,.p v] = false:=(rfl)
theorem isBld_sl0 {a : AV} {s : Sh} : isBld [a,.sl0 s] = false:=(rfl)
theorem isBld_own {a : AV} {i j k l : Nat} : isBld [a,.own i j k l] = false:=(rfl)
theorem isBld_nilp {a : AV} : isBld [a,.nilp] = false:=(rfl)
theorem isBld_0 : isBld [] = false:=(rfl)
theorem isBld_1 {a : AV} : isBld [a] = false:=(rfl)
theorem isBld_3 {a b c : AV} {l : List AV} : isBld (a :: b :: c :: l) = false:=by unfold isBld; split <;> first | rfl | (rename_i h; simp at h)
theorem escS_self {id t n m : Nat} {a : AV} : escS id [a,.bt 1 t (id + 1) n] (.ref id m) = []:=by
  unfold escS
  have e : decide (AV.top (.ref id m) ≤ AV.tops [a,.bt 1 t (id + 1) n]) = true:=by simp [AV.top,AV.tops]; omega
  rw [e]
  rfl
theorem escS_buf {id t t' i n n' : Nat} {a : AV} : escS id [a,.bt 1 t i n] (.bt 1 t' i n') = []:=by
  unfold escS
  have e : decide (AV.top (.bt 1 t' i n') ≤ AV.tops [a,.bt 1 t i n]) = true:=by simp [AV.top,AV.tops]; omega
  rw [e]
  rfl
def stE (sh : Sh) (id i off fz : Nat) (rsh : Sh) (xs : List PV) (v : PV) (h1 : Heap) : Option PV → Option (AV × Heap × Esc)
  | some (.agg cs)=>if off + v.cells.length ≤ cs.length then some (.und,h1.set id (.row rsh (xs.set i (.agg (splice cs off v.cells))) fz),[]) else none
  | some _=>if off = 0 ∧ v.sc then some (.und,h1.set id (.row rsh (xs.set i v) fz),[]) else none
  | none=>none
def stO (sh : Sh) (id g i off : Nat) (v : PV) (h1 : Heap) : Option Obj → Option (AV × Heap × Esc)
  | some (.row rsh xs fz)=>if g = xs.length ∧ fz ≤ i ∧ v.cells.length = shSize sh ∧ v.cells.all PV.sc then stE sh id i off fz rsh xs v h1 xs[i]? else none
  | _=>none
def stR (sh : Sh) (id g i off : Nat) : Option (PV × Heap) → Option (AV × Heap × Esc)
  | some y=>stO sh id g i off y.1 y.2 y.2[id]?
  | none=>none
theorem store_rref {sh : Sh} {id g i off : Nat} {x : AV} : oStore sh (.rref id g i off) x h = stR sh id g i off (pur h x):=by
  unfold oStore stR
  cases pur h x with
  | none=>rfl
  | some y=>
    obtain ⟨v,h1⟩:=y
    dsimp only
    unfold stO
    cases h1[id]? with
    | none=>rfl
    | some o=>cases o <;> rfl
theorem stR_some {sh : Sh} {id g i off : Nat} {v : PV} {h1 : Heap} : stR sh id g i off (some (v,h1)) = stO sh id g i off v h1 h1[id]?:=(rfl)
theorem stO_row {sh rsh : Sh} {id g i off fz : Nat} {v : PV} {h1 : Heap} {xs : List PV} : stO sh id g i off v h1 (some (.row rsh xs fz)) = if g = xs.length ∧ fz ≤ i ∧ v.cells.length = shSize sh ∧ v.cells.all PV.sc then stE sh id i off fz rsh xs v h1 xs[i]? else none:=(rfl)
theorem stE_agg {sh rsh : Sh} {id i off fz : Nat} {v : PV} {h1 : Heap} {xs cs : List PV} : stE sh id i off fz rsh xs v h1 (some (.agg cs)) = if off + v.cells.length ≤ cs.length then some (.und,h1.set id (.row rsh (xs.set i (.agg (splice cs off v.cells))) fz),[]) else none:=(rfl)
theorem stE_int {sh rsh : Sh} {id i off fz : Nat} {v : PV} {h1 : Heap} {xs : List PV} {k : IntKind} {n : Int} : stE sh id i off fz rsh xs v h1 (some (.int k n)) = if off = 0 ∧ v.sc then some (.und,h1.set id (.row rsh (xs.set i v) fz),[]) else none:=(rfl)
theorem stE_bool {sh rsh : Sh} {id i off fz : Nat} {v : PV} {h1 : Heap} {xs : List PV} {t : Bool} : stE sh id i off fz rsh xs v h1 (some (.bool t)) = if off = 0 ∧ v.sc then some (.und,h1.set id (.row rsh (xs.set i v) fz),[]) else none:=(rfl)
theorem stE_str {sh rsh : Sh} {id i off fz : Nat} {v : PV} {h1 : Heap} {xs : List PV} {s : List UInt8} : stE sh id i off fz rsh xs v h1 (some (.str s)) = if off = 0 ∧ v.sc then some (.und,h1.set id (.row rsh (xs.set i v) fz),[]) else none:=(rfl)
theorem stE_sl {sh rsh : Sh} {id i off fz : Nat} {v : PV} {h1 : Heap} {xs : List PV} {sh' : Sh} {ys : List PV} : stE sh id i off fz rsh xs v h1 (some (.sl sh' ys)) = if off = 0 ∧ v.sc then some (.und,h1.set id (.row rsh (xs.set i v) fz),[]) else none:=(rfl)
theorem stE_nilp {sh rsh : Sh} {id i off fz : Nat} {v : PV} {h1 : Heap} {xs : List PV}  : stE sh id i off fz rsh xs v h1 (some .nilp) = if off = 0 ∧ v.sc then some (.und,h1.set id (.row rsh (xs.set i v) fz),[]) else none:=(rfl)
theorem pur_p {v : PV} : pur h (.p v) = some (v,h):=(rfl)
def iaS (xs : List PV) : Option Nat → Option AV
  | some k=>(xs[k]?).map .vp
  | none=>none
theorem iaddr_sl {sh : Sh} {xs : List PV} {i : AV} : oIaddr sh (.p (.sl sh xs)) i h = iaS xs (natOf i):=by
  unfold oIaddr iaS; cases natOf i <;> simp
theorem iaS_some {xs : List PV} {n : Nat} : iaS xs (some n) = (xs[n]?).map .vp:=(rfl)
def iaO (sh : Sh) (id g off len : Nat) : Option Obj → Option Nat → Option AV
  | some (.row rsh xs _),some k=>if rsh = sh ∧ g = xs.length ∧ off + len ≤ xs.length ∧ k < len then some (.rref id g (off + k) 0) else none
  | _,_=>none
theorem iaddr_own {sh : Sh} {id g off len : Nat} {i : AV} : oIaddr sh (.own id g off len) i h = iaO sh id g off len h[id]? (natOf i):=by
  unfold oIaddr iaO
  cases natOf i with
  | none=>dsimp only; cases h[id]? with
    | none=>rfl
    | some o=>cases o <;> rfl
  | some k=>dsimp only; cases h[id]? with
    | none=>rfl
    | some o=>cases o <;> rfl
theorem iaO_row {sh rsh : Sh} {id g off len k fz : Nat} {xs : List PV} : iaO sh id g off len (some (.row rsh xs fz)) (some k) = if rsh = sh ∧ g = xs.length ∧ off + len ≤ xs.length ∧ k < len then some (.rref id g (off + k) 0) else none:=(rfl)
theorem idxs_s {i : AV} : oIdxs (.p (.str sa)) i = (natOf i).bind fun n=>(sa[n]?).map fun b=>.p (.int .u8 b.toNat):=by
  unfold oIdxs; cases natOf i <;> rfl
end
theorem alK_eq {z : List AV} {k : AV → Heap → Esc → Prop} : alK z h k = k (.ref h.length 0) (h ++ [.box z]) []:=(rfl)
theorem nwK_eq {sh : Sh} {k : AV → Heap → Esc → Prop} : nwK sh h k = k (.own h.length 0 0 0) (h ++ [.row sh [] 0]) []:=(rfl)
theorem mmK_eq {k : AV → Heap → Esc → Prop} : mmK h k = k (.mp h.length) (h ++ [.amap [] 0]) []:=(rfl)
theorem condU_true {A B : Prop} : condU (.p (.bool true)) A B = A:=(rfl)
theorem condU_false {A B : Prop} : condU (.p (.bool false)) A B = B:=(rfl)
theorem condU_any {A B : Prop} : condU .anyb A B = (A ∧ B):=(rfl)
theorem rowsUp_nil {h : Heap} : rowsUp [] h = ([],h):=(rfl)
theorem rowsUp_sl0 {h : Heap} {s : Sh} {r : List AV} : rowsUp (.sl0 s :: r) h = (.own h.length 0 0 0 :: (rowsUp r (h ++ [.row s [] 0])).1,(rowsUp r (h ++ [.row s [] 0])).2):=(rfl)
theorem rowsUp_p {h : Heap} {v : PV} {r : List AV} : rowsUp (.p v :: r) h = (.p v :: (rowsUp r h).1,(rowsUp r h).2):=(rfl)
attribute [go_sem] rowsUp_nil rowsUp_sl0 rowsUp_p
attribute [go_sem] seqN_normal seqN_exit seqN_ret blockN_normal blockN_same blockN_ret NW_scope pK_some pK_none wK_some wK_none pK_ite wK_ite gV_tt gV_ff gV_tf gV_ft gV_skp gP_tt gP_ff gP_tf gP_ft gP_skp gM_tt gM_ff gM_tf gM_ft gM_skp bin_add bin_sub bin_mul bin_quo bin_rem bin_and bin_or bin_xor bin_andNot bin_eql bin_neq bin_lss bin_leq bin_gtr bin_geq bin_shl bin_shr str_add str_eql str_neq str_lss str_leq str_gtr str_geq un_neg un_not convI nilref nilrref nilvp nilfn pick_b len_sl len_sl0 len_own lens_s ext_t faddr_ref faddr_rref faddr_vp field_p field_a load_ref load_rref load_vp ldB_box ldR_row store_ref stB_box store_rref stR_some stO_row stE_agg stE_int stE_bool stE_str stE_sl stE_nilp pur_p escS_p escS_box isBld_p isBld_sl0 isBld_own isBld_nilp isBld_0 isBld_1 isBld_3 escS_self escS_buf iaddr_sl iaS_some iaddr_own iaO_row idxs_s alK_eq nwK_eq mmK_eq unsOp sameB upcB neqB lenB n64 dataB strB appB rds rd oBox oBuild fillV oBsl fillW oEqa oIsnil nilAny condU_true condU_false condU_any nilOf oMkif okIn oConv oMksl bndV oSlstr oSlice oIaddra oIdxa oApp oCopy oClr oMx oMn oLook oMupd oMent oEstore oMdel oLenm oMrange oMentry
attribute [go_sem ↓] pK_some pK_none wK_some wK_none gV_tt gV_ff gV_tf gV_ft gV_skp gP_tt gP_ff gP_tf gP_ft gP_skp gM_tt gM_ff gM_tf gM_ft gM_skp condB_true condB_false wantK_tt wantK_ff wantK_tf wantK_ft wantK_skp seqN_normal seqN_exit seqN_ret blockN_normal blockN_same blockN_ret alK_eq nwK_eq mmK_eq loopK_normal loopK_exit loopK_ret scopeK_eq finR_normal finR_ret
attribute [go_sem low] gV_any gP_any gM_any blockN_exit
attribute [congr] seqN_congr blockN_congr NW_congr NLoop_congr pK_congr wK_congr gV_congr gP_congr gM_congr
end Go.Am
end
section
/- Short words for the printed code. -/
set_option linter.all false
namespace Go.Am
instance {n : Nat} : OfNat Opd n:=⟨.t n⟩
abbrev GL:=Nat → Option PV
abbrev KT:=Ex → St → Prop
def cI (n : Int) : Opd:=.c (.p (.int .i64 n))
def cT : Opd:=.c (.p (.bool true))
def cF : Opd:=.c (.p (.bool false))
def cS (s : List UInt8) : Opd:=.c (.p (.str s))
def uO (d : Nat) (o : AO) : AOp:=⟨some d,none,o⟩
def wO (o : AO) : AOp:=⟨none,none,o⟩
def gD (d g : Nat) (b : Bool) (o : AO) : AOp:=⟨some d,some (g,b),o⟩
def mV (d : Nat) (x : Opd) : AOp:=⟨some d,none,.mv x⟩
def bN (d : Nat) (b : BinOp) (x y : Opd) : AOp:=⟨some d,none,.bin b x y⟩
def cL (d f : Nat) (l : List Opd) : AOp:=⟨some d,none,.call f l⟩
def lD (d : Nat) (s : Sh) (x : Opd) : AOp:=⟨some d,none,.load s x⟩
def iA (d : Nat) (s : Sh) (x y : Opd) : AOp:=⟨some d,none,.iaddr s x y⟩
def fA (d o : Nat) (s : Sh) (x : Opd) : AOp:=⟨some d,none,.faddr o s x⟩
def lN (d : Nat) (x : Opd) : AOp:=⟨some d,none,.len x⟩
def eX (d : Nat) (x : Opd) (i : Nat) : AOp:=⟨some d,none,.ext x i⟩
def dF (o : AOp) (l : List Nat) : DOp:=⟨o,l,false,[],[]⟩
def dT (o : AOp) (l : List Nat) : DOp:=⟨o,l,true,[],[]⟩
def dA (o : AOp) (l : List Nat) (e : Bool) (a b : List Nat) : DOp:=⟨o,l,e,a,b⟩
def rg (l : List AOp) (k : List Nat) : ACode:=.reg l (some k)
def dr (l : List DOp) (k : List Nat) : ACode:=.draw l (some k)
end Go.Am
end
section
/- The functions asv abstract code,and asv formulas over their values: printed by program out of the translation. -/
set_option linter.unusedVariables false
set_option maxRecDepth 100000
namespace Go.Am
def p_q039_k1 : ACode:=.pr [3,4,5,6] (rg [mV 23 6,
bN 24 .add 23 (cI 1),
mV 6 24] [3,4,5,6])
def d_q039_k1 (C : Hd) (gl : GL) (v3 v4 v5 v6 : AV) (h : Heap) (x : Esc) (K : KT) : Prop:=
 pK (oBin .add v6 (AI 1)) fun t1=>
 K .normal ⟨[(3,v3),(4,v4),(5,v5),(6,t1)],h,x⟩
theorem e_q039_k1 {C gl e h x K} : NW C gl p_q039_k1 ⟨e,h,x⟩ K = d_q039_k1 C gl (aget e 3) (aget e 4) (aget e 5) (aget e 6) h x K:=by kernel_rfl
def P_q039_k2 (q1 : ACode) : ACode:=.pr [3,4,5,6] (.seq (.seq (rg [mV 21 6,
bN 22 .leq 21 (cI 6)] [3,4,5,6,22])
(.cond 22 .skip
(.exit 0)))
(.seq (.block 1 (.seq (rg [mV 25 3,
cL 26 f_q03u [25,(cI 2)]] [3,4,5,6,26])
(.cond 26 (rg [mV 27 5,
mV 28 6,
uO 29 (.bsl false none 1 (.int .i64 0) [(0,28)]),
uO 30 (.app none 27 29),
mV 5 30] [3,4,5,6])
.skip)))
q1))
def p_q039_k2 : ACode:=P_q039_k2 p_q039_k1
def d_q039_k2 (C : Hd) (gl : GL) (q1 : ACode) (v3 v4 v5 v6 : AV) (h : Heap) (x : Esc) (K : KT) : Prop:=
 pK (oBin .leq v6 (AI 6)) fun t1=>
 condB t1 (C f_q03u [v3,(AI 2)] h fun t2 h3 y4=>
 condB t2 (wK (oBsl false none 1 (.int .i64 0) [(0,v6)] h3) fun t5 h6 y7=>
 wK (oApp none v5 t5 h6) fun t8 h9 y10=>
 NW C gl q1 ⟨[(3,v3),(4,v4),(5,t8),(6,v6)],h9,(y10 ++ (y7 ++ (y4 ++ x)))⟩ K)
 (NW C gl q1 ⟨[(3,v3),(4,v4),(5,v5),(6,v6),(26,t2)],h3,(y4 ++ x)⟩ K))
 (K (.exit 0) ⟨[(3,v3),(4,v4),(5,v5),(6,v6),(22,t1)],h,x⟩)
theorem E_q039_k2 {C gl q1 e h x K} : NW C gl (P_q039_k2 q1) ⟨e,h,x⟩ K = d_q039_k2 C gl q1 (aget e 3) (aget e 4) (aget e 5) (aget e 6) h x K:=by kernel_rfl
theorem e_q039_k2 {C gl e h x K} : NW C gl p_q039_k2 ⟨e,h,x⟩ K = d_q039_k2 C gl p_q039_k1 (aget e 3) (aget e 4) (aget e 5) (aget e 6) h x K:=E_q039_k2
theorem l_q039_k2 {C gl e h x K} : NW C gl (.loop (.scope p_q039_k2)) ⟨e,h,x⟩ K = NLoop C gl (.scope p_q039_k2) K [(3,aget e 3),(4,aget e 4),(5,aget e 5),(6,aget e 6)] h x:=NLoop_sc
def p_q039_k3 : ACode:=.pr [4,5,7,61,62,63] (.seq (rg [bN 64 .lss 63 62] [4,5,7,61,62,63,64])
(.seq (.cond 64 .skip
(.exit 2))
(.seq (.block 3 (.seq (rg [mV 65 63,
iA 66 (some 2) 61 63,
lD 67 (some 2) 66,
uO 15 (.alloc [.p (.int .i64 0),.sl0 none]),
mV 14 65,
wO (.store (some 2) 15 67)] [4,5,7,14,15,61,62,63])
(.seq (rg [mV 68 4,
lD 69 (some 2) 15,
cL 70 f_q013 [68,69],
bN 71 .neq 70 (cI 0),
mV 72 71,
gD 73 72 false (.mv 5),
gD 74 72 false (.faddr 0 none 15),
gD 75 72 false (.load none 74),
gD 76 72 false (.call f_q05q [73,75]),
gD 77 72 false (.un .not 76),
uO 78 (.pick 72 cT 77),
mV 79 78,
gD 80 79 false (.mv 7),
gD 81 79 false (.mv 14),
gD 82 79 false (.slice (some 2) 80 none (some 81) none),
gD 83 79 false (.mkfn f_q03a [15]),
gD 84 79 false (.call f_q05n [82,83]),
uO 85 (.pick 79 cT 84)] [4,5,7,61,62,63,85])
(.cond 85 (.seq (rg [mV 2 cF] [2])
.ret)
.skip))))
(rg [bN 86 .add 63 (cI 1),
mV 63 86] [4,5,7,61,62,63]))))
def d_q039_k3 (C : Hd) (gl : GL) (v4 v5 v7 v61 v62 v63 : AV) (h : Heap) (x : Esc) (K : KT) : Prop:=
 pK (oBin .lss v63 v62) fun t1=>
 condB t1 (pK (oIaddr (some 2) v61 v63 h) fun t2=>
 pK (oLoad (some 2) t2 h) fun t3=>
 alK [.p (.int .i64 0),.sl0 none] h fun t4 h5 y6=>
 wK (oStore (some 2) t4 t3 h5) fun t7 h8 y9=>
 pK (oLoad (some 2) t4 h8) fun t10=>
 C f_q013 [v4,t10] h8 fun t11 h12 y13=>
 pK (oBin .neq t11 (AI 0)) fun t14=>
 gM t14 false v5 h12 fun t15 h16 y17=>
 gP t14 false (oFaddr 0 none t4) h16 fun t18 h19 y20=>
 gP t14 false (oLoad none t18 h19) h19 fun t21 h22 y23=>
 gV t14 false h22 (C f_q05q [t15,t21] h22) fun t24 h25 y26=>
 gP t14 false (oUn .not t24) h25 fun t27 h28 y29=>
 pK (oPick t14 (AB true) t27) fun t30=>
 gM t30 false v7 h28 fun t31 h32 y33=>
 gM t30 false v63 h32 fun t34 h35 y36=>
 gP t30 false (oSlice (some 2) t31 none (some t34) none h35) h35 fun t37 h38 y39=>
 gM t30 false (.fn f_q03a [t4]) h38 fun t40 h41 y42=>
 gV t30 false h41 (C f_q05n [t37,t40] h41) fun t43 h44 y45=>
 pK (oPick t30 (AB true) t43) fun t46=>
 condB t46 (K .ret ⟨[(2,(AB false))],h44,(y45 ++ (y42 ++ (y39 ++ (y36 ++ (y33 ++ (y29 ++ (y26 ++ (y23 ++ (y20 ++ (y17 ++ (y13 ++ (y9 ++ (y6 ++ x)))))))))))))⟩)
 (pK (oBin .add v63 (AI 1)) fun t47=>
 K .normal ⟨[(4,v4),(5,v5),(7,v7),(61,v61),(62,v62),(63,t47)],h44,(y45 ++ (y42 ++ (y39 ++ (y36 ++ (y33 ++ (y29 ++ (y26 ++ (y23 ++ (y20 ++ (y17 ++ (y13 ++ (y9 ++ (y6 ++ x)))))))))))))⟩))
 (K (.exit 2) ⟨[(4,v4),(5,v5),(7,v7),(61,v61),(62,v62),(63,v63),(64,t1)],h,x⟩)
theorem e_q039_k3 {C gl e h x K} : NW C gl p_q039_k3 ⟨e,h,x⟩ K = d_q039_k3 C gl (aget e 4) (aget e 5) (aget e 7) (aget e 61) (aget e 62) (aget e 63) h x K:=by kernel_rfl
theorem l_q039_k3 {C gl e h x K} : NW C gl (.loop (.scope p_q039_k3)) ⟨e,h,x⟩ K = NLoop C gl (.scope p_q039_k3) K [(4,aget e 4),(5,aget e 5),(7,aget e 7),(61,aget e 61),(62,aget e 62),(63,aget e 63)] h x:=NLoop_sc
def p_q039_k4 : ACode:=.pr [4,5,7] (.seq (rg [mV 87 5,
lN 88 87,
bN 89 .eql 88 (cI 0),
mV 90 89,
gD 91 90 false (.mv 4),
gD 92 90 false (.bin .eql 91 (cI 1)),
uO 93 (.pick 90 cT 92),
mV 94 93,
gD 95 94 false (.mv 7),
gD 96 94 false (.len 95),
gD 97 94 false (.bin .gtr 96 (cI 0)),
uO 98 (.pick 94 cT 97),
mV 99 98,
gD 100 99 true (.call f_q03f []),
uO 101 (.pick 99 100 cF),
mV 2 101] [2])
.ret)
def d_q039_k4 (C : Hd) (gl : GL) (v4 v5 v7 : AV) (h : Heap) (x : Esc) (K : KT) : Prop:=
 pK (oLen v5) fun t1=>
 pK (oBin .eql t1 (AI 0)) fun t2=>
 gM t2 false v4 h fun t3 h4 y5=>
 gP t2 false (oBin .eql t3 (AI 1)) h4 fun t6 h7 y8=>
 pK (oPick t2 (AB true) t6) fun t9=>
 gM t9 false v7 h7 fun t10 h11 y12=>
 gP t9 false (oLen t10) h11 fun t13 h14 y15=>
 gP t9 false (oBin .gtr t13 (AI 0)) h14 fun t16 h17 y18=>
 pK (oPick t9 (AB true) t16) fun t19=>
 gV t19 true h17 (C f_q03f [] h17) fun t20 h21 y22=>
 pK (oPick t19 t20 (AB false)) fun t23=>
 K .ret ⟨[(2,t23)],h21,(y22 ++ (y18 ++ (y15 ++ (y12 ++ (y8 ++ (y5 ++ x))))))⟩
theorem e_q039_k4 {C gl e h x K} : NW C gl p_q039_k4 ⟨e,h,x⟩ K = d_q039_k4 C gl (aget e 4) (aget e 5) (aget e 7) h x K:=by kernel_rfl
def P_q039_k5 (q3 q4 : ACode) : ACode:=.pr [4,5] (.seq (rg [mV 32 4,
mV 33 5,
cL 34 f_q012 [32,33],
mV 31 34,
eX 35 31 0,
eX 36 31 1,
mV 7 35,
mV 8 36] [4,5,7,8])
(.seq (rg [mV 38 7,
cL 39 f_q01g [38],
mV 37 39,
eX 40 37 0,
eX 41 37 1,
mV 9 40,
mV 10 41] [4,5,7,8,9,10])
(.seq (rg [mV 43 4,
mV 44 9,
cL 45 f_q01a [43,44],
mV 42 45,
eX 46 42 0,
eX 47 42 1,
eX 48 42 2,
mV 11 46,
mV 12 47,
mV 13 48] [4,5,7,8,10,11,13])
(.seq (.seq (rg [mV 49 8,
mV 50 10,
mV 51 13,
uO 52 (.bsl false none 3 (.int .i64 0) [(0,49),(1,50),(2,51)]),
cL 53 f_q03e [52],
bN 54 .neq 53 (cI 0),
mV 55 54,
gD 56 55 false (.mv 7),
gD 57 55 false (.mv 11),
gD 58 55 false (.call f_q05w [56,57,(.f f_q04s)]),
gD 59 55 false (.un .not 58),
uO 60 (.pick 55 cT 59)] [4,5,7,60])
(.cond 60 (.seq (rg [mV 2 cF] [2])
.ret)
.skip))
(.seq (.seq (rg [mV 61 7,
lN 62 61,
mV 63 (cI 0)] [4,5,7,61,62,63])
(.block 2 (.loop (.scope q3))))
q4)))))
def p_q039_k5 : ACode:=P_q039_k5 p_q039_k3 p_q039_k4
def d_q039_k5 (C : Hd) (gl : GL) (q3 q4 : ACode) (v4 v5 : AV) (h : Heap) (x : Esc) (K : KT) : Prop:=
 C f_q012 [v4,v5] h fun t1 h2 y3=>
 pK (oExt t1 0) fun t4=>
 pK (oExt t1 1) fun t5=>
 C f_q01g [t4] h2 fun t6 h7 y8=>
 pK (oExt t6 0) fun t9=>
 pK (oExt t6 1) fun t10=>
 C f_q01a [v4,t9] h7 fun t11 h12 y13=>
 pK (oExt t11 0) fun t14=>
 pK (oExt t11 1) fun t15=>
 pK (oExt t11 2) fun t16=>
 wK (oBsl false none 3 (.int .i64 0) [(0,t5),(1,t10),(2,t16)] h12) fun t17 h18 y19=>
 C f_q03e [t17] h18 fun t20 h21 y22=>
 pK (oBin .neq t20 (AI 0)) fun t23=>
 gM t23 false t4 h21 fun t24 h25 y26=>
 gM t23 false t14 h25 fun t27 h28 y29=>
 gV t23 false h28 (C f_q05w [t24,t27,(.fn f_q04s [])] h28) fun t30 h31 y32=>
 gP t23 false (oUn .not t30) h31 fun t33 h34 y35=>
 pK (oPick t23 (AB true) t33) fun t36=>
 condB t36 (K .ret ⟨[(2,(AB false))],h34,(y35 ++ (y32 ++ (y29 ++ (y26 ++ (y22 ++ (y19 ++ (y13 ++ (y8 ++ (y3 ++ x)))))))))⟩)
 (pK (oLen t4) fun t37=>
 NW C gl (.loop (.scope q3)) ⟨[(4,v4),(5,v5),(7,t4),(61,t4),(62,t37),(63,(AI 0))],h34,(y35 ++ (y32 ++ (y29 ++ (y26 ++ (y22 ++ (y19 ++ (y13 ++ (y8 ++ (y3 ++ x)))))))))⟩ (blockN 2 (seqN C gl q4 K)))
theorem E_q039_k5 {C gl q3 q4 e h x K} : NW C gl (P_q039_k5 q3 q4) ⟨e,h,x⟩ K = d_q039_k5 C gl q3 q4 (aget e 4) (aget e 5) h x K:=by kernel_rfl
theorem e_q039_k5 {C gl e h x K} : NW C gl p_q039_k5 ⟨e,h,x⟩ K = d_q039_k5 C gl p_q039_k3 p_q039_k4 (aget e 4) (aget e 5) h x K:=E_q039_k5
def P_q039 (q2 q5 : ACode) : ACode:=(.seq (rg [mV 2 cF] [0])
(.seq (rg [mV 16 0,
uO 17 (.build [.sl0 none,.p (.int .i64 0)] [(0,1,16)]),
uO 18 (.box 17),
mV 3 18] [3])
(.seq (rg [mV 19 3,
cL 20 f_q040 [19,(cI 1),(cI 5)],
mV 4 20] [3,4])
(.seq (rg [uO 5 (.new0 none)] [3,4,5])
(.seq (.seq (rg [mV 6 (cI 1)] [3,4,5,6])
(.block 0 (.loop (.scope q2))))
q5)))))
def a_q039 : AFun:=⟨1,[.t 2],P_q039 p_q039_k2 p_q039_k5,false,false⟩
def d_q039 (C : Hd) (gl : GL) (q2 q5 : ACode) (v0 : AV) (h : Heap) (x : Esc) (K : KT) : Prop:=
 pK (oBuild [.sl0 none,.p (.int .i64 0)] [(0,1,v0)]) fun t1=>
 wK (oBox t1 h) fun t2 h3 y4=>
 C f_q040 [t2,(AI 1),(AI 5)] h3 fun t5 h6 y7=>
 nwK none h6 fun t8 h9 y10=>
 NW C gl (.loop (.scope q2)) ⟨[(3,t2),(4,t5),(5,t8),(6,(AI 1))],h9,(y10 ++ (y7 ++ (y4 ++ x)))⟩ (blockN 0 (seqN C gl q5 K))
theorem E_q039 {C gl q2 q5 v0 h x K} : NW C gl (P_q039 q2 q5) ⟨enter [v0],h,x⟩ K = d_q039 C gl q2 q5 v0 h x K:=by kernel_rfl
theorem e_q039 {C gl v0 h x K} : NW C gl a_q039.body ⟨enter [v0],h,x⟩ K = d_q039 C gl p_q039_k2 p_q039_k5 v0 h x K:=E_q039
def p_q05x_k1 : ACode:=.pr [0,1,12,13] (.seq (rg [bN 14 .lss 13 12] [0,1,12,13,14])
(.seq (.cond 14 .skip
(.exit 0))
(.seq (.block 1 (.seq (rg [mV 15 13,
mV 5 15] [0,1,5,12,13])
(.seq (dr [dF (mV 16 0) [0],
dF (mV 17 5) [5],
dF (iA 18 none 16 17) [16,17],
dF (lD 19 none 18) [18],
dF (mV 20 1) [1],
dF (mV 21 5) [5],
dF (iA 22 none 20 21) [20,21],
dF (lD 23 none 22) [22],
dF (bN 24 .neq 19 23) [19,23]] [0,1,12,13,24])
(.cond 24 (.seq (rg [mV 4 cF] [4])
.ret)
.skip))))
(rg [bN 25 .add 13 (cI 1),
mV 13 25] [0,1,12,13]))))
def d_q05x_k1 (C : Hd) (gl : GL) (v0 v1 v12 v13 : AV) (h : Heap) (x : Esc) (K : KT) : Prop:=
 pK (oBin .lss v13 v12) fun t1=>
 condB t1 (pK (oIaddr none v0 v13 h) fun t2=>
 pK (oLoad none t2 h) fun t3=>
 pK (oIaddr none v1 v13 h) fun t4=>
 pK (oLoad none t4 h) fun t5=>
 pK (oBin .neq t3 t5) fun t6=>
 condB t6 (K .ret ⟨[(4,(AB false))],h,x⟩)
 (pK (oBin .add v13 (AI 1)) fun t7=>
 K .normal ⟨[(0,v0),(1,v1),(12,v12),(13,t7)],h,x⟩))
 (K (.exit 0) ⟨[(0,v0),(1,v1),(12,v12),(13,v13),(14,t1)],h,x⟩)
theorem e_q05x_k1 {C gl e h x K} : NW C gl p_q05x_k1 ⟨e,h,x⟩ K = d_q05x_k1 C gl (aget e 0) (aget e 1) (aget e 12) (aget e 13) h x K:=by kernel_rfl
theorem l_q05x_k1 {C gl e h x K} : NW C gl (.loop p_q05x_k1) ⟨e,h,x⟩ K = NLoop C gl p_q05x_k1 K [(0,aget e 0),(1,aget e 1),(12,aget e 12),(13,aget e 13)] h x:=NLoop_pr
def p_q05x_k2 : ACode:=.pr [] (.seq (rg [mV 4 cT] [4])
.ret)
def d_q05x_k2 (C : Hd) (gl : GL) (h : Heap) (x : Esc) (K : KT) : Prop:=
 K .ret ⟨[(4,(AB true))],h,x⟩
theorem e_q05x_k2 {C gl e h x K} : NW C gl p_q05x_k2 ⟨e,h,x⟩ K = d_q05x_k2 C gl h x K:=by kernel_rfl
def P_q05x (q1 q2 : ACode) : ACode:=(.seq (rg [mV 4 cF] [0,1])
(.seq (.seq (rg [mV 6 0,
lN 7 6,
mV 8 1,
lN 9 8,
bN 10 .neq 7 9] [0,1,10])
(.cond 10 (.seq (rg [mV 4 cF] [4])
.ret)
.skip))
(.seq (.seq (rg [mV 11 0,
lN 12 11,
mV 13 (cI 0)] [0,1,12,13])
(.block 0 (.loop q1)))
q2)))
def a_q05x : AFun:=⟨2,[.t 4],P_q05x p_q05x_k1 p_q05x_k2,false,false⟩
def d_q05x (C : Hd) (gl : GL) (q1 q2 : ACode) (v0 v1 : AV) (h : Heap) (x : Esc) (K : KT) : Prop:=
 pK (oLen v0) fun t1=>
 pK (oLen v1) fun t2=>
 pK (oBin .neq t1 t2) fun t3=>
 condB t3 (K .ret ⟨[(4,(AB false))],h,x⟩)
 (pK (oLen v0) fun t4=>
 NW C gl (.loop q1) ⟨[(0,v0),(1,v1),(12,t4),(13,(AI 0))],h,x⟩ (blockN 0 (seqN C gl q2 K)))
theorem E_q05x {C gl q1 q2 v0 v1 h x K} : NW C gl (P_q05x q1 q2) ⟨enter [v0,v1],h,x⟩ K = d_q05x C gl q1 q2 v0 v1 h x K:=by kernel_rfl
theorem e_q05x {C gl v0 v1 h x K} : NW C gl a_q05x.body ⟨enter [v0,v1],h,x⟩ K = d_q05x C gl p_q05x_k1 p_q05x_k2 v0 v1 h x K:=E_q05x
def P_q03u : ACode:=(.seq (rg [mV 4 cF] [0,1])
(.seq (rg [mV 5 0,
mV 6 1,
cL 7 f_q03w [5,6],
bN 8 .eql 7 (cI 0),
mV 4 8] [4])
.ret))
def a_q03u : AFun:=⟨2,[.t 4],P_q03u,false,false⟩
def d_q03u (C : Hd) (gl : GL) (v0 v1 : AV) (h : Heap) (x : Esc) (K : KT) : Prop:=
 C f_q03w [v0,v1] h fun t1 h2 y3=>
 pK (oBin .eql t1 (AI 0)) fun t4=>
 K .ret ⟨[(4,t4)],h2,(y3 ++ x)⟩
theorem e_q03u {C gl v0 v1 h x K} : NW C gl a_q03u.body ⟨enter [v0,v1],h,x⟩ K = d_q03u C gl v0 v1 h x K:=by kernel_rfl
def P_q040 : ACode:=(.seq (rg [mV 6 (cI 0)] [0,1,2])
(.seq (.seq (rg [mV 7 2,
mV 8 1,
bN 9 .lss 7 8] [0,1,2,9])
(.cond 9 (.seq (rg [mV 10 1,
mV 6 10] [6])
.ret)
.skip))
(.seq (rg [mV 11 1,
mV 12 0,
mV 13 2,
mV 14 1,
bN 15 .sub 13 14,
bN 16 .add 15 (cI 1),
cL 17 f_q03w [12,16],
bN 18 .add 11 17,
mV 6 18] [6])
.ret)))
def a_q040 : AFun:=⟨3,[.t 6],P_q040,false,false⟩
def d_q040 (C : Hd) (gl : GL) (v0 v1 v2 : AV) (h : Heap) (x : Esc) (K : KT) : Prop:=
 pK (oBin .lss v2 v1) fun t1=>
 condB t1 (K .ret ⟨[(6,v1)],h,x⟩)
 (pK (oBin .sub v2 v1) fun t2=>
 pK (oBin .add t2 (AI 1)) fun t3=>
 C f_q03w [v0,t3] h fun t4 h5 y6=>
 pK (oBin .add v1 t4) fun t7=>
 K .ret ⟨[(6,t7)],h5,(y6 ++ x)⟩)
theorem e_q040 {C gl v0 v1 v2 h x K} : NW C gl a_q040.body ⟨enter [v0,v1,v2],h,x⟩ K = d_q040 C gl v0 v1 v2 h x K:=by kernel_rfl
def p_q012_k1 : ACode:=.pr [0,7,9,10,18,19,20,24,25,38,39] (rg [bN 62 .add 39 (cI 1),
mV 39 62] [0,7,9,10,18,19,20,24,25,38,39])
def d_q012_k1 (C : Hd) (gl : GL) (v0 v7 v9 v10 v18 v19 v20 v24 v25 v38 v39 : AV) (h : Heap) (x : Esc) (K : KT) : Prop:=
 pK (oBin .add v39 (AI 1)) fun t1=>
 K .normal ⟨[(0,v0),(7,v7),(9,v9),(10,v10),(18,v18),(19,v19),(20,v20),(24,v24),(25,v25),(38,v38),(39,t1)],h,x⟩
theorem e_q012_k1 {C gl e h x K} : NW C gl p_q012_k1 ⟨e,h,x⟩ K = d_q012_k1 C gl (aget e 0) (aget e 7) (aget e 9) (aget e 10) (aget e 18) (aget e 19) (aget e 20) (aget e 24) (aget e 25) (aget e 38) (aget e 39) h x K:=by kernel_rfl
def P_q012_k2 (q1 : ACode) : ACode:=.pr [0,7,9,10,18,19,20,24,25,38,39] (.seq (rg [bN 40 .lss 39 38] [0,7,9,10,18,19,20,24,25,38,39,40])
(.seq (.cond 40 .skip
(.exit 4))
(.seq (.block 5 (.seq (rg [mV 41 39,
mV 11 41] [0,7,9,10,11,18,19,20,24,25,38,39])
(.seq (rg [mV 42 11,
mV 43 10,
bN 44 .gtr 42 43,
mV 45 44,
gD 46 45 false (.mv 11),
gD 47 45 false (.mv 10),
gD 48 45 false (.bin .lss 46 47),
gD 49 45 false (.mv 48),
gD 50 49 true (.mv 9),
gD 51 49 true (.bin .eql 50 (cI 5)),
gD 52 45 false (.pick 49 51 cF),
uO 53 (.pick 45 cT 52)] [0,7,9,10,11,18,19,20,24,25,38,39,53])
(.cond 53 (rg [mV 54 7,
mV 55 9,
mV 56 10,
mV 57 11,
uO 58 (.bsl false none 2 (.int .i64 0) [(0,56),(1,57)]),
uO 59 (.build [.p (.int .i64 0),.sl0 none] [(0,1,55),(1,1,58)]),
uO 60 (.bsl false (some 2) 1 (.agg [.int .i64 0,.sl none []]) [(0,59)]),
uO 61 (.app (some 2) 54 60),
mV 7 61] [0,7,9,10,18,19,20,24,25,38,39])
.skip))))
q1)))
def p_q012_k2 : ACode:=P_q012_k2 p_q012_k1
def d_q012_k2 (C : Hd) (gl : GL) (q1 : ACode) (v0 v7 v9 v10 v18 v19 v20 v24 v25 v38 v39 : AV) (h : Heap) (x : Esc) (K : KT) : Prop:=
 pK (oBin .lss v39 v38) fun t1=>
 condB t1 (pK (oBin .gtr v39 v10) fun t2=>
 gM t2 false v39 h fun t3 h4 y5=>
 gM t2 false v10 h4 fun t6 h7 y8=>
 gP t2 false (oBin .lss t3 t6) h7 fun t9 h10 y11=>
 gM t2 false t9 h10 fun t12 h13 y14=>
 gM t12 true v9 h13 fun t15 h16 y17=>
 gP t12 true (oBin .eql t15 (AI 5)) h16 fun t18 h19 y20=>
 gP t2 false (oPick t12 t18 (AB false)) h19 fun t21 h22 y23=>
 pK (oPick t2 (AB true) t21) fun t24=>
 condB t24 (wK (oBsl false none 2 (.int .i64 0) [(0,v10),(1,v39)] h22) fun t25 h26 y27=>
 pK (oBuild [.p (.int .i64 0),.sl0 none] [(0,1,v9),(1,1,t25)]) fun t28=>
 wK (oBsl false (some 2) 1 (.agg [.int .i64 0,.sl none []]) [(0,t28)] h26) fun t29 h30 y31=>
 wK (oApp (some 2) v7 t29 h30) fun t32 h33 y34=>
 NW C gl q1 ⟨[(0,v0),(7,t32),(9,v9),(10,v10),(18,v18),(19,v19),(20,v20),(24,v24),(25,v25),(38,v38),(39,v39)],h33,(y34 ++ (y31 ++ (y27 ++ (y23 ++ (y20 ++ (y17 ++ (y14 ++ (y11 ++ (y8 ++ (y5 ++ x))))))))))⟩ K)
 (NW C gl q1 ⟨[(0,v0),(7,v7),(9,v9),(10,v10),(11,v39),(18,v18),(19,v19),(20,v20),(24,v24),(25,v25),(38,v38),(39,v39),(53,t24)],h22,(y23 ++ (y20 ++ (y17 ++ (y14 ++ (y11 ++ (y8 ++ (y5 ++ x)))))))⟩ K))
 (K (.exit 4) ⟨[(0,v0),(7,v7),(9,v9),(10,v10),(18,v18),(19,v19),(20,v20),(24,v24),(25,v25),(38,v38),(39,v39),(40,t1)],h,x⟩)
theorem E_q012_k2 {C gl q1 e h x K} : NW C gl (P_q012_k2 q1) ⟨e,h,x⟩ K = d_q012_k2 C gl q1 (aget e 0) (aget e 7) (aget e 9) (aget e 10) (aget e 18) (aget e 19) (aget e 20) (aget e 24) (aget e 25) (aget e 38) (aget e 39) h x K:=by kernel_rfl
theorem e_q012_k2 {C gl e h x K} : NW C gl p_q012_k2 ⟨e,h,x⟩ K = d_q012_k2 C gl p_q012_k1 (aget e 0) (aget e 7) (aget e 9) (aget e 10) (aget e 18) (aget e 19) (aget e 20) (aget e 24) (aget e 25) (aget e 38) (aget e 39) h x K:=E_q012_k2
theorem l_q012_k2 {C gl e h x K} : NW C gl (.loop (.scope p_q012_k2)) ⟨e,h,x⟩ K = NLoop C gl (.scope p_q012_k2) K [(0,aget e 0),(7,aget e 7),(9,aget e 9),(10,aget e 10),(18,aget e 18),(19,aget e 19),(20,aget e 20),(24,aget e 24),(25,aget e 25),(38,aget e 38),(39,aget e 39)] h x:=NLoop_sc
def p_q012_k3 : ACode:=.pr [0,7,9,18,19,20,24,25] (rg [bN 63 .add 25 (cI 1),
mV 25 63] [0,7,9,18,19,20,24,25])
def d_q012_k3 (C : Hd) (gl : GL) (v0 v7 v9 v18 v19 v20 v24 v25 : AV) (h : Heap) (x : Esc) (K : KT) : Prop:=
 pK (oBin .add v25 (AI 1)) fun t1=>
 K .normal ⟨[(0,v0),(7,v7),(9,v9),(18,v18),(19,v19),(20,v20),(24,v24),(25,t1)],h,x⟩
theorem e_q012_k3 {C gl e h x K} : NW C gl p_q012_k3 ⟨e,h,x⟩ K = d_q012_k3 C gl (aget e 0) (aget e 7) (aget e 9) (aget e 18) (aget e 19) (aget e 20) (aget e 24) (aget e 25) h x K:=by kernel_rfl
def P_q012_k4 (q2 q3 : ACode) : ACode:=.pr [0,7,9,18,19,20,24,25] (.seq (rg [bN 26 .lss 25 24] [0,7,9,18,19,20,24,25,26])
(.seq (.cond 26 .skip
(.exit 2))
(.seq (.block 3 (.seq (rg [mV 27 25,
mV 10 27] [0,7,9,10,18,19,20,24,25])
(.seq (.seq (rg [mV 28 9,
cL 29 f_q01n [28],
uO 30 (.un .not 29)] [0,7,9,10,18,19,20,24,25,30])
(.cond 30 (.seq (rg [mV 31 7,
mV 32 9,
mV 33 10,
uO 34 (.bsl false none 1 (.int .i64 0) [(0,33)]),
uO 35 (.build [.p (.int .i64 0),.sl0 none] [(0,1,32),(1,1,34)]),
uO 36 (.bsl false (some 2) 1 (.agg [.int .i64 0,.sl none []]) [(0,35)]),
uO 37 (.app (some 2) 31 36),
mV 7 37] [0,7,9,18,19,20,24,25])
(.exit 3))
.skip))
(.seq (rg [mV 38 0,
mV 39 (cI 0)] [0,7,9,10,18,19,20,24,25,38,39])
(.block 4 (.loop (.scope q2)))))))
q3)))
def p_q012_k4 : ACode:=P_q012_k4 p_q012_k2 p_q012_k3
def d_q012_k4 (C : Hd) (gl : GL) (q2 q3 : ACode) (v0 v7 v9 v18 v19 v20 v24 v25 : AV) (h : Heap) (x : Esc) (K : KT) : Prop:=
 pK (oBin .lss v25 v24) fun t1=>
 condB t1 (C f_q01n [v9] h fun t2 h3 y4=>
 pK (oUn .not t2) fun t5=>
 condB t5 (wK (oBsl false none 1 (.int .i64 0) [(0,v25)] h3) fun t6 h7 y8=>
 pK (oBuild [.p (.int .i64 0),.sl0 none] [(0,1,v9),(1,1,t6)]) fun t9=>
 wK (oBsl false (some 2) 1 (.agg [.int .i64 0,.sl none []]) [(0,t9)] h7) fun t10 h11 y12=>
 wK (oApp (some 2) v7 t10 h11) fun t13 h14 y15=>
 NW C gl q3 ⟨[(0,v0),(7,t13),(9,v9),(18,v18),(19,v19),(20,v20),(24,v24),(25,v25)],h14,(y15 ++ (y12 ++ (y8 ++ (y4 ++ x))))⟩ K)
 (NW C gl (.loop (.scope q2)) ⟨[(0,v0),(7,v7),(9,v9),(10,v25),(18,v18),(19,v19),(20,v20),(24,v24),(25,v25),(38,v0),(39,(AI 0))],h3,(y4 ++ x)⟩ (blockN 4 (blockN 3 (seqN C gl q3 K)))))
 (K (.exit 2) ⟨[(0,v0),(7,v7),(9,v9),(18,v18),(19,v19),(20,v20),(24,v24),(25,v25),(26,t1)],h,x⟩)
theorem E_q012_k4 {C gl q2 q3 e h x K} : NW C gl (P_q012_k4 q2 q3) ⟨e,h,x⟩ K = d_q012_k4 C gl q2 q3 (aget e 0) (aget e 7) (aget e 9) (aget e 18) (aget e 19) (aget e 20) (aget e 24) (aget e 25) h x K:=by kernel_rfl
theorem e_q012_k4 {C gl e h x K} : NW C gl p_q012_k4 ⟨e,h,x⟩ K = d_q012_k4 C gl p_q012_k2 p_q012_k3 (aget e 0) (aget e 7) (aget e 9) (aget e 18) (aget e 19) (aget e 20) (aget e 24) (aget e 25) h x K:=E_q012_k4
theorem l_q012_k4 {C gl e h x K} : NW C gl (.loop (.scope p_q012_k4)) ⟨e,h,x⟩ K = NLoop C gl (.scope p_q012_k4) K [(0,aget e 0),(7,aget e 7),(9,aget e 9),(18,aget e 18),(19,aget e 19),(20,aget e 20),(24,aget e 24),(25,aget e 25)] h x:=NLoop_sc
def p_q012_k5 : ACode:=.pr [0,7,18,19,20] (rg [bN 64 .add 20 (cI 1),
mV 20 64] [0,7,18,19,20])
def d_q012_k5 (C : Hd) (gl : GL) (v0 v7 v18 v19 v20 : AV) (h : Heap) (x : Esc) (K : KT) : Prop:=
 pK (oBin .add v20 (AI 1)) fun t1=>
 K .normal ⟨[(0,v0),(7,v7),(18,v18),(19,v19),(20,t1)],h,x⟩
theorem e_q012_k5 {C gl e h x K} : NW C gl p_q012_k5 ⟨e,h,x⟩ K = d_q012_k5 C gl (aget e 0) (aget e 7) (aget e 18) (aget e 19) (aget e 20) h x K:=by kernel_rfl
def P_q012_k6 (q4 q5 : ACode) : ACode:=.pr [0,7,18,19,20] (.seq (rg [bN 21 .lss 20 19] [0,7,18,19,20,21])
(.seq (.cond 21 .skip
(.exit 0))
(.seq (.block 1 (.seq (rg [iA 22 none 18 20,
lD 23 none 22,
mV 9 23] [0,7,9,18,19,20])
(.seq (rg [mV 24 0,
mV 25 (cI 0)] [0,7,9,18,19,20,24,25])
(.block 2 (.loop (.scope q4))))))
q5)))
def p_q012_k6 : ACode:=P_q012_k6 p_q012_k4 p_q012_k5
def d_q012_k6 (C : Hd) (gl : GL) (q4 q5 : ACode) (v0 v7 v18 v19 v20 : AV) (h : Heap) (x : Esc) (K : KT) : Prop:=
 pK (oBin .lss v20 v19) fun t1=>
 condB t1 (pK (oIaddr none v18 v20 h) fun t2=>
 pK (oLoad none t2 h) fun t3=>
 NW C gl (.loop (.scope q4)) ⟨[(0,v0),(7,v7),(9,t3),(18,v18),(19,v19),(20,v20),(24,v0),(25,(AI 0))],h,x⟩ (blockN 2 (blockN 1 (seqN C gl q5 K))))
 (K (.exit 0) ⟨[(0,v0),(7,v7),(18,v18),(19,v19),(20,v20),(21,t1)],h,x⟩)
theorem E_q012_k6 {C gl q4 q5 e h x K} : NW C gl (P_q012_k6 q4 q5) ⟨e,h,x⟩ K = d_q012_k6 C gl q4 q5 (aget e 0) (aget e 7) (aget e 18) (aget e 19) (aget e 20) h x K:=by kernel_rfl
theorem e_q012_k6 {C gl e h x K} : NW C gl p_q012_k6 ⟨e,h,x⟩ K = d_q012_k6 C gl p_q012_k4 p_q012_k5 (aget e 0) (aget e 7) (aget e 18) (aget e 19) (aget e 20) h x K:=E_q012_k6
theorem l_q012_k6 {C gl e h x K} : NW C gl (.loop (.scope p_q012_k6)) ⟨e,h,x⟩ K = NLoop C gl (.scope p_q012_k6) K [(0,aget e 0),(7,aget e 7),(18,aget e 18),(19,aget e 19),(20,aget e 20)] h x:=NLoop_sc
def p_q012_k7 : ACode:=.pr [7] (.seq (.seq (rg [mV 65 7,
lN 66 65,
bN 67 .gtr 66 (cI 20000)] [7,67])
(.cond 67 (.seq (rg [mV 4 (.c (.p (.sl (some 2) []))),
mV 5 (cI 2)] [4,5])
.ret)
.skip))
(.seq (rg [mV 68 7,
mV 4 68,
mV 5 (cI 0)] [4,5])
.ret))
def d_q012_k7 (C : Hd) (gl : GL) (v7 : AV) (h : Heap) (x : Esc) (K : KT) : Prop:=
 pK (oLen v7) fun t1=>
 pK (oBin .gtr t1 (AI 20000)) fun t2=>
 condB t2 (K .ret ⟨[(4,(.p (.sl (some 2) []))),(5,(AI 2))],h,x⟩)
 (K .ret ⟨[(4,v7),(5,(AI 0))],h,x⟩)
theorem e_q012_k7 {C gl e h x K} : NW C gl p_q012_k7 ⟨e,h,x⟩ K = d_q012_k7 C gl (aget e 7) h x K:=by kernel_rfl
def P_q012 (q6 q7 : ACode) : ACode:=(.seq (rg [mV 4 (.c (.p (.sl (some 2) []))),
mV 5 (cI 0)] [0,1])
(.seq (.seq (rg [mV 12 0,
mV 13 1,
cL 14 f_q01o [12,13],
mV 6 14] [0,1,6])
(.seq (rg [mV 15 6,
bN 16 .neq 15 (cI 0)] [0,1,6,16])
(.cond 16 (.seq (rg [mV 17 6,
mV 4 (.c (.p (.sl (some 2) []))),
mV 5 17] [4,5])
.ret)
.skip)))
(.seq (rg [uO 7 (.new0 (some 2))] [0,1,7])
(.seq (.seq (rg [mV 18 1,
lN 19 18,
mV 20 (cI 0)] [0,7,18,19,20])
(.block 0 (.loop (.scope q6))))
q7))))
def a_q012 : AFun:=⟨2,[.t 4,.t 5],P_q012 p_q012_k6 p_q012_k7,false,false⟩
def d_q012 (C : Hd) (gl : GL) (q6 q7 : ACode) (v0 v1 : AV) (h : Heap) (x : Esc) (K : KT) : Prop:=
 C f_q01o [v0,v1] h fun t1 h2 y3=>
 pK (oBin .neq t1 (AI 0)) fun t4=>
 condB t4 (K .ret ⟨[(4,(.p (.sl (some 2) []))),(5,t1)],h2,(y3 ++ x)⟩)
 (nwK (some 2) h2 fun t5 h6 y7=>
 pK (oLen v1) fun t8=>
 NW C gl (.loop (.scope q6)) ⟨[(0,v0),(7,t5),(18,v1),(19,t8),(20,(AI 0))],h6,(y7 ++ (y3 ++ x))⟩ (blockN 0 (seqN C gl q7 K)))
theorem E_q012 {C gl q6 q7 v0 v1 h x K} : NW C gl (P_q012 q6 q7) ⟨enter [v0,v1],h,x⟩ K = d_q012 C gl q6 q7 v0 v1 h x K:=by kernel_rfl
theorem e_q012 {C gl v0 v1 h x K} : NW C gl a_q012.body ⟨enter [v0,v1],h,x⟩ K = d_q012 C gl p_q012_k6 p_q012_k7 v0 v1 h x K:=E_q012
def p_q05w_k1 : ACode:=.pr [1,2,15,16,17] (.seq (rg [bN 18 .lss 17 16] [1,2,15,16,17,18])
(.seq (.cond 18 .skip
(.exit 0))
(.seq (.block 1 (.seq (rg [mV 19 17,
iA 20 (some 2) 15 17,
lD 21 (some 2) 20,
uO 8 (.alloc [.p (.int .i64 0),.sl0 none]),
mV 7 19,
wO (.store (some 2) 8 21)] [1,2,7,8,15,16,17])
(.seq (rg [mV 22 1,
mV 23 7,
iA 24 (some 2) 22 23,
lD 25 (some 2) 24,
uO 9 (.alloc [.p (.int .i64 0),.sl0 none]),
wO (.store (some 2) 9 25)] [1,2,8,9,15,16,17])
(.seq (rg [mV 26 2,
lD 27 (some 2) 8,
lD 28 (some 2) 9,
uO 29 (.callv 26 [27,28]),
uO 30 (.un .not 29)] [1,2,15,16,17,30])
(.cond 30 (.seq (rg [mV 6 cF] [6])
.ret)
.skip)))))
(rg [bN 31 .add 17 (cI 1),
mV 17 31] [1,2,15,16,17]))))
def d_q05w_k1 (C : Hd) (gl : GL) (v1 v2 v15 v16 v17 : AV) (h : Heap) (x : Esc) (K : KT) : Prop:=
 pK (oBin .lss v17 v16) fun t1=>
 condB t1 (pK (oIaddr (some 2) v15 v17 h) fun t2=>
 pK (oLoad (some 2) t2 h) fun t3=>
 alK [.p (.int .i64 0),.sl0 none] h fun t4 h5 y6=>
 wK (oStore (some 2) t4 t3 h5) fun t7 h8 y9=>
 pK (oIaddr (some 2) v1 v17 h8) fun t10=>
 pK (oLoad (some 2) t10 h8) fun t11=>
 alK [.p (.int .i64 0),.sl0 none] h8 fun t12 h13 y14=>
 wK (oStore (some 2) t12 t11 h13) fun t15 h16 y17=>
 pK (oLoad (some 2) t4 h16) fun t18=>
 pK (oLoad (some 2) t12 h16) fun t19=>
 callvK C v2 [t18,t19] h16 fun t20 h21 y22=>
 pK (oUn .not t20) fun t23=>
 condB t23 (K .ret ⟨[(6,(AB false))],h21,(y22 ++ (y17 ++ (y14 ++ (y9 ++ (y6 ++ x)))))⟩)
 (pK (oBin .add v17 (AI 1)) fun t24=>
 K .normal ⟨[(1,v1),(2,v2),(15,v15),(16,v16),(17,t24)],h21,(y22 ++ (y17 ++ (y14 ++ (y9 ++ (y6 ++ x)))))⟩))
 (K (.exit 0) ⟨[(1,v1),(2,v2),(15,v15),(16,v16),(17,v17),(18,t1)],h,x⟩)
theorem e_q05w_k1 {C gl e h x K} : NW C gl p_q05w_k1 ⟨e,h,x⟩ K = d_q05w_k1 C gl (aget e 1) (aget e 2) (aget e 15) (aget e 16) (aget e 17) h x K:=by kernel_rfl
theorem l_q05w_k1 {C gl e h x K} : NW C gl (.loop (.scope p_q05w_k1)) ⟨e,h,x⟩ K = NLoop C gl (.scope p_q05w_k1) K [(1,aget e 1),(2,aget e 2),(15,aget e 15),(16,aget e 16),(17,aget e 17)] h x:=NLoop_sc
def p_q05w_k2 : ACode:=.pr [] (.seq (rg [mV 6 cT] [6])
.ret)
def d_q05w_k2 (C : Hd) (gl : GL) (h : Heap) (x : Esc) (K : KT) : Prop:=
 K .ret ⟨[(6,(AB true))],h,x⟩
theorem e_q05w_k2 {C gl e h x K} : NW C gl p_q05w_k2 ⟨e,h,x⟩ K = d_q05w_k2 C gl h x K:=by kernel_rfl
def P_q05w (q1 q2 : ACode) : ACode:=(.seq (rg [mV 6 cF] [0,1,2])
(.seq (.seq (rg [mV 10 0,
lN 11 10,
mV 12 1,
lN 13 12,
bN 14 .neq 11 13] [0,1,2,14])
(.cond 14 (.seq (rg [mV 6 cF] [6])
.ret)
.skip))
(.seq (.seq (rg [mV 15 0,
lN 16 15,
mV 17 (cI 0)] [1,2,15,16,17])
(.block 0 (.loop (.scope q1))))
q2)))
def a_q05w : AFun:=⟨3,[.t 6],P_q05w p_q05w_k1 p_q05w_k2,false,false⟩
def d_q05w (C : Hd) (gl : GL) (q1 q2 : ACode) (v0 v1 v2 : AV) (h : Heap) (x : Esc) (K : KT) : Prop:=
 pK (oLen v0) fun t1=>
 pK (oLen v1) fun t2=>
 pK (oBin .neq t1 t2) fun t3=>
 condB t3 (K .ret ⟨[(6,(AB false))],h,x⟩)
 (pK (oLen v0) fun t4=>
 NW C gl (.loop (.scope q1)) ⟨[(1,v1),(2,v2),(15,v0),(16,t4),(17,(AI 0))],h,x⟩ (blockN 0 (seqN C gl q2 K)))
theorem E_q05w {C gl q1 q2 v0 v1 v2 h x K} : NW C gl (P_q05w q1 q2) ⟨enter [v0,v1,v2],h,x⟩ K = d_q05w C gl q1 q2 v0 v1 v2 h x K:=by kernel_rfl
theorem e_q05w {C gl v0 v1 v2 h x K} : NW C gl a_q05w.body ⟨enter [v0,v1,v2],h,x⟩ K = d_q05w C gl p_q05w_k1 p_q05w_k2 v0 v1 v2 h x K:=E_q05w
def P_q04s : ACode:=(.seq (rg [uO 2 (.box 0),
uO 3 (.box 1),
mV 4 cF] [2,3])
(.seq (rg [fA 5 0 none 2,
lD 6 none 5,
fA 7 0 none 3,
lD 8 none 7,
bN 9 .eql 6 8,
mV 10 9,
gD 11 10 true (.faddr 1 none 2),
gD 12 10 true (.load none 11),
gD 13 10 true (.faddr 1 none 3),
gD 14 10 true (.load none 13),
gD 15 10 true (.call f_q05x [12,14]),
uO 16 (.pick 10 15 cF),
mV 4 16] [4])
.ret))
def a_q04s : AFun:=⟨2,[.t 4],P_q04s,false,false⟩
def d_q04s (C : Hd) (gl : GL) (v0 v1 : AV) (h : Heap) (x : Esc) (K : KT) : Prop:=
 wK (oBox v0 h) fun t1 h2 y3=>
 wK (oBox v1 h2) fun t4 h5 y6=>
 pK (oFaddr 0 none t1) fun t7=>
 pK (oLoad none t7 h5) fun t8=>
 pK (oFaddr 0 none t4) fun t9=>
 pK (oLoad none t9 h5) fun t10=>
 pK (oBin .eql t8 t10) fun t11=>
 gP t11 true (oFaddr 1 none t1) h5 fun t12 h13 y14=>
 gP t11 true (oLoad none t12 h13) h13 fun t15 h16 y17=>
 gP t11 true (oFaddr 1 none t4) h16 fun t18 h19 y20=>
 gP t11 true (oLoad none t18 h19) h19 fun t21 h22 y23=>
 gV t11 true h22 (C f_q05x [t15,t21] h22) fun t24 h25 y26=>
 pK (oPick t11 t24 (AB false)) fun t27=>
 K .ret ⟨[(4,t27)],h25,(y26 ++ (y23 ++ (y20 ++ (y17 ++ (y14 ++ (y6 ++ (y3 ++ x)))))))⟩
theorem e_q04s {C gl v0 v1 h x K} : NW C gl a_q04s.body ⟨enter [v0,v1],h,x⟩ K = d_q04s C gl v0 v1 h x K:=by kernel_rfl
def p_q01g_k1 : ACode:=.pr [0,15,16,17] (.seq (rg [bN 18 .lss 17 16] [0,15,16,17,18])
(.seq (.cond 18 .skip
(.exit 0))
(.seq (.block 1 (.seq (rg [iA 19 (some 2) 15 17,
lD 20 (some 2) 19,
uO 5 (.alloc [.p (.int .i64 0),.sl0 none]),
wO (.store (some 2) 5 20)] [0,5,15,16,17])
(.seq (rg [lD 21 (some 2) 5,
cL 22 f_q013 [(cI 100),21],
mV 6 22] [0,6,15,16,17])
(.seq (rg [mV 23 6,
bN 24 .neq 23 (cI 0)] [0,6,15,16,17,24])
(.cond 24 (.seq (rg [mV 25 6,
mV 2 (cS []),
mV 3 25] [2,3])
.ret)
.skip)))))
(rg [bN 26 .add 17 (cI 1),
mV 17 26] [0,15,16,17]))))
def d_q01g_k1 (C : Hd) (gl : GL) (v0 v15 v16 v17 : AV) (h : Heap) (x : Esc) (K : KT) : Prop:=
 pK (oBin .lss v17 v16) fun t1=>
 condB t1 (pK (oIaddr (some 2) v15 v17 h) fun t2=>
 pK (oLoad (some 2) t2 h) fun t3=>
 alK [.p (.int .i64 0),.sl0 none] h fun t4 h5 y6=>
 wK (oStore (some 2) t4 t3 h5) fun t7 h8 y9=>
 pK (oLoad (some 2) t4 h8) fun t10=>
 C f_q013 [(AI 100),t10] h8 fun t11 h12 y13=>
 pK (oBin .neq t11 (AI 0)) fun t14=>
 condB t14 (K .ret ⟨[(2,(.p (.str []))),(3,t11)],h12,(y13 ++ (y9 ++ (y6 ++ x)))⟩)
 (pK (oBin .add v17 (AI 1)) fun t15=>
 K .normal ⟨[(0,v0),(15,v15),(16,v16),(17,t15)],h12,(y13 ++ (y9 ++ (y6 ++ x)))⟩))
 (K (.exit 0) ⟨[(0,v0),(15,v15),(16,v16),(17,v17),(18,t1)],h,x⟩)
theorem e_q01g_k1 {C gl e h x K} : NW C gl p_q01g_k1 ⟨e,h,x⟩ K = d_q01g_k1 C gl (aget e 0) (aget e 15) (aget e 16) (aget e 17) h x K:=by kernel_rfl
theorem l_q01g_k1 {C gl e h x K} : NW C gl (.loop (.scope p_q01g_k1)) ⟨e,h,x⟩ K = NLoop C gl (.scope p_q01g_k1) K [(0,aget e 0),(15,aget e 15),(16,aget e 16),(17,aget e 17)] h x:=NLoop_sc
def p_q01g_k2 : ACode:=.pr [7,27,28,29,38,39,40] (.seq (rg [bN 41 .lss 40 39] [7,27,28,29,38,39,40,41])
(.seq (.cond 41 .skip
(.exit 4))
(.seq (.block 5 (.seq (rg [iA 42 none 38 40,
lD 43 none 42,
mV 11 43] [7,11,27,28,29,38,39,40])
(rg [mV 44 11,
cL 45 f_q07q [44],
bN 46 .add (cS [32]) 45,
cL 47 f_q080 [7,46]] [7,27,28,29,38,39,40])))
(rg [bN 48 .add 40 (cI 1),
mV 40 48] [7,27,28,29,38,39,40]))))
def d_q01g_k2 (C : Hd) (gl : GL) (v7 v27 v28 v29 v38 v39 v40 : AV) (h : Heap) (x : Esc) (K : KT) : Prop:=
 pK (oBin .lss v40 v39) fun t1=>
 condB t1 (pK (oIaddr none v38 v40 h) fun t2=>
 pK (oLoad none t2 h) fun t3=>
 C f_q07q [t3] h fun t4 h5 y6=>
 pK (oBin .add (.p (.str [32])) t4) fun t7=>
 C f_q080 [v7,t7] h5 fun t8 h9 y10=>
 pK (oBin .add v40 (AI 1)) fun t11=>
 K .normal ⟨[(7,v7),(27,v27),(28,v28),(29,v29),(38,v38),(39,v39),(40,t11)],h9,(y10 ++ (y6 ++ x))⟩)
 (K (.exit 4) ⟨[(7,v7),(27,v27),(28,v28),(29,v29),(38,v38),(39,v39),(40,v40),(41,t1)],h,x⟩)
theorem e_q01g_k2 {C gl e h x K} : NW C gl p_q01g_k2 ⟨e,h,x⟩ K = d_q01g_k2 C gl (aget e 7) (aget e 27) (aget e 28) (aget e 29) (aget e 38) (aget e 39) (aget e 40) h x K:=by kernel_rfl
theorem l_q01g_k2 {C gl e h x K} : NW C gl (.loop p_q01g_k2) ⟨e,h,x⟩ K = NLoop C gl p_q01g_k2 K [(7,aget e 7),(27,aget e 27),(28,aget e 28),(29,aget e 29),(38,aget e 38),(39,aget e 39),(40,aget e 40)] h x:=NLoop_pr
def p_q01g_k3 : ACode:=.pr [7,27,28,29] (rg [cL 49 f_q07z [7,(.c (.p (.int .u8 10)))]] [7,27,28,29])
def d_q01g_k3 (C : Hd) (gl : GL) (v7 v27 v28 v29 : AV) (h : Heap) (x : Esc) (K : KT) : Prop:=
 C f_q07z [v7,(.p (.int .u8 10))] h fun t1 h2 y3=>
 K .normal ⟨[(7,v7),(27,v27),(28,v28),(29,v29)],h2,(y3 ++ x)⟩
theorem e_q01g_k3 {C gl e h x K} : NW C gl p_q01g_k3 ⟨e,h,x⟩ K = d_q01g_k3 C gl (aget e 7) (aget e 27) (aget e 28) (aget e 29) h x K:=by kernel_rfl
def p_q01g_k4 : ACode:=.pr [7,27,28,29] (rg [bN 50 .add 29 (cI 1),
mV 29 50] [7,27,28,29])
def d_q01g_k4 (C : Hd) (gl : GL) (v7 v27 v28 v29 : AV) (h : Heap) (x : Esc) (K : KT) : Prop:=
 pK (oBin .add v29 (AI 1)) fun t1=>
 K .normal ⟨[(7,v7),(27,v27),(28,v28),(29,t1)],h,x⟩
theorem e_q01g_k4 {C gl e h x K} : NW C gl p_q01g_k4 ⟨e,h,x⟩ K = d_q01g_k4 C gl (aget e 7) (aget e 27) (aget e 28) (aget e 29) h x K:=by kernel_rfl
def P_q01g_k5 (q2 q3 q4 : ACode) : ACode:=.pr [7,27,28,29] (.seq (rg [bN 30 .lss 29 28] [7,27,28,29,30])
(.seq (.cond 30 .skip
(.exit 2))
(.seq (.block 3 (.seq (rg [iA 31 (some 2) 27 29,
lD 32 (some 2) 31,
uO 9 (.alloc [.p (.int .i64 0),.sl0 none]),
wO (.store (some 2) 9 32)] [7,9,27,28,29])
(.seq (rg [fA 33 0 none 9,
lD 34 none 33,
cL 35 f_q01x [34],
cL 36 f_q080 [7,35]] [7,9,27,28,29])
(.seq (.seq (rg [fA 37 1 none 9,
lD 38 none 37,
lN 39 38,
mV 40 (cI 0)] [7,27,28,29,38,39,40])
(.block 4 (.loop q2)))
q3))))
q4)))
def p_q01g_k5 : ACode:=P_q01g_k5 p_q01g_k2 p_q01g_k3 p_q01g_k4
def d_q01g_k5 (C : Hd) (gl : GL) (q2 q3 q4 : ACode) (v7 v27 v28 v29 : AV) (h : Heap) (x : Esc) (K : KT) : Prop:=
 pK (oBin .lss v29 v28) fun t1=>
 condB t1 (pK (oIaddr (some 2) v27 v29 h) fun t2=>
 pK (oLoad (some 2) t2 h) fun t3=>
 alK [.p (.int .i64 0),.sl0 none] h fun t4 h5 y6=>
 wK (oStore (some 2) t4 t3 h5) fun t7 h8 y9=>
 pK (oFaddr 0 none t4) fun t10=>
 pK (oLoad none t10 h8) fun t11=>
 C f_q01x [t11] h8 fun t12 h13 y14=>
 C f_q080 [v7,t12] h13 fun t15 h16 y17=>
 pK (oFaddr 1 none t4) fun t18=>
 pK (oLoad none t18 h16) fun t19=>
 pK (oLen t19) fun t20=>
 NW C gl (.loop q2) ⟨[(7,v7),(27,v27),(28,v28),(29,v29),(38,t19),(39,t20),(40,(AI 0))],h16,(y17 ++ (y14 ++ (y9 ++ (y6 ++ x))))⟩ (blockN 4 (seqN C gl q3 (blockN 3 (seqN C gl q4 K)))))
 (K (.exit 2) ⟨[(7,v7),(27,v27),(28,v28),(29,v29),(30,t1)],h,x⟩)
theorem E_q01g_k5 {C gl q2 q3 q4 e h x K} : NW C gl (P_q01g_k5 q2 q3 q4) ⟨e,h,x⟩ K = d_q01g_k5 C gl q2 q3 q4 (aget e 7) (aget e 27) (aget e 28) (aget e 29) h x K:=by kernel_rfl
theorem e_q01g_k5 {C gl e h x K} : NW C gl p_q01g_k5 ⟨e,h,x⟩ K = d_q01g_k5 C gl p_q01g_k2 p_q01g_k3 p_q01g_k4 (aget e 7) (aget e 27) (aget e 28) (aget e 29) h x K:=E_q01g_k5
theorem l_q01g_k5 {C gl e h x K} : NW C gl (.loop (.scope p_q01g_k5)) ⟨e,h,x⟩ K = NLoop C gl (.scope p_q01g_k5) K [(7,aget e 7),(27,aget e 27),(28,aget e 28),(29,aget e 29)] h x:=NLoop_sc
def p_q01g_k6 : ACode:=.pr [7] (.seq (.seq (rg [cL 51 f_q07x [7],
bN 52 .gtr 51 (cI 200000)] [7,52])
(.cond 52 (.seq (rg [mV 2 (cS []),
mV 3 (cI 2)] [2,3])
.ret)
.skip))
(.seq (rg [cL 53 f_q07y [7],
mV 2 53,
mV 3 (cI 0)] [2,3])
.ret))
def d_q01g_k6 (C : Hd) (gl : GL) (v7 : AV) (h : Heap) (x : Esc) (K : KT) : Prop:=
 C f_q07x [v7] h fun t1 h2 y3=>
 pK (oBin .gtr t1 (AI 200000)) fun t4=>
 condB t4 (K .ret ⟨[(2,(.p (.str []))),(3,(AI 2))],h2,(y3 ++ x)⟩)
 (C f_q07y [v7] h2 fun t5 h6 y7=>
 K .ret ⟨[(2,t5),(3,(AI 0))],h6,(y7 ++ (y3 ++ x))⟩)
theorem e_q01g_k6 {C gl e h x K} : NW C gl p_q01g_k6 ⟨e,h,x⟩ K = d_q01g_k6 C gl (aget e 7) h x K:=by kernel_rfl
def P_q01g_k7 (q5 q6 : ACode) : ACode:=.pr [0] (.seq (rg [uO 7 (.uns 0 111 [(cI 5)])] [0,7])
(.seq (.seq (rg [mV 27 0,
lN 28 27,
mV 29 (cI 0)] [7,27,28,29])
(.block 2 (.loop (.scope q5))))
q6))
def p_q01g_k7 : ACode:=P_q01g_k7 p_q01g_k5 p_q01g_k6
def d_q01g_k7 (C : Hd) (gl : GL) (q5 q6 : ACode) (v0 : AV) (h : Heap) (x : Esc) (K : KT) : Prop:=
 wK (unsOp 0 111 [(AI 5)] h) fun t1 h2 y3=>
 pK (oLen v0) fun t4=>
 NW C gl (.loop (.scope q5)) ⟨[(7,t1),(27,v0),(28,t4),(29,(AI 0))],h2,(y3 ++ x)⟩ (blockN 2 (seqN C gl q6 K))
theorem E_q01g_k7 {C gl q5 q6 e h x K} : NW C gl (P_q01g_k7 q5 q6) ⟨e,h,x⟩ K = d_q01g_k7 C gl q5 q6 (aget e 0) h x K:=by kernel_rfl
theorem e_q01g_k7 {C gl e h x K} : NW C gl p_q01g_k7 ⟨e,h,x⟩ K = d_q01g_k7 C gl p_q01g_k5 p_q01g_k6 (aget e 0) h x K:=E_q01g_k7
def P_q01g (q1 q7 : ACode) : ACode:=(.seq (rg [mV 2 (cS []),
mV 3 (cI 0)] [0])
(.seq (.seq (rg [mV 12 0,
lN 13 12,
bN 14 .gtr 13 (cI 20000)] [0,14])
(.cond 14 (.seq (rg [mV 2 (cS []),
mV 3 (cI 2)] [2,3])
.ret)
.skip))
(.seq (.seq (rg [mV 15 0,
lN 16 15,
mV 17 (cI 0)] [0,15,16,17])
(.block 0 (.loop (.scope q1))))
q7)))
def a_q01g : AFun:=⟨1,[.t 2,.t 3],P_q01g p_q01g_k1 p_q01g_k7,false,false⟩
def d_q01g (C : Hd) (gl : GL) (q1 q7 : ACode) (v0 : AV) (h : Heap) (x : Esc) (K : KT) : Prop:=
 pK (oLen v0) fun t1=>
 pK (oBin .gtr t1 (AI 20000)) fun t2=>
 condB t2 (K .ret ⟨[(2,(.p (.str []))),(3,(AI 2))],h,x⟩)
 (pK (oLen v0) fun t3=>
 NW C gl (.loop (.scope q1)) ⟨[(0,v0),(15,v0),(16,t3),(17,(AI 0))],h,x⟩ (blockN 0 (seqN C gl q7 K)))
theorem E_q01g {C gl q1 q7 v0 h x K} : NW C gl (P_q01g q1 q7) ⟨enter [v0],h,x⟩ K = d_q01g C gl q1 q7 v0 h x K:=by kernel_rfl
theorem e_q01g {C gl v0 h x K} : NW C gl a_q01g.body ⟨enter [v0],h,x⟩ K = d_q01g C gl p_q01g_k1 p_q01g_k7 v0 h x K:=E_q01g
def p_q01a_k1 : ACode:=.pr [0,7,34,35,36] (.seq (rg [bN 37 .lss 36 35] [0,7,34,35,36,37])
(.seq (.cond 37 .skip
(.exit 2))
(.seq (.block 3 (.seq (rg [iA 38 (some 2) 34 36,
lD 39 (some 2) 38,
uO 11 (.alloc [.p (.int .i64 0),.sl0 none]),
wO (.store (some 2) 11 39)] [0,7,11,34,35,36])
(.seq (rg [mV 40 0,
lD 41 (some 2) 11,
cL 42 f_q013 [40,41],
mV 12 42] [0,7,12,34,35,36])
(.seq (rg [mV 43 12,
bN 44 .neq 43 (cI 0)] [0,7,12,34,35,36,44])
(.cond 44 (.seq (rg [mV 45 12,
mV 4 (.c (.p (.sl (some 2) []))),
mV 5 (cI 0),
mV 6 45] [4,5,6])
.ret)
.skip)))))
(rg [bN 46 .add 36 (cI 1),
mV 36 46] [0,7,34,35,36]))))
def d_q01a_k1 (C : Hd) (gl : GL) (v0 v7 v34 v35 v36 : AV) (h : Heap) (x : Esc) (K : KT) : Prop:=
 pK (oBin .lss v36 v35) fun t1=>
 condB t1 (pK (oIaddr (some 2) v34 v36 h) fun t2=>
 pK (oLoad (some 2) t2 h) fun t3=>
 alK [.p (.int .i64 0),.sl0 none] h fun t4 h5 y6=>
 wK (oStore (some 2) t4 t3 h5) fun t7 h8 y9=>
 pK (oLoad (some 2) t4 h8) fun t10=>
 C f_q013 [v0,t10] h8 fun t11 h12 y13=>
 pK (oBin .neq t11 (AI 0)) fun t14=>
 condB t14 (K .ret ⟨[(4,(.p (.sl (some 2) []))),(5,(AI 0)),(6,t11)],h12,(y13 ++ (y9 ++ (y6 ++ x)))⟩)
 (pK (oBin .add v36 (AI 1)) fun t15=>
 K .normal ⟨[(0,v0),(7,v7),(34,v34),(35,v35),(36,t15)],h12,(y13 ++ (y9 ++ (y6 ++ x)))⟩))
 (K (.exit 2) ⟨[(0,v0),(7,v7),(34,v34),(35,v35),(36,v36),(37,t1)],h,x⟩)
theorem e_q01a_k1 {C gl e h x K} : NW C gl p_q01a_k1 ⟨e,h,x⟩ K = d_q01a_k1 C gl (aget e 0) (aget e 7) (aget e 34) (aget e 35) (aget e 36) h x K:=by kernel_rfl
theorem l_q01a_k1 {C gl e h x K} : NW C gl (.loop (.scope p_q01a_k1)) ⟨e,h,x⟩ K = NLoop C gl (.scope p_q01a_k1) K [(0,aget e 0),(7,aget e 7),(34,aget e 34),(35,aget e 35),(36,aget e 36)] h x:=NLoop_sc
def p_q01a_k2 : ACode:=.pr [7] (.seq (rg [lD 47 none 7,
mV 4 47,
mV 5 (cI 0),
mV 6 (cI 0)] [4,5,6])
.ret)
def d_q01a_k2 (C : Hd) (gl : GL) (v7 : AV) (h : Heap) (x : Esc) (K : KT) : Prop:=
 pK (oLoad none v7 h) fun t1=>
 K .ret ⟨[(4,t1),(5,(AI 0)),(6,(AI 0))],h,x⟩
theorem e_q01a_k2 {C gl e h x K} : NW C gl p_q01a_k2 ⟨e,h,x⟩ K = d_q01a_k2 C gl (aget e 7) h x K:=by kernel_rfl
def P_q01a (q1 q2 : ACode) : ACode:=(.seq (rg [mV 4 (.c (.p (.sl (some 2) []))),
mV 5 (cI 0),
mV 6 (cI 0)] [0,1])
(.seq (.block 0 (.seq (rg [mV 14 0,
cL 15 f_q00a [14,(cI 1),(cI 100)],
mV 13 15] [0,1,13])
(.cond 13 (.seq (rg [mV 4 (.c (.p (.sl (some 2) []))),
mV 5 (cI 0),
mV 6 (cI 1)] [4,5,6])
.ret)
(.seq (rg [mV 17 1,
uO 18 (.lens 17),
bN 19 .gtr 18 (cI 200000),
mV 16 19] [0,1,16])
(.cond 16 (.seq (rg [mV 4 (.c (.p (.sl (some 2) []))),
mV 5 (cI 0),
mV 6 (cI 2)] [4,5,6])
.ret)
.skip)))))
(.seq (rg [uO 7 (.uns 8 0 [(.c (.sl0 (some 2)))])] [0,1,7])
(.seq (rg [mV 21 1,
uO 22 (.mkfn f_q01b [7]),
cL 23 f_q001 [21,22],
mV 20 23,
eX 24 20 0,
eX 25 20 1,
mV 8 24,
mV 9 25] [0,7,8,9])
(.seq (.block 1 (.seq (rg [mV 27 9,
uO 28 (.un .not 27),
mV 26 28] [0,7,8,26])
(.cond 26 (.seq (rg [mV 29 8,
mV 4 (.c (.p (.sl (some 2) []))),
mV 5 29,
mV 6 (cI 9)] [4,5,6])
.ret)
(.seq (rg [lD 31 none 7,
lN 32 31,
bN 33 .gtr 32 (cI 20000),
mV 30 33] [0,7,30])
(.cond 30 (.seq (rg [mV 4 (.c (.p (.sl (some 2) []))),
mV 5 (cI 0),
mV 6 (cI 2)] [4,5,6])
.ret)
.skip)))))
(.seq (.seq (rg [lD 34 none 7,
lN 35 34,
mV 36 (cI 0)] [0,7,34,35,36])
(.block 2 (.loop (.scope q1))))
q2))))))
def a_q01a : AFun:=⟨2,[.t 4,.t 5,.t 6],P_q01a p_q01a_k1 p_q01a_k2,false,false⟩
def d_q01a (C : Hd) (gl : GL) (q1 q2 : ACode) (v0 v1 : AV) (h : Heap) (x : Esc) (K : KT) : Prop:=
 C f_q00a [v0,(AI 1),(AI 100)] h fun t1 h2 y3=>
 condB t1 (K .ret ⟨[(4,(.p (.sl (some 2) []))),(5,(AI 0)),(6,(AI 1))],h2,(y3 ++ x)⟩)
 (pK (oLens v1) fun t4=>
 pK (oBin .gtr t4 (AI 200000)) fun t5=>
 condB t5 (K .ret ⟨[(4,(.p (.sl (some 2) []))),(5,(AI 0)),(6,(AI 2))],h2,(y3 ++ x)⟩)
 (wK (unsOp 8 0 [.sl0 (some 2)] h2) fun t6 h7 y8=>
 C f_q001 [v1,(.fn f_q01b [t6])] h7 fun t9 h10 y11=>
 pK (oExt t9 0) fun t12=>
 pK (oExt t9 1) fun t13=>
 pK (oUn .not t13) fun t14=>
 condB t14 (K .ret ⟨[(4,(.p (.sl (some 2) []))),(5,t12),(6,(AI 9))],h10,(y11 ++ (y8 ++ (y3 ++ x)))⟩)
 (pK (oLoad none t6 h10) fun t15=>
 pK (oLen t15) fun t16=>
 pK (oBin .gtr t16 (AI 20000)) fun t17=>
 condB t17 (K .ret ⟨[(4,(.p (.sl (some 2) []))),(5,(AI 0)),(6,(AI 2))],h10,(y11 ++ (y8 ++ (y3 ++ x)))⟩)
 (pK (oLoad none t6 h10) fun t18=>
 pK (oLen t18) fun t19=>
 NW C gl (.loop (.scope q1)) ⟨[(0,v0),(7,t6),(34,t18),(35,t19),(36,(AI 0))],h10,(y11 ++ (y8 ++ (y3 ++ x)))⟩ (blockN 2 (seqN C gl q2 K))))))
theorem E_q01a {C gl q1 q2 v0 v1 h x K} : NW C gl (P_q01a q1 q2) ⟨enter [v0,v1],h,x⟩ K = d_q01a C gl q1 q2 v0 v1 h x K:=by kernel_rfl
theorem e_q01a {C gl v0 v1 h x K} : NW C gl a_q01a.body ⟨enter [v0,v1],h,x⟩ K = d_q01a C gl p_q01a_k1 p_q01a_k2 v0 v1 h x K:=E_q01a
def p_q03e_k1 : ACode:=.pr [5,6,7] (.seq (rg [bN 8 .lss 7 6] [5,6,7,8])
(.seq (.cond 8 .skip
(.exit 0))
(.seq (.block 1 (.seq (rg [iA 9 none 5 7,
lD 10 none 9,
mV 4 10] [4,5,6,7])
(.seq (rg [mV 11 4,
bN 12 .neq 11 (cI 0)] [4,5,6,7,12])
(.cond 12 (.seq (rg [mV 13 4,
mV 2 13] [2])
.ret)
.skip))))
(rg [bN 14 .add 7 (cI 1),
mV 7 14] [5,6,7]))))
def d_q03e_k1 (C : Hd) (gl : GL) (v5 v6 v7 : AV) (h : Heap) (x : Esc) (K : KT) : Prop:=
 pK (oBin .lss v7 v6) fun t1=>
 condB t1 (pK (oIaddr none v5 v7 h) fun t2=>
 pK (oLoad none t2 h) fun t3=>
 pK (oBin .neq t3 (AI 0)) fun t4=>
 condB t4 (K .ret ⟨[(2,t3)],h,x⟩)
 (pK (oBin .add v7 (AI 1)) fun t5=>
 K .normal ⟨[(5,v5),(6,v6),(7,t5)],h,x⟩))
 (K (.exit 0) ⟨[(5,v5),(6,v6),(7,v7),(8,t1)],h,x⟩)
theorem e_q03e_k1 {C gl e h x K} : NW C gl p_q03e_k1 ⟨e,h,x⟩ K = d_q03e_k1 C gl (aget e 5) (aget e 6) (aget e 7) h x K:=by kernel_rfl
theorem l_q03e_k1 {C gl e h x K} : NW C gl (.loop p_q03e_k1) ⟨e,h,x⟩ K = NLoop C gl p_q03e_k1 K [(5,aget e 5),(6,aget e 6),(7,aget e 7)] h x:=NLoop_pr
def p_q03e_k2 : ACode:=.pr [] (.seq (rg [mV 2 (cI 0)] [2])
.ret)
def d_q03e_k2 (C : Hd) (gl : GL) (h : Heap) (x : Esc) (K : KT) : Prop:=
 K .ret ⟨[(2,(AI 0))],h,x⟩
theorem e_q03e_k2 {C gl e h x K} : NW C gl p_q03e_k2 ⟨e,h,x⟩ K = d_q03e_k2 C gl h x K:=by kernel_rfl
def P_q03e (q1 q2 : ACode) : ACode:=(.seq (rg [mV 2 (cI 0)] [0])
(.seq (.seq (rg [mV 5 0,
lN 6 5,
mV 7 (cI 0)] [5,6,7])
(.block 0 (.loop q1)))
q2))
def a_q03e : AFun:=⟨1,[.t 2],P_q03e p_q03e_k1 p_q03e_k2,false,false⟩
def d_q03e (C : Hd) (gl : GL) (q1 q2 : ACode) (v0 : AV) (h : Heap) (x : Esc) (K : KT) : Prop:=
 pK (oLen v0) fun t1=>
 NW C gl (.loop q1) ⟨[(5,v0),(6,t1),(7,(AI 0))],h,x⟩ (blockN 0 (seqN C gl q2 K))
theorem E_q03e {C gl q1 q2 v0 h x K} : NW C gl (P_q03e q1 q2) ⟨enter [v0],h,x⟩ K = d_q03e C gl q1 q2 v0 h x K:=by kernel_rfl
theorem e_q03e {C gl v0 h x K} : NW C gl a_q03e.body ⟨enter [v0],h,x⟩ K = d_q03e C gl p_q03e_k1 p_q03e_k2 v0 h x K:=E_q03e
def P_q05q : ACode:=(.seq (rg [mV 4 cF] [0,1])
(.seq (rg [mV 5 0,
mV 6 1,
cL 7 f_q066 [5,6],
bN 8 .geq 7 (cI 0),
mV 4 8] [4])
.ret))
def a_q05q : AFun:=⟨2,[.t 4],P_q05q,true,false⟩
def d_q05q (C : Hd) (gl : GL) (v0 v1 : AV) (h : Heap) (x : Esc) (K : KT) : Prop:=
 C f_q066 [v0,v1] h fun t1 h2 y3=>
 pK (oBin .geq t1 (AI 0)) fun t4=>
 K .ret ⟨[(4,t4)],h2,(y3 ++ x)⟩
theorem e_q05q {C gl v0 v1 h x K} : NW C gl a_q05q.body ⟨enter [v0,v1],h,x⟩ K = d_q05q C gl v0 v1 h x K:=by kernel_rfl
def p_q013_k1 : ACode:=.pr [0,3,27,28,29] (.seq (rg [bN 30 .lss 29 28] [0,3,27,28,29,30])
(.seq (.cond 30 .skip
(.exit 1))
(.seq (.block 2 (.seq (rg [iA 31 none 27 29,
lD 32 none 31,
mV 6 32] [0,3,6,27,28,29])
(.seq (rg [mV 33 6,
mV 34 0,
bN 35 .sub 34 (cI 1),
cL 36 f_q00a [33,(cI 0),35]] [0,3,27,28,29,36])
(.cond 36 (.seq (rg [mV 4 (cI 1)] [4])
.ret)
.skip))))
(rg [bN 37 .add 29 (cI 1),
mV 29 37] [0,3,27,28,29]))))
def d_q013_k1 (C : Hd) (gl : GL) (v0 v3 v27 v28 v29 : AV) (h : Heap) (x : Esc) (K : KT) : Prop:=
 pK (oBin .lss v29 v28) fun t1=>
 condB t1 (pK (oIaddr none v27 v29 h) fun t2=>
 pK (oLoad none t2 h) fun t3=>
 pK (oBin .sub v0 (AI 1)) fun t4=>
 C f_q00a [t3,(AI 0),t4] h fun t5 h6 y7=>
 condB t5 (K .ret ⟨[(4,(AI 1))],h6,(y7 ++ x)⟩)
 (pK (oBin .add v29 (AI 1)) fun t8=>
 K .normal ⟨[(0,v0),(3,v3),(27,v27),(28,v28),(29,t8)],h6,(y7 ++ x)⟩))
 (K (.exit 1) ⟨[(0,v0),(3,v3),(27,v27),(28,v28),(29,v29),(30,t1)],h,x⟩)
theorem e_q013_k1 {C gl e h x K} : NW C gl p_q013_k1 ⟨e,h,x⟩ K = d_q013_k1 C gl (aget e 0) (aget e 3) (aget e 27) (aget e 28) (aget e 29) h x K:=by kernel_rfl
theorem l_q013_k1 {C gl e h x K} : NW C gl (.loop p_q013_k1) ⟨e,h,x⟩ K = NLoop C gl p_q013_k1 K [(0,aget e 0),(3,aget e 3),(27,aget e 27),(28,aget e 28),(29,aget e 29)] h x:=NLoop_pr
def p_q013_k2 : ACode:=.pr [3,7,8] (.seq (.seq (rg [mV 53 8,
mV 54 7,
lN 55 54,
bN 56 .lss 53 55] [3,7,8,56])
(.cond 56 .skip
(.exit 3)))
(.seq (.block 4 (.seq (dr [dF (mV 59 7) [7],
dF (mV 60 8) [8],
dF (iA 61 none 59 60) [59,60],
dF (lD 62 none 61) [61],
dF (mV 63 7) [7],
dF (mV 64 8) [8],
dF (bN 65 .sub 64 (cI 1)) [64],
dF (iA 66 none 63 65) [63,65],
dF (lD 67 none 66) [66],
dF (bN 68 .leq 62 67) [62,67]] [3,7,8,68])
(.cond 68 (.seq (rg [mV 4 (cI 7)] [4])
.ret)
.skip)))
(rg [mV 57 8,
bN 58 .add 57 (cI 1),
mV 8 58] [3,7,8])))
def d_q013_k2 (C : Hd) (gl : GL) (v3 v7 v8 : AV) (h : Heap) (x : Esc) (K : KT) : Prop:=
 pK (oLen v7) fun t1=>
 pK (oBin .lss v8 t1) fun t2=>
 condB t2 (pK (oIaddr none v7 v8 h) fun t3=>
 pK (oLoad none t3 h) fun t4=>
 pK (oBin .sub v8 (AI 1)) fun t5=>
 pK (oIaddr none v7 t5 h) fun t6=>
 pK (oLoad none t6 h) fun t7=>
 pK (oBin .leq t4 t7) fun t8=>
 condB t8 (K .ret ⟨[(4,(AI 7))],h,x⟩)
 (pK (oBin .add v8 (AI 1)) fun t9=>
 K .normal ⟨[(3,v3),(7,v7),(8,t9)],h,x⟩))
 (K (.exit 3) ⟨[(3,v3),(7,v7),(8,v8),(56,t2)],h,x⟩)
theorem e_q013_k2 {C gl e h x K} : NW C gl p_q013_k2 ⟨e,h,x⟩ K = d_q013_k2 C gl (aget e 3) (aget e 7) (aget e 8) h x K:=by kernel_rfl
theorem l_q013_k2 {C gl e h x K} : NW C gl (.loop p_q013_k2) ⟨e,h,x⟩ K = NLoop C gl p_q013_k2 K [(3,aget e 3),(7,aget e 7),(8,aget e 8)] h x:=NLoop_pr
def p_q013_k3 : ACode:=.pr [3,7] (.seq (.seq (rg [fA 69 0 none 3,
lD 70 none 69,
bN 71 .eql 70 (cI 5),
mV 72 71,
gD 73 72 true (.mv 7),
gD 74 72 true (.faddr 1 none 3),
gD 75 72 true (.load none 74),
gD 76 72 true (.iaddr none 75 (cI 0)),
gD 77 72 true (.load none 76),
gD 78 72 true (.call f_q05q [73,77]),
uO 79 (.pick 72 78 cF)] [79])
(.cond 79 (.seq (rg [mV 4 (cI 6)] [4])
.ret)
.skip))
(.seq (rg [mV 4 (cI 0)] [4])
.ret))
def d_q013_k3 (C : Hd) (gl : GL) (v3 v7 : AV) (h : Heap) (x : Esc) (K : KT) : Prop:=
 pK (oFaddr 0 none v3) fun t1=>
 pK (oLoad none t1 h) fun t2=>
 pK (oBin .eql t2 (AI 5)) fun t3=>
 gM t3 true v7 h fun t4 h5 y6=>
 gP t3 true (oFaddr 1 none v3) h5 fun t7 h8 y9=>
 gP t3 true (oLoad none t7 h8) h8 fun t10 h11 y12=>
 gP t3 true (oIaddr none t10 (AI 0) h11) h11 fun t13 h14 y15=>
 gP t3 true (oLoad none t13 h14) h14 fun t16 h17 y18=>
 gV t3 true h17 (C f_q05q [t4,t16] h17) fun t19 h20 y21=>
 pK (oPick t3 t19 (AB false)) fun t22=>
 condB t22 (K .ret ⟨[(4,(AI 6))],h20,(y21 ++ (y18 ++ (y15 ++ (y12 ++ (y9 ++ (y6 ++ x))))))⟩)
 (K .ret ⟨[(4,(AI 0))],h20,(y21 ++ (y18 ++ (y15 ++ (y12 ++ (y9 ++ (y6 ++ x))))))⟩)
theorem e_q013_k3 {C gl e h x K} : NW C gl p_q013_k3 ⟨e,h,x⟩ K = d_q013_k3 C gl (aget e 3) (aget e 7) h x K:=by kernel_rfl
def P_q013_k4 (q2 q3 : ACode) : ACode:=.pr [3,7] (.seq (.seq (rg [mV 8 (cI 1)] [3,7,8])
(.block 3 (.loop q2)))
q3)
def p_q013_k4 : ACode:=P_q013_k4 p_q013_k2 p_q013_k3
def d_q013_k4 (C : Hd) (gl : GL) (q2 q3 : ACode) (v3 v7 : AV) (h : Heap) (x : Esc) (K : KT) : Prop:=
 NW C gl (.loop q2) ⟨[(3,v3),(7,v7),(8,(AI 1))],h,x⟩ (blockN 3 (seqN C gl q3 K))
theorem E_q013_k4 {C gl q2 q3 e h x K} : NW C gl (P_q013_k4 q2 q3) ⟨e,h,x⟩ K = d_q013_k4 C gl q2 q3 (aget e 3) (aget e 7) h x K:=by kernel_rfl
theorem e_q013_k4 {C gl e h x K} : NW C gl p_q013_k4 ⟨e,h,x⟩ K = d_q013_k4 C gl p_q013_k2 p_q013_k3 (aget e 3) (aget e 7) h x K:=E_q013_k4
def P_q013_k5 (q4 : ACode) : ACode:=.pr [3] (.seq (.seq (dr [dF (fA 38 0 none 3) [3],
dF (lD 39 none 38) [38],
dT (cL 40 f_q01n [39]) [39],
dF (fA 41 1 none 3) [3],
dA (lD 42 none 41) [41] false [2] [],
dF (lN 43 42) [42],
dF (bN 44 .gtr 43 (cI 1)) [43],
dF (uO 45 (.eqa [] true 40 44)) [40,44]] [3,45])
(.cond 45 (.seq (rg [mV 4 (cI 3)] [4])
.ret)
.skip))
(.seq (rg [fA 46 1 none 3,
lD 47 none 46,
mV 7 47] [3,7])
(.seq (.seq (rg [fA 48 0 none 3,
lD 49 none 48,
bN 50 .eql 49 (cI 5)] [3,7,50])
(.cond 50 (rg [mV 51 7,
uO 52 (.slice none 51 (some (cI 1)) none none),
mV 7 52] [3,7])
.skip))
q4)))
def p_q013_k5 : ACode:=P_q013_k5 p_q013_k4
def d_q013_k5 (C : Hd) (gl : GL) (q4 : ACode) (v3 : AV) (h : Heap) (x : Esc) (K : KT) : Prop:=
 pK (oFaddr 0 none v3) fun t1=>
 pK (oLoad none t1 h) fun t2=>
 callE C f_q01n [t2] h fun t3 h4 y5=>
 pK (oFaddr 1 none v3) fun t6=>
 pK (oLoad none t6 h4) fun t7=>
 (pK (oLoad none t6 h) fun v=>(fun u (g1 : Heap) (y1 : Esc)=>u = t7 ∧ g1 = h ∧ y1 = []) v h []) ∧ (pK (oLen t7) fun t8=>
 pK (oBin .gtr t8 (AI 1)) fun t9=>
 pK (oEqa [] true t3 t9) fun t10=>
 condB t10 (K .ret ⟨[(4,(AI 3))],h4,(y5 ++ x)⟩)
 (pK (oFaddr 1 none v3) fun t11=>
 pK (oLoad none t11 h4) fun t12=>
 pK (oFaddr 0 none v3) fun t13=>
 pK (oLoad none t13 h4) fun t14=>
 pK (oBin .eql t14 (AI 5)) fun t15=>
 condB t15 (pK (oSlice none t12 (some (AI 1)) none none h4) fun t16=>
 NW C gl q4 ⟨[(3,v3),(7,t16)],h4,(y5 ++ x)⟩ K)
 (NW C gl q4 ⟨[(3,v3),(7,t12),(50,t15)],h4,(y5 ++ x)⟩ K)))
theorem E_q013_k5 {C gl q4 e h x K} : NW C gl (P_q013_k5 q4) ⟨e,h,x⟩ K = d_q013_k5 C gl q4 (aget e 3) h x K:=by kernel_rfl
theorem e_q013_k5 {C gl e h x K} : NW C gl p_q013_k5 ⟨e,h,x⟩ K = d_q013_k5 C gl p_q013_k4 (aget e 3) h x K:=E_q013_k5
def P_q013 (q1 q5 : ACode) : ACode:=(.seq (rg [uO 3 (.box 1),
mV 4 (cI 0)] [0,3])
(.seq (.block 0 (.seq (rg [mV 10 0,
cL 11 f_q00a [10,(cI 1),(cI 100)],
mV 9 11] [0,3,9])
(.cond 9 (.seq (rg [mV 4 (cI 1)] [4])
.ret)
(.seq (rg [fA 13 0 none 3,
lD 14 none 13,
cL 15 f_q00a [14,(cI 1),(cI 6)],
mV 12 15] [0,3,12])
(.cond 12 (.seq (rg [mV 4 (cI 4)] [4])
.ret)
(.seq (rg [fA 17 1 none 3,
lD 18 none 17,
lN 19 18,
bN 20 .eql 19 (cI 0),
mV 16 20] [0,3,16])
(.cond 16 (.seq (rg [mV 4 (cI 8)] [4])
.ret)
(.seq (rg [fA 22 1 none 3,
lD 23 none 22,
lN 24 23,
bN 25 .gtr 24 (cI 6),
mV 21 25] [0,3,21])
(.cond 21 (.seq (rg [mV 4 (cI 2)] [4])
.ret)
.skip)))))))))
(.seq (.seq (rg [fA 26 1 none 3,
lD 27 none 26,
lN 28 27,
mV 29 (cI 0)] [0,3,27,28,29])
(.block 1 (.loop q1)))
q5)))
def a_q013 : AFun:=⟨2,[.t 4],P_q013 p_q013_k1 p_q013_k5,false,false⟩
def d_q013 (C : Hd) (gl : GL) (q1 q5 : ACode) (v0 v1 : AV) (h : Heap) (x : Esc) (K : KT) : Prop:=
 wK (oBox v1 h) fun t1 h2 y3=>
 C f_q00a [v0,(AI 1),(AI 100)] h2 fun t4 h5 y6=>
 condB t4 (K .ret ⟨[(4,(AI 1))],h5,(y6 ++ (y3 ++ x))⟩)
 (pK (oFaddr 0 none t1) fun t7=>
 pK (oLoad none t7 h5) fun t8=>
 C f_q00a [t8,(AI 1),(AI 6)] h5 fun t9 h10 y11=>
 condB t9 (K .ret ⟨[(4,(AI 4))],h10,(y11 ++ (y6 ++ (y3 ++ x)))⟩)
 (pK (oFaddr 1 none t1) fun t12=>
 pK (oLoad none t12 h10) fun t13=>
 pK (oLen t13) fun t14=>
 pK (oBin .eql t14 (AI 0)) fun t15=>
 condB t15 (K .ret ⟨[(4,(AI 8))],h10,(y11 ++ (y6 ++ (y3 ++ x)))⟩)
 (pK (oFaddr 1 none t1) fun t16=>
 pK (oLoad none t16 h10) fun t17=>
 pK (oLen t17) fun t18=>
 pK (oBin .gtr t18 (AI 6)) fun t19=>
 condB t19 (K .ret ⟨[(4,(AI 2))],h10,(y11 ++ (y6 ++ (y3 ++ x)))⟩)
 (pK (oFaddr 1 none t1) fun t20=>
 pK (oLoad none t20 h10) fun t21=>
 pK (oLen t21) fun t22=>
 NW C gl (.loop q1) ⟨[(0,v0),(3,t1),(27,t21),(28,t22),(29,(AI 0))],h10,(y11 ++ (y6 ++ (y3 ++ x)))⟩ (blockN 1 (seqN C gl q5 K))))))
theorem E_q013 {C gl q1 q5 v0 v1 h x K} : NW C gl (P_q013 q1 q5) ⟨enter [v0,v1],h,x⟩ K = d_q013 C gl q1 q5 v0 v1 h x K:=by kernel_rfl
theorem e_q013 {C gl v0 v1 h x K} : NW C gl a_q013.body ⟨enter [v0,v1],h,x⟩ K = d_q013 C gl p_q013_k1 p_q013_k5 v0 v1 h x K:=E_q013
def P_q05n : ACode:=(.seq (rg [mV 4 cF] [0,1])
(.seq (rg [mV 5 0,
mV 6 1,
cL 7 f_q062 [5,6],
bN 8 .geq 7 (cI 0),
mV 4 8] [4])
.ret))
def a_q05n : AFun:=⟨2,[.t 4],P_q05n,true,false⟩
def d_q05n (C : Hd) (gl : GL) (v0 v1 : AV) (h : Heap) (x : Esc) (K : KT) : Prop:=
 C f_q062 [v0,v1] h fun t1 h2 y3=>
 pK (oBin .geq t1 (AI 0)) fun t4=>
 K .ret ⟨[(4,t4)],h2,(y3 ++ x)⟩
theorem e_q05n {C gl v0 v1 h x K} : NW C gl a_q05n.body ⟨enter [v0,v1],h,x⟩ K = d_q05n C gl v0 v1 h x K:=by kernel_rfl
def P_q03a : ACode:=(.seq (rg [uO 2 (.box 0),
mV 3 cF] [1,2])
(.seq (rg [lD 4 (some 2) 1,
lD 5 (some 2) 2,
cL 6 f_q04s [4,5],
mV 3 6] [3])
.ret))
def a_q03a : AFun:=⟨2,[.t 3],P_q03a,false,false⟩
def d_q03a (C : Hd) (gl : GL) (v0 v1 : AV) (h : Heap) (x : Esc) (K : KT) : Prop:=
 wK (oBox v0 h) fun t1 h2 y3=>
 pK (oLoad (some 2) v1 h2) fun t4=>
 pK (oLoad (some 2) t1 h2) fun t5=>
 C f_q04s [t4,t5] h2 fun t6 h7 y8=>
 K .ret ⟨[(3,t6)],h7,(y8 ++ (y3 ++ x))⟩
theorem e_q03a {C gl v0 v1 h x K} : NW C gl a_q03a.body ⟨enter [v0,v1],h,x⟩ K = d_q03a C gl v0 v1 h x K:=by kernel_rfl
def P_q03w : ACode:=(.seq (rg [mV 4 (cI 0)] [0,1])
(.seq (rg [mV 7 0,
uO 8 (.nilchk 7),
fA 9 1 none 8,
lD 10 none 9,
bN 11 .add 10 (cI 1),
uO 12 (.nilchk 7),
fA 13 1 none 12,
wO (.store none 13 11)] [0,1])
(.seq (.seq (rg [mV 14 0,
uO 15 (.nilchk 14),
fA 16 0 none 15,
lD 17 none 16,
lN 18 17,
bN 19 .eql 18 (cI 0)] [0,1,19])
(.cond 19 (.seq (rg [mV 20 0,
uO 21 (.nilchk 20),
fA 22 1 none 21,
lD 23 none 22,
bN 24 .mul 23 (cI 7919),
mV 25 1,
cL 26 f_q03o [24,25],
mV 4 26] [4])
.ret)
.skip))
(.seq (dr [dF (mV 27 0) [0],
dF (uO 28 (.nilchk 27)) [27],
dF (fA 29 1 none 28) [28],
dF (lD 30 none 29) [29],
dF (bN 31 .sub 30 (cI 1)) [30],
dF (mV 32 0) [0],
dF (uO 33 (.nilchk 32)) [32],
dF (fA 34 0 none 33) [33],
dF (lD 35 none 34) [34],
dF (lN 36 35) [35],
dF (bN 37 .rem 31 36) [31,36],
dF (mV 5 37) [37]] [0,1,5])
(.seq (dr [dF (mV 38 0) [0],
dF (uO 39 (.nilchk 38)) [38],
dF (fA 40 1 none 39) [39],
dF (lD 41 none 40) [40],
dF (bN 42 .sub 41 (cI 1)) [41],
dF (mV 43 0) [0],
dF (uO 44 (.nilchk 43)) [43],
dF (fA 45 0 none 44) [44],
dF (lD 46 none 45) [45],
dF (lN 47 46) [46],
dF (bN 48 .quo 42 47) [42,47],
dF (mV 6 48) [48]] [0,1,5,6])
(.seq (rg [mV 49 0,
uO 50 (.nilchk 49),
fA 51 0 none 50,
lD 52 none 51,
mV 53 5,
iA 54 none 52 53,
lD 55 none 54,
cL 56 f_q03o [55,(cI 1073741824)],
mV 57 6,
mV 58 5,
bN 59 .add (cI 7919) 58,
bN 60 .mul 57 59,
bN 61 .add 56 60,
mV 62 1,
cL 63 f_q03o [61,62],
mV 4 63] [4])
.ret))))))
def a_q03w : AFun:=⟨2,[.t 4],P_q03w,false,false⟩
def d_q03w (C : Hd) (gl : GL) (v0 v1 : AV) (h : Heap) (x : Esc) (K : KT) : Prop:=
 pK (oNil v0) fun t1=>
 pK (oFaddr 1 none t1) fun t2=>
 pK (oLoad none t2 h) fun t3=>
 pK (oBin .add t3 (AI 1)) fun t4=>
 pK (oNil v0) fun t5=>
 pK (oFaddr 1 none t5) fun t6=>
 wK (oStore none t6 t4 h) fun t7 h8 y9=>
 pK (oNil v0) fun t10=>
 pK (oFaddr 0 none t10) fun t11=>
 pK (oLoad none t11 h8) fun t12=>
 pK (oLen t12) fun t13=>
 pK (oBin .eql t13 (AI 0)) fun t14=>
 condB t14 (pK (oNil v0) fun t15=>
 pK (oFaddr 1 none t15) fun t16=>
 pK (oLoad none t16 h8) fun t17=>
 pK (oBin .mul t17 (AI 7919)) fun t18=>
 C f_q03o [t18,v1] h8 fun t19 h20 y21=>
 K .ret ⟨[(4,t19)],h20,(y21 ++ (y9 ++ x))⟩)
 (pK (oNil v0) fun t22=>
 pK (oFaddr 1 none t22) fun t23=>
 pK (oLoad none t23 h8) fun t24=>
 pK (oBin .sub t24 (AI 1)) fun t25=>
 pK (oNil v0) fun t26=>
 pK (oFaddr 0 none t26) fun t27=>
 pK (oLoad none t27 h8) fun t28=>
 pK (oLen t28) fun t29=>
 pK (oBin .rem t25 t29) fun t30=>
 pK (oNil v0) fun t31=>
 pK (oFaddr 1 none t31) fun t32=>
 pK (oLoad none t32 h8) fun t33=>
 pK (oBin .sub t33 (AI 1)) fun t34=>
 pK (oNil v0) fun t35=>
 pK (oFaddr 0 none t35) fun t36=>
 pK (oLoad none t36 h8) fun t37=>
 pK (oLen t37) fun t38=>
 pK (oBin .quo t34 t38) fun t39=>
 pK (oNil v0) fun t40=>
 pK (oFaddr 0 none t40) fun t41=>
 pK (oLoad none t41 h8) fun t42=>
 pK (oIaddr none t42 t30 h8) fun t43=>
 pK (oLoad none t43 h8) fun t44=>
 C f_q03o [t44,(AI 1073741824)] h8 fun t45 h46 y47=>
 pK (oBin .add (AI 7919) t30) fun t48=>
 pK (oBin .mul t39 t48) fun t49=>
 pK (oBin .add t45 t49) fun t50=>
 C f_q03o [t50,v1] h46 fun t51 h52 y53=>
 K .ret ⟨[(4,t51)],h52,(y53 ++ (y47 ++ (y9 ++ x)))⟩)
theorem e_q03w {C gl v0 v1 h x K} : NW C gl a_q03w.body ⟨enter [v0,v1],h,x⟩ K = d_q03w C gl v0 v1 h x K:=by kernel_rfl
def p_q01o_k1 : ACode:=.pr [1,14,15,16] (.seq (rg [bN 17 .lss 16 15] [1,14,15,16,17])
(.seq (.cond 17 .skip
(.exit 1))
(.seq (.block 2 (.seq (rg [mV 18 16,
iA 19 none 14 16,
lD 20 none 19,
mV 5 18,
mV 6 20] [1,5,6,14,15,16])
(.block 3 (.seq (rg [mV 22 6,
cL 23 f_q00a [22,(cI 1),(cI 6)],
mV 21 23] [1,5,6,14,15,16,21])
(.cond 21 (.seq (rg [mV 4 (cI 4)] [4])
.ret)
(.seq (rg [mV 25 5,
bN 26 .gtr 25 (cI 0),
mV 27 26,
gD 28 27 true (.mv 6),
gD 29 27 true (.mv 1),
gD 30 27 true (.mv 5),
gD 31 27 true (.bin .sub 30 (cI 1)),
gD 32 27 true (.iaddr none 29 31),
gD 33 27 true (.load none 32),
gD 34 27 true (.bin .leq 28 33),
uO 35 (.pick 27 34 cF),
mV 24 35] [1,14,15,16,24])
(.cond 24 (.seq (rg [mV 4 (cI 7)] [4])
.ret)
.skip)))))))
(rg [bN 36 .add 16 (cI 1),
mV 16 36] [1,14,15,16]))))
def d_q01o_k1 (C : Hd) (gl : GL) (v1 v14 v15 v16 : AV) (h : Heap) (x : Esc) (K : KT) : Prop:=
 pK (oBin .lss v16 v15) fun t1=>
 condB t1 (pK (oIaddr none v14 v16 h) fun t2=>
 pK (oLoad none t2 h) fun t3=>
 C f_q00a [t3,(AI 1),(AI 6)] h fun t4 h5 y6=>
 condB t4 (K .ret ⟨[(4,(AI 4))],h5,(y6 ++ x)⟩)
 (pK (oBin .gtr v16 (AI 0)) fun t7=>
 gM t7 true t3 h5 fun t8 h9 y10=>
 gM t7 true v1 h9 fun t11 h12 y13=>
 gM t7 true v16 h12 fun t14 h15 y16=>
 gP t7 true (oBin .sub t14 (AI 1)) h15 fun t17 h18 y19=>
 gP t7 true (oIaddr none t11 t17 h18) h18 fun t20 h21 y22=>
 gP t7 true (oLoad none t20 h21) h21 fun t23 h24 y25=>
 gP t7 true (oBin .leq t8 t23) h24 fun t26 h27 y28=>
 pK (oPick t7 t26 (AB false)) fun t29=>
 condB t29 (K .ret ⟨[(4,(AI 7))],h27,(y28 ++ (y25 ++ (y22 ++ (y19 ++ (y16 ++ (y13 ++ (y10 ++ (y6 ++ x))))))))⟩)
 (pK (oBin .add v16 (AI 1)) fun t30=>
 K .normal ⟨[(1,v1),(14,v14),(15,v15),(16,t30)],h27,(y28 ++ (y25 ++ (y22 ++ (y19 ++ (y16 ++ (y13 ++ (y10 ++ (y6 ++ x))))))))⟩)))
 (K (.exit 1) ⟨[(1,v1),(14,v14),(15,v15),(16,v16),(17,t1)],h,x⟩)
theorem e_q01o_k1 {C gl e h x K} : NW C gl p_q01o_k1 ⟨e,h,x⟩ K = d_q01o_k1 C gl (aget e 1) (aget e 14) (aget e 15) (aget e 16) h x K:=by kernel_rfl
theorem l_q01o_k1 {C gl e h x K} : NW C gl (.loop p_q01o_k1) ⟨e,h,x⟩ K = NLoop C gl p_q01o_k1 K [(1,aget e 1),(14,aget e 14),(15,aget e 15),(16,aget e 16)] h x:=NLoop_pr
def p_q01o_k2 : ACode:=.pr [] (.seq (rg [mV 4 (cI 0)] [4])
.ret)
def d_q01o_k2 (C : Hd) (gl : GL) (h : Heap) (x : Esc) (K : KT) : Prop:=
 K .ret ⟨[(4,(AI 0))],h,x⟩
theorem e_q01o_k2 {C gl e h x K} : NW C gl p_q01o_k2 ⟨e,h,x⟩ K = d_q01o_k2 C gl h x K:=by kernel_rfl
def P_q01o (q1 q2 : ACode) : ACode:=(.seq (rg [mV 4 (cI 0)] [0,1])
(.seq (.block 0 (.seq (rg [mV 8 0,
cL 9 f_q00a [8,(cI 1),(cI 100)],
mV 7 9] [1,7])
(.cond 7 (.seq (rg [mV 4 (cI 1)] [4])
.ret)
(.seq (rg [mV 11 1,
lN 12 11,
bN 13 .gtr 12 (cI 6),
mV 10 13] [1,10])
(.cond 10 (.seq (rg [mV 4 (cI 2)] [4])
.ret)
.skip)))))
(.seq (.seq (rg [mV 14 1,
lN 15 14,
mV 16 (cI 0)] [1,14,15,16])
(.block 1 (.loop q1)))
q2)))
def a_q01o : AFun:=⟨2,[.t 4],P_q01o p_q01o_k1 p_q01o_k2,false,false⟩
def d_q01o (C : Hd) (gl : GL) (q1 q2 : ACode) (v0 v1 : AV) (h : Heap) (x : Esc) (K : KT) : Prop:=
 C f_q00a [v0,(AI 1),(AI 100)] h fun t1 h2 y3=>
 condB t1 (K .ret ⟨[(4,(AI 1))],h2,(y3 ++ x)⟩)
 (pK (oLen v1) fun t4=>
 pK (oBin .gtr t4 (AI 6)) fun t5=>
 condB t5 (K .ret ⟨[(4,(AI 2))],h2,(y3 ++ x)⟩)
 (pK (oLen v1) fun t6=>
 NW C gl (.loop q1) ⟨[(1,v1),(14,v1),(15,t6),(16,(AI 0))],h2,(y3 ++ x)⟩ (blockN 1 (seqN C gl q2 K))))
theorem E_q01o {C gl q1 q2 v0 v1 h x K} : NW C gl (P_q01o q1 q2) ⟨enter [v0,v1],h,x⟩ K = d_q01o C gl q1 q2 v0 v1 h x K:=by kernel_rfl
theorem e_q01o {C gl v0 v1 h x K} : NW C gl a_q01o.body ⟨enter [v0,v1],h,x⟩ K = d_q01o C gl p_q01o_k1 p_q01o_k2 v0 v1 h x K:=E_q01o
def P_q01n : ACode:=(.seq (rg [mV 2 cF] [0])
(.seq (rg [mV 3 0,
cL 4 f_q00a [3,(cI 3),(cI 5)],
uO 5 (.un .not 4),
mV 2 5] [2])
.ret))
def a_q01n : AFun:=⟨1,[.t 2],P_q01n,false,false⟩
def d_q01n (C : Hd) (gl : GL) (v0 : AV) (h : Heap) (x : Esc) (K : KT) : Prop:=
 C f_q00a [v0,(AI 3),(AI 5)] h fun t1 h2 y3=>
 pK (oUn .not t1) fun t4=>
 K .ret ⟨[(2,t4)],h2,(y3 ++ x)⟩
theorem e_q01n {C gl v0 h x K} : NW C gl a_q01n.body ⟨enter [v0],h,x⟩ K = d_q01n C gl v0 h x K:=by kernel_rfl
def P_q080 : ACode:=(.seq (rg [mV 4 (cI 0),
mV 5 (.c (.nili))] [0,1])
(.seq (rg [mV 6 0,
cL 7 f_q081 [6]] [0,1])
(.seq (rg [mV 8 0,
mV 9 0,
uO 10 (.nilchk 9),
fA 11 1 none 10,
lD 12 none 11,
mV 13 1,
uO 14 (.uns 3 5 [12,13]),
uO 15 (.nilchk 8),
fA 16 1 none 15,
wO (.store none 16 14)] [1])
(.seq (rg [mV 17 1,
uO 18 (.lens 17),
mV 4 18,
mV 5 (.c (.nili))] [4,5])
.ret))))
def a_q080 : AFun:=⟨2,[.t 4,.t 5],P_q080,false,false⟩
def d_q080 (C : Hd) (gl : GL) (v0 v1 : AV) (h : Heap) (x : Esc) (K : KT) : Prop:=
 C f_q081 [v0] h fun t1 h2 y3=>
 pK (oNil v0) fun t4=>
 pK (oFaddr 1 none t4) fun t5=>
 pK (oLoad none t5 h2) fun t6=>
 wK (unsOp 3 5 [t6,v1] h2) fun t7 h8 y9=>
 pK (oNil v0) fun t10=>
 pK (oFaddr 1 none t10) fun t11=>
 wK (oStore none t11 t7 h8) fun t12 h13 y14=>
 pK (oLens v1) fun t15=>
 K .ret ⟨[(4,t15),(5,(.nili))],h13,(y14 ++ (y9 ++ (y3 ++ x)))⟩
theorem e_q080 {C gl v0 v1 h x K} : NW C gl a_q080.body ⟨enter [v0,v1],h,x⟩ K = d_q080 C gl v0 v1 h x K:=by kernel_rfl
def P_q01x : ACode:=(.seq (rg [mV 2 (cS [])] [0])
(.seq (rg [uO 3 (.build [.p (.str []),.p (.str []),.p (.str []),.p (.str []),.p (.str []),.p (.str [])] [(0,1,(cS [115,116,117,99,107,48])),(1,1,(cS [115,116,117,99,107,49])),(2,1,(cS [97,110,100])),(3,1,(cS [111,114])),(4,1,(cS [102,105,114,115,116])),(5,1,(cS [111,112,101,110]))]),
mV 4 0,
bN 5 .sub 4 (cI 1),
uO 6 (.idxa 6 none 3 5),
mV 2 6] [2])
.ret))
def a_q01x : AFun:=⟨1,[.t 2],P_q01x,false,false⟩
def d_q01x (C : Hd) (gl : GL) (v0 : AV) (h : Heap) (x : Esc) (K : KT) : Prop:=
 pK (oBuild [.p (.str []),.p (.str []),.p (.str []),.p (.str []),.p (.str []),.p (.str [])] [(0,1,(.p (.str [115,116,117,99,107,48]))),(1,1,(.p (.str [115,116,117,99,107,49]))),(2,1,(.p (.str [97,110,100]))),(3,1,(.p (.str [111,114]))),(4,1,(.p (.str [102,105,114,115,116]))),(5,1,(.p (.str [111,112,101,110])))]) fun t1=>
 pK (oBin .sub v0 (AI 1)) fun t2=>
 pK (oIdxa 6 none t1 t2) fun t3=>
 K .ret ⟨[(2,t3)],h,x⟩
theorem e_q01x {C gl v0 h x K} : NW C gl a_q01x.body ⟨enter [v0],h,x⟩ K = d_q01x C gl v0 h x K:=by kernel_rfl
def P_q07z : ACode:=(.seq (rg [mV 4 (.c (.nili))] [0,1])
(.seq (rg [mV 5 0,
cL 6 f_q081 [5]] [0,1])
(.seq (rg [mV 7 0,
mV 8 0,
uO 9 (.nilchk 8),
fA 10 1 none 9,
lD 11 none 10,
mV 12 1,
uO 13 (.bsl false none 1 (.int .u8 0) [(0,12)]),
uO 14 (.uns 3 5 [11,13]),
uO 15 (.nilchk 7),
fA 16 1 none 15,
wO (.store none 16 14)] [])
(.seq (rg [mV 4 (.c (.nili))] [4])
.ret))))
def a_q07z : AFun:=⟨2,[.t 4],P_q07z,false,false⟩
def d_q07z (C : Hd) (gl : GL) (v0 v1 : AV) (h : Heap) (x : Esc) (K : KT) : Prop:=
 C f_q081 [v0] h fun t1 h2 y3=>
 pK (oNil v0) fun t4=>
 pK (oFaddr 1 none t4) fun t5=>
 pK (oLoad none t5 h2) fun t6=>
 wK (oBsl false none 1 (.int .u8 0) [(0,v1)] h2) fun t7 h8 y9=>
 wK (unsOp 3 5 [t6,t7] h8) fun t10 h11 y12=>
 pK (oNil v0) fun t13=>
 pK (oFaddr 1 none t13) fun t14=>
 wK (oStore none t14 t10 h11) fun t15 h16 y17=>
 K .ret ⟨[(4,(.nili))],h16,(y17 ++ (y12 ++ (y9 ++ (y3 ++ x))))⟩
theorem e_q07z {C gl v0 v1 h x K} : NW C gl a_q07z.body ⟨enter [v0,v1],h,x⟩ K = d_q07z C gl v0 v1 h x K:=by kernel_rfl
def P_q07x : ACode:=(.seq (rg [mV 2 (cI 0)] [0])
(.seq (rg [mV 3 0,
uO 4 (.nilchk 3),
fA 5 1 none 4,
lD 6 none 5,
uO 7 (.uns 4 0 [6]),
mV 2 7] [2])
.ret))
def a_q07x : AFun:=⟨1,[.t 2],P_q07x,false,false⟩
def d_q07x (C : Hd) (gl : GL) (v0 : AV) (h : Heap) (x : Esc) (K : KT) : Prop:=
 pK (oNil v0) fun t1=>
 pK (oFaddr 1 none t1) fun t2=>
 pK (oLoad none t2 h) fun t3=>
 wK (unsOp 4 0 [t3] h) fun t4 h5 y6=>
 K .ret ⟨[(2,t4)],h5,(y6 ++ x)⟩
theorem e_q07x {C gl v0 h x K} : NW C gl a_q07x.body ⟨enter [v0],h,x⟩ K = d_q07x C gl v0 h x K:=by kernel_rfl
def P_q07y : ACode:=(.seq (rg [mV 2 (cS [])] [0])
(.seq (dr [dF (mV 3 0) [0],
dF (uO 4 (.nilchk 3)) [3],
dF (fA 5 1 none 4) [4],
dF (lD 6 none 5) [5],
dF (uO 7 (.uns 5 5 [6])) [6],
dF (mV 8 0) [0],
dF (uO 9 (.nilchk 8)) [8],
dF (fA 10 1 none 9) [9],
dF (lD 11 none 10) [10],
dF (uO 12 (.uns 4 0 [11])) [11],
dT (uO 13 (.uns 6 5 [7,12])) [7,12],
dF (mV 2 13) [13]] [2])
.ret))
def a_q07y : AFun:=⟨1,[.t 2],P_q07y,false,false⟩
def d_q07y (C : Hd) (gl : GL) (v0 : AV) (h : Heap) (x : Esc) (K : KT) : Prop:=
 pK (oNil v0) fun t1=>
 pK (oFaddr 1 none t1) fun t2=>
 pK (oLoad none t2 h) fun t3=>
 wK (unsOp 5 5 [t3] h) fun t4 h5 y6=>
 (h5 = h ∧ y6 = []) ∧ (pK (oNil v0) fun t7=>
 pK (oFaddr 1 none t7) fun t8=>
 pK (oLoad none t8 h5) fun t9=>
 wK (unsOp 4 0 [t9] h5) fun t10 h11 y12=>
 (h11 = h5 ∧ y12 = []) ∧ (wK (unsOp 6 5 [t4,t10] h11) fun t13 h14 y15=>
 K .ret ⟨[(2,t13)],h14,(y15 ++ (y12 ++ (y6 ++ x)))⟩))
theorem e_q07y {C gl v0 h x K} : NW C gl a_q07y.body ⟨enter [v0],h,x⟩ K = d_q07y C gl v0 h x K:=by kernel_rfl
def P_q00a : ACode:=(.seq (rg [mV 6 cF] [0,1,2])
(.seq (rg [mV 7 0,
mV 8 1,
bN 9 .lss 7 8,
mV 10 9,
gD 11 10 false (.mv 0),
gD 12 10 false (.mv 2),
gD 13 10 false (.bin .gtr 11 12),
uO 14 (.pick 10 cT 13),
mV 6 14] [6])
.ret))
def a_q00a : AFun:=⟨3,[.t 6],P_q00a,false,false⟩
def d_q00a (C : Hd) (gl : GL) (v0 v1 v2 : AV) (h : Heap) (x : Esc) (K : KT) : Prop:=
 pK (oBin .lss v0 v1) fun t1=>
 gM t1 false v0 h fun t2 h3 y4=>
 gM t1 false v2 h3 fun t5 h6 y7=>
 gP t1 false (oBin .gtr t2 t5) h6 fun t8 h9 y10=>
 pK (oPick t1 (AB true) t8) fun t11=>
 K .ret ⟨[(6,t11)],h9,(y10 ++ (y7 ++ (y4 ++ x)))⟩
theorem e_q00a {C gl v0 v1 v2 h x K} : NW C gl a_q00a.body ⟨enter [v0,v1,v2],h,x⟩ K = d_q00a C gl v0 v1 v2 h x K:=by kernel_rfl
end Go.Am
end
