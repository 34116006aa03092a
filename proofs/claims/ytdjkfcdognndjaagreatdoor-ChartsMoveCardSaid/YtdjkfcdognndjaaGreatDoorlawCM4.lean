/- Texts of the proof, laid together: Am29, Am30, Am31, AmX, AmS, CodesA. -/
import GoSem.Extern.Table
import Derived.Laws.World
import Derived.KernelRfl
import Derived.Test.YtdjkfcdognndjaaGreatDoorlawCM3
set_option linter.all false
section
/- The abstract machine,part 29: its meaning once more,spelt so that a function's code can be printed asv a formula over its values (shallow),equal to the deep one by computing. -/
set_option linter.unusedSimpArgs false
set_option linter.unusedVariables false
namespace Go.Am
def pK (o : Option AV) (k : AV → Prop) : Prop:=match o with
  | some v=>k v
  | none=>False
def wK (o : Option (AV × Heap × Esc)) (k : AV → Heap → Esc → Prop) : Prop:=match o with
  | some y=>k y.1 y.2.1 y.2.2
  | none=>False
def oPick (c a b : AV) : Option AV:=match c with
  | .p (.bool t)=>some (bif t then a else b)
  | _=>none
def oBox (x : AV) (h : Heap) : Option (AV × Heap × Esc):=match x.cells with
  | some cs=>some (.ref h.length 0,h ++ [.box cs],[])
  | none=>none
def fillV : List (Nat × Nat × AV) → List AV → Option (List AV)
  | [],cs=>some cs
  | (off,n,x) :: r,cs=>match x.cells with
    | some vs=>if vs.length = n ∧ off + n ≤ cs.length then fillV r (splice cs off vs) else none
    | none=>none
def oBuild (z : List AV) (ps : List (Nat × Nat × AV)) : Option AV:=(fillV ps z).map mkA
def fillW (sh : Sh) : List (Nat × AV) → Heap → List PV → Option (List PV × Heap)
  | [],h,xs=>some (xs,h)
  | (i,x) :: r,h,xs=>match pur h x with
    | some (v,h')=>if v.shp sh ∧ i < xs.length then fillW sh r h' (xs.set i v) else none
    | none=>none
def oBsl (own : Bool) (sh : Sh) (n : Nat) (z : PV) (ps : List (Nat × AV)) (h : Heap) : Option (AV × Heap × Esc):=match fillW sh ps h (List.replicate n z) with
  | some (xs,h')=>if !z.shp sh then none else some (bif own then (.own h'.length n 0 n,h' ++ [.row sh xs 0],[]) else (.p (.sl sh xs),h',[]))
  | none=>none
def oLoad (sh : Sh) (a : AV) (h : Heap) : Option AV:=match a with
  | .ref id off=>match h[id]? with
    | some (.box cs)=>cut sh off cs
    | _=>none
  | .rref id g i off=>match h[id]? with
    | some (.row _ xs _)=>if g = xs.length then ((xs[i]?).bind (cutP sh off)).map .p else none
    | _=>none
  | .vp v=>(cutP sh 0 v).map .p
  | _=>none
def oStore (sh : Sh) (a x : AV) (h : Heap) : Option (AV × Heap × Esc):=match a with
  | .ref id off=>match h[id]?,x.cells with
    | some (.box cs),some vs=>if vs.length = shSize sh ∧ off + vs.length ≤ cs.length then some (.und,h.set id (.box (splice cs off vs)),escOf id x) else none
    | _,_=>none
  | .rref id g i off=>match pur h x with
    | some (v,h1)=>match h1[id]? with
      | some (.row rsh xs fz)=>if g = xs.length ∧ fz ≤ i ∧ v.cells.length = shSize sh ∧ v.cells.all PV.sc then match xs[i]? with
        | some (.agg cs)=>if off + v.cells.length ≤ cs.length then some (.und,h1.set id (.row rsh (xs.set i (.agg (splice cs off v.cells))) fz),[]) else none
        | some _=>if off = 0 ∧ v.sc then some (.und,h1.set id (.row rsh (xs.set i v) fz),[]) else none
        | none=>none
        else none
      | _=>none
    | none=>none
  | _=>none
def oNil (x : AV) : Option AV:=match x with
  | .ref _ _ | .rref _ _ _ _ | .vp _ | .fn _ _=>some x
  | _=>none
def oBin (op : BinOp) (x y : AV) : Option AV:=match x,y with
  | .p a,.p b=>(abin op a b).map .p
  | _,_=>none
def oEqa (ks : List Nat) (neg : Bool) (x y : AV) : Option AV:=match x,y with
  | .p (.agg asv),.p (.agg bs)=>if asv.map PV.kind = ks ∧ bs.map PV.kind = ks ∧ ks ≠ [] then (eqs asv bs).map fun t=>pbool (bif neg then !t else t) else none
  | .p (.bool a),.p (.bool b)=>if ks = [] then some (pbool (bif neg then !decide (a = b) else decide (a = b))) else none
  | _,_=>none
def oIsnil (k : Nat) (neg : Bool) (x : AV) : Option AV:=bif nilAny k x then some .anyb else (nilOf k x).map fun r=>pbool (bif neg then !r else r)
def oMkif (x : AV) : Option AV:=if okIn x then some .ifc else none
def oUn (op : UnOp) (x : AV) : Option AV:=match x with
  | .p a=>(aun op a).map .p
  | _=>none
def oConv (c : Cv) (x : AV) (h : Heap) : Option (AV × Heap × Esc):=(aconv h c x).map fun y=>(y.1,y.2,[])
def oConvI (k : IntKind) (x : AV) : Option AV:=match x with
  | .p (.int _ n)=>some (.p (.int k (k.wrap n)))
  | _=>none
def oMksl (sh : Sh) (z : PV) (len cap : AV) (h : Heap) : Option (AV × Heap × Esc):=match natOf len,natOf cap with
  | some n,some m=>if n ≤ m ∧ m ≤ maxSl ∧ z.shp sh then some (.own h.length n 0 n,h ++ [.row sh (List.replicate n z) 0],[]) else none
  | _,_=>none
def bndV (d : Nat) : Option AV → Option Nat
  | none=>some d
  | some x=>natOf x
def oSlstr (x : AV) (lo hi : Option AV) : Option AV:=match x with
  | .p (.str s)=>match bndV 0 lo,bndV s.length hi with
    | some l,some r=>if l ≤ r ∧ r ≤ s.length then some (.p (.str (win s l (r - l)))) else none
    | _,_=>none
  | _=>none
def oSlice (sh : Sh) (x : AV) (lo hi mx : Option AV) (h : Heap) : Option AV:=match x with
  | .p (.sl sh' xs)=>match bndV 0 lo,bndV xs.length hi,bndV xs.length mx with
    | some l,some r,some m=>if sh' = sh ∧ l ≤ r ∧ r ≤ m ∧ m ≤ xs.length then some (if mx.isSome ∧ m = l then .sl0 sh else .p (.sl sh (win xs l (r - l)))) else none
    | _,_,_=>none
  | .sl0 sh'=>match bndV 0 lo,bndV 0 hi,bndV 0 mx with
    | some l,some r,some m=>if l = 0 ∧ r = 0 ∧ m = 0 then some (.sl0 sh') else none
    | _,_,_=>none
  | .own id g off len=>match h[id]? with
    | some (.row rsh xs _)=>match bndV 0 lo,bndV len hi,bndV len mx with
      | some l,some r,some m=>if rsh = sh ∧ g = xs.length ∧ off + len ≤ xs.length ∧ l ≤ r ∧ r ≤ m ∧ m ≤ len then some (if mx.isSome ∧ m = l then .sl0 sh else .own id g (off + l) (r - l)) else none
      | _,_,_=>none
    | _=>none
  | _=>none
def oFaddr (off : Nat) (sh : Sh) (x : AV) : Option AV:=match x with
  | .ref id o=>some (.ref id (o + off))
  | .rref id g i o=>some (.rref id g i (o + off))
  | .vp v=>(cutP sh off v).map .vp
  | _=>none
def oField (off : Nat) (sh : Sh) (x : AV) : Option AV:=match x with
  | .p v=>match v with
    | .agg _=>(cutP sh off v).map .p
    | _=>none
  | .agg cs=>cut sh off cs
  | _=>none
def oIaddr (sh : Sh) (x i : AV) (h : Heap) : Option AV:=match x,natOf i with
  | .p (.sl sh' xs),some k=>if sh' = sh then (xs[k]?).map .vp else none
  | .own id g off len,some k=>match h[id]? with
    | some (.row rsh xs _)=>if rsh = sh ∧ g = xs.length ∧ off + len ≤ xs.length ∧ k < len then some (.rref id g (off + k) 0) else none
    | _=>none
  | _,_=>none
def oIaddra (n : Nat) (sh : Sh) (x i : AV) : Option AV:=match x,natOf i with
  | .ref id o,some k=>if k < n then some (.ref id (o + k * shSize sh)) else none
  | .rref id g j o,some k=>if k < n then some (.rref id g j (o + k * shSize sh)) else none
  | .vp v,some k=>if k < n then (cutP sh (k * shSize sh) v).map .vp else none
  | _,_=>none
def oIdxa (n : Nat) (sh : Sh) (x i : AV) : Option AV:=match x,natOf i with
  | .p (.agg cs),some k=>if k < n then (cutP sh (k * shSize sh) (.agg cs)).map .p else none
  | _,_=>none
def oIdxs (x i : AV) : Option AV:=match x,natOf i with
  | .p (.str s),some k=>(s[k]?).map fun b=>.p (.int .u8 b.toNat)
  | _,_=>none
def oExt (x : AV) (i : Nat) : Option AV:=match x with
  | .tup vs=>vs[i]?
  | _=>none
def oLen (x : AV) : Option AV:=match x with
  | .p (.sl _ xs)=>some (pint xs.length)
  | .sl0 _=>some (pint 0)
  | .own _ _ _ len=>some (pint len)
  | _=>none
def oLens (x : AV) : Option AV:=match x with
  | .p (.str s)=>some (pint s.length)
  | _=>none
def oApp (sh : Sh) (s x : AV) (h : Heap) : Option (AV × Heap × Esc):=match rds h x with
  | some (sh',ys)=>if sh' = sh then match s with
    | .sl0 _=>if ys.length ≤ maxSl then some (.own h.length ys.length 0 ys.length,h ++ [.row sh ys 0],[]) else none
    | .own id g off len=>match h[id]? with
      | some (.row rsh xs fz)=>if rsh = sh ∧ g = xs.length ∧ off = 0 ∧ len = xs.length ∧ len + ys.length ≤ maxSl then some (.own id (g + ys.length) off (len + ys.length),h.set id (.row sh (xs ++ ys) fz),[]) else none
      | _=>none
    | _=>none
    else none
  | none=>none
def oCopy (sh : Sh) (d s : AV) (h : Heap) : Option (AV × Heap × Esc):=match d,rds h s with
  | .own id g off len,some (sh',ys)=>match h[id]? with
    | some (.row rsh xs fz)=>if rsh = sh ∧ sh' = sh ∧ g = xs.length ∧ off + len ≤ xs.length ∧ fz ≤ off then
        some (pint (min ys.length len),h.set id (.row sh (splice xs off (ys.take (min ys.length len))) fz),[])
      else none
    | _=>none
  | _,_=>none
def oClr (sh : Sh) (z : PV) (x : AV) (h : Heap) : Option (AV × Heap × Esc):=match x with
  | .sl0 _=>some (.tup [],h,[])
  | .own id g off len=>match h[id]? with
    | some (.row rsh xs fz)=>if rsh = sh ∧ g = xs.length ∧ off + len ≤ xs.length ∧ fz ≤ off then
        some (.tup [],h.set id (.row sh (splice xs off (List.replicate len z)) fz),[])
      else none
    | _=>none
  | _=>none
def oMx (xs : List AV) : Option AV:=match xs with
  | .p a :: r=>((unp r).bind fun l=>l.foldlM amax2 a).map .p
  | _=>none
def oMn (xs : List AV) : Option AV:=match xs with
  | .p a :: r=>((unp r).bind fun l=>l.foldlM amin2 a).map .p
  | _=>none
def oLook (kk : Sh × List Nat) (ok : Bool) (z x k : AV) (h : Heap) : Option AV:=match keyOf kk k with
  | some key=>match (match x with | .nilm=>some [] | m=>(mget h m).map fun y=>y.2.1) with
    | some es=>match mfind key es with
      | some r=>
        let v:=((r.bind (es[·]?)).map ME.val)
        some (bif ok then .tup [v.getD z,pbool v.isSome] else v.getD z)
      | none=>none
    | none=>none
  | none=>none
def oMupd (kk : Sh × List Nat) (m k x : AV) (h : Heap) : Option (AV × Heap × Esc):=match keyOf kk k,mget h m,okIn x with
  | some key,some (id,es,c),true=>match mfind key es with
    | some (some i)=>some (.und,h.set id (.amap (es.modify i fun e=>{ e with val:=x }) c),escOf id x)
    | some none=>some (.und,h.set id (.amap (es ++ [⟨key,x,c⟩]) (c + 1)),escOf id x)
    | none=>none
  | _,_,_=>none
def oMent (kk : Sh × List Nat) (z m k : AV) (h : Heap) : Option (AV × Heap × Esc):=match keyOf kk k,mget h m with
  | some key,some (id,es,c)=>match mfind key es with
    | some (some i)=>(es[i]?).map fun e=>(.tup [e.val,pint e.born],h,[])
    | some none=>some (.tup [z,pint c],h.set id (.amap (es ++ [⟨key,z,c⟩]) (c + 1)),[])
    | none=>none
  | _,_=>none
def oEstore (m s x : AV) (h : Heap) : Option (AV × Heap × Esc):=match mget h m,natOf s,okIn x with
  | some (id,es,c),some b,true=>match es.findIdx? (fun e=>e.born == b) with
    | some i=>some (.und,h.set id (.amap (es.modify i fun e=>{ e with val:=x }) c),escOf id x)
    | none=>none
  | _,_,_=>none
def oMdel (kk : Sh × List Nat) (m k : AV) (h : Heap) : Option (AV × Heap × Esc):=match keyOf kk k,mget h m with
  | some key,some (id,es,c)=>match mfind key es with
    | some (some i)=>some (.und,h.set id (.amap (es.eraseIdx i) c),[])
    | some none=>some (.und,h,[])
    | none=>none
  | _,_=>none
def oLenm (x : AV) (h : Heap) : Option AV:=match x with
  | .nilm=>some (pint 0)
  | .mp id=>(mget h (.mp id)).map fun y=>pint y.2.1.length
  | _=>none
def oMrange (x : AV) (h : Heap) : Option (AV × Heap × Esc):=match mget h x with
  | some (id,_,c)=>some (.it h.length,h ++ [.iter (some id) c [] c],[])
  | none=>match x with
    | .nilm=>some (.it h.length,h ++ [.iter none 0 [] 0],[])
    | _=>none
def oMentry (i : AV) (h : Heap) : Option (AV × Heap × Esc):=match i with
  | .it id=>match h[id]? with
    | some (.iter (some m) _ seen last)=>match mget h (.mp m),seen.getLast? with
      | some (_,es,c),some b=>if c = last then (es.find? (fun e=>e.born == b)).map fun e=>(.tup [.p e.key,e.val],h,[]) else none
      | _,_=>none
    | _=>none
  | _=>none
def alK (z : List AV) (h : Heap) (k : AV → Heap → Esc → Prop) : Prop:=k (.ref h.length 0) (h ++ [.box z]) []
def nwK (sh : Sh) (h : Heap) (k : AV → Heap → Esc → Prop) : Prop:=k (.own h.length 0 0 0) (h ++ [.row sh [] 0]) []
def mmK (h : Heap) (k : AV → Heap → Esc → Prop) : Prop:=k (.mp h.length) (h ++ [.amap [] 0]) []
def ev3 (ev : Opd → AV) : List (Nat × Nat × Opd) → List (Nat × Nat × AV)
  | []=>[]
  | (a,b,x) :: r=>(a,b,ev x) :: ev3 ev r
def ev2 (ev : Opd → AV) : List (Nat × Opd) → List (Nat × AV)
  | []=>[]
  | (a,x) :: r=>(a,ev x) :: ev2 ev r
def evO (ev : Opd → AV) : Option Opd → Option AV
  | none=>none
  | some x=>some (ev x)
def ev1 (ev : Opd → AV) : List Opd → List AV
  | []=>[]
  | x :: r=>ev x :: ev1 ev r
def opN (o : AO) (ev : Opd → AV) (h : Heap) (k : AV → Heap → Esc → Prop) : Prop:=match o with
  | .mv x=>k (ev x) h []
  | .pick c a b=>pK (oPick (ev c) (ev a) (ev b)) fun v=>k v h []
  | .alloc z=>alK z h k
  | .box x=>wK (oBox (ev x) h) k
  | .build z ps=>pK (oBuild z (ev3 ev ps)) fun v=>k v h []
  | .bsl own sh n z ps=>wK (oBsl own sh n z (ev2 ev ps) h) k
  | .load sh a=>pK (oLoad sh (ev a) h) fun v=>k v h []
  | .store sh a x=>wK (oStore sh (ev a) (ev x) h) k
  | .nilchk x=>pK (oNil (ev x)) fun v=>k v h []
  | .bin op x y=>pK (oBin op (ev x) (ev y)) fun v=>k v h []
  | .eqa ks neg x y=>pK (oEqa ks neg (ev x) (ev y)) fun v=>k v h []
  | .isnil n neg x=>pK (oIsnil n neg (ev x)) fun v=>k v h []
  | .mkif x=>pK (oMkif (ev x)) fun v=>k v h []
  | .un op x=>pK (oUn op (ev x)) fun v=>k v h []
  | .conv (.i c) x=>pK (oConvI c (ev x)) fun v=>k v h []
  | .mkfn f caps=>k (.fn f (ev1 ev caps)) h []
  | .slice sh x lo hi mx=>pK (oSlice sh (ev x) (evO ev lo) (evO ev hi) (evO ev mx) h) fun v=>k v h []
  | .slstr x lo hi=>pK (oSlstr (ev x) (evO ev lo) (evO ev hi)) fun v=>k v h []
  | .mksl sh z len cap=>wK (oMksl sh z (ev len) (ev cap) h) k
  | .faddr off sh x=>pK (oFaddr off sh (ev x)) fun v=>k v h []
  | .field off sh x=>pK (oField off sh (ev x)) fun v=>k v h []
  | .iaddr sh x i=>pK (oIaddr sh (ev x) (ev i) h) fun v=>k v h []
  | .iaddra n sh x i=>pK (oIaddra n sh (ev x) (ev i)) fun v=>k v h []
  | .idxa n sh x i=>pK (oIdxa n sh (ev x) (ev i)) fun v=>k v h []
  | .idxs x i=>pK (oIdxs (ev x) (ev i)) fun v=>k v h []
  | .ext x i=>pK (oExt (ev x) i) fun v=>k v h []
  | .len x=>pK (oLen (ev x)) fun v=>k v h []
  | .lens x=>pK (oLens (ev x)) fun v=>k v h []
  | .app sh s x=>wK (oApp sh (ev s) (ev x) h) k
  | .copy sh d s=>wK (oCopy sh (ev d) (ev s) h) k
  | .clr sh z x=>wK (oClr sh z (ev x) h) k
  | .mx xs=>pK (oMx (ev1 ev xs)) fun v=>k v h []
  | .mn xs=>pK (oMn (ev1 ev xs)) fun v=>k v h []
  | .new0 sh=>nwK sh h k
  | .conv .s2b x=>wK (oConv .s2b (ev x) h) k
  | .conv .b2s x=>wK (oConv .b2s (ev x) h) k
  | .conv .r2s x=>wK (oConv .r2s (ev x) h) k
  | .conv .same x=>wK (oConv .same (ev x) h) k
  | .mkmap=>mmK h k
  | .look kk ok z x key=>pK (oLook kk ok z (ev x) (ev key) h) fun v=>k v h []
  | .mupd kk m key x=>wK (oMupd kk (ev m) (ev key) (ev x) h) k
  | .ment kk z m key=>wK (oMent kk z (ev m) (ev key) h) k
  | .estore m s x=>wK (oEstore (ev m) (ev s) (ev x) h) k
  | .mdel kk m key=>wK (oMdel kk (ev m) (ev key) h) k
  | .lenm x=>pK (oLenm (ev x) h) fun v=>k v h []
  | .mrange x=>wK (oMrange (ev x) h) k
  | .mentry i=>wK (oMentry (ev i) h) k
  | .call _ _ | .callv _ _ | .mnext _ _=>False
theorem wK_opt {o : Option (AV × Heap × Esc)} {k : AV → Heap → Esc → Prop} : optK o k = wK o k:=rfl
theorem pK_map {o : Option AV} {h : Heap} {k : AV → Heap → Esc → Prop} : wK (o.map fun v=>(v,h,[])) k = pK o fun v=>k v h []:=by cases o <;> rfl
theorem fillA_eq (ev : Opd → AV) : ∀ (ps : List (Nat × Nat × Opd)) (z : List AV),fillA ev ps z = fillV (ev3 ev ps) z
  | [],z=>rfl
  | (off,n,x) :: r,z=>by
    simp only [fillA,ev3,fillV]
    cases (ev x).cells with
    | none=>rfl
    | some vs=>simp only [fillA_eq ev r]
theorem fillP_eq (ev : Opd → AV) (sh : Sh) : ∀ (ps : List (Nat × Opd)) (h : Heap) (z : List PV),fillP ev sh ps h z = fillW sh (ev2 ev ps) h z
  | [],h,z=>rfl
  | (i,x) :: r,h,z=>by
    simp only [fillP,ev2,fillW]
    cases pur h (ev x) with
    | none=>rfl
    | some y=>simp only [fillP_eq ev sh r]
theorem bnd_eq (ev : Opd → AV) (d : Nat) (o : Option Opd) : bnd ev d o = bndV d (evO ev o):=by cases o <;> rfl
theorem evO_some (ev : Opd → AV) (o : Option Opd) : (evO ev o).isSome = o.isSome:=by cases o <;> rfl
theorem ev1_eq (ev : Opd → AV) (l : List Opd) : l.map ev = ev1 ev l:=by
  induction l with
  | nil=>rfl
  | cons x r ih=>simp only [List.map_cons,ev1,ih]
theorem asl_eq (sh : Sh) (ev : Opd → AV) (h : Heap) (x : AV) (lo hi mx : Option Opd) : asl sh ev h x lo hi mx = oSlice sh x (evO ev lo) (evO ev hi) (evO ev mx) h:=by
  unfold asl oSlice
  simp only [bnd_eq,evO_some]
  rfl
theorem wpK_ite {p : Prop} [Decidable p] {a : AV} {h : Heap} {k : AV → Heap → Esc → Prop} : wK (if p then some (a,h,[]) else none) k = pK (if p then some a else none) fun v=>k v h []:=by split <;> rfl
theorem wpK_map {α : Type} {o : Option α} {f : α → AV} {h : Heap} {k : AV → Heap → Esc → Prop} : wK (o.map fun v=>(f v,h,[])) k = pK (o.map f) fun v=>k v h []:=by cases o <;> rfl
theorem wpK_ite_map {α : Type} {p : Prop} [Decidable p] {o : Option α} {f : α → AV} {h : Heap} {k : AV → Heap → Esc → Prop} : wK (if p then o.map (fun v=>(f v,h,[])) else none) k = pK (if p then o.map f else none) fun v=>k v h []:=by
  split
  · exact wpK_map
  · rfl
theorem opN_aop {o : AO} (hp : o.plain = true) {ev : Opd → AV} {h : Heap} {k : AV → Heap → Esc → Prop} : optK (aop o ev h) k = opN o ev h k:=by
  rw [wK_opt]
  cases o <;> first | (cases hp; done) | skip
  case mv=>rfl
  case pick c a b=>
    simp only [aop,opN,oPick]
    generalize ev c = v
    cases v <;> try rfl
    rename_i p; cases p <;> rfl
  case alloc=>rfl
  case box=>rfl
  case build z ps=>simp only [aop,opN]; rw [← pK_map,oBuild,fillA_eq,Option.map_map]; rfl
  case bsl=>simp only [aop,opN,oBsl,fillP_eq]; rfl
  case load sh a=>
    simp only [aop,opN,oLoad]
    generalize ev a = v
    cases v with
    | ref id off=>dsimp only; cases h[id]? with
      | none=>rfl
      | some o=>cases o <;> first | rfl | exact pK_map
    | rref id g i off=>dsimp only; cases h[id]? with
      | none=>rfl
      | some o=>cases o <;> first | rfl | exact wpK_ite_map
    | vp v=>exact wpK_map
    | p v=>cases v <;> rfl
    | _=>rfl
  case store=>simp only [aop,opN]; rfl
  case nilchk x=>
    simp only [aop,opN,oNil]
    generalize ev x = v
    cases v <;> rfl
  case bin op x y=>
    simp only [aop,opN,oBin]
    generalize ev x = v
    generalize ev y = u
    cases v <;> try rfl
    cases u <;> try rfl
    exact wpK_map
  case eqa ks neg x y=>
    simp only [aop,opN,oEqa]
    generalize ev x = v
    generalize ev y = u
    cases v <;> try rfl
    rename_i p
    cases p <;> try rfl
    all_goals (cases u <;> try rfl)
    all_goals (rename_i q; cases q <;> try rfl)
    · exact wpK_ite
    · exact wpK_ite_map
  case isnil k neg p=>
    simp only [aop,opN,oIsnil]
    cases nilAny k (ev p) with
    | true=>rfl
    | false=>exact wpK_map
  case mkif=>exact wpK_ite
  case un op x=>
    simp only [aop,opN,oUn]
    generalize ev x = v
    cases v <;> try rfl
    exact wpK_map
  case conv c x=>
    cases c
    case i k'=>
      simp only [aop,opN,oConvI,aconv]
      generalize ev x = v
      cases v <;> try rfl
      rename_i p; cases p <;> rfl
    all_goals rfl
  case mkfn f caps=>simp only [aop,opN,ev1_eq]; rfl
  case slice=>simp only [aop,opN,asl_eq]; exact pK_map
  case slstr x lo hi=>
    simp only [aop,opN,oSlstr,bnd_eq]
    generalize ev x = v
    cases v <;> try rfl
    rename_i p; cases p <;> try rfl
    rename_i s
    dsimp only
    generalize bndV 0 _ = o1
    generalize bndV s.length _ = o2
    cases o1 <;> try rfl
    cases o2 <;> try rfl
    exact wpK_ite
  case mksl=>simp only [aop,opN]; rfl
  case faddr off sh x=>
    simp only [aop,opN,oFaddr]
    generalize ev x = v
    cases v <;> try rfl
    exact wpK_map
  case field off sh x=>
    simp only [aop,opN,oField]
    generalize ev x = v
    cases v <;> try rfl
    · rename_i p; cases p <;> try rfl
      exact wpK_map
    · exact pK_map
  case iaddr sh x i=>
    simp only [aop,opN,oIaddr]
    generalize ev x = v
    generalize natOf (ev i) = n
    cases v <;> try rfl
    · rename_i p; cases p <;> try rfl
      cases n <;> try rfl
      exact wpK_ite_map
    · cases n <;> try rfl
      rename_i id g off len k
      dsimp only
      cases h[id]? with
      | none=>rfl
      | some o=>cases o <;> first | rfl | exact wpK_ite
  case iaddra m sh x i=>
    simp only [aop,opN,oIaddra]
    generalize ev x = v
    generalize natOf (ev i) = n
    cases v <;> try rfl
    all_goals (cases n <;> try rfl)
    · exact wpK_ite
    · exact wpK_ite
    · exact wpK_ite_map
  case idxa m sh x i=>
    simp only [aop,opN,oIdxa]
    generalize ev x = v
    generalize natOf (ev i) = n
    cases v <;> try rfl
    rename_i p; cases p <;> try rfl
    cases n <;> try rfl
    exact wpK_ite_map
  case idxs x i=>
    simp only [aop,opN,oIdxs]
    generalize ev x = v
    generalize natOf (ev i) = n
    cases v <;> try rfl
    rename_i p; cases p <;> try rfl
    cases n <;> try rfl
    exact wpK_map
  case ext x i=>
    simp only [aop,opN,oExt]
    generalize ev x = v
    cases v <;> try rfl
    exact pK_map
  case len x=>
    simp only [aop,opN,oLen]
    generalize ev x = v
    cases v <;> try rfl
    rename_i p; cases p <;> rfl
  case lens x=>
    simp only [aop,opN,oLens]
    generalize ev x = v
    cases v <;> try rfl
    rename_i p; cases p <;> rfl
  case app=>simp only [aop,opN]; rfl
  case copy=>simp only [aop,opN]; rfl
  case clr=>simp only [aop,opN]; rfl
  case mx xs=>
    simp only [aop,opN,ev1_eq,oMx]
    generalize ev1 ev xs = l
    cases l <;> try rfl
    rename_i v r
    cases v <;> try rfl
    exact wpK_map
  case mn xs=>
    simp only [aop,opN,ev1_eq,oMn]
    generalize ev1 ev xs = l
    cases l <;> try rfl
    rename_i v r
    cases v <;> try rfl
    exact wpK_map
  case new0=>rfl
  case look kk ok z x key=>
    simp only [aop,opN,oLook]
    cases keyOf kk (ev key) <;> try rfl
    rename_i kk
    generalize ev x = v
    cases v <;> try rfl
    rename_i id
    dsimp only
    cases mget h (.mp id) <;> try rfl
    rename_i y
    dsimp only [Option.map_some]
    cases mfind kk y.2.1 <;> rfl
  case lenm x=>
    simp only [aop,opN,oLenm]
    generalize ev x = v
    cases v <;> try rfl
    exact wpK_map
  all_goals rfl
end Go.Am
end
section
/- The abstract machine,part 30: the meaning of code in the new spelling,and that it is the old one. -/
set_option linter.unusedSimpArgs false
set_option linter.unusedVariables false
namespace Go.Am
def gV (v : AV) (b : Bool) (h : Heap) (A : (AV → Heap → Esc → Prop) → Prop) (k : AV → Heap → Esc → Prop) : Prop:=wantK v b (A k) (k .skp h [])
def gP (v : AV) (b : Bool) (o : Option AV) (h : Heap) (k : AV → Heap → Esc → Prop) : Prop:=gV v b h (fun k=>pK o fun u=>k u h []) k
def gM (v : AV) (b : Bool) (u : AV) (h : Heap) (k : AV → Heap → Esc → Prop) : Prop:=gV v b h (fun k=>k u h []) k
def upB (b : Bool) : Bool:=(fun (_ : AV → Bool → Option AV → Heap → (AV → Heap → Esc → Prop) → Prop)=>b) gP
def gK (g : Option (Nat × Bool)) (e : List (Nat × AV)) (h : Heap) (A : (AV → Heap → Esc → Prop) → Prop) (k : AV → Heap → Esc → Prop) : Prop:=match g with
  | none=>A k
  | some (t,b)=>gV (aget e t) b h A k
def opC (C : Hd) (o : AO) (ev : Opd → AV) (h : Heap) (k : AV → Heap → Esc → Prop) : Prop:=match o with
  | .call f args=>C f (ev1 ev args) h k
  | .callv f args=>callvK C (ev f) (ev1 ev args) h k
  | .mnext sh xs=>match choices h sh (ev1 ev xs) with
    | some l=>l ≠ [] ∧ ∀ y ∈ l,k y.1 y.2 []
    | none=>False
  | o=>opN o ev h k
def NReg (C : Hd) (gl : Nat → Option PV) : List AOp → List (Nat × AV) → Heap → Esc → (List (Nat × AV) → Heap → Esc → Prop) → Prop
  | [],e,h,x,L=>L e h x
  | o :: r,e,h,x,L=>gK o.guard e h (opC C o.op (Opd.ev gl e) h) fun v h' x'=>NReg C gl r (put o.dst v e) h' (x' ++ x) L
variable {C : Hd} {gl : Nat → Option PV}
theorem opC_AReg {o : AO} {d : Option Nat} {r : List AOp} {e : List (Nat × AV)} {h : Heap} {x : Esc} {L : List (Nat × AV) → Heap → Esc → Prop} :
    AReg C gl (⟨d,none,o⟩ :: r) e h x L = opC C o (Opd.ev gl e) h (contR C gl r d e x L):=by
  cases hp : o.plain with
  | true=>
    rw [AReg_op hp,opN_aop hp]
    cases o <;> first | rfl | cases hp
  | false=>
    cases o <;> first | (cases hp; done) | skip
    all_goals first
      | (rw [AReg_call,ev1_eq]; rfl)
      | (rw [AReg_callvK,ev1_eq]; rfl)
      | (unfold AReg opC; simp only [wanted,ev1_eq]; rfl)
theorem NReg_eq : ∀ (ops : List AOp) (e : List (Nat × AV)) (h : Heap) (x : Esc) (L : List (Nat × AV) → Heap → Esc → Prop),AReg C gl ops e h x L = NReg C gl ops e h x L
  | [],e,h,x,L=>rfl
  | ⟨d,g,o⟩ :: r,e,h,x,L=>by
    have ih : (fun (v : AV) (h' : Heap) (x' : Esc)=>NReg C gl r (put d v e) h' (x' ++ x) L) = contR C gl r d e x L:=by
      funext v h' x'; rw [← NReg_eq r]; rfl
    show _ = gK g e h (opC C o (Opd.ev gl e) h) fun v h' x'=>NReg C gl r (put d v e) h' (x' ++ x) L
    rw [ih]
    cases g with
    | none=>exact opC_AReg
    | some tb=>
      obtain ⟨t,b⟩:=tb
      rw [AReg_guard,opC_AReg]; rfl
def opE (C : Hd) (o : AO) (ev : Opd → AV) (h : Heap) (k : AV → Heap → Esc → Prop) : Prop:=match o with
  | .call f args=>callE C f (ev1 ev args) h k
  | .callv f args=>callvE C (ev f) (ev1 ev args) h k
  | .mnext _ _=>False
  | o=>opN o ev h k
def effN (still eff : Bool) (h h' : Heap) (y : Esc) (Q : Prop) : Prop:=match upB eff with
  | true=>Q
  | false=>match still with
    | true=>Q
    | false=>(h' = h ∧ y = []) ∧ Q
def sameN (C : Hd) (gl : Nat → Option PV) (q : AOp × List (Nat × AV) × AV) (g : Heap) : Prop:=
  gK q.1.guard q.2.1 g (opE C q.1.op (Opd.ev gl q.2.1) g) fun v1 h1 x1=>v1 = q.2.2 ∧ h1 = g ∧ x1 = []
def againN (C : Hd) (gl : Nat → Option PV) (h : Heap) (dn : Done) (Q : Prop) : List Nat → Prop
  | []=>Q
  | j :: r=>(match dn[j]? with | some q=>sameN C gl q h | none=>False) ∧ againN C gl h dn Q r
def earlyN (C : Hd) (gl : Nat → Option PV) (o : AOp) (e : List (Nat × AV)) (v : AV) (hs : List Heap) (Q : Prop) : List Nat → Prop
  | []=>Q
  | k :: r=>(match hs[k]? with | some g=>sameN C gl (o,e,v) g | none=>False) ∧ earlyN C gl o e v hs Q r
def NDraw (C : Hd) (gl : Nat → Option PV) : List DOp → Done → List Heap → List (Nat × AV) → Heap → Esc → (List (Nat × AV) → Heap → Esc → Prop) → Prop
  | [],_,_,e,h,x,L=>L e h x
  | o :: r,dn,hs,e,h,x,L=>gK o.op.guard (prune (some o.rd) e) h (opE C o.op.op (Opd.ev gl (prune (some o.rd) e)) h) fun v h' y=>
      effN o.op.op.still o.eff h h' y (earlyN C gl o.op (prune (some o.rd) e) v hs (againN C gl h' dn (NDraw C gl r (dn ++ [(o.op,prune (some o.rd) e,v)]) (hs ++ [h]) (put o.op.dst v e) h' (y ++ x) L) o.again) o.early)
theorem opE_doK {o : AO} {d : Option Nat} {e : List (Nat × AV)} {h : Heap} {R : AV → Heap → Esc → Prop} : doK C gl ⟨d,none,o⟩ e h R = opE C o (Opd.ev gl e) h R:=by
  cases hp : o.plain with
  | true=>
    rw [doK_op hp,opN_aop hp]
    cases o <;> first | rfl | cases hp
  | false=>
    cases o <;> first | (cases hp; done) | skip
    all_goals first
      | (rw [doK_call,ev1_eq]; rfl)
      | (rw [doK_callvK,ev1_eq]; rfl)
      | (unfold doK ADo opE; simp [wanted])
theorem gK_doK {o : AOp} {e : List (Nat × AV)} {h : Heap} {R : AV → Heap → Esc → Prop} : doK C gl o e h R = gK o.guard e h (opE C o.op (Opd.ev gl e) h) R:=by
  obtain ⟨d,g,op⟩:=o
  cases g with
  | none=>exact opE_doK
  | some tb=>
    obtain ⟨t,b⟩:=tb
    rw [doK_guard,opE_doK]; rfl
theorem sameN_eq {q : AOp × List (Nat × AV) × AV} {g : Heap} : doS C gl q g = sameN C gl q g:=by
  obtain ⟨⟨d,gd,op⟩,e,v⟩:=q
  rw [doS_mk,gK_doK]; rfl
theorem againN_eq {h : Heap} {dn : Done} {Q : Prop} : ∀ {l : List Nat},againN C gl h dn Q l = (agK C gl h dn l ∧ Q)
  | []=>by simp [againN,agK]
  | j :: r=>by
    unfold againN agK
    rw [againN_eq (l:=r)]
    cases dn[j]? with
    | none=>simp
    | some q=>simp only [sameN_eq,and_assoc]
theorem earlyN_eq {o : AOp} {e : List (Nat × AV)} {v : AV} {hs : List Heap} {Q : Prop} : ∀ {l : List Nat},earlyN C gl o e v hs Q l = (eaK C gl o e v hs l ∧ Q)
  | []=>by simp [earlyN,eaK]
  | j :: r=>by
    unfold earlyN eaK
    rw [earlyN_eq (l:=r)]
    cases hs[j]? with
    | none=>simp
    | some q=>simp only [sameN_eq,and_assoc]
theorem doK_still {o : AOp} (hs : o.op.still = true) {e : List (Nat × AV)} {h : Heap} {R : AV → Heap → Esc → Prop} : doK C gl o e h (fun v h' y=>(h' = h ∧ y = []) ∧ R v h' y) = doK C gl o e h R:=by
  unfold doK
  refine propext ⟨fun ⟨v,h',y,H,_,r⟩=>⟨v,h',y,H,r⟩,fun ⟨v,h',y,H,r⟩=>⟨v,h',y,H,ADo_still hs H,r⟩⟩
theorem NDraw_eq : ∀ (ds : List DOp) (dn : Done) (hs : List Heap) (e : List (Nat × AV)) (h : Heap) (x : Esc) (L : List (Nat × AV) → Heap → Esc → Prop),ADraw C gl ds dn hs e h x L = NDraw C gl ds dn hs e h x L
  | [],dn,hs,e,h,x,L=>rfl
  | ⟨o,rd,eff,early,again⟩ :: r,dn,hs,e,h,x,L=>by
    rw [ADraw_cons]
    show _ = gK o.guard (prune (some rd) e) h (opE C o.op (Opd.ev gl (prune (some rd) e)) h) fun v h' y=>
      effN o.op.still eff h h' y (earlyN C gl o (prune (some rd) e) v hs (againN C gl h' dn (NDraw C gl r (dn ++ [(o,prune (some rd) e,v)]) (hs ++ [h]) (put o.dst v e) h' (y ++ x) L) again) early)
    rw [← gK_doK]
    have e1 : drawK C gl ⟨o,rd,eff,early,again⟩ r dn hs e h x L = fun v h' y=>(effK eff h h' y ∧ earlyN C gl o (prune (some rd) e) v hs (againN C gl h' dn (NDraw C gl r (dn ++ [(o,prune (some rd) e,v)]) (hs ++ [h]) (put o.dst v e) h' (y ++ x) L) again) early):=by
      funext v h' y
      rw [drawK_all,earlyN_eq,againN_eq,← NDraw_eq r]
    rw [e1]
    cases eff with
    | true=>
      congr 1; funext v h' y
      simp [effK,effN,upB]
    | false=>
      cases hs' : o.op.still with
      | true=>
        have:=doK_still (C:=C) (gl:=gl) (o:=o) hs' (e:=prune (some rd) e) (h:=h) (R:=fun v h' y=>earlyN C gl o (prune (some rd) e) v hs (againN C gl h' dn (NDraw C gl r (dn ++ [(o,prune (some rd) e,v)]) (hs ++ [h]) (put o.dst v e) h' (y ++ x) L) again) early)
        exact this
      | false=>rfl
def NW (C : Hd) (gl : Nat → Option PV) : ACode → St → (Ex → St → Prop) → Prop
  | .skip,s,K=>K .normal s
  | .reg ops keep,s,K=>NReg C gl ops s.env s.h s.esc fun e h x=>K .normal ⟨prune keep e,h,x⟩
  | .draw ds keep,s,K=>NDraw C gl ds [] [] s.env s.h s.esc fun e h x=>K .normal ⟨prune keep e,h,x⟩
  | .seq a b,s,K=>NW C gl a s fun e s'=>match e with
    | .normal=>NW C gl b s' K
    | .exit i=>K (.exit i) s'
    | .ret=>K .ret s'
  | .cond c a b,s,K=>condB (Opd.ev gl s.env c) (NW C gl a s K) (NW C gl b s K)
  | .condu c a b,s,K=>condU (Opd.ev gl s.env c) (NW C gl a s K) (NW C gl b s K)
  | .det b,s,K=>NW C gl b s K
  | .block id b,s,K=>NW C gl b s fun e s'=>match e with
    | .normal=>K .normal s'
    | .exit i=>bif Nat.beq i id then K .normal s' else K (.exit i) s'
    | .ret=>K .ret s'
  | .loop b,s,K=>ALoop (NW C gl b) K s
  | .scope b,s,K=>NW C gl b ⟨s.env,s.h,[]⟩ fun e s'=>K e (trunc s.h.length s.esc s')
  | .pr l b,s,K=>NW C gl b ⟨prune (some l) s.env,s.h,s.esc⟩ K
  | .exit id,s,K=>K (.exit id) s
  | .ret,s,K=>K .ret s
  | .bad,_,_=>False
theorem NW_eq : ∀ (c : ACode) (s : St) (K : Ex → St → Prop),AW C gl c s K = NW C gl c s K
  | .skip,s,K=>rfl
  | .reg ops keep,s,K=>NReg_eq _ _ _ _ _
  | .draw ds keep,s,K=>NDraw_eq _ _ _ _ _ _ _
  | .seq a b,s,K=>by
    unfold AW NW
    rw [NW_eq a]
    congr 1; funext e s'
    cases e with
    | normal=>exact NW_eq b s' K
    | _=>rfl
  | .cond c a b,s,K=>by
    unfold AW NW condB
    rw [← NW_eq a,← NW_eq b]
    rfl
  | .condu c a b,s,K=>by
    unfold AW NW condU
    rw [← NW_eq a,← NW_eq b]
    rfl
  | .det b,s,K=>NW_eq b s K
  | .block id b,s,K=>by
    unfold AW NW
    rw [NW_eq b]
    congr 1; funext e s'
    cases e with
    | exit i=>
      dsimp only
      by_cases hi : i = id
      · subst hi; simp
      · rw [if_neg hi]
        have : Nat.beq i id = false:=by cases h : Nat.beq i id with | false=>rfl | true=>exact absurd (Nat.eq_of_beq_eq_true h) hi
        rw [this]; rfl
    | _=>rfl
  | .loop b,s,K=>by
    show ALoop (AW C gl b) K s = ALoop (NW C gl b) K s
    rw [show AW C gl b = NW C gl b from funext fun s=>funext fun K=>NW_eq b s K]
  | .scope b,s,K=>NW_eq b _ _
  | .pr l b,s,K=>NW_eq b _ _
  | .exit id,s,K=>rfl
  | .ret,s,K=>rfl
  | .bad,s,K=>rfl
end Go.Am
end
section
/- The abstract machine,part 31: words in which a function's code is printed,and the rules of computing over them. -/
set_option linter.unusedSimpArgs false
set_option linter.unusedVariables false
namespace Go.Am
variable {C : Hd} {gl : Nat → Option PV} {e : List (Nat × AV)} {h : Heap} {x : Esc} {K : Ex → St → Prop} {s : St}
abbrev AI (n : Int) : AV:=.p (.int .i64 n)
abbrev AB (b : Bool) : AV:=.p (.bool b)
def seqN (C : Hd) (gl : Nat → Option PV) (b : ACode) (K : Ex → St → Prop) (e : Ex) (s : St) : Prop:=match e with
  | .normal=>NW C gl b s K
  | .exit i=>K (.exit i) s
  | .ret=>K .ret s
def blockN (id : Nat) (K : Ex → St → Prop) (e : Ex) (s : St) : Prop:=match e with
  | .normal=>K .normal s
  | .exit i=>bif Nat.beq i id then K .normal s else K (.exit i) s
  | .ret=>K .ret s
def nqK (sh : Option Sh) (l : List AV) (h : Heap) (k : AV → Heap → Esc → Prop) : Prop:=match choices h sh l with
    | some l=>l ≠ [] ∧ ∀ y ∈ l,k y.1 y.2 []
    | none=>False
theorem seqN_normal {b : ACode} : seqN C gl b K .normal s = NW C gl b s K:=(rfl)
theorem seqN_exit {b : ACode} {i : Nat} : seqN C gl b K (.exit i) s = K (.exit i) s:=(rfl)
theorem seqN_ret {b : ACode} : seqN C gl b K .ret s = K .ret s:=(rfl)
theorem blockN_normal {i : Nat} : blockN i K .normal s = K .normal s:=(rfl)
theorem blockN_same {i : Nat} : blockN i K (.exit i) s = K .normal s:=by simp [blockN]
theorem blockN_exit {i j : Nat} : blockN i K (.exit j) s = bif Nat.beq j i then K .normal s else K (.exit j) s:=(rfl)
theorem blockN_ret {i : Nat} : blockN i K .ret s = K .ret s:=(rfl)
theorem seqN_congr {b : ACode} {ex ex' : Ex} {s s' : St} (he : ex = ex') (hs : s = s') : seqN C gl b K ex s = seqN C gl b K ex' s':=by rw [he,hs]
theorem blockN_congr {i : Nat} {ex ex' : Ex} {s s' : St} (he : ex = ex') (hs : s = s') : blockN i K ex s = blockN i K ex' s':=by rw [he,hs]
theorem NW_scope {b : ACode} : NW C gl (.scope b) ⟨e,h,x⟩ K = NW C gl b ⟨e,h,[]⟩ (scopeK h.length x K):=(rfl)
theorem NW_congr {c : ACode} {s s' : St} (hs : s = s') : NW C gl c s K = NW C gl c s' K:=by rw [hs]
def NLoop (C : Hd) (gl : Nat → Option PV) (b : ACode) (K : Ex → St → Prop) (e : List (Nat × AV)) (h : Heap) (x : Esc) : Prop:=ALoop (NW C gl b) K ⟨e,h,x⟩
theorem NLoop_pr {l : List Nat} {b : ACode} : NW C gl (.loop (.pr l b)) ⟨e,h,x⟩ K = NLoop C gl (.pr l b) K (prune (some l) e) h x:=by
  show ALoop _ _ _ = ALoop _ _ _
  exact ALoop_same (funext fun R=>by show NW C gl b _ R = NW C gl b _ R; dsimp only; rw [prune_prune])
theorem NLoop_sc {l : List Nat} {b : ACode} : NW C gl (.loop (.scope (.pr l b))) ⟨e,h,x⟩ K = NLoop C gl (.scope (.pr l b)) K (prune (some l) e) h x:=by
  show ALoop _ _ _ = ALoop _ _ _
  exact ALoop_same (funext fun R=>by show NW C gl b _ _ = NW C gl b _ _; dsimp only; rw [prune_prune])
theorem NLoop_congr {b : ACode} {e e' : List (Nat × AV)} {h h' : Heap} {x x' : Esc} (h1 : e = e') (h2 : h = h') (h3 : x = x') : NLoop C gl b K e h x = NLoop C gl b K e' h' x':=by rw [h1,h2,h3]
theorem N_loop {σ : Type} {b : ACode} (S : σ → St) (P : σ → Prop) (m : σ → Nat) (t0 : σ) (hs : (⟨e,h,x⟩ : St) = S t0) (h0 : P t0) (hr : ∀ t,P t → NW C gl b (S t) (loopK S P m K t)) : NLoop C gl b K e h x:=by
  show ALoop (NW C gl b) K _
  rw [hs]
  have key : ∀ n t,m t < n → P t → ALoop (NW C gl b) K (S t):=by
    intro n
    induction n with
    | zero=>intro t h; omega
    | succ n ih=>
      intro t hm hp
      refine .mk _ _ (hr t hp) (fun s' h'=>?_) (fun i s' h'=>h') (fun s' h'=>h')
      obtain ⟨u,rfl,hu,hlt⟩:=h'
      exact ih u (by omega) hu
  exact key _ t0 (Nat.lt_succ_self _) h0
theorem call_val {X : Ctx} {f : Nat} {F : AFun} {a asv : List AV} {h h1 : Heap} {P : Post} (hf : X.fn f = some F) (hr : F.byref = false) (hp : puras h a = some (asv,h1)) (hl : asv.length = F.nparams) (hd : F.isDet = false:=by rfl) :
    ACall X f a h P = NW (ACall X) X.gl F.body ⟨enter asv,h1,[]⟩ (finR F.results F.keep h.length P):=by
  rw [step_val hf hr hp hl hd,NW_eq]
theorem call_val_det {X : Ctx} {f : Nat} {F : AFun} {a asv : List AV} {h h1 : Heap} {P : Post} (hf : X.fn f = some F) (hr : F.byref = false) (hp : puras h a = some (asv,h1)) (hl : asv.length = F.nparams) (hd : F.isDet = true:=by rfl) :
    ACall X f a h P = ∃ v h' x,P v h' x ∧ NW (ACall X) X.gl F.body ⟨enter asv,h1,[]⟩ (finR F.results F.keep h.length fun v1 h1 x1=>v1 = v ∧ h1 = h' ∧ x1 = x):=by
  rw [step_val_det hf hr hp hl hd]
  simp only [NW_eq]
theorem call_ref {X : Ctx} {f : Nat} {F : AFun} {asv : List AV} {h : Heap} {P : Post} (hf : X.fn f = some F) (hr : F.byref = true) (hl : asv.length = F.nparams) (hd : F.isDet = false:=by rfl) :
    ACall X f asv h P = NW (ACall X) X.gl F.body ⟨enter asv,h,[]⟩ (finR F.results F.keep h.length P):=by
  rw [step_ref hf hr hl hd,NW_eq]
theorem pK_some {v : AV} {k : AV → Prop} : pK (some v) k = k v:=(rfl)
theorem pK_none {k : AV → Prop} : pK none k = False:=(rfl)
theorem wK_some {v : AV} {h : Heap} {x : Esc} {k : AV → Heap → Esc → Prop} : wK (some (v,h,x)) k = k v h x:=(rfl)
theorem wK_none {k : AV → Heap → Esc → Prop} : wK none k = False:=(rfl)
theorem pK_ite {p : Prop} [Decidable p] {a b : Option AV} {k : AV → Prop} : pK (if p then a else b) k = if p then pK a k else pK b k:=by split <;> rfl
theorem wK_ite {p : Prop} [Decidable p] {a b : Option (AV × Heap × Esc)} {k : AV → Heap → Esc → Prop} : wK (if p then a else b) k = if p then wK a k else wK b k:=by split <;> rfl
theorem pK_congr {o o' : Option AV} {k : AV → Prop} (h : o = o') : pK o k = pK o' k:=by rw [h]
theorem wK_congr {o o' : Option (AV × Heap × Esc)} {k : AV → Heap → Esc → Prop} (h : o = o') : wK o k = wK o' k:=by rw [h]
theorem gV_congr {v v' : AV} {b : Bool} {h : Heap} {A : (AV → Heap → Esc → Prop) → Prop} {k : AV → Heap → Esc → Prop} (h1 : v = v') : gV v b h A k = gV v' b h A k:=by rw [h1]
theorem gP_congr {v v' : AV} {b : Bool} {o : Option AV} {h : Heap} {k : AV → Heap → Esc → Prop} (h1 : v = v') : gP v b o h k = gP v' b o h k:=by rw [h1]
theorem gM_congr {v v' : AV} {b : Bool} {u : AV} {h : Heap} {k : AV → Heap → Esc → Prop} (h1 : v = v') : gM v b u h k = gM v' b u h k:=by rw [h1]
section
variable {A : (AV → Heap → Esc → Prop) → Prop} {o : Option AV} {u : AV} {k : AV → Heap → Esc → Prop} {t b : Bool}
theorem gV_tt : gV (.p (.bool true)) true h A k = A k:=(rfl)
theorem gV_ff : gV (.p (.bool false)) false h A k = A k:=(rfl)
theorem gV_tf : gV (.p (.bool true)) false h A k = k .skp h []:=(rfl)
theorem gV_ft : gV (.p (.bool false)) true h A k = k .skp h []:=(rfl)
theorem gV_skp : gV .skp b h A k = k .skp h []:=(rfl)
theorem gV_any : gV (.p (.bool t)) b h A k = wantK (.p (.bool t)) b (A k) (k .skp h []):=(rfl)
theorem gP_tt : gP (.p (.bool true)) true o h k = pK o fun v=>k v h []:=(rfl)
theorem gP_ff : gP (.p (.bool false)) false o h k = pK o fun v=>k v h []:=(rfl)
theorem gP_tf : gP (.p (.bool true)) false o h k = k .skp h []:=(rfl)
theorem gP_ft : gP (.p (.bool false)) true o h k = k .skp h []:=(rfl)
theorem gP_skp : gP .skp b o h k = k .skp h []:=(rfl)
theorem gP_any : gP (.p (.bool t)) b o h k = wantK (.p (.bool t)) b (pK o fun v=>k v h []) (k .skp h []):=(rfl)
theorem gM_tt : gM (.p (.bool true)) true u h k = k u h []:=(rfl)
theorem gM_ff : gM (.p (.bool false)) false u h k = k u h []:=(rfl)
theorem gM_tf : gM (.p (.bool true)) false u h k = k .skp h []:=(rfl)
theorem gM_ft : gM (.p (.bool false)) true u h k = k .skp h []:=(rfl)
theorem gM_skp : gM .skp b u h k = k .skp h []:=(rfl)
theorem gM_any : gM (.p (.bool t)) b u h k = wantK (.p (.bool t)) b (k u h []) (k .skp h []):=(rfl)
end
section
variable {k k' : IntKind} {a b : Int} {sa sb : List UInt8}
theorem bin_add : oBin .add (.p (.int k a)) (.p (.int k b)) = some (.p (.int k (k.wrap (a + b)))):=by simp [oBin,abin,aint]
theorem bin_sub : oBin .sub (.p (.int k a)) (.p (.int k b)) = some (.p (.int k (k.wrap (a - b)))):=by simp [oBin,abin,aint]
theorem bin_mul : oBin .mul (.p (.int k a)) (.p (.int k b)) = some (.p (.int k (k.wrap (a * b)))):=by simp [oBin,abin,aint]
theorem bin_quo : oBin .quo (.p (.int k a)) (.p (.int k b)) = if b = 0 then none else some (.p (.int k (k.wrap (a.tdiv b)))):=by simp [oBin,abin,aint] <;> split <;> rfl
theorem bin_rem : oBin .rem (.p (.int k a)) (.p (.int k b)) = if b = 0 then none else some (.p (.int k (a.tmod b))):=by simp [oBin,abin,aint] <;> split <;> rfl
theorem bin_and : oBin .and (.p (.int k a)) (.p (.int k b)) = some (.p (.int k (iand k a b))):=by simp [oBin,abin,aint]
theorem bin_or : oBin .or (.p (.int k a)) (.p (.int k b)) = some (.p (.int k (ior k a b))):=by simp [oBin,abin,aint]
theorem bin_xor : oBin .xor (.p (.int k a)) (.p (.int k b)) = some (.p (.int k (ixor k a b))):=by simp [oBin,abin,aint]
theorem bin_andNot : oBin .andNot (.p (.int k a)) (.p (.int k b)) = some (.p (.int k (iandn k a b))):=by simp [oBin,abin,aint]
theorem bin_eql : oBin .eql (.p (.int k a)) (.p (.int k b)) = some (.p (.bool (decide (a = b)))):=by simp [oBin,abin,aint]
theorem bin_neq : oBin .neq (.p (.int k a)) (.p (.int k b)) = some (.p (.bool (!decide (a = b)))):=by simp [oBin,abin,aint]
theorem bin_lss : oBin .lss (.p (.int k a)) (.p (.int k b)) = some (.p (.bool (decide (a < b)))):=by simp [oBin,abin,aint]
theorem bin_leq : oBin .leq (.p (.int k a)) (.p (.int k b)) = some (.p (.bool (decide (a ≤ b)))):=by simp [oBin,abin,aint]
theorem bin_gtr : oBin .gtr (.p (.int k a)) (.p (.int k b)) = some (.p (.bool (decide (b < a)))):=by simp [oBin,abin,aint]
theorem bin_geq : oBin .geq (.p (.int k a)) (.p (.int k b)) = some (.p (.bool (decide (b ≤ a)))):=by simp [oBin,abin,aint]
theorem bin_shl : oBin .shl (.p (.int k a)) (.p (.int k' b)) = if b < 0 then none else some (.p (.int k (ishl k a b))):=by simp [oBin,abin] <;> split <;> rfl
theorem bin_shr : oBin .shr (.p (.int k a)) (.p (.int k' b)) = if b < 0 then none else some (.p (.int k (ishr k a b))):=by simp [oBin,abin] <;> split <;> rfl
theorem str_add : oBin .add (.p (.str sa)) (.p (.str sb)) = if sa.length + sb.length ≤ maxStr then some (.p (.str (sa ++ sb))) else none:=by simp [oBin,abin,astr] <;> split <;> rfl
theorem str_eql : oBin .eql (.p (.str sa)) (.p (.str sb)) = some (.p (.bool (decide (sa = sb)))):=by simp [oBin,abin,astr]
theorem str_neq : oBin .neq (.p (.str sa)) (.p (.str sb)) = some (.p (.bool (!decide (sa = sb)))):=by simp [oBin,abin,astr]
theorem str_lss : oBin .lss (.p (.str sa)) (.p (.str sb)) = some (.p (.bool (Op.bytesLess sa sb))):=by simp [oBin,abin,astr]
theorem str_leq : oBin .leq (.p (.str sa)) (.p (.str sb)) = some (.p (.bool (Op.bytesLess sa sb || decide (sa = sb)))):=by simp [oBin,abin,astr]
theorem str_gtr : oBin .gtr (.p (.str sa)) (.p (.str sb)) = some (.p (.bool (!(Op.bytesLess sa sb || decide (sa = sb))))):=by simp [oBin,abin,astr]
theorem str_geq : oBin .geq (.p (.str sa)) (.p (.str sb)) = some (.p (.bool (!Op.bytesLess sa sb))):=by simp [oBin,abin,astr]
theorem un_neg : oUn .neg (.p (.int k a)) = some (.p (.int k (k.wrap (-a)))):=by simp [oUn,aun]
theorem un_not {t : Bool} : oUn .not (.p (.bool t)) = some (.p (.bool !t)):=(rfl)
theorem convI {k' : IntKind} : oConvI k (.p (.int k' a)) = some (.p (.int k (k.wrap a))):=(rfl)
theorem nilref {i j : Nat} : oNil (.ref i j) = some (.ref i j):=(rfl)
theorem nilrref {i j m n : Nat} : oNil (.rref i j m n) = some (.rref i j m n):=(rfl)
theorem nilvp {v : PV} : oNil (.vp v) = some (.vp v):=(rfl)
theorem nilfn {f : Nat} {cs : List AV} : oNil (.fn f cs) = some (.fn f cs):=(rfl)
theorem pick_b {t : Bool} {u v : AV} : oPick (.p (.bool t)) u v = some (bif t then u else v):=(rfl)
theorem len_sl {sh : Sh} {xs : List PV} : oLen (.p (.sl sh xs)) = some (.p (.int .i64 xs.length)):=(rfl)
theorem len_sl0 {sh : Sh} : oLen (.sl0 sh) = some (.p (.int .i64 0)):=(rfl)
theorem len_own {i g o l : Nat} : oLen (.own i g o l) = some (.p (.int .i64 l)):=(rfl)
theorem lens_s : oLens (.p (.str sa)) = some (.p (.int .i64 sa.length)):=(rfl)
theorem ext_t {vs : List AV} {i : Nat} : oExt (.tup vs) i = vs[i]?:=(rfl)
theorem faddr_ref {off i j : Nat} {sh : Sh} : oFaddr off sh (.ref i j) = some (.ref i (j + off)):=(rfl)
theorem faddr_rref {off i j m n : Nat} {sh : Sh} : oFaddr off sh (.rref i j m n) = some (.rref i j m (n + off)):=(rfl)
theorem faddr_vp {off : Nat} {sh : Sh} {v : PV} : oFaddr off sh (.vp v) = (cutP sh off v).map .vp:=(rfl)
theorem field_p {off : Nat} {sh : Sh} {cs : List PV} : oField off sh (.p (.agg cs)) = (cutP sh off (.agg cs)).map .p:=(rfl)
theorem field_a {off : Nat} {sh : Sh} {cs : List AV} : oField off sh (.agg cs) = cut sh off cs:=(rfl)
def ldB (sh : Sh) (off : Nat) : Option Obj → Option AV
  | some (.box cs)=>cut sh off cs
  | _=>none
def ldR (sh : Sh) (g i off : Nat) : Option Obj → Option AV
  | some (.row _ xs _)=>if g = xs.length then ((xs[i]?).bind (cutP sh off)).map .p else none
  | _=>none
theorem load_ref {sh : Sh} {i j : Nat} : oLoad sh (.ref i j) h = ldB sh j h[i]?:=by unfold oLoad ldB; rfl
theorem load_rref {sh : Sh} {i g m n : Nat} : oLoad sh (.rref i g m n) h = ldR sh g m n h[i]?:=by unfold oLoad ldR; rfl
theorem load_vp {sh : Sh} {v : PV} : oLoad sh (.vp v) h = (cutP sh 0 v).map .p:=(rfl)
theorem ldB_box {sh : Sh} {off : Nat} {cs : List AV} : ldB sh off (some (.box cs)) = cut sh off cs:=(rfl)
theorem ldR_row {sh sh' : Sh} {g i off fz : Nat} {xs : List PV} : ldR sh g i off (some (.row sh' xs fz)) = if g = xs.length then ((xs[i]?).bind (cutP sh off)).map .p else none:=(rfl)
def stB (sh : Sh) (id off : Nat) (v : AV) (h : Heap) : Option Obj → Option (List AV) → Option (AV × Heap × Esc)
  | some (.box cs),some vs=>if vs.length = shSize sh ∧ off + vs.length ≤ cs.length then some (.und,h.set id (.box (splice cs off vs)),escOf id v) else none
  | _,_=>none
theorem store_ref {sh : Sh} {i j : Nat} {v : AV} : oStore sh (.ref i j) v h = stB sh i j v h h[i]? v.cells:=by unfold oStore stB; rfl
theorem stB_box {sh : Sh} {id off : Nat} {v : AV} {cs vs : List AV} : stB sh id off v h (some (.box cs)) (some vs) = if vs.length = shSize sh ∧ off + vs.length ≤ cs.length then some (.und,h.set id (.box (splice cs off vs)),escOf id v) else none:=(rfl)
def stE (sh : Sh) (id i off fz : Nat) (rsh : Sh) (xs : List PV) (v : PV) (h1 : Heap) : Option PV → Option (AV × Heap × Esc)
  | some (.agg cs)=>if off + v.cells.length ≤ cs.length then some (.und,h1.set id (.row rsh (xs.set i (.agg (splice cs off v.cells))) fz),[]) else none
  | some _=>if off = 0 ∧ v.sc then some (.und,h1.set id (.row rsh (xs.set i v) fz),[]) else none
  | none=>none
def stO (sh : Sh) (id g i off : Nat) (v : PV) (h1 : Heap) : Option Obj → Option (AV × Heap × Esc)
  | some (.row rsh xs fz)=>if g = xs.length ∧ fz ≤ i ∧ v.cells.length = shSize sh ∧ v.cells.all PV.sc then stE sh id i off fz rsh xs v h1 xs[i]? else none
  | _=>none
def stR (sh : Sh) (id g i off : Nat) : Option (PV × Heap) → Option (AV × Heap × Esc)
  | some y=>stO sh id g i off y.1 y.2 y.2[id]?
  | none=>none
theorem store_rref {sh : Sh} {id g i off : Nat} {x : AV} : oStore sh (.rref id g i off) x h = stR sh id g i off (pur h x):=by
  unfold oStore stR
  cases pur h x with
  | none=>rfl
  | some y=>
    obtain ⟨v,h1⟩:=y
    dsimp only
    unfold stO
    cases h1[id]? with
    | none=>rfl
    | some o=>cases o <;> rfl
theorem stR_some {sh : Sh} {id g i off : Nat} {v : PV} {h1 : Heap} : stR sh id g i off (some (v,h1)) = stO sh id g i off v h1 h1[id]?:=(rfl)
theorem stO_row {sh rsh : Sh} {id g i off fz : Nat} {v : PV} {h1 : Heap} {xs : List PV} : stO sh id g i off v h1 (some (.row rsh xs fz)) = if g = xs.length ∧ fz ≤ i ∧ v.cells.length = shSize sh ∧ v.cells.all PV.sc then stE sh id i off fz rsh xs v h1 xs[i]? else none:=(rfl)
theorem stE_agg {sh rsh : Sh} {id i off fz : Nat} {v : PV} {h1 : Heap} {xs cs : List PV} : stE sh id i off fz rsh xs v h1 (some (.agg cs)) = if off + v.cells.length ≤ cs.length then some (.und,h1.set id (.row rsh (xs.set i (.agg (splice cs off v.cells))) fz),[]) else none:=(rfl)
theorem stE_int {sh rsh : Sh} {id i off fz : Nat} {v : PV} {h1 : Heap} {xs : List PV} {k : IntKind} {n : Int} : stE sh id i off fz rsh xs v h1 (some (.int k n)) = if off = 0 ∧ v.sc then some (.und,h1.set id (.row rsh (xs.set i v) fz),[]) else none:=(rfl)
theorem stE_bool {sh rsh : Sh} {id i off fz : Nat} {v : PV} {h1 : Heap} {xs : List PV} {t : Bool} : stE sh id i off fz rsh xs v h1 (some (.bool t)) = if off = 0 ∧ v.sc then some (.und,h1.set id (.row rsh (xs.set i v) fz),[]) else none:=(rfl)
theorem stE_str {sh rsh : Sh} {id i off fz : Nat} {v : PV} {h1 : Heap} {xs : List PV} {s : List UInt8} : stE sh id i off fz rsh xs v h1 (some (.str s)) = if off = 0 ∧ v.sc then some (.und,h1.set id (.row rsh (xs.set i v) fz),[]) else none:=(rfl)
theorem stE_sl {sh rsh : Sh} {id i off fz : Nat} {v : PV} {h1 : Heap} {xs : List PV} {sh' : Sh} {ys : List PV} : stE sh id i off fz rsh xs v h1 (some (.sl sh' ys)) = if off = 0 ∧ v.sc then some (.und,h1.set id (.row rsh (xs.set i v) fz),[]) else none:=(rfl)
theorem stE_nilp {sh rsh : Sh} {id i off fz : Nat} {v : PV} {h1 : Heap} {xs : List PV}  : stE sh id i off fz rsh xs v h1 (some .nilp) = if off = 0 ∧ v.sc then some (.und,h1.set id (.row rsh (xs.set i v) fz),[]) else none:=(rfl)
theorem pur_p {v : PV} : pur h (.p v) = some (v,h):=(rfl)
def iaS (xs : List PV) : Option Nat → Option AV
  | some k=>(xs[k]?).map .vp
  | none=>none
theorem iaddr_sl {sh : Sh} {xs : List PV} {i : AV} : oIaddr sh (.p (.sl sh xs)) i h = iaS xs (natOf i):=by
  unfold oIaddr iaS; cases natOf i <;> simp
theorem iaS_some {xs : List PV} {n : Nat} : iaS xs (some n) = (xs[n]?).map .vp:=(rfl)
def iaO (sh : Sh) (id g off len : Nat) : Option Obj → Option Nat → Option AV
  | some (.row rsh xs _),some k=>if rsh = sh ∧ g = xs.length ∧ off + len ≤ xs.length ∧ k < len then some (.rref id g (off + k) 0) else none
  | _,_=>none
theorem iaddr_own {sh : Sh} {id g off len : Nat} {i : AV} : oIaddr sh (.own id g off len) i h = iaO sh id g off len h[id]? (natOf i):=by
  unfold oIaddr iaO
  cases natOf i with
  | none=>dsimp only; cases h[id]? with
    | none=>rfl
    | some o=>cases o <;> rfl
  | some k=>dsimp only; cases h[id]? with
    | none=>rfl
    | some o=>cases o <;> rfl
theorem iaO_row {sh rsh : Sh} {id g off len k fz : Nat} {xs : List PV} : iaO sh id g off len (some (.row rsh xs fz)) (some k) = if rsh = sh ∧ g = xs.length ∧ off + len ≤ xs.length ∧ k < len then some (.rref id g (off + k) 0) else none:=(rfl)
theorem idxs_s {i : AV} : oIdxs (.p (.str sa)) i = (natOf i).bind fun n=>(sa[n]?).map fun b=>.p (.int .u8 b.toNat):=by
  unfold oIdxs; cases natOf i <;> rfl
end
theorem alK_eq {z : List AV} {k : AV → Heap → Esc → Prop} : alK z h k = k (.ref h.length 0) (h ++ [.box z]) []:=(rfl)
theorem nwK_eq {sh : Sh} {k : AV → Heap → Esc → Prop} : nwK sh h k = k (.own h.length 0 0 0) (h ++ [.row sh [] 0]) []:=(rfl)
theorem mmK_eq {k : AV → Heap → Esc → Prop} : mmK h k = k (.mp h.length) (h ++ [.amap [] 0]) []:=(rfl)
theorem condU_true {A B : Prop} : condU (.p (.bool true)) A B = A:=(rfl)
theorem condU_false {A B : Prop} : condU (.p (.bool false)) A B = B:=(rfl)
theorem condU_any {A B : Prop} : condU .anyb A B = (A ∧ B):=(rfl)
attribute [go_sem] seqN_normal seqN_exit seqN_ret blockN_normal blockN_same blockN_ret NW_scope pK_some pK_none wK_some wK_none pK_ite wK_ite gV_tt gV_ff gV_tf gV_ft gV_skp gP_tt gP_ff gP_tf gP_ft gP_skp gM_tt gM_ff gM_tf gM_ft gM_skp bin_add bin_sub bin_mul bin_quo bin_rem bin_and bin_or bin_xor bin_andNot bin_eql bin_neq bin_lss bin_leq bin_gtr bin_geq bin_shl bin_shr str_add str_eql str_neq str_lss str_leq str_gtr str_geq un_neg un_not convI nilref nilrref nilvp nilfn pick_b len_sl len_sl0 len_own lens_s ext_t faddr_ref faddr_rref faddr_vp field_p field_a load_ref load_rref load_vp ldB_box ldR_row store_ref stB_box store_rref stR_some stO_row stE_agg stE_int stE_bool stE_str stE_sl stE_nilp pur_p iaddr_sl iaS_some iaddr_own iaO_row idxs_s alK_eq nwK_eq mmK_eq oBox oBuild fillV oBsl fillW oEqa oIsnil nilAny condU_true condU_false condU_any nilOf oMkif okIn oConv oMksl bndV oSlstr oSlice oIaddra oIdxa oApp oCopy oClr oMx oMn oLook oMupd oMent oEstore oMdel oLenm oMrange oMentry
attribute [go_sem ↓] pK_some pK_none wK_some wK_none gV_tt gV_ff gV_tf gV_ft gV_skp gP_tt gP_ff gP_tf gP_ft gP_skp gM_tt gM_ff gM_tf gM_ft gM_skp condB_true condB_false wantK_tt wantK_ff wantK_tf wantK_ft wantK_skp seqN_normal seqN_exit seqN_ret blockN_normal blockN_same blockN_ret alK_eq nwK_eq mmK_eq loopK_normal loopK_exit loopK_ret scopeK_eq finR_normal finR_ret
attribute [go_sem low] gV_any gP_any gM_any blockN_exit
attribute [congr] seqN_congr blockN_congr NW_congr NLoop_congr pK_congr wK_congr gV_congr gP_congr gM_congr
end Go.Am
end
section
/- The abstract machine,part X: the library's functions that have no Go text: comparing strings,finding a byte. -/
set_option linter.unusedSimpArgs false
set_option linter.unusedVariables false
namespace Go.Am
variable {P : Program}
structure ExtRow (P : Program) (f : Nat) (e : Array Value → Sem Value) : Prop where
  row : ∃ fn,P.funcs[f]? = some fn ∧ fn.name ≠ "runtime.NumGoroutine" ∧ fn.body = none ∧ Extern.findNext fn = none ∧ Extern.find fn = some e
theorem ExtRow.run {f : Nat} {e : Array Value → Sem Value} (R : ExtRow P f e) {us : Array Value} {w w' : World} {x : Value} (he : (e us).run P w = .ok x w') : (callFunc f us).run P w = .ok (.value x) w':=by
  obtain ⟨fn,h1,h2,h3,h4,h5⟩:=R.row
  unfold callFunc
  simp [h1,h2,h3,h4,h5,he]
theorem extRow_of {f : Nat} {e : Array Value → Sem Value} (h : (match P.funcs[f]? with | some fn=>fn.name != "runtime.NumGoroutine" && fn.body.isNone && (Extern.findNext fn).isNone | none=>false) = true) (h2 : (P.funcs[f]?).bind Extern.find = some e) : ExtRow P f e:=by
  cases hf : P.funcs[f]? with
  | none=>rw [hf] at h; cases h
  | some fn=>
    rw [hf] at h h2
    simp only [Bool.and_eq_true,bne_iff_ne,ne_eq,Option.isNone_iff_eq_none] at h
    exact ⟨⟨fn,hf,h.1.1,h.1.2,h.2,h2⟩⟩
def idxB (s : List UInt8) (c : UInt8) : Int:=if s.findIdx (· == c) < s.length then (s.findIdx (· == c) : Int) else -1
def cmpL : List UInt8 → List UInt8 → Int
  | [],[]=>0
  | [],_ :: _=>-1
  | _ :: _,[]=>1
  | a :: asv,b :: bs=>if a < b then -1 else if b < a then 1 else cmpL asv bs
theorem ba_get (s : List UInt8) (i : Nat) : (⟨s.toArray⟩ : ByteArray)[i]! = s.getD i 0:=by
  by_cases h : i < s.length
  · rw [getElem!_pos (⟨s.toArray⟩ : ByteArray) i h]
    show s.toArray[i] = _
    simp [h]
  · rw [getElem!_neg (⟨s.toArray⟩ : ByteArray) i h]
    simp [Nat.not_lt.1 h]
    rfl
theorem find_idx (s : List UInt8) (c : UInt8) : (match (List.range (⟨s.toArray⟩ : ByteArray).size).find? fun i=>(⟨s.toArray⟩ : ByteArray)[i]! == c with
    | some i=>(i : Int)
    | none=>-1) = idxB s c:=by
  have hsz : (⟨s.toArray⟩ : ByteArray).size = s.length:=rfl
  have hget : ∀ i,i < s.length → (⟨s.toArray⟩ : ByteArray)[i]! = s.getD i 0:=by
    intro i hi
    exact ba_get s i
  unfold idxB
  rw [hsz]
  by_cases h : s.findIdx (· == c) < s.length
  · rw [if_pos h]
    have hf : (List.range s.length).find? (fun i=>(⟨s.toArray⟩ : ByteArray)[i]! == c) = some (s.findIdx (· == c)):=by
      rw [List.find?_eq_some_iff_getElem]
      refine ⟨?_,s.findIdx (· == c),by simpa using h,by simp,fun j hj=>?_⟩
      · rw [hget _ h]
        have:=List.findIdx_getElem (w:=h)
        simpa [h] using this
      · simp only [List.getElem_range]
        have hj' : j < s.length:=by omega
        rw [hget _ hj']
        have:=List.not_of_lt_findIdx hj
        simpa [hj'] using this
    rw [hf]
  · rw [if_neg h]
    have hf : (List.range s.length).find? (fun i=>(⟨s.toArray⟩ : ByteArray)[i]! == c) = none:=by
      rw [List.find?_eq_none]
      intro i hi
      rw [List.mem_range] at hi
      rw [hget _ hi]
      intro hc
      exact h (List.findIdx_lt_length_of_exists ⟨s[i],List.getElem_mem hi,by simpa [hi] using hc⟩)
    rw [hf]
theorem cmp_cmpL : ∀ (a b : List UInt8),Extern.BytealgCompare.cmp ⟨a.toArray⟩ ⟨b.toArray⟩ = cmpL a b:=by
  have key : ∀ (a b : List UInt8),(match (List.range (min a.length b.length)).find? fun i=>a.getD i 0 != b.getD i 0 with
      | some i=>if a.getD i 0 < b.getD i 0 then (-1 : Int) else 1
      | none=>if a.length < b.length then -1 else if a.length > b.length then 1 else 0) = cmpL a b:=by
    intro a
    induction a with
    | nil=>intro b; cases b <;> simp [cmpL]
    | cons x a ih=>
      intro b
      cases b with
      | nil=>simp [cmpL]
      | cons y b=>
        have hm : min (x :: a).length (y :: b).length = min a.length b.length + 1:=by simp only [List.length_cons]; omega
        rw [hm,List.range_succ_eq_map,List.find?_cons]
        simp only [List.getD_cons_zero]
        by_cases hxy : x = y
        · subst hxy
          have hlt : ¬ x < x:=UInt8.lt_irrefl x
          simp only [bne_self_eq_false,List.find?_map,cmpL,hlt,if_false]
          rw [← ih b]
          have hc : ((fun i=>(x :: a).getD i 0 != (x :: b).getD i 0) ∘ Nat.succ) = fun i=>a.getD i 0 != b.getD i 0:=by
            funext i; simp
          rw [hc]
          cases (List.range (min a.length b.length)).find? fun i=>a.getD i 0 != b.getD i 0 with
          | none=>simp
          | some i=>simp
        · have : (x != y) = true := by simpa using hxy
          rw [this]
          simp only [cmpL,List.getD_cons_zero]
          by_cases h1 : x < y
          · simp [h1]
          · have h2 : y < x:=by
              rcases UInt8.lt_or_lt_of_ne (a:=x) (b:=y) hxy with h | h
              · exact absurd h h1
              · exact h
            simp [h1,h2]
  intro a b
  rw [← key a b]
  unfold Extern.BytealgCompare.cmp
  have sa : (⟨a.toArray⟩ : ByteArray).size = a.length:=rfl
  have sb : (⟨b.toArray⟩ : ByteArray).size = b.length:=rfl
  simp only [sa,sb,ba_get]
  generalize List.find? _ _ = q
  cases q <;> rfl
def extF (fi fc : Nat) (f : Nat) (vs : List PV) : Option PV:=
  bif Nat.beq f fi then (match vs with
    | [.str s,.int .u8 c]=>some (.int .i64 (idxB s (UInt8.ofNat c.toNat)))
    | _=>none)
  else bif Nat.beq f fc then (match vs with
    | [.str a,.str b]=>some (.int .i64 (cmpL a b))
    | _=>none)
  else none
theorem extF_ok {fi fc : Nat} (h1 : ExtRow P fi Extern.BytealgIndexByte.indexByte) (h2 : ExtRow P fc Extern.BytealgCompare.compare) {f : Nat} {vs : List PV} {r : PV} (h : extF fi fc f vs = some r) : ExtOk P f vs r:=by
  intro M w us hM hl hr
  unfold extF at h
  cases e1 : Nat.beq f fi with
  | true=>
    rw [e1] at h
    have e:=Nat.eq_of_beq_eq_true e1
    subst e
    simp only [cond_true] at h
    split at h
    · rename_i s c
      injection h with h
      subst h
      match us,hl with
      | [u,v],_=>
        have q1:=hr 0 _ u rfl rfl
        have q2:=hr 1 _ v rfl rfl
        cases q1; cases q2
        refine ⟨.int .i64 (idxB s (UInt8.ofNat c.toNat)),w,h1.run ?_,WExt.refl w,.int _ _⟩
        rw [← find_idx]
        show (match (List.range (⟨s.toArray⟩ : ByteArray).size).find? fun i=>(⟨s.toArray⟩ : ByteArray)[i]! == UInt8.ofNat c.toNat with | some i=>(pure (goInt i) : Sem Value) | none=>pure (goInt (-1))).run P w = _
        generalize List.find? _ _ = q
        cases q <;> rfl
    · cases h
  | false=>
    rw [e1] at h
    simp only [cond_false] at h
    cases e2 : Nat.beq f fc with
    | true=>
      rw [e2] at h
      have e:=Nat.eq_of_beq_eq_true e2
      subst e
      simp only [cond_true] at h
      split at h
      · rename_i a b
        injection h with h
        subst h
        match us,hl with
        | [u,v],_=>
          have q1:=hr 0 _ u rfl rfl
          have q2:=hr 1 _ v rfl rfl
          cases q1; cases q2
          refine ⟨.int .i64 (cmpL a b),w,h2.run ?_,WExt.refl w,.int _ _⟩
          rw [← cmp_cmpL]
          rfl
      · cases h
    | false=>rw [e2] at h; cases h
structure GrowRow (P : Program) (f : Nat) (sh : Sh) : Prop where
  enter : ∀ us w,(callFunc f us).run P w = .ok (.enter f us) w
  room : ∀ a w,Calls P f #[.slice a 0 0,.int .i64 0] w fun e w'=>e = .returned (.slice a 0 0) ∧ w' = w
  grow : ∀ a (n : Nat) w,0 < n → n ≤ 1048576 → Calls P f #[.slice a 0 0,.int .i64 n] w fun e w'=>∃ G cs E,e = .returned (.slice (some ⟨w.heap.size,0,none⟩) 0 G) ∧ cs.size = G * shSize sh ∧ w' = w.drew.alloc (.cells cs E)
def growF : List (Nat × Sh) → Nat → List AV → Heap → Option (AV × Heap × Esc)
  | [],_,_,_=>none
  | (g,sh) :: r,f,asv,h=>bif Nat.beq f g then (match asv with
    | [.sl0 _,.p (.int .i64 n)]=>bif decide (0 ≤ n) && decide (n ≤ 1048576) then some (.own h.length 0 0 0,h ++ [.row sh [] 0],[]) else none
    | _=>none) else growF r f asv h
theorem growF_ok {gl : Nat → Option PV} : ∀ (gs : List (Nat × Sh)),(∀ g sh,(g,sh) ∈ gs → GrowRow P g sh) → ∀ {f : Nat} {asv : List AV} {h : Heap} {v : AV} {h' : Heap} {x : Esc},growF gs f asv h = some (v,h',x) →
    CallOk P gl f asv h fun v1 h1 x1=>v1 = v ∧ h1 = h' ∧ x1 = x
  | [],_,f,asv,h,v,h',x,H=>by cases H
  | (g,sh) :: r,hg,f,asv,h,v,h',x,H=>by
    unfold growF at H
    cases e1 : Nat.beq f g with
    | false=>
      rw [e1] at H
      exact growF_ok r (fun g sh hm=>hg g sh (by simp [hm])) H
    | true=>
      rw [e1] at H
      have e:=Nat.eq_of_beq_eq_true e1
      subst e
      have R:=hg f sh (by simp)
      simp only [cond_true] at H
      split at H
      · rename_i sh' n
        cases hb : (decide (0 ≤ n) && decide (n ≤ 1048576)) with
        | false=>rw [hb] at H; cases H
        | true=>
          rw [hb] at H
          simp only [cond_true,Option.some.injEq,Prod.mk.injEq] at H
          obtain ⟨rfl,rfl,rfl⟩:=H
          simp only [Bool.and_eq_true,decide_eq_true_eq] at hb
          intro μ w vs Hh Hg hl hr
          match vs,hl with
          | [u1,u2],_=>
            have q1:=hr 0 _ u1 rfl rfl
            have q2:=(hr 1 _ u2 rfl rfl).p_inv
            cases q1
            cases q2
            obtain ⟨m,hm⟩:=Int.eq_ofNat_of_zero_le hb.1
            subst hm
            refine .inl ⟨R.enter _,?_⟩
            rcases Nat.eq_zero_or_pos m with h0 | h0
            · subst h0
              refine (R.room _ w).mono fun e w' he=>?_
              obtain ⟨rfl,rfl⟩:=he
              obtain ⟨n1,n2⟩:=newNil Hh sh
              refine ⟨_,_,_,_,⟨rfl,rfl,rfl⟩,?_,n1,n2,EscInv.push (by simp [Obj.top])⟩
              exact .own h.length 0 0 0 _ 0 sh [] 0 none (Nat.le_refl _) (by simp) (by rw [← Hh.len]; simp) (by simp) (by simp) (fun _=>rfl)
            · refine (R.grow _ m w h0 (by omega)).mono fun e w' he => ?_
              obtain ⟨G,cs,E,rfl,hcs,rfl⟩:=he
              have hw : WExt w (w.drew.alloc (.cells cs E)):=(WExt.drew w _).trans (WExt.push _ _)
              obtain ⟨n1,n2⟩:=newRow' (sh:=sh) (xs:=[]) Hh hw (b:=w.heap.size) (n:=cs.size) (Nat.le_refl _) (by show w.heap.size < (w.heap.push _).size; simp) (c:=cs) (Block.push (w:=w.drew) cs E) (by simp) (by simp) (by simp)
              refine ⟨_,_,_,_,⟨rfl,rfl,rfl⟩,?_,n1,n2,EscInv.push (by simp [Obj.top])⟩
              refine .own h.length 0 0 0 _ G sh [] 0 (some (w.heap.size,cs.size)) (Nat.zero_le _) (by simp) (by rw [← Hh.len]; simp) (by simp) (by simp) (fun _=>?_)
              exact .inr ⟨by simp,by simp [hcs]⟩
      · cases H
end Go.Am
end
section
/- Short words for the printed code. -/
set_option linter.all false
namespace Go.Am
instance {n : Nat} : OfNat Opd n:=⟨.t n⟩
abbrev GL:=Nat → Option PV
abbrev KT:=Ex → St → Prop
def cI (n : Int) : Opd:=.c (.p (.int .i64 n))
def cT : Opd:=.c (.p (.bool true))
def cF : Opd:=.c (.p (.bool false))
def cS (s : List UInt8) : Opd:=.c (.p (.str s))
def uO (d : Nat) (o : AO) : AOp:=⟨some d,none,o⟩
def wO (o : AO) : AOp:=⟨none,none,o⟩
def gD (d g : Nat) (b : Bool) (o : AO) : AOp:=⟨some d,some (g,b),o⟩
def mV (d : Nat) (x : Opd) : AOp:=⟨some d,none,.mv x⟩
def bN (d : Nat) (b : BinOp) (x y : Opd) : AOp:=⟨some d,none,.bin b x y⟩
def cL (d f : Nat) (l : List Opd) : AOp:=⟨some d,none,.call f l⟩
def lD (d : Nat) (s : Sh) (x : Opd) : AOp:=⟨some d,none,.load s x⟩
def iA (d : Nat) (s : Sh) (x y : Opd) : AOp:=⟨some d,none,.iaddr s x y⟩
def fA (d o : Nat) (s : Sh) (x : Opd) : AOp:=⟨some d,none,.faddr o s x⟩
def lN (d : Nat) (x : Opd) : AOp:=⟨some d,none,.len x⟩
def eX (d : Nat) (x : Opd) (i : Nat) : AOp:=⟨some d,none,.ext x i⟩
def dF (o : AOp) (l : List Nat) : DOp:=⟨o,l,false,[],[]⟩
def dT (o : AOp) (l : List Nat) : DOp:=⟨o,l,true,[],[]⟩
def dA (o : AOp) (l : List Nat) (e : Bool) (a b : List Nat) : DOp:=⟨o,l,e,a,b⟩
def rg (l : List AOp) (k : List Nat) : ACode:=.reg l (some k)
def dr (l : List DOp) (k : List Nat) : ACode:=.draw l (some k)
end Go.Am
end
section
/- The functions asv abstract code,and asv formulas over their values: printed by program out of the translation. -/
set_option linter.unusedVariables false
set_option maxRecDepth 100000
namespace Go.Am
def p_q03g_k1 : ACode:=.pr [3,4,5,6,7,32,33] (.seq (rg [bN 34 .lss 33 32] [3,4,5,6,7,32,33,34])
(.seq (.cond 34 .skip
(.exit 0))
(.seq (.block 1 (.seq (rg [mV 35 6,
mV 36 3,
cL 37 f_q043 [36,(cI 0),(cI 20)],
uO 38 (.bsl false none 1 (.int .i64 0) [(0,37)]),
uO 39 (.app none 35 38),
mV 6 39] [3,4,5,6,7,32,33])
(dr [dF (mV 40 7) [7],
dF (mV 41 6) [6],
dF (mV 42 6) [6],
dF (lN 43 42) [42],
dF (bN 44 .sub 43 (cI 1)) [43],
dF (iA 45 none 41 44) [41,44],
dF (lD 46 none 45) [45],
dF (lD 47 none 5) [5],
dF (bN 48 .add 46 47) [46,47],
dF (uO 49 (.bsl false none 1 (.int .i64 0) [(0,48)])) [48],
dT (uO 50 (.app none 40 49)) [40,49],
dF (mV 7 50) [50]] [3,4,5,6,7,32,33])))
(rg [bN 51 .add 33 (cI 1),
mV 33 51] [3,4,5,6,7,32,33]))))
def d_q03g_k1 (C : Hd) (gl : GL) (v3 v4 v5 v6 v7 v32 v33 : AV) (h : Heap) (x : Esc) (K : KT) : Prop:=
 pK (oBin .lss v33 v32) fun t1=>
 condB t1 (C f_q043 [v3,(AI 0),(AI 20)] h fun t2 h3 y4=>
 wK (oBsl false none 1 (.int .i64 0) [(0,t2)] h3) fun t5 h6 y7=>
 wK (oApp none v6 t5 h6) fun t8 h9 y10=>
 pK (oLen t8) fun t11=>
 pK (oBin .sub t11 (AI 1)) fun t12=>
 pK (oIaddr none t8 t12 h9) fun t13=>
 pK (oLoad none t13 h9) fun t14=>
 pK (oLoad none v5 h9) fun t15=>
 pK (oBin .add t14 t15) fun t16=>
 wK (oBsl false none 1 (.int .i64 0) [(0,t16)] h9) fun t17 h18 y19=>
 (h18 = h9 ∧ y19 = []) ∧ (wK (oApp none v7 t17 h18) fun t20 h21 y22=>
 pK (oBin .add v33 (AI 1)) fun t23=>
 K .normal ⟨[(3,v3),(4,v4),(5,v5),(6,t8),(7,t20),(32,v32),(33,t23)],h21,(y22 ++ (y19 ++ (y10 ++ (y7 ++ (y4 ++ x)))))⟩))
 (K (.exit 0) ⟨[(3,v3),(4,v4),(5,v5),(6,v6),(7,v7),(32,v32),(33,v33),(34,t1)],h,x⟩)
theorem e_q03g_k1 {C gl e h x K} : NW C gl p_q03g_k1 ⟨e,h,x⟩ K = d_q03g_k1 C gl (aget e 3) (aget e 4) (aget e 5) (aget e 6) (aget e 7) (aget e 32) (aget e 33) h x K:=by kernel_rfl
theorem l_q03g_k1 {C gl e h x K} : NW C gl (.loop (.scope p_q03g_k1)) ⟨e,h,x⟩ K = NLoop C gl (.scope p_q03g_k1) K [(3,aget e 3),(4,aget e 4),(5,aget e 5),(6,aget e 6),(7,aget e 7),(32,aget e 32),(33,aget e 33)] h x:=NLoop_sc
def p_q03g_k2 : ACode:=.pr [4,5,6,7] (.seq (rg [mV 53 6,
mV 54 4,
cL 55 f_q021 [53,54],
mV 52 55,
eX 56 52 0,
eX 57 52 1,
uO 8 (.alloc [.p (.int .i64 0),.p (.int .i64 0),.p (.int .i64 0),.p (.int .i64 0),.p (.int .i64 0),.p (.int .i64 0),.p (.int .i64 0),.p (.int .i64 0)]),
wO (.store (some 8) 8 56),
mV 9 57] [4,5,6,7,8,9])
(.seq (rg [mV 59 7,
mV 60 4,
cL 61 f_q021 [59,60],
mV 58 61,
eX 62 58 0,
eX 63 58 1,
uO 10 (.alloc [.p (.int .i64 0),.p (.int .i64 0),.p (.int .i64 0),.p (.int .i64 0),.p (.int .i64 0),.p (.int .i64 0),.p (.int .i64 0),.p (.int .i64 0)]),
wO (.store (some 8) 10 62),
mV 11 63] [4,5,6,7,8,9,10,11])
(.seq (rg [mV 65 6,
mV 66 4,
cL 67 f_q02a [65,66],
mV 64 67,
eX 68 64 0,
eX 69 64 1,
mV 12 68,
mV 13 69] [4,5,6,7,8,9,10,11,12,13])
(.seq (rg [mV 71 7,
mV 72 4,
cL 73 f_q02a [71,72],
mV 70 73,
eX 74 70 0,
eX 75 70 1,
mV 14 74,
mV 15 75] [5,6,7,8,9,10,11,12,13,14,15])
(.seq (rg [mV 77 6,
cL 78 f_q02b [77],
mV 76 78,
eX 79 76 0,
eX 80 76 1,
eX 81 76 2,
uO 16 (.alloc [.p (.int .i64 0),.p (.int .i64 0)]),
uO 17 (.alloc [.p (.int .i64 0),.p (.int .i64 0)]),
wO (.store (some 2) 16 79),
wO (.store (some 2) 17 80),
mV 18 81] [5,7,8,9,10,11,12,13,14,15,16,17,18])
(.seq (rg [mV 83 7,
cL 84 f_q02b [83],
mV 82 84,
eX 85 82 0,
eX 86 82 1,
eX 87 82 2,
uO 19 (.alloc [.p (.int .i64 0),.p (.int .i64 0)]),
uO 20 (.alloc [.p (.int .i64 0),.p (.int .i64 0)]),
wO (.store (some 2) 19 85),
wO (.store (some 2) 20 86),
mV 21 87] [5,8,9,10,11,12,13,14,15,16,17,18,19,20,21])
(.seq (rg [uO 88 (.mkfn f_q03h [5]),
mV 22 88] [8,9,10,11,12,13,14,15,16,17,18,19,20,21,22])
(.seq (rg [mV 89 9,
mV 90 11,
mV 91 13,
mV 92 15,
mV 93 18,
mV 94 21,
uO 95 (.bsl false none 6 (.int .i64 0) [(0,89),(1,90),(2,91),(3,92),(4,93),(5,94)]),
cL 96 f_q03n [95],
bN 97 .eql 96 (cI 0),
mV 98 97,
gD 99 98 true (.mv 22),
gD 100 98 true (.faddr 0 (some 2) 8),
gD 101 98 true (.load (some 2) 100),
gD 102 98 true (.faddr 0 (some 2) 10),
gD 103 98 true (.load (some 2) 102),
gD 104 98 true (.callv 99 [101,103]),
uO 105 (.pick 98 104 cF),
mV 106 105,
gD 107 106 true (.mv 22),
gD 108 106 true (.faddr 4 (some 2) 8),
gD 109 106 true (.load (some 2) 108),
gD 110 106 true (.faddr 4 (some 2) 10),
gD 111 106 true (.load (some 2) 110),
gD 112 106 true (.callv 107 [109,111]),
uO 113 (.pick 106 112 cF),
mV 114 113,
gD 115 114 true (.mv 22),
gD 116 114 true (.faddr 6 (some 2) 8),
gD 117 114 true (.load (some 2) 116),
gD 118 114 true (.faddr 6 (some 2) 10),
gD 119 114 true (.load (some 2) 118),
gD 120 114 true (.callv 115 [117,119]),
uO 121 (.pick 114 120 cF),
mV 122 121,
gD 123 122 true (.faddr 2 (some 2) 8),
gD 124 122 true (.load (some 2) 123),
gD 125 122 true (.faddr 2 (some 2) 10),
gD 126 122 true (.load (some 2) 125),
gD 127 122 true (.eqa [0,0] false 124 126),
uO 128 (.pick 122 127 cF),
mV 129 128,
gD 130 129 true (.mv 12),
gD 131 129 true (.mv 14),
gD 132 129 true (.call f_q05g [130,131]),
uO 133 (.pick 129 132 cF),
mV 134 133,
gD 135 134 true (.load (some 2) 17),
gD 136 134 true (.load (some 2) 20),
gD 137 134 true (.eqa [0,0] false 135 136),
uO 138 (.pick 134 137 cF),
mV 139 138,
gD 140 139 true (.mv 22),
gD 141 139 true (.load (some 2) 16),
gD 142 139 true (.load (some 2) 19),
gD 143 139 true (.callv 140 [141,142]),
uO 144 (.pick 139 143 cF),
mV 145 144,
gD 146 145 true (.call f_q03p []),
uO 147 (.pick 145 146 cF),
mV 2 147] [2])
.ret))))))))
def d_q03g_k2 (C : Hd) (gl : GL) (v4 v5 v6 v7 : AV) (h : Heap) (x : Esc) (K : KT) : Prop:=
 C f_q021 [v6,v4] h fun t1 h2 y3=>
 pK (oExt t1 0) fun t4=>
 pK (oExt t1 1) fun t5=>
 alK [.p (.int .i64 0),.p (.int .i64 0),.p (.int .i64 0),.p (.int .i64 0),.p (.int .i64 0),.p (.int .i64 0),.p (.int .i64 0),.p (.int .i64 0)] h2 fun t6 h7 y8=>
 wK (oStore (some 8) t6 t4 h7) fun t9 h10 y11=>
 C f_q021 [v7,v4] h10 fun t12 h13 y14=>
 pK (oExt t12 0) fun t15=>
 pK (oExt t12 1) fun t16=>
 alK [.p (.int .i64 0),.p (.int .i64 0),.p (.int .i64 0),.p (.int .i64 0),.p (.int .i64 0),.p (.int .i64 0),.p (.int .i64 0),.p (.int .i64 0)] h13 fun t17 h18 y19=>
 wK (oStore (some 8) t17 t15 h18) fun t20 h21 y22=>
 C f_q02a [v6,v4] h21 fun t23 h24 y25=>
 pK (oExt t23 0) fun t26=>
 pK (oExt t23 1) fun t27=>
 C f_q02a [v7,v4] h24 fun t28 h29 y30=>
 pK (oExt t28 0) fun t31=>
 pK (oExt t28 1) fun t32=>
 C f_q02b [v6] h29 fun t33 h34 y35=>
 pK (oExt t33 0) fun t36=>
 pK (oExt t33 1) fun t37=>
 pK (oExt t33 2) fun t38=>
 alK [.p (.int .i64 0),.p (.int .i64 0)] h34 fun t39 h40 y41=>
 alK [.p (.int .i64 0),.p (.int .i64 0)] h40 fun t42 h43 y44=>
 wK (oStore (some 2) t39 t36 h43) fun t45 h46 y47=>
 wK (oStore (some 2) t42 t37 h46) fun t48 h49 y50=>
 C f_q02b [v7] h49 fun t51 h52 y53=>
 pK (oExt t51 0) fun t54=>
 pK (oExt t51 1) fun t55=>
 pK (oExt t51 2) fun t56=>
 alK [.p (.int .i64 0),.p (.int .i64 0)] h52 fun t57 h58 y59=>
 alK [.p (.int .i64 0),.p (.int .i64 0)] h58 fun t60 h61 y62=>
 wK (oStore (some 2) t57 t54 h61) fun t63 h64 y65=>
 wK (oStore (some 2) t60 t55 h64) fun t66 h67 y68=>
 wK (oBsl false none 6 (.int .i64 0) [(0,t5),(1,t16),(2,t27),(3,t32),(4,t38),(5,t56)] h67) fun t69 h70 y71=>
 C f_q03n [t69] h70 fun t72 h73 y74=>
 pK (oBin .eql t72 (AI 0)) fun t75=>
 gM t75 true (.fn f_q03h [v5]) h73 fun t76 h77 y78=>
 gP t75 true (oFaddr 0 (some 2) t6) h77 fun t79 h80 y81=>
 gP t75 true (oLoad (some 2) t79 h80) h80 fun t82 h83 y84=>
 gP t75 true (oFaddr 0 (some 2) t17) h83 fun t85 h86 y87=>
 gP t75 true (oLoad (some 2) t85 h86) h86 fun t88 h89 y90=>
 gV t75 true h89 (callvK C t76 [t82,t88] h89) fun t91 h92 y93=>
 pK (oPick t75 t91 (AB false)) fun t94=>
 gM t94 true (.fn f_q03h [v5]) h92 fun t95 h96 y97=>
 gP t94 true (oFaddr 4 (some 2) t6) h96 fun t98 h99 y100=>
 gP t94 true (oLoad (some 2) t98 h99) h99 fun t101 h102 y103=>
 gP t94 true (oFaddr 4 (some 2) t17) h102 fun t104 h105 y106=>
 gP t94 true (oLoad (some 2) t104 h105) h105 fun t107 h108 y109=>
 gV t94 true h108 (callvK C t95 [t101,t107] h108) fun t110 h111 y112=>
 pK (oPick t94 t110 (AB false)) fun t113=>
 gM t113 true (.fn f_q03h [v5]) h111 fun t114 h115 y116=>
 gP t113 true (oFaddr 6 (some 2) t6) h115 fun t117 h118 y119=>
 gP t113 true (oLoad (some 2) t117 h118) h118 fun t120 h121 y122=>
 gP t113 true (oFaddr 6 (some 2) t17) h121 fun t123 h124 y125=>
 gP t113 true (oLoad (some 2) t123 h124) h124 fun t126 h127 y128=>
 gV t113 true h127 (callvK C t114 [t120,t126] h127) fun t129 h130 y131=>
 pK (oPick t113 t129 (AB false)) fun t132=>
 gP t132 true (oFaddr 2 (some 2) t6) h130 fun t133 h134 y135=>
 gP t132 true (oLoad (some 2) t133 h134) h134 fun t136 h137 y138=>
 gP t132 true (oFaddr 2 (some 2) t17) h137 fun t139 h140 y141=>
 gP t132 true (oLoad (some 2) t139 h140) h140 fun t142 h143 y144=>
 gP t132 true (oEqa [0,0] false t136 t142) h143 fun t145 h146 y147=>
 pK (oPick t132 t145 (AB false)) fun t148=>
 gM t148 true t26 h146 fun t149 h150 y151=>
 gM t148 true t31 h150 fun t152 h153 y154=>
 gV t148 true h153 (C f_q05g [t149,t152] h153) fun t155 h156 y157=>
 pK (oPick t148 t155 (AB false)) fun t158=>
 gP t158 true (oLoad (some 2) t42 h156) h156 fun t159 h160 y161=>
 gP t158 true (oLoad (some 2) t60 h160) h160 fun t162 h163 y164=>
 gP t158 true (oEqa [0,0] false t159 t162) h163 fun t165 h166 y167=>
 pK (oPick t158 t165 (AB false)) fun t168=>
 gM t168 true (.fn f_q03h [v5]) h166 fun t169 h170 y171=>
 gP t168 true (oLoad (some 2) t39 h170) h170 fun t172 h173 y174=>
 gP t168 true (oLoad (some 2) t57 h173) h173 fun t175 h176 y177=>
 gV t168 true h176 (callvK C t169 [t172,t175] h176) fun t178 h179 y180=>
 pK (oPick t168 t178 (AB false)) fun t181=>
 gV t181 true h179 (C f_q03p [] h179) fun t182 h183 y184=>
 pK (oPick t181 t182 (AB false)) fun t185=>
 K .ret ⟨[(2,t185)],h183,(y184 ++ (y180 ++ (y177 ++ (y174 ++ (y171 ++ (y167 ++ (y164 ++ (y161 ++ (y157 ++ (y154 ++ (y151 ++ (y147 ++ (y144 ++ (y141 ++ (y138 ++ (y135 ++ (y131 ++ (y128 ++ (y125 ++ (y122 ++ (y119 ++ (y116 ++ (y112 ++ (y109 ++ (y106 ++ (y103 ++ (y100 ++ (y97 ++ (y93 ++ (y90 ++ (y87 ++ (y84 ++ (y81 ++ (y78 ++ (y74 ++ (y71 ++ (y68 ++ (y65 ++ (y62 ++ (y59 ++ (y53 ++ (y50 ++ (y47 ++ (y44 ++ (y41 ++ (y35 ++ (y30 ++ (y25 ++ (y22 ++ (y19 ++ (y14 ++ (y11 ++ (y8 ++ (y3 ++ x))))))))))))))))))))))))))))))))))))))))))))))))))))))⟩
theorem e_q03g_k2 {C gl e h x K} : NW C gl p_q03g_k2 ⟨e,h,x⟩ K = d_q03g_k2 C gl (aget e 4) (aget e 5) (aget e 6) (aget e 7) h x K:=by kernel_rfl
def P_q03g (q1 q2 : ACode) : ACode:=(.seq (rg [mV 2 cF] [0])
(.seq (rg [mV 23 0,
uO 24 (.build [.sl0 none,.p (.int .i64 0)] [(0,1,23)]),
uO 25 (.box 24),
mV 3 25] [3])
(.seq (rg [mV 26 3,
cL 27 f_q043 [26,(cI 2),(cI 4)],
mV 28 3,
cL 29 f_q043 [28,(cI (-50)),(cI 50)],
uO 5 (.alloc [.p (.int .i64 0)]),
mV 4 27,
wO (.store none 5 29)] [3,4,5])
(.seq (rg [uO 6 (.new0 none),
uO 7 (.new0 none)] [3,4,5,6,7])
(.seq (.seq (rg [mV 30 3,
mV 31 4,
cL 32 f_q043 [30,31,(cI 30)],
mV 33 (cI 0)] [3,4,5,6,7,32,33])
(.block 0 (.loop (.scope q1))))
q2)))))
def a_q03g : AFun:=⟨1,[.t 2],P_q03g p_q03g_k1 p_q03g_k2,false,false⟩
def d_q03g (C : Hd) (gl : GL) (q1 q2 : ACode) (v0 : AV) (h : Heap) (x : Esc) (K : KT) : Prop:=
 pK (oBuild [.sl0 none,.p (.int .i64 0)] [(0,1,v0)]) fun t1=>
 wK (oBox t1 h) fun t2 h3 y4=>
 C f_q043 [t2,(AI 2),(AI 4)] h3 fun t5 h6 y7=>
 C f_q043 [t2,(AI (-50)),(AI 50)] h6 fun t8 h9 y10=>
 alK [.p (.int .i64 0)] h9 fun t11 h12 y13=>
 wK (oStore none t11 t8 h12) fun t14 h15 y16=>
 nwK none h15 fun t17 h18 y19=>
 nwK none h18 fun t20 h21 y22=>
 C f_q043 [t2,t5,(AI 30)] h21 fun t23 h24 y25=>
 NW C gl (.loop (.scope q1)) ⟨[(3,t2),(4,t5),(5,t11),(6,t17),(7,t20),(32,t23),(33,(AI 0))],h24,(y25 ++ (y22 ++ (y19 ++ (y16 ++ (y13 ++ (y10 ++ (y7 ++ (y4 ++ x))))))))⟩ (blockN 0 (seqN C gl q2 K))
theorem E_q03g {C gl q1 q2 v0 h x K} : NW C gl (P_q03g q1 q2) ⟨enter [v0],h,x⟩ K = d_q03g C gl q1 q2 v0 h x K:=by kernel_rfl
theorem e_q03g {C gl v0 h x K} : NW C gl a_q03g.body ⟨enter [v0],h,x⟩ K = d_q03g C gl p_q03g_k1 p_q03g_k2 v0 h x K:=E_q03g
def P_q043 : ACode:=(.seq (rg [mV 6 (cI 0)] [0,1,2])
(.seq (.seq (rg [mV 7 2,
mV 8 1,
bN 9 .lss 7 8] [0,1,2,9])
(.cond 9 (.seq (rg [mV 10 1,
mV 6 10] [6])
.ret)
.skip))
(.seq (rg [mV 11 1,
mV 12 0,
mV 13 2,
mV 14 1,
bN 15 .sub 13 14,
bN 16 .add 15 (cI 1),
cL 17 f_q040 [12,16],
bN 18 .add 11 17,
mV 6 18] [6])
.ret)))
def a_q043 : AFun:=⟨3,[.t 6],P_q043,false,false⟩
def d_q043 (C : Hd) (gl : GL) (v0 v1 v2 : AV) (h : Heap) (x : Esc) (K : KT) : Prop:=
 pK (oBin .lss v2 v1) fun t1=>
 condB t1 (K .ret ⟨[(6,v1)],h,x⟩)
 (pK (oBin .sub v2 v1) fun t2=>
 pK (oBin .add t2 (AI 1)) fun t3=>
 C f_q040 [v0,t3] h fun t4 h5 y6=>
 pK (oBin .add v1 t4) fun t7=>
 K .ret ⟨[(6,t7)],h5,(y6 ++ x)⟩)
theorem e_q043 {C gl v0 v1 v2 h x K} : NW C gl a_q043.body ⟨enter [v0,v1,v2],h,x⟩ K = d_q043 C gl v0 v1 v2 h x K:=by kernel_rfl
def P_q021 : ACode:=(.seq (rg [uO 4 (.alloc [.p (.int .i64 0),.p (.int .i64 0),.p (.int .i64 0),.p (.int .i64 0),.p (.int .i64 0),.p (.int .i64 0),.p (.int .i64 0),.p (.int .i64 0)]),
mV 5 (cI 0)] [0,1,4])
(.seq (.seq (rg [mV 7 0,
mV 8 1,
cL 9 f_q02k [7,8],
mV 6 9] [0,1,4,6])
(.seq (rg [mV 10 6,
bN 11 .neq 10 (cI 0)] [0,1,4,6,11])
(.cond 11 (.seq (rg [uO 12 (.build [.p (.int .i64 0),.p (.int .i64 0),.p (.int .i64 0),.p (.int .i64 0),.p (.int .i64 0),.p (.int .i64 0),.p (.int .i64 0),.p (.int .i64 0)] []),
mV 13 6,
wO (.store (some 8) 4 12),
mV 5 13] [4,5])
.ret)
.skip)))
(.seq (rg [mV 14 0,
mV 15 1,
cL 16 f_q02j [14,15],
wO (.store (some 8) 4 16),
mV 5 (cI 0)] [4,5])
.ret)))
def a_q021 : AFun:=⟨2,[.cell 4 (some 8),.t 5],P_q021,false,false⟩
def d_q021 (C : Hd) (gl : GL) (v0 v1 : AV) (h : Heap) (x : Esc) (K : KT) : Prop:=
 alK [.p (.int .i64 0),.p (.int .i64 0),.p (.int .i64 0),.p (.int .i64 0),.p (.int .i64 0),.p (.int .i64 0),.p (.int .i64 0),.p (.int .i64 0)] h fun t1 h2 y3=>
 C f_q02k [v0,v1] h2 fun t4 h5 y6=>
 pK (oBin .neq t4 (AI 0)) fun t7=>
 condB t7 (pK (oBuild [.p (.int .i64 0),.p (.int .i64 0),.p (.int .i64 0),.p (.int .i64 0),.p (.int .i64 0),.p (.int .i64 0),.p (.int .i64 0),.p (.int .i64 0)] []) fun t8=>
 wK (oStore (some 8) t1 t8 h5) fun t9 h10 y11=>
 K .ret ⟨[(4,t1),(5,t4)],h10,(y11 ++ (y6 ++ (y3 ++ x)))⟩)
 (C f_q02j [v0,v1] h5 fun t12 h13 y14=>
 wK (oStore (some 8) t1 t12 h13) fun t15 h16 y17=>
 K .ret ⟨[(4,t1),(5,(AI 0))],h16,(y17 ++ (y14 ++ (y6 ++ (y3 ++ x))))⟩)
theorem e_q021 {C gl v0 v1 h x K} : NW C gl a_q021.body ⟨enter [v0,v1],h,x⟩ K = d_q021 C gl v0 v1 h x K:=by kernel_rfl
def p_q02a_k1 : ACode:=.pr [1,7,10,11,12,13,15,32,33,34] (.seq (rg [mV 50 11,
bN 51 .add 50 (cI 1),
mV 11 51] [1,7,10,11,12,13,15,32,33,34])
(.seq (rg [lD 52 (some 2) 15,
fA 53 4 (some 2) 7,
lD 54 (some 2) 53,
cL 55 f_q001 [52,54],
bN 56 .lss 55 (cI 0),
mV 57 56,
gD 58 57 false (.load (some 2) 15),
gD 59 57 false (.faddr 6 (some 2) 7),
gD 60 57 false (.load (some 2) 59),
gD 61 57 false (.call f_q001 [58,60]),
gD 62 57 false (.bin .gtr 61 (cI 0)),
uO 63 (.pick 57 cT 62),
mV 64 63,
gD 65 64 false (.mv 10),
gD 66 64 false (.bin .neq 65 (cI 0)),
gD 67 64 false (.mv 66),
gD 68 67 true (.mv 11),
gD 69 67 true (.bin .geq 68 (cI 8)),
gD 70 64 false (.pick 67 69 cF),
uO 71 (.pick 64 cT 70)] [1,7,10,11,12,13,32,33,34,71])
(.cond 71 (rg [mV 72 12,
mV 73 13,
uO 74 (.bsl false none 1 (.int .i64 0) [(0,73)]),
uO 75 (.app none 72 74),
mV 12 75] [1,7,10,11,12,32,33,34])
.skip)))
def d_q02a_k1 (C : Hd) (gl : GL) (v1 v7 v10 v11 v12 v13 v15 v32 v33 v34 : AV) (h : Heap) (x : Esc) (K : KT) : Prop:=
 pK (oBin .add v11 (AI 1)) fun t1=>
 pK (oLoad (some 2) v15 h) fun t2=>
 pK (oFaddr 4 (some 2) v7) fun t3=>
 pK (oLoad (some 2) t3 h) fun t4=>
 C f_q001 [t2,t4] h fun t5 h6 y7=>
 pK (oBin .lss t5 (AI 0)) fun t8=>
 gP t8 false (oLoad (some 2) v15 h6) h6 fun t9 h10 y11=>
 gP t8 false (oFaddr 6 (some 2) v7) h10 fun t12 h13 y14=>
 gP t8 false (oLoad (some 2) t12 h13) h13 fun t15 h16 y17=>
 gV t8 false h16 (C f_q001 [t9,t15] h16) fun t18 h19 y20=>
 gP t8 false (oBin .gtr t18 (AI 0)) h19 fun t21 h22 y23=>
 pK (oPick t8 (AB true) t21) fun t24=>
 gM t24 false v10 h22 fun t25 h26 y27=>
 gP t24 false (oBin .neq t25 (AI 0)) h26 fun t28 h29 y30=>
 gM t24 false t28 h29 fun t31 h32 y33=>
 gM t31 true t1 h32 fun t34 h35 y36=>
 gP t31 true (oBin .geq t34 (AI 8)) h35 fun t37 h38 y39=>
 gP t24 false (oPick t31 t37 (AB false)) h38 fun t40 h41 y42=>
 pK (oPick t24 (AB true) t40) fun t43=>
 condB t43 (wK (oBsl false none 1 (.int .i64 0) [(0,v13)] h41) fun t44 h45 y46=>
 wK (oApp none v12 t44 h45) fun t47 h48 y49=>
 K .normal ⟨[(1,v1),(7,v7),(10,v10),(11,t1),(12,t47),(32,v32),(33,v33),(34,v34)],h48,(y49 ++ (y46 ++ (y42 ++ (y39 ++ (y36 ++ (y33 ++ (y30 ++ (y27 ++ (y23 ++ (y20 ++ (y17 ++ (y14 ++ (y11 ++ (y7 ++ x))))))))))))))⟩)
 (K .normal ⟨[(1,v1),(7,v7),(10,v10),(11,t1),(12,v12),(13,v13),(32,v32),(33,v33),(34,v34),(71,t43)],h41,(y42 ++ (y39 ++ (y36 ++ (y33 ++ (y30 ++ (y27 ++ (y23 ++ (y20 ++ (y17 ++ (y14 ++ (y11 ++ (y7 ++ x))))))))))))⟩)
theorem e_q02a_k1 {C gl e h x K} : NW C gl p_q02a_k1 ⟨e,h,x⟩ K = d_q02a_k1 C gl (aget e 1) (aget e 7) (aget e 10) (aget e 11) (aget e 12) (aget e 13) (aget e 15) (aget e 32) (aget e 33) (aget e 34) h x K:=by kernel_rfl
def p_q02a_k2 : ACode:=.pr [1,7,10,11,12,32,33,34] (rg [bN 76 .add 34 (cI 1),
mV 34 76] [1,7,10,11,12,32,33,34])
def d_q02a_k2 (C : Hd) (gl : GL) (v1 v7 v10 v11 v12 v32 v33 v34 : AV) (h : Heap) (x : Esc) (K : KT) : Prop:=
 pK (oBin .add v34 (AI 1)) fun t1=>
 K .normal ⟨[(1,v1),(7,v7),(10,v10),(11,v11),(12,v12),(32,v32),(33,v33),(34,t1)],h,x⟩
theorem e_q02a_k2 {C gl e h x K} : NW C gl p_q02a_k2 ⟨e,h,x⟩ K = d_q02a_k2 C gl (aget e 1) (aget e 7) (aget e 10) (aget e 11) (aget e 12) (aget e 32) (aget e 33) (aget e 34) h x K:=by kernel_rfl
def P_q02a_k3 (q1 q2 : ACode) : ACode:=.pr [1,7,10,11,12,32,33,34] (.seq (rg [bN 35 .lss 34 33] [1,7,10,11,12,32,33,34,35])
(.seq (.cond 35 .skip
(.exit 0))
(.seq (.block 1 (.seq (rg [mV 36 34,
iA 37 none 32 34,
lD 38 none 37,
mV 13 36,
mV 14 38] [1,7,10,11,12,13,14,32,33,34])
(.seq (rg [mV 39 14,
mV 40 1,
uO 41 (.build [.p (.int .i64 0),.p (.int .i64 0)] [(0,1,39),(1,1,40)]),
uO 15 (.alloc [.p (.int .i64 0),.p (.int .i64 0)]),
wO (.store (some 2) 15 41)] [1,7,10,11,12,13,15,32,33,34])
(.seq (.seq (rg [lD 42 (some 2) 15,
fA 43 0 (some 2) 7,
lD 44 (some 2) 43,
cL 45 f_q001 [42,44],
mV 16 45] [1,7,10,11,12,13,15,16,32,33,34])
(.seq (rg [mV 46 16,
mV 47 10,
bN 48 .neq 46 47] [1,7,10,11,12,13,15,16,32,33,34,48])
(.cond 48 (rg [mV 49 16,
mV 10 49,
mV 11 (cI 0)] [1,7,10,11,12,13,15,32,33,34])
.skip)))
q1))))
q2)))
def p_q02a_k3 : ACode:=P_q02a_k3 p_q02a_k1 p_q02a_k2
def d_q02a_k3 (C : Hd) (gl : GL) (q1 q2 : ACode) (v1 v7 v10 v11 v12 v32 v33 v34 : AV) (h : Heap) (x : Esc) (K : KT) : Prop:=
 pK (oBin .lss v34 v33) fun t1=>
 condB t1 (pK (oIaddr none v32 v34 h) fun t2=>
 pK (oLoad none t2 h) fun t3=>
 pK (oBuild [.p (.int .i64 0),.p (.int .i64 0)] [(0,1,t3),(1,1,v1)]) fun t4=>
 alK [.p (.int .i64 0),.p (.int .i64 0)] h fun t5 h6 y7=>
 wK (oStore (some 2) t5 t4 h6) fun t8 h9 y10=>
 pK (oLoad (some 2) t5 h9) fun t11=>
 pK (oFaddr 0 (some 2) v7) fun t12=>
 pK (oLoad (some 2) t12 h9) fun t13=>
 C f_q001 [t11,t13] h9 fun t14 h15 y16=>
 pK (oBin .neq t14 v10) fun t17=>
 condB t17 (NW C gl q1 ⟨[(1,v1),(7,v7),(10,t14),(11,(AI 0)),(12,v12),(13,v34),(15,t5),(32,v32),(33,v33),(34,v34)],h15,(y16 ++ (y10 ++ (y7 ++ x)))⟩ (blockN 1 (seqN C gl q2 K)))
 (NW C gl q1 ⟨[(1,v1),(7,v7),(10,v10),(11,v11),(12,v12),(13,v34),(15,t5),(16,t14),(32,v32),(33,v33),(34,v34),(48,t17)],h15,(y16 ++ (y10 ++ (y7 ++ x)))⟩ (blockN 1 (seqN C gl q2 K))))
 (K (.exit 0) ⟨[(1,v1),(7,v7),(10,v10),(11,v11),(12,v12),(32,v32),(33,v33),(34,v34),(35,t1)],h,x⟩)
theorem E_q02a_k3 {C gl q1 q2 e h x K} : NW C gl (P_q02a_k3 q1 q2) ⟨e,h,x⟩ K = d_q02a_k3 C gl q1 q2 (aget e 1) (aget e 7) (aget e 10) (aget e 11) (aget e 12) (aget e 32) (aget e 33) (aget e 34) h x K:=by kernel_rfl
theorem e_q02a_k3 {C gl e h x K} : NW C gl p_q02a_k3 ⟨e,h,x⟩ K = d_q02a_k3 C gl p_q02a_k1 p_q02a_k2 (aget e 1) (aget e 7) (aget e 10) (aget e 11) (aget e 12) (aget e 32) (aget e 33) (aget e 34) h x K:=E_q02a_k3
theorem l_q02a_k3 {C gl e h x K} : NW C gl (.loop (.scope p_q02a_k3)) ⟨e,h,x⟩ K = NLoop C gl (.scope p_q02a_k3) K [(1,aget e 1),(7,aget e 7),(10,aget e 10),(11,aget e 11),(12,aget e 12),(32,aget e 32),(33,aget e 33),(34,aget e 34)] h x:=NLoop_sc
def p_q02a_k4 : ACode:=.pr [12] (.seq (rg [mV 77 12,
mV 4 77,
mV 5 (cI 0)] [4,5])
.ret)
def d_q02a_k4 (C : Hd) (gl : GL) (v12 : AV) (h : Heap) (x : Esc) (K : KT) : Prop:=
 K .ret ⟨[(4,v12),(5,(AI 0))],h,x⟩
theorem e_q02a_k4 {C gl e h x K} : NW C gl p_q02a_k4 ⟨e,h,x⟩ K = d_q02a_k4 C gl (aget e 12) h x K:=by kernel_rfl
def P_q02a (q3 q4 : ACode) : ACode:=(.seq (rg [mV 4 (.c (.p (.sl none []))),
mV 5 (cI 0)] [0,1])
(.seq (.seq (rg [mV 17 0,
mV 18 1,
cL 19 f_q02k [17,18],
mV 6 19] [0,1,6])
(.seq (rg [mV 20 6,
bN 21 .neq 20 (cI 0)] [0,1,6,21])
(.cond 21 (.seq (rg [mV 22 6,
mV 4 (.c (.p (.sl none []))),
mV 5 22] [4,5])
.ret)
.skip)))
(.seq (rg [mV 23 0,
mV 24 1,
cL 25 f_q02j [23,24],
uO 7 (.alloc [.p (.int .i64 0),.p (.int .i64 0),.p (.int .i64 0),.p (.int .i64 0),.p (.int .i64 0),.p (.int .i64 0),.p (.int .i64 0),.p (.int .i64 0)]),
wO (.store (some 8) 7 25)] [0,1,7])
(.seq (rg [mV 27 0,
mV 28 1,
cL 29 f_q02u [27,28],
mV 26 29,
eX 30 26 0,
eX 31 26 1,
mV 8 30,
mV 9 31] [1,7,8])
(.seq (rg [mV 10 (cI 0),
mV 11 (cI 0)] [1,7,8,10,11])
(.seq (rg [uO 12 (.new0 none)] [1,7,8,10,11,12])
(.seq (.seq (rg [mV 32 8,
lN 33 32,
mV 34 (cI 0)] [1,7,10,11,12,32,33,34])
(.block 0 (.loop (.scope q3))))
q4)))))))
def a_q02a : AFun:=⟨2,[.t 4,.t 5],P_q02a p_q02a_k3 p_q02a_k4,false,false⟩
def d_q02a (C : Hd) (gl : GL) (q3 q4 : ACode) (v0 v1 : AV) (h : Heap) (x : Esc) (K : KT) : Prop:=
 C f_q02k [v0,v1] h fun t1 h2 y3=>
 pK (oBin .neq t1 (AI 0)) fun t4=>
 condB t4 (K .ret ⟨[(4,(.p (.sl none []))),(5,t1)],h2,(y3 ++ x)⟩)
 (C f_q02j [v0,v1] h2 fun t5 h6 y7=>
 alK [.p (.int .i64 0),.p (.int .i64 0),.p (.int .i64 0),.p (.int .i64 0),.p (.int .i64 0),.p (.int .i64 0),.p (.int .i64 0),.p (.int .i64 0)] h6 fun t8 h9 y10=>
 wK (oStore (some 8) t8 t5 h9) fun t11 h12 y13=>
 C f_q02u [v0,v1] h12 fun t14 h15 y16=>
 pK (oExt t14 0) fun t17=>
 pK (oExt t14 1) fun t18=>
 nwK none h15 fun t19 h20 y21=>
 pK (oLen t17) fun t22=>
 NW C gl (.loop (.scope q3)) ⟨[(1,v1),(7,t8),(10,(AI 0)),(11,(AI 0)),(12,t19),(32,t17),(33,t22),(34,(AI 0))],h20,(y21 ++ (y16 ++ (y13 ++ (y10 ++ (y7 ++ (y3 ++ x))))))⟩ (blockN 0 (seqN C gl q4 K)))
theorem E_q02a {C gl q3 q4 v0 v1 h x K} : NW C gl (P_q02a q3 q4) ⟨enter [v0,v1],h,x⟩ K = d_q02a C gl q3 q4 v0 v1 h x K:=by kernel_rfl
theorem e_q02a {C gl v0 v1 h x K} : NW C gl a_q02a.body ⟨enter [v0,v1],h,x⟩ K = d_q02a C gl p_q02a_k3 p_q02a_k4 v0 v1 h x K:=E_q02a
def P_q02b : ACode:=(.seq (rg [uO 2 (.alloc [.p (.int .i64 0),.p (.int .i64 0)]),
uO 3 (.alloc [.p (.int .i64 0),.p (.int .i64 0)]),
mV 4 (cI 0)] [0,2,3])
(.seq (.seq (rg [mV 9 0,
cL 10 f_q035 [9,(cI 1)],
mV 5 10] [0,2,3,5])
(.seq (rg [mV 11 5,
bN 12 .neq 11 (cI 0)] [0,2,3,5,12])
(.cond 12 (.seq (rg [uO 13 (.build [.p (.int .i64 0),.p (.int .i64 0)] []),
uO 14 (.build [.p (.int .i64 0),.p (.int .i64 0)] []),
mV 15 5,
wO (.store (some 2) 2 13),
wO (.store (some 2) 3 14),
mV 4 15] [2,3,4])
.ret)
.skip)))
(.seq (rg [mV 17 0,
cL 18 f_q032 [17],
mV 16 18,
eX 19 16 0,
eX 20 16 1,
mV 6 19,
mV 7 20] [0,2,3,6,7])
(.seq (rg [mV 21 0,
lN 22 21,
mV 8 22] [2,3,6,7,8])
(.seq (rg [mV 23 6,
mV 24 8,
cL 25 f_q004 [23,24],
mV 26 7,
mV 27 8,
mV 28 8,
bN 29 .mul 27 28,
cL 30 f_q004 [26,29],
wO (.store (some 2) 2 25),
wO (.store (some 2) 3 30),
mV 4 (cI 0)] [2,3,4])
.ret)))))
def a_q02b : AFun:=⟨1,[.cell 2 (some 2),.cell 3 (some 2),.t 4],P_q02b,false,false⟩
def d_q02b (C : Hd) (gl : GL) (v0 : AV) (h : Heap) (x : Esc) (K : KT) : Prop:=
 alK [.p (.int .i64 0),.p (.int .i64 0)] h fun t1 h2 y3=>
 alK [.p (.int .i64 0),.p (.int .i64 0)] h2 fun t4 h5 y6=>
 C f_q035 [v0,(AI 1)] h5 fun t7 h8 y9=>
 pK (oBin .neq t7 (AI 0)) fun t10=>
 condB t10 (pK (oBuild [.p (.int .i64 0),.p (.int .i64 0)] []) fun t11=>
 pK (oBuild [.p (.int .i64 0),.p (.int .i64 0)] []) fun t12=>
 wK (oStore (some 2) t1 t11 h8) fun t13 h14 y15=>
 wK (oStore (some 2) t4 t12 h14) fun t16 h17 y18=>
 K .ret ⟨[(2,t1),(3,t4),(4,t7)],h17,(y18 ++ (y15 ++ (y9 ++ (y6 ++ (y3 ++ x)))))⟩)
 (C f_q032 [v0] h8 fun t19 h20 y21=>
 pK (oExt t19 0) fun t22=>
 pK (oExt t19 1) fun t23=>
 pK (oLen v0) fun t24=>
 C f_q004 [t22,t24] h20 fun t25 h26 y27=>
 pK (oBin .mul t24 t24) fun t28=>
 C f_q004 [t23,t28] h26 fun t29 h30 y31=>
 wK (oStore (some 2) t1 t25 h30) fun t32 h33 y34=>
 wK (oStore (some 2) t4 t29 h33) fun t35 h36 y37=>
 K .ret ⟨[(2,t1),(3,t4),(4,(AI 0))],h36,(y37 ++ (y34 ++ (y31 ++ (y27 ++ (y21 ++ (y9 ++ (y6 ++ (y3 ++ x))))))))⟩)
theorem e_q02b {C gl v0 h x K} : NW C gl a_q02b.body ⟨enter [v0],h,x⟩ K = d_q02b C gl v0 h x K:=by kernel_rfl
def P_q03h : ACode:=(.seq (rg [uO 3 (.box 0),
uO 4 (.box 1),
mV 5 cF] [2,3,4])
(.seq (rg [fA 6 1 none 3,
lD 7 none 6,
bN 8 .gtr 7 (cI 0),
mV 9 8,
gD 10 9 true (.faddr 1 none 4),
gD 11 9 true (.load none 10),
gD 12 9 true (.bin .gtr 11 (cI 0)),
uO 13 (.pick 9 12 cF),
mV 14 13,
gD 15 14 true (.faddr 0 none 3),
gD 16 14 true (.load none 15),
gD 17 14 true (.load none 2),
gD 18 14 true (.faddr 1 none 3),
gD 19 14 true (.load none 18),
gD 20 14 true (.bin .mul 17 19),
gD 21 14 true (.bin .add 16 20),
gD 22 14 true (.faddr 1 none 4),
gD 23 14 true (.load none 22),
gD 24 14 true (.bin .mul 21 23),
gD 25 14 true (.faddr 0 none 4),
gD 26 14 true (.load none 25),
gD 27 14 true (.faddr 1 none 3),
gD 28 14 true (.load none 27),
gD 29 14 true (.bin .mul 26 28),
gD 30 14 true (.bin .eql 24 29),
uO 31 (.pick 14 30 cF),
mV 5 31] [5])
.ret))
def a_q03h : AFun:=⟨3,[.t 5],P_q03h,false,false⟩
def d_q03h (C : Hd) (gl : GL) (v0 v1 v2 : AV) (h : Heap) (x : Esc) (K : KT) : Prop:=
 wK (oBox v0 h) fun t1 h2 y3=>
 wK (oBox v1 h2) fun t4 h5 y6=>
 pK (oFaddr 1 none t1) fun t7=>
 pK (oLoad none t7 h5) fun t8=>
 pK (oBin .gtr t8 (AI 0)) fun t9=>
 gP t9 true (oFaddr 1 none t4) h5 fun t10 h11 y12=>
 gP t9 true (oLoad none t10 h11) h11 fun t13 h14 y15=>
 gP t9 true (oBin .gtr t13 (AI 0)) h14 fun t16 h17 y18=>
 pK (oPick t9 t16 (AB false)) fun t19=>
 gP t19 true (oFaddr 0 none t1) h17 fun t20 h21 y22=>
 gP t19 true (oLoad none t20 h21) h21 fun t23 h24 y25=>
 gP t19 true (oLoad none v2 h24) h24 fun t26 h27 y28=>
 gP t19 true (oFaddr 1 none t1) h27 fun t29 h30 y31=>
 gP t19 true (oLoad none t29 h30) h30 fun t32 h33 y34=>
 gP t19 true (oBin .mul t26 t32) h33 fun t35 h36 y37=>
 gP t19 true (oBin .add t23 t35) h36 fun t38 h39 y40=>
 gP t19 true (oFaddr 1 none t4) h39 fun t41 h42 y43=>
 gP t19 true (oLoad none t41 h42) h42 fun t44 h45 y46=>
 gP t19 true (oBin .mul t38 t44) h45 fun t47 h48 y49=>
 gP t19 true (oFaddr 0 none t4) h48 fun t50 h51 y52=>
 gP t19 true (oLoad none t50 h51) h51 fun t53 h54 y55=>
 gP t19 true (oFaddr 1 none t1) h54 fun t56 h57 y58=>
 gP t19 true (oLoad none t56 h57) h57 fun t59 h60 y61=>
 gP t19 true (oBin .mul t53 t59) h60 fun t62 h63 y64=>
 gP t19 true (oBin .eql t47 t62) h63 fun t65 h66 y67=>
 pK (oPick t19 t65 (AB false)) fun t68=>
 K .ret ⟨[(5,t68)],h66,(y67 ++ (y64 ++ (y61 ++ (y58 ++ (y55 ++ (y52 ++ (y49 ++ (y46 ++ (y43 ++ (y40 ++ (y37 ++ (y34 ++ (y31 ++ (y28 ++ (y25 ++ (y22 ++ (y18 ++ (y15 ++ (y12 ++ (y6 ++ (y3 ++ x)))))))))))))))))))))⟩
theorem e_q03h {C gl v0 v1 v2 h x K} : NW C gl a_q03h.body ⟨enter [v0,v1,v2],h,x⟩ K = d_q03h C gl v0 v1 v2 h x K:=by kernel_rfl
def p_q03n_k1 : ACode:=.pr [5,6,7] (.seq (rg [bN 8 .lss 7 6] [5,6,7,8])
(.seq (.cond 8 .skip
(.exit 0))
(.seq (.block 1 (.seq (rg [iA 9 none 5 7,
lD 10 none 9,
mV 4 10] [4,5,6,7])
(.seq (rg [mV 11 4,
bN 12 .neq 11 (cI 0)] [4,5,6,7,12])
(.cond 12 (.seq (rg [mV 13 4,
mV 2 13] [2])
.ret)
.skip))))
(rg [bN 14 .add 7 (cI 1),
mV 7 14] [5,6,7]))))
def d_q03n_k1 (C : Hd) (gl : GL) (v5 v6 v7 : AV) (h : Heap) (x : Esc) (K : KT) : Prop:=
 pK (oBin .lss v7 v6) fun t1=>
 condB t1 (pK (oIaddr none v5 v7 h) fun t2=>
 pK (oLoad none t2 h) fun t3=>
 pK (oBin .neq t3 (AI 0)) fun t4=>
 condB t4 (K .ret ⟨[(2,t3)],h,x⟩)
 (pK (oBin .add v7 (AI 1)) fun t5=>
 K .normal ⟨[(5,v5),(6,v6),(7,t5)],h,x⟩))
 (K (.exit 0) ⟨[(5,v5),(6,v6),(7,v7),(8,t1)],h,x⟩)
theorem e_q03n_k1 {C gl e h x K} : NW C gl p_q03n_k1 ⟨e,h,x⟩ K = d_q03n_k1 C gl (aget e 5) (aget e 6) (aget e 7) h x K:=by kernel_rfl
theorem l_q03n_k1 {C gl e h x K} : NW C gl (.loop p_q03n_k1) ⟨e,h,x⟩ K = NLoop C gl p_q03n_k1 K [(5,aget e 5),(6,aget e 6),(7,aget e 7)] h x:=NLoop_pr
def p_q03n_k2 : ACode:=.pr [] (.seq (rg [mV 2 (cI 0)] [2])
.ret)
def d_q03n_k2 (C : Hd) (gl : GL) (h : Heap) (x : Esc) (K : KT) : Prop:=
 K .ret ⟨[(2,(AI 0))],h,x⟩
theorem e_q03n_k2 {C gl e h x K} : NW C gl p_q03n_k2 ⟨e,h,x⟩ K = d_q03n_k2 C gl h x K:=by kernel_rfl
def P_q03n (q1 q2 : ACode) : ACode:=(.seq (rg [mV 2 (cI 0)] [0])
(.seq (.seq (rg [mV 5 0,
lN 6 5,
mV 7 (cI 0)] [5,6,7])
(.block 0 (.loop q1)))
q2))
def a_q03n : AFun:=⟨1,[.t 2],P_q03n p_q03n_k1 p_q03n_k2,false,false⟩
def d_q03n (C : Hd) (gl : GL) (q1 q2 : ACode) (v0 : AV) (h : Heap) (x : Esc) (K : KT) : Prop:=
 pK (oLen v0) fun t1=>
 NW C gl (.loop q1) ⟨[(5,v0),(6,t1),(7,(AI 0))],h,x⟩ (blockN 0 (seqN C gl q2 K))
theorem E_q03n {C gl q1 q2 v0 h x K} : NW C gl (P_q03n q1 q2) ⟨enter [v0],h,x⟩ K = d_q03n C gl q1 q2 v0 h x K:=by kernel_rfl
theorem e_q03n {C gl v0 h x K} : NW C gl a_q03n.body ⟨enter [v0],h,x⟩ K = d_q03n C gl p_q03n_k1 p_q03n_k2 v0 h x K:=E_q03n
def p_q05g_k1 : ACode:=.pr [0,1,12,13] (.seq (rg [bN 14 .lss 13 12] [0,1,12,13,14])
(.seq (.cond 14 .skip
(.exit 0))
(.seq (.block 1 (.seq (rg [mV 15 13,
mV 5 15] [0,1,5,12,13])
(.seq (dr [dF (mV 16 0) [0],
dF (mV 17 5) [5],
dF (iA 18 none 16 17) [16,17],
dF (lD 19 none 18) [18],
dF (mV 20 1) [1],
dF (mV 21 5) [5],
dF (iA 22 none 20 21) [20,21],
dF (lD 23 none 22) [22],
dF (bN 24 .neq 19 23) [19,23]] [0,1,12,13,24])
(.cond 24 (.seq (rg [mV 4 cF] [4])
.ret)
.skip))))
(rg [bN 25 .add 13 (cI 1),
mV 13 25] [0,1,12,13]))))
def d_q05g_k1 (C : Hd) (gl : GL) (v0 v1 v12 v13 : AV) (h : Heap) (x : Esc) (K : KT) : Prop:=
 pK (oBin .lss v13 v12) fun t1=>
 condB t1 (pK (oIaddr none v0 v13 h) fun t2=>
 pK (oLoad none t2 h) fun t3=>
 pK (oIaddr none v1 v13 h) fun t4=>
 pK (oLoad none t4 h) fun t5=>
 pK (oBin .neq t3 t5) fun t6=>
 condB t6 (K .ret ⟨[(4,(AB false))],h,x⟩)
 (pK (oBin .add v13 (AI 1)) fun t7=>
 K .normal ⟨[(0,v0),(1,v1),(12,v12),(13,t7)],h,x⟩))
 (K (.exit 0) ⟨[(0,v0),(1,v1),(12,v12),(13,v13),(14,t1)],h,x⟩)
theorem e_q05g_k1 {C gl e h x K} : NW C gl p_q05g_k1 ⟨e,h,x⟩ K = d_q05g_k1 C gl (aget e 0) (aget e 1) (aget e 12) (aget e 13) h x K:=by kernel_rfl
theorem l_q05g_k1 {C gl e h x K} : NW C gl (.loop p_q05g_k1) ⟨e,h,x⟩ K = NLoop C gl p_q05g_k1 K [(0,aget e 0),(1,aget e 1),(12,aget e 12),(13,aget e 13)] h x:=NLoop_pr
def p_q05g_k2 : ACode:=.pr [] (.seq (rg [mV 4 cT] [4])
.ret)
def d_q05g_k2 (C : Hd) (gl : GL) (h : Heap) (x : Esc) (K : KT) : Prop:=
 K .ret ⟨[(4,(AB true))],h,x⟩
theorem e_q05g_k2 {C gl e h x K} : NW C gl p_q05g_k2 ⟨e,h,x⟩ K = d_q05g_k2 C gl h x K:=by kernel_rfl
def P_q05g (q1 q2 : ACode) : ACode:=(.seq (rg [mV 4 cF] [0,1])
(.seq (.seq (rg [mV 6 0,
lN 7 6,
mV 8 1,
lN 9 8,
bN 10 .neq 7 9] [0,1,10])
(.cond 10 (.seq (rg [mV 4 cF] [4])
.ret)
.skip))
(.seq (.seq (rg [mV 11 0,
lN 12 11,
mV 13 (cI 0)] [0,1,12,13])
(.block 0 (.loop q1)))
q2)))
def a_q05g : AFun:=⟨2,[.t 4],P_q05g p_q05g_k1 p_q05g_k2,false,false⟩
def d_q05g (C : Hd) (gl : GL) (q1 q2 : ACode) (v0 v1 : AV) (h : Heap) (x : Esc) (K : KT) : Prop:=
 pK (oLen v0) fun t1=>
 pK (oLen v1) fun t2=>
 pK (oBin .neq t1 t2) fun t3=>
 condB t3 (K .ret ⟨[(4,(AB false))],h,x⟩)
 (pK (oLen v0) fun t4=>
 NW C gl (.loop q1) ⟨[(0,v0),(1,v1),(12,t4),(13,(AI 0))],h,x⟩ (blockN 0 (seqN C gl q2 K)))
theorem E_q05g {C gl q1 q2 v0 v1 h x K} : NW C gl (P_q05g q1 q2) ⟨enter [v0,v1],h,x⟩ K = d_q05g C gl q1 q2 v0 v1 h x K:=by kernel_rfl
theorem e_q05g {C gl v0 v1 h x K} : NW C gl a_q05g.body ⟨enter [v0,v1],h,x⟩ K = d_q05g C gl p_q05g_k1 p_q05g_k2 v0 v1 h x K:=E_q05g
def P_q040 : ACode:=(.seq (rg [mV 4 (cI 0)] [0,1])
(.seq (rg [mV 7 0,
uO 8 (.nilchk 7),
fA 9 1 none 8,
lD 10 none 9,
bN 11 .add 10 (cI 1),
uO 12 (.nilchk 7),
fA 13 1 none 12,
wO (.store none 13 11)] [0,1])
(.seq (.seq (rg [mV 14 0,
uO 15 (.nilchk 14),
fA 16 0 none 15,
lD 17 none 16,
lN 18 17,
bN 19 .eql 18 (cI 0)] [0,1,19])
(.cond 19 (.seq (rg [mV 20 0,
uO 21 (.nilchk 20),
fA 22 1 none 21,
lD 23 none 22,
bN 24 .mul 23 (cI 7919),
mV 25 1,
cL 26 f_q03x [24,25],
mV 4 26] [4])
.ret)
.skip))
(.seq (dr [dF (mV 27 0) [0],
dF (uO 28 (.nilchk 27)) [27],
dF (fA 29 1 none 28) [28],
dF (lD 30 none 29) [29],
dF (bN 31 .sub 30 (cI 1)) [30],
dF (mV 32 0) [0],
dF (uO 33 (.nilchk 32)) [32],
dF (fA 34 0 none 33) [33],
dF (lD 35 none 34) [34],
dF (lN 36 35) [35],
dF (bN 37 .rem 31 36) [31,36],
dF (mV 5 37) [37]] [0,1,5])
(.seq (dr [dF (mV 38 0) [0],
dF (uO 39 (.nilchk 38)) [38],
dF (fA 40 1 none 39) [39],
dF (lD 41 none 40) [40],
dF (bN 42 .sub 41 (cI 1)) [41],
dF (mV 43 0) [0],
dF (uO 44 (.nilchk 43)) [43],
dF (fA 45 0 none 44) [44],
dF (lD 46 none 45) [45],
dF (lN 47 46) [46],
dF (bN 48 .quo 42 47) [42,47],
dF (mV 6 48) [48]] [0,1,5,6])
(.seq (rg [mV 49 0,
uO 50 (.nilchk 49),
fA 51 0 none 50,
lD 52 none 51,
mV 53 5,
iA 54 none 52 53,
lD 55 none 54,
cL 56 f_q03x [55,(cI 1073741824)],
mV 57 6,
mV 58 5,
bN 59 .add (cI 7919) 58,
bN 60 .mul 57 59,
bN 61 .add 56 60,
mV 62 1,
cL 63 f_q03x [61,62],
mV 4 63] [4])
.ret))))))
def a_q040 : AFun:=⟨2,[.t 4],P_q040,false,false⟩
def d_q040 (C : Hd) (gl : GL) (v0 v1 : AV) (h : Heap) (x : Esc) (K : KT) : Prop:=
 pK (oNil v0) fun t1=>
 pK (oFaddr 1 none t1) fun t2=>
 pK (oLoad none t2 h) fun t3=>
 pK (oBin .add t3 (AI 1)) fun t4=>
 pK (oNil v0) fun t5=>
 pK (oFaddr 1 none t5) fun t6=>
 wK (oStore none t6 t4 h) fun t7 h8 y9=>
 pK (oNil v0) fun t10=>
 pK (oFaddr 0 none t10) fun t11=>
 pK (oLoad none t11 h8) fun t12=>
 pK (oLen t12) fun t13=>
 pK (oBin .eql t13 (AI 0)) fun t14=>
 condB t14 (pK (oNil v0) fun t15=>
 pK (oFaddr 1 none t15) fun t16=>
 pK (oLoad none t16 h8) fun t17=>
 pK (oBin .mul t17 (AI 7919)) fun t18=>
 C f_q03x [t18,v1] h8 fun t19 h20 y21=>
 K .ret ⟨[(4,t19)],h20,(y21 ++ (y9 ++ x))⟩)
 (pK (oNil v0) fun t22=>
 pK (oFaddr 1 none t22) fun t23=>
 pK (oLoad none t23 h8) fun t24=>
 pK (oBin .sub t24 (AI 1)) fun t25=>
 pK (oNil v0) fun t26=>
 pK (oFaddr 0 none t26) fun t27=>
 pK (oLoad none t27 h8) fun t28=>
 pK (oLen t28) fun t29=>
 pK (oBin .rem t25 t29) fun t30=>
 pK (oNil v0) fun t31=>
 pK (oFaddr 1 none t31) fun t32=>
 pK (oLoad none t32 h8) fun t33=>
 pK (oBin .sub t33 (AI 1)) fun t34=>
 pK (oNil v0) fun t35=>
 pK (oFaddr 0 none t35) fun t36=>
 pK (oLoad none t36 h8) fun t37=>
 pK (oLen t37) fun t38=>
 pK (oBin .quo t34 t38) fun t39=>
 pK (oNil v0) fun t40=>
 pK (oFaddr 0 none t40) fun t41=>
 pK (oLoad none t41 h8) fun t42=>
 pK (oIaddr none t42 t30 h8) fun t43=>
 pK (oLoad none t43 h8) fun t44=>
 C f_q03x [t44,(AI 1073741824)] h8 fun t45 h46 y47=>
 pK (oBin .add (AI 7919) t30) fun t48=>
 pK (oBin .mul t39 t48) fun t49=>
 pK (oBin .add t45 t49) fun t50=>
 C f_q03x [t50,v1] h46 fun t51 h52 y53=>
 K .ret ⟨[(4,t51)],h52,(y53 ++ (y47 ++ (y9 ++ x)))⟩)
theorem e_q040 {C gl v0 v1 h x K} : NW C gl a_q040.body ⟨enter [v0,v1],h,x⟩ K = d_q040 C gl v0 v1 h x K:=by kernel_rfl
def p_q05q_k1 : ACode:=.pr [0,3,4] (.seq (.seq (rg [mV 12 4,
mV 13 0,
lN 14 13,
bN 15 .lss 12 14] [0,3,4,15])
(.cond 15 .skip
(.exit 0)))
(.seq (.block 1 (rg [mV 18 3,
mV 19 0,
mV 20 4,
iA 21 none 19 20,
lD 22 none 21,
uO 23 (.mn [18,22]),
mV 3 23] [0,3,4]))
(rg [mV 16 4,
bN 17 .add 16 (cI 1),
mV 4 17] [0,3,4])))
def d_q05q_k1 (C : Hd) (gl : GL) (v0 v3 v4 : AV) (h : Heap) (x : Esc) (K : KT) : Prop:=
 pK (oLen v0) fun t1=>
 pK (oBin .lss v4 t1) fun t2=>
 condB t2 (pK (oIaddr none v0 v4 h) fun t3=>
 pK (oLoad none t3 h) fun t4=>
 pK (oMn [v3,t4]) fun t5=>
 pK (oBin .add v4 (AI 1)) fun t6=>
 K .normal ⟨[(0,v0),(3,t5),(4,t6)],h,x⟩)
 (K (.exit 0) ⟨[(0,v0),(3,v3),(4,v4),(15,t2)],h,x⟩)
theorem e_q05q_k1 {C gl e h x K} : NW C gl p_q05q_k1 ⟨e,h,x⟩ K = d_q05q_k1 C gl (aget e 0) (aget e 3) (aget e 4) h x K:=by kernel_rfl
theorem l_q05q_k1 {C gl e h x K} : NW C gl (.loop p_q05q_k1) ⟨e,h,x⟩ K = NLoop C gl p_q05q_k1 K [(0,aget e 0),(3,aget e 3),(4,aget e 4)] h x:=NLoop_pr
def p_q05q_k2 : ACode:=.pr [3] (.seq (rg [mV 24 3,
mV 2 24] [2])
.ret)
def d_q05q_k2 (C : Hd) (gl : GL) (v3 : AV) (h : Heap) (x : Esc) (K : KT) : Prop:=
 K .ret ⟨[(2,v3)],h,x⟩
theorem e_q05q_k2 {C gl e h x K} : NW C gl p_q05q_k2 ⟨e,h,x⟩ K = d_q05q_k2 C gl (aget e 3) h x K:=by kernel_rfl
def P_q05q (q1 q2 : ACode) : ACode:=(.seq (rg [mV 2 (cI 0)] [0])
(.seq (.seq (rg [mV 5 0,
lN 6 5,
bN 7 .lss 6 (cI 1)] [0,7])
(.cond 7 .bad
.skip))
(.seq (rg [mV 9 0,
iA 10 none 9 (cI 0),
lD 11 none 10,
mV 3 11] [0,3])
(.seq (.seq (rg [mV 4 (cI 1)] [0,3,4])
(.block 0 (.loop q1)))
q2))))
def a_q05q : AFun:=⟨1,[.t 2],P_q05q p_q05q_k1 p_q05q_k2,false,false⟩
def d_q05q (C : Hd) (gl : GL) (q1 q2 : ACode) (v0 : AV) (h : Heap) (x : Esc) (K : KT) : Prop:=
 pK (oLen v0) fun t1=>
 pK (oBin .lss t1 (AI 1)) fun t2=>
 condB t2 (False)
 (pK (oIaddr none v0 (AI 0) h) fun t3=>
 pK (oLoad none t3 h) fun t4=>
 NW C gl (.loop q1) ⟨[(0,v0),(3,t4),(4,(AI 1))],h,x⟩ (blockN 0 (seqN C gl q2 K)))
theorem E_q05q {C gl q1 q2 v0 h x K} : NW C gl (P_q05q q1 q2) ⟨enter [v0],h,x⟩ K = d_q05q C gl q1 q2 v0 h x K:=by kernel_rfl
theorem e_q05q {C gl v0 h x K} : NW C gl a_q05q.body ⟨enter [v0],h,x⟩ K = d_q05q C gl p_q05q_k1 p_q05q_k2 v0 h x K:=E_q05q
def p_q05p_k1 : ACode:=.pr [0,3,4] (.seq (.seq (rg [mV 12 4,
mV 13 0,
lN 14 13,
bN 15 .lss 12 14] [0,3,4,15])
(.cond 15 .skip
(.exit 0)))
(.seq (.block 1 (rg [mV 18 3,
mV 19 0,
mV 20 4,
iA 21 none 19 20,
lD 22 none 21,
uO 23 (.mx [18,22]),
mV 3 23] [0,3,4]))
(rg [mV 16 4,
bN 17 .add 16 (cI 1),
mV 4 17] [0,3,4])))
def d_q05p_k1 (C : Hd) (gl : GL) (v0 v3 v4 : AV) (h : Heap) (x : Esc) (K : KT) : Prop:=
 pK (oLen v0) fun t1=>
 pK (oBin .lss v4 t1) fun t2=>
 condB t2 (pK (oIaddr none v0 v4 h) fun t3=>
 pK (oLoad none t3 h) fun t4=>
 pK (oMx [v3,t4]) fun t5=>
 pK (oBin .add v4 (AI 1)) fun t6=>
 K .normal ⟨[(0,v0),(3,t5),(4,t6)],h,x⟩)
 (K (.exit 0) ⟨[(0,v0),(3,v3),(4,v4),(15,t2)],h,x⟩)
theorem e_q05p_k1 {C gl e h x K} : NW C gl p_q05p_k1 ⟨e,h,x⟩ K = d_q05p_k1 C gl (aget e 0) (aget e 3) (aget e 4) h x K:=by kernel_rfl
theorem l_q05p_k1 {C gl e h x K} : NW C gl (.loop p_q05p_k1) ⟨e,h,x⟩ K = NLoop C gl p_q05p_k1 K [(0,aget e 0),(3,aget e 3),(4,aget e 4)] h x:=NLoop_pr
def p_q05p_k2 : ACode:=.pr [3] (.seq (rg [mV 24 3,
mV 2 24] [2])
.ret)
def d_q05p_k2 (C : Hd) (gl : GL) (v3 : AV) (h : Heap) (x : Esc) (K : KT) : Prop:=
 K .ret ⟨[(2,v3)],h,x⟩
theorem e_q05p_k2 {C gl e h x K} : NW C gl p_q05p_k2 ⟨e,h,x⟩ K = d_q05p_k2 C gl (aget e 3) h x K:=by kernel_rfl
def P_q05p (q1 q2 : ACode) : ACode:=(.seq (rg [mV 2 (cI 0)] [0])
(.seq (.seq (rg [mV 5 0,
lN 6 5,
bN 7 .lss 6 (cI 1)] [0,7])
(.cond 7 .bad
.skip))
(.seq (rg [mV 9 0,
iA 10 none 9 (cI 0),
lD 11 none 10,
mV 3 11] [0,3])
(.seq (.seq (rg [mV 4 (cI 1)] [0,3,4])
(.block 0 (.loop q1)))
q2))))
def a_q05p : AFun:=⟨1,[.t 2],P_q05p p_q05p_k1 p_q05p_k2,false,false⟩
def d_q05p (C : Hd) (gl : GL) (q1 q2 : ACode) (v0 : AV) (h : Heap) (x : Esc) (K : KT) : Prop:=
 pK (oLen v0) fun t1=>
 pK (oBin .lss t1 (AI 1)) fun t2=>
 condB t2 (False)
 (pK (oIaddr none v0 (AI 0) h) fun t3=>
 pK (oLoad none t3 h) fun t4=>
 NW C gl (.loop q1) ⟨[(0,v0),(3,t4),(4,(AI 1))],h,x⟩ (blockN 0 (seqN C gl q2 K)))
theorem E_q05p {C gl q1 q2 v0 h x K} : NW C gl (P_q05p q1 q2) ⟨enter [v0],h,x⟩ K = d_q05p C gl q1 q2 v0 h x K:=by kernel_rfl
theorem e_q05p {C gl v0 h x K} : NW C gl a_q05p.body ⟨enter [v0],h,x⟩ K = d_q05p C gl p_q05p_k1 p_q05p_k2 v0 h x K:=E_q05p
def P_q02k : ACode:=(.seq (rg [mV 4 (cI 0)] [0,1])
(.seq (.seq (rg [mV 5 1,
cL 6 f_q008 [5,(cI 2),(cI 10)]] [0,1,6])
(.cond 6 (.seq (rg [mV 4 (cI 1)] [4])
.ret)
.skip))
(.seq (rg [mV 7 0,
mV 8 1,
cL 9 f_q035 [7,8],
mV 4 9] [4])
.ret)))
def a_q02k : AFun:=⟨2,[.t 4],P_q02k,false,false⟩
def d_q02k (C : Hd) (gl : GL) (v0 v1 : AV) (h : Heap) (x : Esc) (K : KT) : Prop:=
 C f_q008 [v1,(AI 2),(AI 10)] h fun t1 h2 y3=>
 condB t1 (K .ret ⟨[(4,(AI 1))],h2,(y3 ++ x)⟩)
 (C f_q035 [v0,v1] h2 fun t4 h5 y6=>
 K .ret ⟨[(4,t4)],h5,(y6 ++ (y3 ++ x))⟩)
theorem e_q02k {C gl v0 v1 h x K} : NW C gl a_q02k.body ⟨enter [v0,v1],h,x⟩ K = d_q02k C gl v0 v1 h x K:=by kernel_rfl
def P_q02j : ACode:=(.seq (rg [uO 4 (.alloc [.p (.int .i64 0),.p (.int .i64 0),.p (.int .i64 0),.p (.int .i64 0),.p (.int .i64 0),.p (.int .i64 0),.p (.int .i64 0),.p (.int .i64 0)])] [0,1,4])
(.seq (rg [mV 12 0,
mV 13 1,
cL 14 f_q02u [12,13],
mV 11 14,
eX 15 11 0,
eX 16 11 1,
mV 5 15,
mV 6 16] [1,4,5,6])
(.seq (rg [mV 17 5,
lN 18 17,
mV 7 18] [1,4,5,6,7])
(.seq (rg [mV 19 5,
cL 20 f_q033 [19],
mV 21 6,
cL 22 f_q033 [21],
mV 23 1,
cL 24 f_q02n [23],
bN 25 .mul 22 24,
mV 8 20,
mV 9 25] [1,4,6,7,8,9])
(.seq (rg [mV 26 7,
mV 27 1,
bN 28 .mul 26 27,
bN 29 .mul 28 (cI 100),
mV 10 29] [1,4,6,7,8,9,10])
(.seq (rg [mV 30 8,
mV 31 7,
mV 32 1,
bN 33 .mul 31 32,
cL 34 f_q004 [30,33],
mV 35 6,
cL 36 f_q033 [35],
mV 37 7,
cL 38 f_q004 [36,37],
mV 39 8,
bN 40 .mul 39 (cI 100),
mV 41 9,
mV 42 1,
bN 43 .mul 41 42,
bN 44 .sub 40 43,
mV 45 10,
cL 46 f_q004 [44,45],
mV 47 8,
bN 48 .mul 47 (cI 100),
mV 49 9,
mV 50 1,
bN 51 .mul 49 50,
bN 52 .add 48 51,
mV 53 10,
cL 54 f_q004 [52,53],
uO 55 (.build [.p (.int .i64 0),.p (.int .i64 0),.p (.int .i64 0),.p (.int .i64 0),.p (.int .i64 0),.p (.int .i64 0),.p (.int .i64 0),.p (.int .i64 0)] [(0,2,34),(2,2,38),(4,2,46),(6,2,54)]),
wO (.store (some 8) 4 55)] [4])
.ret))))))
def a_q02j : AFun:=⟨2,[.cell 4 (some 8)],P_q02j,false,false⟩
def d_q02j (C : Hd) (gl : GL) (v0 v1 : AV) (h : Heap) (x : Esc) (K : KT) : Prop:=
 alK [.p (.int .i64 0),.p (.int .i64 0),.p (.int .i64 0),.p (.int .i64 0),.p (.int .i64 0),.p (.int .i64 0),.p (.int .i64 0),.p (.int .i64 0)] h fun t1 h2 y3=>
 C f_q02u [v0,v1] h2 fun t4 h5 y6=>
 pK (oExt t4 0) fun t7=>
 pK (oExt t4 1) fun t8=>
 pK (oLen t7) fun t9=>
 C f_q033 [t7] h5 fun t10 h11 y12=>
 C f_q033 [t8] h11 fun t13 h14 y15=>
 C f_q02n [v1] h14 fun t16 h17 y18=>
 pK (oBin .mul t13 t16) fun t19=>
 pK (oBin .mul t9 v1) fun t20=>
 pK (oBin .mul t20 (AI 100)) fun t21=>
 pK (oBin .mul t9 v1) fun t22=>
 C f_q004 [t10,t22] h17 fun t23 h24 y25=>
 C f_q033 [t8] h24 fun t26 h27 y28=>
 C f_q004 [t26,t9] h27 fun t29 h30 y31=>
 pK (oBin .mul t10 (AI 100)) fun t32=>
 pK (oBin .mul t19 v1) fun t33=>
 pK (oBin .sub t32 t33) fun t34=>
 C f_q004 [t34,t21] h30 fun t35 h36 y37=>
 pK (oBin .mul t10 (AI 100)) fun t38=>
 pK (oBin .mul t19 v1) fun t39=>
 pK (oBin .add t38 t39) fun t40=>
 C f_q004 [t40,t21] h36 fun t41 h42 y43=>
 pK (oBuild [.p (.int .i64 0),.p (.int .i64 0),.p (.int .i64 0),.p (.int .i64 0),.p (.int .i64 0),.p (.int .i64 0),.p (.int .i64 0),.p (.int .i64 0)] [(0,2,t23),(2,2,t29),(4,2,t35),(6,2,t41)]) fun t44=>
 wK (oStore (some 8) t1 t44 h42) fun t45 h46 y47=>
 K .ret ⟨[(4,t1)],h46,(y47 ++ (y43 ++ (y37 ++ (y31 ++ (y28 ++ (y25 ++ (y18 ++ (y15 ++ (y12 ++ (y6 ++ (y3 ++ x)))))))))))⟩
theorem e_q02j {C gl v0 v1 h x K} : NW C gl a_q02j.body ⟨enter [v0,v1],h,x⟩ K = d_q02j C gl v0 v1 h x K:=by kernel_rfl
def p_q02u_k1 : ACode:=.pr [0,1,4,5,6,15,16,17] (.seq (rg [bN 18 .lss 17 16] [0,1,4,5,6,15,16,17,18])
(.seq (.cond 18 .skip
(.exit 2))
(.seq (.block 3 (.seq (rg [iA 19 none 15 17,
lD 20 none 19,
mV 8 20] [0,1,4,5,6,8,15,16,17])
(rg [mV 21 6,
mV 22 8,
bN 23 .add 21 22,
mV 6 23] [0,1,4,5,6,15,16,17])))
(rg [bN 24 .add 17 (cI 1),
mV 17 24] [0,1,4,5,6,15,16,17]))))
def d_q02u_k1 (C : Hd) (gl : GL) (v0 v1 v4 v5 v6 v15 v16 v17 : AV) (h : Heap) (x : Esc) (K : KT) : Prop:=
 pK (oBin .lss v17 v16) fun t1=>
 condB t1 (pK (oIaddr none v15 v17 h) fun t2=>
 pK (oLoad none t2 h) fun t3=>
 pK (oBin .add v6 t3) fun t4=>
 pK (oBin .add v17 (AI 1)) fun t5=>
 K .normal ⟨[(0,v0),(1,v1),(4,v4),(5,v5),(6,t4),(15,v15),(16,v16),(17,t5)],h,x⟩)
 (K (.exit 2) ⟨[(0,v0),(1,v1),(4,v4),(5,v5),(6,v6),(15,v15),(16,v16),(17,v17),(18,t1)],h,x⟩)
theorem e_q02u_k1 {C gl e h x K} : NW C gl p_q02u_k1 ⟨e,h,x⟩ K = d_q02u_k1 C gl (aget e 0) (aget e 1) (aget e 4) (aget e 5) (aget e 6) (aget e 15) (aget e 16) (aget e 17) h x K:=by kernel_rfl
theorem l_q02u_k1 {C gl e h x K} : NW C gl (.loop p_q02u_k1) ⟨e,h,x⟩ K = NLoop C gl p_q02u_k1 K [(0,aget e 0),(1,aget e 1),(4,aget e 4),(5,aget e 5),(6,aget e 6),(15,aget e 15),(16,aget e 16),(17,aget e 17)] h x:=NLoop_pr
def p_q02u_k2 : ACode:=.pr [0,1,4,5,6] (.seq (rg [mV 25 4,
mV 26 6,
uO 27 (.bsl false none 1 (.int .i64 0) [(0,26)]),
uO 28 (.app none 25 27),
mV 4 28] [0,1,4,5])
(.seq (dr [dF (mV 29 5) [5],
dF (mV 30 0) [0],
dF (mV 31 1) [1],
dF (uO 32 (.slice none 30 none (some 31) none)) [30,31],
dT (cL 33 f_q05p [32]) [32],
dF (mV 34 0) [0],
dF (mV 35 1) [1],
dA (uO 36 (.slice none 34 none (some 35) none)) [34,35] false [4] [],
dT (cL 37 f_q05q [36]) [36],
dF (bN 38 .sub 33 37) [33,37],
dF (uO 39 (.bsl false none 1 (.int .i64 0) [(0,38)])) [38],
dT (uO 40 (.app none 29 39)) [29,39],
dF (mV 5 40) [40]] [0,1,4,5])
(rg [mV 41 0,
mV 42 1,
uO 43 (.slice none 41 (some 42) none none),
mV 0 43] [0,1,4,5])))
def d_q02u_k2 (C : Hd) (gl : GL) (v0 v1 v4 v5 v6 : AV) (h : Heap) (x : Esc) (K : KT) : Prop:=
 wK (oBsl false none 1 (.int .i64 0) [(0,v6)] h) fun t1 h2 y3=>
 wK (oApp none v4 t1 h2) fun t4 h5 y6=>
 pK (oSlice none v0 none (some v1) none h5) fun t7=>
 callE C f_q05p [t7] h5 fun t8 h9 y10=>
 pK (oSlice none v0 none (some v1) none h9) fun t11=>
 (pK (oSlice none v0 none (some v1) none h5) fun v=>(fun u (g1 : Heap) (y1 : Esc)=>u = t11 ∧ g1 = h5 ∧ y1 = []) v h5 []) ∧ (callE C f_q05q [t11] h9 fun t12 h13 y14=>
 pK (oBin .sub t8 t12) fun t15=>
 wK (oBsl false none 1 (.int .i64 0) [(0,t15)] h13) fun t16 h17 y18=>
 (h17 = h13 ∧ y18 = []) ∧ (wK (oApp none v5 t16 h17) fun t19 h20 y21=>
 pK (oSlice none v0 (some v1) none none h20) fun t22=>
 K .normal ⟨[(0,t22),(1,v1),(4,t4),(5,t19)],h20,(y21 ++ (y18 ++ (y14 ++ (y10 ++ (y6 ++ (y3 ++ x))))))⟩))
theorem e_q02u_k2 {C gl e h x K} : NW C gl p_q02u_k2 ⟨e,h,x⟩ K = d_q02u_k2 C gl (aget e 0) (aget e 1) (aget e 4) (aget e 5) (aget e 6) h x K:=by kernel_rfl
def P_q02u_k3 (q1 q2 : ACode) : ACode:=.pr [0,1,4,5] (.seq (.seq (rg [mV 9 0,
lN 10 9,
mV 11 1,
bN 12 .geq 10 11] [0,1,4,5,12])
(.cond 12 .skip
(.exit 0)))
(.block 1 (.seq (rg [mV 6 (cI 0)] [0,1,4,5,6])
(.seq (.seq (rg [mV 13 0,
mV 14 1,
uO 15 (.slice none 13 none (some 14) none),
lN 16 15,
mV 17 (cI 0)] [0,1,4,5,6,15,16,17])
(.block 2 (.loop q1)))
q2))))
def p_q02u_k3 : ACode:=P_q02u_k3 p_q02u_k1 p_q02u_k2
def d_q02u_k3 (C : Hd) (gl : GL) (q1 q2 : ACode) (v0 v1 v4 v5 : AV) (h : Heap) (x : Esc) (K : KT) : Prop:=
 pK (oLen v0) fun t1=>
 pK (oBin .geq t1 v1) fun t2=>
 condB t2 (pK (oSlice none v0 none (some v1) none h) fun t3=>
 pK (oLen t3) fun t4=>
 NW C gl (.loop q1) ⟨[(0,v0),(1,v1),(4,v4),(5,v5),(6,(AI 0)),(15,t3),(16,t4),(17,(AI 0))],h,x⟩ (blockN 2 (seqN C gl q2 (blockN 1 K))))
 (K (.exit 0) ⟨[(0,v0),(1,v1),(4,v4),(5,v5),(12,t2)],h,x⟩)
theorem E_q02u_k3 {C gl q1 q2 e h x K} : NW C gl (P_q02u_k3 q1 q2) ⟨e,h,x⟩ K = d_q02u_k3 C gl q1 q2 (aget e 0) (aget e 1) (aget e 4) (aget e 5) h x K:=by kernel_rfl
theorem e_q02u_k3 {C gl e h x K} : NW C gl p_q02u_k3 ⟨e,h,x⟩ K = d_q02u_k3 C gl p_q02u_k1 p_q02u_k2 (aget e 0) (aget e 1) (aget e 4) (aget e 5) h x K:=E_q02u_k3
theorem l_q02u_k3 {C gl e h x K} : NW C gl (.loop (.scope p_q02u_k3)) ⟨e,h,x⟩ K = NLoop C gl (.scope p_q02u_k3) K [(0,aget e 0),(1,aget e 1),(4,aget e 4),(5,aget e 5)] h x:=NLoop_sc
def p_q02u_k4 : ACode:=.pr [4,5] (.seq (rg [mV 44 4,
mV 45 5,
mV 4 44,
mV 5 45] [4,5])
.ret)
def d_q02u_k4 (C : Hd) (gl : GL) (v4 v5 : AV) (h : Heap) (x : Esc) (K : KT) : Prop:=
 K .ret ⟨[(4,v4),(5,v5)],h,x⟩
theorem e_q02u_k4 {C gl e h x K} : NW C gl p_q02u_k4 ⟨e,h,x⟩ K = d_q02u_k4 C gl (aget e 4) (aget e 5) h x K:=by kernel_rfl
def P_q02u (q3 q4 : ACode) : ACode:=(.seq (rg [uO 4 (.new0 none),
uO 5 (.new0 none)] [0,1,4,5])
(.seq (.block 0 (.loop (.scope q3)))
q4))
def a_q02u : AFun:=⟨2,[.t 4,.t 5],P_q02u p_q02u_k3 p_q02u_k4,false,false⟩
def d_q02u (C : Hd) (gl : GL) (q3 q4 : ACode) (v0 v1 : AV) (h : Heap) (x : Esc) (K : KT) : Prop:=
 nwK none h fun t1 h2 y3=>
 nwK none h2 fun t4 h5 y6=>
 NW C gl (.loop (.scope q3)) ⟨[(0,v0),(1,v1),(4,t1),(5,t4)],h5,(y6 ++ (y3 ++ x))⟩ (blockN 0 (seqN C gl q4 K))
theorem E_q02u {C gl q3 q4 v0 v1 h x K} : NW C gl (P_q02u q3 q4) ⟨enter [v0,v1],h,x⟩ K = d_q02u C gl q3 q4 v0 v1 h x K:=by kernel_rfl
theorem e_q02u {C gl v0 v1 h x K} : NW C gl a_q02u.body ⟨enter [v0,v1],h,x⟩ K = d_q02u C gl p_q02u_k3 p_q02u_k4 v0 v1 h x K:=E_q02u
def P_q001 : ACode:=(.seq (rg [uO 2 (.box 0),
uO 3 (.box 1),
mV 4 (cI 0)] [2,3])
(.seq (.seq (rg [fA 5 0 none 2,
lD 6 none 5,
bN 7 .lss 6 (cI 0),
mV 8 7,
gD 9 8 true (.faddr 0 none 3),
gD 10 8 true (.load none 9),
gD 11 8 true (.bin .lss 10 (cI 0)),
uO 12 (.pick 8 11 cF)] [2,3,12])
(.cond 12 (.seq (rg [fA 13 0 none 3,
lD 14 none 13,
uO 15 (.un .neg 14),
fA 16 1 none 3,
lD 17 none 16,
uO 18 (.build [.p (.int .i64 0),.p (.int .i64 0)] [(0,1,15),(1,1,17)]),
fA 19 0 none 2,
lD 20 none 19,
uO 21 (.un .neg 20),
fA 22 1 none 2,
lD 23 none 22,
uO 24 (.build [.p (.int .i64 0),.p (.int .i64 0)] [(0,1,21),(1,1,23)]),
cL 25 f_q001 [18,24],
mV 4 25] [4])
.ret)
.skip))
(.seq (.seq (rg [fA 26 0 none 2,
lD 27 none 26,
bN 28 .lss 27 (cI 0),
mV 29 28,
gD 30 29 false (.faddr 0 none 3),
gD 31 29 false (.load none 30),
gD 32 29 false (.bin .lss 31 (cI 0)),
uO 33 (.pick 29 cT 32)] [2,3,33])
(.cond 33 (.seq (rg [fA 34 0 none 2,
lD 35 none 34,
fA 36 0 none 3,
lD 37 none 36,
cL 38 f_q00s [35,37],
mV 4 38] [4])
.ret)
.skip))
(.seq (rg [fA 39 0 none 2,
lD 40 none 39,
fA 41 1 none 3,
lD 42 none 41,
fA 43 0 none 3,
lD 44 none 43,
fA 45 1 none 2,
lD 46 none 45,
cL 47 f_q002 [40,42,44,46],
mV 4 47] [4])
.ret))))
def a_q001 : AFun:=⟨2,[.t 4],P_q001,false,false⟩
def d_q001 (C : Hd) (gl : GL) (v0 v1 : AV) (h : Heap) (x : Esc) (K : KT) : Prop:=
 wK (oBox v0 h) fun t1 h2 y3=>
 wK (oBox v1 h2) fun t4 h5 y6=>
 pK (oFaddr 0 none t1) fun t7=>
 pK (oLoad none t7 h5) fun t8=>
 pK (oBin .lss t8 (AI 0)) fun t9=>
 gP t9 true (oFaddr 0 none t4) h5 fun t10 h11 y12=>
 gP t9 true (oLoad none t10 h11) h11 fun t13 h14 y15=>
 gP t9 true (oBin .lss t13 (AI 0)) h14 fun t16 h17 y18=>
 pK (oPick t9 t16 (AB false)) fun t19=>
 condB t19 (pK (oFaddr 0 none t4) fun t20=>
 pK (oLoad none t20 h17) fun t21=>
 pK (oUn .neg t21) fun t22=>
 pK (oFaddr 1 none t4) fun t23=>
 pK (oLoad none t23 h17) fun t24=>
 pK (oBuild [.p (.int .i64 0),.p (.int .i64 0)] [(0,1,t22),(1,1,t24)]) fun t25=>
 pK (oFaddr 0 none t1) fun t26=>
 pK (oLoad none t26 h17) fun t27=>
 pK (oUn .neg t27) fun t28=>
 pK (oFaddr 1 none t1) fun t29=>
 pK (oLoad none t29 h17) fun t30=>
 pK (oBuild [.p (.int .i64 0),.p (.int .i64 0)] [(0,1,t28),(1,1,t30)]) fun t31=>
 C f_q001 [t25,t31] h17 fun t32 h33 y34=>
 K .ret ⟨[(4,t32)],h33,(y34 ++ (y18 ++ (y15 ++ (y12 ++ (y6 ++ (y3 ++ x))))))⟩)
 (pK (oFaddr 0 none t1) fun t35=>
 pK (oLoad none t35 h17) fun t36=>
 pK (oBin .lss t36 (AI 0)) fun t37=>
 gP t37 false (oFaddr 0 none t4) h17 fun t38 h39 y40=>
 gP t37 false (oLoad none t38 h39) h39 fun t41 h42 y43=>
 gP t37 false (oBin .lss t41 (AI 0)) h42 fun t44 h45 y46=>
 pK (oPick t37 (AB true) t44) fun t47=>
 condB t47 (pK (oFaddr 0 none t1) fun t48=>
 pK (oLoad none t48 h45) fun t49=>
 pK (oFaddr 0 none t4) fun t50=>
 pK (oLoad none t50 h45) fun t51=>
 C f_q00s [t49,t51] h45 fun t52 h53 y54=>
 K .ret ⟨[(4,t52)],h53,(y54 ++ (y46 ++ (y43 ++ (y40 ++ (y18 ++ (y15 ++ (y12 ++ (y6 ++ (y3 ++ x)))))))))⟩)
 (pK (oFaddr 0 none t1) fun t55=>
 pK (oLoad none t55 h45) fun t56=>
 pK (oFaddr 1 none t4) fun t57=>
 pK (oLoad none t57 h45) fun t58=>
 pK (oFaddr 0 none t4) fun t59=>
 pK (oLoad none t59 h45) fun t60=>
 pK (oFaddr 1 none t1) fun t61=>
 pK (oLoad none t61 h45) fun t62=>
 C f_q002 [t56,t58,t60,t62] h45 fun t63 h64 y65=>
 K .ret ⟨[(4,t63)],h64,(y65 ++ (y46 ++ (y43 ++ (y40 ++ (y18 ++ (y15 ++ (y12 ++ (y6 ++ (y3 ++ x)))))))))⟩))
theorem e_q001 {C gl v0 v1 h x K} : NW C gl a_q001.body ⟨enter [v0,v1],h,x⟩ K = d_q001 C gl v0 v1 h x K:=by kernel_rfl
def P_q035 : ACode:=(.seq (rg [mV 4 (cI 0)] [0,1])
(.seq (.block 0 (.seq (rg [mV 6 0,
lN 7 6,
mV 8 1,
bN 9 .lss 7 8,
mV 5 9] [0,5])
(.cond 5 (.seq (rg [mV 4 (cI 8)] [4])
.ret)
(.seq (rg [mV 11 0,
lN 12 11,
bN 13 .gtr 12 (cI 5000),
mV 10 13] [0,10])
(.cond 10 (.seq (rg [mV 4 (cI 2)] [4])
.ret)
(.seq (rg [mV 15 0,
cL 16 f_q057 [15,(.f f_q036)],
mV 14 16] [14])
(.cond 14 (.seq (rg [mV 4 (cI 1)] [4])
.ret)
.skip)))))))
(.seq (rg [mV 4 (cI 0)] [4])
.ret)))
def a_q035 : AFun:=⟨2,[.t 4],P_q035,false,false⟩
def d_q035 (C : Hd) (gl : GL) (v0 v1 : AV) (h : Heap) (x : Esc) (K : KT) : Prop:=
 pK (oLen v0) fun t1=>
 pK (oBin .lss t1 v1) fun t2=>
 condB t2 (K .ret ⟨[(4,(AI 8))],h,x⟩)
 (pK (oLen v0) fun t3=>
 pK (oBin .gtr t3 (AI 5000)) fun t4=>
 condB t4 (K .ret ⟨[(4,(AI 2))],h,x⟩)
 (C f_q057 [v0,(.fn f_q036 [])] h fun t5 h6 y7=>
 condB t5 (K .ret ⟨[(4,(AI 1))],h6,(y7 ++ x)⟩)
 (K .ret ⟨[(4,(AI 0))],h6,(y7 ++ x)⟩)))
theorem e_q035 {C gl v0 v1 h x K} : NW C gl a_q035.body ⟨enter [v0,v1],h,x⟩ K = d_q035 C gl v0 v1 h x K:=by kernel_rfl
def p_q032_k1 : ACode:=.pr [0,2,4,7,8,9] (.seq (rg [bN 10 .lss 9 8] [0,2,4,7,8,9,10])
(.seq (.cond 10 .skip
(.exit 0))
(.seq (.block 1 (.seq (rg [iA 11 none 7 9,
lD 12 none 11,
mV 6 12] [0,2,4,6,7,8,9])
(.seq (rg [mV 13 2,
mV 14 6,
bN 15 .add 13 14,
mV 2 15] [0,2,4,6,7,8,9])
(rg [mV 16 4,
mV 17 6,
mV 18 6,
bN 19 .mul 17 18,
bN 20 .add 16 19,
mV 4 20] [0,2,4,7,8,9]))))
(rg [bN 21 .add 9 (cI 1),
mV 9 21] [0,2,4,7,8,9]))))
def d_q032_k1 (C : Hd) (gl : GL) (v0 v2 v4 v7 v8 v9 : AV) (h : Heap) (x : Esc) (K : KT) : Prop:=
 pK (oBin .lss v9 v8) fun t1=>
 condB t1 (pK (oIaddr none v7 v9 h) fun t2=>
 pK (oLoad none t2 h) fun t3=>
 pK (oBin .add v2 t3) fun t4=>
 pK (oBin .mul t3 t3) fun t5=>
 pK (oBin .add v4 t5) fun t6=>
 pK (oBin .add v9 (AI 1)) fun t7=>
 K .normal ⟨[(0,v0),(2,t4),(4,t6),(7,v7),(8,v8),(9,t7)],h,x⟩)
 (K (.exit 0) ⟨[(0,v0),(2,v2),(4,v4),(7,v7),(8,v8),(9,v9),(10,t1)],h,x⟩)
theorem e_q032_k1 {C gl e h x K} : NW C gl p_q032_k1 ⟨e,h,x⟩ K = d_q032_k1 C gl (aget e 0) (aget e 2) (aget e 4) (aget e 7) (aget e 8) (aget e 9) h x K:=by kernel_rfl
theorem l_q032_k1 {C gl e h x K} : NW C gl (.loop p_q032_k1) ⟨e,h,x⟩ K = NLoop C gl p_q032_k1 K [(0,aget e 0),(2,aget e 2),(4,aget e 4),(7,aget e 7),(8,aget e 8),(9,aget e 9)] h x:=NLoop_pr
def p_q032_k2 : ACode:=.pr [0,2,4] (.seq (rg [mV 22 2,
mV 23 0,
lN 24 23,
mV 25 4,
bN 26 .mul 24 25,
mV 27 2,
mV 28 2,
bN 29 .mul 27 28,
bN 30 .sub 26 29,
mV 2 22,
mV 3 30] [2,3])
.ret)
def d_q032_k2 (C : Hd) (gl : GL) (v0 v2 v4 : AV) (h : Heap) (x : Esc) (K : KT) : Prop:=
 pK (oLen v0) fun t1=>
 pK (oBin .mul t1 v4) fun t2=>
 pK (oBin .mul v2 v2) fun t3=>
 pK (oBin .sub t2 t3) fun t4=>
 K .ret ⟨[(2,v2),(3,t4)],h,x⟩
theorem e_q032_k2 {C gl e h x K} : NW C gl p_q032_k2 ⟨e,h,x⟩ K = d_q032_k2 C gl (aget e 0) (aget e 2) (aget e 4) h x K:=by kernel_rfl
def P_q032 (q1 q2 : ACode) : ACode:=(.seq (rg [mV 2 (cI 0),
mV 3 (cI 0)] [0,2])
(.seq (rg [mV 4 (cI 0)] [0,2,4])
(.seq (.seq (rg [mV 7 0,
lN 8 7,
mV 9 (cI 0)] [0,2,4,7,8,9])
(.block 0 (.loop q1)))
q2)))
def a_q032 : AFun:=⟨1,[.t 2,.t 3],P_q032 p_q032_k1 p_q032_k2,false,false⟩
def d_q032 (C : Hd) (gl : GL) (q1 q2 : ACode) (v0 : AV) (h : Heap) (x : Esc) (K : KT) : Prop:=
 pK (oLen v0) fun t1=>
 NW C gl (.loop q1) ⟨[(0,v0),(2,(AI 0)),(4,(AI 0)),(7,v0),(8,t1),(9,(AI 0))],h,x⟩ (blockN 0 (seqN C gl q2 K))
theorem E_q032 {C gl q1 q2 v0 h x K} : NW C gl (P_q032 q1 q2) ⟨enter [v0],h,x⟩ K = d_q032 C gl q1 q2 v0 h x K:=by kernel_rfl
theorem e_q032 {C gl v0 h x K} : NW C gl a_q032.body ⟨enter [v0],h,x⟩ K = d_q032 C gl p_q032_k1 p_q032_k2 v0 h x K:=E_q032
def P_q004 : ACode:=(.seq (rg [uO 4 (.alloc [.p (.int .i64 0),.p (.int .i64 0)])] [0,1,4])
(.seq (rg [mV 6 0,
mV 7 0,
uO 8 (.un .neg 7),
uO 9 (.mx [6,8]),
mV 10 1,
cL 11 f_q005 [9,10],
mV 5 11] [0,1,4,5])
(.seq (dr [dF (mV 12 0) [0],
dF (mV 13 5) [5],
dF (bN 14 .quo 12 13) [12,13],
dF (mV 15 1) [1],
dF (mV 16 5) [5],
dF (bN 17 .quo 15 16) [15,16],
dF (uO 18 (.build [.p (.int .i64 0),.p (.int .i64 0)] [(0,1,14),(1,1,17)])) [14,17],
dT (wO (.store (some 2) 4 18)) [4,18]] [4])
.ret)))
def a_q004 : AFun:=⟨2,[.cell 4 (some 2)],P_q004,false,false⟩
def d_q004 (C : Hd) (gl : GL) (v0 v1 : AV) (h : Heap) (x : Esc) (K : KT) : Prop:=
 alK [.p (.int .i64 0),.p (.int .i64 0)] h fun t1 h2 y3=>
 pK (oUn .neg v0) fun t4=>
 pK (oMx [v0,t4]) fun t5=>
 C f_q005 [t5,v1] h2 fun t6 h7 y8=>
 pK (oBin .quo v0 t6) fun t9=>
 pK (oBin .quo v1 t6) fun t10=>
 pK (oBuild [.p (.int .i64 0),.p (.int .i64 0)] [(0,1,t9),(1,1,t10)]) fun t11=>
 wK (oStore (some 2) t1 t11 h7) fun t12 h13 y14=>
 K .ret ⟨[(4,t1)],h13,(y14 ++ (y8 ++ (y3 ++ x)))⟩
theorem e_q004 {C gl v0 v1 h x K} : NW C gl a_q004.body ⟨enter [v0,v1],h,x⟩ K = d_q004 C gl v0 v1 h x K:=by kernel_rfl
def P_q00s : ACode:=(.seq (rg [mV 4 (cI 0)] [0,1])
(.seq (rg [mV 7 0,
cL 8 f_q00w [7],
mV 5 8] [0,1,5])
(.seq (rg [mV 9 1,
cL 10 f_q00w [9],
mV 6 10] [0,1,5,6])
(.seq (.seq (rg [mV 11 5] [0,1,6,11])
(.cond 11 (.seq (.seq (rg [mV 12 6] [12])
(.cond 12 (.seq (rg [mV 4 (cI 0)] [4])
.ret)
.skip))
(.seq (rg [mV 4 (cI (-1))] [4])
.ret))
.skip))
(.seq (.seq (rg [mV 13 6] [0,1,13])
(.cond 13 (.seq (rg [mV 4 (cI 1)] [4])
.ret)
.skip))
(.seq (.seq (rg [mV 14 0,
mV 15 1,
bN 16 .lss 14 15] [0,1,16])
(.cond 16 (.seq (rg [mV 4 (cI (-1))] [4])
.ret)
.skip))
(.seq (.seq (rg [mV 17 0,
mV 18 1,
bN 19 .gtr 17 18] [19])
(.cond 19 (.seq (rg [mV 4 (cI 1)] [4])
.ret)
.skip))
(.seq (rg [mV 4 (cI 0)] [4])
.ret))))))))
def a_q00s : AFun:=⟨2,[.t 4],P_q00s,false,false⟩
def d_q00s (C : Hd) (gl : GL) (v0 v1 : AV) (h : Heap) (x : Esc) (K : KT) : Prop:=
 C f_q00w [v0] h fun t1 h2 y3=>
 C f_q00w [v1] h2 fun t4 h5 y6=>
 condB t1 (condB t4 (K .ret ⟨[(4,(AI 0))],h5,(y6 ++ (y3 ++ x))⟩)
 (K .ret ⟨[(4,(AI (-1)))],h5,(y6 ++ (y3 ++ x))⟩))
 (condB t4 (K .ret ⟨[(4,(AI 1))],h5,(y6 ++ (y3 ++ x))⟩)
 (pK (oBin .lss v0 v1) fun t7=>
 condB t7 (K .ret ⟨[(4,(AI (-1)))],h5,(y6 ++ (y3 ++ x))⟩)
 (pK (oBin .gtr v0 v1) fun t8=>
 condB t8 (K .ret ⟨[(4,(AI 1))],h5,(y6 ++ (y3 ++ x))⟩)
 (K .ret ⟨[(4,(AI 0))],h5,(y6 ++ (y3 ++ x))⟩))))
theorem e_q00s {C gl v0 v1 h x K} : NW C gl a_q00s.body ⟨enter [v0,v1],h,x⟩ K = d_q00s C gl v0 v1 h x K:=by kernel_rfl
def p_q03x_k1 : ACode:=.pr [0] (.seq (rg [mV 15 0,
mV 4 15] [4])
.ret)
def d_q03x_k1 (C : Hd) (gl : GL) (v0 : AV) (h : Heap) (x : Esc) (K : KT) : Prop:=
 K .ret ⟨[(4,v0)],h,x⟩
theorem e_q03x_k1 {C gl e h x K} : NW C gl p_q03x_k1 ⟨e,h,x⟩ K = d_q03x_k1 C gl (aget e 0) h x K:=by kernel_rfl
def P_q03x (q1 : ACode) : ACode:=(.seq (rg [mV 4 (cI 0)] [0,1])
(.seq (.seq (rg [mV 5 1,
bN 6 .lss 5 (cI 1)] [0,1,6])
(.cond 6 (.seq (rg [mV 4 (cI 0)] [4])
.ret)
.skip))
(.seq (rg [mV 7 0,
mV 8 1,
bN 9 .rem 7 8,
mV 0 9] [0,1])
(.seq (.seq (rg [mV 10 0,
bN 11 .lss 10 (cI 0)] [0,1,11])
(.cond 11 (rg [mV 12 0,
mV 13 1,
bN 14 .add 12 13,
mV 0 14] [0])
.skip))
q1))))
def a_q03x : AFun:=⟨2,[.t 4],P_q03x p_q03x_k1,false,false⟩
def d_q03x (C : Hd) (gl : GL) (q1 : ACode) (v0 v1 : AV) (h : Heap) (x : Esc) (K : KT) : Prop:=
 pK (oBin .lss v1 (AI 1)) fun t1=>
 condB t1 (K .ret ⟨[(4,(AI 0))],h,x⟩)
 (pK (oBin .rem v0 v1) fun t2=>
 pK (oBin .lss t2 (AI 0)) fun t3=>
 condB t3 (pK (oBin .add t2 v1) fun t4=>
 NW C gl q1 ⟨[(0,t4)],h,x⟩ K)
 (NW C gl q1 ⟨[(0,t2),(1,v1),(11,t3)],h,x⟩ K))
theorem E_q03x {C gl q1 v0 v1 h x K} : NW C gl (P_q03x q1) ⟨enter [v0,v1],h,x⟩ K = d_q03x C gl q1 v0 v1 h x K:=by kernel_rfl
theorem e_q03x {C gl v0 v1 h x K} : NW C gl a_q03x.body ⟨enter [v0,v1],h,x⟩ K = d_q03x C gl p_q03x_k1 v0 v1 h x K:=E_q03x
def P_q008 : ACode:=(.seq (rg [mV 6 cF] [0,1,2])
(.seq (rg [mV 7 0,
mV 8 1,
bN 9 .lss 7 8,
mV 10 9,
gD 11 10 false (.mv 0),
gD 12 10 false (.mv 2),
gD 13 10 false (.bin .gtr 11 12),
uO 14 (.pick 10 cT 13),
mV 6 14] [6])
.ret))
def a_q008 : AFun:=⟨3,[.t 6],P_q008,false,false⟩
def d_q008 (C : Hd) (gl : GL) (v0 v1 v2 : AV) (h : Heap) (x : Esc) (K : KT) : Prop:=
 pK (oBin .lss v0 v1) fun t1=>
 gM t1 false v0 h fun t2 h3 y4=>
 gM t1 false v2 h3 fun t5 h6 y7=>
 gP t1 false (oBin .gtr t2 t5) h6 fun t8 h9 y10=>
 pK (oPick t1 (AB true) t8) fun t11=>
 K .ret ⟨[(6,t11)],h9,(y10 ++ (y7 ++ (y4 ++ x)))⟩
theorem e_q008 {C gl v0 v1 v2 h x K} : NW C gl a_q008.body ⟨enter [v0,v1,v2],h,x⟩ K = d_q008 C gl v0 v1 v2 h x K:=by kernel_rfl
def p_q05l_k1 : ACode:=.pr [0,1,7,8] (.seq (rg [bN 9 .lss 8 7] [0,1,7,8,9])
(.seq (.cond 9 .skip
(.exit 0))
(.seq (.block 1 (.seq (rg [mV 10 8,
mV 5 10] [0,1,5,7,8])
(.seq (rg [mV 11 1,
mV 12 0,
mV 13 5,
iA 14 none 12 13,
lD 15 none 14,
uO 16 (.callv 11 [15])] [0,1,5,7,8,16])
(.cond 16 (.seq (rg [mV 17 5,
mV 4 17] [4])
.ret)
.skip))))
(rg [bN 18 .add 8 (cI 1),
mV 8 18] [0,1,7,8]))))
def d_q05l_k1 (C : Hd) (gl : GL) (v0 v1 v7 v8 : AV) (h : Heap) (x : Esc) (K : KT) : Prop:=
 pK (oBin .lss v8 v7) fun t1=>
 condB t1 (pK (oIaddr none v0 v8 h) fun t2=>
 pK (oLoad none t2 h) fun t3=>
 callvK C v1 [t3] h fun t4 h5 y6=>
 condB t4 (K .ret ⟨[(4,v8)],h5,(y6 ++ x)⟩)
 (pK (oBin .add v8 (AI 1)) fun t7=>
 K .normal ⟨[(0,v0),(1,v1),(7,v7),(8,t7)],h5,(y6 ++ x)⟩))
 (K (.exit 0) ⟨[(0,v0),(1,v1),(7,v7),(8,v8),(9,t1)],h,x⟩)
theorem e_q05l_k1 {C gl e h x K} : NW C gl p_q05l_k1 ⟨e,h,x⟩ K = d_q05l_k1 C gl (aget e 0) (aget e 1) (aget e 7) (aget e 8) h x K:=by kernel_rfl
theorem l_q05l_k1 {C gl e h x K} : NW C gl (.loop p_q05l_k1) ⟨e,h,x⟩ K = NLoop C gl p_q05l_k1 K [(0,aget e 0),(1,aget e 1),(7,aget e 7),(8,aget e 8)] h x:=NLoop_pr
def p_q05l_k2 : ACode:=.pr [] (.seq (rg [mV 4 (cI (-1))] [4])
.ret)
def d_q05l_k2 (C : Hd) (gl : GL) (h : Heap) (x : Esc) (K : KT) : Prop:=
 K .ret ⟨[(4,(AI (-1)))],h,x⟩
theorem e_q05l_k2 {C gl e h x K} : NW C gl p_q05l_k2 ⟨e,h,x⟩ K = d_q05l_k2 C gl h x K:=by kernel_rfl
def P_q05l (q1 q2 : ACode) : ACode:=(.seq (rg [mV 4 (cI 0)] [0,1])
(.seq (.seq (rg [mV 6 0,
lN 7 6,
mV 8 (cI 0)] [0,1,7,8])
(.block 0 (.loop q1)))
q2))
def a_q05l : AFun:=⟨2,[.t 4],P_q05l p_q05l_k1 p_q05l_k2,true,false⟩
def d_q05l (C : Hd) (gl : GL) (q1 q2 : ACode) (v0 v1 : AV) (h : Heap) (x : Esc) (K : KT) : Prop:=
 pK (oLen v0) fun t1=>
 NW C gl (.loop q1) ⟨[(0,v0),(1,v1),(7,t1),(8,(AI 0))],h,x⟩ (blockN 0 (seqN C gl q2 K))
theorem E_q05l {C gl q1 q2 v0 v1 h x K} : NW C gl (P_q05l q1 q2) ⟨enter [v0,v1],h,x⟩ K = d_q05l C gl q1 q2 v0 v1 h x K:=by kernel_rfl
theorem e_q05l {C gl v0 v1 h x K} : NW C gl a_q05l.body ⟨enter [v0,v1],h,x⟩ K = d_q05l C gl p_q05l_k1 p_q05l_k2 v0 v1 h x K:=E_q05l
def p_q033_k1 : ACode:=.pr [3,6,7,8] (.seq (rg [bN 9 .lss 8 7] [3,6,7,8,9])
(.seq (.cond 9 .skip
(.exit 0))
(.seq (.block 1 (.seq (rg [iA 10 none 6 8,
lD 11 none 10,
mV 5 11] [3,5,6,7,8])
(rg [mV 12 3,
mV 13 5,
bN 14 .add 12 13,
mV 3 14] [3,6,7,8])))
(rg [bN 15 .add 8 (cI 1),
mV 8 15] [3,6,7,8]))))
def d_q033_k1 (C : Hd) (gl : GL) (v3 v6 v7 v8 : AV) (h : Heap) (x : Esc) (K : KT) : Prop:=
 pK (oBin .lss v8 v7) fun t1=>
 condB t1 (pK (oIaddr none v6 v8 h) fun t2=>
 pK (oLoad none t2 h) fun t3=>
 pK (oBin .add v3 t3) fun t4=>
 pK (oBin .add v8 (AI 1)) fun t5=>
 K .normal ⟨[(3,t4),(6,v6),(7,v7),(8,t5)],h,x⟩)
 (K (.exit 0) ⟨[(3,v3),(6,v6),(7,v7),(8,v8),(9,t1)],h,x⟩)
theorem e_q033_k1 {C gl e h x K} : NW C gl p_q033_k1 ⟨e,h,x⟩ K = d_q033_k1 C gl (aget e 3) (aget e 6) (aget e 7) (aget e 8) h x K:=by kernel_rfl
theorem l_q033_k1 {C gl e h x K} : NW C gl (.loop p_q033_k1) ⟨e,h,x⟩ K = NLoop C gl p_q033_k1 K [(3,aget e 3),(6,aget e 6),(7,aget e 7),(8,aget e 8)] h x:=NLoop_pr
def p_q033_k2 : ACode:=.pr [3] (.seq (rg [mV 16 3,
mV 2 16] [2])
.ret)
def d_q033_k2 (C : Hd) (gl : GL) (v3 : AV) (h : Heap) (x : Esc) (K : KT) : Prop:=
 K .ret ⟨[(2,v3)],h,x⟩
theorem e_q033_k2 {C gl e h x K} : NW C gl p_q033_k2 ⟨e,h,x⟩ K = d_q033_k2 C gl (aget e 3) h x K:=by kernel_rfl
def P_q033 (q1 q2 : ACode) : ACode:=(.seq (rg [mV 2 (cI 0)] [0])
(.seq (rg [mV 3 (cI 0)] [0,3])
(.seq (.seq (rg [mV 6 0,
lN 7 6,
mV 8 (cI 0)] [3,6,7,8])
(.block 0 (.loop q1)))
q2)))
def a_q033 : AFun:=⟨1,[.t 2],P_q033 p_q033_k1 p_q033_k2,false,false⟩
def d_q033 (C : Hd) (gl : GL) (q1 q2 : ACode) (v0 : AV) (h : Heap) (x : Esc) (K : KT) : Prop:=
 pK (oLen v0) fun t1=>
 NW C gl (.loop q1) ⟨[(3,(AI 0)),(6,v0),(7,t1),(8,(AI 0))],h,x⟩ (blockN 0 (seqN C gl q2 K))
theorem E_q033 {C gl q1 q2 v0 h x K} : NW C gl (P_q033 q1 q2) ⟨enter [v0],h,x⟩ K = d_q033 C gl q1 q2 v0 h x K:=by kernel_rfl
theorem e_q033 {C gl v0 h x K} : NW C gl a_q033.body ⟨enter [v0],h,x⟩ K = d_q033 C gl p_q033_k1 p_q033_k2 v0 h x K:=E_q033
def P_q02n : ACode:=(.seq (rg [mV 2 (cI 0)] [0])
(.seq (rg [uO 3 (.build [.p (.int .i64 0),.p (.int .i64 0),.p (.int .i64 0),.p (.int .i64 0),.p (.int .i64 0),.p (.int .i64 0),.p (.int .i64 0),.p (.int .i64 0),.p (.int .i64 0)] [(0,1,(cI 188)),(1,1,(cI 102)),(2,1,(cI 73)),(3,1,(cI 58)),(4,1,(cI 48)),(5,1,(cI 42)),(6,1,(cI 37)),(7,1,(cI 34)),(8,1,(cI 31))]),
mV 4 0,
bN 5 .sub 4 (cI 2),
uO 6 (.idxa 9 none 3 5),
mV 2 6] [2])
.ret))
def a_q02n : AFun:=⟨1,[.t 2],P_q02n,false,false⟩
def d_q02n (C : Hd) (gl : GL) (v0 : AV) (h : Heap) (x : Esc) (K : KT) : Prop:=
 pK (oBuild [.p (.int .i64 0),.p (.int .i64 0),.p (.int .i64 0),.p (.int .i64 0),.p (.int .i64 0),.p (.int .i64 0),.p (.int .i64 0),.p (.int .i64 0),.p (.int .i64 0)] [(0,1,(AI 188)),(1,1,(AI 102)),(2,1,(AI 73)),(3,1,(AI 58)),(4,1,(AI 48)),(5,1,(AI 42)),(6,1,(AI 37)),(7,1,(AI 34)),(8,1,(AI 31))]) fun t1=>
 pK (oBin .sub v0 (AI 2)) fun t2=>
 pK (oIdxa 9 none t1 t2) fun t3=>
 K .ret ⟨[(2,t3)],h,x⟩
theorem e_q02n {C gl v0 h x K} : NW C gl a_q02n.body ⟨enter [v0],h,x⟩ K = d_q02n C gl v0 h x K:=by kernel_rfl
end Go.Am
end
