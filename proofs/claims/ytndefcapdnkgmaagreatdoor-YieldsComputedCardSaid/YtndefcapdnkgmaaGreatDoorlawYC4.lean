/- Texts of the proof, laid together: Am29, Am30, Am31, AmX, AmS, CodesA. -/
import GoSem.Extern.Table
import Derived.Laws.World
import Derived.KernelRfl
import Derived.Test.YtndefcapdnkgmaaGreatDoorlawYC3
set_option linter.all false
section
/- The abstract machine,part 29: its meaning once more,spelt so that a function's code can be printed asv a formula over its values (shallow),equal to the deep one by computing. -/
set_option linter.unusedSimpArgs false
set_option linter.unusedVariables false
namespace Go.Am
def pK (o : Option AV) (k : AV → Prop) : Prop:=match o with
  | some v=>k v
  | none=>False
def wK (o : Option (AV × Heap × Esc)) (k : AV → Heap → Esc → Prop) : Prop:=match o with
  | some y=>k y.1 y.2.1 y.2.2
  | none=>False
def oPick (c a b : AV) : Option AV:=match c with
  | .p (.bool t)=>some (bif t then a else b)
  | _=>none
def oBox (x : AV) (h : Heap) : Option (AV × Heap × Esc):=match x.cells with
  | some cs=>some (.ref h.length 0,h ++ [.box cs],[])
  | none=>none
def fillV : List (Nat × Nat × AV) → List AV → Option (List AV)
  | [],cs=>some cs
  | (off,n,x) :: r,cs=>match x.cells with
    | some vs=>if vs.length = n ∧ off + n ≤ cs.length then fillV r (splice cs off vs) else none
    | none=>none
def oBuild (z : List AV) (ps : List (Nat × Nat × AV)) : Option AV:=(fillV ps z).map mkA
def fillW (sh : Sh) : List (Nat × AV) → Heap → List PV → Option (List PV × Heap)
  | [],h,xs=>some (xs,h)
  | (i,x) :: r,h,xs=>match pur h x with
    | some (v,h')=>if v.shp sh ∧ i < xs.length then fillW sh r h' (xs.set i v) else none
    | none=>none
def oBsl (own : Bool) (sh : Sh) (n : Nat) (z : PV) (ps : List (Nat × AV)) (h : Heap) : Option (AV × Heap × Esc):=match fillW sh ps h (List.replicate n z) with
  | some (xs,h')=>if !z.shp sh then none else some (bif own then (.own h'.length n 0 n,h' ++ [.row sh xs 0],[]) else (.p (.sl sh xs),h',[]))
  | none=>none
def oLoad (sh : Sh) (a : AV) (h : Heap) : Option AV:=match a with
  | .ref id off=>match h[id]? with
    | some (.box cs)=>cut sh off cs
    | _=>none
  | .rref id g i off=>match h[id]? with
    | some (.row _ xs _)=>if g = xs.length then ((xs[i]?).bind (cutP sh off)).map .p else none
    | _=>none
  | .vp v=>(cutP sh 0 v).map .p
  | _=>none
def oStore (sh : Sh) (a x : AV) (h : Heap) : Option (AV × Heap × Esc):=match a with
  | .ref id off=>match h[id]?,x.cells with
    | some (.box cs),some vs=>if vs.length = shSize sh ∧ off + vs.length ≤ cs.length then some (.und,h.set id (.box (splice cs off vs)),escOf id x) else none
    | _,_=>none
  | .rref id g i off=>match pur h x with
    | some (v,h1)=>match h1[id]? with
      | some (.row rsh xs fz)=>if g = xs.length ∧ fz ≤ i ∧ v.cells.length = shSize sh ∧ v.cells.all PV.sc then match xs[i]? with
        | some (.agg cs)=>if off + v.cells.length ≤ cs.length then some (.und,h1.set id (.row rsh (xs.set i (.agg (splice cs off v.cells))) fz),[]) else none
        | some _=>if off = 0 ∧ v.sc then some (.und,h1.set id (.row rsh (xs.set i v) fz),[]) else none
        | none=>none
        else none
      | _=>none
    | none=>none
  | _=>none
def oNil (x : AV) : Option AV:=match x with
  | .ref _ _ | .rref _ _ _ _ | .vp _ | .fn _ _=>some x
  | _=>none
def oBin (op : BinOp) (x y : AV) : Option AV:=match x,y with
  | .p a,.p b=>(abin op a b).map .p
  | _,_=>none
def oEqa (ks : List Nat) (neg : Bool) (x y : AV) : Option AV:=match x,y with
  | .p (.agg asv),.p (.agg bs)=>if asv.map PV.kind = ks ∧ bs.map PV.kind = ks ∧ ks ≠ [] then (eqs asv bs).map fun t=>pbool (bif neg then !t else t) else none
  | .p (.bool a),.p (.bool b)=>if ks = [] then some (pbool (bif neg then !decide (a = b) else decide (a = b))) else none
  | _,_=>none
def oIsnil (k : Nat) (neg : Bool) (x : AV) : Option AV:=bif nilAny k x then some .anyb else (nilOf k x).map fun r=>pbool (bif neg then !r else r)
def oMkif (x : AV) : Option AV:=if okIn x then some .ifc else none
def oUn (op : UnOp) (x : AV) : Option AV:=match x with
  | .p a=>(aun op a).map .p
  | _=>none
def oConv (c : Cv) (x : AV) (h : Heap) : Option (AV × Heap × Esc):=(aconv h c x).map fun y=>(y.1,y.2,[])
def oConvI (k : IntKind) (x : AV) : Option AV:=match x with
  | .p (.int _ n)=>some (.p (.int k (k.wrap n)))
  | _=>none
def oMksl (sh : Sh) (z : PV) (len cap : AV) (h : Heap) : Option (AV × Heap × Esc):=match natOf len,natOf cap with
  | some n,some m=>if n ≤ m ∧ m ≤ maxSl ∧ z.shp sh then some (.own h.length n 0 n,h ++ [.row sh (List.replicate n z) 0],[]) else none
  | _,_=>none
def bndV (d : Nat) : Option AV → Option Nat
  | none=>some d
  | some x=>natOf x
def oSlstr (x : AV) (lo hi : Option AV) : Option AV:=match x with
  | .p (.str s)=>match bndV 0 lo,bndV s.length hi with
    | some l,some r=>if l ≤ r ∧ r ≤ s.length then some (.p (.str (win s l (r - l)))) else none
    | _,_=>none
  | _=>none
def oSlice (sh : Sh) (x : AV) (lo hi mx : Option AV) (h : Heap) : Option AV:=match x with
  | .p (.sl sh' xs)=>match bndV 0 lo,bndV xs.length hi,bndV xs.length mx with
    | some l,some r,some m=>if sh' = sh ∧ l ≤ r ∧ r ≤ m ∧ m ≤ xs.length then some (if mx.isSome ∧ m = l then .sl0 sh else .p (.sl sh (win xs l (r - l)))) else none
    | _,_,_=>none
  | .sl0 sh'=>match bndV 0 lo,bndV 0 hi,bndV 0 mx with
    | some l,some r,some m=>if l = 0 ∧ r = 0 ∧ m = 0 then some (.sl0 sh') else none
    | _,_,_=>none
  | .own id g off len=>match h[id]? with
    | some (.row rsh xs _)=>match bndV 0 lo,bndV len hi,bndV len mx with
      | some l,some r,some m=>if rsh = sh ∧ g = xs.length ∧ off + len ≤ xs.length ∧ l ≤ r ∧ r ≤ m ∧ m ≤ len then some (if mx.isSome ∧ m = l then .sl0 sh else .own id g (off + l) (r - l)) else none
      | _,_,_=>none
    | _=>none
  | _=>none
def oFaddr (off : Nat) (sh : Sh) (x : AV) : Option AV:=match x with
  | .ref id o=>some (.ref id (o + off))
  | .rref id g i o=>some (.rref id g i (o + off))
  | .vp v=>(cutP sh off v).map .vp
  | _=>none
def oField (off : Nat) (sh : Sh) (x : AV) : Option AV:=match x with
  | .p v=>match v with
    | .agg _=>(cutP sh off v).map .p
    | _=>none
  | .agg cs=>cut sh off cs
  | _=>none
def oIaddr (sh : Sh) (x i : AV) (h : Heap) : Option AV:=match x,natOf i with
  | .p (.sl sh' xs),some k=>if sh' = sh then (xs[k]?).map .vp else none
  | .own id g off len,some k=>match h[id]? with
    | some (.row rsh xs _)=>if rsh = sh ∧ g = xs.length ∧ off + len ≤ xs.length ∧ k < len then some (.rref id g (off + k) 0) else none
    | _=>none
  | _,_=>none
def oIaddra (n : Nat) (sh : Sh) (x i : AV) : Option AV:=match x,natOf i with
  | .ref id o,some k=>if k < n then some (.ref id (o + k * shSize sh)) else none
  | .rref id g j o,some k=>if k < n then some (.rref id g j (o + k * shSize sh)) else none
  | .vp v,some k=>if k < n then (cutP sh (k * shSize sh) v).map .vp else none
  | _,_=>none
def oIdxa (n : Nat) (sh : Sh) (x i : AV) : Option AV:=match x,natOf i with
  | .p (.agg cs),some k=>if k < n then (cutP sh (k * shSize sh) (.agg cs)).map .p else none
  | _,_=>none
def oIdxs (x i : AV) : Option AV:=match x,natOf i with
  | .p (.str s),some k=>(s[k]?).map fun b=>.p (.int .u8 b.toNat)
  | _,_=>none
def oExt (x : AV) (i : Nat) : Option AV:=match x with
  | .tup vs=>vs[i]?
  | _=>none
def oLen (x : AV) : Option AV:=match x with
  | .p (.sl _ xs)=>some (pint xs.length)
  | .sl0 _=>some (pint 0)
  | .own _ _ _ len=>some (pint len)
  | _=>none
def oLens (x : AV) : Option AV:=match x with
  | .p (.str s)=>some (pint s.length)
  | _=>none
def oApp (sh : Sh) (s x : AV) (h : Heap) : Option (AV × Heap × Esc):=match rds h x with
  | some (sh',ys)=>if sh' = sh then match s with
    | .sl0 _=>if ys.length ≤ maxSl then some (.own h.length ys.length 0 ys.length,h ++ [.row sh ys 0],[]) else none
    | .own id g off len=>match h[id]? with
      | some (.row rsh xs fz)=>if rsh = sh ∧ g = xs.length ∧ off = 0 ∧ len = xs.length ∧ len + ys.length ≤ maxSl then some (.own id (g + ys.length) off (len + ys.length),h.set id (.row sh (xs ++ ys) fz),[]) else none
      | _=>none
    | _=>none
    else none
  | none=>none
def oCopy (sh : Sh) (d s : AV) (h : Heap) : Option (AV × Heap × Esc):=match d,rds h s with
  | .own id g off len,some (sh',ys)=>match h[id]? with
    | some (.row rsh xs fz)=>if rsh = sh ∧ sh' = sh ∧ g = xs.length ∧ off + len ≤ xs.length ∧ fz ≤ off then
        some (pint (min ys.length len),h.set id (.row sh (splice xs off (ys.take (min ys.length len))) fz),[])
      else none
    | _=>none
  | _,_=>none
def oClr (sh : Sh) (z : PV) (x : AV) (h : Heap) : Option (AV × Heap × Esc):=match x with
  | .sl0 _=>some (.tup [],h,[])
  | .own id g off len=>match h[id]? with
    | some (.row rsh xs fz)=>if rsh = sh ∧ g = xs.length ∧ off + len ≤ xs.length ∧ fz ≤ off then
        some (.tup [],h.set id (.row sh (splice xs off (List.replicate len z)) fz),[])
      else none
    | _=>none
  | _=>none
def oMx (xs : List AV) : Option AV:=match xs with
  | .p a :: r=>((unp r).bind fun l=>l.foldlM amax2 a).map .p
  | _=>none
def oMn (xs : List AV) : Option AV:=match xs with
  | .p a :: r=>((unp r).bind fun l=>l.foldlM amin2 a).map .p
  | _=>none
def oLook (kk : Sh × List Nat) (ok : Bool) (z x k : AV) (h : Heap) : Option AV:=match keyOf kk k with
  | some key=>match (match x with | .nilm=>some [] | m=>(mget h m).map fun y=>y.2.1) with
    | some es=>match mfind key es with
      | some r=>
        let v:=((r.bind (es[·]?)).map ME.val)
        some (bif ok then .tup [v.getD z,pbool v.isSome] else v.getD z)
      | none=>none
    | none=>none
  | none=>none
def oMupd (kk : Sh × List Nat) (m k x : AV) (h : Heap) : Option (AV × Heap × Esc):=match keyOf kk k,mget h m,okIn x with
  | some key,some (id,es,c),true=>match mfind key es with
    | some (some i)=>some (.und,h.set id (.amap (es.modify i fun e=>{ e with val:=x }) c),escOf id x)
    | some none=>some (.und,h.set id (.amap (es ++ [⟨key,x,c⟩]) (c + 1)),escOf id x)
    | none=>none
  | _,_,_=>none
def oMent (kk : Sh × List Nat) (z m k : AV) (h : Heap) : Option (AV × Heap × Esc):=match keyOf kk k,mget h m with
  | some key,some (id,es,c)=>match mfind key es with
    | some (some i)=>(es[i]?).map fun e=>(.tup [e.val,pint e.born],h,[])
    | some none=>some (.tup [z,pint c],h.set id (.amap (es ++ [⟨key,z,c⟩]) (c + 1)),[])
    | none=>none
  | _,_=>none
def oEstore (m s x : AV) (h : Heap) : Option (AV × Heap × Esc):=match mget h m,natOf s,okIn x with
  | some (id,es,c),some b,true=>match es.findIdx? (fun e=>e.born == b) with
    | some i=>some (.und,h.set id (.amap (es.modify i fun e=>{ e with val:=x }) c),escOf id x)
    | none=>none
  | _,_,_=>none
def oMdel (kk : Sh × List Nat) (m k : AV) (h : Heap) : Option (AV × Heap × Esc):=match keyOf kk k,mget h m with
  | some key,some (id,es,c)=>match mfind key es with
    | some (some i)=>some (.und,h.set id (.amap (es.eraseIdx i) c),[])
    | some none=>some (.und,h,[])
    | none=>none
  | _,_=>none
def oLenm (x : AV) (h : Heap) : Option AV:=match x with
  | .nilm=>some (pint 0)
  | .mp id=>(mget h (.mp id)).map fun y=>pint y.2.1.length
  | _=>none
def oMrange (x : AV) (h : Heap) : Option (AV × Heap × Esc):=match mget h x with
  | some (id,_,c)=>some (.it h.length,h ++ [.iter (some id) c [] c],[])
  | none=>match x with
    | .nilm=>some (.it h.length,h ++ [.iter none 0 [] 0],[])
    | _=>none
def oMentry (i : AV) (h : Heap) : Option (AV × Heap × Esc):=match i with
  | .it id=>match h[id]? with
    | some (.iter (some m) _ seen last)=>match mget h (.mp m),seen.getLast? with
      | some (_,es,c),some b=>if c = last then (es.find? (fun e=>e.born == b)).map fun e=>(.tup [.p e.key,e.val],h,[]) else none
      | _,_=>none
    | _=>none
  | _=>none
def alK (z : List AV) (h : Heap) (k : AV → Heap → Esc → Prop) : Prop:=k (.ref h.length 0) (h ++ [.box z]) []
def nwK (sh : Sh) (h : Heap) (k : AV → Heap → Esc → Prop) : Prop:=k (.own h.length 0 0 0) (h ++ [.row sh [] 0]) []
def mmK (h : Heap) (k : AV → Heap → Esc → Prop) : Prop:=k (.mp h.length) (h ++ [.amap [] 0]) []
def ev3 (ev : Opd → AV) : List (Nat × Nat × Opd) → List (Nat × Nat × AV)
  | []=>[]
  | (a,b,x) :: r=>(a,b,ev x) :: ev3 ev r
def ev2 (ev : Opd → AV) : List (Nat × Opd) → List (Nat × AV)
  | []=>[]
  | (a,x) :: r=>(a,ev x) :: ev2 ev r
def evO (ev : Opd → AV) : Option Opd → Option AV
  | none=>none
  | some x=>some (ev x)
def ev1 (ev : Opd → AV) : List Opd → List AV
  | []=>[]
  | x :: r=>ev x :: ev1 ev r
def opN (o : AO) (ev : Opd → AV) (h : Heap) (k : AV → Heap → Esc → Prop) : Prop:=match o with
  | .mv x=>k (ev x) h []
  | .pick c a b=>pK (oPick (ev c) (ev a) (ev b)) fun v=>k v h []
  | .alloc z=>alK z h k
  | .box x=>wK (oBox (ev x) h) k
  | .build z ps=>pK (oBuild z (ev3 ev ps)) fun v=>k v h []
  | .bsl own sh n z ps=>wK (oBsl own sh n z (ev2 ev ps) h) k
  | .load sh a=>pK (oLoad sh (ev a) h) fun v=>k v h []
  | .store sh a x=>wK (oStore sh (ev a) (ev x) h) k
  | .nilchk x=>pK (oNil (ev x)) fun v=>k v h []
  | .bin op x y=>pK (oBin op (ev x) (ev y)) fun v=>k v h []
  | .eqa ks neg x y=>pK (oEqa ks neg (ev x) (ev y)) fun v=>k v h []
  | .isnil n neg x=>pK (oIsnil n neg (ev x)) fun v=>k v h []
  | .mkif x=>pK (oMkif (ev x)) fun v=>k v h []
  | .un op x=>pK (oUn op (ev x)) fun v=>k v h []
  | .conv (.i c) x=>pK (oConvI c (ev x)) fun v=>k v h []
  | .mkfn f caps=>k (.fn f (ev1 ev caps)) h []
  | .slice sh x lo hi mx=>pK (oSlice sh (ev x) (evO ev lo) (evO ev hi) (evO ev mx) h) fun v=>k v h []
  | .slstr x lo hi=>pK (oSlstr (ev x) (evO ev lo) (evO ev hi)) fun v=>k v h []
  | .mksl sh z len cap=>wK (oMksl sh z (ev len) (ev cap) h) k
  | .faddr off sh x=>pK (oFaddr off sh (ev x)) fun v=>k v h []
  | .field off sh x=>pK (oField off sh (ev x)) fun v=>k v h []
  | .iaddr sh x i=>pK (oIaddr sh (ev x) (ev i) h) fun v=>k v h []
  | .iaddra n sh x i=>pK (oIaddra n sh (ev x) (ev i)) fun v=>k v h []
  | .idxa n sh x i=>pK (oIdxa n sh (ev x) (ev i)) fun v=>k v h []
  | .idxs x i=>pK (oIdxs (ev x) (ev i)) fun v=>k v h []
  | .ext x i=>pK (oExt (ev x) i) fun v=>k v h []
  | .len x=>pK (oLen (ev x)) fun v=>k v h []
  | .lens x=>pK (oLens (ev x)) fun v=>k v h []
  | .app sh s x=>wK (oApp sh (ev s) (ev x) h) k
  | .copy sh d s=>wK (oCopy sh (ev d) (ev s) h) k
  | .clr sh z x=>wK (oClr sh z (ev x) h) k
  | .mx xs=>pK (oMx (ev1 ev xs)) fun v=>k v h []
  | .mn xs=>pK (oMn (ev1 ev xs)) fun v=>k v h []
  | .new0 sh=>nwK sh h k
  | .conv .s2b x=>wK (oConv .s2b (ev x) h) k
  | .conv .b2s x=>wK (oConv .b2s (ev x) h) k
  | .conv .r2s x=>wK (oConv .r2s (ev x) h) k
  | .conv .same x=>wK (oConv .same (ev x) h) k
  | .mkmap=>mmK h k
  | .look kk ok z x key=>pK (oLook kk ok z (ev x) (ev key) h) fun v=>k v h []
  | .mupd kk m key x=>wK (oMupd kk (ev m) (ev key) (ev x) h) k
  | .ment kk z m key=>wK (oMent kk z (ev m) (ev key) h) k
  | .estore m s x=>wK (oEstore (ev m) (ev s) (ev x) h) k
  | .mdel kk m key=>wK (oMdel kk (ev m) (ev key) h) k
  | .lenm x=>pK (oLenm (ev x) h) fun v=>k v h []
  | .mrange x=>wK (oMrange (ev x) h) k
  | .mentry i=>wK (oMentry (ev i) h) k
  | .call _ _ | .callv _ _ | .mnext _ _=>False
theorem wK_opt {o : Option (AV × Heap × Esc)} {k : AV → Heap → Esc → Prop} : optK o k = wK o k:=rfl
theorem pK_map {o : Option AV} {h : Heap} {k : AV → Heap → Esc → Prop} : wK (o.map fun v=>(v,h,[])) k = pK o fun v=>k v h []:=by cases o <;> rfl
theorem fillA_eq (ev : Opd → AV) : ∀ (ps : List (Nat × Nat × Opd)) (z : List AV),fillA ev ps z = fillV (ev3 ev ps) z
  | [],z=>rfl
  | (off,n,x) :: r,z=>by
    simp only [fillA,ev3,fillV]
    cases (ev x).cells with
    | none=>rfl
    | some vs=>simp only [fillA_eq ev r]
theorem fillP_eq (ev : Opd → AV) (sh : Sh) : ∀ (ps : List (Nat × Opd)) (h : Heap) (z : List PV),fillP ev sh ps h z = fillW sh (ev2 ev ps) h z
  | [],h,z=>rfl
  | (i,x) :: r,h,z=>by
    simp only [fillP,ev2,fillW]
    cases pur h (ev x) with
    | none=>rfl
    | some y=>simp only [fillP_eq ev sh r]
theorem bnd_eq (ev : Opd → AV) (d : Nat) (o : Option Opd) : bnd ev d o = bndV d (evO ev o):=by cases o <;> rfl
theorem evO_some (ev : Opd → AV) (o : Option Opd) : (evO ev o).isSome = o.isSome:=by cases o <;> rfl
theorem ev1_eq (ev : Opd → AV) (l : List Opd) : l.map ev = ev1 ev l:=by
  induction l with
  | nil=>rfl
  | cons x r ih=>simp only [List.map_cons,ev1,ih]
theorem asl_eq (sh : Sh) (ev : Opd → AV) (h : Heap) (x : AV) (lo hi mx : Option Opd) : asl sh ev h x lo hi mx = oSlice sh x (evO ev lo) (evO ev hi) (evO ev mx) h:=by
  unfold asl oSlice
  simp only [bnd_eq,evO_some]
  rfl
theorem wpK_ite {p : Prop} [Decidable p] {a : AV} {h : Heap} {k : AV → Heap → Esc → Prop} : wK (if p then some (a,h,[]) else none) k = pK (if p then some a else none) fun v=>k v h []:=by split <;> rfl
theorem wpK_map {α : Type} {o : Option α} {f : α → AV} {h : Heap} {k : AV → Heap → Esc → Prop} : wK (o.map fun v=>(f v,h,[])) k = pK (o.map f) fun v=>k v h []:=by cases o <;> rfl
theorem wpK_ite_map {α : Type} {p : Prop} [Decidable p] {o : Option α} {f : α → AV} {h : Heap} {k : AV → Heap → Esc → Prop} : wK (if p then o.map (fun v=>(f v,h,[])) else none) k = pK (if p then o.map f else none) fun v=>k v h []:=by
  split
  · exact wpK_map
  · rfl
theorem opN_aop {o : AO} (hp : o.plain = true) {ev : Opd → AV} {h : Heap} {k : AV → Heap → Esc → Prop} : optK (aop o ev h) k = opN o ev h k:=by
  rw [wK_opt]
  cases o <;> first | (cases hp; done) | skip
  case mv=>rfl
  case pick c a b=>
    simp only [aop,opN,oPick]
    generalize ev c = v
    cases v <;> try rfl
    rename_i p; cases p <;> rfl
  case alloc=>rfl
  case box=>rfl
  case build z ps=>simp only [aop,opN]; rw [← pK_map,oBuild,fillA_eq,Option.map_map]; rfl
  case bsl=>simp only [aop,opN,oBsl,fillP_eq]; rfl
  case load sh a=>
    simp only [aop,opN,oLoad]
    generalize ev a = v
    cases v with
    | ref id off=>dsimp only; cases h[id]? with
      | none=>rfl
      | some o=>cases o <;> first | rfl | exact pK_map
    | rref id g i off=>dsimp only; cases h[id]? with
      | none=>rfl
      | some o=>cases o <;> first | rfl | exact wpK_ite_map
    | vp v=>exact wpK_map
    | p v=>cases v <;> rfl
    | _=>rfl
  case store=>simp only [aop,opN]; rfl
  case nilchk x=>
    simp only [aop,opN,oNil]
    generalize ev x = v
    cases v <;> rfl
  case bin op x y=>
    simp only [aop,opN,oBin]
    generalize ev x = v
    generalize ev y = u
    cases v <;> try rfl
    cases u <;> try rfl
    exact wpK_map
  case eqa ks neg x y=>
    simp only [aop,opN,oEqa]
    generalize ev x = v
    generalize ev y = u
    cases v <;> try rfl
    rename_i p
    cases p <;> try rfl
    all_goals (cases u <;> try rfl)
    all_goals (rename_i q; cases q <;> try rfl)
    · exact wpK_ite
    · exact wpK_ite_map
  case isnil k neg p=>
    simp only [aop,opN,oIsnil]
    cases nilAny k (ev p) with
    | true=>rfl
    | false=>exact wpK_map
  case mkif=>exact wpK_ite
  case un op x=>
    simp only [aop,opN,oUn]
    generalize ev x = v
    cases v <;> try rfl
    exact wpK_map
  case conv c x=>
    cases c
    case i k'=>
      simp only [aop,opN,oConvI,aconv]
      generalize ev x = v
      cases v <;> try rfl
      rename_i p; cases p <;> rfl
    all_goals rfl
  case mkfn f caps=>simp only [aop,opN,ev1_eq]; rfl
  case slice=>simp only [aop,opN,asl_eq]; exact pK_map
  case slstr x lo hi=>
    simp only [aop,opN,oSlstr,bnd_eq]
    generalize ev x = v
    cases v <;> try rfl
    rename_i p; cases p <;> try rfl
    rename_i s
    dsimp only
    generalize bndV 0 _ = o1
    generalize bndV s.length _ = o2
    cases o1 <;> try rfl
    cases o2 <;> try rfl
    exact wpK_ite
  case mksl=>simp only [aop,opN]; rfl
  case faddr off sh x=>
    simp only [aop,opN,oFaddr]
    generalize ev x = v
    cases v <;> try rfl
    exact wpK_map
  case field off sh x=>
    simp only [aop,opN,oField]
    generalize ev x = v
    cases v <;> try rfl
    · rename_i p; cases p <;> try rfl
      exact wpK_map
    · exact pK_map
  case iaddr sh x i=>
    simp only [aop,opN,oIaddr]
    generalize ev x = v
    generalize natOf (ev i) = n
    cases v <;> try rfl
    · rename_i p; cases p <;> try rfl
      cases n <;> try rfl
      exact wpK_ite_map
    · cases n <;> try rfl
      rename_i id g off len k
      dsimp only
      cases h[id]? with
      | none=>rfl
      | some o=>cases o <;> first | rfl | exact wpK_ite
  case iaddra m sh x i=>
    simp only [aop,opN,oIaddra]
    generalize ev x = v
    generalize natOf (ev i) = n
    cases v <;> try rfl
    all_goals (cases n <;> try rfl)
    · exact wpK_ite
    · exact wpK_ite
    · exact wpK_ite_map
  case idxa m sh x i=>
    simp only [aop,opN,oIdxa]
    generalize ev x = v
    generalize natOf (ev i) = n
    cases v <;> try rfl
    rename_i p; cases p <;> try rfl
    cases n <;> try rfl
    exact wpK_ite_map
  case idxs x i=>
    simp only [aop,opN,oIdxs]
    generalize ev x = v
    generalize natOf (ev i) = n
    cases v <;> try rfl
    rename_i p; cases p <;> try rfl
    cases n <;> try rfl
    exact wpK_map
  case ext x i=>
    simp only [aop,opN,oExt]
    generalize ev x = v
    cases v <;> try rfl
    exact pK_map
  case len x=>
    simp only [aop,opN,oLen]
    generalize ev x = v
    cases v <;> try rfl
    rename_i p; cases p <;> rfl
  case lens x=>
    simp only [aop,opN,oLens]
    generalize ev x = v
    cases v <;> try rfl
    rename_i p; cases p <;> rfl
  case app=>simp only [aop,opN]; rfl
  case copy=>simp only [aop,opN]; rfl
  case clr=>simp only [aop,opN]; rfl
  case mx xs=>
    simp only [aop,opN,ev1_eq,oMx]
    generalize ev1 ev xs = l
    cases l <;> try rfl
    rename_i v r
    cases v <;> try rfl
    exact wpK_map
  case mn xs=>
    simp only [aop,opN,ev1_eq,oMn]
    generalize ev1 ev xs = l
    cases l <;> try rfl
    rename_i v r
    cases v <;> try rfl
    exact wpK_map
  case new0=>rfl
  case look kk ok z x key=>
    simp only [aop,opN,oLook]
    cases keyOf kk (ev key) <;> try rfl
    rename_i kk
    generalize ev x = v
    cases v <;> try rfl
    rename_i id
    dsimp only
    cases mget h (.mp id) <;> try rfl
    rename_i y
    dsimp only [Option.map_some]
    cases mfind kk y.2.1 <;> rfl
  case lenm x=>
    simp only [aop,opN,oLenm]
    generalize ev x = v
    cases v <;> try rfl
    exact wpK_map
  all_goals rfl
end Go.Am
end
section
/- The abstract machine,part 30: the meaning of code in the new spelling,and that it is the old one. -/
set_option linter.unusedSimpArgs false
set_option linter.unusedVariables false
namespace Go.Am
def gV (v : AV) (b : Bool) (h : Heap) (A : (AV → Heap → Esc → Prop) → Prop) (k : AV → Heap → Esc → Prop) : Prop:=wantK v b (A k) (k .skp h [])
def gP (v : AV) (b : Bool) (o : Option AV) (h : Heap) (k : AV → Heap → Esc → Prop) : Prop:=gV v b h (fun k=>pK o fun u=>k u h []) k
def gM (v : AV) (b : Bool) (u : AV) (h : Heap) (k : AV → Heap → Esc → Prop) : Prop:=gV v b h (fun k=>k u h []) k
def upB (b : Bool) : Bool:=(fun (_ : AV → Bool → Option AV → Heap → (AV → Heap → Esc → Prop) → Prop)=>b) gP
def gK (g : Option (Nat × Bool)) (e : List (Nat × AV)) (h : Heap) (A : (AV → Heap → Esc → Prop) → Prop) (k : AV → Heap → Esc → Prop) : Prop:=match g with
  | none=>A k
  | some (t,b)=>gV (aget e t) b h A k
def opC (C : Hd) (o : AO) (ev : Opd → AV) (h : Heap) (k : AV → Heap → Esc → Prop) : Prop:=match o with
  | .call f args=>C f (ev1 ev args) h k
  | .callv f args=>callvK C (ev f) (ev1 ev args) h k
  | .mnext sh xs=>match choices h sh (ev1 ev xs) with
    | some l=>l ≠ [] ∧ ∀ y ∈ l,k y.1 y.2 []
    | none=>False
  | o=>opN o ev h k
def NReg (C : Hd) (gl : Nat → Option PV) : List AOp → List (Nat × AV) → Heap → Esc → (List (Nat × AV) → Heap → Esc → Prop) → Prop
  | [],e,h,x,L=>L e h x
  | o :: r,e,h,x,L=>gK o.guard e h (opC C o.op (Opd.ev gl e) h) fun v h' x'=>NReg C gl r (put o.dst v e) h' (x' ++ x) L
variable {C : Hd} {gl : Nat → Option PV}
theorem opC_AReg {o : AO} {d : Option Nat} {r : List AOp} {e : List (Nat × AV)} {h : Heap} {x : Esc} {L : List (Nat × AV) → Heap → Esc → Prop} :
    AReg C gl (⟨d,none,o⟩ :: r) e h x L = opC C o (Opd.ev gl e) h (contR C gl r d e x L):=by
  cases hp : o.plain with
  | true=>
    rw [AReg_op hp,opN_aop hp]
    cases o <;> first | rfl | cases hp
  | false=>
    cases o <;> first | (cases hp; done) | skip
    all_goals first
      | (rw [AReg_call,ev1_eq]; rfl)
      | (rw [AReg_callvK,ev1_eq]; rfl)
      | (unfold AReg opC; simp only [wanted,ev1_eq]; rfl)
theorem NReg_eq : ∀ (ops : List AOp) (e : List (Nat × AV)) (h : Heap) (x : Esc) (L : List (Nat × AV) → Heap → Esc → Prop),AReg C gl ops e h x L = NReg C gl ops e h x L
  | [],e,h,x,L=>rfl
  | ⟨d,g,o⟩ :: r,e,h,x,L=>by
    have ih : (fun (v : AV) (h' : Heap) (x' : Esc)=>NReg C gl r (put d v e) h' (x' ++ x) L) = contR C gl r d e x L:=by
      funext v h' x'; rw [← NReg_eq r]; rfl
    show _ = gK g e h (opC C o (Opd.ev gl e) h) fun v h' x'=>NReg C gl r (put d v e) h' (x' ++ x) L
    rw [ih]
    cases g with
    | none=>exact opC_AReg
    | some tb=>
      obtain ⟨t,b⟩:=tb
      rw [AReg_guard,opC_AReg]; rfl
def opE (C : Hd) (o : AO) (ev : Opd → AV) (h : Heap) (k : AV → Heap → Esc → Prop) : Prop:=match o with
  | .call f args=>callE C f (ev1 ev args) h k
  | .callv f args=>callvE C (ev f) (ev1 ev args) h k
  | .mnext _ _=>False
  | o=>opN o ev h k
def effN (still eff : Bool) (h h' : Heap) (y : Esc) (Q : Prop) : Prop:=match upB eff with
  | true=>Q
  | false=>match still with
    | true=>Q
    | false=>(h' = h ∧ y = []) ∧ Q
def sameN (C : Hd) (gl : Nat → Option PV) (q : AOp × List (Nat × AV) × AV) (g : Heap) : Prop:=
  gK q.1.guard q.2.1 g (opE C q.1.op (Opd.ev gl q.2.1) g) fun v1 h1 x1=>v1 = q.2.2 ∧ h1 = g ∧ x1 = []
def againN (C : Hd) (gl : Nat → Option PV) (h : Heap) (dn : Done) (Q : Prop) : List Nat → Prop
  | []=>Q
  | j :: r=>(match dn[j]? with | some q=>sameN C gl q h | none=>False) ∧ againN C gl h dn Q r
def earlyN (C : Hd) (gl : Nat → Option PV) (o : AOp) (e : List (Nat × AV)) (v : AV) (hs : List Heap) (Q : Prop) : List Nat → Prop
  | []=>Q
  | k :: r=>(match hs[k]? with | some g=>sameN C gl (o,e,v) g | none=>False) ∧ earlyN C gl o e v hs Q r
def NDraw (C : Hd) (gl : Nat → Option PV) : List DOp → Done → List Heap → List (Nat × AV) → Heap → Esc → (List (Nat × AV) → Heap → Esc → Prop) → Prop
  | [],_,_,e,h,x,L=>L e h x
  | o :: r,dn,hs,e,h,x,L=>gK o.op.guard (prune (some o.rd) e) h (opE C o.op.op (Opd.ev gl (prune (some o.rd) e)) h) fun v h' y=>
      effN o.op.op.still o.eff h h' y (earlyN C gl o.op (prune (some o.rd) e) v hs (againN C gl h' dn (NDraw C gl r (dn ++ [(o.op,prune (some o.rd) e,v)]) (hs ++ [h]) (put o.op.dst v e) h' (y ++ x) L) o.again) o.early)
theorem opE_doK {o : AO} {d : Option Nat} {e : List (Nat × AV)} {h : Heap} {R : AV → Heap → Esc → Prop} : doK C gl ⟨d,none,o⟩ e h R = opE C o (Opd.ev gl e) h R:=by
  cases hp : o.plain with
  | true=>
    rw [doK_op hp,opN_aop hp]
    cases o <;> first | rfl | cases hp
  | false=>
    cases o <;> first | (cases hp; done) | skip
    all_goals first
      | (rw [doK_call,ev1_eq]; rfl)
      | (rw [doK_callvK,ev1_eq]; rfl)
      | (unfold doK ADo opE; simp [wanted])
theorem gK_doK {o : AOp} {e : List (Nat × AV)} {h : Heap} {R : AV → Heap → Esc → Prop} : doK C gl o e h R = gK o.guard e h (opE C o.op (Opd.ev gl e) h) R:=by
  obtain ⟨d,g,op⟩:=o
  cases g with
  | none=>exact opE_doK
  | some tb=>
    obtain ⟨t,b⟩:=tb
    rw [doK_guard,opE_doK]; rfl
theorem sameN_eq {q : AOp × List (Nat × AV) × AV} {g : Heap} : doS C gl q g = sameN C gl q g:=by
  obtain ⟨⟨d,gd,op⟩,e,v⟩:=q
  rw [doS_mk,gK_doK]; rfl
theorem againN_eq {h : Heap} {dn : Done} {Q : Prop} : ∀ {l : List Nat},againN C gl h dn Q l = (agK C gl h dn l ∧ Q)
  | []=>by simp [againN,agK]
  | j :: r=>by
    unfold againN agK
    rw [againN_eq (l:=r)]
    cases dn[j]? with
    | none=>simp
    | some q=>simp only [sameN_eq,and_assoc]
theorem earlyN_eq {o : AOp} {e : List (Nat × AV)} {v : AV} {hs : List Heap} {Q : Prop} : ∀ {l : List Nat},earlyN C gl o e v hs Q l = (eaK C gl o e v hs l ∧ Q)
  | []=>by simp [earlyN,eaK]
  | j :: r=>by
    unfold earlyN eaK
    rw [earlyN_eq (l:=r)]
    cases hs[j]? with
    | none=>simp
    | some q=>simp only [sameN_eq,and_assoc]
theorem doK_still {o : AOp} (hs : o.op.still = true) {e : List (Nat × AV)} {h : Heap} {R : AV → Heap → Esc → Prop} : doK C gl o e h (fun v h' y=>(h' = h ∧ y = []) ∧ R v h' y) = doK C gl o e h R:=by
  unfold doK
  refine propext ⟨fun ⟨v,h',y,H,_,r⟩=>⟨v,h',y,H,r⟩,fun ⟨v,h',y,H,r⟩=>⟨v,h',y,H,ADo_still hs H,r⟩⟩
theorem NDraw_eq : ∀ (ds : List DOp) (dn : Done) (hs : List Heap) (e : List (Nat × AV)) (h : Heap) (x : Esc) (L : List (Nat × AV) → Heap → Esc → Prop),ADraw C gl ds dn hs e h x L = NDraw C gl ds dn hs e h x L
  | [],dn,hs,e,h,x,L=>rfl
  | ⟨o,rd,eff,early,again⟩ :: r,dn,hs,e,h,x,L=>by
    rw [ADraw_cons]
    show _ = gK o.guard (prune (some rd) e) h (opE C o.op (Opd.ev gl (prune (some rd) e)) h) fun v h' y=>
      effN o.op.still eff h h' y (earlyN C gl o (prune (some rd) e) v hs (againN C gl h' dn (NDraw C gl r (dn ++ [(o,prune (some rd) e,v)]) (hs ++ [h]) (put o.dst v e) h' (y ++ x) L) again) early)
    rw [← gK_doK]
    have e1 : drawK C gl ⟨o,rd,eff,early,again⟩ r dn hs e h x L = fun v h' y=>(effK eff h h' y ∧ earlyN C gl o (prune (some rd) e) v hs (againN C gl h' dn (NDraw C gl r (dn ++ [(o,prune (some rd) e,v)]) (hs ++ [h]) (put o.dst v e) h' (y ++ x) L) again) early):=by
      funext v h' y
      rw [drawK_all,earlyN_eq,againN_eq,← NDraw_eq r]
    rw [e1]
    cases eff with
    | true=>
      congr 1; funext v h' y
      simp [effK,effN,upB]
    | false=>
      cases hs' : o.op.still with
      | true=>
        have:=doK_still (C:=C) (gl:=gl) (o:=o) hs' (e:=prune (some rd) e) (h:=h) (R:=fun v h' y=>earlyN C gl o (prune (some rd) e) v hs (againN C gl h' dn (NDraw C gl r (dn ++ [(o,prune (some rd) e,v)]) (hs ++ [h]) (put o.dst v e) h' (y ++ x) L) again) early)
        exact this
      | false=>rfl
def NW (C : Hd) (gl : Nat → Option PV) : ACode → St → (Ex → St → Prop) → Prop
  | .skip,s,K=>K .normal s
  | .reg ops keep,s,K=>NReg C gl ops s.env s.h s.esc fun e h x=>K .normal ⟨prune keep e,h,x⟩
  | .draw ds keep,s,K=>NDraw C gl ds [] [] s.env s.h s.esc fun e h x=>K .normal ⟨prune keep e,h,x⟩
  | .seq a b,s,K=>NW C gl a s fun e s'=>match e with
    | .normal=>NW C gl b s' K
    | .exit i=>K (.exit i) s'
    | .ret=>K .ret s'
  | .cond c a b,s,K=>condB (Opd.ev gl s.env c) (NW C gl a s K) (NW C gl b s K)
  | .condu c a b,s,K=>condU (Opd.ev gl s.env c) (NW C gl a s K) (NW C gl b s K)
  | .det b,s,K=>NW C gl b s K
  | .block id b,s,K=>NW C gl b s fun e s'=>match e with
    | .normal=>K .normal s'
    | .exit i=>bif Nat.beq i id then K .normal s' else K (.exit i) s'
    | .ret=>K .ret s'
  | .loop b,s,K=>ALoop (NW C gl b) K s
  | .scope b,s,K=>NW C gl b ⟨s.env,s.h,[]⟩ fun e s'=>K e (trunc s.h.length s.esc s')
  | .pr l b,s,K=>NW C gl b ⟨prune (some l) s.env,s.h,s.esc⟩ K
  | .exit id,s,K=>K (.exit id) s
  | .ret,s,K=>K .ret s
  | .bad,_,_=>False
theorem NW_eq : ∀ (c : ACode) (s : St) (K : Ex → St → Prop),AW C gl c s K = NW C gl c s K
  | .skip,s,K=>rfl
  | .reg ops keep,s,K=>NReg_eq _ _ _ _ _
  | .draw ds keep,s,K=>NDraw_eq _ _ _ _ _ _ _
  | .seq a b,s,K=>by
    unfold AW NW
    rw [NW_eq a]
    congr 1; funext e s'
    cases e with
    | normal=>exact NW_eq b s' K
    | _=>rfl
  | .cond c a b,s,K=>by
    unfold AW NW condB
    rw [← NW_eq a,← NW_eq b]
    rfl
  | .condu c a b,s,K=>by
    unfold AW NW condU
    rw [← NW_eq a,← NW_eq b]
    rfl
  | .det b,s,K=>NW_eq b s K
  | .block id b,s,K=>by
    unfold AW NW
    rw [NW_eq b]
    congr 1; funext e s'
    cases e with
    | exit i=>
      dsimp only
      by_cases hi : i = id
      · subst hi; simp
      · rw [if_neg hi]
        have : Nat.beq i id = false:=by cases h : Nat.beq i id with | false=>rfl | true=>exact absurd (Nat.eq_of_beq_eq_true h) hi
        rw [this]; rfl
    | _=>rfl
  | .loop b,s,K=>by
    show ALoop (AW C gl b) K s = ALoop (NW C gl b) K s
    rw [show AW C gl b = NW C gl b from funext fun s=>funext fun K=>NW_eq b s K]
  | .scope b,s,K=>NW_eq b _ _
  | .pr l b,s,K=>NW_eq b _ _
  | .exit id,s,K=>rfl
  | .ret,s,K=>rfl
  | .bad,s,K=>rfl
end Go.Am
end
section
/- The abstract machine,part 31: words in which a function's code is printed,and the rules of computing over them. -/
set_option linter.unusedSimpArgs false
set_option linter.unusedVariables false
namespace Go.Am
variable {C : Hd} {gl : Nat → Option PV} {e : List (Nat × AV)} {h : Heap} {x : Esc} {K : Ex → St → Prop} {s : St}
abbrev AI (n : Int) : AV:=.p (.int .i64 n)
abbrev AB (b : Bool) : AV:=.p (.bool b)
def seqN (C : Hd) (gl : Nat → Option PV) (b : ACode) (K : Ex → St → Prop) (e : Ex) (s : St) : Prop:=match e with
  | .normal=>NW C gl b s K
  | .exit i=>K (.exit i) s
  | .ret=>K .ret s
def blockN (id : Nat) (K : Ex → St → Prop) (e : Ex) (s : St) : Prop:=match e with
  | .normal=>K .normal s
  | .exit i=>bif Nat.beq i id then K .normal s else K (.exit i) s
  | .ret=>K .ret s
def nxK (i : AV) (h : Heap) (k : AV → Heap → Esc → Prop) : Prop:=match mnexts h i with
    | some l=>l ≠ [] ∧ ∀ y ∈ l,k y.1 y.2 []
    | none=>False
theorem seqN_normal {b : ACode} : seqN C gl b K .normal s = NW C gl b s K:=(rfl)
theorem seqN_exit {b : ACode} {i : Nat} : seqN C gl b K (.exit i) s = K (.exit i) s:=(rfl)
theorem seqN_ret {b : ACode} : seqN C gl b K .ret s = K .ret s:=(rfl)
theorem blockN_normal {i : Nat} : blockN i K .normal s = K .normal s:=(rfl)
theorem blockN_same {i : Nat} : blockN i K (.exit i) s = K .normal s:=by simp [blockN]
theorem blockN_exit {i j : Nat} : blockN i K (.exit j) s = bif Nat.beq j i then K .normal s else K (.exit j) s:=(rfl)
theorem blockN_ret {i : Nat} : blockN i K .ret s = K .ret s:=(rfl)
theorem seqN_congr {b : ACode} {ex ex' : Ex} {s s' : St} (he : ex = ex') (hs : s = s') : seqN C gl b K ex s = seqN C gl b K ex' s':=by rw [he,hs]
theorem blockN_congr {i : Nat} {ex ex' : Ex} {s s' : St} (he : ex = ex') (hs : s = s') : blockN i K ex s = blockN i K ex' s':=by rw [he,hs]
theorem NW_scope {b : ACode} : NW C gl (.scope b) ⟨e,h,x⟩ K = NW C gl b ⟨e,h,[]⟩ (scopeK h.length x K):=(rfl)
theorem NW_congr {c : ACode} {s s' : St} (hs : s = s') : NW C gl c s K = NW C gl c s' K:=by rw [hs]
def NLoop (C : Hd) (gl : Nat → Option PV) (b : ACode) (K : Ex → St → Prop) (e : List (Nat × AV)) (h : Heap) (x : Esc) : Prop:=ALoop (NW C gl b) K ⟨e,h,x⟩
theorem NLoop_pr {l : List Nat} {b : ACode} : NW C gl (.loop (.pr l b)) ⟨e,h,x⟩ K = NLoop C gl (.pr l b) K (prune (some l) e) h x:=by
  show ALoop _ _ _ = ALoop _ _ _
  exact ALoop_same (funext fun R=>by show NW C gl b _ R = NW C gl b _ R; dsimp only; rw [prune_prune])
theorem NLoop_sc {l : List Nat} {b : ACode} : NW C gl (.loop (.scope (.pr l b))) ⟨e,h,x⟩ K = NLoop C gl (.scope (.pr l b)) K (prune (some l) e) h x:=by
  show ALoop _ _ _ = ALoop _ _ _
  exact ALoop_same (funext fun R=>by show NW C gl b _ _ = NW C gl b _ _; dsimp only; rw [prune_prune])
theorem NLoop_congr {b : ACode} {e e' : List (Nat × AV)} {h h' : Heap} {x x' : Esc} (h1 : e = e') (h2 : h = h') (h3 : x = x') : NLoop C gl b K e h x = NLoop C gl b K e' h' x':=by rw [h1,h2,h3]
theorem N_loop {σ : Type} {b : ACode} (S : σ → St) (P : σ → Prop) (m : σ → Nat) (t0 : σ) (hs : (⟨e,h,x⟩ : St) = S t0) (h0 : P t0) (hr : ∀ t,P t → NW C gl b (S t) (loopK S P m K t)) : NLoop C gl b K e h x:=by
  show ALoop (NW C gl b) K _
  rw [hs]
  have key : ∀ n t,m t < n → P t → ALoop (NW C gl b) K (S t):=by
    intro n
    induction n with
    | zero=>intro t h; omega
    | succ n ih=>
      intro t hm hp
      refine .mk _ _ (hr t hp) (fun s' h'=>?_) (fun i s' h'=>h') (fun s' h'=>h')
      obtain ⟨u,rfl,hu,hlt⟩:=h'
      exact ih u (by omega) hu
  exact key _ t0 (Nat.lt_succ_self _) h0
theorem call_val {X : Ctx} {f : Nat} {F : AFun} {a asv : List AV} {h h1 : Heap} {P : Post} (hf : X.fn f = some F) (hr : F.byref = false) (hp : puras h a = some (asv,h1)) (hl : asv.length = F.nparams) (hd : F.isDet = false:=by rfl) :
    ACall X f a h P = NW (ACall X) X.gl F.body ⟨enter asv,h1,[]⟩ (finR F.results F.keep h.length P):=by
  rw [step_val hf hr hp hl hd,NW_eq]
theorem call_val_det {X : Ctx} {f : Nat} {F : AFun} {a asv : List AV} {h h1 : Heap} {P : Post} (hf : X.fn f = some F) (hr : F.byref = false) (hp : puras h a = some (asv,h1)) (hl : asv.length = F.nparams) (hd : F.isDet = true:=by rfl) :
    ACall X f a h P = ∃ v h' x,P v h' x ∧ NW (ACall X) X.gl F.body ⟨enter asv,h1,[]⟩ (finR F.results F.keep h.length fun v1 h1 x1=>v1 = v ∧ h1 = h' ∧ x1 = x):=by
  rw [step_val_det hf hr hp hl hd]
  simp only [NW_eq]
theorem call_ref {X : Ctx} {f : Nat} {F : AFun} {asv : List AV} {h : Heap} {P : Post} (hf : X.fn f = some F) (hr : F.byref = true) (hl : asv.length = F.nparams) (hd : F.isDet = false:=by rfl) :
    ACall X f asv h P = NW (ACall X) X.gl F.body ⟨enter asv,h,[]⟩ (finR F.results F.keep h.length P):=by
  rw [step_ref hf hr hl hd,NW_eq]
theorem pK_some {v : AV} {k : AV → Prop} : pK (some v) k = k v:=(rfl)
theorem pK_none {k : AV → Prop} : pK none k = False:=(rfl)
theorem wK_some {v : AV} {h : Heap} {x : Esc} {k : AV → Heap → Esc → Prop} : wK (some (v,h,x)) k = k v h x:=(rfl)
theorem wK_none {k : AV → Heap → Esc → Prop} : wK none k = False:=(rfl)
theorem pK_ite {p : Prop} [Decidable p] {a b : Option AV} {k : AV → Prop} : pK (if p then a else b) k = if p then pK a k else pK b k:=by split <;> rfl
theorem wK_ite {p : Prop} [Decidable p] {a b : Option (AV × Heap × Esc)} {k : AV → Heap → Esc → Prop} : wK (if p then a else b) k = if p then wK a k else wK b k:=by split <;> rfl
theorem pK_congr {o o' : Option AV} {k : AV → Prop} (h : o = o') : pK o k = pK o' k:=by rw [h]
theorem wK_congr {o o' : Option (AV × Heap × Esc)} {k : AV → Heap → Esc → Prop} (h : o = o') : wK o k = wK o' k:=by rw [h]
theorem gV_congr {v v' : AV} {b : Bool} {h : Heap} {A : (AV → Heap → Esc → Prop) → Prop} {k : AV → Heap → Esc → Prop} (h1 : v = v') : gV v b h A k = gV v' b h A k:=by rw [h1]
theorem gP_congr {v v' : AV} {b : Bool} {o : Option AV} {h : Heap} {k : AV → Heap → Esc → Prop} (h1 : v = v') : gP v b o h k = gP v' b o h k:=by rw [h1]
theorem gM_congr {v v' : AV} {b : Bool} {u : AV} {h : Heap} {k : AV → Heap → Esc → Prop} (h1 : v = v') : gM v b u h k = gM v' b u h k:=by rw [h1]
section
variable {A : (AV → Heap → Esc → Prop) → Prop} {o : Option AV} {u : AV} {k : AV → Heap → Esc → Prop} {t b : Bool}
theorem gV_tt : gV (.p (.bool true)) true h A k = A k:=(rfl)
theorem gV_ff : gV (.p (.bool false)) false h A k = A k:=(rfl)
theorem gV_tf : gV (.p (.bool true)) false h A k = k .skp h []:=(rfl)
theorem gV_ft : gV (.p (.bool false)) true h A k = k .skp h []:=(rfl)
theorem gV_skp : gV .skp b h A k = k .skp h []:=(rfl)
theorem gV_any : gV (.p (.bool t)) b h A k = wantK (.p (.bool t)) b (A k) (k .skp h []):=(rfl)
theorem gP_tt : gP (.p (.bool true)) true o h k = pK o fun v=>k v h []:=(rfl)
theorem gP_ff : gP (.p (.bool false)) false o h k = pK o fun v=>k v h []:=(rfl)
theorem gP_tf : gP (.p (.bool true)) false o h k = k .skp h []:=(rfl)
theorem gP_ft : gP (.p (.bool false)) true o h k = k .skp h []:=(rfl)
theorem gP_skp : gP .skp b o h k = k .skp h []:=(rfl)
theorem gP_any : gP (.p (.bool t)) b o h k = wantK (.p (.bool t)) b (pK o fun v=>k v h []) (k .skp h []):=(rfl)
theorem gM_tt : gM (.p (.bool true)) true u h k = k u h []:=(rfl)
theorem gM_ff : gM (.p (.bool false)) false u h k = k u h []:=(rfl)
theorem gM_tf : gM (.p (.bool true)) false u h k = k .skp h []:=(rfl)
theorem gM_ft : gM (.p (.bool false)) true u h k = k .skp h []:=(rfl)
theorem gM_skp : gM .skp b u h k = k .skp h []:=(rfl)
theorem gM_any : gM (.p (.bool t)) b u h k = wantK (.p (.bool t)) b (k u h []) (k .skp h []):=(rfl)
end
section
variable {k k' : IntKind} {a b : Int} {sa sb : List UInt8}
theorem bin_add : oBin .add (.p (.int k a)) (.p (.int k b)) = some (.p (.int k (k.wrap (a + b)))):=by simp [oBin,abin,aint]
theorem bin_sub : oBin .sub (.p (.int k a)) (.p (.int k b)) = some (.p (.int k (k.wrap (a - b)))):=by simp [oBin,abin,aint]
theorem bin_mul : oBin .mul (.p (.int k a)) (.p (.int k b)) = some (.p (.int k (k.wrap (a * b)))):=by simp [oBin,abin,aint]
theorem bin_quo : oBin .quo (.p (.int k a)) (.p (.int k b)) = if b = 0 then none else some (.p (.int k (k.wrap (a.tdiv b)))):=by simp [oBin,abin,aint] <;> split <;> rfl
theorem bin_rem : oBin .rem (.p (.int k a)) (.p (.int k b)) = if b = 0 then none else some (.p (.int k (a.tmod b))):=by simp [oBin,abin,aint] <;> split <;> rfl
theorem bin_and : oBin .and (.p (.int k a)) (.p (.int k b)) = some (.p (.int k (iand k a b))):=by simp [oBin,abin,aint]
theorem bin_or : oBin .or (.p (.int k a)) (.p (.int k b)) = some (.p (.int k (ior k a b))):=by simp [oBin,abin,aint]
theorem bin_xor : oBin .xor (.p (.int k a)) (.p (.int k b)) = some (.p (.int k (ixor k a b))):=by simp [oBin,abin,aint]
theorem bin_andNot : oBin .andNot (.p (.int k a)) (.p (.int k b)) = some (.p (.int k (iandn k a b))):=by simp [oBin,abin,aint]
theorem bin_eql : oBin .eql (.p (.int k a)) (.p (.int k b)) = some (.p (.bool (decide (a = b)))):=by simp [oBin,abin,aint]
theorem bin_neq : oBin .neq (.p (.int k a)) (.p (.int k b)) = some (.p (.bool (!decide (a = b)))):=by simp [oBin,abin,aint]
theorem bin_lss : oBin .lss (.p (.int k a)) (.p (.int k b)) = some (.p (.bool (decide (a < b)))):=by simp [oBin,abin,aint]
theorem bin_leq : oBin .leq (.p (.int k a)) (.p (.int k b)) = some (.p (.bool (decide (a ≤ b)))):=by simp [oBin,abin,aint]
theorem bin_gtr : oBin .gtr (.p (.int k a)) (.p (.int k b)) = some (.p (.bool (decide (b < a)))):=by simp [oBin,abin,aint]
theorem bin_geq : oBin .geq (.p (.int k a)) (.p (.int k b)) = some (.p (.bool (decide (b ≤ a)))):=by simp [oBin,abin,aint]
theorem bin_shl : oBin .shl (.p (.int k a)) (.p (.int k' b)) = if b < 0 then none else some (.p (.int k (ishl k a b))):=by simp [oBin,abin] <;> split <;> rfl
theorem bin_shr : oBin .shr (.p (.int k a)) (.p (.int k' b)) = if b < 0 then none else some (.p (.int k (ishr k a b))):=by simp [oBin,abin] <;> split <;> rfl
theorem str_add : oBin .add (.p (.str sa)) (.p (.str sb)) = if sa.length + sb.length ≤ maxStr then some (.p (.str (sa ++ sb))) else none:=by simp [oBin,abin,astr] <;> split <;> rfl
theorem str_eql : oBin .eql (.p (.str sa)) (.p (.str sb)) = some (.p (.bool (decide (sa = sb)))):=by simp [oBin,abin,astr]
theorem str_neq : oBin .neq (.p (.str sa)) (.p (.str sb)) = some (.p (.bool (!decide (sa = sb)))):=by simp [oBin,abin,astr]
theorem str_lss : oBin .lss (.p (.str sa)) (.p (.str sb)) = some (.p (.bool (Op.bytesLess sa sb))):=by simp [oBin,abin,astr]
theorem str_leq : oBin .leq (.p (.str sa)) (.p (.str sb)) = some (.p (.bool (Op.bytesLess sa sb || decide (sa = sb)))):=by simp [oBin,abin,astr]
theorem str_gtr : oBin .gtr (.p (.str sa)) (.p (.str sb)) = some (.p (.bool (!(Op.bytesLess sa sb || decide (sa = sb))))):=by simp [oBin,abin,astr]
theorem str_geq : oBin .geq (.p (.str sa)) (.p (.str sb)) = some (.p (.bool (!Op.bytesLess sa sb))):=by simp [oBin,abin,astr]
theorem un_neg : oUn .neg (.p (.int k a)) = some (.p (.int k (k.wrap (-a)))):=by simp [oUn,aun]
theorem un_not {t : Bool} : oUn .not (.p (.bool t)) = some (.p (.bool !t)):=(rfl)
theorem convI {k' : IntKind} : oConvI k (.p (.int k' a)) = some (.p (.int k (k.wrap a))):=(rfl)
theorem nilref {i j : Nat} : oNil (.ref i j) = some (.ref i j):=(rfl)
theorem nilrref {i j m n : Nat} : oNil (.rref i j m n) = some (.rref i j m n):=(rfl)
theorem nilvp {v : PV} : oNil (.vp v) = some (.vp v):=(rfl)
theorem nilfn {f : Nat} {cs : List AV} : oNil (.fn f cs) = some (.fn f cs):=(rfl)
theorem pick_b {t : Bool} {u v : AV} : oPick (.p (.bool t)) u v = some (bif t then u else v):=(rfl)
theorem len_sl {sh : Sh} {xs : List PV} : oLen (.p (.sl sh xs)) = some (.p (.int .i64 xs.length)):=(rfl)
theorem len_sl0 {sh : Sh} : oLen (.sl0 sh) = some (.p (.int .i64 0)):=(rfl)
theorem len_own {i g o l : Nat} : oLen (.own i g o l) = some (.p (.int .i64 l)):=(rfl)
theorem lens_s : oLens (.p (.str sa)) = some (.p (.int .i64 sa.length)):=(rfl)
theorem ext_t {vs : List AV} {i : Nat} : oExt (.tup vs) i = vs[i]?:=(rfl)
theorem faddr_ref {off i j : Nat} {sh : Sh} : oFaddr off sh (.ref i j) = some (.ref i (j + off)):=(rfl)
theorem faddr_rref {off i j m n : Nat} {sh : Sh} : oFaddr off sh (.rref i j m n) = some (.rref i j m (n + off)):=(rfl)
theorem faddr_vp {off : Nat} {sh : Sh} {v : PV} : oFaddr off sh (.vp v) = (cutP sh off v).map .vp:=(rfl)
theorem field_p {off : Nat} {sh : Sh} {cs : List PV} : oField off sh (.p (.agg cs)) = (cutP sh off (.agg cs)).map .p:=(rfl)
theorem field_a {off : Nat} {sh : Sh} {cs : List AV} : oField off sh (.agg cs) = cut sh off cs:=(rfl)
def ldB (sh : Sh) (off : Nat) : Option Obj → Option AV
  | some (.box cs)=>cut sh off cs
  | _=>none
def ldR (sh : Sh) (g i off : Nat) : Option Obj → Option AV
  | some (.row _ xs _)=>if g = xs.length then ((xs[i]?).bind (cutP sh off)).map .p else none
  | _=>none
theorem load_ref {sh : Sh} {i j : Nat} : oLoad sh (.ref i j) h = ldB sh j h[i]?:=by unfold oLoad ldB; rfl
theorem load_rref {sh : Sh} {i g m n : Nat} : oLoad sh (.rref i g m n) h = ldR sh g m n h[i]?:=by unfold oLoad ldR; rfl
theorem load_vp {sh : Sh} {v : PV} : oLoad sh (.vp v) h = (cutP sh 0 v).map .p:=(rfl)
theorem ldB_box {sh : Sh} {off : Nat} {cs : List AV} : ldB sh off (some (.box cs)) = cut sh off cs:=(rfl)
theorem ldR_row {sh sh' : Sh} {g i off fz : Nat} {xs : List PV} : ldR sh g i off (some (.row sh' xs fz)) = if g = xs.length then ((xs[i]?).bind (cutP sh off)).map .p else none:=(rfl)
def stB (sh : Sh) (id off : Nat) (v : AV) (h : Heap) : Option Obj → Option (List AV) → Option (AV × Heap × Esc)
  | some (.box cs),some vs=>if vs.length = shSize sh ∧ off + vs.length ≤ cs.length then some (.und,h.set id (.box (splice cs off vs)),escOf id v) else none
  | _,_=>none
theorem store_ref {sh : Sh} {i j : Nat} {v : AV} : oStore sh (.ref i j) v h = stB sh i j v h h[i]? v.cells:=by unfold oStore stB; rfl
theorem stB_box {sh : Sh} {id off : Nat} {v : AV} {cs vs : List AV} : stB sh id off v h (some (.box cs)) (some vs) = if vs.length = shSize sh ∧ off + vs.length ≤ cs.length then some (.und,h.set id (.box (splice cs off vs)),escOf id v) else none:=(rfl)
def stE (sh : Sh) (id i off fz : Nat) (rsh : Sh) (xs : List PV) (v : PV) (h1 : Heap) : Option PV → Option (AV × Heap × Esc)
  | some (.agg cs)=>if off + v.cells.length ≤ cs.length then some (.und,h1.set id (.row rsh (xs.set i (.agg (splice cs off v.cells))) fz),[]) else none
  | some _=>if off = 0 ∧ v.sc then some (.und,h1.set id (.row rsh (xs.set i v) fz),[]) else none
  | none=>none
def stO (sh : Sh) (id g i off : Nat) (v : PV) (h1 : Heap) : Option Obj → Option (AV × Heap × Esc)
  | some (.row rsh xs fz)=>if g = xs.length ∧ fz ≤ i ∧ v.cells.length = shSize sh ∧ v.cells.all PV.sc then stE sh id i off fz rsh xs v h1 xs[i]? else none
  | _=>none
def stR (sh : Sh) (id g i off : Nat) : Option (PV × Heap) → Option (AV × Heap × Esc)
  | some y=>stO sh id g i off y.1 y.2 y.2[id]?
  | none=>none
theorem store_rref {sh : Sh} {id g i off : Nat} {x : AV} : oStore sh (.rref id g i off) x h = stR sh id g i off (pur h x):=by
  unfold oStore stR
  cases pur h x with
  | none=>rfl
  | some y=>
    obtain ⟨v,h1⟩:=y
    dsimp only
    unfold stO
    cases h1[id]? with
    | none=>rfl
    | some o=>cases o <;> rfl
theorem stR_some {sh : Sh} {id g i off : Nat} {v : PV} {h1 : Heap} : stR sh id g i off (some (v,h1)) = stO sh id g i off v h1 h1[id]?:=(rfl)
theorem stO_row {sh rsh : Sh} {id g i off fz : Nat} {v : PV} {h1 : Heap} {xs : List PV} : stO sh id g i off v h1 (some (.row rsh xs fz)) = if g = xs.length ∧ fz ≤ i ∧ v.cells.length = shSize sh ∧ v.cells.all PV.sc then stE sh id i off fz rsh xs v h1 xs[i]? else none:=(rfl)
theorem stE_agg {sh rsh : Sh} {id i off fz : Nat} {v : PV} {h1 : Heap} {xs cs : List PV} : stE sh id i off fz rsh xs v h1 (some (.agg cs)) = if off + v.cells.length ≤ cs.length then some (.und,h1.set id (.row rsh (xs.set i (.agg (splice cs off v.cells))) fz),[]) else none:=(rfl)
theorem stE_int {sh rsh : Sh} {id i off fz : Nat} {v : PV} {h1 : Heap} {xs : List PV} {k : IntKind} {n : Int} : stE sh id i off fz rsh xs v h1 (some (.int k n)) = if off = 0 ∧ v.sc then some (.und,h1.set id (.row rsh (xs.set i v) fz),[]) else none:=(rfl)
theorem stE_bool {sh rsh : Sh} {id i off fz : Nat} {v : PV} {h1 : Heap} {xs : List PV} {t : Bool} : stE sh id i off fz rsh xs v h1 (some (.bool t)) = if off = 0 ∧ v.sc then some (.und,h1.set id (.row rsh (xs.set i v) fz),[]) else none:=(rfl)
theorem stE_str {sh rsh : Sh} {id i off fz : Nat} {v : PV} {h1 : Heap} {xs : List PV} {s : List UInt8} : stE sh id i off fz rsh xs v h1 (some (.str s)) = if off = 0 ∧ v.sc then some (.und,h1.set id (.row rsh (xs.set i v) fz),[]) else none:=(rfl)
theorem stE_sl {sh rsh : Sh} {id i off fz : Nat} {v : PV} {h1 : Heap} {xs : List PV} {sh' : Sh} {ys : List PV} : stE sh id i off fz rsh xs v h1 (some (.sl sh' ys)) = if off = 0 ∧ v.sc then some (.und,h1.set id (.row rsh (xs.set i v) fz),[]) else none:=(rfl)
theorem stE_nilp {sh rsh : Sh} {id i off fz : Nat} {v : PV} {h1 : Heap} {xs : List PV}  : stE sh id i off fz rsh xs v h1 (some .nilp) = if off = 0 ∧ v.sc then some (.und,h1.set id (.row rsh (xs.set i v) fz),[]) else none:=(rfl)
theorem pur_p {v : PV} : pur h (.p v) = some (v,h):=(rfl)
def iaS (xs : List PV) : Option Nat → Option AV
  | some k=>(xs[k]?).map .vp
  | none=>none
theorem iaddr_sl {sh : Sh} {xs : List PV} {i : AV} : oIaddr sh (.p (.sl sh xs)) i h = iaS xs (natOf i):=by
  unfold oIaddr iaS; cases natOf i <;> simp
theorem iaS_some {xs : List PV} {n : Nat} : iaS xs (some n) = (xs[n]?).map .vp:=(rfl)
def iaO (sh : Sh) (id g off len : Nat) : Option Obj → Option Nat → Option AV
  | some (.row rsh xs _),some k=>if rsh = sh ∧ g = xs.length ∧ off + len ≤ xs.length ∧ k < len then some (.rref id g (off + k) 0) else none
  | _,_=>none
theorem iaddr_own {sh : Sh} {id g off len : Nat} {i : AV} : oIaddr sh (.own id g off len) i h = iaO sh id g off len h[id]? (natOf i):=by
  unfold oIaddr iaO
  cases natOf i with
  | none=>dsimp only; cases h[id]? with
    | none=>rfl
    | some o=>cases o <;> rfl
  | some k=>dsimp only; cases h[id]? with
    | none=>rfl
    | some o=>cases o <;> rfl
theorem iaO_row {sh rsh : Sh} {id g off len k fz : Nat} {xs : List PV} : iaO sh id g off len (some (.row rsh xs fz)) (some k) = if rsh = sh ∧ g = xs.length ∧ off + len ≤ xs.length ∧ k < len then some (.rref id g (off + k) 0) else none:=(rfl)
theorem idxs_s {i : AV} : oIdxs (.p (.str sa)) i = (natOf i).bind fun n=>(sa[n]?).map fun b=>.p (.int .u8 b.toNat):=by
  unfold oIdxs; cases natOf i <;> rfl
end
theorem alK_eq {z : List AV} {k : AV → Heap → Esc → Prop} : alK z h k = k (.ref h.length 0) (h ++ [.box z]) []:=(rfl)
theorem nwK_eq {sh : Sh} {k : AV → Heap → Esc → Prop} : nwK sh h k = k (.own h.length 0 0 0) (h ++ [.row sh [] 0]) []:=(rfl)
theorem mmK_eq {k : AV → Heap → Esc → Prop} : mmK h k = k (.mp h.length) (h ++ [.amap [] 0]) []:=(rfl)
theorem condU_true {A B : Prop} : condU (.p (.bool true)) A B = A:=(rfl)
theorem condU_false {A B : Prop} : condU (.p (.bool false)) A B = B:=(rfl)
theorem condU_any {A B : Prop} : condU .anyb A B = (A ∧ B):=(rfl)
attribute [go_sem] seqN_normal seqN_exit seqN_ret blockN_normal blockN_same blockN_ret NW_scope pK_some pK_none wK_some wK_none pK_ite wK_ite gV_tt gV_ff gV_tf gV_ft gV_skp gP_tt gP_ff gP_tf gP_ft gP_skp gM_tt gM_ff gM_tf gM_ft gM_skp bin_add bin_sub bin_mul bin_quo bin_rem bin_and bin_or bin_xor bin_andNot bin_eql bin_neq bin_lss bin_leq bin_gtr bin_geq bin_shl bin_shr str_add str_eql str_neq str_lss str_leq str_gtr str_geq un_neg un_not convI nilref nilrref nilvp nilfn pick_b len_sl len_sl0 len_own lens_s ext_t faddr_ref faddr_rref faddr_vp field_p field_a load_ref load_rref load_vp ldB_box ldR_row store_ref stB_box store_rref stR_some stO_row stE_agg stE_int stE_bool stE_str stE_sl stE_nilp pur_p iaddr_sl iaS_some iaddr_own iaO_row idxs_s alK_eq nwK_eq mmK_eq oBox oBuild fillV oBsl fillW oEqa oIsnil nilAny condU_true condU_false condU_any nilOf oMkif okIn oConv oMksl bndV oSlstr oSlice oIaddra oIdxa oApp oCopy oClr oMx oMn oLook oMupd oMent oEstore oMdel oLenm oMrange oMentry
attribute [go_sem ↓] pK_some pK_none wK_some wK_none gV_tt gV_ff gV_tf gV_ft gV_skp gP_tt gP_ff gP_tf gP_ft gP_skp gM_tt gM_ff gM_tf gM_ft gM_skp condB_true condB_false wantK_tt wantK_ff wantK_tf wantK_ft wantK_skp seqN_normal seqN_exit seqN_ret blockN_normal blockN_same blockN_ret alK_eq nwK_eq mmK_eq loopK_normal loopK_exit loopK_ret scopeK_eq finR_normal finR_ret
attribute [go_sem low] gV_any gP_any gM_any blockN_exit
attribute [congr] seqN_congr blockN_congr NW_congr NLoop_congr pK_congr wK_congr gV_congr gP_congr gM_congr
end Go.Am
end
section
/- The abstract machine,part X: the library's functions that have no Go text: comparing strings,finding a byte. -/
set_option linter.unusedSimpArgs false
set_option linter.unusedVariables false
namespace Go.Am
variable {P : Program}
structure ExtRow (P : Program) (f : Nat) (e : Array Value → Sem Value) : Prop where
  row : ∃ fn,P.funcs[f]? = some fn ∧ fn.name ≠ "runtime.NumGoroutine" ∧ fn.body = none ∧ Extern.findNext fn = none ∧ Extern.find fn = some e
theorem ExtRow.run {f : Nat} {e : Array Value → Sem Value} (R : ExtRow P f e) {us : Array Value} {w w' : World} {x : Value} (he : (e us).run P w = .ok x w') : (callFunc f us).run P w = .ok (.value x) w':=by
  obtain ⟨fn,h1,h2,h3,h4,h5⟩:=R.row
  unfold callFunc
  simp [h1,h2,h3,h4,h5,he]
theorem extRow_of {f : Nat} {e : Array Value → Sem Value} (h : (match P.funcs[f]? with | some fn=>fn.name != "runtime.NumGoroutine" && fn.body.isNone && (Extern.findNext fn).isNone | none=>false) = true) (h2 : (P.funcs[f]?).bind Extern.find = some e) : ExtRow P f e:=by
  cases hf : P.funcs[f]? with
  | none=>rw [hf] at h; cases h
  | some fn=>
    rw [hf] at h h2
    simp only [Bool.and_eq_true,bne_iff_ne,ne_eq,Option.isNone_iff_eq_none] at h
    exact ⟨⟨fn,hf,h.1.1,h.1.2,h.2,h2⟩⟩
def idxB (s : List UInt8) (c : UInt8) : Int:=if s.findIdx (· == c) < s.length then (s.findIdx (· == c) : Int) else -1
def cmpL : List UInt8 → List UInt8 → Int
  | [],[]=>0
  | [],_ :: _=>-1
  | _ :: _,[]=>1
  | a :: asv,b :: bs=>if a < b then -1 else if b < a then 1 else cmpL asv bs
theorem ba_get (s : List UInt8) (i : Nat) : (⟨s.toArray⟩ : ByteArray)[i]! = s.getD i 0:=by
  by_cases h : i < s.length
  · rw [getElem!_pos (⟨s.toArray⟩ : ByteArray) i h]
    show s.toArray[i] = _
    simp [h]
  · rw [getElem!_neg (⟨s.toArray⟩ : ByteArray) i h]
    simp [Nat.not_lt.1 h]
    rfl
theorem find_idx (s : List UInt8) (c : UInt8) : (match (List.range (⟨s.toArray⟩ : ByteArray).size).find? fun i=>(⟨s.toArray⟩ : ByteArray)[i]! == c with
    | some i=>(i : Int)
    | none=>-1) = idxB s c:=by
  have hsz : (⟨s.toArray⟩ : ByteArray).size = s.length:=rfl
  have hget : ∀ i,i < s.length → (⟨s.toArray⟩ : ByteArray)[i]! = s.getD i 0:=by
    intro i hi
    exact ba_get s i
  unfold idxB
  rw [hsz]
  by_cases h : s.findIdx (· == c) < s.length
  · rw [if_pos h]
    have hf : (List.range s.length).find? (fun i=>(⟨s.toArray⟩ : ByteArray)[i]! == c) = some (s.findIdx (· == c)):=by
      rw [List.find?_eq_some_iff_getElem]
      refine ⟨?_,s.findIdx (· == c),by simpa using h,by simp,fun j hj=>?_⟩
      · rw [hget _ h]
        have:=List.findIdx_getElem (w:=h)
        simpa [h] using this
      · simp only [List.getElem_range]
        have hj' : j < s.length:=by omega
        rw [hget _ hj']
        have:=List.not_of_lt_findIdx hj
        simpa [hj'] using this
    rw [hf]
  · rw [if_neg h]
    have hf : (List.range s.length).find? (fun i=>(⟨s.toArray⟩ : ByteArray)[i]! == c) = none:=by
      rw [List.find?_eq_none]
      intro i hi
      rw [List.mem_range] at hi
      rw [hget _ hi]
      intro hc
      exact h (List.findIdx_lt_length_of_exists ⟨s[i],List.getElem_mem hi,by simpa [hi] using hc⟩)
    rw [hf]
theorem cmp_cmpL : ∀ (a b : List UInt8),Extern.BytealgCompare.cmp ⟨a.toArray⟩ ⟨b.toArray⟩ = cmpL a b:=by
  have key : ∀ (a b : List UInt8),(match (List.range (min a.length b.length)).find? fun i=>a.getD i 0 != b.getD i 0 with
      | some i=>if a.getD i 0 < b.getD i 0 then (-1 : Int) else 1
      | none=>if a.length < b.length then -1 else if a.length > b.length then 1 else 0) = cmpL a b:=by
    intro a
    induction a with
    | nil=>intro b; cases b <;> simp [cmpL]
    | cons x a ih=>
      intro b
      cases b with
      | nil=>simp [cmpL]
      | cons y b=>
        have hm : min (x :: a).length (y :: b).length = min a.length b.length + 1:=by simp only [List.length_cons]; omega
        rw [hm,List.range_succ_eq_map,List.find?_cons]
        simp only [List.getD_cons_zero]
        by_cases hxy : x = y
        · subst hxy
          have hlt : ¬ x < x:=UInt8.lt_irrefl x
          simp only [bne_self_eq_false,List.find?_map,cmpL,hlt,if_false]
          rw [← ih b]
          have hc : ((fun i=>(x :: a).getD i 0 != (x :: b).getD i 0) ∘ Nat.succ) = fun i=>a.getD i 0 != b.getD i 0:=by
            funext i; simp
          rw [hc]
          cases (List.range (min a.length b.length)).find? fun i=>a.getD i 0 != b.getD i 0 with
          | none=>simp
          | some i=>simp
        · have : (x != y) = true := by simpa using hxy
          rw [this]
          simp only [cmpL,List.getD_cons_zero]
          by_cases h1 : x < y
          · simp [h1]
          · have h2 : y < x:=by
              rcases UInt8.lt_or_lt_of_ne (a:=x) (b:=y) hxy with h | h
              · exact absurd h h1
              · exact h
            simp [h1,h2]
  intro a b
  rw [← key a b]
  unfold Extern.BytealgCompare.cmp
  have sa : (⟨a.toArray⟩ : ByteArray).size = a.length:=rfl
  have sb : (⟨b.toArray⟩ : ByteArray).size = b.length:=rfl
  simp only [sa,sb,ba_get]
  generalize List.find? _ _ = q
  cases q <;> rfl
def extF (fi fc : Nat) (f : Nat) (vs : List PV) : Option PV:=
  bif Nat.beq f fi then (match vs with
    | [.str s,.int .u8 c]=>some (.int .i64 (idxB s (UInt8.ofNat c.toNat)))
    | _=>none)
  else bif Nat.beq f fc then (match vs with
    | [.str a,.str b]=>some (.int .i64 (cmpL a b))
    | _=>none)
  else none
theorem extF_ok {fi fc : Nat} (h1 : ExtRow P fi Extern.BytealgIndexByte.indexByte) (h2 : ExtRow P fc Extern.BytealgCompare.compare) {f : Nat} {vs : List PV} {r : PV} (h : extF fi fc f vs = some r) : ExtOk P f vs r:=by
  intro M w us hM hl hr
  unfold extF at h
  cases e1 : Nat.beq f fi with
  | true=>
    rw [e1] at h
    have e:=Nat.eq_of_beq_eq_true e1
    subst e
    simp only [cond_true] at h
    split at h
    · rename_i s c
      injection h with h
      subst h
      match us,hl with
      | [u,v],_=>
        have q1:=hr 0 _ u rfl rfl
        have q2:=hr 1 _ v rfl rfl
        cases q1; cases q2
        refine ⟨.int .i64 (idxB s (UInt8.ofNat c.toNat)),w,h1.run ?_,WExt.refl w,.int _ _⟩
        rw [← find_idx]
        show (match (List.range (⟨s.toArray⟩ : ByteArray).size).find? fun i=>(⟨s.toArray⟩ : ByteArray)[i]! == UInt8.ofNat c.toNat with | some i=>(pure (goInt i) : Sem Value) | none=>pure (goInt (-1))).run P w = _
        generalize List.find? _ _ = q
        cases q <;> rfl
    · cases h
  | false=>
    rw [e1] at h
    simp only [cond_false] at h
    cases e2 : Nat.beq f fc with
    | true=>
      rw [e2] at h
      have e:=Nat.eq_of_beq_eq_true e2
      subst e
      simp only [cond_true] at h
      split at h
      · rename_i a b
        injection h with h
        subst h
        match us,hl with
        | [u,v],_=>
          have q1:=hr 0 _ u rfl rfl
          have q2:=hr 1 _ v rfl rfl
          cases q1; cases q2
          refine ⟨.int .i64 (cmpL a b),w,h2.run ?_,WExt.refl w,.int _ _⟩
          rw [← cmp_cmpL]
          rfl
      · cases h
    | false=>rw [e2] at h; cases h
theorem ext_call {X : Ctx} {f : Nat} {asv : List AV} {vs : List PV} {h h1 : Heap} {r : PV} {K : Post} (hf : X.fn f = none) (h2 : X.ex2 f asv h = none) (hp : puras h asv = some (vs.map .p,h1)) (hu : unp (vs.map AV.p) = some vs) (hx : X.ext f vs = some r) : ACall X f asv h K = K (.p r) h1 []:=by
  refine propext (ACall.eq (ACall.fold ?_) K)
  unfold Step
  simp only [hf,h2,hp,hu,hx]
  exact ⟨trivial,trivial,trivial⟩
structure GrowRow (P : Program) (f : Nat) (sh : Sh) : Prop where
  enter : ∀ us w,(callFunc f us).run P w = .ok (.enter f us) w
  room : ∀ a w,Calls P f #[.slice a 0 0,.int .i64 0] w fun e w'=>e = .returned (.slice a 0 0) ∧ w' = w
  grow : ∀ a (n : Nat) w,0 < n → n ≤ 1048576 → Calls P f #[.slice a 0 0,.int .i64 n] w fun e w'=>∃ G cs E,e = .returned (.slice (some ⟨w.heap.size,0,none⟩) 0 G) ∧ cs.size = G * shSize sh ∧ w' = w.drew.alloc (.cells cs E)
def growF : List (Nat × Sh) → Nat → List AV → Heap → Option (AV × Heap × Esc)
  | [],_,_,_=>none
  | (g,sh) :: r,f,asv,h=>bif Nat.beq f g then (match asv with
    | [.sl0 _,.p (.int .i64 n)]=>bif decide (0 ≤ n) && decide (n ≤ 1048576) then some (.own h.length 0 0 0,h ++ [.row sh [] 0],[]) else none
    | _=>none) else growF r f asv h
theorem growF_ok {gl : Nat → Option PV} : ∀ (gs : List (Nat × Sh)),(∀ g sh,(g,sh) ∈ gs → GrowRow P g sh) → ∀ {f : Nat} {asv : List AV} {h : Heap} {v : AV} {h' : Heap} {x : Esc},growF gs f asv h = some (v,h',x) →
    CallOk P gl f asv h fun v1 h1 x1=>v1 = v ∧ h1 = h' ∧ x1 = x
  | [],_,f,asv,h,v,h',x,H=>by cases H
  | (g,sh) :: r,hg,f,asv,h,v,h',x,H=>by
    unfold growF at H
    cases e1 : Nat.beq f g with
    | false=>
      rw [e1] at H
      exact growF_ok r (fun g sh hm=>hg g sh (by simp [hm])) H
    | true=>
      rw [e1] at H
      have e:=Nat.eq_of_beq_eq_true e1
      subst e
      have R:=hg f sh (by simp)
      simp only [cond_true] at H
      split at H
      · rename_i sh' n
        cases hb : (decide (0 ≤ n) && decide (n ≤ 1048576)) with
        | false=>rw [hb] at H; cases H
        | true=>
          rw [hb] at H
          simp only [cond_true,Option.some.injEq,Prod.mk.injEq] at H
          obtain ⟨rfl,rfl,rfl⟩:=H
          simp only [Bool.and_eq_true,decide_eq_true_eq] at hb
          intro μ w vs Hh Hg hl hr
          match vs,hl with
          | [u1,u2],_=>
            have q1:=hr 0 _ u1 rfl rfl
            have q2:=(hr 1 _ u2 rfl rfl).p_inv
            cases q1
            cases q2
            obtain ⟨m,hm⟩:=Int.eq_ofNat_of_zero_le hb.1
            subst hm
            refine .inl ⟨R.enter _,?_⟩
            rcases Nat.eq_zero_or_pos m with h0 | h0
            · subst h0
              refine (R.room _ w).mono fun e w' he=>?_
              obtain ⟨rfl,rfl⟩:=he
              obtain ⟨n1,n2⟩:=newNil Hh sh
              refine ⟨_,_,_,_,⟨rfl,rfl,rfl⟩,?_,n1,n2,EscInv.push (by simp [Obj.top])⟩
              exact .own h.length 0 0 0 _ 0 sh [] 0 none (Nat.le_refl _) (by simp) (by rw [← Hh.len]; simp) (by simp) (by simp) (fun _=>rfl)
            · refine (R.grow _ m w h0 (by omega)).mono fun e w' he => ?_
              obtain ⟨G,cs,E,rfl,hcs,rfl⟩:=he
              have hw : WExt w (w.drew.alloc (.cells cs E)):=(WExt.drew w _).trans (WExt.push _ _)
              obtain ⟨n1,n2⟩:=newRow' (sh:=sh) (xs:=[]) Hh hw (b:=w.heap.size) (n:=cs.size) (Nat.le_refl _) (by show w.heap.size < (w.heap.push _).size; simp) (c:=cs) (Block.push (w:=w.drew) cs E) (by simp) (by simp) (by simp)
              refine ⟨_,_,_,_,⟨rfl,rfl,rfl⟩,?_,n1,n2,EscInv.push (by simp [Obj.top])⟩
              refine .own h.length 0 0 0 _ G sh [] 0 (some (w.heap.size,cs.size)) (Nat.zero_le _) (by simp) (by rw [← Hh.len]; simp) (by simp) (by simp) (fun _=>?_)
              exact .inr ⟨by simp,by simp [hcs]⟩
      · cases H
end Go.Am
end
section
/- Short words for the printed code. -/
set_option linter.all false
namespace Go.Am
instance {n : Nat} : OfNat Opd n:=⟨.t n⟩
abbrev GL:=Nat → Option PV
abbrev KT:=Ex → St → Prop
def cI (n : Int) : Opd:=.c (.p (.int .i64 n))
def cT : Opd:=.c (.p (.bool true))
def cF : Opd:=.c (.p (.bool false))
def cS (s : List UInt8) : Opd:=.c (.p (.str s))
def uO (d : Nat) (o : AO) : AOp:=⟨some d,none,o⟩
def wO (o : AO) : AOp:=⟨none,none,o⟩
def gD (d g : Nat) (b : Bool) (o : AO) : AOp:=⟨some d,some (g,b),o⟩
def mV (d : Nat) (x : Opd) : AOp:=⟨some d,none,.mv x⟩
def bN (d : Nat) (b : BinOp) (x y : Opd) : AOp:=⟨some d,none,.bin b x y⟩
def cL (d f : Nat) (l : List Opd) : AOp:=⟨some d,none,.call f l⟩
def lD (d : Nat) (s : Sh) (x : Opd) : AOp:=⟨some d,none,.load s x⟩
def iA (d : Nat) (s : Sh) (x y : Opd) : AOp:=⟨some d,none,.iaddr s x y⟩
def fA (d o : Nat) (s : Sh) (x : Opd) : AOp:=⟨some d,none,.faddr o s x⟩
def lN (d : Nat) (x : Opd) : AOp:=⟨some d,none,.len x⟩
def eX (d : Nat) (x : Opd) (i : Nat) : AOp:=⟨some d,none,.ext x i⟩
def dF (o : AOp) (l : List Nat) : DOp:=⟨o,l,false,[],[]⟩
def dT (o : AOp) (l : List Nat) : DOp:=⟨o,l,true,[],[]⟩
def dA (o : AOp) (l : List Nat) (e : Bool) (a b : List Nat) : DOp:=⟨o,l,e,a,b⟩
def rg (l : List AOp) (k : List Nat) : ACode:=.reg l (some k)
def dr (l : List DOp) (k : List Nat) : ACode:=.draw l (some k)
end Go.Am
end
section
/- The functions asv abstract code,and asv formulas over their values: printed by program out of the translation. -/
set_option linter.unusedVariables false
set_option maxRecDepth 100000
namespace Go.Am
def p_q03u_k1 : ACode:=.pr [7,8,9,10,11,12,13,14,16,17,18,19,20,21,22,23] (.seq (rg [mV 103 8,
mV 104 16,
bN 105 .eql 103 104,
mV 106 105,
gD 107 106 true (.mv 7),
gD 108 106 true (.mv 20),
gD 109 106 true (.call f_q05f [107,108]),
uO 110 (.pick 106 109 cF),
mV 111 110,
gD 112 111 true (.mv 10),
gD 113 111 true (.mv 17),
gD 114 111 true (.bin .eql 112 113),
uO 115 (.pick 111 114 cF),
mV 116 115,
gD 117 116 true (.load (some 2) 9),
gD 118 116 true (.load (some 2) 21),
gD 119 116 true (.eqa [0,0] false 117 118),
uO 120 (.pick 116 119 cF),
mV 121 120,
gD 122 121 true (.mv 12),
gD 123 121 true (.mv 18),
gD 124 121 true (.bin .eql 122 123),
uO 125 (.pick 121 124 cF),
mV 126 125,
gD 127 126 true (.load (some 2) 11),
gD 128 126 true (.load (some 2) 22),
gD 129 126 true (.eqa [0,0] false 127 128),
uO 130 (.pick 126 129 cF),
mV 131 130,
gD 132 131 true (.mv 14),
gD 133 131 true (.mv 19),
gD 134 131 true (.bin .eql 132 133),
uO 135 (.pick 131 134 cF),
mV 136 135,
gD 137 136 true (.load (some 2) 13),
gD 138 136 true (.load (some 2) 23),
gD 139 136 true (.eqa [0,0] false 137 138),
uO 140 (.pick 136 139 cF),
mV 141 140,
gD 142 141 true (.call f_q03v []),
uO 143 (.pick 141 142 cF),
mV 2 143] [2])
.ret)
def d_q03u_k1 (C : Hd) (gl : GL) (v7 v8 v9 v10 v11 v12 v13 v14 v16 v17 v18 v19 v20 v21 v22 v23 : AV) (h : Heap) (x : Esc) (K : KT) : Prop:=
 pK (oBin .eql v8 v16) fun t1=>
 gM t1 true v7 h fun t2 h3 y4=>
 gM t1 true v20 h3 fun t5 h6 y7=>
 gV t1 true h6 (C f_q05f [t2,t5] h6) fun t8 h9 y10=>
 pK (oPick t1 t8 (AB false)) fun t11=>
 gM t11 true v10 h9 fun t12 h13 y14=>
 gM t11 true v17 h13 fun t15 h16 y17=>
 gP t11 true (oBin .eql t12 t15) h16 fun t18 h19 y20=>
 pK (oPick t11 t18 (AB false)) fun t21=>
 gP t21 true (oLoad (some 2) v9 h19) h19 fun t22 h23 y24=>
 gP t21 true (oLoad (some 2) v21 h23) h23 fun t25 h26 y27=>
 gP t21 true (oEqa [0,0] false t22 t25) h26 fun t28 h29 y30=>
 pK (oPick t21 t28 (AB false)) fun t31=>
 gM t31 true v12 h29 fun t32 h33 y34=>
 gM t31 true v18 h33 fun t35 h36 y37=>
 gP t31 true (oBin .eql t32 t35) h36 fun t38 h39 y40=>
 pK (oPick t31 t38 (AB false)) fun t41=>
 gP t41 true (oLoad (some 2) v11 h39) h39 fun t42 h43 y44=>
 gP t41 true (oLoad (some 2) v22 h43) h43 fun t45 h46 y47=>
 gP t41 true (oEqa [0,0] false t42 t45) h46 fun t48 h49 y50=>
 pK (oPick t41 t48 (AB false)) fun t51=>
 gM t51 true v14 h49 fun t52 h53 y54=>
 gM t51 true v19 h53 fun t55 h56 y57=>
 gP t51 true (oBin .eql t52 t55) h56 fun t58 h59 y60=>
 pK (oPick t51 t58 (AB false)) fun t61=>
 gP t61 true (oLoad (some 2) v13 h59) h59 fun t62 h63 y64=>
 gP t61 true (oLoad (some 2) v23 h63) h63 fun t65 h66 y67=>
 gP t61 true (oEqa [0,0] false t62 t65) h66 fun t68 h69 y70=>
 pK (oPick t61 t68 (AB false)) fun t71=>
 gV t71 true h69 (C f_q03v [] h69) fun t72 h73 y74=>
 pK (oPick t71 t72 (AB false)) fun t75=>
 K .ret ⟨[(2,t75)],h73,(y74 ++ (y70 ++ (y67 ++ (y64 ++ (y60 ++ (y57 ++ (y54 ++ (y50 ++ (y47 ++ (y44 ++ (y40 ++ (y37 ++ (y34 ++ (y30 ++ (y27 ++ (y24 ++ (y20 ++ (y17 ++ (y14 ++ (y10 ++ (y7 ++ (y4 ++ x))))))))))))))))))))))⟩
theorem e_q03u_k1 {C gl e h x K} : NW C gl p_q03u_k1 ⟨e,h,x⟩ K = d_q03u_k1 C gl (aget e 7) (aget e 8) (aget e 9) (aget e 10) (aget e 11) (aget e 12) (aget e 13) (aget e 14) (aget e 16) (aget e 17) (aget e 18) (aget e 19) (aget e 20) (aget e 21) (aget e 22) (aget e 23) h x K:=by kernel_rfl
def P_q03u_k2 (q1 : ACode) : ACode:=.pr [4,5,7,8,9,10,11,12,13,14,15,16,17,18,19,20,21,22,23] (.seq (.seq (rg [mV 89 15,
bN 90 .eql 89 (cI 0)] [4,5,7,8,9,10,11,12,13,14,16,17,18,19,20,21,22,23,90])
(.cond 90 (.seq (rg [mV 92 4,
mV 93 5,
cL 94 f_q04m [92,93,(cI 1)],
mV 91 94,
eX 95 91 0,
eX 96 91 1,
wO (.store (some 2) 22 95),
mV 18 96] [4,5,7,8,9,10,11,12,13,14,16,17,18,20,21,22,23])
(rg [mV 98 4,
mV 99 5,
cL 100 f_q04l [98,99],
mV 97 100,
eX 101 97 0,
eX 102 97 1,
wO (.store (some 2) 23 101),
mV 19 102] [7,8,9,10,11,12,13,14,16,17,18,19,20,21,22,23]))
.skip))
q1)
def p_q03u_k2 : ACode:=P_q03u_k2 p_q03u_k1
def d_q03u_k2 (C : Hd) (gl : GL) (q1 : ACode) (v4 v5 v7 v8 v9 v10 v11 v12 v13 v14 v15 v16 v17 v18 v19 v20 v21 v22 v23 : AV) (h : Heap) (x : Esc) (K : KT) : Prop:=
 pK (oBin .eql v15 (AI 0)) fun t1=>
 condB t1 (C f_q04m [v4,v5,(AI 1)] h fun t2 h3 y4=>
 pK (oExt t2 0) fun t5=>
 pK (oExt t2 1) fun t6=>
 wK (oStore (some 2) v22 t5 h3) fun t7 h8 y9=>
 C f_q04l [v4,v5] h8 fun t10 h11 y12=>
 pK (oExt t10 0) fun t13=>
 pK (oExt t10 1) fun t14=>
 wK (oStore (some 2) v23 t13 h11) fun t15 h16 y17=>
 NW C gl q1 ⟨[(7,v7),(8,v8),(9,v9),(10,v10),(11,v11),(12,v12),(13,v13),(14,v14),(16,v16),(17,v17),(18,t6),(19,t14),(20,v20),(21,v21),(22,v22),(23,v23)],h16,(y17 ++ (y12 ++ (y9 ++ (y4 ++ x))))⟩ K)
 (NW C gl q1 ⟨[(4,v4),(5,v5),(7,v7),(8,v8),(9,v9),(10,v10),(11,v11),(12,v12),(13,v13),(14,v14),(16,v16),(17,v17),(18,v18),(19,v19),(20,v20),(21,v21),(22,v22),(23,v23),(90,t1)],h,x⟩ K)
theorem E_q03u_k2 {C gl q1 e h x K} : NW C gl (P_q03u_k2 q1) ⟨e,h,x⟩ K = d_q03u_k2 C gl q1 (aget e 4) (aget e 5) (aget e 7) (aget e 8) (aget e 9) (aget e 10) (aget e 11) (aget e 12) (aget e 13) (aget e 14) (aget e 15) (aget e 16) (aget e 17) (aget e 18) (aget e 19) (aget e 20) (aget e 21) (aget e 22) (aget e 23) h x K:=by kernel_rfl
theorem e_q03u_k2 {C gl e h x K} : NW C gl p_q03u_k2 ⟨e,h,x⟩ K = d_q03u_k2 C gl p_q03u_k1 (aget e 4) (aget e 5) (aget e 7) (aget e 8) (aget e 9) (aget e 10) (aget e 11) (aget e 12) (aget e 13) (aget e 14) (aget e 15) (aget e 16) (aget e 17) (aget e 18) (aget e 19) (aget e 20) (aget e 21) (aget e 22) (aget e 23) h x K:=E_q03u_k2
def P_q03u (q2 : ACode) : ACode:=(.seq (rg [mV 2 cF] [0])
(.seq (rg [mV 24 0,
uO 25 (.build [.sl0 none,.p (.int .i64 0)] [(0,1,24)]),
uO 26 (.box 25),
mV 3 26] [3])
(.seq (rg [mV 27 3,
cL 28 f_q03z [27],
mV 4 28] [3,4])
(.seq (rg [mV 29 3,
mV 30 4,
mV 31 3,
cL 32 f_q043 [31,(cI 0),(cI 12)],
cL 33 f_q044 [29,30,32],
mV 34 3,
cL 35 f_q041 [34,(cI 1),(cI 3)],
mV 5 33,
mV 6 35] [4,5,6])
(.seq (rg [mV 37 4,
mV 38 5,
mV 39 6,
cL 40 f_q024 [37,38,39],
mV 36 40,
eX 41 36 0,
eX 42 36 1,
mV 7 41,
mV 8 42] [4,5,6,7,8])
(.seq (rg [mV 44 4,
mV 45 5,
mV 46 6,
cL 47 f_q02g [44,45,46],
mV 43 47,
eX 48 43 0,
eX 49 43 1,
uO 9 (.alloc [.p (.int .i64 0),.p (.int .i64 0)]),
wO (.store (some 2) 9 48),
mV 10 49] [4,5,6,7,8,9,10])
(.seq (rg [mV 51 4,
mV 52 5,
cL 53 f_q025 [51,52],
mV 50 53,
eX 54 50 0,
eX 55 50 1,
uO 11 (.alloc [.p (.int .i64 0),.p (.int .i64 0)]),
wO (.store (some 2) 11 54),
mV 12 55] [4,5,6,7,8,9,10,11,12])
(.seq (rg [mV 57 4,
mV 58 5,
cL 59 f_q02c [57,58],
mV 56 59,
eX 60 56 0,
eX 61 56 1,
uO 13 (.alloc [.p (.int .i64 0),.p (.int .i64 0)]),
wO (.store (some 2) 13 60),
mV 14 61] [4,5,6,7,8,9,10,11,12,13,14])
(.seq (rg [mV 62 4,
mV 63 5,
cL 64 f_q04g [62,63],
mV 15 64] [4,5,6,7,8,9,10,11,12,13,14,15])
(.seq (rg [mV 65 15,
mV 66 6,
cL 67 f_q04h [66],
uO 68 (.bsl false none 2 (.int .i64 0) [(0,65),(1,67)]),
cL 69 f_q03w [68],
mV 16 69] [4,5,6,7,8,9,10,11,12,13,14,15,16])
(.seq (rg [mV 70 16,
mV 71 15,
mV 72 15,
mV 17 70,
mV 18 71,
mV 19 72] [4,5,6,7,8,9,10,11,12,13,14,15,16,17,18,19])
(.seq (rg [mV 20 (.c (.p (.sl (some 2) [])))] [4,5,6,7,8,9,10,11,12,13,14,15,16,17,18,19,20])
(.seq (rg [uO 73 (.build [.p (.int .i64 0),.p (.int .i64 0)] []),
uO 74 (.build [.p (.int .i64 0),.p (.int .i64 0)] []),
uO 75 (.build [.p (.int .i64 0),.p (.int .i64 0)] []),
uO 21 (.alloc [.p (.int .i64 0),.p (.int .i64 0)]),
uO 22 (.alloc [.p (.int .i64 0),.p (.int .i64 0)]),
uO 23 (.alloc [.p (.int .i64 0),.p (.int .i64 0)]),
wO (.store (some 2) 21 73),
wO (.store (some 2) 22 74),
wO (.store (some 2) 23 75)] [4,5,6,7,8,9,10,11,12,13,14,15,16,17,18,19,20,21,22,23])
(.seq (.seq (rg [mV 76 16,
bN 77 .eql 76 (cI 0)] [4,5,6,7,8,9,10,11,12,13,14,15,16,17,18,19,20,21,22,23,77])
(.cond 77 (.seq (rg [mV 78 4,
mV 79 5,
mV 80 6,
cL 81 f_q04b [78,79,80],
mV 20 81] [4,5,6,7,8,9,10,11,12,13,14,15,16,18,19,20,21,22,23])
(rg [mV 83 4,
mV 84 5,
mV 85 6,
cL 86 f_q04m [83,84,85],
mV 82 86,
eX 87 82 0,
eX 88 82 1,
wO (.store (some 2) 21 87),
mV 17 88] [4,5,7,8,9,10,11,12,13,14,15,16,17,18,19,20,21,22,23]))
.skip))
q2))))))))))))))
def a_q03u : AFun:=⟨1,[.t 2],P_q03u p_q03u_k2,false,false⟩
def d_q03u (C : Hd) (gl : GL) (q2 : ACode) (v0 : AV) (h : Heap) (x : Esc) (K : KT) : Prop:=
 pK (oBuild [.sl0 none,.p (.int .i64 0)] [(0,1,v0)]) fun t1=>
 wK (oBox t1 h) fun t2 h3 y4=>
 C f_q03z [t2] h3 fun t5 h6 y7=>
 C f_q043 [t2,(AI 0),(AI 12)] h6 fun t8 h9 y10=>
 C f_q044 [t2,t5,t8] h9 fun t11 h12 y13=>
 C f_q041 [t2,(AI 1),(AI 3)] h12 fun t14 h15 y16=>
 C f_q024 [t5,t11,t14] h15 fun t17 h18 y19=>
 pK (oExt t17 0) fun t20=>
 pK (oExt t17 1) fun t21=>
 C f_q02g [t5,t11,t14] h18 fun t22 h23 y24=>
 pK (oExt t22 0) fun t25=>
 pK (oExt t22 1) fun t26=>
 alK [.p (.int .i64 0),.p (.int .i64 0)] h23 fun t27 h28 y29=>
 wK (oStore (some 2) t27 t25 h28) fun t30 h31 y32=>
 C f_q025 [t5,t11] h31 fun t33 h34 y35=>
 pK (oExt t33 0) fun t36=>
 pK (oExt t33 1) fun t37=>
 alK [.p (.int .i64 0),.p (.int .i64 0)] h34 fun t38 h39 y40=>
 wK (oStore (some 2) t38 t36 h39) fun t41 h42 y43=>
 C f_q02c [t5,t11] h42 fun t44 h45 y46=>
 pK (oExt t44 0) fun t47=>
 pK (oExt t44 1) fun t48=>
 alK [.p (.int .i64 0),.p (.int .i64 0)] h45 fun t49 h50 y51=>
 wK (oStore (some 2) t49 t47 h50) fun t52 h53 y54=>
 C f_q04g [t5,t11] h53 fun t55 h56 y57=>
 C f_q04h [t14] h56 fun t58 h59 y60=>
 wK (oBsl false none 2 (.int .i64 0) [(0,t55),(1,t58)] h59) fun t61 h62 y63=>
 C f_q03w [t61] h62 fun t64 h65 y66=>
 pK (oBuild [.p (.int .i64 0),.p (.int .i64 0)] []) fun t67=>
 pK (oBuild [.p (.int .i64 0),.p (.int .i64 0)] []) fun t68=>
 pK (oBuild [.p (.int .i64 0),.p (.int .i64 0)] []) fun t69=>
 alK [.p (.int .i64 0),.p (.int .i64 0)] h65 fun t70 h71 y72=>
 alK [.p (.int .i64 0),.p (.int .i64 0)] h71 fun t73 h74 y75=>
 alK [.p (.int .i64 0),.p (.int .i64 0)] h74 fun t76 h77 y78=>
 wK (oStore (some 2) t70 t67 h77) fun t79 h80 y81=>
 wK (oStore (some 2) t73 t68 h80) fun t82 h83 y84=>
 wK (oStore (some 2) t76 t69 h83) fun t85 h86 y87=>
 pK (oBin .eql t64 (AI 0)) fun t88=>
 condB t88 (C f_q04b [t5,t11,t14] h86 fun t89 h90 y91=>
 C f_q04m [t5,t11,t14] h90 fun t92 h93 y94=>
 pK (oExt t92 0) fun t95=>
 pK (oExt t92 1) fun t96=>
 wK (oStore (some 2) t70 t95 h93) fun t97 h98 y99=>
 NW C gl q2 ⟨[(4,t5),(5,t11),(7,t20),(8,t21),(9,t27),(10,t26),(11,t38),(12,t37),(13,t49),(14,t48),(15,t55),(16,t64),(17,t96),(18,t55),(19,t55),(20,t89),(21,t70),(22,t73),(23,t76)],h98,(y99 ++ (y94 ++ (y91 ++ (y87 ++ (y84 ++ (y81 ++ (y78 ++ (y75 ++ (y72 ++ (y66 ++ (y63 ++ (y60 ++ (y57 ++ (y54 ++ (y51 ++ (y46 ++ (y43 ++ (y40 ++ (y35 ++ (y32 ++ (y29 ++ (y24 ++ (y19 ++ (y16 ++ (y13 ++ (y10 ++ (y7 ++ (y4 ++ x))))))))))))))))))))))))))))⟩ K)
 (NW C gl q2 ⟨[(4,t5),(5,t11),(6,t14),(7,t20),(8,t21),(9,t27),(10,t26),(11,t38),(12,t37),(13,t49),(14,t48),(15,t55),(16,t64),(17,t64),(18,t55),(19,t55),(20,(.p (.sl (some 2) []))),(21,t70),(22,t73),(23,t76),(77,t88)],h86,(y87 ++ (y84 ++ (y81 ++ (y78 ++ (y75 ++ (y72 ++ (y66 ++ (y63 ++ (y60 ++ (y57 ++ (y54 ++ (y51 ++ (y46 ++ (y43 ++ (y40 ++ (y35 ++ (y32 ++ (y29 ++ (y24 ++ (y19 ++ (y16 ++ (y13 ++ (y10 ++ (y7 ++ (y4 ++ x)))))))))))))))))))))))))⟩ K)
theorem E_q03u {C gl q2 v0 h x K} : NW C gl (P_q03u q2) ⟨enter [v0],h,x⟩ K = d_q03u C gl q2 v0 h x K:=by kernel_rfl
theorem e_q03u {C gl v0 h x K} : NW C gl a_q03u.body ⟨enter [v0],h,x⟩ K = d_q03u C gl p_q03u_k2 v0 h x K:=E_q03u
def p_q03z_k1 : ACode:=.pr [3] (.seq (rg [mV 34 3,
mV 2 34] [2])
.ret)
def d_q03z_k1 (C : Hd) (gl : GL) (v3 : AV) (h : Heap) (x : Esc) (K : KT) : Prop:=
 K .ret ⟨[(2,v3)],h,x⟩
theorem e_q03z_k1 {C gl e h x K} : NW C gl p_q03z_k1 ⟨e,h,x⟩ K = d_q03z_k1 C gl (aget e 3) h x K:=by kernel_rfl
def P_q03z (q1 : ACode) : ACode:=(.seq (rg [mV 2 (.c (.p (.sl (some 4) [])))] [0])
(.seq (rg [uO 4 (.build [.p (.str []),.p (.int .i64 0),.p (.int .i64 0),.p (.int .i64 0)] [(0,1,(cS [118,111,108,116])),(2,1,(cI 10)),(3,1,(cI 5))]),
mV 5 0,
uO 6 (.bsl false none 3 (.int .i64 0) [(0,(cI 5)),(1,(cI 6)),(2,(cI 2))]),
cL 7 f_q042 [5,6],
uO 8 (.build [.p (.str []),.p (.int .i64 0),.p (.int .i64 0),.p (.int .i64 0)] [(0,1,(cS [97,109,112])),(1,1,(cI (-5))),(2,1,(cI 5)),(3,1,7)]),
uO 9 (.build [.p (.str []),.p (.int .i64 0),.p (.int .i64 0),.p (.int .i64 0)] [(0,1,(cS [104,122])),(1,1,(cI 3)),(2,1,(cI 8)),(3,1,(cI 9))]),
uO 10 (.bsl true (some 4) 3 (.agg [.str [],.int .i64 0,.int .i64 0,.int .i64 0]) [(0,4),(1,8),(2,9)]),
mV 11 0,
cL 12 f_q043 [11,(cI 1),(cI 3)],
uO 13 (.slice (some 4) 10 none (some 12) none),
mV 3 13] [0,3])
(.seq (.seq (rg [mV 14 0,
cL 15 f_q03y [14,(cI 15)]] [0,3,15])
(.cond 15 (rg [mV 16 3,
mV 17 0,
mV 18 3,
lN 19 18,
cL 20 f_q040 [17,19],
mV 21 0,
uO 22 (.bsl false none 3 (.str []) [(0,(cS [118,111,108,116])),(1,(cS [])),(2,(cS [122]))]),
cL 23 f_q049 [21,22],
mV 24 0,
uO 25 (.bsl false none 4 (.int .i64 0) [(0,(cI 0)),(1,(cI (-100000))),(2,(cI (-100001))),(3,(cI 20))]),
cL 26 f_q042 [24,25],
mV 27 0,
uO 28 (.bsl false none 3 (.int .i64 0) [(0,(cI 10)),(1,(cI 100000)),(2,(cI 100001))]),
cL 29 f_q042 [27,28],
mV 30 0,
cL 31 f_q041 [30,(cI 2),(cI 100)],
uO 32 (.build [.p (.str []),.p (.int .i64 0),.p (.int .i64 0),.p (.int .i64 0)] [(0,1,23),(1,1,26),(2,1,29),(3,1,31)]),
iA 33 (some 4) 16 20,
wO (.store (some 4) 33 32)] [3])
.skip))
q1)))
def a_q03z : AFun:=⟨1,[.t 2],P_q03z p_q03z_k1,false,false⟩
def d_q03z (C : Hd) (gl : GL) (q1 : ACode) (v0 : AV) (h : Heap) (x : Esc) (K : KT) : Prop:=
 pK (oBuild [.p (.str []),.p (.int .i64 0),.p (.int .i64 0),.p (.int .i64 0)] [(0,1,(.p (.str [118,111,108,116]))),(2,1,(AI 10)),(3,1,(AI 5))]) fun t1=>
 wK (oBsl false none 3 (.int .i64 0) [(0,(AI 5)),(1,(AI 6)),(2,(AI 2))] h) fun t2 h3 y4=>
 C f_q042 [v0,t2] h3 fun t5 h6 y7=>
 pK (oBuild [.p (.str []),.p (.int .i64 0),.p (.int .i64 0),.p (.int .i64 0)] [(0,1,(.p (.str [97,109,112]))),(1,1,(AI (-5))),(2,1,(AI 5)),(3,1,t5)]) fun t8=>
 pK (oBuild [.p (.str []),.p (.int .i64 0),.p (.int .i64 0),.p (.int .i64 0)] [(0,1,(.p (.str [104,122]))),(1,1,(AI 3)),(2,1,(AI 8)),(3,1,(AI 9))]) fun t9=>
 wK (oBsl true (some 4) 3 (.agg [.str [],.int .i64 0,.int .i64 0,.int .i64 0]) [(0,t1),(1,t8),(2,t9)] h6) fun t10 h11 y12=>
 C f_q043 [v0,(AI 1),(AI 3)] h11 fun t13 h14 y15=>
 pK (oSlice (some 4) t10 none (some t13) none h14) fun t16=>
 C f_q03y [v0,(AI 15)] h14 fun t17 h18 y19=>
 condB t17 (pK (oLen t16) fun t20=>
 C f_q040 [v0,t20] h18 fun t21 h22 y23=>
 wK (oBsl false none 3 (.str []) [(0,(.p (.str [118,111,108,116]))),(1,(.p (.str []))),(2,(.p (.str [122])))] h22) fun t24 h25 y26=>
 C f_q049 [v0,t24] h25 fun t27 h28 y29=>
 wK (oBsl false none 4 (.int .i64 0) [(0,(AI 0)),(1,(AI (-100000))),(2,(AI (-100001))),(3,(AI 20))] h28) fun t30 h31 y32=>
 C f_q042 [v0,t30] h31 fun t33 h34 y35=>
 wK (oBsl false none 3 (.int .i64 0) [(0,(AI 10)),(1,(AI 100000)),(2,(AI 100001))] h34) fun t36 h37 y38=>
 C f_q042 [v0,t36] h37 fun t39 h40 y41=>
 C f_q041 [v0,(AI 2),(AI 100)] h40 fun t42 h43 y44=>
 pK (oBuild [.p (.str []),.p (.int .i64 0),.p (.int .i64 0),.p (.int .i64 0)] [(0,1,t27),(1,1,t33),(2,1,t39),(3,1,t42)]) fun t45=>
 pK (oIaddr (some 4) t16 t21 h43) fun t46=>
 wK (oStore (some 4) t46 t45 h43) fun t47 h48 y49=>
 NW C gl q1 ⟨[(3,t16)],h48,(y49 ++ (y44 ++ (y41 ++ (y38 ++ (y35 ++ (y32 ++ (y29 ++ (y26 ++ (y23 ++ (y19 ++ (y15 ++ (y12 ++ (y7 ++ (y4 ++ x))))))))))))))⟩ K)
 (NW C gl q1 ⟨[(0,v0),(3,t16),(15,t17)],h18,(y19 ++ (y15 ++ (y12 ++ (y7 ++ (y4 ++ x)))))⟩ K)
theorem E_q03z {C gl q1 v0 h x K} : NW C gl (P_q03z q1) ⟨enter [v0],h,x⟩ K = d_q03z C gl q1 v0 h x K:=by kernel_rfl
theorem e_q03z {C gl v0 h x K} : NW C gl a_q03z.body ⟨enter [v0],h,x⟩ K = d_q03z C gl p_q03z_k1 v0 h x K:=E_q03z
def p_q044_k1 : ACode:=.pr [0,1,7,8,9,11,12,13,14,29,30,31] (.seq (rg [fA 71 3 none 9,
lD 72 none 71,
mV 73 12,
uO 74 (.bsl false none 1 (.int .i64 0) [(0,73)]),
uO 75 (.app none 72 74),
fA 76 3 none 9,
wO (.store none 76 75)] [0,1,7,8,9,11,12,13,14,29,30,31])
(.seq (rg [mV 77 12,
fA 78 1 none 11,
lD 79 none 78,
bN 80 .lss 77 79,
mV 81 80,
gD 82 81 false (.mv 12),
gD 83 81 false (.faddr 2 none 11),
gD 84 81 false (.load none 83),
gD 85 81 false (.bin .gtr 82 84),
uO 86 (.pick 81 cT 85)] [0,1,7,8,9,13,14,29,30,31,86])
(.cond 86 (.exit 2)
.skip)))
def d_q044_k1 (C : Hd) (gl : GL) (v0 v1 v7 v8 v9 v11 v12 v13 v14 v29 v30 v31 : AV) (h : Heap) (x : Esc) (K : KT) : Prop:=
 pK (oFaddr 3 none v9) fun t1=>
 pK (oLoad none t1 h) fun t2=>
 wK (oBsl false none 1 (.int .i64 0) [(0,v12)] h) fun t3 h4 y5=>
 wK (oApp none t2 t3 h4) fun t6 h7 y8=>
 pK (oFaddr 3 none v9) fun t9=>
 wK (oStore none t9 t6 h7) fun t10 h11 y12=>
 pK (oFaddr 1 none v11) fun t13=>
 pK (oLoad none t13 h11) fun t14=>
 pK (oBin .lss v12 t14) fun t15=>
 gM t15 false v12 h11 fun t16 h17 y18=>
 gP t15 false (oFaddr 2 none v11) h17 fun t19 h20 y21=>
 gP t15 false (oLoad none t19 h20) h20 fun t22 h23 y24=>
 gP t15 false (oBin .gtr t16 t22) h23 fun t25 h26 y27=>
 pK (oPick t15 (AB true) t25) fun t28=>
 condB t28 (K (.exit 2) ⟨[(0,v0),(1,v1),(7,v7),(8,v8),(9,v9),(13,v13),(14,v14),(29,v29),(30,v30),(31,v31),(86,t28)],h26,(y27 ++ (y24 ++ (y21 ++ (y18 ++ (y12 ++ (y8 ++ (y5 ++ x)))))))⟩)
 (K .normal ⟨[(0,v0),(1,v1),(7,v7),(8,v8),(9,v9),(13,v13),(14,v14),(29,v29),(30,v30),(31,v31),(86,t28)],h26,(y27 ++ (y24 ++ (y21 ++ (y18 ++ (y12 ++ (y8 ++ (y5 ++ x)))))))⟩)
theorem e_q044_k1 {C gl e h x K} : NW C gl p_q044_k1 ⟨e,h,x⟩ K = d_q044_k1 C gl (aget e 0) (aget e 1) (aget e 7) (aget e 8) (aget e 9) (aget e 11) (aget e 12) (aget e 13) (aget e 14) (aget e 29) (aget e 30) (aget e 31) h x K:=by kernel_rfl
def p_q044_k2 : ACode:=.pr [0,1,7,8,9,13,14,29,30,31] (rg [bN 87 .add 31 (cI 1),
mV 31 87] [0,1,7,8,9,13,14,29,30,31])
def d_q044_k2 (C : Hd) (gl : GL) (v0 v1 v7 v8 v9 v13 v14 v29 v30 v31 : AV) (h : Heap) (x : Esc) (K : KT) : Prop:=
 pK (oBin .add v31 (AI 1)) fun t1=>
 K .normal ⟨[(0,v0),(1,v1),(7,v7),(8,v8),(9,v9),(13,v13),(14,v14),(29,v29),(30,v30),(31,t1)],h,x⟩
theorem e_q044_k2 {C gl e h x K} : NW C gl p_q044_k2 ⟨e,h,x⟩ K = d_q044_k2 C gl (aget e 0) (aget e 1) (aget e 7) (aget e 8) (aget e 9) (aget e 13) (aget e 14) (aget e 29) (aget e 30) (aget e 31) h x K:=by kernel_rfl
def P_q044_k3 (q1 q2 : ACode) : ACode:=.pr [0,1,7,8,9,13,14,29,30,31] (.seq (rg [bN 32 .lss 31 30] [0,1,7,8,9,13,14,29,30,31,32])
(.seq (.cond 32 .skip
(.exit 2))
(.seq (.block 3 (.seq (rg [iA 33 (some 4) 29 31,
lD 34 (some 4) 33,
uO 11 (.alloc [.p (.str []),.p (.int .i64 0),.p (.int .i64 0),.p (.int .i64 0)]),
wO (.store (some 4) 11 34)] [0,1,7,8,9,11,13,14,29,30,31])
(.seq (rg [mV 35 0,
fA 36 1 none 11,
lD 37 none 36,
fA 38 2 none 11,
lD 39 none 38,
fA 40 1 none 11,
lD 41 none 40,
fA 42 2 none 11,
lD 43 none 42,
bN 44 .add 41 43,
bN 45 .quo 44 (cI 2),
fA 46 1 none 11,
lD 47 none 46,
fA 48 2 none 11,
lD 49 none 48,
bN 50 .add 47 49,
bN 51 .quo 50 (cI 2),
fA 52 1 none 11,
lD 53 none 52,
bN 54 .add 53 (cI 1),
uO 55 (.bsl false none 5 (.int .i64 0) [(0,37),(1,39),(2,45),(3,51),(4,54)]),
cL 56 f_q042 [35,55],
mV 12 56] [0,1,7,8,9,11,12,13,14,29,30,31])
(.seq (.seq (rg [mV 57 0,
cL 58 f_q03y [57,(cI 5)]] [0,1,7,8,9,11,12,13,14,29,30,31,58])
(.cond 58 (rg [mV 59 0,
fA 60 1 none 11,
lD 61 none 60,
bN 62 .sub 61 (cI 1),
fA 63 2 none 11,
lD 64 none 63,
bN 65 .add 64 (cI 1),
fA 66 2 none 11,
lD 67 none 66,
bN 68 .add 67 (cI 7),
uO 69 (.bsl false none 3 (.int .i64 0) [(0,62),(1,65),(2,68)]),
cL 70 f_q042 [59,69],
mV 12 70] [0,1,7,8,9,11,12,13,14,29,30,31])
.skip))
q1))))
q2)))
def p_q044_k3 : ACode:=P_q044_k3 p_q044_k1 p_q044_k2
def d_q044_k3 (C : Hd) (gl : GL) (q1 q2 : ACode) (v0 v1 v7 v8 v9 v13 v14 v29 v30 v31 : AV) (h : Heap) (x : Esc) (K : KT) : Prop:=
 pK (oBin .lss v31 v30) fun t1=>
 condB t1 (pK (oIaddr (some 4) v29 v31 h) fun t2=>
 pK (oLoad (some 4) t2 h) fun t3=>
 alK [.p (.str []),.p (.int .i64 0),.p (.int .i64 0),.p (.int .i64 0)] h fun t4 h5 y6=>
 wK (oStore (some 4) t4 t3 h5) fun t7 h8 y9=>
 pK (oFaddr 1 none t4) fun t10=>
 pK (oLoad none t10 h8) fun t11=>
 pK (oFaddr 2 none t4) fun t12=>
 pK (oLoad none t12 h8) fun t13=>
 pK (oFaddr 1 none t4) fun t14=>
 pK (oLoad none t14 h8) fun t15=>
 pK (oFaddr 2 none t4) fun t16=>
 pK (oLoad none t16 h8) fun t17=>
 pK (oBin .add t15 t17) fun t18=>
 pK (oBin .quo t18 (AI 2)) fun t19=>
 pK (oFaddr 1 none t4) fun t20=>
 pK (oLoad none t20 h8) fun t21=>
 pK (oFaddr 2 none t4) fun t22=>
 pK (oLoad none t22 h8) fun t23=>
 pK (oBin .add t21 t23) fun t24=>
 pK (oBin .quo t24 (AI 2)) fun t25=>
 pK (oFaddr 1 none t4) fun t26=>
 pK (oLoad none t26 h8) fun t27=>
 pK (oBin .add t27 (AI 1)) fun t28=>
 wK (oBsl false none 5 (.int .i64 0) [(0,t11),(1,t13),(2,t19),(3,t25),(4,t28)] h8) fun t29 h30 y31=>
 C f_q042 [v0,t29] h30 fun t32 h33 y34=>
 C f_q03y [v0,(AI 5)] h33 fun t35 h36 y37=>
 condB t35 (pK (oFaddr 1 none t4) fun t38=>
 pK (oLoad none t38 h36) fun t39=>
 pK (oBin .sub t39 (AI 1)) fun t40=>
 pK (oFaddr 2 none t4) fun t41=>
 pK (oLoad none t41 h36) fun t42=>
 pK (oBin .add t42 (AI 1)) fun t43=>
 pK (oFaddr 2 none t4) fun t44=>
 pK (oLoad none t44 h36) fun t45=>
 pK (oBin .add t45 (AI 7)) fun t46=>
 wK (oBsl false none 3 (.int .i64 0) [(0,t40),(1,t43),(2,t46)] h36) fun t47 h48 y49=>
 C f_q042 [v0,t47] h48 fun t50 h51 y52=>
 NW C gl q1 ⟨[(0,v0),(1,v1),(7,v7),(8,v8),(9,v9),(11,t4),(12,t50),(13,v13),(14,v14),(29,v29),(30,v30),(31,v31)],h51,(y52 ++ (y49 ++ (y37 ++ (y34 ++ (y31 ++ (y9 ++ (y6 ++ x)))))))⟩ (blockN 3 (seqN C gl q2 K)))
 (NW C gl q1 ⟨[(0,v0),(1,v1),(7,v7),(8,v8),(9,v9),(11,t4),(12,t32),(13,v13),(14,v14),(29,v29),(30,v30),(31,v31),(58,t35)],h36,(y37 ++ (y34 ++ (y31 ++ (y9 ++ (y6 ++ x)))))⟩ (blockN 3 (seqN C gl q2 K))))
 (K (.exit 2) ⟨[(0,v0),(1,v1),(7,v7),(8,v8),(9,v9),(13,v13),(14,v14),(29,v29),(30,v30),(31,v31),(32,t1)],h,x⟩)
theorem E_q044_k3 {C gl q1 q2 e h x K} : NW C gl (P_q044_k3 q1 q2) ⟨e,h,x⟩ K = d_q044_k3 C gl q1 q2 (aget e 0) (aget e 1) (aget e 7) (aget e 8) (aget e 9) (aget e 13) (aget e 14) (aget e 29) (aget e 30) (aget e 31) h x K:=by kernel_rfl
theorem e_q044_k3 {C gl e h x K} : NW C gl p_q044_k3 ⟨e,h,x⟩ K = d_q044_k3 C gl p_q044_k1 p_q044_k2 (aget e 0) (aget e 1) (aget e 7) (aget e 8) (aget e 9) (aget e 13) (aget e 14) (aget e 29) (aget e 30) (aget e 31) h x K:=E_q044_k3
theorem l_q044_k3 {C gl e h x K} : NW C gl (.loop (.scope p_q044_k3)) ⟨e,h,x⟩ K = NLoop C gl (.scope p_q044_k3) K [(0,aget e 0),(1,aget e 1),(7,aget e 7),(8,aget e 8),(9,aget e 9),(13,aget e 13),(14,aget e 14),(29,aget e 29),(30,aget e 30),(31,aget e 31)] h x:=NLoop_sc
def p_q044_k4 : ACode:=.pr [0,1,7,8,9,13,14] (rg [mV 125 7,
lD 126 (some 4) 9,
uO 127 (.bsl false (some 4) 1 (.agg [.str [],.int .i64 0,.str [],.sl none []]) [(0,126)]),
uO 128 (.app (some 4) 125 127),
mV 7 128] [0,1,7,8,13,14])
def d_q044_k4 (C : Hd) (gl : GL) (v0 v1 v7 v8 v9 v13 v14 : AV) (h : Heap) (x : Esc) (K : KT) : Prop:=
 pK (oLoad (some 4) v9 h) fun t1=>
 wK (oBsl false (some 4) 1 (.agg [.str [],.int .i64 0,.str [],.sl none []]) [(0,t1)] h) fun t2 h3 y4=>
 wK (oApp (some 4) v7 t2 h3) fun t5 h6 y7=>
 K .normal ⟨[(0,v0),(1,v1),(7,t5),(8,v8),(13,v13),(14,v14)],h6,(y7 ++ (y4 ++ x))⟩
theorem e_q044_k4 {C gl e h x K} : NW C gl p_q044_k4 ⟨e,h,x⟩ K = d_q044_k4 C gl (aget e 0) (aget e 1) (aget e 7) (aget e 8) (aget e 9) (aget e 13) (aget e 14) h x K:=by kernel_rfl
def P_q044_k5 (q4 : ACode) : ACode:=.pr [0,1,7,8,9,13,14] (.seq (.seq (rg [mV 88 0,
cL 89 f_q03y [88,(cI 60)]] [0,1,7,8,9,13,14,89])
(.cond 89 (.seq (rg [mV 90 0,
cL 91 f_q040 [90,(cI 3)]] [0,1,7,8,9,13,14,91])
(.block 4 (.seq (rg [bN 103 .eql 91 (cI 0),
mV 102 103] [0,1,7,8,9,13,14,91,102])
(.cond 102 (rg [mV 104 0,
uO 105 (.bsl false none 2 (.str []) [(0,(cS [])),(1,(cS [117,49]))]),
cL 106 f_q049 [104,105],
mV 107 0,
uO 108 (.bsl false none 2 (.str []) [(0,(cS [65])),(1,(cS [115,49]))]),
cL 109 f_q049 [107,108],
mV 110 0,
cL 111 f_q041 [110,(cI 0),(cI 50)],
fA 112 0 none 9,
wO (.store none 112 106),
fA 113 2 none 9,
wO (.store none 113 109),
fA 114 1 none 9,
wO (.store none 114 111)] [0,1,7,8,9,13,14])
(.seq (rg [bN 116 .eql 91 (cI 1),
mV 115 116] [0,1,7,8,9,13,14,115])
(.cond 115 (dr [dF (fA 117 3 none 9) [9],
dF (lD 118 none 117) [117],
dF (mV 119 0) [0],
dF (uO 120 (.bsl false none 3 (.int .i64 0) [(0,(cI 0)),(1,(cI 100001)),(2,(cI (-100001)))])) [],
dA (cL 121 f_q042 [119,120]) [119,120] true [] [1],
dF (uO 122 (.bsl false none 1 (.int .i64 0) [(0,121)])) [121],
dT (uO 123 (.app none 118 122)) [118,122],
dF (fA 124 3 none 9) [9],
dT (wO (.store none 124 123)) [124,123]] [0,1,7,8,9,13,14])
(dr [dF (fA 92 3 none 9) [9],
dF (lD 93 none 92) [92],
dF (mV 94 0) [0],
dF (fA 95 3 none 9) [9],
dF (lD 96 none 95) [95],
dF (lN 97 96) [96],
dF (bN 98 .add 97 (cI 1)) [97],
dA (cL 99 f_q040 [94,98]) [94,98] true [] [1],
dF (uO 100 (.slice none 93 none (some 99) none)) [93,99],
dF (fA 101 3 none 9) [9],
dT (wO (.store none 101 100)) [101,100]] [0,1,7,8,9,13,14])))))))
.skip))
q4)
def p_q044_k5 : ACode:=P_q044_k5 p_q044_k4
def d_q044_k5 (C : Hd) (gl : GL) (q4 : ACode) (v0 v1 v7 v8 v9 v13 v14 : AV) (h : Heap) (x : Esc) (K : KT) : Prop:=
 C f_q03y [v0,(AI 60)] h fun t1 h2 y3=>
 condB t1 (C f_q040 [v0,(AI 3)] h2 fun t4 h5 y6=>
 pK (oBin .eql t4 (AI 0)) fun t7=>
 condB t7 (wK (oBsl false none 2 (.str []) [(0,(.p (.str []))),(1,(.p (.str [117,49])))] h5) fun t8 h9 y10=>
 C f_q049 [v0,t8] h9 fun t11 h12 y13=>
 wK (oBsl false none 2 (.str []) [(0,(.p (.str [65]))),(1,(.p (.str [115,49])))] h12) fun t14 h15 y16=>
 C f_q049 [v0,t14] h15 fun t17 h18 y19=>
 C f_q041 [v0,(AI 0),(AI 50)] h18 fun t20 h21 y22=>
 pK (oFaddr 0 none v9) fun t23=>
 wK (oStore none t23 t11 h21) fun t24 h25 y26=>
 pK (oFaddr 2 none v9) fun t27=>
 wK (oStore none t27 t17 h25) fun t28 h29 y30=>
 pK (oFaddr 1 none v9) fun t31=>
 wK (oStore none t31 t20 h29) fun t32 h33 y34=>
 NW C gl q4 ⟨[(0,v0),(1,v1),(7,v7),(8,v8),(9,v9),(13,v13),(14,v14)],h33,(y34 ++ (y30 ++ (y26 ++ (y22 ++ (y19 ++ (y16 ++ (y13 ++ (y10 ++ (y6 ++ (y3 ++ x))))))))))⟩ K)
 (pK (oBin .eql t4 (AI 1)) fun t35=>
 condB t35 (pK (oFaddr 3 none v9) fun t36=>
 pK (oLoad none t36 h5) fun t37=>
 wK (oBsl false none 3 (.int .i64 0) [(0,(AI 0)),(1,(AI 100001)),(2,(AI (-100001)))] h5) fun t38 h39 y40=>
 (h39 = h5 ∧ y40 = []) ∧ (callE C f_q042 [v0,t38] h39 fun t41 h42 y43=>
 (pK (oLoad none t36 h42) fun v=>(fun u (g1 : Heap) (y1 : Esc)=>u = t37 ∧ g1 = h42 ∧ y1 = []) v h42 []) ∧ (wK (oBsl false none 1 (.int .i64 0) [(0,t41)] h42) fun t44 h45 y46=>
 (h45 = h42 ∧ y46 = []) ∧ (wK (oApp none t37 t44 h45) fun t47 h48 y49=>
 pK (oFaddr 3 none v9) fun t50=>
 wK (oStore none t50 t47 h48) fun t51 h52 y53=>
 NW C gl q4 ⟨[(0,v0),(1,v1),(7,v7),(8,v8),(9,v9),(13,v13),(14,v14)],h52,(y53 ++ (y49 ++ (y46 ++ (y43 ++ (y40 ++ (y6 ++ (y3 ++ x)))))))⟩ K))))
 (pK (oFaddr 3 none v9) fun t54=>
 pK (oLoad none t54 h5) fun t55=>
 pK (oFaddr 3 none v9) fun t56=>
 pK (oLoad none t56 h5) fun t57=>
 pK (oLen t57) fun t58=>
 pK (oBin .add t58 (AI 1)) fun t59=>
 callE C f_q040 [v0,t59] h5 fun t60 h61 y62=>
 (pK (oLoad none t54 h61) fun v=>(fun u (g1 : Heap) (y1 : Esc)=>u = t55 ∧ g1 = h61 ∧ y1 = []) v h61 []) ∧ (pK (oSlice none t55 none (some t60) none h61) fun t63=>
 pK (oFaddr 3 none v9) fun t64=>
 wK (oStore none t64 t63 h61) fun t65 h66 y67=>
 NW C gl q4 ⟨[(0,v0),(1,v1),(7,v7),(8,v8),(9,v9),(13,v13),(14,v14)],h66,(y67 ++ (y62 ++ (y6 ++ (y3 ++ x))))⟩ K))))
 (NW C gl q4 ⟨[(0,v0),(1,v1),(7,v7),(8,v8),(9,v9),(13,v13),(14,v14),(89,t1)],h2,(y3 ++ x)⟩ K)
theorem E_q044_k5 {C gl q4 e h x K} : NW C gl (P_q044_k5 q4) ⟨e,h,x⟩ K = d_q044_k5 C gl q4 (aget e 0) (aget e 1) (aget e 7) (aget e 8) (aget e 9) (aget e 13) (aget e 14) h x K:=by kernel_rfl
theorem e_q044_k5 {C gl e h x K} : NW C gl p_q044_k5 ⟨e,h,x⟩ K = d_q044_k5 C gl p_q044_k4 (aget e 0) (aget e 1) (aget e 7) (aget e 8) (aget e 9) (aget e 13) (aget e 14) h x K:=E_q044_k5
def p_q044_k6 : ACode:=.pr [0,1,7,8,13,14] (rg [bN 129 .add 14 (cI 1),
mV 14 129] [0,1,7,8,13,14])
def d_q044_k6 (C : Hd) (gl : GL) (v0 v1 v7 v8 v13 v14 : AV) (h : Heap) (x : Esc) (K : KT) : Prop:=
 pK (oBin .add v14 (AI 1)) fun t1=>
 K .normal ⟨[(0,v0),(1,v1),(7,v7),(8,v8),(13,v13),(14,t1)],h,x⟩
theorem e_q044_k6 {C gl e h x K} : NW C gl p_q044_k6 ⟨e,h,x⟩ K = d_q044_k6 C gl (aget e 0) (aget e 1) (aget e 7) (aget e 8) (aget e 13) (aget e 14) h x K:=by kernel_rfl
def P_q044_k7 (q3 q5 q6 : ACode) : ACode:=.pr [0,1,7,8,13,14] (.seq (rg [bN 15 .lss 14 13] [0,1,7,8,13,14,15])
(.seq (.cond 15 .skip
(.exit 0))
(.seq (.block 1 (.seq (rg [mV 16 8,
mV 17 0,
uO 18 (.bsl false none 4 (.int .i64 0) [(0,(cI 1)),(1,(cI 1)),(2,(cI 5)),(3,(cI 0))]),
cL 19 f_q042 [17,18],
bN 20 .add 16 19,
mV 8 20] [0,1,7,8,13,14])
(.seq (rg [mV 21 0,
uO 22 (.bsl false none 4 (.str []) [(0,(cS [117,49])),(1,(cS [117,50])),(2,(cS [117,51])),(3,(cS [117,52]))]),
cL 23 f_q049 [21,22],
mV 24 8,
mV 25 0,
uO 26 (.bsl false none 3 (.str []) [(0,(cS [115,49])),(1,(cS [115,49])),(2,(cS [115,50]))]),
cL 27 f_q049 [25,26],
uO 28 (.build [.p (.str []),.p (.int .i64 0),.p (.str []),.sl0 none] [(0,1,23),(1,1,24),(2,1,27)]),
uO 9 (.alloc [.p (.str []),.p (.int .i64 0),.p (.str []),.sl0 none]),
wO (.store (some 4) 9 28)] [0,1,7,8,9,13,14])
(.seq (.seq (rg [mV 29 1,
lN 30 29,
mV 31 (cI 0)] [0,1,7,8,9,13,14,29,30,31])
(.block 2 (.loop (.scope q3))))
q5))))
q6)))
def p_q044_k7 : ACode:=P_q044_k7 p_q044_k3 p_q044_k5 p_q044_k6
def d_q044_k7 (C : Hd) (gl : GL) (q3 q5 q6 : ACode) (v0 v1 v7 v8 v13 v14 : AV) (h : Heap) (x : Esc) (K : KT) : Prop:=
 pK (oBin .lss v14 v13) fun t1=>
 condB t1 (wK (oBsl false none 4 (.int .i64 0) [(0,(AI 1)),(1,(AI 1)),(2,(AI 5)),(3,(AI 0))] h) fun t2 h3 y4=>
 C f_q042 [v0,t2] h3 fun t5 h6 y7=>
 pK (oBin .add v8 t5) fun t8=>
 wK (oBsl false none 4 (.str []) [(0,(.p (.str [117,49]))),(1,(.p (.str [117,50]))),(2,(.p (.str [117,51]))),(3,(.p (.str [117,52])))] h6) fun t9 h10 y11=>
 C f_q049 [v0,t9] h10 fun t12 h13 y14=>
 wK (oBsl false none 3 (.str []) [(0,(.p (.str [115,49]))),(1,(.p (.str [115,49]))),(2,(.p (.str [115,50])))] h13) fun t15 h16 y17=>
 C f_q049 [v0,t15] h16 fun t18 h19 y20=>
 pK (oBuild [.p (.str []),.p (.int .i64 0),.p (.str []),.sl0 none] [(0,1,t12),(1,1,t8),(2,1,t18)]) fun t21=>
 alK [.p (.str []),.p (.int .i64 0),.p (.str []),.sl0 none] h19 fun t22 h23 y24=>
 wK (oStore (some 4) t22 t21 h23) fun t25 h26 y27=>
 pK (oLen v1) fun t28=>
 NW C gl (.loop (.scope q3)) ⟨[(0,v0),(1,v1),(7,v7),(8,t8),(9,t22),(13,v13),(14,v14),(29,v1),(30,t28),(31,(AI 0))],h26,(y27 ++ (y24 ++ (y20 ++ (y17 ++ (y14 ++ (y11 ++ (y7 ++ (y4 ++ x))))))))⟩ (blockN 2 (seqN C gl q5 (blockN 1 (seqN C gl q6 K)))))
 (K (.exit 0) ⟨[(0,v0),(1,v1),(7,v7),(8,v8),(13,v13),(14,v14),(15,t1)],h,x⟩)
theorem E_q044_k7 {C gl q3 q5 q6 e h x K} : NW C gl (P_q044_k7 q3 q5 q6) ⟨e,h,x⟩ K = d_q044_k7 C gl q3 q5 q6 (aget e 0) (aget e 1) (aget e 7) (aget e 8) (aget e 13) (aget e 14) h x K:=by kernel_rfl
theorem e_q044_k7 {C gl e h x K} : NW C gl p_q044_k7 ⟨e,h,x⟩ K = d_q044_k7 C gl p_q044_k3 p_q044_k5 p_q044_k6 (aget e 0) (aget e 1) (aget e 7) (aget e 8) (aget e 13) (aget e 14) h x K:=E_q044_k7
theorem l_q044_k7 {C gl e h x K} : NW C gl (.loop (.scope p_q044_k7)) ⟨e,h,x⟩ K = NLoop C gl (.scope p_q044_k7) K [(0,aget e 0),(1,aget e 1),(7,aget e 7),(8,aget e 8),(13,aget e 13),(14,aget e 14)] h x:=NLoop_sc
def p_q044_k8 : ACode:=.pr [7] (.seq (rg [mV 130 7,
cL 131 f_q05s [130,(.f f_q045)]] [7])
(.seq (rg [mV 132 7,
cL 133 f_q053 [132,(.f f_q046)],
mV 6 133] [6])
.ret))
def d_q044_k8 (C : Hd) (gl : GL) (v7 : AV) (h : Heap) (x : Esc) (K : KT) : Prop:=
 C f_q05s [v7,(.fn f_q045 [])] h fun t1 h2 y3=>
 C f_q053 [v7,(.fn f_q046 [])] h2 fun t4 h5 y6=>
 K .ret ⟨[(6,t4)],h5,(y6 ++ (y3 ++ x))⟩
theorem e_q044_k8 {C gl e h x K} : NW C gl p_q044_k8 ⟨e,h,x⟩ K = d_q044_k8 C gl (aget e 7) h x K:=by kernel_rfl
def P_q044 (q7 q8 : ACode) : ACode:=(.seq (rg [mV 6 (.c (.p (.sl (some 4) [])))] [0,1,2])
(.seq (rg [uO 7 (.new0 (some 4))] [0,1,2,7])
(.seq (rg [mV 8 (cI 0)] [0,1,2,7,8])
(.seq (.seq (rg [mV 13 2,
mV 14 (cI 0)] [0,1,7,8,13,14])
(.block 0 (.loop (.scope q7))))
q8))))
def a_q044 : AFun:=⟨3,[.t 6],P_q044 p_q044_k7 p_q044_k8,false,false⟩
def d_q044 (C : Hd) (gl : GL) (q7 q8 : ACode) (v0 v1 v2 : AV) (h : Heap) (x : Esc) (K : KT) : Prop:=
 nwK (some 4) h fun t1 h2 y3=>
 NW C gl (.loop (.scope q7)) ⟨[(0,v0),(1,v1),(7,t1),(8,(AI 0)),(13,v2),(14,(AI 0))],h2,(y3 ++ x)⟩ (blockN 0 (seqN C gl q8 K))
theorem E_q044 {C gl q7 q8 v0 v1 v2 h x K} : NW C gl (P_q044 q7 q8) ⟨enter [v0,v1,v2],h,x⟩ K = d_q044 C gl q7 q8 v0 v1 v2 h x K:=by kernel_rfl
theorem e_q044 {C gl v0 v1 v2 h x K} : NW C gl a_q044.body ⟨enter [v0,v1,v2],h,x⟩ K = d_q044 C gl p_q044_k7 p_q044_k8 v0 v1 v2 h x K:=E_q044
def P_q043 : ACode:=(.seq (rg [mV 6 (cI 0)] [0,1,2])
(.seq (.seq (rg [mV 7 2,
mV 8 1,
bN 9 .lss 7 8] [0,1,2,9])
(.cond 9 (.seq (rg [mV 10 1,
mV 6 10] [6])
.ret)
.skip))
(.seq (rg [mV 11 1,
mV 12 0,
mV 13 2,
mV 14 1,
bN 15 .sub 13 14,
bN 16 .add 15 (cI 1),
cL 17 f_q040 [12,16],
bN 18 .add 11 17,
mV 6 18] [6])
.ret)))
def a_q043 : AFun:=⟨3,[.t 6],P_q043,false,false⟩
def d_q043 (C : Hd) (gl : GL) (v0 v1 v2 : AV) (h : Heap) (x : Esc) (K : KT) : Prop:=
 pK (oBin .lss v2 v1) fun t1=>
 condB t1 (K .ret ⟨[(6,v1)],h,x⟩)
 (pK (oBin .sub v2 v1) fun t2=>
 pK (oBin .add t2 (AI 1)) fun t3=>
 C f_q040 [v0,t3] h fun t4 h5 y6=>
 pK (oBin .add v1 t4) fun t7=>
 K .ret ⟨[(6,t7)],h5,(y6 ++ x)⟩)
theorem e_q043 {C gl v0 v1 v2 h x K} : NW C gl a_q043.body ⟨enter [v0,v1,v2],h,x⟩ K = d_q043 C gl v0 v1 v2 h x K:=by kernel_rfl
def P_q041 : ACode:=(.seq (rg [mV 6 (cI 0)] [0,1,2])
(.seq (.seq (rg [mV 7 0,
cL 8 f_q03y [7,(cI 12)]] [0,1,2,8])
(.cond 8 (.seq (rg [mV 9 0,
mV 10 1,
bN 11 .sub 10 (cI 1),
mV 12 2,
bN 13 .add 12 (cI 1),
mV 14 1,
mV 15 2,
uO 16 (.bsl false none 6 (.int .i64 0) [(0,11),(1,13),(2,14),(3,15),(4,(cI (-1099511627776))),(5,(cI 1099511627776))]),
cL 17 f_q042 [9,16],
mV 6 17] [6])
.ret)
.skip))
(.seq (rg [mV 18 0,
mV 19 1,
mV 20 2,
cL 21 f_q043 [18,19,20],
mV 6 21] [6])
.ret)))
def a_q041 : AFun:=⟨3,[.t 6],P_q041,false,false⟩
def d_q041 (C : Hd) (gl : GL) (v0 v1 v2 : AV) (h : Heap) (x : Esc) (K : KT) : Prop:=
 C f_q03y [v0,(AI 12)] h fun t1 h2 y3=>
 condB t1 (pK (oBin .sub v1 (AI 1)) fun t4=>
 pK (oBin .add v2 (AI 1)) fun t5=>
 wK (oBsl false none 6 (.int .i64 0) [(0,t4),(1,t5),(2,v1),(3,v2),(4,(AI (-1099511627776))),(5,(AI 1099511627776))] h2) fun t6 h7 y8=>
 C f_q042 [v0,t6] h7 fun t9 h10 y11=>
 K .ret ⟨[(6,t9)],h10,(y11 ++ (y8 ++ (y3 ++ x)))⟩)
 (C f_q043 [v0,v1,v2] h2 fun t12 h13 y14=>
 K .ret ⟨[(6,t12)],h13,(y14 ++ (y3 ++ x))⟩)
theorem e_q041 {C gl v0 v1 v2 h x K} : NW C gl a_q041.body ⟨enter [v0,v1,v2],h,x⟩ K = d_q041 C gl v0 v1 v2 h x K:=by kernel_rfl
def p_q024_k1 : ACode:=.pr [0,9,22,23,24] (.seq (rg [bN 25 .lss 24 23] [0,9,22,23,24,25])
(.seq (.cond 25 .skip
(.exit 0))
(.seq (.block 1 (.seq (rg [iA 26 (some 4) 22 24,
lD 27 (some 4) 26,
uO 11 (.alloc [.p (.str []),.p (.int .i64 0),.p (.str []),.sl0 none]),
wO (.store (some 4) 11 27)] [0,9,11,22,23,24])
(dr [dF (mV 28 9) [9],
dF (fA 29 0 none 11) [11],
dF (lD 30 none 29) [29],
dF (mV 31 0) [0],
dF (lD 32 (some 4) 11) [11],
dA (cL 33 f_q02h [31,32]) [31,32] true [] [2],
dT (cL 34 f_q02w [30,33]) [30,33],
dF (uO 35 (.bsl false (some 2) 1 (.agg [.str [],.str []]) [(0,34)])) [34],
dT (uO 36 (.app (some 2) 28 35)) [28,35],
dF (mV 9 36) [36]] [0,9,22,23,24])))
(rg [bN 37 .add 24 (cI 1),
mV 24 37] [0,9,22,23,24]))))
def d_q024_k1 (C : Hd) (gl : GL) (v0 v9 v22 v23 v24 : AV) (h : Heap) (x : Esc) (K : KT) : Prop:=
 pK (oBin .lss v24 v23) fun t1=>
 condB t1 (pK (oIaddr (some 4) v22 v24 h) fun t2=>
 pK (oLoad (some 4) t2 h) fun t3=>
 alK [.p (.str []),.p (.int .i64 0),.p (.str []),.sl0 none] h fun t4 h5 y6=>
 wK (oStore (some 4) t4 t3 h5) fun t7 h8 y9=>
 pK (oFaddr 0 none t4) fun t10=>
 pK (oLoad none t10 h8) fun t11=>
 pK (oLoad (some 4) t4 h8) fun t12=>
 callE C f_q02h [v0,t12] h8 fun t13 h14 y15=>
 (pK (oLoad none t10 h14) fun v=>(fun u (g1 : Heap) (y1 : Esc)=>u = t11 ∧ g1 = h14 ∧ y1 = []) v h14 []) ∧ (callE C f_q02w [t11,t13] h14 fun t16 h17 y18=>
 wK (oBsl false (some 2) 1 (.agg [.str [],.str []]) [(0,t16)] h17) fun t19 h20 y21=>
 (h20 = h17 ∧ y21 = []) ∧ (wK (oApp (some 2) v9 t19 h20) fun t22 h23 y24=>
 pK (oBin .add v24 (AI 1)) fun t25=>
 K .normal ⟨[(0,v0),(9,t22),(22,v22),(23,v23),(24,t25)],h23,(y24 ++ (y21 ++ (y18 ++ (y15 ++ (y9 ++ (y6 ++ x))))))⟩)))
 (K (.exit 0) ⟨[(0,v0),(9,v9),(22,v22),(23,v23),(24,v24),(25,t1)],h,x⟩)
theorem e_q024_k1 {C gl e h x K} : NW C gl p_q024_k1 ⟨e,h,x⟩ K = d_q024_k1 C gl (aget e 0) (aget e 9) (aget e 22) (aget e 23) (aget e 24) h x K:=by kernel_rfl
theorem l_q024_k1 {C gl e h x K} : NW C gl (.loop (.scope p_q024_k1)) ⟨e,h,x⟩ K = NLoop C gl (.scope p_q024_k1) K [(0,aget e 0),(9,aget e 9),(22,aget e 22),(23,aget e 23),(24,aget e 24)] h x:=NLoop_sc
def p_q024_k2 : ACode:=.pr [9] (.seq (rg [mV 38 9,
mV 6 38,
mV 7 (cI 0)] [6,7])
.ret)
def d_q024_k2 (C : Hd) (gl : GL) (v9 : AV) (h : Heap) (x : Esc) (K : KT) : Prop:=
 K .ret ⟨[(6,v9),(7,(AI 0))],h,x⟩
theorem e_q024_k2 {C gl e h x K} : NW C gl p_q024_k2 ⟨e,h,x⟩ K = d_q024_k2 C gl (aget e 9) h x K:=by kernel_rfl
def P_q024 (q1 q2 : ACode) : ACode:=(.seq (rg [mV 6 (.c (.p (.sl (some 2) []))),
mV 7 (cI 0)] [0,1,2])
(.seq (.seq (rg [mV 12 0,
mV 13 1,
mV 14 2,
cL 15 f_q030 [12,13,14],
mV 8 15] [0,1,2,8])
(.seq (rg [mV 16 8,
bN 17 .neq 16 (cI 0)] [0,1,2,8,17])
(.cond 17 (.seq (rg [mV 18 8,
mV 6 (.c (.p (.sl (some 2) []))),
mV 7 18] [6,7])
.ret)
.skip)))
(.seq (rg [uO 9 (.new0 (some 2))] [0,1,2,9])
(.seq (.seq (rg [mV 19 0,
mV 20 1,
mV 21 2,
cL 22 f_q02p [19,20,21],
lN 23 22,
mV 24 (cI 0)] [0,9,22,23,24])
(.block 0 (.loop (.scope q1))))
q2))))
def a_q024 : AFun:=⟨3,[.t 6,.t 7],P_q024 p_q024_k1 p_q024_k2,false,false⟩
def d_q024 (C : Hd) (gl : GL) (q1 q2 : ACode) (v0 v1 v2 : AV) (h : Heap) (x : Esc) (K : KT) : Prop:=
 C f_q030 [v0,v1,v2] h fun t1 h2 y3=>
 pK (oBin .neq t1 (AI 0)) fun t4=>
 condB t4 (K .ret ⟨[(6,(.p (.sl (some 2) []))),(7,t1)],h2,(y3 ++ x)⟩)
 (nwK (some 2) h2 fun t5 h6 y7=>
 C f_q02p [v0,v1,v2] h6 fun t8 h9 y10=>
 pK (oLen t8) fun t11=>
 NW C gl (.loop (.scope q1)) ⟨[(0,v0),(9,t5),(22,t8),(23,t11),(24,(AI 0))],h9,(y10 ++ (y7 ++ (y3 ++ x)))⟩ (blockN 0 (seqN C gl q2 K)))
theorem E_q024 {C gl q1 q2 v0 v1 v2 h x K} : NW C gl (P_q024 q1 q2) ⟨enter [v0,v1,v2],h,x⟩ K = d_q024 C gl q1 q2 v0 v1 v2 h x K:=by kernel_rfl
theorem e_q024 {C gl v0 v1 v2 h x K} : NW C gl a_q024.body ⟨enter [v0,v1,v2],h,x⟩ K = d_q024 C gl p_q024_k1 p_q024_k2 v0 v1 v2 h x K:=E_q024
def p_q02g_k1 : ACode:=.pr [0,6,9,10,32,33,34] (rg [bN 44 .add 34 (cI 1),
mV 34 44] [0,6,9,10,32,33,34])
def d_q02g_k1 (C : Hd) (gl : GL) (v0 v6 v9 v10 v32 v33 v34 : AV) (h : Heap) (x : Esc) (K : KT) : Prop:=
 pK (oBin .add v34 (AI 1)) fun t1=>
 K .normal ⟨[(0,v0),(6,v6),(9,v9),(10,v10),(32,v32),(33,v33),(34,t1)],h,x⟩
theorem e_q02g_k1 {C gl e h x K} : NW C gl p_q02g_k1 ⟨e,h,x⟩ K = d_q02g_k1 C gl (aget e 0) (aget e 6) (aget e 9) (aget e 10) (aget e 32) (aget e 33) (aget e 34) h x K:=by kernel_rfl
def P_q02g_k2 (q1 : ACode) : ACode:=.pr [0,6,9,10,32,33,34] (.seq (rg [bN 35 .lss 34 33] [0,6,9,10,32,33,34,35])
(.seq (.cond 35 .skip
(.exit 0))
(.seq (.block 1 (.seq (rg [iA 36 (some 4) 32 34,
lD 37 (some 4) 36,
uO 12 (.alloc [.p (.str []),.p (.int .i64 0),.p (.str []),.sl0 none]),
wO (.store (some 4) 12 37)] [0,6,9,10,12,32,33,34])
(.seq (rg [mV 38 0,
lD 39 (some 4) 12,
cL 40 f_q02o [38,39],
bN 41 .lss 40 (cI 0)] [0,6,9,10,32,33,34,41])
(.cond 41 (rg [mV 42 9,
bN 43 .add 42 (cI 1),
mV 9 43] [0,6,9,10,32,33,34])
.skip))))
q1)))
def p_q02g_k2 : ACode:=P_q02g_k2 p_q02g_k1
def d_q02g_k2 (C : Hd) (gl : GL) (q1 : ACode) (v0 v6 v9 v10 v32 v33 v34 : AV) (h : Heap) (x : Esc) (K : KT) : Prop:=
 pK (oBin .lss v34 v33) fun t1=>
 condB t1 (pK (oIaddr (some 4) v32 v34 h) fun t2=>
 pK (oLoad (some 4) t2 h) fun t3=>
 alK [.p (.str []),.p (.int .i64 0),.p (.str []),.sl0 none] h fun t4 h5 y6=>
 wK (oStore (some 4) t4 t3 h5) fun t7 h8 y9=>
 pK (oLoad (some 4) t4 h8) fun t10=>
 C f_q02o [v0,t10] h8 fun t11 h12 y13=>
 pK (oBin .lss t11 (AI 0)) fun t14=>
 condB t14 (pK (oBin .add v9 (AI 1)) fun t15=>
 NW C gl q1 ⟨[(0,v0),(6,v6),(9,t15),(10,v10),(32,v32),(33,v33),(34,v34)],h12,(y13 ++ (y9 ++ (y6 ++ x)))⟩ K)
 (NW C gl q1 ⟨[(0,v0),(6,v6),(9,v9),(10,v10),(32,v32),(33,v33),(34,v34),(41,t14)],h12,(y13 ++ (y9 ++ (y6 ++ x)))⟩ K))
 (K (.exit 0) ⟨[(0,v0),(6,v6),(9,v9),(10,v10),(32,v32),(33,v33),(34,v34),(35,t1)],h,x⟩)
theorem E_q02g_k2 {C gl q1 e h x K} : NW C gl (P_q02g_k2 q1) ⟨e,h,x⟩ K = d_q02g_k2 C gl q1 (aget e 0) (aget e 6) (aget e 9) (aget e 10) (aget e 32) (aget e 33) (aget e 34) h x K:=by kernel_rfl
theorem e_q02g_k2 {C gl e h x K} : NW C gl p_q02g_k2 ⟨e,h,x⟩ K = d_q02g_k2 C gl p_q02g_k1 (aget e 0) (aget e 6) (aget e 9) (aget e 10) (aget e 32) (aget e 33) (aget e 34) h x K:=E_q02g_k2
theorem l_q02g_k2 {C gl e h x K} : NW C gl (.loop (.scope p_q02g_k2)) ⟨e,h,x⟩ K = NLoop C gl (.scope p_q02g_k2) K [(0,aget e 0),(6,aget e 6),(9,aget e 9),(10,aget e 10),(32,aget e 32),(33,aget e 33),(34,aget e 34)] h x:=NLoop_sc
def p_q02g_k3 : ACode:=.pr [6,9,10] (.seq (rg [mV 45 9,
mV 46 10,
lN 47 46,
cL 48 f_q004 [45,47],
wO (.store (some 2) 6 48),
mV 7 (cI 0)] [6,7])
.ret)
def d_q02g_k3 (C : Hd) (gl : GL) (v6 v9 v10 : AV) (h : Heap) (x : Esc) (K : KT) : Prop:=
 pK (oLen v10) fun t1=>
 C f_q004 [v9,t1] h fun t2 h3 y4=>
 wK (oStore (some 2) v6 t2 h3) fun t5 h6 y7=>
 K .ret ⟨[(6,v6),(7,(AI 0))],h6,(y7 ++ (y4 ++ x))⟩
theorem e_q02g_k3 {C gl e h x K} : NW C gl p_q02g_k3 ⟨e,h,x⟩ K = d_q02g_k3 C gl (aget e 6) (aget e 9) (aget e 10) h x K:=by kernel_rfl
def P_q02g_k4 (q2 q3 : ACode) : ACode:=.pr [0,1,2,6,8] (.seq (.seq (rg [mV 24 8,
bN 25 .neq 24 (cI 0)] [0,1,2,6,8,25])
(.cond 25 (.seq (rg [uO 26 (.build [.p (.int .i64 0),.p (.int .i64 0)] []),
mV 27 8,
wO (.store (some 2) 6 26),
mV 7 27] [6,7])
.ret)
.skip))
(.seq (rg [mV 9 (cI 0)] [0,1,2,6,9])
(.seq (rg [mV 28 0,
mV 29 1,
mV 30 2,
cL 31 f_q02p [28,29,30],
mV 10 31] [0,6,9,10])
(.seq (.seq (rg [mV 32 10,
lN 33 32,
mV 34 (cI 0)] [0,6,9,10,32,33,34])
(.block 0 (.loop (.scope q2))))
q3))))
def p_q02g_k4 : ACode:=P_q02g_k4 p_q02g_k2 p_q02g_k3
def d_q02g_k4 (C : Hd) (gl : GL) (q2 q3 : ACode) (v0 v1 v2 v6 v8 : AV) (h : Heap) (x : Esc) (K : KT) : Prop:=
 pK (oBin .neq v8 (AI 0)) fun t1=>
 condB t1 (pK (oBuild [.p (.int .i64 0),.p (.int .i64 0)] []) fun t2=>
 wK (oStore (some 2) v6 t2 h) fun t3 h4 y5=>
 K .ret ⟨[(6,v6),(7,v8)],h4,(y5 ++ x)⟩)
 (C f_q02p [v0,v1,v2] h fun t6 h7 y8=>
 pK (oLen t6) fun t9=>
 NW C gl (.loop (.scope q2)) ⟨[(0,v0),(6,v6),(9,(AI 0)),(10,t6),(32,t6),(33,t9),(34,(AI 0))],h7,(y8 ++ x)⟩ (blockN 0 (seqN C gl q3 K)))
theorem E_q02g_k4 {C gl q2 q3 e h x K} : NW C gl (P_q02g_k4 q2 q3) ⟨e,h,x⟩ K = d_q02g_k4 C gl q2 q3 (aget e 0) (aget e 1) (aget e 2) (aget e 6) (aget e 8) h x K:=by kernel_rfl
theorem e_q02g_k4 {C gl e h x K} : NW C gl p_q02g_k4 ⟨e,h,x⟩ K = d_q02g_k4 C gl p_q02g_k2 p_q02g_k3 (aget e 0) (aget e 1) (aget e 2) (aget e 6) (aget e 8) h x K:=E_q02g_k4
def P_q02g (q4 : ACode) : ACode:=(.seq (rg [uO 6 (.alloc [.p (.int .i64 0),.p (.int .i64 0)]),
mV 7 (cI 0)] [0,1,2,6])
(.seq (rg [mV 13 0,
mV 14 1,
mV 15 2,
cL 16 f_q030 [13,14,15],
mV 8 16] [0,1,2,6,8])
(.seq (.seq (rg [mV 17 8,
bN 18 .eql 17 (cI 0),
mV 19 18,
gD 20 19 true (.mv 1),
gD 21 19 true (.len 20),
gD 22 19 true (.bin .eql 21 (cI 0)),
uO 23 (.pick 19 22 cF)] [0,1,2,6,8,23])
(.cond 23 (rg [mV 8 (cI 8)] [0,1,2,6,8])
.skip))
q4)))
def a_q02g : AFun:=⟨3,[.cell 6 (some 2),.t 7],P_q02g p_q02g_k4,false,false⟩
def d_q02g (C : Hd) (gl : GL) (q4 : ACode) (v0 v1 v2 : AV) (h : Heap) (x : Esc) (K : KT) : Prop:=
 alK [.p (.int .i64 0),.p (.int .i64 0)] h fun t1 h2 y3=>
 C f_q030 [v0,v1,v2] h2 fun t4 h5 y6=>
 pK (oBin .eql t4 (AI 0)) fun t7=>
 gM t7 true v1 h5 fun t8 h9 y10=>
 gP t7 true (oLen t8) h9 fun t11 h12 y13=>
 gP t7 true (oBin .eql t11 (AI 0)) h12 fun t14 h15 y16=>
 pK (oPick t7 t14 (AB false)) fun t17=>
 condB t17 (NW C gl q4 ⟨[(0,v0),(1,v1),(2,v2),(6,t1),(8,(AI 8))],h15,(y16 ++ (y13 ++ (y10 ++ (y6 ++ (y3 ++ x)))))⟩ K)
 (NW C gl q4 ⟨[(0,v0),(1,v1),(2,v2),(6,t1),(8,t4),(23,t17)],h15,(y16 ++ (y13 ++ (y10 ++ (y6 ++ (y3 ++ x)))))⟩ K)
theorem E_q02g {C gl q4 v0 v1 v2 h x K} : NW C gl (P_q02g q4) ⟨enter [v0,v1,v2],h,x⟩ K = d_q02g C gl q4 v0 v1 v2 h x K:=by kernel_rfl
theorem e_q02g {C gl v0 v1 v2 h x K} : NW C gl a_q02g.body ⟨enter [v0,v1,v2],h,x⟩ K = d_q02g C gl p_q02g_k4 v0 v1 v2 h x K:=E_q02g
def P_q025 : ACode:=(.seq (rg [uO 4 (.alloc [.p (.int .i64 0),.p (.int .i64 0)]),
mV 5 (cI 0)] [0,1,4])
(.seq (rg [mV 6 0,
mV 7 1,
cL 8 f_q02g [6,7,(cI 1)],
eX 9 8 0,
eX 10 8 1,
wO (.store (some 2) 4 9),
mV 5 10] [4,5])
.ret))
def a_q025 : AFun:=⟨2,[.cell 4 (some 2),.t 5],P_q025,false,false⟩
def d_q025 (C : Hd) (gl : GL) (v0 v1 : AV) (h : Heap) (x : Esc) (K : KT) : Prop:=
 alK [.p (.int .i64 0),.p (.int .i64 0)] h fun t1 h2 y3=>
 C f_q02g [v0,v1,(AI 1)] h2 fun t4 h5 y6=>
 pK (oExt t4 0) fun t7=>
 pK (oExt t4 1) fun t8=>
 wK (oStore (some 2) t1 t7 h5) fun t9 h10 y11=>
 K .ret ⟨[(4,t1),(5,t8)],h10,(y11 ++ (y6 ++ (y3 ++ x)))⟩
theorem e_q025 {C gl v0 v1 h x K} : NW C gl a_q025.body ⟨enter [v0,v1],h,x⟩ K = d_q025 C gl v0 v1 h x K:=by kernel_rfl
def p_q02c_k1 : ACode:=.pr [0,1,4,7,8,9,10,30,31,34,35,36] (rg [bN 59 .add 36 (cI 1),
mV 36 59] [0,1,4,7,8,9,10,30,31,34,35,36])
def d_q02c_k1 (C : Hd) (gl : GL) (v0 v1 v4 v7 v8 v9 v10 v30 v31 v34 v35 v36 : AV) (h : Heap) (x : Esc) (K : KT) : Prop:=
 pK (oBin .add v36 (AI 1)) fun t1=>
 K .normal ⟨[(0,v0),(1,v1),(4,v4),(7,v7),(8,v8),(9,v9),(10,v10),(30,v30),(31,v31),(34,v34),(35,v35),(36,t1)],h,x⟩
theorem e_q02c_k1 {C gl e h x K} : NW C gl p_q02c_k1 ⟨e,h,x⟩ K = d_q02c_k1 C gl (aget e 0) (aget e 1) (aget e 4) (aget e 7) (aget e 8) (aget e 9) (aget e 10) (aget e 30) (aget e 31) (aget e 34) (aget e 35) (aget e 36) h x K:=by kernel_rfl
def P_q02c_k2 (q1 : ACode) : ACode:=.pr [0,1,4,7,8,9,10,30,31,34,35,36] (.seq (rg [bN 37 .lss 36 35] [0,1,4,7,8,9,10,30,31,34,35,36,37])
(.seq (.cond 37 .skip
(.exit 2))
(.seq (.block 3 (.seq (rg [iA 38 (some 4) 34 36,
lD 39 (some 4) 38,
uO 12 (.alloc [.p (.str []),.p (.int .i64 0),.p (.str []),.sl0 none]),
wO (.store (some 4) 12 39)] [0,1,4,7,8,9,10,12,30,31,34,35,36])
(.seq (rg [mV 40 8,
fA 41 3 none 12,
lD 42 none 41,
lN 43 42,
bN 44 .lss 40 43] [0,1,4,7,8,9,10,12,30,31,34,35,36,44])
(.cond 44 (.seq (rg [mV 45 10,
bN 46 .add 45 (cI 1),
mV 10 46] [0,1,4,7,8,9,10,12,30,31,34,35,36])
(.seq (dr [dF (mV 47 0) [0],
dF (mV 48 8) [8],
dF (iA 49 (some 4) 47 48) [47,48],
dF (lD 50 (some 4) 49) [49],
dF (fA 51 3 none 12) [12],
dF (lD 52 none 51) [51],
dF (mV 53 8) [8],
dF (iA 54 none 52 53) [52,53],
dF (lD 55 none 54) [54],
dT (cL 56 f_q02t [50,55]) [50,55]] [0,1,4,7,8,9,10,30,31,34,35,36,56])
(.cond 56 (rg [mV 57 9,
bN 58 .add 57 (cI 1),
mV 9 58] [0,1,4,7,8,9,10,30,31,34,35,36])
.skip)))
.skip))))
q1)))
def p_q02c_k2 : ACode:=P_q02c_k2 p_q02c_k1
def d_q02c_k2 (C : Hd) (gl : GL) (q1 : ACode) (v0 v1 v4 v7 v8 v9 v10 v30 v31 v34 v35 v36 : AV) (h : Heap) (x : Esc) (K : KT) : Prop:=
 pK (oBin .lss v36 v35) fun t1=>
 condB t1 (pK (oIaddr (some 4) v34 v36 h) fun t2=>
 pK (oLoad (some 4) t2 h) fun t3=>
 alK [.p (.str []),.p (.int .i64 0),.p (.str []),.sl0 none] h fun t4 h5 y6=>
 wK (oStore (some 4) t4 t3 h5) fun t7 h8 y9=>
 pK (oFaddr 3 none t4) fun t10=>
 pK (oLoad none t10 h8) fun t11=>
 pK (oLen t11) fun t12=>
 pK (oBin .lss v8 t12) fun t13=>
 condB t13 (pK (oBin .add v10 (AI 1)) fun t14=>
 pK (oIaddr (some 4) v0 v8 h8) fun t15=>
 pK (oLoad (some 4) t15 h8) fun t16=>
 pK (oFaddr 3 none t4) fun t17=>
 pK (oLoad none t17 h8) fun t18=>
 pK (oIaddr none t18 v8 h8) fun t19=>
 pK (oLoad none t19 h8) fun t20=>
 callE C f_q02t [t16,t20] h8 fun t21 h22 y23=>
 condB t21 (pK (oBin .add v9 (AI 1)) fun t24=>
 NW C gl q1 ⟨[(0,v0),(1,v1),(4,v4),(7,v7),(8,v8),(9,t24),(10,t14),(30,v30),(31,v31),(34,v34),(35,v35),(36,v36)],h22,(y23 ++ (y9 ++ (y6 ++ x)))⟩ K)
 (NW C gl q1 ⟨[(0,v0),(1,v1),(4,v4),(7,v7),(8,v8),(9,v9),(10,t14),(30,v30),(31,v31),(34,v34),(35,v35),(36,v36),(56,t21)],h22,(y23 ++ (y9 ++ (y6 ++ x)))⟩ K))
 (NW C gl q1 ⟨[(0,v0),(1,v1),(4,v4),(7,v7),(8,v8),(9,v9),(10,v10),(12,t4),(30,v30),(31,v31),(34,v34),(35,v35),(36,v36),(44,t13)],h8,(y9 ++ (y6 ++ x))⟩ K))
 (K (.exit 2) ⟨[(0,v0),(1,v1),(4,v4),(7,v7),(8,v8),(9,v9),(10,v10),(30,v30),(31,v31),(34,v34),(35,v35),(36,v36),(37,t1)],h,x⟩)
theorem E_q02c_k2 {C gl q1 e h x K} : NW C gl (P_q02c_k2 q1) ⟨e,h,x⟩ K = d_q02c_k2 C gl q1 (aget e 0) (aget e 1) (aget e 4) (aget e 7) (aget e 8) (aget e 9) (aget e 10) (aget e 30) (aget e 31) (aget e 34) (aget e 35) (aget e 36) h x K:=by kernel_rfl
theorem e_q02c_k2 {C gl e h x K} : NW C gl p_q02c_k2 ⟨e,h,x⟩ K = d_q02c_k2 C gl p_q02c_k1 (aget e 0) (aget e 1) (aget e 4) (aget e 7) (aget e 8) (aget e 9) (aget e 10) (aget e 30) (aget e 31) (aget e 34) (aget e 35) (aget e 36) h x K:=E_q02c_k2
theorem l_q02c_k2 {C gl e h x K} : NW C gl (.loop (.scope p_q02c_k2)) ⟨e,h,x⟩ K = NLoop C gl (.scope p_q02c_k2) K [(0,aget e 0),(1,aget e 1),(4,aget e 4),(7,aget e 7),(8,aget e 8),(9,aget e 9),(10,aget e 10),(30,aget e 30),(31,aget e 31),(34,aget e 34),(35,aget e 35),(36,aget e 36)] h x:=NLoop_sc
def p_q02c_k3 : ACode:=.pr [0,1,4,7,9,10,30,31] (.seq (rg [mV 60 10,
bN 61 .gtr 60 (cI 0)] [0,1,4,7,9,10,30,31,61])
(.cond 61 (rg [mV 62 7,
mV 63 9,
mV 64 10,
uO 65 (.build [.p (.int .i64 0),.p (.int .i64 0)] [(0,1,63),(1,1,64)]),
uO 66 (.bsl false (some 2) 1 (.agg [.int .i64 0,.int .i64 0]) [(0,65)]),
uO 67 (.app (some 2) 62 66),
mV 7 67] [0,1,4,7,30,31])
.skip))
def d_q02c_k3 (C : Hd) (gl : GL) (v0 v1 v4 v7 v9 v10 v30 v31 : AV) (h : Heap) (x : Esc) (K : KT) : Prop:=
 pK (oBin .gtr v10 (AI 0)) fun t1=>
 condB t1 (pK (oBuild [.p (.int .i64 0),.p (.int .i64 0)] [(0,1,v9),(1,1,v10)]) fun t2=>
 wK (oBsl false (some 2) 1 (.agg [.int .i64 0,.int .i64 0]) [(0,t2)] h) fun t3 h4 y5=>
 wK (oApp (some 2) v7 t3 h4) fun t6 h7 y8=>
 K .normal ⟨[(0,v0),(1,v1),(4,v4),(7,t6),(30,v30),(31,v31)],h7,(y8 ++ (y5 ++ x))⟩)
 (K .normal ⟨[(0,v0),(1,v1),(4,v4),(7,v7),(9,v9),(10,v10),(30,v30),(31,v31),(61,t1)],h,x⟩)
theorem e_q02c_k3 {C gl e h x K} : NW C gl p_q02c_k3 ⟨e,h,x⟩ K = d_q02c_k3 C gl (aget e 0) (aget e 1) (aget e 4) (aget e 7) (aget e 9) (aget e 10) (aget e 30) (aget e 31) h x K:=by kernel_rfl
def p_q02c_k4 : ACode:=.pr [0,1,4,7,30,31] (rg [bN 68 .add 31 (cI 1),
mV 31 68] [0,1,4,7,30,31])
def d_q02c_k4 (C : Hd) (gl : GL) (v0 v1 v4 v7 v30 v31 : AV) (h : Heap) (x : Esc) (K : KT) : Prop:=
 pK (oBin .add v31 (AI 1)) fun t1=>
 K .normal ⟨[(0,v0),(1,v1),(4,v4),(7,v7),(30,v30),(31,t1)],h,x⟩
theorem e_q02c_k4 {C gl e h x K} : NW C gl p_q02c_k4 ⟨e,h,x⟩ K = d_q02c_k4 C gl (aget e 0) (aget e 1) (aget e 4) (aget e 7) (aget e 30) (aget e 31) h x K:=by kernel_rfl
def P_q02c_k5 (q2 q3 q4 : ACode) : ACode:=.pr [0,1,4,7,30,31] (.seq (rg [bN 32 .lss 31 30] [0,1,4,7,30,31,32])
(.seq (.cond 32 .skip
(.exit 0))
(.seq (.block 1 (.seq (rg [mV 33 31,
mV 8 33] [0,1,4,7,8,30,31])
(.seq (rg [mV 9 (cI 0),
mV 10 (cI 0)] [0,1,4,7,8,9,10,30,31])
(.seq (.seq (rg [mV 34 1,
lN 35 34,
mV 36 (cI 0)] [0,1,4,7,8,9,10,30,31,34,35,36])
(.block 2 (.loop (.scope q2))))
q3))))
q4)))
def p_q02c_k5 : ACode:=P_q02c_k5 p_q02c_k2 p_q02c_k3 p_q02c_k4
def d_q02c_k5 (C : Hd) (gl : GL) (q2 q3 q4 : ACode) (v0 v1 v4 v7 v30 v31 : AV) (h : Heap) (x : Esc) (K : KT) : Prop:=
 pK (oBin .lss v31 v30) fun t1=>
 condB t1 (pK (oLen v1) fun t2=>
 NW C gl (.loop (.scope q2)) ⟨[(0,v0),(1,v1),(4,v4),(7,v7),(8,v31),(9,(AI 0)),(10,(AI 0)),(30,v30),(31,v31),(34,v1),(35,t2),(36,(AI 0))],h,x⟩ (blockN 2 (seqN C gl q3 (blockN 1 (seqN C gl q4 K)))))
 (K (.exit 0) ⟨[(0,v0),(1,v1),(4,v4),(7,v7),(30,v30),(31,v31),(32,t1)],h,x⟩)
theorem E_q02c_k5 {C gl q2 q3 q4 e h x K} : NW C gl (P_q02c_k5 q2 q3 q4) ⟨e,h,x⟩ K = d_q02c_k5 C gl q2 q3 q4 (aget e 0) (aget e 1) (aget e 4) (aget e 7) (aget e 30) (aget e 31) h x K:=by kernel_rfl
theorem e_q02c_k5 {C gl e h x K} : NW C gl p_q02c_k5 ⟨e,h,x⟩ K = d_q02c_k5 C gl p_q02c_k2 p_q02c_k3 p_q02c_k4 (aget e 0) (aget e 1) (aget e 4) (aget e 7) (aget e 30) (aget e 31) h x K:=E_q02c_k5
theorem l_q02c_k5 {C gl e h x K} : NW C gl (.loop (.scope p_q02c_k5)) ⟨e,h,x⟩ K = NLoop C gl (.scope p_q02c_k5) K [(0,aget e 0),(1,aget e 1),(4,aget e 4),(7,aget e 7),(30,aget e 30),(31,aget e 31)] h x:=NLoop_sc
def p_q02c_k6 : ACode:=.pr [4,7] (.seq (rg [mV 70 7,
cL 71 f_q009 [70],
mV 69 71,
eX 72 69 0,
eX 73 69 1,
uO 13 (.alloc [.p (.int .i64 0),.p (.int .i64 0)]),
wO (.store (some 2) 13 72),
mV 14 73] [4,13,14])
(.seq (.seq (rg [mV 74 14,
uO 75 (.un .not 74)] [4,13,75])
(.cond 75 (.seq (rg [uO 76 (.build [.p (.int .i64 0),.p (.int .i64 0)] []),
wO (.store (some 2) 4 76),
mV 5 (cI 12)] [4,5])
.ret)
.skip))
(.seq (rg [lD 77 (some 2) 13,
wO (.store (some 2) 4 77),
mV 5 (cI 0)] [4,5])
.ret)))
def d_q02c_k6 (C : Hd) (gl : GL) (v4 v7 : AV) (h : Heap) (x : Esc) (K : KT) : Prop:=
 C f_q009 [v7] h fun t1 h2 y3=>
 pK (oExt t1 0) fun t4=>
 pK (oExt t1 1) fun t5=>
 alK [.p (.int .i64 0),.p (.int .i64 0)] h2 fun t6 h7 y8=>
 wK (oStore (some 2) t6 t4 h7) fun t9 h10 y11=>
 pK (oUn .not t5) fun t12=>
 condB t12 (pK (oBuild [.p (.int .i64 0),.p (.int .i64 0)] []) fun t13=>
 wK (oStore (some 2) v4 t13 h10) fun t14 h15 y16=>
 K .ret ⟨[(4,v4),(5,(AI 12))],h15,(y16 ++ (y11 ++ (y8 ++ (y3 ++ x))))⟩)
 (pK (oLoad (some 2) t6 h10) fun t17=>
 wK (oStore (some 2) v4 t17 h10) fun t18 h19 y20=>
 K .ret ⟨[(4,v4),(5,(AI 0))],h19,(y20 ++ (y11 ++ (y8 ++ (y3 ++ x))))⟩)
theorem e_q02c_k6 {C gl e h x K} : NW C gl p_q02c_k6 ⟨e,h,x⟩ K = d_q02c_k6 C gl (aget e 4) (aget e 7) h x K:=by kernel_rfl
def P_q02c_k7 (q5 q6 : ACode) : ACode:=.pr [0,1,4,6] (.seq (.seq (rg [mV 25 6,
bN 26 .neq 25 (cI 0)] [0,1,4,6,26])
(.cond 26 (.seq (rg [uO 27 (.build [.p (.int .i64 0),.p (.int .i64 0)] []),
mV 28 6,
wO (.store (some 2) 4 27),
mV 5 28] [4,5])
.ret)
.skip))
(.seq (rg [uO 7 (.new0 (some 2))] [0,1,4,7])
(.seq (.seq (rg [mV 29 0,
lN 30 29,
mV 31 (cI 0)] [0,1,4,7,30,31])
(.block 0 (.loop (.scope q5))))
q6)))
def p_q02c_k7 : ACode:=P_q02c_k7 p_q02c_k5 p_q02c_k6
def d_q02c_k7 (C : Hd) (gl : GL) (q5 q6 : ACode) (v0 v1 v4 v6 : AV) (h : Heap) (x : Esc) (K : KT) : Prop:=
 pK (oBin .neq v6 (AI 0)) fun t1=>
 condB t1 (pK (oBuild [.p (.int .i64 0),.p (.int .i64 0)] []) fun t2=>
 wK (oStore (some 2) v4 t2 h) fun t3 h4 y5=>
 K .ret ⟨[(4,v4),(5,v6)],h4,(y5 ++ x)⟩)
 (nwK (some 2) h fun t6 h7 y8=>
 pK (oLen v0) fun t9=>
 NW C gl (.loop (.scope q5)) ⟨[(0,v0),(1,v1),(4,v4),(7,t6),(30,t9),(31,(AI 0))],h7,(y8 ++ x)⟩ (blockN 0 (seqN C gl q6 K)))
theorem E_q02c_k7 {C gl q5 q6 e h x K} : NW C gl (P_q02c_k7 q5 q6) ⟨e,h,x⟩ K = d_q02c_k7 C gl q5 q6 (aget e 0) (aget e 1) (aget e 4) (aget e 6) h x K:=by kernel_rfl
theorem e_q02c_k7 {C gl e h x K} : NW C gl p_q02c_k7 ⟨e,h,x⟩ K = d_q02c_k7 C gl p_q02c_k5 p_q02c_k6 (aget e 0) (aget e 1) (aget e 4) (aget e 6) h x K:=E_q02c_k7
def P_q02c (q7 : ACode) : ACode:=(.seq (rg [uO 4 (.alloc [.p (.int .i64 0),.p (.int .i64 0)]),
mV 5 (cI 0)] [0,1,4])
(.seq (rg [mV 15 0,
mV 16 1,
cL 17 f_q023 [15,16],
mV 6 17] [0,1,4,6])
(.seq (.seq (rg [mV 18 6,
bN 19 .eql 18 (cI 0),
mV 20 19,
gD 21 20 true (.mv 1),
gD 22 20 true (.len 21),
gD 23 20 true (.bin .eql 22 (cI 0)),
uO 24 (.pick 20 23 cF)] [0,1,4,6,24])
(.cond 24 (rg [mV 6 (cI 8)] [0,1,4,6])
.skip))
q7)))
def a_q02c : AFun:=⟨2,[.cell 4 (some 2),.t 5],P_q02c p_q02c_k7,false,false⟩
def d_q02c (C : Hd) (gl : GL) (q7 : ACode) (v0 v1 : AV) (h : Heap) (x : Esc) (K : KT) : Prop:=
 alK [.p (.int .i64 0),.p (.int .i64 0)] h fun t1 h2 y3=>
 C f_q023 [v0,v1] h2 fun t4 h5 y6=>
 pK (oBin .eql t4 (AI 0)) fun t7=>
 gM t7 true v1 h5 fun t8 h9 y10=>
 gP t7 true (oLen t8) h9 fun t11 h12 y13=>
 gP t7 true (oBin .eql t11 (AI 0)) h12 fun t14 h15 y16=>
 pK (oPick t7 t14 (AB false)) fun t17=>
 condB t17 (NW C gl q7 ⟨[(0,v0),(1,v1),(4,t1),(6,(AI 8))],h15,(y16 ++ (y13 ++ (y10 ++ (y6 ++ (y3 ++ x)))))⟩ K)
 (NW C gl q7 ⟨[(0,v0),(1,v1),(4,t1),(6,t4),(24,t17)],h15,(y16 ++ (y13 ++ (y10 ++ (y6 ++ (y3 ++ x)))))⟩ K)
theorem E_q02c {C gl q7 v0 v1 h x K} : NW C gl (P_q02c q7) ⟨enter [v0,v1],h,x⟩ K = d_q02c C gl q7 v0 v1 h x K:=by kernel_rfl
theorem e_q02c {C gl v0 v1 h x K} : NW C gl a_q02c.body ⟨enter [v0,v1],h,x⟩ K = d_q02c C gl p_q02c_k7 v0 v1 h x K:=E_q02c
def p_q04g_k1 : ACode:=.pr [0,1,17,18,19] (.seq (rg [bN 20 .lss 19 18] [0,1,17,18,19,20])
(.seq (.cond 20 .skip
(.exit 0))
(.seq (.block 1 (.seq (rg [mV 21 19,
iA 22 (some 4) 17 19,
lD 23 (some 4) 22,
uO 7 (.alloc [.p (.str []),.p (.int .i64 0),.p (.str []),.sl0 none]),
mV 6 21,
wO (.store (some 4) 7 23)] [0,1,6,7,17,18,19])
(.seq (.seq (rg [mV 24 0,
lD 25 (some 4) 7,
cL 26 f_q04v [24,25],
mV 8 26] [0,1,6,7,8,17,18,19])
(.seq (rg [mV 27 8,
bN 28 .neq 27 (cI 0)] [0,1,6,7,8,17,18,19,28])
(.cond 28 (.seq (rg [mV 29 8,
mV 4 29] [4])
.ret)
.skip)))
(.seq (dr [dF (mV 30 6) [6],
dF (bN 31 .gtr 30 (cI 0)) [30],
dF (mV 32 31) [31],
dF (gD 33 32 true (.mv 1)) [1,32],
dF (gD 34 32 true (.mv 6)) [6,32],
dF (gD 35 32 true (.bin .sub 34 (cI 1))) [34,32],
dF (gD 36 32 true (.iaddr (some 4) 33 35)) [33,35,32],
dF (gD 37 32 true (.load (some 4) 36)) [36,32],
dF (gD 38 32 true (.load (some 4) 7)) [7,32],
dT (gD 39 32 true (.call f_q04x [37,38])) [37,38,32],
dF (gD 40 32 true (.bin .geq 39 (cI 0))) [39,32],
dF (uO 41 (.pick 32 40 cF)) [32,40]] [0,1,17,18,19,41])
(.cond 41 (.seq (rg [mV 4 (cI 7)] [4])
.ret)
.skip)))))
(rg [bN 42 .add 19 (cI 1),
mV 19 42] [0,1,17,18,19]))))
def d_q04g_k1 (C : Hd) (gl : GL) (v0 v1 v17 v18 v19 : AV) (h : Heap) (x : Esc) (K : KT) : Prop:=
 pK (oBin .lss v19 v18) fun t1=>
 condB t1 (pK (oIaddr (some 4) v17 v19 h) fun t2=>
 pK (oLoad (some 4) t2 h) fun t3=>
 alK [.p (.str []),.p (.int .i64 0),.p (.str []),.sl0 none] h fun t4 h5 y6=>
 wK (oStore (some 4) t4 t3 h5) fun t7 h8 y9=>
 pK (oLoad (some 4) t4 h8) fun t10=>
 C f_q04v [v0,t10] h8 fun t11 h12 y13=>
 pK (oBin .neq t11 (AI 0)) fun t14=>
 condB t14 (K .ret ⟨[(4,t11)],h12,(y13 ++ (y9 ++ (y6 ++ x)))⟩)
 (pK (oBin .gtr v19 (AI 0)) fun t15=>
 gM t15 true v1 h12 fun t16 h17 y18=>
 gM t15 true v19 h17 fun t19 h20 y21=>
 gP t15 true (oBin .sub t19 (AI 1)) h20 fun t22 h23 y24=>
 gP t15 true (oIaddr (some 4) t16 t22 h23) h23 fun t25 h26 y27=>
 gP t15 true (oLoad (some 4) t25 h26) h26 fun t28 h29 y30=>
 gP t15 true (oLoad (some 4) t4 h29) h29 fun t31 h32 y33=>
 gV t15 true h32 (callE C f_q04x [t28,t31] h32) fun t34 h35 y36=>
 gP t15 true (oBin .geq t34 (AI 0)) h35 fun t37 h38 y39=>
 pK (oPick t15 t37 (AB false)) fun t40=>
 condB t40 (K .ret ⟨[(4,(AI 7))],h38,(y39 ++ (y36 ++ (y33 ++ (y30 ++ (y27 ++ (y24 ++ (y21 ++ (y18 ++ (y13 ++ (y9 ++ (y6 ++ x)))))))))))⟩)
 (pK (oBin .add v19 (AI 1)) fun t41=>
 K .normal ⟨[(0,v0),(1,v1),(17,v17),(18,v18),(19,t41)],h38,(y39 ++ (y36 ++ (y33 ++ (y30 ++ (y27 ++ (y24 ++ (y21 ++ (y18 ++ (y13 ++ (y9 ++ (y6 ++ x)))))))))))⟩)))
 (K (.exit 0) ⟨[(0,v0),(1,v1),(17,v17),(18,v18),(19,v19),(20,t1)],h,x⟩)
theorem e_q04g_k1 {C gl e h x K} : NW C gl p_q04g_k1 ⟨e,h,x⟩ K = d_q04g_k1 C gl (aget e 0) (aget e 1) (aget e 17) (aget e 18) (aget e 19) h x K:=by kernel_rfl
theorem l_q04g_k1 {C gl e h x K} : NW C gl (.loop (.scope p_q04g_k1)) ⟨e,h,x⟩ K = NLoop C gl (.scope p_q04g_k1) K [(0,aget e 0),(1,aget e 1),(17,aget e 17),(18,aget e 18),(19,aget e 19)] h x:=NLoop_sc
def p_q04g_k2 : ACode:=.pr [] (.seq (rg [mV 4 (cI 0)] [4])
.ret)
def d_q04g_k2 (C : Hd) (gl : GL) (h : Heap) (x : Esc) (K : KT) : Prop:=
 K .ret ⟨[(4,(AI 0))],h,x⟩
theorem e_q04g_k2 {C gl e h x K} : NW C gl p_q04g_k2 ⟨e,h,x⟩ K = d_q04g_k2 C gl h x K:=by kernel_rfl
def P_q04g (q1 q2 : ACode) : ACode:=(.seq (rg [mV 4 (cI 0)] [0,1])
(.seq (.seq (rg [mV 9 0,
cL 10 f_q04d [9],
mV 5 10] [0,1,5])
(.seq (rg [mV 11 5,
bN 12 .neq 11 (cI 0)] [0,1,5,12])
(.cond 12 (.seq (rg [mV 13 5,
mV 4 13] [4])
.ret)
.skip)))
(.seq (.seq (rg [mV 14 1,
lN 15 14,
bN 16 .gtr 15 (cI 5000)] [0,1,16])
(.cond 16 (.seq (rg [mV 4 (cI 2)] [4])
.ret)
.skip))
(.seq (.seq (rg [mV 17 1,
lN 18 17,
mV 19 (cI 0)] [0,1,17,18,19])
(.block 0 (.loop (.scope q1))))
q2))))
def a_q04g : AFun:=⟨2,[.t 4],P_q04g p_q04g_k1 p_q04g_k2,false,false⟩
def d_q04g (C : Hd) (gl : GL) (q1 q2 : ACode) (v0 v1 : AV) (h : Heap) (x : Esc) (K : KT) : Prop:=
 C f_q04d [v0] h fun t1 h2 y3=>
 pK (oBin .neq t1 (AI 0)) fun t4=>
 condB t4 (K .ret ⟨[(4,t1)],h2,(y3 ++ x)⟩)
 (pK (oLen v1) fun t5=>
 pK (oBin .gtr t5 (AI 5000)) fun t6=>
 condB t6 (K .ret ⟨[(4,(AI 2))],h2,(y3 ++ x)⟩)
 (pK (oLen v1) fun t7=>
 NW C gl (.loop (.scope q1)) ⟨[(0,v0),(1,v1),(17,v1),(18,t7),(19,(AI 0))],h2,(y3 ++ x)⟩ (blockN 0 (seqN C gl q2 K))))
theorem E_q04g {C gl q1 q2 v0 v1 h x K} : NW C gl (P_q04g q1 q2) ⟨enter [v0,v1],h,x⟩ K = d_q04g C gl q1 q2 v0 v1 h x K:=by kernel_rfl
theorem e_q04g {C gl v0 v1 h x K} : NW C gl a_q04g.body ⟨enter [v0,v1],h,x⟩ K = d_q04g C gl p_q04g_k1 p_q04g_k2 v0 v1 h x K:=E_q04g
def p_q03w_k1 : ACode:=.pr [5,6,7] (.seq (rg [bN 8 .lss 7 6] [5,6,7,8])
(.seq (.cond 8 .skip
(.exit 0))
(.seq (.block 1 (.seq (rg [iA 9 none 5 7,
lD 10 none 9,
mV 4 10] [4,5,6,7])
(.seq (rg [mV 11 4,
bN 12 .neq 11 (cI 0)] [4,5,6,7,12])
(.cond 12 (.seq (rg [mV 13 4,
mV 2 13] [2])
.ret)
.skip))))
(rg [bN 14 .add 7 (cI 1),
mV 7 14] [5,6,7]))))
def d_q03w_k1 (C : Hd) (gl : GL) (v5 v6 v7 : AV) (h : Heap) (x : Esc) (K : KT) : Prop:=
 pK (oBin .lss v7 v6) fun t1=>
 condB t1 (pK (oIaddr none v5 v7 h) fun t2=>
 pK (oLoad none t2 h) fun t3=>
 pK (oBin .neq t3 (AI 0)) fun t4=>
 condB t4 (K .ret ⟨[(2,t3)],h,x⟩)
 (pK (oBin .add v7 (AI 1)) fun t5=>
 K .normal ⟨[(5,v5),(6,v6),(7,t5)],h,x⟩))
 (K (.exit 0) ⟨[(5,v5),(6,v6),(7,v7),(8,t1)],h,x⟩)
theorem e_q03w_k1 {C gl e h x K} : NW C gl p_q03w_k1 ⟨e,h,x⟩ K = d_q03w_k1 C gl (aget e 5) (aget e 6) (aget e 7) h x K:=by kernel_rfl
theorem l_q03w_k1 {C gl e h x K} : NW C gl (.loop p_q03w_k1) ⟨e,h,x⟩ K = NLoop C gl p_q03w_k1 K [(5,aget e 5),(6,aget e 6),(7,aget e 7)] h x:=NLoop_pr
def p_q03w_k2 : ACode:=.pr [] (.seq (rg [mV 2 (cI 0)] [2])
.ret)
def d_q03w_k2 (C : Hd) (gl : GL) (h : Heap) (x : Esc) (K : KT) : Prop:=
 K .ret ⟨[(2,(AI 0))],h,x⟩
theorem e_q03w_k2 {C gl e h x K} : NW C gl p_q03w_k2 ⟨e,h,x⟩ K = d_q03w_k2 C gl h x K:=by kernel_rfl
def P_q03w (q1 q2 : ACode) : ACode:=(.seq (rg [mV 2 (cI 0)] [0])
(.seq (.seq (rg [mV 5 0,
lN 6 5,
mV 7 (cI 0)] [5,6,7])
(.block 0 (.loop q1)))
q2))
def a_q03w : AFun:=⟨1,[.t 2],P_q03w p_q03w_k1 p_q03w_k2,false,false⟩
def d_q03w (C : Hd) (gl : GL) (q1 q2 : ACode) (v0 : AV) (h : Heap) (x : Esc) (K : KT) : Prop:=
 pK (oLen v0) fun t1=>
 NW C gl (.loop q1) ⟨[(5,v0),(6,t1),(7,(AI 0))],h,x⟩ (blockN 0 (seqN C gl q2 K))
theorem E_q03w {C gl q1 q2 v0 h x K} : NW C gl (P_q03w q1 q2) ⟨enter [v0],h,x⟩ K = d_q03w C gl q1 q2 v0 h x K:=by kernel_rfl
theorem e_q03w {C gl v0 h x K} : NW C gl a_q03w.body ⟨enter [v0],h,x⟩ K = d_q03w C gl p_q03w_k1 p_q03w_k2 v0 h x K:=E_q03w
def P_q04h : ACode:=(.seq (rg [mV 2 (cI 0)] [0])
(.seq (.seq (rg [mV 3 0,
cL 4 f_q04s [3,(cI 1),(cI 3)],
uO 5 (.un .not 4)] [5])
(.cond 5 (.seq (rg [mV 2 (cI 4)] [2])
.ret)
.skip))
(.seq (rg [mV 2 (cI 0)] [2])
.ret)))
def a_q04h : AFun:=⟨1,[.t 2],P_q04h,false,false⟩
def d_q04h (C : Hd) (gl : GL) (v0 : AV) (h : Heap) (x : Esc) (K : KT) : Prop:=
 C f_q04s [v0,(AI 1),(AI 3)] h fun t1 h2 y3=>
 pK (oUn .not t1) fun t4=>
 condB t4 (K .ret ⟨[(2,(AI 4))],h2,(y3 ++ x)⟩)
 (K .ret ⟨[(2,(AI 0))],h2,(y3 ++ x)⟩)
theorem e_q04h {C gl v0 h x K} : NW C gl a_q04h.body ⟨enter [v0],h,x⟩ K = d_q04h C gl v0 h x K:=by kernel_rfl
def p_q04b_k1 : ACode:=.pr [0,1,2,7,13,14,15] (.seq (rg [bN 16 .lss 15 14] [0,1,2,7,13,14,15,16])
(.seq (.cond 16 .skip
(.exit 0))
(.seq (.block 1 (.seq (rg [iA 17 none 13 15,
lD 18 none 17,
mV 9 18] [0,1,2,7,9,13,14,15])
(.seq (rg [mV 20 0,
mV 21 0,
mV 22 1,
mV 23 9,
mV 24 2,
cL 25 f_q04n [21,22,23,24],
cL 26 f_q04a [20,25],
mV 19 26,
eX 27 19 0,
eX 28 19 1,
mV 10 27,
mV 11 28] [0,1,2,7,9,10,13,14,15])
(rg [mV 29 7,
mV 30 9,
mV 31 10,
cL 32 f_q07r [31],
uO 33 (.build [.p (.str []),.p (.str [])] [(0,1,30),(1,1,32)]),
uO 34 (.bsl false (some 2) 1 (.agg [.str [],.str []]) [(0,33)]),
uO 35 (.app (some 2) 29 34),
mV 7 35] [0,1,2,7,13,14,15]))))
(rg [bN 36 .add 15 (cI 1),
mV 15 36] [0,1,2,7,13,14,15]))))
def d_q04b_k1 (C : Hd) (gl : GL) (v0 v1 v2 v7 v13 v14 v15 : AV) (h : Heap) (x : Esc) (K : KT) : Prop:=
 pK (oBin .lss v15 v14) fun t1=>
 condB t1 (pK (oIaddr none v13 v15 h) fun t2=>
 pK (oLoad none t2 h) fun t3=>
 C f_q04n [v0,v1,t3,v2] h fun t4 h5 y6=>
 C f_q04a [v0,t4] h5 fun t7 h8 y9=>
 pK (oExt t7 0) fun t10=>
 pK (oExt t7 1) fun t11=>
 C f_q07r [t10] h8 fun t12 h13 y14=>
 pK (oBuild [.p (.str []),.p (.str [])] [(0,1,t3),(1,1,t12)]) fun t15=>
 wK (oBsl false (some 2) 1 (.agg [.str [],.str []]) [(0,t15)] h13) fun t16 h17 y18=>
 wK (oApp (some 2) v7 t16 h17) fun t19 h20 y21=>
 pK (oBin .add v15 (AI 1)) fun t22=>
 K .normal ⟨[(0,v0),(1,v1),(2,v2),(7,t19),(13,v13),(14,v14),(15,t22)],h20,(y21 ++ (y18 ++ (y14 ++ (y9 ++ (y6 ++ x)))))⟩)
 (K (.exit 0) ⟨[(0,v0),(1,v1),(2,v2),(7,v7),(13,v13),(14,v14),(15,v15),(16,t1)],h,x⟩)
theorem e_q04b_k1 {C gl e h x K} : NW C gl p_q04b_k1 ⟨e,h,x⟩ K = d_q04b_k1 C gl (aget e 0) (aget e 1) (aget e 2) (aget e 7) (aget e 13) (aget e 14) (aget e 15) h x K:=by kernel_rfl
theorem l_q04b_k1 {C gl e h x K} : NW C gl (.loop (.scope p_q04b_k1)) ⟨e,h,x⟩ K = NLoop C gl (.scope p_q04b_k1) K [(0,aget e 0),(1,aget e 1),(2,aget e 2),(7,aget e 7),(13,aget e 13),(14,aget e 14),(15,aget e 15)] h x:=NLoop_sc
def p_q04b_k2 : ACode:=.pr [7] (.seq (rg [mV 37 7,
mV 6 37] [6])
.ret)
def d_q04b_k2 (C : Hd) (gl : GL) (v7 : AV) (h : Heap) (x : Esc) (K : KT) : Prop:=
 K .ret ⟨[(6,v7)],h,x⟩
theorem e_q04b_k2 {C gl e h x K} : NW C gl p_q04b_k2 ⟨e,h,x⟩ K = d_q04b_k2 C gl (aget e 7) h x K:=by kernel_rfl
def P_q04b (q1 q2 : ACode) : ACode:=(.seq (rg [mV 6 (.c (.p (.sl (some 2) [])))] [0,1,2])
(.seq (rg [uO 7 (.new0 (some 2))] [0,1,2,7])
(.seq (.seq (rg [mV 12 1,
cL 13 f_q04z [12],
lN 14 13,
mV 15 (cI 0)] [0,1,2,7,13,14,15])
(.block 0 (.loop (.scope q1))))
q2)))
def a_q04b : AFun:=⟨3,[.t 6],P_q04b p_q04b_k1 p_q04b_k2,false,false⟩
def d_q04b (C : Hd) (gl : GL) (q1 q2 : ACode) (v0 v1 v2 : AV) (h : Heap) (x : Esc) (K : KT) : Prop:=
 nwK (some 2) h fun t1 h2 y3=>
 C f_q04z [v1] h2 fun t4 h5 y6=>
 pK (oLen t4) fun t7=>
 NW C gl (.loop (.scope q1)) ⟨[(0,v0),(1,v1),(2,v2),(7,t1),(13,t4),(14,t7),(15,(AI 0))],h5,(y6 ++ (y3 ++ x))⟩ (blockN 0 (seqN C gl q2 K))
theorem E_q04b {C gl q1 q2 v0 v1 v2 h x K} : NW C gl (P_q04b q1 q2) ⟨enter [v0,v1,v2],h,x⟩ K = d_q04b C gl q1 q2 v0 v1 v2 h x K:=by kernel_rfl
theorem e_q04b {C gl v0 v1 v2 h x K} : NW C gl a_q04b.body ⟨enter [v0,v1,v2],h,x⟩ K = d_q04b C gl p_q04b_k1 p_q04b_k2 v0 v1 v2 h x K:=E_q04b
def p_q04m_k1 : ACode:=.pr [6,8,9,20,21,22] (rg [bN 31 .add 22 (cI 1),
mV 22 31] [6,8,9,20,21,22])
def d_q04m_k1 (C : Hd) (gl : GL) (v6 v8 v9 v20 v21 v22 : AV) (h : Heap) (x : Esc) (K : KT) : Prop:=
 pK (oBin .add v22 (AI 1)) fun t1=>
 K .normal ⟨[(6,v6),(8,v8),(9,v9),(20,v20),(21,v21),(22,t1)],h,x⟩
theorem e_q04m_k1 {C gl e h x K} : NW C gl p_q04m_k1 ⟨e,h,x⟩ K = d_q04m_k1 C gl (aget e 6) (aget e 8) (aget e 9) (aget e 20) (aget e 21) (aget e 22) h x K:=by kernel_rfl
def P_q04m_k2 (q1 : ACode) : ACode:=.pr [6,8,9,20,21,22] (.seq (rg [bN 23 .lss 22 21] [6,8,9,20,21,22,23])
(.seq (.cond 23 .skip
(.exit 0))
(.seq (.block 1 (.seq (rg [iA 24 (some 2) 20 22,
lD 25 (some 2) 24,
uO 11 (.alloc [.p (.str []),.p (.str [])]),
wO (.store (some 2) 11 25)] [6,8,9,11,20,21,22])
(.seq (rg [fA 26 1 none 11,
lD 27 none 26,
bN 28 .eql 27 (cS [49])] [6,8,9,20,21,22,28])
(.cond 28 (rg [mV 29 9,
bN 30 .add 29 (cI 1),
mV 9 30] [6,8,9,20,21,22])
.skip))))
q1)))
def p_q04m_k2 : ACode:=P_q04m_k2 p_q04m_k1
def d_q04m_k2 (C : Hd) (gl : GL) (q1 : ACode) (v6 v8 v9 v20 v21 v22 : AV) (h : Heap) (x : Esc) (K : KT) : Prop:=
 pK (oBin .lss v22 v21) fun t1=>
 condB t1 (pK (oIaddr (some 2) v20 v22 h) fun t2=>
 pK (oLoad (some 2) t2 h) fun t3=>
 alK [.p (.str []),.p (.str [])] h fun t4 h5 y6=>
 wK (oStore (some 2) t4 t3 h5) fun t7 h8 y9=>
 pK (oFaddr 1 none t4) fun t10=>
 pK (oLoad none t10 h8) fun t11=>
 pK (oBin .eql t11 (.p (.str [49]))) fun t12=>
 condB t12 (pK (oBin .add v9 (AI 1)) fun t13=>
 NW C gl q1 ⟨[(6,v6),(8,v8),(9,t13),(20,v20),(21,v21),(22,v22)],h8,(y9 ++ (y6 ++ x))⟩ K)
 (NW C gl q1 ⟨[(6,v6),(8,v8),(9,v9),(20,v20),(21,v21),(22,v22),(28,t12)],h8,(y9 ++ (y6 ++ x))⟩ K))
 (K (.exit 0) ⟨[(6,v6),(8,v8),(9,v9),(20,v20),(21,v21),(22,v22),(23,t1)],h,x⟩)
theorem E_q04m_k2 {C gl q1 e h x K} : NW C gl (P_q04m_k2 q1) ⟨e,h,x⟩ K = d_q04m_k2 C gl q1 (aget e 6) (aget e 8) (aget e 9) (aget e 20) (aget e 21) (aget e 22) h x K:=by kernel_rfl
theorem e_q04m_k2 {C gl e h x K} : NW C gl p_q04m_k2 ⟨e,h,x⟩ K = d_q04m_k2 C gl p_q04m_k1 (aget e 6) (aget e 8) (aget e 9) (aget e 20) (aget e 21) (aget e 22) h x K:=E_q04m_k2
theorem l_q04m_k2 {C gl e h x K} : NW C gl (.loop (.scope p_q04m_k2)) ⟨e,h,x⟩ K = NLoop C gl (.scope p_q04m_k2) K [(6,aget e 6),(8,aget e 8),(9,aget e 9),(20,aget e 20),(21,aget e 21),(22,aget e 22)] h x:=NLoop_sc
def p_q04m_k3 : ACode:=.pr [6,8,9] (.seq (rg [mV 32 9,
mV 33 8,
lN 34 33,
cL 35 f_q04e [32,34],
wO (.store (some 2) 6 35),
mV 7 (cI 0)] [6,7])
.ret)
def d_q04m_k3 (C : Hd) (gl : GL) (v6 v8 v9 : AV) (h : Heap) (x : Esc) (K : KT) : Prop:=
 pK (oLen v8) fun t1=>
 C f_q04e [v9,t1] h fun t2 h3 y4=>
 wK (oStore (some 2) v6 t2 h3) fun t5 h6 y7=>
 K .ret ⟨[(6,v6),(7,(AI 0))],h6,(y7 ++ (y4 ++ x))⟩
theorem e_q04m_k3 {C gl e h x K} : NW C gl p_q04m_k3 ⟨e,h,x⟩ K = d_q04m_k3 C gl (aget e 6) (aget e 8) (aget e 9) h x K:=by kernel_rfl
def P_q04m (q2 q3 : ACode) : ACode:=(.seq (rg [uO 6 (.alloc [.p (.int .i64 0),.p (.int .i64 0)]),
mV 7 (cI 0)] [0,1,2,6])
(.seq (rg [mV 12 0,
mV 13 1,
mV 14 2,
cL 15 f_q04b [12,13,14],
mV 8 15] [6,8])
(.seq (.seq (rg [mV 16 8,
lN 17 16,
bN 18 .eql 17 (cI 0)] [6,8,18])
(.cond 18 (.seq (rg [uO 19 (.build [.p (.int .i64 0),.p (.int .i64 0)] []),
wO (.store (some 2) 6 19),
mV 7 (cI 8)] [6,7])
.ret)
.skip))
(.seq (rg [mV 9 (cI 0)] [6,8,9])
(.seq (.seq (rg [mV 20 8,
lN 21 20,
mV 22 (cI 0)] [6,8,9,20,21,22])
(.block 0 (.loop (.scope q2))))
q3)))))
def a_q04m : AFun:=⟨3,[.cell 6 (some 2),.t 7],P_q04m p_q04m_k2 p_q04m_k3,false,false⟩
def d_q04m (C : Hd) (gl : GL) (q2 q3 : ACode) (v0 v1 v2 : AV) (h : Heap) (x : Esc) (K : KT) : Prop:=
 alK [.p (.int .i64 0),.p (.int .i64 0)] h fun t1 h2 y3=>
 C f_q04b [v0,v1,v2] h2 fun t4 h5 y6=>
 pK (oLen t4) fun t7=>
 pK (oBin .eql t7 (AI 0)) fun t8=>
 condB t8 (pK (oBuild [.p (.int .i64 0),.p (.int .i64 0)] []) fun t9=>
 wK (oStore (some 2) t1 t9 h5) fun t10 h11 y12=>
 K .ret ⟨[(6,t1),(7,(AI 8))],h11,(y12 ++ (y6 ++ (y3 ++ x)))⟩)
 (pK (oLen t4) fun t13=>
 NW C gl (.loop (.scope q2)) ⟨[(6,t1),(8,t4),(9,(AI 0)),(20,t4),(21,t13),(22,(AI 0))],h5,(y6 ++ (y3 ++ x))⟩ (blockN 0 (seqN C gl q3 K)))
theorem E_q04m {C gl q2 q3 v0 v1 v2 h x K} : NW C gl (P_q04m q2 q3) ⟨enter [v0,v1,v2],h,x⟩ K = d_q04m C gl q2 q3 v0 v1 v2 h x K:=by kernel_rfl
theorem e_q04m {C gl v0 v1 v2 h x K} : NW C gl a_q04m.body ⟨enter [v0,v1,v2],h,x⟩ K = d_q04m C gl p_q04m_k2 p_q04m_k3 v0 v1 v2 h x K:=E_q04m
end Go.Am
end
