/- Texts of the proof, laid together: Am29, Am30, Am31, AmS, CodesA. -/
import Derived.KernelRfl
import Derived.Test.YtojjldhoodnjiaaGreatDoorlawPB4
set_option linter.all false
section
/- The abstract machine,part 29: its meaning once more,spelt so that a function's code can be printed asv a formula over its values (shallow),equal tov the deep one by computing. -/
set_option linter.unusedSimpArgs false
set_option linter.unusedVariables false
namespace Go.Am
def pK (o:Option AV) (k:AV→Prop):Prop:=match o with
 | some v=>k v
 | none=>False
def wK (o:Option (AV × Heap × Esc)) (k:AV→Heap→Esc→Prop):Prop:=match o with
 | some y=>k y.1 y.2.1 y.2.2
 | none=>False
def z0K (c a b:AV):Option AV:=match c with
 | .p (.bool t)=>some (bif t then a else b)
 | _=>none
def oBox (x:AV) (h:Heap):Option (AV × Heap × Esc):=match x.cells with
 | some cs=>some (.ref h.length 0,h++[.box cs],[])
 | none=>none
def zp7:List (Nat × Nat × AV)→List AV→Option (List AV)
 | [],cs=>some cs
 | (off,n,x)::r,cs=>match x.cells with
  | some vs=>if vs.length=n∧off+n≤cs.length then zp7 r (splice cs off vs) else none
  | none=>none
def z0y (z:List AV) (ps:List (Nat × Nat × AV)):Option AV:=(zp7 ps z).map mkA
def zp8 (sh:Sh):List (Nat × AV)→Heap→List PV→Option (List PV × Heap)
 | [],h,xs=>some (xs,h)
 | (i,x)::r,h,xs=>match pur h x with
  | some (v,h')=>if v.shp sh∧i<xs.length then zp8 sh r h' (xs.set i v) else none
  | none=>none
def oBsl (own:Bool) (sh:Sh) (n:Nat) (z:PV) (ps:List (Nat × AV)) (h:Heap):Option (AV × Heap × Esc):=match zp8 sh ps h (List.replicate n z) with
 | some (xs,h')=>if !z.shp sh then none else some (bif own then (.own h'.length n 0 n,h'++[.row sh xs 0],[]) else (.p (.sl sh xs),h',[]))
 | none=>none
def z0e (sh:Sh) (a:AV) (h:Heap):Option AV:=match a with
 | .ref id off=>match h[id]? with
  | some (.box cs)=>cut sh off cs
  | _=>none
 | .rref id g i off=>match h[id]? with
  | some (.row _ xs _)=>if g=xs.length then ((xs[i]?).bind (cutP sh off)).map .p else none
  | _=>none
 | .vp v=>(cutP sh 0 v).map .p
 | .bt k off id g=>ldA sh k off id g h
 | _=>none
def z0m (sh:Sh) (a x:AV) (h:Heap):Option (AV × Heap × Esc):=match a with
 | .ref id off=>match h[id]?,x.cells with
  | some (.box cs),some vs=>if vs.length=z0a sh∧off+vs.length≤cs.length then some (.und,h.set id (.box (splice cs off vs)),escS id cs x) else none
  | _,_=>none
 | .rref id g i off=>match pur h x with
  | some (v,h1)=>match h1[id]? with
   | some (.row rsh xs fz)=>if g=xs.length∧fz≤i∧v.cells.length=z0a sh∧v.cells.all PV.sc then match xs[i]? with
    | some (.agg cs)=>if off+v.cells.length≤cs.length then some (.und,h1.set id (.row rsh (xs.set i (.agg (splice cs off v.cells))) fz),[]) else none
    | some _=>if off=0∧v.sc then some (.und,h1.set id (.row rsh (xs.set i v) fz),[]) else none
    | none=>none
    else none
   | _=>none
  | none=>none
 | .bt k off id g=>stA sh k off id g x h
 | _=>none
def oNil (x:AV):Option AV:=match x with
 | .ref _ _ | .rref _ _ _ _ | .vp _ | .fn _ _=>some x
 | .bt k _ _ _=>nlA k x
 | _=>none
def oBin (op:BinOp) (x y:AV):Option AV:=match x,y with
 | .p a,.p b=>(abin op a b).map .p
 | _,_=>none
def oEqa (ks:List Nat) (neg:Bool) (x y:AV):Option AV:=match x,y with
 | .p (.agg asv),.p (.agg bs)=>if asv.map PV.kind=ks∧bs.map PV.kind=ks∧ks≠[] then (eqs asv bs).map fun t=>pbool (bif neg then !t else t) else none
 | .p (.bool a),.p (.bool b)=>if ks=[] then some (pbool (bif neg then !decide (a=b) else decide (a=b))) else none
 | _,_=>none
def zaX (k:Nat) (neg:Bool) (x:AV):Option AV:=bif z7B k x then some .anyb else (zqJ k x).map fun r=>pbool (bif neg then !r else r)
def oMkif (x:AV):Option AV:=if okIn x then some .ifc else none
def oUn (op:UnOp) (x:AV):Option AV:=match x with
 | .p a=>(aun op a).map .p
 | _=>none
def zcb (c:Cv) (x:AV) (h:Heap):Option (AV × Heap × Esc):=(z9T h c x).map fun y=>(y.1,y.2,[])
def z18 (k:IntKind) (x:AV):Option AV:=match x with
 | .p (.int _ n)=>some (.p (.int k (k.wrap n)))
 | _=>none
def zvy (sh:Sh) (z:PV) (len cap:AV) (h:Heap):Option (AV × Heap × Esc):=match z1k len,z1k cap with
 | some n,some m=>if n≤m∧m≤z0J∧z.shp sh then some (.own h.length n 0 n,h++[.row sh (List.replicate n z) 0],[]) else none
 | _,_=>none
def bndV (d:Nat):Option AV→Option Nat
 | none=>some d
 | some x=>z1k x
def z2j (x:AV) (lo hi:Option AV):Option AV:=match x with
 | .p (.str s)=>match bndV 0 lo,bndV s.length hi with
  | some l,some r=>if l≤r∧r≤s.length then some (.p (.str (win s l (r-l)))) else none
  | _,_=>none
 | _=>none
def zaY (sh:Sh) (x:AV) (lo hi mx:Option AV) (h:Heap):Option AV:=match x with
 | .p (.sl sh' xs)=>match bndV 0 lo,bndV xs.length hi,bndV xs.length mx with
  | some l,some r,some m=>if sh'=sh∧l≤r∧r≤m∧m≤xs.length then some (if mx.isSome∧m=l then .sl0 sh else .p (.sl sh (win xs l (r-l)))) else none
  | _,_,_=>none
 | .sl0 sh'=>match bndV 0 lo,bndV 0 hi,bndV 0 mx with
  | some l,some r,some m=>if l=0∧r=0∧m=0 then some (.sl0 sh') else none
  | _,_,_=>none
 | .own id g off len=>match h[id]? with
  | some (.row rsh xs _)=>match bndV 0 lo,bndV len hi,bndV len mx with
   | some l,some r,some m=>if rsh=sh∧g=xs.length∧off+len≤xs.length∧l≤r∧r≤m∧m≤len then some (if mx.isSome∧m=l then .sl0 sh else .own id g (off+l) (r-l)) else none
   | _,_,_=>none
  | _=>none
 | _=>none
def z0d (off:Nat) (sh:Sh) (x:AV):Option AV:=match x with
 | .ref id o=>some (.ref id (o+off))
 | .rref id g i o=>some (.rref id g i (o+off))
 | .vp v=>(cutP sh off v).map .vp
 | .bt k o id g=>faA k off o id g
 | _=>none
def z9e (off:Nat) (sh:Sh) (x:AV):Option AV:=match x with
 | .p v=>match v with
  | .agg _=>(cutP sh off v).map .p
  | _=>none
 | .agg cs=>cut sh off cs
 | _=>none
def z03 (sh:Sh) (x i:AV) (h:Heap):Option AV:=match x,z1k i with
 | .p (.sl sh' xs),some k=>if sh'=sh then (xs[k]?).map .vp else none
 | .own id g off len,some k=>match h[id]? with
  | some (.row rsh xs _)=>if rsh=sh∧g=xs.length∧off+len≤xs.length∧k<len then some (.rref id g (off+k) 0) else none
  | _=>none
 | .bt kk _ id g,some k=>iaA sh kk id g k h
 | _,_=>none
def z58 (n:Nat) (sh:Sh) (x i:AV):Option AV:=match x,z1k i with
 | .ref id o,some k=>if k<n then some (.ref id (o+k*z0a sh)) else none
 | .rref id g j o,some k=>if k<n then some (.rref id g j (o+k*z0a sh)) else none
 | .vp v,some k=>if k<n then (cutP sh (k*z0a sh) v).map .vp else none
 | _,_=>none
def zcc (n:Nat) (sh:Sh) (x i:AV):Option AV:=match x,z1k i with
 | .p (.agg cs),some k=>if k<n then (cutP sh (k*z0a sh) (.agg cs)).map .p else none
 | _,_=>none
def z1L (x i:AV):Option AV:=match x,z1k i with
 | .p (.str s),some k=>(s[k]?).map fun b=>.p (.int .u8 b.toNat)
 | _,_=>none
def oExt (x:AV) (i:Nat):Option AV:=match x with
 | .tup vs=>vs[i]?
 | _=>none
def oLen (x:AV):Option AV:=match x with
 | .p (.sl _ xs)=>some (pint xs.length)
 | .sl0 _=>some (pint 0)
 | .own _ _ _ len=>some (pint len)
 | .bt k _ _ g=>lnA k g
 | _=>none
def z0C (x:AV):Option AV:=match x with
 | .p (.str s)=>some (pint s.length)
 | _=>none
def oApp (sh:Sh) (s x:AV) (h:Heap):Option (AV × Heap × Esc):=match rds h x with
 | some (sh',ys)=>if sh'=sh then match s with
  | .sl0 _=>if ys.length≤z0J then some (.own h.length ys.length 0 ys.length,h++[.row sh ys 0],[]) else none
  | .own id g off len=>match h[id]? with
   | some (.row rsh xs fz)=>if rsh=sh∧g=xs.length∧off=0∧len=xs.length∧len+ys.length≤z0J∧fz≤xs.length then some (.own id (g+ys.length) off (len+ys.length),h.set id (.row sh (xs++ys) fz),[])
    else if rsh=sh∧g=xs.length∧off+len+ys.length≤xs.length∧fz≤off+len∧1≤ys.length∧len+ys.length≤z0J∧sh=none∧xs.all PV.intP=true∧ys.all PV.intP=true then
     some (.p (.sl sh (win xs off len++ys)),h.set id (.row sh (splice xs (off+len) (List.replicate ys.length .unk)) (off+len+ys.length)),[])
    else none
   | _=>none
  | _=>none
  else none
 | none=>none
def oCopy (sh:Sh) (d s:AV) (h:Heap):Option (AV × Heap × Esc):=match d,rds h s with
 | .own id g off len,some (sh',ys)=>match h[id]? with
  | some (.row rsh xs fz)=>if rsh=sh∧sh'=sh∧g=xs.length∧off+len≤xs.length∧fz≤off then
   some (pint (min ys.length len),h.set id (.row sh (splice xs off (ys.take (min ys.length len))) fz),[])
   else none
  | _=>none
 | _,_=>none
def oClr (sh:Sh) (z:PV) (x:AV) (h:Heap):Option (AV × Heap × Esc):=match x with
 | .sl0 _=>some (.tup [],h,[])
 | .own id g off len=>match h[id]? with
  | some (.row rsh xs fz)=>if rsh=sh∧g=xs.length∧off+len≤xs.length∧fz≤off then
   some (.tup [],h.set id (.row sh (splice xs off (List.replicate len z)) fz),[])
   else none
  | _=>none
 | _=>none
def oMx (xs:List AV):Option AV:=match xs with
 | .p a::r=>((unp r).bind fun l=>l.foldlM zm2 a).map .p
 | _=>none
def oMn (xs:List AV):Option AV:=match xs with
 | .p a::r=>((unp r).bind fun l=>l.foldlM zm3 a).map .p
 | _=>none
def z7F (kk:Sh × List Nat) (ok:Bool) (z x k:AV) (h:Heap):Option AV:=match z5k kk k with
 | some key=>match (match x with | .nilm=>some [] | m=>(mget h m).map fun y=>y.2.1) with
  | some es=>match z2B key es with
   | some r=>
    let v:=((r.bind (es[·]?)).map ME.val)
    some (bif ok then .tup [v.getD z,pbool v.isSome] else v.getD z)
   | none=>none
  | none=>none
 | none=>none
def zcf (kk:Sh × List Nat) (m k x:AV) (h:Heap):Option (AV × Heap × Esc):=match z5k kk k,mget h m,okIn x with
 | some key,some (id,es,c),true=>match z2B key es with
  | some (some i)=>some (.und,h.set id (.amap (es.modify i fun e=>{ e with val:=x }) c),z3c id x)
  | some none=>some (.und,h.set id (.amap (es++[⟨key,x,c⟩]) (c+1)),z3c id x)
  | none=>none
 | _,_,_=>none
def oMent (kk:Sh × List Nat) (z m k:AV) (h:Heap):Option (AV × Heap × Esc):=match z5k kk k,mget h m with
 | some key,some (id,es,c)=>match z2B key es with
  | some (some i)=>(es[i]?).map fun e=>(.tup [e.val,pint e.born],h,[])
  | some none=>some (.tup [z,pint c],h.set id (.amap (es++[⟨key,z,c⟩]) (c+1)),[])
  | none=>none
 | _,_=>none
def zqN (m s x:AV) (h:Heap):Option (AV × Heap × Esc):=match mget h m,z1k s,okIn x with
 | some (id,es,c),some b,true=>match es.findIdx? (fun e=>e.born==b) with
  | some i=>some (.und,h.set id (.amap (es.modify i fun e=>{ e with val:=x }) c),z3c id x)
  | none=>none
 | _,_,_=>none
def oMdel (kk:Sh × List Nat) (m k:AV) (h:Heap):Option (AV × Heap × Esc):=match z5k kk k,mget h m with
 | some key,some (id,es,c)=>match z2B key es with
  | some (some i)=>some (.und,h.set id (.amap (es.eraseIdx i) c),[])
  | some none=>some (.und,h,[])
  | none=>none
 | _,_=>none
def y0m (x:AV) (h:Heap):Option AV:=match x with
 | .nilm=>some (pint 0)
 | .mp id=>(mget h (.mp id)).map fun y=>pint y.2.1.length
 | _=>none
def zce (x:AV) (h:Heap):Option (AV × Heap × Esc):=match mget h x with
 | some (id,_,c)=>some (.it h.length,h++[.iter (some id) c [] c],[])
 | none=>match x with
  | .nilm=>some (.it h.length,h++[.iter none 0 [] 0],[])
  | _=>none
def zcd (i:AV) (h:Heap):Option (AV × Heap × Esc):=match i with
 | .it id=>match h[id]? with
  | some (.iter (some m) _ seen last)=>match mget h (.mp m),seen.getLast? with
   | some (_,es,c),some b=>if c=last then (es.find? (fun e=>e.born==b)).map fun e=>(.tup [.p e.key,e.val],h,[]) else none
   | _,_=>none
  | _=>none
 | _=>none
def alK (z:List AV) (h:Heap) (k:AV→Heap→Esc→Prop):Prop:=k (.ref h.length 0) (h++[.box z]) []
def nwK (sh:Sh) (h:Heap) (k:AV→Heap→Esc→Prop):Prop:=k (.own h.length 0 0 0) (h++[.row sh [] 0]) []
def mmK (h:Heap) (k:AV→Heap→Esc→Prop):Prop:=k (.mp h.length) (h++[.amap [] 0]) []
def ev3 (ev:Opd→AV):List (Nat × Nat × Opd)→List (Nat × Nat × AV)
 | []=>[]
 | (a,b,x)::r=>(a,b,ev x)::ev3 ev r
def ev2 (ev:Opd→AV):List (Nat × Opd)→List (Nat × AV)
 | []=>[]
 | (a,x)::r=>(a,ev x)::ev2 ev r
def evO (ev:Opd→AV):Option Opd→Option AV
 | none=>none
 | some x=>some (ev x)
def ev1 (ev:Opd→AV):List Opd→List AV
 | []=>[]
 | x::r=>ev x::ev1 ev r
def opN (o:AO) (ev:Opd→AV) (h:Heap) (k:AV→Heap→Esc→Prop):Prop:=match o with
 | .mv x=>k (ev x) h []
 | .pick c a b=>pK (z0K (ev c) (ev a) (ev b)) fun v=>k v h []
 | .alloc z=>alK z h k
 | .box x=>wK (oBox (ev x) h) k
 | .build z ps=>pK (z0y z (ev3 ev ps)) fun v=>k v h []
 | .bsl own sh n z ps=>wK (oBsl own sh n z (ev2 ev ps) h) k
 | .load sh a=>pK (z0e sh (ev a) h) fun v=>k v h []
 | .store sh a x=>wK (z0m sh (ev a) (ev x) h) k
 | .nilchk x=>pK (oNil (ev x)) fun v=>k v h []
 | .bin op x y=>pK (oBin op (ev x) (ev y)) fun v=>k v h []
 | .eqa ks neg x y=>pK (oEqa ks neg (ev x) (ev y)) fun v=>k v h []
 | .isnil n neg x=>pK (zaX n neg (ev x)) fun v=>k v h []
 | .mkif x=>pK (oMkif (ev x)) fun v=>k v h []
 | .un op x=>pK (oUn op (ev x)) fun v=>k v h []
 | .conv (.i c) x=>pK (z18 c (ev x)) fun v=>k v h []
 | .mkfn f caps=>k (.fn f (ev1 ev caps)) h []
 | .slice sh x lo hi mx=>pK (zaY sh (ev x) (evO ev lo) (evO ev hi) (evO ev mx) h) fun v=>k v h []
 | .slstr x lo hi=>pK (z2j (ev x) (evO ev lo) (evO ev hi)) fun v=>k v h []
 | .mksl sh z len cap=>wK (zvy sh z (ev len) (ev cap) h) k
 | .faddr off sh x=>pK (z0d off sh (ev x)) fun v=>k v h []
 | .field off sh x=>pK (z9e off sh (ev x)) fun v=>k v h []
 | .iaddr sh x i=>pK (z03 sh (ev x) (ev i) h) fun v=>k v h []
 | .iaddra n sh x i=>pK (z58 n sh (ev x) (ev i)) fun v=>k v h []
 | .idxa n sh x i=>pK (zcc n sh (ev x) (ev i)) fun v=>k v h []
 | .idxs x i=>pK (z1L (ev x) (ev i)) fun v=>k v h []
 | .ext x i=>pK (oExt (ev x) i) fun v=>k v h []
 | .len x=>pK (oLen (ev x)) fun v=>k v h []
 | .lens x=>pK (z0C (ev x)) fun v=>k v h []
 | .app sh s x=>wK (oApp sh (ev s) (ev x) h) k
 | .copy sh d s=>wK (oCopy sh (ev d) (ev s) h) k
 | .uns m t xs=>wK (z13 m t (ev1 ev xs) h) k
 | .clr sh z x=>wK (oClr sh z (ev x) h) k
 | .mx xs=>pK (oMx (ev1 ev xs)) fun v=>k v h []
 | .mn xs=>pK (oMn (ev1 ev xs)) fun v=>k v h []
 | .new0 sh=>nwK sh h k
 | .conv .s2b x=>wK (zcb .s2b (ev x) h) k
 | .conv .b2s x=>wK (zcb .b2s (ev x) h) k
 | .conv .r2s x=>wK (zcb .r2s (ev x) h) k
 | .conv .same x=>wK (zcb .same (ev x) h) k
 | .mkmap=>mmK h k
 | .look kk ok z x key=>pK (z7F kk ok z (ev x) (ev key) h) fun v=>k v h []
 | .mupd kk m key x=>wK (zcf kk (ev m) (ev key) (ev x) h) k
 | .ment kk z m key=>wK (oMent kk z (ev m) (ev key) h) k
 | .estore m s x=>wK (zqN (ev m) (ev s) (ev x) h) k
 | .mdel kk m key=>wK (oMdel kk (ev m) (ev key) h) k
 | .lenm x=>pK (y0m (ev x) h) fun v=>k v h []
 | .mrange x=>wK (zce (ev x) h) k
 | .mentry i=>wK (zcd (ev i) h) k
 | .call _ _ | .callv _ _ | .mnext _ _=>False
theorem zyA {o:Option (AV × Heap × Esc)} {k:AV→Heap→Esc→Prop}:optK o k=wK o k:=rfl
theorem z5v {o:Option AV} {h:Heap} {k:AV→Heap→Esc→Prop}:wK (o.map fun v=>(v,h,[])) k=pK o fun v=>k v h []:=by cases o <;> rfl
theorem zhC (ev:Opd→AV):∀ (ps:List (Nat × Nat × Opd)) (z:List AV),zbS ev ps z=zp7 (ev3 ev ps) z
 | [],z=>rfl
 | (off,n,x)::r,z=>by
  simp only[zbS,ev3,zp7]
  cases (ev x).cells with
  | none=>rfl
  | some vs=>simp only[zhC ev r]
theorem zhD (ev:Opd→AV) (sh:Sh):∀ (ps:List (Nat × Opd)) (h:Heap) (z:List PV),zbT ev sh ps h z=zp8 sh (ev2 ev ps) h z
 | [],h,z=>rfl
 | (i,x)::r,h,z=>by
  simp only[zbT,ev2,zp8]
  cases pur h (ev x) with
  | none=>rfl
  | some y=>simp only[zhD ev sh r]
theorem zxj (ev:Opd→AV) (d:Nat) (o:Option Opd):bnd ev d o=bndV d (evO ev o):=by cases o <;> rfl
theorem zuR (ev:Opd→AV) (o:Option Opd):(evO ev o).isSome=o.isSome:=by cases o <;> rfl
theorem z5X (ev:Opd→AV) (l:List Opd):l.map ev=ev1 ev l:=by
 induction l with
 | nil=>rfl
 | cons x r ih=>simp only[List.map_cons,ev1,ih]
theorem asl_eq (sh:Sh) (ev:Opd→AV) (h:Heap) (x:AV) (lo hi mx:Option Opd):asl sh ev h x lo hi mx=zaY sh x (evO ev lo) (evO ev hi) (evO ev mx) h:=by
 unfold asl zaY
 simp only[zxj,zuR]
 rfl
theorem z7r {p:Prop} [Decidable p] {a:AV} {h:Heap} {k:AV→Heap→Esc→Prop}:wK (if p then some (a,h,[]) else none) k=pK (if p then some a else none) fun v=>k v h []:=by split <;> rfl
theorem z2O {α:Type} {o:Option α} {f:α→AV} {h:Heap} {k:AV→Heap→Esc→Prop}:wK (o.map fun v=>(f v,h,[])) k=pK (o.map f) fun v=>k v h []:=by cases o <;> rfl
theorem z2N {α:Type} {p:Prop} [Decidable p] {o:Option α} {f:α→AV} {h:Heap} {k:AV→Heap→Esc→Prop}:wK (if p then o.map (fun v=>(f v,h,[])) else none) k=pK (if p then o.map f else none) fun v=>k v h []:=by
 split
 ·exact z2O
 ·rfl
theorem zqP {o:AO} (hp:o.plain=true) {ev:Opd→AV} {h:Heap} {k:AV→Heap→Esc→Prop}:optK (aop o ev h) k=opN o ev h k:=by
 rw[zyA]
 cases o <;> first | (cases hp;done) | skip
 case mv=>rfl
 case pick c a b=>
  simp only[aop,opN,z0K]
  generalize ev c=v
  cases v <;> try rfl
  rename_i p;cases p <;> rfl
 case alloc=>rfl
 case box=>rfl
 case build z ps=>simp only[aop,opN];rw[← z5v,z0y,zhC,Option.map_map];rfl
 case bsl=>simp only[aop,opN,oBsl,zhD];rfl
 case load sh a=>
  simp only[aop,opN,z0e]
  generalize ev a=v
  cases v with
  | ref id off=>dsimp only;cases h[id]? with
   | none=>rfl
   | some o=>cases o <;> first | rfl | exact z5v
  | rref id g i off=>dsimp only;cases h[id]? with
   | none=>rfl
   | some o=>cases o <;> first | rfl | exact z2N
  | vp v=>exact z2O
  | p v=>cases v <;> rfl
  | bt _ _ _ _=>exact z5v
  | _=>rfl
 case store=>simp only[aop,opN];rfl
 case nilchk x=>
  simp only[aop,opN,oNil]
  generalize ev x=v
  cases v <;> try rfl
  exact z5v
 case bin op x y=>
  simp only[aop,opN,oBin]
  generalize ev x=v
  generalize ev y=u
  cases v <;> try rfl
  cases u <;> try rfl
  exact z2O
 case eqa ks neg x y=>
  simp only[aop,opN,oEqa]
  generalize ev x=v
  generalize ev y=u
  cases v <;> try rfl
  rename_i p
  cases p <;> try rfl
  all_goals (cases u <;> try rfl)
  all_goals (rename_i q;cases q <;> try rfl)
  ·exact z7r
  ·exact z2N
 case isnil k neg p=>
  simp only[aop,opN,zaX]
  cases z7B k (ev p) with
  | true=>rfl
  | false=>exact z2O
 case mkif=>exact z7r
 case un op x=>
  simp only[aop,opN,oUn]
  generalize ev x=v
  cases v <;> try rfl
  exact z2O
 case conv c x=>
  cases c
  case i k'=>
   simp only[aop,opN,z18,z9T]
   generalize ev x=v
   cases v <;> try rfl
   rename_i p;cases p <;> rfl
  all_goals rfl
 case mkfn f caps=>simp only[aop,opN,z5X];rfl
 case slice=>simp only[aop,opN,asl_eq];exact z5v
 case slstr x lo hi=>
  simp only[aop,opN,z2j,zxj]
  generalize ev x=v
  cases v <;> try rfl
  rename_i p;cases p <;> try rfl
  rename_i s
  dsimp only
  generalize bndV 0 _=o1
  generalize bndV s.length _=o2
  cases o1 <;> try rfl
  cases o2 <;> try rfl
  exact z7r
 case mksl=>simp only[aop,opN];rfl
 case faddr off sh x=>
  simp only[aop,opN,z0d]
  generalize ev x=v
  cases v <;> try rfl
  ·exact z2O
  ·exact z5v
 case field off sh x=>
  simp only[aop,opN,z9e]
  generalize ev x=v
  cases v <;> try rfl
  ·rename_i p;cases p <;> try rfl
   exact z2O
  ·exact z5v
 case iaddr sh x i=>
  simp only[aop,opN,z03]
  generalize ev x=v
  generalize z1k (ev i)=n
  cases v <;> try rfl
  ·rename_i p;cases p <;> try rfl
   cases n <;> try rfl
   exact z2N
  ·cases n <;> try rfl
   rename_i id g off len k
   dsimp only
   cases h[id]? with
   | none=>rfl
   | some o=>cases o <;> first | rfl | exact z7r
  ·cases n <;> try rfl
   exact z5v
 case iaddra m sh x i=>
  simp only[aop,opN,z58]
  generalize ev x=v
  generalize z1k (ev i)=n
  cases v <;> try rfl
  all_goals (cases n <;> try rfl)
  ·exact z7r
  ·exact z7r
  ·exact z2N
 case idxa m sh x i=>
  simp only[aop,opN,zcc]
  generalize ev x=v
  generalize z1k (ev i)=n
  cases v <;> try rfl
  rename_i p;cases p <;> try rfl
  cases n <;> try rfl
  exact z2N
 case idxs x i=>
  simp only[aop,opN,z1L]
  generalize ev x=v
  generalize z1k (ev i)=n
  cases v <;> try rfl
  rename_i p;cases p <;> try rfl
  cases n <;> try rfl
  exact z2O
 case ext x i=>
  simp only[aop,opN,oExt]
  generalize ev x=v
  cases v <;> try rfl
  exact z5v
 case len x=>
  simp only[aop,opN,oLen]
  generalize ev x=v
  cases v <;> try rfl
  ·rename_i p;cases p <;> rfl
  ·exact z5v
 case lens x=>
  simp only[aop,opN,z0C]
  generalize ev x=v
  cases v <;> try rfl
  rename_i p;cases p <;> rfl
 case app=>simp only[aop,opN];rfl
 case copy=>simp only[aop,opN];rfl
 case uns=>simp only[aop,opN,z5X,zyA]
 case clr=>simp only[aop,opN];rfl
 case mx xs=>
  simp only[aop,opN,z5X,oMx]
  generalize ev1 ev xs=l
  cases l <;> try rfl
  rename_i v r
  cases v <;> try rfl
  exact z2O
 case mn xs=>
  simp only[aop,opN,z5X,oMn]
  generalize ev1 ev xs=l
  cases l <;> try rfl
  rename_i v r
  cases v <;> try rfl
  exact z2O
 case new0=>rfl
 case look kk ok z x key=>
  simp only[aop,opN,z7F]
  cases z5k kk (ev key) <;> try rfl
  rename_i kk
  generalize ev x=v
  cases v <;> try rfl
  rename_i id
  dsimp only
  cases mget h (.mp id) <;> try rfl
  rename_i y
  dsimp only[Option.map_some]
  cases z2B kk y.2.1 <;> rfl
 case lenm x=>
  simp only[aop,opN,y0m]
  generalize ev x=v
  cases v <;> try rfl
  exact z2O
 all_goals rfl
end Go.Am
end
section
/- The abstract machine,part 30: the meaning of code in the new spelling,and that it is the old one. -/
set_option linter.unusedSimpArgs false
set_option linter.unusedVariables false
namespace Go.Am
def gV (v:AV) (b:Bool) (h:Heap) (A:(AV→Heap→Esc→Prop)→Prop) (k:AV→Heap→Esc→Prop):Prop:=z3e v b (A k) (k .skp h [])
def gP (v:AV) (b:Bool) (o:Option AV) (h:Heap) (k:AV→Heap→Esc→Prop):Prop:=gV v b h (fun k=>pK o fun u=>k u h []) k
def gM (v:AV) (b:Bool) (u:AV) (h:Heap) (k:AV→Heap→Esc→Prop):Prop:=gV v b h (fun k=>k u h []) k
def upB (b:Bool):Bool:=(fun (_:AV→Bool→Option AV→Heap→(AV→Heap→Esc→Prop)→Prop)=>b) gP
def gK (g:Option (Nat × Bool)) (e:List (Nat × AV)) (h:Heap) (A:(AV→Heap→Esc→Prop)→Prop) (k:AV→Heap→Esc→Prop):Prop:=match g with
 | none=>A k
 | some (t,b)=>gV (aget e t) b h A k
def opC (C:Hd) (o:AO) (ev:Opd→AV) (h:Heap) (k:AV→Heap→Esc→Prop):Prop:=match o with
 | .call f args=>C f (ev1 ev args) h k
 | .callv f args=>z8c C (ev f) (ev1 ev args) h k
 | .mnext sh xs=>match z52 h sh (ev1 ev xs) with
  | some l=>l≠[]∧∀ y∈l,k y.1 y.2 []
  | none=>False
 | o=>opN o ev h k
def NReg (C:Hd) (gl:Nat→Option PV):List AOp→List (Nat × AV)→Heap→Esc→(List (Nat × AV)→Heap→Esc→Prop)→Prop
 | [],e,h,x,L=>L e h x
 | o::r,e,h,x,L=>gK o.guard e h (opC C o.op (Opd.ev gl e) h) fun v h' x'=>NReg C gl r (put o.dst v e) h' (x'++x) L
variable {C:Hd} {gl:Nat→Option PV}
theorem zie {o:AO} {d:Option Nat} {r:List AOp} {e:List (Nat × AV)} {h:Heap} {x:Esc} {L:List (Nat × AV)→Heap→Esc→Prop} :
 AReg C gl (⟨d,none,o⟩::r) e h x L=opC C o (Opd.ev gl e) h (z0U C gl r d e x L):=by
 cases hp:o.plain with
 | true=>
  rw[z0x hp,zqP hp]
  cases o <;> first | rfl | cases hp
 | false=>
  cases o <;> first | (cases hp;done) | skip
  all_goals first
   | (rw[zc5,z5X];rfl)
   | (rw[z7T,z5X];rfl)
   | (unfold AReg opC;simp only[wanted,z5X];rfl)
theorem zlb:∀ (ops:List AOp) (e:List (Nat × AV)) (h:Heap) (x:Esc) (L:List (Nat × AV)→Heap→Esc→Prop),AReg C gl ops e h x L=NReg C gl ops e h x L
 | [],e,h,x,L=>rfl
 | ⟨d,g,o⟩::r,e,h,x,L=>by
  have ih:(fun (v:AV) (h':Heap) (x':Esc)=>NReg C gl r (put d v e) h' (x'++x) L)=z0U C gl r d e x L:=by
   funext v h' x';rw[← zlb r];rfl
  show _=gK g e h (opC C o (Opd.ev gl e) h) fun v h' x'=>NReg C gl r (put d v e) h' (x'++x) L
  rw[ih]
  cases g with
  | none=>exact zie
  | some tb=>
   obtain⟨t,b⟩:=tb
   rw[zab,zie];rfl
def opE (C:Hd) (o:AO) (ev:Opd→AV) (h:Heap) (k:AV→Heap→Esc→Prop):Prop:=match o with
 | .call f args=>z1Q C f (ev1 ev args) h k
 | .callv f args=>zaj C (ev f) (ev1 ev args) h k
 | .mnext _ _=>False
 | o=>opN o ev h k
def effN (still eff:Bool) (h h':Heap) (y:Esc) (Q:Prop):Prop:=match upB eff with
 | true=>Q
 | false=>match still with
  | true=>Q
  | false=>(h'=h∧y=[])∧Q
def y0C (C:Hd) (gl:Nat→Option PV) (q:AOp × List (Nat × AV) × AV) (g:Heap):Prop:=
 gK q.1.guard q.2.1 g (opE C q.1.op (Opd.ev gl q.2.1) g) fun v1 h1 x1=>v1=q.2.2∧h1=g∧x1=[]
def z7s (C:Hd) (gl:Nat→Option PV) (h:Heap) (dn:Done) (Q:Prop):List Nat→Prop
 | []=>Q
 | j::r=>(match dn[j]? with | some q=>y0C C gl q h | none=>False)∧z7s C gl h dn Q r
def z7y (C:Hd) (gl:Nat→Option PV) (o:AOp) (e:List (Nat × AV)) (v:AV) (hs:List Heap) (Q:Prop):List Nat→Prop
 | []=>Q
 | k::r=>(match hs[k]? with | some g=>y0C C gl (o,e,v) g | none=>False)∧z7y C gl o e v hs Q r
def zji (C:Hd) (gl:Nat→Option PV):List DOp→Done→List Heap→List (Nat × AV)→Heap→Esc→(List (Nat × AV)→Heap→Esc→Prop)→Prop
 | [],_,_,e,h,x,L=>L e h x
 | o::r,dn,hs,e,h,x,L=>gK o.op.guard (z0E (some o.rd) e) h (opE C o.op.op (Opd.ev gl (z0E (some o.rd) e)) h) fun v h' y=>
  effN o.op.op.still o.eff h h' y (z7y C gl o.op (z0E (some o.rd) e) v hs (z7s C gl h' dn (zji C gl r (dn++[(o.op,z0E (some o.rd) e,v)]) (hs++[h]) (put o.op.dst v e) h' (y++x) L) o.again) o.early)
theorem zqO {o:AO} {d:Option Nat} {e:List (Nat × AV)} {h:Heap} {R:AV→Heap→Esc→Prop}:doK C gl ⟨d,none,o⟩ e h R=opE C o (Opd.ev gl e) h R:=by
 cases hp:o.plain with
 | true=>
  rw[z0D hp,zqP hp]
  cases o <;> first | rfl | cases hp
 | false=>
  cases o <;> first | (cases hp;done) | skip
  all_goals first
   | (rw[zh3,z5X];rfl)
   | (rw[zaq,z5X];rfl)
   | (unfold doK ADo opE;simp [wanted])
theorem zyu {o:AOp} {e:List (Nat × AV)} {h:Heap} {R:AV→Heap→Esc→Prop}:doK C gl o e h R=gK o.guard e h (opE C o.op (Opd.ev gl e) h) R:=by
 obtain⟨d,g,op⟩:=o
 cases g with
 | none=>exact zqO
 | some tb=>
  obtain⟨t,b⟩:=tb
  rw[ze1,zqO];rfl
theorem zi4 {q:AOp × List (Nat × AV) × AV} {g:Heap}:doS C gl q g=y0C C gl q g:=by
 obtain⟨⟨d,gd,op⟩,e,v⟩:=q
 rw[zxu,zyu];rfl
theorem zcU {h:Heap} {dn:Done} {Q:Prop}:∀ {l:List Nat},z7s C gl h dn Q l=(agK C gl h dn l∧Q)
 | []=>by simp [z7s,agK]
 | j::r=>by
  unfold z7s agK
  rw[zcU (l:=r)]
  cases dn[j]? with
  | none=>simp
  | some q=>simp only[zi4,and_assoc]
theorem ze3 {o:AOp} {e:List (Nat × AV)} {v:AV} {hs:List Heap} {Q:Prop}:∀ {l:List Nat},z7y C gl o e v hs Q l=(eaK C gl o e v hs l∧Q)
 | []=>by simp [z7y,eaK]
 | j::r=>by
  unfold z7y eaK
  rw[ze3 (l:=r)]
  cases hs[j]? with
  | none=>simp
  | some q=>simp only[zi4,and_assoc]
theorem znD {o:AOp} (hs:o.op.still=true) {e:List (Nat × AV)} {h:Heap} {R:AV→Heap→Esc→Prop}:doK C gl o e h (fun v h' y=>(h'=h∧y=[])∧R v h' y)=doK C gl o e h R:=by
 unfold doK
 refine propext ⟨fun ⟨v,h',y,H,_,r⟩=>⟨v,h',y,H,r⟩,fun ⟨v,h',y,H,r⟩=>⟨v,h',y,H,zks hs H,r⟩⟩
theorem zg3:∀ (ds:List DOp) (dn:Done) (hs:List Heap) (e:List (Nat × AV)) (h:Heap) (x:Esc) (L:List (Nat × AV)→Heap→Esc→Prop),z2s C gl ds dn hs e h x L=zji C gl ds dn hs e h x L
 | [],dn,hs,e,h,x,L=>rfl
 | ⟨o,rd,eff,early,again⟩::r,dn,hs,e,h,x,L=>by
  rw[z9Y]
  show _=gK o.guard (z0E (some rd) e) h (opE C o.op (Opd.ev gl (z0E (some rd) e)) h) fun v h' y=>
   effN o.op.still eff h h' y (z7y C gl o (z0E (some rd) e) v hs (z7s C gl h' dn (zji C gl r (dn++[(o,z0E (some rd) e,v)]) (hs++[h]) (put o.dst v e) h' (y++x) L) again) early)
  rw[← zyu]
  have e1:zuM C gl ⟨o,rd,eff,early,again⟩ r dn hs e h x L=fun v h' y=>(effK eff h h' y∧z7y C gl o (z0E (some rd) e) v hs (z7s C gl h' dn (zji C gl r (dn++[(o,z0E (some rd) e,v)]) (hs++[h]) (put o.dst v e) h' (y++x) L) again) early):=by
   funext v h' y
   rw[ze2,ze3,zcU,← zg3 r]
  rw[e1]
  cases eff with
  | true=>
   congr 1;funext v h' y
   simp [effK,effN,upB]
  | false=>
   cases hs':o.op.still with
   | true=>
    have:=znD (C:=C) (gl:=gl) (o:=o) hs' (e:=z0E (some rd) e) (h:=h) (R:=fun v h' y=>z7y C gl o (z0E (some rd) e) v hs (z7s C gl h' dn (zji C gl r (dn++[(o,z0E (some rd) e,v)]) (hs++[h]) (put o.dst v e) h' (y++x) L) again) early)
    exact this
   | false=>rfl
def NW (C:Hd) (gl:Nat→Option PV):ACode→St→(Ex→St→Prop)→Prop
 | .skip,s,K=>K .normal s
 | .reg ops keep,s,K=>NReg C gl ops s.env s.h s.esc fun e h x=>K .normal ⟨z0E keep e,h,x⟩
 | .draw ds keep,s,K=>zji C gl ds [] [] s.env s.h s.esc fun e h x=>K .normal ⟨z0E keep e,h,x⟩
 | .seq a b,s,K=>NW C gl a s fun e s'=>match e with
  | .normal=>NW C gl b s' K
  | .exit i=>K (.exit i) s'
  | .ret=>K .ret s'
 | .cond c a b,s,K=>z0i (Opd.ev gl s.env c) (NW C gl a s K) (NW C gl b s K)
 | .condu c a b,s,K=>zmU (Opd.ev gl s.env c) (NW C gl a s K) (NW C gl b s K)
 | .det b,s,K=>NW C gl b s K
 | .block id b,s,K=>NW C gl b s fun e s'=>match e with
  | .normal=>K .normal s'
  | .exit i=>bif Nat.beq i id then K .normal s' else K (.exit i) s'
  | .ret=>K .ret s'
 | .loop b,s,K=>ALoop (NW C gl b) K s
 | .scope b,s,K=>NW C gl b ⟨s.env,s.h,[]⟩ fun e s'=>K e (z9X s.h.length s.esc s')
 | .pr l b,s,K=>NW C gl b ⟨z0E (some l) s.env,s.h,s.esc⟩ K
 | .exit id,s,K=>K (.exit id) s
 | .ret,s,K=>K .ret s
 | .bad,_,_=>False
theorem z5F:∀ (c:ACode) (s:St) (K:Ex→St→Prop),AW C gl c s K=NW C gl c s K
 | .skip,s,K=>rfl
 | .reg ops keep,s,K=>zlb _ _ _ _ _
 | .draw ds keep,s,K=>zg3 _ _ _ _ _ _ _
 | .seq a b,s,K=>by
  unfold AW NW
  rw[z5F a]
  congr 1;funext e s'
  cases e with
  | normal=>exact z5F b s' K
  | _=>rfl
 | .cond c a b,s,K=>by
  unfold AW NW z0i
  rw[← z5F a,← z5F b]
  rfl
 | .condu c a b,s,K=>by
  unfold AW NW zmU
  rw[← z5F a,← z5F b]
  rfl
 | .det b,s,K=>z5F b s K
 | .block id b,s,K=>by
  unfold AW NW
  rw[z5F b]
  congr 1;funext e s'
  cases e with
  | exit i=>
   dsimp only
   by_cases hi:i=id
   ·subst hi;simp
   ·rw[if_neg hi]
    have:Nat.beq i id=false:=by cases h:Nat.beq i id with | false=>rfl | true=>exact absurd (Nat.eq_of_beq_eq_true h) hi
    rw[this];rfl
  | _=>rfl
 | .loop b,s,K=>by
  show ALoop (AW C gl b) K s=ALoop (NW C gl b) K s
  rw[show AW C gl b=NW C gl b from funext fun s=>funext fun K=>z5F b s K]
 | .scope b,s,K=>z5F b _ _
 | .pr l b,s,K=>z5F b _ _
 | .exit id,s,K=>rfl
 | .ret,s,K=>rfl
 | .bad,s,K=>rfl
end Go.Am
end
section
/- The abstract machine,part 31: words in which a function's code is printed,and the rules of computing over them. -/
set_option linter.unusedSimpArgs false
set_option linter.unusedVariables false
namespace Go.Am
variable {C:Hd} {gl:Nat→Option PV} {e:List (Nat × AV)} {h:Heap} {x:Esc} {K:Ex→St→Prop} {s:St}
abbrev AI (n:Int):AV:=.p (.int .i64 n)
abbrev AB (b:Bool):AV:=.p (.bool b)
def seqN (C:Hd) (gl:Nat→Option PV) (b:ACode) (K:Ex→St→Prop) (e:Ex) (s:St):Prop:=match e with
 | .normal=>NW C gl b s K
 | .exit i=>K (.exit i) s
 | .ret=>K .ret s
def z0t (id:Nat) (K:Ex→St→Prop) (e:Ex) (s:St):Prop:=match e with
 | .normal=>K .normal s
 | .exit i=>bif Nat.beq i id then K .normal s else K (.exit i) s
 | .ret=>K .ret s
def nqK (sh:Option Sh) (l:List AV) (h:Heap) (k:AV→Heap→Esc→Prop):Prop:=match z52 h sh l with
 | some l=>l≠[]∧∀ y∈l,k y.1 y.2 []
 | none=>False
def gv (gl:Nat→Option PV) (n:Nat):AV:=match gl n with | some v=>.vp v | none=>.und
theorem z3W {b:ACode}:seqN C gl b K .normal s=NW C gl b s K:=(rfl)
theorem zfy {b:ACode} {i:Nat}:seqN C gl b K (.exit i) s=K (.exit i) s:=(rfl)
theorem ziB {b:ACode}:seqN C gl b K .ret s=K .ret s:=(rfl)
theorem z5I {i:Nat}:z0t i K .normal s=K .normal s:=(rfl)
theorem z3J {i:Nat}:z0t i K (.exit i) s=K .normal s:=by simp [z0t]
theorem zfO {i j:Nat}:z0t i K (.exit j) s=bif Nat.beq j i then K .normal s else K (.exit j) s:=(rfl)
theorem zag {i:Nat}:z0t i K .ret s=K .ret s:=(rfl)
theorem zke {b:ACode} {ex ex':Ex} {s s':St} (he:ex=ex') (hs:s=s'):seqN C gl b K ex s=seqN C gl b K ex' s':=by rw[he,hs]
theorem zcZ {i:Nat} {ex ex':Ex} {s s':St} (he:ex=ex') (hs:s=s'):z0t i K ex s=z0t i K ex' s':=by rw[he,hs]
theorem zuh {b:ACode}:NW C gl (.scope b) ⟨e,h,x⟩ K=NW C gl b ⟨e,h,[]⟩ (zfv h.length x K):=(rfl)
theorem zug {c:ACode} {s s':St} (hs:s=s'):NW C gl c s K=NW C gl c s' K:=by rw[hs]
def z1a (C:Hd) (gl:Nat→Option PV) (b:ACode) (K:Ex→St→Prop) (e:List (Nat × AV)) (h:Heap) (x:Esc):Prop:=ALoop (NW C gl b) K ⟨e,h,x⟩
theorem z0G {l:List Nat} {b:ACode}:NW C gl (.loop (.pr l b)) ⟨e,h,x⟩ K=z1a C gl (.pr l b) K (z0E (some l) e) h x:=by
 show ALoop _ _ _=ALoop _ _ _
 exact z4R (funext fun R=>by show NW C gl b _ R=NW C gl b _ R;dsimp only;rw[z3S])
theorem z2a {l:List Nat} {b:ACode}:NW C gl (.loop (.scope (.pr l b))) ⟨e,h,x⟩ K=z1a C gl (.scope (.pr l b)) K (z0E (some l) e) h x:=by
 show ALoop _ _ _=ALoop _ _ _
 exact z4R (funext fun R=>by show NW C gl b _ _=NW C gl b _ _;dsimp only;rw[z3S])
theorem zfH {b:ACode} {e e':List (Nat × AV)} {h h':Heap} {x x':Esc} (h1:e=e') (h2:h=h') (h3:x=x'):z1a C gl b K e h x=z1a C gl b K e' h' x':=by rw[h1,h2,h3]
theorem z0Y {σ:Type} {b:ACode} (S:σ→St) (P:σ→Prop) (m:σ→Nat) (t0:σ) (hs:(⟨e,h,x⟩:St)=S t0) (h0:P t0) (hr:∀ t,P t→NW C gl b (S t) (zjL S P m K t)):z1a C gl b K e h x:=by
 show ALoop (NW C gl b) K _
 rw[hs]
 have key:∀ n t,m t<n→P t→ALoop (NW C gl b) K (S t):=by
  intro n
  induction n with
  | zero=>intro t h;omega
  | succ n ih=>
   intro t hm hp
   refine .mk _ _ (hr t hp) (fun s' h'=>?_) (fun i s' h'=>h') (fun s' h'=>h')
   obtain⟨u,rfl,hu,hlt⟩:=h'
   exact ih u (by omega) hu
 exact key _ t0 (Nat.lt_succ_self _) h0
theorem z0h {X:Ctx} {f:Nat} {F:AFun} {a asv:List AV} {h h1:Heap} {P:Post} (hf:X.fn f=some F) (hr:F.byref=false) (hp:z0p h a=some (asv,h1)) (hl:asv.length=F.nparams) (hd:F.isDet=false:=by rfl) :
 z0c X f a h P=NW (z0c X) X.gl F.body ⟨enter asv,h1,[]⟩ (finR F.results F.keep h.length P):=by
 rw[zwp hf hr hp hl hd,z5F]
theorem z2R {X:Ctx} {f:Nat} {F:AFun} {a asv:List AV} {h h1:Heap} {P:Post} (hf:X.fn f=some F) (hr:F.byref=false) (hp:z0p h a=some (asv,h1)) (hl:asv.length=F.nparams) (hd:F.isDet=true:=by rfl) :
 z0c X f a h P = ∃ v h' x,P v h' x∧NW (z0c X) X.gl F.body ⟨enter asv,h1,[]⟩ (finR F.results F.keep h.length fun v1 h1 x1=>v1=v∧h1=h'∧x1=x):=by
 rw[zf1 hf hr hp hl hd]
 simp only[z5F]
theorem z7I {X:Ctx} {f:Nat} {F:AFun} {asv:List AV} {h:Heap} {P:Post} (hf:X.fn f=some F) (hr:F.byref=true) (hl:asv.length=F.nparams) (hd:F.isDet=false:=by rfl) :
 z0c X f asv h P=NW (z0c X) X.gl F.body ⟨enter asv,h,[]⟩ (finR F.results F.keep h.length P):=by
 rw[zwo hf hr hl hd,z5F]
theorem zqU {v:AV} {k:AV→Prop}:pK (some v) k=k v:=(rfl)
theorem zqT {k:AV→Prop}:pK none k=False:=(rfl)
theorem ztP {v:AV} {h:Heap} {x:Esc} {k:AV→Heap→Esc→Prop}:wK (some (v,h,x)) k=k v h x:=(rfl)
theorem ztO {k:AV→Heap→Esc→Prop}:wK none k=False:=(rfl)
theorem pK_ite {p:Prop} [Decidable p] {a b:Option AV} {k:AV→Prop}:pK (if p then a else b) k=if p then pK a k else pK b k:=by split <;> rfl
theorem wK_ite {p:Prop} [Decidable p] {a b:Option (AV × Heap × Esc)} {k:AV→Heap→Esc→Prop}:wK (if p then a else b) k=if p then wK a k else wK b k:=by split <;> rfl
theorem zv4 {o o':Option AV} {k:AV→Prop} (h:o=o'):pK o k=pK o' k:=by rw[h]
theorem zw4 {o o':Option (AV × Heap × Esc)} {k:AV→Heap→Esc→Prop} (h:o=o'):wK o k=wK o' k:=by rw[h]
theorem zvc {v v':AV} {b:Bool} {h:Heap} {A:(AV→Heap→Esc→Prop)→Prop} {k:AV→Heap→Esc→Prop} (h1:v=v'):gV v b h A k=gV v' b h A k:=by rw[h1]
theorem zvb {v v':AV} {b:Bool} {o:Option AV} {h:Heap} {k:AV→Heap→Esc→Prop} (h1:v=v'):gP v b o h k=gP v' b o h k:=by rw[h1]
theorem zva {v v':AV} {b:Bool} {u:AV} {h:Heap} {k:AV→Heap→Esc→Prop} (h1:v=v'):gM v b u h k=gM v' b u h k:=by rw[h1]
section
variable {A:(AV→Heap→Esc→Prop)→Prop} {o:Option AV} {u:AV} {k:AV→Heap→Esc→Prop} {t b:Bool}
theorem gV_tt:gV (.p (.bool true)) true h A k=A k:=(rfl)
theorem gV_ff:gV (.p (.bool false)) false h A k=A k:=(rfl)
theorem gV_tf:gV (.p (.bool true)) false h A k=k .skp h []:=(rfl)
theorem gV_ft:gV (.p (.bool false)) true h A k=k .skp h []:=(rfl)
theorem zyx:gV .skp b h A k=k .skp h []:=(rfl)
theorem gV_any:gV (.p (.bool t)) b h A k=z3e (.p (.bool t)) b (A k) (k .skp h []):=(rfl)
theorem gP_tt:gP (.p (.bool true)) true o h k=pK o fun v=>k v h []:=(rfl)
theorem gP_ff:gP (.p (.bool false)) false o h k=pK o fun v=>k v h []:=(rfl)
theorem gP_tf:gP (.p (.bool true)) false o h k=k .skp h []:=(rfl)
theorem gP_ft:gP (.p (.bool false)) true o h k=k .skp h []:=(rfl)
theorem zyw:gP .skp b o h k=k .skp h []:=(rfl)
theorem gP_any:gP (.p (.bool t)) b o h k=z3e (.p (.bool t)) b (pK o fun v=>k v h []) (k .skp h []):=(rfl)
theorem gM_tt:gM (.p (.bool true)) true u h k=k u h []:=(rfl)
theorem gM_ff:gM (.p (.bool false)) false u h k=k u h []:=(rfl)
theorem gM_tf:gM (.p (.bool true)) false u h k=k .skp h []:=(rfl)
theorem gM_ft:gM (.p (.bool false)) true u h k=k .skp h []:=(rfl)
theorem zyv:gM .skp b u h k=k .skp h []:=(rfl)
theorem gM_any:gM (.p (.bool t)) b u h k=z3e (.p (.bool t)) b (k u h []) (k .skp h []):=(rfl)
end
section
variable {k k':IntKind} {a b:Int} {sa sb:List UInt8}
theorem zyW:oBin .add (.p (.int k a)) (.p (.int k b))=some (.p (.int k (k.wrap (a+b)))):=by simp [oBin,abin,aint]
theorem zzj:oBin .sub (.p (.int k a)) (.p (.int k b))=some (.p (.int k (k.wrap (a-b)))):=by simp [oBin,abin,aint]
theorem zzd:oBin .mul (.p (.int k a)) (.p (.int k b))=some (.p (.int k (k.wrap (a*b)))):=by simp [oBin,abin,aint]
theorem zzf:oBin .quo (.p (.int k a)) (.p (.int k b))=if b=0 then none else some (.p (.int k (k.wrap (a.tdiv b)))):=by simp [oBin,abin,aint] <;> split <;> rfl
theorem zzg:oBin .rem (.p (.int k a)) (.p (.int k b))=if b=0 then none else some (.p (.int k (a.tmod b))):=by simp [oBin,abin,aint] <;> split <;> rfl
theorem zyX:oBin .and (.p (.int k a)) (.p (.int k b))=some (.p (.int k (iand k a b))):=by simp [oBin,abin,aint]
theorem bin_or:oBin .or (.p (.int k a)) (.p (.int k b))=some (.p (.int k (ior k a b))):=by simp [oBin,abin,aint]
theorem zzk:oBin .xor (.p (.int k a)) (.p (.int k b))=some (.p (.int k (ixor k a b))):=by simp [oBin,abin,aint]
theorem zjq:oBin .andNot (.p (.int k a)) (.p (.int k b))=some (.p (.int k (zjF k a b))):=by simp [oBin,abin,aint]
theorem zyY:oBin .eql (.p (.int k a)) (.p (.int k b))=some (.p (.bool (decide (a=b)))):=by simp [oBin,abin,aint]
theorem zze:oBin .neq (.p (.int k a)) (.p (.int k b))=some (.p (.bool (!decide (a=b)))):=by simp [oBin,abin,aint]
theorem zzc:oBin .lss (.p (.int k a)) (.p (.int k b))=some (.p (.bool (decide (a<b)))):=by simp [oBin,abin,aint]
theorem zzb:oBin .leq (.p (.int k a)) (.p (.int k b))=some (.p (.bool (decide (a≤b)))):=by simp [oBin,abin,aint]
theorem zza:oBin .gtr (.p (.int k a)) (.p (.int k b))=some (.p (.bool (decide (b<a)))):=by simp [oBin,abin,aint]
theorem zyZ:oBin .geq (.p (.int k a)) (.p (.int k b))=some (.p (.bool (decide (b≤a)))):=by simp [oBin,abin,aint]
theorem zzh:oBin .shl (.p (.int k a)) (.p (.int k' b))=if b<0 then none else some (.p (.int k (ishl k a b))):=by simp [oBin,abin] <;> split <;> rfl
theorem zzi:oBin .shr (.p (.int k a)) (.p (.int k' b))=if b<0 then none else some (.p (.int k (ishr k a b))):=by simp [oBin,abin] <;> split <;> rfl
theorem y0R:oBin .add (.p (.str sa)) (.p (.str sb))=if sa.length+sb.length≤z0n then some (.p (.str (sa++sb))) else none:=by simp [oBin,abin,astr] <;> split <;> rfl
theorem y0S:oBin .eql (.p (.str sa)) (.p (.str sb))=some (.p (.bool (decide (sa=sb)))):=by simp [oBin,abin,astr]
theorem y0Y:oBin .neq (.p (.str sa)) (.p (.str sb))=some (.p (.bool (!decide (sa=sb)))):=by simp [oBin,abin,astr]
theorem y0X:oBin .lss (.p (.str sa)) (.p (.str sb))=some (.p (.bool (Op.bytesLess sa sb))):=by simp [oBin,abin,astr]
theorem y0W:oBin .leq (.p (.str sa)) (.p (.str sb))=some (.p (.bool (Op.bytesLess sa sb||decide (sa=sb)))):=by simp [oBin,abin,astr]
theorem y0V:oBin .gtr (.p (.str sa)) (.p (.str sb))=some (.p (.bool (!(Op.bytesLess sa sb||decide (sa=sb))))):=by simp [oBin,abin,astr]
theorem y0T:oBin .geq (.p (.str sa)) (.p (.str sb))=some (.p (.bool (!Op.bytesLess sa sb))):=by simp [oBin,abin,astr]
theorem un_neg:oUn .neg (.p (.int k a))=some (.p (.int k (k.wrap (-a)))):=by simp [oUn,aun]
theorem un_not {t:Bool}:oUn .not (.p (.bool t))=some (.p (.bool !t)):=(rfl)
theorem convI {k':IntKind}:z18 k (.p (.int k' a))=some (.p (.int k (k.wrap a))):=(rfl)
theorem nilref {i j:Nat}:oNil (.ref i j)=some (.ref i j):=(rfl)
theorem y0k {i j m n:Nat}:oNil (.rref i j m n)=some (.rref i j m n):=(rfl)
theorem nilvp {v:PV}:oNil (.vp v)=some (.vp v):=(rfl)
theorem nilfn {f:Nat} {cs:List AV}:oNil (.fn f cs)=some (.fn f cs):=(rfl)
theorem pick_b {t:Bool} {u v:AV}:z0K (.p (.bool t)) u v=some (bif t then u else v):=(rfl)
theorem len_sl {sh:Sh} {xs:List PV}:oLen (.p (.sl sh xs))=some (.p (.int .i64 xs.length)):=(rfl)
theorem zzV {sh:Sh}:oLen (.sl0 sh)=some (.p (.int .i64 0)):=(rfl)
theorem zzU {i g o l:Nat}:oLen (.own i g o l)=some (.p (.int .i64 l)):=(rfl)
theorem lens_s:z0C (.p (.str sa))=some (.p (.int .i64 sa.length)):=(rfl)
theorem ext_t {vs:List AV} {i:Nat}:oExt (.tup vs) i=vs[i]?:=(rfl)
theorem zp6 {off i j:Nat} {sh:Sh}:z0d off sh (.ref i j)=some (.ref i (j+off)):=(rfl)
theorem zj3 {off i j m n:Nat} {sh:Sh}:z0d off sh (.rref i j m n)=some (.rref i j m (n+off)):=(rfl)
theorem zuV {off:Nat} {sh:Sh} {v:PV}:z0d off sh (.vp v)=(cutP sh off v).map .vp:=(rfl)
theorem zz9 {off:Nat} {sh:Sh} {cs:List PV}:z9e off sh (.p (.agg cs))=(cutP sh off (.agg cs)).map .p:=(rfl)
theorem zz8 {off:Nat} {sh:Sh} {cs:List AV}:z9e off sh (.agg cs)=cut sh off cs:=(rfl)
def ldB (sh:Sh) (off:Nat):Option Obj→Option AV
 | some (.box cs)=>cut sh off cs
 | _=>none
def ldR (sh:Sh) (g i off:Nat):Option Obj→Option AV
 | some (.row _ xs _)=>if g=xs.length then ((xs[i]?).bind (cutP sh off)).map .p else none
 | _=>none
theorem zvr {sh:Sh} {i j:Nat}:z0e sh (.ref i j) h=ldB sh j h[i]?:=by unfold z0e ldB;rfl
theorem zqA {sh:Sh} {i g m n:Nat}:z0e sh (.rref i g m n) h=ldR sh g m n h[i]?:=by unfold z0e ldR;rfl
theorem zqB {sh:Sh} {v:PV}:z0e sh (.vp v) h=(cutP sh 0 v).map .p:=(rfl)
theorem zzQ {sh:Sh} {off:Nat} {cs:List AV}:ldB sh off (some (.box cs))=cut sh off cs:=(rfl)
theorem zzR {sh sh':Sh} {g i off fz:Nat} {xs:List PV}:ldR sh g i off (some (.row sh' xs fz))=if g=xs.length then ((xs[i]?).bind (cutP sh off)).map .p else none:=(rfl)
def stB (sh:Sh) (id off:Nat) (v:AV) (h:Heap):Option Obj→Option (List AV)→Option (AV × Heap × Esc)
 | some (.box cs),some vs=>if vs.length=z0a sh∧off+vs.length≤cs.length then some (.und,h.set id (.box (splice cs off vs)),escS id cs v) else none
 | _,_=>none
theorem ztC {sh:Sh} {i j:Nat} {v:AV}:z0m sh (.ref i j) v h=stB sh i j v h h[i]? v.cells:=by unfold z0m stB;rfl
theorem y0L {sh:Sh} {id off:Nat} {v:AV} {cs vs:List AV}:stB sh id off v h (some (.box cs)) (some vs)=if vs.length=z0a sh∧off+vs.length≤cs.length then some (.und,h.set id (.box (splice cs off vs)),escS id cs v) else none:=(rfl)
theorem escS_p {id:Nat} {cs:List AV} {v:PV}:escS id cs (.p v)=[]:=by
 unfold escS
 cases z7d cs&&decide (AV.top (.p v)≤AV.tops cs) <;> rfl
theorem zuP {id:Nat} {cs:List AV} {v:AV} (h:z7d cs=false):escS id cs v=z3c id v:=by
 unfold escS
 rw[h]
 rfl
theorem zzN {a:AV} {v:PV}:z7d [a,.p v]=false:=(rfl)
theorem zpP {a:AV} {s:Sh}:z7d [a,.sl0 s]=false:=(rfl)
theorem zpO {a:AV} {i j k l:Nat}:z7d [a,.own i j k l]=false:=(rfl)
theorem zjG {a:AV}:z7d [a,.nilp]=false:=(rfl)
theorem zzK:z7d []=false:=(rfl)
theorem zzL {a:AV}:z7d [a]=false:=(rfl)
theorem zzM {a b c:AV} {l:List AV}:z7d (a::b::c::l)=false:=by unfold z7d;split <;> first | rfl | (rename_i h;simp at h)
theorem zps {id t n m:Nat} {a:AV}:escS id [a,.bt 1 t (id+1) n] (.ref id m)=[]:=by
 unfold escS
 have e:decide (AV.top (.ref id m)≤AV.tops [a,.bt 1 t (id+1) n])=true:=by simp [AV.top,AV.tops];omega
 rw[e]
 rfl
theorem zuQ {id t t' i n n':Nat} {a:AV}:escS id [a,.bt 1 t i n] (.bt 1 t' i n')=[]:=by
 unfold escS
 have e:decide (AV.top (.bt 1 t' i n')≤AV.tops [a,.bt 1 t i n])=true:=by simp [AV.top,AV.tops];omega
 rw[e]
 rfl
def stE (sh:Sh) (id i off fz:Nat) (rsh:Sh) (xs:List PV) (v:PV) (h1:Heap):Option PV→Option (AV × Heap × Esc)
 | some (.agg cs)=>if off+v.cells.length≤cs.length then some (.und,h1.set id (.row rsh (xs.set i (.agg (splice cs off v.cells))) fz),[]) else none
 | some _=>if off=0∧v.sc then some (.und,h1.set id (.row rsh (xs.set i v) fz),[]) else none
 | none=>none
def stO (sh:Sh) (id g i off:Nat) (v:PV) (h1:Heap):Option Obj→Option (AV × Heap × Esc)
 | some (.row rsh xs fz)=>if g=xs.length∧fz≤i∧v.cells.length=z0a sh∧v.cells.all PV.sc then stE sh id i off fz rsh xs v h1 xs[i]? else none
 | _=>none
def stR (sh:Sh) (id g i off:Nat):Option (PV × Heap)→Option (AV × Heap × Esc)
 | some y=>stO sh id g i off y.1 y.2 y.2[id]?
 | none=>none
theorem zkk {sh:Sh} {id g i off:Nat} {x:AV}:z0m sh (.rref id g i off) x h=stR sh id g i off (pur h x):=by
 unfold z0m stR
 cases pur h x with
 | none=>rfl
 | some y=>
  obtain⟨v,h1⟩:=y
  dsimp only
  unfold stO
  cases h1[id]? with
  | none=>rfl
  | some o=>cases o <;> rfl
theorem zwn {sh:Sh} {id g i off:Nat} {v:PV} {h1:Heap}:stR sh id g i off (some (v,h1))=stO sh id g i off v h1 h1[id]?:=(rfl)
theorem y0P {sh rsh:Sh} {id g i off fz:Nat} {v:PV} {h1:Heap} {xs:List PV}:stO sh id g i off v h1 (some (.row rsh xs fz))=if g=xs.length∧fz≤i∧v.cells.length=z0a sh∧v.cells.all PV.sc then stE sh id i off fz rsh xs v h1 xs[i]? else none:=(rfl)
theorem y0M {sh rsh:Sh} {id i off fz:Nat} {v:PV} {h1:Heap} {xs cs:List PV}:stE sh id i off fz rsh xs v h1 (some (.agg cs))=if off+v.cells.length≤cs.length then some (.und,h1.set id (.row rsh (xs.set i (.agg (splice cs off v.cells))) fz),[]) else none:=(rfl)
theorem y0N {sh rsh:Sh} {id i off fz:Nat} {v:PV} {h1:Heap} {xs:List PV} {k:IntKind} {n:Int}:stE sh id i off fz rsh xs v h1 (some (.int k n))=if off=0∧v.sc then some (.und,h1.set id (.row rsh (xs.set i v) fz),[]) else none:=(rfl)
theorem zwl {sh rsh:Sh} {id i off fz:Nat} {v:PV} {h1:Heap} {xs:List PV} {t:Bool}:stE sh id i off fz rsh xs v h1 (some (.bool t))=if off=0∧v.sc then some (.und,h1.set id (.row rsh (xs.set i v) fz),[]) else none:=(rfl)
theorem y0O {sh rsh:Sh} {id i off fz:Nat} {v:PV} {h1:Heap} {xs:List PV} {s:List UInt8}:stE sh id i off fz rsh xs v h1 (some (.str s))=if off=0∧v.sc then some (.und,h1.set id (.row rsh (xs.set i v) fz),[]) else none:=(rfl)
theorem stE_sl {sh rsh:Sh} {id i off fz:Nat} {v:PV} {h1:Heap} {xs:List PV} {sh':Sh} {ys:List PV}:stE sh id i off fz rsh xs v h1 (some (.sl sh' ys))=if off=0∧v.sc then some (.und,h1.set id (.row rsh (xs.set i v) fz),[]) else none:=(rfl)
theorem zwm {sh rsh:Sh} {id i off fz:Nat} {v:PV} {h1:Heap} {xs:List PV}  : stE sh id i off fz rsh xs v h1 (some .nilp)=if off=0∧v.sc then some (.und,h1.set id (.row rsh (xs.set i v) fz),[]) else none:=(rfl)
theorem pur_p {v:PV}:pur h (.p v)=some (v,h):=(rfl)
def iaS (xs:List PV):Option Nat→Option AV
 | some k=>(xs[k]?).map .vp
 | none=>none
theorem zvj {sh:Sh} {xs:List PV} {i:AV}:z03 sh (.p (.sl sh xs)) i h=iaS xs (z1k i):=by
 unfold z03 iaS;cases z1k i <;> simp
theorem zvg {xs:List PV} {n:Nat}:iaS xs (some n)=(xs[n]?).map .vp:=(rfl)
def iaO (sh:Sh) (id g off len:Nat):Option Obj→Option Nat→Option AV
 | some (.row rsh xs _),some k=>if rsh=sh∧g=xs.length∧off+len≤xs.length∧k<len then some (.rref id g (off+k) 0) else none
 | _,_=>none
theorem zpL {sh:Sh} {id g off len:Nat} {i:AV}:z03 sh (.own id g off len) i h=iaO sh id g off len h[id]? (z1k i):=by
 unfold z03 iaO
 cases z1k i with
 | none=>dsimp only;cases h[id]? with
  | none=>rfl
  | some o=>cases o <;> rfl
 | some k=>dsimp only;cases h[id]? with
  | none=>rfl
  | some o=>cases o <;> rfl
theorem zzD {sh rsh:Sh} {id g off len k fz:Nat} {xs:List PV}:iaO sh id g off len (some (.row rsh xs fz)) (some k)=if rsh=sh∧g=xs.length∧off+len≤xs.length∧k<len then some (.rref id g (off+k) 0) else none:=(rfl)
theorem idxs_s {i:AV}:z1L (.p (.str sa)) i=(z1k i).bind fun n=>(sa[n]?).map fun b=>.p (.int .u8 b.toNat):=by
 unfold z1L;cases z1k i <;> rfl
end
theorem zxf {z:List AV} {k:AV→Heap→Esc→Prop}:alK z h k=k (.ref h.length 0) (h++[.box z]) []:=(rfl)
theorem zy1 {sh:Sh} {k:AV→Heap→Esc→Prop}:nwK sh h k=k (.own h.length 0 0 0) (h++[.row sh [] 0]) []:=(rfl)
theorem zyz {k:AV→Heap→Esc→Prop}:mmK h k=k (.mp h.length) (h++[.amap [] 0]) []:=(rfl)
theorem zjw {A B:Prop}:zmU (.p (.bool true)) A B=A:=(rfl)
theorem zfW {A B:Prop}:zmU (.p (.bool false)) A B=B:=(rfl)
theorem zmV {A B:Prop}:zmU .anyb A B=(A∧B):=(rfl)
theorem zjW {h:Heap}:z0H [] h=([],h):=(rfl)
theorem zjX {h:Heap} {s:Sh} {r:List AV}:z0H (.sl0 s::r) h=(.own h.length 0 0 0::(z0H r (h++[.row s [] 0])).1,(z0H r (h++[.row s [] 0])).2):=(rfl)
theorem zvP {h:Heap} {v:PV} {r:List AV}:z0H (.p v::r) h=(.p v::(z0H r h).1,(z0H r h).2):=(rfl)
attribute [go_sem] zjW zjX zvP
theorem ztc {h:Heap}:z1h [] h=([],h):=(rfl)
theorem ztf {h:Heap} {s:Sh} {r:List AV}:z1h (.sl0 s::r) h=(.own h.length 0 0 0::(z1h r (h++[.row s [] 0])).1,(z1h r (h++[.row s [] 0])).2):=(rfl)
theorem y01 {h:Heap} {v:PV} {r:List AV}:z1h (.p v::r) h=(.p v::(z1h r h).1,(z1h r h).2):=(rfl)
theorem zte {h:Heap} {i o:Nat} {r:List AV}:z1h (.ref i o::r) h=(.ref i o::(z1h r h).1,(z1h r h).2):=(rfl)
theorem ztd {h:Heap} {i o g l:Nat} {r:List AV}:z1h (.own i o g l::r) h=(.own i o g l::(z1h r h).1,(z1h r h).2):=(rfl)
theorem zvO {h:Heap} {i:Nat} {r:List AV}:z1h (.mp i::r) h=(.mp i::(z1h r h).1,(z1h r h).2):=(rfl)
attribute [go_sem] ztc ztf y01 zte ztd zvO
def ldAr (sh:Sh) (off g:Nat):Option Obj→Option AV
 | some (.arow rsh cs)=>if g*z0a rsh=cs.length then cut sh off cs else none
 | _=>none
theorem zzY {sh:Sh} {off id g:Nat}:z0e sh (.bt 4 off id g) h=ldAr sh off g h[id]?:=by
 show ldA sh 4 off id g h=_
 unfold ldA ldAr
 rfl
theorem zq4 {sh rsh:Sh} {off g:Nat} {cs:List AV}:ldAr sh off g (some (.arow rsh cs))=if g*z0a rsh=cs.length then cut sh off cs else none:=(rfl)
def stAr (sh:Sh) (off id g:Nat) (x:AV) (h:Heap):Option Obj→Option (List AV)→Option (AV × Heap × Esc)
 | some (.arow rsh cs),some vs=>if g*z0a rsh=cs.length∧vs.length=z0a sh∧off+vs.length≤cs.length then some (.und,h.set id (.arow rsh (splice cs off vs)),z3c id x) else none
 | _,_=>none
theorem zwq {sh:Sh} {off id g:Nat} {x:AV}:z0m sh (.bt 4 off id g) x h=stAr sh off id g x h h[id]? x.cells:=by
 show stA sh 4 off id g x h=_
 unfold stA stAr
 rfl
theorem zt8 {sh rsh:Sh} {off id g:Nat} {x:AV} {cs vs:List AV}:stAr sh off id g x h (some (.arow rsh cs)) (some vs)=if g*z0a rsh=cs.length∧vs.length=z0a sh∧off+vs.length≤cs.length then some (.und,h.set id (.arow rsh (splice cs off vs)),z3c id x) else none:=(rfl)
def iaAr (sh:Sh) (id g:Nat):Option Obj→Option Nat→Option AV
 | some (.arow rsh cs),some i=>if rsh=sh∧g*z0a rsh=cs.length∧i<g then some (.bt 4 (i*z0a sh) id g) else none
 | _,_=>none
theorem zvh {sh:Sh} {t id g:Nat} {i:AV}:z03 sh (.bt 3 t id g) i h=iaAr sh id g h[id]? (z1k i):=by
 unfold z03 iaAr
 cases z1k i with
 | none=>cases h[id]? with
  | none=>rfl
  | some o=>cases o <;> rfl
 | some k=>
  show iaA sh 3 id g k h=_
  unfold iaA
  cases h[id]? with
  | none=>rfl
  | some o=>cases o <;> rfl
theorem zpK {sh rsh:Sh} {id g i:Nat} {cs:List AV}:iaAr sh id g (some (.arow rsh cs)) (some i)=if rsh=sh∧g*z0a rsh=cs.length∧i<g then some (.bt 4 (i*z0a sh) id g) else none:=(rfl)
theorem zuT {off o id g:Nat} {sh:Sh}:z0d off sh (.bt 4 o id g)=some (.bt 4 (o+off) id g):=(rfl)
theorem len_bt {t id g:Nat}:oLen (.bt 3 t id g)=some (.p (.int .i64 g)):=(rfl)
theorem nil_bt {o id g:Nat}:oNil (.bt 4 o id g)=some (.bt 4 o id g):=(rfl)
def apAr (sh:Sh) (h:Heap) (t id g g':Nat):Option Obj→Option Obj→Option (AV × Heap × Esc)
 | some (.arow rsh cs),some (.arow rsh' ds)=>if rsh=sh∧rsh'=sh∧g*z0a sh=cs.length∧g'*z0a sh=ds.length∧g+g'≤z0J then
  some (.bt 3 t id (g+g'),h.set id (.arow sh (cs++ds)),bif decide (id<AV.tops ds) then [(id,AV.tops ds)] else []) else none
 | _,_=>none
theorem apA_bt {sh:Sh} {t id g t' id' g':Nat}:apA sh h (.bt 3 t id g) (.bt 3 t' id' g')=apAr sh h t id g g' h[id]? h[id']?:=by
 show (match h[id]?,h[id']? with | _,_=>_)=_
 unfold apAr
 rfl
theorem zm5 {sh rsh rsh':Sh} {t id g g':Nat} {cs ds:List AV}:apAr sh h t id g g' (some (.arow rsh cs)) (some (.arow rsh' ds))=if rsh=sh∧rsh'=sh∧g*z0a sh=cs.length∧g'*z0a sh=ds.length∧g+g'≤z0J then
 some (.bt 3 t id (g+g'),h.set id (.arow sh (cs++ds)),bif decide (id<AV.tops ds) then [(id,AV.tops ds)] else []) else none:=(rfl)
theorem ztg {h:Heap} {k t i g:Nat} {r:List AV}:z0H (.bt k t i g::r) h=(.bt 3 t h.length 0::(z0H r (h++[.arow (z24 t) []])).1,(z0H r (h++[.arow (z24 t) []])).2):=(rfl)
theorem zzu:z24 0=none:=(rfl)
theorem zzv {n:Nat}:z24 (n+1)=some n:=(rfl)
attribute [go_sem] zzY zq4 zwq zt8 zvh zpK zuT len_bt nil_bt apA_bt zm5 ztg zzu zzv
attribute [go_sem] z3W zfy ziB z5I z3J zag zuh zqU zqT ztP ztO pK_ite wK_ite gV_tt gV_ff gV_tf gV_ft zyx gP_tt gP_ff gP_tf gP_ft zyw gM_tt gM_ff gM_tf gM_ft zyv zyW zzj zzd zzf zzg zyX bin_or zzk zjq zyY zze zzc zzb zza zyZ zzh zzi y0R y0S y0Y y0X y0W y0V y0T un_neg un_not convI nilref y0k nilvp nilfn pick_b len_sl zzV zzU lens_s ext_t zp6 zj3 zuV zz9 zz8 zvr zqA zqB zzQ zzR ztC y0L zkk zwn y0P y0M y0N zwl y0O stE_sl zwm pur_p escS_p zuP zzN zpP zpO zjG zzK zzL zzM zps zuQ zvj zvg zpL zzD idxs_s zxf zy1 zyz z13 y0B upcB neqB lenB n64 zu3 strB appB rds rd oBox z0y zp7 oBsl zp8 oEqa zaX z7B zjw zfW zmV zqJ oMkif okIn zcb zvy bndV z2j zaY z58 zcc oApp oCopy oClr oMx oMn z7F zcf oMent zqN oMdel y0m zce zcd
attribute [go_sem ↓] zqU zqT ztP ztO gV_tt gV_ff gV_tf gV_ft zyx gP_tt gP_ff gP_tf gP_ft zyw gM_tt gM_ff gM_tf gM_ft zyv zao z8q ziM ziJ ziL ziK zf7 z3W zfy ziB z5I z3J zag zxf zy1 zyz z7A zaT zeT zfx z8V zhF
attribute [go_sem low] gV_any gP_any gM_any zfO
attribute [congr] zke zcZ zug zfH zv4 zw4 zvc zvb zva
end Go.Am
end
section
/- Short words for the printed code. -/
set_option linter.all false
namespace Go.Am
instance {n:Nat}:OfNat Opd n:=⟨.t n⟩
abbrev GL:=Nat→Option PV
abbrev KT:=Ex→St→Prop
def cI (n:Int):Opd:=.c (.p (.int .i64 n))
def cT:Opd:=.c (.p (.bool true))
def cF:Opd:=.c (.p (.bool false))
def cS (s:List UInt8):Opd:=.c (.p (.str s))
def uO (d:Nat) (o:AO):AOp:=⟨some d,none,o⟩
def wO (o:AO):AOp:=⟨none,none,o⟩
def gD (d g:Nat) (b:Bool) (o:AO):AOp:=⟨some d,some (g,b),o⟩
def mV (d:Nat) (x:Opd):AOp:=⟨some d,none,.mv x⟩
def bN (d:Nat) (b:BinOp) (x y:Opd):AOp:=⟨some d,none,.bin b x y⟩
def cL (d f:Nat) (l:List Opd):AOp:=⟨some d,none,.call f l⟩
def lD (d:Nat) (s:Sh) (x:Opd):AOp:=⟨some d,none,.load s x⟩
def iA (d:Nat) (s:Sh) (x y:Opd):AOp:=⟨some d,none,.iaddr s x y⟩
def fA (d o:Nat) (s:Sh) (x:Opd):AOp:=⟨some d,none,.faddr o s x⟩
def lN (d:Nat) (x:Opd):AOp:=⟨some d,none,.len x⟩
def eX (d:Nat) (x:Opd) (i:Nat):AOp:=⟨some d,none,.ext x i⟩
def dF (o:AOp) (l:List Nat):DOp:=⟨o,l,false,[],[]⟩
def dT (o:AOp) (l:List Nat):DOp:=⟨o,l,true,[],[]⟩
def dA (o:AOp) (l:List Nat) (e:Bool) (a b:List Nat):DOp:=⟨o,l,e,a,b⟩
def rg (l:List AOp) (k:List Nat):ACode:=.reg l (some k)
def dr (l:List DOp) (k:List Nat):ACode:=.draw l (some k)
end Go.Am
end
section
/- The functions asv abstract code,and asv formulas over their values: printed by program out of the translation. -/
set_option linter.unusedVariables false
set_option maxRecDepth 100000
namespace Go.Am
def P_q02c:ACode:=(.seq (rg [mV 2 cF] [0])
(.seq (rg [mV 10 0,
uO 11 (.build [.sl0 none,.p (.int .i64 0)] [(0,1,10)]),
uO 12 (.box 11),
mV 3 12] [3])
(.seq (rg [mV 13 3,
mV 14 3,
cL 15 z4r [14,(cI 0),(cI 8)],
cL 16 za1 [13,15],
mV 4 16] [4])
(.seq (rg [mV 18 4,
cL 19 zaL [18],
mV 17 19,
eX 20 17 0,
eX 21 17 1,
mV 5 20,
mV 6 21] [4,5,6])
(.seq (rg [mV 23 5,
cL 24 zaK [23],
mV 22 24,
eX 25 22 0,
eX 26 22 1,
eX 27 22 2,
mV 7 25,
mV 8 26,
mV 9 27] [4,5,6,7,9])
(.seq (rg [mV 28 6,
mV 29 9,
uO 30 (.bsl false none 2 (.int .i64 0) [(0,28),(1,29)]),
cL 31 z71 [30],
bN 32 .eql 31 (cI 0),
mV 33 32,
gD 34 33 true (.mv 4),
gD 35 33 true (.mv 7),
gD 36 33 true (.call zaB [34,35]),
uO 37 (.pick 33 36 cF),
mV 38 37,
gD 39 38 true (.mv 5),
gD 40 38 true (.call z8L [39,(cS [10])]),
gD 41 38 true (.mv 4),
gD 42 38 true (.len 41),
gD 43 38 true (.bin .eql 40 42),
uO 44 (.pick 38 43 cF),
mV 45 44,
gD 46 45 true (.call z8G []),
uO 47 (.pick 45 46 cF),
mV 2 47] [2])
.ret))))))
def zlC:AFun:=⟨1,[.t 2],P_q02c,false,false⟩
def zne (C:Hd) (gl:GL) (v0:AV) (h:Heap) (x:Esc) (K:KT):Prop:=
 pK (z0y [.sl0 none,.p (.int .i64 0)] [(0,1,v0)]) fun t1=>
 wK (oBox t1 h) fun t2 h3 y4=>
 C z4r [t2,(AI 0),(AI 8)] h3 fun t5 h6 y7=>
 C za1 [t2,t5] h6 fun t8 h9 y10=>
 C zaL [t8] h9 fun t11 h12 y13=>
 pK (oExt t11 0) fun t14=>
 pK (oExt t11 1) fun t15=>
 C zaK [t14] h12 fun t16 h17 y18=>
 pK (oExt t16 0) fun t19=>
 pK (oExt t16 1) fun t20=>
 pK (oExt t16 2) fun t21=>
 wK (oBsl false none 2 (.int .i64 0) [(0,t15),(1,t21)] h17) fun t22 h23 y24=>
 C z71 [t22] h23 fun t25 h26 y27=>
 pK (oBin .eql t25 (AI 0)) fun t28=>
 gM t28 true t8 h26 fun t29 h30 y31=>
 gM t28 true t19 h30 fun t32 h33 y34=>
 gV t28 true h33 (C zaB [t29,t32] h33) fun t35 h36 y37=>
 pK (z0K t28 t35 (AB false)) fun t38=>
 gM t38 true t14 h36 fun t39 h40 y41=>
 gV t38 true h40 (C z8L [t39,(.p (.str [10]))] h40) fun t42 h43 y44=>
 gM t38 true t8 h43 fun t45 h46 y47=>
 gP t38 true (oLen t45) h46 fun t48 h49 y50=>
 gP t38 true (oBin .eql t42 t48) h49 fun t51 h52 y53=>
 pK (z0K t38 t51 (AB false)) fun t54=>
 gV t54 true h52 (C z8G [] h52) fun t55 h56 y57=>
 pK (z0K t54 t55 (AB false)) fun t58=>
 K .ret ⟨[(2,t58)],h56,(y57++(y53++(y50++(y47++(y44++(y41++(y37++(y34++(y31++(y27++(y24++(y18++(y13++(y10++(y7++(y4++x))))))))))))))))⟩
theorem e_q02c {C gl v0 h x K}:NW C gl zlC.body ⟨enter [v0],h,x⟩ K=zne C gl v0 h x K:=by kernel_rfl
def z3x:ACode:=.pr [0,1,6] (.seq (rg [bN 7 .lss 6 (cI 6)] [0,1,6,7])
(.seq (.cond 7 .skip
(.exit 0))
(.seq (.block 1 (.seq (rg [mV 8 0,
mV 9 1,
cL 10 za0 [8,9],
mV 5 10] [0,1,5,6])
(.seq (rg [mV 11 5,
cL 12 z8H [11],
bN 13 .eql 12 (cI 0),
mV 14 13,
gD 15 14 true (.mv 5),
gD 16 14 true (.len 15),
gD 17 14 true (.mv 1),
gD 18 14 true (.bin .leq 16 17),
uO 19 (.pick 14 18 cF)] [0,1,5,6,19])
(.cond 19 (.seq (rg [mV 20 5,
mV 4 20] [4])
.ret)
.skip))))
(rg [bN 21 .add 6 (cI 1),
mV 6 21] [0,1,6]))))
def zd3 (C:Hd) (gl:GL) (v0 v1 v6:AV) (h:Heap) (x:Esc) (K:KT):Prop:=
 pK (oBin .lss v6 (AI 6)) fun t1=>
 z0i t1 (C za0 [v0,v1] h fun t2 h3 y4=>
 C z8H [t2] h3 fun t5 h6 y7=>
 pK (oBin .eql t5 (AI 0)) fun t8=>
 gM t8 true t2 h6 fun t9 h10 y11=>
 gP t8 true (oLen t9) h10 fun t12 h13 y14=>
 gM t8 true v1 h13 fun t15 h16 y17=>
 gP t8 true (oBin .leq t12 t15) h16 fun t18 h19 y20=>
 pK (z0K t8 t18 (AB false)) fun t21=>
 z0i t21 (K .ret ⟨[(4,t2)],h19,(y20++(y17++(y14++(y11++(y7++(y4++x))))))⟩)
 (pK (oBin .add v6 (AI 1)) fun t22=>
 K .normal ⟨[(0,v0),(1,v1),(6,t22)],h19,(y20++(y17++(y14++(y11++(y7++(y4++x))))))⟩))
 (K (.exit 0) ⟨[(0,v0),(1,v1),(6,v6),(7,t1)],h,x⟩)
theorem zof {C gl e h x K}:NW C gl z3x ⟨e,h,x⟩ K=zd3 C gl (aget e 0) (aget e 1) (aget e 6) h x K:=by kernel_rfl
theorem zqf {C gl e h x K}:NW C gl (.loop z3x) ⟨e,h,x⟩ K=z1a C gl z3x K [(0,aget e 0),(1,aget e 1),(6,aget e 6)] h x:=z0G
def z6q:ACode:=.pr [] (.seq (rg [mV 4 (.c (.p (.sl (some 6) [])))] [4])
.ret)
def zd4 (C:Hd) (gl:GL) (h:Heap) (x:Esc) (K:KT):Prop:=
 K .ret ⟨[(4,(.p (.sl (some 6) [])))],h,x⟩
theorem zog {C gl e h x K}:NW C gl z6q ⟨e,h,x⟩ K=zd4 C gl h x K:=by kernel_rfl
def zwF (q1 q2:ACode):ACode:=(.seq (rg [mV 4 (.c (.p (.sl (some 6) [])))] [0,1])
(.seq (.seq (rg [mV 6 (cI 0)] [0,1,6])
(.block 0 (.loop q1)))
q2))
def zlL:AFun:=⟨2,[.t 4],zwF z3x z6q,false,false⟩
def zhk (C:Hd) (gl:GL) (q1 q2:ACode) (v0 v1:AV) (h:Heap) (x:Esc) (K:KT):Prop:=
 NW C gl (.loop q1) ⟨[(0,v0),(1,v1),(6,(AI 0))],h,x⟩ (z0t 0 (seqN C gl q2 K))
theorem E_q02v {C gl q1 q2 v0 v1 h x K}:NW C gl (zwF q1 q2) ⟨enter [v0,v1],h,x⟩ K=zhk C gl q1 q2 v0 v1 h x K:=by kernel_rfl
theorem e_q02v {C gl v0 v1 h x K}:NW C gl zlL.body ⟨enter [v0,v1],h,x⟩ K=zhk C gl z3x z6q v0 v1 h x K:=E_q02v
def P_q02u:ACode:=(.seq (rg [mV 6 (cI 0)] [0,1,2])
(.seq (.seq (rg [mV 7 2,
mV 8 1,
bN 9 .lss 7 8] [0,1,2,9])
(.cond 9 (.seq (rg [mV 10 1,
mV 6 10] [6])
.ret)
.skip))
(.seq (rg [mV 11 1,
mV 12 0,
mV 13 2,
mV 14 1,
bN 15 .sub 13 14,
bN 16 .add 15 (cI 1),
cL 17 z2i [12,16],
bN 18 .add 11 17,
mV 6 18] [6])
.ret)))
def zlK:AFun:=⟨3,[.t 6],P_q02u,false,false⟩
def znh (C:Hd) (gl:GL) (v0 v1 v2:AV) (h:Heap) (x:Esc) (K:KT):Prop:=
 pK (oBin .lss v2 v1) fun t1=>
 z0i t1 (K .ret ⟨[(6,v1)],h,x⟩)
 (pK (oBin .sub v2 v1) fun t2=>
 pK (oBin .add t2 (AI 1)) fun t3=>
 C z2i [v0,t3] h fun t4 h5 y6=>
 pK (oBin .add v1 t4) fun t7=>
 K .ret ⟨[(6,t7)],h5,(y6++x)⟩)
theorem e_q02u {C gl v0 v1 v2 h x K}:NW C gl zlK.body ⟨enter [v0,v1,v2],h,x⟩ K=znh C gl v0 v1 v2 h x K:=by kernel_rfl
def z3v:ACode:=.pr [5,6,7] (.seq (rg [bN 8 .lss 7 6] [5,6,7,8])
(.seq (.cond 8 .skip
(.exit 0))
(.seq (.block 1 (.seq (rg [iA 9 none 5 7,
lD 10 none 9,
mV 4 10] [4,5,6,7])
(.seq (rg [mV 11 4,
bN 12 .neq 11 (cI 0)] [4,5,6,7,12])
(.cond 12 (.seq (rg [mV 13 4,
mV 2 13] [2])
.ret)
.skip))))
(rg [bN 14 .add 7 (cI 1),
mV 7 14] [5,6,7]))))
def zdv (C:Hd) (gl:GL) (v5 v6 v7:AV) (h:Heap) (x:Esc) (K:KT):Prop:=
 pK (oBin .lss v7 v6) fun t1=>
 z0i t1 (pK (z03 none v5 v7 h) fun t2=>
 pK (z0e none t2 h) fun t3=>
 pK (oBin .neq t3 (AI 0)) fun t4=>
 z0i t4 (K .ret ⟨[(2,t3)],h,x⟩)
 (pK (oBin .add v7 (AI 1)) fun t5=>
 K .normal ⟨[(5,v5),(6,v6),(7,t5)],h,x⟩))
 (K (.exit 0) ⟨[(5,v5),(6,v6),(7,v7),(8,t1)],h,x⟩)
theorem znU {C gl e h x K}:NW C gl z3v ⟨e,h,x⟩ K=zdv C gl (aget e 5) (aget e 6) (aget e 7) h x K:=by kernel_rfl
theorem zqc {C gl e h x K}:NW C gl (.loop z3v) ⟨e,h,x⟩ K=z1a C gl z3v K [(5,aget e 5),(6,aget e 6),(7,aget e 7)] h x:=z0G
def z6l:ACode:=.pr [] (.seq (rg [mV 2 (cI 0)] [2])
.ret)
def zdw (C:Hd) (gl:GL) (h:Heap) (x:Esc) (K:KT):Prop:=
 K .ret ⟨[(2,(AI 0))],h,x⟩
theorem znV {C gl e h x K}:NW C gl z6l ⟨e,h,x⟩ K=zdw C gl h x K:=by kernel_rfl
def zwB (q1 q2:ACode):ACode:=(.seq (rg [mV 2 (cI 0)] [0])
(.seq (.seq (rg [mV 5 0,
lN 6 5,
mV 7 (cI 0)] [5,6,7])
(.block 0 (.loop q1)))
q2))
def zg7:AFun:=⟨1,[.t 2],zwB z3v z6l,false,false⟩
def zhf (C:Hd) (gl:GL) (q1 q2:ACode) (v0:AV) (h:Heap) (x:Esc) (K:KT):Prop:=
 pK (oLen v0) fun t1=>
 NW C gl (.loop q1) ⟨[(5,v0),(6,t1),(7,(AI 0))],h,x⟩ (z0t 0 (seqN C gl q2 K))
theorem E_q02f {C gl q1 q2 v0 h x K}:NW C gl (zwB q1 q2) ⟨enter [v0],h,x⟩ K=zhf C gl q1 q2 v0 h x K:=by kernel_rfl
theorem e_q02f {C gl v0 h x K}:NW C gl zg7.body ⟨enter [v0],h,x⟩ K=zhf C gl z3v z6l v0 h x K:=E_q02f
def z36:ACode:=.pr [0,1,12,13] (.seq (rg [bN 14 .lss 13 12] [0,1,12,13,14])
(.seq (.cond 14 .skip
(.exit 0))
(.seq (.block 1 (.seq (rg [mV 15 13,
mV 5 15] [0,1,5,12,13])
(.seq (dr [dF (mV 16 0) [0],
dF (mV 17 5) [5],
dF (iA 18 (some 6) 16 17) [16,17],
dF (lD 19 (some 6) 18) [18],
dF (mV 20 1) [1],
dF (mV 21 5) [5],
dF (iA 22 (some 6) 20 21) [20,21],
dF (lD 23 (some 6) 22) [22],
dF (uO 24 (.eqa [0,0,0,2,2,2] true 19 23)) [19,23]] [0,1,12,13,24])
(.cond 24 (.seq (rg [mV 4 cF] [4])
.ret)
.skip))))
(rg [bN 25 .add 13 (cI 1),
mV 13 25] [0,1,12,13]))))
def zdO (C:Hd) (gl:GL) (v0 v1 v12 v13:AV) (h:Heap) (x:Esc) (K:KT):Prop:=
 pK (oBin .lss v13 v12) fun t1=>
 z0i t1 (pK (z03 (some 6) v0 v13 h) fun t2=>
 pK (z0e (some 6) t2 h) fun t3=>
 pK (z03 (some 6) v1 v13 h) fun t4=>
 pK (z0e (some 6) t4 h) fun t5=>
 pK (oEqa [0,0,0,2,2,2] true t3 t5) fun t6=>
 z0i t6 (K .ret ⟨[(4,(AB false))],h,x⟩)
 (pK (oBin .add v13 (AI 1)) fun t7=>
 K .normal ⟨[(0,v0),(1,v1),(12,v12),(13,t7)],h,x⟩))
 (K (.exit 0) ⟨[(0,v0),(1,v1),(12,v12),(13,v13),(14,t1)],h,x⟩)
theorem zo8 {C gl e h x K}:NW C gl z36 ⟨e,h,x⟩ K=zdO C gl (aget e 0) (aget e 1) (aget e 12) (aget e 13) h x K:=by kernel_rfl
theorem zqp {C gl e h x K}:NW C gl (.loop z36) ⟨e,h,x⟩ K=z1a C gl z36 K [(0,aget e 0),(1,aget e 1),(12,aget e 12),(13,aget e 13)] h x:=z0G
def z62:ACode:=.pr [] (.seq (rg [mV 4 cT] [4])
.ret)
def zdP (C:Hd) (gl:GL) (h:Heap) (x:Esc) (K:KT):Prop:=
 K .ret ⟨[(4,(AB true))],h,x⟩
theorem zo9 {C gl e h x K}:NW C gl z62 ⟨e,h,x⟩ K=zdP C gl h x K:=by kernel_rfl
def zwQ (q1 q2:ACode):ACode:=(.seq (rg [mV 4 cF] [0,1])
(.seq (.seq (rg [mV 6 0,
lN 7 6,
mV 8 1,
lN 9 8,
bN 10 .neq 7 9] [0,1,10])
(.cond 10 (.seq (rg [mV 4 cF] [4])
.ret)
.skip))
(.seq (.seq (rg [mV 11 0,
lN 12 11,
mV 13 (cI 0)] [0,1,12,13])
(.block 0 (.loop q1)))
q2)))
def zmc:AFun:=⟨2,[.t 4],zwQ z36 z62,false,false⟩
def zdN (C:Hd) (gl:GL) (q1 q2:ACode) (v0 v1:AV) (h:Heap) (x:Esc) (K:KT):Prop:=
 pK (oLen v0) fun t1=>
 pK (oLen v1) fun t2=>
 pK (oBin .neq t1 t2) fun t3=>
 z0i t3 (K .ret ⟨[(4,(AB false))],h,x⟩)
 (pK (oLen v0) fun t4=>
 NW C gl (.loop q1) ⟨[(0,v0),(1,v1),(12,t4),(13,(AI 0))],h,x⟩ (z0t 0 (seqN C gl q2 K)))
theorem E_q03z {C gl q1 q2 v0 v1 h x K}:NW C gl (zwQ q1 q2) ⟨enter [v0,v1],h,x⟩ K=zdN C gl q1 q2 v0 v1 h x K:=by kernel_rfl
theorem e_q03z {C gl v0 v1 h x K}:NW C gl zmc.body ⟨enter [v0,v1],h,x⟩ K=zdN C gl z36 z62 v0 v1 h x K:=E_q03z
def z30:ACode:=.pr [0,5,9,10,11] (.seq (rg [bN 12 .lss 11 10] [0,5,9,10,11,12])
(.seq (.cond 12 .skip
(.exit 0))
(.seq (.block 1 (.seq (rg [iA 13 none 9 11,
lD 14 none 13,
mV 7 14] [0,5,7,9,10,11])
(.seq (rg [mV 15 0,
mV 16 7,
bN 17 .sub 16 (.c (.p (.int .u8 48))),
uO 18 (.conv (.i .i64) 17),
cL 19 za3 [15,18],
mV 0 19] [0,5,9,10,11])
(rg [mV 20 5,
mV 21 0,
uO 22 (.bsl false none 1 (.int .i64 0) [(0,21)]),
uO 23 (.app none 20 22),
mV 5 23] [0,5,9,10,11]))))
(rg [bN 24 .add 11 (cI 1),
mV 11 24] [0,5,9,10,11]))))
def zdA (C:Hd) (gl:GL) (v0 v5 v9 v10 v11:AV) (h:Heap) (x:Esc) (K:KT):Prop:=
 pK (oBin .lss v11 v10) fun t1=>
 z0i t1 (pK (z03 none v9 v11 h) fun t2=>
 pK (z0e none t2 h) fun t3=>
 pK (oBin .sub t3 (.p (.int .u8 48))) fun t4=>
 pK (z18 .i64 t4) fun t5=>
 C za3 [v0,t5] h fun t6 h7 y8=>
 wK (oBsl false none 1 (.int .i64 0) [(0,t6)] h7) fun t9 h10 y11=>
 wK (oApp none v5 t9 h10) fun t12 h13 y14=>
 pK (oBin .add v11 (AI 1)) fun t15=>
 K .normal ⟨[(0,t6),(5,t12),(9,v9),(10,v10),(11,t15)],h13,(y14++(y11++(y8++x)))⟩)
 (K (.exit 0) ⟨[(0,v0),(5,v5),(9,v9),(10,v10),(11,v11),(12,t1)],h,x⟩)
theorem zoo {C gl e h x K}:NW C gl z30 ⟨e,h,x⟩ K=zdA C gl (aget e 0) (aget e 5) (aget e 9) (aget e 10) (aget e 11) h x K:=by kernel_rfl
theorem zqj {C gl e h x K}:NW C gl (.loop (.scope z30)) ⟨e,h,x⟩ K=z1a C gl (.scope z30) K [(0,aget e 0),(5,aget e 5),(9,aget e 9),(10,aget e 10),(11,aget e 11)] h x:=z2a
def z6s:ACode:=.pr [5] (.seq (rg [mV 25 5,
mV 4 25] [4])
.ret)
def zdB (C:Hd) (gl:GL) (v5:AV) (h:Heap) (x:Esc) (K:KT):Prop:=
 K .ret ⟨[(4,v5)],h,x⟩
theorem zop {C gl e h x K}:NW C gl z6s ⟨e,h,x⟩ K=zdB C gl (aget e 5) h x K:=by kernel_rfl
def zwI (q1 q2:ACode):ACode:=(.seq (rg [mV 4 (.c (.p (.sl none [])))] [0,1])
(.seq (rg [uO 5 (.new0 none)] [0,1,5])
(.seq (.seq (rg [mV 8 1,
uO 9 (.conv .s2b 8),
lN 10 9,
mV 11 (cI 0)] [0,5,9,10,11])
(.block 0 (.loop (.scope q1))))
q2)))
def zlP:AFun:=⟨2,[.t 4],zwI z30 z6s,false,false⟩
def zhn (C:Hd) (gl:GL) (q1 q2:ACode) (v0 v1:AV) (h:Heap) (x:Esc) (K:KT):Prop:=
 nwK none h fun t1 h2 y3=>
 wK (zcb .s2b v1 h2) fun t4 h5 y6=>
 pK (oLen t4) fun t7=>
 NW C gl (.loop (.scope q1)) ⟨[(0,v0),(5,t1),(9,t4),(10,t7),(11,(AI 0))],h5,(y6++(y3++x))⟩ (z0t 0 (seqN C gl q2 K))
theorem E_q02z {C gl q1 q2 v0 v1 h x K}:NW C gl (zwI q1 q2) ⟨enter [v0,v1],h,x⟩ K=zhn C gl q1 q2 v0 v1 h x K:=by kernel_rfl
theorem e_q02z {C gl v0 v1 h x K}:NW C gl zlP.body ⟨enter [v0,v1],h,x⟩ K=zhn C gl z30 z6s v0 v1 h x K:=E_q02z
def z3w:ACode:=.pr [0,5,6,7] (.seq (rg [bN 8 .lss 7 6] [0,5,6,7,8])
(.seq (.cond 8 .skip
(.exit 0))
(.seq (.block 1 (rg [mV 9 5,
mV 10 0,
cL 11 zaz [10],
uO 12 (.bsl false (some 6) 1 (.agg [.int .i64 0,.int .i64 0,.int .i64 0,.str [],.str [],.str []]) [(0,11)]),
uO 13 (.app (some 6) 9 12),
mV 5 13] [0,5,6,7]))
(rg [bN 14 .add 7 (cI 1),
mV 7 14] [0,5,6,7]))))
def zd0 (C:Hd) (gl:GL) (v0 v5 v6 v7:AV) (h:Heap) (x:Esc) (K:KT):Prop:=
 pK (oBin .lss v7 v6) fun t1=>
 z0i t1 (C zaz [v0] h fun t2 h3 y4=>
 wK (oBsl false (some 6) 1 (.agg [.int .i64 0,.int .i64 0,.int .i64 0,.str [],.str [],.str []]) [(0,t2)] h3) fun t5 h6 y7=>
 wK (oApp (some 6) v5 t5 h6) fun t8 h9 y10=>
 pK (oBin .add v7 (AI 1)) fun t11=>
 K .normal ⟨[(0,v0),(5,t8),(6,v6),(7,t11)],h9,(y10++(y7++(y4++x)))⟩)
 (K (.exit 0) ⟨[(0,v0),(5,v5),(6,v6),(7,v7),(8,t1)],h,x⟩)
theorem zob {C gl e h x K}:NW C gl z3w ⟨e,h,x⟩ K=zd0 C gl (aget e 0) (aget e 5) (aget e 6) (aget e 7) h x K:=by kernel_rfl
theorem zqd {C gl e h x K}:NW C gl (.loop (.scope z3w)) ⟨e,h,x⟩ K=z1a C gl (.scope z3w) K [(0,aget e 0),(5,aget e 5),(6,aget e 6),(7,aget e 7)] h x:=z2a
def z43:ACode:=.pr [0,5,17] (.seq (rg [bN 18 .lss 17 (cI 11)] [0,5,17,18])
(.seq (.cond 18 .skip
(.exit 2))
(.seq (.block 3 (rg [mV 19 5,
mV 20 0,
uO 21 (.bsl false none 3 (.int .i64 0) [(0,(cI 1800)),(1,(cI 1830)),(2,(cI 2000))]),
cL 22 z1z [20,21],
cL 23 z1l [(cS [49]),22],
uO 24 (.build [.p (.int .i64 0),.p (.int .i64 0),.p (.int .i64 0),.p (.str []),.p (.str []),.p (.str [])] [(0,1,(cI 8)),(3,1,23)]),
uO 25 (.bsl false (some 6) 1 (.agg [.int .i64 0,.int .i64 0,.int .i64 0,.str [],.str [],.str []]) [(0,24)]),
uO 26 (.app (some 6) 19 25),
mV 5 26] [0,5,17]))
(rg [bN 27 .add 17 (cI 1),
mV 17 27] [0,5,17]))))
def zd1 (C:Hd) (gl:GL) (v0 v5 v17:AV) (h:Heap) (x:Esc) (K:KT):Prop:=
 pK (oBin .lss v17 (AI 11)) fun t1=>
 z0i t1 (wK (oBsl false none 3 (.int .i64 0) [(0,(AI 1800)),(1,(AI 1830)),(2,(AI 2000))] h) fun t2 h3 y4=>
 C z1z [v0,t2] h3 fun t5 h6 y7=>
 C z1l [(.p (.str [49])),t5] h6 fun t8 h9 y10=>
 pK (z0y [.p (.int .i64 0),.p (.int .i64 0),.p (.int .i64 0),.p (.str []),.p (.str []),.p (.str [])] [(0,1,(AI 8)),(3,1,t8)]) fun t11=>
 wK (oBsl false (some 6) 1 (.agg [.int .i64 0,.int .i64 0,.int .i64 0,.str [],.str [],.str []]) [(0,t11)] h9) fun t12 h13 y14=>
 wK (oApp (some 6) v5 t12 h13) fun t15 h16 y17=>
 pK (oBin .add v17 (AI 1)) fun t18=>
 K .normal ⟨[(0,v0),(5,t15),(17,t18)],h16,(y17++(y14++(y10++(y7++(y4++x)))))⟩)
 (K (.exit 2) ⟨[(0,v0),(5,v5),(17,v17),(18,t1)],h,x⟩)
theorem zoc {C gl e h x K}:NW C gl z43 ⟨e,h,x⟩ K=zd1 C gl (aget e 0) (aget e 5) (aget e 17) h x K:=by kernel_rfl
theorem zqe {C gl e h x K}:NW C gl (.loop (.scope z43)) ⟨e,h,x⟩ K=z1a C gl (.scope z43) K [(0,aget e 0),(5,aget e 5),(17,aget e 17)] h x:=z2a
def z9m:ACode:=.pr [5] (.seq (rg [mV 28 5,
mV 4 28] [4])
.ret)
def zd2 (C:Hd) (gl:GL) (v5:AV) (h:Heap) (x:Esc) (K:KT):Prop:=
 K .ret ⟨[(4,v5)],h,x⟩
theorem zod {C gl e h x K}:NW C gl z9m ⟨e,h,x⟩ K=zd2 C gl (aget e 5) h x K:=by kernel_rfl
def zcC (q2 q3:ACode):ACode:=.pr [0,5] (.seq (.seq (rg [mV 15 0,
cL 16 z27 [15,(cI 80)]] [0,5,16])
(.cond 16 (.seq (rg [mV 17 (cI 0)] [0,5,17])
(.block 2 (.loop (.scope q2))))
.skip))
q3)
def z6p:ACode:=zcC z43 z9m
def z8x (C:Hd) (gl:GL) (q2 q3:ACode) (v0 v5:AV) (h:Heap) (x:Esc) (K:KT):Prop:=
 C z27 [v0,(AI 80)] h fun t1 h2 y3=>
 z0i t1 (NW C gl (.loop (.scope q2)) ⟨[(0,v0),(5,v5),(17,(AI 0))],h2,(y3++x)⟩ (z0t 2 (seqN C gl q3 K)))
 (NW C gl q3 ⟨[(0,v0),(5,v5),(16,t1)],h2,(y3++x)⟩ K)
theorem zkL {C gl q2 q3 e h x K}:NW C gl (zcC q2 q3) ⟨e,h,x⟩ K=z8x C gl q2 q3 (aget e 0) (aget e 5) h x K:=by kernel_rfl
theorem zoe {C gl e h x K}:NW C gl z6p ⟨e,h,x⟩ K=z8x C gl z43 z9m (aget e 0) (aget e 5) h x K:=zkL
def zwE (q1 q4:ACode):ACode:=(.seq (rg [mV 4 (.c (.p (.sl (some 6) [])))] [0,1])
(.seq (rg [uO 5 (.new0 (some 6))] [0,1,5])
(.seq (.seq (rg [mV 6 1,
mV 7 (cI 0)] [0,5,6,7])
(.block 0 (.loop (.scope q1))))
q4)))
def zlF:AFun:=⟨2,[.t 4],zwE z3w z6p,false,false⟩
def zhh (C:Hd) (gl:GL) (q1 q4:ACode) (v0 v1:AV) (h:Heap) (x:Esc) (K:KT):Prop:=
 nwK (some 6) h fun t1 h2 y3=>
 NW C gl (.loop (.scope q1)) ⟨[(0,v0),(5,t1),(6,v1),(7,(AI 0))],h2,(y3++x)⟩ (z0t 0 (seqN C gl q4 K))
theorem E_q02p {C gl q1 q4 v0 v1 h x K}:NW C gl (zwE q1 q4) ⟨enter [v0,v1],h,x⟩ K=zhh C gl q1 q4 v0 v1 h x K:=by kernel_rfl
theorem e_q02p {C gl v0 v1 h x K}:NW C gl zlF.body ⟨enter [v0,v1],h,x⟩ K=zhh C gl z3w z6p v0 v1 h x K:=E_q02p
def z2D:ACode:=.pr [5,13,14,15] (.seq (rg [bN 16 .lss 15 14] [5,13,14,15,16])
(.seq (.cond 16 .skip
(.exit 0))
(.seq (.block 1 (.seq (rg [iA 17 (some 6) 13 15,
lD 18 (some 6) 17,
uO 7 (.alloc [.p (.int .i64 0),.p (.int .i64 0),.p (.int .i64 0),.p (.str []),.p (.str []),.p (.str [])]),
wO (.store (some 6) 7 18)] [5,7,13,14,15])
(rg [lD 19 (some 6) 7,
cL 20 zaN [19],
bN 21 .add 20 (cS [10]),
cL 22 z2r [5,21]] [5,13,14,15])))
(rg [bN 23 .add 15 (cI 1),
mV 15 23] [5,13,14,15]))))
def zeh (C:Hd) (gl:GL) (v5 v13 v14 v15:AV) (h:Heap) (x:Esc) (K:KT):Prop:=
 pK (oBin .lss v15 v14) fun t1=>
 z0i t1 (pK (z03 (some 6) v13 v15 h) fun t2=>
 pK (z0e (some 6) t2 h) fun t3=>
 alK [.p (.int .i64 0),.p (.int .i64 0),.p (.int .i64 0),.p (.str []),.p (.str []),.p (.str [])] h fun t4 h5 y6=>
 wK (z0m (some 6) t4 t3 h5) fun t7 h8 y9=>
 pK (z0e (some 6) t4 h8) fun t10=>
 C zaN [t10] h8 fun t11 h12 y13=>
 pK (oBin .add t11 (.p (.str [10]))) fun t14=>
 C z2r [v5,t14] h12 fun t15 h16 y17=>
 pK (oBin .add v15 (AI 1)) fun t18=>
 K .normal ⟨[(5,v5),(13,v13),(14,v14),(15,t18)],h16,(y17++(y13++(y9++(y6++x))))⟩)
 (K (.exit 0) ⟨[(5,v5),(13,v13),(14,v14),(15,v15),(16,t1)],h,x⟩)
theorem zoQ {C gl e h x K}:NW C gl z2D ⟨e,h,x⟩ K=zeh C gl (aget e 5) (aget e 13) (aget e 14) (aget e 15) h x K:=by kernel_rfl
theorem zqx {C gl e h x K}:NW C gl (.loop (.scope z2D)) ⟨e,h,x⟩ K=z1a C gl (.scope z2D) K [(5,aget e 5),(13,aget e 13),(14,aget e 14),(15,aget e 15)] h x:=z2a
def z69:ACode:=.pr [5] (.seq (.seq (rg [cL 24 z8K [5],
bN 25 .gtr 24 (cI 200000)] [5,25])
(.cond 25 (.seq (rg [mV 2 (cS []),
mV 3 (cI 2)] [2,3])
.ret)
.skip))
(.seq (rg [cL 26 z4d [5],
mV 2 26,
mV 3 (cI 0)] [2,3])
.ret))
def zei (C:Hd) (gl:GL) (v5:AV) (h:Heap) (x:Esc) (K:KT):Prop:=
 C z8K [v5] h fun t1 h2 y3=>
 pK (oBin .gtr t1 (AI 200000)) fun t4=>
 z0i t4 (K .ret ⟨[(2,(.p (.str []))),(3,(AI 2))],h2,(y3++x)⟩)
 (C z4d [v5] h2 fun t5 h6 y7=>
 K .ret ⟨[(2,t5),(3,(AI 0))],h6,(y7++(y3++x))⟩)
theorem zoR {C gl e h x K}:NW C gl z69 ⟨e,h,x⟩ K=zei C gl (aget e 5) h x K:=by kernel_rfl
def zwX (q1 q2:ACode):ACode:=(.seq (rg [mV 2 (cS []),
mV 3 (cI 0)] [0])
(.seq (.seq (rg [mV 8 0,
cL 9 z4e [8],
mV 4 9] [0,4])
(.seq (rg [mV 10 4,
bN 11 .neq 10 (cI 0)] [0,4,11])
(.cond 11 (.seq (rg [mV 12 4,
mV 2 (cS []),
mV 3 12] [2,3])
.ret)
.skip)))
(.seq (rg [uO 5 (.uns 0 106 [(cI 5)])] [0,5])
(.seq (.seq (rg [mV 13 0,
lN 14 13,
mV 15 (cI 0)] [5,13,14,15])
(.block 0 (.loop (.scope q1))))
q2))))
def zms:AFun:=⟨1,[.t 2,.t 3],zwX z2D z69,false,false⟩
def zeg (C:Hd) (gl:GL) (q1 q2:ACode) (v0:AV) (h:Heap) (x:Esc) (K:KT):Prop:=
 C z4e [v0] h fun t1 h2 y3=>
 pK (oBin .neq t1 (AI 0)) fun t4=>
 z0i t4 (K .ret ⟨[(2,(.p (.str []))),(3,t1)],h2,(y3++x)⟩)
 (wK (z13 0 106 [(AI 5)] h2) fun t5 h6 y7=>
 pK (oLen v0) fun t8=>
 NW C gl (.loop (.scope q1)) ⟨[(5,t5),(13,v0),(14,t8),(15,(AI 0))],h6,(y7++(y3++x))⟩ (z0t 0 (seqN C gl q2 K)))
theorem E_q069 {C gl q1 q2 v0 h x K}:NW C gl (zwX q1 q2) ⟨enter [v0],h,x⟩ K=zeg C gl q1 q2 v0 h x K:=by kernel_rfl
theorem e_q069 {C gl v0 h x K}:NW C gl zms.body ⟨enter [v0],h,x⟩ K=zeg C gl z2D z69 v0 h x K:=E_q069
def z31:ACode:=.pr [0,12,13,14] (.seq (rg [bN 15 .lss 14 13] [0,12,13,14,15])
(.seq (.cond 15 .skip
(.exit 0))
(.seq (.block 1 (.seq (rg [iA 16 (some 6) 12 14,
lD 17 (some 6) 16,
uO 4 (.alloc [.p (.int .i64 0),.p (.int .i64 0),.p (.int .i64 0),.p (.str []),.p (.str []),.p (.str [])]),
wO (.store (some 6) 4 17)] [0,4,12,13,14])
(.seq (rg [lD 18 (some 6) 4,
cL 19 za4 [18],
mV 5 19] [0,5,12,13,14])
(.seq (rg [mV 20 5,
bN 21 .neq 20 (cI 0)] [0,5,12,13,14,21])
(.cond 21 (.seq (rg [mV 22 5,
mV 2 22] [2])
.ret)
.skip)))))
(rg [bN 23 .add 14 (cI 1),
mV 14 23] [0,12,13,14]))))
def zdD (C:Hd) (gl:GL) (v0 v12 v13 v14:AV) (h:Heap) (x:Esc) (K:KT):Prop:=
 pK (oBin .lss v14 v13) fun t1=>
 z0i t1 (pK (z03 (some 6) v12 v14 h) fun t2=>
 pK (z0e (some 6) t2 h) fun t3=>
 alK [.p (.int .i64 0),.p (.int .i64 0),.p (.int .i64 0),.p (.str []),.p (.str []),.p (.str [])] h fun t4 h5 y6=>
 wK (z0m (some 6) t4 t3 h5) fun t7 h8 y9=>
 pK (z0e (some 6) t4 h8) fun t10=>
 C za4 [t10] h8 fun t11 h12 y13=>
 pK (oBin .neq t11 (AI 0)) fun t14=>
 z0i t14 (K .ret ⟨[(2,t11)],h12,(y13++(y9++(y6++x)))⟩)
 (pK (oBin .add v14 (AI 1)) fun t15=>
 K .normal ⟨[(0,v0),(12,v12),(13,v13),(14,t15)],h12,(y13++(y9++(y6++x)))⟩))
 (K (.exit 0) ⟨[(0,v0),(12,v12),(13,v13),(14,v14),(15,t1)],h,x⟩)
theorem zoq {C gl e h x K}:NW C gl z31 ⟨e,h,x⟩ K=zdD C gl (aget e 0) (aget e 12) (aget e 13) (aget e 14) h x K:=by kernel_rfl
theorem zqk {C gl e h x K}:NW C gl (.loop (.scope z31)) ⟨e,h,x⟩ K=z1a C gl (.scope z31) K [(0,aget e 0),(12,aget e 12),(13,aget e 13),(14,aget e 14)] h x:=z2a
def z6t:ACode:=.pr [0] (.seq (.seq (rg [mV 25 0,
cL 26 z8I [25],
mV 24 26,
eX 27 24 0,
eX 28 24 1,
eX 29 24 2,
mV 6 27,
mV 7 28,
mV 8 29] [6])
(.seq (rg [mV 30 6,
uO 31 (.lens 30),
bN 32 .gtr 31 (cI 20000)] [32])
(.cond 32 (.seq (rg [mV 2 (cI 2)] [2])
.ret)
.skip)))
(.seq (rg [mV 2 (cI 0)] [2])
.ret))
def zdE (C:Hd) (gl:GL) (v0:AV) (h:Heap) (x:Esc) (K:KT):Prop:=
 C z8I [v0] h fun t1 h2 y3=>
 pK (oExt t1 0) fun t4=>
 pK (oExt t1 1) fun t5=>
 pK (oExt t1 2) fun t6=>
 pK (z0C t4) fun t7=>
 pK (oBin .gtr t7 (AI 20000)) fun t8=>
 z0i t8 (K .ret ⟨[(2,(AI 2))],h2,(y3++x)⟩)
 (K .ret ⟨[(2,(AI 0))],h2,(y3++x)⟩)
theorem zor {C gl e h x K}:NW C gl z6t ⟨e,h,x⟩ K=zdE C gl (aget e 0) h x K:=by kernel_rfl
def zwJ (q1 q2:ACode):ACode:=(.seq (rg [mV 2 (cI 0)] [0])
(.seq (.seq (rg [mV 9 0,
lN 10 9,
bN 11 .gtr 10 (cI 1000)] [0,11])
(.cond 11 (.seq (rg [mV 2 (cI 2)] [2])
.ret)
.skip))
(.seq (.seq (rg [mV 12 0,
lN 13 12,
mV 14 (cI 0)] [0,12,13,14])
(.block 0 (.loop (.scope q1))))
q2)))
def zlS:AFun:=⟨1,[.t 2],zwJ z31 z6t,false,false⟩
def zdC (C:Hd) (gl:GL) (q1 q2:ACode) (v0:AV) (h:Heap) (x:Esc) (K:KT):Prop:=
 pK (oLen v0) fun t1=>
 pK (oBin .gtr t1 (AI 1000)) fun t2=>
 z0i t2 (K .ret ⟨[(2,(AI 2))],h,x⟩)
 (pK (oLen v0) fun t3=>
 NW C gl (.loop (.scope q1)) ⟨[(0,v0),(12,v0),(13,t3),(14,(AI 0))],h,x⟩ (z0t 0 (seqN C gl q2 K)))
theorem E_q033 {C gl q1 q2 v0 h x K}:NW C gl (zwJ q1 q2) ⟨enter [v0],h,x⟩ K=zdC C gl q1 q2 v0 h x K:=by kernel_rfl
theorem e_q033 {C gl v0 h x K}:NW C gl zlS.body ⟨enter [v0],h,x⟩ K=zdC C gl z31 z6t v0 h x K:=E_q033
def P_q064:ACode:=(.seq (rg [mV 2 (.c (.p (.sl (some 6) []))),
mV 3 (cI 0),
mV 4 (cI 0)] [0])
(.seq (.seq (rg [mV 9 0,
uO 10 (.lens 9),
bN 11 .gtr 10 (cI 200000)] [0,11])
(.cond 11 (.seq (rg [mV 2 (.c (.p (.sl (some 6) []))),
mV 3 (cI 0),
mV 4 (cI 2)] [2,3,4])
.ret)
.skip))
(.seq (rg [uO 5 (.uns 8 0 [(.c (.sl0 (some 6)))])] [0,5])
(.seq (rg [mV 13 0,
uO 14 (.mkfn z8N [5]),
cL 15 zar [13,14],
mV 12 15,
eX 16 12 0,
eX 17 12 1,
mV 6 16,
mV 7 17] [5,6,7])
(.seq (.seq (rg [mV 18 7,
uO 19 (.un .not 18)] [5,6,19])
(.cond 19 (.seq (rg [mV 20 6,
mV 2 (.c (.p (.sl (some 6) []))),
mV 3 20,
mV 4 (cI 9)] [2,3,4])
.ret)
.skip))
(.seq (.seq (rg [lD 21 none 5,
cL 22 z4e [21],
mV 8 22] [5,8])
(.seq (rg [mV 23 8,
bN 24 .neq 23 (cI 0)] [5,8,24])
(.cond 24 (.seq (rg [mV 25 8,
mV 2 (.c (.p (.sl (some 6) []))),
mV 3 (cI 0),
mV 4 25] [2,3,4])
.ret)
.skip)))
(.seq (rg [lD 26 none 5,
mV 2 26,
mV 3 (cI 0),
mV 4 (cI 0)] [2,3,4])
.ret)))))))
def zmq:AFun:=⟨1,[.t 2,.t 3,.t 4],P_q064,false,false⟩
def zef (C:Hd) (gl:GL) (v0:AV) (h:Heap) (x:Esc) (K:KT):Prop:=
 pK (z0C v0) fun t1=>
 pK (oBin .gtr t1 (AI 200000)) fun t2=>
 z0i t2 (K .ret ⟨[(2,(.p (.sl (some 6) []))),(3,(AI 0)),(4,(AI 2))],h,x⟩)
 (wK (z13 8 0 [.sl0 (some 6)] h) fun t3 h4 y5=>
 C zar [v0,(.fn z8N [t3])] h4 fun t6 h7 y8=>
 pK (oExt t6 0) fun t9=>
 pK (oExt t6 1) fun t10=>
 pK (oUn .not t10) fun t11=>
 z0i t11 (K .ret ⟨[(2,(.p (.sl (some 6) []))),(3,t9),(4,(AI 9))],h7,(y8++(y5++x))⟩)
 (pK (z0e none t3 h7) fun t12=>
 C z4e [t12] h7 fun t13 h14 y15=>
 pK (oBin .neq t13 (AI 0)) fun t16=>
 z0i t16 (K .ret ⟨[(2,(.p (.sl (some 6) []))),(3,(AI 0)),(4,t13)],h14,(y15++(y8++(y5++x)))⟩)
 (pK (z0e none t3 h14) fun t17=>
 K .ret ⟨[(2,t17),(3,(AI 0)),(4,(AI 0))],h14,(y15++(y8++(y5++x)))⟩)))
theorem e_q064 {C gl v0 h x K}:NW C gl zmq.body ⟨enter [v0],h,x⟩ K=zef C gl v0 h x K:=by kernel_rfl
def P_q02r:ACode:=(.seq (rg [mV 4 (cI 0)] [0,1])
(.seq (rg [mV 7 0,
uO 8 (.nilchk 7),
fA 9 1 none 8,
lD 10 none 9,
bN 11 .add 10 (cI 1),
uO 12 (.nilchk 7),
fA 13 1 none 12,
wO (.store none 13 11)] [0,1])
(.seq (.seq (rg [mV 14 0,
uO 15 (.nilchk 14),
fA 16 0 none 15,
lD 17 none 16,
lN 18 17,
bN 19 .eql 18 (cI 0)] [0,1,19])
(.cond 19 (.seq (rg [mV 20 0,
uO 21 (.nilchk 20),
fA 22 1 none 21,
lD 23 none 22,
bN 24 .mul 23 (cI 7919),
mV 25 1,
cL 26 z5s [24,25],
mV 4 26] [4])
.ret)
.skip))
(.seq (dr [dF (mV 27 0) [0],
dF (uO 28 (.nilchk 27)) [27],
dF (fA 29 1 none 28) [28],
dF (lD 30 none 29) [29],
dF (bN 31 .sub 30 (cI 1)) [30],
dF (mV 32 0) [0],
dF (uO 33 (.nilchk 32)) [32],
dF (fA 34 0 none 33) [33],
dF (lD 35 none 34) [34],
dF (lN 36 35) [35],
dF (bN 37 .rem 31 36) [31,36],
dF (mV 5 37) [37]] [0,1,5])
(.seq (dr [dF (mV 38 0) [0],
dF (uO 39 (.nilchk 38)) [38],
dF (fA 40 1 none 39) [39],
dF (lD 41 none 40) [40],
dF (bN 42 .sub 41 (cI 1)) [41],
dF (mV 43 0) [0],
dF (uO 44 (.nilchk 43)) [43],
dF (fA 45 0 none 44) [44],
dF (lD 46 none 45) [45],
dF (lN 47 46) [46],
dF (bN 48 .quo 42 47) [42,47],
dF (mV 6 48) [48]] [0,1,5,6])
(.seq (rg [mV 49 0,
uO 50 (.nilchk 49),
fA 51 0 none 50,
lD 52 none 51,
mV 53 5,
iA 54 none 52 53,
lD 55 none 54,
cL 56 z5s [55,(cI 1073741824)],
mV 57 6,
mV 58 5,
bN 59 .add (cI 7919) 58,
bN 60 .mul 57 59,
bN 61 .add 56 60,
mV 62 1,
cL 63 z5s [61,62],
mV 4 63] [4])
.ret))))))
def zlH:AFun:=⟨2,[.t 4],P_q02r,false,false⟩
def zhi (C:Hd) (gl:GL) (v0 v1:AV) (h:Heap) (x:Esc) (K:KT):Prop:=
 pK (oNil v0) fun t1=>
 pK (z0d 1 none t1) fun t2=>
 pK (z0e none t2 h) fun t3=>
 pK (oBin .add t3 (AI 1)) fun t4=>
 pK (oNil v0) fun t5=>
 pK (z0d 1 none t5) fun t6=>
 wK (z0m none t6 t4 h) fun t7 h8 y9=>
 pK (oNil v0) fun t10=>
 pK (z0d 0 none t10) fun t11=>
 pK (z0e none t11 h8) fun t12=>
 pK (oLen t12) fun t13=>
 pK (oBin .eql t13 (AI 0)) fun t14=>
 z0i t14 (pK (oNil v0) fun t15=>
 pK (z0d 1 none t15) fun t16=>
 pK (z0e none t16 h8) fun t17=>
 pK (oBin .mul t17 (AI 7919)) fun t18=>
 C z5s [t18,v1] h8 fun t19 h20 y21=>
 K .ret ⟨[(4,t19)],h20,(y21++(y9++x))⟩)
 (pK (oNil v0) fun t22=>
 pK (z0d 1 none t22) fun t23=>
 pK (z0e none t23 h8) fun t24=>
 pK (oBin .sub t24 (AI 1)) fun t25=>
 pK (oNil v0) fun t26=>
 pK (z0d 0 none t26) fun t27=>
 pK (z0e none t27 h8) fun t28=>
 pK (oLen t28) fun t29=>
 pK (oBin .rem t25 t29) fun t30=>
 pK (oNil v0) fun t31=>
 pK (z0d 1 none t31) fun t32=>
 pK (z0e none t32 h8) fun t33=>
 pK (oBin .sub t33 (AI 1)) fun t34=>
 pK (oNil v0) fun t35=>
 pK (z0d 0 none t35) fun t36=>
 pK (z0e none t36 h8) fun t37=>
 pK (oLen t37) fun t38=>
 pK (oBin .quo t34 t38) fun t39=>
 pK (oNil v0) fun t40=>
 pK (z0d 0 none t40) fun t41=>
 pK (z0e none t41 h8) fun t42=>
 pK (z03 none t42 t30 h8) fun t43=>
 pK (z0e none t43 h8) fun t44=>
 C z5s [t44,(AI 1073741824)] h8 fun t45 h46 y47=>
 pK (oBin .add (AI 7919) t30) fun t48=>
 pK (oBin .mul t39 t48) fun t49=>
 pK (oBin .add t45 t49) fun t50=>
 C z5s [t50,v1] h46 fun t51 h52 y53=>
 K .ret ⟨[(4,t51)],h52,(y53++(y47++(y9++x)))⟩)
theorem e_q02r {C gl v0 v1 h x K}:NW C gl zlH.body ⟨enter [v0,v1],h,x⟩ K=zhi C gl v0 v1 h x K:=by kernel_rfl
def z3B:ACode:=.pr [0,10,11,12] (.seq (rg [bN 13 .lss 12 11] [0,10,11,12,13])
(.seq (.cond 13 .skip
(.exit 0))
(.seq (.block 1 (.seq (rg [iA 14 (some 6) 10 12,
lD 15 (some 6) 14,
uO 4 (.alloc [.p (.int .i64 0),.p (.int .i64 0),.p (.int .i64 0),.p (.str []),.p (.str []),.p (.str [])]),
wO (.store (some 6) 4 15)] [0,4,10,11,12])
(.seq (.seq (rg [fA 16 0 none 4,
lD 17 none 16,
cL 18 z1i [17,(cI 1),(cI 10)]] [0,4,10,11,12,18])
(.cond 18 (.seq (rg [mV 2 (cI 4)] [2])
.ret)
.skip))
(.seq (rg [lD 20 (some 6) 4,
cL 21 z8P [20],
mV 19 21,
eX 22 19 0,
eX 23 19 1,
uO 5 (.alloc [.p (.int .i64 0),.p (.int .i64 0),.p (.int .i64 0),.p (.str []),.p (.str []),.p (.str [])]),
wO (.store (some 6) 5 22),
mV 6 23] [0,4,5,6,10,11,12])
(.block 2 (.seq (rg [mV 25 6,
bN 26 .neq 25 (cI 0),
mV 24 26] [0,4,5,6,10,11,12,24])
(.cond 24 (.seq (rg [mV 27 6,
mV 2 27] [2])
.ret)
(.seq (rg [lD 29 (some 6) 5,
fA 30 0 none 4,
lD 31 none 30,
uO 32 (.build [.p (.int .i64 0),.p (.int .i64 0),.p (.int .i64 0),.p (.str []),.p (.str []),.p (.str [])] [(0,1,31)]),
uO 33 (.eqa [0,0,0,2,2,2] true 29 32),
mV 28 33] [0,10,11,12,28])
(.cond 28 (.seq (rg [mV 2 (cI 3)] [2])
.ret)
.skip)))))))))
(rg [bN 34 .add 12 (cI 1),
mV 12 34] [0,10,11,12]))))
def zec (C:Hd) (gl:GL) (v0 v10 v11 v12:AV) (h:Heap) (x:Esc) (K:KT):Prop:=
 pK (oBin .lss v12 v11) fun t1=>
 z0i t1 (pK (z03 (some 6) v10 v12 h) fun t2=>
 pK (z0e (some 6) t2 h) fun t3=>
 alK [.p (.int .i64 0),.p (.int .i64 0),.p (.int .i64 0),.p (.str []),.p (.str []),.p (.str [])] h fun t4 h5 y6=>
 wK (z0m (some 6) t4 t3 h5) fun t7 h8 y9=>
 pK (z0d 0 none t4) fun t10=>
 pK (z0e none t10 h8) fun t11=>
 C z1i [t11,(AI 1),(AI 10)] h8 fun t12 h13 y14=>
 z0i t12 (K .ret ⟨[(2,(AI 4))],h13,(y14++(y9++(y6++x)))⟩)
 (pK (z0e (some 6) t4 h13) fun t15=>
 C z8P [t15] h13 fun t16 h17 y18=>
 pK (oExt t16 0) fun t19=>
 pK (oExt t16 1) fun t20=>
 alK [.p (.int .i64 0),.p (.int .i64 0),.p (.int .i64 0),.p (.str []),.p (.str []),.p (.str [])] h17 fun t21 h22 y23=>
 wK (z0m (some 6) t21 t19 h22) fun t24 h25 y26=>
 pK (oBin .neq t20 (AI 0)) fun t27=>
 z0i t27 (K .ret ⟨[(2,t20)],h25,(y26++(y23++(y18++(y14++(y9++(y6++x))))))⟩)
 (pK (z0e (some 6) t21 h25) fun t28=>
 pK (z0d 0 none t4) fun t29=>
 pK (z0e none t29 h25) fun t30=>
 pK (z0y [.p (.int .i64 0),.p (.int .i64 0),.p (.int .i64 0),.p (.str []),.p (.str []),.p (.str [])] [(0,1,t30)]) fun t31=>
 pK (oEqa [0,0,0,2,2,2] true t28 t31) fun t32=>
 z0i t32 (K .ret ⟨[(2,(AI 3))],h25,(y26++(y23++(y18++(y14++(y9++(y6++x))))))⟩)
 (pK (oBin .add v12 (AI 1)) fun t33=>
 K .normal ⟨[(0,v0),(10,v10),(11,v11),(12,t33)],h25,(y26++(y23++(y18++(y14++(y9++(y6++x))))))⟩))))
 (K (.exit 0) ⟨[(0,v0),(10,v10),(11,v11),(12,v12),(13,t1)],h,x⟩)
theorem zoO {C gl e h x K}:NW C gl z3B ⟨e,h,x⟩ K=zec C gl (aget e 0) (aget e 10) (aget e 11) (aget e 12) h x K:=by kernel_rfl
theorem zqw {C gl e h x K}:NW C gl (.loop (.scope z3B)) ⟨e,h,x⟩ K=z1a C gl (.scope z3B) K [(0,aget e 0),(10,aget e 10),(11,aget e 11),(12,aget e 12)] h x:=z2a
def z68:ACode:=.pr [0] (.seq (.seq (rg [mV 35 0,
cL 36 z6b [35,(.c (.nilp))],
uO 37 (.nilchk 36),
fA 38 37 none 37,
lD 39 none 38,
bN 40 .gtr 39 (cI 20000)] [40])
(.cond 40 (.seq (rg [mV 2 (cI 2)] [2])
.ret)
.skip))
(.seq (rg [mV 2 (cI 0)] [2])
.ret))
def zee (C:Hd) (gl:GL) (v0:AV) (h:Heap) (x:Esc) (K:KT):Prop:=
 C z6b [v0,(.nilp)] h fun t1 h2 y3=>
 pK (oNil t1) fun t4=>
 pK (z0d 37 none t4) fun t5=>
 pK (z0e none t5 h2) fun t6=>
 pK (oBin .gtr t6 (AI 20000)) fun t7=>
 z0i t7 (K .ret ⟨[(2,(AI 2))],h2,(y3++x)⟩)
 (K .ret ⟨[(2,(AI 0))],h2,(y3++x)⟩)
theorem zoP {C gl e h x K}:NW C gl z68 ⟨e,h,x⟩ K=zee C gl (aget e 0) h x K:=by kernel_rfl
def zwW (q1 q2:ACode):ACode:=(.seq (rg [mV 2 (cI 0)] [0])
(.seq (.seq (rg [mV 7 0,
lN 8 7,
bN 9 .gtr 8 (cI 1000)] [0,9])
(.cond 9 (.seq (rg [mV 2 (cI 2)] [2])
.ret)
.skip))
(.seq (.seq (rg [mV 10 0,
lN 11 10,
mV 12 (cI 0)] [0,10,11,12])
(.block 0 (.loop (.scope q1))))
q2)))
def zcS:AFun:=⟨1,[.t 2],zwW z3B z68,false,false⟩
def zeb (C:Hd) (gl:GL) (q1 q2:ACode) (v0:AV) (h:Heap) (x:Esc) (K:KT):Prop:=
 pK (oLen v0) fun t1=>
 pK (oBin .gtr t1 (AI 1000)) fun t2=>
 z0i t2 (K .ret ⟨[(2,(AI 2))],h,x⟩)
 (pK (oLen v0) fun t3=>
 NW C gl (.loop (.scope q1)) ⟨[(0,v0),(10,v0),(11,t3),(12,(AI 0))],h,x⟩ (z0t 0 (seqN C gl q2 K)))
theorem E_q062 {C gl q1 q2 v0 h x K}:NW C gl (zwW q1 q2) ⟨enter [v0],h,x⟩ K=zeb C gl q1 q2 v0 h x K:=by kernel_rfl
theorem e_q062 {C gl v0 h x K}:NW C gl zcS.body ⟨enter [v0],h,x⟩ K=zeb C gl z3B z68 v0 h x K:=E_q062
def z2E:ACode:=.pr [5,13,14,15] (.seq (rg [bN 16 .lss 15 14] [5,13,14,15,16])
(.seq (.cond 16 .skip
(.exit 0))
(.seq (.block 1 (.seq (rg [iA 17 (some 6) 13 15,
lD 18 (some 6) 17,
uO 7 (.alloc [.p (.int .i64 0),.p (.int .i64 0),.p (.int .i64 0),.p (.str []),.p (.str []),.p (.str [])]),
wO (.store (some 6) 7 18)] [5,7,13,14,15])
(.seq (.seq (rg [mV 19 5,
uO 20 (.nilchk 19),
fA 21 37 none 20,
lD 22 none 21,
bN 23 .gtr 22 (cI 20000)] [5,7,13,14,15,23])
(.cond 23 (.exit 0)
.skip))
(rg [mV 24 5,
lD 25 (some 6) 7,
cL 26 z8Q [24,25]] [5,13,14,15]))))
(rg [bN 27 .add 15 (cI 1),
mV 15 27] [5,13,14,15]))))
def zep (C:Hd) (gl:GL) (v5 v13 v14 v15:AV) (h:Heap) (x:Esc) (K:KT):Prop:=
 pK (oBin .lss v15 v14) fun t1=>
 z0i t1 (pK (z03 (some 6) v13 v15 h) fun t2=>
 pK (z0e (some 6) t2 h) fun t3=>
 alK [.p (.int .i64 0),.p (.int .i64 0),.p (.int .i64 0),.p (.str []),.p (.str []),.p (.str [])] h fun t4 h5 y6=>
 wK (z0m (some 6) t4 t3 h5) fun t7 h8 y9=>
 pK (oNil v5) fun t10=>
 pK (z0d 37 none t10) fun t11=>
 pK (z0e none t11 h8) fun t12=>
 pK (oBin .gtr t12 (AI 20000)) fun t13=>
 z0i t13 (K (.exit 0) ⟨[(5,v5),(7,t4),(13,v13),(14,v14),(15,v15),(23,t13)],h8,(y9++(y6++x))⟩)
 (pK (z0e (some 6) t4 h8) fun t14=>
 C z8Q [v5,t14] h8 fun t15 h16 y17=>
 pK (oBin .add v15 (AI 1)) fun t18=>
 K .normal ⟨[(5,v5),(13,v13),(14,v14),(15,t18)],h16,(y17++(y9++(y6++x)))⟩))
 (K (.exit 0) ⟨[(5,v5),(13,v13),(14,v14),(15,v15),(16,t1)],h,x⟩)
theorem zoV {C gl e h x K}:NW C gl z2E ⟨e,h,x⟩ K=zep C gl (aget e 5) (aget e 13) (aget e 14) (aget e 15) h x K:=by kernel_rfl
theorem zqz {C gl e h x K}:NW C gl (.loop (.scope z2E)) ⟨e,h,x⟩ K=z1a C gl (.scope z2E) K [(5,aget e 5),(13,aget e 13),(14,aget e 14),(15,aget e 15)] h x:=z2a
def z49:ACode:=.pr [5] (.seq (rg [mV 28 5,
mV 4 28] [4])
.ret)
def zeq (C:Hd) (gl:GL) (v5:AV) (h:Heap) (x:Esc) (K:KT):Prop:=
 K .ret ⟨[(4,v5)],h,x⟩
theorem zoW {C gl e h x K}:NW C gl z49 ⟨e,h,x⟩ K=zeq C gl (aget e 5) h x K:=by kernel_rfl
def zxa (q1 q2:ACode):ACode:=(.seq (rg [mV 4 (.c (.nilp))] [0,1])
(.seq (rg [cL 8 z8U [],
mV 9 1,
uO 10 (.isnil 0 true 9),
uO 11 (.build [.p (.int .i64 0),.p (.int .i64 0),.p (.int .i64 0),.p (.str []),.p (.str []),.p (.str []),.p (.int .i64 0),.p (.int .i64 0),.p (.int .i64 0),.p (.str []),.p (.str []),.p (.str []),.p (.int .i64 0),.p (.int .i64 0),.p (.int .i64 0),.p (.str []),.p (.str []),.p (.str []),.p (.int .i64 0),.p (.int .i64 0),.p (.int .i64 0),.p (.str []),.p (.str []),.p (.str []),.p (.int .i64 0),.p (.int .i64 0),.p (.int .i64 0),.p (.str []),.p (.str []),.p (.str []),.p (.int .i64 0),.p (.int .i64 0),.p (.int .i64 0),.p (.str []),.p (.str []),.p (.str []),.p (.int .i64 0),.p (.int .i64 0),.p (.int .i64 0),.p (.int .i64 0),.sl0 none,.sl0 none,.sl0 none,.sl0 none,.sl0 none,.p (.bool false)] [(0,36,8),(36,1,(cI 0)),(45,1,10)]),
uO 12 (.uns 12 0 [11]),
mV 5 12] [0,5])
(.seq (.seq (rg [mV 13 0,
lN 14 13,
mV 15 (cI 0)] [5,13,14,15])
(.block 0 (.loop (.scope q1))))
q2)))
def zgH:AFun:=⟨2,[.t 4],zxa z2E z49,false,false⟩
def zeo (C:Hd) (gl:GL) (q1 q2:ACode) (v0 v1:AV) (h:Heap) (x:Esc) (K:KT):Prop:=
 C z8U [] h fun t1 h2 y3=>
 pK (zaX 0 true v1) fun t4=>
 pK (z0y [.p (.int .i64 0),.p (.int .i64 0),.p (.int .i64 0),.p (.str []),.p (.str []),.p (.str []),.p (.int .i64 0),.p (.int .i64 0),.p (.int .i64 0),.p (.str []),.p (.str []),.p (.str []),.p (.int .i64 0),.p (.int .i64 0),.p (.int .i64 0),.p (.str []),.p (.str []),.p (.str []),.p (.int .i64 0),.p (.int .i64 0),.p (.int .i64 0),.p (.str []),.p (.str []),.p (.str []),.p (.int .i64 0),.p (.int .i64 0),.p (.int .i64 0),.p (.str []),.p (.str []),.p (.str []),.p (.int .i64 0),.p (.int .i64 0),.p (.int .i64 0),.p (.str []),.p (.str []),.p (.str []),.p (.int .i64 0),.p (.int .i64 0),.p (.int .i64 0),.p (.int .i64 0),.sl0 none,.sl0 none,.sl0 none,.sl0 none,.sl0 none,.p (.bool false)] [(0,36,t1),(36,1,(AI 0)),(45,1,t4)]) fun t5=>
 wK (z13 12 0 [t5] h2) fun t6 h7 y8=>
 pK (oLen v0) fun t9=>
 NW C gl (.loop (.scope q1)) ⟨[(5,t6),(13,v0),(14,t9),(15,(AI 0))],h7,(y8++(y3++x))⟩ (z0t 0 (seqN C gl q2 K))
theorem E_q06h {C gl q1 q2 v0 v1 h x K}:NW C gl (zxa q1 q2) ⟨enter [v0,v1],h,x⟩ K=zeo C gl q1 q2 v0 v1 h x K:=by kernel_rfl
theorem e_q06h {C gl v0 v1 h x K}:NW C gl zgH.body ⟨enter [v0,v1],h,x⟩ K=zeo C gl z2E z49 v0 v1 h x K:=E_q06h
def P_q06d:ACode:=(.seq (rg [mV 2 cF] [0])
(.seq (rg [mV 3 0,
cL 4 z1i [3,(cI 1),(cI 6)],
uO 5 (.un .not 4),
mV 2 5] [2])
.ret))
def zgF:AFun:=⟨1,[.t 2],P_q06d,false,false⟩
def zek (C:Hd) (gl:GL) (v0:AV) (h:Heap) (x:Esc) (K:KT):Prop:=
 C z1i [v0,(AI 1),(AI 6)] h fun t1 h2 y3=>
 pK (oUn .not t1) fun t4=>
 K .ret ⟨[(2,t4)],h2,(y3++x)⟩
theorem e_q06d {C gl v0 h x K}:NW C gl zgF.body ⟨enter [v0],h,x⟩ K=zek C gl v0 h x K:=by kernel_rfl
def P_q06o:ACode:=(.seq (rg [mV 4 (.c (.nilp))] [0,1])
(.seq (.seq (rg [mV 5 1] [0,5])
(.block 0 (.seq (rg [bN 7 .eql 5 (cI 1),
mV 6 7] [0,5,6])
(.cond 6 (.seq (rg [mV 8 0,
uO 9 (.nilchk 8),
fA 10 0 (some 6) 9,
mV 4 10] [4])
.ret)
(.seq (rg [bN 12 .eql 5 (cI 2),
mV 11 12] [0,5,11])
(.cond 11 (.seq (rg [mV 13 0,
uO 14 (.nilchk 13),
fA 15 6 (some 6) 14,
mV 4 15] [4])
.ret)
(.seq (rg [bN 17 .eql 5 (cI 3),
mV 16 17] [0,5,16])
(.cond 16 (.seq (rg [mV 18 0,
uO 19 (.nilchk 18),
fA 20 12 (some 6) 19,
mV 4 20] [4])
.ret)
(.seq (rg [bN 22 .eql 5 (cI 4),
mV 21 22] [0,5,21])
(.cond 21 (.seq (rg [mV 23 0,
uO 24 (.nilchk 23),
fA 25 18 (some 6) 24,
mV 4 25] [4])
.ret)
(.seq (rg [bN 27 .eql 5 (cI 5),
mV 26 27] [0,26])
(.cond 26 (.seq (rg [mV 28 0,
uO 29 (.nilchk 28),
fA 30 24 (some 6) 29,
mV 4 30] [4])
.ret)
.skip))))))))))))
(.seq (rg [mV 31 0,
uO 32 (.nilchk 31),
fA 33 30 (some 6) 32,
mV 4 33] [4])
.ret)))
def zgN:AFun:=⟨2,[.t 4],P_q06o,false,false⟩
def z7x (C:Hd) (gl:GL) (v0 v1:AV) (h:Heap) (x:Esc) (K:KT):Prop:=
 pK (oBin .eql v1 (AI 1)) fun t1=>
 z0i t1 (pK (oNil v0) fun t2=>
 pK (z0d 0 (some 6) t2) fun t3=>
 K .ret ⟨[(4,t3)],h,x⟩)
 (pK (oBin .eql v1 (AI 2)) fun t4=>
 z0i t4 (pK (oNil v0) fun t5=>
 pK (z0d 6 (some 6) t5) fun t6=>
 K .ret ⟨[(4,t6)],h,x⟩)
 (pK (oBin .eql v1 (AI 3)) fun t7=>
 z0i t7 (pK (oNil v0) fun t8=>
 pK (z0d 12 (some 6) t8) fun t9=>
 K .ret ⟨[(4,t9)],h,x⟩)
 (pK (oBin .eql v1 (AI 4)) fun t10=>
 z0i t10 (pK (oNil v0) fun t11=>
 pK (z0d 18 (some 6) t11) fun t12=>
 K .ret ⟨[(4,t12)],h,x⟩)
 (pK (oBin .eql v1 (AI 5)) fun t13=>
 z0i t13 (pK (oNil v0) fun t14=>
 pK (z0d 24 (some 6) t14) fun t15=>
 K .ret ⟨[(4,t15)],h,x⟩)
 (pK (oNil v0) fun t16=>
 pK (z0d 30 (some 6) t16) fun t17=>
 K .ret ⟨[(4,t17)],h,x⟩)))))
theorem e_q06o {C gl v0 v1 h x K}:NW C gl zgN.body ⟨enter [v0,v1],h,x⟩ K=z7x C gl v0 v1 h x K:=by kernel_rfl
def z2G:ACode:=.pr [0,4,35,36] (.seq (rg [bN 37 .lss 36 35] [0,4,35,36,37])
(.seq (.cond 37 .skip
(.exit 1))
(.seq (.block 2 (rg [mV 38 0,
cL 39 z4u [38,(.c (.p (.int .u8 48))),(.c (.p (.int .u8 48))),(.c (.p (.int .u8 120)))]] [0,4,35,36]))
(rg [bN 40 .add 36 (cI 1),
mV 36 40] [0,4,35,36]))))
def zew (C:Hd) (gl:GL) (v0 v4 v35 v36:AV) (h:Heap) (x:Esc) (K:KT):Prop:=
 pK (oBin .lss v36 v35) fun t1=>
 z0i t1 (C z4u [v0,(.p (.int .u8 48)),(.p (.int .u8 48)),(.p (.int .u8 120))] h fun t2 h3 y4=>
 pK (oBin .add v36 (AI 1)) fun t5=>
 K .normal ⟨[(0,v0),(4,v4),(35,v35),(36,t5)],h3,(y4++x)⟩)
 (K (.exit 1) ⟨[(0,v0),(4,v4),(35,v35),(36,v36),(37,t1)],h,x⟩)
theorem zph {C gl e h x K}:NW C gl z2G ⟨e,h,x⟩ K=zew C gl (aget e 0) (aget e 4) (aget e 35) (aget e 36) h x K:=by kernel_rfl
theorem zq2 {C gl e h x K}:NW C gl (.loop z2G) ⟨e,h,x⟩ K=z1a C gl z2G K [(0,aget e 0),(4,aget e 4),(35,aget e 35),(36,aget e 36)] h x:=z0G
def z4D:ACode:=.pr [0,4] (.seq (dr [dF (mV 41 0) [0],
dF (mV 42 0) [0],
dF (uO 43 (.nilchk 42)) [42],
dF (fA 44 40 none 43) [43],
dF (lD 45 none 44) [44],
dF (mV 46 0) [0],
dF (uO 47 (.nilchk 46)) [46],
dF (fA 48 36 none 47) [47],
dF (lD 49 none 48) [48],
dF (uO 50 (.bsl false none 1 (.int .i64 0) [(0,49)])) [49],
dT (uO 51 (.app none 45 50)) [45,50],
dF (uO 52 (.nilchk 41)) [41],
dF (fA 53 40 none 52) [52],
dT (wO (.store none 53 51)) [53,51]] [0,4])
(rg [mV 54 0,
mV 55 0,
uO 56 (.nilchk 55),
fA 57 41 none 56,
lD 58 none 57,
mV 59 4,
uO 60 (.bsl false none 1 (.int .i64 0) [(0,59)]),
uO 61 (.app none 58 60),
uO 62 (.nilchk 54),
fA 63 41 none 62,
wO (.store none 63 61)] []))
def z4n (C:Hd) (gl:GL) (v0 v4:AV) (h:Heap) (x:Esc) (K:KT):Prop:=
 pK (oNil v0) fun t1=>
 pK (z0d 40 none t1) fun t2=>
 pK (z0e none t2 h) fun t3=>
 pK (oNil v0) fun t4=>
 pK (z0d 36 none t4) fun t5=>
 pK (z0e none t5 h) fun t6=>
 wK (oBsl false none 1 (.int .i64 0) [(0,t6)] h) fun t7 h8 y9=>
 (h8=h∧y9=[])∧(wK (oApp none t3 t7 h8) fun t10 h11 y12=>
 pK (oNil v0) fun t13=>
 pK (z0d 40 none t13) fun t14=>
 wK (z0m none t14 t10 h11) fun t15 h16 y17=>
 pK (oNil v0) fun t18=>
 pK (z0d 41 none t18) fun t19=>
 pK (z0e none t19 h16) fun t20=>
 wK (oBsl false none 1 (.int .i64 0) [(0,v4)] h16) fun t21 h22 y23=>
 wK (oApp none t20 t21 h22) fun t24 h25 y26=>
 pK (oNil v0) fun t27=>
 pK (z0d 41 none t27) fun t28=>
 wK (z0m none t28 t24 h25) fun t29 h30 y31=>
 K .normal ⟨[],h30,(y31++(y26++(y23++(y17++(y12++(y9++x))))))⟩)
theorem zpi {C gl e h x K}:NW C gl z4D ⟨e,h,x⟩ K=z4n C gl (aget e 0) (aget e 4) h x K:=by kernel_rfl
def zxd (q1 q2:ACode):ACode:=(.seq (rg [uO 3 (.box 1)] [0,3])
(.seq (rg [mV 4 (cI 0)] [0,3,4])
(.seq (.block 0 (.seq (rg [fA 10 0 none 3,
lD 11 none 10,
cL 12 z8O [11],
mV 9 12] [0,3,4,9])
(.cond 9 (dr [dF (mV 13 0) [0],
dF (uO 14 (.nilchk 13)) [13],
dF (fA 15 0 (some 36) 14) [14],
dF (fA 16 0 none 3) [3],
dF (lD 17 none 16) [16],
dT (cL 18 z8S [15,17]) [15,17],
dA (lD 19 (some 6) 3) [3] false [5] [],
dF (uO 20 (.nilchk 18)) [18],
dT (wO (.store (some 6) 20 19)) [20,19]] [0,4])
(.seq (rg [fA 22 0 none 3,
lD 23 none 22,
cL 24 z29 [23],
mV 21 24] [0,3,4,21])
(.cond 21 (rg [mV 25 0,
lD 26 (some 6) 3,
cL 27 z6c [25,26],
mV 4 27] [0,4])
(.seq (rg [fA 29 0 none 3,
lD 30 none 29,
bN 31 .eql 30 (cI 9),
mV 28 31] [0,3,4,28])
(.cond 28 (.seq (rg [mV 32 0,
cL 33 z3p [32,(cI 1)]] [0,3,4])
(.seq (rg [fA 34 2 none 3,
lD 35 none 34,
mV 36 (cI 0)] [0,4,35,36])
(.block 1 (.loop q1))))
(rg [mV 5 0,
fA 6 1 none 3,
lD 7 none 6,
cL 8 z3p [5,7]] [0,4]))))))))
q2)))
def zgK:AFun:=⟨2,[],zxd z2G z4D,false,false⟩
def z3m (C:Hd) (gl:GL) (q1 q2:ACode) (v0 v1:AV) (h:Heap) (x:Esc) (K:KT):Prop:=
 wK (oBox v1 h) fun t1 h2 y3=>
 pK (z0d 0 none t1) fun t4=>
 pK (z0e none t4 h2) fun t5=>
 C z8O [t5] h2 fun t6 h7 y8=>
 z0i t6 (pK (oNil v0) fun t9=>
 pK (z0d 0 (some 36) t9) fun t10=>
 pK (z0d 0 none t1) fun t11=>
 pK (z0e none t11 h7) fun t12=>
 z1Q C z8S [t10,t12] h7 fun t13 h14 y15=>
 pK (z0e (some 6) t1 h14) fun t16=>
 (pK (z0e (some 6) t1 h7) fun v=>(fun u (g1:Heap) (y1:Esc)=>u=t16∧g1=h7∧y1=[]) v h7 [])∧(pK (oNil t13) fun t17=>
 wK (z0m (some 6) t17 t16 h14) fun t18 h19 y20=>
 NW C gl q2 ⟨[(0,v0),(4,(AI 0))],h19,(y20++(y15++(y8++(y3++x))))⟩ K))
 (pK (z0d 0 none t1) fun t21=>
 pK (z0e none t21 h7) fun t22=>
 C z29 [t22] h7 fun t23 h24 y25=>
 z0i t23 (pK (z0e (some 6) t1 h24) fun t26=>
 C z6c [v0,t26] h24 fun t27 h28 y29=>
 NW C gl q2 ⟨[(0,v0),(4,t27)],h28,(y29++(y25++(y8++(y3++x))))⟩ K)
 (pK (z0d 0 none t1) fun t30=>
 pK (z0e none t30 h24) fun t31=>
 pK (oBin .eql t31 (AI 9)) fun t32=>
 z0i t32 (C z3p [v0,(AI 1)] h24 fun t33 h34 y35=>
 pK (z0d 2 none t1) fun t36=>
 pK (z0e none t36 h34) fun t37=>
 NW C gl (.loop q1) ⟨[(0,v0),(4,(AI 0)),(35,t37),(36,(AI 0))],h34,(y35++(y25++(y8++(y3++x))))⟩ (z0t 1 (z0t 0 (seqN C gl q2 K))))
 (pK (z0d 1 none t1) fun t38=>
 pK (z0e none t38 h24) fun t39=>
 C z3p [v0,t39] h24 fun t40 h41 y42=>
 NW C gl q2 ⟨[(0,v0),(4,(AI 0))],h41,(y42++(y25++(y8++(y3++x))))⟩ K)))
theorem E_q06l {C gl q1 q2 v0 v1 h x K}:NW C gl (zxd q1 q2) ⟨enter [v0,v1],h,x⟩ K=z3m C gl q1 q2 v0 v1 h x K:=by kernel_rfl
theorem e_q06l {C gl v0 v1 h x K}:NW C gl zgK.body ⟨enter [v0,v1],h,x⟩ K=z3m C gl z2G z4D v0 v1 h x K:=E_q06l
def P_q030:ACode:=(.seq (rg [mV 4 (cI 0)] [0,1])
(.seq (rg [uO 5 (.build [.p (.int .i64 0),.p (.int .i64 0)] [(0,1,(cI 1)),(1,1,(cI 0))]),
uO 6 (.build [.p (.int .i64 0),.p (.int .i64 0)] [(0,1,(cI 1)),(1,1,(cI 2))]),
uO 7 (.build [.p (.int .i64 0),.p (.int .i64 0)] [(0,1,(cI 3)),(1,1,(cI 9))]),
uO 8 (.build [.p (.int .i64 0),.p (.int .i64 0)] [(0,1,(cI 4)),(1,1,(cI 5))]),
uO 9 (.build [.p (.int .i64 0),.p (.int .i64 0)] [(0,1,(cI 4)),(1,1,(cI 5))]),
uO 10 (.build [.p (.int .i64 0),.p (.int .i64 0)] [(0,1,(cI 6)),(1,1,(cI 8))]),
uO 11 (.build [.p (.int .i64 0),.p (.int .i64 0)] [(0,1,(cI 6)),(1,1,(cI 7))]),
uO 12 (.build [.p (.int .i64 0),.p (.int .i64 0)] [(0,1,(cI 4)),(1,1,(cI 8))]),
uO 13 (.build [.p (.int .i64 0),.p (.int .i64 0)] [(0,1,(cI 1)),(1,1,(cI 2))]),
uO 14 (.build [.p (.int .i64 0),.p (.int .i64 0)] [(0,1,(cI 10)),(1,1,(cI 0))]),
uO 15 (.build [.p (.int .i64 0),.p (.int .i64 0)] [(0,1,(cI 11)),(1,1,(cI 12))]),
uO 16 (.build [.p (.int .i64 0),.p (.int .i64 0)] [(0,1,(cI 11)),(1,1,(cI 12))]),
uO 17 (.build [.p (.int .i64 0),.p (.int .i64 0)] [(0,1,(cI 13)),(1,1,(cI 15))]),
uO 18 (.build [.p (.int .i64 0),.p (.int .i64 0)] [(0,1,(cI 13)),(1,1,(cI 14))]),
uO 19 (.build [.p (.int .i64 0),.p (.int .i64 0)] [(0,1,(cI 11)),(1,1,(cI 15))]),
uO 20 (.build [.p (.int .i64 0),.p (.int .i64 0)] [(0,1,(cI 1)),(1,1,(cI 2))]),
uO 21 (.build [.p (.int .i64 0),.p (.int .i64 0),.p (.int .i64 0),.p (.int .i64 0),.p (.int .i64 0),.p (.int .i64 0),.p (.int .i64 0),.p (.int .i64 0),.p (.int .i64 0),.p (.int .i64 0),.p (.int .i64 0),.p (.int .i64 0),.p (.int .i64 0),.p (.int .i64 0),.p (.int .i64 0),.p (.int .i64 0),.p (.int .i64 0),.p (.int .i64 0),.p (.int .i64 0),.p (.int .i64 0),.p (.int .i64 0),.p (.int .i64 0),.p (.int .i64 0),.p (.int .i64 0),.p (.int .i64 0),.p (.int .i64 0),.p (.int .i64 0),.p (.int .i64 0),.p (.int .i64 0),.p (.int .i64 0),.p (.int .i64 0),.p (.int .i64 0)] [(0,2,5),(2,2,6),(4,2,7),(6,2,8),(8,2,9),(10,2,10),(12,2,11),(14,2,12),(16,2,13),(18,2,14),(20,2,15),(22,2,16),(24,2,17),(26,2,18),(28,2,19),(30,2,20)]),
mV 22 0,
uO 23 (.idxa 16 (some 2) 21 22),
mV 24 1,
uO 25 (.idxa 2 none 23 24),
mV 4 25] [4])
.ret))
def zlQ:AFun:=⟨2,[.t 4],P_q030,false,false⟩
def znj (C:Hd) (gl:GL) (v0 v1:AV) (h:Heap) (x:Esc) (K:KT):Prop:=
 pK (z0y [.p (.int .i64 0),.p (.int .i64 0)] [(0,1,(AI 1)),(1,1,(AI 0))]) fun t1=>
 pK (z0y [.p (.int .i64 0),.p (.int .i64 0)] [(0,1,(AI 1)),(1,1,(AI 2))]) fun t2=>
 pK (z0y [.p (.int .i64 0),.p (.int .i64 0)] [(0,1,(AI 3)),(1,1,(AI 9))]) fun t3=>
 pK (z0y [.p (.int .i64 0),.p (.int .i64 0)] [(0,1,(AI 4)),(1,1,(AI 5))]) fun t4=>
 pK (z0y [.p (.int .i64 0),.p (.int .i64 0)] [(0,1,(AI 4)),(1,1,(AI 5))]) fun t5=>
 pK (z0y [.p (.int .i64 0),.p (.int .i64 0)] [(0,1,(AI 6)),(1,1,(AI 8))]) fun t6=>
 pK (z0y [.p (.int .i64 0),.p (.int .i64 0)] [(0,1,(AI 6)),(1,1,(AI 7))]) fun t7=>
 pK (z0y [.p (.int .i64 0),.p (.int .i64 0)] [(0,1,(AI 4)),(1,1,(AI 8))]) fun t8=>
 pK (z0y [.p (.int .i64 0),.p (.int .i64 0)] [(0,1,(AI 1)),(1,1,(AI 2))]) fun t9=>
 pK (z0y [.p (.int .i64 0),.p (.int .i64 0)] [(0,1,(AI 10)),(1,1,(AI 0))]) fun t10=>
 pK (z0y [.p (.int .i64 0),.p (.int .i64 0)] [(0,1,(AI 11)),(1,1,(AI 12))]) fun t11=>
 pK (z0y [.p (.int .i64 0),.p (.int .i64 0)] [(0,1,(AI 11)),(1,1,(AI 12))]) fun t12=>
 pK (z0y [.p (.int .i64 0),.p (.int .i64 0)] [(0,1,(AI 13)),(1,1,(AI 15))]) fun t13=>
 pK (z0y [.p (.int .i64 0),.p (.int .i64 0)] [(0,1,(AI 13)),(1,1,(AI 14))]) fun t14=>
 pK (z0y [.p (.int .i64 0),.p (.int .i64 0)] [(0,1,(AI 11)),(1,1,(AI 15))]) fun t15=>
 pK (z0y [.p (.int .i64 0),.p (.int .i64 0)] [(0,1,(AI 1)),(1,1,(AI 2))]) fun t16=>
 pK (z0y [.p (.int .i64 0),.p (.int .i64 0),.p (.int .i64 0),.p (.int .i64 0),.p (.int .i64 0),.p (.int .i64 0),.p (.int .i64 0),.p (.int .i64 0),.p (.int .i64 0),.p (.int .i64 0),.p (.int .i64 0),.p (.int .i64 0),.p (.int .i64 0),.p (.int .i64 0),.p (.int .i64 0),.p (.int .i64 0),.p (.int .i64 0),.p (.int .i64 0),.p (.int .i64 0),.p (.int .i64 0),.p (.int .i64 0),.p (.int .i64 0),.p (.int .i64 0),.p (.int .i64 0),.p (.int .i64 0),.p (.int .i64 0),.p (.int .i64 0),.p (.int .i64 0),.p (.int .i64 0),.p (.int .i64 0),.p (.int .i64 0),.p (.int .i64 0)] [(0,2,t1),(2,2,t2),(4,2,t3),(6,2,t4),(8,2,t5),(10,2,t6),(12,2,t7),(14,2,t8),(16,2,t9),(18,2,t10),(20,2,t11),(22,2,t12),(24,2,t13),(26,2,t14),(28,2,t15),(30,2,t16)]) fun t17=>
 pK (zcc 16 (some 2) t17 v0) fun t18=>
 pK (zcc 2 none t18 v1) fun t19=>
 K .ret ⟨[(4,t19)],h,x⟩
theorem e_q030 {C gl v0 v1 h x K}:NW C gl zlQ.body ⟨enter [v0,v1],h,x⟩ K=znj C gl v0 v1 h x K:=by kernel_rfl
def P_q057:ACode:=(.seq (rg [mV 4 (cI 0)] [0,1])
(.seq (rg [mV 5 0,
mV 6 1,
cL 7 zax [5,6],
mV 4 7] [4])
.ret))
def zmi:AFun:=⟨2,[.t 4],P_q057,false,false⟩
def zns (C:Hd) (gl:GL) (v0 v1:AV) (h:Heap) (x:Esc) (K:KT):Prop:=
 C zax [v0,v1] h fun t1 h2 y3=>
 K .ret ⟨[(4,t1)],h2,(y3++x)⟩
theorem e_q057 {C gl v0 v1 h x K}:NW C gl zmi.body ⟨enter [v0,v1],h,x⟩ K=zns C gl v0 v1 h x K:=by kernel_rfl
def z9l:ACode:=.pr [0,2,3,30] (.cond 30 (.seq (rg [mV 33 0,
mV 34 0,
uO 35 (.bsl false none 5 (.int .i64 0) [(0,(cI 1)),(1,(cI 2)),(2,(cI 3)),(3,(cI 5)),(4,(cI 8))]),
cL 36 z1z [34,35],
cL 37 z4b [33,36],
fA 38 3 none 3,
wO (.store none 38 37)] [0,2,3])
(.seq (rg [mV 39 0,
cL 40 z27 [39,(cI 2)]] [0,2,3,40])
(.cond 40 (dr [dF (mV 41 0) [0],
dF (fA 42 3 none 3) [3],
dF (lD 43 none 42) [42],
dF (uO 44 (.lens 43)) [43],
dT (cL 45 z4b [41,44]) [41,44],
dF (mV 46 0) [0],
dF (fA 47 3 none 3) [3],
dA (lD 48 none 47) [47] false [4] [],
dF (uO 49 (.lens 48)) [48],
dT (cL 50 z4b [46,49]) [46,49],
dF (fA 51 4 none 3) [3],
dT (wO (.store none 51 45)) [51,45],
dF (fA 52 5 none 3) [3],
dT (wO (.store none 52 50)) [52,50]] [0,2,3])
.skip)))
(rg [mV 10 0,
mV 11 0,
uO 12 (.bsl false none 5 (.int .i64 0) [(0,(cI 0)),(1,(cI 0)),(2,(cI 1)),(3,(cI 2)),(4,(cI 3))]),
cL 13 z1z [11,12],
cL 14 z4b [10,13],
fA 15 3 none 3,
wO (.store none 15 14)] [0,2,3]))
def zdy (C:Hd) (gl:GL) (v0 v2 v3 v30:AV) (h:Heap) (x:Esc) (K:KT):Prop:=
 z0i v30 (wK (oBsl false none 5 (.int .i64 0) [(0,(AI 1)),(1,(AI 2)),(2,(AI 3)),(3,(AI 5)),(4,(AI 8))] h) fun t1 h2 y3=>
 C z1z [v0,t1] h2 fun t4 h5 y6=>
 C z4b [v0,t4] h5 fun t7 h8 y9=>
 pK (z0d 3 none v3) fun t10=>
 wK (z0m none t10 t7 h8) fun t11 h12 y13=>
 C z27 [v0,(AI 2)] h12 fun t14 h15 y16=>
 z0i t14 (pK (z0d 3 none v3) fun t17=>
 pK (z0e none t17 h15) fun t18=>
 pK (z0C t18) fun t19=>
 z1Q C z4b [v0,t19] h15 fun t20 h21 y22=>
 pK (z0d 3 none v3) fun t23=>
 pK (z0e none t23 h21) fun t24=>
 (pK (z0e none t23 h15) fun v=>(fun u (g1:Heap) (y1:Esc)=>u=t24∧g1=h15∧y1=[]) v h15 [])∧(pK (z0C t24) fun t25=>
 z1Q C z4b [v0,t25] h21 fun t26 h27 y28=>
 pK (z0d 4 none v3) fun t29=>
 wK (z0m none t29 t20 h27) fun t30 h31 y32=>
 pK (z0d 5 none v3) fun t33=>
 wK (z0m none t33 t26 h31) fun t34 h35 y36=>
 K .normal ⟨[(0,v0),(2,v2),(3,v3)],h35,(y36++(y32++(y28++(y22++(y16++(y13++(y9++(y6++(y3++x)))))))))⟩))
 (K .normal ⟨[(0,v0),(2,v2),(3,v3),(40,t14)],h15,(y16++(y13++(y9++(y6++(y3++x)))))⟩))
 (wK (oBsl false none 5 (.int .i64 0) [(0,(AI 0)),(1,(AI 0)),(2,(AI 1)),(3,(AI 2)),(4,(AI 3))] h) fun t37 h38 y39=>
 C z1z [v0,t37] h38 fun t40 h41 y42=>
 C z4b [v0,t40] h41 fun t43 h44 y45=>
 pK (z0d 3 none v3) fun t46=>
 wK (z0m none t46 t43 h44) fun t47 h48 y49=>
 K .normal ⟨[(0,v0),(2,v2),(3,v3)],h48,(y49++(y45++(y42++(y39++x))))⟩)
theorem znX {C gl e h x K}:NW C gl z9l ⟨e,h,x⟩ K=zdy C gl (aget e 0) (aget e 2) (aget e 3) (aget e 30) h x K:=by kernel_rfl
def zcA (q1:ACode):ACode:=.pr [0,2,3,9,16] (.cond 16 (rg [mV 20 0,
uO 21 (.bsl false none 5 (.int .i64 0) [(0,(cI 0)),(1,(cI 1)),(2,(cI 1)),(3,(cI 6)),(4,(cI 13))]),
cL 22 z1z [20,21],
fA 23 1 none 3,
wO (.store none 23 22)] [0,2,3])
(.seq (rg [bN 25 .eql 9 (cI 9),
mV 24 25] [0,2,3,9,24])
(.cond 24 (rg [mV 26 0,
uO 27 (.bsl false none 4 (.int .i64 0) [(0,(cI 0)),(1,(cI 0)),(2,(cI 1)),(3,(cI 3))]),
cL 28 z1z [26,27],
fA 29 2 none 3,
wO (.store none 29 28)] [0,2,3])
(.seq (.seq (rg [bN 31 .eql 9 (cI 7),
mV 30 31] [0,2,3,9,30])
(.cond 30 .skip
(rg [bN 32 .eql 9 (cI 8),
mV 30 32] [0,2,3,30])))
q1))))
def z6n:ACode:=zcA z9l
def z8w (C:Hd) (gl:GL) (q1:ACode) (v0 v2 v3 v9 v16:AV) (h:Heap) (x:Esc) (K:KT):Prop:=
 z0i v16 (wK (oBsl false none 5 (.int .i64 0) [(0,(AI 0)),(1,(AI 1)),(2,(AI 1)),(3,(AI 6)),(4,(AI 13))] h) fun t1 h2 y3=>
 C z1z [v0,t1] h2 fun t4 h5 y6=>
 pK (z0d 1 none v3) fun t7=>
 wK (z0m none t7 t4 h5) fun t8 h9 y10=>
 K .normal ⟨[(0,v0),(2,v2),(3,v3)],h9,(y10++(y6++(y3++x)))⟩)
 (pK (oBin .eql v9 (AI 9)) fun t11=>
 z0i t11 (wK (oBsl false none 4 (.int .i64 0) [(0,(AI 0)),(1,(AI 0)),(2,(AI 1)),(3,(AI 3))] h) fun t12 h13 y14=>
 C z1z [v0,t12] h13 fun t15 h16 y17=>
 pK (z0d 2 none v3) fun t18=>
 wK (z0m none t18 t15 h16) fun t19 h20 y21=>
 K .normal ⟨[(0,v0),(2,v2),(3,v3)],h20,(y21++(y17++(y14++x)))⟩)
 (pK (oBin .eql v9 (AI 7)) fun t22=>
 z0i t22 (NW C gl q1 ⟨[(0,v0),(2,v2),(3,v3),(9,v9),(30,t22)],h,x⟩ K)
 (pK (oBin .eql v9 (AI 8)) fun t23=>
 NW C gl q1 ⟨[(0,v0),(2,v2),(3,v3),(30,t23)],h,x⟩ K)))
theorem zkJ {C gl q1 e h x K}:NW C gl (zcA q1) ⟨e,h,x⟩ K=z8w C gl q1 (aget e 0) (aget e 2) (aget e 3) (aget e 9) (aget e 16) h x K:=by kernel_rfl
theorem znY {C gl e h x K}:NW C gl z6n ⟨e,h,x⟩ K=z8w C gl z9l (aget e 0) (aget e 2) (aget e 3) (aget e 9) (aget e 16) h x K:=zkJ
def z42:ACode:=.pr [2,3] (.seq (rg [lD 99 (some 6) 3,
wO (.store (some 6) 2 99)] [2])
.ret)
def zdz (C:Hd) (gl:GL) (v2 v3:AV) (h:Heap) (x:Esc) (K:KT):Prop:=
 pK (z0e (some 6) v3 h) fun t1=>
 wK (z0m (some 6) v2 t1 h) fun t2 h3 y4=>
 K .ret ⟨[(2,v2)],h3,(y4++x)⟩
theorem znZ {C gl e h x K}:NW C gl z42 ⟨e,h,x⟩ K=zdz C gl (aget e 2) (aget e 3) h x K:=by kernel_rfl
def zcB (q3:ACode):ACode:=.pr [0,2,3] (.seq (.seq (rg [mV 53 0,
cL 54 z27 [53,(cI 60)]] [0,2,3,54])
(.cond 54 (.seq (rg [mV 55 0,
cL 56 z2i [55,(cI 4)]] [0,2,3,56])
(.block 1 (.seq (rg [bN 71 .eql 56 (cI 0),
mV 70 71] [0,2,3,56,70])
(.cond 70 (rg [mV 72 0,
cL 73 z73 [72,(cI 1),(cI 10)],
fA 74 0 none 3,
wO (.store none 74 73)] [2,3])
(.seq (rg [bN 76 .eql 56 (cI 1),
mV 75 76] [0,2,3,56,75])
(.cond 75 (rg [mV 77 0,
cL 78 z73 [77,(cI 0),(cI 15)],
mV 79 0,
uO 80 (.bsl false none 5 (.int .i64 0) [(0,(cI 0)),(1,(cI 1)),(2,(cI (-1))),(3,(cI 20000)),(4,(cI 20001))]),
cL 81 z1z [79,80],
fA 82 1 none 3,
wO (.store none 82 78),
fA 83 2 none 3,
wO (.store none 83 81)] [2,3])
(.seq (rg [bN 85 .eql 56 (cI 2),
mV 84 85] [0,2,3,84])
(.cond 84 (dr [dF (fA 86 3 none 3) [3],
dF (lD 87 none 86) [86],
dF (mV 88 0) [0],
dF (fA 89 3 none 3) [3],
dF (lD 90 none 89) [89],
dF (uO 91 (.lens 90)) [90],
dF (bN 92 .sub (cI 2000) 91) [91],
dA (cL 93 z1l [(cS [48]),92]) [92] true [] [1],
dA (cL 94 z1l [(cS [48]),(cI 2001)]) [] true [] [1],
dF (uO 95 (.bsl false none 4 (.str []) [(0,(cS [120])),(1,(cS [])),(2,93),(3,94)])) [93,94],
dA (cL 96 z28 [88,95]) [88,95] true [] [1],
dF (bN 97 .add 87 96) [87,96],
dF (fA 98 3 none 3) [3],
dT (wO (.store none 98 97)) [98,97]] [2,3])
(dr [dF (mV 57 0) [0],
dF (fA 58 4 none 3) [3],
dF (lD 59 none 58) [58],
dF (bN 60 .add 59 (cS [49])) [59],
dF (uO 61 (.bsl false none 3 (.str []) [(0,(cS [])),(1,(cS [48])),(2,60)])) [60],
dT (cL 62 z28 [57,61]) [57,61],
dF (mV 63 0) [0],
dF (fA 64 5 none 3) [3],
dA (lD 65 none 64) [64] false [5] [],
dA (uO 66 (.bsl false none 4 (.str []) [(0,(cS [])),(1,(cS [49])),(2,(cS [120])),(3,65)])) [65] false [5] [],
dT (cL 67 z28 [63,66]) [63,66],
dF (fA 68 4 none 3) [3],
dT (wO (.store none 68 62)) [68,62],
dF (fA 69 5 none 3) [3],
dT (wO (.store none 69 67)) [69,67]] [2,3])))))))))
.skip))
q3)
def z6o:ACode:=zcB z42
def z1x (C:Hd) (gl:GL) (q3:ACode) (v0 v2 v3:AV) (h:Heap) (x:Esc) (K:KT):Prop:=
 C z27 [v0,(AI 60)] h fun t1 h2 y3=>
 z0i t1 (C z2i [v0,(AI 4)] h2 fun t4 h5 y6=>
 pK (oBin .eql t4 (AI 0)) fun t7=>
 z0i t7 (C z73 [v0,(AI 1),(AI 10)] h5 fun t8 h9 y10=>
 pK (z0d 0 none v3) fun t11=>
 wK (z0m none t11 t8 h9) fun t12 h13 y14=>
 NW C gl q3 ⟨[(2,v2),(3,v3)],h13,(y14++(y10++(y6++(y3++x))))⟩ K)
 (pK (oBin .eql t4 (AI 1)) fun t15=>
 z0i t15 (C z73 [v0,(AI 0),(AI 15)] h5 fun t16 h17 y18=>
 wK (oBsl false none 5 (.int .i64 0) [(0,(AI 0)),(1,(AI 1)),(2,(AI (-1))),(3,(AI 20000)),(4,(AI 20001))] h17) fun t19 h20 y21=>
 C z1z [v0,t19] h20 fun t22 h23 y24=>
 pK (z0d 1 none v3) fun t25=>
 wK (z0m none t25 t16 h23) fun t26 h27 y28=>
 pK (z0d 2 none v3) fun t29=>
 wK (z0m none t29 t22 h27) fun t30 h31 y32=>
 NW C gl q3 ⟨[(2,v2),(3,v3)],h31,(y32++(y28++(y24++(y21++(y18++(y6++(y3++x)))))))⟩ K)
 (pK (oBin .eql t4 (AI 2)) fun t33=>
 z0i t33 (pK (z0d 3 none v3) fun t34=>
 pK (z0e none t34 h5) fun t35=>
 pK (z0d 3 none v3) fun t36=>
 pK (z0e none t36 h5) fun t37=>
 pK (z0C t37) fun t38=>
 pK (oBin .sub (AI 2000) t38) fun t39=>
 z1Q C z1l [(.p (.str [48])),t39] h5 fun t40 h41 y42=>
 (pK (z0e none t34 h41) fun v=>(fun u (g1:Heap) (y1:Esc)=>u=t35∧g1=h41∧y1=[]) v h41 [])∧(z1Q C z1l [(.p (.str [48])),(AI 2001)] h41 fun t43 h44 y45=>
 (pK (z0e none t34 h44) fun v=>(fun u (g1:Heap) (y1:Esc)=>u=t35∧g1=h44∧y1=[]) v h44 [])∧(wK (oBsl false none 4 (.str []) [(0,(.p (.str [120]))),(1,(.p (.str []))),(2,t40),(3,t43)] h44) fun t46 h47 y48=>
 (h47=h44∧y48=[])∧(z1Q C z28 [v0,t46] h47 fun t49 h50 y51=>
 (pK (z0e none t34 h50) fun v=>(fun u (g1:Heap) (y1:Esc)=>u=t35∧g1=h50∧y1=[]) v h50 [])∧(pK (oBin .add t35 t49) fun t52=>
 pK (z0d 3 none v3) fun t53=>
 wK (z0m none t53 t52 h50) fun t54 h55 y56=>
 NW C gl q3 ⟨[(2,v2),(3,v3)],h55,(y56++(y51++(y48++(y45++(y42++(y6++(y3++x)))))))⟩ K)))))
 (pK (z0d 4 none v3) fun t57=>
 pK (z0e none t57 h5) fun t58=>
 pK (oBin .add t58 (.p (.str [49]))) fun t59=>
 wK (oBsl false none 3 (.str []) [(0,(.p (.str []))),(1,(.p (.str [48]))),(2,t59)] h5) fun t60 h61 y62=>
 (h61=h5∧y62=[])∧(z1Q C z28 [v0,t60] h61 fun t63 h64 y65=>
 pK (z0d 5 none v3) fun t66=>
 pK (z0e none t66 h64) fun t67=>
 (pK (z0e none t66 h61) fun v=>(fun u (g1:Heap) (y1:Esc)=>u=t67∧g1=h61∧y1=[]) v h61 [])∧(wK (oBsl false none 4 (.str []) [(0,(.p (.str []))),(1,(.p (.str [49]))),(2,(.p (.str [120]))),(3,t67)] h64) fun t68 h69 y70=>
 (h69=h64∧y70=[])∧((wK (oBsl false none 4 (.str []) [(0,(.p (.str []))),(1,(.p (.str [49]))),(2,(.p (.str [120]))),(3,t67)] h61) (fun u (g1:Heap) (y1:Esc)=>u=t68∧g1=h61∧y1=[]))∧(z1Q C z28 [v0,t68] h69 fun t71 h72 y73=>
 pK (z0d 4 none v3) fun t74=>
 wK (z0m none t74 t63 h72) fun t75 h76 y77=>
 pK (z0d 5 none v3) fun t78=>
 wK (z0m none t78 t71 h76) fun t79 h80 y81=>
 NW C gl q3 ⟨[(2,v2),(3,v3)],h80,(y81++(y77++(y73++(y70++(y65++(y62++(y6++(y3++x))))))))⟩ K))))))))
 (NW C gl q3 ⟨[(0,v0),(2,v2),(3,v3),(54,t1)],h2,(y3++x)⟩ K)
theorem zkK {C gl q3 e h x K}:NW C gl (zcB q3) ⟨e,h,x⟩ K=z1x C gl q3 (aget e 0) (aget e 2) (aget e 3) h x K:=by kernel_rfl
theorem zoa {C gl e h x K}:NW C gl z6o ⟨e,h,x⟩ K=z1x C gl z42 (aget e 0) (aget e 2) (aget e 3) h x K:=zkK
def zwD (q2 q4:ACode):ACode:=(.seq (rg [uO 2 (.alloc [.p (.int .i64 0),.p (.int .i64 0),.p (.int .i64 0),.p (.str []),.p (.str []),.p (.str [])])] [0,2])
(.seq (rg [mV 4 0,
uO 5 (.bsl false none 13 (.int .i64 0) [(0,(cI 7)),(1,(cI 7)),(2,(cI 8)),(3,(cI 8)),(4,(cI 8)),(5,(cI 1)),(6,(cI 2)),(7,(cI 3)),(8,(cI 4)),(9,(cI 5)),(10,(cI 6)),(11,(cI 9)),(12,(cI 10))]),
cL 6 z1z [4,5],
uO 7 (.build [.p (.int .i64 0),.p (.int .i64 0),.p (.int .i64 0),.p (.str []),.p (.str []),.p (.str [])] [(0,1,6)]),
uO 3 (.alloc [.p (.int .i64 0),.p (.int .i64 0),.p (.int .i64 0),.p (.str []),.p (.str []),.p (.str [])]),
wO (.store (some 6) 3 7)] [0,2,3])
(.seq (.seq (rg [fA 8 0 none 3,
lD 9 none 8] [0,2,3,9])
(.block 0 (.seq (.seq (rg [bN 17 .eql 9 (cI 1),
mV 16 17] [0,2,3,9,16])
(.cond 16 .skip
(.seq (rg [bN 18 .eql 9 (cI 2),
mV 16 18] [0,2,3,9,16])
(.cond 16 .skip
(rg [bN 19 .eql 9 (cI 10),
mV 16 19] [0,2,3,9,16])))))
q2)))
q4)))
def zlE:AFun:=⟨1,[.cell 2 (some 6)],zwD z6n z6o,false,false⟩
def z4a (C:Hd) (gl:GL) (q2 q4:ACode) (v0:AV) (h:Heap) (x:Esc) (K:KT):Prop:=
 alK [.p (.int .i64 0),.p (.int .i64 0),.p (.int .i64 0),.p (.str []),.p (.str []),.p (.str [])] h fun t1 h2 y3=>
 wK (oBsl false none 13 (.int .i64 0) [(0,(AI 7)),(1,(AI 7)),(2,(AI 8)),(3,(AI 8)),(4,(AI 8)),(5,(AI 1)),(6,(AI 2)),(7,(AI 3)),(8,(AI 4)),(9,(AI 5)),(10,(AI 6)),(11,(AI 9)),(12,(AI 10))] h2) fun t4 h5 y6=>
 C z1z [v0,t4] h5 fun t7 h8 y9=>
 pK (z0y [.p (.int .i64 0),.p (.int .i64 0),.p (.int .i64 0),.p (.str []),.p (.str []),.p (.str [])] [(0,1,t7)]) fun t10=>
 alK [.p (.int .i64 0),.p (.int .i64 0),.p (.int .i64 0),.p (.str []),.p (.str []),.p (.str [])] h8 fun t11 h12 y13=>
 wK (z0m (some 6) t11 t10 h12) fun t14 h15 y16=>
 pK (z0d 0 none t11) fun t17=>
 pK (z0e none t17 h15) fun t18=>
 pK (oBin .eql t18 (AI 1)) fun t19=>
 z0i t19 (NW C gl q2 ⟨[(0,v0),(2,t1),(3,t11),(9,t18),(16,t19)],h15,(y16++(y13++(y9++(y6++(y3++x)))))⟩ (z0t 0 (seqN C gl q4 K)))
 (pK (oBin .eql t18 (AI 2)) fun t20=>
 z0i t20 (NW C gl q2 ⟨[(0,v0),(2,t1),(3,t11),(9,t18),(16,t20)],h15,(y16++(y13++(y9++(y6++(y3++x)))))⟩ (z0t 0 (seqN C gl q4 K)))
 (pK (oBin .eql t18 (AI 10)) fun t21=>
 NW C gl q2 ⟨[(0,v0),(2,t1),(3,t11),(9,t18),(16,t21)],h15,(y16++(y13++(y9++(y6++(y3++x)))))⟩ (z0t 0 (seqN C gl q4 K))))
theorem E_q02m {C gl q2 q4 v0 h x K}:NW C gl (zwD q2 q4) ⟨enter [v0],h,x⟩ K=z4a C gl q2 q4 v0 h x K:=by kernel_rfl
theorem e_q02m {C gl v0 h x K}:NW C gl zlE.body ⟨enter [v0],h,x⟩ K=z4a C gl z6n z6o v0 h x K:=E_q02m
def P_q02q:ACode:=(.seq (rg [mV 4 cF] [0,1])
(.seq (rg [mV 5 0,
mV 6 1,
cL 7 z2i [5,6],
bN 8 .eql 7 (cI 0),
mV 4 8] [4])
.ret))
def zlG:AFun:=⟨2,[.t 4],P_q02q,false,false⟩
def znf (C:Hd) (gl:GL) (v0 v1:AV) (h:Heap) (x:Esc) (K:KT):Prop:=
 C z2i [v0,v1] h fun t1 h2 y3=>
 pK (oBin .eql t1 (AI 0)) fun t4=>
 K .ret ⟨[(4,t4)],h2,(y3++x)⟩
theorem e_q02q {C gl v0 v1 h x K}:NW C gl zlG.body ⟨enter [v0,v1],h,x⟩ K=znf C gl v0 v1 h x K:=by kernel_rfl
def P_q02t:ACode:=(.seq (rg [mV 4 (cI 0)] [0,1])
(.seq (rg [mV 5 1,
mV 6 0,
mV 7 1,
lN 8 7,
cL 9 z2i [6,8],
iA 10 none 5 9,
lD 11 none 10,
mV 4 11] [4])
.ret))
def zlJ:AFun:=⟨2,[.t 4],P_q02t,false,false⟩
def zng (C:Hd) (gl:GL) (v0 v1:AV) (h:Heap) (x:Esc) (K:KT):Prop:=
 pK (oLen v1) fun t1=>
 C z2i [v0,t1] h fun t2 h3 y4=>
 pK (z03 none v1 t2 h3) fun t5=>
 pK (z0e none t5 h3) fun t6=>
 K .ret ⟨[(4,t6)],h3,(y4++x)⟩
theorem e_q02t {C gl v0 v1 h x K}:NW C gl zlJ.body ⟨enter [v0,v1],h,x⟩ K=zng C gl v0 v1 h x K:=by kernel_rfl
end Go.Am
end
