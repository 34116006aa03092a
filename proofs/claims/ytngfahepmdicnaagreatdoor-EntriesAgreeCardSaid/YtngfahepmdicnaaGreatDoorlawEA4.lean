/- Texts of the proof, laid together: Am29, Am30, Am31, AmX, AmS, AmW, CodesA. -/
import GoSem.Extern.Table
import Derived.Laws.World
import Derived.KernelRfl
import Derived.Test.YtngfahepmdicnaaGreatDoorlawEA3
set_option linter.all false
section
/- The abstract machine,part 29: its meaning once more,spelt so that a function's code can be printed asv a formula UD its values (shallow),equal tov the deep one by computing. -/
set_option linter.unusedSimpArgs false
set_option linter.unusedVariables false
namespace Go.Am
def pK (o:Option AV)(k:AV→Prop):Prop:=match o with
 | some v=>k v
 | none=>False
def wK (o:Option (AV × aA × Esc))(k:AV→aA→Esc→Prop):Prop:=match o with
 | some y=>k y.1 y.2.1 y.2.2
 | none=>False
def YG (c a b:AV):Option AV:=match c with
 | .p (.bool t)=>some (bif t then a else b)
 | _=>none
def aN (x:AV)(h:aA):Option (AV×aA×Esc):=match x.cells with
 | some cs=>some (.ref h.length 0,h++[.box cs],[])
 | none=>none
def EM:List (Nat × Nat × AV)→List AV→Option (List AV)
 | [],cs=>some cs
 | (off,n,x)::r,cs=>match x.cells with
  | some vs=>if vs.length=n∧off+n≤cs.length then EM r (splice cs off vs) else none
  | none=>none
def cC (z:List AV)(ps:List (Nat × Nat × AV)):Option AV:=(EM ps z).map mkA
def FM (sh:Sh):List (Nat×AV)→aA→List PV→Option (List PV×aA)
 | [],h,xs=>some (xs,h)
 | (i,x)::r,h,xs=>match pur h x with
  | some (v,h')=>if v.shp sh∧i<xs.length then FM sh r h' (xs.set i v) else none
  | none=>none
def nC (own:Bool)(sh:Sh)(n:Nat)(z:PV)(ps:List (Nat × AV))(h:aA):Option (AV×aA×Esc):=match FM sh ps h (List.replicate n z) with
 | some (xs,h')=>if !z.shp sh then none else some (bif own then(.own h'.length n 0 n,h'++[.row sh xs 0],[]) else(.p (.sl sh xs),h',[]))
 | none=>none
def SA (sh:Sh)(a:AV)(h:aA):Option AV:=match a with
 | .ref id off=>match h[id]? with
  | some (.box cs)=>cut sh off cs
  | _=>none
 | .rref id g i off=>match h[id]? with
  | some (.row _ xs _)=>if g=xs.length then((xs[i]?).bind (iB sh off)).map .p else none
  | _=>none
 | .vp v=>(iB sh 0 v).map .p
 | .bt k off id g=>ldA sh k off id g h
 | _=>none
def FB (sh:Sh)(a x:AV)(h:aA):Option (AV×aA×Esc):=match a with
 | .ref id off=>match h[id]?,x.cells with
  | some (.box cs),some vs=>if vs.length=jA sh∧off+vs.length≤cs.length then some (.und,h.set id (.box (splice cs off vs)),BE id cs x) else none
  | _,_=>none
 | .rref id g i off=>match pur h x with
  | some (v,h1)=>match h1[id]? with
   | some (.row rsh xs fz)=>if g=xs.length∧fz≤i∧v.cells.length=jA sh∧v.cells.all PV.sc then match xs[i]? with
    | some (.agg cs)=>if off+v.cells.length≤cs.length then some (.und,h1.set id (.row rsh (xs.set i (.agg (splice cs off v.cells))) fz),[]) else none
    | some _=>if off=0∧v.sc then some (.und,h1.set id (.row rsh (xs.set i v) fz),[]) else none
    | none=>none
    else none
   | _=>none
  | none=>none
 | .bt k off id g=>stA sh k off id g x h
 | _=>none
def gN (x:AV):Option AV:=match x with
 | .ref _ _ | .rref _ _ _ _ | .vp _ | .fn _ _=>some x
 | .bt k _ _ _=>nlA k x
 | _=>none
def IA (op:BinOp)(x y:AV):Option AV:=match x,y with
 | .p a,.p b=>(NB op a b).map .p
 | _,_=>none
def ZA (ks:List Nat)(neg:Bool)(x y:AV):Option AV:=match x,y with
 | .p (.agg asv),.p (.agg bs)=>if asv.map PV.kind=ks∧bs.map PV.kind=ks∧ks≠[] then(eqs asv bs).map fun t=>pbool (bif neg then !t else t) else none
 | .p (.bool a),.p (.bool b)=>if ks=[] then some (pbool (bif neg then !decide (a=b) else decide (a=b))) else none
 | _,_=>none
def dN (k:Nat)(neg:Bool)(x:AV):Option AV:=bif UG k x then some .anyb else(XM k x).map fun r=>pbool (bif neg then !r else r)
def LQ (x:AV):Option AV:=if ZG x then some .ifc else none
def oUn (op:UnOp)(x:AV):Option AV:=match x with
 | .p a=>(aun op a).map .p
 | _=>none
def TD (c:Cv)(x:AV)(h:aA):Option (AV×aA×Esc):=(rF h c x).map fun y=>(y.1,y.2,[])
def OJ (k:IntKind)(x:AV):Option AV:=match x with
 | .p (.int _ n)=>some (.p (.int k (k.wrap n)))
 | _=>none
def MQ (sh:Sh)(z:PV)(len cap:AV)(h:aA):Option (AV×aA×Esc):=match oB len,oB cap with
 | some n,some m=>if n≤m∧m≤UA∧z.shp sh then some (.own h.length n 0 n,h++[.row sh (List.replicate n z) 0],[]) else none
 | _,_=>none
def xD (d:Nat):Option AV→Option Nat
 | none=>some d
 | some x=>oB x
def iN (x:AV)(lo hi:Option AV):Option AV:=match x with
 | .p (.str s)=>match xD 0 lo,xD s.length hi with
  | some l,some r=>if l≤r∧r≤s.length then some (.p (.str (win s l (r-l)))) else none
  | _,_=>none
 | _=>none
def rI (sh:Sh)(x:AV)(lo hi mx:Option AV)(h:aA):Option AV:=match x with
 | .p (.sl sh' xs)=>match xD 0 lo,xD xs.length hi,xD xs.length mx with
  | some l,some r,some m=>if sh'=sh∧l≤r∧r≤m∧m≤xs.length then some (if mx.isSome∧m=l then .sl0 sh else .p (.sl sh (win xs l (r-l)))) else none
  | _,_,_=>none
 | .sl0 sh'=>match xD 0 lo,xD 0 hi,xD 0 mx with
  | some l,some r,some m=>if l=0∧r=0∧m=0 then some (.sl0 sh') else none
  | _,_,_=>none
 | .own id g off len=>match h[id]? with
  | some (.row rsh xs _)=>match xD 0 lo,xD len hi,xD len mx with
   | some l,some r,some m=>if rsh=sh∧g=xs.length∧off+len≤xs.length∧l≤r∧r≤m∧m≤len then some (if mx.isSome∧m=l then .sl0 sh else .own id g (off+l) (r-l)) else none
   | _,_,_=>none
  | _=>none
 | _=>none
def MA (off:Nat)(sh:Sh)(x:AV):Option AV:=match x with
 | .ref id o=>some (.ref id (o+off))
 | .rref id g i o=>some (.rref id g i (o+off))
 | .vp v=>(iB sh off v).map .vp
 | .bt k o id g=>faA k off o id g
 | _=>none
def JQ (off:Nat)(sh:Sh)(x:AV):Option AV:=match x with
 | .p v=>match v with
  | .agg _=>(iB sh off v).map .p
  | _=>none
 | .agg cs=>cut sh off cs
 | _=>none
def JE (sh:Sh)(x i:AV)(h:aA):Option AV:=match x,oB i with
 | .p (.sl sh' xs),some k=>if sh'=sh then(xs[k]?).map .vp else none
 | .own id g off len,some k=>match h[id]? with
  | some (.row rsh xs _)=>if rsh=sh∧g=xs.length∧off+len≤xs.length∧k<len then some (.rref id g (off+k) 0) else none
  | _=>none
 | .bt kk _ id g,some k=>iaA sh kk id g k h
 | _,_=>none
def qI (n:Nat)(sh:Sh)(x i:AV):Option AV:=match x,oB i with
 | .ref id o,some k=>if k<n then some (.ref id (o+k*jA sh)) else none
 | .rref id g j o,some k=>if k<n then some (.rref id g j (o+k*jA sh)) else none
 | .vp v,some k=>if k<n then(iB sh (k*jA sh) v).map .vp else none
 | _,_=>none
def cN (n:Nat)(sh:Sh)(x i:AV):Option AV:=match x,oB i with
 | .p (.agg cs),some k=>if k<n then(iB sh (k*jA sh) (.agg cs)).map .p else none
 | _,_=>none
def PJ (x i:AV):Option AV:=match x,oB i with
 | .p (.str s),some k=>(s[k]?).map fun b=>.p (.int .u8 b.toNat)
 | _,_=>none
def pI (x:AV)(i:Nat):Option AV:=match x with
 | .tup vs=>vs[i]?
 | _=>none
def VG (x:AV):Option AV:=match x with
 | .p (.sl _ xs)=>some (pint xs.length)
 | .sl0 _=>some (pint 0)
 | .own _ _ _ len=>some (pint len)
 | .bt k _ _ g=>lnA k g
 | _=>none
def fN (x:AV):Option AV:=match x with
 | .p (.str s)=>some (pint s.length)
 | _=>none
def ZM (sh:Sh)(s x:AV)(h:aA):Option (AV×aA×Esc):=match rds h x with
 | some (sh',ys)=>if sh'=sh then match s with
  | .sl0 _=>if ys.length≤UA then some (.own h.length ys.length 0 ys.length,h++[.row sh ys 0],[]) else none
  | .own id g off len=>match h[id]? with
   | some (.row rsh xs fz)=>if rsh=sh∧g=xs.length∧off=0∧len=xs.length∧len+ys.length≤UA∧fz≤xs.length then some (.own id (g+ys.length) off (len+ys.length),h.set id (.row sh (xs++ys) fz),[])
    else if rsh=sh∧g=xs.length∧off+len+ys.length≤xs.length∧fz≤off+len∧1≤ys.length∧len+ys.length≤UA∧sh=none∧xs.all PV.intP=true∧ys.all PV.intP=true then
     some (.p (.sl sh (win xs off len++ys)),h.set id (.row sh (splice xs (off+len) (List.replicate ys.length .unk)) (off+len+ys.length)),[])
    else none
   | _=>none
  | _=>none
  else none
 | none=>none
def HQ (sh:Sh)(d s:AV)(h:aA):Option (AV×aA×Esc):=match d,rds h s with
 | .own id g off len,some (sh',ys)=>match h[id]? with
  | some (.row rsh xs fz)=>if rsh=sh∧sh'=sh∧g=xs.length∧off+len≤xs.length∧fz≤off then
   some (pint (min ys.length len),h.set id (.row sh (splice xs off (ys.take (min ys.length len))) fz),[])
   else none
  | _=>none
 | _,_=>none
def oClr (sh:Sh)(z:PV)(x:AV)(h:aA):Option (AV×aA×Esc):=match x with
 | .sl0 _=>some (.tup [],h,[])
 | .own id g off len=>match h[id]? with
  | some (.row rsh xs fz)=>if rsh=sh∧g=xs.length∧off+len≤xs.length∧fz≤off then
   some (.tup [],h.set id (.row sh (splice xs off (List.replicate len z)) fz),[])
   else none
  | _=>none
 | _=>none
def oMx (xs:List AV):Option AV:=match xs with
 | .p a::r=>((unp r).bind fun l=>l.foldlM dL a).map .p
 | _=>none
def oMn (xs:List AV):Option AV:=match xs with
 | .p a::r=>((unp r).bind fun l=>l.foldlM eL a).map .p
 | _=>none
def vB (kk:Sh × List Nat)(ok:Bool)(z x k:AV)(h:aA):Option AV:=match CC kk k with
 | some key=>match (match x with | .nilm=>some []|m=>(bC h m).map fun y=>y.2.1) with
  | some es=>match iC key es with
   | some r=>
    let v:=((r.bind (es[·]?)).map ME.val)
    some (bif ok then .tup [v.getD z,pbool v.isSome] else v.getD z)
   | none=>none
  | none=>none
 | none=>none
def EB (kk:Sh × List Nat)(m k x:AV)(h:aA):Option (AV×aA×Esc):=match CC kk k,bC h m,ZG x with
 | some key,some (id,es,c),true=>match iC key es with
  | some (some i)=>some (.und,h.set id (.amap (es.modify i fun e=>{ e with val:=x }) c),PC id x)
  | some none=>some (.und,h.set id (.amap (es++[⟨key,x,c⟩]) (c+1)),PC id x)
  | none=>none
 | _,_,_=>none
def KQ (kk:Sh × List Nat)(z m k:AV)(h:aA):Option (AV×aA×Esc):=match CC kk k,bC h m with
 | some key,some (id,es,c)=>match iC key es with
  | some (some i)=>(es[i]?).map fun e=>(.tup [e.val,pint e.born],h,[])
  | some none=>some (.tup [z,pint c],h.set id (.amap (es++[⟨key,z,c⟩]) (c+1)),[])
  | none=>none
 | _,_=>none
def IQ (m s x:AV)(h:aA):Option (AV×aA×Esc):=match bC h m,oB s,ZG x with
 | some (id,es,c),some b,true=>match es.findIdx? (fun e=>e.born==b) with
  | some i=>some (.und,h.set id (.amap (es.modify i fun e=>{ e with val:=x }) c),PC id x)
  | none=>none
 | _,_,_=>none
def JC (kk:Sh × List Nat)(m k:AV)(h:aA):Option (AV×aA×Esc):=match CC kk k,bC h m with
 | some key,some (id,es,c)=>match iC key es with
  | some (some i)=>some (.und,h.set id (.amap (es.eraseIdx i) c),[])
  | some none=>some (.und,h,[])
  | none=>none
 | _,_=>none
def eN (x:AV)(h:aA):Option AV:=match x with
 | .nilm=>some (pint 0)
 | .mp id=>(bC h (.mp id)).map fun y=>pint y.2.1.length
 | _=>none
def XG (x:AV)(h:aA):Option (AV×aA×Esc):=match bC h x with
 | some (id,_,c)=>some (.it h.length,h++[.iter (some id) c [] c],[])
 | none=>match x with
  | .nilm=>some (.it h.length,h++[.iter none 0 [] 0],[])
  | _=>none
def WG (i:AV)(h:aA):Option (AV×aA×Esc):=match i with
 | .it id=>match h[id]? with
  | some (.iter (some m) _ seen last)=>match bC h (.mp m),seen.getLast? with
   | some (_,es,c),some b=>if c=last then(es.find? (fun e=>e.born==b)).map fun e=>(.tup [.p e.key,e.val],h,[]) else none
   | _,_=>none
  | _=>none
 | _=>none
def alK (z:List AV)(h:aA)(k:AV→aA→Esc→Prop):Prop:=k (.ref h.length 0) (h++[.box z]) []
def nwK (sh:Sh)(h:aA)(k:AV→aA→Esc→Prop):Prop:=k (.own h.length 0 0 0) (h++[.row sh [] 0]) []
def mmK (h:aA)(k:AV→aA→Esc→Prop):Prop:=k (.mp h.length) (h++[.amap [] 0]) []
def ev3 (ev:Opd→AV):List (Nat×Nat×Opd)→List (Nat×Nat×AV)
 | []=>[]
 | (a,b,x)::r=>(a,b,ev x)::ev3 ev r
def ev2 (ev:Opd→AV):List (Nat×Opd)→List (Nat×AV)
 | []=>[]
 | (a,x)::r=>(a,ev x)::ev2 ev r
def evO (ev:Opd→AV):Option Opd→Option AV
 | none=>none
 | some x=>some (ev x)
def ev1 (ev:Opd→AV):List Opd→List AV
 | []=>[]
 | x::r=>ev x::ev1 ev r
def opN (o:AO)(ev:Opd→AV)(h:aA)(k:AV→aA→Esc→Prop):Prop:=match o with
 | .mv x=>k (ev x) h []
 | .pick c a b=>pK (YG (ev c) (ev a) (ev b)) fun v=>k v h []
 | .alloc z=>alK z h k
 | .box x=>wK (aN (ev x) h) k
 | .build z ps=>pK (cC z (ev3 ev ps)) fun v=>k v h []
 | .bsl own sh n z ps=>wK (nC own sh n z (ev2 ev ps) h) k
 | .load sh a=>pK (SA sh (ev a) h) fun v=>k v h []
 | .store sh a x=>wK (FB sh (ev a) (ev x) h) k
 | .nilchk x=>pK (gN (ev x)) fun v=>k v h []
 | .bin op x y=>pK (IA op (ev x) (ev y)) fun v=>k v h []
 | .eqa ks neg x y=>pK (ZA ks neg (ev x) (ev y)) fun v=>k v h []
 | .isnil n neg x=>pK (dN n neg (ev x)) fun v=>k v h []
 | .mkif x=>pK (LQ (ev x)) fun v=>k v h []
 | .un op x=>pK (oUn op (ev x)) fun v=>k v h []
 | .conv (.i c) x=>pK (OJ c (ev x)) fun v=>k v h []
 | .mkfn f caps=>k (.fn f (ev1 ev caps)) h []
 | .slice sh x lo hi mx=>pK (rI sh (ev x) (evO ev lo) (evO ev hi) (evO ev mx) h) fun v=>k v h []
 | .slstr x lo hi=>pK (iN (ev x) (evO ev lo) (evO ev hi)) fun v=>k v h []
 | .mksl sh z len cap=>wK (MQ sh z (ev len) (ev cap) h) k
 | .faddr off sh x=>pK (MA off sh (ev x)) fun v=>k v h []
 | .field off sh x=>pK (JQ off sh (ev x)) fun v=>k v h []
 | .iaddr sh x i=>pK (JE sh (ev x) (ev i) h) fun v=>k v h []
 | .iaddra n sh x i=>pK (qI n sh (ev x) (ev i)) fun v=>k v h []
 | .idxa n sh x i=>pK (cN n sh (ev x) (ev i)) fun v=>k v h []
 | .idxs x i=>pK (PJ (ev x) (ev i)) fun v=>k v h []
 | .ext x i=>pK (pI (ev x) i) fun v=>k v h []
 | .len x=>pK (VG (ev x)) fun v=>k v h []
 | .lens x=>pK (fN (ev x)) fun v=>k v h []
 | .app sh s x=>wK (ZM sh (ev s) (ev x) h) k
 | .copy sh d s=>wK (HQ sh (ev d) (ev s) h) k
 | .uns m t xs=>wK (UC m t (ev1 ev xs) h) k
 | .clr sh z x=>wK (oClr sh z (ev x) h) k
 | .mx xs=>pK (oMx (ev1 ev xs)) fun v=>k v h []
 | .mn xs=>pK (oMn (ev1 ev xs)) fun v=>k v h []
 | .new0 sh=>nwK sh h k
 | .conv .s2b x=>wK (TD .s2b (ev x) h) k
 | .conv .b2s x=>wK (TD .b2s (ev x) h) k
 | .conv .r2s x=>wK (TD .r2s (ev x) h) k
 | .conv .same x=>wK (TD .same (ev x) h) k
 | .mkmap=>mmK h k
 | .look kk ok z x key=>pK (vB kk ok z (ev x) (ev key) h) fun v=>k v h []
 | .mupd kk m key x=>wK (EB kk (ev m) (ev key) (ev x) h) k
 | .ment kk z m key=>wK (KQ kk z (ev m) (ev key) h) k
 | .estore m s x=>wK (IQ (ev m) (ev s) (ev x) h) k
 | .mdel kk m key=>wK (JC kk (ev m) (ev key) h) k
 | .lenm x=>pK (eN (ev x) h) fun v=>k v h []
 | .mrange x=>wK (XG (ev x) h) k
 | .mentry i=>wK (WG (ev i) h) k
 | .call _ _ | .callv _ _ | .mnext _ _=>False
theorem z7a {o:Option (AV × aA × Esc)}{k:AV→aA→Esc→Prop}:sI o k=wK o k:=rfl
theorem CF {o:Option AV}{h:aA}{k:AV→aA→Esc→Prop}:wK (o.map fun v=>(v,h,[])) k=pK o fun v=>k v h []:=by cases o <;> rfl
theorem z3Q (ev:Opd→AV):∀(ps:List (Nat×Nat×Opd)) (z:List AV),dG ev ps z=EM (ev3 ev ps) z
 | [],z=>rfl
 | (off,n,x)::r,z=>by
  simp only[dG,ev3,EM];cases (ev x).cells with
  | none=>rfl
  | some vs=>simp only[z3Q ev r]
theorem z3R (ev:Opd→AV)(sh:Sh):∀(ps:List (Nat×Opd)) (h:aA) (z:List PV),eG ev sh ps h z=FM sh (ev2 ev ps) h z
 | [],h,z=>rfl
 | (i,x)::r,h,z=>by
  simp only[eG,ev2,FM];cases pur h (ev x) with
  | none=>rfl
  | some y=>simp only[z3R ev sh r]
theorem z19 (ev:Opd→AV)(d:Nat)(o:Option Opd):bnd ev d o=xD d (evO ev o):=by cases o <;> rfl
theorem zfo (ev:Opd→AV)(o:Option Opd):(evO ev o).isSome=o.isSome:=by cases o <;> rfl
theorem XF (ev:Opd→AV)(l:List Opd):l.map ev=ev1 ev l:=by
 induction l with
 | nil=>rfl
 | cons x r ih=>simp only[List.map_cons,ev1,ih]
theorem z9t (sh:Sh)(ev:Opd→AV)(h:aA)(x:AV)(lo hi mx:Option Opd):asl sh ev h x lo hi mx=rI sh x (evO ev lo) (evO ev hi) (evO ev mx) h:=by
 unfold asl rI;simp only[z19,zfo];rfl
theorem WK {p:Prop}[Decidable p]{a:AV}{h:aA}{k:AV→aA→Esc→Prop}:wK (if p then some (a,h,[]) else none) k=pK (if p then some a else none) fun v=>k v h []:=by split <;> rfl
theorem qF {α:Type}{o:Option α}{f:α→AV}{h:aA}{k:AV→aA→Esc→Prop}:wK (o.map fun v=>(f v,h,[])) k=pK (o.map f) fun v=>k v h []:=by cases o <;> rfl
theorem PN {α:Type}{p:Prop}[Decidable p]{o:Option α}{f:α→AV}{h:aA}{k:AV→aA→Esc→Prop}:wK (if p then o.map (fun v=>(f v,h,[])) else none) k=pK (if p then o.map f else none) fun v=>k v h []:=by
 split
 ·exact qF
 ·rfl
theorem z54 {o:AO}(hp:o.plain=true){ev:Opd→AV}{h:aA}{k:AV→aA→Esc→Prop}:sI (aop o ev h) k=opN o ev h k:=by
 rw[z7a];cases o <;> first|(cases hp;done)|skip
 case mv=>rfl
 case pick c a b=>
  simp only[aop,opN,YG];generalize ev c=v;cases v <;> try rfl
  rename_i p;cases p <;> rfl
 case alloc=>rfl
 case box=>rfl
 case build z ps=>simp only[aop,opN];rw[←CF,cC,z3Q,Option.map_map];rfl
 case bsl=>simp only[aop,opN,nC,z3R];rfl
 case load sh a=>
  simp only[aop,opN,SA];generalize ev a=v;cases v with
  | ref id off=>dsimp only;cases h[id]? with
   | none=>rfl
   | some o=>cases o <;> first|rfl|exact CF
  | rref id g i off=>dsimp only;cases h[id]? with
   | none=>rfl
   | some o=>cases o <;> first|rfl|exact PN
  | vp v=>exact qF
  | p v=>cases v <;> rfl
  | bt _ _ _ _=>exact CF
  | _=>rfl
 case store=>simp only[aop,opN];rfl
 case nilchk x=>
  simp only[aop,opN,gN];generalize ev x=v;cases v <;> try rfl
  exact CF
 case bin op x y=>
  simp only[aop,opN,IA];generalize ev x=v;generalize ev y=u;cases v <;> try rfl
  cases u <;> try rfl
  exact qF
 case eqa ks neg x y=>
  simp only[aop,opN,ZA];generalize ev x=v;generalize ev y=u;cases v <;> try rfl
  rename_i p;cases p <;> try rfl
  all_goals (cases u <;> try rfl)
  all_goals (rename_i q;cases q <;> try rfl)
  ·exact WK
  ·exact PN
 case isnil k neg p=>
  simp only[aop,opN,dN];cases UG k (ev p) with
  | true=>rfl
  | false=>exact qF
 case mkif=>exact WK
 case un op x=>
  simp only[aop,opN,oUn];generalize ev x=v;cases v <;> try rfl
  exact qF
 case conv c x=>
  cases c;case i k'=>
   simp only[aop,opN,OJ,rF];generalize ev x=v;cases v <;> try rfl
   rename_i p;cases p <;> rfl
  all_goals rfl
 case mkfn f caps=>simp only[aop,opN,XF];rfl
 case slice=>simp only[aop,opN,z9t];exact CF
 case slstr x lo hi=>
  simp only[aop,opN,iN,z19];generalize ev x=v;cases v <;> try rfl
  rename_i p;cases p <;> try rfl
  rename_i s;dsimp only;generalize xD 0 _=o1;generalize xD s.length _=o2;cases o1 <;> try rfl
  cases o2 <;> try rfl
  exact WK
 case mksl=>simp only[aop,opN];rfl
 case faddr off sh x=>
  simp only[aop,opN,MA];generalize ev x=v;cases v <;> try rfl
  ·exact qF
  ·exact CF
 case field off sh x=>
  simp only[aop,opN,JQ];generalize ev x=v;cases v <;> try rfl
  ·rename_i p;cases p <;> try rfl
   exact qF
  ·exact CF
 case iaddr sh x i=>
  simp only[aop,opN,JE];generalize ev x=v;generalize oB (ev i)=n;cases v <;> try rfl
  ·rename_i p;cases p <;> try rfl
   cases n <;> try rfl
   exact PN
  ·cases n <;> try rfl
   rename_i id g off len k;dsimp only;cases h[id]? with
   | none=>rfl
   | some o=>cases o <;> first|rfl|exact WK
  ·cases n <;> try rfl
   exact CF
 case iaddra m sh x i=>
  simp only[aop,opN,qI];generalize ev x=v;generalize oB (ev i)=n;cases v <;> try rfl
  all_goals (cases n <;> try rfl)
  ·exact WK
  ·exact WK
  ·exact PN
 case idxa m sh x i=>
  simp only[aop,opN,cN];generalize ev x=v;generalize oB (ev i)=n;cases v <;> try rfl
  rename_i p;cases p <;> try rfl
  cases n <;> try rfl
  exact PN
 case idxs x i=>
  simp only[aop,opN,PJ];generalize ev x=v;generalize oB (ev i)=n;cases v <;> try rfl
  rename_i p;cases p <;> try rfl
  cases n <;> try rfl
  exact qF
 case ext x i=>
  simp only[aop,opN,pI];generalize ev x=v;cases v <;> try rfl
  exact CF
 case len x=>
  simp only[aop,opN,VG];generalize ev x=v;cases v <;> try rfl
  ·rename_i p;cases p <;> rfl
  ·exact CF
 case lens x=>
  simp only[aop,opN,fN];generalize ev x=v;cases v <;> try rfl
  rename_i p;cases p <;> rfl
 case app=>simp only[aop,opN];rfl
 case copy=>simp only[aop,opN];rfl
 case uns=>simp only[aop,opN,XF,z7a]
 case clr=>simp only[aop,opN];rfl
 case mx xs=>
  simp only[aop,opN,XF,oMx];generalize ev1 ev xs=l;cases l <;> try rfl
  rename_i v r;cases v <;> try rfl
  exact qF
 case mn xs=>
  simp only[aop,opN,XF,oMn];generalize ev1 ev xs=l;cases l <;> try rfl
  rename_i v r;cases v <;> try rfl
  exact qF
 case new0=>rfl
 case look kk ok z x key=>
  simp only[aop,opN,vB];cases CC kk (ev key) <;> try rfl
  rename_i kk;generalize ev x=v;cases v <;> try rfl
  rename_i id;dsimp only;cases bC h (.mp id) <;> try rfl
  rename_i y;dsimp only[Option.map_some];cases iC kk y.2.1 <;> rfl
 case lenm x=>
  simp only[aop,opN,eN];generalize ev x=v;cases v <;> try rfl
  exact qF
 all_goals rfl
end Go.Am
end
section
/- The abstract machine,part 30: the meaning of code in the new spelling,and that it is the old one. -/
set_option linter.unusedSimpArgs false
set_option linter.unusedVariables false
namespace Go.Am
def gV (v:AV)(b:Bool)(h:aA)(A:(AV→aA→Esc→Prop)→Prop)(k:AV→aA→Esc→Prop):Prop:=XD v b (A k) (k .skp h [])
def gP (v:AV)(b:Bool)(o:Option AV)(h:aA)(k:AV→aA→Esc→Prop):Prop:=gV v b h (fun k=>pK o fun u=>k u h []) k
def gM (v:AV)(b:Bool)(u:AV)(h:aA)(k:AV→aA→Esc→Prop):Prop:=gV v b h (fun k=>k u h []) k
def upB (b:Bool):Bool:=(fun(_:AV→Bool→Option AV→aA→(AV→aA→Esc→Prop)→Prop)=>b) gP
def gK (g:Option (Nat × Bool))(e:List (Nat × AV))(h:aA)(A:(AV→aA→Esc→Prop)→Prop)(k:AV→aA→Esc→Prop):Prop:=match g with
 | none=>A k
 | some (t,b)=>gV (gA e t) b h A k
def opC (C:Hd)(o:AO)(ev:Opd→AV)(h:aA)(k:AV→aA→Esc→Prop):Prop:=match o with
 | .call f args=>C f (ev1 ev args) h k
 | .callv f args=>zG C (ev f) (ev1 ev args) h k
 | .mnext sh xs=>match DH h sh (ev1 ev xs) with
  | some l=>l≠[]∧∀y∈l,k y.1 y.2 []
  | none=>False
 | o=>opN o ev h k
def wE (C:Hd)(gl:Nat→Option PV):List AOp→List (Nat×AV)→aA→Esc→(List (Nat×AV)→aA→Esc→Prop)→Prop
 | [],e,h,x,L=>L e h x
 | o::r,e,h,x,L=>gK o.guard e h (opC C o.op (Opd.ev gl e) h) fun v h' x'=>wE C gl r (put o.dst v e) h' (x'++x) L
variable {C:Hd} {gl:Nat→Option PV}
theorem z50 {o:AO}{d:Option Nat}{r:List AOp}{e:List (Nat × AV)}{h:aA}{x:Esc}{L:List (Nat × AV)→aA→Esc→Prop} :
 LA C gl (⟨d,none,o⟩::r) e h x L=opC C o (Opd.ev gl e) h (SI C gl r d e x L):=by
 cases hp:o.plain with
 | true=>
  rw[z7u hp,z54 hp];cases o <;> first|rfl|cases hp
 | false=>
  cases o <;> first|(cases hp;done)|skip
  all_goals first
   | (rw[z0S,XF];rfl)
   | (rw[z0T,XF];rfl)
   | (unfold LA opC;simp only[wanted,XF];rfl)
theorem z0Z:∀ (ops:List AOp)(e:List (Nat × AV))(h:aA)(x:Esc)(L:List (Nat × AV)→aA→Esc→Prop),LA C gl ops e h x L=wE C gl ops e h x L
 | [],e,h,x,L=>rfl
 | ⟨d,g,o⟩::r,e,h,x,L=>by
  have ih:(fun(v:AV) (h':aA) (x':Esc)=>wE C gl r (put d v e) h' (x'++x) L)=SI C gl r d e x L:=by
   funext v h' x';rw[←z0Z r];rfl
  show _=gK g e h (opC C o (Opd.ev gl e) h) fun v h' x'=>wE C gl r (put d v e) h' (x'++x) L
  rw[ih];cases g with
  | none=>exact z50
  | some tb=>
   obtain⟨t,b⟩:=tb;rw[z0V,z50];rfl
def opE (C:Hd)(o:AO)(ev:Opd→AV)(h:aA)(k:AV→aA→Esc→Prop):Prop:=match o with
 | .call f args=>kD C f (ev1 ev args) h k
 | .callv f args=>yG C (ev f) (ev1 ev args) h k
 | .mnext _ _=>False
 | o=>opN o ev h k
def HG (still eff:Bool)(h h':aA)(y:Esc)(Q:Prop):Prop:=match upB eff with
 | true=>Q
 | false=>match still with
  | true=>Q
  | false=>(h'=h∧y=[])∧Q
def EI (C:Hd)(gl:Nat→Option PV)(q:AOp × List (Nat × AV) × AV)(g:aA):Prop:=
 gK q.1.guard q.2.1 g (opE C q.1.op (Opd.ev gl q.2.1) g) fun v1 h1 x1=>v1=q.2.2∧h1=g∧x1=[]
def aE (C:Hd)(gl:Nat→Option PV)(h:aA)(dn:yC)(Q:Prop):List Nat→Prop
 | []=>Q
 | j::r=>(match dn[j]? with|some q=>EI C gl q h|none=>False)∧aE C gl h dn Q r
def eE (C:Hd)(gl:Nat→Option PV)(o:AOp)(e:List (Nat × AV))(v:AV)(hs:List aA)(Q:Prop):List Nat→Prop
 | []=>Q
 | k::r=>(match hs[k]? with|some g=>EI C gl (o,e,v) g|none=>False)∧eE C gl o e v hs Q r
def ZD (C:Hd)(gl:Nat→Option PV):List DOp→yC→List aA→List (Nat×AV)→aA→Esc→(List (Nat×AV)→aA→Esc→Prop)→Prop
 | [],_,_,e,h,x,L=>L e h x
 | o::r,dn,hs,e,h,x,L=>gK o.op.guard (AA (some o.rd) e) h (opE C o.op.op (Opd.ev gl (AA (some o.rd) e)) h) fun v h' y=>
  HG o.op.op.still o.eff h h' y (eE C gl o.op (AA (some o.rd) e) v hs (aE C gl h' dn (ZD C gl r (dn++[(o.op,AA (some o.rd) e,v)]) (hs++[h]) (put o.op.dst v e) h' (y++x) L) o.again) o.early)
theorem z52 {o:AO}{d:Option Nat}{e:List (Nat × AV)}{h:aA}{R:AV→aA→Esc→Prop}:doK C gl ⟨d,none,o⟩ e h R=opE C o (Opd.ev gl e) h R:=by
 cases hp:o.plain with
 | true=>
  rw[zbI hp,z54 hp];cases o <;> first|rfl|cases hp
 | false=>
  cases o <;> first|(cases hp;done)|skip
  all_goals first
   | (rw[z2q,XF];rfl)
   | (rw[z2r,XF];rfl)
   | (unfold doK ADo opE;simp [wanted])
theorem z4g {o:AOp}{e:List (Nat × AV)}{h:aA}{R:AV→aA→Esc→Prop}:doK C gl o e h R=gK o.guard e h (opE C o.op (Opd.ev gl e) h) R:=by
 obtain⟨d,g,op⟩:=o;cases g with
 | none=>exact z52
 | some tb=>
  obtain⟨t,b⟩:=tb;rw[z2s,z52];rfl
theorem z61 {q:AOp × List (Nat × AV) × AV}{g:aA}:doS C gl q g=EI C gl q g:=by
 obtain⟨⟨d,gd,op⟩,e,v⟩:=q;rw[z2t,z4g];rfl
theorem z1r {h:aA}{dn:yC}{Q:Prop}:∀{l:List Nat},aE C gl h dn Q l=(agK C gl h dn l∧Q)
 | []=>by simp [aE,agK]
 | j::r=>by
  unfold aE agK;rw[z1r (l:=r)];cases dn[j]? with
  | none=>simp
  | some q=>simp only[z61,and_assoc]
theorem z2z {o:AOp}{e:List (Nat × AV)}{v:AV}{hs:List aA}{Q:Prop}:∀{l:List Nat},eE C gl o e v hs Q l=(eaK C gl o e v hs l∧Q)
 | []=>by simp [eE,eaK]
 | j::r=>by
  unfold eE eaK;rw[z2z (l:=r)];cases hs[j]? with
  | none=>simp
  | some q=>simp only[z61,and_assoc]
theorem zbJ {o:AOp}(hs:o.op.still=true){e:List (Nat × AV)}{h:aA}{R:AV→aA→Esc→Prop}:doK C gl o e h (fun v h' y=>(h'=h∧y=[])∧R v h' y)=doK C gl o e h R:=by
 unfold doK;refine propext ⟨fun⟨v,h',y,H,_,r⟩=>⟨v,h',y,H,r⟩,fun⟨v,h',y,H,r⟩=>⟨v,h',y,H,z7r hs H,r⟩⟩
theorem z0Y:∀ (ds:List DOp)(dn:yC)(hs:List aA)(e:List (Nat × AV))(h:aA)(x:Esc)(L:List (Nat × AV)→aA→Esc→Prop),VC C gl ds dn hs e h x L=ZD C gl ds dn hs e h x L
 | [],dn,hs,e,h,x,L=>rfl
 | ⟨o,rd,eff,early,again⟩::r,dn,hs,e,h,x,L=>by
  rw[z0O];show _=gK o.guard (AA (some rd) e) h (opE C o.op (Opd.ev gl (AA (some rd) e)) h) fun v h' y=>
   HG o.op.still eff h h' y (eE C gl o (AA (some rd) e) v hs (aE C gl h' dn (ZD C gl r (dn++[(o,AA (some rd) e,v)]) (hs++[h]) (put o.dst v e) h' (y++x) L) again) early)
  rw[←z4g];have e1:OP C gl ⟨o,rd,eff,early,again⟩ r dn hs e h x L=fun v h' y=>(effK eff h h' y∧eE C gl o (AA (some rd) e) v hs (aE C gl h' dn (ZD C gl r (dn++[(o,AA (some rd) e,v)]) (hs++[h]) (put o.dst v e) h' (y++x) L) again) early):=by
   funext v h' y
   rw[z2v,z2z,z1r,←z0Y r]
  rw[e1];cases eff with
  | true=>
   congr 1;funext v h' y
   simp [effK,HG,upB]
  | false=>
   cases hs':o.op.still with
   | true=>
    have:=zbJ (C:=C) (gl:=gl) (o:=o) hs' (e:=AA (some rd) e) (h:=h) (R:=fun v h' y=>eE C gl o (AA (some rd) e) v hs (aE C gl h' dn (ZD C gl r (dn++[(o,AA (some rd) e,v)]) (hs++[h]) (put o.dst v e) h' (y++x) L) again) early)
    exact this
   | false=>rfl
def NW (C:Hd)(gl:Nat→Option PV):ACode→St→(Ex→St→Prop)→Prop
 | .skip,s,K=>K .normal s
 | .reg ops keep,s,K=>wE C gl ops s.env s.h s.esc fun e h x=>K .normal ⟨AA keep e,h,x⟩
 | .draw ds keep,s,K=>ZD C gl ds [] [] s.env s.h s.esc fun e h x=>K .normal ⟨AA keep e,h,x⟩
 | .seq a b,s,K=>NW C gl a s fun e s'=>match e with
  | .normal=>NW C gl b s' K
  | .exit i=>K (.exit i) s'
  | .ret=>K .ret s'
 | .cond c a b,s,K=>DB (Opd.ev gl s.env c) (NW C gl a s K) (NW C gl b s K)
 | .condu c a b,s,K=>QU (Opd.ev gl s.env c) (NW C gl a s K) (NW C gl b s K)
 | .det b,s,K=>NW C gl b s K
 | .block id b,s,K=>NW C gl b s fun e s'=>match e with
  | .normal=>K .normal s'
  | .exit i=>bif Nat.beq i id then K .normal s' else K (.exit i) s'
  | .ret=>K .ret s'
 | .loop b,s,K=>ALoop (NW C gl b) K s
 | .scope b,s,K=>NW C gl b ⟨s.env,s.h,[]⟩ fun e s'=>K e (KF s.h.length s.esc s')
 | .pr l b,s,K=>NW C gl b ⟨AA (some l) s.env,s.h,s.esc⟩ K
 | .exit id,s,K=>K (.exit id) s
 | .ret,s,K=>K .ret s
 | .bad,_,_=>False
theorem LD:∀ (c:ACode)(s:St)(K:Ex→St→Prop),AW C gl c s K=NW C gl c s K
 | .skip,s,K=>rfl
 | .reg ops keep,s,K=>z0Z _ _ _ _ _
 | .draw ds keep,s,K=>z0Y _ _ _ _ _ _ _
 | .seq a b,s,K=>by
  unfold AW NW;rw[LD a];congr 1;funext e s'
  cases e with
  | normal=>exact LD b s' K
  | _=>rfl
 | .cond c a b,s,K=>by
  unfold AW NW DB;rw[←LD a,←LD b];rfl
 | .condu c a b,s,K=>by
  unfold AW NW QU;rw[←LD a,←LD b];rfl
 | .det b,s,K=>LD b s K
 | .block id b,s,K=>by
  unfold AW NW;rw[LD b];congr 1;funext e s'
  cases e with
  | exit i=>
   dsimp only;by_cases hi:i=id
   ·subst hi;simp
   ·rw[if_neg hi]
    have:Nat.beq i id=false:=by cases h:Nat.beq i id with|false=>rfl|true=>exact absurd (Nat.eq_of_beq_eq_true h) hi
    rw[this];rfl
  | _=>rfl
 | .loop b,s,K=>by
  show ALoop (AW C gl b) K s=ALoop (NW C gl b) K s
  rw[show AW C gl b=NW C gl b from funext fun s=>funext fun K=>LD b s K]
 | .scope b,s,K=>LD b _ _
 | .pr l b,s,K=>LD b _ _
 | .exit id,s,K=>rfl
 | .ret,s,K=>rfl
 | .bad,s,K=>rfl
end Go.Am
end
section
/- The abstract machine,part 31: words in which a function's code is printed,and the rules of computing UD them. -/
set_option linter.unusedSimpArgs false
set_option linter.unusedVariables false
namespace Go.Am
variable {C:Hd} {gl:Nat→Option PV} {e:List (Nat × AV)} {h:aA} {x:Esc} {K:Ex→St→Prop} {s:St}
abbrev AI (n:Int):AV:=.p (.int .i64 n)
abbrev AB (b:Bool):AV:=.p (.bool b)
def rD (C:Hd)(gl:Nat→Option PV)(b:ACode)(K:Ex→St→Prop)(e:Ex)(s:St):Prop:=match e with
 | .normal=>NW C gl b s K
 | .exit i=>K (.exit i) s
 | .ret=>K .ret s
def AC (id:Nat)(K:Ex→St→Prop)(e:Ex)(s:St):Prop:=match e with
 | .normal=>K .normal s
 | .exit i=>bif Nat.beq i id then K .normal s else K (.exit i) s
 | .ret=>K .ret s
def nqK (sh:Option Sh)(l:List AV)(h:aA)(k:AV→aA→Esc→Prop):Prop:=match DH h sh l with
 | some l=>l≠[]∧∀y∈l,k y.1 y.2 []
 | none=>False
def nxK (i:AV)(h:aA)(k:AV→aA→Esc→Prop):Prop:=match DQ h i with
 | some l=>l≠[]∧∀y∈l,k y.1 y.2 []
 | none=>False
def gv (gl:Nat→Option PV)(n:Nat):AV:=match gl n with|some v=>.vp v|none=>.und
theorem FN {b:ACode}:rD C gl b K .normal s=NW C gl b s K:=(rfl)
theorem z66 {b:ACode}:rD C gl b K .ret s=K .ret s:=(rfl)
theorem z17 {i:Nat}:AC i K .normal s=K .normal s:=(rfl)
theorem fL {i:Nat}:AC i K (.exit i) s=K .normal s:=by simp [AC]
theorem z18 {i:Nat}:AC i K .ret s=K .ret s:=(rfl)
theorem z7F {b:ACode}:NW C gl (.scope b) ⟨e,h,x⟩ K=NW C gl b ⟨e,h,[]⟩ (z0z h.length x K):=(rfl)
theorem z7E {c:ACode}{s s':St}(hs:s=s'):NW C gl c s K=NW C gl c s' K:=by rw[hs]
def GA (C:Hd)(gl:Nat→Option PV)(b:ACode)(K:Ex→St→Prop)(e:List (Nat × AV))(h:aA)(x:Esc):Prop:=ALoop (NW C gl b) K ⟨e,h,x⟩
theorem nB {l:List Nat}{b:ACode}:NW C gl (.loop (.pr l b)) ⟨e,h,x⟩ K=GA C gl (.pr l b) K (AA (some l) e) h x:=by
 show ALoop _ _ _=ALoop _ _ _
 exact z0R (funext fun R=>by show NW C gl b _ R=NW C gl b _ R;dsimp only;rw[z5C])
theorem vE {l:List Nat}{b:ACode}:NW C gl (.loop (.scope (.pr l b))) ⟨e,h,x⟩ K=GA C gl (.scope (.pr l b)) K (AA (some l) e) h x:=by
 show ALoop _ _ _=ALoop _ _ _
 exact z0R (funext fun R=>by show NW C gl b _ _=NW C gl b _ _;dsimp only;rw[z5C])
theorem z7D {b:ACode}{e e':List (Nat × AV)}{h h':aA}{x x':Esc}(h1:e=e')(h2:h=h')(h3:x=x'):GA C gl b K e h x=GA C gl b K e' h' x':=by rw[h1,h2,h3]
theorem NA {σ:Type}{b:ACode}(S:σ→St)(P:σ→Prop)(m:σ→Nat)(t0:σ)(hs:(⟨e,h,x⟩:St)=S t0)(h0:P t0)(hr:∀ t,P t→NW C gl b (S t) (UM S P m K t)):GA C gl b K e h x:=by
 show ALoop (NW C gl b) K _
 rw[hs];have key:∀n t,m t<n→P t→ALoop (NW C gl b) K (S t):=by
  intro n;induction n with
  | zero=>intro t h;omega
  | succ n ih=>
   intro t hm hp;refine .mk _ _ (hr t hp) (fun s' h'=>?_) (fun i s' h'=>h') (fun s' h'=>h')
   obtain⟨u,rfl,hu,hlt⟩:=h';exact ih u (by omega) hu
 exact key _ t0 (Nat.lt_succ_self _) h0
theorem yA {X:Ctx}{f:Nat}{F:AFun}{a asv:List AV}{h h1:aA}{P:kA}(hf:X.fn f=some F)(hr:F.byref=false)(hp:mA h a=some (asv,h1))(hl:asv.length=F.nparams)(hd:F.isDet=false:=by rfl) :
 bA X f a h P=NW (bA X) X.gl F.body ⟨enter asv,h1,[]⟩ (oA F.results F.keep h.length P):=by
 rw[zmS hf hr hp hl hd,LD]
theorem vU {X:Ctx}{f:Nat}{F:AFun}{a asv:List AV}{h h1:aA}{P:kA}(hf:X.fn f=some F)(hr:F.byref=false)(hp:mA h a=some (asv,h1))(hl:asv.length=F.nparams)(hd:F.isDet=true:=by rfl) :
 bA X f a h P = ∃v h' x,P v h' x∧NW (bA X) X.gl F.body ⟨enter asv,h1,[]⟩ (oA F.results F.keep h.length fun v1 h1 x1=>v1=v∧h1=h'∧x1=x):=by
 rw[zmT hf hr hp hl hd];simp only[LD]
theorem UE {X:Ctx}{f:Nat}{F:AFun}{asv:List AV}{h:aA}{P:kA}(hf:X.fn f=some F)(hr:F.byref=true)(hl:asv.length=F.nparams)(hd:F.isDet=false:=by rfl) :
 bA X f asv h P=NW (bA X) X.gl F.body ⟨enter asv,h,[]⟩ (oA F.results F.keep h.length P):=by
 rw[zmQ hf hr hl hd,LD]
theorem z5A {v:AV}{k:AV→Prop}:pK (some v) k=k v:=(rfl)
theorem z59 {k:AV→Prop}:pK none k=False:=(rfl)
theorem z7b {v:AV}{h:aA}{x:Esc}{k:AV→aA→Esc→Prop}:wK (some (v,h,x)) k=k v h x:=(rfl)
theorem z6Z {k:AV→aA→Esc→Prop}:wK none k=False:=(rfl)
theorem zin {p:Prop}[Decidable p]{a b:Option AV}{k:AV→Prop}:pK (if p then a else b) k=if p then pK a k else pK b k:=by split <;> rfl
theorem znM {p:Prop}[Decidable p]{a b:Option (AV × aA × Esc)}{k:AV→aA→Esc→Prop}:wK (if p then a else b) k=if p then wK a k else wK b k:=by split <;> rfl
theorem zim {o o':Option AV}{k:AV→Prop}(h:o=o'):pK o k=pK o' k:=by rw[h]
theorem znL {o o':Option (AV × aA × Esc)}{k:AV→aA→Esc→Prop}(h:o=o'):wK o k=wK o' k:=by rw[h]
theorem zfC {v v':AV}{b:Bool}{h:aA}{A:(AV→aA→Esc→Prop)→Prop}{k:AV→aA→Esc→Prop}(h1:v=v'):gV v b h A k=gV v' b h A k:=by rw[h1]
theorem zfA {v v':AV}{b:Bool}{o:Option AV}{h:aA}{k:AV→aA→Esc→Prop}(h1:v=v'):gP v b o h k=gP v' b o h k:=by rw[h1]
theorem zf8 {v v':AV}{b:Bool}{u:AV}{h:aA}{k:AV→aA→Esc→Prop}(h1:v=v'):gM v b u h k=gM v' b u h k:=by rw[h1]
section
variable {A:(AV→aA→Esc→Prop)→Prop} {o:Option AV} {u:AV} {k:AV→aA→Esc→Prop} {t b:Bool}
theorem z4v:gV (.p (.bool true)) true h A k=A k:=(rfl)
theorem z4r:gV (.p (.bool false)) false h A k=A k:=(rfl)
theorem z4u:gV (.p (.bool true)) false h A k=k .skp h []:=(rfl)
theorem z4s:gV (.p (.bool false)) true h A k=k .skp h []:=(rfl)
theorem z4t:gV .skp b h A k=k .skp h []:=(rfl)
theorem zfB:gV (.p (.bool t)) b h A k=XD (.p (.bool t)) b (A k) (k .skp h []):=(rfl)
theorem z4q:gP (.p (.bool true)) true o h k=pK o fun v=>k v h []:=(rfl)
theorem z4m:gP (.p (.bool false)) false o h k=pK o fun v=>k v h []:=(rfl)
theorem z4p:gP (.p (.bool true)) false o h k=k .skp h []:=(rfl)
theorem z4n:gP (.p (.bool false)) true o h k=k .skp h []:=(rfl)
theorem z4o:gP .skp b o h k=k .skp h []:=(rfl)
theorem zf9:gP (.p (.bool t)) b o h k=XD (.p (.bool t)) b (pK o fun v=>k v h []) (k .skp h []):=(rfl)
theorem z4l:gM (.p (.bool true)) true u h k=k u h []:=(rfl)
theorem z4h:gM (.p (.bool false)) false u h k=k u h []:=(rfl)
theorem z4k:gM (.p (.bool true)) false u h k=k .skp h []:=(rfl)
theorem z4i:gM (.p (.bool false)) true u h k=k .skp h []:=(rfl)
theorem z4j:gM .skp b u h k=k .skp h []:=(rfl)
theorem zf7:gM (.p (.bool t)) b u h k=XD (.p (.bool t)) b (k u h []) (k .skp h []):=(rfl)
end
section
variable {k k':IntKind} {a b:Int} {sa sb:List UInt8}
theorem z97:IA .add (.p (.int k a)) (.p (.int k b))=some (.p (.int k (k.wrap (a+b)))):=by simp [IA,NB,iD]
theorem z9J:IA .sub (.p (.int k a)) (.p (.int k b))=some (.p (.int k (k.wrap (a-b)))):=by simp [IA,NB,iD]
theorem z9D:IA .mul (.p (.int k a)) (.p (.int k b))=some (.p (.int k (k.wrap (a*b)))):=by simp [IA,NB,iD]
theorem z9G:IA .quo (.p (.int k a)) (.p (.int k b))=if b=0 then none else some (.p (.int k (k.wrap (a.tdiv b)))):=by simp [IA,NB,iD] <;> split <;> rfl
theorem z9H:IA .rem (.p (.int k a)) (.p (.int k b))=if b=0 then none else some (.p (.int k (a.tmod b))):=by simp [IA,NB,iD] <;> split <;> rfl
theorem z98:IA .eql (.p (.int k a)) (.p (.int k b))=some (.p (.bool (decide (a=b)))):=by simp [IA,NB,iD]
theorem z9E:IA .neq (.p (.int k a)) (.p (.int k b))=some (.p (.bool (!decide (a=b)))):=by simp [IA,NB,iD]
theorem z9C:IA .lss (.p (.int k a)) (.p (.int k b))=some (.p (.bool (decide (a<b)))):=by simp [IA,NB,iD]
theorem z9B:IA .leq (.p (.int k a)) (.p (.int k b))=some (.p (.bool (decide (a≤b)))):=by simp [IA,NB,iD]
theorem z9A:IA .gtr (.p (.int k a)) (.p (.int k b))=some (.p (.bool (decide (b<a)))):=by simp [IA,NB,iD]
theorem z99:IA .geq (.p (.int k a)) (.p (.int k b))=some (.p (.bool (decide (b≤a)))):=by simp [IA,NB,iD]
theorem z9I:IA .shr (.p (.int k a)) (.p (.int k' b))=if b<0 then none else some (.p (.int k (DJ k a b))):=by simp [IA,NB] <;> split <;> rfl
theorem znb:IA .add (.p (.str sa)) (.p (.str sb))=if sa.length+sb.length≤AF then some (.p (.str (sa++sb))) else none:=by simp [IA,NB,tH] <;> split <;> rfl
theorem znc:IA .eql (.p (.str sa)) (.p (.str sb))=some (.p (.bool (decide (sa=sb)))):=by simp [IA,NB,tH]
theorem zne:IA .neq (.p (.str sa)) (.p (.str sb))=some (.p (.bool (!decide (sa=sb)))):=by simp [IA,NB,tH]
theorem znF {t:Bool}:oUn .not (.p (.bool t))=some (.p (.bool !t)):=(rfl)
theorem convI {k':IntKind}:OJ k (.p (.int k' a))=some (.p (.int k (k.wrap a))):=(rfl)
theorem zhY {i j:Nat}:gN (.ref i j)=some (.ref i j):=(rfl)
theorem zlj {t:Bool}{u v:AV}:YG (.p (.bool t)) u v=some (bif t then u else v):=(rfl)
theorem zhn {sh:Sh}{xs:List PV}:VG (.p (.sl sh xs))=some (.p (.int .i64 xs.length)):=(rfl)
theorem zhm {i g o l:Nat}:VG (.own i g o l)=some (.p (.int .i64 l)):=(rfl)
theorem zhq:fN (.p (.str sa))=some (.p (.int .i64 sa.length)):=(rfl)
theorem ext_t {vs:List AV}{i:Nat}:pI (.tup vs) i=vs[i]?:=(rfl)
theorem zft {off i j:Nat}{sh:Sh}:MA off sh (.ref i j)=some (.ref i (j+off)):=(rfl)
theorem zfu {off:Nat}{sh:Sh}{v:PV}:MA off sh (.vp v)=(iB sh off v).map .vp:=(rfl)
def ldB (sh:Sh)(off:Nat):Option Obj→Option AV
 | some (.box cs)=>cut sh off cs
 | _=>none
def ldR (sh:Sh)(g i off:Nat):Option Obj→Option AV
 | some (.row _ xs _)=>if g=xs.length then((xs[i]?).bind (iB sh off)).map .p else none
 | _=>none
theorem zh2 {sh:Sh}{i j:Nat}:SA sh (.ref i j) h=ldB sh j h[i]?:=by unfold SA ldB;rfl
theorem zh3 {sh:Sh}{i g m n:Nat}:SA sh (.rref i g m n) h=ldR sh g m n h[i]?:=by unfold SA ldR;rfl
theorem z4Y {sh:Sh}{v:PV}:SA sh (.vp v) h=(iB sh 0 v).map .p:=(rfl)
theorem zhh {sh:Sh}{off:Nat}{cs:List AV}:ldB sh off (some (.box cs))=cut sh off cs:=(rfl)
theorem zhi {sh sh':Sh}{g i off fz:Nat}{xs:List PV}:ldR sh g i off (some (.row sh' xs fz))=if g=xs.length then((xs[i]?).bind (iB sh off)).map .p else none:=(rfl)
def stB (sh:Sh)(id off:Nat)(v:AV)(h:aA):Option Obj→Option (List AV)→Option (AV×aA×Esc)
 | some (.box cs),some vs=>if vs.length=jA sh∧off+vs.length≤cs.length then some (.und,h.set id (.box (splice cs off vs)),BE id cs v) else none
 | _,_=>none
theorem zmY {sh:Sh}{i j:Nat}{v:AV}:FB sh (.ref i j) v h=stB sh i j v h h[i]? v.cells:=by unfold FB stB;rfl
theorem zmK {sh:Sh}{id off:Nat}{v:AV}{cs vs:List AV}:stB sh id off v h (some (.box cs)) (some vs)=if vs.length=jA sh∧off+vs.length≤cs.length then some (.und,h.set id (.box (splice cs off vs)),BE id cs v) else none:=(rfl)
theorem zfh {id:Nat}{cs:List AV}{v:AV}(h:lI cs=false):BE id cs v=PC id v:=by
 unfold BE;rw[h];rfl
theorem zgm {a:AV}{v:PV}:lI [a,.p v]=false:=(rfl)
theorem zgk {a:AV}:lI [a]=false:=(rfl)
theorem zgl {a b c:AV}{l:List AV}:lI (a::b::c::l)=false:=by unfold lI;split <;> first|rfl|(rename_i h;simp at h)
theorem zfj {id t n m:Nat}{a:AV}:BE id [a,.bt 1 t (id+1) n] (.ref id m)=[]:=by
 unfold BE;have e:decide (AV.top (.ref id m)≤AV.tops [a,.bt 1 t (id+1) n])=true:=by simp [AV.top,AV.tops];omega
 rw[e];rfl
theorem zfi {id t t' i n n':Nat}{a:AV}:BE id [a,.bt 1 t i n] (.bt 1 t' i n')=[]:=by
 unfold BE;have e:decide (AV.top (.bt 1 t' i n')≤AV.tops [a,.bt 1 t i n])=true:=by simp [AV.top,AV.tops];omega
 rw[e];rfl
def stE (sh:Sh)(id i off fz:Nat)(rsh:Sh)(xs:List PV)(v:PV)(h1:aA):Option PV→Option (AV×aA×Esc)
 | some (.agg cs)=>if off+v.cells.length≤cs.length then some (.und,h1.set id (.row rsh (xs.set i (.agg (splice cs off v.cells))) fz),[]) else none
 | some _=>if off=0∧v.sc then some (.und,h1.set id (.row rsh (xs.set i v) fz),[]) else none
 | none=>none
def stO (sh:Sh)(id g i off:Nat)(v:PV)(h1:aA):Option Obj→Option (AV×aA×Esc)
 | some (.row rsh xs fz)=>if g=xs.length∧fz≤i∧v.cells.length=jA sh∧v.cells.all PV.sc then stE sh id i off fz rsh xs v h1 xs[i]? else none
 | _=>none
def stR (sh:Sh)(id g i off:Nat):Option (PV×aA)→Option (AV×aA×Esc)
 | some y=>stO sh id g i off y.1 y.2 y.2[id]?
 | none=>none
theorem zmZ {sh:Sh}{id g i off:Nat}{x:AV}:FB sh (.rref id g i off) x h=stR sh id g i off (pur h x):=by
 unfold FB stR;cases pur h x with
 | none=>rfl
 | some y=>
  obtain⟨v,h1⟩:=y;dsimp only;unfold stO;cases h1[id]? with
  | none=>rfl
  | some o=>cases o <;> rfl
theorem zmN {sh:Sh}{id g i off:Nat}{v:PV}{h1:aA}:stR sh id g i off (some (v,h1))=stO sh id g i off v h1 h1[id]?:=(rfl)
theorem zmM {sh rsh:Sh}{id g i off fz:Nat}{v:PV}{h1:aA}{xs:List PV}:stO sh id g i off v h1 (some (.row rsh xs fz))=if g=xs.length∧fz≤i∧v.cells.length=jA sh∧v.cells.all PV.sc then stE sh id i off fz rsh xs v h1 xs[i]? else none:=(rfl)
theorem zmL {sh rsh:Sh}{id i off fz:Nat}{v:PV}{h1:aA}{xs:List PV}{t:Bool}:stE sh id i off fz rsh xs v h1 (some (.bool t))=if off=0∧v.sc then some (.und,h1.set id (.row rsh (xs.set i v) fz),[]) else none:=(rfl)
def iaS (xs:List PV):Option Nat→Option AV
 | some k=>(xs[k]?).map .vp
 | none=>none
theorem zfV {sh:Sh}{xs:List PV}{i:AV}:JE sh (.p (.sl sh xs)) i h=iaS xs (oB i):=by
 unfold JE iaS;cases oB i <;> simp
theorem zfS {xs:List PV}{n:Nat}:iaS xs (some n)=(xs[n]?).map .vp:=(rfl)
def iaO (sh:Sh)(id g off len:Nat):Option Obj→Option Nat→Option AV
 | some (.row rsh xs _),some k=>if rsh=sh∧g=xs.length∧off+len≤xs.length∧k<len then some (.rref id g (off+k) 0) else none
 | _,_=>none
theorem zfU {sh:Sh}{id g off len:Nat}{i:AV}:JE sh (.own id g off len) i h=iaO sh id g off len h[id]? (oB i):=by
 unfold JE iaO;cases oB i with
 | none=>dsimp only;cases h[id]? with
  | none=>rfl
  | some o=>cases o <;> rfl
 | some k=>dsimp only;cases h[id]? with
  | none=>rfl
  | some o=>cases o <;> rfl
theorem zfR {sh rsh:Sh}{id g off len k fz:Nat}{xs:List PV}:iaO sh id g off len (some (.row rsh xs fz)) (some k)=if rsh=sh∧g=xs.length∧off+len≤xs.length∧k<len then some (.rref id g (off+k) 0) else none:=(rfl)
theorem zgf {i:AV}:PJ (.p (.str sa)) i=(oB i).bind fun n=>(sa[n]?).map fun b=>.p (.int .u8 b.toNat):=by
 unfold PJ;cases oB i <;> rfl
end
theorem z1s {z:List AV}{k:AV→aA→Esc→Prop}:alK z h k=k (.ref h.length 0) (h++[.box z]) []:=(rfl)
theorem z5z {sh:Sh}{k:AV→aA→Esc→Prop}:nwK sh h k=k (.own h.length 0 0 0) (h++[.row sh [] 0]) []:=(rfl)
theorem z5k {k:AV→aA→Esc→Prop}:mmK h k=k (.mp h.length) (h++[.amap [] 0]) []:=(rfl)
theorem zlC {h:aA}:qB [] h=([],h):=(rfl)
theorem zlD {h:aA}{s:Sh}{r:List AV}:qB (.sl0 s::r) h=(.own h.length 0 0 0::(qB r (h++[.row s [] 0])).1,(qB r (h++[.row s [] 0])).2):=(rfl)
attribute [go_sem] zlC zlD
attribute [go_sem] FN z66 z17 fL z18 z7F z5A z59 z7b z6Z zin znM z4v z4r z4u z4s z4t z4q z4m z4p z4n z4o z4l z4h z4k z4i z4j z97 z9J z9D z9G z9H z98 z9E z9C z9B z9A z99 z9I znb znc zne znF convI zhY zlj zhn zhm zhq ext_t zft zfu zh2 zh3 z4Y zhh zhi zmY zmK zmZ zmN zmM zmL zfh zgm zgk zgl zfj zfi zfV zfS zfU zfR zgf z1s z5z z5k UC z0x upcB neqB lenB n64 KP strB appB rds rd aN cC EM nC FM ZA dN UG XM LQ ZG TD MQ xD iN rI qI cN ZM HQ oClr oMx oMn vB EB KQ IQ JC eN XG WG
attribute [go_sem ↓] z5A z59 z7b z6Z z4v z4r z4u z4s z4t z4q z4m z4p z4n z4o z4l z4h z4k z4i z4j z2a z1Z FN z66 z17 fL z18 z1s z5z z5k z5b z5a z5c z65 z3U z3V
attribute [go_sem low] zfB zf9 zf7
attribute [congr] z7E z7D zim znL zfC zfA zf8
end Go.Am
end
section
/- The abstract machine,part X: the library's functions that have no Go text: comparing strings,finding a byte. -/
set_option linter.unusedSimpArgs false
set_option linter.unusedVariables false
namespace Go.Am
variable {P:Program}
structure ExtRow (P:Program) (f:Nat) (e:Array Value→Sem Value):Prop where
 row:∃fn,P.funcs[f]?=some fn∧fn.name ≠ "runtime.NumGoroutine" ∧ fn.body=none∧Extern.findNext fn=none∧Extern.find fn=some e
theorem ExtRow.run {f:Nat}{e:Array Value→Sem Value}(R:ExtRow P f e){us:Array Value}{w w':World}{x:Value}(he:(e us).run P w = .ok x w'):(callFunc f us).run P w = .ok (.value x) w':=by
 obtain⟨fn,h1,h2,h3,h4,h5⟩:=R.row;unfold callFunc;simp [h1,h2,h3,h4,h5,he]
theorem zpr {f:Nat}{e:Array Value→Sem Value}(h:(match P.funcs[f]? with | some fn=>fn.name != "runtime.NumGoroutine" && fn.body.isNone&&(Extern.findNext fn).isNone | none=>false)=true)(h2:(P.funcs[f]?).bind Extern.find=some e):ExtRow P f e:=by
 cases hf:P.funcs[f]? with
 | none=>rw[hf]at h;cases h
 | some fn=>
  rw[hf]at h h2;simp only[Bool.and_eq_true,bne_iff_ne,ne_eq,Option.isNone_iff_eq_none]at h;exact⟨⟨fn,hf,h.1.1,h.1.2,h.2,h2⟩⟩
def QC (s:List UInt8)(c:UInt8):Int:=if s.findIdx (· == c)<s.length then(s.findIdx (· == c):Int) else -1
def OA:List UInt8→List UInt8→Int
 | [],[]=>0
 | [],_::_=>-1
 | _::_,[]=>1
 | a::asv,b::bs=>if a<b then -1 else if b<a then 1 else OA asv bs
theorem z13 (s:List UInt8)(i:Nat):(⟨s.toArray⟩:ByteArray)[i]! = s.getD i 0:=by
 by_cases h:i<s.length
 ·rw[getElem!_pos (⟨s.toArray⟩:ByteArray) i h]
  show s.toArray[i]=_
  simp [h]
 ·rw[getElem!_neg (⟨s.toArray⟩:ByteArray) i h]
  simp [Nat.not_lt.1 h];rfl
theorem zf0 (s:List UInt8)(c:UInt8):(match (List.range (⟨s.toArray⟩:ByteArray).size).find? fun i=>(⟨s.toArray⟩:ByteArray)[i]! == c with
 | some i=>(i:Int)
 | none=>-1)=QC s c:=by
 have hsz:(⟨s.toArray⟩:ByteArray).size=s.length:=rfl
 have hget:∀i,i<s.length→(⟨s.toArray⟩:ByteArray)[i]! = s.getD i 0:=by
  intro i hi;exact z13 s i
 unfold QC;rw[hsz];by_cases h:s.findIdx (· == c)<s.length
 ·rw[if_pos h]
  have hf:(List.range s.length).find? (fun i=>(⟨s.toArray⟩:ByteArray)[i]! == c)=some (s.findIdx (· == c)):=by
   rw[List.find?_eq_some_iff_getElem];refine⟨?_,s.findIdx (· == c),by simpa using h,by simp,fun j hj=>?_⟩
   ·rw[hget _ h]
    have:=List.findIdx_getElem (w:=h);simpa [h] using this
   ·simp only[List.getElem_range]
    have hj':j<s.length:=by omega
    rw[hget _ hj'];have:=List.not_of_lt_findIdx hj;simpa [hj'] using this
  rw[hf]
 ·rw[if_neg h]
  have hf:(List.range s.length).find? (fun i=>(⟨s.toArray⟩:ByteArray)[i]! == c)=none:=by
   rw[List.find?_eq_none];intro i hi;rw[List.mem_range]at hi;rw[hget _ hi];intro hc;exact h (List.findIdx_lt_length_of_exists ⟨s[i],List.getElem_mem hi,by simpa [hi] using hc⟩)
  rw[hf]
theorem zbq:∀ (a b:List UInt8),Extern.BytealgCompare.cmp ⟨a.toArray⟩ ⟨b.toArray⟩=OA a b:=by
 have key:∀(a b:List UInt8),(match (List.range (min a.length b.length)).find? fun i=>a.getD i 0 != b.getD i 0 with
  | some i=>if a.getD i 0<b.getD i 0 then(-1:Int) else 1
  | none=>if a.length<b.length then -1 else if a.length>b.length then 1 else 0)=OA a b:=by
  intro a;induction a with
  | nil=>intro b;cases b <;> simp [OA]
  | cons x a ih=>
   intro b;cases b with
   | nil=>simp [OA]
   | cons y b=>
    have hm:min (x::a).length (y::b).length=min a.length b.length+1:=by simp only[List.length_cons];omega
    rw[hm,List.range_succ_eq_map,List.find?_cons];simp only[List.getD_cons_zero];by_cases hxy:x=y
    ·subst hxy
     have hlt:¬x<x:=UInt8.lt_irrefl x
     simp only[bne_self_eq_false,List.find?_map,OA,hlt,if_false];rw[←ih b];have hc:((fun i=>(x::a).getD i 0 != (x::b).getD i 0) ∘ Nat.succ)=fun i=>a.getD i 0 != b.getD i 0:=by
      funext i;simp
     rw[hc];cases (List.range (min a.length b.length)).find? fun i=>a.getD i 0 != b.getD i 0 with
     | none=>simp
     | some i=>simp
    ·have:(x != y)=true:=by simpa using hxy
     rw[this];simp only[OA,List.getD_cons_zero];by_cases h1:x<y
     ·simp [h1]
     ·have h2:y<x:=by
       rcases UInt8.lt_or_lt_of_ne (a:=x) (b:=y) hxy with h|h
       ·exact absurd h h1
       ·exact h
      simp [h1,h2]
 intro a b;rw[←key a b];unfold Extern.BytealgCompare.cmp;have sa:(⟨a.toArray⟩:ByteArray).size=a.length:=rfl
 have sb:(⟨b.toArray⟩:ByteArray).size=b.length:=rfl
 simp only[sa,sb,z13];generalize List.find? _ _=q;cases q <;> rfl
def OH (fi fc:Nat)(f:Nat)(vs:List PV):Option PV:=
 bif Nat.beq f fi then(match vs with
  | [.str s,.int .u8 c]=>some (.int .i64 (QC s (UInt8.ofNat c.toNat)))
  | _=>none)
 else bif Nat.beq f fc then(match vs with
  | [.str a,.str b]=>some (.int .i64 (OA a b))
  | _=>none)
 else none
theorem extF_ok {fi fc:Nat}(h1:ExtRow P fi Extern.BytealgIndexByte.indexByte)(h2:ExtRow P fc Extern.BytealgCompare.compare){f:Nat}{vs:List PV}{r:PV}(h:OH fi fc f vs=some r):z0X P f vs r:=by
 intro M w us hM hl hr;unfold OH at h;cases e1:Nat.beq f fi with
 | true=>
  rw[e1]at h;have e:=Nat.eq_of_beq_eq_true e1
  subst e;simp only[cond_true]at h;split at h
  ·rename_i s c
   injection h with h
   subst h;match us,hl with
   | [u,v],_=>
    have q1:=hr 0 _ u rfl rfl
    have q2:=hr 1 _ v rfl rfl
    cases q1;cases q2
    refine⟨.int .i64 (QC s (UInt8.ofNat c.toNat)),w,h1.run ?_,WExt.refl w,.int _ _⟩;rw[←zf0];show(match (List.range (⟨s.toArray⟩:ByteArray).size).find? fun i=>(⟨s.toArray⟩:ByteArray)[i]! == UInt8.ofNat c.toNat with|some i=>(pure (goInt i):Sem Value)|none=>pure (goInt (-1))).run P w=_
    generalize List.find? _ _=q;cases q <;> rfl
  ·cases h
 | false=>
  rw[e1]at h;simp only[cond_false]at h;cases e2:Nat.beq f fc with
  | true=>
   rw[e2]at h;have e:=Nat.eq_of_beq_eq_true e2
   subst e;simp only[cond_true]at h;split at h
   ·rename_i a b
    injection h with h
    subst h;match us,hl with
    | [u,v],_=>
     have q1:=hr 0 _ u rfl rfl
     have q2:=hr 1 _ v rfl rfl
     cases q1;cases q2
     refine⟨.int .i64 (OA a b),w,h2.run ?_,WExt.refl w,.int _ _⟩;rw[←zbq];rfl
   ·cases h
  | false=>rw[e2]at h;cases h
theorem z2Q {X:Ctx}{f:Nat}{asv:List AV}{vs:List PV}{h h1:aA}{r:PV}{K:kA}(hf:X.fn f=none)(h2:X.ex2 f asv h=none)(hp:mA h asv=some (vs.map .p,h1))(hu:unp (vs.map AV.p)=some vs)(hx:X.ext f vs=some r):bA X f asv h K=K (.p r) h1 []:=by
 refine propext (bA.eq (bA.fold ?_) K);unfold WB;simp only[hf,h2,hp,hu,hx];exact⟨trivial,trivial,trivial⟩
structure GrowRow (P:Program) (f:Nat) (sh:Sh):Prop where
 enter:∀us w,(callFunc f us).run P w = .ok (.enter f us) w
 room:∀a w,Calls P f #[.slice a 0 0,.int .i64 0] w fun e w'=>e = .returned (.slice a 0 0)∧w'=w
 grow:∀a (n:Nat) w,0<n→n≤1048576→Calls P f #[.slice a 0 0,.int .i64 n] w fun e w'=>∃G cs E,e = .returned (.slice (some ⟨w.heap.size,0,none⟩) 0 G)∧cs.size=G*jA sh∧w'=w.drew.alloc (.cells cs E)
def PG:List (Nat × Sh)→Nat→List AV→aA→Option (AV×aA×Esc)
 | [],_,_,_=>none
 | (g,sh)::r,f,asv,h=>bif Nat.beq f g then(match asv with
  | [.sl0 _,.p (.int .i64 n)]=>bif decide (0≤n)&&decide (n≤1048576) then some (.own h.length 0 0 0,h++[.row sh [] 0],[]) else none
  | _=>none) else PG r f asv h
theorem z48 {gl:Nat→Option PV}:∀(gs:List (Nat×Sh)),(∀g sh,(g,sh)∈gs→GrowRow P g sh)→∀{f:Nat} {asv:List AV} {h:aA} {v:AV} {h':aA} {x:Esc},PG gs f asv h=some (v,h',x) →
 rC P gl f asv h fun v1 h1 x1=>v1=v∧h1=h'∧x1=x
 | [],_,f,asv,h,v,h',x,H=>by cases H
 | (g,sh)::r,hg,f,asv,h,v,h',x,H=>by
  unfold PG at H;cases e1:Nat.beq f g with
  | false=>
   rw[e1]at H;exact z48 r (fun g sh hm=>hg g sh (by simp [hm])) H
  | true=>
   rw[e1]at H;have e:=Nat.eq_of_beq_eq_true e1
   subst e;have R:=hg f sh (by simp)
   simp only[cond_true]at H;split at H
   ·rename_i sh' n
    cases hb:(decide (0≤n)&&decide (n≤1048576)) with
    | false=>rw[hb]at H;cases H
    | true=>
     rw[hb]at H;simp only[cond_true,Option.some.injEq,Prod.mk.injEq]at H;obtain⟨rfl,rfl,rfl⟩:=H;simp only[Bool.and_eq_true,decide_eq_true_eq]at hb;intro μ w vs Hh Hg hl hr;match vs,hl with
     | [u1,u2],_=>
      have q1:=hr 0 _ u1 rfl rfl
      have q2:=(hr 1 _ u2 rfl rfl).p_inv
      cases q1;cases q2
      obtain⟨m,hm⟩:=Int.eq_ofNat_of_zero_le hb.1;subst hm;refine .inl ⟨R.enter _,?_⟩;rcases Nat.eq_zero_or_pos m with h0|h0
      ·subst h0
       refine(R.room _ w).mono fun e w' he=>?_
       obtain⟨rfl,rfl⟩:=he;obtain⟨n1,n2⟩:=MJ Hh sh;refine⟨_,_,_,_,⟨rfl,rfl,rfl⟩,?_,n1,n2,tA.push (by simp [Obj.top])⟩
       exact .own h.length 0 0 0 _ 0 sh [] 0 none (Nat.le_refl _) (by simp) (by rw[←Hh.len];simp) (by simp) (by simp) (fun _=>rfl)
      ·refine(R.grow _ m w h0 (by omega)).mono fun e w' he=>?_
       obtain⟨G,cs,E,rfl,hcs,rfl⟩:=he;have hw:WExt w (w.drew.alloc (.cells cs E)):=(WExt.drew w _).trans (WExt.push _ _)
       obtain⟨n1,n2⟩:=oI (sh:=sh) (xs:=[]) Hh hw (b:=w.heap.size) (n:=cs.size) (Nat.le_refl _) (by show w.heap.size<(w.heap.push _).size;simp) (c:=cs) (VA.push (w:=w.drew) cs E) (by simp) (by simp) (by simp)
       refine⟨_,_,_,_,⟨rfl,rfl,rfl⟩,?_,n1,n2,tA.push (by simp [Obj.top])⟩
       refine .own h.length 0 0 0 _ G sh [] 0 (some (w.heap.size,cs.size)) (Nat.zero_le _) (by simp) (by rw[←Hh.len];simp) (by simp) (by simp) (fun _=>?_)
       exact .inr ⟨by simp,by simp [hcs]⟩
   ·cases H
end Go.Am
end
section
/- Short words for the printed code. -/
set_option linter.all false
namespace Go.Am
instance {n:Nat}:OfNat Opd n:=⟨.t n⟩
abbrev GL:=Nat→Option PV
abbrev KT:=Ex→St→Prop
def cI (n:Int):Opd:=.c (.p (.int .i64 n))
def cT:Opd:=.c (.p (.bool true))
def cF:Opd:=.c (.p (.bool false))
def cS (s:List UInt8):Opd:=.c (.p (.str s))
def uO (d:Nat)(o:AO):AOp:=⟨some d,none,o⟩
def wO (o:AO):AOp:=⟨none,none,o⟩
def gD (d g:Nat)(b:Bool)(o:AO):AOp:=⟨some d,some (g,b),o⟩
def mV (d:Nat)(x:Opd):AOp:=⟨some d,none,.mv x⟩
def bN (d:Nat)(b:BinOp)(x y:Opd):AOp:=⟨some d,none,.bin b x y⟩
def cL (d f:Nat)(l:List Opd):AOp:=⟨some d,none,.call f l⟩
def lD (d:Nat)(s:Sh)(x:Opd):AOp:=⟨some d,none,.load s x⟩
def iA (d:Nat)(s:Sh)(x y:Opd):AOp:=⟨some d,none,.iaddr s x y⟩
def fA (d o:Nat)(s:Sh)(x:Opd):AOp:=⟨some d,none,.faddr o s x⟩
def sT (d:Nat)(s:Sh)(x y:Opd):AOp:=⟨some d,none,.store s x y⟩
def lN (d:Nat)(x:Opd):AOp:=⟨some d,none,.len x⟩
def eX (d:Nat)(x:Opd)(i:Nat):AOp:=⟨some d,none,.ext x i⟩
def dF (o:AOp)(l:List Nat):DOp:=⟨o,l,false,[],[]⟩
def dT (o:AOp)(l:List Nat):DOp:=⟨o,l,true,[],[]⟩
def dA (o:AOp)(l:List Nat)(e:Bool)(a b:List Nat):DOp:=⟨o,l,e,a,b⟩
def rg (l:List AOp)(k:List Nat):ACode:=.reg l (some k)
def dr (l:List DOp)(k:List Nat):ACode:=.draw l (some k)
end Go.Am
end
section
/- A function's formula,computed out of its code. -/
set_option linter.all false
namespace Go.Am
abbrev En:=List (Nat × AV)
variable {C:Hd} {gl:Nat→Option PV} {e:En} {h h':aA} {x y:Esc} {K:Ex→St→Prop} {s:St} {L:En→aA→Esc→Prop} {k:AV→aA→Esc→Prop} {ev:Opd→AV} {r:List AOp} {q:List DOp} {dn:yC} {hs:List aA} {Q:Prop}
abbrev Sf (C:Hd)(gl:Nat→Option PV)(c:ACode)(e:En)(h:aA)(x:Esc)(K:Ex→St→Prop):Type:={P:Prop // NW C gl c ⟨e,h,x⟩ K=P}
def gO (G:AO→(Opd→AV)→aA→(AV→aA→Esc→Prop)→Prop)(t:AV)(g:Bool)(o:AO)(ev:Opd→AV)(h:aA)(k:AV→aA→Esc→Prop):Prop:=gV t g h (G o ev h) k
theorem agetB {e:En}{n m:Nat}{v:AV}:gA ((n,v)::e) m=match Nat.beq n m with|true=>v|false=>gA e m:=by
 show(if n=m then v else gA e m)=_
 cases hb:Nat.beq n m with
 | true=>rw[if_pos (Nat.eq_of_beq_eq_true hb)]
 | false=>rw[if_neg (Nat.ne_of_beq_eq_false hb)]
theorem wA:(∀ {C:Hd}{gl:GL}{e:En}{h:aA}{x:Esc}{K:KT}{l:List Nat}{b:ACode},NW C gl (.pr l b) ⟨e,h,x⟩ K=NW C gl b ⟨AA (some l) e,h,x⟩ K) ∧
 (∀{C:Hd} {gl:GL} {K:KT} {s:St} {a b:ACode},NW C gl (.seq a b) s K=NW C gl a s (rD C gl b K)) ∧
 (∀{C:Hd} {gl:GL} {K:KT} {s:St} {i:Nat} {b:ACode},NW C gl (.block i b) s K=NW C gl b s (AC i K)) ∧
 (∀{C:Hd} {gl:GL} {e:En} {h:aA} {x:Esc} {K:KT} {c:Opd} {a b:ACode},NW C gl (.cond c a b) ⟨e,h,x⟩ K=DB (Opd.ev gl e c) (NW C gl a ⟨e,h,x⟩ K) (NW C gl b ⟨e,h,x⟩ K)) ∧
 (∀{C:Hd} {gl:GL} {e:En} {h:aA} {x:Esc} {K:KT} {c:Opd} {a b:ACode},NW C gl (.condu c a b) ⟨e,h,x⟩ K=QU (Opd.ev gl e c) (NW C gl a ⟨e,h,x⟩ K) (NW C gl b ⟨e,h,x⟩ K)) ∧
 (∀{C:Hd} {gl:GL} {K:KT} {s:St} {b:ACode},NW C gl (.det b) s K=NW C gl b s K) ∧
 (∀{C:Hd} {gl:GL} {K:KT} {s:St},NW C gl .skip s K=K .normal s) ∧
 (∀{C:Hd} {gl:GL} {K:KT} {s:St} {i:Nat},NW C gl (.exit i) s K=K (.exit i) s) ∧
 (∀{C:Hd} {gl:GL} {K:KT} {s:St},NW C gl .ret s K=K .ret s) ∧
 (∀{C:Hd} {gl:GL} {K:KT} {s:St},NW C gl .bad s K=False) ∧
 (∀{C:Hd} {gl:GL} {e:En} {h:aA} {x:Esc} {K:KT} {l:List AOp} {o:List Nat},NW C gl (.reg l (some o)) ⟨e,h,x⟩ K=wE C gl l e h x fun e h x=>K .normal ⟨AA (some o) e,h,x⟩) ∧
 (∀{C:Hd} {gl:GL} {e:En} {h:aA} {x:Esc} {K:KT} {l:List AOp},NW C gl (.reg l none) ⟨e,h,x⟩ K=wE C gl l e h x fun e h x=>K .normal ⟨e,h,x⟩) ∧
 (∀{C:Hd} {gl:GL} {e:En} {h:aA} {x:Esc} {K:KT} {l:List DOp} {o:List Nat},NW C gl (.draw l (some o)) ⟨e,h,x⟩ K=ZD C gl l [] [] e h x fun e h x=>K .normal ⟨AA (some o) e,h,x⟩) ∧
 (∀{C:Hd} {gl:GL} {e:En} {h:aA} {x:Esc} {K:KT} {l:List DOp},NW C gl (.draw l none) ⟨e,h,x⟩ K=ZD C gl l [] [] e h x fun e h x=>K .normal ⟨e,h,x⟩) ∧
 (∀{C:Hd} {gl:GL} {e:En} {h:aA} {x:Esc} {L:En→aA→Esc→Prop},wE C gl [] e h x L=L e h x) ∧
 (∀{C:Hd} {gl:GL} {e:En} {h:aA} {x:Esc} {L:En→aA→Esc→Prop} {r:List AOp} {d:Option Nat} {o:AO},wE C gl (⟨d,none,o⟩::r) e h x L=opC C o (Opd.ev gl e) h fun v h' x'=>wE C gl r (put d v e) h' (x'++x) L) ∧
 (∀{C:Hd} {gl:GL} {e:En} {h:aA} {x:Esc} {L:En→aA→Esc→Prop} {r:List AOp} {d:Option Nat} {t:Nat} {b:Bool} {o:AO},wE C gl (⟨d,some (t,b),o⟩::r) e h x L=gO (opC C) (gA e t) b o (Opd.ev gl e) h fun v h' x'=>wE C gl r (put d v e) h' (x'++x) L) ∧
 (∀{C:Hd} {gl:GL} {e:En} {h:aA} {x:Esc} {L:En→aA→Esc→Prop} {dn:yC} {hs:List aA},ZD C gl [] dn hs e h x L=L e h x) ∧
 (∀{C:Hd} {gl:GL} {e:En} {h:aA} {x:Esc} {L:En→aA→Esc→Prop} {q:List DOp} {dn:yC} {hs:List aA} {d:Option Nat} {o:AO} {rd a b:List Nat} {f:Bool},ZD C gl (⟨⟨d,none,o⟩,rd,f,a,b⟩::q) dn hs e h x L=opE C o (Opd.ev gl (AA (some rd) e)) h fun v h' y=>
  HG o.still f h h' y (eE C gl ⟨d,none,o⟩ (AA (some rd) e) v hs (aE C gl h' dn (ZD C gl q (dn++[(⟨d,none,o⟩,AA (some rd) e,v)]) (hs++[h]) (put d v e) h' (y++x) L) b) a)) ∧
 (∀{C:Hd} {gl:GL} {e:En} {h:aA} {x:Esc} {L:En→aA→Esc→Prop} {q:List DOp} {dn:yC} {hs:List aA} {d:Option Nat} {t:Nat} {g:Bool} {o:AO} {rd a b:List Nat} {f:Bool},ZD C gl (⟨⟨d,some (t,g),o⟩,rd,f,a,b⟩::q) dn hs e h x L=gO (opE C) (gA (AA (some rd) e) t) g o (Opd.ev gl (AA (some rd) e)) h fun v h' y=>
  HG o.still f h h' y (eE C gl ⟨d,some (t,g),o⟩ (AA (some rd) e) v hs (aE C gl h' dn (ZD C gl q (dn++[(⟨d,some (t,g),o⟩,AA (some rd) e,v)]) (hs++[h]) (put d v e) h' (y++x) L) b) a)) ∧
 (∀{h':aA} {h:aA} {y:Esc} {Q:Prop} {b:Bool},HG b true h h' y Q=Q) ∧
 (∀{h':aA} {h:aA} {y:Esc} {Q:Prop},HG true false h h' y Q=Q) ∧
 (∀{h':aA} {h:aA} {y:Esc} {Q:Prop},HG false false h h' y Q=((h'=h∧y=[])∧Q)) ∧
 (∀{C:Hd} {gl:GL} {h:aA} {dn:yC} {Q:Prop},aE C gl h dn Q []=Q) ∧
 (∀{C:Hd} {gl:GL} {h:aA} {dn:yC} {Q:Prop} {j:Nat} {l:List Nat},aE C gl h dn Q (j::l)=((match dn[j]? with|some q=>EI C gl q h|none=>False)∧aE C gl h dn Q l)) ∧
 (∀{C:Hd} {gl:GL} {e:En} {hs:List aA} {Q:Prop} {o:AOp} {v:AV},eE C gl o e v hs Q []=Q) ∧
 (∀{C:Hd} {gl:GL} {e:En} {hs:List aA} {Q:Prop} {o:AOp} {v:AV} {j:Nat} {l:List Nat},eE C gl o e v hs Q (j::l)=((match hs[j]? with|some g=>EI C gl (o,e,v) g|none=>False)∧eE C gl o e v hs Q l)) ∧
 (∀{C:Hd} {gl:GL} {e:En} {d:Option Nat} {o:AO} {v:AV} {g:aA},EI C gl (⟨d,none,o⟩,e,v) g=opE C o (Opd.ev gl e) g fun v1 h1 x1=>v1=v∧h1=g∧x1=[]) ∧
 (∀{C:Hd} {gl:GL} {e:En} {d:Option Nat} {t:Nat} {b:Bool} {o:AO} {v:AV} {g:aA},EI C gl (⟨d,some (t,b),o⟩,e,v) g=gO (opE C) (gA e t) b o (Opd.ev gl e) g fun v1 h1 x1=>v1=v∧h1=g∧x1=[]) ∧
 (∀{e:En} {d:Nat} {v:AV},put (some d) v e=(d,v)::e) ∧
 (∀{e:En} {v:AV},put none v e=e) ∧
 (∀{e:En} {n:Nat} {l:List Nat},AA (some (n::l)) e=(n,gA e n)::AA (some l) e) ∧
 (∀{e:En},AA (some []) e=[]) ∧
 (∀{e:En} {n m:Nat} {v:AV},gA ((n,v)::e) m=match Nat.beq n m with|true=>v|false=>gA e m) ∧
 (∀{gl:GL} {e:En} {n:Nat},Opd.ev gl e (.t n)=gA e n) ∧
 (∀{gl:GL} {e:En} {v:AV},Opd.ev gl e (.c v)=v) ∧
 (∀{gl:GL} {e:En} {n:Nat},Opd.ev gl e (.f n) = .fn n []) ∧
 (∀{gl:GL} {e:En} {n:Nat},Opd.ev gl e (.g n)=gv gl n) ∧
 (∀{n:Nat},(OfNat.ofNat n:Opd) = .t n) ∧
 (∀{C:Hd} {h:aA} {k:AV→aA→Esc→Prop} {ev:Opd→AV} {a:Opd},opC C (.mnext none [a]) ev h k=nxK (ev a) h k) ∧
 (∀{C:Hd} {h:aA} {k:AV→aA→Esc→Prop} {ev:Opd→AV} {sh:Sh} {l:List Opd},opC C (.mnext (some sh) l) ev h k=nqK (some sh) (ev1 ev l) h k) ∧
 (∀{C:Hd} {h:aA} {k:AV→aA→Esc→Prop} {ev:Opd→AV} {f:Nat} {a:List Opd},opC C (.call f a) ev h k=C f (ev1 ev a) h k) ∧
 (∀{C:Hd} {h:aA} {k:AV→aA→Esc→Prop} {ev:Opd→AV} {f:Opd} {a:List Opd},opC C (.callv f a) ev h k=zG C (ev f) (ev1 ev a) h k) ∧
 (∀{C:Hd} {h:aA} {k:AV→aA→Esc→Prop} {ev:Opd→AV} {f:Nat} {a:List Opd},opE C (.call f a) ev h k=kD C f (ev1 ev a) h k) ∧
 (∀{C:Hd} {h:aA} {k:AV→aA→Esc→Prop} {ev:Opd→AV} {f:Opd} {a:List Opd},opE C (.callv f a) ev h k=yG C (ev f) (ev1 ev a) h k) ∧
 (∀{ev:Opd→AV},ev1 ev []=[]) ∧
 (∀{ev:Opd→AV} {a:Opd} {l:List Opd},ev1 ev (a::l)=ev a::ev1 ev l) ∧
 (∀{ev:Opd→AV},ev2 ev []=[]) ∧
 (∀{ev:Opd→AV} {n:Nat} {a:Opd} {l:List (Nat×Opd)},ev2 ev ((n,a)::l)=(n,ev a)::ev2 ev l) ∧
 (∀{ev:Opd→AV},ev3 ev []=[]) ∧
 (∀{ev:Opd→AV} {n m:Nat} {a:Opd} {l:List (Nat×Nat×Opd)},ev3 ev ((n,m,a)::l)=(n,m,ev a)::ev3 ev l) ∧
 (∀{ev:Opd→AV},evO ev none=none) ∧
 (∀{ev:Opd→AV} {a:Opd},evO ev (some a)=some (ev a)):=
 ⟨(by intros;rfl),(by intros;rfl),(by intros;rfl),(by intros;rfl),(by intros;rfl),(by intros;rfl),(by intros;rfl),(by intros;rfl),(by intros;rfl),(by intros;rfl),(by intros;rfl),(by intros;rfl),(by intros;rfl),(by intros;rfl),(by intros;rfl),(by intros;rfl),(by intros;rfl),(by intros;rfl),(by intros;rfl),(by intros;rfl),(by intros;rfl),(by intros;rfl),(by intros;rfl),(by intros;rfl),(by intros;rfl),(by intros;rfl),(by intros;rfl),(by intros;rfl),(by intros;rfl),(by intros;rfl),(by intros;rfl),(by intros;rfl),(by intros;rfl),(by intro e n m v;exact agetB),(by intros;rfl),(by intros;rfl),(by intros;rfl),(by intros;rfl),(by intros;rfl),(by intros;rfl),(by intros;rfl),(by intros;rfl),(by intros;rfl),(by intros;rfl),(by intros;rfl),(by intros;rfl),(by intros;rfl),(by intros;rfl),(by intros;rfl),(by intros;rfl),(by intros;rfl),(by intros;rfl),(by intros;rfl)⟩
abbrev OpW (G:AO→(Opd→AV)→aA→(AV→aA→Esc→Prop)→Prop):Prop:=∀{ev:Opd→AV} {h:aA} {k:AV→aA→Esc→Prop},
 (∀{x},G (.mv x) ev h k=k (ev x) h [])∧(∀{c a b},G (.pick c a b) ev h k=pK (YG (ev c) (ev a) (ev b)) fun v=>k v h [])∧(∀{z},G (.alloc z) ev h k=alK z h k) ∧
 (∀{x},G (.box x) ev h k=wK (aN (ev x) h) k)∧(∀{z ps},G (.build z ps) ev h k=pK (cC z (ev3 ev ps)) fun v=>k v h [])∧(∀{o sh n z ps},G (.bsl o sh n z ps) ev h k=wK (nC o sh n z (ev2 ev ps) h) k) ∧
 (∀{sh a},G (.load sh a) ev h k=pK (SA sh (ev a) h) fun v=>k v h [])∧(∀{sh a x},G (.store sh a x) ev h k=wK (FB sh (ev a) (ev x) h) k)∧(∀{x},G (.nilchk x) ev h k=pK (gN (ev x)) fun v=>k v h []) ∧
 (∀{o x y},G (.bin o x y) ev h k=pK (IA o (ev x) (ev y)) fun v=>k v h [])∧(∀{l n x y},G (.eqa l n x y) ev h k=pK (ZA l n (ev x) (ev y)) fun v=>k v h [])∧(∀{n b x},G (.isnil n b x) ev h k=pK (dN n b (ev x)) fun v=>k v h []) ∧
 (∀{x},G (.mkif x) ev h k=pK (LQ (ev x)) fun v=>k v h [])∧(∀{o x},G (.un o x) ev h k=pK (oUn o (ev x)) fun v=>k v h [])∧(∀{c x},G (.conv (.i c) x) ev h k=pK (OJ c (ev x)) fun v=>k v h []) ∧
 (∀{f l},G (.mkfn f l) ev h k=k (.fn f (ev1 ev l)) h [])∧(∀{sh x a b c},G (.slice sh x a b c) ev h k=pK (rI sh (ev x) (evO ev a) (evO ev b) (evO ev c) h) fun v=>k v h [])∧(∀{x a b},G (.slstr x a b) ev h k=pK (iN (ev x) (evO ev a) (evO ev b)) fun v=>k v h []) ∧
 (∀{sh z a b},G (.mksl sh z a b) ev h k=wK (MQ sh z (ev a) (ev b) h) k)∧(∀{o sh x},G (.faddr o sh x) ev h k=pK (MA o sh (ev x)) fun v=>k v h [])∧(∀{o sh x},G (.field o sh x) ev h k=pK (JQ o sh (ev x)) fun v=>k v h []) ∧
 (∀{sh x i},G (.iaddr sh x i) ev h k=pK (JE sh (ev x) (ev i) h) fun v=>k v h [])∧(∀{n sh x i},G (.iaddra n sh x i) ev h k=pK (qI n sh (ev x) (ev i)) fun v=>k v h [])∧(∀{n sh x i},G (.idxa n sh x i) ev h k=pK (cN n sh (ev x) (ev i)) fun v=>k v h []) ∧
 (∀{x i},G (.idxs x i) ev h k=pK (PJ (ev x) (ev i)) fun v=>k v h [])∧(∀{x i},G (.ext x i) ev h k=pK (pI (ev x) i) fun v=>k v h [])∧(∀{x},G (.len x) ev h k=pK (VG (ev x)) fun v=>k v h [])∧(∀{x},G (.lens x) ev h k=pK (fN (ev x)) fun v=>k v h []) ∧
 (∀{sh a x},G (.app sh a x) ev h k=wK (ZM sh (ev a) (ev x) h) k)∧(∀{sh a x},G (.copy sh a x) ev h k=wK (HQ sh (ev a) (ev x) h) k)∧(∀{m t l},G (.uns m t l) ev h k=wK (UC m t (ev1 ev l) h) k)∧(∀{sh z x},G (.clr sh z x) ev h k=wK (oClr sh z (ev x) h) k) ∧
 (∀{l},G (.mx l) ev h k=pK (oMx (ev1 ev l)) fun v=>k v h [])∧(∀{l},G (.mn l) ev h k=pK (oMn (ev1 ev l)) fun v=>k v h [])∧(∀{sh},G (.new0 sh) ev h k=nwK sh h k)∧(∀{x},G (.conv .s2b x) ev h k=wK (TD .s2b (ev x) h) k)∧(∀{x},G (.conv .b2s x) ev h k=wK (TD .b2s (ev x) h) k) ∧
 (∀{x},G (.conv .r2s x) ev h k=wK (TD .r2s (ev x) h) k)∧(∀{x},G (.conv .same x) ev h k=wK (TD .same (ev x) h) k)∧(G .mkmap ev h k=mmK h k)∧(∀{n o z x y},G (.look n o z x y) ev h k=pK (vB n o z (ev x) (ev y) h) fun v=>k v h [])∧(∀{n m y x},G (.mupd n m y x) ev h k=wK (EB n (ev m) (ev y) (ev x) h) k) ∧
 (∀{n z m y},G (.ment n z m y) ev h k=wK (KQ n z (ev m) (ev y) h) k)∧(∀{m a x},G (.estore m a x) ev h k=wK (IQ (ev m) (ev a) (ev x) h) k)∧(∀{n m y},G (.mdel n m y) ev h k=wK (JC n (ev m) (ev y) h) k)∧(∀{x},G (.lenm x) ev h k=pK (eN (ev x) h) fun v=>k v h []) ∧
 (∀{x},G (.mrange x) ev h k=wK (XG (ev x) h) k)∧(∀{i},G (.mentry i) ev h k=wK (WG (ev i) h) k)
theorem w_op:∀ G,(G=opC C∨G=opE C)→OpW G:=by
 rintro G (rfl|rfl) <;> refine fun {_ _ _}=>⟨?_,?_,?_,?_,?_,?_,?_,?_,?_,?_,?_,?_,?_,?_,?_,?_,?_,?_,?_,?_,?_,?_,?_,?_,?_,?_,?_,?_,?_,?_,?_,?_,?_,?_,?_,?_,?_,?_,?_,?_,?_,?_,?_,?_,?_,?_,?_,?_⟩ <;> intros <;> rfl
theorem w_oc:OpW (opC C):=w_op _ (.inl rfl)
theorem w_oe:OpW (opE C):=w_op _ (.inr rfl)
abbrev OpG (G:AO→(Opd→AV)→aA→(AV→aA→Esc→Prop)→Prop):Prop:=∀{t:AV} {g:Bool} {ev:Opd→AV} {h:aA} {k:AV→aA→Esc→Prop},
 (∀{x},gO G t g (.mv x) ev h k=gM t g (ev x) h k) ∧
 (∀{c a b},gO G t g (.pick c a b) ev h k=gP t g (YG (ev c) (ev a) (ev b)) h k) ∧
 (∀{z},gO G t g (.alloc z) ev h k=gV t g h (fun k=>alK z h k) k) ∧
 (∀{x},gO G t g (.box x) ev h k=gV t g h (fun k=>wK (aN (ev x) h) k) k) ∧
 (∀{z ps},gO G t g (.build z ps) ev h k=gP t g (cC z (ev3 ev ps)) h k) ∧
 (∀{o sh n z ps},gO G t g (.bsl o sh n z ps) ev h k=gV t g h (fun k=>wK (nC o sh n z (ev2 ev ps) h) k) k) ∧
 (∀{sh a},gO G t g (.load sh a) ev h k=gP t g (SA sh (ev a) h) h k) ∧
 (∀{sh a x},gO G t g (.store sh a x) ev h k=gV t g h (fun k=>wK (FB sh (ev a) (ev x) h) k) k) ∧
 (∀{x},gO G t g (.nilchk x) ev h k=gP t g (gN (ev x)) h k) ∧
 (∀{o x y},gO G t g (.bin o x y) ev h k=gP t g (IA o (ev x) (ev y)) h k) ∧
 (∀{l n x y},gO G t g (.eqa l n x y) ev h k=gP t g (ZA l n (ev x) (ev y)) h k) ∧
 (∀{n b x},gO G t g (.isnil n b x) ev h k=gP t g (dN n b (ev x)) h k) ∧
 (∀{x},gO G t g (.mkif x) ev h k=gP t g (LQ (ev x)) h k) ∧
 (∀{o x},gO G t g (.un o x) ev h k=gP t g (oUn o (ev x)) h k) ∧
 (∀{c x},gO G t g (.conv (.i c) x) ev h k=gP t g (OJ c (ev x)) h k) ∧
 (∀{f l},gO G t g (.mkfn f l) ev h k=gM t g (.fn f (ev1 ev l)) h k) ∧
 (∀{sh x a b c},gO G t g (.slice sh x a b c) ev h k=gP t g (rI sh (ev x) (evO ev a) (evO ev b) (evO ev c) h) h k) ∧
 (∀{x a b},gO G t g (.slstr x a b) ev h k=gP t g (iN (ev x) (evO ev a) (evO ev b)) h k) ∧
 (∀{sh z a b},gO G t g (.mksl sh z a b) ev h k=gV t g h (fun k=>wK (MQ sh z (ev a) (ev b) h) k) k) ∧
 (∀{o sh x},gO G t g (.faddr o sh x) ev h k=gP t g (MA o sh (ev x)) h k) ∧
 (∀{o sh x},gO G t g (.field o sh x) ev h k=gP t g (JQ o sh (ev x)) h k) ∧
 (∀{sh x i},gO G t g (.iaddr sh x i) ev h k=gP t g (JE sh (ev x) (ev i) h) h k) ∧
 (∀{n sh x i},gO G t g (.iaddra n sh x i) ev h k=gP t g (qI n sh (ev x) (ev i)) h k) ∧
 (∀{n sh x i},gO G t g (.idxa n sh x i) ev h k=gP t g (cN n sh (ev x) (ev i)) h k) ∧
 (∀{x i},gO G t g (.idxs x i) ev h k=gP t g (PJ (ev x) (ev i)) h k) ∧
 (∀{x i},gO G t g (.ext x i) ev h k=gP t g (pI (ev x) i) h k) ∧
 (∀{x},gO G t g (.len x) ev h k=gP t g (VG (ev x)) h k) ∧
 (∀{x},gO G t g (.lens x) ev h k=gP t g (fN (ev x)) h k) ∧
 (∀{sh a x},gO G t g (.app sh a x) ev h k=gV t g h (fun k=>wK (ZM sh (ev a) (ev x) h) k) k) ∧
 (∀{sh a x},gO G t g (.copy sh a x) ev h k=gV t g h (fun k=>wK (HQ sh (ev a) (ev x) h) k) k) ∧
 (∀{m t2 l},gO G t g (.uns m t2 l) ev h k=gV t g h (fun k=>wK (UC m t2 (ev1 ev l) h) k) k) ∧
 (∀{sh z x},gO G t g (.clr sh z x) ev h k=gV t g h (fun k=>wK (oClr sh z (ev x) h) k) k) ∧
 (∀{l},gO G t g (.mx l) ev h k=gP t g (oMx (ev1 ev l)) h k) ∧
 (∀{l},gO G t g (.mn l) ev h k=gP t g (oMn (ev1 ev l)) h k) ∧
 (∀{sh},gO G t g (.new0 sh) ev h k=gV t g h (fun k=>nwK sh h k) k) ∧
 (∀{x},gO G t g (.conv .s2b x) ev h k=gV t g h (fun k=>wK (TD .s2b (ev x) h) k) k) ∧
 (∀{x},gO G t g (.conv .b2s x) ev h k=gV t g h (fun k=>wK (TD .b2s (ev x) h) k) k) ∧
 (∀{x},gO G t g (.conv .r2s x) ev h k=gV t g h (fun k=>wK (TD .r2s (ev x) h) k) k) ∧
 (∀{x},gO G t g (.conv .same x) ev h k=gV t g h (fun k=>wK (TD .same (ev x) h) k) k) ∧
 (gO G t g .mkmap ev h k=gV t g h (fun k=>mmK h k) k) ∧
 (∀{n o z x y},gO G t g (.look n o z x y) ev h k=gP t g (vB n o z (ev x) (ev y) h) h k) ∧
 (∀{n m y x},gO G t g (.mupd n m y x) ev h k=gV t g h (fun k=>wK (EB n (ev m) (ev y) (ev x) h) k) k) ∧
 (∀{n z m y},gO G t g (.ment n z m y) ev h k=gV t g h (fun k=>wK (KQ n z (ev m) (ev y) h) k) k) ∧
 (∀{m a x},gO G t g (.estore m a x) ev h k=gV t g h (fun k=>wK (IQ (ev m) (ev a) (ev x) h) k) k) ∧
 (∀{n m y},gO G t g (.mdel n m y) ev h k=gV t g h (fun k=>wK (JC n (ev m) (ev y) h) k) k) ∧
 (∀{x},gO G t g (.lenm x) ev h k=gP t g (eN (ev x) h) h k) ∧
 (∀{x},gO G t g (.mrange x) ev h k=gV t g h (fun k=>wK (XG (ev x) h) k) k) ∧
 (∀{i},gO G t g (.mentry i) ev h k=gV t g h (fun k=>wK (WG (ev i) h) k) k)
theorem w_og:∀ G,(G=opC C∨G=opE C)→OpG G:=by
 rintro G (rfl|rfl) <;> refine fun {_ _ _ _ _}=>⟨?_,?_,?_,?_,?_,?_,?_,?_,?_,?_,?_,?_,?_,?_,?_,?_,?_,?_,?_,?_,?_,?_,?_,?_,?_,?_,?_,?_,?_,?_,?_,?_,?_,?_,?_,?_,?_,?_,?_,?_,?_,?_,?_,?_,?_,?_,?_,?_⟩ <;> intros <;> rfl
theorem w_gc:OpG (opC C):=w_og _ (.inl rfl)
theorem w_ge:OpG (opE C):=w_og _ (.inr rfl)
theorem wG:(∀ {C:Hd}{t:AV}{g:Bool}{f:Nat}{a:List Opd}{ev:Opd→AV}{h:aA}{k:AV→aA→Esc→Prop},gO (opC C) t g (.call f a) ev h k=gV t g h (C f (ev1 ev a) h) k)∧(∀{C:Hd} {t:AV} {g:Bool} {f:Opd} {a:List Opd} {ev:Opd→AV} {h:aA} {k:AV→aA→Esc→Prop},gO (opC C) t g (.callv f a) ev h k=gV t g h (zG C (ev f) (ev1 ev a) h) k) ∧
 (∀{C:Hd} {t:AV} {g:Bool} {f:Nat} {a:List Opd} {ev:Opd→AV} {h:aA} {k:AV→aA→Esc→Prop},gO (opE C) t g (.call f a) ev h k=gV t g h (kD C f (ev1 ev a) h) k)∧(∀{C:Hd} {t:AV} {g:Bool} {f:Opd} {a:List Opd} {ev:Opd→AV} {h:aA} {k:AV→aA→Esc→Prop},gO (opE C) t g (.callv f a) ev h k=gV t g h (yG C (ev f) (ev1 ev a) h) k):=⟨rfl,rfl,rfl,rfl⟩
theorem wB:(∀ {α:Type}{l:List α},[]++l=l)∧(∀{α:Type} {a:α} {l m:List α},a::l++m=a::(l++m))∧(∀{α:Type} {a:α} {l:List α},(a::l)[0]?=some a)∧(∀{α:Type} {a:α} {l:List α} {i:Nat},(a::l)[i+1]?=l[i]?) ∧
 (∀{C:Hd} {gl:GL} {b:ACode} {K:KT} {s:St},rD C gl b K .normal s=NW C gl b s K)∧(∀{C:Hd} {gl:GL} {b:ACode} {K:KT} {s:St} {i:Nat},rD C gl b K (.exit i) s=K (.exit i) s)∧(∀{C:Hd} {gl:GL} {b:ACode} {K:KT} {s:St},rD C gl b K .ret s=K .ret s) ∧
 (∀{i:Nat} {K:KT} {s:St},AC i K .normal s=K .normal s)∧(∀{i j:Nat} {K:KT} {s:St},AC i K (.exit j) s=match Nat.beq j i with|true=>K .normal s|false=>K (.exit j) s)∧(∀{i:Nat} {K:KT} {s:St},AC i K .ret s=K .ret s):=
 ⟨by intros;rfl,by intros;rfl,by intros;rfl,by intros;rfl,by intros;rfl,by intros;rfl,by intros;rfl,by intros;rfl,by intro i j K s;show(bif Nat.beq j i then _ else _)=_;cases Nat.beq j i <;> rfl,by intros;rfl⟩
theorem wS:(∀ {n:Int},cI n = .c (.p (.int .i64 n)))∧(cT = .c (.p (.bool true)))∧(cF = .c (.p (.bool false)))∧(∀{l:List UInt8},cS l = .c (.p (.str l)))∧(∀{d:Nat} {o:AO},uO d o=⟨some d,none,o⟩)∧(∀{o:AO},wO o=⟨none,none,o⟩)∧(∀{d g:Nat} {b:Bool} {o:AO},gD d g b o=⟨some d,some (g,b),o⟩)∧(∀{d:Nat} {x:Opd},mV d x=⟨some d,none,.mv x⟩) ∧
 (∀{d:Nat} {b:BinOp} {x y:Opd},bN d b x y=⟨some d,none,.bin b x y⟩)∧(∀{d f:Nat} {l:List Opd},cL d f l=⟨some d,none,.call f l⟩)∧(∀{d:Nat} {s:Sh} {x:Opd},lD d s x=⟨some d,none,.load s x⟩)∧(∀{d:Nat} {s:Sh} {x y:Opd},iA d s x y=⟨some d,none,.iaddr s x y⟩)∧(∀{d o:Nat} {s:Sh} {x:Opd},fA d o s x=⟨some d,none,.faddr o s x⟩) ∧
 (∀{d:Nat} {s:Sh} {x y:Opd},sT d s x y=⟨some d,none,.store s x y⟩)∧(∀{d:Nat} {x:Opd},lN d x=⟨some d,none,.len x⟩)∧(∀{d:Nat} {x:Opd} {i:Nat},eX d x i=⟨some d,none,.ext x i⟩)∧(∀{o:AOp} {l:List Nat},dF o l=⟨o,l,false,[],[]⟩)∧(∀{o:AOp} {l:List Nat},dT o l=⟨o,l,true,[],[]⟩)∧(∀{o:AOp} {l:List Nat} {e:Bool} {a b:List Nat},dA o l e a b=⟨o,l,e,a,b⟩) ∧
 (∀{l:List AOp} {k:List Nat},rg l k = .reg l (some k))∧(∀{l:List DOp} {k:List Nat},dr l k = .draw l (some k)):=
 ⟨rfl,rfl,rfl,rfl,rfl,rfl,rfl,rfl,rfl,rfl,rfl,rfl,rfl,rfl,rfl,rfl,rfl,rfl,rfl,rfl,rfl⟩
def wZ:=And.intro wA (And.intro wB (And.intro @w_oc (And.intro @w_oe (And.intro @w_gc (And.intro @w_ge (And.intro wG wS))))))
end Go.Am
end
section
/- The functions asv abstract code,and asv formulas UD their values: printed by program out of the translation. -/
set_option linter.all false
set_option maxRecDepth 100000
namespace Go.Am
def cR:ACode:=.pr [5,17,18,86,87,88] (rg [bN 105 .add 88 (cI 1),
mV 88 105] [5,17,18,86,87,88])
def tV (C:Hd)(gl:GL)(e:En)(h:aA)(x:Esc)(K:KT):Sf C gl cR e h x K:=⟨_,by simp only[cR,↓wZ,AO.still];rfl⟩
theorem zc3 {C gl e h x K}:NW C gl cR ⟨e,h,x⟩ K=(tV C gl e h x K).1:=(tV C gl e h x K).2
def aK:ACode:=.pr [5,17,18,86,87,88] (.seq (rg [bN 89 .lss 88 87] [5,17,18,86,87,88,89])
(.seq (.cond 89 .skip
(.exit 0))
(.seq (.block 1 (.seq (rg [iA 90 (some 8) 86 88,
lD 91 (some 8) 90,
uO 20 (.alloc [.p (.str []),.p (.int .i64 0),.p (.int .i64 0),.p (.int .i64 0),.p (.str []),.p (.str []),.p (.str []),.p (.int .i64 0)]),
wO (.store (some 8) 20 91)] [5,17,18,20,86,87,88])
(.seq (rg [fA 92 3 none 20,
lD 93 none 92,
bN 94 .neq 93 (cI 7)] [5,17,18,20,86,87,88,94])
(.cond 94 (.seq (rg [mV 95 17,
lD 96 (some 8) 20,
uO 97 (.bsl false (some 8) 1 (.agg [.str [],.int .i64 0,.int .i64 0,.int .i64 0,.str [],.str [],.str [],.int .i64 0]) [(0,96)]),
uO 98 (.app (some 8) 95 97),
mV 17 98] [5,17,18,20,86,87,88])
(.seq (rg [fA 99 2 none 20,
lD 100 none 99,
mV 101 5,
bN 102 .leq 100 101] [5,17,18,86,87,88,102])
(.cond 102 (rg [mV 103 18,
bN 104 .add 103 (cI 1),
mV 18 104] [5,17,18,86,87,88])
.skip)))
.skip))))
cR)))
def uV (C:Hd)(gl:GL)(e:En)(h:aA)(x:Esc)(K:KT):Sf C gl aK e h x K:=⟨_,by simp only[aK,↓wZ,AO.still];rfl⟩
theorem zc4 {C gl e h x K}:NW C gl aK ⟨e,h,x⟩ K=(uV C gl e h x K).1:=(uV C gl e h x K).2
theorem zg5 {C gl e h x K}:NW C gl (.loop (.scope aK)) ⟨e,h,x⟩ K=GA C gl (.scope aK) K [(5,gA e 5),(17,gA e 17),(18,gA e 18),(86,gA e 86),(87,gA e 87),(88,gA e 88)] h x:=vE
def dR:ACode:=.pr [5,17,18] (.seq (rg [mV 107 17,
mV 108 5,
cL 109 NG [107,108],
mV 106 109,
eX 110 106 0,
eX 111 106 1,
mV 21 110,
mV 22 111] [18,21,22])
(.seq (rg [mV 112 22,
bN 113 .eql 112 (cI 0),
mV 114 113,
gD 115 114 true (.mv 21),
gD 116 114 true (.len 115),
gD 117 114 true (.mv 18),
gD 118 114 true (.bin .eql 116 117),
uO 119 (.pick 114 118 cF),
mV 120 119,
gD 121 120 true (.call lJ []),
uO 122 (.pick 120 121 cF),
mV 2 122] [2])
.ret))
def vV (C:Hd)(gl:GL)(e:En)(h:aA)(x:Esc)(K:KT):Sf C gl dR e h x K:=⟨_,by simp only[dR,↓wZ,AO.still];rfl⟩
theorem zc5 {C gl e h x K}:NW C gl dR ⟨e,h,x⟩ K=(vV C gl e h x K).1:=(vV C gl e h x K).2
def NY:ACode:=(.seq (rg [mV 2 cF] [0])
(.seq (rg [mV 23 0,
uO 24 (.build [.sl0 none,.p (.int .i64 0)] [(0,1,23)]),
uO 25 (.box 24),
mV 3 25] [3])
(.seq (rg [mV 26 3,
mV 27 3,
cL 28 CE [27,(cI 0),(cI 12)],
cL 29 dM [26,28],
mV 30 3,
cL 31 CE [30,(cI 0),(cI 100)],
mV 4 29,
mV 5 31] [3,4,5])
(.seq (rg [mV 33 3,
mV 34 4,
cL 35 bM [33,34],
mV 32 35,
eX 36 32 0,
eX 37 32 1,
mV 6 36,
mV 7 37] [4,5,6,7])
(.seq (rg [mV 39 6,
mV 40 7,
cL 41 rJ [39,40],
mV 38 41,
eX 42 38 0,
eX 43 38 1,
mV 8 42,
mV 9 43] [4,5,6,7,8,9])
(.seq (rg [mV 45 7,
mV 46 6,
cL 47 rJ [45,46],
mV 44 47,
eX 48 44 0,
eX 49 44 1,
mV 10 48,
mV 11 49] [4,5,8,9,10,11])
(.seq (rg [mV 51 4,
cL 52 qM [51],
mV 50 52,
eX 53 50 0,
eX 54 50 1,
mV 12 53,
mV 13 54] [4,5,8,9,10,11,12,13])
(.seq (rg [mV 56 12,
cL 57 pM [56],
mV 55 57,
eX 58 55 0,
eX 59 55 1,
eX 60 55 2,
mV 14 58,
mV 15 59,
mV 16 60] [4,5,8,9,10,11,13,14,16])
(.seq (.seq (rg [mV 61 9,
mV 62 11,
mV 63 13,
mV 64 16,
uO 65 (.bsl false none 4 (.int .i64 0) [(0,61),(1,62),(2,63),(3,64)]),
cL 66 UH [65],
bN 67 .neq 66 (cI 0),
mV 68 67,
gD 69 68 false (.mv 8),
gD 70 68 false (.mv 4),
gD 71 68 false (.call WH [69,70]),
gD 72 68 false (.un .not 71),
uO 73 (.pick 68 cT 72),
mV 74 73,
gD 75 74 false (.mv 10),
gD 76 74 false (.mv 4),
gD 77 74 false (.call WH [75,76]),
gD 78 74 false (.un .not 77),
uO 79 (.pick 74 cT 78),
mV 80 79,
gD 81 80 false (.mv 14),
gD 82 80 false (.mv 4),
gD 83 80 false (.call WH [81,82]),
gD 84 80 false (.un .not 83),
uO 85 (.pick 80 cT 84)] [4,5,85])
(.cond 85 (.seq (rg [mV 2 cF] [2])
.ret)
.skip))
(.seq (rg [uO 17 (.new0 (some 8))] [4,5,17])
(.seq (rg [mV 18 (cI 0)] [4,5,17,18])
(.seq (.seq (rg [mV 86 4,
lN 87 86,
mV 88 (cI 0)] [5,17,18,86,87,88])
(.block 0 (.loop (.scope aK))))
dR))))))))))))
def iT:AFun:=⟨1,[.t 2],NY,false,false⟩
def TO (C:Hd)(gl:GL)(e:En)(h:aA)(x:Esc)(K:KT):Sf C gl NY e h x K:=⟨_,by simp only[NY,↓wZ,AO.still];rfl⟩
theorem zc2 {C gl v0 h x K}:NW C gl iT.body ⟨enter [v0],h,x⟩ K=(TO C gl [(0,v0)] h x K).1:=(TO C gl [(0,v0)] h x K).2
def eK:ACode:=.pr [0,1,6] (.seq (rg [bN 7 .lss 6 (cI 8)] [0,1,6,7])
(.seq (.cond 7 .skip
(.exit 0))
(.seq (.block 1 (.seq (rg [mV 8 0,
mV 9 1,
cL 10 cM [8,9],
mV 5 10] [0,1,5,6])
(.seq (rg [mV 11 5,
cL 12 eM [11],
bN 13 .eql 12 (cI 0)] [0,1,5,6,13])
(.cond 13 (.seq (rg [mV 14 5,
mV 4 14] [4])
.ret)
.skip))))
(rg [bN 15 .add 6 (cI 1),
mV 6 15] [0,1,6]))))
def EV (C:Hd)(gl:GL)(e:En)(h:aA)(x:Esc)(K:KT):Sf C gl eK e h x K:=⟨_,by simp only[eK,↓wZ,AO.still];rfl⟩
theorem zcQ {C gl e h x K}:NW C gl eK ⟨e,h,x⟩ K=(EV C gl e h x K).1:=(EV C gl e h x K).2
theorem zg9 {C gl e h x K}:NW C gl (.loop eK) ⟨e,h,x⟩ K=GA C gl eK K [(0,gA e 0),(1,gA e 1),(6,gA e 6)] h x:=nB
def mR:ACode:=.pr [] (.seq (rg [mV 4 (.c (.p (.sl (some 8) [])))] [4])
.ret)
def FV (C:Hd)(gl:GL)(e:En)(h:aA)(x:Esc)(K:KT):Sf C gl mR e h x K:=⟨_,by simp only[mR,↓wZ,AO.still];rfl⟩
theorem zcR {C gl e h x K}:NW C gl mR ⟨e,h,x⟩ K=(FV C gl e h x K).1:=(FV C gl e h x K).2
def WY:ACode:=(.seq (rg [mV 4 (.c (.p (.sl (some 8) [])))] [0,1])
(.seq (.seq (rg [mV 6 (cI 0)] [0,1,6])
(.block 0 (.loop eK)))
mR))
def rT:AFun:=⟨2,[.t 4],WY,false,false⟩
def cP (C:Hd)(gl:GL)(e:En)(h:aA)(x:Esc)(K:KT):Sf C gl WY e h x K:=⟨_,by simp only[WY,↓wZ,AO.still];rfl⟩
theorem zcP {C gl v0 v1 h x K}:NW C gl rT.body ⟨enter [v0,v1],h,x⟩ K=(cP C gl [(0,v0),(1,v1)] h x K).1:=(cP C gl [(0,v0),(1,v1)] h x K).2
def VY:ACode:=(.seq (rg [mV 6 (cI 0)] [0,1,2])
(.seq (.seq (rg [mV 7 2,
mV 8 1,
bN 9 .lss 7 8] [0,1,2,9])
(.cond 9 (.seq (rg [mV 10 1,
mV 6 10] [6])
.ret)
.skip))
(.seq (rg [mV 11 1,
mV 12 0,
mV 13 2,
mV 14 1,
bN 15 .sub 13 14,
bN 16 .add 15 (cI 1),
cL 17 gE [12,16],
bN 18 .add 11 17,
mV 6 18] [6])
.ret)))
def qT:AFun:=⟨3,[.t 6],VY,false,false⟩
def bP (C:Hd)(gl:GL)(e:En)(h:aA)(x:Esc)(K:KT):Sf C gl VY e h x K:=⟨_,by simp only[VY,↓wZ,AO.still];rfl⟩
theorem zcO {C gl v0 v1 v2 h x K}:NW C gl qT.body ⟨enter [v0,v1,v2],h,x⟩ K=(bP C gl [(0,v0),(1,v1),(2,v2)] h x K).1:=(bP C gl [(0,v0),(1,v1),(2,v2)] h x K).2
def fR:ACode:=.pr [0,6,7,10,11,12] (rg [bN 38 .add 12 (cI 1),
mV 12 38] [0,6,7,10,11,12])
def yV (C:Hd)(gl:GL)(e:En)(h:aA)(x:Esc)(K:KT):Sf C gl fR e h x K:=⟨_,by simp only[fR,↓wZ,AO.still];rfl⟩
theorem zcA {C gl e h x K}:NW C gl fR ⟨e,h,x⟩ K=(yV C gl e h x K).1:=(yV C gl e h x K).2
def cK:ACode:=.pr [0,6,7,10,11,12] (.seq (rg [bN 13 .lss 12 11] [0,6,7,10,11,12,13])
(.seq (.cond 13 .skip
(.exit 0))
(.seq (.block 1 (.seq (rg [iA 14 (some 8) 10 12,
lD 15 (some 8) 14,
uO 9 (.alloc [.p (.str []),.p (.int .i64 0),.p (.int .i64 0),.p (.int .i64 0),.p (.str []),.p (.str []),.p (.str []),.p (.int .i64 0)]),
wO (.store (some 8) 9 15)] [0,6,7,9,10,11,12])
(.seq (rg [mV 16 0,
cL 17 gE [16,(cI 3)]] [0,6,7,9,10,11,12,17])
(.block 2 (.seq (rg [bN 27 .eql 17 (cI 0),
mV 26 27] [0,6,7,9,10,11,12,17,26])
(.cond 26 (rg [mV 28 6,
lD 29 (some 8) 9,
uO 30 (.bsl false (some 8) 1 (.agg [.str [],.int .i64 0,.int .i64 0,.int .i64 0,.str [],.str [],.str [],.int .i64 0]) [(0,29)]),
uO 31 (.app (some 8) 28 30),
mV 6 31] [0,6,7,10,11,12])
(.seq (rg [bN 33 .eql 17 (cI 1),
mV 32 33] [0,6,7,9,10,11,12,32])
(.cond 32 (rg [mV 34 7,
lD 35 (some 8) 9,
uO 36 (.bsl false (some 8) 1 (.agg [.str [],.int .i64 0,.int .i64 0,.int .i64 0,.str [],.str [],.str [],.int .i64 0]) [(0,35)]),
uO 37 (.app (some 8) 34 36),
mV 7 37] [0,6,7,10,11,12])
(dr [dF (mV 18 6) [6],
dF (lD 19 (some 8) 9) [9],
dF (uO 20 (.bsl false (some 8) 1 (.agg [.str [],.int .i64 0,.int .i64 0,.int .i64 0,.str [],.str [],.str [],.int .i64 0]) [(0,19)])) [19],
dT (uO 21 (.app (some 8) 18 20)) [18,20],
dF (mV 22 7) [7],
dA (lD 23 (some 8) 9) [9] false [3] [],
dA (uO 24 (.bsl false (some 8) 1 (.agg [.str [],.int .i64 0,.int .i64 0,.int .i64 0,.str [],.str [],.str [],.int .i64 0]) [(0,23)])) [23] false [3] [],
dT (uO 25 (.app (some 8) 22 24)) [22,24],
dF (mV 6 21) [21],
dF (mV 7 25) [25]] [0,6,7,10,11,12])))))))))
fR)))
def zV (C:Hd)(gl:GL)(e:En)(h:aA)(x:Esc)(K:KT):Sf C gl cK e h x K:=⟨_,by simp only[cK,↓wZ,AO.still];rfl⟩
theorem zcB {C gl e h x K}:NW C gl cK ⟨e,h,x⟩ K=(zV C gl e h x K).1:=(zV C gl e h x K).2
theorem zg7 {C gl e h x K}:NW C gl (.loop (.scope cK)) ⟨e,h,x⟩ K=GA C gl (.scope cK) K [(0,gA e 0),(6,gA e 6),(7,gA e 7),(10,gA e 10),(11,gA e 11),(12,gA e 12)] h x:=vE
def gR:ACode:=.pr [6,7] (.seq (rg [mV 39 6,
mV 40 7,
mV 4 39,
mV 5 40] [4,5])
.ret)
def BV (C:Hd)(gl:GL)(e:En)(h:aA)(x:Esc)(K:KT):Sf C gl gR e h x K:=⟨_,by simp only[gR,↓wZ,AO.still];rfl⟩
theorem zcC {C gl e h x K}:NW C gl gR ⟨e,h,x⟩ K=(BV C gl e h x K).1:=(BV C gl e h x K).2
def PY:ACode:=(.seq (rg [mV 4 (.c (.p (.sl (some 8) []))),
mV 5 (.c (.p (.sl (some 8) [])))] [0,1])
(.seq (rg [uO 6 (.new0 (some 8)),
uO 7 (.new0 (some 8))] [0,1,6,7])
(.seq (.seq (rg [mV 10 1,
lN 11 10,
mV 12 (cI 0)] [0,6,7,10,11,12])
(.block 0 (.loop (.scope cK))))
gR)))
def jT:AFun:=⟨2,[.t 4,.t 5],PY,false,false⟩
def WO (C:Hd)(gl:GL)(e:En)(h:aA)(x:Esc)(K:KT):Sf C gl PY e h x K:=⟨_,by simp only[PY,↓wZ,AO.still];rfl⟩
theorem zc9 {C gl v0 v1 h x K}:NW C gl jT.body ⟨enter [v0,v1],h,x⟩ K=(WO C gl [(0,v0),(1,v1)] h x K).1:=(WO C gl [(0,v0),(1,v1)] h x K).2
def yZ:ACode:=(.seq (rg [mV 4 (.c (.p (.sl (some 8) []))),
mV 5 (cI 0)] [0,1])
(.seq (.seq (rg [mV 8 0,
cL 9 FE [8],
mV 10 1,
cL 11 FE [10],
uO 12 (.bsl false none 2 (.int .i64 0) [(0,9),(1,11)]),
cL 13 JG [12],
mV 6 13] [0,1,6])
(.seq (rg [mV 14 6,
bN 15 .neq 14 (cI 0)] [0,1,6,15])
(.cond 15 (.seq (rg [mV 16 6,
mV 4 (.c (.p (.sl (some 8) []))),
mV 5 16] [4,5])
.ret)
.skip)))
(.seq (rg [mV 17 0,
mV 18 1,
uO 19 (.bsl false none 2 (.sl (some 8) []) [(0,17),(1,18)]),
cL 20 kM [19],
mV 7 20] [7])
(.seq (rg [mV 21 7,
cL 22 MG [21,(.f OG)]] [7])
(.seq (rg [mV 23 7,
cL 24 jM [23],
mV 7 24] [7])
(.seq (.block 0 (.seq (rg [mV 26 7,
cL 27 cG [26],
mV 25 27] [7,25])
(.cond 25 (.seq (rg [mV 4 (.c (.p (.sl (some 8) []))),
mV 5 (cI 13)] [4,5])
.ret)
(.seq (rg [mV 29 7,
lN 30 29,
bN 31 .gtr 30 (cI 2000),
mV 28 31] [7,28])
(.cond 28 (.seq (rg [mV 4 (.c (.p (.sl (some 8) []))),
mV 5 (cI 2)] [4,5])
.ret)
.skip)))))
(.seq (rg [mV 32 7,
mV 4 32,
mV 5 (cI 0)] [4,5])
.ret)))))))
def QT:AFun:=⟨2,[.t 4,.t 5],yZ,false,false⟩
def aJ (C:Hd)(gl:GL)(e:En)(h:aA)(x:Esc)(K:KT):Sf C gl yZ e h x K:=⟨_,by simp only[yZ,↓wZ,AO.still];rfl⟩
theorem zej {C gl v0 v1 h x K}:NW C gl QT.body ⟨enter [v0,v1],h,x⟩ K=(aJ C gl [(0,v0),(1,v1)] h x K).1:=(aJ C gl [(0,v0),(1,v1)] h x K).2
def vI:ACode:=.pr [5,13,14,15] (.seq (rg [bN 16 .lss 15 14] [5,13,14,15,16])
(.seq (.cond 16 .skip
(.exit 0))
(.seq (.block 1 (.seq (rg [iA 17 (some 8) 13 15,
lD 18 (some 8) 17,
uO 7 (.alloc [.p (.str []),.p (.int .i64 0),.p (.int .i64 0),.p (.int .i64 0),.p (.str []),.p (.str []),.p (.str []),.p (.int .i64 0)]),
wO (.store (some 8) 7 18)] [5,7,13,14,15])
(rg [lD 19 (some 8) 7,
cL 20 sM [19],
bN 21 .add 20 (cS [10]),
cL 22 wJ [5,21]] [5,13,14,15])))
(rg [bN 23 .add 15 (cI 1),
mV 15 23] [5,13,14,15]))))
def IW (C:Hd)(gl:GL)(e:En)(h:aA)(x:Esc)(K:KT):Sf C gl vI e h x K:=⟨_,by simp only[vI,↓wZ,AO.still];rfl⟩
theorem zen {C gl e h x K}:NW C gl vI ⟨e,h,x⟩ K=(IW C gl e h x K).1:=(IW C gl e h x K).2
theorem zgY {C gl e h x K}:NW C gl (.loop (.scope vI)) ⟨e,h,x⟩ K=GA C gl (.scope vI) K [(5,gA e 5),(13,gA e 13),(14,gA e 14),(15,gA e 15)] h x:=vE
def QR:ACode:=.pr [5] (.seq (.seq (rg [cL 24 vJ [5],
bN 25 .gtr 24 (cI 200000)] [5,25])
(.cond 25 (.seq (rg [mV 2 (cS []),
mV 3 (cI 2)] [2,3])
.ret)
.skip))
(.seq (rg [cL 26 vM [5],
mV 2 26,
mV 3 (cI 0)] [2,3])
.ret))
def tP (C:Hd)(gl:GL)(e:En)(h:aA)(x:Esc)(K:KT):Sf C gl QR e h x K:=⟨_,by simp only[QR,↓wZ,AO.still];rfl⟩
theorem rX {C gl e h x K}:NW C gl QR ⟨e,h,x⟩ K=(tP C gl e h x K).1:=(tP C gl e h x K).2
def BZ:ACode:=(.seq (rg [mV 2 (cS []),
mV 3 (cI 0)] [0])
(.seq (.seq (rg [mV 8 0,
cL 9 FE [8],
mV 4 9] [0,4])
(.seq (rg [mV 10 4,
bN 11 .neq 10 (cI 0)] [0,4,11])
(.cond 11 (.seq (rg [mV 12 4,
mV 2 (cS []),
mV 3 12] [2,3])
.ret)
.skip)))
(.seq (rg [uO 5 (.uns 0 56 [(cI 5)])] [0,5])
(.seq (.seq (rg [mV 13 0,
lN 14 13,
mV 15 (cI 0)] [5,13,14,15])
(.block 0 (.loop (.scope vI))))
QR))))
def TT:AFun:=⟨1,[.t 2,.t 3],BZ,false,false⟩
def DL (C:Hd)(gl:GL)(e:En)(h:aA)(x:Esc)(K:KT):Sf C gl BZ e h x K:=⟨_,by simp only[BZ,↓wZ,AO.still];rfl⟩
theorem zem {C gl v0 h x K}:NW C gl TT.body ⟨enter [v0],h,x⟩ K=(DL C gl [(0,v0)] h x K).1:=(DL C gl [(0,v0)] h x K).2
def zZ:ACode:=(.seq (rg [mV 2 (.c (.p (.sl (some 8) []))),
mV 3 (cI 0),
mV 4 (cI 0)] [0])
(.seq (.seq (rg [mV 9 0,
uO 10 (.lens 9),
bN 11 .gtr 10 (cI 200000)] [0,11])
(.cond 11 (.seq (rg [mV 2 (.c (.p (.sl (some 8) []))),
mV 3 (cI 0),
mV 4 (cI 2)] [2,3,4])
.ret)
.skip))
(.seq (rg [uO 5 (.uns 8 0 [(.c (.sl0 (some 8)))])] [0,5])
(.seq (rg [mV 13 0,
uO 14 (.mkfn sJ [5]),
cL 15 SL [13,14],
mV 12 15,
eX 16 12 0,
eX 17 12 1,
mV 6 16,
mV 7 17] [5,6,7])
(.seq (.seq (rg [mV 18 7,
uO 19 (.un .not 18)] [5,6,19])
(.cond 19 (.seq (rg [mV 20 6,
mV 2 (.c (.p (.sl (some 8) []))),
mV 3 20,
mV 4 (cI 9)] [2,3,4])
.ret)
.skip))
(.seq (.seq (rg [lD 21 none 5,
cL 22 FE [21],
mV 8 22] [5,8])
(.seq (rg [mV 23 8,
bN 24 .neq 23 (cI 0)] [5,8,24])
(.cond 24 (.seq (rg [mV 25 8,
mV 2 (.c (.p (.sl (some 8) []))),
mV 3 (cI 0),
mV 4 25] [2,3,4])
.ret)
.skip)))
(.seq (rg [lD 26 none 5,
mV 2 26,
mV 3 (cI 0),
mV 4 (cI 0)] [2,3,4])
.ret)))))))
def RT:AFun:=⟨1,[.t 2,.t 3,.t 4],zZ,false,false⟩
def bJ (C:Hd)(gl:GL)(e:En)(h:aA)(x:Esc)(K:KT):Sf C gl zZ e h x K:=⟨_,by simp only[zZ,↓wZ,AO.still];rfl⟩
theorem zek {C gl v0 h x K}:NW C gl RT.body ⟨enter [v0],h,x⟩ K=(bJ C gl [(0,v0)] h x K).1:=(bJ C gl [(0,v0)] h x K).2
def bK:ACode:=.pr [5,6,7] (.seq (rg [bN 8 .lss 7 6] [5,6,7,8])
(.seq (.cond 8 .skip
(.exit 0))
(.seq (.block 1 (.seq (rg [iA 9 none 5 7,
lD 10 none 9,
mV 4 10] [4,5,6,7])
(.seq (rg [mV 11 4,
bN 12 .neq 11 (cI 0)] [4,5,6,7,12])
(.cond 12 (.seq (rg [mV 13 4,
mV 2 13] [2])
.ret)
.skip))))
(rg [bN 14 .add 7 (cI 1),
mV 7 14] [5,6,7]))))
def wV (C:Hd)(gl:GL)(e:En)(h:aA)(x:Esc)(K:KT):Sf C gl bK e h x K:=⟨_,by simp only[bK,↓wZ,AO.still];rfl⟩
theorem zc7 {C gl e h x K}:NW C gl bK ⟨e,h,x⟩ K=(wV C gl e h x K).1:=(wV C gl e h x K).2
theorem zg6 {C gl e h x K}:NW C gl (.loop bK) ⟨e,h,x⟩ K=GA C gl bK K [(5,gA e 5),(6,gA e 6),(7,gA e 7)] h x:=nB
def eR:ACode:=.pr [] (.seq (rg [mV 2 (cI 0)] [2])
.ret)
def xV (C:Hd)(gl:GL)(e:En)(h:aA)(x:Esc)(K:KT):Sf C gl eR e h x K:=⟨_,by simp only[eR,↓wZ,AO.still];rfl⟩
theorem zc8 {C gl e h x K}:NW C gl eR ⟨e,h,x⟩ K=(xV C gl e h x K).1:=(xV C gl e h x K).2
def OY:ACode:=(.seq (rg [mV 2 (cI 0)] [0])
(.seq (.seq (rg [mV 5 0,
lN 6 5,
mV 7 (cI 0)] [5,6,7])
(.block 0 (.loop bK)))
eR))
def ZN:AFun:=⟨1,[.t 2],OY,false,false⟩
def UO (C:Hd)(gl:GL)(e:En)(h:aA)(x:Esc)(K:KT):Sf C gl OY e h x K:=⟨_,by simp only[OY,↓wZ,AO.still];rfl⟩
theorem zc6 {C gl v0 h x K}:NW C gl ZN.body ⟨enter [v0],h,x⟩ K=(UO C gl [(0,v0)] h x K).1:=(UO C gl [(0,v0)] h x K).2
def oK:ACode:=.pr [0,1,12,13] (.seq (rg [bN 14 .lss 13 12] [0,1,12,13,14])
(.seq (.cond 14 .skip
(.exit 0))
(.seq (.block 1 (.seq (rg [mV 15 13,
mV 5 15] [0,1,5,12,13])
(.seq (dr [dF (mV 16 0) [0],
dF (mV 17 5) [5],
dF (iA 18 (some 8) 16 17) [16,17],
dF (lD 19 (some 8) 18) [18],
dF (mV 20 1) [1],
dF (mV 21 5) [5],
dF (iA 22 (some 8) 20 21) [20,21],
dF (lD 23 (some 8) 22) [22],
dF (uO 24 (.eqa [2,0,0,0,2,2,2,0] true 19 23)) [19,23]] [0,1,12,13,24])
(.cond 24 (.seq (rg [mV 4 cF] [4])
.ret)
.skip))))
(rg [bN 25 .add 13 (cI 1),
mV 13 25] [0,1,12,13]))))
def WV (C:Hd)(gl:GL)(e:En)(h:aA)(x:Esc)(K:KT):Sf C gl oK e h x K:=⟨_,by simp only[oK,↓wZ,AO.still];rfl⟩
theorem zdy {C gl e h x K}:NW C gl oK ⟨e,h,x⟩ K=(WV C gl e h x K).1:=(WV C gl e h x K).2
theorem zgH {C gl e h x K}:NW C gl (.loop oK) ⟨e,h,x⟩ K=GA C gl oK K [(0,gA e 0),(1,gA e 1),(12,gA e 12),(13,gA e 13)] h x:=nB
def xR:ACode:=.pr [] (.seq (rg [mV 4 cT] [4])
.ret)
def XV (C:Hd)(gl:GL)(e:En)(h:aA)(x:Esc)(K:KT):Sf C gl xR e h x K:=⟨_,by simp only[xR,↓wZ,AO.still];rfl⟩
theorem zdz {C gl e h x K}:NW C gl xR ⟨e,h,x⟩ K=(XV C gl e h x K).1:=(XV C gl e h x K).2
def mZ:ACode:=(.seq (rg [mV 4 cF] [0,1])
(.seq (.seq (rg [mV 6 0,
lN 7 6,
mV 8 1,
lN 9 8,
bN 10 .neq 7 9] [0,1,10])
(.cond 10 (.seq (rg [mV 4 cF] [4])
.ret)
.skip))
(.seq (.seq (rg [mV 11 0,
lN 12 11,
mV 13 (cI 0)] [0,1,12,13])
(.block 0 (.loop oK)))
xR)))
def HT:AFun:=⟨2,[.t 4],mZ,false,false⟩
def xL (C:Hd)(gl:GL)(e:En)(h:aA)(x:Esc)(K:KT):Sf C gl mZ e h x K:=⟨_,by simp only[mZ,↓wZ,AO.still];rfl⟩
theorem zdx {C gl v0 v1 h x K}:NW C gl HT.body ⟨enter [v0,v1],h,x⟩ K=(xL C gl [(0,v0),(1,v1)] h x K).1:=(xL C gl [(0,v0),(1,v1)] h x K).2
def OR:ACode:=.pr [7,22,23,24] (rg [bN 34 .add 24 (cI 1),
mV 24 34] [7,22,23,24])
def FW (C:Hd)(gl:GL)(e:En)(h:aA)(x:Esc)(K:KT):Sf C gl OR e h x K:=⟨_,by simp only[OR,↓wZ,AO.still];rfl⟩
theorem zeg {C gl e h x K}:NW C gl OR ⟨e,h,x⟩ K=(FW C gl e h x K).1:=(FW C gl e h x K).2
def FK:ACode:=.pr [7,22,23,24] (.seq (rg [bN 25 .lss 24 23] [7,22,23,24,25])
(.seq (.cond 25 .skip
(.exit 0))
(.seq (.block 1 (.seq (rg [mV 26 24,
iA 27 none 22 24,
lD 28 none 27,
mV 8 26,
mV 9 28] [7,8,9,22,23,24])
(.seq (rg [mV 29 9] [7,8,22,23,24,29])
(.cond 29 (rg [mV 30 7,
mV 31 8,
uO 32 (.bsl false none 1 (.int .i64 0) [(0,31)]),
uO 33 (.app none 30 32),
mV 7 33] [7,22,23,24])
.skip))))
OR)))
def GW (C:Hd)(gl:GL)(e:En)(h:aA)(x:Esc)(K:KT):Sf C gl FK e h x K:=⟨_,by simp only[FK,↓wZ,AO.still];rfl⟩
theorem zeh {C gl e h x K}:NW C gl FK ⟨e,h,x⟩ K=(GW C gl e h x K).1:=(GW C gl e h x K).2
theorem zgX {C gl e h x K}:NW C gl (.loop (.scope FK)) ⟨e,h,x⟩ K=GA C gl (.scope FK) K [(7,gA e 7),(22,gA e 22),(23,gA e 23),(24,gA e 24)] h x:=vE
def PR:ACode:=.pr [7] (.seq (rg [mV 35 7,
mV 4 35,
mV 5 (cI 0)] [4,5])
.ret)
def HW (C:Hd)(gl:GL)(e:En)(h:aA)(x:Esc)(K:KT):Sf C gl PR e h x K:=⟨_,by simp only[PR,↓wZ,AO.still];rfl⟩
theorem zei {C gl e h x K}:NW C gl PR ⟨e,h,x⟩ K=(HW C gl e h x K).1:=(HW C gl e h x K).2
def xZ:ACode:=(.seq (rg [mV 4 (.c (.p (.sl none []))),
mV 5 (cI 0)] [0,1])
(.seq (.seq (rg [mV 10 0,
cL 11 FE [10],
mV 12 1,
cL 13 aI [12],
uO 14 (.bsl false none 2 (.int .i64 0) [(0,11),(1,13)]),
cL 15 JG [14],
mV 6 15] [0,1,6])
(.seq (rg [mV 16 6,
bN 17 .neq 16 (cI 0)] [0,1,6,17])
(.cond 17 (.seq (rg [mV 18 6,
mV 4 (.c (.p (.sl none []))),
mV 5 18] [4,5])
.ret)
.skip)))
(.seq (rg [uO 7 (.new0 none)] [0,1,7])
(.seq (.seq (rg [mV 19 0,
mV 20 1,
cL 21 bI [19,20],
cL 22 ZH [21],
lN 23 22,
mV 24 (cI 0)] [7,22,23,24])
(.block 0 (.loop (.scope FK))))
PR))))
def cO:AFun:=⟨2,[.t 4,.t 5],xZ,false,false⟩
def CL (C:Hd)(gl:GL)(e:En)(h:aA)(x:Esc)(K:KT):Sf C gl xZ e h x K:=⟨_,by simp only[xZ,↓wZ,AO.still];rfl⟩
theorem zef {C gl v0 v1 h x K}:NW C gl cO.body ⟨enter [v0,v1],h,x⟩ K=(CL C gl [(0,v0),(1,v1)] h x K).1:=(CL C gl [(0,v0),(1,v1)] h x K).2
def kN:ACode:=.pr [0,5,6,7,9,11,12] (.seq (rg [fA 55 3 none 9,
lD 56 none 55,
bN 57 .eql 56 (cI 2)] [0,5,6,7,9,11,12,57])
(.cond 57 (rg [mV 58 0,
uO 59 (.bsl false none 4 (.str []) [(0,(cS [115,99,97,110])),(1,(cS [115,99,97,110])),(2,(cS [102,108,97,115,104])),(3,(cS [98,117,114,110]))]),
cL 60 uC [58,59],
fA 61 5 none 9,
wO (.store none 61 60)] [0,5,6,7,9,11,12])
.skip))
def z2f (C:Hd)(gl:GL)(v0 v5 v6 v7 v9 v11 v12:AV)(h:aA)(x:Esc)(K:KT):Prop:=
 pK (MA 3 none v9) fun t1=>
 pK (SA none t1 h) fun t2=>
 pK (IA .eql t2 (AI 2)) fun t3=>
 DB t3 (wK (nC false none 4 (.str []) [(0,(.p (.str [115,99,97,110]))),(1,(.p (.str [115,99,97,110]))),(2,(.p (.str [102,108,97,115,104]))),(3,(.p (.str [98,117,114,110])))] h) fun t4 h5 y6=>
 C uC [v0,t4] h5 fun t7 h8 y9=>
 pK (MA 5 none v9) fun t10=>
 wK (FB none t10 t7 h8) fun t11 h12 y13=>
 K .normal ⟨[(0,v0),(5,v5),(6,v6),(7,v7),(9,v9),(11,v11),(12,v12)],h12,(y13++(y9++(y6++x)))⟩)
 (K .normal ⟨[(0,v0),(5,v5),(6,v6),(7,v7),(9,v9),(11,v11),(12,v12),(57,t3)],h,x⟩)
theorem mX {C gl e h x K}:NW C gl kN ⟨e,h,x⟩ K=z2f C gl (gA e 0) (gA e 5) (gA e 6) (gA e 7) (gA e 9) (gA e 11) (gA e 12) h x K:=by kernel_rfl
def jR:ACode:=.pr [0,5,6,7,9,11,12] (rg [mV 111 5,
lD 112 (some 8) 9,
uO 113 (.bsl false (some 8) 1 (.agg [.str [],.int .i64 0,.int .i64 0,.int .i64 0,.str [],.str [],.str [],.int .i64 0]) [(0,112)]),
uO 114 (.app (some 8) 111 113),
mV 5 114] [0,5,6,7,11,12])
def z2g (C:Hd)(gl:GL)(v0 v5 v6 v7 v9 v11 v12:AV)(h:aA)(x:Esc)(K:KT):Prop:=
 pK (SA (some 8) v9 h) fun t1=>
 wK (nC false (some 8) 1 (.agg [.str [],.int .i64 0,.int .i64 0,.int .i64 0,.str [],.str [],.str [],.int .i64 0]) [(0,t1)] h) fun t2 h3 y4=>
 wK (ZM (some 8) v5 t2 h3) fun t5 h6 y7=>
 K .normal ⟨[(0,v0),(5,t5),(6,v6),(7,v7),(11,v11),(12,v12)],h6,(y7++(y4++x))⟩
theorem zcG {C gl e h x K}:NW C gl jR ⟨e,h,x⟩ K=z2g C gl (gA e 0) (gA e 5) (gA e 6) (gA e 7) (gA e 9) (gA e 11) (gA e 12) h x K:=by kernel_rfl
def z1b (q2:ACode):ACode:=.pr [0,5,6,7,9,11,12] (.seq (.seq (rg [mV 71 0,
cL 72 aG [71,(cI 100)]] [0,5,6,7,9,11,12,72])
(.cond 72 (.seq (rg [mV 73 0,
cL 74 gE [73,(cI 3)]] [0,5,6,7,9,11,12,74])
(.block 3 (.seq (rg [bN 83 .eql 74 (cI 0),
mV 82 83] [0,5,6,7,9,11,12,74,82])
(.cond 82 (rg [mV 84 0,
fA 85 0 none 9,
lD 86 none 85,
uO 87 (.bsl false none 2 (.str []) [(0,(cS [])),(1,86)]),
cL 88 uC [84,87],
mV 89 0,
cL 90 iE [89,(cI 1),(cI 9)],
mV 91 0,
cL 92 iE [91,(cI 0),(cI 100)],
fA 93 0 none 9,
wO (.store none 93 88),
fA 94 1 none 9,
wO (.store none 94 90),
fA 95 2 none 9,
wO (.store none 95 92)] [0,5,6,7,9,11,12])
(.seq (rg [bN 97 .eql 74 (cI 1),
mV 96 97] [0,5,6,7,9,11,12,96])
(.cond 96 (dr [dF (mV 98 0) [0],
dT (cL 99 iE [98,(cI 1),(cI 7)]) [98],
dF (mV 100 0) [0],
dF (fA 101 4 none 9) [9],
dA (lD 102 none 101) [101] false [1] [],
dA (uO 103 (.bsl false none 3 (.str []) [(0,(cS [])),(1,(cS [65])),(2,102)])) [102] false [1] [],
dT (cL 104 uC [100,103]) [100,103],
dF (mV 105 0) [0],
dA (uO 106 (.bsl false none 2 (.str []) [(0,(cS [])),(1,(cS [115,99,97,110]))])) [] false [1,6] [],
dT (cL 107 uC [105,106]) [105,106],
dF (fA 108 3 none 9) [9],
dT (wO (.store none 108 99)) [108,99],
dF (fA 109 4 none 9) [9],
dT (wO (.store none 109 104)) [109,104],
dF (fA 110 5 none 9) [9],
dT (wO (.store none 110 107)) [110,107]] [0,5,6,7,9,11,12])
(rg [mV 75 0,
uO 76 (.bsl false none 2 (.str []) [(0,(cS [])),(1,(cS [115,97]))]),
cL 77 uC [75,76],
mV 78 0,
cL 79 iE [78,(cI 0),(cI 5)],
fA 80 6 none 9,
wO (.store none 80 77),
fA 81 7 none 9,
wO (.store none 81 79)] [0,5,6,7,9,11,12])))))))
.skip))
q2)
def mN:ACode:=z1b jR
def vF (C:Hd)(gl:GL)(q2:ACode)(v0 v5 v6 v7 v9 v11 v12:AV)(h:aA)(x:Esc)(K:KT):Prop:=
 C aG [v0,(AI 100)] h fun t1 h2 y3=>
 DB t1 (C gE [v0,(AI 3)] h2 fun t4 h5 y6=>
 pK (IA .eql t4 (AI 0)) fun t7=>
 DB t7 (pK (MA 0 none v9) fun t8=>
 pK (SA none t8 h5) fun t9=>
 wK (nC false none 2 (.str []) [(0,(.p (.str []))),(1,t9)] h5) fun t10 h11 y12=>
 C uC [v0,t10] h11 fun t13 h14 y15=>
 C iE [v0,(AI 1),(AI 9)] h14 fun t16 h17 y18=>
 C iE [v0,(AI 0),(AI 100)] h17 fun t19 h20 y21=>
 pK (MA 0 none v9) fun t22=>
 wK (FB none t22 t13 h20) fun t23 h24 y25=>
 pK (MA 1 none v9) fun t26=>
 wK (FB none t26 t16 h24) fun t27 h28 y29=>
 pK (MA 2 none v9) fun t30=>
 wK (FB none t30 t19 h28) fun t31 h32 y33=>
 NW C gl q2 ⟨[(0,v0),(5,v5),(6,v6),(7,v7),(9,v9),(11,v11),(12,v12)],h32,(y33++(y29++(y25++(y21++(y18++(y15++(y12++(y6++(y3++x)))))))))⟩ K)
 (pK (IA .eql t4 (AI 1)) fun t34=>
 DB t34 (kD C iE [v0,(AI 1),(AI 7)] h5 fun t35 h36 y37=>
 pK (MA 4 none v9) fun t38=>
 pK (SA none t38 h36) fun t39=>
 (pK (SA none t38 h5) fun v=>(fun u (g1:aA) (y1:Esc)=>u=t39∧g1=h5∧y1=[]) v h5 [])∧(wK (nC false none 3 (.str []) [(0,(.p (.str []))),(1,(.p (.str [65]))),(2,t39)] h36) fun t40 h41 y42=>
 (h41=h36∧y42=[])∧((wK (nC false none 3 (.str []) [(0,(.p (.str []))),(1,(.p (.str [65]))),(2,t39)] h5) (fun u (g1:aA) (y1:Esc)=>u=t40∧g1=h5∧y1=[]))∧(kD C uC [v0,t40] h41 fun t43 h44 y45=>
 wK (nC false none 2 (.str []) [(0,(.p (.str []))),(1,(.p (.str [115,99,97,110])))] h44) fun t46 h47 y48=>
 (h47=h44∧y48=[])∧((wK (nC false none 2 (.str []) [(0,(.p (.str []))),(1,(.p (.str [115,99,97,110])))] h5) (fun u (g1:aA) (y1:Esc)=>u=t46∧g1=h5∧y1=[]))∧((wK (nC false none 2 (.str []) [(0,(.p (.str []))),(1,(.p (.str [115,99,97,110])))] h41) (fun u (g1:aA) (y1:Esc)=>u=t46∧g1=h41∧y1=[]))∧(kD C uC [v0,t46] h47 fun t49 h50 y51=>
 pK (MA 3 none v9) fun t52=>
 wK (FB none t52 t35 h50) fun t53 h54 y55=>
 pK (MA 4 none v9) fun t56=>
 wK (FB none t56 t43 h54) fun t57 h58 y59=>
 pK (MA 5 none v9) fun t60=>
 wK (FB none t60 t49 h58) fun t61 h62 y63=>
 NW C gl q2 ⟨[(0,v0),(5,v5),(6,v6),(7,v7),(9,v9),(11,v11),(12,v12)],h62,(y63++(y59++(y55++(y51++(y48++(y45++(y42++(y37++(y6++(y3++x))))))))))⟩ K)))))))
 (wK (nC false none 2 (.str []) [(0,(.p (.str []))),(1,(.p (.str [115,97])))] h5) fun t64 h65 y66=>
 C uC [v0,t64] h65 fun t67 h68 y69=>
 C iE [v0,(AI 0),(AI 5)] h68 fun t70 h71 y72=>
 pK (MA 6 none v9) fun t73=>
 wK (FB none t73 t67 h71) fun t74 h75 y76=>
 pK (MA 7 none v9) fun t77=>
 wK (FB none t77 t70 h75) fun t78 h79 y80=>
 NW C gl q2 ⟨[(0,v0),(5,v5),(6,v6),(7,v7),(9,v9),(11,v11),(12,v12)],h79,(y80++(y76++(y72++(y69++(y66++(y6++(y3++x)))))))⟩ K)))
 (NW C gl q2 ⟨[(0,v0),(5,v5),(6,v6),(7,v7),(9,v9),(11,v11),(12,v12),(72,t1)],h2,(y3++x)⟩ K)
theorem z71 {C gl q2 e h x K}:NW C gl (z1b q2) ⟨e,h,x⟩ K=vF C gl q2 (gA e 0) (gA e 5) (gA e 6) (gA e 7) (gA e 9) (gA e 11) (gA e 12) h x K:=by kernel_rfl
theorem fJ {C gl e h x K}:NW C gl mN ⟨e,h,x⟩ K=vF C gl jR (gA e 0) (gA e 5) (gA e 6) (gA e 7) (gA e 9) (gA e 11) (gA e 12) h x K:=z71
def z1c (q1 q3:ACode):ACode:=.pr [0,5,6,7,8,9,11,12] (.seq (rg [mV 31 7,
fA 32 0 none 9,
lD 33 none 32,
uO 34 (.look (none,[2]) false (AI 0) 31 33),
bN 35 .add 34 (cI 1),
wO (.mupd (none,[2]) 31 33 35)] [0,5,6,7,8,9,11,12])
(.seq (rg [mV 36 7,
fA 37 0 none 9,
lD 38 none 37,
uO 39 (.look (none,[2]) false (AI 0) 36 38),
fA 40 1 none 9,
wO (.store none 40 39)] [0,5,6,7,8,9,11,12])
(.seq (.seq (rg [fA 41 3 none 9,
lD 42 none 41] [0,5,6,7,8,9,11,12,42])
(.block 2 (.seq (rg [bN 63 .eql 42 (cI 7),
mV 62 63] [0,5,6,7,8,9,11,12,62])
(.cond 62 (rg [mV 64 0,
uO 65 (.bsl false none 2 (.str []) [(0,(cS [115,97])),(1,(cS [115,98]))]),
cL 66 uC [64,65],
mV 67 0,
cL 68 CE [67,(cI 1),(cI 8)],
fA 69 6 none 9,
wO (.store none 69 66),
fA 70 7 none 9,
wO (.store none 70 68)] [0,5,6,7,9,11,12])
(.seq (rg [uO 43 (.bsl false none 3 (.str []) [(0,(cS [98,49])),(1,(cS [98,50])),(2,(cS [98,51]))]),
mV 44 8,
bN 45 .rem 44 (cI 3),
iA 46 none 43 45,
lD 47 none 46,
fA 48 4 none 9,
wO (.store none 48 47)] [0,5,6,7,8,9,11,12])
(.seq (.seq (rg [mV 49 8,
bN 50 .geq 49 (cI 3)] [0,5,6,7,9,11,12,50])
(.cond 50 (rg [mV 51 0,
uO 52 (.bsl false none 5 (.str []) [(0,(cS [98,49])),(1,(cS [98,49])),(2,(cS [98,50])),(3,(cS [98,51])),(4,(cS [98,52]))]),
cL 53 uC [51,52],
fA 54 4 none 9,
wO (.store none 54 53)] [0,5,6,7,9,11,12])
.skip))
q1))))))
q3)))
def kR:ACode:=z1c kN mN
def KH (C:Hd)(gl:GL)(q1 q3:ACode)(v0 v5 v6 v7 v8 v9 v11 v12:AV)(h:aA)(x:Esc)(K:KT):Prop:=
 pK (MA 0 none v9) fun t1=>
 pK (SA none t1 h) fun t2=>
 pK (vB (none,[2]) false (AI 0) v7 t2 h) fun t3=>
 pK (IA .add t3 (AI 1)) fun t4=>
 wK (EB (none,[2]) v7 t2 t4 h) fun t5 h6 y7=>
 pK (MA 0 none v9) fun t8=>
 pK (SA none t8 h6) fun t9=>
 pK (vB (none,[2]) false (AI 0) v7 t9 h6) fun t10=>
 pK (MA 1 none v9) fun t11=>
 wK (FB none t11 t10 h6) fun t12 h13 y14=>
 pK (MA 3 none v9) fun t15=>
 pK (SA none t15 h13) fun t16=>
 pK (IA .eql t16 (AI 7)) fun t17=>
 DB t17 (wK (nC false none 2 (.str []) [(0,(.p (.str [115,97]))),(1,(.p (.str [115,98])))] h13) fun t18 h19 y20=>
 C uC [v0,t18] h19 fun t21 h22 y23=>
 C CE [v0,(AI 1),(AI 8)] h22 fun t24 h25 y26=>
 pK (MA 6 none v9) fun t27=>
 wK (FB none t27 t21 h25) fun t28 h29 y30=>
 pK (MA 7 none v9) fun t31=>
 wK (FB none t31 t24 h29) fun t32 h33 y34=>
 NW C gl q3 ⟨[(0,v0),(5,v5),(6,v6),(7,v7),(9,v9),(11,v11),(12,v12)],h33,(y34++(y30++(y26++(y23++(y20++(y14++(y7++x)))))))⟩ K)
 (wK (nC false none 3 (.str []) [(0,(.p (.str [98,49]))),(1,(.p (.str [98,50]))),(2,(.p (.str [98,51])))] h13) fun t35 h36 y37=>
 pK (IA .rem v8 (AI 3)) fun t38=>
 pK (JE none t35 t38 h36) fun t39=>
 pK (SA none t39 h36) fun t40=>
 pK (MA 4 none v9) fun t41=>
 wK (FB none t41 t40 h36) fun t42 h43 y44=>
 pK (IA .geq v8 (AI 3)) fun t45=>
 DB t45 (wK (nC false none 5 (.str []) [(0,(.p (.str [98,49]))),(1,(.p (.str [98,49]))),(2,(.p (.str [98,50]))),(3,(.p (.str [98,51]))),(4,(.p (.str [98,52])))] h43) fun t46 h47 y48=>
 C uC [v0,t46] h47 fun t49 h50 y51=>
 pK (MA 4 none v9) fun t52=>
 wK (FB none t52 t49 h50) fun t53 h54 y55=>
 NW C gl q1 ⟨[(0,v0),(5,v5),(6,v6),(7,v7),(9,v9),(11,v11),(12,v12)],h54,(y55++(y51++(y48++(y44++(y37++(y14++(y7++x)))))))⟩ (AC 2 (rD C gl q3 K)))
 (NW C gl q1 ⟨[(0,v0),(5,v5),(6,v6),(7,v7),(9,v9),(11,v11),(12,v12),(50,t45)],h43,(y44++(y37++(y14++(y7++x))))⟩ (AC 2 (rD C gl q3 K))))
theorem z72 {C gl q1 q3 e h x K}:NW C gl (z1c q1 q3) ⟨e,h,x⟩ K=KH C gl q1 q3 (gA e 0) (gA e 5) (gA e 6) (gA e 7) (gA e 8) (gA e 9) (gA e 11) (gA e 12) h x K:=by kernel_rfl
theorem nX {C gl e h x K}:NW C gl kR ⟨e,h,x⟩ K=KH C gl kN mN (gA e 0) (gA e 5) (gA e 6) (gA e 7) (gA e 8) (gA e 9) (gA e 11) (gA e 12) h x K:=z72
def lR:ACode:=.pr [0,5,6,7,11,12] (rg [bN 115 .add 12 (cI 1),
mV 12 115] [0,5,6,7,11,12])
def z2h (C:Hd)(gl:GL)(v0 v5 v6 v7 v11 v12:AV)(h:aA)(x:Esc)(K:KT):Prop:=
 pK (IA .add v12 (AI 1)) fun t1=>
 K .normal ⟨[(0,v0),(5,v5),(6,v6),(7,v7),(11,v11),(12,t1)],h,x⟩
theorem zcH {C gl e h x K}:NW C gl lR ⟨e,h,x⟩ K=z2h C gl (gA e 0) (gA e 5) (gA e 6) (gA e 7) (gA e 11) (gA e 12) h x K:=by kernel_rfl
def z1d (q4 q5:ACode):ACode:=.pr [0,5,6,7,11,12] (.seq (rg [bN 13 .lss 12 11] [0,5,6,7,11,12,13])
(.seq (.cond 13 .skip
(.exit 0))
(.seq (.block 1 (.seq (rg [mV 14 12,
mV 8 14] [0,5,6,7,8,11,12])
(.seq (rg [mV 15 6,
mV 16 0,
uO 17 (.bsl false none 5 (.int .i64 0) [(0,(cI 0)),(1,(cI 1)),(2,(cI 1)),(3,(cI 3)),(4,(cI 10))]),
cL 18 YE [16,17],
bN 19 .add 15 18,
mV 6 19] [0,5,6,7,8,11,12])
(.seq (rg [mV 20 0,
uO 21 (.bsl false none 3 (.str []) [(0,(cS [115,97])),(1,(cS [115,97])),(2,(cS [115,98]))]),
cL 22 uC [20,21],
mV 23 6,
mV 24 0,
uO 25 (.bsl false none 12 (.int .i64 0) [(0,(cI 2)),(1,(cI 2)),(2,(cI 2)),(3,(cI 3)),(4,(cI 3)),(5,(cI 4)),(6,(cI 4)),(7,(cI 5)),(8,(cI 5)),(9,(cI 6)),(10,(cI 7)),(11,(cI 1))]),
cL 26 YE [24,25],
uO 27 (.build [.p (.str []),.p (.int .i64 0),.p (.int .i64 0),.p (.int .i64 0),.p (.str []),.p (.str []),.p (.str []),.p (.int .i64 0)] [(0,1,22),(2,1,23),(3,1,26)]),
uO 9 (.alloc [.p (.str []),.p (.int .i64 0),.p (.int .i64 0),.p (.int .i64 0),.p (.str []),.p (.str []),.p (.str []),.p (.int .i64 0)]),
wO (.store (some 8) 9 27)] [0,5,6,7,8,9,11,12])
(.seq (.seq (rg [mV 28 8,
bN 29 .lss 28 (cI 3)] [0,5,6,7,8,9,11,12,29])
(.cond 29 (rg [fA 30 3 none 9,
wO (.store none 30 (cI 1))] [0,5,6,7,8,9,11,12])
.skip))
q4)))))
q5)))
def dK:ACode:=z1d kR lR
def DV (C:Hd)(gl:GL)(q4 q5:ACode)(v0 v5 v6 v7 v11 v12:AV)(h:aA)(x:Esc)(K:KT):Prop:=
 pK (IA .lss v12 v11) fun t1=>
 DB t1 (wK (nC false none 5 (.int .i64 0) [(0,(AI 0)),(1,(AI 1)),(2,(AI 1)),(3,(AI 3)),(4,(AI 10))] h) fun t2 h3 y4=>
 C YE [v0,t2] h3 fun t5 h6 y7=>
 pK (IA .add v6 t5) fun t8=>
 wK (nC false none 3 (.str []) [(0,(.p (.str [115,97]))),(1,(.p (.str [115,97]))),(2,(.p (.str [115,98])))] h6) fun t9 h10 y11=>
 C uC [v0,t9] h10 fun t12 h13 y14=>
 wK (nC false none 12 (.int .i64 0) [(0,(AI 2)),(1,(AI 2)),(2,(AI 2)),(3,(AI 3)),(4,(AI 3)),(5,(AI 4)),(6,(AI 4)),(7,(AI 5)),(8,(AI 5)),(9,(AI 6)),(10,(AI 7)),(11,(AI 1))] h13) fun t15 h16 y17=>
 C YE [v0,t15] h16 fun t18 h19 y20=>
 pK (cC [.p (.str []),.p (.int .i64 0),.p (.int .i64 0),.p (.int .i64 0),.p (.str []),.p (.str []),.p (.str []),.p (.int .i64 0)] [(0,1,t12),(2,1,t8),(3,1,t18)]) fun t21=>
 alK [.p (.str []),.p (.int .i64 0),.p (.int .i64 0),.p (.int .i64 0),.p (.str []),.p (.str []),.p (.str []),.p (.int .i64 0)] h19 fun t22 h23 y24=>
 wK (FB (some 8) t22 t21 h23) fun t25 h26 y27=>
 pK (IA .lss v12 (AI 3)) fun t28=>
 DB t28 (pK (MA 3 none t22) fun t29=>
 wK (FB none t29 (AI 1) h26) fun t30 h31 y32=>
 NW C gl q4 ⟨[(0,v0),(5,v5),(6,t8),(7,v7),(8,v12),(9,t22),(11,v11),(12,v12)],h31,(y32++(y27++(y24++(y20++(y17++(y14++(y11++(y7++(y4++x)))))))))⟩ (AC 1 (rD C gl q5 K)))
 (NW C gl q4 ⟨[(0,v0),(5,v5),(6,t8),(7,v7),(8,v12),(9,t22),(11,v11),(12,v12),(29,t28)],h26,(y27++(y24++(y20++(y17++(y14++(y11++(y7++(y4++x))))))))⟩ (AC 1 (rD C gl q5 K))))
 (K (.exit 0) ⟨[(0,v0),(5,v5),(6,v6),(7,v7),(11,v11),(12,v12),(13,t1)],h,x⟩)
theorem z73 {C gl q4 q5 e h x K}:NW C gl (z1d q4 q5) ⟨e,h,x⟩ K=DV C gl q4 q5 (gA e 0) (gA e 5) (gA e 6) (gA e 7) (gA e 11) (gA e 12) h x K:=by kernel_rfl
theorem zcI {C gl e h x K}:NW C gl dK ⟨e,h,x⟩ K=DV C gl kR lR (gA e 0) (gA e 5) (gA e 6) (gA e 7) (gA e 11) (gA e 12) h x K:=z73
theorem zg8 {C gl e h x K}:NW C gl (.loop (.scope dK)) ⟨e,h,x⟩ K=GA C gl (.scope dK) K [(0,gA e 0),(5,gA e 5),(6,gA e 6),(7,gA e 7),(11,gA e 11),(12,gA e 12)] h x:=vE
def nN:ACode:=.pr [5] (.seq (rg [mV 116 5,
cL 117 MG [116,(.f bG)]] [5])
(.seq (rg [mV 118 5,
mV 4 118] [4])
.ret))
def z2i (C:Hd)(gl:GL)(v5:AV)(h:aA)(x:Esc)(K:KT):Prop:=
 C MG [v5,(.fn bG [])] h fun t1 h2 y3=>
 K .ret ⟨[(4,v5)],h2,(y3++x)⟩
theorem zcJ {C gl e h x K}:NW C gl nN ⟨e,h,x⟩ K=z2i C gl (gA e 5) h x K:=by kernel_rfl
def z1a (q6 q7:ACode):ACode:=(.seq (rg [mV 4 (.c (.p (.sl (some 8) [])))] [0,1])
(.seq (rg [uO 5 (.new0 (some 8))] [0,1,5])
(.seq (rg [mV 6 (cI 0)] [0,1,5,6])
(.seq (rg [uO 10 (.mkmap),
mV 7 10] [0,1,5,6,7])
(.seq (.seq (rg [mV 11 1,
mV 12 (cI 0)] [0,5,6,7,11,12])
(.block 0 (.loop (.scope q6))))
q7)))))
def lT:AFun:=⟨2,[.t 4],z1a dK nN,false,false⟩
def YO (C:Hd)(gl:GL)(q6 q7:ACode)(v0 v1:AV)(h:aA)(x:Esc)(K:KT):Prop:=
 nwK (some 8) h fun t1 h2 y3=>
 mmK h2 fun t4 h5 y6=>
 NW C gl (.loop (.scope q6)) ⟨[(0,v0),(5,t1),(6,(AI 0)),(7,t4),(11,v1),(12,(AI 0))],h5,(y6++(y3++x))⟩ (AC 0 (rD C gl q7 K))
theorem z70 {C gl q6 q7 v0 v1 h x K}:NW C gl (z1a q6 q7) ⟨enter [v0,v1],h,x⟩ K=YO C gl q6 q7 v0 v1 h x K:=by kernel_rfl
theorem zcF {C gl v0 v1 h x K}:NW C gl lT.body ⟨enter [v0,v1],h,x⟩ K=YO C gl dK nN v0 v1 h x K:=z70
def fK:ACode:=.pr [0,11,12,13] (.seq (rg [bN 14 .lss 13 12] [0,11,12,13,14])
(.seq (.cond 14 .skip
(.exit 0))
(.seq (.block 1 (.seq (rg [mV 15 13,
iA 16 (some 8) 11 13,
lD 17 (some 8) 16,
uO 4 (.alloc [.p (.str []),.p (.int .i64 0),.p (.int .i64 0),.p (.int .i64 0),.p (.str []),.p (.str []),.p (.str []),.p (.int .i64 0)]),
mV 3 15,
wO (.store (some 8) 4 17)] [0,3,4,11,12,13])
(.seq (.seq (rg [lD 18 (some 8) 4,
cL 19 fM [18],
mV 5 19] [0,3,4,5,11,12,13])
(.seq (rg [mV 20 5,
bN 21 .neq 20 (cI 0)] [0,3,4,5,11,12,13,21])
(.cond 21 (.seq (rg [mV 22 5,
mV 2 22] [2])
.ret)
.skip)))
(.seq (dr [dF (mV 23 3) [3],
dF (bN 24 .gtr 23 (cI 0)) [23],
dF (mV 25 24) [24],
dF (gD 26 25 true (.mv 0)) [0,25],
dF (gD 27 25 true (.mv 3)) [3,25],
dF (gD 28 25 true (.bin .sub 27 (cI 1))) [27,25],
dF (gD 29 25 true (.iaddr (some 8) 26 28)) [26,28,25],
dF (gD 30 25 true (.load (some 8) 29)) [29,25],
dF (gD 31 25 true (.load (some 8) 4)) [4,25],
dT (gD 32 25 true (.call bG [30,31])) [30,31,25],
dF (gD 33 25 true (.bin .geq 32 (cI 0))) [32,25],
dF (uO 34 (.pick 25 33 cF)) [25,33]] [0,11,12,13,34])
(.cond 34 (.seq (rg [mV 2 (cI 7)] [2])
.ret)
.skip)))))
(rg [bN 35 .add 13 (cI 1),
mV 13 35] [0,11,12,13]))))
def GV (C:Hd)(gl:GL)(e:En)(h:aA)(x:Esc)(K:KT):Sf C gl fK e h x K:=⟨_,by simp only[fK,↓wZ,AO.still];rfl⟩
theorem zcU {C gl e h x K}:NW C gl fK ⟨e,h,x⟩ K=(GV C gl e h x K).1:=(GV C gl e h x K).2
theorem zgA {C gl e h x K}:NW C gl (.loop (.scope fK)) ⟨e,h,x⟩ K=GA C gl (.scope fK) K [(0,gA e 0),(11,gA e 11),(12,gA e 12),(13,gA e 13)] h x:=vE
def iK:ACode:=.pr [0,36,37,38] (.seq (rg [bN 39 .lss 38 37] [0,36,37,38,39])
(.seq (.cond 39 .skip
(.exit 2))
(.seq (.block 3 (.seq (rg [mV 40 38,
iA 41 (some 8) 36 38,
lD 42 (some 8) 41,
uO 7 (.alloc [.p (.str []),.p (.int .i64 0),.p (.int .i64 0),.p (.int .i64 0),.p (.str []),.p (.str []),.p (.str []),.p (.int .i64 0)]),
mV 6 40,
wO (.store (some 8) 7 42)] [0,6,7,36,37,38])
(.seq (rg [mV 43 0,
mV 44 6,
uO 45 (.slice (some 8) 43 none (some 44) none),
uO 46 (.mkfn mJ [7]),
cL 47 lM [45,46]] [0,36,37,38,47])
(.cond 47 (.seq (rg [mV 2 (cI 6)] [2])
.ret)
.skip))))
(rg [bN 48 .add 38 (cI 1),
mV 38 48] [0,36,37,38]))))
def HV (C:Hd)(gl:GL)(e:En)(h:aA)(x:Esc)(K:KT):Sf C gl iK e h x K:=⟨_,by simp only[iK,↓wZ,AO.still];rfl⟩
theorem zcV {C gl e h x K}:NW C gl iK ⟨e,h,x⟩ K=(HV C gl e h x K).1:=(HV C gl e h x K).2
theorem zgB {C gl e h x K}:NW C gl (.loop (.scope iK)) ⟨e,h,x⟩ K=GA C gl (.scope iK) K [(0,gA e 0),(36,gA e 36),(37,gA e 37),(38,gA e 38)] h x:=vE
def nR:ACode:=.pr [] (.seq (rg [mV 2 (cI 0)] [2])
.ret)
def IV (C:Hd)(gl:GL)(e:En)(h:aA)(x:Esc)(K:KT):Sf C gl nR e h x K:=⟨_,by simp only[nR,↓wZ,AO.still];rfl⟩
theorem zcW {C gl e h x K}:NW C gl nR ⟨e,h,x⟩ K=(IV C gl e h x K).1:=(IV C gl e h x K).2
def oR:ACode:=.pr [0] (.seq (.seq (rg [mV 36 0,
lN 37 36,
mV 38 (cI 0)] [0,36,37,38])
(.block 2 (.loop (.scope iK))))
nR)
def eP (C:Hd)(gl:GL)(e:En)(h:aA)(x:Esc)(K:KT):Sf C gl oR e h x K:=⟨_,by simp only[oR,↓wZ,AO.still];rfl⟩
theorem oX {C gl e h x K}:NW C gl oR ⟨e,h,x⟩ K=(eP C gl e h x K).1:=(eP C gl e h x K).2
def YY:ACode:=(.seq (rg [mV 2 (cI 0)] [0])
(.seq (.seq (rg [mV 8 0,
lN 9 8,
bN 10 .gtr 9 (cI 2000)] [0,10])
(.cond 10 (.seq (rg [mV 2 (cI 2)] [2])
.ret)
.skip))
(.seq (.seq (rg [mV 11 0,
lN 12 11,
mV 13 (cI 0)] [0,11,12,13])
(.block 0 (.loop (.scope fK))))
oR)))
def uT:AFun:=⟨1,[.t 2],YY,false,false⟩
def uL (C:Hd)(gl:GL)(e:En)(h:aA)(x:Esc)(K:KT):Sf C gl YY e h x K:=⟨_,by simp only[YY,↓wZ,AO.still];rfl⟩
theorem zcT {C gl v0 h x K}:NW C gl uT.body ⟨enter [v0],h,x⟩ K=(uL C gl [(0,v0)] h x K).1:=(uL C gl [(0,v0)] h x K).2
def SY:ACode:=(.seq (rg [mV 4 (cI 0)] [0,1])
(.seq (rg [mV 7 0,
uO 8 (.nilchk 7),
fA 9 1 none 8,
lD 10 none 9,
bN 11 .add 10 (cI 1),
uO 12 (.nilchk 7),
fA 13 1 none 12,
wO (.store none 13 11)] [0,1])
(.seq (.seq (rg [mV 14 0,
uO 15 (.nilchk 14),
fA 16 0 none 15,
lD 17 none 16,
lN 18 17,
bN 19 .eql 18 (cI 0)] [0,1,19])
(.cond 19 (.seq (rg [mV 20 0,
uO 21 (.nilchk 20),
fA 22 1 none 21,
lD 23 none 22,
bN 24 .mul 23 (cI 7919),
mV 25 1,
cL 26 VH [24,25],
mV 4 26] [4])
.ret)
.skip))
(.seq (dr [dF (mV 27 0) [0],
dF (uO 28 (.nilchk 27)) [27],
dF (fA 29 1 none 28) [28],
dF (lD 30 none 29) [29],
dF (bN 31 .sub 30 (cI 1)) [30],
dF (mV 32 0) [0],
dF (uO 33 (.nilchk 32)) [32],
dF (fA 34 0 none 33) [33],
dF (lD 35 none 34) [34],
dF (lN 36 35) [35],
dF (bN 37 .rem 31 36) [31,36],
dF (mV 5 37) [37]] [0,1,5])
(.seq (dr [dF (mV 38 0) [0],
dF (uO 39 (.nilchk 38)) [38],
dF (fA 40 1 none 39) [39],
dF (lD 41 none 40) [40],
dF (bN 42 .sub 41 (cI 1)) [41],
dF (mV 43 0) [0],
dF (uO 44 (.nilchk 43)) [43],
dF (fA 45 0 none 44) [44],
dF (lD 46 none 45) [45],
dF (lN 47 46) [46],
dF (bN 48 .quo 42 47) [42,47],
dF (mV 6 48) [48]] [0,1,5,6])
(.seq (rg [mV 49 0,
uO 50 (.nilchk 49),
fA 51 0 none 50,
lD 52 none 51,
mV 53 5,
iA 54 none 52 53,
lD 55 none 54,
cL 56 VH [55,(cI 1073741824)],
mV 57 6,
mV 58 5,
bN 59 .add (cI 7919) 58,
bN 60 .mul 57 59,
bN 61 .add 56 60,
mV 62 1,
cL 63 VH [61,62],
mV 4 63] [4])
.ret))))))
def nT:AFun:=⟨2,[.t 4],SY,false,false⟩
def tL (C:Hd)(gl:GL)(e:En)(h:aA)(x:Esc)(K:KT):Sf C gl SY e h x K:=⟨_,by simp only[SY,↓wZ,AO.still];rfl⟩
theorem zcL {C gl v0 v1 h x K}:NW C gl nT.body ⟨enter [v0,v1],h,x⟩ K=(tL C gl [(0,v0),(1,v1)] h x K).1:=(tL C gl [(0,v0),(1,v1)] h x K).2
def RJ:ACode:=.pr [5,6,7] (.seq (rg [bN 8 .lss 7 6] [5,6,7,8])
(.seq (.cond 8 .skip
(.exit 0))
(.seq (.block 1 (.seq (rg [iA 9 none 5 7,
lD 10 none 9,
mV 4 10] [4,5,6,7])
(.seq (rg [mV 11 4,
bN 12 .neq 11 (cI 0)] [4,5,6,7,12])
(.cond 12 (.seq (rg [mV 13 4,
mV 2 13] [2])
.ret)
.skip))))
(rg [bN 14 .add 7 (cI 1),
mV 7 14] [5,6,7]))))
def SU (C:Hd)(gl:GL)(e:En)(h:aA)(x:Esc)(K:KT):Sf C gl RJ e h x K:=⟨_,by simp only[RJ,↓wZ,AO.still];rfl⟩
theorem zbO {C gl e h x K}:NW C gl RJ ⟨e,h,x⟩ K=(SU C gl e h x K).1:=(SU C gl e h x K).2
theorem zgv {C gl e h x K}:NW C gl (.loop RJ) ⟨e,h,x⟩ K=GA C gl RJ K [(5,gA e 5),(6,gA e 6),(7,gA e 7)] h x:=nB
def PQ:ACode:=.pr [] (.seq (rg [mV 2 (cI 0)] [2])
.ret)
def TU (C:Hd)(gl:GL)(e:En)(h:aA)(x:Esc)(K:KT):Sf C gl PQ e h x K:=⟨_,by simp only[PQ,↓wZ,AO.still];rfl⟩
theorem zbP {C gl e h x K}:NW C gl PQ ⟨e,h,x⟩ K=(TU C gl e h x K).1:=(TU C gl e h x K).2
def tY:ACode:=(.seq (rg [mV 2 (cI 0)] [0])
(.seq (.seq (rg [mV 5 0,
lN 6 5,
mV 7 (cI 0)] [5,6,7])
(.block 0 (.loop RJ)))
PQ))
def RN:AFun:=⟨1,[.t 2],tY,false,false⟩
def KO (C:Hd)(gl:GL)(e:En)(h:aA)(x:Esc)(K:KT):Sf C gl tY e h x K:=⟨_,by simp only[tY,↓wZ,AO.still];rfl⟩
theorem zbN {C gl v0 h x K}:NW C gl RN.body ⟨enter [v0],h,x⟩ K=(KO C gl [(0,v0)] h x K).1:=(KO C gl [(0,v0)] h x K).2
def EK:ACode:=.pr [0,9,10,11] (.seq (rg [bN 12 .lss 11 10] [0,9,10,11,12])
(.seq (.cond 12 .skip
(.exit 0))
(.seq (.block 1 (.seq (rg [mV 13 11,
iA 14 (some 8) 9 11,
lD 15 (some 8) 14,
uO 4 (.alloc [.p (.str []),.p (.int .i64 0),.p (.int .i64 0),.p (.int .i64 0),.p (.str []),.p (.str []),.p (.str []),.p (.int .i64 0)]),
mV 3 13,
wO (.store (some 8) 4 15)] [0,3,4,9,10,11])
(.seq (.seq (rg [lD 16 (some 8) 4,
cL 17 tJ [16],
mV 5 17] [0,3,4,5,9,10,11])
(.seq (rg [mV 18 5,
bN 19 .neq 18 (cI 0)] [0,3,4,5,9,10,11,19])
(.cond 19 (.seq (rg [mV 20 5,
mV 2 20] [2])
.ret)
.skip)))
(.seq (dr [dF (mV 21 3) [3],
dF (bN 22 .gtr 21 (cI 0)) [21],
dF (mV 23 22) [22],
dF (gD 24 23 true (.load (some 8) 4)) [4,23],
dF (gD 25 23 true (.mv 0)) [0,23],
dF (gD 26 23 true (.mv 3)) [3,23],
dF (gD 27 23 true (.bin .sub 26 (cI 1))) [26,23],
dF (gD 28 23 true (.iaddr (some 8) 25 27)) [25,27,23],
dF (gD 29 23 true (.load (some 8) 28)) [28,23],
dT (gD 30 23 true (.call OG [24,29])) [24,29,23],
dF (gD 31 23 true (.bin .leq 30 (cI 0))) [30,23],
dF (uO 32 (.pick 23 31 cF)) [23,31]] [0,9,10,11,32])
(.cond 32 (.seq (rg [mV 2 (cI 7)] [2])
.ret)
.skip)))))
(rg [bN 33 .add 11 (cI 1),
mV 11 33] [0,9,10,11]))))
def DW (C:Hd)(gl:GL)(e:En)(h:aA)(x:Esc)(K:KT):Sf C gl EK e h x K:=⟨_,by simp only[EK,↓wZ,AO.still];rfl⟩
theorem zec {C gl e h x K}:NW C gl EK ⟨e,h,x⟩ K=(DW C gl e h x K).1:=(DW C gl e h x K).2
theorem zgW {C gl e h x K}:NW C gl (.loop (.scope EK)) ⟨e,h,x⟩ K=GA C gl (.scope EK) K [(0,gA e 0),(9,gA e 9),(10,gA e 10),(11,gA e 11)] h x:=vE
def NR:ACode:=.pr [0] (.seq (.seq (rg [mV 34 0,
cL 35 cG [34]] [35])
(.cond 35 (.seq (rg [mV 2 (cI 6)] [2])
.ret)
.skip))
(.seq (rg [mV 2 (cI 0)] [2])
.ret))
def EW (C:Hd)(gl:GL)(e:En)(h:aA)(x:Esc)(K:KT):Sf C gl NR e h x K:=⟨_,by simp only[NR,↓wZ,AO.still];rfl⟩
theorem zee {C gl e h x K}:NW C gl NR ⟨e,h,x⟩ K=(EW C gl e h x K).1:=(EW C gl e h x K).2
def vZ:ACode:=(.seq (rg [mV 2 (cI 0)] [0])
(.seq (.seq (rg [mV 6 0,
lN 7 6,
bN 8 .gtr 7 (cI 2000)] [0,8])
(.cond 8 (.seq (rg [mV 2 (cI 2)] [2])
.ret)
.skip))
(.seq (.seq (rg [mV 9 0,
lN 10 9,
mV 11 (cI 0)] [0,9,10,11])
(.block 0 (.loop (.scope EK))))
NR)))
def ZK:AFun:=⟨1,[.t 2],vZ,false,false⟩
def BL (C:Hd)(gl:GL)(e:En)(h:aA)(x:Esc)(K:KT):Sf C gl vZ e h x K:=⟨_,by simp only[vZ,↓wZ,AO.still];rfl⟩
theorem zeb {C gl v0 h x K}:NW C gl ZK.body ⟨enter [v0],h,x⟩ K=(BL C gl [(0,v0)] h x K).1:=(BL C gl [(0,v0)] h x K).2
def mK:ACode:=.pr [0,3,9,10,11] (.seq (rg [bN 12 .lss 11 10] [0,3,9,10,11,12])
(.seq (.cond 12 .skip
(.exit 0))
(.seq (.block 1 (.seq (rg [iA 13 none 9 11,
lD 14 none 13,
mV 5 14] [0,3,5,9,10,11])
(.seq (rg [mV 15 3,
mV 16 5,
lN 17 16,
bN 18 .add 15 17,
mV 3 18] [0,3,9,10,11])
(.seq (rg [mV 19 3,
bN 20 .lss 19 (cI 0)] [0,3,9,10,11,20])
(.cond 20 .bad
.skip)))))
(rg [bN 22 .add 11 (cI 1),
mV 11 22] [0,3,9,10,11]))))
def SV (C:Hd)(gl:GL)(e:En)(h:aA)(x:Esc)(K:KT):Sf C gl mK e h x K:=⟨_,by simp only[mK,↓wZ,AO.still];rfl⟩
theorem zdr {C gl e h x K}:NW C gl mK ⟨e,h,x⟩ K=(SV C gl e h x K).1:=(SV C gl e h x K).2
theorem zgF {C gl e h x K}:NW C gl (.loop mK) ⟨e,h,x⟩ K=GA C gl mK K [(0,gA e 0),(3,gA e 3),(9,gA e 9),(10,gA e 10),(11,gA e 11)] h x:=nB
def nK:ACode:=.pr [6,25,26,27] (.seq (rg [bN 28 .lss 27 26] [6,25,26,27,28])
(.seq (.cond 28 .skip
(.exit 2))
(.seq (.block 3 (.seq (rg [iA 29 none 25 27,
lD 30 none 29,
mV 8 30] [6,8,25,26,27])
(rg [mV 31 6,
mV 32 8,
uO 33 (.app (some 8) 31 32),
mV 6 33] [6,25,26,27])))
(rg [bN 34 .add 27 (cI 1),
mV 27 34] [6,25,26,27]))))
def TV (C:Hd)(gl:GL)(e:En)(h:aA)(x:Esc)(K:KT):Sf C gl nK e h x K:=⟨_,by simp only[nK,↓wZ,AO.still];rfl⟩
theorem zds {C gl e h x K}:NW C gl nK ⟨e,h,x⟩ K=(TV C gl e h x K).1:=(TV C gl e h x K).2
theorem zgG {C gl e h x K}:NW C gl (.loop (.scope nK)) ⟨e,h,x⟩ K=GA C gl (.scope nK) K [(6,gA e 6),(25,gA e 25),(26,gA e 26),(27,gA e 27)] h x:=vE
def vR:ACode:=.pr [6] (.seq (rg [mV 35 6,
mV 2 35] [2])
.ret)
def UV (C:Hd)(gl:GL)(e:En)(h:aA)(x:Esc)(K:KT):Sf C gl vR e h x K:=⟨_,by simp only[vR,↓wZ,AO.still];rfl⟩
theorem zdt {C gl e h x K}:NW C gl vR ⟨e,h,x⟩ K=(UV C gl e h x K).1:=(UV C gl e h x K).2
def wR:ACode:=.pr [0,3] (.seq (rg [mV 23 3,
cL 24 cQ [(.c (.sl0 (some 8))),23],
mV 6 24] [0,6])
(.seq (.seq (rg [mV 25 0,
lN 26 25,
mV 27 (cI 0)] [6,25,26,27])
(.block 2 (.loop (.scope nK))))
vR))
def VV (C:Hd)(gl:GL)(e:En)(h:aA)(x:Esc)(K:KT):Sf C gl wR e h x K:=⟨_,by simp only[wR,↓wZ,AO.still];rfl⟩
theorem zdu {C gl e h x K}:NW C gl wR ⟨e,h,x⟩ K=(VV C gl e h x K).1:=(VV C gl e h x K).2
def jZ:ACode:=(.seq (rg [mV 2 (.c (.p (.sl (some 8) [])))] [0])
(.seq (rg [mV 3 (cI 0)] [0,3])
(.seq (.seq (rg [mV 9 0,
lN 10 9,
mV 11 (cI 0)] [0,3,9,10,11])
(.block 0 (.loop mK)))
wR)))
def FT:AFun:=⟨1,[.t 2],jZ,false,true⟩
def lP (C:Hd)(gl:GL)(e:En)(h:aA)(x:Esc)(K:KT):Sf C gl jZ e h x K:=⟨_,by simp only[jZ,↓wZ,AO.still];rfl⟩
theorem zdq {C gl v0 h x K}:NW C gl FT.body ⟨enter [v0],h,x⟩ K=(lP C gl [(0,v0)] h x K).1:=(lP C gl [(0,v0)] h x K).2
def pZ:ACode:=(rg [mV 4 0,
mV 5 0,
lN 6 5,
mV 7 1,
cL 8 qJ [4,6,7]] [])
def JT:AFun:=⟨2,[],pZ,true,false⟩
def yL (C:Hd)(gl:GL)(e:En)(h:aA)(x:Esc)(K:KT):Sf C gl pZ e h x K:=⟨_,by simp only[pZ,↓wZ,AO.still];rfl⟩
theorem zd6 {C gl v0 v1 h x K}:NW C gl JT.body ⟨enter [v0,v1],h,x⟩ K=(yL C gl [(0,v0),(1,v1)] h x K).1:=(yL C gl [(0,v0),(1,v1)] h x K).2
def CZ:ACode:=(.seq (rg [uO 2 (.box 0),
uO 3 (.box 1),
mV 4 (cI 0)] [2,3])
(.seq (dr [dF (fA 5 2 none 2) [2],
dF (lD 6 none 5) [5],
dF (fA 7 2 none 3) [3],
dF (lD 8 none 7) [7],
dT (cL 9 RH [6,8]) [6,8],
dF (fA 10 0 none 2) [2],
dA (lD 11 none 10) [10] false [4] [],
dF (fA 12 0 none 3) [3],
dA (lD 13 none 12) [12] false [4] [],
dT (cL 14 aF [11,13]) [11,13],
dF (fA 15 1 none 2) [2],
dA (lD 16 none 15) [15] false [4,9] [],
dF (fA 17 1 none 3) [3],
dA (lD 18 none 17) [17] false [4,9] [],
dT (cL 19 RH [16,18]) [16,18],
dF (uO 20 (.bsl false none 3 (.int .i64 0) [(0,9),(1,14),(2,19)])) [9,14,19],
dT (cL 21 SH [20]) [20],
dF (mV 4 21) [21]] [4])
.ret))
def dO:AFun:=⟨2,[.t 4],CZ,false,false⟩
def uP (C:Hd)(gl:GL)(e:En)(h:aA)(x:Esc)(K:KT):Sf C gl CZ e h x K:=⟨_,by simp only[CZ,↓wZ,AO.still];rfl⟩
theorem zeo {C gl v0 v1 h x K}:NW C gl dO.body ⟨enter [v0,v1],h,x⟩ K=(uP C gl [(0,v0),(1,v1)] h x K).1:=(uP C gl [(0,v0),(1,v1)] h x K).2
def rR:ACode:=.pr [0,3,4,5] (rg [mV 33 5,
bN 34 .add 33 (cI 1),
mV 5 34] [0,3,4,5])
def LV (C:Hd)(gl:GL)(e:En)(h:aA)(x:Esc)(K:KT):Sf C gl rR e h x K:=⟨_,by simp only[rR,↓wZ,AO.still];rfl⟩
theorem zdk {C gl e h x K}:NW C gl rR ⟨e,h,x⟩ K=(LV C gl e h x K).1:=(LV C gl e h x K).2
def kK:ACode:=.pr [0,3,4,5] (.seq (.seq (rg [mV 29 5,
mV 30 4,
lN 31 30,
bN 32 .lss 29 31] [0,3,4,5,32])
(.cond 32 .skip
(.exit 2)))
(.seq (.block 3 (.seq (dr [dF (mV 35 4) [4],
dF (mV 36 5) [5],
dF (iA 37 (some 8) 35 36) [35,36],
dF (lD 38 (some 8) 37) [37],
dF (mV 39 4) [4],
dF (mV 40 5) [5],
dF (bN 41 .sub 40 (cI 1)) [40],
dF (iA 42 (some 8) 39 41) [39,41],
dF (lD 43 (some 8) 42) [42],
dF (uO 44 (.eqa [2,0,0,0,2,2,2,0] true 38 43)) [38,43]] [0,3,4,5,44])
(.cond 44 (.seq (rg [mV 45 0,
mV 46 3,
mV 47 4,
mV 48 5,
iA 49 (some 8) 47 48,
lD 50 (some 8) 49,
iA 51 (some 8) 45 46,
wO (.store (some 8) 51 50)] [0,3,4,5])
(rg [mV 52 3,
bN 53 .add 52 (cI 1),
mV 3 53] [0,3,4,5]))
.skip)))
rR))
def MV (C:Hd)(gl:GL)(e:En)(h:aA)(x:Esc)(K:KT):Sf C gl kK e h x K:=⟨_,by simp only[kK,↓wZ,AO.still];rfl⟩
theorem zdl {C gl e h x K}:NW C gl kK ⟨e,h,x⟩ K=(MV C gl e h x K).1:=(MV C gl e h x K).2
theorem zgD {C gl e h x K}:NW C gl (.loop kK) ⟨e,h,x⟩ K=GA C gl kK K [(0,gA e 0),(3,gA e 3),(4,gA e 4),(5,gA e 5)] h x:=nB
def sR:ACode:=.pr [0,3] (.seq (rg [mV 54 0,
mV 55 3,
uO 56 (.slice (some 8) 54 (some 55) none none),
wO (.clr (some 8) (.agg [.str [],.int .i64 0,.int .i64 0,.int .i64 0,.str [],.str [],.str [],.int .i64 0]) 56)] [0,3])
(.seq (rg [mV 57 0,
mV 58 3,
uO 59 (.slice (some 8) 57 none (some 58) none),
mV 2 59] [2])
.ret))
def NV (C:Hd)(gl:GL)(e:En)(h:aA)(x:Esc)(K:KT):Sf C gl sR e h x K:=⟨_,by simp only[sR,↓wZ,AO.still];rfl⟩
theorem zdm {C gl e h x K}:NW C gl sR ⟨e,h,x⟩ K=(NV C gl e h x K).1:=(NV C gl e h x K).2
def tR:ACode:=.pr [0,3] (rg [mV 14 3,
bN 15 .add 14 (cI 1),
mV 3 15] [0,3])
def OV (C:Hd)(gl:GL)(e:En)(h:aA)(x:Esc)(K:KT):Sf C gl tR e h x K:=⟨_,by simp only[tR,↓wZ,AO.still];rfl⟩
theorem zdn {C gl e h x K}:NW C gl tR ⟨e,h,x⟩ K=(OV C gl e h x K).1:=(OV C gl e h x K).2
def lK:ACode:=.pr [0,3] (.seq (.seq (rg [mV 10 3,
mV 11 0,
lN 12 11,
bN 13 .lss 10 12] [0,3,13])
(.cond 13 .skip
(.exit 0)))
(.seq (.block 1 (.seq (dr [dF (mV 16 0) [0],
dF (mV 17 3) [3],
dF (iA 18 (some 8) 16 17) [16,17],
dF (lD 19 (some 8) 18) [18],
dF (mV 20 0) [0],
dF (mV 21 3) [3],
dF (bN 22 .sub 21 (cI 1)) [21],
dF (iA 23 (some 8) 20 22) [20,22],
dF (lD 24 (some 8) 23) [23],
dF (uO 25 (.eqa [2,0,0,0,2,2,2,0] false 19 24)) [19,24]] [0,3,25])
(.cond 25 (.seq (rg [mV 26 0,
mV 27 3,
uO 28 (.slice (some 8) 26 (some 27) none none),
mV 4 28] [0,3,4])
(.seq (.seq (rg [mV 5 (cI 1)] [0,3,4,5])
(.block 2 (.loop kK)))
sR))
.skip)))
tR))
def QV (C:Hd)(gl:GL)(e:En)(h:aA)(x:Esc)(K:KT):Sf C gl lK e h x K:=⟨_,by simp only[lK,↓wZ,AO.still];rfl⟩
theorem zdo {C gl e h x K}:NW C gl lK ⟨e,h,x⟩ K=(QV C gl e h x K).1:=(QV C gl e h x K).2
theorem zgE {C gl e h x K}:NW C gl (.loop lK) ⟨e,h,x⟩ K=GA C gl lK K [(0,gA e 0),(3,gA e 3)] h x:=nB
def uR:ACode:=.pr [0] (.seq (rg [mV 60 0,
mV 2 60] [2])
.ret)
def RV (C:Hd)(gl:GL)(e:En)(h:aA)(x:Esc)(K:KT):Sf C gl uR e h x K:=⟨_,by simp only[uR,↓wZ,AO.still];rfl⟩
theorem zdp {C gl e h x K}:NW C gl uR ⟨e,h,x⟩ K=(RV C gl e h x K).1:=(RV C gl e h x K).2
def iZ:ACode:=(.seq (rg [mV 2 (.c (.p (.sl (some 8) [])))] [0])
(.seq (.seq (rg [mV 6 0,
lN 7 6,
bN 8 .lss 7 (cI 2)] [0,8])
(.cond 8 (.seq (rg [mV 9 0,
mV 2 9] [2])
.ret)
.skip))
(.seq (.seq (rg [mV 3 (cI 1)] [0,3])
(.block 0 (.loop lK)))
uR)))
def ET:AFun:=⟨1,[.t 2],iZ,true,false⟩
def wL (C:Hd)(gl:GL)(e:En)(h:aA)(x:Esc)(K:KT):Sf C gl iZ e h x K:=⟨_,by simp only[iZ,↓wZ,AO.still];rfl⟩
theorem zdj {C gl v0 h x K}:NW C gl ET.body ⟨enter [v0],h,x⟩ K=(wL C gl [(0,v0)] h x K).1:=(wL C gl [(0,v0)] h x K).2
def IK:ACode:=.pr [3,8,9,10] (.seq (rg [bN 11 .lss 10 9] [3,8,9,10,11])
(.seq (.cond 11 .skip
(.exit 0))
(.seq (.block 1 (.seq (rg [iA 12 (some 8) 8 10,
lD 13 (some 8) 12,
uO 5 (.alloc [.p (.str []),.p (.int .i64 0),.p (.int .i64 0),.p (.int .i64 0),.p (.str []),.p (.str []),.p (.str []),.p (.int .i64 0)]),
wO (.store (some 8) 5 13)] [3,5,8,9,10])
(.seq (rg [fA 14 0 none 5,
lD 15 none 14,
fA 16 1 none 5,
lD 17 none 16,
uO 18 (.build [.p (.str []),.p (.int .i64 0)] [(0,1,15),(1,1,17)]),
uO 6 (.alloc [.p (.str []),.p (.int .i64 0)]),
wO (.store (some 2) 6 18)] [3,6,8,9,10])
(.seq (.seq (rg [mV 19 3,
lD 20 (some 2) 6,
uO 21 (.look ((some 2),[2,0]) false (AB false) 19 20)] [3,6,8,9,10,21])
(.cond 21 (.seq (rg [mV 2 cT] [2])
.ret)
.skip))
(rg [mV 22 3,
lD 23 (some 2) 6,
wO (.mupd ((some 2),[2,0]) 22 23 cT)] [3,8,9,10])))))
(rg [bN 24 .add 10 (cI 1),
mV 10 24] [3,8,9,10]))))
def QW (C:Hd)(gl:GL)(e:En)(h:aA)(x:Esc)(K:KT):Sf C gl IK e h x K:=⟨_,by simp only[IK,↓wZ,AO.still];rfl⟩
theorem ze2 {C gl e h x K}:NW C gl IK ⟨e,h,x⟩ K=(QW C gl e h x K).1:=(QW C gl e h x K).2
theorem zhb {C gl e h x K}:NW C gl (.loop (.scope IK)) ⟨e,h,x⟩ K=GA C gl (.scope IK) K [(3,gA e 3),(8,gA e 8),(9,gA e 9),(10,gA e 10)] h x:=vE
def WR:ACode:=.pr [] (.seq (rg [mV 2 cF] [2])
.ret)
def RW (C:Hd)(gl:GL)(e:En)(h:aA)(x:Esc)(K:KT):Sf C gl WR e h x K:=⟨_,by simp only[WR,↓wZ,AO.still];rfl⟩
theorem ze3 {C gl e h x K}:NW C gl WR ⟨e,h,x⟩ K=(RW C gl e h x K).1:=(RW C gl e h x K).2
def KZ:ACode:=(.seq (rg [mV 2 cF] [0])
(.seq (rg [uO 7 (.mkmap),
mV 3 7] [0,3])
(.seq (.seq (rg [mV 8 0,
lN 9 8,
mV 10 (cI 0)] [3,8,9,10])
(.block 0 (.loop (.scope IK))))
WR)))
def aL:AFun:=⟨1,[.t 2],KZ,false,false⟩
def xP (C:Hd)(gl:GL)(e:En)(h:aA)(x:Esc)(K:KT):Sf C gl KZ e h x K:=⟨_,by simp only[KZ,↓wZ,AO.still];rfl⟩
theorem ze1 {C gl v0 h x K}:NW C gl aL.body ⟨enter [v0],h,x⟩ K=(xP C gl [(0,v0)] h x K).1:=(xP C gl [(0,v0)] h x K).2
def PZ:ACode:=(.seq (rg [mV 4 (cI 0),
mV 5 (.c (.nili))] [0,1])
(.seq (rg [mV 6 0,
cL 7 wM [6]] [0,1])
(.seq (rg [mV 8 0,
mV 9 0,
uO 10 (.nilchk 9),
fA 11 1 none 10,
lD 12 none 11,
mV 13 1,
uO 14 (.uns 3 5 [12,13]),
uO 15 (.nilchk 8),
fA 16 1 none 15,
wO (.store none 16 14)] [1])
(.seq (rg [mV 17 1,
uO 18 (.lens 17),
mV 4 18,
mV 5 (.c (.nili))] [4,5])
.ret))))
def aU:AFun:=⟨2,[.t 4,.t 5],PZ,false,false⟩
def AP (C:Hd)(gl:GL)(e:En)(h:aA)(x:Esc)(K:KT):Sf C gl PZ e h x K:=⟨_,by simp only[PZ,↓wZ,AO.still];rfl⟩
theorem zeA {C gl v0 v1 h x K}:NW C gl aU.body ⟨enter [v0,v1],h,x⟩ K=(AP C gl [(0,v0),(1,v1)] h x K).1:=(AP C gl [(0,v0),(1,v1)] h x K).2
end Go.Am
end
