/- Texts of the proof, laid together: Am29, Am30, Am31, AmX, AmS, AmW, CodesA. -/
import GoSem.Extern.Table
import Derived.Laws.World
import Derived.KernelRfl
import Derived.Test.YtcfpflfpinmmmaaGreatDoorlawTL3
set_option linter.all false
section
/- The abstract machine,part 29: its meaning once more,spelt so that a function's code can be printed asv a formula FE its values (shallow),equal tov the deep one by computing. -/
set_option linter.unusedSimpArgs false
set_option linter.unusedVariables false
namespace Go.Am
def pK (o:Option AV)(k:AV→Prop):Prop:=match o with
 | some v=>k v
 | none=>False
def wK (o:Option (AV × aA × Esc))(k:AV→aA→Esc→Prop):Prop:=match o with
 | some y=>k y.1 y.2.1 y.2.2
 | none=>False
def RJ (c a b:AV):Option AV:=match c with
 | .p (.bool t)=>some (bif t then a else b)
 | _=>none
def oBox (x:AV)(h:aA):Option (AV×aA×Esc):=match x.cells with
 | some cs=>some (.ref h.length 0,h++[.box cs],[])
 | none=>none
def lM:List (Nat × Nat × AV)→List AV→Option (List AV)
 | [],cs=>some cs
 | (off,n,x)::r,cs=>match x.cells with
  | some vs=>if vs.length=n∧off+n≤cs.length then lM r (splice cs off vs) else none
  | none=>none
def cC (z:List AV)(ps:List (Nat × Nat × AV)):Option AV:=(lM ps z).map mkA
def mM (sh:Sh):List (Nat×AV)→aA→List PV→Option (List PV×aA)
 | [],h,xs=>some (xs,h)
 | (i,x)::r,h,xs=>match pur h x with
  | some (v,h')=>if v.shp sh∧i<xs.length then mM sh r h' (xs.set i v) else none
  | none=>none
def PC (own:Bool)(sh:Sh)(n:Nat)(z:PV)(ps:List (Nat × AV))(h:aA):Option (AV×aA×Esc):=match mM sh ps h (List.replicate n z) with
 | some (xs,h')=>if !z.shp sh then none else some (bif own then(.own h'.length n 0 n,h'++[.row sh xs 0],[]) else(.p (.sl sh xs),h',[]))
 | none=>none
def eB (sh:Sh)(a:AV)(h:aA):Option AV:=match a with
 | .ref id off=>match h[id]? with
  | some (.box cs)=>cut sh off cs
  | _=>none
 | .rref id g i off=>match h[id]? with
  | some (.row _ xs _)=>if g=xs.length then((xs[i]?).bind (BA sh off)).map .p else none
  | _=>none
 | .vp v=>(BA sh 0 v).map .p
 | .bt k off id g=>ldA sh k off id g h
 | _=>none
def oD (sh:Sh)(a x:AV)(h:aA):Option (AV×aA×Esc):=match a with
 | .ref id off=>match h[id]?,x.cells with
  | some (.box cs),some vs=>if vs.length=gA sh∧off+vs.length≤cs.length then some (.und,h.set id (.box (splice cs off vs)),OG id cs x) else none
  | _,_=>none
 | .rref id g i off=>match pur h x with
  | some (v,h1)=>match h1[id]? with
   | some (.row rsh xs fz)=>if g=xs.length∧fz≤i∧v.cells.length=gA sh∧v.cells.all PV.sc then match xs[i]? with
    | some (.agg cs)=>if off+v.cells.length≤cs.length then some (.und,h1.set id (.row rsh (xs.set i (.agg (splice cs off v.cells))) fz),[]) else none
    | some _=>if off=0∧v.sc then some (.und,h1.set id (.row rsh (xs.set i v) fz),[]) else none
    | none=>none
    else none
   | _=>none
  | none=>none
 | .bt k off id g=>stA sh k off id g x h
 | _=>none
def KM (x:AV):Option AV:=match x with
 | .ref _ _ | .rref _ _ _ _ | .vp _ | .fn _ _=>some x
 | .bt k _ _ _=>nlA k x
 | _=>none
def AA (op:BinOp)(x y:AV):Option AV:=match x,y with
 | .p a,.p b=>(BB op a b).map .p
 | _,_=>none
def tB (ks:List Nat)(neg:Bool)(x y:AV):Option AV:=match x,y with
 | .p (.agg asv),.p (.agg bs)=>if asv.map PV.kind=ks∧bs.map PV.kind=ks∧ks≠[] then(eqs asv bs).map fun t=>pbool (bif neg then !t else t) else none
 | .p (.bool a),.p (.bool b)=>if ks=[] then some (pbool (bif neg then !decide (a=b) else decide (a=b))) else none
 | _,_=>none
def HM (k:Nat)(neg:Bool)(x:AV):Option AV:=bif XG k x then some .anyb else(FM k x).map fun r=>pbool (bif neg then !r else r)
def qQ (x:AV):Option AV:=if uG x then some .ifc else none
def oUn (op:UnOp)(x:AV):Option AV:=match x with
 | .p a=>(aun op a).map .p
 | _=>none
def UD (c:Cv)(x:AV)(h:aA):Option (AV×aA×Esc):=(uF h c x).map fun y=>(y.1,y.2,[])
def PJ (k:IntKind)(x:AV):Option AV:=match x with
 | .p (.int _ n)=>some (.p (.int k (k.wrap n)))
 | _=>none
def rQ (sh:Sh)(z:PV)(len cap:AV)(h:aA):Option (AV×aA×Esc):=match XA len,XA cap with
 | some n,some m=>if n≤m∧m≤JA∧z.shp sh then some (.own h.length n 0 n,h++[.row sh (List.replicate n z) 0],[]) else none
 | _,_=>none
def uD (d:Nat):Option AV→Option Nat
 | none=>some d
 | some x=>XA x
def LM (x:AV)(lo hi:Option AV):Option AV:=match x with
 | .p (.str s)=>match uD 0 lo,uD s.length hi with
  | some l,some r=>if l≤r∧r≤s.length then some (.p (.str (win s l (r-l)))) else none
  | _,_=>none
 | _=>none
def YG (sh:Sh)(x:AV)(lo hi mx:Option AV)(h:aA):Option AV:=match x with
 | .p (.sl sh' xs)=>match uD 0 lo,uD xs.length hi,uD xs.length mx with
  | some l,some r,some m=>if sh'=sh∧l≤r∧r≤m∧m≤xs.length then some (if mx.isSome∧m=l then .sl0 sh else .p (.sl sh (win xs l (r-l)))) else none
  | _,_,_=>none
 | .sl0 sh'=>match uD 0 lo,uD 0 hi,uD 0 mx with
  | some l,some r,some m=>if l=0∧r=0∧m=0 then some (.sl0 sh') else none
  | _,_,_=>none
 | .own id g off len=>match h[id]? with
  | some (.row rsh xs _)=>match uD 0 lo,uD len hi,uD len mx with
   | some l,some r,some m=>if rsh=sh∧g=xs.length∧off+len≤xs.length∧l≤r∧r≤m∧m≤len then some (if mx.isSome∧m=l then .sl0 sh else .own id g (off+l) (r-l)) else none
   | _,_,_=>none
  | _=>none
 | _=>none
def uB (off:Nat)(sh:Sh)(x:AV):Option AV:=match x with
 | .ref id o=>some (.ref id (o+off))
 | .rref id g i o=>some (.rref id g i (o+off))
 | .vp v=>(BA sh off v).map .vp
 | .bt k o id g=>faA k off o id g
 | _=>none
def oQ (off:Nat)(sh:Sh)(x:AV):Option AV:=match x with
 | .p v=>match v with
  | .agg _=>(BA sh off v).map .p
  | _=>none
 | .agg cs=>cut sh off cs
 | _=>none
def gE (sh:Sh)(x i:AV)(h:aA):Option AV:=match x,XA i with
 | .p (.sl sh' xs),some k=>if sh'=sh then(xs[k]?).map .vp else none
 | .own id g off len,some k=>match h[id]? with
  | some (.row rsh xs _)=>if rsh=sh∧g=xs.length∧off+len≤xs.length∧k<len then some (.rref id g (off+k) 0) else none
  | _=>none
 | .bt kk _ id g,some k=>iaA sh kk id g k h
 | _,_=>none
def lI (n:Nat)(sh:Sh)(x i:AV):Option AV:=match x,XA i with
 | .ref id o,some k=>if k<n then some (.ref id (o+k*gA sh)) else none
 | .rref id g j o,some k=>if k<n then some (.rref id g j (o+k*gA sh)) else none
 | .vp v,some k=>if k<n then(BA sh (k*gA sh) v).map .vp else none
 | _,_=>none
def GM (n:Nat)(sh:Sh)(x i:AV):Option AV:=match x,XA i with
 | .p (.agg cs),some k=>if k<n then(BA sh (k*gA sh) (.agg cs)).map .p else none
 | _,_=>none
def QJ (x i:AV):Option AV:=match x,XA i with
 | .p (.str s),some k=>(s[k]?).map fun b=>.p (.int .u8 b.toNat)
 | _,_=>none
def kI (x:AV)(i:Nat):Option AV:=match x with
 | .tup vs=>vs[i]?
 | _=>none
def JF (x:AV):Option AV:=match x with
 | .p (.sl _ xs)=>some (pint xs.length)
 | .sl0 _=>some (pint 0)
 | .own _ _ _ len=>some (pint len)
 | .bt k _ _ g=>lnA k g
 | _=>none
def JM (x:AV):Option AV:=match x with
 | .p (.str s)=>some (pint s.length)
 | _=>none
def jI (sh:Sh)(s x:AV)(h:aA):Option (AV×aA×Esc):=match rds h x with
 | some (sh',ys)=>if sh'=sh then match s with
  | .sl0 _=>if ys.length≤JA then some (.own h.length ys.length 0 ys.length,h++[.row sh ys 0],[]) else none
  | .own id g off len=>match h[id]? with
   | some (.row rsh xs fz)=>if rsh=sh∧g=xs.length∧off=0∧len=xs.length∧len+ys.length≤JA∧fz≤xs.length then some (.own id (g+ys.length) off (len+ys.length),h.set id (.row sh (xs++ys) fz),[])
    else if rsh=sh∧g=xs.length∧off+len+ys.length≤xs.length∧fz≤off+len∧1≤ys.length∧len+ys.length≤JA∧sh=none∧xs.all PV.intP=true∧ys.all PV.intP=true then
     some (.p (.sl sh (win xs off len++ys)),h.set id (.row sh (splice xs (off+len) (List.replicate ys.length .unk)) (off+len+ys.length)),[])
    else none
   | _=>none
  | _=>none
  else none
 | none=>none
def mQ (sh:Sh)(d s:AV)(h:aA):Option (AV×aA×Esc):=match d,rds h s with
 | .own id g off len,some (sh',ys)=>match h[id]? with
  | some (.row rsh xs fz)=>if rsh=sh∧sh'=sh∧g=xs.length∧off+len≤xs.length∧fz≤off then
   some (pint (min ys.length len),h.set id (.row sh (splice xs off (ys.take (min ys.length len))) fz),[])
   else none
  | _=>none
 | _,_=>none
def oClr (sh:Sh)(z:PV)(x:AV)(h:aA):Option (AV×aA×Esc):=match x with
 | .sl0 _=>some (.tup [],h,[])
 | .own id g off len=>match h[id]? with
  | some (.row rsh xs fz)=>if rsh=sh∧g=xs.length∧off+len≤xs.length∧fz≤off then
   some (.tup [],h.set id (.row sh (splice xs off (List.replicate len z)) fz),[])
   else none
  | _=>none
 | _=>none
def oMx (xs:List AV):Option AV:=match xs with
 | .p a::r=>((unp r).bind fun l=>l.foldlM dL a).map .p
 | _=>none
def oMn (xs:List AV):Option AV:=match xs with
 | .p a::r=>((unp r).bind fun l=>l.foldlM eL a).map .p
 | _=>none
def QA (kk:Sh × List Nat)(ok:Bool)(z x k:AV)(h:aA):Option AV:=match aC kk k with
 | some key=>match (match x with | .nilm=>some []|m=>(nB h m).map fun y=>y.2.1) with
  | some es=>match JB key es with
   | some r=>
    let v:=((r.bind (es[·]?)).map ME.val)
    some (bif ok then .tup [v.getD z,pbool v.isSome] else v.getD z)
   | none=>none
  | none=>none
 | none=>none
def UA (kk:Sh × List Nat)(m k x:AV)(h:aA):Option (AV×aA×Esc):=match aC kk k,nB h m,uG x with
 | some key,some (id,es,c),true=>match JB key es with
  | some (some i)=>some (.und,h.set id (.amap (es.modify i fun e=>{ e with val:=x }) c),mB id x)
  | some none=>some (.und,h.set id (.amap (es++[⟨key,x,c⟩]) (c+1)),mB id x)
  | none=>none
 | _,_,_=>none
def pQ (kk:Sh × List Nat)(z m k:AV)(h:aA):Option (AV×aA×Esc):=match aC kk k,nB h m with
 | some key,some (id,es,c)=>match JB key es with
  | some (some i)=>(es[i]?).map fun e=>(.tup [e.val,pint e.born],h,[])
  | some none=>some (.tup [z,pint c],h.set id (.amap (es++[⟨key,z,c⟩]) (c+1)),[])
  | none=>none
 | _,_=>none
def nQ (m s x:AV)(h:aA):Option (AV×aA×Esc):=match nB h m,XA s,uG x with
 | some (id,es,c),some b,true=>match es.findIdx? (fun e=>e.born==b) with
  | some i=>some (.und,h.set id (.amap (es.modify i fun e=>{ e with val:=x }) c),mB id x)
  | none=>none
 | _,_,_=>none
def gC (kk:Sh × List Nat)(m k:AV)(h:aA):Option (AV×aA×Esc):=match aC kk k,nB h m with
 | some key,some (id,es,c)=>match JB key es with
  | some (some i)=>some (.und,h.set id (.amap (es.eraseIdx i) c),[])
  | some none=>some (.und,h,[])
  | none=>none
 | _,_=>none
def IM (x:AV)(h:aA):Option AV:=match x with
 | .nilm=>some (pint 0)
 | .mp id=>(nB h (.mp id)).map fun y=>pint y.2.1.length
 | _=>none
def EE (x:AV)(h:aA):Option (AV×aA×Esc):=match nB h x with
 | some (id,_,c)=>some (.it h.length,h++[.iter (some id) c [] c],[])
 | none=>match x with
  | .nilm=>some (.it h.length,h++[.iter none 0 [] 0],[])
  | _=>none
def DE (i:AV)(h:aA):Option (AV×aA×Esc):=match i with
 | .it id=>match h[id]? with
  | some (.iter (some m) _ seen last)=>match nB h (.mp m),seen.getLast? with
   | some (_,es,c),some b=>if c=last then(es.find? (fun e=>e.born==b)).map fun e=>(.tup [.p e.key,e.val],h,[]) else none
   | _,_=>none
  | _=>none
 | _=>none
def alK (z:List AV)(h:aA)(k:AV→aA→Esc→Prop):Prop:=k (.ref h.length 0) (h++[.box z]) []
def nwK (sh:Sh)(h:aA)(k:AV→aA→Esc→Prop):Prop:=k (.own h.length 0 0 0) (h++[.row sh [] 0]) []
def mmK (h:aA)(k:AV→aA→Esc→Prop):Prop:=k (.mp h.length) (h++[.amap [] 0]) []
def ev3 (ev:Opd→AV):List (Nat×Nat×Opd)→List (Nat×Nat×AV)
 | []=>[]
 | (a,b,x)::r=>(a,b,ev x)::ev3 ev r
def ev2 (ev:Opd→AV):List (Nat×Opd)→List (Nat×AV)
 | []=>[]
 | (a,x)::r=>(a,ev x)::ev2 ev r
def evO (ev:Opd→AV):Option Opd→Option AV
 | none=>none
 | some x=>some (ev x)
def ev1 (ev:Opd→AV):List Opd→List AV
 | []=>[]
 | x::r=>ev x::ev1 ev r
def opN (o:AO)(ev:Opd→AV)(h:aA)(k:AV→aA→Esc→Prop):Prop:=match o with
 | .mv x=>k (ev x) h []
 | .pick c a b=>pK (RJ (ev c) (ev a) (ev b)) fun v=>k v h []
 | .alloc z=>alK z h k
 | .box x=>wK (oBox (ev x) h) k
 | .build z ps=>pK (cC z (ev3 ev ps)) fun v=>k v h []
 | .bsl own sh n z ps=>wK (PC own sh n z (ev2 ev ps) h) k
 | .load sh a=>pK (eB sh (ev a) h) fun v=>k v h []
 | .store sh a x=>wK (oD sh (ev a) (ev x) h) k
 | .nilchk x=>pK (KM (ev x)) fun v=>k v h []
 | .bin op x y=>pK (AA op (ev x) (ev y)) fun v=>k v h []
 | .eqa ks neg x y=>pK (tB ks neg (ev x) (ev y)) fun v=>k v h []
 | .isnil n neg x=>pK (HM n neg (ev x)) fun v=>k v h []
 | .mkif x=>pK (qQ (ev x)) fun v=>k v h []
 | .un op x=>pK (oUn op (ev x)) fun v=>k v h []
 | .conv (.i c) x=>pK (PJ c (ev x)) fun v=>k v h []
 | .mkfn f caps=>k (.fn f (ev1 ev caps)) h []
 | .slice sh x lo hi mx=>pK (YG sh (ev x) (evO ev lo) (evO ev hi) (evO ev mx) h) fun v=>k v h []
 | .slstr x lo hi=>pK (LM (ev x) (evO ev lo) (evO ev hi)) fun v=>k v h []
 | .mksl sh z len cap=>wK (rQ sh z (ev len) (ev cap) h) k
 | .faddr off sh x=>pK (uB off sh (ev x)) fun v=>k v h []
 | .field off sh x=>pK (oQ off sh (ev x)) fun v=>k v h []
 | .iaddr sh x i=>pK (gE sh (ev x) (ev i) h) fun v=>k v h []
 | .iaddra n sh x i=>pK (lI n sh (ev x) (ev i)) fun v=>k v h []
 | .idxa n sh x i=>pK (GM n sh (ev x) (ev i)) fun v=>k v h []
 | .idxs x i=>pK (QJ (ev x) (ev i)) fun v=>k v h []
 | .ext x i=>pK (kI (ev x) i) fun v=>k v h []
 | .len x=>pK (JF (ev x)) fun v=>k v h []
 | .lens x=>pK (JM (ev x)) fun v=>k v h []
 | .app sh s x=>wK (jI sh (ev s) (ev x) h) k
 | .copy sh d s=>wK (mQ sh (ev d) (ev s) h) k
 | .uns m t xs=>wK (RF m t (ev1 ev xs) h) k
 | .clr sh z x=>wK (oClr sh z (ev x) h) k
 | .mx xs=>pK (oMx (ev1 ev xs)) fun v=>k v h []
 | .mn xs=>pK (oMn (ev1 ev xs)) fun v=>k v h []
 | .new0 sh=>nwK sh h k
 | .conv .s2b x=>wK (UD .s2b (ev x) h) k
 | .conv .b2s x=>wK (UD .b2s (ev x) h) k
 | .conv .r2s x=>wK (UD .r2s (ev x) h) k
 | .conv .same x=>wK (UD .same (ev x) h) k
 | .mkmap=>mmK h k
 | .look kk ok z x key=>pK (QA kk ok z (ev x) (ev key) h) fun v=>k v h []
 | .mupd kk m key x=>wK (UA kk (ev m) (ev key) (ev x) h) k
 | .ment kk z m key=>wK (pQ kk z (ev m) (ev key) h) k
 | .estore m s x=>wK (nQ (ev m) (ev s) (ev x) h) k
 | .mdel kk m key=>wK (gC kk (ev m) (ev key) h) k
 | .lenm x=>pK (IM (ev x) h) fun v=>k v h []
 | .mrange x=>wK (EE (ev x) h) k
 | .mentry i=>wK (DE (ev i) h) k
 | .call _ _ | .callv _ _ | .mnext _ _=>False
theorem z6b {o:Option (AV × aA × Esc)}{k:AV→aA→Esc→Prop}:mI o k=wK o k:=rfl
theorem LF {o:Option AV}{h:aA}{k:AV→aA→Esc→Prop}:wK (o.map fun v=>(v,h,[])) k=pK o fun v=>k v h []:=by cases o <;> rfl
theorem z2R (ev:Opd→AV):∀(ps:List (Nat×Nat×Opd)) (z:List AV),mG ev ps z=lM (ev3 ev ps) z
 | [],z=>rfl
 | (off,n,x)::r,z=>by
  simp only[mG,ev3,lM];cases (ev x).cells with
  | none=>rfl
  | some vs=>simp only[z2R ev r]
theorem z2S (ev:Opd→AV)(sh:Sh):∀(ps:List (Nat×Opd)) (h:aA) (z:List PV),nG ev sh ps h z=mM sh (ev2 ev ps) h z
 | [],h,z=>rfl
 | (i,x)::r,h,z=>by
  simp only[nG,ev2,mM];cases pur h (ev x) with
  | none=>rfl
  | some y=>simp only[z2S ev sh r]
theorem z1b (ev:Opd→AV)(d:Nat)(o:Option Opd):bnd ev d o=uD d (evO ev o):=by cases o <;> rfl
theorem zdD (ev:Opd→AV)(o:Option Opd):(evO ev o).isSome=o.isSome:=by cases o <;> rfl
theorem fG (ev:Opd→AV)(l:List Opd):l.map ev=ev1 ev l:=by
 induction l with
 | nil=>rfl
 | cons x r ih=>simp only[List.map_cons,ev1,ih]
theorem z7A (sh:Sh)(ev:Opd→AV)(h:aA)(x:AV)(lo hi mx:Option Opd):asl sh ev h x lo hi mx=YG sh x (evO ev lo) (evO ev hi) (evO ev mx) h:=by
 unfold asl YG;simp only[z1b,zdD];rfl
theorem XK {p:Prop}[Decidable p]{a:AV}{h:aA}{k:AV→aA→Esc→Prop}:wK (if p then some (a,h,[]) else none) k=pK (if p then some a else none) fun v=>k v h []:=by split <;> rfl
theorem tF {α:Type}{o:Option α}{f:α→AV}{h:aA}{k:AV→aA→Esc→Prop}:wK (o.map fun v=>(f v,h,[])) k=pK (o.map f) fun v=>k v h []:=by cases o <;> rfl
theorem oN {α:Type}{p:Prop}[Decidable p]{o:Option α}{f:α→AV}{h:aA}{k:AV→aA→Esc→Prop}:wK (if p then o.map (fun v=>(f v,h,[])) else none) k=pK (if p then o.map f else none) fun v=>k v h []:=by
 split
 ·exact tF
 ·rfl
theorem z4y {o:AO}(hp:o.plain=true){ev:Opd→AV}{h:aA}{k:AV→aA→Esc→Prop}:mI (aop o ev h) k=opN o ev h k:=by
 rw[z6b];cases o <;> first|(cases hp;done)|skip
 case mv=>rfl
 case pick c a b=>
  simp only[aop,opN,RJ];generalize ev c=v;cases v <;> try rfl
  rename_i p;cases p <;> rfl
 case alloc=>rfl
 case box=>rfl
 case build z ps=>simp only[aop,opN];rw[←LF,cC,z2R,Option.map_map];rfl
 case bsl=>simp only[aop,opN,PC,z2S];rfl
 case load sh a=>
  simp only[aop,opN,eB];generalize ev a=v;cases v with
  | ref id off=>dsimp only;cases h[id]? with
   | none=>rfl
   | some o=>cases o <;> first|rfl|exact LF
  | rref id g i off=>dsimp only;cases h[id]? with
   | none=>rfl
   | some o=>cases o <;> first|rfl|exact oN
  | vp v=>exact tF
  | p v=>cases v <;> rfl
  | bt _ _ _ _=>exact LF
  | _=>rfl
 case store=>simp only[aop,opN];rfl
 case nilchk x=>
  simp only[aop,opN,KM];generalize ev x=v;cases v <;> try rfl
  exact LF
 case bin op x y=>
  simp only[aop,opN,AA];generalize ev x=v;generalize ev y=u;cases v <;> try rfl
  cases u <;> try rfl
  exact tF
 case eqa ks neg x y=>
  simp only[aop,opN,tB];generalize ev x=v;generalize ev y=u;cases v <;> try rfl
  rename_i p;cases p <;> try rfl
  all_goals (cases u <;> try rfl)
  all_goals (rename_i q;cases q <;> try rfl)
  ·exact XK
  ·exact oN
 case isnil k neg p=>
  simp only[aop,opN,HM];cases XG k (ev p) with
  | true=>rfl
  | false=>exact tF
 case mkif=>exact XK
 case un op x=>
  simp only[aop,opN,oUn];generalize ev x=v;cases v <;> try rfl
  exact tF
 case conv c x=>
  cases c;case i k'=>
   simp only[aop,opN,PJ,uF];generalize ev x=v;cases v <;> try rfl
   rename_i p;cases p <;> rfl
  all_goals rfl
 case mkfn f caps=>simp only[aop,opN,fG];rfl
 case slice=>simp only[aop,opN,z7A];exact LF
 case slstr x lo hi=>
  simp only[aop,opN,LM,z1b];generalize ev x=v;cases v <;> try rfl
  rename_i p;cases p <;> try rfl
  rename_i s;dsimp only;generalize uD 0 _=o1;generalize uD s.length _=o2;cases o1 <;> try rfl
  cases o2 <;> try rfl
  exact XK
 case mksl=>simp only[aop,opN];rfl
 case faddr off sh x=>
  simp only[aop,opN,uB];generalize ev x=v;cases v <;> try rfl
  ·exact tF
  ·exact LF
 case field off sh x=>
  simp only[aop,opN,oQ];generalize ev x=v;cases v <;> try rfl
  ·rename_i p;cases p <;> try rfl
   exact tF
  ·exact LF
 case iaddr sh x i=>
  simp only[aop,opN,gE];generalize ev x=v;generalize XA (ev i)=n;cases v <;> try rfl
  ·rename_i p;cases p <;> try rfl
   cases n <;> try rfl
   exact oN
  ·cases n <;> try rfl
   rename_i id g off len k;dsimp only;cases h[id]? with
   | none=>rfl
   | some o=>cases o <;> first|rfl|exact XK
  ·cases n <;> try rfl
   exact LF
 case iaddra m sh x i=>
  simp only[aop,opN,lI];generalize ev x=v;generalize XA (ev i)=n;cases v <;> try rfl
  all_goals (cases n <;> try rfl)
  ·exact XK
  ·exact XK
  ·exact oN
 case idxa m sh x i=>
  simp only[aop,opN,GM];generalize ev x=v;generalize XA (ev i)=n;cases v <;> try rfl
  rename_i p;cases p <;> try rfl
  cases n <;> try rfl
  exact oN
 case idxs x i=>
  simp only[aop,opN,QJ];generalize ev x=v;generalize XA (ev i)=n;cases v <;> try rfl
  rename_i p;cases p <;> try rfl
  cases n <;> try rfl
  exact tF
 case ext x i=>
  simp only[aop,opN,kI];generalize ev x=v;cases v <;> try rfl
  exact LF
 case len x=>
  simp only[aop,opN,JF];generalize ev x=v;cases v <;> try rfl
  ·rename_i p;cases p <;> rfl
  ·exact LF
 case lens x=>
  simp only[aop,opN,JM];generalize ev x=v;cases v <;> try rfl
  rename_i p;cases p <;> rfl
 case app=>simp only[aop,opN];rfl
 case copy=>simp only[aop,opN];rfl
 case uns=>simp only[aop,opN,fG,z6b]
 case clr=>simp only[aop,opN];rfl
 case mx xs=>
  simp only[aop,opN,fG,oMx];generalize ev1 ev xs=l;cases l <;> try rfl
  rename_i v r;cases v <;> try rfl
  exact tF
 case mn xs=>
  simp only[aop,opN,fG,oMn];generalize ev1 ev xs=l;cases l <;> try rfl
  rename_i v r;cases v <;> try rfl
  exact tF
 case new0=>rfl
 case look kk ok z x key=>
  simp only[aop,opN,QA];cases aC kk (ev key) <;> try rfl
  rename_i kk;generalize ev x=v;cases v <;> try rfl
  rename_i id;dsimp only;cases nB h (.mp id) <;> try rfl
  rename_i y;dsimp only[Option.map_some];cases JB kk y.2.1 <;> rfl
 case lenm x=>
  simp only[aop,opN,IM];generalize ev x=v;cases v <;> try rfl
  exact tF
 all_goals rfl
end Go.Am
end
section
/- The abstract machine,part 30: the meaning of code in the new spelling,and that it is the old one. -/
set_option linter.unusedSimpArgs false
set_option linter.unusedVariables false
namespace Go.Am
def gV (v:AV)(b:Bool)(h:aA)(A:(AV→aA→Esc→Prop)→Prop)(k:AV→aA→Esc→Prop):Prop:=XD v b (A k) (k .skp h [])
def gP (v:AV)(b:Bool)(o:Option AV)(h:aA)(k:AV→aA→Esc→Prop):Prop:=gV v b h (fun k=>pK o fun u=>k u h []) k
def gM (v:AV)(b:Bool)(u:AV)(h:aA)(k:AV→aA→Esc→Prop):Prop:=gV v b h (fun k=>k u h []) k
def upB (b:Bool):Bool:=(fun(_:AV→Bool→Option AV→aA→(AV→aA→Esc→Prop)→Prop)=>b) gP
def gK (g:Option (Nat × Bool))(e:List (Nat × AV))(h:aA)(A:(AV→aA→Esc→Prop)→Prop)(k:AV→aA→Esc→Prop):Prop:=match g with
 | none=>A k
 | some (t,b)=>gV (eA e t) b h A k
def opC (C:Hd)(o:AO)(ev:Opd→AV)(h:aA)(k:AV→aA→Esc→Prop):Prop:=match o with
 | .call f args=>C f (ev1 ev args) h k
 | .callv f args=>HG C (ev f) (ev1 ev args) h k
 | .mnext sh xs=>match yH h sh (ev1 ev xs) with
  | some l=>l≠[]∧∀y∈l,k y.1 y.2 []
  | none=>False
 | o=>opN o ev h k
def sE (C:Hd)(gl:Nat→Option PV):List AOp→List (Nat×AV)→aA→Esc→(List (Nat×AV)→aA→Esc→Prop)→Prop
 | [],e,h,x,L=>L e h x
 | o::r,e,h,x,L=>gK o.guard e h (opC C o.op (Opd.ev gl e) h) fun v h' x'=>sE C gl r (put o.dst v e) h' (x'++x) L
variable {C:Hd} {gl:Nat→Option PV}
theorem z4w {o:AO}{d:Option Nat}{r:List AOp}{e:List (Nat × AV)}{h:aA}{x:Esc}{L:List (Nat × AV)→aA→Esc→Prop} :
 DA C gl (⟨d,none,o⟩::r) e h x L=opC C o (Opd.ev gl e) h (OI C gl r d e x L):=by
 cases hp:o.plain with
 | true=>
  rw[z6t hp,z4y hp];cases o <;> first|rfl|cases hp
 | false=>
  cases o <;> first|(cases hp;done)|skip
  all_goals first
   | (rw[z0o,fG];rfl)
   | (rw[z0p,fG];rfl)
   | (unfold DA opC;simp only[wanted,fG];rfl)
theorem z00:∀ (ops:List AOp) (e:List (Nat × AV)) (h:aA) (x:Esc) (L:List (Nat × AV)→aA→Esc→Prop),DA C gl ops e h x L=sE C gl ops e h x L
 | [],e,h,x,L=>rfl
 | ⟨d,g,o⟩::r,e,h,x,L=>by
  have ih:(fun(v:AV) (h':aA) (x':Esc)=>sE C gl r (put d v e) h' (x'++x) L)=OI C gl r d e x L:=by
   funext v h' x';rw[←z00 r];rfl
  show _=gK g e h (opC C o (Opd.ev gl e) h) fun v h' x'=>sE C gl r (put d v e) h' (x'++x) L
  rw[ih];cases g with
  | none=>exact z4w
  | some tb=>
   obtain⟨t,b⟩:=tb;rw[z0r,z4w];rfl
def opE (C:Hd)(o:AO)(ev:Opd→AV)(h:aA)(k:AV→aA→Esc→Prop):Prop:=match o with
 | .call f args=>wE C f (ev1 ev args) h k
 | .callv f args=>GG C (ev f) (ev1 ev args) h k
 | .mnext _ _=>False
 | o=>opN o ev h k
def NG (still eff:Bool)(h h':aA)(y:Esc)(Q:Prop):Prop:=match upB eff with
 | true=>Q
 | false=>match still with
  | true=>Q
  | false=>(h'=h∧y=[])∧Q
def tI (C:Hd)(gl:Nat→Option PV)(q:AOp × List (Nat × AV) × AV)(g:aA):Prop:=
 gK q.1.guard q.2.1 g (opE C q.1.op (Opd.ev gl q.2.1) g) fun v1 h1 x1=>v1=q.2.2∧h1=g∧x1=[]
def aE (C:Hd)(gl:Nat→Option PV)(h:aA)(dn:AC)(Q:Prop):List Nat→Prop
 | []=>Q
 | j::r=>(match dn[j]? with|some q=>tI C gl q h|none=>False)∧aE C gl h dn Q r
def eE (C:Hd)(gl:Nat→Option PV)(o:AOp)(e:List (Nat × AV))(v:AV)(hs:List aA)(Q:Prop):List Nat→Prop
 | []=>Q
 | k::r=>(match hs[k]? with|some g=>tI C gl (o,e,v) g|none=>False)∧eE C gl o e v hs Q r
def ZD (C:Hd)(gl:Nat→Option PV):List DOp→AC→List aA→List (Nat×AV)→aA→Esc→(List (Nat×AV)→aA→Esc→Prop)→Prop
 | [],_,_,e,h,x,L=>L e h x
 | o::r,dn,hs,e,h,x,L=>gK o.op.guard (uA (some o.rd) e) h (opE C o.op.op (Opd.ev gl (uA (some o.rd) e)) h) fun v h' y=>
  NG o.op.op.still o.eff h h' y (eE C gl o.op (uA (some o.rd) e) v hs (aE C gl h' dn (ZD C gl r (dn++[(o.op,uA (some o.rd) e,v)]) (hs++[h]) (put o.op.dst v e) h' (y++x) L) o.again) o.early)
theorem z4x {o:AO}{d:Option Nat}{e:List (Nat × AV)}{h:aA}{R:AV→aA→Esc→Prop}:doK C gl ⟨d,none,o⟩ e h R=opE C o (Opd.ev gl e) h R:=by
 cases hp:o.plain with
 | true=>
  rw[zai hp,z4y hp];cases o <;> first|rfl|cases hp
 | false=>
  cases o <;> first|(cases hp;done)|skip
  all_goals first
   | (rw[z1S,fG];rfl)
   | (rw[z1T,fG];rfl)
   | (unfold doK ADo opE;simp [wanted])
theorem z3u {o:AOp}{e:List (Nat × AV)}{h:aA}{R:AV→aA→Esc→Prop}:doK C gl o e h R=gK o.guard e h (opE C o.op (Opd.ev gl e) h) R:=by
 obtain⟨d,g,op⟩:=o;cases g with
 | none=>exact z4x
 | some tb=>
  obtain⟨t,b⟩:=tb;rw[z1U,z4x];rfl
theorem z50 {q:AOp × List (Nat × AV) × AV}{g:aA}:doS C gl q g=tI C gl q g:=by
 obtain⟨⟨d,gd,op⟩,e,v⟩:=q;rw[z1V,z3u];rfl
theorem z0I {h:aA}{dn:AC}{Q:Prop}:∀{l:List Nat},aE C gl h dn Q l=(agK C gl h dn l∧Q)
 | []=>by simp [aE,agK]
 | j::r=>by
  unfold aE agK;rw[z0I (l:=r)];cases dn[j]? with
  | none=>simp
  | some q=>simp only[z50,and_assoc]
theorem z2a {o:AOp}{e:List (Nat × AV)}{v:AV}{hs:List aA}{Q:Prop}:∀{l:List Nat},eE C gl o e v hs Q l=(eaK C gl o e v hs l∧Q)
 | []=>by simp [eE,eaK]
 | j::r=>by
  unfold eE eaK;rw[z2a (l:=r)];cases hs[j]? with
  | none=>simp
  | some q=>simp only[z50,and_assoc]
theorem zaj {o:AOp}(hs:o.op.still=true){e:List (Nat × AV)}{h:aA}{R:AV→aA→Esc→Prop}:doK C gl o e h (fun v h' y=>(h'=h∧y=[])∧R v h' y)=doK C gl o e h R:=by
 unfold doK;refine propext ⟨fun⟨v,h',y,H,_,r⟩=>⟨v,h',y,H,r⟩,fun⟨v,h',y,H,r⟩=>⟨v,h',y,H,z6q hs H,r⟩⟩
theorem z0z:∀ (ds:List DOp) (dn:AC) (hs:List aA) (e:List (Nat × AV)) (h:aA) (x:Esc) (L:List (Nat × AV)→aA→Esc→Prop),TC C gl ds dn hs e h x L=ZD C gl ds dn hs e h x L
 | [],dn,hs,e,h,x,L=>rfl
 | ⟨o,rd,eff,early,again⟩::r,dn,hs,e,h,x,L=>by
  rw[z0k];show _=gK o.guard (uA (some rd) e) h (opE C o.op (Opd.ev gl (uA (some rd) e)) h) fun v h' y=>
   NG o.op.still eff h h' y (eE C gl o (uA (some rd) e) v hs (aE C gl h' dn (ZD C gl r (dn++[(o,uA (some rd) e,v)]) (hs++[h]) (put o.dst v e) h' (y++x) L) again) early)
  rw[←z3u];have e1:GP C gl ⟨o,rd,eff,early,again⟩ r dn hs e h x L=fun v h' y=>(effK eff h h' y∧eE C gl o (uA (some rd) e) v hs (aE C gl h' dn (ZD C gl r (dn++[(o,uA (some rd) e,v)]) (hs++[h]) (put o.dst v e) h' (y++x) L) again) early):=by
   funext v h' y
   rw[z1X,z2a,z0I,←z0z r]
  rw[e1];cases eff with
  | true=>
   congr 1;funext v h' y
   simp [effK,NG,upB]
  | false=>
   cases hs':o.op.still with
   | true=>
    have:=zaj (C:=C) (gl:=gl) (o:=o) hs' (e:=uA (some rd) e) (h:=h) (R:=fun v h' y=>eE C gl o (uA (some rd) e) v hs (aE C gl h' dn (ZD C gl r (dn++[(o,uA (some rd) e,v)]) (hs++[h]) (put o.dst v e) h' (y++x) L) again) early)
    exact this
   | false=>rfl
def NW (C:Hd)(gl:Nat→Option PV):ACode→St→(Ex→St→Prop)→Prop
 | .skip,s,K=>K .normal s
 | .reg ops keep,s,K=>sE C gl ops s.env s.h s.esc fun e h x=>K .normal ⟨uA keep e,h,x⟩
 | .draw ds keep,s,K=>ZD C gl ds [] [] s.env s.h s.esc fun e h x=>K .normal ⟨uA keep e,h,x⟩
 | .seq a b,s,K=>NW C gl a s fun e s'=>match e with
  | .normal=>NW C gl b s' K
  | .exit i=>K (.exit i) s'
  | .ret=>K .ret s'
 | .cond c a b,s,K=>CC (Opd.ev gl s.env c) (NW C gl a s K) (NW C gl b s K)
 | .condu c a b,s,K=>sU (Opd.ev gl s.env c) (NW C gl a s K) (NW C gl b s K)
 | .det b,s,K=>NW C gl b s K
 | .block id b,s,K=>NW C gl b s fun e s'=>match e with
  | .normal=>K .normal s'
  | .exit i=>bif Nat.beq i id then K .normal s' else K (.exit i) s'
  | .ret=>K .ret s'
 | .loop b,s,K=>ALoop (NW C gl b) K s
 | .scope b,s,K=>NW C gl b ⟨s.env,s.h,[]⟩ fun e s'=>K e (eD s.h.length s.esc s')
 | .pr l b,s,K=>NW C gl b ⟨uA (some l) s.env,s.h,s.esc⟩ K
 | .exit id,s,K=>K (.exit id) s
 | .ret,s,K=>K .ret s
 | .bad,_,_=>False
theorem jD:∀ (c:ACode) (s:St) (K:Ex→St→Prop),AW C gl c s K=NW C gl c s K
 | .skip,s,K=>rfl
 | .reg ops keep,s,K=>z00 _ _ _ _ _
 | .draw ds keep,s,K=>z0z _ _ _ _ _ _ _
 | .seq a b,s,K=>by
  unfold AW NW;rw[jD a];congr 1;funext e s'
  cases e with
  | normal=>exact jD b s' K
  | _=>rfl
 | .cond c a b,s,K=>by
  unfold AW NW CC;rw[←jD a,←jD b];rfl
 | .condu c a b,s,K=>by
  unfold AW NW sU;rw[←jD a,←jD b];rfl
 | .det b,s,K=>jD b s K
 | .block id b,s,K=>by
  unfold AW NW;rw[jD b];congr 1;funext e s'
  cases e with
  | exit i=>
   dsimp only;by_cases hi:i=id
   ·subst hi;simp
   ·rw[if_neg hi]
    have:Nat.beq i id=false:=by cases h:Nat.beq i id with|false=>rfl|true=>exact absurd (Nat.eq_of_beq_eq_true h) hi
    rw[this];rfl
  | _=>rfl
 | .loop b,s,K=>by
  show ALoop (AW C gl b) K s=ALoop (NW C gl b) K s
  rw[show AW C gl b=NW C gl b from funext fun s=>funext fun K=>jD b s K]
 | .scope b,s,K=>jD b _ _
 | .pr l b,s,K=>jD b _ _
 | .exit id,s,K=>rfl
 | .ret,s,K=>rfl
 | .bad,s,K=>rfl
end Go.Am
end
section
/- The abstract machine,part 31: words in which a function's code is printed,and the rules of computing FE them. -/
set_option linter.unusedSimpArgs false
set_option linter.unusedVariables false
namespace Go.Am
variable {C:Hd} {gl:Nat→Option PV} {e:List (Nat × AV)} {h:aA} {x:Esc} {K:Ex→St→Prop} {s:St}
abbrev AI (n:Int):AV:=.p (.int .i64 n)
abbrev AB (b:Bool):AV:=.p (.bool b)
def ID (C:Hd)(gl:Nat→Option PV)(b:ACode)(K:Ex→St→Prop)(e:Ex)(s:St):Prop:=match e with
 | .normal=>NW C gl b s K
 | .exit i=>K (.exit i) s
 | .ret=>K .ret s
def sC (id:Nat)(K:Ex→St→Prop)(e:Ex)(s:St):Prop:=match e with
 | .normal=>K .normal s
 | .exit i=>bif Nat.beq i id then K .normal s else K (.exit i) s
 | .ret=>K .ret s
def nqK (sh:Option Sh)(l:List AV)(h:aA)(k:AV→aA→Esc→Prop):Prop:=match yH h sh l with
 | some l=>l≠[]∧∀y∈l,k y.1 y.2 []
 | none=>False
def nxK (i:AV)(h:aA)(k:AV→aA→Esc→Prop):Prop:=match gQ h i with
 | some l=>l≠[]∧∀y∈l,k y.1 y.2 []
 | none=>False
def gv (gl:Nat→Option PV)(n:Nat):AV:=match gl n with|some v=>.vp v|none=>.und
theorem z56 {b:ACode}:ID C gl b K .normal s=NW C gl b s K:=(rfl)
theorem z55 {b:ACode}{i:Nat}:ID C gl b K (.exit i) s=K (.exit i) s:=(rfl)
theorem z57 {b:ACode}:ID C gl b K .ret s=K .ret s:=(rfl)
theorem z0Y {i:Nat}:sC i K .normal s=K .normal s:=(rfl)
theorem z1a {i:Nat}:sC i K (.exit i) s=K .normal s:=by simp [sC]
theorem z7X {i j:Nat}:sC i K (.exit j) s=bif Nat.beq j i then K .normal s else K (.exit j) s:=(rfl)
theorem z0Z {i:Nat}:sC i K .ret s=K .ret s:=(rfl)
theorem z7W {i:Nat}{ex ex':Ex}{s s':St}(he:ex=ex')(hs:s=s'):sC i K ex s=sC i K ex' s':=by rw[he,hs]
theorem z01 {b:ACode}:NW C gl (.scope b) ⟨e,h,x⟩ K=NW C gl b ⟨e,h,[]⟩ (PZ h.length x K):=(rfl)
theorem z67 {c:ACode}{s s':St}(hs:s=s'):NW C gl c s K=NW C gl c s' K:=by rw[hs]
def MA (C:Hd)(gl:Nat→Option PV)(b:ACode)(K:Ex→St→Prop)(e:List (Nat × AV))(h:aA)(x:Esc):Prop:=ALoop (NW C gl b) K ⟨e,h,x⟩
theorem FB {l:List Nat}{b:ACode}:NW C gl (.loop (.pr l b)) ⟨e,h,x⟩ K=MA C gl (.pr l b) K (uA (some l) e) h x:=by
 show ALoop _ _ _=ALoop _ _ _
 exact z0n (funext fun R=>by show NW C gl b _ R=NW C gl b _ R;dsimp only;rw[z48])
theorem MD {l:List Nat}{b:ACode}:NW C gl (.loop (.scope (.pr l b))) ⟨e,h,x⟩ K=MA C gl (.scope (.pr l b)) K (uA (some l) e) h x:=by
 show ALoop _ _ _=ALoop _ _ _
 exact z0n (funext fun R=>by show NW C gl b _ _=NW C gl b _ _;dsimp only;rw[z48])
theorem z66 {b:ACode}{e e':List (Nat × AV)}{h h':aA}{x x':Esc}(h1:e=e')(h2:h=h')(h3:x=x'):MA C gl b K e h x=MA C gl b K e' h' x':=by rw[h1,h2,h3]
theorem SA {σ:Type}{b:ACode}(S:σ→St)(P:σ→Prop)(m:σ→Nat)(t0:σ)(hs:(⟨e,h,x⟩:St)=S t0)(h0:P t0)(hr:∀ t,P t→NW C gl b (S t) (yM S P m K t)):MA C gl b K e h x:=by
 show ALoop (NW C gl b) K _
 rw[hs];have key:∀n t,m t<n→P t→ALoop (NW C gl b) K (S t):=by
  intro n;induction n with
  | zero=>intro t h;omega
  | succ n ih=>
   intro t hm hp;refine .mk _ _ (hr t hp) (fun s' h'=>?_) (fun i s' h'=>h') (fun s' h'=>h')
   obtain⟨u,rfl,hu,hlt⟩:=h';exact ih u (by omega) hu
 exact key _ t0 (Nat.lt_succ_self _) h0
theorem oA {X:Ctx}{f:Nat}{F:AFun}{a asv:List AV}{h h1:aA}{P:jA}(hf:X.fn f=some F)(hr:F.byref=false)(hp:lA h a=some (asv,h1))(hl:asv.length=F.nparams)(hd:F.isDet=false:=by rfl)(hO:OC F.results=false:=by rfl) :
 bA X f a h P=NW (bA X) X.gl F.body ⟨enter asv,h1,[]⟩ (mA F.results F.keep h.length P):=by
 rw[zjE hf hr hp hl hd hO,jD]
theorem ZT {X:Ctx}{f:Nat}{F:AFun}{a asv:List AV}{h h1:aA}{P:jA}(hf:X.fn f=some F)(hr:F.byref=false)(hp:lA h a=some (asv,h1))(hl:asv.length=F.nparams)(hd:F.isDet=true:=by rfl)(hO:OC F.results=false:=by rfl) :
 bA X f a h P = ∃v h' x,P v h' x∧NW (bA X) X.gl F.body ⟨enter asv,h1,[]⟩ (mA F.results F.keep h.length fun v1 h1 x1=>v1=v∧h1=h'∧x1=x):=by
 rw[zjG hf hr hp hl hd hO];simp only[jD]
theorem YE {X:Ctx}{f:Nat}{F:AFun}{asv:List AV}{h:aA}{P:jA}(hf:X.fn f=some F)(hr:F.byref=true)(hl:asv.length=F.nparams)(hd:F.isDet=false:=by rfl)(hO:OC F.results=false:=by rfl) :
 bA X f asv h P=NW (bA X) X.gl F.body ⟨enter asv,h,[]⟩ (mA F.results F.keep h.length P):=by
 rw[zjC hf hr hl hd hO,jD]
theorem z1m {X:Ctx}{f:Nat}{F:AFun}{a asv:List AV}{h h1:aA}{P:jA}(hf:X.fn f=some F)(hr:F.byref=false)(hp:lA h a=some (asv,h1))(hl:asv.length=F.nparams)(hd:F.isDet=false:=by rfl)(hO:OC F.results=true:=by rfl) :
 bA X f a h P=NW (bA X) X.gl F.body ⟨enter asv,h1,[]⟩ (oM F.results h.length P):=by
 rw[zjF hf hr hp hl hd hO,jD]
theorem z1n {X:Ctx}{f:Nat}{F:AFun}{a asv:List AV}{h h1:aA}{P:jA}(hf:X.fn f=some F)(hr:F.byref=false)(hp:lA h a=some (asv,h1))(hl:asv.length=F.nparams)(hd:F.isDet=true:=by rfl)(hO:OC F.results=true:=by rfl) :
 bA X f a h P = ∃v h' x,P v h' x∧NW (bA X) X.gl F.body ⟨enter asv,h1,[]⟩ (oM F.results h.length fun v1 h1 x1=>v1=v∧h1=h'∧x1=x):=by
 rw[zjH hf hr hp hl hd hO];simp only[jD]
theorem z45 {v:AV}{k:AV→Prop}:pK (some v) k=k v:=(rfl)
theorem z44 {k:AV→Prop}:pK none k=False:=(rfl)
theorem z6c {v:AV}{h:aA}{x:Esc}{k:AV→aA→Esc→Prop}:wK (some (v,h,x)) k=k v h x:=(rfl)
theorem z6a {k:AV→aA→Esc→Prop}:wK none k=False:=(rfl)
theorem zg2 {p:Prop}[Decidable p]{a b:Option AV}{k:AV→Prop}:pK (if p then a else b) k=if p then pK a k else pK b k:=by split <;> rfl
theorem zk3 {p:Prop}[Decidable p]{a b:Option (AV × aA × Esc)}{k:AV→aA→Esc→Prop}:wK (if p then a else b) k=if p then wK a k else wK b k:=by split <;> rfl
theorem zg1 {o o':Option AV}{k:AV→Prop}(h:o=o'):pK o k=pK o' k:=by rw[h]
theorem zk2 {o o':Option (AV × aA × Esc)}{k:AV→aA→Esc→Prop}(h:o=o'):wK o k=wK o' k:=by rw[h]
theorem zeq {v v':AV}{b:Bool}{h:aA}{A:(AV→aA→Esc→Prop)→Prop}{k:AV→aA→Esc→Prop}(h1:v=v'):gV v b h A k=gV v' b h A k:=by rw[h1]
theorem zeo {v v':AV}{b:Bool}{o:Option AV}{h:aA}{k:AV→aA→Esc→Prop}(h1:v=v'):gP v b o h k=gP v' b o h k:=by rw[h1]
theorem zem {v v':AV}{b:Bool}{u:AV}{h:aA}{k:AV→aA→Esc→Prop}(h1:v=v'):gM v b u h k=gM v' b u h k:=by rw[h1]
section
variable {A:(AV→aA→Esc→Prop)→Prop} {o:Option AV} {u:AV} {k:AV→aA→Esc→Prop} {t b:Bool}
theorem z39:gV (.p (.bool true)) true h A k=A k:=(rfl)
theorem z35:gV (.p (.bool false)) false h A k=A k:=(rfl)
theorem z38:gV (.p (.bool true)) false h A k=k .skp h []:=(rfl)
theorem z36:gV (.p (.bool false)) true h A k=k .skp h []:=(rfl)
theorem z37:gV .skp b h A k=k .skp h []:=(rfl)
theorem zep:gV (.p (.bool t)) b h A k=XD (.p (.bool t)) b (A k) (k .skp h []):=(rfl)
theorem z34:gP (.p (.bool true)) true o h k=pK o fun v=>k v h []:=(rfl)
theorem z30:gP (.p (.bool false)) false o h k=pK o fun v=>k v h []:=(rfl)
theorem z33:gP (.p (.bool true)) false o h k=k .skp h []:=(rfl)
theorem z31:gP (.p (.bool false)) true o h k=k .skp h []:=(rfl)
theorem z32:gP .skp b o h k=k .skp h []:=(rfl)
theorem zen:gP (.p (.bool t)) b o h k=XD (.p (.bool t)) b (pK o fun v=>k v h []) (k .skp h []):=(rfl)
theorem z3z:gM (.p (.bool true)) true u h k=k u h []:=(rfl)
theorem z3v:gM (.p (.bool false)) false u h k=k u h []:=(rfl)
theorem z3y:gM (.p (.bool true)) false u h k=k .skp h []:=(rfl)
theorem z3w:gM (.p (.bool false)) true u h k=k .skp h []:=(rfl)
theorem z3x:gM .skp b u h k=k .skp h []:=(rfl)
theorem zel:gM (.p (.bool t)) b u h k=XD (.p (.bool t)) b (k u h []) (k .skp h []):=(rfl)
end
section
variable {k k':IntKind} {a b:Int} {sa sb:List UInt8}
theorem z7K:AA .add (.p (.int k a)) (.p (.int k b))=some (.p (.int k (k.wrap (a+b)))):=by simp [AA,BB,mD]
theorem z7V:AA .sub (.p (.int k a)) (.p (.int k b))=some (.p (.int k (k.wrap (a-b)))):=by simp [AA,BB,mD]
theorem z7Q:AA .mul (.p (.int k a)) (.p (.int k b))=some (.p (.int k (k.wrap (a*b)))):=by simp [AA,BB,mD]
theorem z7T:AA .quo (.p (.int k a)) (.p (.int k b))=if b=0 then none else some (.p (.int k (k.wrap (a.tdiv b)))):=by simp [AA,BB,mD] <;> split <;> rfl
theorem z7U:AA .rem (.p (.int k a)) (.p (.int k b))=if b=0 then none else some (.p (.int k (a.tmod b))):=by simp [AA,BB,mD] <;> split <;> rfl
theorem z7L:AA .eql (.p (.int k a)) (.p (.int k b))=some (.p (.bool (decide (a=b)))):=by simp [AA,BB,mD]
theorem z7R:AA .neq (.p (.int k a)) (.p (.int k b))=some (.p (.bool (!decide (a=b)))):=by simp [AA,BB,mD]
theorem z7P:AA .lss (.p (.int k a)) (.p (.int k b))=some (.p (.bool (decide (a<b)))):=by simp [AA,BB,mD]
theorem z7O:AA .leq (.p (.int k a)) (.p (.int k b))=some (.p (.bool (decide (a≤b)))):=by simp [AA,BB,mD]
theorem z7N:AA .gtr (.p (.int k a)) (.p (.int k b))=some (.p (.bool (decide (b<a)))):=by simp [AA,BB,mD]
theorem z7M:AA .geq (.p (.int k a)) (.p (.int k b))=some (.p (.bool (decide (b≤a)))):=by simp [AA,BB,mD]
theorem zjO:AA .add (.p (.str sa)) (.p (.str sb))=if sa.length+sb.length≤AM then some (.p (.str (sa++sb))) else none:=by simp [AA,BB,rH] <;> split <;> rfl
theorem zjP:AA .eql (.p (.str sa)) (.p (.str sb))=some (.p (.bool (decide (sa=sb)))):=by simp [AA,BB,rH]
theorem zjR:AA .neq (.p (.str sa)) (.p (.str sb))=some (.p (.bool (!decide (sa=sb)))):=by simp [AA,BB,rH]
theorem zkr:oUn .neg (.p (.int k a))=some (.p (.int k (k.wrap (-a)))):=by simp [oUn,aun]
theorem zks {t:Bool}:oUn .not (.p (.bool t))=some (.p (.bool !t)):=(rfl)
theorem convI {k':IntKind}:PJ k (.p (.int k' a))=some (.p (.int k (k.wrap a))):=(rfl)
theorem zgr {i j:Nat}:KM (.ref i j)=some (.ref i j):=(rfl)
theorem zhP {t:Bool}{u v:AV}:RJ (.p (.bool t)) u v=some (bif t then u else v):=(rfl)
theorem zfI {sh:Sh}{xs:List PV}:JF (.p (.sl sh xs))=some (.p (.int .i64 xs.length)):=(rfl)
theorem zfH {i g o l:Nat}:JF (.own i g o l)=some (.p (.int .i64 l)):=(rfl)
theorem zfL:JM (.p (.str sa))=some (.p (.int .i64 sa.length)):=(rfl)
theorem ext_t {vs:List AV}{i:Nat}:kI (.tup vs) i=vs[i]?:=(rfl)
theorem zdQ {off i j:Nat}{sh:Sh}:uB off sh (.ref i j)=some (.ref i (j+off)):=(rfl)
theorem zdR {off i j m n:Nat}{sh:Sh}:uB off sh (.rref i j m n)=some (.rref i j m (n+off)):=(rfl)
theorem zdS {off:Nat}{sh:Sh}{v:PV}:uB off sh (.vp v)=(BA sh off v).map .vp:=(rfl)
def ldB (sh:Sh)(off:Nat):Option Obj→Option AV
 | some (.box cs)=>cut sh off cs
 | _=>none
def ldR (sh:Sh)(g i off:Nat):Option Obj→Option AV
 | some (.row _ xs _)=>if g=xs.length then((xs[i]?).bind (BA sh off)).map .p else none
 | _=>none
theorem zfQ {sh:Sh}{i j:Nat}:eB sh (.ref i j) h=ldB sh j h[i]?:=by unfold eB ldB;rfl
theorem z3Y {sh:Sh}{i g m n:Nat}:eB sh (.rref i g m n) h=ldR sh g m n h[i]?:=by unfold eB ldR;rfl
theorem z3Z {sh:Sh}{v:PV}:eB sh (.vp v) h=(BA sh 0 v).map .p:=(rfl)
theorem zfD {sh:Sh}{off:Nat}{cs:List AV}:ldB sh off (some (.box cs))=cut sh off cs:=(rfl)
theorem z3T {sh sh':Sh}{g i off fz:Nat}{xs:List PV}:ldR sh g i off (some (.row sh' xs fz))=if g=xs.length then((xs[i]?).bind (BA sh off)).map .p else none:=(rfl)
def stB (sh:Sh)(id off:Nat)(v:AV)(h:aA):Option Obj→Option (List AV)→Option (AV×aA×Esc)
 | some (.box cs),some vs=>if vs.length=gA sh∧off+vs.length≤cs.length then some (.und,h.set id (.box (splice cs off vs)),OG id cs v) else none
 | _,_=>none
theorem zjM {sh:Sh}{i j:Nat}{v:AV}:oD sh (.ref i j) v h=stB sh i j v h h[i]? v.cells:=by unfold oD stB;rfl
theorem zj6 {sh:Sh}{id off:Nat}{v:AV}{cs vs:List AV}:stB sh id off v h (some (.box cs)) (some vs)=if vs.length=gA sh∧off+vs.length≤cs.length then some (.und,h.set id (.box (splice cs off vs)),OG id cs v) else none:=(rfl)
theorem zdA {id:Nat}{cs:List AV}{v:AV}(h:aI cs=false):OG id cs v=mB id v:=by
 unfold OG;rw[h];rfl
theorem zeS {a:AV}{v:PV}:aI [a,.p v]=false:=(rfl)
theorem zeQ {a:AV}:aI [a]=false:=(rfl)
theorem zeR {a b c:AV}{l:List AV}:aI (a::b::c::l)=false:=by unfold aI;split <;> first|rfl|(rename_i h;simp at h)
def stE (sh:Sh)(id i off fz:Nat)(rsh:Sh)(xs:List PV)(v:PV)(h1:aA):Option PV→Option (AV×aA×Esc)
 | some (.agg cs)=>if off+v.cells.length≤cs.length then some (.und,h1.set id (.row rsh (xs.set i (.agg (splice cs off v.cells))) fz),[]) else none
 | some _=>if off=0∧v.sc then some (.und,h1.set id (.row rsh (xs.set i v) fz),[]) else none
 | none=>none
def stO (sh:Sh)(id g i off:Nat)(v:PV)(h1:aA):Option Obj→Option (AV×aA×Esc)
 | some (.row rsh xs fz)=>if g=xs.length∧fz≤i∧v.cells.length=gA sh∧v.cells.all PV.sc then stE sh id i off fz rsh xs v h1 xs[i]? else none
 | _=>none
def stR (sh:Sh)(id g i off:Nat):Option (PV×aA)→Option (AV×aA×Esc)
 | some y=>stO sh id g i off y.1 y.2 y.2[id]?
 | none=>none
theorem zjN {sh:Sh}{id g i off:Nat}{x:AV}:oD sh (.rref id g i off) x h=stR sh id g i off (pur h x):=by
 unfold oD stR;cases pur h x with
 | none=>rfl
 | some y=>
  obtain⟨v,h1⟩:=y;dsimp only;unfold stO;cases h1[id]? with
  | none=>rfl
  | some o=>cases o <;> rfl
theorem zjA {sh:Sh}{id g i off:Nat}{v:PV}{h1:aA}:stR sh id g i off (some (v,h1))=stO sh id g i off v h1 h1[id]?:=(rfl)
theorem zj9 {sh rsh:Sh}{id g i off fz:Nat}{v:PV}{h1:aA}{xs:List PV}:stO sh id g i off v h1 (some (.row rsh xs fz))=if g=xs.length∧fz≤i∧v.cells.length=gA sh∧v.cells.all PV.sc then stE sh id i off fz rsh xs v h1 xs[i]? else none:=(rfl)
theorem zj7 {sh rsh:Sh}{id i off fz:Nat}{v:PV}{h1:aA}{xs cs:List PV}:stE sh id i off fz rsh xs v h1 (some (.agg cs))=if off+v.cells.length≤cs.length then some (.und,h1.set id (.row rsh (xs.set i (.agg (splice cs off v.cells))) fz),[]) else none:=(rfl)
theorem zj8 {sh rsh:Sh}{id i off fz:Nat}{v:PV}{h1:aA}{xs:List PV}{t:Bool}:stE sh id i off fz rsh xs v h1 (some (.bool t))=if off=0∧v.sc then some (.und,h1.set id (.row rsh (xs.set i v) fz),[]) else none:=(rfl)
def iaS (xs:List PV):Option Nat→Option AV
 | some k=>(xs[k]?).map .vp
 | none=>none
theorem zeB {sh:Sh}{xs:List PV}{i:AV}:gE sh (.p (.sl sh xs)) i h=iaS xs (XA i):=by
 unfold gE iaS;cases XA i <;> simp
theorem ze8 {xs:List PV}{n:Nat}:iaS xs (some n)=(xs[n]?).map .vp:=(rfl)
def iaO (sh:Sh)(id g off len:Nat):Option Obj→Option Nat→Option AV
 | some (.row rsh xs _),some k=>if rsh=sh∧g=xs.length∧off+len≤xs.length∧k<len then some (.rref id g (off+k) 0) else none
 | _,_=>none
theorem zeA {sh:Sh}{id g off len:Nat}{i:AV}:gE sh (.own id g off len) i h=iaO sh id g off len h[id]? (XA i):=by
 unfold gE iaO;cases XA i with
 | none=>dsimp only;cases h[id]? with
  | none=>rfl
  | some o=>cases o <;> rfl
 | some k=>dsimp only;cases h[id]? with
  | none=>rfl
  | some o=>cases o <;> rfl
theorem ze7 {sh rsh:Sh}{id g off len k fz:Nat}{xs:List PV}:iaO sh id g off len (some (.row rsh xs fz)) (some k)=if rsh=sh∧g=xs.length∧off+len≤xs.length∧k<len then some (.rref id g (off+k) 0) else none:=(rfl)
theorem zeH {i:AV}:QJ (.p (.str sa)) i=(XA i).bind fun n=>(sa[n]?).map fun b=>.p (.int .u8 b.toNat):=by
 unfold QJ;cases XA i <;> rfl
end
theorem z0J {z:List AV}{k:AV→aA→Esc→Prop}:alK z h k=k (.ref h.length 0) (h++[.box z]) []:=(rfl)
theorem z4u {sh:Sh}{k:AV→aA→Esc→Prop}:nwK sh h k=k (.own h.length 0 0 0) (h++[.row sh [] 0]) []:=(rfl)
theorem z4m {k:AV→aA→Esc→Prop}:mmK h k=k (.mp h.length) (h++[.amap [] 0]) []:=(rfl)
theorem zix {h:aA}:ZA [] h=([],h):=(rfl)
theorem ziy {h:aA}{s:Sh}{r:List AV}:ZA (.sl0 s::r) h=(.own h.length 0 0 0::(ZA r (h++[.row s [] 0])).1,(ZA r (h++[.row s [] 0])).2):=(rfl)
attribute [go_sem] zix ziy
theorem ziu {t:Nat}{h:aA}:RA t [] h=([],h):=(rfl)
theorem ziw {h:aA}{s:Sh}{r:List AV}:RA 0 (.sl0 s::r) h=(.own h.length 0 0 0::(RA 0 r (h++[.row s [] 0])).1,(RA 0 r (h++[.row s [] 0])).2):=(rfl)
theorem ziv {t:Nat}{h:aA}{v:PV}{r:List AV}:RA t (.p v::r) h=(.p v::(RA t r h).1,(RA t r h).2):=(rfl)
theorem zit {t:Nat}{h:aA}{i:Nat}{r:List AV}:RA t (.mp i::r) h=(.mp i::(RA t r h).1,(RA t r h).2):=(rfl)
attribute [go_sem] ziu ziw ziv zit
attribute [go_sem] z56 z55 z57 z0Y z1a z0Z z01 z45 z44 z6c z6a zg2 zk3 z39 z35 z38 z36 z37 z34 z30 z33 z31 z32 z3z z3v z3y z3w z3x z7K z7V z7Q z7T z7U z7L z7R z7P z7O z7N z7M zjO zjP zjR zkr zks convI zgr zhP zfI zfH zfL ext_t zdQ zdR zdS zfQ z3Y z3Z zfD z3T zjM zj6 zjN zjA zj9 zj7 zj8 zdA zeS zeQ zeR zeB ze8 zeA ze7 zeH z0J z4u z4m RF z5z upcB neqB lenB n64 z1Q strB appB rds rd oBox cC lM PC mM tB HM XG FM qQ uG UD rQ uD LM YG lI GM jI mQ oClr oMx oMn QA UA pQ nQ gC IM EE DE
attribute [go_sem ↓] z45 z44 z6c z6a z39 z35 z38 z36 z37 z34 z30 z33 z31 z32 z3z z3v z3y z3w z3x z1F z1E z56 z55 z57 z0Y z1a z0Z z0J z4u z4m z4c z4b z4d z54 z2Y z2Z
attribute [go_sem low] zep zen zel z7X
attribute [congr] z7W z67 z66 zg1 zk2 zeq zeo zem
end Go.Am
end
section
/- The abstract machine,part X: the library's functions that have no Go text: comparing strings,finding a byte. -/
set_option linter.unusedSimpArgs false
set_option linter.unusedVariables false
namespace Go.Am
variable {P:Program}
structure ExtRow (P:Program) (f:Nat) (e:Array Value→Sem Value):Prop where
 row:∃fn,P.funcs[f]?=some fn∧fn.name ≠ "runtime.NumGoroutine" ∧ fn.body=none∧Extern.findNext fn=none∧Extern.find fn=some e
theorem ExtRow.run {f:Nat}{e:Array Value→Sem Value}(R:ExtRow P f e){us:Array Value}{w w':World}{x:Value}(he:(e us).run P w = .ok x w'):(callFunc f us).run P w = .ok (.value x) w':=by
 obtain⟨fn,h1,h2,h3,h4,h5⟩:=R.row;unfold callFunc;simp [h1,h2,h3,h4,h5,he]
theorem zme {f:Nat}{e:Array Value→Sem Value}(h:(match P.funcs[f]? with | some fn=>fn.name != "runtime.NumGoroutine" && fn.body.isNone&&(Extern.findNext fn).isNone | none=>false)=true)(h2:(P.funcs[f]?).bind Extern.find=some e):ExtRow P f e:=by
 cases hf:P.funcs[f]? with
 | none=>rw[hf]at h;cases h
 | some fn=>
  rw[hf]at h h2;simp only[Bool.and_eq_true,bne_iff_ne,ne_eq,Option.isNone_iff_eq_none]at h;exact⟨⟨fn,hf,h.1.1,h.1.2,h.2,h2⟩⟩
def gF (s:List UInt8)(c:UInt8):Int:=if s.findIdx (· == c)<s.length then(s.findIdx (· == c):Int) else -1
def zA:List UInt8→List UInt8→Int
 | [],[]=>0
 | [],_::_=>-1
 | _::_,[]=>1
 | a::asv,b::bs=>if a<b then -1 else if b<a then 1 else zA asv bs
theorem z0W (s:List UInt8)(i:Nat):(⟨s.toArray⟩:ByteArray)[i]! = s.getD i 0:=by
 by_cases h:i<s.length
 ·rw[getElem!_pos (⟨s.toArray⟩:ByteArray) i h]
  show s.toArray[i]=_
  simp [h]
 ·rw[getElem!_neg (⟨s.toArray⟩:ByteArray) i h]
  simp [Nat.not_lt.1 h];rfl
theorem zee (s:List UInt8)(c:UInt8):(match (List.range (⟨s.toArray⟩:ByteArray).size).find? fun i=>(⟨s.toArray⟩:ByteArray)[i]! == c with
 | some i=>(i:Int)
 | none=>-1)=gF s c:=by
 have hsz:(⟨s.toArray⟩:ByteArray).size=s.length:=rfl
 have hget:∀i,i<s.length→(⟨s.toArray⟩:ByteArray)[i]! = s.getD i 0:=by
  intro i hi;exact z0W s i
 unfold gF;rw[hsz];by_cases h:s.findIdx (· == c)<s.length
 ·rw[if_pos h]
  have hf:(List.range s.length).find? (fun i=>(⟨s.toArray⟩:ByteArray)[i]! == c)=some (s.findIdx (· == c)):=by
   rw[List.find?_eq_some_iff_getElem];refine⟨?_,s.findIdx (· == c),by simpa using h,by simp,fun j hj=>?_⟩
   ·rw[hget _ h]
    have:=List.findIdx_getElem (w:=h);simpa [h] using this
   ·simp only[List.getElem_range]
    have hj':j<s.length:=by omega
    rw[hget _ hj'];have:=List.not_of_lt_findIdx hj;simpa [hj'] using this
  rw[hf]
 ·rw[if_neg h]
  have hf:(List.range s.length).find? (fun i=>(⟨s.toArray⟩:ByteArray)[i]! == c)=none:=by
   rw[List.find?_eq_none];intro i hi;rw[List.mem_range]at hi;rw[hget _ hi];intro hc;exact h (List.findIdx_lt_length_of_exists ⟨s[i],List.getElem_mem hi,by simpa [hi] using hc⟩)
  rw[hf]
theorem z9N:∀ (a b:List UInt8),Extern.BytealgCompare.cmp ⟨a.toArray⟩ ⟨b.toArray⟩=zA a b:=by
 have key:∀(a b:List UInt8),(match (List.range (min a.length b.length)).find? fun i=>a.getD i 0 != b.getD i 0 with
  | some i=>if a.getD i 0<b.getD i 0 then(-1:Int) else 1
  | none=>if a.length<b.length then -1 else if a.length>b.length then 1 else 0)=zA a b:=by
  intro a;induction a with
  | nil=>intro b;cases b <;> simp [zA]
  | cons x a ih=>
   intro b;cases b with
   | nil=>simp [zA]
   | cons y b=>
    have hm:min (x::a).length (y::b).length=min a.length b.length+1:=by simp only[List.length_cons];omega
    rw[hm,List.range_succ_eq_map,List.find?_cons];simp only[List.getD_cons_zero];by_cases hxy:x=y
    ·subst hxy
     have hlt:¬x<x:=UInt8.lt_irrefl x
     simp only[bne_self_eq_false,List.find?_map,zA,hlt,if_false];rw[←ih b];have hc:((fun i=>(x::a).getD i 0 != (x::b).getD i 0) ∘ Nat.succ)=fun i=>a.getD i 0 != b.getD i 0:=by
      funext i;simp
     rw[hc];cases (List.range (min a.length b.length)).find? fun i=>a.getD i 0 != b.getD i 0 with
     | none=>simp
     | some i=>simp
    ·have:(x != y)=true:=by simpa using hxy
     rw[this];simp only[zA,List.getD_cons_zero];by_cases h1:x<y
     ·simp [h1]
     ·have h2:y<x:=by
       rcases UInt8.lt_or_lt_of_ne (a:=x) (b:=y) hxy with h|h
       ·exact absurd h h1
       ·exact h
      simp [h1,h2]
 intro a b;rw[←key a b];unfold Extern.BytealgCompare.cmp;have sa:(⟨a.toArray⟩:ByteArray).size=a.length:=rfl
 have sb:(⟨b.toArray⟩:ByteArray).size=b.length:=rfl
 simp only[sa,sb,z0W];generalize List.find? _ _=q;cases q <;> rfl
def JH (fi fc:Nat)(f:Nat)(vs:List PV):Option PV:=
 bif Nat.beq f fi then(match vs with
  | [.str s,.int .u8 c]=>some (.int .i64 (gF s (UInt8.ofNat c.toNat)))
  | _=>none)
 else bif Nat.beq f fc then(match vs with
  | [.str a,.str b]=>some (.int .i64 (zA a b))
  | _=>none)
 else none
theorem extF_ok {fi fc:Nat}(h1:ExtRow P fi Extern.BytealgIndexByte.indexByte)(h2:ExtRow P fc Extern.BytealgCompare.compare){f:Nat}{vs:List PV}{r:PV}(h:JH fi fc f vs=some r):z0u P f vs r:=by
 intro M w us hM hl hr;unfold JH at h;cases e1:Nat.beq f fi with
 | true=>
  rw[e1]at h;have e:=Nat.eq_of_beq_eq_true e1
  subst e;simp only[cond_true]at h;split at h
  ·rename_i s c
   injection h with h
   subst h;match us,hl with
   | [u,v],_=>
    have q1:=hr 0 _ u rfl rfl
    have q2:=hr 1 _ v rfl rfl
    cases q1;cases q2
    refine⟨.int .i64 (gF s (UInt8.ofNat c.toNat)),w,h1.run ?_,WExt.refl w,.int _ _⟩;rw[←zee];show(match (List.range (⟨s.toArray⟩:ByteArray).size).find? fun i=>(⟨s.toArray⟩:ByteArray)[i]! == UInt8.ofNat c.toNat with|some i=>(pure (goInt i):Sem Value)|none=>pure (goInt (-1))).run P w=_
    generalize List.find? _ _=q;cases q <;> rfl
  ·cases h
 | false=>
  rw[e1]at h;simp only[cond_false]at h;cases e2:Nat.beq f fc with
  | true=>
   rw[e2]at h;have e:=Nat.eq_of_beq_eq_true e2
   subst e;simp only[cond_true]at h;split at h
   ·rename_i a b
    injection h with h
    subst h;match us,hl with
    | [u,v],_=>
     have q1:=hr 0 _ u rfl rfl
     have q2:=hr 1 _ v rfl rfl
     cases q1;cases q2
     refine⟨.int .i64 (zA a b),w,h2.run ?_,WExt.refl w,.int _ _⟩;rw[←z9N];rfl
   ·cases h
  | false=>rw[e2]at h;cases h
theorem z2v {X:Ctx}{f:Nat}{asv:List AV}{vs:List PV}{h h1:aA}{r:PV}{K:jA}(hf:X.fn f=none)(h2:X.ex2 f asv h=none)(hp:lA h asv=some (vs.map .p,h1))(hu:unp (vs.map AV.p)=some vs)(hx:X.ext f vs=some r):bA X f asv h K=K (.p r) h1 []:=by
 refine propext (bA.eq (bA.fold ?_) K);unfold NB;simp only[hf,h2,hp,hu,hx];exact⟨trivial,trivial,trivial⟩
structure GrowRow (P:Program) (f:Nat) (sh:Sh):Prop where
 enter:∀us w,(callFunc f us).run P w = .ok (.enter f us) w
 room:∀a w,Calls P f #[.slice a 0 0,.int .i64 0] w fun e w'=>e = .returned (.slice a 0 0)∧w'=w
 grow:∀a (n:Nat) w,0<n→n≤1048576→Calls P f #[.slice a 0 0,.int .i64 n] w fun e w'=>∃G cs E,e = .returned (.slice (some ⟨w.heap.size,0,none⟩) 0 G)∧cs.size=G*gA sh∧w'=w.drew.alloc (.cells cs E)
def WP:List (Nat × Sh)→Nat→List AV→aA→Option (AV × aA × Esc)
 | [],_,_,_=>none
 | (g,sh)::r,f,asv,h=>bif Nat.beq f g then(match asv with
  | [.sl0 _,.p (.int .i64 n)]=>bif decide (0≤n)&&decide (n≤1048576) then some (.own h.length 0 0 0,h++[.row sh [] 0],[]) else none
  | _=>none) else WP r f asv h
theorem z3H {gl:Nat→Option PV}:∀(gs:List (Nat×Sh)),(∀g sh,(g,sh)∈gs→GrowRow P g sh)→∀{f:Nat} {asv:List AV} {h:aA} {v:AV} {h':aA} {x:Esc},WP gs f asv h=some (v,h',x) →
 pC P gl f asv h fun v1 h1 x1=>v1=v∧h1=h'∧x1=x
 | [],_,f,asv,h,v,h',x,H=>by cases H
 | (g,sh)::r,hg,f,asv,h,v,h',x,H=>by
  unfold WP at H;cases e1:Nat.beq f g with
  | false=>
   rw[e1]at H;exact z3H r (fun g sh hm=>hg g sh (by simp [hm])) H
  | true=>
   rw[e1]at H;have e:=Nat.eq_of_beq_eq_true e1
   subst e;have R:=hg f sh (by simp)
   simp only[cond_true]at H;split at H
   ·rename_i sh' n
    cases hb:(decide (0≤n)&&decide (n≤1048576)) with
    | false=>rw[hb]at H;cases H
    | true=>
     rw[hb]at H;simp only[cond_true,Option.some.injEq,Prod.mk.injEq]at H;obtain⟨rfl,rfl,rfl⟩:=H;simp only[Bool.and_eq_true,decide_eq_true_eq]at hb;intro μ w vs Hh Hg hl hr;match vs,hl with
     | [u1,u2],_=>
      have q1:=hr 0 _ u1 rfl rfl
      have q2:=(hr 1 _ u2 rfl rfl).p_inv
      cases q1;cases q2
      obtain⟨m,hm⟩:=Int.eq_ofNat_of_zero_le hb.1;subst hm;refine .inl ⟨R.enter _,?_⟩;rcases Nat.eq_zero_or_pos m with h0|h0
      ·subst h0
       refine(R.room _ w).mono fun e w' he=>?_
       obtain⟨rfl,rfl⟩:=he;obtain⟨n1,n2⟩:=EM Hh sh;refine⟨_,_,_,_,⟨rfl,rfl,rfl⟩,?_,n1,n2,nA.push (by simp [Obj.top])⟩
       exact .own h.length 0 0 0 _ 0 sh [] 0 none (Nat.le_refl _) (by simp) (by rw[←Hh.len];simp) (by simp) (by simp) (fun _=>rfl)
      ·refine(R.grow _ m w h0 (by omega)).mono fun e w' he=>?_
       obtain⟨G,cs,E,rfl,hcs,rfl⟩:=he;have hw:WExt w (w.drew.alloc (.cells cs E)):=(WExt.drew w _).trans (WExt.push _ _)
       obtain⟨n1,n2⟩:=gI (sh:=sh) (xs:=[]) Hh hw (b:=w.heap.size) (n:=cs.size) (Nat.le_refl _) (by show w.heap.size<(w.heap.push _).size;simp) (c:=cs) (OA.push (w:=w.drew) cs E) (by simp) (by simp) (by simp)
       refine⟨_,_,_,_,⟨rfl,rfl,rfl⟩,?_,n1,n2,nA.push (by simp [Obj.top])⟩
       refine .own h.length 0 0 0 _ G sh [] 0 (some (w.heap.size,cs.size)) (Nat.zero_le _) (by simp) (by rw[←Hh.len];simp) (by simp) (by simp) (fun _=>?_)
       exact .inr ⟨by simp,by simp [hcs]⟩
   ·cases H
end Go.Am
end
section
/- Short words for the printed code. -/
set_option linter.all false
namespace Go.Am
instance {n:Nat}:OfNat Opd n:=⟨.t n⟩
abbrev GL:=Nat→Option PV
abbrev KT:=Ex→St→Prop
def cI (n:Int):Opd:=.c (.p (.int .i64 n))
def cT:Opd:=.c (.p (.bool true))
def cF:Opd:=.c (.p (.bool false))
def cS (s:List UInt8):Opd:=.c (.p (.str s))
def uO (d:Nat)(o:AO):AOp:=⟨some d,none,o⟩
def wO (o:AO):AOp:=⟨none,none,o⟩
def gD (d g:Nat)(b:Bool)(o:AO):AOp:=⟨some d,some (g,b),o⟩
def mV (d:Nat)(x:Opd):AOp:=⟨some d,none,.mv x⟩
def bN (d:Nat)(b:BinOp)(x y:Opd):AOp:=⟨some d,none,.bin b x y⟩
def cL (d f:Nat)(l:List Opd):AOp:=⟨some d,none,.call f l⟩
def lD (d:Nat)(s:Sh)(x:Opd):AOp:=⟨some d,none,.load s x⟩
def iA (d:Nat)(s:Sh)(x y:Opd):AOp:=⟨some d,none,.iaddr s x y⟩
def fA (d o:Nat)(s:Sh)(x:Opd):AOp:=⟨some d,none,.faddr o s x⟩
def sT (d:Nat)(s:Sh)(x y:Opd):AOp:=⟨some d,none,.store s x y⟩
def lN (d:Nat)(x:Opd):AOp:=⟨some d,none,.len x⟩
def eX (d:Nat)(x:Opd)(i:Nat):AOp:=⟨some d,none,.ext x i⟩
def dF (o:AOp)(l:List Nat):DOp:=⟨o,l,false,[],[]⟩
def dT (o:AOp)(l:List Nat):DOp:=⟨o,l,true,[],[]⟩
def dA (o:AOp)(l:List Nat)(e:Bool)(a b:List Nat):DOp:=⟨o,l,e,a,b⟩
def rg (l:List AOp)(k:List Nat):ACode:=.reg l (some k)
def dr (l:List DOp)(k:List Nat):ACode:=.draw l (some k)
end Go.Am
end
section
/- A function's formula,computed out of its code. -/
set_option linter.all false
namespace Go.Am
abbrev En:=List (Nat × AV)
variable {C:Hd} {gl:Nat→Option PV} {e:En} {h h':aA} {x y:Esc} {K:Ex→St→Prop} {s:St} {L:En→aA→Esc→Prop} {k:AV→aA→Esc→Prop} {ev:Opd→AV} {r:List AOp} {q:List DOp} {dn:AC} {hs:List aA} {Q:Prop}
abbrev Sf (C:Hd)(gl:Nat→Option PV)(c:ACode)(e:En)(h:aA)(x:Esc)(K:Ex→St→Prop):Type:={P:Prop // NW C gl c ⟨e,h,x⟩ K=P}
def gO (G:AO→(Opd→AV)→aA→(AV→aA→Esc→Prop)→Prop)(t:AV)(g:Bool)(o:AO)(ev:Opd→AV)(h:aA)(k:AV→aA→Esc→Prop):Prop:=gV t g h (G o ev h) k
theorem agetB {e:En}{n m:Nat}{v:AV}:eA ((n,v)::e) m=match Nat.beq n m with|true=>v|false=>eA e m:=by
 show(if n=m then v else eA e m)=_
 cases hb:Nat.beq n m with
 | true=>rw[if_pos (Nat.eq_of_beq_eq_true hb)]
 | false=>rw[if_neg (Nat.ne_of_beq_eq_false hb)]
theorem wA:(∀ {C:Hd} {gl:GL} {e:En} {h:aA} {x:Esc} {K:KT} {l:List Nat} {b:ACode},NW C gl (.pr l b) ⟨e,h,x⟩ K=NW C gl b ⟨uA (some l) e,h,x⟩ K) ∧
 (∀{C:Hd} {gl:GL} {K:KT} {s:St} {a b:ACode},NW C gl (.seq a b) s K=NW C gl a s (ID C gl b K)) ∧
 (∀{C:Hd} {gl:GL} {K:KT} {s:St} {i:Nat} {b:ACode},NW C gl (.block i b) s K=NW C gl b s (sC i K)) ∧
 (∀{C:Hd} {gl:GL} {e:En} {h:aA} {x:Esc} {K:KT} {c:Opd} {a b:ACode},NW C gl (.cond c a b) ⟨e,h,x⟩ K=CC (Opd.ev gl e c) (NW C gl a ⟨e,h,x⟩ K) (NW C gl b ⟨e,h,x⟩ K)) ∧
 (∀{C:Hd} {gl:GL} {e:En} {h:aA} {x:Esc} {K:KT} {c:Opd} {a b:ACode},NW C gl (.condu c a b) ⟨e,h,x⟩ K=sU (Opd.ev gl e c) (NW C gl a ⟨e,h,x⟩ K) (NW C gl b ⟨e,h,x⟩ K)) ∧
 (∀{C:Hd} {gl:GL} {K:KT} {s:St} {b:ACode},NW C gl (.det b) s K=NW C gl b s K) ∧
 (∀{C:Hd} {gl:GL} {K:KT} {s:St},NW C gl .skip s K=K .normal s) ∧
 (∀{C:Hd} {gl:GL} {K:KT} {s:St} {i:Nat},NW C gl (.exit i) s K=K (.exit i) s) ∧
 (∀{C:Hd} {gl:GL} {K:KT} {s:St},NW C gl .ret s K=K .ret s) ∧
 (∀{C:Hd} {gl:GL} {K:KT} {s:St},NW C gl .bad s K=False) ∧
 (∀{C:Hd} {gl:GL} {e:En} {h:aA} {x:Esc} {K:KT} {l:List AOp} {o:List Nat},NW C gl (.reg l (some o)) ⟨e,h,x⟩ K=sE C gl l e h x fun e h x=>K .normal ⟨uA (some o) e,h,x⟩) ∧
 (∀{C:Hd} {gl:GL} {e:En} {h:aA} {x:Esc} {K:KT} {l:List AOp},NW C gl (.reg l none) ⟨e,h,x⟩ K=sE C gl l e h x fun e h x=>K .normal ⟨e,h,x⟩) ∧
 (∀{C:Hd} {gl:GL} {e:En} {h:aA} {x:Esc} {K:KT} {l:List DOp} {o:List Nat},NW C gl (.draw l (some o)) ⟨e,h,x⟩ K=ZD C gl l [] [] e h x fun e h x=>K .normal ⟨uA (some o) e,h,x⟩) ∧
 (∀{C:Hd} {gl:GL} {e:En} {h:aA} {x:Esc} {K:KT} {l:List DOp},NW C gl (.draw l none) ⟨e,h,x⟩ K=ZD C gl l [] [] e h x fun e h x=>K .normal ⟨e,h,x⟩) ∧
 (∀{C:Hd} {gl:GL} {e:En} {h:aA} {x:Esc} {L:En→aA→Esc→Prop},sE C gl [] e h x L=L e h x) ∧
 (∀{C:Hd} {gl:GL} {e:En} {h:aA} {x:Esc} {L:En→aA→Esc→Prop} {r:List AOp} {d:Option Nat} {o:AO},sE C gl (⟨d,none,o⟩::r) e h x L=opC C o (Opd.ev gl e) h fun v h' x'=>sE C gl r (put d v e) h' (x'++x) L) ∧
 (∀{C:Hd} {gl:GL} {e:En} {h:aA} {x:Esc} {L:En→aA→Esc→Prop} {r:List AOp} {d:Option Nat} {t:Nat} {b:Bool} {o:AO},sE C gl (⟨d,some (t,b),o⟩::r) e h x L=gO (opC C) (eA e t) b o (Opd.ev gl e) h fun v h' x'=>sE C gl r (put d v e) h' (x'++x) L) ∧
 (∀{C:Hd} {gl:GL} {e:En} {h:aA} {x:Esc} {L:En→aA→Esc→Prop} {dn:AC} {hs:List aA},ZD C gl [] dn hs e h x L=L e h x) ∧
 (∀{C:Hd} {gl:GL} {e:En} {h:aA} {x:Esc} {L:En→aA→Esc→Prop} {q:List DOp} {dn:AC} {hs:List aA} {d:Option Nat} {o:AO} {rd a b:List Nat} {f:Bool},ZD C gl (⟨⟨d,none,o⟩,rd,f,a,b⟩::q) dn hs e h x L=opE C o (Opd.ev gl (uA (some rd) e)) h fun v h' y=>
  NG o.still f h h' y (eE C gl ⟨d,none,o⟩ (uA (some rd) e) v hs (aE C gl h' dn (ZD C gl q (dn++[(⟨d,none,o⟩,uA (some rd) e,v)]) (hs++[h]) (put d v e) h' (y++x) L) b) a)) ∧
 (∀{C:Hd} {gl:GL} {e:En} {h:aA} {x:Esc} {L:En→aA→Esc→Prop} {q:List DOp} {dn:AC} {hs:List aA} {d:Option Nat} {t:Nat} {g:Bool} {o:AO} {rd a b:List Nat} {f:Bool},ZD C gl (⟨⟨d,some (t,g),o⟩,rd,f,a,b⟩::q) dn hs e h x L=gO (opE C) (eA (uA (some rd) e) t) g o (Opd.ev gl (uA (some rd) e)) h fun v h' y=>
  NG o.still f h h' y (eE C gl ⟨d,some (t,g),o⟩ (uA (some rd) e) v hs (aE C gl h' dn (ZD C gl q (dn++[(⟨d,some (t,g),o⟩,uA (some rd) e,v)]) (hs++[h]) (put d v e) h' (y++x) L) b) a)) ∧
 (∀{h':aA} {h:aA} {y:Esc} {Q:Prop} {b:Bool},NG b true h h' y Q=Q) ∧
 (∀{h':aA} {h:aA} {y:Esc} {Q:Prop},NG true false h h' y Q=Q) ∧
 (∀{h':aA} {h:aA} {y:Esc} {Q:Prop},NG false false h h' y Q=((h'=h∧y=[])∧Q)) ∧
 (∀{C:Hd} {gl:GL} {h:aA} {dn:AC} {Q:Prop},aE C gl h dn Q []=Q) ∧
 (∀{C:Hd} {gl:GL} {h:aA} {dn:AC} {Q:Prop} {j:Nat} {l:List Nat},aE C gl h dn Q (j::l)=((match dn[j]? with|some q=>tI C gl q h|none=>False)∧aE C gl h dn Q l)) ∧
 (∀{C:Hd} {gl:GL} {e:En} {hs:List aA} {Q:Prop} {o:AOp} {v:AV},eE C gl o e v hs Q []=Q) ∧
 (∀{C:Hd} {gl:GL} {e:En} {hs:List aA} {Q:Prop} {o:AOp} {v:AV} {j:Nat} {l:List Nat},eE C gl o e v hs Q (j::l)=((match hs[j]? with|some g=>tI C gl (o,e,v) g|none=>False)∧eE C gl o e v hs Q l)) ∧
 (∀{C:Hd} {gl:GL} {e:En} {d:Option Nat} {o:AO} {v:AV} {g:aA},tI C gl (⟨d,none,o⟩,e,v) g=opE C o (Opd.ev gl e) g fun v1 h1 x1=>v1=v∧h1=g∧x1=[]) ∧
 (∀{C:Hd} {gl:GL} {e:En} {d:Option Nat} {t:Nat} {b:Bool} {o:AO} {v:AV} {g:aA},tI C gl (⟨d,some (t,b),o⟩,e,v) g=gO (opE C) (eA e t) b o (Opd.ev gl e) g fun v1 h1 x1=>v1=v∧h1=g∧x1=[]) ∧
 (∀{e:En} {d:Nat} {v:AV},put (some d) v e=(d,v)::e) ∧
 (∀{e:En} {v:AV},put none v e=e) ∧
 (∀{e:En} {n:Nat} {l:List Nat},uA (some (n::l)) e=(n,eA e n)::uA (some l) e) ∧
 (∀{e:En},uA (some []) e=[]) ∧
 (∀{e:En} {n m:Nat} {v:AV},eA ((n,v)::e) m=match Nat.beq n m with|true=>v|false=>eA e m) ∧
 (∀{gl:GL} {e:En} {n:Nat},Opd.ev gl e (.t n)=eA e n) ∧
 (∀{gl:GL} {e:En} {v:AV},Opd.ev gl e (.c v)=v) ∧
 (∀{gl:GL} {e:En} {n:Nat},Opd.ev gl e (.f n) = .fn n []) ∧
 (∀{gl:GL} {e:En} {n:Nat},Opd.ev gl e (.g n)=gv gl n) ∧
 (∀{n:Nat},(OfNat.ofNat n:Opd) = .t n) ∧
 (∀{C:Hd} {h:aA} {k:AV→aA→Esc→Prop} {ev:Opd→AV} {a:Opd},opC C (.mnext none [a]) ev h k=nxK (ev a) h k) ∧
 (∀{C:Hd} {h:aA} {k:AV→aA→Esc→Prop} {ev:Opd→AV} {sh:Sh} {l:List Opd},opC C (.mnext (some sh) l) ev h k=nqK (some sh) (ev1 ev l) h k) ∧
 (∀{C:Hd} {h:aA} {k:AV→aA→Esc→Prop} {ev:Opd→AV} {f:Nat} {a:List Opd},opC C (.call f a) ev h k=C f (ev1 ev a) h k) ∧
 (∀{C:Hd} {h:aA} {k:AV→aA→Esc→Prop} {ev:Opd→AV} {f:Opd} {a:List Opd},opC C (.callv f a) ev h k=HG C (ev f) (ev1 ev a) h k) ∧
 (∀{C:Hd} {h:aA} {k:AV→aA→Esc→Prop} {ev:Opd→AV} {f:Nat} {a:List Opd},opE C (.call f a) ev h k=wE C f (ev1 ev a) h k) ∧
 (∀{C:Hd} {h:aA} {k:AV→aA→Esc→Prop} {ev:Opd→AV} {f:Opd} {a:List Opd},opE C (.callv f a) ev h k=GG C (ev f) (ev1 ev a) h k) ∧
 (∀{ev:Opd→AV},ev1 ev []=[]) ∧
 (∀{ev:Opd→AV} {a:Opd} {l:List Opd},ev1 ev (a::l)=ev a::ev1 ev l) ∧
 (∀{ev:Opd→AV},ev2 ev []=[]) ∧
 (∀{ev:Opd→AV} {n:Nat} {a:Opd} {l:List (Nat×Opd)},ev2 ev ((n,a)::l)=(n,ev a)::ev2 ev l) ∧
 (∀{ev:Opd→AV},ev3 ev []=[]) ∧
 (∀{ev:Opd→AV} {n m:Nat} {a:Opd} {l:List (Nat×Nat×Opd)},ev3 ev ((n,m,a)::l)=(n,m,ev a)::ev3 ev l) ∧
 (∀{ev:Opd→AV},evO ev none=none) ∧
 (∀{ev:Opd→AV} {a:Opd},evO ev (some a)=some (ev a)):=
 ⟨(by intros;rfl),(by intros;rfl),(by intros;rfl),(by intros;rfl),(by intros;rfl),(by intros;rfl),(by intros;rfl),(by intros;rfl),(by intros;rfl),(by intros;rfl),(by intros;rfl),(by intros;rfl),(by intros;rfl),(by intros;rfl),(by intros;rfl),(by intros;rfl),(by intros;rfl),(by intros;rfl),(by intros;rfl),(by intros;rfl),(by intros;rfl),(by intros;rfl),(by intros;rfl),(by intros;rfl),(by intros;rfl),(by intros;rfl),(by intros;rfl),(by intros;rfl),(by intros;rfl),(by intros;rfl),(by intros;rfl),(by intros;rfl),(by intros;rfl),(by intro e n m v;exact agetB),(by intros;rfl),(by intros;rfl),(by intros;rfl),(by intros;rfl),(by intros;rfl),(by intros;rfl),(by intros;rfl),(by intros;rfl),(by intros;rfl),(by intros;rfl),(by intros;rfl),(by intros;rfl),(by intros;rfl),(by intros;rfl),(by intros;rfl),(by intros;rfl),(by intros;rfl),(by intros;rfl),(by intros;rfl)⟩
abbrev OpW (G:AO→(Opd→AV)→aA→(AV→aA→Esc→Prop)→Prop):Prop:=∀{ev:Opd→AV} {h:aA} {k:AV→aA→Esc→Prop},
 (∀{x},G (.mv x) ev h k=k (ev x) h [])∧(∀{c a b},G (.pick c a b) ev h k=pK (RJ (ev c) (ev a) (ev b)) fun v=>k v h [])∧(∀{z},G (.alloc z) ev h k=alK z h k) ∧
 (∀{x},G (.box x) ev h k=wK (oBox (ev x) h) k)∧(∀{z ps},G (.build z ps) ev h k=pK (cC z (ev3 ev ps)) fun v=>k v h [])∧(∀{o sh n z ps},G (.bsl o sh n z ps) ev h k=wK (PC o sh n z (ev2 ev ps) h) k) ∧
 (∀{sh a},G (.load sh a) ev h k=pK (eB sh (ev a) h) fun v=>k v h [])∧(∀{sh a x},G (.store sh a x) ev h k=wK (oD sh (ev a) (ev x) h) k)∧(∀{x},G (.nilchk x) ev h k=pK (KM (ev x)) fun v=>k v h []) ∧
 (∀{o x y},G (.bin o x y) ev h k=pK (AA o (ev x) (ev y)) fun v=>k v h [])∧(∀{l n x y},G (.eqa l n x y) ev h k=pK (tB l n (ev x) (ev y)) fun v=>k v h [])∧(∀{n b x},G (.isnil n b x) ev h k=pK (HM n b (ev x)) fun v=>k v h []) ∧
 (∀{x},G (.mkif x) ev h k=pK (qQ (ev x)) fun v=>k v h [])∧(∀{o x},G (.un o x) ev h k=pK (oUn o (ev x)) fun v=>k v h [])∧(∀{c x},G (.conv (.i c) x) ev h k=pK (PJ c (ev x)) fun v=>k v h []) ∧
 (∀{f l},G (.mkfn f l) ev h k=k (.fn f (ev1 ev l)) h [])∧(∀{sh x a b c},G (.slice sh x a b c) ev h k=pK (YG sh (ev x) (evO ev a) (evO ev b) (evO ev c) h) fun v=>k v h [])∧(∀{x a b},G (.slstr x a b) ev h k=pK (LM (ev x) (evO ev a) (evO ev b)) fun v=>k v h []) ∧
 (∀{sh z a b},G (.mksl sh z a b) ev h k=wK (rQ sh z (ev a) (ev b) h) k)∧(∀{o sh x},G (.faddr o sh x) ev h k=pK (uB o sh (ev x)) fun v=>k v h [])∧(∀{o sh x},G (.field o sh x) ev h k=pK (oQ o sh (ev x)) fun v=>k v h []) ∧
 (∀{sh x i},G (.iaddr sh x i) ev h k=pK (gE sh (ev x) (ev i) h) fun v=>k v h [])∧(∀{n sh x i},G (.iaddra n sh x i) ev h k=pK (lI n sh (ev x) (ev i)) fun v=>k v h [])∧(∀{n sh x i},G (.idxa n sh x i) ev h k=pK (GM n sh (ev x) (ev i)) fun v=>k v h []) ∧
 (∀{x i},G (.idxs x i) ev h k=pK (QJ (ev x) (ev i)) fun v=>k v h [])∧(∀{x i},G (.ext x i) ev h k=pK (kI (ev x) i) fun v=>k v h [])∧(∀{x},G (.len x) ev h k=pK (JF (ev x)) fun v=>k v h [])∧(∀{x},G (.lens x) ev h k=pK (JM (ev x)) fun v=>k v h []) ∧
 (∀{sh a x},G (.app sh a x) ev h k=wK (jI sh (ev a) (ev x) h) k)∧(∀{sh a x},G (.copy sh a x) ev h k=wK (mQ sh (ev a) (ev x) h) k)∧(∀{m t l},G (.uns m t l) ev h k=wK (RF m t (ev1 ev l) h) k)∧(∀{sh z x},G (.clr sh z x) ev h k=wK (oClr sh z (ev x) h) k) ∧
 (∀{l},G (.mx l) ev h k=pK (oMx (ev1 ev l)) fun v=>k v h [])∧(∀{l},G (.mn l) ev h k=pK (oMn (ev1 ev l)) fun v=>k v h [])∧(∀{sh},G (.new0 sh) ev h k=nwK sh h k)∧(∀{x},G (.conv .s2b x) ev h k=wK (UD .s2b (ev x) h) k)∧(∀{x},G (.conv .b2s x) ev h k=wK (UD .b2s (ev x) h) k) ∧
 (∀{x},G (.conv .r2s x) ev h k=wK (UD .r2s (ev x) h) k)∧(∀{x},G (.conv .same x) ev h k=wK (UD .same (ev x) h) k)∧(G .mkmap ev h k=mmK h k)∧(∀{n o z x y},G (.look n o z x y) ev h k=pK (QA n o z (ev x) (ev y) h) fun v=>k v h [])∧(∀{n m y x},G (.mupd n m y x) ev h k=wK (UA n (ev m) (ev y) (ev x) h) k) ∧
 (∀{n z m y},G (.ment n z m y) ev h k=wK (pQ n z (ev m) (ev y) h) k)∧(∀{m a x},G (.estore m a x) ev h k=wK (nQ (ev m) (ev a) (ev x) h) k)∧(∀{n m y},G (.mdel n m y) ev h k=wK (gC n (ev m) (ev y) h) k)∧(∀{x},G (.lenm x) ev h k=pK (IM (ev x) h) fun v=>k v h []) ∧
 (∀{x},G (.mrange x) ev h k=wK (EE (ev x) h) k)∧(∀{i},G (.mentry i) ev h k=wK (DE (ev i) h) k)
theorem w_op:∀ G,(G=opC C∨G=opE C)→OpW G:=by
 rintro G (rfl|rfl) <;> refine fun {_ _ _}=>⟨?_,?_,?_,?_,?_,?_,?_,?_,?_,?_,?_,?_,?_,?_,?_,?_,?_,?_,?_,?_,?_,?_,?_,?_,?_,?_,?_,?_,?_,?_,?_,?_,?_,?_,?_,?_,?_,?_,?_,?_,?_,?_,?_,?_,?_,?_,?_,?_⟩ <;> intros <;> rfl
theorem w_oc:OpW (opC C):=w_op _ (.inl rfl)
theorem w_oe:OpW (opE C):=w_op _ (.inr rfl)
abbrev OpG (G:AO→(Opd→AV)→aA→(AV→aA→Esc→Prop)→Prop):Prop:=∀{t:AV} {g:Bool} {ev:Opd→AV} {h:aA} {k:AV→aA→Esc→Prop},
 (∀{x},gO G t g (.mv x) ev h k=gM t g (ev x) h k) ∧
 (∀{c a b},gO G t g (.pick c a b) ev h k=gP t g (RJ (ev c) (ev a) (ev b)) h k) ∧
 (∀{z},gO G t g (.alloc z) ev h k=gV t g h (fun k=>alK z h k) k) ∧
 (∀{x},gO G t g (.box x) ev h k=gV t g h (fun k=>wK (oBox (ev x) h) k) k) ∧
 (∀{z ps},gO G t g (.build z ps) ev h k=gP t g (cC z (ev3 ev ps)) h k) ∧
 (∀{o sh n z ps},gO G t g (.bsl o sh n z ps) ev h k=gV t g h (fun k=>wK (PC o sh n z (ev2 ev ps) h) k) k) ∧
 (∀{sh a},gO G t g (.load sh a) ev h k=gP t g (eB sh (ev a) h) h k) ∧
 (∀{sh a x},gO G t g (.store sh a x) ev h k=gV t g h (fun k=>wK (oD sh (ev a) (ev x) h) k) k) ∧
 (∀{x},gO G t g (.nilchk x) ev h k=gP t g (KM (ev x)) h k) ∧
 (∀{o x y},gO G t g (.bin o x y) ev h k=gP t g (AA o (ev x) (ev y)) h k) ∧
 (∀{l n x y},gO G t g (.eqa l n x y) ev h k=gP t g (tB l n (ev x) (ev y)) h k) ∧
 (∀{n b x},gO G t g (.isnil n b x) ev h k=gP t g (HM n b (ev x)) h k) ∧
 (∀{x},gO G t g (.mkif x) ev h k=gP t g (qQ (ev x)) h k) ∧
 (∀{o x},gO G t g (.un o x) ev h k=gP t g (oUn o (ev x)) h k) ∧
 (∀{c x},gO G t g (.conv (.i c) x) ev h k=gP t g (PJ c (ev x)) h k) ∧
 (∀{f l},gO G t g (.mkfn f l) ev h k=gM t g (.fn f (ev1 ev l)) h k) ∧
 (∀{sh x a b c},gO G t g (.slice sh x a b c) ev h k=gP t g (YG sh (ev x) (evO ev a) (evO ev b) (evO ev c) h) h k) ∧
 (∀{x a b},gO G t g (.slstr x a b) ev h k=gP t g (LM (ev x) (evO ev a) (evO ev b)) h k) ∧
 (∀{sh z a b},gO G t g (.mksl sh z a b) ev h k=gV t g h (fun k=>wK (rQ sh z (ev a) (ev b) h) k) k) ∧
 (∀{o sh x},gO G t g (.faddr o sh x) ev h k=gP t g (uB o sh (ev x)) h k) ∧
 (∀{o sh x},gO G t g (.field o sh x) ev h k=gP t g (oQ o sh (ev x)) h k) ∧
 (∀{sh x i},gO G t g (.iaddr sh x i) ev h k=gP t g (gE sh (ev x) (ev i) h) h k) ∧
 (∀{n sh x i},gO G t g (.iaddra n sh x i) ev h k=gP t g (lI n sh (ev x) (ev i)) h k) ∧
 (∀{n sh x i},gO G t g (.idxa n sh x i) ev h k=gP t g (GM n sh (ev x) (ev i)) h k) ∧
 (∀{x i},gO G t g (.idxs x i) ev h k=gP t g (QJ (ev x) (ev i)) h k) ∧
 (∀{x i},gO G t g (.ext x i) ev h k=gP t g (kI (ev x) i) h k) ∧
 (∀{x},gO G t g (.len x) ev h k=gP t g (JF (ev x)) h k) ∧
 (∀{x},gO G t g (.lens x) ev h k=gP t g (JM (ev x)) h k) ∧
 (∀{sh a x},gO G t g (.app sh a x) ev h k=gV t g h (fun k=>wK (jI sh (ev a) (ev x) h) k) k) ∧
 (∀{sh a x},gO G t g (.copy sh a x) ev h k=gV t g h (fun k=>wK (mQ sh (ev a) (ev x) h) k) k) ∧
 (∀{m t2 l},gO G t g (.uns m t2 l) ev h k=gV t g h (fun k=>wK (RF m t2 (ev1 ev l) h) k) k) ∧
 (∀{sh z x},gO G t g (.clr sh z x) ev h k=gV t g h (fun k=>wK (oClr sh z (ev x) h) k) k) ∧
 (∀{l},gO G t g (.mx l) ev h k=gP t g (oMx (ev1 ev l)) h k) ∧
 (∀{l},gO G t g (.mn l) ev h k=gP t g (oMn (ev1 ev l)) h k) ∧
 (∀{sh},gO G t g (.new0 sh) ev h k=gV t g h (fun k=>nwK sh h k) k) ∧
 (∀{x},gO G t g (.conv .s2b x) ev h k=gV t g h (fun k=>wK (UD .s2b (ev x) h) k) k) ∧
 (∀{x},gO G t g (.conv .b2s x) ev h k=gV t g h (fun k=>wK (UD .b2s (ev x) h) k) k) ∧
 (∀{x},gO G t g (.conv .r2s x) ev h k=gV t g h (fun k=>wK (UD .r2s (ev x) h) k) k) ∧
 (∀{x},gO G t g (.conv .same x) ev h k=gV t g h (fun k=>wK (UD .same (ev x) h) k) k) ∧
 (gO G t g .mkmap ev h k=gV t g h (fun k=>mmK h k) k) ∧
 (∀{n o z x y},gO G t g (.look n o z x y) ev h k=gP t g (QA n o z (ev x) (ev y) h) h k) ∧
 (∀{n m y x},gO G t g (.mupd n m y x) ev h k=gV t g h (fun k=>wK (UA n (ev m) (ev y) (ev x) h) k) k) ∧
 (∀{n z m y},gO G t g (.ment n z m y) ev h k=gV t g h (fun k=>wK (pQ n z (ev m) (ev y) h) k) k) ∧
 (∀{m a x},gO G t g (.estore m a x) ev h k=gV t g h (fun k=>wK (nQ (ev m) (ev a) (ev x) h) k) k) ∧
 (∀{n m y},gO G t g (.mdel n m y) ev h k=gV t g h (fun k=>wK (gC n (ev m) (ev y) h) k) k) ∧
 (∀{x},gO G t g (.lenm x) ev h k=gP t g (IM (ev x) h) h k) ∧
 (∀{x},gO G t g (.mrange x) ev h k=gV t g h (fun k=>wK (EE (ev x) h) k) k) ∧
 (∀{i},gO G t g (.mentry i) ev h k=gV t g h (fun k=>wK (DE (ev i) h) k) k)
theorem w_og:∀ G,(G=opC C∨G=opE C)→OpG G:=by
 rintro G (rfl|rfl) <;> refine fun {_ _ _ _ _}=>⟨?_,?_,?_,?_,?_,?_,?_,?_,?_,?_,?_,?_,?_,?_,?_,?_,?_,?_,?_,?_,?_,?_,?_,?_,?_,?_,?_,?_,?_,?_,?_,?_,?_,?_,?_,?_,?_,?_,?_,?_,?_,?_,?_,?_,?_,?_,?_,?_⟩ <;> intros <;> rfl
theorem w_gc:OpG (opC C):=w_og _ (.inl rfl)
theorem w_ge:OpG (opE C):=w_og _ (.inr rfl)
theorem wG:(∀ {C:Hd} {t:AV} {g:Bool} {f:Nat} {a:List Opd} {ev:Opd→AV} {h:aA} {k:AV→aA→Esc→Prop},gO (opC C) t g (.call f a) ev h k=gV t g h (C f (ev1 ev a) h) k)∧(∀ {C:Hd} {t:AV} {g:Bool} {f:Opd} {a:List Opd} {ev:Opd→AV} {h:aA} {k:AV→aA→Esc→Prop},gO (opC C) t g (.callv f a) ev h k=gV t g h (HG C (ev f) (ev1 ev a) h) k) ∧
 (∀{C:Hd} {t:AV} {g:Bool} {f:Nat} {a:List Opd} {ev:Opd→AV} {h:aA} {k:AV→aA→Esc→Prop},gO (opE C) t g (.call f a) ev h k=gV t g h (wE C f (ev1 ev a) h) k)∧(∀{C:Hd} {t:AV} {g:Bool} {f:Opd} {a:List Opd} {ev:Opd→AV} {h:aA} {k:AV→aA→Esc→Prop},gO (opE C) t g (.callv f a) ev h k=gV t g h (GG C (ev f) (ev1 ev a) h) k):=⟨rfl,rfl,rfl,rfl⟩
theorem wB:(∀ {α:Type} {l:List α},[]++l=l)∧(∀ {α:Type} {a:α} {l m:List α},a::l++m=a::(l++m))∧(∀ {α:Type} {a:α} {l:List α},(a::l)[0]?=some a)∧(∀ {α:Type} {a:α} {l:List α} {i:Nat},(a::l)[i+1]?=l[i]?) ∧
 (∀{C:Hd} {gl:GL} {b:ACode} {K:KT} {s:St},ID C gl b K .normal s=NW C gl b s K)∧(∀{C:Hd} {gl:GL} {b:ACode} {K:KT} {s:St} {i:Nat},ID C gl b K (.exit i) s=K (.exit i) s)∧(∀{C:Hd} {gl:GL} {b:ACode} {K:KT} {s:St},ID C gl b K .ret s=K .ret s) ∧
 (∀{i:Nat} {K:KT} {s:St},sC i K .normal s=K .normal s)∧(∀{i j:Nat} {K:KT} {s:St},sC i K (.exit j) s=match Nat.beq j i with|true=>K .normal s|false=>K (.exit j) s)∧(∀{i:Nat} {K:KT} {s:St},sC i K .ret s=K .ret s):=
 ⟨by intros;rfl,by intros;rfl,by intros;rfl,by intros;rfl,by intros;rfl,by intros;rfl,by intros;rfl,by intros;rfl,by intro i j K s;show(bif Nat.beq j i then _ else _)=_;cases Nat.beq j i <;> rfl,by intros;rfl⟩
theorem wS:(∀ {n:Int},cI n = .c (.p (.int .i64 n)))∧(cT = .c (.p (.bool true)))∧(cF = .c (.p (.bool false)))∧(∀ {l:List UInt8},cS l = .c (.p (.str l)))∧(∀ {d:Nat} {o:AO},uO d o=⟨some d,none,o⟩)∧(∀ {o:AO},wO o=⟨none,none,o⟩)∧(∀ {d g:Nat} {b:Bool} {o:AO},gD d g b o=⟨some d,some (g,b),o⟩)∧(∀ {d:Nat} {x:Opd},mV d x=⟨some d,none,.mv x⟩) ∧
 (∀{d:Nat} {b:BinOp} {x y:Opd},bN d b x y=⟨some d,none,.bin b x y⟩)∧(∀{d f:Nat} {l:List Opd},cL d f l=⟨some d,none,.call f l⟩)∧(∀{d:Nat} {s:Sh} {x:Opd},lD d s x=⟨some d,none,.load s x⟩)∧(∀{d:Nat} {s:Sh} {x y:Opd},iA d s x y=⟨some d,none,.iaddr s x y⟩)∧(∀{d o:Nat} {s:Sh} {x:Opd},fA d o s x=⟨some d,none,.faddr o s x⟩) ∧
 (∀{d:Nat} {s:Sh} {x y:Opd},sT d s x y=⟨some d,none,.store s x y⟩)∧(∀{d:Nat} {x:Opd},lN d x=⟨some d,none,.len x⟩)∧(∀{d:Nat} {x:Opd} {i:Nat},eX d x i=⟨some d,none,.ext x i⟩)∧(∀{o:AOp} {l:List Nat},dF o l=⟨o,l,false,[],[]⟩)∧(∀{o:AOp} {l:List Nat},dT o l=⟨o,l,true,[],[]⟩)∧(∀{o:AOp} {l:List Nat} {e:Bool} {a b:List Nat},dA o l e a b=⟨o,l,e,a,b⟩) ∧
 (∀{l:List AOp} {k:List Nat},rg l k = .reg l (some k))∧(∀{l:List DOp} {k:List Nat},dr l k = .draw l (some k)):=
 ⟨rfl,rfl,rfl,rfl,rfl,rfl,rfl,rfl,rfl,rfl,rfl,rfl,rfl,rfl,rfl,rfl,rfl,rfl,rfl,rfl,rfl⟩
def wZ:=And.intro wA (And.intro wB (And.intro @w_oc (And.intro @w_oe (And.intro @w_gc (And.intro @w_ge (And.intro wG wS))))))
end Go.Am
end
section
/- The functions asv abstract code,and asv formulas FE their values: printed by program out of the translation. -/
set_option linter.all false
set_option maxRecDepth 100000
namespace Go.Am
def TQ:ACode:=.pr [4,5,6,7,8,9,10,12,13,16,17,39,40,41] (.seq (.seq (rg [mV 95 16,
bN 96 .neq 95 (cI 0)] [4,5,6,7,8,9,10,12,13,17,39,40,41,96])
(.cond 96 (.seq (rg [mV 2 cF] [2])
.ret)
.skip))
(rg [mV 97 8,
mV 98 13,
bN 99 .add 98 (cI 2),
mV 100 17,
fA 101 0 none 12,
lD 102 none 101,
uO 103 (.build [.p (.str []),.p (.int .i64 0),.p (.int .i64 0),.p (.int .i64 0),.p (.str []),.p (.str []),.p (.str []),.p (.int .i64 0)] [(2,1,99),(3,1,100),(4,1,102)]),
uO 104 (.callv 97 [103])] [4,5,6,7,8,9,10,39,40,41]))
def lV (C:Hd)(gl:GL)(e:En)(h:aA)(x:Esc)(K:KT):Sf C gl TQ e h x K:=⟨_,by simp only[TQ,↓wZ,AO.still];rfl⟩
theorem zbT {C gl e h x K}:NW C gl TQ ⟨e,h,x⟩ K=(lV C gl e h x K).1:=(lV C gl e h x K).2
def UQ:ACode:=.pr [4,5,6,7,8,9,10,12,13,39,40,41] (.seq (rg [mV 74 8,
mV 75 13,
bN 76 .add 75 (cI 1),
fA 77 0 none 12,
lD 78 none 77,
uO 79 (.build [.p (.str []),.p (.int .i64 0),.p (.int .i64 0),.p (.int .i64 0),.p (.str []),.p (.str []),.p (.str []),.p (.int .i64 0)] [(2,1,76),(3,1,(cI 2)),(4,1,78),(5,1,(cS [116,101,115,116]))]),
uO 80 (.callv 74 [79])] [4,5,6,7,8,9,10,12,13,39,40,41])
(.seq (rg [mV 82 4,
lD 83 (some 4) 12,
cL 84 EL [82,83],
mV 81 84,
eX 85 81 0,
eX 86 81 1,
eX 87 81 2,
mV 14 85,
mV 15 86,
mV 16 87] [4,5,6,7,8,9,10,12,13,14,16,39,40,41])
(.seq (rg [mV 17 (cI 4)] [4,5,6,7,8,9,10,12,13,14,16,17,39,40,41])
(.seq (.seq (rg [mV 88 14,
bN 89 .eql 88 (cI 1)] [4,5,6,7,8,9,10,12,13,16,17,39,40,41,89])
(.cond 89 (rg [mV 90 10,
fA 91 0 none 12,
lD 92 none 91,
uO 93 (.bsl false none 1 (.str []) [(0,92)]),
uO 94 (.app none 90 93),
mV 17 (cI 3),
mV 10 94] [4,5,6,7,8,9,10,12,13,16,17,39,40,41])
.skip))
TQ))))
def nV (C:Hd)(gl:GL)(e:En)(h:aA)(x:Esc)(K:KT):Sf C gl UQ e h x K:=⟨_,by simp only[UQ,↓wZ,AO.still];rfl⟩
theorem zbU {C gl e h x K}:NW C gl UQ ⟨e,h,x⟩ K=(nV C gl e h x K).1:=(nV C gl e h x K).2
def VQ:ACode:=.pr [4,5,6,7,8,9,10,39,40,41] (rg [bN 105 .add 41 (cI 1),
mV 41 105] [4,5,6,7,8,9,10,39,40,41])
def oV (C:Hd)(gl:GL)(e:En)(h:aA)(x:Esc)(K:KT):Sf C gl VQ e h x K:=⟨_,by simp only[VQ,↓wZ,AO.still];rfl⟩
theorem zbV {C gl e h x K}:NW C gl VQ ⟨e,h,x⟩ K=(oV C gl e h x K).1:=(oV C gl e h x K).2
def lK:ACode:=.pr [4,5,6,7,8,9,10,39,40,41] (.seq (rg [bN 42 .lss 41 40] [4,5,6,7,8,9,10,39,40,41,42])
(.seq (.cond 42 .skip
(.exit 0))
(.seq (.block 1 (.seq (rg [mV 43 41,
iA 44 (some 4) 39 41,
lD 45 (some 4) 44,
uO 12 (.alloc [.p (.str []),.p (.int .i64 0),.p (.str []),.sl0 none]),
mV 11 43,
wO (.store (some 4) 12 45)] [4,5,6,7,8,9,10,11,12,39,40,41])
(.seq (.seq (rg [mV 46 10,
fA 47 0 none 12,
lD 48 none 47,
cL 49 lG [46,48]] [4,5,6,7,8,9,10,11,12,39,40,41,49])
(.cond 49 (.exit 1)
.skip))
(.seq (rg [mV 50 11,
bN 51 .mul (cI 10) 50,
mV 13 51] [4,5,6,7,8,9,10,12,13,39,40,41])
(.seq (.seq (rg [mV 52 9,
fA 53 0 none 12,
lD 54 none 53,
cL 55 lG [52,54],
uO 56 (.un .not 55)] [4,5,6,7,8,9,10,12,13,39,40,41,56])
(.cond 56 (.seq (rg [mV 57 9,
fA 58 0 none 12,
lD 59 none 58,
uO 60 (.bsl false none 1 (.str []) [(0,59)]),
uO 61 (.app none 57 60),
mV 9 61] [4,5,6,7,8,9,10,12,13,39,40,41])
(rg [mV 62 8,
mV 63 13,
fA 64 0 none 12,
lD 65 none 64,
uO 66 (.build [.p (.str []),.p (.int .i64 0),.p (.int .i64 0),.p (.int .i64 0),.p (.str []),.p (.str []),.p (.str []),.p (.int .i64 0)] [(2,1,63),(3,1,(cI 1)),(4,1,65)]),
uO 67 (.callv 62 [66])] [4,5,6,7,8,9,10,12,13,39,40,41]))
(rg [mV 68 8,
mV 69 13,
fA 70 0 none 12,
lD 71 none 70,
uO 72 (.build [.p (.str []),.p (.int .i64 0),.p (.int .i64 0),.p (.int .i64 0),.p (.str []),.p (.str []),.p (.str []),.p (.int .i64 0)] [(2,1,69),(3,1,(cI 5)),(4,1,71)]),
uO 73 (.callv 68 [72])] [4,5,6,7,8,9,10,12,13,39,40,41])))
UQ)))))
VQ)))
def pV (C:Hd)(gl:GL)(e:En)(h:aA)(x:Esc)(K:KT):Sf C gl lK e h x K:=⟨_,by simp only[lK,↓wZ,AO.still];rfl⟩
theorem zbW {C gl e h x K}:NW C gl lK ⟨e,h,x⟩ K=(pV C gl e h x K).1:=(pV C gl e h x K).2
theorem zfr {C gl e h x K}:NW C gl (.loop (.scope lK)) ⟨e,h,x⟩ K=MA C gl (.scope lK) K [(4,eA e 4),(5,eA e 5),(6,eA e 6),(7,eA e 7),(8,eA e 8),(9,eA e 9),(10,eA e 10),(39,eA e 39),(40,eA e 40),(41,eA e 41)] h x:=MD
def WQ:ACode:=.pr [4,5,6,7] (.seq (rg [lD 107 (some 2) 6,
lD 108 none 7,
cL 109 AJ [107,108,(cS [116,101,115,116]),(cI 10000)],
mV 106 109,
eX 110 106 0,
eX 111 106 1,
uO 18 (.alloc [.p (.int .i64 0),.p (.int .i64 0)]),
wO (.store (some 2) 18 110),
mV 19 111] [4,5,6,7,18,19])
(.seq (rg [mV 113 4,
mV 114 5,
cL 115 HL [113,114],
mV 112 115,
eX 116 112 0,
eX 117 112 1,
uO 20 (.alloc [.p (.int .i64 0),.p (.int .i64 0)]),
wO (.store (some 2) 20 116),
mV 21 117] [5,6,7,18,19,20,21])
(.seq (rg [lD 119 (some 2) 6,
lD 120 none 7,
cL 121 BJ [119,120,(cI 10000)],
mV 118 121,
eX 122 118 0,
eX 123 118 1,
eX 124 118 2,
mV 22 122,
mV 23 123,
mV 24 124] [5,18,19,20,21,22,24])
(.seq (.seq (rg [mV 125 22,
lN 126 125,
mV 25 126] [5,18,19,20,21,24,25])
(.seq (rg [mV 127 24,
bN 128 .neq 127 (cI 0),
mV 129 128,
gD 130 129 false (.mv 25),
gD 131 129 false (.bin .gtr 130 (cI 0)),
gD 132 129 false (.mv 131),
gD 133 132 true (.mv 5),
gD 134 132 true (.len 133),
gD 135 132 true (.bin .leq 134 (cI 10)),
gD 136 129 false (.pick 132 135 cF),
uO 137 (.pick 129 cT 136)] [18,19,20,21,137])
(.cond 137 (.seq (rg [mV 2 cF] [2])
.ret)
.skip)))
(.seq (rg [mV 138 19,
mV 139 21,
bN 140 .eql 138 139,
mV 141 140,
gD 142 141 true (.load (some 2) 18),
gD 143 141 true (.load (some 2) 20),
gD 144 141 true (.eqa [0,0] false 142 143),
uO 145 (.pick 141 144 cF),
mV 146 145,
gD 147 146 true (.call tJ []),
uO 148 (.pick 146 147 cF),
mV 2 148] [2])
.ret)))))
def EH (C:Hd)(gl:GL)(e:En)(h:aA)(x:Esc)(K:KT):Sf C gl WQ e h x K:=⟨_,by simp only[WQ,↓wZ,AO.still];rfl⟩
theorem vW {C gl e h x K}:NW C gl WQ ⟨e,h,x⟩ K=(EH C gl e h x K).1:=(EH C gl e h x K).2
def DY:ACode:=(.seq (rg [mV 2 cF] [0])
(.seq (rg [mV 26 0,
uO 27 (.build [.sl0 none,.p (.int .i64 0)] [(0,1,26)]),
uO 28 (.uns 12 0 [27]),
mV 3 28] [3])
(.seq (rg [mV 29 3,
cL 30 UL [29],
mV 4 30] [3,4])
(.seq (rg [mV 31 3,
mV 32 4,
mV 33 3,
cL 34 DF [33,(cI 0),(cI 12)],
cL 35 VL [31,32,34],
mV 5 35] [4,5])
(.seq (rg [uO 36 (.bsl false none 1 (.str []) [(0,(cS [116,101,115,116]))]),
uO 37 (.build [.sl0 none,.p (.int .i64 0)] [(0,1,36),(1,1,(cI 10))]),
uO 6 (.alloc [.sl0 none,.p (.int .i64 0)]),
wO (.store (some 2) 6 37)] [4,5,6])
(.seq (rg [uO 7 (.uns 8 0 [(.c (.sl0 (some 8)))])] [4,5,6,7])
(.seq (rg [uO 38 (.mkfn sJ [7]),
mV 8 38] [4,5,6,7,8])
(.seq (rg [uO 9 (.new0 none),
uO 10 (.new0 none)] [4,5,6,7,8,9,10])
(.seq (.seq (rg [mV 39 5,
lN 40 39,
mV 41 (cI 0)] [4,5,6,7,8,9,10,39,40,41])
(.block 0 (.loop (.scope lK))))
WQ)))))))))
def HT:AFun:=⟨1,[.t 2],DY,false,false⟩
def iP (C:Hd)(gl:GL)(e:En)(h:aA)(x:Esc)(K:KT):Sf C gl DY e h x K:=⟨_,by simp only[DY,↓wZ,AO.still];rfl⟩
theorem zbS {C gl v0 h x K}:NW C gl HT.body ⟨enter [v0],h,x⟩ K=(iP C gl [(0,v0)] h x K).1:=(iP C gl [(0,v0)] h x K).2
def dK:ACode:=.pr [0,4] (.seq (rg [bN 5 .lss 4 (cI 6)] [0,4,5])
(.seq (.cond 5 .skip
(.exit 0))
(.seq (.block 1 (.seq (rg [mV 6 0,
cL 7 SL [6],
mV 3 7] [0,3,4])
(.seq (rg [mV 8 3,
cL 9 oJ [8],
bN 10 .eql 9 (cI 0)] [0,3,4,10])
(.cond 10 (.seq (rg [mV 11 3,
mV 2 11] [2])
.ret)
.skip))))
(rg [bN 12 .add 4 (cI 1),
mV 4 12] [0,4]))))
def XU (C:Hd)(gl:GL)(e:En)(h:aA)(x:Esc)(K:KT):Sf C gl dK e h x K:=⟨_,by simp only[dK,↓wZ,AO.still];rfl⟩
theorem zb1 {C gl e h x K}:NW C gl dK ⟨e,h,x⟩ K=(XU C gl e h x K).1:=(XU C gl e h x K).2
theorem zfl {C gl e h x K}:NW C gl (.loop dK) ⟨e,h,x⟩ K=MA C gl dK K [(0,eA e 0),(4,eA e 4)] h x:=FB
def NQ:ACode:=.pr [] (.seq (rg [uO 13 (.build [.p (.str []),.p (.int .i64 0),.p (.int .i64 0),.p (.int .i64 0)] [(0,1,(cS [118,111,108,116])),(2,1,(cI 10)),(3,1,(cI 5))]),
uO 14 (.bsl false (some 4) 1 (.agg [.str [],.int .i64 0,.int .i64 0,.int .i64 0]) [(0,13)]),
mV 2 14] [2])
.ret)
def YU (C:Hd)(gl:GL)(e:En)(h:aA)(x:Esc)(K:KT):Sf C gl NQ e h x K:=⟨_,by simp only[NQ,↓wZ,AO.still];rfl⟩
theorem zb2 {C gl e h x K}:NW C gl NQ ⟨e,h,x⟩ K=(YU C gl e h x K).1:=(YU C gl e h x K).2
def nY:ACode:=(.seq (rg [mV 2 (.c (.p (.sl (some 4) [])))] [0])
(.seq (.seq (rg [mV 4 (cI 0)] [0,4])
(.block 0 (.loop dK)))
NQ))
def qT:AFun:=⟨1,[.t 2],nY,false,false⟩
def UO (C:Hd)(gl:GL)(e:En)(h:aA)(x:Esc)(K:KT):Sf C gl nY e h x K:=⟨_,by simp only[nY,↓wZ,AO.still];rfl⟩
theorem zb0 {C gl v0 h x K}:NW C gl qT.body ⟨enter [v0],h,x⟩ K=(UO C gl [(0,v0)] h x K).1:=(UO C gl [(0,v0)] h x K).2
def eK:ACode:=.pr [0,1,2,8] (.seq (rg [bN 9 .lss 8 (cI 6)] [0,1,2,8,9])
(.seq (.cond 9 .skip
(.exit 0))
(.seq (.block 1 (.seq (rg [mV 10 0,
mV 11 1,
mV 12 2,
cL 13 TL [10,11,12],
mV 7 13] [0,1,2,7,8])
(.seq (rg [mV 14 1,
mV 15 7,
cL 16 XL [14,15],
bN 17 .eql 16 (cI 0)] [0,1,2,7,8,17])
(.cond 17 (.seq (rg [mV 18 7,
mV 6 18] [6])
.ret)
.skip))))
(rg [bN 19 .add 8 (cI 1),
mV 8 19] [0,1,2,8]))))
def ZU (C:Hd)(gl:GL)(e:En)(h:aA)(x:Esc)(K:KT):Sf C gl eK e h x K:=⟨_,by simp only[eK,↓wZ,AO.still];rfl⟩
theorem zb4 {C gl e h x K}:NW C gl eK ⟨e,h,x⟩ K=(ZU C gl e h x K).1:=(ZU C gl e h x K).2
theorem zfm {C gl e h x K}:NW C gl (.loop eK) ⟨e,h,x⟩ K=MA C gl eK K [(0,eA e 0),(1,eA e 1),(2,eA e 2),(8,eA e 8)] h x:=FB
def OQ:ACode:=.pr [] (.seq (rg [mV 6 (.c (.p (.sl (some 4) [])))] [6])
.ret)
def aV (C:Hd)(gl:GL)(e:En)(h:aA)(x:Esc)(K:KT):Sf C gl OQ e h x K:=⟨_,by simp only[OQ,↓wZ,AO.still];rfl⟩
theorem zb5 {C gl e h x K}:NW C gl OQ ⟨e,h,x⟩ K=(aV C gl e h x K).1:=(aV C gl e h x K).2
def oY:ACode:=(.seq (rg [mV 6 (.c (.p (.sl (some 4) [])))] [0,1,2])
(.seq (.seq (rg [mV 8 (cI 0)] [0,1,2,8])
(.block 0 (.loop eK)))
OQ))
def rT:AFun:=⟨3,[.t 6],oY,false,false⟩
def WO (C:Hd)(gl:GL)(e:En)(h:aA)(x:Esc)(K:KT):Sf C gl oY e h x K:=⟨_,by simp only[oY,↓wZ,AO.still];rfl⟩
theorem zb3 {C gl v0 v1 v2 h x K}:NW C gl rT.body ⟨enter [v0,v1,v2],h,x⟩ K=(WO C gl [(0,v0),(1,v1),(2,v2)] h x K).1:=(WO C gl [(0,v0),(1,v1),(2,v2)] h x K).2
def gY:ACode:=(.seq (rg [mV 6 (cI 0)] [0,1,2])
(.seq (.seq (rg [mV 7 2,
mV 8 1,
bN 9 .lss 7 8] [0,1,2,9])
(.cond 9 (.seq (rg [mV 10 1,
mV 6 10] [6])
.ret)
.skip))
(.seq (rg [mV 11 1,
mV 12 0,
mV 13 2,
mV 14 1,
bN 15 .sub 13 14,
bN 16 .add 15 (cI 1),
cL 17 BD [12,16],
bN 18 .add 11 17,
mV 6 18] [6])
.ret)))
def mT:AFun:=⟨3,[.t 6],gY,false,false⟩
def RO (C:Hd)(gl:GL)(e:En)(h:aA)(x:Esc)(K:KT):Sf C gl gY e h x K:=⟨_,by simp only[gY,↓wZ,AO.still];rfl⟩
theorem zbo {C gl v0 v1 v2 h x K}:NW C gl mT.body ⟨enter [v0,v1,v2],h,x⟩ K=(RO C gl [(0,v0),(1,v1),(2,v2)] h x K).1:=(RO C gl [(0,v0),(1,v1),(2,v2)] h x K).2
def EY:ACode:=(.seq (rg [uO 2 (.box 0)] [1,2])
(.seq (dr [dF (lD 3 none 1) [1],
dF (lN 4 3) [3],
dF (bN 5 .add 4 (cI 1)) [4],
dF (fA 6 0 none 2) [2],
dA (wO (.store none 6 (cS [115,97]))) [6] true [] [0],
dF (fA 7 1 none 2) [2],
dT (wO (.store none 7 5)) [7,5]] [1,2])
(rg [lD 8 none 1,
lD 9 (some 8) 2,
uO 10 (.bsl false (some 8) 1 (.agg [.str [],.int .i64 0,.int .i64 0,.int .i64 0,.str [],.str [],.str [],.int .i64 0]) [(0,9)]),
uO 11 (.app (some 8) 8 10),
wO (.store none 1 11)] [])))
def IT:AFun:=⟨2,[],EY,false,false⟩
def jP (C:Hd)(gl:GL)(e:En)(h:aA)(x:Esc)(K:KT):Sf C gl EY e h x K:=⟨_,by simp only[EY,↓wZ,AO.still];rfl⟩
theorem zbX {C gl v0 v1 h x K}:NW C gl IT.body ⟨enter [v0,v1],h,x⟩ K=(jP C gl [(0,v0),(1,v1)] h x K).1:=(jP C gl [(0,v0),(1,v1)] h x K).2
def HY:ACode:=(.seq (rg [mV 4 cF] [0,1])
(.seq (rg [mV 5 0,
mV 6 1,
cL 7 RH [5,6],
bN 8 .geq 7 (cI 0),
mV 4 8] [4])
.ret))
def DN:AFun:=⟨2,[.t 4],HY,true,false⟩
def lP (C:Hd)(gl:GL)(e:En)(h:aA)(x:Esc)(K:KT):Sf C gl HY e h x K:=⟨_,by simp only[HY,↓wZ,AO.still];rfl⟩
theorem zcg {C gl v0 v1 h x K}:NW C gl DN.body ⟨enter [v0,v1],h,x⟩ K=(lP C gl [(0,v0),(1,v1)] h x K).1:=(lP C gl [(0,v0),(1,v1)] h x K).2
def EX:ACode:=(.seq (rg [uO 3 (.box 1),
mV 4 (cI 0),
mV 5 (cI 0),
mV 6 (cI 0)] [0,3])
(.seq (.seq (rg [mV 9 0,
cL 10 iJ [9],
mV 7 10] [0,3,7])
(.seq (rg [mV 11 7,
bN 12 .neq 11 (cI 0)] [0,3,7,12])
(.cond 12 (.seq (rg [mV 13 7,
mV 4 (cI 0),
mV 5 (cI 0),
mV 6 13] [4,5,6])
.ret)
.skip)))
(.seq (.seq (rg [mV 14 0,
lD 15 (some 4) 3,
cL 16 mJ [14,15],
mV 8 16] [0,3,8])
(.seq (rg [mV 17 8,
bN 18 .neq 17 (cI 0)] [0,3,8,18])
(.cond 18 (.seq (rg [mV 19 8,
mV 4 (cI 0),
mV 5 (cI 0),
mV 6 19] [4,5,6])
.ret)
.skip)))
(.seq (dr [dF (mV 20 0) [0],
dF (lD 21 (some 4) 3) [3],
dT (cL 22 JL [20,21]) [20,21],
dF (mV 23 0) [0],
dA (lD 24 (some 4) 3) [3] false [2] [],
dT (cL 25 CF [23,24]) [23,24],
dF (mV 4 22) [22],
dF (mV 5 25) [25],
dF (mV 6 (cI 0)) []] [4,5,6])
.ret))))
def JS:AFun:=⟨2,[.t 4,.t 5,.t 6],EX,false,false⟩
def QI (C:Hd)(gl:GL)(e:En)(h:aA)(x:Esc)(K:KT):Sf C gl EX e h x K:=⟨_,by simp only[EX,↓wZ,AO.still];rfl⟩
theorem za4 {C gl v0 v1 h x K}:NW C gl JS.body ⟨enter [v0,v1],h,x⟩ K=(QI C gl [(0,v0),(1,v1)] h x K).1:=(QI C gl [(0,v0),(1,v1)] h x K).2
def SY:ACode:=(.seq (rg [uO 4 (.box 0),
uO 8 (.alloc [.p (.int .i64 0),.p (.int .i64 0)]),
mV 9 (cI 0)] [1,2,3,4,8])
(.seq (.seq (rg [lD 13 (some 2) 4,
mV 14 1,
mV 15 2,
mV 16 3,
cL 17 iM [13,14,15,16],
mV 10 17] [1,2,3,4,8,10])
(.seq (rg [mV 18 10,
bN 19 .neq 18 (cI 0)] [1,2,3,4,8,10,19])
(.cond 19 (.seq (rg [uO 20 (.build [.p (.int .i64 0),.p (.int .i64 0)] []),
mV 21 10,
wO (.store (some 2) 8 20),
mV 9 21] [8,9])
.ret)
.skip)))
(.seq (dr [dF (lD 23 (some 2) 4) [4],
dF (mV 24 1) [1],
dF (mV 25 3) [3],
dA (cL 26 TG [24,25]) [24,25] true [] [0],
dT (cL 27 FF [23,26]) [23,26],
dF (mV 28 2) [2],
dT (cL 29 fM [27,28]) [27,28],
dF (mV 22 29) [29],
dF (eX 30 22 0) [22],
dF (eX 31 22 1) [22],
dF (mV 11 30) [30],
dF (mV 12 31) [31]] [8,11,12])
(.seq (.seq (rg [mV 32 12,
bN 33 .eql 32 (cI 0)] [8,11,12,33])
(.cond 33 (.seq (rg [uO 34 (.build [.p (.int .i64 0),.p (.int .i64 0)] []),
wO (.store (some 2) 8 34),
mV 9 (cI 8)] [8,9])
.ret)
.skip))
(.seq (rg [mV 35 11,
mV 36 12,
cL 37 jG [35,36],
wO (.store (some 2) 8 37),
mV 9 (cI 0)] [8,9])
.ret)))))
def RT:AFun:=⟨4,[.cell 8 (some 2),.t 9],SY,false,false⟩
def ZI (C:Hd)(gl:GL)(e:En)(h:aA)(x:Esc)(K:KT):Sf C gl SY e h x K:=⟨_,by simp only[SY,↓wZ,AO.still];rfl⟩
theorem zcD {C gl v0 v1 v2 v3 h x K}:NW C gl RT.body ⟨enter [v0,v1,v2,v3],h,x⟩ K=(ZI C gl [(0,v0),(1,v1),(2,v2),(3,v3)] h x K).1:=(ZI C gl [(0,v0),(1,v1),(2,v2),(3,v3)] h x K).2
def IX:ACode:=(.seq (rg [uO 4 (.alloc [.p (.int .i64 0),.p (.int .i64 0)]),
mV 5 (cI 0)] [0,1,4])
(.seq (rg [mV 6 0,
mV 7 1,
cL 8 IL [6,7,(cI 1)],
eX 9 8 0,
eX 10 8 1,
wO (.store (some 2) 4 9),
mV 5 10] [4,5])
.ret))
def MS:AFun:=⟨2,[.cell 4 (some 2),.t 5],IX,false,false⟩
def CO (C:Hd)(gl:GL)(e:En)(h:aA)(x:Esc)(K:KT):Sf C gl IX e h x K:=⟨_,by simp only[IX,↓wZ,AO.still];rfl⟩
theorem za9 {C gl v0 v1 h x K}:NW C gl MS.body ⟨enter [v0,v1],h,x⟩ K=(CO C gl [(0,v0),(1,v1)] h x K).1:=(CO C gl [(0,v0),(1,v1)] h x K).2
def TY:ACode:=(.seq (rg [uO 3 (.box 0),
mV 6 (.c (.p (.sl none []))),
mV 7 (.c (.p (.sl none []))),
mV 8 (cI 0)] [1,2,3])
(.seq (.seq (rg [lD 11 (some 2) 3,
mV 12 1,
mV 13 2,
cL 14 SG [11,12,13],
mV 9 14] [1,2,3,9])
(.seq (rg [mV 15 9,
bN 16 .neq 15 (cI 0)] [1,2,3,9,16])
(.cond 16 (.seq (rg [mV 17 9,
mV 6 (.c (.p (.sl none []))),
mV 7 (.c (.p (.sl none []))),
mV 8 17] [6,7,8])
.ret)
.skip)))
(.seq (dr [dF (lD 18 (some 2) 3) [3],
dF (mV 19 1) [1],
dF (mV 20 2) [2],
dA (cL 21 TG [19,20]) [19,20] true [] [0],
dT (cL 22 FF [18,21]) [18,21],
dF (mV 10 22) [22]] [10])
(.seq (dr [dF (mV 23 10) [10],
dF (uO 24 (.nilchk 23)) [23],
dF (fA 25 6 none 24) [24],
dF (lD 26 none 25) [25],
dF (mV 27 10) [10],
dF (uO 28 (.nilchk 27)) [27],
dF (fA 29 7 none 28) [28],
dF (lD 30 none 29) [29],
dF (mV 6 26) [26],
dF (mV 7 30) [30],
dF (mV 8 (cI 0)) []] [6,7,8])
.ret))))
def ST:AFun:=⟨3,[.t 6,.t 7,.t 8],TY,false,false⟩
def wL (C:Hd)(gl:GL)(e:En)(h:aA)(x:Esc)(K:KT):Sf C gl TY e h x K:=⟨_,by simp only[TY,↓wZ,AO.still];rfl⟩
theorem zcE {C gl v0 v1 v2 h x K}:NW C gl ST.body ⟨enter [v0,v1,v2],h,x⟩ K=(wL C gl [(0,v0),(1,v1),(2,v2)] h x K).1:=(wL C gl [(0,v0),(1,v1),(2,v2)] h x K).2
def LQ:ACode:=.pr [3] (.seq (rg [mV 34 3,
mV 2 34] [2])
.ret)
def UU (C:Hd)(gl:GL)(e:En)(h:aA)(x:Esc)(K:KT):Sf C gl LQ e h x K:=⟨_,by simp only[LQ,↓wZ,AO.still];rfl⟩
theorem zbk {C gl e h x K}:NW C gl LQ ⟨e,h,x⟩ K=(UU C gl e h x K).1:=(UU C gl e h x K).2
def cY:ACode:=(.seq (rg [mV 2 (.c (.p (.sl (some 4) [])))] [0])
(.seq (rg [uO 4 (.build [.p (.str []),.p (.int .i64 0),.p (.int .i64 0),.p (.int .i64 0)] [(0,1,(cS [118,111,108,116])),(2,1,(cI 10)),(3,1,(cI 5))]),
mV 5 0,
uO 6 (.bsl false none 3 (.int .i64 0) [(0,(cI 5)),(1,(cI 6)),(2,(cI 2))]),
cL 7 MC [5,6],
uO 8 (.build [.p (.str []),.p (.int .i64 0),.p (.int .i64 0),.p (.int .i64 0)] [(0,1,(cS [97,109,112])),(1,1,(cI (-5))),(2,1,(cI 5)),(3,1,7)]),
uO 9 (.build [.p (.str []),.p (.int .i64 0),.p (.int .i64 0),.p (.int .i64 0)] [(0,1,(cS [104,122])),(1,1,(cI 3)),(2,1,(cI 8)),(3,1,(cI 9))]),
uO 10 (.bsl true (some 4) 3 (.agg [.str [],.int .i64 0,.int .i64 0,.int .i64 0]) [(0,4),(1,8),(2,9)]),
mV 11 0,
cL 12 DF [11,(cI 1),(cI 3)],
uO 13 (.slice (some 4) 10 none (some 12) none),
mV 3 13] [0,3])
(.seq (.seq (rg [mV 14 0,
cL 15 zE [14,(cI 15)]] [0,3,15])
(.cond 15 (rg [mV 16 3,
mV 17 0,
mV 18 3,
lN 19 18,
cL 20 BD [17,19],
mV 21 0,
uO 22 (.bsl false none 3 (.str []) [(0,(cS [118,111,108,116])),(1,(cS [])),(2,(cS [122]))]),
cL 23 RD [21,22],
mV 24 0,
uO 25 (.bsl false none 4 (.int .i64 0) [(0,(cI 0)),(1,(cI (-100000))),(2,(cI (-100001))),(3,(cI 20))]),
cL 26 MC [24,25],
mV 27 0,
uO 28 (.bsl false none 3 (.int .i64 0) [(0,(cI 10)),(1,(cI 100000)),(2,(cI 100001))]),
cL 29 MC [27,28],
mV 30 0,
cL 31 NH [30,(cI 2),(cI 100)],
uO 32 (.build [.p (.str []),.p (.int .i64 0),.p (.int .i64 0),.p (.int .i64 0)] [(0,1,23),(1,1,26),(2,1,29),(3,1,31)]),
iA 33 (some 4) 16 20,
wO (.store (some 4) 33 32)] [3])
.skip))
LQ)))
def iT:AFun:=⟨1,[.t 2],cY,false,false⟩
def oL (C:Hd)(gl:GL)(e:En)(h:aA)(x:Esc)(K:KT):Sf C gl cY e h x K:=⟨_,by simp only[cY,↓wZ,AO.still];rfl⟩
theorem zbj {C gl v0 h x K}:NW C gl iT.body ⟨enter [v0],h,x⟩ K=(oL C gl [(0,v0)] h x K).1:=(oL C gl [(0,v0)] h x K).2
def fK:ACode:=.pr [0,13,14,15] (.seq (rg [bN 16 .lss 15 14] [0,13,14,15,16])
(.seq (.cond 16 .skip
(.exit 1))
(.seq (.block 2 (.seq (rg [mV 17 15,
iA 18 (some 4) 13 15,
lD 19 (some 4) 18,
uO 4 (.alloc [.p (.str []),.p (.int .i64 0),.p (.int .i64 0),.p (.int .i64 0)]),
mV 3 17,
wO (.store (some 4) 4 19)] [0,3,4,13,14,15])
(.block 3 (.seq (rg [fA 21 0 none 4,
lD 22 none 21,
cL 23 QH [22],
uO 24 (.un .not 23),
mV 20 24] [0,3,4,13,14,15,20])
(.cond 20 (.seq (rg [mV 2 (cI 5)] [2])
.ret)
(.seq (dr [dF (mV 26 0) [0],
dF (mV 27 3) [3],
dF (uO 28 (.slice (some 4) 26 none (some 27) none)) [26,27],
dF (fA 29 0 none 4) [4],
dF (lD 30 none 29) [29],
dT (cL 31 YL [28,30]) [28,30],
dF (bN 32 .geq 31 (cI 0)) [31],
dF (mV 25 32) [32]] [0,4,13,14,15,25])
(.cond 25 (.seq (rg [mV 2 (cI 6)] [2])
.ret)
(.seq (rg [fA 34 1 none 4,
lD 35 none 34,
fA 36 2 none 4,
lD 37 none 36,
cL 38 AE [35,(cI (-100000)),37],
uO 39 (.un .not 38),
mV 40 39,
gD 41 40 false (.faddr 2 none 4),
gD 42 40 false (.load none 41),
gD 43 40 false (.bin .gtr 42 (cI 100000)),
uO 44 (.pick 40 cT 43),
mV 45 44,
gD 46 45 false (.faddr 3 none 4),
gD 47 45 false (.load none 46),
gD 48 45 false (.call AE [47,(cI 2),(cI 100)]),
gD 49 45 false (.un .not 48),
uO 50 (.pick 45 cT 49),
mV 33 50] [0,13,14,15,33])
(.cond 33 (.seq (rg [mV 2 (cI 1)] [2])
.ret)
.skip)))))))))
(rg [bN 51 .add 15 (cI 1),
mV 15 51] [0,13,14,15]))))
def bV (C:Hd)(gl:GL)(e:En)(h:aA)(x:Esc)(K:KT):Sf C gl fK e h x K:=⟨_,by simp only[fK,↓wZ,AO.still];rfl⟩
theorem zb9 {C gl e h x K}:NW C gl fK ⟨e,h,x⟩ K=(bV C gl e h x K).1:=(bV C gl e h x K).2
theorem zfn {C gl e h x K}:NW C gl (.loop (.scope fK)) ⟨e,h,x⟩ K=MA C gl (.scope fK) K [(0,eA e 0),(13,eA e 13),(14,eA e 14),(15,eA e 15)] h x:=MD
def PQ:ACode:=.pr [] (.seq (rg [mV 2 (cI 0)] [2])
.ret)
def cV (C:Hd)(gl:GL)(e:En)(h:aA)(x:Esc)(K:KT):Sf C gl PQ e h x K:=⟨_,by simp only[PQ,↓wZ,AO.still];rfl⟩
theorem zbA {C gl e h x K}:NW C gl PQ ⟨e,h,x⟩ K=(cV C gl e h x K).1:=(cV C gl e h x K).2
def rY:ACode:=(.seq (rg [mV 2 (cI 0)] [0])
(.seq (.block 0 (.seq (rg [mV 6 0,
lN 7 6,
bN 8 .eql 7 (cI 0),
mV 5 8] [0,5])
(.cond 5 (.seq (rg [mV 2 (cI 8)] [2])
.ret)
(.seq (rg [mV 10 0,
lN 11 10,
bN 12 .gtr 11 (cI 100),
mV 9 12] [0,9])
(.cond 9 (.seq (rg [mV 2 (cI 2)] [2])
.ret)
.skip)))))
(.seq (.seq (rg [mV 13 0,
lN 14 13,
mV 15 (cI 0)] [0,13,14,15])
(.block 1 (.loop (.scope fK))))
PQ)))
def vT:AFun:=⟨1,[.t 2],rY,false,false⟩
def VI (C:Hd)(gl:GL)(e:En)(h:aA)(x:Esc)(K:KT):Sf C gl rY e h x K:=⟨_,by simp only[rY,↓wZ,AO.still];rfl⟩
theorem zb8 {C gl v0 h x K}:NW C gl vT.body ⟨enter [v0],h,x⟩ K=(VI C gl [(0,v0)] h x K).1:=(VI C gl [(0,v0)] h x K).2
def iY:ACode:=.pr [0,1,7,8,9,11,12,13,14,29,30,31] (.seq (rg [fA 71 3 none 9,
lD 72 none 71,
mV 73 12,
uO 74 (.bsl false none 1 (.int .i64 0) [(0,73)]),
uO 75 (.app none 72 74),
fA 76 3 none 9,
wO (.store none 76 75)] [0,1,7,8,9,11,12,13,14,29,30,31])
(.seq (rg [mV 77 12,
fA 78 1 none 11,
lD 79 none 78,
bN 80 .lss 77 79,
mV 81 80,
gD 82 81 false (.mv 12),
gD 83 81 false (.faddr 2 none 11),
gD 84 81 false (.load none 83),
gD 85 81 false (.bin .gtr 82 84),
uO 86 (.pick 81 cT 85)] [0,1,7,8,9,13,14,29,30,31,86])
(.cond 86 (.exit 2)
.skip)))
def z1J (C:Hd)(gl:GL)(v0 v1 v7 v8 v9 v11 v12 v13 v14 v29 v30 v31:AV)(h:aA)(x:Esc)(K:KT):Prop:=
 pK (uB 3 none v9) fun t1=>
 pK (eB none t1 h) fun t2=>
 wK (PC false none 1 (.int .i64 0) [(0,v12)] h) fun t3 h4 y5=>
 wK (jI none t2 t3 h4) fun t6 h7 y8=>
 pK (uB 3 none v9) fun t9=>
 wK (oD none t9 t6 h7) fun t10 h11 y12=>
 pK (uB 1 none v11) fun t13=>
 pK (eB none t13 h11) fun t14=>
 pK (AA .lss v12 t14) fun t15=>
 gM t15 false v12 h11 fun t16 h17 y18=>
 gP t15 false (uB 2 none v11) h17 fun t19 h20 y21=>
 gP t15 false (eB none t19 h20) h20 fun t22 h23 y24=>
 gP t15 false (AA .gtr t16 t22) h23 fun t25 h26 y27=>
 pK (RJ t15 (AB true) t25) fun t28=>
 CC t28 (K (.exit 2) ⟨[(0,v0),(1,v1),(7,v7),(8,v8),(9,v9),(13,v13),(14,v14),(29,v29),(30,v30),(31,v31),(86,t28)],h26,(y27++(y24++(y21++(y18++(y12++(y8++(y5++x)))))))⟩)
 (K .normal ⟨[(0,v0),(1,v1),(7,v7),(8,v8),(9,v9),(13,v13),(14,v14),(29,v29),(30,v30),(31,v31),(86,t28)],h26,(y27++(y24++(y21++(y18++(y12++(y8++(y5++x)))))))⟩)
theorem zbq {C gl e h x K}:NW C gl iY ⟨e,h,x⟩ K=z1J C gl (eA e 0) (eA e 1) (eA e 7) (eA e 8) (eA e 9) (eA e 11) (eA e 12) (eA e 13) (eA e 14) (eA e 29) (eA e 30) (eA e 31) h x K:=by kernel_rfl
def jY:ACode:=.pr [0,1,7,8,9,13,14,29,30,31] (rg [bN 87 .add 31 (cI 1),
mV 31 87] [0,1,7,8,9,13,14,29,30,31])
def z1K (C:Hd)(gl:GL)(v0 v1 v7 v8 v9 v13 v14 v29 v30 v31:AV)(h:aA)(x:Esc)(K:KT):Prop:=
 pK (AA .add v31 (AI 1)) fun t1=>
 K .normal ⟨[(0,v0),(1,v1),(7,v7),(8,v8),(9,v9),(13,v13),(14,v14),(29,v29),(30,v30),(31,t1)],h,x⟩
theorem zbr {C gl e h x K}:NW C gl jY ⟨e,h,x⟩ K=z1K C gl (eA e 0) (eA e 1) (eA e 7) (eA e 8) (eA e 9) (eA e 13) (eA e 14) (eA e 29) (eA e 30) (eA e 31) h x K:=by kernel_rfl
def z03 (q1 q2:ACode):ACode:=.pr [0,1,7,8,9,13,14,29,30,31] (.seq (rg [bN 32 .lss 31 30] [0,1,7,8,9,13,14,29,30,31,32])
(.seq (.cond 32 .skip
(.exit 2))
(.seq (.block 3 (.seq (rg [iA 33 (some 4) 29 31,
lD 34 (some 4) 33,
uO 11 (.alloc [.p (.str []),.p (.int .i64 0),.p (.int .i64 0),.p (.int .i64 0)]),
wO (.store (some 4) 11 34)] [0,1,7,8,9,11,13,14,29,30,31])
(.seq (rg [mV 35 0,
fA 36 1 none 11,
lD 37 none 36,
fA 38 2 none 11,
lD 39 none 38,
fA 40 1 none 11,
lD 41 none 40,
fA 42 2 none 11,
lD 43 none 42,
bN 44 .add 41 43,
bN 45 .quo 44 (cI 2),
fA 46 1 none 11,
lD 47 none 46,
fA 48 2 none 11,
lD 49 none 48,
bN 50 .add 47 49,
bN 51 .quo 50 (cI 2),
fA 52 1 none 11,
lD 53 none 52,
bN 54 .add 53 (cI 1),
uO 55 (.bsl false none 5 (.int .i64 0) [(0,37),(1,39),(2,45),(3,51),(4,54)]),
cL 56 MC [35,55],
mV 12 56] [0,1,7,8,9,11,12,13,14,29,30,31])
(.seq (.seq (rg [mV 57 0,
cL 58 zE [57,(cI 5)]] [0,1,7,8,9,11,12,13,14,29,30,31,58])
(.cond 58 (rg [mV 59 0,
fA 60 1 none 11,
lD 61 none 60,
bN 62 .sub 61 (cI 1),
fA 63 2 none 11,
lD 64 none 63,
bN 65 .add 64 (cI 1),
fA 66 2 none 11,
lD 67 none 66,
bN 68 .add 67 (cI 7),
uO 69 (.bsl false none 3 (.int .i64 0) [(0,62),(1,65),(2,68)]),
cL 70 MC [59,69],
mV 12 70] [0,1,7,8,9,11,12,13,14,29,30,31])
.skip))
q1))))
q2)))
def OM:ACode:=z03 iY jY
def VU (C:Hd)(gl:GL)(q1 q2:ACode)(v0 v1 v7 v8 v9 v13 v14 v29 v30 v31:AV)(h:aA)(x:Esc)(K:KT):Prop:=
 pK (AA .lss v31 v30) fun t1=>
 CC t1 (pK (gE (some 4) v29 v31 h) fun t2=>
 pK (eB (some 4) t2 h) fun t3=>
 alK [.p (.str []),.p (.int .i64 0),.p (.int .i64 0),.p (.int .i64 0)] h fun t4 h5 y6=>
 wK (oD (some 4) t4 t3 h5) fun t7 h8 y9=>
 pK (uB 1 none t4) fun t10=>
 pK (eB none t10 h8) fun t11=>
 pK (uB 2 none t4) fun t12=>
 pK (eB none t12 h8) fun t13=>
 pK (uB 1 none t4) fun t14=>
 pK (eB none t14 h8) fun t15=>
 pK (uB 2 none t4) fun t16=>
 pK (eB none t16 h8) fun t17=>
 pK (AA .add t15 t17) fun t18=>
 pK (AA .quo t18 (AI 2)) fun t19=>
 pK (uB 1 none t4) fun t20=>
 pK (eB none t20 h8) fun t21=>
 pK (uB 2 none t4) fun t22=>
 pK (eB none t22 h8) fun t23=>
 pK (AA .add t21 t23) fun t24=>
 pK (AA .quo t24 (AI 2)) fun t25=>
 pK (uB 1 none t4) fun t26=>
 pK (eB none t26 h8) fun t27=>
 pK (AA .add t27 (AI 1)) fun t28=>
 wK (PC false none 5 (.int .i64 0) [(0,t11),(1,t13),(2,t19),(3,t25),(4,t28)] h8) fun t29 h30 y31=>
 C MC [v0,t29] h30 fun t32 h33 y34=>
 C zE [v0,(AI 5)] h33 fun t35 h36 y37=>
 CC t35 (pK (uB 1 none t4) fun t38=>
 pK (eB none t38 h36) fun t39=>
 pK (AA .sub t39 (AI 1)) fun t40=>
 pK (uB 2 none t4) fun t41=>
 pK (eB none t41 h36) fun t42=>
 pK (AA .add t42 (AI 1)) fun t43=>
 pK (uB 2 none t4) fun t44=>
 pK (eB none t44 h36) fun t45=>
 pK (AA .add t45 (AI 7)) fun t46=>
 wK (PC false none 3 (.int .i64 0) [(0,t40),(1,t43),(2,t46)] h36) fun t47 h48 y49=>
 C MC [v0,t47] h48 fun t50 h51 y52=>
 NW C gl q1 ⟨[(0,v0),(1,v1),(7,v7),(8,v8),(9,v9),(11,t4),(12,t50),(13,v13),(14,v14),(29,v29),(30,v30),(31,v31)],h51,(y52++(y49++(y37++(y34++(y31++(y9++(y6++x)))))))⟩ (sC 3 (ID C gl q2 K)))
 (NW C gl q1 ⟨[(0,v0),(1,v1),(7,v7),(8,v8),(9,v9),(11,t4),(12,t32),(13,v13),(14,v14),(29,v29),(30,v30),(31,v31),(58,t35)],h36,(y37++(y34++(y31++(y9++(y6++x)))))⟩ (sC 3 (ID C gl q2 K))))
 (K (.exit 2) ⟨[(0,v0),(1,v1),(7,v7),(8,v8),(9,v9),(13,v13),(14,v14),(29,v29),(30,v30),(31,v31),(32,t1)],h,x⟩)
theorem z6z {C gl q1 q2 e h x K}:NW C gl (z03 q1 q2) ⟨e,h,x⟩ K=VU C gl q1 q2 (eA e 0) (eA e 1) (eA e 7) (eA e 8) (eA e 9) (eA e 13) (eA e 14) (eA e 29) (eA e 30) (eA e 31) h x K:=by kernel_rfl
theorem zbs {C gl e h x K}:NW C gl OM ⟨e,h,x⟩ K=VU C gl iY jY (eA e 0) (eA e 1) (eA e 7) (eA e 8) (eA e 9) (eA e 13) (eA e 14) (eA e 29) (eA e 30) (eA e 31) h x K:=z6z
theorem zfj {C gl e h x K}:NW C gl (.loop (.scope OM)) ⟨e,h,x⟩ K=MA C gl (.scope OM) K [(0,eA e 0),(1,eA e 1),(7,eA e 7),(8,eA e 8),(9,eA e 9),(13,eA e 13),(14,eA e 14),(29,eA e 29),(30,eA e 30),(31,eA e 31)] h x:=MD
def PM:ACode:=.pr [0,1,7,8,9,13,14] (rg [mV 125 7,
lD 126 (some 4) 9,
uO 127 (.bsl false (some 4) 1 (.agg [.str [],.int .i64 0,.str [],.sl none []]) [(0,126)]),
uO 128 (.app (some 4) 125 127),
mV 7 128] [0,1,7,8,13,14])
def z1L (C:Hd)(gl:GL)(v0 v1 v7 v8 v9 v13 v14:AV)(h:aA)(x:Esc)(K:KT):Prop:=
 pK (eB (some 4) v9 h) fun t1=>
 wK (PC false (some 4) 1 (.agg [.str [],.int .i64 0,.str [],.sl none []]) [(0,t1)] h) fun t2 h3 y4=>
 wK (jI (some 4) v7 t2 h3) fun t5 h6 y7=>
 K .normal ⟨[(0,v0),(1,v1),(7,t5),(8,v8),(13,v13),(14,v14)],h6,(y7++(y4++x))⟩
theorem zbt {C gl e h x K}:NW C gl PM ⟨e,h,x⟩ K=z1L C gl (eA e 0) (eA e 1) (eA e 7) (eA e 8) (eA e 9) (eA e 13) (eA e 14) h x K:=by kernel_rfl
def z04 (q4:ACode):ACode:=.pr [0,1,7,8,9,13,14] (.seq (.seq (rg [mV 88 0,
cL 89 zE [88,(cI 60)]] [0,1,7,8,9,13,14,89])
(.cond 89 (.seq (rg [mV 90 0,
cL 91 BD [90,(cI 3)]] [0,1,7,8,9,13,14,91])
(.block 4 (.seq (rg [bN 103 .eql 91 (cI 0),
mV 102 103] [0,1,7,8,9,13,14,91,102])
(.cond 102 (rg [mV 104 0,
uO 105 (.bsl false none 2 (.str []) [(0,(cS [])),(1,(cS [117,49]))]),
cL 106 RD [104,105],
mV 107 0,
uO 108 (.bsl false none 2 (.str []) [(0,(cS [65])),(1,(cS [115,49]))]),
cL 109 RD [107,108],
mV 110 0,
cL 111 NH [110,(cI 0),(cI 50)],
fA 112 0 none 9,
wO (.store none 112 106),
fA 113 2 none 9,
wO (.store none 113 109),
fA 114 1 none 9,
wO (.store none 114 111)] [0,1,7,8,9,13,14])
(.seq (rg [bN 116 .eql 91 (cI 1),
mV 115 116] [0,1,7,8,9,13,14,115])
(.cond 115 (dr [dF (fA 117 3 none 9) [9],
dF (lD 118 none 117) [117],
dF (mV 119 0) [0],
dF (uO 120 (.bsl false none 3 (.int .i64 0) [(0,(cI 0)),(1,(cI 100001)),(2,(cI (-100001)))])) [],
dA (cL 121 MC [119,120]) [119,120] true [] [1],
dF (uO 122 (.bsl false none 1 (.int .i64 0) [(0,121)])) [121],
dT (uO 123 (.app none 118 122)) [118,122],
dF (fA 124 3 none 9) [9],
dT (wO (.store none 124 123)) [124,123]] [0,1,7,8,9,13,14])
(dr [dF (fA 92 3 none 9) [9],
dF (lD 93 none 92) [92],
dF (mV 94 0) [0],
dF (fA 95 3 none 9) [9],
dF (lD 96 none 95) [95],
dF (lN 97 96) [96],
dF (bN 98 .add 97 (cI 1)) [97],
dA (cL 99 BD [94,98]) [94,98] true [] [1],
dF (uO 100 (.slice none 93 none (some 99) none)) [93,99],
dF (fA 101 3 none 9) [9],
dT (wO (.store none 101 100)) [101,100]] [0,1,7,8,9,13,14])))))))
.skip))
q4)
def kY:ACode:=z04 PM
def AF (C:Hd)(gl:GL)(q4:ACode)(v0 v1 v7 v8 v9 v13 v14:AV)(h:aA)(x:Esc)(K:KT):Prop:=
 C zE [v0,(AI 60)] h fun t1 h2 y3=>
 CC t1 (C BD [v0,(AI 3)] h2 fun t4 h5 y6=>
 pK (AA .eql t4 (AI 0)) fun t7=>
 CC t7 (wK (PC false none 2 (.str []) [(0,(.p (.str []))),(1,(.p (.str [117,49])))] h5) fun t8 h9 y10=>
 C RD [v0,t8] h9 fun t11 h12 y13=>
 wK (PC false none 2 (.str []) [(0,(.p (.str [65]))),(1,(.p (.str [115,49])))] h12) fun t14 h15 y16=>
 C RD [v0,t14] h15 fun t17 h18 y19=>
 C NH [v0,(AI 0),(AI 50)] h18 fun t20 h21 y22=>
 pK (uB 0 none v9) fun t23=>
 wK (oD none t23 t11 h21) fun t24 h25 y26=>
 pK (uB 2 none v9) fun t27=>
 wK (oD none t27 t17 h25) fun t28 h29 y30=>
 pK (uB 1 none v9) fun t31=>
 wK (oD none t31 t20 h29) fun t32 h33 y34=>
 NW C gl q4 ⟨[(0,v0),(1,v1),(7,v7),(8,v8),(9,v9),(13,v13),(14,v14)],h33,(y34++(y30++(y26++(y22++(y19++(y16++(y13++(y10++(y6++(y3++x))))))))))⟩ K)
 (pK (AA .eql t4 (AI 1)) fun t35=>
 CC t35 (pK (uB 3 none v9) fun t36=>
 pK (eB none t36 h5) fun t37=>
 wK (PC false none 3 (.int .i64 0) [(0,(AI 0)),(1,(AI 100001)),(2,(AI (-100001)))] h5) fun t38 h39 y40=>
 (h39=h5∧y40=[])∧(wE C MC [v0,t38] h39 fun t41 h42 y43=>
 (pK (eB none t36 h42) fun v=>(fun u (g1:aA) (y1:Esc)=>u=t37∧g1=h42∧y1=[]) v h42 [])∧(wK (PC false none 1 (.int .i64 0) [(0,t41)] h42) fun t44 h45 y46=>
 (h45=h42∧y46=[])∧(wK (jI none t37 t44 h45) fun t47 h48 y49=>
 pK (uB 3 none v9) fun t50=>
 wK (oD none t50 t47 h48) fun t51 h52 y53=>
 NW C gl q4 ⟨[(0,v0),(1,v1),(7,v7),(8,v8),(9,v9),(13,v13),(14,v14)],h52,(y53++(y49++(y46++(y43++(y40++(y6++(y3++x)))))))⟩ K))))
 (pK (uB 3 none v9) fun t54=>
 pK (eB none t54 h5) fun t55=>
 pK (uB 3 none v9) fun t56=>
 pK (eB none t56 h5) fun t57=>
 pK (JF t57) fun t58=>
 pK (AA .add t58 (AI 1)) fun t59=>
 wE C BD [v0,t59] h5 fun t60 h61 y62=>
 (pK (eB none t54 h61) fun v=>(fun u (g1:aA) (y1:Esc)=>u=t55∧g1=h61∧y1=[]) v h61 [])∧(pK (YG none t55 none (some t60) none h61) fun t63=>
 pK (uB 3 none v9) fun t64=>
 wK (oD none t64 t63 h61) fun t65 h66 y67=>
 NW C gl q4 ⟨[(0,v0),(1,v1),(7,v7),(8,v8),(9,v9),(13,v13),(14,v14)],h66,(y67++(y62++(y6++(y3++x))))⟩ K))))
 (NW C gl q4 ⟨[(0,v0),(1,v1),(7,v7),(8,v8),(9,v9),(13,v13),(14,v14),(89,t1)],h2,(y3++x)⟩ K)
theorem z60 {C gl q4 e h x K}:NW C gl (z04 q4) ⟨e,h,x⟩ K=AF C gl q4 (eA e 0) (eA e 1) (eA e 7) (eA e 8) (eA e 9) (eA e 13) (eA e 14) h x K:=by kernel_rfl
theorem zbu {C gl e h x K}:NW C gl kY ⟨e,h,x⟩ K=AF C gl PM (eA e 0) (eA e 1) (eA e 7) (eA e 8) (eA e 9) (eA e 13) (eA e 14) h x K:=z60
def MQ:ACode:=.pr [0,1,7,8,13,14] (rg [bN 129 .add 14 (cI 1),
mV 14 129] [0,1,7,8,13,14])
def z1M (C:Hd)(gl:GL)(v0 v1 v7 v8 v13 v14:AV)(h:aA)(x:Esc)(K:KT):Prop:=
 pK (AA .add v14 (AI 1)) fun t1=>
 K .normal ⟨[(0,v0),(1,v1),(7,v7),(8,v8),(13,v13),(14,t1)],h,x⟩
theorem zbv {C gl e h x K}:NW C gl MQ ⟨e,h,x⟩ K=z1M C gl (eA e 0) (eA e 1) (eA e 7) (eA e 8) (eA e 13) (eA e 14) h x K:=by kernel_rfl
def z05 (q3 q5 q6:ACode):ACode:=.pr [0,1,7,8,13,14] (.seq (rg [bN 15 .lss 14 13] [0,1,7,8,13,14,15])
(.seq (.cond 15 .skip
(.exit 0))
(.seq (.block 1 (.seq (rg [mV 16 8,
mV 17 0,
uO 18 (.bsl false none 4 (.int .i64 0) [(0,(cI 1)),(1,(cI 1)),(2,(cI 5)),(3,(cI 0))]),
cL 19 MC [17,18],
bN 20 .add 16 19,
mV 8 20] [0,1,7,8,13,14])
(.seq (rg [mV 21 0,
uO 22 (.bsl false none 4 (.str []) [(0,(cS [117,49])),(1,(cS [117,50])),(2,(cS [117,51])),(3,(cS [117,52]))]),
cL 23 RD [21,22],
mV 24 8,
mV 25 0,
uO 26 (.bsl false none 3 (.str []) [(0,(cS [115,49])),(1,(cS [115,49])),(2,(cS [115,50]))]),
cL 27 RD [25,26],
uO 28 (.build [.p (.str []),.p (.int .i64 0),.p (.str []),.sl0 none] [(0,1,23),(1,1,24),(2,1,27)]),
uO 9 (.alloc [.p (.str []),.p (.int .i64 0),.p (.str []),.sl0 none]),
wO (.store (some 4) 9 28)] [0,1,7,8,9,13,14])
(.seq (.seq (rg [mV 29 1,
lN 30 29,
mV 31 (cI 0)] [0,1,7,8,9,13,14,29,30,31])
(.block 2 (.loop (.scope q3))))
q5))))
q6)))
def cK:ACode:=z05 OM kY MQ
def WU (C:Hd)(gl:GL)(q3 q5 q6:ACode)(v0 v1 v7 v8 v13 v14:AV)(h:aA)(x:Esc)(K:KT):Prop:=
 pK (AA .lss v14 v13) fun t1=>
 CC t1 (wK (PC false none 4 (.int .i64 0) [(0,(AI 1)),(1,(AI 1)),(2,(AI 5)),(3,(AI 0))] h) fun t2 h3 y4=>
 C MC [v0,t2] h3 fun t5 h6 y7=>
 pK (AA .add v8 t5) fun t8=>
 wK (PC false none 4 (.str []) [(0,(.p (.str [117,49]))),(1,(.p (.str [117,50]))),(2,(.p (.str [117,51]))),(3,(.p (.str [117,52])))] h6) fun t9 h10 y11=>
 C RD [v0,t9] h10 fun t12 h13 y14=>
 wK (PC false none 3 (.str []) [(0,(.p (.str [115,49]))),(1,(.p (.str [115,49]))),(2,(.p (.str [115,50])))] h13) fun t15 h16 y17=>
 C RD [v0,t15] h16 fun t18 h19 y20=>
 pK (cC [.p (.str []),.p (.int .i64 0),.p (.str []),.sl0 none] [(0,1,t12),(1,1,t8),(2,1,t18)]) fun t21=>
 alK [.p (.str []),.p (.int .i64 0),.p (.str []),.sl0 none] h19 fun t22 h23 y24=>
 wK (oD (some 4) t22 t21 h23) fun t25 h26 y27=>
 pK (JF v1) fun t28=>
 NW C gl (.loop (.scope q3)) ⟨[(0,v0),(1,v1),(7,v7),(8,t8),(9,t22),(13,v13),(14,v14),(29,v1),(30,t28),(31,(AI 0))],h26,(y27++(y24++(y20++(y17++(y14++(y11++(y7++(y4++x))))))))⟩ (sC 2 (ID C gl q5 (sC 1 (ID C gl q6 K)))))
 (K (.exit 0) ⟨[(0,v0),(1,v1),(7,v7),(8,v8),(13,v13),(14,v14),(15,t1)],h,x⟩)
theorem z61 {C gl q3 q5 q6 e h x K}:NW C gl (z05 q3 q5 q6) ⟨e,h,x⟩ K=WU C gl q3 q5 q6 (eA e 0) (eA e 1) (eA e 7) (eA e 8) (eA e 13) (eA e 14) h x K:=by kernel_rfl
theorem zbw {C gl e h x K}:NW C gl cK ⟨e,h,x⟩ K=WU C gl OM kY MQ (eA e 0) (eA e 1) (eA e 7) (eA e 8) (eA e 13) (eA e 14) h x K:=z61
theorem zfk {C gl e h x K}:NW C gl (.loop (.scope cK)) ⟨e,h,x⟩ K=MA C gl (.scope cK) K [(0,eA e 0),(1,eA e 1),(7,eA e 7),(8,eA e 8),(13,eA e 13),(14,eA e 14)] h x:=MD
def QM:ACode:=.pr [7] (.seq (rg [mV 130 7,
cL 131 xJ [130,(.f OH)]] [7])
(.seq (rg [mV 132 7,
cL 133 uJ [132,(.f PH)],
mV 6 133] [6])
.ret))
def z1N (C:Hd)(gl:GL)(v7:AV)(h:aA)(x:Esc)(K:KT):Prop:=
 C xJ [v7,(.fn OH [])] h fun t1 h2 y3=>
 C uJ [v7,(.fn PH [])] h2 fun t4 h5 y6=>
 K .ret ⟨[(6,t4)],h5,(y6++(y3++x))⟩
theorem zbx {C gl e h x K}:NW C gl QM ⟨e,h,x⟩ K=z1N C gl (eA e 7) h x K:=by kernel_rfl
def z02 (q7 q8:ACode):ACode:=(.seq (rg [mV 6 (.c (.p (.sl (some 4) [])))] [0,1,2])
(.seq (rg [uO 7 (.new0 (some 4))] [0,1,2,7])
(.seq (rg [mV 8 (cI 0)] [0,1,2,7,8])
(.seq (.seq (rg [mV 13 2,
mV 14 (cI 0)] [0,1,7,8,13,14])
(.block 0 (.loop (.scope q7))))
q8))))
def nT:AFun:=⟨3,[.t 6],z02 cK QM,false,false⟩
def SO (C:Hd)(gl:GL)(q7 q8:ACode)(v0 v1 v2:AV)(h:aA)(x:Esc)(K:KT):Prop:=
 nwK (some 4) h fun t1 h2 y3=>
 NW C gl (.loop (.scope q7)) ⟨[(0,v0),(1,v1),(7,t1),(8,(AI 0)),(13,v2),(14,(AI 0))],h2,(y3++x)⟩ (sC 0 (ID C gl q8 K))
theorem z6y {C gl q7 q8 v0 v1 v2 h x K}:NW C gl (z02 q7 q8) ⟨enter [v0,v1,v2],h,x⟩ K=SO C gl q7 q8 v0 v1 v2 h x K:=by kernel_rfl
theorem zbp {C gl v0 v1 v2 h x K}:NW C gl nT.body ⟨enter [v0,v1,v2],h,x⟩ K=SO C gl cK QM v0 v1 v2 h x K:=z6y
def iK:ACode:=.pr [0,1,17,18,19] (.seq (rg [bN 20 .lss 19 18] [0,1,17,18,19,20])
(.seq (.cond 20 .skip
(.exit 0))
(.seq (.block 1 (.seq (rg [mV 21 19,
iA 22 (some 4) 17 19,
lD 23 (some 4) 22,
uO 7 (.alloc [.p (.str []),.p (.int .i64 0),.p (.str []),.sl0 none]),
mV 6 21,
wO (.store (some 4) 7 23)] [0,1,6,7,17,18,19])
(.seq (.seq (rg [mV 24 0,
lD 25 (some 4) 7,
cL 26 aM [24,25],
mV 8 26] [0,1,6,7,8,17,18,19])
(.seq (rg [mV 27 8,
bN 28 .neq 27 (cI 0)] [0,1,6,7,8,17,18,19,28])
(.cond 28 (.seq (rg [mV 29 8,
mV 4 29] [4])
.ret)
.skip)))
(.seq (dr [dF (mV 30 6) [6],
dF (bN 31 .gtr 30 (cI 0)) [30],
dF (mV 32 31) [31],
dF (gD 33 32 true (.mv 1)) [1,32],
dF (gD 34 32 true (.mv 6)) [6,32],
dF (gD 35 32 true (.bin .sub 34 (cI 1))) [34,32],
dF (gD 36 32 true (.iaddr (some 4) 33 35)) [33,35,32],
dF (gD 37 32 true (.load (some 4) 36)) [36,32],
dF (gD 38 32 true (.load (some 4) 7)) [7,32],
dT (gD 39 32 true (.call bM [37,38])) [37,38,32],
dF (gD 40 32 true (.bin .geq 39 (cI 0))) [39,32],
dF (uO 41 (.pick 32 40 cF)) [32,40]] [0,1,17,18,19,41])
(.cond 41 (.seq (rg [mV 4 (cI 7)] [4])
.ret)
.skip)))))
(rg [bN 42 .add 19 (cI 1),
mV 19 42] [0,1,17,18,19]))))
def dV (C:Hd)(gl:GL)(e:En)(h:aA)(x:Esc)(K:KT):Sf C gl iK e h x K:=⟨_,by simp only[iK,↓wZ,AO.still];rfl⟩
theorem zbD {C gl e h x K}:NW C gl iK ⟨e,h,x⟩ K=(dV C gl e h x K).1:=(dV C gl e h x K).2
theorem zfo {C gl e h x K}:NW C gl (.loop (.scope iK)) ⟨e,h,x⟩ K=MA C gl (.scope iK) K [(0,eA e 0),(1,eA e 1),(17,eA e 17),(18,eA e 18),(19,eA e 19)] h x:=MD
def QQ:ACode:=.pr [] (.seq (rg [mV 4 (cI 0)] [4])
.ret)
def eV (C:Hd)(gl:GL)(e:En)(h:aA)(x:Esc)(K:KT):Sf C gl QQ e h x K:=⟨_,by simp only[QQ,↓wZ,AO.still];rfl⟩
theorem zbE {C gl e h x K}:NW C gl QQ ⟨e,h,x⟩ K=(eV C gl e h x K).1:=(eV C gl e h x K).2
def tY:ACode:=(.seq (rg [mV 4 (cI 0)] [0,1])
(.seq (.seq (rg [mV 9 0,
cL 10 oJ [9],
mV 5 10] [0,1,5])
(.seq (rg [mV 11 5,
bN 12 .neq 11 (cI 0)] [0,1,5,12])
(.cond 12 (.seq (rg [mV 13 5,
mV 4 13] [4])
.ret)
.skip)))
(.seq (.seq (rg [mV 14 1,
lN 15 14,
bN 16 .gtr 15 (cI 5000)] [0,1,16])
(.cond 16 (.seq (rg [mV 4 (cI 2)] [4])
.ret)
.skip))
(.seq (.seq (rg [mV 17 1,
lN 18 17,
mV 19 (cI 0)] [0,1,17,18,19])
(.block 0 (.loop (.scope iK))))
QQ))))
def xT:AFun:=⟨2,[.t 4],tY,false,false⟩
def WI (C:Hd)(gl:GL)(e:En)(h:aA)(x:Esc)(K:KT):Sf C gl tY e h x K:=⟨_,by simp only[tY,↓wZ,AO.still];rfl⟩
theorem zbC {C gl v0 v1 h x K}:NW C gl xT.body ⟨enter [v0,v1],h,x⟩ K=(WI C gl [(0,v0),(1,v1)] h x K).1:=(WI C gl [(0,v0),(1,v1)] h x K).2
def dY:ACode:=(.seq (rg [mV 4 (cI 0)] [0,1])
(.seq (rg [mV 7 0,
uO 8 (.nilchk 7),
fA 9 1 none 8,
lD 10 none 9,
bN 11 .add 10 (cI 1),
uO 12 (.nilchk 7),
fA 13 1 none 12,
wO (.store none 13 11)] [0,1])
(.seq (.seq (rg [mV 14 0,
uO 15 (.nilchk 14),
fA 16 0 none 15,
lD 17 none 16,
lN 18 17,
bN 19 .eql 18 (cI 0)] [0,1,19])
(.cond 19 (.seq (rg [mV 20 0,
uO 21 (.nilchk 20),
fA 22 1 none 21,
lD 23 none 22,
bN 24 .mul 23 (cI 7919),
mV 25 1,
cL 26 MH [24,25],
mV 4 26] [4])
.ret)
.skip))
(.seq (dr [dF (mV 27 0) [0],
dF (uO 28 (.nilchk 27)) [27],
dF (fA 29 1 none 28) [28],
dF (lD 30 none 29) [29],
dF (bN 31 .sub 30 (cI 1)) [30],
dF (mV 32 0) [0],
dF (uO 33 (.nilchk 32)) [32],
dF (fA 34 0 none 33) [33],
dF (lD 35 none 34) [34],
dF (lN 36 35) [35],
dF (bN 37 .rem 31 36) [31,36],
dF (mV 5 37) [37]] [0,1,5])
(.seq (dr [dF (mV 38 0) [0],
dF (uO 39 (.nilchk 38)) [38],
dF (fA 40 1 none 39) [39],
dF (lD 41 none 40) [40],
dF (bN 42 .sub 41 (cI 1)) [41],
dF (mV 43 0) [0],
dF (uO 44 (.nilchk 43)) [43],
dF (fA 45 0 none 44) [44],
dF (lD 46 none 45) [45],
dF (lN 47 46) [46],
dF (bN 48 .quo 42 47) [42,47],
dF (mV 6 48) [48]] [0,1,5,6])
(.seq (rg [mV 49 0,
uO 50 (.nilchk 49),
fA 51 0 none 50,
lD 52 none 51,
mV 53 5,
iA 54 none 52 53,
lD 55 none 54,
cL 56 MH [55,(cI 1073741824)],
mV 57 6,
mV 58 5,
bN 59 .add (cI 7919) 58,
bN 60 .mul 57 59,
bN 61 .add 56 60,
mV 62 1,
cL 63 MH [61,62],
mV 4 63] [4])
.ret))))))
def jT:AFun:=⟨2,[.t 4],dY,false,false⟩
def pL (C:Hd)(gl:GL)(e:En)(h:aA)(x:Esc)(K:KT):Sf C gl dY e h x K:=⟨_,by simp only[dY,↓wZ,AO.still];rfl⟩
theorem zbl {C gl v0 v1 h x K}:NW C gl jT.body ⟨enter [v0,v1],h,x⟩ K=(pL C gl [(0,v0),(1,v1)] h x K).1:=(pL C gl [(0,v0),(1,v1)] h x K).2
def rK:ACode:=.pr [0,1,7,8] (.seq (rg [bN 9 .lss 8 7] [0,1,7,8,9])
(.seq (.cond 9 .skip
(.exit 0))
(.seq (.block 1 (.seq (rg [mV 10 8,
mV 5 10] [0,1,5,7,8])
(.seq (rg [mV 11 1,
mV 12 0,
mV 13 5,
iA 14 none 12 13,
lD 15 none 14,
bN 16 .eql 11 15] [0,1,5,7,8,16])
(.cond 16 (.seq (rg [mV 17 5,
mV 4 17] [4])
.ret)
.skip))))
(rg [bN 18 .add 8 (cI 1),
mV 8 18] [0,1,7,8]))))
def BV (C:Hd)(gl:GL)(e:En)(h:aA)(x:Esc)(K:KT):Sf C gl rK e h x K:=⟨_,by simp only[rK,↓wZ,AO.still];rfl⟩
theorem zco {C gl e h x K}:NW C gl rK ⟨e,h,x⟩ K=(BV C gl e h x K).1:=(BV C gl e h x K).2
theorem zfw {C gl e h x K}:NW C gl (.loop rK) ⟨e,h,x⟩ K=MA C gl rK K [(0,eA e 0),(1,eA e 1),(7,eA e 7),(8,eA e 8)] h x:=FB
def dR:ACode:=.pr [] (.seq (rg [mV 4 (cI (-1))] [4])
.ret)
def CV (C:Hd)(gl:GL)(e:En)(h:aA)(x:Esc)(K:KT):Sf C gl dR e h x K:=⟨_,by simp only[dR,↓wZ,AO.still];rfl⟩
theorem zcp {C gl e h x K}:NW C gl dR ⟨e,h,x⟩ K=(CV C gl e h x K).1:=(CV C gl e h x K).2
def KY:ACode:=(.seq (rg [mV 4 (cI 0)] [0,1])
(.seq (.seq (rg [mV 6 0,
lN 7 6,
mV 8 (cI 0)] [0,1,7,8])
(.block 0 (.loop rK)))
dR))
def FN:AFun:=⟨2,[.t 4],KY,true,false⟩
def oP (C:Hd)(gl:GL)(e:En)(h:aA)(x:Esc)(K:KT):Sf C gl KY e h x K:=⟨_,by simp only[KY,↓wZ,AO.still];rfl⟩
theorem zcn {C gl v0 v1 h x K}:NW C gl FN.body ⟨enter [v0,v1],h,x⟩ K=(oP C gl [(0,v0),(1,v1)] h x K).1:=(oP C gl [(0,v0),(1,v1)] h x K).2
def XJ:ACode:=.pr [0,13,14,15] (.seq (rg [bN 16 .lss 15 14] [0,13,14,15,16])
(.seq (.cond 16 .skip
(.exit 1))
(.seq (.block 2 (.seq (rg [mV 17 15,
iA 18 (some 4) 13 15,
lD 19 (some 4) 18,
uO 4 (.alloc [.p (.str []),.p (.int .i64 0),.p (.int .i64 0),.p (.int .i64 0)]),
mV 3 17,
wO (.store (some 4) 4 19)] [0,3,4,13,14,15])
(.block 3 (.seq (rg [fA 21 0 none 4,
lD 22 none 21,
cL 23 QD [22],
uO 24 (.un .not 23),
mV 20 24] [0,3,4,13,14,15,20])
(.cond 20 (.seq (rg [mV 2 (cI 5)] [2])
.ret)
(.seq (dr [dF (mV 26 0) [0],
dF (mV 27 3) [3],
dF (uO 28 (.slice (some 4) 26 none (some 27) none)) [26,27],
dF (fA 29 0 none 4) [4],
dF (lD 30 none 29) [29],
dT (cL 31 NL [28,30]) [28,30],
dF (bN 32 .geq 31 (cI 0)) [31],
dF (mV 25 32) [32]] [0,4,13,14,15,25])
(.cond 25 (.seq (rg [mV 2 (cI 6)] [2])
.ret)
(.seq (rg [fA 34 1 none 4,
lD 35 none 34,
fA 36 2 none 4,
lD 37 none 36,
cL 38 OB [35,(cI (-100000)),37],
mV 39 38,
gD 40 39 false (.faddr 2 none 4),
gD 41 39 false (.load none 40),
gD 42 39 false (.bin .gtr 41 (cI 100000)),
uO 43 (.pick 39 cT 42),
mV 44 43,
gD 45 44 false (.faddr 3 none 4),
gD 46 44 false (.load none 45),
gD 47 44 false (.call OB [46,(cI 2),(cI 100)]),
uO 48 (.pick 44 cT 47),
mV 33 48] [0,13,14,15,33])
(.cond 33 (.seq (rg [mV 2 (cI 1)] [2])
.ret)
.skip)))))))))
(rg [bN 49 .add 15 (cI 1),
mV 15 49] [0,13,14,15]))))
def CU (C:Hd)(gl:GL)(e:En)(h:aA)(x:Esc)(K:KT):Sf C gl XJ e h x K:=⟨_,by simp only[XJ,↓wZ,AO.still];rfl⟩
theorem za6 {C gl e h x K}:NW C gl XJ ⟨e,h,x⟩ K=(CU C gl e h x K).1:=(CU C gl e h x K).2
theorem zfe {C gl e h x K}:NW C gl (.loop (.scope XJ)) ⟨e,h,x⟩ K=MA C gl (.scope XJ) K [(0,eA e 0),(13,eA e 13),(14,eA e 14),(15,eA e 15)] h x:=MD
def yQ:ACode:=.pr [] (.seq (rg [mV 2 (cI 0)] [2])
.ret)
def DU (C:Hd)(gl:GL)(e:En)(h:aA)(x:Esc)(K:KT):Sf C gl yQ e h x K:=⟨_,by simp only[yQ,↓wZ,AO.still];rfl⟩
theorem za7 {C gl e h x K}:NW C gl yQ ⟨e,h,x⟩ K=(DU C gl e h x K).1:=(DU C gl e h x K).2
def FX:ACode:=(.seq (rg [mV 2 (cI 0)] [0])
(.seq (.block 0 (.seq (rg [mV 6 0,
lN 7 6,
bN 8 .eql 7 (cI 0),
mV 5 8] [0,5])
(.cond 5 (.seq (rg [mV 2 (cI 8)] [2])
.ret)
(.seq (rg [mV 10 0,
lN 11 10,
bN 12 .gtr 11 (cI 100),
mV 9 12] [0,9])
(.cond 9 (.seq (rg [mV 2 (cI 2)] [2])
.ret)
.skip)))))
(.seq (.seq (rg [mV 13 0,
lN 14 13,
mV 15 (cI 0)] [0,13,14,15])
(.block 1 (.loop (.scope XJ))))
yQ)))
def KS:AFun:=⟨1,[.t 2],FX,false,false⟩
def RI (C:Hd)(gl:GL)(e:En)(h:aA)(x:Esc)(K:KT):Sf C gl FX e h x K:=⟨_,by simp only[FX,↓wZ,AO.still];rfl⟩
theorem za5 {C gl v0 h x K}:NW C gl KS.body ⟨enter [v0],h,x⟩ K=(RI C gl [(0,v0)] h x K).1:=(RI C gl [(0,v0)] h x K).2
def UX:ACode:=(.seq (rg [uO 3 (.box 1),
mV 4 (cI 0)] [0,3])
(.seq (.block 0 (.seq (rg [fA 6 0 none 3,
lD 7 none 6,
cL 8 QD [7],
uO 9 (.un .not 8),
mV 10 9,
gD 11 10 false (.faddr 2 none 3),
gD 12 10 false (.load none 11),
gD 13 10 false (.call QD [12]),
gD 14 10 false (.un .not 13),
uO 15 (.pick 10 cT 14),
mV 5 15] [0,3,5])
(.cond 5 (.seq (rg [mV 4 (cI 5)] [4])
.ret)
(.seq (rg [fA 17 1 none 3,
lD 18 none 17,
cL 19 PG [18],
uO 20 (.un .not 19),
mV 21 20,
gD 22 21 false (.faddr 3 none 3),
gD 23 21 false (.load none 22),
gD 24 21 false (.call RG [23,(.f nJ)]),
uO 25 (.pick 21 cT 24),
mV 16 25] [0,3,16])
(.cond 16 (.seq (rg [mV 4 (cI 1)] [4])
.ret)
(.seq (rg [mV 27 0,
lD 28 (some 4) 3,
cL 29 LL [27,28],
uO 30 (.un .not 29),
mV 26 30] [26])
(.cond 26 (.seq (rg [mV 4 (cI 3)] [4])
.ret)
.skip)))))))
(.seq (rg [mV 4 (cI 0)] [4])
.ret)))
def XS:AFun:=⟨2,[.t 4],UX,false,false⟩
def dG (C:Hd)(gl:GL)(e:En)(h:aA)(x:Esc)(K:KT):Sf C gl UX e h x K:=⟨_,by simp only[UX,↓wZ,AO.still];rfl⟩
theorem zaU {C gl v0 v1 h x K}:NW C gl XS.body ⟨enter [v0,v1],h,x⟩ K=(dG C gl [(0,v0),(1,v1)] h x K).1:=(dG C gl [(0,v0),(1,v1)] h x K).2
def KX:ACode:=(.seq (rg [uO 3 (.box 1),
mV 4 (cI 0)] [0,3])
(.seq (.seq (rg [mV 6 0,
lD 7 (some 4) 3,
cL 8 CF [6,7],
mV 5 8] [0,5])
(.seq (rg [mV 9 5,
bN 10 .geq 9 (cI 0)] [0,5,10])
(.cond 10 (.seq (rg [mV 11 0,
mV 12 5,
iA 13 (some 4) 11 12,
fA 14 3 none 13,
lD 15 none 14,
mV 4 15] [4])
.ret)
.skip)))
(.seq (rg [mV 4 (cI 1)] [4])
.ret)))
def OS:AFun:=⟨2,[.t 4],KX,false,false⟩
def lL (C:Hd)(gl:GL)(e:En)(h:aA)(x:Esc)(K:KT):Sf C gl KX e h x K:=⟨_,by simp only[KX,↓wZ,AO.still];rfl⟩
theorem zaF {C gl v0 v1 h x K}:NW C gl OS.body ⟨enter [v0,v1],h,x⟩ K=(lL C gl [(0,v0),(1,v1)] h x K).1:=(lL C gl [(0,v0),(1,v1)] h x K).2
def NX:ACode:=(.seq (rg [uO 3 (.box 1),
mV 4 (cI 0)] [0,3])
(.seq (rg [fA 6 3 none 3,
lD 7 none 6,
lN 8 7,
bN 9 .sub 8 (cI 1),
mV 5 9] [0,3,5])
(.seq (.seq (dr [dF (mV 10 0) [0],
dF (mV 11 5) [5],
dF (iA 12 (some 4) 10 11) [10,11],
dF (lD 13 (some 4) 12) [12],
dF (fA 14 3 none 3) [3],
dF (lD 15 none 14) [14],
dF (mV 16 5) [5],
dF (iA 17 none 15 16) [15,16],
dF (lD 18 none 17) [17],
dT (cL 19 lJ [13,18]) [13,18]] [5,19])
(.cond 19 (.seq (rg [mV 4 (cI (-1))] [4])
.ret)
.skip))
(.seq (rg [mV 20 5,
mV 4 20] [4])
.ret))))
def RS:AFun:=⟨2,[.t 4],NX,false,false⟩
def mL (C:Hd)(gl:GL)(e:En)(h:aA)(x:Esc)(K:KT):Sf C gl NX e h x K:=⟨_,by simp only[NX,↓wZ,AO.still];rfl⟩
theorem zaK {C gl v0 v1 h x K}:NW C gl RS.body ⟨enter [v0,v1],h,x⟩ K=(mL C gl [(0,v0),(1,v1)] h x K).1:=(mL C gl [(0,v0),(1,v1)] h x K).2
def CR:ACode:=.pr [9] (.seq (rg [mV 23 9,
mV 8 23] [8])
.ret)
def nW (C:Hd)(gl:GL)(e:En)(h:aA)(x:Esc)(K:KT):Sf C gl CR e h x K:=⟨_,by simp only[CR,↓wZ,AO.still];rfl⟩
theorem zdk {C gl e h x K}:NW C gl CR ⟨e,h,x⟩ K=(nW C gl e h x K).1:=(nW C gl e h x K).2
def gZ:ACode:=(.seq (rg [uO 4 (.box 0),
mV 8 (cI 0)] [1,2,3,4])
(.seq (rg [lD 10 (some 2) 4,
mV 11 1,
mV 12 3,
cL 13 SG [10,11,12],
mV 9 13] [2,4,9])
(.seq (.seq (rg [mV 14 9,
bN 15 .eql 14 (cI 0),
mV 16 15,
gD 17 16 true (.faddr 0 none 4),
gD 18 16 true (.load none 17),
gD 19 16 true (.mv 2),
gD 20 16 true (.call lG [18,19]),
gD 21 16 true (.un .not 20),
uO 22 (.pick 16 21 cF)] [9,22])
(.cond 22 (rg [mV 9 (cI 8)] [9])
.skip))
CR)))
def UT:AFun:=⟨4,[.t 8],gZ,false,false⟩
def aJ (C:Hd)(gl:GL)(e:En)(h:aA)(x:Esc)(K:KT):Sf C gl gZ e h x K:=⟨_,by simp only[gZ,↓wZ,AO.still];rfl⟩
theorem zdj {C gl v0 v1 v2 v3 h x K}:NW C gl UT.body ⟨enter [v0,v1,v2,v3],h,x⟩ K=(aJ C gl [(0,v0),(1,v1),(2,v2),(3,v3)] h x K).1:=(aJ C gl [(0,v0),(1,v1),(2,v2),(3,v3)] h x K).2
def AR:ACode:=.pr [5,6,17,18,19] (rg [bN 59 .add 19 (cI 1),
mV 19 59] [5,6,17,18,19])
def kW (C:Hd)(gl:GL)(e:En)(h:aA)(x:Esc)(K:KT):Sf C gl AR e h x K:=⟨_,by simp only[AR,↓wZ,AO.still];rfl⟩
theorem zdf {C gl e h x K}:NW C gl AR ⟨e,h,x⟩ K=(kW C gl e h x K).1:=(kW C gl e h x K).2
def EK:ACode:=.pr [5,6,17,18,19] (.seq (rg [bN 20 .lss 19 18] [5,6,17,18,19,20])
(.seq (.cond 20 .skip
(.exit 0))
(.seq (.block 1 (.seq (rg [mV 21 19,
iA 22 (some 8) 17 19,
lD 23 (some 8) 22,
uO 8 (.alloc [.p (.str []),.p (.int .i64 0),.p (.int .i64 0),.p (.int .i64 0),.p (.str []),.p (.str []),.p (.str []),.p (.int .i64 0)]),
mV 7 21,
wO (.store (some 8) 8 23)] [5,6,7,8,17,18,19])
(.seq (.seq (rg [mV 24 6,
mV 25 7,
iA 26 none 24 25,
lD 27 none 26,
uO 28 (.un .not 27),
mV 29 28,
gD 30 29 false (.faddr 3 none 8),
gD 31 29 false (.load none 30),
gD 32 29 false (.bin .eql 31 (cI 7)),
uO 33 (.pick 29 cT 32)] [5,6,7,8,17,18,19,33])
(.cond 33 (.exit 1)
.skip))
(.seq (rg [mV 34 5,
lD 35 (some 8) 8,
cL 36 EF [34,35],
mV 9 36] [5,6,7,9,17,18,19])
(.seq (rg [mV 37 9,
bN 38 .neq 37 (cI 0)] [5,6,7,9,17,18,19,38])
(.cond 38 (.seq (rg [mV 39 5,
mV 40 5,
uO 41 (.nilchk 40),
fA 42 6 none 41,
lD 43 none 42,
mV 44 7,
uO 45 (.bsl false none 1 (.int .i64 0) [(0,44)]),
uO 46 (.app none 43 45),
uO 47 (.nilchk 39),
fA 48 6 none 47,
wO (.store none 48 46)] [5,6,9,17,18,19])
(rg [mV 49 5,
mV 50 5,
uO 51 (.nilchk 50),
fA 52 7 none 51,
lD 53 none 52,
mV 54 9,
uO 55 (.bsl false none 1 (.int .i64 0) [(0,54)]),
uO 56 (.app none 53 55),
uO 57 (.nilchk 49),
fA 58 7 none 57,
wO (.store none 58 56)] [5,6,17,18,19]))
.skip))))))
AR)))
def lW (C:Hd)(gl:GL)(e:En)(h:aA)(x:Esc)(K:KT):Sf C gl EK e h x K:=⟨_,by simp only[EK,↓wZ,AO.still];rfl⟩
theorem zdg {C gl e h x K}:NW C gl EK ⟨e,h,x⟩ K=(lW C gl e h x K).1:=(lW C gl e h x K).2
theorem zf8 {C gl e h x K}:NW C gl (.loop (.scope EK)) ⟨e,h,x⟩ K=MA C gl (.scope EK) K [(5,eA e 5),(6,eA e 6),(17,eA e 17),(18,eA e 18),(19,eA e 19)] h x:=MD
def BR:ACode:=.pr [5] (.seq (rg [mV 60 5,
mV 4 60] [4])
.ret)
def mW (C:Hd)(gl:GL)(e:En)(h:aA)(x:Esc)(K:KT):Sf C gl BR e h x K:=⟨_,by simp only[BR,↓wZ,AO.still];rfl⟩
theorem zdh {C gl e h x K}:NW C gl BR ⟨e,h,x⟩ K=(mW C gl e h x K).1:=(mW C gl e h x K).2
def eZ:ACode:=(.seq (rg [uO 2 (.uns 12 0 [0]),
mV 4 (.c (.nilp))] [1,2])
(.seq (rg [lD 10 (some 2) 2,
uO 11 (.mkmap),
uO 12 (.mkmap),
uO 13 (.build [.sl0 none,.p (.int .i64 0),.nilm,.nilm,.sl0 (some 5),.sl0 (some 3),.sl0 none,.sl0 none] [(0,2,10),(2,1,11),(3,1,12)]),
uO 14 (.uns 12 0 [13]),
mV 5 14] [1,5])
(.seq (rg [mV 15 1,
cL 16 DJ [15],
mV 6 16] [1,5,6])
(.seq (.seq (rg [mV 17 1,
lN 18 17,
mV 19 (cI 0)] [5,6,17,18,19])
(.block 0 (.loop (.scope EK))))
BR))))
def RN:AFun:=⟨2,[.t 4],eZ,false,false⟩
def AP (C:Hd)(gl:GL)(e:En)(h:aA)(x:Esc)(K:KT):Sf C gl eZ e h x K:=⟨_,by simp only[eZ,↓wZ,AO.still];rfl⟩
theorem zde {C gl v0 v1 h x K}:NW C gl RN.body ⟨enter [v0,v1],h,x⟩ K=(AP C gl [(0,v0),(1,v1)] h x K).1:=(AP C gl [(0,v0),(1,v1)] h x K).2
def GK:ACode:=.pr [0,1,5] (.seq (.seq (rg [mV 8 5,
bN 9 .gtr 8 (cI 0),
mV 10 9,
gD 11 10 true (.mv 0),
gD 12 10 true (.mv 5),
gD 13 10 true (.bin .sub 12 (cI 1)),
gD 14 10 true (.iaddr (some 8) 11 13),
gD 15 10 true (.faddr 2 none 14),
gD 16 10 true (.load none 15),
gD 17 10 true (.mv 1),
gD 18 10 true (.bin .gtr 16 17),
uO 19 (.pick 10 18 cF)] [0,1,5,19])
(.cond 19 .skip
(.exit 0)))
(.block 1 (rg [mV 20 5,
bN 21 .sub 20 (cI 1),
mV 5 21] [0,1,5])))
def qW (C:Hd)(gl:GL)(e:En)(h:aA)(x:Esc)(K:KT):Sf C gl GK e h x K:=⟨_,by simp only[GK,↓wZ,AO.still];rfl⟩
theorem zdp {C gl e h x K}:NW C gl GK ⟨e,h,x⟩ K=(qW C gl e h x K).1:=(qW C gl e h x K).2
theorem zfA {C gl e h x K}:NW C gl (.loop GK) ⟨e,h,x⟩ K=MA C gl GK K [(0,eA e 0),(1,eA e 1),(5,eA e 5)] h x:=FB
def ER:ACode:=.pr [0,5] (.seq (rg [mV 22 0,
mV 23 5,
uO 24 (.slice (some 8) 22 none (some 23) none),
mV 4 24] [4])
.ret)
def rW (C:Hd)(gl:GL)(e:En)(h:aA)(x:Esc)(K:KT):Sf C gl ER e h x K:=⟨_,by simp only[ER,↓wZ,AO.still];rfl⟩
theorem zdq {C gl e h x K}:NW C gl ER ⟨e,h,x⟩ K=(rW C gl e h x K).1:=(rW C gl e h x K).2
def iZ:ACode:=(.seq (rg [mV 4 (.c (.p (.sl (some 8) [])))] [0,1])
(.seq (rg [mV 6 0,
lN 7 6,
mV 5 7] [0,1,5])
(.seq (.block 0 (.loop GK))
ER)))
def UN:AFun:=⟨2,[.t 4],iZ,false,false⟩
def CP (C:Hd)(gl:GL)(e:En)(h:aA)(x:Esc)(K:KT):Sf C gl iZ e h x K:=⟨_,by simp only[iZ,↓wZ,AO.still];rfl⟩
theorem zdo {C gl v0 v1 h x K}:NW C gl UN.body ⟨enter [v0,v1],h,x⟩ K=(CP C gl [(0,v0),(1,v1)] h x K).1:=(CP C gl [(0,v0),(1,v1)] h x K).2
def vR:ACode:=.pr [1,4,5,6,13,14,15] (rg [bN 38 .add 15 (cI 1),
mV 15 38] [1,4,5,6,13,14,15])
def dW (C:Hd)(gl:GL)(e:En)(h:aA)(x:Esc)(K:KT):Sf C gl vR e h x K:=⟨_,by simp only[vR,↓wZ,AO.still];rfl⟩
theorem zcW {C gl e h x K}:NW C gl vR ⟨e,h,x⟩ K=(dW C gl e h x K).1:=(dW C gl e h x K).2
def DK:ACode:=.pr [1,4,5,6,13,14,15] (.seq (rg [bN 16 .lss 15 14] [1,4,5,6,13,14,15,16])
(.seq (.cond 16 .skip
(.exit 0))
(.seq (.block 1 (.seq (rg [iA 17 (some 5) 13 15,
lD 18 (some 5) 17,
uO 8 (.alloc [.p (.str []),.p (.str []),.p (.int .i64 0),.p (.int .i64 0),.p (.bool false)]),
wO (.store (some 5) 8 18)] [1,4,5,6,8,13,14,15])
(.seq (.seq (rg [fA 19 1 none 8,
lD 20 none 19,
mV 21 1,
bN 22 .neq 20 21,
mV 23 22,
gD 24 23 false (.mv 6),
gD 25 23 false (.faddr 0 none 8),
gD 26 23 false (.load none 25),
gD 27 23 false (.look (none,[2]) false (AB false) 24 26),
uO 28 (.pick 23 cT 27)] [1,4,5,6,8,13,14,15,28])
(.cond 28 (.exit 1)
.skip))
(.seq (rg [mV 29 6,
fA 30 0 none 8,
lD 31 none 30,
wO (.mupd (none,[2]) 29 31 cT)] [1,4,5,6,8,13,14,15])
(.seq (rg [mV 32 5,
bN 33 .add 32 (cI 1),
mV 5 33] [1,4,5,6,8,13,14,15])
(.seq (rg [fA 34 4 none 8,
lD 35 none 34] [1,4,5,6,13,14,15,35])
(.cond 35 (rg [mV 36 4,
bN 37 .add 36 (cI 1),
mV 4 37] [1,4,5,6,13,14,15])
.skip)))))))
vR)))
def eW (C:Hd)(gl:GL)(e:En)(h:aA)(x:Esc)(K:KT):Sf C gl DK e h x K:=⟨_,by simp only[DK,↓wZ,AO.still];rfl⟩
theorem zcX {C gl e h x K}:NW C gl DK ⟨e,h,x⟩ K=(eW C gl e h x K).1:=(eW C gl e h x K).2
theorem zf7 {C gl e h x K}:NW C gl (.loop (.scope DK)) ⟨e,h,x⟩ K=MA C gl (.scope DK) K [(1,eA e 1),(4,eA e 4),(5,eA e 5),(6,eA e 6),(13,eA e 13),(14,eA e 14),(15,eA e 15)] h x:=MD
def wR:ACode:=.pr [4,5] (.seq (rg [mV 39 4,
mV 40 5,
mV 4 39,
mV 5 40] [4,5])
.ret)
def fW (C:Hd)(gl:GL)(e:En)(h:aA)(x:Esc)(K:KT):Sf C gl wR e h x K:=⟨_,by simp only[wR,↓wZ,AO.still];rfl⟩
theorem zcY {C gl e h x K}:NW C gl wR ⟨e,h,x⟩ K=(fW C gl e h x K).1:=(fW C gl e h x K).2
def bZ:ACode:=(.seq (rg [mV 4 (cI 0),
mV 5 (cI 0)] [0,1,4,5])
(.seq (rg [uO 9 (.mkmap),
mV 6 9] [0,1,4,5,6])
(.seq (.seq (rg [mV 10 0,
uO 11 (.nilchk 10),
fA 12 4 none 11,
lD 13 none 12,
lN 14 13,
mV 15 (cI 0)] [1,4,5,6,13,14,15])
(.block 0 (.loop (.scope DK))))
wR)))
def TT:AFun:=⟨2,[.t 4,.t 5],bZ,false,false⟩
def zP (C:Hd)(gl:GL)(e:En)(h:aA)(x:Esc)(K:KT):Sf C gl bZ e h x K:=⟨_,by simp only[bZ,↓wZ,AO.still];rfl⟩
theorem zcV {C gl v0 v1 h x K}:NW C gl TT.body ⟨enter [v0,v1],h,x⟩ K=(zP C gl [(0,v0),(1,v1)] h x K).1:=(zP C gl [(0,v0),(1,v1)] h x K).2
end Go.Am
end
