import Derived.KernelRfl
import Derived.Test.YthofcepomhnpdaaGreatlawST3
set_option linter.all false
set_option maxRecDepth 100000
set_option maxHeartbeats 0
namespace Go.Am
section
variable {C:Hd} {gl:Nat->Option PV} {e:List (Nat × AV)} {h:aA} {x:Esc} {K:Ex->St->Prop} {s:St}
abbrev AI (n:Int):AV:=.p (.int .i64 n)
abbrev AB (b:Bool):AV:=.p (.bool b)
def mD (C:Hd)(gl:Nat->Option PV)(b:ACode)(K:Ex->St->Prop)(e:Ex)(s:St):Prop:=match e with
 | .normal=>NW C gl b s K
 | .exit i=>K (.exit i) s
 | .ret=>K .ret s
def iC (id:Nat)(K:Ex->St->Prop)(e:Ex)(s:St):Prop:=match e with
 | .normal=>K .normal s
 | .exit i=>bif Nat.beq i id then K .normal s else K (.exit i) s
 | .ret=>K .ret s
def nqK (sh:Option Sh)(l:List AV)(h:aA)(k:AV->aA->Esc->Prop):Prop:=match BT h sh l with
 | some l=>l≠[]/\∀y∈l,k y.1 y.2 []
 | none=>False
def nxK (i:AV)(h:aA)(k:AV->aA->Esc->Prop):Prop:=match dR h i with
 | some l=>l≠[]/\∀y∈l,k y.1 y.2 []
 | none=>False
def gv (gl:Nat->Option PV)(n:Nat):AV:=match gl n with|some v=>.vp v|none=>.und
theorem zec {b:ACode}:mD C gl b K .normal s=NW C gl b s K:=(rfl)
theorem zee {b:ACode}:mD C gl b K .ret s=K .ret s:=(rfl)
theorem z97 {i:Nat}:iC i K .normal s=K .normal s:=(rfl)
theorem z99 {i:Nat}:iC i K (.exit i) s=K .normal s:=by simp [iC]
theorem z98 {i:Nat}:iC i K .ret s=K .ret s:=(rfl)
theorem zf1 {b:ACode}:NW C gl (.scope b) ⟨e,h,x⟩ K=NW C gl b ⟨e,h,[]⟩ (z8c h.length x K):=(rfl)
theorem zf0 {c:ACode}{s s':St}(hs:s=s'):NW C gl c s K=NW C gl c s' K:=by rw[hs]
def yA (C:Hd)(gl:Nat->Option PV)(b:ACode)(K:Ex->St->Prop)(e:List (Nat × AV))(h:aA)(x:Esc):Prop:=ALoop (NW C gl b) K ⟨e,h,x⟩
theorem mB {l:List Nat}{b:ACode}:NW C gl (.loop (.pr l b)) ⟨e,h,x⟩ K=yA C gl (.pr l b) K (IA (some l) e) h x:=by
 show ALoop _ _ _=ALoop _ _ _
 exact z84 (funext λR=>by show NW C gl b _ R=NW C gl b _ R;dsimp only;rw[zdg])
theorem wC {l:List Nat}{b:ACode}:NW C gl (.loop (.scope (.pr l b))) ⟨e,h,x⟩ K=yA C gl (.scope (.pr l b)) K (IA (some l) e) h x:=by
 show ALoop _ _ _=ALoop _ _ _
 exact z84 (funext λR=>by show NW C gl b _ _=NW C gl b _ _;dsimp only;rw[zdg])
theorem zfz {b:ACode}{e e':List (Nat × AV)}{h h':aA}{x x':Esc}(h1:e=e')(h2:h=h')(h3:x=x'):yA C gl b K e h x=yA C gl b K e' h' x':=by rw[h1,h2,h3]
theorem DA {σ:Type}{b:ACode}(S:σ->St)(P:σ->Prop)(m:σ->Nat)(t0:σ)(hs:(⟨e,h,x⟩:St)=S t0)(h0:P t0)(hr:∀ t,P t->NW C gl b (S t) (ZQ S P m K t)):yA C gl b K e h x:=by
 show ALoop (NW C gl b) K _
 rw[hs];have key:∀n t,m t<n->P t->ALoop (NW C gl b) K (S t):=by
  intro n;induction n with
  | zero=>intro t h;omega
  | succ n ih=>
   intro t hm hp;refine .mk _ _ (hr t hp) (λs' h'=>?_) (λi s' h'=>h') (λs' h'=>h')
   obtain⟨u,rfl,hu,hlt⟩:=h';exact ih u (by omega) hu
 exact key _ t0 (Nat.lt_succ_self _) h0
theorem tA {X:Ctx}{f:Nat}{F:AFun}{a asv:List AV}{h h1:aA}{P:jA}(hf:X.fn f=some F)(hr:F.byref=false)(hp:oA h a=some (asv,h1))(hl:asv.length=F.nparams)(hd:F.isDet=false:=by rfl) :
 gA X f a h P=NW (gA X) X.gl F.body ⟨enter asv,h1,[]⟩ (nA F.results F.keep h.length P):=by
 rw[zum hf hr hp hl hd,NE]
theorem FI {X:Ctx}{f:Nat}{F:AFun}{a asv:List AV}{h h1:aA}{P:jA}(hf:X.fn f=some F)(hr:F.byref=false)(hp:oA h a=some (asv,h1))(hl:asv.length=F.nparams)(hd:F.isDet=true:=by rfl) :
 gA X f a h P = ∃v h' x,P v h' x/\NW (gA X) X.gl F.body ⟨enter asv,h1,[]⟩ (nA F.results F.keep h.length λv1 h1 x1=>v1=v/\h1=h'/\x1=x):=by
 rw[zun hf hr hp hl hd];simp only[NE]
theorem SD {X:Ctx}{f:Nat}{F:AFun}{asv:List AV}{h:aA}{P:jA}(hf:X.fn f=some F)(hr:F.byref=true)(hl:asv.length=F.nparams)(hd:F.isDet=false:=by rfl) :
 gA X f asv h P=NW (gA X) X.gl F.body ⟨enter asv,h,[]⟩ (nA F.results F.keep h.length P):=by
 rw[zuk hf hr hl hd,NE]
theorem zcV {v:AV}{k:AV->Prop}:pK (some v) k=k v:=(rfl)
theorem zcU {k:AV->Prop}:pK none k=False:=(rfl)
theorem zeG {v:AV}{h:aA}{x:Esc}{k:AV->aA->Esc->Prop}:wK (some (v,h,x)) k=k v h x:=(rfl)
theorem zeE {k:AV->aA->Esc->Prop}:wK none k=False:=(rfl)
theorem zr6 {p:Prop}[Decidable p]{a b:Option AV}{k:AV->Prop}:pK (if p then a else b) k=if p then pK a k else pK b k:=by split <;> rfl
theorem zuZ {p:Prop}[Decidable p]{a b:Option (AV × aA × Esc)}{k:AV->aA->Esc->Prop}:wK (if p then a else b) k=if p then wK a k else wK b k:=by split <;> rfl
theorem zr5 {o o':Option AV}{k:AV->Prop}(h:o=o'):pK o k=pK o' k:=by rw[h]
theorem zuY {o o':Option (AV × aA × Esc)}{k:AV->aA->Esc->Prop}(h:o=o'):wK o k=wK o' k:=by rw[h]
theorem zoI {v v':AV}{b:Bool}{h:aA}{A:(AV->aA->Esc->Prop)->Prop}{k:AV->aA->Esc->Prop}(h1:v=v'):gV v b h A k=gV v' b h A k:=by rw[h1]
theorem zoG {v v':AV}{b:Bool}{o:Option AV}{h:aA}{k:AV->aA->Esc->Prop}(h1:v=v'):gP v b o h k=gP v' b o h k:=by rw[h1]
theorem zoE {v v':AV}{b:Bool}{u:AV}{h:aA}{k:AV->aA->Esc->Prop}(h1:v=v'):gM v b u h k=gM v' b u h k:=by rw[h1]
section
variable {A:(AV->aA->Esc->Prop)->Prop} {o:Option AV} {u:AV} {k:AV->aA->Esc->Prop} {t b:Bool}
theorem zbG:gV (.p (.bool true)) true h A k=A k:=(rfl)
theorem zbC:gV (.p (.bool false)) false h A k=A k:=(rfl)
theorem zbF:gV (.p (.bool true)) false h A k=k .skp h []:=(rfl)
theorem zbD:gV (.p (.bool false)) true h A k=k .skp h []:=(rfl)
theorem zbE:gV .skp b h A k=k .skp h []:=(rfl)
theorem zoH:gV (.p (.bool t)) b h A k=mF (.p (.bool t)) b (A k) (k .skp h []):=(rfl)
theorem zbB:gP (.p (.bool true)) true o h k=pK o λv=>k v h []:=(rfl)
theorem zb7:gP (.p (.bool false)) false o h k=pK o λv=>k v h []:=(rfl)
theorem zbA:gP (.p (.bool true)) false o h k=k .skp h []:=(rfl)
theorem zb8:gP (.p (.bool false)) true o h k=k .skp h []:=(rfl)
theorem zb9:gP .skp b o h k=k .skp h []:=(rfl)
theorem zoF:gP (.p (.bool t)) b o h k=mF (.p (.bool t)) b (pK o λv=>k v h []) (k .skp h []):=(rfl)
theorem zb6:gM (.p (.bool true)) true u h k=k u h []:=(rfl)
theorem zb2:gM (.p (.bool false)) false u h k=k u h []:=(rfl)
theorem zb5:gM (.p (.bool true)) false u h k=k .skp h []:=(rfl)
theorem zb3:gM (.p (.bool false)) true u h k=k .skp h []:=(rfl)
theorem zb4:gM .skp b u h k=k .skp h []:=(rfl)
theorem zoD:gM (.p (.bool t)) b u h k=mF (.p (.bool t)) b (k u h []) (k .skp h []):=(rfl)
end
section
variable {k k':IntKind} {a b:Int} {sa sb:List UInt8}
theorem zgf:CA .add (.p (.int k a)) (.p (.int k b))=some (.p (.int k (k.wrap (a+b)))):=by simp [CA,DC,YD]
theorem zgq:CA .sub (.p (.int k a)) (.p (.int k b))=some (.p (.int k (k.wrap (a-b)))):=by simp [CA,DC,YD]
theorem zgl:CA .mul (.p (.int k a)) (.p (.int k b))=some (.p (.int k (k.wrap (a*b)))):=by simp [CA,DC,YD]
theorem zgo:CA .quo (.p (.int k a)) (.p (.int k b))=if b=0 then none else some (.p (.int k (k.wrap (a.tdiv b)))):=by simp [CA,DC,YD] <;> split <;> rfl
theorem zgp:CA .rem (.p (.int k a)) (.p (.int k b))=if b=0 then none else some (.p (.int k (a.tmod b))):=by simp [CA,DC,YD] <;> split <;> rfl
theorem zgg:CA .eql (.p (.int k a)) (.p (.int k b))=some (.p (.bool (decide (a=b)))):=by simp [CA,DC,YD]
theorem zgm:CA .neq (.p (.int k a)) (.p (.int k b))=some (.p (.bool (!decide (a=b)))):=by simp [CA,DC,YD]
theorem zgk:CA .lss (.p (.int k a)) (.p (.int k b))=some (.p (.bool (decide (a<b)))):=by simp [CA,DC,YD]
theorem zgj:CA .leq (.p (.int k a)) (.p (.int k b))=some (.p (.bool (decide (a<=b)))):=by simp [CA,DC,YD]
theorem zgi:CA .gtr (.p (.int k a)) (.p (.int k b))=some (.p (.bool (decide (b<a)))):=by simp [CA,DC,YD]
theorem zgh:CA .geq (.p (.int k a)) (.p (.int k b))=some (.p (.bool (decide (b<=a)))):=by simp [CA,DC,YD]
theorem zuv:CA .eql (.p (.str sa)) (.p (.str sb))=some (.p (.bool (decide (sa=sb)))):=by simp [CA,DC,EJ]
theorem zuy:CA .neq (.p (.str sa)) (.p (.str sb))=some (.p (.bool (!decide (sa=sb)))):=by simp [CA,DC,EJ]
theorem zux:CA .lss (.p (.str sa)) (.p (.str sb))=some (.p (.bool (Op.bytesLess sa sb))):=by simp [CA,DC,EJ]
theorem zuS:oUn .neg (.p (.int k a))=some (.p (.int k (k.wrap (-a)))):=by simp [oUn,aun]
theorem zuT {t:Bool}:oUn .not (.p (.bool t))=some (.p (.bool !t)):=(rfl)
theorem convI {k':IntKind}:jR k (.p (.int k' a))=some (.p (.int k (k.wrap a))):=(rfl)
theorem zrw {i j:Nat}:qR (.ref i j)=some (.ref i j):=(rfl)
theorem zrF {t:Bool}{u v:AV}:jD (.p (.bool t)) u v=some (bif t then u else v):=(rfl)
theorem zqG {sh:Sh}{xs:List PV}:jJ (.p (.sl sh xs))=some (.p (.int .i64 xs.length)):=(rfl)
theorem zqF {i g o l:Nat}:jJ (.own i g o l)=some (.p (.int .i64 l)):=(rfl)
theorem zqI:pR (.p (.str sa))=some (.p (.int .i64 sa.length)):=(rfl)
theorem ext_t {vs:List AV}{i:Nat}:oC (.tup vs) i=vs[i]?:=(rfl)
theorem zow {off i j:Nat}{sh:Sh}:RA off sh (.ref i j)=some (.ref i (j+off)):=(rfl)
theorem zox {off i j m n:Nat}{sh:Sh}:RA off sh (.rref i j m n)=some (.rref i j m (n+off)):=(rfl)
theorem zoy {off:Nat}{sh:Sh}{v:PV}:RA off sh (.vp v)=(NA sh off v).map .vp:=(rfl)
theorem zo3 {off:Nat}{sh:Sh}{cs:List PV}:kR off sh (.p (.agg cs))=(NA sh off (.agg cs)).map .p:=(rfl)
def ldB (sh:Sh)(off:Nat):Option Obj->Option AV
 | some (.box cs)=>cut sh off cs
 | _=>none
def ldR (sh:Sh)(g i off:Nat):Option Obj->Option AV
 | some (.row _ xs _)=>if g=xs.length then((xs[i]?).bind (NA sh off)).map .p else none
 | _=>none
theorem zqO {sh:Sh}{i j:Nat}:uA sh (.ref i j) h=ldB sh j h[i]?:=by unfold uA ldB;rfl
theorem zcq {sh:Sh}{i g m n:Nat}:uA sh (.rref i g m n) h=ldR sh g m n h[i]?:=by unfold uA ldR;rfl
theorem zcr {sh:Sh}{v:PV}:uA sh (.vp v) h=(NA sh 0 v).map .p:=(rfl)
theorem zqC {sh:Sh}{off:Nat}{cs:List AV}:ldB sh off (some (.box cs))=cut sh off cs:=(rfl)
theorem zcm {sh sh':Sh}{g i off fz:Nat}{xs:List PV}:ldR sh g i off (some (.row sh' xs fz))=if g=xs.length then((xs[i]?).bind (NA sh off)).map .p else none:=(rfl)
def stB (sh:Sh)(id off:Nat)(v:AV)(h:aA):Option Obj->Option (List AV)->Option (AV×aA×Esc)
 | some (.box cs),some vs=>if vs.length=kA sh/\off+vs.length<=cs.length then some (.und,h.set id (.box (splice cs off vs)),kH id cs v) else none
 | _,_=>none
theorem zut {sh:Sh}{i j:Nat}{v:AV}:vB sh (.ref i j) v h=stB sh i j v h h[i]? v.cells:=by unfold vB stB;rfl
theorem ztX {sh:Sh}{id off:Nat}{v:AV}{cs vs:List AV}:stB sh id off v h (some (.box cs)) (some vs)=if vs.length=kA sh/\off+vs.length<=cs.length then some (.und,h.set id (.box (splice cs off vs)),kH id cs v) else none:=(rfl)
theorem znZ {id:Nat}{cs:List AV}{v:PV}:kH id cs (.p v)=[]:=by
 unfold kH;cases cJ cs&&decide (AV.top (.p v)<=AV.tops cs) <;> rfl
theorem znY {id:Nat}{cs:List AV}{v:AV}(h:cJ cs=false):kH id cs v=dC id v:=by
 unfold kH;rw[h];rfl
theorem zpn {a:AV}{v:PV}:cJ [a,.p v]=false:=(rfl)
theorem zpl {a:AV}:cJ [a]=false:=(rfl)
theorem zpm {a b c:AV}{l:List AV}:cJ (a::b::c::l)=false:=by unfold cJ;split <;> first|rfl|(rename_i h;simp at h)
def stE (sh:Sh)(id i off fz:Nat)(rsh:Sh)(xs:List PV)(v:PV)(h1:aA):Option PV->Option (AV×aA×Esc)
 | some (.agg cs)=>if off+v.cells.length<=cs.length then some (.und,h1.set id (.row rsh (xs.set i (.agg (splice cs off v.cells))) fz),[]) else none
 | some _=>if off=0/\v.sc then some (.und,h1.set id (.row rsh (xs.set i v) fz),[]) else none
 | none=>none
def stO (sh:Sh)(id g i off:Nat)(v:PV)(h1:aA):Option Obj->Option (AV×aA×Esc)
 | some (.row rsh xs fz)=>if g=xs.length/\fz<=i/\v.cells.length=kA sh/\v.cells.all PV.sc then stE sh id i off fz rsh xs v h1 xs[i]? else none
 | _=>none
def stR (sh:Sh)(id g i off:Nat):Option (PV×aA)->Option (AV×aA×Esc)
 | some y=>stO sh id g i off y.1 y.2 y.2[id]?
 | none=>none
theorem zuu {sh:Sh}{id g i off:Nat}{x:AV}:vB sh (.rref id g i off) x h=stR sh id g i off (pur h x):=by
 unfold vB stR;cases pur h x with
 | none=>rfl
 | some y=>
  obtain⟨v,h1⟩:=y;dsimp only;unfold stO;cases h1[id]? with
  | none=>rfl
  | some o=>cases o <;> rfl
theorem zuc {sh:Sh}{id g i off:Nat}{v:PV}{h1:aA}:stR sh id g i off (some (v,h1))=stO sh id g i off v h1 h1[id]?:=(rfl)
theorem zua {sh rsh:Sh}{id g i off fz:Nat}{v:PV}{h1:aA}{xs:List PV}:stO sh id g i off v h1 (some (.row rsh xs fz))=if g=xs.length/\fz<=i/\v.cells.length=kA sh/\v.cells.all PV.sc then stE sh id i off fz rsh xs v h1 xs[i]? else none:=(rfl)
theorem ztY {sh rsh:Sh}{id i off fz:Nat}{v:PV}{h1:aA}{xs cs:List PV}:stE sh id i off fz rsh xs v h1 (some (.agg cs))=if off+v.cells.length<=cs.length then some (.und,h1.set id (.row rsh (xs.set i (.agg (splice cs off v.cells))) fz),[]) else none:=(rfl)
theorem ztZ {sh rsh:Sh}{id i off fz:Nat}{v:PV}{h1:aA}{xs:List PV}{t:Bool}:stE sh id i off fz rsh xs v h1 (some (.bool t))=if off=0/\v.sc then some (.und,h1.set id (.row rsh (xs.set i v) fz),[]) else none:=(rfl)
def iaS (xs:List PV):Option Nat->Option AV
 | some k=>(xs[k]?).map .vp
 | none=>none
theorem zoZ {sh:Sh}{xs:List PV}{i:AV}:OF sh (.p (.sl sh xs)) i h=iaS xs (GB i):=by
 unfold OF iaS;cases GB i <;> simp
theorem zoW {xs:List PV}{n:Nat}:iaS xs (some n)=(xs[n]?).map .vp:=(rfl)
def iaO (sh:Sh)(id g off len:Nat):Option Obj->Option Nat->Option AV
 | some (.row rsh xs _),some k=>if rsh=sh/\g=xs.length/\off+len<=xs.length/\k<len then some (.rref id g (off+k) 0) else none
 | _,_=>none
theorem zoY {sh:Sh}{id g off len:Nat}{i:AV}:OF sh (.own id g off len) i h=iaO sh id g off len h[id]? (GB i):=by
 unfold OF iaO;cases GB i with
 | none=>dsimp only;cases h[id]? with
  | none=>rfl
  | some o=>cases o <;> rfl
 | some k=>dsimp only;cases h[id]? with
  | none=>rfl
  | some o=>cases o <;> rfl
theorem zoV {sh rsh:Sh}{id g off len k fz:Nat}{xs:List PV}:iaO sh id g off len (some (.row rsh xs fz)) (some k)=if rsh=sh/\g=xs.length/\off+len<=xs.length/\k<len then some (.rref id g (off+k) 0) else none:=(rfl)
theorem zpe {i:AV}:TM (.p (.str sa)) i=(GB i).bind λn=>(sa[n]?).map λb=>.p (.int .u8 b.toNat):=by
 unfold TM;cases GB i <;> rfl
end
theorem z9t {z:List AV}{k:AV->aA->Esc->Prop}:alK z h k=k (.ref h.length 0) (h++[.box z]) []:=(rfl)
theorem zcJ {sh:Sh}{k:AV->aA->Esc->Prop}:nwK sh h k=k (.own h.length 0 0 0) (h++[.row sh [] 0]) []:=(rfl)
theorem zcA {k:AV->aA->Esc->Prop}:mmK h k=k (.mp h.length) (h++[.amap [] 0]) []:=(rfl)
theorem ziC {A B:Prop}:BP .anyb A B=(A/\B):=(rfl)
theorem zso {h:aA}:JB [] h=([],h):=(rfl)
theorem zsq {h:aA}{s:Sh}{r:List AV}:JB (.sl0 s::r) h=(.own h.length 0 0 0::(JB r (h++[.row s [] 0])).1,(JB r (h++[.row s [] 0])).2):=(rfl)
theorem zsp {h:aA}{v:PV}{r:List AV}:JB (.p v::r) h=(.p v::(JB r h).1,(JB r h).2):=(rfl)
theorem zsn {h:aA}{i:Nat}{r:List AV}:JB (.mp i::r) h=(.mp i::(JB r h).1,(JB r h).2):=(rfl)
attribute [go_sem] zso zsq zsp zsn
attribute [go_sem] zec zee z97 z99 z98 zf1 zcV zcU zeG zeE zr6 zuZ zbG zbC zbF zbD zbE zbB zb7 zbA zb8 zb9 zb6 zb2 zb5 zb3 zb4 zgf zgq zgl zgo zgp zgg zgm zgk zgj zgi zgh zuv zuy zux zuS zuT convI zrw zrF zqG zqF zqI ext_t zow zox zoy zo3 zqO zcq zcr zqC zcm zut ztX zuu zuc zua ztY ztZ znZ znY zpn zpl zpm zoZ zoW zoY zoV zpe z9t zcJ zcA qI zdW upcB neqB lenB n64 zav strB appB rds rd SM jF FQ AC GQ TA nR iJ ziC gR rW fI LF sW pE rR UM lR mR iR oW oClr oMx oMn UA ZA qW pW CB oR WB ZB
attribute [go_sem ↓] zcV zcU zeG zeE zbG zbC zbF zbD zbE zbB zb7 zbA zb8 zb9 zb6 zb2 zb5 zb3 zb4 zae zad zec zee z97 z99 z98 z9t zcJ zcA zct zcs zcu zeb zbh zbi
attribute [go_sem low] zoH zoF zoD
attribute [congr] zf0 zfz zr5 zuY zoI zoG zoE
end
instance {n:Nat}:OfNat Opd n:=⟨.t n⟩
abbrev GL:=Nat->Option PV
abbrev KT:=Ex->St->Prop
def cI (n:Int):Opd:=.c (.p (.int .i64 n))
def cT:Opd:=.c (.p (.bool true))
def cF:Opd:=.c (.p (.bool false))
def cS (s:List UInt8):Opd:=.c (.p (.str s))
def uO (d:Nat)(o:AO):AOp:=⟨some d,none,o⟩
def wO (o:AO):AOp:=⟨none,none,o⟩
def gD (d g:Nat)(b:Bool)(o:AO):AOp:=⟨some d,some (g,b),o⟩
def mV (d:Nat)(x:Opd):AOp:=⟨some d,none,.mv x⟩
def bN (d:Nat)(b:BinOp)(x y:Opd):AOp:=⟨some d,none,.bin b x y⟩
def cL (d f:Nat)(l:List Opd):AOp:=⟨some d,none,.call f l⟩
def lD (d:Nat)(s:Sh)(x:Opd):AOp:=⟨some d,none,.load s x⟩
def iA (d:Nat)(s:Sh)(x y:Opd):AOp:=⟨some d,none,.iaddr s x y⟩
def fA (d o:Nat)(s:Sh)(x:Opd):AOp:=⟨some d,none,.faddr o s x⟩
def sT (d:Nat)(s:Sh)(x y:Opd):AOp:=⟨some d,none,.store s x y⟩
def lN (d:Nat)(x:Opd):AOp:=⟨some d,none,.len x⟩
def eX (d:Nat)(x:Opd)(i:Nat):AOp:=⟨some d,none,.ext x i⟩
def dF (o:AOp)(l:List Nat):DOp:=⟨o,l,false,[],[]⟩
def dT (o:AOp)(l:List Nat):DOp:=⟨o,l,true,[],[]⟩
def dA (o:AOp)(l:List Nat)(e:Bool)(a b:List Nat):DOp:=⟨o,l,e,a,b⟩
def rg (l:List AOp)(k:List Nat):ACode:=.reg l (some k)
def dr (l:List DOp)(k:List Nat):ACode:=.draw l (some k)
section
abbrev En:=List (Nat × AV)
variable {C:Hd} {gl:Nat->Option PV} {e:En} {h h':aA} {x y:Esc} {K:Ex->St->Prop} {s:St} {L:En->aA->Esc->Prop} {k:AV->aA->Esc->Prop} {ev:Opd->AV} {r:List AOp} {q:List DOp} {dn:sD} {hs:List aA} {Q:Prop}
abbrev Sf (C:Hd)(gl:Nat->Option PV)(c:ACode)(e:En)(h:aA)(x:Esc)(K:Ex->St->Prop):Type:={P:Prop // NW C gl c ⟨e,h,x⟩ K=P}
def gO (G:AO->(Opd->AV)->aA->(AV->aA->Esc->Prop)->Prop)(t:AV)(g:Bool)(o:AO)(ev:Opd->AV)(h:aA)(k:AV->aA->Esc->Prop):Prop:=gV t g h (G o ev h) k
theorem agetB {e:En}{n m:Nat}{v:AV}:bA ((n,v)::e) m=match Nat.beq n m with|true=>v|false=>bA e m:=by
 show(if n=m then v else bA e m)=_
 cases hb:Nat.beq n m with
 | true=>rw[if_pos (Nat.eq_of_beq_eq_true hb)]
 | false=>rw[if_neg (Nat.ne_of_beq_eq_false hb)]
theorem wA:(∀ {C:Hd}{gl:GL}{e:En}{h:aA}{x:Esc}{K:KT}{l:List Nat}{b:ACode},NW C gl (.pr l b) ⟨e,h,x⟩ K=NW C gl b ⟨IA (some l) e,h,x⟩ K) /\
 (∀{C:Hd} {gl:GL} {K:KT} {s:St} {a b:ACode},NW C gl (.seq a b) s K=NW C gl a s (mD C gl b K)) /\
 (∀{C:Hd} {gl:GL} {K:KT} {s:St} {i:Nat} {b:ACode},NW C gl (.block i b) s K=NW C gl b s (iC i K)) /\
 (∀{C:Hd} {gl:GL} {e:En} {h:aA} {x:Esc} {K:KT} {c:Opd} {a b:ACode},NW C gl (.cond c a b) ⟨e,h,x⟩ K=BB (Opd.ev gl e c) (NW C gl a ⟨e,h,x⟩ K) (NW C gl b ⟨e,h,x⟩ K)) /\
 (∀{C:Hd} {gl:GL} {e:En} {h:aA} {x:Esc} {K:KT} {c:Opd} {a b:ACode},NW C gl (.condu c a b) ⟨e,h,x⟩ K=BP (Opd.ev gl e c) (NW C gl a ⟨e,h,x⟩ K) (NW C gl b ⟨e,h,x⟩ K)) /\
 (∀{C:Hd} {gl:GL} {K:KT} {s:St} {b:ACode},NW C gl (.det b) s K=NW C gl b s K) /\
 (∀{C:Hd} {gl:GL} {K:KT} {s:St},NW C gl .skip s K=K .normal s) /\
 (∀{C:Hd} {gl:GL} {K:KT} {s:St} {i:Nat},NW C gl (.exit i) s K=K (.exit i) s) /\
 (∀{C:Hd} {gl:GL} {K:KT} {s:St},NW C gl .ret s K=K .ret s) /\
 (∀{C:Hd} {gl:GL} {K:KT} {s:St},NW C gl .bad s K=False) /\
 (∀{C:Hd} {gl:GL} {e:En} {h:aA} {x:Esc} {K:KT} {l:List AOp} {o:List Nat},NW C gl (.reg l (some o)) ⟨e,h,x⟩ K=XF C gl l e h x λe h x=>K .normal ⟨IA (some o) e,h,x⟩) /\
 (∀{C:Hd} {gl:GL} {e:En} {h:aA} {x:Esc} {K:KT} {l:List AOp},NW C gl (.reg l none) ⟨e,h,x⟩ K=XF C gl l e h x λe h x=>K .normal ⟨e,h,x⟩) /\
 (∀{C:Hd} {gl:GL} {e:En} {h:aA} {x:Esc} {K:KT} {l:List DOp} {o:List Nat},NW C gl (.draw l (some o)) ⟨e,h,x⟩ K=qF C gl l [] [] e h x λe h x=>K .normal ⟨IA (some o) e,h,x⟩) /\
 (∀{C:Hd} {gl:GL} {e:En} {h:aA} {x:Esc} {K:KT} {l:List DOp},NW C gl (.draw l none) ⟨e,h,x⟩ K=qF C gl l [] [] e h x λe h x=>K .normal ⟨e,h,x⟩) /\
 (∀{C:Hd} {gl:GL} {e:En} {h:aA} {x:Esc} {L:En->aA->Esc->Prop},XF C gl [] e h x L=L e h x) /\
 (∀{C:Hd} {gl:GL} {e:En} {h:aA} {x:Esc} {L:En->aA->Esc->Prop} {r:List AOp} {d:Option Nat} {o:AO},XF C gl (⟨d,none,o⟩::r) e h x L=opC C o (Opd.ev gl e) h λv h' x'=>XF C gl r (put d v e) h' (x'++x) L) /\
 (∀{C:Hd} {gl:GL} {e:En} {h:aA} {x:Esc} {L:En->aA->Esc->Prop} {r:List AOp} {d:Option Nat} {t:Nat} {b:Bool} {o:AO},XF C gl (⟨d,some (t,b),o⟩::r) e h x L=gO (opC C) (bA e t) b o (Opd.ev gl e) h λv h' x'=>XF C gl r (put d v e) h' (x'++x) L) /\
 (∀{C:Hd} {gl:GL} {e:En} {h:aA} {x:Esc} {L:En->aA->Esc->Prop} {dn:sD} {hs:List aA},qF C gl [] dn hs e h x L=L e h x) /\
 (∀{C:Hd} {gl:GL} {e:En} {h:aA} {x:Esc} {L:En->aA->Esc->Prop} {q:List DOp} {dn:sD} {hs:List aA} {d:Option Nat} {o:AO} {rd a b:List Nat} {f:Bool},qF C gl (⟨⟨d,none,o⟩,rd,f,a,b⟩::q) dn hs e h x L=opE C o (Opd.ev gl (IA (some rd) e)) h λv h' y=>
  OI o.still f h h' y (GF C gl ⟨d,none,o⟩ (IA (some rd) e) v hs (zF C gl h' dn (qF C gl q (dn++[(⟨d,none,o⟩,IA (some rd) e,v)]) (hs++[h]) (put d v e) h' (y++x) L) b) a)) /\
 (∀{C:Hd} {gl:GL} {e:En} {h:aA} {x:Esc} {L:En->aA->Esc->Prop} {q:List DOp} {dn:sD} {hs:List aA} {d:Option Nat} {t:Nat} {g:Bool} {o:AO} {rd a b:List Nat} {f:Bool},qF C gl (⟨⟨d,some (t,g),o⟩,rd,f,a,b⟩::q) dn hs e h x L=gO (opE C) (bA (IA (some rd) e) t) g o (Opd.ev gl (IA (some rd) e)) h λv h' y=>
  OI o.still f h h' y (GF C gl ⟨d,some (t,g),o⟩ (IA (some rd) e) v hs (zF C gl h' dn (qF C gl q (dn++[(⟨d,some (t,g),o⟩,IA (some rd) e,v)]) (hs++[h]) (put d v e) h' (y++x) L) b) a)) /\
 (∀{h':aA} {h:aA} {y:Esc} {Q:Prop} {b:Bool},OI b true h h' y Q=Q) /\
 (∀{h':aA} {h:aA} {y:Esc} {Q:Prop},OI true false h h' y Q=Q) /\
 (∀{h':aA} {h:aA} {y:Esc} {Q:Prop},OI false false h h' y Q=((h'=h/\y=[])/\Q)) /\
 (∀{C:Hd} {gl:GL} {h:aA} {dn:sD} {Q:Prop},zF C gl h dn Q []=Q) /\
 (∀{C:Hd} {gl:GL} {h:aA} {dn:sD} {Q:Prop} {j:Nat} {l:List Nat},zF C gl h dn Q (j::l)=((match dn[j]? with|some q=>UK C gl q h|none=>False)/\zF C gl h dn Q l)) /\
 (∀{C:Hd} {gl:GL} {e:En} {hs:List aA} {Q:Prop} {o:AOp} {v:AV},GF C gl o e v hs Q []=Q) /\
 (∀{C:Hd} {gl:GL} {e:En} {hs:List aA} {Q:Prop} {o:AOp} {v:AV} {j:Nat} {l:List Nat},GF C gl o e v hs Q (j::l)=((match hs[j]? with|some g=>UK C gl (o,e,v) g|none=>False)/\GF C gl o e v hs Q l)) /\
 (∀{C:Hd} {gl:GL} {e:En} {d:Option Nat} {o:AO} {v:AV} {g:aA},UK C gl (⟨d,none,o⟩,e,v) g=opE C o (Opd.ev gl e) g λv1 h1 x1=>v1=v/\h1=g/\x1=[]) /\
 (∀{C:Hd} {gl:GL} {e:En} {d:Option Nat} {t:Nat} {b:Bool} {o:AO} {v:AV} {g:aA},UK C gl (⟨d,some (t,b),o⟩,e,v) g=gO (opE C) (bA e t) b o (Opd.ev gl e) g λv1 h1 x1=>v1=v/\h1=g/\x1=[]) /\
 (∀{e:En} {d:Nat} {v:AV},put (some d) v e=(d,v)::e) /\
 (∀{e:En} {v:AV},put none v e=e) /\
 (∀{e:En} {n:Nat} {l:List Nat},IA (some (n::l)) e=(n,bA e n)::IA (some l) e) /\
 (∀{e:En},IA (some []) e=[]) /\
 (∀{e:En} {n m:Nat} {v:AV},bA ((n,v)::e) m=match Nat.beq n m with|true=>v|false=>bA e m) /\
 (∀{gl:GL} {e:En} {n:Nat},Opd.ev gl e (.t n)=bA e n) /\
 (∀{gl:GL} {e:En} {v:AV},Opd.ev gl e (.c v)=v) /\
 (∀{gl:GL} {e:En} {n:Nat},Opd.ev gl e (.f n) = .fn n []) /\
 (∀{gl:GL} {e:En} {n:Nat},Opd.ev gl e (.g n)=gv gl n) /\
 (∀{n:Nat},(OfNat.ofNat n:Opd) = .t n) /\
 (∀{C:Hd} {h:aA} {k:AV->aA->Esc->Prop} {ev:Opd->AV} {a:Opd},opC C (.mnext none [a]) ev h k=nxK (ev a) h k) /\
 (∀{C:Hd} {h:aA} {k:AV->aA->Esc->Prop} {ev:Opd->AV} {sh:Sh} {l:List Opd},opC C (.mnext (some sh) l) ev h k=nqK (some sh) (ev1 ev l) h k) /\
 (∀{C:Hd} {h:aA} {k:AV->aA->Esc->Prop} {ev:Opd->AV} {f:Nat} {a:List Opd},opC C (.call f a) ev h k=C f (ev1 ev a) h k) /\
 (∀{C:Hd} {h:aA} {k:AV->aA->Esc->Prop} {ev:Opd->AV} {f:Opd} {a:List Opd},opC C (.callv f a) ev h k=GI C (ev f) (ev1 ev a) h k) /\
 (∀{C:Hd} {h:aA} {k:AV->aA->Esc->Prop} {ev:Opd->AV} {f:Nat} {a:List Opd},opE C (.call f a) ev h k=uD C f (ev1 ev a) h k) /\
 (∀{C:Hd} {h:aA} {k:AV->aA->Esc->Prop} {ev:Opd->AV} {f:Opd} {a:List Opd},opE C (.callv f a) ev h k=qL C (ev f) (ev1 ev a) h k) /\
 (∀{ev:Opd->AV},ev1 ev []=[]) /\
 (∀{ev:Opd->AV} {a:Opd} {l:List Opd},ev1 ev (a::l)=ev a::ev1 ev l) /\
 (∀{ev:Opd->AV},ev2 ev []=[]) /\
 (∀{ev:Opd->AV} {n:Nat} {a:Opd} {l:List (Nat×Opd)},ev2 ev ((n,a)::l)=(n,ev a)::ev2 ev l) /\
 (∀{ev:Opd->AV},ev3 ev []=[]) /\
 (∀{ev:Opd->AV} {n m:Nat} {a:Opd} {l:List (Nat×Nat×Opd)},ev3 ev ((n,m,a)::l)=(n,m,ev a)::ev3 ev l) /\
 (∀{ev:Opd->AV},evO ev none=none) /\
 (∀{ev:Opd->AV} {a:Opd},evO ev (some a)=some (ev a)):=
 ⟨(by intros;rfl),(by intros;rfl),(by intros;rfl),(by intros;rfl),(by intros;rfl),(by intros;rfl),(by intros;rfl),(by intros;rfl),(by intros;rfl),(by intros;rfl),(by intros;rfl),(by intros;rfl),(by intros;rfl),(by intros;rfl),(by intros;rfl),(by intros;rfl),(by intros;rfl),(by intros;rfl),(by intros;rfl),(by intros;rfl),(by intros;rfl),(by intros;rfl),(by intros;rfl),(by intros;rfl),(by intros;rfl),(by intros;rfl),(by intros;rfl),(by intros;rfl),(by intros;rfl),(by intros;rfl),(by intros;rfl),(by intros;rfl),(by intros;rfl),(by intro e n m v;exact agetB),(by intros;rfl),(by intros;rfl),(by intros;rfl),(by intros;rfl),(by intros;rfl),(by intros;rfl),(by intros;rfl),(by intros;rfl),(by intros;rfl),(by intros;rfl),(by intros;rfl),(by intros;rfl),(by intros;rfl),(by intros;rfl),(by intros;rfl),(by intros;rfl),(by intros;rfl),(by intros;rfl),(by intros;rfl)⟩
abbrev OpW (G:AO->(Opd->AV)->aA->(AV->aA->Esc->Prop)->Prop):Prop:=∀{ev:Opd->AV} {h:aA} {k:AV->aA->Esc->Prop},
 (∀{x},G (.mv x) ev h k=k (ev x) h [])/\(∀{c a b},G (.pick c a b) ev h k=pK (jD (ev c) (ev a) (ev b)) λv=>k v h [])/\(∀{z},G (.alloc z) ev h k=alK z h k) /\
 (∀{x},G (.box x) ev h k=wK (SM (ev x) h) k)/\(∀{z ps},G (.build z ps) ev h k=pK (jF z (ev3 ev ps)) λv=>k v h [])/\(∀{o sh n z ps},G (.bsl o sh n z ps) ev h k=wK (AC o sh n z (ev2 ev ps) h) k) /\
 (∀{sh a},G (.load sh a) ev h k=pK (uA sh (ev a) h) λv=>k v h [])/\(∀{sh a x},G (.store sh a x) ev h k=wK (vB sh (ev a) (ev x) h) k)/\(∀{x},G (.nilchk x) ev h k=pK (qR (ev x)) λv=>k v h []) /\
 (∀{o x y},G (.bin o x y) ev h k=pK (CA o (ev x) (ev y)) λv=>k v h [])/\(∀{l n x y},G (.eqa l n x y) ev h k=pK (TA l n (ev x) (ev y)) λv=>k v h [])/\(∀{n b x},G (.isnil n b x) ev h k=pK (nR n b (ev x)) λv=>k v h []) /\
 (∀{x},G (.mkif x) ev h k=pK (rW (ev x)) λv=>k v h [])/\(∀{o x},G (.un o x) ev h k=pK (oUn o (ev x)) λv=>k v h [])/\(∀{c x},G (.conv (.i c) x) ev h k=pK (jR c (ev x)) λv=>k v h []) /\
 (∀{f l},G (.mkfn f l) ev h k=k (.fn f (ev1 ev l)) h [])/\(∀{sh x a b c},G (.slice sh x a b c) ev h k=pK (UM sh (ev x) (evO ev a) (evO ev b) (evO ev c) h) λv=>k v h [])/\(∀{x a b},G (.slstr x a b) ev h k=pK (rR (ev x) (evO ev a) (evO ev b)) λv=>k v h []) /\
 (∀{sh z a b},G (.mksl sh z a b) ev h k=wK (sW sh z (ev a) (ev b) h) k)/\(∀{o sh x},G (.faddr o sh x) ev h k=pK (RA o sh (ev x)) λv=>k v h [])/\(∀{o sh x},G (.field o sh x) ev h k=pK (kR o sh (ev x)) λv=>k v h []) /\
 (∀{sh x i},G (.iaddr sh x i) ev h k=pK (OF sh (ev x) (ev i) h) λv=>k v h [])/\(∀{n sh x i},G (.iaddra n sh x i) ev h k=pK (lR n sh (ev x) (ev i)) λv=>k v h [])/\(∀{n sh x i},G (.idxa n sh x i) ev h k=pK (mR n sh (ev x) (ev i)) λv=>k v h []) /\
 (∀{x i},G (.idxs x i) ev h k=pK (TM (ev x) (ev i)) λv=>k v h [])/\(∀{x i},G (.ext x i) ev h k=pK (oC (ev x) i) λv=>k v h [])/\(∀{x},G (.len x) ev h k=pK (jJ (ev x)) λv=>k v h [])/\(∀{x},G (.lens x) ev h k=pK (pR (ev x)) λv=>k v h []) /\
 (∀{sh a x},G (.app sh a x) ev h k=wK (iR sh (ev a) (ev x) h) k)/\(∀{sh a x},G (.copy sh a x) ev h k=wK (oW sh (ev a) (ev x) h) k)/\(∀{m t l},G (.uns m t l) ev h k=wK (qI m t (ev1 ev l) h) k)/\(∀{sh z x},G (.clr sh z x) ev h k=wK (oClr sh z (ev x) h) k) /\
 (∀{l},G (.mx l) ev h k=pK (oMx (ev1 ev l)) λv=>k v h [])/\(∀{l},G (.mn l) ev h k=pK (oMn (ev1 ev l)) λv=>k v h [])/\(∀{sh},G (.new0 sh) ev h k=nwK sh h k)/\(∀{x},G (.conv .s2b x) ev h k=wK (LF .s2b (ev x) h) k)/\(∀{x},G (.conv .b2s x) ev h k=wK (LF .b2s (ev x) h) k) /\
 (∀{x},G (.conv .r2s x) ev h k=wK (LF .r2s (ev x) h) k)/\(∀{x},G (.conv .same x) ev h k=wK (LF .same (ev x) h) k)/\(G .mkmap ev h k=mmK h k)/\(∀{n o z x y},G (.look n o z x y) ev h k=pK (UA n o z (ev x) (ev y) h) λv=>k v h [])/\(∀{n m y x},G (.mupd n m y x) ev h k=wK (ZA n (ev m) (ev y) (ev x) h) k) /\
 (∀{n z m y},G (.ment n z m y) ev h k=wK (qW n z (ev m) (ev y) h) k)/\(∀{m a x},G (.estore m a x) ev h k=wK (pW (ev m) (ev a) (ev x) h) k)/\(∀{n m y},G (.mdel n m y) ev h k=wK (CB n (ev m) (ev y) h) k)/\(∀{x},G (.lenm x) ev h k=pK (oR (ev x) h) λv=>k v h []) /\
 (∀{x},G (.mrange x) ev h k=wK (WB (ev x) h) k)/\(∀{i},G (.mentry i) ev h k=wK (ZB (ev i) h) k)
theorem w_op:∀ G,(G=opC C∨G=opE C)->OpW G:=by
 rintro G (rfl|rfl) <;> refine λ{_ _ _}=>⟨?_,?_,?_,?_,?_,?_,?_,?_,?_,?_,?_,?_,?_,?_,?_,?_,?_,?_,?_,?_,?_,?_,?_,?_,?_,?_,?_,?_,?_,?_,?_,?_,?_,?_,?_,?_,?_,?_,?_,?_,?_,?_,?_,?_,?_,?_,?_,?_⟩ <;> intros <;> rfl
theorem w_oc:OpW (opC C):=w_op _ (.inl rfl)
theorem w_oe:OpW (opE C):=w_op _ (.inr rfl)
abbrev OpG (G:AO->(Opd->AV)->aA->(AV->aA->Esc->Prop)->Prop):Prop:=∀{t:AV} {g:Bool} {ev:Opd->AV} {h:aA} {k:AV->aA->Esc->Prop},
 (∀{x},gO G t g (.mv x) ev h k=gM t g (ev x) h k) /\
 (∀{c a b},gO G t g (.pick c a b) ev h k=gP t g (jD (ev c) (ev a) (ev b)) h k) /\
 (∀{z},gO G t g (.alloc z) ev h k=gV t g h (λk=>alK z h k) k) /\
 (∀{x},gO G t g (.box x) ev h k=gV t g h (λk=>wK (SM (ev x) h) k) k) /\
 (∀{z ps},gO G t g (.build z ps) ev h k=gP t g (jF z (ev3 ev ps)) h k) /\
 (∀{o sh n z ps},gO G t g (.bsl o sh n z ps) ev h k=gV t g h (λk=>wK (AC o sh n z (ev2 ev ps) h) k) k) /\
 (∀{sh a},gO G t g (.load sh a) ev h k=gP t g (uA sh (ev a) h) h k) /\
 (∀{sh a x},gO G t g (.store sh a x) ev h k=gV t g h (λk=>wK (vB sh (ev a) (ev x) h) k) k) /\
 (∀{x},gO G t g (.nilchk x) ev h k=gP t g (qR (ev x)) h k) /\
 (∀{o x y},gO G t g (.bin o x y) ev h k=gP t g (CA o (ev x) (ev y)) h k) /\
 (∀{l n x y},gO G t g (.eqa l n x y) ev h k=gP t g (TA l n (ev x) (ev y)) h k) /\
 (∀{n b x},gO G t g (.isnil n b x) ev h k=gP t g (nR n b (ev x)) h k) /\
 (∀{x},gO G t g (.mkif x) ev h k=gP t g (rW (ev x)) h k) /\
 (∀{o x},gO G t g (.un o x) ev h k=gP t g (oUn o (ev x)) h k) /\
 (∀{c x},gO G t g (.conv (.i c) x) ev h k=gP t g (jR c (ev x)) h k) /\
 (∀{f l},gO G t g (.mkfn f l) ev h k=gM t g (.fn f (ev1 ev l)) h k) /\
 (∀{sh x a b c},gO G t g (.slice sh x a b c) ev h k=gP t g (UM sh (ev x) (evO ev a) (evO ev b) (evO ev c) h) h k) /\
 (∀{x a b},gO G t g (.slstr x a b) ev h k=gP t g (rR (ev x) (evO ev a) (evO ev b)) h k) /\
 (∀{sh z a b},gO G t g (.mksl sh z a b) ev h k=gV t g h (λk=>wK (sW sh z (ev a) (ev b) h) k) k) /\
 (∀{o sh x},gO G t g (.faddr o sh x) ev h k=gP t g (RA o sh (ev x)) h k) /\
 (∀{o sh x},gO G t g (.field o sh x) ev h k=gP t g (kR o sh (ev x)) h k) /\
 (∀{sh x i},gO G t g (.iaddr sh x i) ev h k=gP t g (OF sh (ev x) (ev i) h) h k) /\
 (∀{n sh x i},gO G t g (.iaddra n sh x i) ev h k=gP t g (lR n sh (ev x) (ev i)) h k) /\
 (∀{n sh x i},gO G t g (.idxa n sh x i) ev h k=gP t g (mR n sh (ev x) (ev i)) h k) /\
 (∀{x i},gO G t g (.idxs x i) ev h k=gP t g (TM (ev x) (ev i)) h k) /\
 (∀{x i},gO G t g (.ext x i) ev h k=gP t g (oC (ev x) i) h k) /\
 (∀{x},gO G t g (.len x) ev h k=gP t g (jJ (ev x)) h k) /\
 (∀{x},gO G t g (.lens x) ev h k=gP t g (pR (ev x)) h k) /\
 (∀{sh a x},gO G t g (.app sh a x) ev h k=gV t g h (λk=>wK (iR sh (ev a) (ev x) h) k) k) /\
 (∀{sh a x},gO G t g (.copy sh a x) ev h k=gV t g h (λk=>wK (oW sh (ev a) (ev x) h) k) k) /\
 (∀{m t2 l},gO G t g (.uns m t2 l) ev h k=gV t g h (λk=>wK (qI m t2 (ev1 ev l) h) k) k) /\
 (∀{sh z x},gO G t g (.clr sh z x) ev h k=gV t g h (λk=>wK (oClr sh z (ev x) h) k) k) /\
 (∀{l},gO G t g (.mx l) ev h k=gP t g (oMx (ev1 ev l)) h k) /\
 (∀{l},gO G t g (.mn l) ev h k=gP t g (oMn (ev1 ev l)) h k) /\
 (∀{sh},gO G t g (.new0 sh) ev h k=gV t g h (λk=>nwK sh h k) k) /\
 (∀{x},gO G t g (.conv .s2b x) ev h k=gV t g h (λk=>wK (LF .s2b (ev x) h) k) k) /\
 (∀{x},gO G t g (.conv .b2s x) ev h k=gV t g h (λk=>wK (LF .b2s (ev x) h) k) k) /\
 (∀{x},gO G t g (.conv .r2s x) ev h k=gV t g h (λk=>wK (LF .r2s (ev x) h) k) k) /\
 (∀{x},gO G t g (.conv .same x) ev h k=gV t g h (λk=>wK (LF .same (ev x) h) k) k) /\
 (gO G t g .mkmap ev h k=gV t g h (λk=>mmK h k) k) /\
 (∀{n o z x y},gO G t g (.look n o z x y) ev h k=gP t g (UA n o z (ev x) (ev y) h) h k) /\
 (∀{n m y x},gO G t g (.mupd n m y x) ev h k=gV t g h (λk=>wK (ZA n (ev m) (ev y) (ev x) h) k) k) /\
 (∀{n z m y},gO G t g (.ment n z m y) ev h k=gV t g h (λk=>wK (qW n z (ev m) (ev y) h) k) k) /\
 (∀{m a x},gO G t g (.estore m a x) ev h k=gV t g h (λk=>wK (pW (ev m) (ev a) (ev x) h) k) k) /\
 (∀{n m y},gO G t g (.mdel n m y) ev h k=gV t g h (λk=>wK (CB n (ev m) (ev y) h) k) k) /\
 (∀{x},gO G t g (.lenm x) ev h k=gP t g (oR (ev x) h) h k) /\
 (∀{x},gO G t g (.mrange x) ev h k=gV t g h (λk=>wK (WB (ev x) h) k) k) /\
 (∀{i},gO G t g (.mentry i) ev h k=gV t g h (λk=>wK (ZB (ev i) h) k) k)
theorem w_og:∀ G,(G=opC C∨G=opE C)->OpG G:=by
 rintro G (rfl|rfl) <;> refine λ{_ _ _ _ _}=>⟨?_,?_,?_,?_,?_,?_,?_,?_,?_,?_,?_,?_,?_,?_,?_,?_,?_,?_,?_,?_,?_,?_,?_,?_,?_,?_,?_,?_,?_,?_,?_,?_,?_,?_,?_,?_,?_,?_,?_,?_,?_,?_,?_,?_,?_,?_,?_,?_⟩ <;> intros <;> rfl
theorem w_gc:OpG (opC C):=w_og _ (.inl rfl)
theorem w_ge:OpG (opE C):=w_og _ (.inr rfl)
theorem wG:(∀ {C:Hd}{t:AV}{g:Bool}{f:Nat}{a:List Opd}{ev:Opd->AV}{h:aA}{k:AV->aA->Esc->Prop},gO (opC C) t g (.call f a) ev h k=gV t g h (C f (ev1 ev a) h) k)/\(∀{C:Hd} {t:AV} {g:Bool} {f:Opd} {a:List Opd} {ev:Opd->AV} {h:aA} {k:AV->aA->Esc->Prop},gO (opC C) t g (.callv f a) ev h k=gV t g h (GI C (ev f) (ev1 ev a) h) k) /\
 (∀{C:Hd} {t:AV} {g:Bool} {f:Nat} {a:List Opd} {ev:Opd->AV} {h:aA} {k:AV->aA->Esc->Prop},gO (opE C) t g (.call f a) ev h k=gV t g h (uD C f (ev1 ev a) h) k)/\(∀{C:Hd} {t:AV} {g:Bool} {f:Opd} {a:List Opd} {ev:Opd->AV} {h:aA} {k:AV->aA->Esc->Prop},gO (opE C) t g (.callv f a) ev h k=gV t g h (qL C (ev f) (ev1 ev a) h) k):=⟨rfl,rfl,rfl,rfl⟩
theorem wB:(∀ {α:Type}{l:List α},[]++l=l)/\(∀{α:Type} {a:α} {l m:List α},a::l++m=a::(l++m))/\(∀{α:Type} {a:α} {l:List α},(a::l)[0]?=some a)/\(∀{α:Type} {a:α} {l:List α} {i:Nat},(a::l)[i+1]?=l[i]?) /\
 (∀{C:Hd} {gl:GL} {b:ACode} {K:KT} {s:St},mD C gl b K .normal s=NW C gl b s K)/\(∀{C:Hd} {gl:GL} {b:ACode} {K:KT} {s:St} {i:Nat},mD C gl b K (.exit i) s=K (.exit i) s)/\(∀{C:Hd} {gl:GL} {b:ACode} {K:KT} {s:St},mD C gl b K .ret s=K .ret s) /\
 (∀{i:Nat} {K:KT} {s:St},iC i K .normal s=K .normal s)/\(∀{i j:Nat} {K:KT} {s:St},iC i K (.exit j) s=match Nat.beq j i with|true=>K .normal s|false=>K (.exit j) s)/\(∀{i:Nat} {K:KT} {s:St},iC i K .ret s=K .ret s):=
 ⟨by intros;rfl,by intros;rfl,by intros;rfl,by intros;rfl,by intros;rfl,by intros;rfl,by intros;rfl,by intros;rfl,by intro i j K s;show(bif Nat.beq j i then _ else _)=_;cases Nat.beq j i <;> rfl,by intros;rfl⟩
theorem wS:(∀ {n:Int},cI n = .c (.p (.int .i64 n)))/\(cT = .c (.p (.bool true)))/\(cF = .c (.p (.bool false)))/\(∀{l:List UInt8},cS l = .c (.p (.str l)))/\(∀{d:Nat} {o:AO},uO d o=⟨some d,none,o⟩)/\(∀{o:AO},wO o=⟨none,none,o⟩)/\(∀{d g:Nat} {b:Bool} {o:AO},gD d g b o=⟨some d,some (g,b),o⟩)/\(∀{d:Nat} {x:Opd},mV d x=⟨some d,none,.mv x⟩) /\
 (∀{d:Nat} {b:BinOp} {x y:Opd},bN d b x y=⟨some d,none,.bin b x y⟩)/\(∀{d f:Nat} {l:List Opd},cL d f l=⟨some d,none,.call f l⟩)/\(∀{d:Nat} {s:Sh} {x:Opd},lD d s x=⟨some d,none,.load s x⟩)/\(∀{d:Nat} {s:Sh} {x y:Opd},iA d s x y=⟨some d,none,.iaddr s x y⟩)/\(∀{d o:Nat} {s:Sh} {x:Opd},fA d o s x=⟨some d,none,.faddr o s x⟩) /\
 (∀{d:Nat} {s:Sh} {x y:Opd},sT d s x y=⟨some d,none,.store s x y⟩)/\(∀{d:Nat} {x:Opd},lN d x=⟨some d,none,.len x⟩)/\(∀{d:Nat} {x:Opd} {i:Nat},eX d x i=⟨some d,none,.ext x i⟩)/\(∀{o:AOp} {l:List Nat},dF o l=⟨o,l,false,[],[]⟩)/\(∀{o:AOp} {l:List Nat},dT o l=⟨o,l,true,[],[]⟩)/\(∀{o:AOp} {l:List Nat} {e:Bool} {a b:List Nat},dA o l e a b=⟨o,l,e,a,b⟩) /\
 (∀{l:List AOp} {k:List Nat},rg l k = .reg l (some k))/\(∀{l:List DOp} {k:List Nat},dr l k = .draw l (some k)):=
 ⟨rfl,rfl,rfl,rfl,rfl,rfl,rfl,rfl,rfl,rfl,rfl,rfl,rfl,rfl,rfl,rfl,rfl,rfl,rfl,rfl,rfl⟩
def wZ:=And.intro wA (And.intro wB (And.intro @w_oc (And.intro @w_oe (And.intro @w_gc (And.intro @w_ge (And.intro wG wS))))))
end
section
variable (C:Hd)(gl:GL)(e:En)(h:aA)(x:Esc)(K:KT)
def wR:ACode:=.pr [10,11,12,13,14,15,16,17,18,19,20,21,22,23,24,25,26,27,28,29,30,31,32,33,34,35,36] (.seq (rg [mV 177 11,
mV 178 27,
bN 179 .eql 177 178,
mV 180 179,
gD 181 180 true (.load (some 2) 10),
gD 182 180 true (.load (some 2) 29),
gD 183 180 true (.eqa [0,0] false 181 182),
uO 184 (.pick 180 183 cF),
mV 185 184,
gD 186 185 true (.mv 13),
gD 187 185 true (.mv 26),
gD 188 185 true (.bin .eql 186 187),
uO 189 (.pick 185 188 cF),
mV 190 189,
gD 191 190 true (.load (some 2) 12),
gD 192 190 true (.load (some 2) 30),
gD 193 190 true (.eqa [0,0] false 191 192),
uO 194 (.pick 190 193 cF),
mV 195 194,
gD 196 195 true (.mv 15),
gD 197 195 true (.mv 25),
gD 198 195 true (.bin .eql 196 197),
uO 199 (.pick 195 198 cF),
mV 200 199,
gD 201 200 true (.mv 14),
gD 202 200 true (.mv 31),
gD 203 200 true (.call pM [201,202]),
uO 204 (.pick 200 203 cF),
mV 205 204,
gD 206 205 true (.mv 17),
gD 207 205 true (.mv 28),
gD 208 205 true (.bin .eql 206 207),
uO 209 (.pick 205 208 cF),
mV 210 209,
gD 211 210 true (.mv 16),
gD 212 210 true (.mv 36),
gD 213 210 true (.bin .eql 211 212),
uO 214 (.pick 210 213 cF),
mV 215 214,
gD 216 215 true (.mv 21),
gD 217 215 true (.mv 24),
gD 218 215 true (.bin .eql 216 217),
uO 219 (.pick 215 218 cF),
mV 220 219,
gD 221 220 true (.mv 18),
gD 222 220 true (.mv 32),
gD 223 220 true (.bin .eql 221 222),
uO 224 (.pick 220 223 cF),
mV 225 224,
gD 226 225 true (.mv 19),
gD 227 225 true (.mv 33),
gD 228 225 true (.bin .eql 226 227),
uO 229 (.pick 225 228 cF),
mV 230 229,
gD 231 230 true (.mv 20),
gD 232 230 true (.mv 34),
gD 233 230 true (.eqa [] false 231 232),
uO 234 (.pick 230 233 cF),
mV 235 234,
gD 236 235 true (.mv 23),
gD 237 235 true (.mv 24),
gD 238 235 true (.bin .eql 236 237),
uO 239 (.pick 235 238 cF),
mV 240 239,
gD 241 240 true (.mv 22),
gD 242 240 true (.mv 35),
gD 243 240 true (.call oM [241,242]),
uO 244 (.pick 240 243 cF),
mV 245 244,
gD 246 245 true (.call bK []),
uO 247 (.pick 245 246 cF),
mV 2 247] [2])
.ret)
def z1P (C:Hd)(gl:GL)(v10 v11 v12 v13 v14 v15 v16 v17 v18 v19 v20 v21 v22 v23 v24 v25 v26 v27 v28 v29 v30 v31 v32 v33 v34 v35 v36:AV)(h:aA)(x:Esc)(K:KT):Prop:=
 pK (CA .eql v11 v27) λt1=>
 gP t1 true (uA (some 2) v10 h) h λt2 h3 y4=>
 gP t1 true (uA (some 2) v29 h3) h3 λt5 h6 y7=>
 gP t1 true (TA [0,0] false t2 t5) h6 λt8 h9 y10=>
 pK (jD t1 t8 (AB false)) λt11=>
 gM t11 true v13 h9 λt12 h13 y14=>
 gM t11 true v26 h13 λt15 h16 y17=>
 gP t11 true (CA .eql t12 t15) h16 λt18 h19 y20=>
 pK (jD t11 t18 (AB false)) λt21=>
 gP t21 true (uA (some 2) v12 h19) h19 λt22 h23 y24=>
 gP t21 true (uA (some 2) v30 h23) h23 λt25 h26 y27=>
 gP t21 true (TA [0,0] false t22 t25) h26 λt28 h29 y30=>
 pK (jD t21 t28 (AB false)) λt31=>
 gM t31 true v15 h29 λt32 h33 y34=>
 gM t31 true v25 h33 λt35 h36 y37=>
 gP t31 true (CA .eql t32 t35) h36 λt38 h39 y40=>
 pK (jD t31 t38 (AB false)) λt41=>
 gM t41 true v14 h39 λt42 h43 y44=>
 gM t41 true v31 h43 λt45 h46 y47=>
 gV t41 true h46 (C pM [t42,t45] h46) λt48 h49 y50=>
 pK (jD t41 t48 (AB false)) λt51=>
 gM t51 true v17 h49 λt52 h53 y54=>
 gM t51 true v28 h53 λt55 h56 y57=>
 gP t51 true (CA .eql t52 t55) h56 λt58 h59 y60=>
 pK (jD t51 t58 (AB false)) λt61=>
 gM t61 true v16 h59 λt62 h63 y64=>
 gM t61 true v36 h63 λt65 h66 y67=>
 gP t61 true (CA .eql t62 t65) h66 λt68 h69 y70=>
 pK (jD t61 t68 (AB false)) λt71=>
 gM t71 true v21 h69 λt72 h73 y74=>
 gM t71 true v24 h73 λt75 h76 y77=>
 gP t71 true (CA .eql t72 t75) h76 λt78 h79 y80=>
 pK (jD t71 t78 (AB false)) λt81=>
 gM t81 true v18 h79 λt82 h83 y84=>
 gM t81 true v32 h83 λt85 h86 y87=>
 gP t81 true (CA .eql t82 t85) h86 λt88 h89 y90=>
 pK (jD t81 t88 (AB false)) λt91=>
 gM t91 true v19 h89 λt92 h93 y94=>
 gM t91 true v33 h93 λt95 h96 y97=>
 gP t91 true (CA .eql t92 t95) h96 λt98 h99 y100=>
 pK (jD t91 t98 (AB false)) λt101=>
 gM t101 true v20 h99 λt102 h103 y104=>
 gM t101 true v34 h103 λt105 h106 y107=>
 gP t101 true (TA [] false t102 t105) h106 λt108 h109 y110=>
 pK (jD t101 t108 (AB false)) λt111=>
 gM t111 true v23 h109 λt112 h113 y114=>
 gM t111 true v24 h113 λt115 h116 y117=>
 gP t111 true (CA .eql t112 t115) h116 λt118 h119 y120=>
 pK (jD t111 t118 (AB false)) λt121=>
 gM t121 true v22 h119 λt122 h123 y124=>
 gM t121 true v35 h123 λt125 h126 y127=>
 gV t121 true h126 (C oM [t122,t125] h126) λt128 h129 y130=>
 pK (jD t121 t128 (AB false)) λt131=>
 gV t131 true h129 (C bK [] h129) λt132 h133 y134=>
 pK (jD t131 t132 (AB false)) λt135=>
 K .ret ⟨[(2,t135)],h133,(y134++(y130++(y127++(y124++(y120++(y117++(y114++(y110++(y107++(y104++(y100++(y97++(y94++(y90++(y87++(y84++(y80++(y77++(y74++(y70++(y67++(y64++(y60++(y57++(y54++(y50++(y47++(y44++(y40++(y37++(y34++(y30++(y27++(y24++(y20++(y17++(y14++(y10++(y7++(y4++x))))))))))))))))))))))))))))))))))))))))⟩
theorem z43 {C gl e h x K}:NW C gl wR ⟨e,h,x⟩ K=z1P C gl (bA e 10) (bA e 11) (bA e 12) (bA e 13) (bA e 14) (bA e 15) (bA e 16) (bA e 17) (bA e 18) (bA e 19) (bA e 20) (bA e 21) (bA e 22) (bA e 23) (bA e 24) (bA e 25) (bA e 26) (bA e 27) (bA e 28) (bA e 29) (bA e 30) (bA e 31) (bA e 32) (bA e 33) (bA e 34) (bA e 35) (bA e 36) h x K:=by kernel_rfl
def z8M (q1:ACode):ACode:=.pr [4,5,8,9,10,11,12,13,14,15,16,17,18,19,20,21,22,23,24,25,26,27,28,29,30,31,32,33,34,35] (.seq (rg [mV 36 (cI 0)] [4,5,8,9,10,11,12,13,14,15,16,17,18,19,20,21,22,23,24,25,26,27,28,29,30,31,32,33,34,35,36])
(.seq (.seq (rg [mV 170 28,
bN 171 .eql 170 (cI 0)] [4,5,8,9,10,11,12,13,14,15,16,17,18,19,20,21,22,23,24,25,26,27,28,29,30,31,32,33,34,35,36,171])
(.cond 171 (rg [lD 172 (some 2) 4,
mV 173 5,
mV 174 8,
lD 175 (some 2) 9,
cL 176 UH [172,173,174,175],
mV 36 176] [10,11,12,13,14,15,16,17,18,19,20,21,22,23,24,25,26,27,28,29,30,31,32,33,34,35,36])
.skip))
q1))
def HW:ACode:=z8M wR
def yL (C:Hd)(gl:GL)(q1:ACode)(v4 v5 v8 v9 v10 v11 v12 v13 v14 v15 v16 v17 v18 v19 v20 v21 v22 v23 v24 v25 v26 v27 v28 v29 v30 v31 v32 v33 v34 v35:AV)(h:aA)(x:Esc)(K:KT):Prop:=
 pK (CA .eql v28 (AI 0)) λt1=>
 BB t1 (pK (uA (some 2) v4 h) λt2=>
 pK (uA (some 2) v9 h) λt3=>
 C UH [t2,v5,v8,t3] h λt4 h5 y6=>
 NW C gl q1 ⟨[(10,v10),(11,v11),(12,v12),(13,v13),(14,v14),(15,v15),(16,v16),(17,v17),(18,v18),(19,v19),(20,v20),(21,v21),(22,v22),(23,v23),(24,v24),(25,v25),(26,v26),(27,v27),(28,v28),(29,v29),(30,v30),(31,v31),(32,v32),(33,v33),(34,v34),(35,v35),(36,t4)],h5,(y6++x)⟩ K)
 (NW C gl q1 ⟨[(4,v4),(5,v5),(8,v8),(9,v9),(10,v10),(11,v11),(12,v12),(13,v13),(14,v14),(15,v15),(16,v16),(17,v17),(18,v18),(19,v19),(20,v20),(21,v21),(22,v22),(23,v23),(24,v24),(25,v25),(26,v26),(27,v27),(28,v28),(29,v29),(30,v30),(31,v31),(32,v32),(33,v33),(34,v34),(35,v35),(36,(AI 0)),(171,t1)],h,x⟩ K)
theorem zfd {C gl q1 e h x K}:NW C gl (z8M q1) ⟨e,h,x⟩ K=yL C gl q1 (bA e 4) (bA e 5) (bA e 8) (bA e 9) (bA e 10) (bA e 11) (bA e 12) (bA e 13) (bA e 14) (bA e 15) (bA e 16) (bA e 17) (bA e 18) (bA e 19) (bA e 20) (bA e 21) (bA e 22) (bA e 23) (bA e 24) (bA e 25) (bA e 26) (bA e 27) (bA e 28) (bA e 29) (bA e 30) (bA e 31) (bA e 32) (bA e 33) (bA e 34) (bA e 35) h x K:=by kernel_rfl
theorem xV {C gl e h x K}:NW C gl HW ⟨e,h,x⟩ K=yL C gl wR (bA e 4) (bA e 5) (bA e 8) (bA e 9) (bA e 10) (bA e 11) (bA e 12) (bA e 13) (bA e 14) (bA e 15) (bA e 16) (bA e 17) (bA e 18) (bA e 19) (bA e 20) (bA e 21) (bA e 22) (bA e 23) (bA e 24) (bA e 25) (bA e 26) (bA e 27) (bA e 28) (bA e 29) (bA e 30) (bA e 31) (bA e 32) (bA e 33) (bA e 34) (bA e 35) h x K:=zfd
def z8N (q2:ACode):ACode:=.pr [4,5,6,8,9,10,11,12,13,14,15,16,17,18,19,20,21,22,23,24,25,26,27,28,29,30,31] (.seq (rg [mV 32 (cS []),
mV 33 (cI 0),
mV 34 cF] [4,5,6,8,9,10,11,12,13,14,15,16,17,18,19,20,21,22,23,24,25,26,27,28,29,30,31,32,33,34])
(.seq (rg [mV 35 (.c (.p (.sl (some 2) [])))] [4,5,6,8,9,10,11,12,13,14,15,16,17,18,19,20,21,22,23,24,25,26,27,28,29,30,31,32,33,34,35])
(.seq (.seq (rg [mV 149 24,
bN 150 .eql 149 (cI 0)] [4,5,6,8,9,10,11,12,13,14,15,16,17,18,19,20,21,22,23,24,25,26,27,28,29,30,31,32,33,34,35,150])
(.cond 150 (.seq (rg [lD 152 (some 2) 4,
mV 153 5,
mV 154 6,
cL 155 VI [152,153,154],
mV 151 155,
eX 156 151 0,
eX 157 151 1,
wO (.store (some 2) 30 156),
mV 26 157] [4,5,6,8,9,10,11,12,13,14,15,16,17,18,19,20,21,22,23,24,25,26,27,28,29,30,31])
(.seq (rg [lD 159 (some 2) 4,
mV 160 5,
mV 161 6,
cL 162 UI [159,160,161],
mV 158 162,
eX 163 158 0,
eX 164 158 1,
eX 165 158 2,
mV 32 163,
mV 33 164,
mV 34 165] [4,5,6,8,9,10,11,12,13,14,15,16,17,18,19,20,21,22,23,24,25,26,27,28,29,30,31,32,33,34])
(rg [lD 166 (some 2) 4,
mV 167 5,
mV 168 6,
cL 169 SI [166,167,168],
mV 35 169] [4,5,8,9,10,11,12,13,14,15,16,17,18,19,20,21,22,23,24,25,26,27,28,29,30,31,32,33,34,35])))
.skip))
q2)))
def IW:ACode:=z8N HW
def zL (C:Hd)(gl:GL)(q2:ACode)(v4 v5 v6 v8 v9 v10 v11 v12 v13 v14 v15 v16 v17 v18 v19 v20 v21 v22 v23 v24 v25 v26 v27 v28 v29 v30 v31:AV)(h:aA)(x:Esc)(K:KT):Prop:=
 pK (CA .eql v24 (AI 0)) λt1=>
 BB t1 (pK (uA (some 2) v4 h) λt2=>
 C VI [t2,v5,v6] h λt3 h4 y5=>
 pK (oC t3 0) λt6=>
 pK (oC t3 1) λt7=>
 wK (vB (some 2) v30 t6 h4) λt8 h9 y10=>
 pK (uA (some 2) v4 h9) λt11=>
 C UI [t11,v5,v6] h9 λt12 h13 y14=>
 pK (oC t12 0) λt15=>
 pK (oC t12 1) λt16=>
 pK (oC t12 2) λt17=>
 pK (uA (some 2) v4 h13) λt18=>
 C SI [t18,v5,v6] h13 λt19 h20 y21=>
 NW C gl q2 ⟨[(4,v4),(5,v5),(8,v8),(9,v9),(10,v10),(11,v11),(12,v12),(13,v13),(14,v14),(15,v15),(16,v16),(17,v17),(18,v18),(19,v19),(20,v20),(21,v21),(22,v22),(23,v23),(24,v24),(25,v25),(26,t7),(27,v27),(28,v28),(29,v29),(30,v30),(31,v31),(32,t15),(33,t16),(34,t17),(35,t19)],h20,(y21++(y14++(y10++(y5++x))))⟩ K)
 (NW C gl q2 ⟨[(4,v4),(5,v5),(6,v6),(8,v8),(9,v9),(10,v10),(11,v11),(12,v12),(13,v13),(14,v14),(15,v15),(16,v16),(17,v17),(18,v18),(19,v19),(20,v20),(21,v21),(22,v22),(23,v23),(24,v24),(25,v25),(26,v26),(27,v27),(28,v28),(29,v29),(30,v30),(31,v31),(32,(.p (.str []))),(33,(AI 0)),(34,(AB false)),(35,(.p (.sl (some 2) []))),(150,t1)],h,x⟩ K)
theorem zfe {C gl q2 e h x K}:NW C gl (z8N q2) ⟨e,h,x⟩ K=zL C gl q2 (bA e 4) (bA e 5) (bA e 6) (bA e 8) (bA e 9) (bA e 10) (bA e 11) (bA e 12) (bA e 13) (bA e 14) (bA e 15) (bA e 16) (bA e 17) (bA e 18) (bA e 19) (bA e 20) (bA e 21) (bA e 22) (bA e 23) (bA e 24) (bA e 25) (bA e 26) (bA e 27) (bA e 28) (bA e 29) (bA e 30) (bA e 31) h x K:=by kernel_rfl
theorem yV {C gl e h x K}:NW C gl IW ⟨e,h,x⟩ K=zL C gl HW (bA e 4) (bA e 5) (bA e 6) (bA e 8) (bA e 9) (bA e 10) (bA e 11) (bA e 12) (bA e 13) (bA e 14) (bA e 15) (bA e 16) (bA e 17) (bA e 18) (bA e 19) (bA e 20) (bA e 21) (bA e 22) (bA e 23) (bA e 24) (bA e 25) (bA e 26) (bA e 27) (bA e 28) (bA e 29) (bA e 30) (bA e 31) h x K:=zfe
def z8L (q3:ACode):ACode:=(.seq (rg [mV 2 cF] [0])
(.seq (rg [mV 37 0,
uO 38 (.build [.sl0 none,.p (.int .i64 0)] [(0,1,37)]),
uO 39 (.box 38),
mV 3 39] [3])
(.seq (rg [mV 40 3,
cL 41 ZL [40],
mV 42 3,
mV 43 3,
cL 44 MD [43,(cI 0),(cI 20)],
cL 45 aM [42,44],
mV 46 3,
cL 47 bM [46],
mV 48 3,
uO 49 (.bsl false none 3 (.str []) [(0,(cS [115,99,97,110])),(1,(cS [102,108,97,115,104])),(2,(cS [122,122]))]),
cL 50 yC [48,49],
mV 51 3,
uO 52 (.bsl false none 3 (.str []) [(0,(cS [115,97])),(1,(cS [115,98])),(2,(cS [65]))]),
cL 53 yC [51,52],
uO 4 (.alloc [.sl0 none,.p (.int .i64 0)]),
wO (.store (some 2) 4 41),
mV 5 45,
mV 6 47,
mV 7 50,
mV 8 53] [3,4,5,6,7,8])
(.seq (rg [mV 54 3,
uO 55 (.bsl false none 4 (.int .i64 0) [(0,(cI 0)),(1,(cI 5)),(2,(cI 10)),(3,(cI (-1)))]),
cL 56 TD [54,55],
mV 57 3,
uO 58 (.bsl false none 6 (.int .i64 0) [(0,(cI 10)),(1,(cI 20)),(2,(cI 60)),(3,(cI 0)),(4,(cI 345686400000)),(5,(cI 345686400001))]),
cL 59 TD [57,58],
uO 60 (.build [.p (.int .i64 0),.p (.int .i64 0)] [(0,1,56),(1,1,59)]),
uO 9 (.alloc [.p (.int .i64 0),.p (.int .i64 0)]),
wO (.store (some 2) 9 60)] [4,5,6,7,8,9])
(.seq (rg [lD 62 (some 2) 4,
mV 63 5,
mV 64 7,
mV 65 6,
cL 66 uK [62,63,64,65],
mV 61 66,
eX 67 61 0,
eX 68 61 1,
uO 10 (.alloc [.p (.int .i64 0),.p (.int .i64 0)]),
wO (.store (some 2) 10 67),
mV 11 68] [4,5,6,7,8,9,10,11])
(.seq (rg [lD 70 (some 2) 4,
mV 71 5,
mV 72 6,
cL 73 vK [70,71,72],
mV 69 73,
eX 74 69 0,
eX 75 69 1,
uO 12 (.alloc [.p (.int .i64 0),.p (.int .i64 0)]),
wO (.store (some 2) 12 74),
mV 13 75] [4,5,6,7,8,9,10,11,12,13])
(.seq (rg [lD 77 (some 2) 4,
mV 78 5,
mV 79 7,
mV 80 6,
cL 81 xK [77,78,79,80],
mV 76 81,
eX 82 76 0,
eX 83 76 1,
mV 14 82,
mV 15 83] [4,5,6,7,8,9,10,11,12,13,14,15])
(.seq (rg [lD 85 (some 2) 4,
mV 86 5,
mV 87 8,
lD 88 (some 2) 9,
cL 89 oK [85,86,87,88],
mV 84 89,
eX 90 84 0,
eX 91 84 1,
mV 16 90,
mV 17 91] [4,5,6,7,8,9,10,11,12,13,14,15,16,17])
(.seq (rg [lD 93 (some 2) 4,
mV 94 5,
mV 95 6,
cL 96 tK [93,94,95],
mV 92 96,
eX 97 92 0,
eX 98 92 1,
eX 99 92 2,
eX 100 92 3,
mV 18 97,
mV 19 98,
mV 20 99,
mV 21 100] [4,5,6,7,8,9,10,11,12,13,14,15,16,17,18,19,20,21])
(.seq (rg [lD 102 (some 2) 4,
mV 103 5,
mV 104 6,
cL 105 sK [102,103,104],
mV 101 105,
eX 106 101 0,
eX 107 101 1,
mV 22 106,
mV 23 107] [4,5,6,7,8,9,10,11,12,13,14,15,16,17,18,19,20,21,22,23])
(.seq (rg [lD 108 (some 2) 4,
mV 109 5,
cL 110 RI [108,109],
mV 111 6,
cL 112 eM [111],
uO 113 (.bsl false none 2 (.int .i64 0) [(0,110),(1,112)]),
cL 114 JG [113],
mV 24 114] [4,5,6,7,8,9,10,11,12,13,14,15,16,17,18,19,20,21,22,23,24])
(.seq (rg [mV 115 24,
lD 116 (some 2) 4,
mV 117 7,
cL 118 XL [116,117],
uO 119 (.bsl false none 2 (.int .i64 0) [(0,115),(1,118)]),
cL 120 JG [119],
mV 121 24,
mV 25 120,
mV 26 121] [4,5,6,7,8,9,10,11,12,13,14,15,16,17,18,19,20,21,22,23,24,25,26])
(.seq (dr [dF (mV 122 25) [25],
dF (lD 123 (some 2) 4) [4],
dF (mV 124 5) [5],
dT (cL 125 RI [123,124]) [123,124],
dF (mV 126 8) [8],
dT (cL 127 WL [126]) [126],
dA (lD 128 (some 2) 9) [9] false [3,5] [],
dT (cL 129 jM [128]) [128],
dF (uO 130 (.bsl false none 3 (.int .i64 0) [(0,125),(1,127),(2,129)])) [125,127,129],
dT (cL 131 JG [130]) [130],
dF (mV 27 122) [122],
dF (mV 28 131) [131]] [4,5,6,7,8,9,10,11,12,13,14,15,16,17,18,19,20,21,22,23,24,25,26,27,28])
(.seq (rg [uO 132 (.build [.p (.int .i64 0),.p (.int .i64 0)] []),
uO 133 (.build [.p (.int .i64 0),.p (.int .i64 0)] []),
uO 29 (.alloc [.p (.int .i64 0),.p (.int .i64 0)]),
uO 30 (.alloc [.p (.int .i64 0),.p (.int .i64 0)]),
wO (.store (some 2) 29 132),
wO (.store (some 2) 30 133)] [4,5,6,7,8,9,10,11,12,13,14,15,16,17,18,19,20,21,22,23,24,25,26,27,28,29,30])
(.seq (rg [mV 31 (.c (.p (.sl none [])))] [4,5,6,7,8,9,10,11,12,13,14,15,16,17,18,19,20,21,22,23,24,25,26,27,28,29,30,31])
(.seq (.seq (rg [mV 134 25,
bN 135 .eql 134 (cI 0)] [4,5,6,7,8,9,10,11,12,13,14,15,16,17,18,19,20,21,22,23,24,25,26,27,28,29,30,31,135])
(.cond 135 (.seq (rg [lD 136 (some 2) 4,
mV 137 5,
mV 138 7,
mV 139 6,
cL 140 fK [136,137,138,139],
mV 31 140] [4,5,6,7,8,9,10,11,12,13,14,15,16,17,18,19,20,21,22,23,24,25,26,28,29,30,31])
(rg [lD 142 (some 2) 4,
mV 143 5,
mV 144 7,
mV 145 6,
cL 146 eK [142,143,144,145],
mV 141 146,
eX 147 141 0,
eX 148 141 1,
wO (.store (some 2) 29 147),
mV 27 148] [4,5,6,8,9,10,11,12,13,14,15,16,17,18,19,20,21,22,23,24,25,26,27,28,29,30,31]))
.skip))
q3))))))))))))))))
def VZ:AFun:=⟨1,[.t 2],z8L IW,false,false⟩
def EP (C:Hd)(gl:GL)(q3:ACode)(v0:AV)(h:aA)(x:Esc)(K:KT):Prop:=
 pK (jF [.sl0 none,.p (.int .i64 0)] [(0,1,v0)]) λt1=>
 wK (SM t1 h) λt2 h3 y4=>
 C ZL [t2] h3 λt5 h6 y7=>
 C MD [t2,(AI 0),(AI 20)] h6 λt8 h9 y10=>
 C aM [t2,t8] h9 λt11 h12 y13=>
 C bM [t2] h12 λt14 h15 y16=>
 wK (AC false none 3 (.str []) [(0,(.p (.str [115,99,97,110]))),(1,(.p (.str [102,108,97,115,104]))),(2,(.p (.str [122,122])))] h15) λt17 h18 y19=>
 C yC [t2,t17] h18 λt20 h21 y22=>
 wK (AC false none 3 (.str []) [(0,(.p (.str [115,97]))),(1,(.p (.str [115,98]))),(2,(.p (.str [65])))] h21) λt23 h24 y25=>
 C yC [t2,t23] h24 λt26 h27 y28=>
 alK [.sl0 none,.p (.int .i64 0)] h27 λt29 h30 y31=>
 wK (vB (some 2) t29 t5 h30) λt32 h33 y34=>
 wK (AC false none 4 (.int .i64 0) [(0,(AI 0)),(1,(AI 5)),(2,(AI 10)),(3,(AI (-1)))] h33) λt35 h36 y37=>
 C TD [t2,t35] h36 λt38 h39 y40=>
 wK (AC false none 6 (.int .i64 0) [(0,(AI 10)),(1,(AI 20)),(2,(AI 60)),(3,(AI 0)),(4,(AI 345686400000)),(5,(AI 345686400001))] h39) λt41 h42 y43=>
 C TD [t2,t41] h42 λt44 h45 y46=>
 pK (jF [.p (.int .i64 0),.p (.int .i64 0)] [(0,1,t38),(1,1,t44)]) λt47=>
 alK [.p (.int .i64 0),.p (.int .i64 0)] h45 λt48 h49 y50=>
 wK (vB (some 2) t48 t47 h49) λt51 h52 y53=>
 pK (uA (some 2) t29 h52) λt54=>
 C uK [t54,t11,t20,t14] h52 λt55 h56 y57=>
 pK (oC t55 0) λt58=>
 pK (oC t55 1) λt59=>
 alK [.p (.int .i64 0),.p (.int .i64 0)] h56 λt60 h61 y62=>
 wK (vB (some 2) t60 t58 h61) λt63 h64 y65=>
 pK (uA (some 2) t29 h64) λt66=>
 C vK [t66,t11,t14] h64 λt67 h68 y69=>
 pK (oC t67 0) λt70=>
 pK (oC t67 1) λt71=>
 alK [.p (.int .i64 0),.p (.int .i64 0)] h68 λt72 h73 y74=>
 wK (vB (some 2) t72 t70 h73) λt75 h76 y77=>
 pK (uA (some 2) t29 h76) λt78=>
 C xK [t78,t11,t20,t14] h76 λt79 h80 y81=>
 pK (oC t79 0) λt82=>
 pK (oC t79 1) λt83=>
 pK (uA (some 2) t29 h80) λt84=>
 pK (uA (some 2) t48 h80) λt85=>
 C oK [t84,t11,t26,t85] h80 λt86 h87 y88=>
 pK (oC t86 0) λt89=>
 pK (oC t86 1) λt90=>
 pK (uA (some 2) t29 h87) λt91=>
 C tK [t91,t11,t14] h87 λt92 h93 y94=>
 pK (oC t92 0) λt95=>
 pK (oC t92 1) λt96=>
 pK (oC t92 2) λt97=>
 pK (oC t92 3) λt98=>
 pK (uA (some 2) t29 h93) λt99=>
 C sK [t99,t11,t14] h93 λt100 h101 y102=>
 pK (oC t100 0) λt103=>
 pK (oC t100 1) λt104=>
 pK (uA (some 2) t29 h101) λt105=>
 C RI [t105,t11] h101 λt106 h107 y108=>
 C eM [t14] h107 λt109 h110 y111=>
 wK (AC false none 2 (.int .i64 0) [(0,t106),(1,t109)] h110) λt112 h113 y114=>
 C JG [t112] h113 λt115 h116 y117=>
 pK (uA (some 2) t29 h116) λt118=>
 C XL [t118,t20] h116 λt119 h120 y121=>
 wK (AC false none 2 (.int .i64 0) [(0,t115),(1,t119)] h120) λt122 h123 y124=>
 C JG [t122] h123 λt125 h126 y127=>
 pK (uA (some 2) t29 h126) λt128=>
 uD C RI [t128,t11] h126 λt129 h130 y131=>
 uD C WL [t26] h130 λt132 h133 y134=>
 pK (uA (some 2) t48 h133) λt135=>
 (pK (uA (some 2) t48 h126) λv=>(λu (g1:aA) (y1:Esc)=>u=t135/\g1=h126/\y1=[]) v h126 [])/\((pK (uA (some 2) t48 h130) λv=>(λu (g1:aA) (y1:Esc)=>u=t135/\g1=h130/\y1=[]) v h130 [])/\(uD C jM [t135] h133 λt136 h137 y138=>
 wK (AC false none 3 (.int .i64 0) [(0,t129),(1,t132),(2,t136)] h137) λt139 h140 y141=>
 (h140=h137/\y141=[])/\(uD C JG [t139] h140 λt142 h143 y144=>
 pK (jF [.p (.int .i64 0),.p (.int .i64 0)] []) λt145=>
 pK (jF [.p (.int .i64 0),.p (.int .i64 0)] []) λt146=>
 alK [.p (.int .i64 0),.p (.int .i64 0)] h143 λt147 h148 y149=>
 alK [.p (.int .i64 0),.p (.int .i64 0)] h148 λt150 h151 y152=>
 wK (vB (some 2) t147 t145 h151) λt153 h154 y155=>
 wK (vB (some 2) t150 t146 h154) λt156 h157 y158=>
 pK (CA .eql t125 (AI 0)) λt159=>
 BB t159 (pK (uA (some 2) t29 h157) λt160=>
 C fK [t160,t11,t20,t14] h157 λt161 h162 y163=>
 pK (uA (some 2) t29 h162) λt164=>
 C eK [t164,t11,t20,t14] h162 λt165 h166 y167=>
 pK (oC t165 0) λt168=>
 pK (oC t165 1) λt169=>
 wK (vB (some 2) t147 t168 h166) λt170 h171 y172=>
 NW C gl q3 ⟨[(4,t29),(5,t11),(6,t14),(8,t26),(9,t48),(10,t60),(11,t59),(12,t72),(13,t71),(14,t82),(15,t83),(16,t89),(17,t90),(18,t95),(19,t96),(20,t97),(21,t98),(22,t103),(23,t104),(24,t115),(25,t125),(26,t115),(27,t169),(28,t142),(29,t147),(30,t150),(31,t161)],h171,(y172++(y167++(y163++(y158++(y155++(y152++(y149++(y144++(y141++(y138++(y134++(y131++(y127++(y124++(y121++(y117++(y114++(y111++(y108++(y102++(y94++(y88++(y81++(y77++(y74++(y69++(y65++(y62++(y57++(y53++(y50++(y46++(y43++(y40++(y37++(y34++(y31++(y28++(y25++(y22++(y19++(y16++(y13++(y10++(y7++(y4++x))))))))))))))))))))))))))))))))))))))))))))))⟩ K)
 (NW C gl q3 ⟨[(4,t29),(5,t11),(6,t14),(7,t20),(8,t26),(9,t48),(10,t60),(11,t59),(12,t72),(13,t71),(14,t82),(15,t83),(16,t89),(17,t90),(18,t95),(19,t96),(20,t97),(21,t98),(22,t103),(23,t104),(24,t115),(25,t125),(26,t115),(27,t125),(28,t142),(29,t147),(30,t150),(31,(.p (.sl none []))),(135,t159)],h157,(y158++(y155++(y152++(y149++(y144++(y141++(y138++(y134++(y131++(y127++(y124++(y121++(y117++(y114++(y111++(y108++(y102++(y94++(y88++(y81++(y77++(y74++(y69++(y65++(y62++(y57++(y53++(y50++(y46++(y43++(y40++(y37++(y34++(y31++(y28++(y25++(y22++(y19++(y16++(y13++(y10++(y7++(y4++x)))))))))))))))))))))))))))))))))))))))))))⟩ K))))
theorem zfc {C gl q3 v0 h x K}:NW C gl (z8L q3) ⟨enter [v0],h,x⟩ K=EP C gl q3 v0 h x K:=by kernel_rfl
theorem zj9 {C gl v0 h x K}:NW C gl VZ.body ⟨enter [v0],h,x⟩ K=EP C gl IW v0 h x K:=zfc
def LW:ACode:=.pr [2,3] (.seq (rg [lD 27 (some 2) 3,
wO (.store (some 2) 2 27)] [2])
.ret)
def z1T:Sf C gl LW e h x K:=⟨_,by simp only[LW,↓wZ,AO.still];rfl⟩
theorem zjK:NW C gl LW ⟨e,h,x⟩ K=(z1T C gl e h x K).1:=(z1T ..).2
def MW:ACode:=.pr [0,2,3] (.seq (.seq (rg [mV 22 0,
cL 23 KG [22,(cI 25)]] [0,2,3,23])
(.cond 23 (rg [mV 24 0,
cL 25 aF [24,(cI 1),(cI 10)],
fA 26 1 none 3,
wO (.store none 26 25)] [2,3])
.skip))
LW)
def z1U:Sf C gl MW e h x K:=⟨_,by simp only[MW,↓wZ,AO.still];rfl⟩
theorem zjL:NW C gl MW ⟨e,h,x⟩ K=(z1U C gl e h x K).1:=(z1U ..).2
def xR:ACode:=.pr [0,2,3] (.seq (.seq (rg [mV 11 0,
cL 12 KG [11,(cI 20)]] [0,2,3,12])
(.cond 12 (dr [dF (fA 13 0 none 3) [3],
dF (lD 14 none 13) [13],
dF (mV 15 0) [0],
dF (uO 16 (.bsl false none 3 (.str []) [(0,(cS [])),(1,(cS [115,99,97,110])),(2,(cS [122,122]))])) [],
dA (cL 17 yC [15,16]) [15,16] true [] [1],
dF (uO 18 (.bsl false none 1 (.str []) [(0,17)])) [17],
dF (uO 19 (.bsl false none 2 (.sl none []) [(0,14),(1,18)])) [14,18],
dT (cL 20 tQ [19]) [19],
dF (fA 21 0 none 3) [3],
dT (wO (.store none 21 20)) [21,20]] [0,2,3])
.skip))
MW)
def NJ:Sf C gl xR e h x K:=⟨_,by simp only[xR,↓wZ,AO.still];rfl⟩
theorem JL:NW C gl xR ⟨e,h,x⟩ K=(NJ C gl e h x K).1:=(NJ ..).2
def z6f:ACode:=(.det (.seq (rg [uO 2 (.alloc [.sl0 none,.p (.int .i64 0)])] [0,2])
(.seq (.condu (.c .anyb) (.block 2 (.block 7 (.block 0 (.block 1 (.block 2 (.block 3 (.block 4 (.block 5 (.block 6 (.block 7 (.block 8 (.condu (.c .anyb) (.block 5 (.block 7 (.block 0 (.block 1 (.block 2 (.block 3 (.block 4 (.block 5 (.block 6 (.block 7 (.block 8 (dr [dF (uO 4 (.bsl false none 3 (.str []) [(0,(cS [115,99,97,110])),(1,(cS [102,108,97,115,104])),(2,(cS [98,117,114,110]))])) [],
dF (mV 5 0) [0],
dA (cL 6 MD [5,(cI 1),(cI 3)]) [5] true [] [0],
dF (uO 7 (.slice none 4 none (some 6) none)) [4,6],
dF (mV 8 0) [0],
dA (cL 9 MD [8,(cI 1),(cI 3)]) [8] true [] [0,3],
dF (uO 10 (.build [.sl0 none,.p (.int .i64 0)] [(0,1,7),(1,1,9)])) [7,9],
dA (uO 3 (.alloc [.sl0 none,.p (.int .i64 0)])) [] true [] [0,3],
dT (wO (.store (some 2) 3 10)) [3,10]] [0,2,3]))))))))))))
(.block 7 (.block 5 (.block 0 (.block 1 (.block 2 (.block 3 (.block 4 (.block 7 (.block 5 (.block 6 (.block 8 (dr [dF (uO 4 (.bsl false none 3 (.str []) [(0,(cS [115,99,97,110])),(1,(cS [102,108,97,115,104])),(2,(cS [98,117,114,110]))])) [],
dF (mV 5 0) [0],
dA (cL 6 MD [5,(cI 1),(cI 3)]) [5] true [] [0],
dF (uO 7 (.slice none 4 none (some 6) none)) [4,6],
dF (mV 8 0) [0],
dA (uO 3 (.alloc [.sl0 none,.p (.int .i64 0)])) [] true [] [0,3],
dA (cL 9 MD [8,(cI 1),(cI 3)]) [8] true [] [0,3],
dF (uO 10 (.build [.sl0 none,.p (.int .i64 0)] [(0,1,7),(1,1,9)])) [7,9],
dT (wO (.store (some 2) 3 10)) [3,10]] [0,2,3]))))))))))))))))))))))))
(.block 7 (.block 2 (.block 0 (.block 1 (.block 4 (.block 7 (.block 2 (.block 3 (.block 5 (.block 6 (.block 8 (dr [dF (uO 4 (.bsl false none 3 (.str []) [(0,(cS [115,99,97,110])),(1,(cS [102,108,97,115,104])),(2,(cS [98,117,114,110]))])) [],
dF (mV 5 0) [0],
dF (mV 8 0) [0],
dA (uO 3 (.alloc [.sl0 none,.p (.int .i64 0)])) [] true [] [0],
dA (cL 6 MD [5,(cI 1),(cI 3)]) [5] true [] [0],
dF (uO 7 (.slice none 4 none (some 6) none)) [4,6],
dA (cL 9 MD [8,(cI 1),(cI 3)]) [8] true [] [0,5],
dF (uO 10 (.build [.sl0 none,.p (.int .i64 0)] [(0,1,7),(1,1,9)])) [7,9],
dT (wO (.store (some 2) 3 10)) [3,10]] [0,2,3])))))))))))))
xR)))
def z0c:AFun:=⟨1,[.cell 2 (some 2)],z6f,false,false⟩
def gU:Sf C gl z6f e h x K:=⟨_,by simp only[z6f,↓wZ,AO.still];rfl⟩
theorem zjJ {C gl v0 h x K}:NW C gl z0c.body ⟨enter [v0],h,x⟩ K=(gU C gl [(0,v0)] h x K).1:=(gU C gl [(0,v0)] h x K).2
def yR:ACode:=.pr [0,5,6,7,9,11,12] (.seq (rg [fA 55 3 none 9,
lD 56 none 55,
bN 57 .eql 56 (cI 2)] [0,5,6,7,9,11,12,57])
(.cond 57 (rg [mV 58 0,
uO 59 (.bsl false none 4 (.str []) [(0,(cS [115,99,97,110])),(1,(cS [115,99,97,110])),(2,(cS [102,108,97,115,104])),(3,(cS [98,117,114,110]))]),
cL 60 yC [58,59],
fA 61 5 none 9,
wO (.store none 61 60)] [0,5,6,7,9,11,12])
.skip))
def zaj (C:Hd)(gl:GL)(v0 v5 v6 v7 v9 v11 v12:AV)(h:aA)(x:Esc)(K:KT):Prop:=
 pK (RA 3 none v9) λt1=>
 pK (uA none t1 h) λt2=>
 pK (CA .eql t2 (AI 2)) λt3=>
 BB t3 (wK (AC false none 4 (.str []) [(0,(.p (.str [115,99,97,110]))),(1,(.p (.str [115,99,97,110]))),(2,(.p (.str [102,108,97,115,104]))),(3,(.p (.str [98,117,114,110])))] h) λt4 h5 y6=>
 C yC [v0,t4] h5 λt7 h8 y9=>
 pK (RA 5 none v9) λt10=>
 wK (vB none t10 t7 h8) λt11 h12 y13=>
 K .normal ⟨[(0,v0),(5,v5),(6,v6),(7,v7),(9,v9),(11,v11),(12,v12)],h12,(y13++(y9++(y6++x)))⟩)
 (K .normal ⟨[(0,v0),(5,v5),(6,v6),(7,v7),(9,v9),(11,v11),(12,v12),(57,t3)],h,x⟩)
theorem z45 {C gl e h x K}:NW C gl yR ⟨e,h,x⟩ K=zaj C gl (bA e 0) (bA e 5) (bA e 6) (bA e 7) (bA e 9) (bA e 11) (bA e 12) h x K:=by kernel_rfl
def OW:ACode:=.pr [0,5,6,7,9,11,12] (rg [mV 111 5,
lD 112 (some 8) 9,
uO 113 (.bsl false (some 8) 1 (.agg [.str [],.int .i64 0,.int .i64 0,.int .i64 0,.str [],.str [],.str [],.int .i64 0]) [(0,112)]),
uO 114 (.app (some 8) 111 113),
mV 5 114] [0,5,6,7,11,12])
def zak (C:Hd)(gl:GL)(v0 v5 v6 v7 v9 v11 v12:AV)(h:aA)(x:Esc)(K:KT):Prop:=
 pK (uA (some 8) v9 h) λt1=>
 wK (AC false (some 8) 1 (.agg [.str [],.int .i64 0,.int .i64 0,.int .i64 0,.str [],.str [],.str [],.int .i64 0]) [(0,t1)] h) λt2 h3 y4=>
 wK (iR (some 8) v5 t2 h3) λt5 h6 y7=>
 K .normal ⟨[(0,v0),(5,t5),(6,v6),(7,v7),(11,v11),(12,v12)],h6,(y7++(y4++x))⟩
theorem zjN {C gl e h x K}:NW C gl OW ⟨e,h,x⟩ K=zak C gl (bA e 0) (bA e 5) (bA e 6) (bA e 7) (bA e 9) (bA e 11) (bA e 12) h x K:=by kernel_rfl
def z8P (q2:ACode):ACode:=.pr [0,5,6,7,9,11,12] (.seq (.seq (rg [mV 71 0,
cL 72 KG [71,(cI 100)]] [0,5,6,7,9,11,12,72])
(.cond 72 (.seq (rg [mV 73 0,
cL 74 eG [73,(cI 3)]] [0,5,6,7,9,11,12,74])
(.block 3 (.seq (rg [bN 83 .eql 74 (cI 0),
mV 82 83] [0,5,6,7,9,11,12,74,82])
(.cond 82 (rg [mV 84 0,
fA 85 0 none 9,
lD 86 none 85,
uO 87 (.bsl false none 2 (.str []) [(0,(cS [])),(1,86)]),
cL 88 yC [84,87],
mV 89 0,
cL 90 aF [89,(cI 1),(cI 9)],
mV 91 0,
cL 92 aF [91,(cI 0),(cI 100)],
fA 93 0 none 9,
wO (.store none 93 88),
fA 94 1 none 9,
wO (.store none 94 90),
fA 95 2 none 9,
wO (.store none 95 92)] [0,5,6,7,9,11,12])
(.seq (rg [bN 97 .eql 74 (cI 1),
mV 96 97] [0,5,6,7,9,11,12,96])
(.cond 96 (dr [dF (mV 98 0) [0],
dT (cL 99 aF [98,(cI 1),(cI 7)]) [98],
dF (mV 100 0) [0],
dF (fA 101 4 none 9) [9],
dA (lD 102 none 101) [101] false [1] [],
dA (uO 103 (.bsl false none 3 (.str []) [(0,(cS [])),(1,(cS [65])),(2,102)])) [102] false [1] [],
dT (cL 104 yC [100,103]) [100,103],
dF (mV 105 0) [0],
dA (uO 106 (.bsl false none 2 (.str []) [(0,(cS [])),(1,(cS [115,99,97,110]))])) [] false [1,6] [],
dT (cL 107 yC [105,106]) [105,106],
dF (fA 108 3 none 9) [9],
dT (wO (.store none 108 99)) [108,99],
dF (fA 109 4 none 9) [9],
dT (wO (.store none 109 104)) [109,104],
dF (fA 110 5 none 9) [9],
dT (wO (.store none 110 107)) [110,107]] [0,5,6,7,9,11,12])
(rg [mV 75 0,
uO 76 (.bsl false none 2 (.str []) [(0,(cS [])),(1,(cS [115,97]))]),
cL 77 yC [75,76],
mV 78 0,
cL 79 aF [78,(cI 0),(cI 5)],
fA 80 6 none 9,
wO (.store none 80 77),
fA 81 7 none 9,
wO (.store none 81 79)] [0,5,6,7,9,11,12])))))))
.skip))
q2)
def zR:ACode:=z8P OW
def eH (C:Hd)(gl:GL)(q2:ACode)(v0 v5 v6 v7 v9 v11 v12:AV)(h:aA)(x:Esc)(K:KT):Prop:=
 C KG [v0,(AI 100)] h λt1 h2 y3=>
 BB t1 (C eG [v0,(AI 3)] h2 λt4 h5 y6=>
 pK (CA .eql t4 (AI 0)) λt7=>
 BB t7 (pK (RA 0 none v9) λt8=>
 pK (uA none t8 h5) λt9=>
 wK (AC false none 2 (.str []) [(0,(.p (.str []))),(1,t9)] h5) λt10 h11 y12=>
 C yC [v0,t10] h11 λt13 h14 y15=>
 C aF [v0,(AI 1),(AI 9)] h14 λt16 h17 y18=>
 C aF [v0,(AI 0),(AI 100)] h17 λt19 h20 y21=>
 pK (RA 0 none v9) λt22=>
 wK (vB none t22 t13 h20) λt23 h24 y25=>
 pK (RA 1 none v9) λt26=>
 wK (vB none t26 t16 h24) λt27 h28 y29=>
 pK (RA 2 none v9) λt30=>
 wK (vB none t30 t19 h28) λt31 h32 y33=>
 NW C gl q2 ⟨[(0,v0),(5,v5),(6,v6),(7,v7),(9,v9),(11,v11),(12,v12)],h32,(y33++(y29++(y25++(y21++(y18++(y15++(y12++(y6++(y3++x)))))))))⟩ K)
 (pK (CA .eql t4 (AI 1)) λt34=>
 BB t34 (uD C aF [v0,(AI 1),(AI 7)] h5 λt35 h36 y37=>
 pK (RA 4 none v9) λt38=>
 pK (uA none t38 h36) λt39=>
 (pK (uA none t38 h5) λv=>(λu (g1:aA) (y1:Esc)=>u=t39/\g1=h5/\y1=[]) v h5 [])/\(wK (AC false none 3 (.str []) [(0,(.p (.str []))),(1,(.p (.str [65]))),(2,t39)] h36) λt40 h41 y42=>
 (h41=h36/\y42=[])/\((wK (AC false none 3 (.str []) [(0,(.p (.str []))),(1,(.p (.str [65]))),(2,t39)] h5) (λu (g1:aA) (y1:Esc)=>u=t40/\g1=h5/\y1=[]))/\(uD C yC [v0,t40] h41 λt43 h44 y45=>
 wK (AC false none 2 (.str []) [(0,(.p (.str []))),(1,(.p (.str [115,99,97,110])))] h44) λt46 h47 y48=>
 (h47=h44/\y48=[])/\((wK (AC false none 2 (.str []) [(0,(.p (.str []))),(1,(.p (.str [115,99,97,110])))] h5) (λu (g1:aA) (y1:Esc)=>u=t46/\g1=h5/\y1=[]))/\((wK (AC false none 2 (.str []) [(0,(.p (.str []))),(1,(.p (.str [115,99,97,110])))] h41) (λu (g1:aA) (y1:Esc)=>u=t46/\g1=h41/\y1=[]))/\(uD C yC [v0,t46] h47 λt49 h50 y51=>
 pK (RA 3 none v9) λt52=>
 wK (vB none t52 t35 h50) λt53 h54 y55=>
 pK (RA 4 none v9) λt56=>
 wK (vB none t56 t43 h54) λt57 h58 y59=>
 pK (RA 5 none v9) λt60=>
 wK (vB none t60 t49 h58) λt61 h62 y63=>
 NW C gl q2 ⟨[(0,v0),(5,v5),(6,v6),(7,v7),(9,v9),(11,v11),(12,v12)],h62,(y63++(y59++(y55++(y51++(y48++(y45++(y42++(y37++(y6++(y3++x))))))))))⟩ K)))))))
 (wK (AC false none 2 (.str []) [(0,(.p (.str []))),(1,(.p (.str [115,97])))] h5) λt64 h65 y66=>
 C yC [v0,t64] h65 λt67 h68 y69=>
 C aF [v0,(AI 0),(AI 5)] h68 λt70 h71 y72=>
 pK (RA 6 none v9) λt73=>
 wK (vB none t73 t67 h71) λt74 h75 y76=>
 pK (RA 7 none v9) λt77=>
 wK (vB none t77 t70 h75) λt78 h79 y80=>
 NW C gl q2 ⟨[(0,v0),(5,v5),(6,v6),(7,v7),(9,v9),(11,v11),(12,v12)],h79,(y80++(y76++(y72++(y69++(y66++(y6++(y3++x)))))))⟩ K)))
 (NW C gl q2 ⟨[(0,v0),(5,v5),(6,v6),(7,v7),(9,v9),(11,v11),(12,v12),(72,t1)],h2,(y3++x)⟩ K)
theorem zfg {C gl q2 e h x K}:NW C gl (z8P q2) ⟨e,h,x⟩ K=eH C gl q2 (bA e 0) (bA e 5) (bA e 6) (bA e 7) (bA e 9) (bA e 11) (bA e 12) h x K:=by kernel_rfl
theorem KL {C gl e h x K}:NW C gl zR ⟨e,h,x⟩ K=eH C gl OW (bA e 0) (bA e 5) (bA e 6) (bA e 7) (bA e 9) (bA e 11) (bA e 12) h x K:=zfg
def z8Q (q1 q3:ACode):ACode:=.pr [0,5,6,7,8,9,11,12] (.seq (rg [mV 31 7,
fA 32 0 none 9,
lD 33 none 32,
uO 34 (.look (none,[2]) false (AI 0) 31 33),
bN 35 .add 34 (cI 1),
wO (.mupd (none,[2]) 31 33 35)] [0,5,6,7,8,9,11,12])
(.seq (rg [mV 36 7,
fA 37 0 none 9,
lD 38 none 37,
uO 39 (.look (none,[2]) false (AI 0) 36 38),
fA 40 1 none 9,
wO (.store none 40 39)] [0,5,6,7,8,9,11,12])
(.seq (.seq (rg [fA 41 3 none 9,
lD 42 none 41] [0,5,6,7,8,9,11,12,42])
(.block 2 (.seq (rg [bN 63 .eql 42 (cI 7),
mV 62 63] [0,5,6,7,8,9,11,12,62])
(.cond 62 (rg [mV 64 0,
uO 65 (.bsl false none 2 (.str []) [(0,(cS [115,97])),(1,(cS [115,98]))]),
cL 66 yC [64,65],
mV 67 0,
cL 68 MD [67,(cI 1),(cI 8)],
fA 69 6 none 9,
wO (.store none 69 66),
fA 70 7 none 9,
wO (.store none 70 68)] [0,5,6,7,9,11,12])
(.seq (rg [uO 43 (.bsl false none 3 (.str []) [(0,(cS [98,49])),(1,(cS [98,50])),(2,(cS [98,51]))]),
mV 44 8,
bN 45 .rem 44 (cI 3),
iA 46 none 43 45,
lD 47 none 46,
fA 48 4 none 9,
wO (.store none 48 47)] [0,5,6,7,8,9,11,12])
(.seq (.seq (rg [mV 49 8,
bN 50 .geq 49 (cI 3)] [0,5,6,7,9,11,12,50])
(.cond 50 (rg [mV 51 0,
uO 52 (.bsl false none 5 (.str []) [(0,(cS [98,49])),(1,(cS [98,49])),(2,(cS [98,50])),(3,(cS [98,51])),(4,(cS [98,52]))]),
cL 53 yC [51,52],
fA 54 4 none 9,
wO (.store none 54 53)] [0,5,6,7,9,11,12])
.skip))
q1))))))
q3)))
def PW:ACode:=z8Q yR zR
def OJ (C:Hd)(gl:GL)(q1 q3:ACode)(v0 v5 v6 v7 v8 v9 v11 v12:AV)(h:aA)(x:Esc)(K:KT):Prop:=
 pK (RA 0 none v9) λt1=>
 pK (uA none t1 h) λt2=>
 pK (UA (none,[2]) false (AI 0) v7 t2 h) λt3=>
 pK (CA .add t3 (AI 1)) λt4=>
 wK (ZA (none,[2]) v7 t2 t4 h) λt5 h6 y7=>
 pK (RA 0 none v9) λt8=>
 pK (uA none t8 h6) λt9=>
 pK (UA (none,[2]) false (AI 0) v7 t9 h6) λt10=>
 pK (RA 1 none v9) λt11=>
 wK (vB none t11 t10 h6) λt12 h13 y14=>
 pK (RA 3 none v9) λt15=>
 pK (uA none t15 h13) λt16=>
 pK (CA .eql t16 (AI 7)) λt17=>
 BB t17 (wK (AC false none 2 (.str []) [(0,(.p (.str [115,97]))),(1,(.p (.str [115,98])))] h13) λt18 h19 y20=>
 C yC [v0,t18] h19 λt21 h22 y23=>
 C MD [v0,(AI 1),(AI 8)] h22 λt24 h25 y26=>
 pK (RA 6 none v9) λt27=>
 wK (vB none t27 t21 h25) λt28 h29 y30=>
 pK (RA 7 none v9) λt31=>
 wK (vB none t31 t24 h29) λt32 h33 y34=>
 NW C gl q3 ⟨[(0,v0),(5,v5),(6,v6),(7,v7),(9,v9),(11,v11),(12,v12)],h33,(y34++(y30++(y26++(y23++(y20++(y14++(y7++x)))))))⟩ K)
 (wK (AC false none 3 (.str []) [(0,(.p (.str [98,49]))),(1,(.p (.str [98,50]))),(2,(.p (.str [98,51])))] h13) λt35 h36 y37=>
 pK (CA .rem v8 (AI 3)) λt38=>
 pK (OF none t35 t38 h36) λt39=>
 pK (uA none t39 h36) λt40=>
 pK (RA 4 none v9) λt41=>
 wK (vB none t41 t40 h36) λt42 h43 y44=>
 pK (CA .geq v8 (AI 3)) λt45=>
 BB t45 (wK (AC false none 5 (.str []) [(0,(.p (.str [98,49]))),(1,(.p (.str [98,49]))),(2,(.p (.str [98,50]))),(3,(.p (.str [98,51]))),(4,(.p (.str [98,52])))] h43) λt46 h47 y48=>
 C yC [v0,t46] h47 λt49 h50 y51=>
 pK (RA 4 none v9) λt52=>
 wK (vB none t52 t49 h50) λt53 h54 y55=>
 NW C gl q1 ⟨[(0,v0),(5,v5),(6,v6),(7,v7),(9,v9),(11,v11),(12,v12)],h54,(y55++(y51++(y48++(y44++(y37++(y14++(y7++x)))))))⟩ (iC 2 (mD C gl q3 K)))
 (NW C gl q1 ⟨[(0,v0),(5,v5),(6,v6),(7,v7),(9,v9),(11,v11),(12,v12),(50,t45)],h43,(y44++(y37++(y14++(y7++x))))⟩ (iC 2 (mD C gl q3 K))))
theorem zfh {C gl q1 q3 e h x K}:NW C gl (z8Q q1 q3) ⟨e,h,x⟩ K=OJ C gl q1 q3 (bA e 0) (bA e 5) (bA e 6) (bA e 7) (bA e 8) (bA e 9) (bA e 11) (bA e 12) h x K:=by kernel_rfl
theorem z47 {C gl e h x K}:NW C gl PW ⟨e,h,x⟩ K=OJ C gl yR zR (bA e 0) (bA e 5) (bA e 6) (bA e 7) (bA e 8) (bA e 9) (bA e 11) (bA e 12) h x K:=zfh
def QW:ACode:=.pr [0,5,6,7,11,12] (rg [bN 115 .add 12 (cI 1),
mV 12 115] [0,5,6,7,11,12])
def zal (C:Hd)(gl:GL)(v0 v5 v6 v7 v11 v12:AV)(h:aA)(x:Esc)(K:KT):Prop:=
 pK (CA .add v12 (AI 1)) λt1=>
 K .normal ⟨[(0,v0),(5,v5),(6,v6),(7,v7),(11,v11),(12,t1)],h,x⟩
theorem zjO {C gl e h x K}:NW C gl QW ⟨e,h,x⟩ K=zal C gl (bA e 0) (bA e 5) (bA e 6) (bA e 7) (bA e 11) (bA e 12) h x K:=by kernel_rfl
def z8R (q4 q5:ACode):ACode:=.pr [0,5,6,7,11,12] (.seq (rg [bN 13 .lss 12 11] [0,5,6,7,11,12,13])
(.seq (.cond 13 .skip
(.exit 0))
(.seq (.block 1 (.seq (rg [mV 14 12,
mV 8 14] [0,5,6,7,8,11,12])
(.seq (rg [mV 15 6,
mV 16 0,
uO 17 (.bsl false none 5 (.int .i64 0) [(0,(cI 0)),(1,(cI 1)),(2,(cI 1)),(3,(cI 3)),(4,(cI 10))]),
cL 18 TD [16,17],
bN 19 .add 15 18,
mV 6 19] [0,5,6,7,8,11,12])
(.seq (rg [mV 20 0,
uO 21 (.bsl false none 3 (.str []) [(0,(cS [115,97])),(1,(cS [115,97])),(2,(cS [115,98]))]),
cL 22 yC [20,21],
mV 23 6,
mV 24 0,
uO 25 (.bsl false none 12 (.int .i64 0) [(0,(cI 2)),(1,(cI 2)),(2,(cI 2)),(3,(cI 3)),(4,(cI 3)),(5,(cI 4)),(6,(cI 4)),(7,(cI 5)),(8,(cI 5)),(9,(cI 6)),(10,(cI 7)),(11,(cI 1))]),
cL 26 TD [24,25],
uO 27 (.build [.p (.str []),.p (.int .i64 0),.p (.int .i64 0),.p (.int .i64 0),.p (.str []),.p (.str []),.p (.str []),.p (.int .i64 0)] [(0,1,22),(2,1,23),(3,1,26)]),
uO 9 (.alloc [.p (.str []),.p (.int .i64 0),.p (.int .i64 0),.p (.int .i64 0),.p (.str []),.p (.str []),.p (.str []),.p (.int .i64 0)]),
wO (.store (some 8) 9 27)] [0,5,6,7,8,9,11,12])
(.seq (.seq (rg [mV 28 8,
bN 29 .lss 28 (cI 3)] [0,5,6,7,8,9,11,12,29])
(.cond 29 (rg [fA 30 3 none 9,
wO (.store none 30 (cI 1))] [0,5,6,7,8,9,11,12])
.skip))
q4)))))
q5)))
def kN:ACode:=z8R PW QW
def z1V (C:Hd)(gl:GL)(q4 q5:ACode)(v0 v5 v6 v7 v11 v12:AV)(h:aA)(x:Esc)(K:KT):Prop:=
 pK (CA .lss v12 v11) λt1=>
 BB t1 (wK (AC false none 5 (.int .i64 0) [(0,(AI 0)),(1,(AI 1)),(2,(AI 1)),(3,(AI 3)),(4,(AI 10))] h) λt2 h3 y4=>
 C TD [v0,t2] h3 λt5 h6 y7=>
 pK (CA .add v6 t5) λt8=>
 wK (AC false none 3 (.str []) [(0,(.p (.str [115,97]))),(1,(.p (.str [115,97]))),(2,(.p (.str [115,98])))] h6) λt9 h10 y11=>
 C yC [v0,t9] h10 λt12 h13 y14=>
 wK (AC false none 12 (.int .i64 0) [(0,(AI 2)),(1,(AI 2)),(2,(AI 2)),(3,(AI 3)),(4,(AI 3)),(5,(AI 4)),(6,(AI 4)),(7,(AI 5)),(8,(AI 5)),(9,(AI 6)),(10,(AI 7)),(11,(AI 1))] h13) λt15 h16 y17=>
 C TD [v0,t15] h16 λt18 h19 y20=>
 pK (jF [.p (.str []),.p (.int .i64 0),.p (.int .i64 0),.p (.int .i64 0),.p (.str []),.p (.str []),.p (.str []),.p (.int .i64 0)] [(0,1,t12),(2,1,t8),(3,1,t18)]) λt21=>
 alK [.p (.str []),.p (.int .i64 0),.p (.int .i64 0),.p (.int .i64 0),.p (.str []),.p (.str []),.p (.str []),.p (.int .i64 0)] h19 λt22 h23 y24=>
 wK (vB (some 8) t22 t21 h23) λt25 h26 y27=>
 pK (CA .lss v12 (AI 3)) λt28=>
 BB t28 (pK (RA 3 none t22) λt29=>
 wK (vB none t29 (AI 1) h26) λt30 h31 y32=>
 NW C gl q4 ⟨[(0,v0),(5,v5),(6,t8),(7,v7),(8,v12),(9,t22),(11,v11),(12,v12)],h31,(y32++(y27++(y24++(y20++(y17++(y14++(y11++(y7++(y4++x)))))))))⟩ (iC 1 (mD C gl q5 K)))
 (NW C gl q4 ⟨[(0,v0),(5,v5),(6,t8),(7,v7),(8,v12),(9,t22),(11,v11),(12,v12),(29,t28)],h26,(y27++(y24++(y20++(y17++(y14++(y11++(y7++(y4++x))))))))⟩ (iC 1 (mD C gl q5 K))))
 (K (.exit 0) ⟨[(0,v0),(5,v5),(6,v6),(7,v7),(11,v11),(12,v12),(13,t1)],h,x⟩)
theorem zfi {C gl q4 q5 e h x K}:NW C gl (z8R q4 q5) ⟨e,h,x⟩ K=z1V C gl q4 q5 (bA e 0) (bA e 5) (bA e 6) (bA e 7) (bA e 11) (bA e 12) h x K:=by kernel_rfl
theorem zjP {C gl e h x K}:NW C gl kN ⟨e,h,x⟩ K=z1V C gl PW QW (bA e 0) (bA e 5) (bA e 6) (bA e 7) (bA e 11) (bA e 12) h x K:=zfi
theorem zpA {C gl e h x K}:NW C gl (.loop (.scope kN)) ⟨e,h,x⟩ K=yA C gl (.scope kN) K [(0,bA e 0),(5,bA e 5),(6,bA e 6),(7,bA e 7),(11,bA e 11),(12,bA e 12)] h x:=wC
def AR:ACode:=.pr [5] (.seq (rg [mV 116 5,
cL 117 qM [116,(.f VH)]] [5])
(.seq (rg [mV 118 5,
mV 4 118] [4])
.ret))
def zam (C:Hd)(gl:GL)(v5:AV)(h:aA)(x:Esc)(K:KT):Prop:=
 C qM [v5,(.fn VH [])] h λt1 h2 y3=>
 K .ret ⟨[(4,v5)],h2,(y3++x)⟩
theorem zjQ {C gl e h x K}:NW C gl AR ⟨e,h,x⟩ K=zam C gl (bA e 5) h x K:=by kernel_rfl
def z8O (q6 q7:ACode):ACode:=(.seq (rg [mV 4 (.c (.p (.sl (some 8) [])))] [0,1])
(.seq (rg [uO 5 (.new0 (some 8))] [0,1,5])
(.seq (rg [mV 6 (cI 0)] [0,1,5,6])
(.seq (rg [uO 10 (.mkmap),
mV 7 10] [0,1,5,6,7])
(.seq (.seq (rg [mV 11 1,
mV 12 (cI 0)] [0,5,6,7,11,12])
(.block 0 (.loop (.scope q6))))
q7)))))
def z0d:AFun:=⟨2,[.t 4],z8O kN AR,false,false⟩
def iU (C:Hd)(gl:GL)(q6 q7:ACode)(v0 v1:AV)(h:aA)(x:Esc)(K:KT):Prop:=
 nwK (some 8) h λt1 h2 y3=>
 mmK h2 λt4 h5 y6=>
 NW C gl (.loop (.scope q6)) ⟨[(0,v0),(5,t1),(6,(AI 0)),(7,t4),(11,v1),(12,(AI 0))],h5,(y6++(y3++x))⟩ (iC 0 (mD C gl q7 K))
theorem zff {C gl q6 q7 v0 v1 h x K}:NW C gl (z8O q6 q7) ⟨enter [v0,v1],h,x⟩ K=iU C gl q6 q7 v0 v1 h x K:=by kernel_rfl
theorem zjM {C gl v0 v1 h x K}:NW C gl z0d.body ⟨enter [v0,v1],h,x⟩ K=iU C gl kN AR v0 v1 h x K:=zff
def z6l:ACode:=(.seq (rg [mV 6 (cI 0)] [0,1,2])
(.seq (.seq (rg [mV 7 2,
mV 8 1,
bN 9 .lss 7 8] [0,1,2,9])
(.cond 9 (.seq (rg [mV 10 1,
mV 6 10] [6])
.ret)
.skip))
(.seq (rg [mV 11 1,
mV 12 0,
mV 13 2,
mV 14 1,
bN 15 .sub 13 14,
bN 16 .add 15 (cI 1),
cL 17 eG [12,16],
bN 18 .add 11 17,
mV 6 18] [6])
.ret)))
def z0j:AFun:=⟨3,[.t 6],z6l,false,false⟩
def mU:Sf C gl z6l e h x K:=⟨_,by simp only[z6l,↓wZ,AO.still];rfl⟩
theorem zjW {C gl v0 v1 v2 h x K}:NW C gl z0j.body ⟨enter [v0,v1,v2],h,x⟩ K=(mU C gl [(0,v0),(1,v1),(2,v2)] h x K).1:=(mU C gl [(0,v0),(1,v1),(2,v2)] h x K).2
def z6g:ACode:=(.seq (rg [mV 2 (cI 0)] [0])
(.seq (rg [mV 3 0,
uO 4 (.bsl false none 9 (.int .i64 0) [(0,(cI 5)),(1,(cI 10)),(2,(cI 20)),(3,(cI 40)),(4,(cI 100)),(5,(cI 500)),(6,(cI 0)),(7,(cI (-1))),(8,(cI 345686400000))]),
cL 5 TD [3,4],
mV 2 5] [2])
.ret))
def z0e:AFun:=⟨1,[.t 2],z6g,false,false⟩
def jU:Sf C gl z6g e h x K:=⟨_,by simp only[z6g,↓wZ,AO.still];rfl⟩
theorem zjR {C gl v0 h x K}:NW C gl z0e.body ⟨enter [v0],h,x⟩ K=(jU C gl [(0,v0)] h x K).1:=(jU C gl [(0,v0)] h x K).2
def z6m:ACode:=(.seq (rg [mV 4 (cS [])] [0,1])
(.seq (rg [mV 5 1,
mV 6 0,
mV 7 1,
lN 8 7,
cL 9 eG [6,8],
iA 10 none 5 9,
lD 11 none 10,
mV 4 11] [4])
.ret))
def z0k:AFun:=⟨2,[.t 4],z6m,false,false⟩
def nU:Sf C gl z6m e h x K:=⟨_,by simp only[z6m,↓wZ,AO.still];rfl⟩
theorem zjX {C gl v0 v1 h x K}:NW C gl z0k.body ⟨enter [v0,v1],h,x⟩ K=(nU C gl [(0,v0),(1,v1)] h x K).1:=(nU C gl [(0,v0),(1,v1)] h x K).2
def z6k:ACode:=(.seq (rg [mV 4 (cI 0)] [0,1])
(.seq (rg [mV 5 1,
mV 6 0,
mV 7 1,
lN 8 7,
cL 9 eG [6,8],
iA 10 none 5 9,
lD 11 none 10,
mV 4 11] [4])
.ret))
def z0i:AFun:=⟨2,[.t 4],z6k,false,false⟩
def lU:Sf C gl z6k e h x K:=⟨_,by simp only[z6k,↓wZ,AO.still];rfl⟩
theorem zjV {C gl v0 v1 h x K}:NW C gl z0i.body ⟨enter [v0,v1],h,x⟩ K=(lU C gl [(0,v0),(1,v1)] h x K).1:=(lU C gl [(0,v0),(1,v1)] h x K).2
def z7s:ACode:=(.seq (rg [uO 4 (.box 0),
uO 8 (.alloc [.p (.int .i64 0),.p (.int .i64 0)]),
mV 9 (cI 0)] [1,2,3,4,8])
(.seq (.seq (rg [lD 13 (some 2) 4,
mV 14 1,
mV 15 2,
mV 16 3,
cL 17 BM [13,14,15,16],
mV 10 17] [1,2,3,4,8,10])
(.seq (rg [mV 18 10,
bN 19 .neq 18 (cI 0)] [1,2,3,4,8,10,19])
(.cond 19 (.seq (rg [uO 20 (.build [.p (.int .i64 0),.p (.int .i64 0)] []),
mV 21 10,
wO (.store (some 2) 8 20),
mV 9 21] [8,9])
.ret)
.skip)))
(.seq (dr [dF (lD 23 (some 2) 4) [4],
dF (mV 24 1) [1],
dF (mV 25 3) [3],
dA (cL 26 fG [24,25]) [24,25] true [] [0],
dT (cL 27 ND [23,26]) [23,26],
dF (mV 28 2) [2],
dT (cL 29 xM [27,28]) [27,28],
dF (mV 22 29) [29],
dF (eX 30 22 0) [22],
dF (eX 31 22 1) [22],
dF (mV 11 30) [30],
dF (mV 12 31) [31]] [8,11,12])
(.seq (.seq (rg [mV 32 12,
bN 33 .eql 32 (cI 0)] [8,11,12,33])
(.cond 33 (.seq (rg [uO 34 (.build [.p (.int .i64 0),.p (.int .i64 0)] []),
wO (.store (some 2) 8 34),
mV 9 (cI 8)] [8,9])
.ret)
.skip))
(.seq (rg [mV 35 11,
mV 36 12,
cL 37 bQ [35,36],
wO (.store (some 2) 8 37),
mV 9 (cI 0)] [8,9])
.ret)))))
def z1e:AFun:=⟨4,[.cell 8 (some 2),.t 9],z7s,false,false⟩
def FL:Sf C gl z7s e h x K:=⟨_,by simp only[z7s,↓wZ,AO.still];rfl⟩
theorem zmV {C gl v0 v1 v2 v3 h x K}:NW C gl z1e.body ⟨enter [v0,v1,v2,v3],h,x⟩ K=(FL C gl [(0,v0),(1,v1),(2,v2),(3,v3)] h x K).1:=(FL C gl [(0,v0),(1,v1),(2,v2),(3,v3)] h x K).2
def nO:ACode:=.pr [6,9,10,31,32,33] (.seq (rg [bN 34 .lss 33 32] [6,9,10,31,32,33,34])
(.seq (.cond 34 .skip
(.exit 0))
(.seq (.block 1 (.seq (rg [iA 35 none 31 33,
lD 36 none 35,
mV 12 36] [6,9,10,12,31,32,33])
(.seq (rg [mV 38 9,
mV 39 12,
cL 40 xM [38,39],
mV 37 40,
eX 41 37 0,
eX 42 37 1,
mV 13 41,
mV 14 42] [6,9,10,13,14,31,32,33])
(.seq (.seq (rg [mV 43 14,
bN 44 .eql 43 (cI 0)] [6,9,10,13,14,31,32,33,44])
(.cond 44 (.seq (rg [uO 45 (.build [.p (.int .i64 0),.p (.int .i64 0)] []),
wO (.store (some 2) 6 45),
mV 7 (cI 8)] [6,7])
.ret)
.skip))
(rg [mV 46 10,
mV 47 13,
mV 48 14,
uO 49 (.build [.p (.int .i64 0),.p (.int .i64 0)] [(0,1,47),(1,1,48)]),
uO 50 (.bsl false (some 2) 1 (.agg [.int .i64 0,.int .i64 0]) [(0,49)]),
uO 51 (.app (some 2) 46 50),
mV 10 51] [6,9,10,31,32,33])))))
(rg [bN 52 .add 33 (cI 1),
mV 33 52] [6,9,10,31,32,33]))))
def z3Y:Sf C gl nO e h x K:=⟨_,by simp only[nO,↓wZ,AO.still];rfl⟩
theorem zmX:NW C gl nO ⟨e,h,x⟩ K=(z3Y C gl e h x K).1:=(z3Y ..).2
theorem zq3 {C gl e h x K}:NW C gl (.loop (.scope nO)) ⟨e,h,x⟩ K=yA C gl (.scope nO) K [(6,bA e 6),(9,bA e 9),(10,bA e 10),(31,bA e 31),(32,bA e 32),(33,bA e 33)] h x:=wC
def jY:ACode:=.pr [6,10] (.seq (rg [mV 54 10,
cL 55 YJ [54],
mV 53 55,
eX 56 53 0,
eX 57 53 1,
uO 15 (.alloc [.p (.int .i64 0),.p (.int .i64 0)]),
wO (.store (some 2) 15 56),
mV 16 57] [6,15,16])
(.seq (.seq (rg [mV 58 16,
uO 59 (.un .not 58)] [6,15,59])
(.cond 59 (.seq (rg [uO 60 (.build [.p (.int .i64 0),.p (.int .i64 0)] []),
wO (.store (some 2) 6 60),
mV 7 (cI 12)] [6,7])
.ret)
.skip))
(.seq (rg [lD 61 (some 2) 15,
wO (.store (some 2) 6 61),
mV 7 (cI 0)] [6,7])
.ret)))
def z3Z:Sf C gl jY e h x K:=⟨_,by simp only[jY,↓wZ,AO.still];rfl⟩
theorem zmY:NW C gl jY ⟨e,h,x⟩ K=(z3Z C gl e h x K).1:=(z3Z ..).2
def z7t:ACode:=(.seq (rg [uO 3 (.box 0),
uO 6 (.alloc [.p (.int .i64 0),.p (.int .i64 0)]),
mV 7 (cI 0)] [1,2,3,6])
(.seq (.seq (rg [lD 17 (some 2) 3,
mV 18 1,
mV 19 2,
cL 20 lH [17,18,19],
mV 8 20] [1,2,3,6,8])
(.seq (rg [mV 21 8,
bN 22 .neq 21 (cI 0)] [1,2,3,6,8,22])
(.cond 22 (.seq (rg [uO 23 (.build [.p (.int .i64 0),.p (.int .i64 0)] []),
mV 24 8,
wO (.store (some 2) 6 23),
mV 7 24] [6,7])
.ret)
.skip)))
(.seq (dr [dF (lD 25 (some 2) 3) [3],
dF (mV 26 1) [1],
dF (mV 27 2) [2],
dA (cL 28 fG [26,27]) [26,27] true [] [0],
dT (cL 29 ND [25,28]) [25,28],
dF (mV 9 29) [29]] [3,6,9])
(.seq (rg [uO 10 (.new0 (some 2))] [3,6,9,10])
(.seq (.seq (rg [fA 30 0 none 3,
lD 31 none 30,
lN 32 31,
mV 33 (cI 0)] [6,9,10,31,32,33])
(.block 0 (.loop (.scope nO))))
jY)))))
def z1f:AFun:=⟨3,[.cell 6 (some 2),.t 7],z7t,false,false⟩
def VP:Sf C gl z7t e h x K:=⟨_,by simp only[z7t,↓wZ,AO.still];rfl⟩
theorem zmW {C gl v0 v1 v2 h x K}:NW C gl z1f.body ⟨enter [v0,v1,v2],h,x⟩ K=(VP C gl [(0,v0),(1,v1),(2,v2)] h x K).1:=(VP C gl [(0,v0),(1,v1),(2,v2)] h x K).2
def kY:ACode:=.pr [2,11,29,30,31] (rg [bN 47 .add 31 (cI 1),
mV 31 47] [2,11,29,30,31])
def z4a:Sf C gl kY e h x K:=⟨_,by simp only[kY,↓wZ,AO.still];rfl⟩
theorem zna:NW C gl kY ⟨e,h,x⟩ K=(z4a C gl e h x K).1:=(z4a ..).2
def oO:ACode:=.pr [2,11,29,30,31] (.seq (rg [bN 32 .lss 31 30] [2,11,29,30,31,32])
(.seq (.cond 32 .skip
(.exit 0))
(.seq (.block 1 (.seq (rg [iA 33 (some 5) 29 31,
lD 34 (some 5) 33,
uO 13 (.alloc [.p (.str []),.p (.str []),.p (.int .i64 0),.p (.int .i64 0),.p (.bool false)]),
wO (.store (some 5) 13 34)] [2,11,13,29,30,31])
(.seq (rg [fA 35 1 none 13,
lD 36 none 35,
mV 37 2,
bN 38 .eql 36 37] [2,11,13,29,30,31,38])
(.cond 38 (rg [mV 39 11,
fA 40 3 none 13,
lD 41 none 40,
fA 42 2 none 13,
lD 43 none 42,
bN 44 .sub 41 43,
uO 45 (.bsl false none 1 (.int .i64 0) [(0,44)]),
uO 46 (.app none 39 45),
mV 11 46] [2,11,29,30,31])
.skip))))
kY)))
def z4b:Sf C gl oO e h x K:=⟨_,by simp only[oO,↓wZ,AO.still];rfl⟩
theorem znb:NW C gl oO ⟨e,h,x⟩ K=(z4b C gl e h x K).1:=(z4b ..).2
theorem zq4 {C gl e h x K}:NW C gl (.loop (.scope oO)) ⟨e,h,x⟩ K=yA C gl (.scope oO) K [(2,bA e 2),(11,bA e 11),(29,bA e 29),(30,bA e 30),(31,bA e 31)] h x:=wC
def lY:ACode:=.pr [11] (.seq (rg [mV 48 11,
mV 8 48,
mV 9 (cI 0)] [8,9])
.ret)
def z4c:Sf C gl lY e h x K:=⟨_,by simp only[lY,↓wZ,AO.still];rfl⟩
theorem znc:NW C gl lY ⟨e,h,x⟩ K=(z4c C gl e h x K).1:=(z4c ..).2
def z7u:ACode:=(.seq (rg [uO 4 (.box 0),
mV 8 (.c (.p (.sl none []))),
mV 9 (cI 0)] [1,2,3,4])
(.seq (.seq (rg [lD 14 (some 2) 4,
mV 15 1,
mV 16 2,
mV 17 3,
cL 18 BM [14,15,16,17],
mV 10 18] [1,2,3,4,10])
(.seq (rg [mV 19 10,
bN 20 .neq 19 (cI 0)] [1,2,3,4,10,20])
(.cond 20 (.seq (rg [mV 21 10,
mV 8 (.c (.p (.sl none []))),
mV 9 21] [8,9])
.ret)
.skip)))
(.seq (rg [uO 11 (.new0 none)] [1,2,3,4,11])
(.seq (.seq (dr [dF (lD 22 (some 2) 4) [4],
dF (mV 23 1) [1],
dF (mV 24 3) [3],
dA (cL 25 fG [23,24]) [23,24] true [] [0],
dT (cL 26 ND [22,25]) [22,25],
dF (uO 27 (.nilchk 26)) [26],
dF (fA 28 4 none 27) [27],
dF (lD 29 none 28) [28],
dF (lN 30 29) [29],
dF (mV 31 (cI 0)) []] [2,11,29,30,31])
(.block 0 (.loop (.scope oO))))
lY))))
def z1g:AFun:=⟨4,[.t 8,.t 9],z7u,false,false⟩
def WP:Sf C gl z7u e h x K:=⟨_,by simp only[z7u,↓wZ,AO.still];rfl⟩
theorem zmZ {C gl v0 v1 v2 v3 h x K}:NW C gl z1g.body ⟨enter [v0,v1,v2,v3],h,x⟩ K=(WP C gl [(0,v0),(1,v1),(2,v2),(3,v3)] h x K).1:=(WP C gl [(0,v0),(1,v1),(2,v2),(3,v3)] h x K).2
def aY:ACode:=.pr [2,7,11,13,14,41,42,43] (.seq (rg [fA 53 0 none 13,
lD 54 none 53,
mV 55 2,
bN 56 .eql 54 55] [2,7,11,13,14,41,42,43,56])
(.cond 56 (rg [mV 57 11,
mV 58 14,
fA 59 1 none 7,
lD 60 none 59,
uO 61 (.mn [58,60]),
fA 62 1 none 13,
lD 63 none 62,
fA 64 0 none 7,
lD 65 none 64,
uO 66 (.mx [63,65]),
bN 67 .sub 61 66,
uO 68 (.mx [(cI 0),67]),
bN 69 .add 57 68,
mV 11 69] [2,7,11,41,42,43])
.skip))
def z3L:Sf C gl aY e h x K:=⟨_,by simp only[aY,↓wZ,AO.still];rfl⟩
theorem zmE:NW C gl aY ⟨e,h,x⟩ K=(z3L C gl e h x K).1:=(z3L ..).2
def bY:ACode:=.pr [2,7,11,41,42,43] (rg [bN 70 .add 43 (cI 1),
mV 43 70] [2,7,11,41,42,43])
def z3M:Sf C gl bY e h x K:=⟨_,by simp only[bY,↓wZ,AO.still];rfl⟩
theorem zmF:NW C gl bY ⟨e,h,x⟩ K=(z3M C gl e h x K).1:=(z3M ..).2
def fO:ACode:=.pr [2,7,11,41,42,43] (.seq (rg [bN 44 .lss 43 42] [2,7,11,41,42,43,44])
(.seq (.cond 44 .skip
(.exit 1))
(.seq (.block 2 (.seq (rg [iA 45 (some 3) 41 43,
lD 46 (some 3) 45,
uO 13 (.alloc [.p (.str []),.p (.int .i64 0),.p (.int .i64 0)]),
wO (.store (some 3) 13 46)] [2,7,11,13,41,42,43])
(.seq (rg [fA 47 2 none 13,
lD 48 none 47,
mV 14 48] [2,7,11,13,14,41,42,43])
(.seq (.seq (rg [mV 49 14,
bN 50 .lss 49 (cI 0)] [2,7,11,13,14,41,42,43,50])
(.cond 50 (rg [fA 51 1 none 7,
lD 52 none 51,
mV 14 52] [2,7,11,13,14,41,42,43])
.skip))
aY))))
bY)))
def z3N:Sf C gl fO e h x K:=⟨_,by simp only[fO,↓wZ,AO.still];rfl⟩
theorem zmG:NW C gl fO ⟨e,h,x⟩ K=(z3N C gl e h x K).1:=(z3N ..).2
theorem zqy {C gl e h x K}:NW C gl (.loop (.scope fO)) ⟨e,h,x⟩ K=yA C gl (.scope fO) K [(2,bA e 2),(7,bA e 7),(11,bA e 11),(41,bA e 41),(42,bA e 42),(43,bA e 43)] h x:=wC
def cY:ACode:=.pr [11] (.seq (rg [mV 71 11,
mV 8 71,
mV 9 (cI 0)] [8,9])
.ret)
def z3O:Sf C gl cY e h x K:=⟨_,by simp only[cY,↓wZ,AO.still];rfl⟩
theorem zmH:NW C gl cY ⟨e,h,x⟩ K=(z3O C gl e h x K).1:=(z3O ..).2
def z7n:ACode:=(.seq (rg [uO 4 (.box 0),
uO 7 (.box 3),
mV 8 (cI 0),
mV 9 (cI 0)] [1,2,4,7])
(.seq (.seq (rg [lD 15 (some 2) 4,
cL 16 rK [15],
mV 17 1,
cL 18 qK [17],
uO 19 (.bsl false none 2 (.int .i64 0) [(0,16),(1,18)]),
cL 20 WJ [19],
mV 10 20] [1,2,4,7,10])
(.seq (rg [mV 21 10,
bN 22 .neq 21 (cI 0)] [1,2,4,7,10,22])
(.cond 22 (.seq (rg [mV 23 10,
mV 8 (cI 0),
mV 9 23] [8,9])
.ret)
.skip)))
(.seq (.block 0 (.seq (rg [mV 25 2,
cL 26 cG [25],
uO 27 (.un .not 26),
mV 24 27] [1,2,4,7,24])
(.cond 24 (.seq (rg [mV 8 (cI 0),
mV 9 (cI 5)] [8,9])
.ret)
(.seq (rg [lD 29 (some 2) 7,
cL 30 dQ [29],
uO 31 (.un .not 30),
mV 28 31] [1,2,4,7,28])
(.cond 28 (.seq (rg [mV 8 (cI 0),
mV 9 (cI 1)] [8,9])
.ret)
.skip)))))
(.seq (rg [mV 11 (cI 0)] [1,2,4,7,11])
(.seq (.seq (dr [dF (lD 32 (some 2) 4) [4],
dF (mV 33 1) [1],
dF (fA 34 1 none 7) [7],
dF (lD 35 none 34) [34],
dF (bN 36 .sub 35 (cI 1)) [35],
dA (cL 37 fG [33,36]) [33,36] true [] [0],
dT (cL 38 ND [32,37]) [32,37],
dF (uO 39 (.nilchk 38)) [38],
dF (fA 40 5 none 39) [39],
dF (lD 41 none 40) [40],
dF (lN 42 41) [41],
dF (mV 43 (cI 0)) []] [2,7,11,41,42,43])
(.block 1 (.loop (.scope fO))))
cY)))))
def z1b:AFun:=⟨4,[.t 8,.t 9],z7n,false,false⟩
def TJ:Sf C gl z7n e h x K:=⟨_,by simp only[z7n,↓wZ,AO.still];rfl⟩
theorem zmD {C gl v0 v1 v2 v3 h x K}:NW C gl z1b.body ⟨enter [v0,v1,v2,v3],h,x⟩ K=(TJ C gl [(0,v0),(1,v1),(2,v2),(3,v3)] h x K).1:=(TJ C gl [(0,v0),(1,v1),(2,v2),(3,v3)] h x K).2
def hY:ACode:=.pr [11,12,13,14,35,36,37] (rg [bN 76 .add 37 (cI 1),
mV 37 76] [11,12,13,14,35,36,37])
def z3V:Sf C gl hY e h x K:=⟨_,by simp only[hY,↓wZ,AO.still];rfl⟩
theorem zmS:NW C gl hY ⟨e,h,x⟩ K=(z3V C gl e h x K).1:=(z3V ..).2
def mO:ACode:=.pr [11,12,13,14,35,36,37] (.seq (rg [bN 38 .lss 37 36] [11,12,13,14,35,36,37,38])
(.seq (.cond 38 .skip
(.exit 0))
(.seq (.block 1 (.seq (rg [iA 39 none 35 37,
lD 40 none 39,
mV 16 40] [11,12,13,14,16,35,36,37])
(.seq (rg [mV 41 11,
uO 42 (.nilchk 41),
fA 43 2 none 42,
lD 44 none 43,
mV 45 16,
uO 46 (.look (none,[2]) false (.nilp) 44 45),
mV 17 46] [11,12,13,14,16,17,35,36,37])
(.seq (rg [mV 47 17,
uO 48 (.nilchk 47),
fA 49 0 none 48,
lD 50 none 49,
bN 51 .neq 50 (cI 4),
mV 52 51,
gD 53 52 true (.mv 17),
gD 54 52 true (.nilchk 53),
gD 55 52 true (.faddr 0 none 54),
gD 56 52 true (.load none 55),
gD 57 52 true (.bin .neq 56 (cI 5)),
uO 58 (.pick 52 57 cF),
mV 59 58,
gD 60 59 true (.mv 14),
gD 61 59 true (.un .not 60),
gD 62 59 true (.mv 61),
gD 63 62 false (.mv 17),
gD 64 62 false (.nilchk 63),
gD 65 62 false (.faddr 1 none 64),
gD 66 62 false (.load none 65),
gD 67 62 false (.mv 13),
gD 68 62 false (.bin .lss 66 67),
gD 69 59 true (.pick 62 cT 68),
uO 70 (.pick 59 69 cF)] [11,12,13,14,16,17,35,36,37,70])
(.cond 70 (dr [dF (mV 71 16) [16],
dF (mV 72 17) [17],
dF (uO 73 (.nilchk 72)) [72],
dF (fA 74 1 none 73) [73],
dF (lD 75 none 74) [74],
dF (mV 12 71) [71],
dF (mV 13 75) [75],
dF (mV 14 cT) []] [11,12,13,14,35,36,37])
.skip)))))
hY)))
def z3W:Sf C gl mO e h x K:=⟨_,by simp only[mO,↓wZ,AO.still];rfl⟩
theorem zmT:NW C gl mO ⟨e,h,x⟩ K=(z3W C gl e h x K).1:=(z3W ..).2
theorem zq2 {C gl e h x K}:NW C gl (.loop mO) ⟨e,h,x⟩ K=yA C gl mO K [(11,bA e 11),(12,bA e 12),(13,bA e 13),(14,bA e 14),(35,bA e 35),(36,bA e 36),(37,bA e 37)] h x:=mB
def iY:ACode:=.pr [12,13,14] (.seq (rg [mV 77 12,
mV 78 13,
mV 79 14,
mV 6 77,
mV 7 78,
mV 8 79,
mV 9 (cI 0)] [6,7,8,9])
.ret)
def z3X:Sf C gl iY e h x K:=⟨_,by simp only[iY,↓wZ,AO.still];rfl⟩
theorem zmU:NW C gl iY ⟨e,h,x⟩ K=(z3X C gl e h x K).1:=(z3X ..).2
def z7r:ACode:=(.seq (rg [uO 3 (.box 0),
mV 6 (cS []),
mV 7 (cI 0),
mV 8 cF,
mV 9 (cI 0)] [1,2,3])
(.seq (.seq (rg [lD 18 (some 2) 3,
mV 19 1,
mV 20 2,
cL 21 lH [18,19,20],
mV 10 21] [1,2,3,10])
(.seq (rg [mV 22 10,
bN 23 .neq 22 (cI 0)] [1,2,3,10,23])
(.cond 23 (.seq (rg [mV 24 10,
mV 6 (cS []),
mV 7 (cI 0),
mV 8 cF,
mV 9 24] [6,7,8,9])
.ret)
.skip)))
(.seq (dr [dF (lD 25 (some 2) 3) [3],
dF (mV 26 1) [1],
dF (mV 27 2) [2],
dA (cL 28 fG [26,27]) [26,27] true [] [0],
dT (cL 29 ND [25,28]) [25,28],
dF (mV 11 29) [29]] [11])
(.seq (rg [mV 12 (cS []),
mV 13 (cI 0),
mV 14 cF] [11,12,13,14])
(.seq (.seq (rg [mV 30 11,
uO 31 (.nilchk 30),
fA 32 2 none 31,
lD 33 none 32,
cL 34 fQ [33],
cL 35 z4N [34],
lN 36 35,
mV 37 (cI 0)] [11,12,13,14,35,36,37])
(.block 0 (.loop mO)))
iY)))))
def z1d:AFun:=⟨3,[.t 6,.t 7,.t 8,.t 9],z7r,false,false⟩
def UP:Sf C gl z7r e h x K:=⟨_,by simp only[z7r,↓wZ,AO.still];rfl⟩
theorem zmR {C gl v0 v1 v2 h x K}:NW C gl z1d.body ⟨enter [v0,v1,v2],h,x⟩ K=(UP C gl [(0,v0),(1,v1),(2,v2)] h x K).1:=(UP C gl [(0,v0),(1,v1),(2,v2)] h x K).2
def fY:ACode:=.pr [9,10,27,28,29] (rg [bN 47 .add 29 (cI 1),
mV 29 47] [9,10,27,28,29])
def z3S:Sf C gl fY e h x K:=⟨_,by simp only[fY,↓wZ,AO.still];rfl⟩
theorem zmO:NW C gl fY ⟨e,h,x⟩ K=(z3S C gl e h x K).1:=(z3S ..).2
def lO:ACode:=.pr [9,10,27,28,29] (.seq (rg [bN 30 .lss 29 28] [9,10,27,28,29,30])
(.seq (.cond 30 .skip
(.exit 0))
(.seq (.block 1 (.seq (rg [iA 31 none 27 29,
lD 32 none 31,
mV 12 32] [9,10,12,27,28,29])
(.seq (rg [mV 33 9,
mV 34 12,
cL 35 DQ [33,34],
mV 13 35] [9,10,12,13,27,28,29])
(.seq (rg [mV 36 13,
lN 37 36,
bN 38 .gtr 37 (cI 0)] [9,10,12,13,27,28,29,38])
(.cond 38 (rg [mV 39 10,
mV 40 12,
mV 41 13,
iA 42 none 41 (cI 0),
lD 43 none 42,
uO 44 (.build [.p (.str []),.p (.str [])] [(0,1,40),(1,1,43)]),
uO 45 (.bsl false (some 2) 1 (.agg [.str [],.str []]) [(0,44)]),
uO 46 (.app (some 2) 39 45),
mV 10 46] [9,10,27,28,29])
.skip)))))
fY)))
def z3T:Sf C gl lO e h x K:=⟨_,by simp only[lO,↓wZ,AO.still];rfl⟩
theorem zmP:NW C gl lO ⟨e,h,x⟩ K=(z3T C gl e h x K).1:=(z3T ..).2
theorem zq1 {C gl e h x K}:NW C gl (.loop (.scope lO)) ⟨e,h,x⟩ K=yA C gl (.scope lO) K [(9,bA e 9),(10,bA e 10),(27,bA e 27),(28,bA e 28),(29,bA e 29)] h x:=wC
def gY:ACode:=.pr [10] (.seq (rg [mV 48 10,
mV 6 48,
mV 7 (cI 0)] [6,7])
.ret)
def z3U:Sf C gl gY e h x K:=⟨_,by simp only[gY,↓wZ,AO.still];rfl⟩
theorem zmQ:NW C gl gY ⟨e,h,x⟩ K=(z3U C gl e h x K).1:=(z3U ..).2
def z7q:ACode:=(.seq (rg [uO 3 (.box 0),
mV 6 (.c (.p (.sl (some 2) []))),
mV 7 (cI 0)] [1,2,3])
(.seq (.seq (rg [lD 14 (some 2) 3,
mV 15 1,
mV 16 2,
cL 17 lH [14,15,16],
mV 8 17] [1,2,3,8])
(.seq (rg [mV 18 8,
bN 19 .neq 18 (cI 0)] [1,2,3,8,19])
(.cond 19 (.seq (rg [mV 20 8,
mV 6 (.c (.p (.sl (some 2) []))),
mV 7 20] [6,7])
.ret)
.skip)))
(.seq (dr [dF (lD 21 (some 2) 3) [3],
dF (mV 22 1) [1],
dF (mV 23 2) [2],
dA (cL 24 fG [22,23]) [22,23] true [] [0],
dT (cL 25 ND [21,24]) [21,24],
dF (mV 9 25) [25]] [3,9])
(.seq (rg [uO 10 (.new0 (some 2))] [3,9,10])
(.seq (.seq (rg [fA 26 0 none 3,
lD 27 none 26,
lN 28 27,
mV 29 (cI 0)] [9,10,27,28,29])
(.block 0 (.loop (.scope lO))))
gY)))))
def z1c:AFun:=⟨3,[.t 6,.t 7],z7q,false,false⟩
def TP:Sf C gl z7q e h x K:=⟨_,by simp only[z7q,↓wZ,AO.still];rfl⟩
theorem zmN {C gl v0 v1 v2 h x K}:NW C gl z1c.body ⟨enter [v0,v1,v2],h,x⟩ K=(TP C gl [(0,v0),(1,v1),(2,v2)] h x K).1:=(TP C gl [(0,v0),(1,v1),(2,v2)] h x K).2
def jN:ACode:=.pr [5,6,7] (.seq (rg [bN 8 .lss 7 6] [5,6,7,8])
(.seq (.cond 8 .skip
(.exit 0))
(.seq (.block 1 (.seq (rg [iA 9 none 5 7,
lD 10 none 9,
mV 4 10] [4,5,6,7])
(.seq (rg [mV 11 4,
bN 12 .neq 11 (cI 0)] [4,5,6,7,12])
(.cond 12 (.seq (rg [mV 13 4,
mV 2 13] [2])
.ret)
.skip))))
(rg [bN 14 .add 7 (cI 1),
mV 7 14] [5,6,7]))))
def z1Q:Sf C gl jN e h x K:=⟨_,by simp only[jN,↓wZ,AO.still];rfl⟩
theorem zjB:NW C gl jN ⟨e,h,x⟩ K=(z1Q C gl e h x K).1:=(z1Q ..).2
theorem zp9 {C gl e h x K}:NW C gl (.loop jN) ⟨e,h,x⟩ K=yA C gl jN K [(5,bA e 5),(6,bA e 6),(7,bA e 7)] h x:=mB
def JW:ACode:=.pr [] (.seq (rg [mV 2 (cI 0)] [2])
.ret)
def z1R:Sf C gl JW e h x K:=⟨_,by simp only[JW,↓wZ,AO.still];rfl⟩
theorem zjC:NW C gl JW ⟨e,h,x⟩ K=(z1R C gl e h x K).1:=(z1R ..).2
def z5Z:ACode:=(.seq (rg [mV 2 (cI 0)] [0])
(.seq (.seq (rg [mV 5 0,
lN 6 5,
mV 7 (cI 0)] [5,6,7])
(.block 0 (.loop jN)))
JW))
def WZ:AFun:=⟨1,[.t 2],z5Z,false,false⟩
def cU:Sf C gl z5Z e h x K:=⟨_,by simp only[z5Z,↓wZ,AO.still];rfl⟩
theorem zjA {C gl v0 h x K}:NW C gl WZ.body ⟨enter [v0],h,x⟩ K=(cU C gl [(0,v0)] h x K).1:=(cU C gl [(0,v0)] h x K).2
def z6a:ACode:=(.seq (rg [uO 2 (.box 0),
mV 4 (cI 0)] [1,2])
(.seq (rg [lD 5 (some 2) 2,
cL 6 kQ [5],
mV 7 1,
cL 8 iQ [7],
uO 9 (.bsl false none 2 (.int .i64 0) [(0,6),(1,8)]),
cL 10 JG [9],
mV 4 10] [4])
.ret))
def XZ:AFun:=⟨2,[.t 4],z6a,false,false⟩
def dU:Sf C gl z6a e h x K:=⟨_,by simp only[z6a,↓wZ,AO.still];rfl⟩
theorem zjD {C gl v0 v1 h x K}:NW C gl XZ.body ⟨enter [v0,v1],h,x⟩ K=(dU C gl [(0,v0),(1,v1)] h x K).1:=(dU C gl [(0,v0),(1,v1)] h x K).2
end
section
variable (C:Hd)(gl:GL)(e:En)(h:aA)(x:Esc)(K:KT)
def z6w:ACode:=(.seq (rg [mV 2 (cI 0)] [0])
(.seq (.seq (rg [mV 3 0,
cL 4 dK [3],
uO 5 (.un .not 4)] [5])
(.cond 5 (.seq (rg [mV 2 (cI 1)] [2])
.ret)
.skip))
(.seq (rg [mV 2 (cI 0)] [2])
.ret)))
def z0v:AFun:=⟨1,[.t 2],z6w,false,false⟩
def LP:Sf C gl z6w e h x K:=⟨_,by simp only[z6w,↓wZ,AO.still];rfl⟩
theorem zku {C gl v0 h x K}:NW C gl z0v.body ⟨enter [v0],h,x⟩ K=(LP C gl [(0,v0)] h x K).1:=(LP C gl [(0,v0)] h x K).2
def z6c:ACode:=(.seq (rg [uO 2 (.box 0),
mV 4 (cI 0)] [1,2])
(.seq (rg [fA 5 0 none 2,
lD 6 none 5,
mV 7 1,
cL 8 WH [6,7],
uO 9 (.un .not 8),
cL 10 YL [9,(cI 8)],
mV 4 10] [4])
.ret))
def ZZ:AFun:=⟨2,[.t 4],z6c,false,false⟩
def HP:Sf C gl z6c e h x K:=⟨_,by simp only[z6c,↓wZ,AO.still];rfl⟩
theorem zjF {C gl v0 v1 h x K}:NW C gl ZZ.body ⟨enter [v0,v1],h,x⟩ K=(HP C gl [(0,v0),(1,v1)] h x K).1:=(HP C gl [(0,v0),(1,v1)] h x K).2
def z6b:ACode:=(.seq (rg [mV 2 (cI 0)] [0])
(.seq (rg [mV 3 0,
cL 4 bF [3],
uO 5 (.un .not 4),
cL 6 YL [5,(cI 5)],
mV 2 6] [2])
.ret))
def YZ:AFun:=⟨1,[.t 2],z6b,false,false⟩
def FP:Sf C gl z6b e h x K:=⟨_,by simp only[z6b,↓wZ,AO.still];rfl⟩
theorem zjE {C gl v0 h x K}:NW C gl YZ.body ⟨enter [v0],h,x⟩ K=(FP C gl [(0,v0)] h x K).1:=(FP C gl [(0,v0)] h x K).2
def z67:ACode:=(.seq (rg [uO 1 (.box 0),
mV 2 (cI 0)] [1])
(.seq (.seq (rg [fA 3 0 none 1,
lD 4 none 3,
fA 5 1 none 1,
lD 6 none 5,
cL 7 yE [4,(cI 0),6],
uO 8 (.un .not 7),
mV 9 8,
gD 10 9 false (.faddr 1 none 1),
gD 11 9 false (.load none 10),
gD 12 9 false (.bin .gtr 11 (cI 345686400000)),
uO 13 (.pick 9 cT 12)] [13])
(.cond 13 (.seq (rg [mV 2 (cI 1)] [2])
.ret)
.skip))
(.seq (rg [mV 2 (cI 0)] [2])
.ret)))
def z04:AFun:=⟨1,[.t 2],z67,false,false⟩
def RJ:Sf C gl z67 e h x K:=⟨_,by simp only[z67,↓wZ,AO.still];rfl⟩
theorem zkE {C gl v0 h x K}:NW C gl z04.body ⟨enter [v0],h,x⟩ K=(RJ C gl [(0,v0)] h x K).1:=(RJ C gl [(0,v0)] h x K).2
def gX:ACode:=.pr [1,2,9,10,21,22,23] (rg [bN 78 .add 23 (cI 1),
mV 23 78] [1,2,9,10,21,22,23])
def z2p:Sf C gl gX e h x K:=⟨_,by simp only[gX,↓wZ,AO.still];rfl⟩
theorem zk8:NW C gl gX ⟨e,h,x⟩ K=(z2p C gl e h x K).1:=(z2p ..).2
def uN:ACode:=.pr [1,2,9,10,21,22,23] (.seq (rg [bN 24 .lss 23 22] [1,2,9,10,21,22,23,24])
(.seq (.cond 24 .skip
(.exit 0))
(.seq (.block 1 (.seq (rg [iA 25 none 21 23,
lD 26 none 25,
mV 12 26] [1,2,9,10,12,21,22,23])
(.seq (dr [dF (mV 27 9) [9],
dF (uO 28 (.nilchk 27)) [27],
dF (fA 29 2 none 28) [28],
dF (lD 30 none 29) [29],
dF (mV 31 1) [1],
dF (mV 32 12) [12],
dF (iA 33 (some 8) 31 32) [31,32],
dF (fA 34 4 none 33) [33],
dF (lD 35 none 34) [34],
dF (uO 36 (.look (none,[2]) false (.p (.agg [.int .i64 0,.int .i64 0,.str [],.str [],.int .i64 0])) 30 35)) [30,35],
dA (uO 13 (.alloc [.p (.int .i64 0),.p (.int .i64 0),.p (.str []),.p (.str []),.p (.int .i64 0)])) [] true [] [3,6,8,9],
dT (wO (.store (some 5) 13 36)) [13,36]] [1,2,9,10,12,13,21,22,23])
(.seq (rg [mV 37 1,
mV 38 12,
iA 39 (some 8) 37 38,
fA 40 3 none 39,
lD 41 none 40,
bN 42 .eql 41 (cI 3),
mV 43 42,
gD 44 43 false (.mv 1),
gD 45 43 false (.mv 12),
gD 46 43 false (.iaddr (some 8) 44 45),
gD 47 43 false (.faddr 3 none 46),
gD 48 43 false (.load none 47),
gD 49 43 false (.bin .eql 48 (cI 4)),
uO 50 (.pick 43 cT 49),
mV 14 50] [1,2,9,10,12,13,14,21,22,23])
(.seq (rg [mV 51 9,
mV 52 1,
mV 53 12,
iA 54 (some 8) 52 53,
lD 55 (some 8) 54,
cL 56 lM [51,55],
bN 57 .eql 56 (cI 0),
mV 58 57,
gD 59 58 true (.mv 14),
uO 60 (.pick 58 59 cF),
mV 61 60,
gD 62 61 true (.faddr 2 none 13),
gD 63 61 true (.load none 62),
gD 64 61 true (.mv 2),
gD 65 61 true (.bin .eql 63 64),
uO 66 (.pick 61 65 cF)] [1,2,9,10,12,13,21,22,23,66])
(.cond 66 (dr [dF (mV 67 10) [10],
dF (mV 68 1) [1],
dF (mV 69 12) [12],
dF (iA 70 (some 8) 68 69) [68,69],
dF (fA 71 2 none 70) [70],
dF (lD 72 none 71) [71],
dF (fA 73 1 none 13) [13],
dF (lD 74 none 73) [73],
dF (bN 75 .sub 72 74) [72,74],
dF (uO 76 (.bsl false none 1 (.int .i64 0) [(0,75)])) [75],
dT (uO 77 (.app none 67 76)) [67,76],
dF (mV 10 77) [77]] [1,2,9,10,21,22,23])
.skip))))))
gX)))
def z2q:Sf C gl uN e h x K:=⟨_,by simp only[uN,↓wZ,AO.still];rfl⟩
theorem zk9:NW C gl uN ⟨e,h,x⟩ K=(z2q C gl e h x K).1:=(z2q ..).2
theorem zpJ {C gl e h x K}:NW C gl (.loop (.scope uN)) ⟨e,h,x⟩ K=yA C gl (.scope uN) K [(1,bA e 1),(2,bA e 2),(9,bA e 9),(10,bA e 10),(21,bA e 21),(22,bA e 22),(23,bA e 23)] h x:=wC
def iX:ACode:=.pr [10] (.seq (rg [mV 79 10,
mV 8 79] [8])
.ret)
def z2r:Sf C gl iX e h x K:=⟨_,by simp only[iX,↓wZ,AO.still];rfl⟩
theorem zkA:NW C gl iX ⟨e,h,x⟩ K=(z2r C gl e h x K).1:=(z2r ..).2
def z61:ACode:=(.seq (rg [uO 4 (.uns 12 0 [0]),
mV 8 (.c (.p (.sl none [])))] [1,2,3,4])
(.seq (rg [lD 15 (some 2) 4,
uO 16 (.mkmap),
uO 17 (.build [.sl0 none,.p (.int .i64 0),.nilm,.sl0 (some 6),.sl0 none,.sl0 none] [(0,2,15),(2,1,16)]),
uO 18 (.uns 12 0 [17]),
mV 9 18] [1,2,3,9])
(.seq (rg [uO 10 (.new0 none)] [1,2,3,9,10])
(.seq (.seq (rg [mV 19 1,
mV 20 3,
cL 21 cM [19,20],
lN 22 21,
mV 23 (cI 0)] [1,2,9,10,21,22,23])
(.block 0 (.loop (.scope uN))))
iX))))
def z00:AFun:=⟨4,[.t 8],z61,false,false⟩
def yU:Sf C gl z61 e h x K:=⟨_,by simp only[z61,↓wZ,AO.still];rfl⟩
theorem zk7 {C gl v0 v1 v2 v3 h x K}:NW C gl z00.body ⟨enter [v0,v1,v2,v3],h,x⟩ K=(yU C gl [(0,v0),(1,v1),(2,v2),(3,v3)] h x K).1:=(yU C gl [(0,v0),(1,v1),(2,v2),(3,v3)] h x K).2
def z6z:ACode:=(.seq (rg [uO 4 (.box 0),
uO 8 (.alloc [.p (.int .i64 0),.p (.int .i64 0)]),
mV 9 (cI 0)] [1,2,3,4,8])
(.seq (rg [lD 10 (some 2) 4,
mV 11 1,
mV 12 3,
cL 13 HF [10,11,12],
mV 14 2,
cL 15 nM [13,14],
eX 16 15 0,
eX 17 15 1,
wO (.store (some 2) 8 16),
mV 9 17] [8,9])
.ret))
def z0y:AFun:=⟨4,[.cell 8 (some 2),.t 9],z6z,false,false⟩
def wU:Sf C gl z6z e h x K:=⟨_,by simp only[z6z,↓wZ,AO.still];rfl⟩
theorem zk3 {C gl v0 v1 v2 v3 h x K}:NW C gl z0y.body ⟨enter [v0,v1,v2,v3],h,x⟩ K=(wU C gl [(0,v0),(1,v1),(2,v2),(3,v3)] h x K).1:=(wU C gl [(0,v0),(1,v1),(2,v2),(3,v3)] h x K).2
def tN:ACode:=.pr [6,8,9,19,20,21] (.seq (rg [bN 22 .lss 21 20] [6,8,9,19,20,21,22])
(.seq (.cond 22 .skip
(.exit 0))
(.seq (.block 1 (.seq (rg [iA 23 none 19 21,
lD 24 none 23,
mV 11 24] [6,8,9,11,19,20,21])
(.seq (rg [mV 26 8,
mV 27 11,
cL 28 nM [26,27],
mV 25 28,
eX 29 25 0,
eX 30 25 1,
uO 12 (.alloc [.p (.int .i64 0),.p (.int .i64 0)]),
wO (.store (some 2) 12 29),
mV 13 30] [6,8,9,12,13,19,20,21])
(.seq (.seq (rg [mV 31 13,
bN 32 .neq 31 (cI 0)] [6,8,9,12,13,19,20,21,32])
(.cond 32 (.seq (rg [uO 33 (.build [.p (.int .i64 0),.p (.int .i64 0)] []),
mV 34 13,
wO (.store (some 2) 6 33),
mV 7 34] [6,7])
.ret)
.skip))
(rg [mV 35 9,
lD 36 (some 2) 12,
uO 37 (.bsl false (some 2) 1 (.agg [.int .i64 0,.int .i64 0]) [(0,36)]),
uO 38 (.app (some 2) 35 37),
mV 9 38] [6,8,9,19,20,21])))))
(rg [bN 39 .add 21 (cI 1),
mV 21 39] [6,8,9,19,20,21]))))
def z2n:Sf C gl tN e h x K:=⟨_,by simp only[tN,↓wZ,AO.still];rfl⟩
theorem zk5:NW C gl tN ⟨e,h,x⟩ K=(z2n C gl e h x K).1:=(z2n ..).2
theorem zpI {C gl e h x K}:NW C gl (.loop (.scope tN)) ⟨e,h,x⟩ K=yA C gl (.scope tN) K [(6,bA e 6),(8,bA e 8),(9,bA e 9),(19,bA e 19),(20,bA e 20),(21,bA e 21)] h x:=wC
def fX:ACode:=.pr [6,9] (.seq (rg [mV 40 9,
cL 41 jK [40,(cI 2000)],
eX 42 41 0,
eX 43 41 1,
wO (.store (some 2) 6 42),
mV 7 43] [6,7])
.ret)
def z2o:Sf C gl fX e h x K:=⟨_,by simp only[fX,↓wZ,AO.still];rfl⟩
theorem zk6:NW C gl fX ⟨e,h,x⟩ K=(z2o C gl e h x K).1:=(z2o ..).2
def z60:ACode:=(.seq (rg [uO 3 (.box 0),
uO 6 (.alloc [.p (.int .i64 0),.p (.int .i64 0)]),
mV 7 (cI 0)] [1,2,3,6])
(.seq (rg [lD 14 (some 2) 3,
mV 15 1,
mV 16 2,
cL 17 HF [14,15,16],
mV 8 17] [3,6,8])
(.seq (rg [uO 9 (.new0 (some 2))] [3,6,8,9])
(.seq (.seq (rg [fA 18 0 none 3,
lD 19 none 18,
lN 20 19,
mV 21 (cI 0)] [6,8,9,19,20,21])
(.block 0 (.loop (.scope tN))))
fX))))
def z0z:AFun:=⟨3,[.cell 6 (some 2),.t 7],z60,false,false⟩
def xU:Sf C gl z60 e h x K:=⟨_,by simp only[z60,↓wZ,AO.still];rfl⟩
theorem zk4 {C gl v0 v1 v2 h x K}:NW C gl z0z.body ⟨enter [v0,v1,v2],h,x⟩ K=(xU C gl [(0,v0),(1,v1),(2,v2)] h x K).1:=(xU C gl [(0,v0),(1,v1),(2,v2)] h x K).2
def cX:ACode:=.pr [9,10,11,20,21,22] (rg [bN 53 .add 22 (cI 1),
mV 22 53] [9,10,11,20,21,22])
def z2k:Sf C gl cX e h x K:=⟨_,by simp only[cX,↓wZ,AO.still];rfl⟩
theorem zk0:NW C gl cX ⟨e,h,x⟩ K=(z2k C gl e h x K).1:=(z2k ..).2
def sN:ACode:=.pr [9,10,11,20,21,22] (.seq (rg [bN 23 .lss 22 21] [9,10,11,20,21,22,23])
(.seq (.cond 23 .skip
(.exit 0))
(.seq (.block 1 (.seq (rg [iA 24 none 20 22,
lD 25 none 24,
mV 13 25] [9,10,11,13,20,21,22])
(.seq (rg [mV 26 9,
uO 27 (.nilchk 26),
fA 28 2 none 27,
lD 29 none 28,
mV 30 13,
uO 31 (.look (none,[2]) false (.p (.agg [.int .i64 0,.int .i64 0,.str [],.str [],.int .i64 0])) 29 30),
uO 14 (.alloc [.p (.int .i64 0),.p (.int .i64 0),.p (.str []),.p (.str []),.p (.int .i64 0)]),
wO (.store (some 5) 14 31)] [9,10,11,13,14,20,21,22])
(.seq (rg [fA 32 0 none 14,
lD 33 none 32,
bN 34 .neq 33 (cI 4),
mV 35 34,
gD 36 35 true (.faddr 0 none 14),
gD 37 35 true (.load none 36),
gD 38 35 true (.bin .neq 37 (cI 5)),
uO 39 (.pick 35 38 cF),
mV 40 39,
gD 41 40 true (.mv 10),
gD 42 40 true (.bin .eql 41 (cS [])),
gD 43 40 true (.mv 42),
gD 44 43 false (.faddr 1 none 14),
gD 45 43 false (.load none 44),
gD 46 43 false (.mv 11),
gD 47 43 false (.bin .lss 45 46),
gD 48 40 true (.pick 43 cT 47),
uO 49 (.pick 40 48 cF)] [9,10,11,13,14,20,21,22,49])
(.cond 49 (dr [dF (mV 50 13) [13],
dF (fA 51 1 none 14) [14],
dF (lD 52 none 51) [51],
dF (mV 10 50) [50],
dF (mV 11 52) [52]] [9,10,11,20,21,22])
.skip)))))
cX)))
def z2l:Sf C gl sN e h x K:=⟨_,by simp only[sN,↓wZ,AO.still];rfl⟩
theorem zk1:NW C gl sN ⟨e,h,x⟩ K=(z2l C gl e h x K).1:=(z2l ..).2
theorem zpH {C gl e h x K}:NW C gl (.loop (.scope sN)) ⟨e,h,x⟩ K=yA C gl (.scope sN) K [(9,bA e 9),(10,bA e 10),(11,bA e 11),(20,bA e 20),(21,bA e 21),(22,bA e 22)] h x:=wC
def dX:ACode:=.pr [10,11] (.seq (rg [mV 54 10,
mV 55 11,
mV 56 10,
bN 57 .neq 56 (cS []),
mV 6 54,
mV 7 55,
mV 8 57] [6,7,8])
.ret)
def z2m:Sf C gl dX e h x K:=⟨_,by simp only[dX,↓wZ,AO.still];rfl⟩
theorem zk2:NW C gl dX ⟨e,h,x⟩ K=(z2m C gl e h x K).1:=(z2m ..).2
def z6y:ACode:=(.seq (rg [uO 3 (.box 0),
mV 6 (cS []),
mV 7 (cI 0),
mV 8 cF] [1,2,3])
(.seq (rg [lD 15 (some 2) 3,
mV 16 1,
mV 17 2,
cL 18 HF [15,16,17],
mV 9 18] [9])
(.seq (rg [mV 10 (cS []),
mV 11 (cI 0)] [9,10,11])
(.seq (.seq (rg [mV 19 9,
cL 20 iK [19],
lN 21 20,
mV 22 (cI 0)] [9,10,11,20,21,22])
(.block 0 (.loop (.scope sN))))
dX))))
def z0x:AFun:=⟨3,[.t 6,.t 7,.t 8],z6y,false,false⟩
def vU:Sf C gl z6y e h x K:=⟨_,by simp only[z6y,↓wZ,AO.still];rfl⟩
theorem zkz {C gl v0 v1 v2 h x K}:NW C gl z0x.body ⟨enter [v0,v1,v2],h,x⟩ K=(vU C gl [(0,v0),(1,v1),(2,v2)] h x K).1:=(vU C gl [(0,v0),(1,v1),(2,v2)] h x K).2
def aX:ACode:=.pr [1,2,3,7,12,13,14] (rg [bN 34 .add 14 (cI 1),
mV 14 34] [1,2,3,7,12,13,14])
def z2h:Sf C gl aX e h x K:=⟨_,by simp only[aX,↓wZ,AO.still];rfl⟩
theorem zkw:NW C gl aX ⟨e,h,x⟩ K=(z2h C gl e h x K).1:=(z2h ..).2
def rN:ACode:=.pr [1,2,3,7,12,13,14] (.seq (rg [bN 15 .lss 14 13] [1,2,3,7,12,13,14,15])
(.seq (.cond 15 .skip
(.exit 0))
(.seq (.block 1 (.seq (rg [iA 16 none 12 14,
lD 17 none 16,
mV 9 17] [1,2,3,7,9,12,13,14])
(.seq (rg [lD 18 (some 2) 3,
mV 19 1,
mV 20 9,
mV 21 2,
cL 22 mQ [18,19,20,21],
mV 10 22] [1,2,3,7,9,10,12,13,14])
(.seq (rg [mV 23 10,
lN 24 23,
bN 25 .gtr 24 (cI 0)] [1,2,3,7,9,10,12,13,14,25])
(.cond 25 (rg [mV 26 7,
mV 27 9,
mV 28 10,
iA 29 none 28 (cI 0),
lD 30 none 29,
uO 31 (.build [.p (.str []),.p (.str [])] [(0,1,27),(1,1,30)]),
uO 32 (.bsl false (some 2) 1 (.agg [.str [],.str []]) [(0,31)]),
uO 33 (.app (some 2) 26 32),
mV 7 33] [1,2,3,7,12,13,14])
.skip)))))
aX)))
def z2i:Sf C gl rN e h x K:=⟨_,by simp only[rN,↓wZ,AO.still];rfl⟩
theorem zkx:NW C gl rN ⟨e,h,x⟩ K=(z2i C gl e h x K).1:=(z2i ..).2
theorem zpG {C gl e h x K}:NW C gl (.loop (.scope rN)) ⟨e,h,x⟩ K=yA C gl (.scope rN) K [(1,bA e 1),(2,bA e 2),(3,bA e 3),(7,bA e 7),(12,bA e 12),(13,bA e 13),(14,bA e 14)] h x:=wC
def bX:ACode:=.pr [7] (.seq (rg [mV 35 7,
mV 6 35] [6])
.ret)
def z2j:Sf C gl bX e h x K:=⟨_,by simp only[bX,↓wZ,AO.still];rfl⟩
theorem zky:NW C gl bX ⟨e,h,x⟩ K=(z2j C gl e h x K).1:=(z2j ..).2
def z6x:ACode:=(.seq (rg [uO 3 (.box 0),
mV 6 (.c (.p (.sl (some 2) [])))] [1,2,3])
(.seq (rg [uO 7 (.new0 (some 2))] [1,2,3,7])
(.seq (.seq (rg [fA 11 0 none 3,
lD 12 none 11,
lN 13 12,
mV 14 (cI 0)] [1,2,3,7,12,13,14])
(.block 0 (.loop (.scope rN))))
bX)))
def z0w:AFun:=⟨3,[.t 6],z6x,false,false⟩
def uU:Sf C gl z6x e h x K:=⟨_,by simp only[z6x,↓wZ,AO.still];rfl⟩
theorem zkv {C gl v0 v1 v2 h x K}:NW C gl z0w.body ⟨enter [v0,v1,v2],h,x⟩ K=(uU C gl [(0,v0),(1,v1),(2,v2)] h x K).1:=(uU C gl [(0,v0),(1,v1),(2,v2)] h x K).2
def RW:ACode:=.pr [2,7,9,11,12,21,22,23] (rg [mV 37 9,
mV 38 12,
fA 39 1 none 7,
lD 40 none 39,
uO 41 (.mn [38,40]),
fA 42 3 none 11,
lD 43 none 42,
fA 44 0 none 7,
lD 45 none 44,
uO 46 (.mx [43,45]),
bN 47 .sub 41 46,
uO 48 (.mx [(cI 0),47]),
bN 49 .add 37 48,
mV 9 49] [2,7,9,21,22,23])
def z1W:Sf C gl RW e h x K:=⟨_,by simp only[RW,↓wZ,AO.still];rfl⟩
theorem zjZ:NW C gl RW ⟨e,h,x⟩ K=(z1W C gl e h x K).1:=(z1W ..).2
def SW:ACode:=.pr [2,7,9,21,22,23] (rg [bN 50 .add 23 (cI 1),
mV 23 50] [2,7,9,21,22,23])
def z1X:Sf C gl SW e h x K:=⟨_,by simp only[SW,↓wZ,AO.still];rfl⟩
theorem zka:NW C gl SW ⟨e,h,x⟩ K=(z1X C gl e h x K).1:=(z1X ..).2
def mN:ACode:=.pr [2,7,9,21,22,23] (.seq (rg [bN 24 .lss 23 22] [2,7,9,21,22,23,24])
(.seq (.cond 24 .skip
(.exit 0))
(.seq (.block 1 (.seq (rg [iA 25 (some 6) 21 23,
lD 26 (some 6) 25,
uO 11 (.alloc [.p (.str []),.p (.str []),.p (.str []),.p (.int .i64 0),.p (.int .i64 0),.p (.bool false)]),
wO (.store (some 6) 11 26)] [2,7,9,11,21,22,23])
(.seq (.seq (rg [fA 27 1 none 11,
lD 28 none 27,
mV 29 2,
bN 30 .neq 28 29] [2,7,9,11,21,22,23,30])
(.cond 30 (.exit 1)
.skip))
(.seq (rg [fA 31 4 none 11,
lD 32 none 31,
mV 12 32] [2,7,9,11,12,21,22,23])
(.seq (.seq (rg [mV 33 12,
bN 34 .lss 33 (cI 0)] [2,7,9,11,12,21,22,23,34])
(.cond 34 (rg [fA 35 1 none 7,
lD 36 none 35,
mV 12 36] [2,7,9,11,12,21,22,23])
.skip))
RW)))))
SW)))
def z1Y:Sf C gl mN e h x K:=⟨_,by simp only[mN,↓wZ,AO.still];rfl⟩
theorem zkb:NW C gl mN ⟨e,h,x⟩ K=(z1Y C gl e h x K).1:=(z1Y ..).2
theorem zpB {C gl e h x K}:NW C gl (.loop (.scope mN)) ⟨e,h,x⟩ K=yA C gl (.scope mN) K [(2,bA e 2),(7,bA e 7),(9,bA e 9),(21,bA e 21),(22,bA e 22),(23,bA e 23)] h x:=wC
def TW:ACode:=.pr [9] (.seq (rg [mV 51 9,
mV 8 51] [8])
.ret)
def z1Z:Sf C gl TW e h x K:=⟨_,by simp only[TW,↓wZ,AO.still];rfl⟩
theorem zkc:NW C gl TW ⟨e,h,x⟩ K=(z1Z C gl e h x K).1:=(z1Z ..).2
def z6n:ACode:=(.seq (rg [uO 4 (.box 0),
uO 7 (.box 3),
mV 8 (cI 0)] [1,2,4,7])
(.seq (rg [mV 9 (cI 0)] [1,2,4,7,9])
(.seq (.seq (rg [lD 13 (some 2) 4,
mV 14 1,
fA 15 1 none 7,
lD 16 none 15,
bN 17 .sub 16 (cI 1),
cL 18 HF [13,14,17],
uO 19 (.nilchk 18),
fA 20 3 none 19,
lD 21 none 20,
lN 22 21,
mV 23 (cI 0)] [2,7,9,21,22,23])
(.block 0 (.loop (.scope mN))))
TW)))
def z0l:AFun:=⟨4,[.t 8],z6n,false,false⟩
def oU:Sf C gl z6n e h x K:=⟨_,by simp only[z6n,↓wZ,AO.still];rfl⟩
theorem zjY {C gl v0 v1 v2 v3 h x K}:NW C gl z0l.body ⟨enter [v0,v1,v2,v3],h,x⟩ K=(oU C gl [(0,v0),(1,v1),(2,v2),(3,v3)] h x K).1:=(oU C gl [(0,v0),(1,v1),(2,v2),(3,v3)] h x K).2
def MN:ACode:=.pr [0,1,12,13] (.seq (rg [bN 14 .lss 13 12] [0,1,12,13,14])
(.seq (.cond 14 .skip
(.exit 0))
(.seq (.block 1 (.seq (rg [mV 15 13,
mV 5 15] [0,1,5,12,13])
(.seq (dr [dF (mV 16 0) [0],
dF (mV 17 5) [5],
dF (iA 18 none 16 17) [16,17],
dF (lD 19 none 18) [18],
dF (mV 20 1) [1],
dF (mV 21 5) [5],
dF (iA 22 none 20 21) [20,21],
dF (lD 23 none 22) [22],
dF (bN 24 .neq 19 23) [19,23]] [0,1,12,13,24])
(.cond 24 (.seq (rg [mV 4 cF] [4])
.ret)
.skip))))
(rg [bN 25 .add 13 (cI 1),
mV 13 25] [0,1,12,13]))))
def z3g:Sf C gl MN e h x K:=⟨_,by simp only[MN,↓wZ,AO.still];rfl⟩
theorem zlO:NW C gl MN ⟨e,h,x⟩ K=(z3g C gl e h x K).1:=(z3g ..).2
theorem zqg {C gl e h x K}:NW C gl (.loop MN) ⟨e,h,x⟩ K=yA C gl MN K [(0,bA e 0),(1,bA e 1),(12,bA e 12),(13,bA e 13)] h x:=mB
def FX:ACode:=.pr [] (.seq (rg [mV 4 cT] [4])
.ret)
def z3h:Sf C gl FX e h x K:=⟨_,by simp only[FX,↓wZ,AO.still];rfl⟩
theorem zlP:NW C gl FX ⟨e,h,x⟩ K=(z3h C gl e h x K).1:=(z3h ..).2
def z6Y:ACode:=(.seq (rg [mV 4 cF] [0,1])
(.seq (.seq (rg [mV 6 0,
lN 7 6,
mV 8 1,
lN 9 8,
bN 10 .neq 7 9] [0,1,10])
(.cond 10 (.seq (rg [mV 4 cF] [4])
.ret)
.skip))
(.seq (.seq (rg [mV 11 0,
lN 12 11,
mV 13 (cI 0)] [0,1,12,13])
(.block 0 (.loop MN)))
FX)))
def z0N:AFun:=⟨2,[.t 4],z6Y,false,false⟩
def OP:Sf C gl z6Y e h x K:=⟨_,by simp only[z6Y,↓wZ,AO.still];rfl⟩
theorem zlN {C gl v0 v1 h x K}:NW C gl z0N.body ⟨enter [v0,v1],h,x⟩ K=(OP C gl [(0,v0),(1,v1)] h x K).1:=(OP C gl [(0,v0),(1,v1)] h x K).2
def LN:ACode:=.pr [0,1,12,13] (.seq (rg [bN 14 .lss 13 12] [0,1,12,13,14])
(.seq (.cond 14 .skip
(.exit 0))
(.seq (.block 1 (.seq (rg [mV 15 13,
mV 5 15] [0,1,5,12,13])
(.seq (dr [dF (mV 16 0) [0],
dF (mV 17 5) [5],
dF (iA 18 (some 2) 16 17) [16,17],
dF (lD 19 (some 2) 18) [18],
dF (mV 20 1) [1],
dF (mV 21 5) [5],
dF (iA 22 (some 2) 20 21) [20,21],
dF (lD 23 (some 2) 22) [22],
dF (uO 24 (.eqa [2,2] true 19 23)) [19,23]] [0,1,12,13,24])
(.cond 24 (.seq (rg [mV 4 cF] [4])
.ret)
.skip))))
(rg [bN 25 .add 13 (cI 1),
mV 13 25] [0,1,12,13]))))
def z3e:Sf C gl LN e h x K:=⟨_,by simp only[LN,↓wZ,AO.still];rfl⟩
theorem zlL:NW C gl LN ⟨e,h,x⟩ K=(z3e C gl e h x K).1:=(z3e ..).2
theorem zqf {C gl e h x K}:NW C gl (.loop LN) ⟨e,h,x⟩ K=yA C gl LN K [(0,bA e 0),(1,bA e 1),(12,bA e 12),(13,bA e 13)] h x:=mB
def EX:ACode:=.pr [] (.seq (rg [mV 4 cT] [4])
.ret)
def z3f:Sf C gl EX e h x K:=⟨_,by simp only[EX,↓wZ,AO.still];rfl⟩
theorem zlM:NW C gl EX ⟨e,h,x⟩ K=(z3f C gl e h x K).1:=(z3f ..).2
def z6X:ACode:=(.seq (rg [mV 4 cF] [0,1])
(.seq (.seq (rg [mV 6 0,
lN 7 6,
mV 8 1,
lN 9 8,
bN 10 .neq 7 9] [0,1,10])
(.cond 10 (.seq (rg [mV 4 cF] [4])
.ret)
.skip))
(.seq (.seq (rg [mV 11 0,
lN 12 11,
mV 13 (cI 0)] [0,1,12,13])
(.block 0 (.loop LN)))
EX)))
def z0M:AFun:=⟨2,[.t 4],z6X,false,false⟩
def SU:Sf C gl z6X e h x K:=⟨_,by simp only[z6X,↓wZ,AO.still];rfl⟩
theorem zlK {C gl v0 v1 h x K}:NW C gl z0M.body ⟨enter [v0,v1],h,x⟩ K=(SU C gl [(0,v0),(1,v1)] h x K).1:=(SU C gl [(0,v0),(1,v1)] h x K).2
def z6h:ACode:=(.seq (rg [mV 4 cF] [0,1])
(.seq (rg [mV 5 0,
mV 6 1,
cL 7 eG [5,6],
bN 8 .eql 7 (cI 0),
mV 4 8] [4])
.ret))
def z0f:AFun:=⟨2,[.t 4],z6h,false,false⟩
def kU:Sf C gl z6h e h x K:=⟨_,by simp only[z6h,↓wZ,AO.still];rfl⟩
theorem zjS {C gl v0 v1 h x K}:NW C gl z0f.body ⟨enter [v0,v1],h,x⟩ K=(kU C gl [(0,v0),(1,v1)] h x K).1:=(kU C gl [(0,v0),(1,v1)] h x K).2
def IN:ACode:=.pr [0,3,9,10,11] (.seq (rg [bN 12 .lss 11 10] [0,3,9,10,11,12])
(.seq (.cond 12 .skip
(.exit 0))
(.seq (.block 1 (.seq (rg [iA 13 none 9 11,
lD 14 none 13,
mV 5 14] [0,3,5,9,10,11])
(.seq (rg [mV 15 3,
mV 16 5,
lN 17 16,
bN 18 .add 15 17,
mV 3 18] [0,3,9,10,11])
(.seq (rg [mV 19 3,
bN 20 .lss 19 (cI 0)] [0,3,9,10,11,20])
(.cond 20 .bad
.skip)))))
(rg [bN 22 .add 11 (cI 1),
mV 11 22] [0,3,9,10,11]))))
def z2X:Sf C gl IN e h x K:=⟨_,by simp only[IN,↓wZ,AO.still];rfl⟩
theorem zlA:NW C gl IN ⟨e,h,x⟩ K=(z2X C gl e h x K).1:=(z2X ..).2
theorem zqc {C gl e h x K}:NW C gl (.loop IN) ⟨e,h,x⟩ K=yA C gl IN K [(0,bA e 0),(3,bA e 3),(9,bA e 9),(10,bA e 10),(11,bA e 11)] h x:=mB
def JN:ACode:=.pr [6,25,26,27] (.seq (rg [bN 28 .lss 27 26] [6,25,26,27,28])
(.seq (.cond 28 .skip
(.exit 2))
(.seq (.block 3 (.seq (rg [iA 29 none 25 27,
lD 30 none 29,
mV 8 30] [6,8,25,26,27])
(rg [mV 31 6,
mV 32 8,
uO 33 (.app none 31 32),
mV 6 33] [6,25,26,27])))
(rg [bN 34 .add 27 (cI 1),
mV 27 34] [6,25,26,27]))))
def z2Y:Sf C gl JN e h x K:=⟨_,by simp only[JN,↓wZ,AO.still];rfl⟩
theorem zlB:NW C gl JN ⟨e,h,x⟩ K=(z2Y C gl e h x K).1:=(z2Y ..).2
theorem zqd {C gl e h x K}:NW C gl (.loop (.scope JN)) ⟨e,h,x⟩ K=yA C gl (.scope JN) K [(6,bA e 6),(25,bA e 25),(26,bA e 26),(27,bA e 27)] h x:=wC
def AX:ACode:=.pr [6] (.seq (rg [mV 35 6,
mV 2 35] [2])
.ret)
def z2Z:Sf C gl AX e h x K:=⟨_,by simp only[AX,↓wZ,AO.still];rfl⟩
theorem zlC:NW C gl AX ⟨e,h,x⟩ K=(z2Z C gl e h x K).1:=(z2Z ..).2
def BX:ACode:=.pr [0,3] (.seq (rg [mV 23 3,
cL 24 KV [(.c (.sl0 none)),23],
mV 6 24] [0,6])
(.seq (.seq (rg [mV 25 0,
lN 26 25,
mV 27 (cI 0)] [6,25,26,27])
(.block 2 (.loop (.scope JN))))
AX))
def z3a:Sf C gl BX e h x K:=⟨_,by simp only[BX,↓wZ,AO.still];rfl⟩
theorem zlD:NW C gl BX ⟨e,h,x⟩ K=(z3a C gl e h x K).1:=(z3a ..).2
def z6T:ACode:=(.seq (rg [mV 2 (.c (.p (.sl none [])))] [0])
(.seq (rg [mV 3 (cI 0)] [0,3])
(.seq (.seq (rg [mV 9 0,
lN 10 9,
mV 11 (cI 0)] [0,3,9,10,11])
(.block 0 (.loop IN)))
BX)))
def z0J:AFun:=⟨1,[.t 2],z6T,false,true⟩
def NU:Sf C gl z6T e h x K:=⟨_,by simp only[z6T,↓wZ,AO.still];rfl⟩
theorem zl9 {C gl v0 h x K}:NW C gl z0J.body ⟨enter [v0],h,x⟩ K=(NU C gl [(0,v0)] h x K).1:=(NU C gl [(0,v0)] h x K).2
def z6j:ACode:=(.seq (rg [mV 6 (cI 0)] [0,1,2])
(.seq (.seq (rg [mV 7 0,
cL 8 KG [7,(cI 12)]] [0,1,2,8])
(.cond 8 (.seq (rg [mV 9 0,
mV 10 1,
bN 11 .sub 10 (cI 1),
mV 12 2,
bN 13 .add 12 (cI 1),
mV 14 1,
mV 15 2,
uO 16 (.bsl false none 6 (.int .i64 0) [(0,11),(1,13),(2,14),(3,15),(4,(cI (-1099511627776))),(5,(cI 1099511627776))]),
cL 17 TD [9,16],
mV 6 17] [6])
.ret)
.skip))
(.seq (rg [mV 18 0,
mV 19 1,
mV 20 2,
cL 21 MD [18,19,20],
mV 6 21] [6])
.ret)))
def z0h:AFun:=⟨3,[.t 6],z6j,false,false⟩
def PJ:Sf C gl z6j e h x K:=⟨_,by simp only[z6j,↓wZ,AO.still];rfl⟩
theorem zjU {C gl v0 v1 v2 h x K}:NW C gl z0h.body ⟨enter [v0,v1,v2],h,x⟩ K=(PJ C gl [(0,v0),(1,v1),(2,v2)] h x K).1:=(PJ C gl [(0,v0),(1,v1),(2,v2)] h x K).2
def z6i:ACode:=(.seq (rg [mV 4 (cI 0)] [0,1])
(.seq (rg [mV 7 0,
uO 8 (.nilchk 7),
fA 9 1 none 8,
lD 10 none 9,
bN 11 .add 10 (cI 1),
uO 12 (.nilchk 7),
fA 13 1 none 12,
wO (.store none 13 11)] [0,1])
(.seq (.seq (rg [mV 14 0,
uO 15 (.nilchk 14),
fA 16 0 none 15,
lD 17 none 16,
lN 18 17,
bN 19 .eql 18 (cI 0)] [0,1,19])
(.cond 19 (.seq (rg [mV 20 0,
uO 21 (.nilchk 20),
fA 22 1 none 21,
lD 23 none 22,
bN 24 .mul 23 (cI 7919),
mV 25 1,
cL 26 cK [24,25],
mV 4 26] [4])
.ret)
.skip))
(.seq (dr [dF (mV 27 0) [0],
dF (uO 28 (.nilchk 27)) [27],
dF (fA 29 1 none 28) [28],
dF (lD 30 none 29) [29],
dF (bN 31 .sub 30 (cI 1)) [30],
dF (mV 32 0) [0],
dF (uO 33 (.nilchk 32)) [32],
dF (fA 34 0 none 33) [33],
dF (lD 35 none 34) [34],
dF (lN 36 35) [35],
dF (bN 37 .rem 31 36) [31,36],
dF (mV 5 37) [37]] [0,1,5])
(.seq (dr [dF (mV 38 0) [0],
dF (uO 39 (.nilchk 38)) [38],
dF (fA 40 1 none 39) [39],
dF (lD 41 none 40) [40],
dF (bN 42 .sub 41 (cI 1)) [41],
dF (mV 43 0) [0],
dF (uO 44 (.nilchk 43)) [43],
dF (fA 45 0 none 44) [44],
dF (lD 46 none 45) [45],
dF (lN 47 46) [46],
dF (bN 48 .quo 42 47) [42,47],
dF (mV 6 48) [48]] [0,1,5,6])
(.seq (rg [mV 49 0,
uO 50 (.nilchk 49),
fA 51 0 none 50,
lD 52 none 51,
mV 53 5,
iA 54 none 52 53,
lD 55 none 54,
cL 56 cK [55,(cI 1073741824)],
mV 57 6,
mV 58 5,
bN 59 .add (cI 7919) 58,
bN 60 .mul 57 59,
bN 61 .add 56 60,
mV 62 1,
cL 63 cK [61,62],
mV 4 63] [4])
.ret))))))
def z0g:AFun:=⟨2,[.t 4],z6i,false,false⟩
def IP:Sf C gl z6i e h x K:=⟨_,by simp only[z6i,↓wZ,AO.still];rfl⟩
theorem zjT {C gl v0 v1 h x K}:NW C gl z0g.body ⟨enter [v0,v1],h,x⟩ K=(IP C gl [(0,v0),(1,v1)] h x K).1:=(IP C gl [(0,v0),(1,v1)] h x K).2
def z7d:ACode:=(rg [mV 4 0,
mV 5 0,
lN 6 5,
mV 7 1,
cL 8 BQ [4,6,7]] [])
def z0R:AFun:=⟨2,[],z7d,true,false⟩
def XU:Sf C gl z7d e h x K:=⟨_,by simp only[z7d,↓wZ,AO.still];rfl⟩
theorem zma {C gl v0 v1 h x K}:NW C gl z0R.body ⟨enter [v0,v1],h,x⟩ K=(XU C gl [(0,v0),(1,v1)] h x K).1:=(XU C gl [(0,v0),(1,v1)] h x K).2
def z6r:ACode:=(.seq (rg [uO 2 (.box 0),
uO 3 (.box 1),
mV 4 (cI 0)] [2,3])
(.seq (.block 0 (.seq (rg [fA 6 2 none 2,
lD 7 none 6,
fA 8 2 none 3,
lD 9 none 8,
bN 10 .neq 7 9,
mV 5 10] [2,3,5])
(.cond 5 (.seq (rg [fA 11 2 none 2,
lD 12 none 11,
fA 13 2 none 3,
lD 14 none 13,
bN 15 .sub 12 14,
cL 16 kK [15],
mV 4 16] [4])
.ret)
(.seq (rg [fA 18 0 none 2,
lD 19 none 18,
fA 20 0 none 3,
lD 21 none 20,
bN 22 .neq 19 21,
mV 17 22] [2,3,17])
(.cond 17 (.seq (rg [fA 23 0 none 2,
lD 24 none 23,
fA 25 0 none 3,
lD 26 none 25,
cL 27 XI [24,26],
mV 4 27] [4])
.ret)
.skip)))))
(.seq (rg [fA 28 1 none 2,
lD 29 none 28,
fA 30 1 none 3,
lD 31 none 30,
bN 32 .sub 29 31,
cL 33 kK [32],
mV 4 33] [4])
.ret)))
def z0q:AFun:=⟨2,[.t 4],z6r,false,false⟩
def NH:Sf C gl z6r e h x K:=⟨_,by simp only[z6r,↓wZ,AO.still];rfl⟩
theorem zko {C gl v0 v1 h x K}:NW C gl z0q.body ⟨enter [v0,v1],h,x⟩ K=(NH C gl [(0,v0),(1,v1)] h x K).1:=(NH C gl [(0,v0),(1,v1)] h x K).2
def BY:ACode:=.pr [9] (.seq (rg [mV 23 9,
mV 8 23] [8])
.ret)
def z4x:Sf C gl BY e h x K:=⟨_,by simp only[BY,↓wZ,AO.still];rfl⟩
theorem znC:NW C gl BY ⟨e,h,x⟩ K=(z4x C gl e h x K).1:=(z4x ..).2
def z79:ACode:=(.seq (rg [uO 4 (.box 0),
mV 8 (cI 0)] [1,2,3,4])
(.seq (rg [lD 10 (some 2) 4,
mV 11 1,
mV 12 3,
cL 13 lH [10,11,12],
mV 9 13] [2,4,9])
(.seq (.seq (rg [mV 14 9,
bN 15 .eql 14 (cI 0),
mV 16 15,
gD 17 16 true (.faddr 0 none 4),
gD 18 16 true (.load none 17),
gD 19 16 true (.mv 2),
gD 20 16 true (.call WH [18,19]),
gD 21 16 true (.un .not 20),
uO 22 (.pick 16 21 cF)] [9,22])
(.cond 22 (rg [mV 9 (cI 8)] [9])
.skip))
BY)))
def z1k:AFun:=⟨4,[.t 8],z79,false,false⟩
def HL:Sf C gl z79 e h x K:=⟨_,by simp only[z79,↓wZ,AO.still];rfl⟩
theorem znB {C gl v0 v1 v2 v3 h x K}:NW C gl z1k.body ⟨enter [v0,v1,v2,v3],h,x⟩ K=(HL C gl [(0,v0),(1,v1),(2,v2),(3,v3)] h x K).1:=(HL C gl [(0,v0),(1,v1),(2,v2),(3,v3)] h x K).2
def zY:ACode:=.pr [5,6,17,18,19] (rg [bN 59 .add 19 (cI 1),
mV 19 59] [5,6,17,18,19])
def z4u:Sf C gl zY e h x K:=⟨_,by simp only[zY,↓wZ,AO.still];rfl⟩
theorem zn7:NW C gl zY ⟨e,h,x⟩ K=(z4u C gl e h x K).1:=(z4u ..).2
def tO:ACode:=.pr [5,6,17,18,19] (.seq (rg [bN 20 .lss 19 18] [5,6,17,18,19,20])
(.seq (.cond 20 .skip
(.exit 0))
(.seq (.block 1 (.seq (rg [mV 21 19,
iA 22 (some 8) 17 19,
lD 23 (some 8) 22,
uO 8 (.alloc [.p (.str []),.p (.int .i64 0),.p (.int .i64 0),.p (.int .i64 0),.p (.str []),.p (.str []),.p (.str []),.p (.int .i64 0)]),
mV 7 21,
wO (.store (some 8) 8 23)] [5,6,7,8,17,18,19])
(.seq (.seq (rg [mV 24 6,
mV 25 7,
iA 26 none 24 25,
lD 27 none 26,
uO 28 (.un .not 27),
mV 29 28,
gD 30 29 false (.faddr 3 none 8),
gD 31 29 false (.load none 30),
gD 32 29 false (.bin .eql 31 (cI 7)),
uO 33 (.pick 29 cT 32)] [5,6,7,8,17,18,19,33])
(.cond 33 (.exit 1)
.skip))
(.seq (rg [mV 34 5,
lD 35 (some 8) 8,
cL 36 mH [34,35],
mV 9 36] [5,6,7,9,17,18,19])
(.seq (rg [mV 37 9,
bN 38 .neq 37 (cI 0)] [5,6,7,9,17,18,19,38])
(.cond 38 (.seq (rg [mV 39 5,
mV 40 5,
uO 41 (.nilchk 40),
fA 42 6 none 41,
lD 43 none 42,
mV 44 7,
uO 45 (.bsl false none 1 (.int .i64 0) [(0,44)]),
uO 46 (.app none 43 45),
uO 47 (.nilchk 39),
fA 48 6 none 47,
wO (.store none 48 46)] [5,6,9,17,18,19])
(rg [mV 49 5,
mV 50 5,
uO 51 (.nilchk 50),
fA 52 7 none 51,
lD 53 none 52,
mV 54 9,
uO 55 (.bsl false none 1 (.int .i64 0) [(0,54)]),
uO 56 (.app none 53 55),
uO 57 (.nilchk 49),
fA 58 7 none 57,
wO (.store none 58 56)] [5,6,17,18,19]))
.skip))))))
zY)))
def z4v:Sf C gl tO e h x K:=⟨_,by simp only[tO,↓wZ,AO.still];rfl⟩
theorem zn8:NW C gl tO ⟨e,h,x⟩ K=(z4v C gl e h x K).1:=(z4v ..).2
theorem zq9 {C gl e h x K}:NW C gl (.loop (.scope tO)) ⟨e,h,x⟩ K=yA C gl (.scope tO) K [(5,bA e 5),(6,bA e 6),(17,bA e 17),(18,bA e 18),(19,bA e 19)] h x:=wC
def AY:ACode:=.pr [5] (.seq (rg [mV 60 5,
mV 4 60] [4])
.ret)
def z4w:Sf C gl AY e h x K:=⟨_,by simp only[AY,↓wZ,AO.still];rfl⟩
theorem zn9:NW C gl AY ⟨e,h,x⟩ K=(z4w C gl e h x K).1:=(z4w ..).2
def z77:ACode:=(.seq (rg [uO 2 (.uns 12 0 [0]),
mV 4 (.c (.nilp))] [1,2])
(.seq (rg [lD 10 (some 2) 2,
uO 11 (.mkmap),
uO 12 (.mkmap),
uO 13 (.build [.sl0 none,.p (.int .i64 0),.nilm,.nilm,.sl0 (some 5),.sl0 (some 3),.sl0 none,.sl0 none] [(0,2,10),(2,1,11),(3,1,12)]),
uO 14 (.uns 12 0 [13]),
mV 5 14] [1,5])
(.seq (rg [mV 15 1,
cL 16 tM [15],
mV 6 16] [1,5,6])
(.seq (.seq (rg [mV 17 1,
lN 18 17,
mV 19 (cI 0)] [5,6,17,18,19])
(.block 0 (.loop (.scope tO))))
AY))))
def fT:AFun:=⟨2,[.t 4],z77,false,false⟩
def rV:Sf C gl z77 e h x K:=⟨_,by simp only[z77,↓wZ,AO.still];rfl⟩
theorem zn6 {C gl v0 v1 h x K}:NW C gl fT.body ⟨enter [v0,v1],h,x⟩ K=(rV C gl [(0,v0),(1,v1)] h x K).1:=(rV C gl [(0,v0),(1,v1)] h x K).2
def xO:ACode:=.pr [0,1,5] (.seq (.seq (rg [mV 8 5,
bN 9 .gtr 8 (cI 0),
mV 10 9,
gD 11 10 true (.mv 0),
gD 12 10 true (.mv 5),
gD 13 10 true (.bin .sub 12 (cI 1)),
gD 14 10 true (.iaddr (some 8) 11 13),
gD 15 10 true (.faddr 2 none 14),
gD 16 10 true (.load none 15),
gD 17 10 true (.mv 1),
gD 18 10 true (.bin .gtr 16 17),
uO 19 (.pick 10 18 cF)] [0,1,5,19])
(.cond 19 .skip
(.exit 0)))
(.block 1 (rg [mV 20 5,
bN 21 .sub 20 (cI 1),
mV 5 21] [0,1,5])))
def z40:Sf C gl xO e h x K:=⟨_,by simp only[xO,↓wZ,AO.still];rfl⟩
theorem znH:NW C gl xO ⟨e,h,x⟩ K=(z40 C gl e h x K).1:=(z40 ..).2
theorem zqB {C gl e h x K}:NW C gl (.loop xO) ⟨e,h,x⟩ K=yA C gl xO K [(0,bA e 0),(1,bA e 1),(5,bA e 5)] h x:=mB
def DY:ACode:=.pr [0,5] (.seq (rg [mV 22 0,
mV 23 5,
uO 24 (.slice (some 8) 22 none (some 23) none),
mV 4 24] [4])
.ret)
def z42:Sf C gl DY e h x K:=⟨_,by simp only[DY,↓wZ,AO.still];rfl⟩
theorem znI:NW C gl DY ⟨e,h,x⟩ K=(z42 C gl e h x K).1:=(z42 ..).2
def z7B:ACode:=(.seq (rg [mV 4 (.c (.p (.sl (some 8) [])))] [0,1])
(.seq (rg [mV 6 0,
lN 7 6,
mV 5 7] [0,1,5])
(.seq (.block 0 (.loop xO))
DY)))
def jT:AFun:=⟨2,[.t 4],z7B,false,false⟩
def tV:Sf C gl z7B e h x K:=⟨_,by simp only[z7B,↓wZ,AO.still];rfl⟩
theorem znG {C gl v0 v1 h x K}:NW C gl jT.body ⟨enter [v0,v1],h,x⟩ K=(tV C gl [(0,v0),(1,v1)] h x K).1:=(tV C gl [(0,v0),(1,v1)] h x K).2
def tY:ACode:=.pr [1,4,5,6,13,14,15] (rg [bN 38 .add 15 (cI 1),
mV 15 38] [1,4,5,6,13,14,15])
def z4m:Sf C gl tY e h x K:=⟨_,by simp only[tY,↓wZ,AO.still];rfl⟩
theorem znu:NW C gl tY ⟨e,h,x⟩ K=(z4m C gl e h x K).1:=(z4m ..).2
def rO:ACode:=.pr [1,4,5,6,13,14,15] (.seq (rg [bN 16 .lss 15 14] [1,4,5,6,13,14,15,16])
(.seq (.cond 16 .skip
(.exit 0))
(.seq (.block 1 (.seq (rg [iA 17 (some 5) 13 15,
lD 18 (some 5) 17,
uO 8 (.alloc [.p (.str []),.p (.str []),.p (.int .i64 0),.p (.int .i64 0),.p (.bool false)]),
wO (.store (some 5) 8 18)] [1,4,5,6,8,13,14,15])
(.seq (.seq (rg [fA 19 1 none 8,
lD 20 none 19,
mV 21 1,
bN 22 .neq 20 21,
mV 23 22,
gD 24 23 false (.mv 6),
gD 25 23 false (.faddr 0 none 8),
gD 26 23 false (.load none 25),
gD 27 23 false (.look (none,[2]) false (AB false) 24 26),
uO 28 (.pick 23 cT 27)] [1,4,5,6,8,13,14,15,28])
(.cond 28 (.exit 1)
.skip))
(.seq (rg [mV 29 6,
fA 30 0 none 8,
lD 31 none 30,
wO (.mupd (none,[2]) 29 31 cT)] [1,4,5,6,8,13,14,15])
(.seq (rg [mV 32 5,
bN 33 .add 32 (cI 1),
mV 5 33] [1,4,5,6,8,13,14,15])
(.seq (rg [fA 34 4 none 8,
lD 35 none 34] [1,4,5,6,13,14,15,35])
(.cond 35 (rg [mV 36 4,
bN 37 .add 36 (cI 1),
mV 4 37] [1,4,5,6,13,14,15])
.skip)))))))
tY)))
def z4n:Sf C gl rO e h x K:=⟨_,by simp only[rO,↓wZ,AO.still];rfl⟩
theorem znv:NW C gl rO ⟨e,h,x⟩ K=(z4n C gl e h x K).1:=(z4n ..).2
theorem zq7 {C gl e h x K}:NW C gl (.loop (.scope rO)) ⟨e,h,x⟩ K=yA C gl (.scope rO) K [(1,bA e 1),(4,bA e 4),(5,bA e 5),(6,bA e 6),(13,bA e 13),(14,bA e 14),(15,bA e 15)] h x:=wC
def uY:ACode:=.pr [4,5] (.seq (rg [mV 39 4,
mV 40 5,
mV 4 39,
mV 5 40] [4,5])
.ret)
def z4o:Sf C gl uY e h x K:=⟨_,by simp only[uY,↓wZ,AO.still];rfl⟩
theorem znw:NW C gl uY ⟨e,h,x⟩ K=(z4o C gl e h x K).1:=(z4o ..).2
def z72:ACode:=(.seq (rg [mV 4 (cI 0),
mV 5 (cI 0)] [0,1,4,5])
(.seq (rg [uO 9 (.mkmap),
mV 6 9] [0,1,4,5,6])
(.seq (.seq (rg [mV 10 0,
uO 11 (.nilchk 10),
fA 12 4 none 11,
lD 13 none 12,
lN 14 13,
mV 15 (cI 0)] [1,4,5,6,13,14,15])
(.block 0 (.loop (.scope rO))))
uY)))
def z1h:AFun:=⟨2,[.t 4,.t 5],z72,false,false⟩
def oV:Sf C gl z72 e h x K:=⟨_,by simp only[z72,↓wZ,AO.still];rfl⟩
theorem znt {C gl v0 v1 h x K}:NW C gl z1h.body ⟨enter [v0,v1],h,x⟩ K=(oV C gl [(0,v0),(1,v1)] h x K).1:=(oV C gl [(0,v0),(1,v1)] h x K).2
def z5H:ACode:=(.seq (rg [uO 4 (.alloc [.p (.int .i64 0),.p (.int .i64 0)])] [0,1,4])
(.seq (rg [mV 6 0,
mV 7 0,
uO 8 (.un .neg 7),
uO 9 (.mx [6,8]),
mV 10 1,
cL 11 cQ [9,10],
mV 5 11] [0,1,4,5])
(.seq (dr [dF (mV 12 0) [0],
dF (mV 13 5) [5],
dF (bN 14 .quo 12 13) [12,13],
dF (mV 15 1) [1],
dF (mV 16 5) [5],
dF (bN 17 .quo 15 16) [15,16],
dF (uO 18 (.build [.p (.int .i64 0),.p (.int .i64 0)] [(0,1,14),(1,1,17)])) [14,17],
dT (wO (.store (some 2) 4 18)) [4,18]] [4])
.ret)))
def LZ:AFun:=⟨2,[.cell 4 (some 2)],z5H,false,false⟩
def MT:Sf C gl z5H e h x K:=⟨_,by simp only[z5H,↓wZ,AO.still];rfl⟩
theorem ziX {C gl v0 v1 h x K}:NW C gl LZ.body ⟨enter [v0,v1],h,x⟩ K=(MT C gl [(0,v0),(1,v1)] h x K).1:=(MT C gl [(0,v0),(1,v1)] h x K).2
def z7y:ACode:=(.seq (rg [uO 3 (.box 0),
mV 6 (cI 0)] [1,2,3])
(.seq (rg [lD 7 (some 2) 3,
cL 8 rK [7],
mV 9 1,
cL 10 qK [9],
mV 11 2,
cL 12 AM [11],
uO 13 (.bsl false none 3 (.int .i64 0) [(0,8),(1,10),(2,12)]),
cL 14 WJ [13],
mV 6 14] [6])
.ret))
def XS:AFun:=⟨3,[.t 6],z7y,false,false⟩
def kV:Sf C gl z7y e h x K:=⟨_,by simp only[z7y,↓wZ,AO.still];rfl⟩
theorem znj {C gl v0 v1 v2 h x K}:NW C gl XS.body ⟨enter [v0,v1,v2],h,x⟩ K=(kV C gl [(0,v0),(1,v1),(2,v2)] h x K).1:=(kV C gl [(0,v0),(1,v1),(2,v2)] h x K).2
def ZM:ACode:=.pr [2,4,5,15,16,17] (.seq (rg [bN 18 .lss 17 16] [2,4,5,15,16,17,18])
(.seq (.cond 18 .skip
(.exit 0))
(.seq (.block 1 (.seq (rg [iA 19 (some 2) 15 17,
lD 20 (some 2) 19,
uO 7 (.alloc [.p (.int .i64 0),.p (.int .i64 0)]),
wO (.store (some 2) 7 20)] [2,4,5,7,15,16,17])
(.seq (.seq (rg [fA 21 0 none 7,
lD 22 none 21,
bN 23 .eql 22 (cI 0)] [2,4,5,7,15,16,17,23])
(.cond 23 (.seq (rg [uO 24 (.build [.p (.int .i64 0),.p (.int .i64 0)] [(1,1,(cI 1))]),
wO (.store (some 2) 2 24),
mV 3 cT] [2,3])
.ret)
.skip))
(.seq (rg [mV 25 5,
fA 26 0 none 7,
lD 27 none 26,
uO 28 (.callv 25 [27,(cI 1)])] [2,4,5,7,15,16,17])
(rg [mV 29 5,
fA 30 1 none 7,
lD 31 none 30,
uO 32 (.callv 29 [31,(cI (-1))])] [2,4,5,15,16,17])))))
(rg [bN 33 .add 17 (cI 1),
mV 17 33] [2,4,5,15,16,17]))))
def z19:Sf C gl ZM e h x K:=⟨_,by simp only[ZM,↓wZ,AO.still];rfl⟩
theorem zjh:NW C gl ZM ⟨e,h,x⟩ K=(z19 C gl e h x K).1:=(z19 ..).2
theorem zp1 {C gl e h x K}:NW C gl (.loop (.scope ZM)) ⟨e,h,x⟩ K=yA C gl (.scope ZM) K [(2,bA e 2),(4,bA e 4),(5,bA e 5),(15,bA e 15),(16,bA e 16),(17,bA e 17)] h x:=wC
def aN:ACode:=.pr [2,4,8,9,36,43,44] (.seq (rg [bN 45 .lss 44 43] [2,4,8,9,36,43,44,45])
(.seq (.cond 45 .skip
(.exit 4))
(.seq (.block 5 (.seq (.seq (dr [dF (fA 46 1 none 8) [8],
dF (lD 47 none 46) [46],
dF (mV 48 9) [9],
dF (bN 49 .quo (cI 1000000000000000) 48) [48],
dF (bN 50 .gtr 47 49) [47,49]] [2,4,8,9,36,43,44,50])
(.cond 50 (.seq (rg [uO 51 (.build [.p (.int .i64 0),.p (.int .i64 0)] []),
wO (.store (some 2) 2 51),
mV 3 cF] [2,3])
.ret)
.skip))
(rg [fA 52 1 none 8,
lD 53 none 52,
mV 54 9,
bN 55 .mul 53 54,
fA 56 1 none 8,
wO (.store none 56 55)] [2,4,8,9,36,43,44])))
(rg [bN 57 .add 44 (cI 1),
mV 44 57] [2,4,8,9,36,43,44]))))
def z1A:Sf C gl aN e h x K:=⟨_,by simp only[aN,↓wZ,AO.still];rfl⟩
theorem zji:NW C gl aN ⟨e,h,x⟩ K=(z1A C gl e h x K).1:=(z1A ..).2
theorem zp2 {C gl e h x K}:NW C gl (.loop aN) ⟨e,h,x⟩ K=yA C gl aN K [(2,bA e 2),(4,bA e 4),(8,bA e 8),(9,bA e 9),(36,bA e 36),(43,bA e 43),(44,bA e 44)] h x:=mB
def cN:ACode:=.pr [2,4,8,36] (.seq (rg [uO 37 (.mnext none [36]),
eX 38 37 0] [2,4,8,36,38])
(.seq (.cond 38 .skip
(.exit 2))
(.block 3 (.seq (rg [uO 39 (.mentry 36),
eX 40 39 0,
eX 41 39 1,
mV 9 40,
mV 10 41] [2,4,8,9,10,36])
(.seq (rg [mV 42 10,
uO 43 (.un .neg 42),
mV 44 (cI 0)] [2,4,8,9,36,43,44])
(.block 4 (.loop aN)))))))
def z1B:Sf C gl cN e h x K:=⟨_,by simp only[cN,↓wZ,AO.still];rfl⟩
theorem zjj:NW C gl cN ⟨e,h,x⟩ K=(z1B C gl e h x K).1:=(z1B ..).2
theorem zp3 {C gl e h x K}:NW C gl (.loop cN) ⟨e,h,x⟩ K=yA C gl cN K [(2,bA e 2),(4,bA e 4),(8,bA e 8),(36,bA e 36)] h x:=mB
def dN:ACode:=.pr [2,8,11,59,65,66] (.seq (rg [bN 67 .lss 66 65] [2,8,11,59,65,66,67])
(.seq (.cond 67 .skip
(.exit 8))
(.seq (.block 9 (rg [fA 68 0 none 8,
lD 69 none 68,
mV 70 11,
bN 71 .mul 69 70,
fA 72 0 none 8,
wO (.store none 72 71)] [2,8,11,59,65,66]))
(rg [bN 73 .add 66 (cI 1),
mV 66 73] [2,8,11,59,65,66]))))
def z1C:Sf C gl dN e h x K:=⟨_,by simp only[dN,↓wZ,AO.still];rfl⟩
theorem zjk:NW C gl dN ⟨e,h,x⟩ K=(z1C C gl e h x K).1:=(z1C ..).2
theorem zp4 {C gl e h x K}:NW C gl (.loop dN) ⟨e,h,x⟩ K=yA C gl dN K [(2,bA e 2),(8,bA e 8),(11,bA e 11),(59,bA e 59),(65,bA e 65),(66,bA e 66)] h x:=mB
def eN:ACode:=.pr [2,8,59] (.seq (rg [uO 60 (.mnext none [59]),
eX 61 60 0] [2,8,59,61])
(.seq (.cond 61 .skip
(.exit 6))
(.block 7 (.seq (rg [uO 62 (.mentry 59),
eX 63 62 0,
eX 64 62 1,
mV 11 63,
mV 12 64] [2,8,11,12,59])
(.seq (rg [mV 65 12,
mV 66 (cI 0)] [2,8,11,59,65,66])
(.block 8 (.loop dN)))))))
def z1D:Sf C gl eN e h x K:=⟨_,by simp only[eN,↓wZ,AO.still];rfl⟩
theorem zjl:NW C gl eN ⟨e,h,x⟩ K=(z1D C gl e h x K).1:=(z1D ..).2
theorem zp5 {C gl e h x K}:NW C gl (.loop eN) ⟨e,h,x⟩ K=yA C gl eN K [(2,bA e 2),(8,bA e 8),(59,bA e 59)] h x:=mB
def yW:ACode:=.pr [2,8] (.seq (rg [lD 74 (some 2) 8,
wO (.store (some 2) 2 74),
mV 3 cT] [2,3])
.ret)
def z1E:Sf C gl yW e h x K:=⟨_,by simp only[yW,↓wZ,AO.still];rfl⟩
theorem zjm:NW C gl yW ⟨e,h,x⟩ K=(z1E C gl e h x K).1:=(z1E ..).2
def zW:ACode:=.pr [2,4,8] (.seq (.seq (rg [lD 58 none 4,
uO 59 (.mrange 58)] [2,8,59])
(.block 6 (.loop eN)))
yW)
def z1F:Sf C gl zW e h x K:=⟨_,by simp only[zW,↓wZ,AO.still];rfl⟩
theorem zjn:NW C gl zW ⟨e,h,x⟩ K=(z1F C gl e h x K).1:=(z1F ..).2
def BW:ACode:=.pr [2,4] (.seq (rg [uO 34 (.build [.p (.int .i64 0),.p (.int .i64 0)] [(0,1,(cI 1)),(1,1,(cI 1))]),
uO 8 (.alloc [.p (.int .i64 0),.p (.int .i64 0)]),
wO (.store (some 2) 8 34)] [2,4,8])
(.seq (.seq (rg [lD 35 none 4,
uO 36 (.mrange 35)] [2,4,8,36])
(.block 2 (.loop cN)))
zW))
def z1G:Sf C gl BW e h x K:=⟨_,by simp only[BW,↓wZ,AO.still];rfl⟩
theorem zjo:NW C gl BW ⟨e,h,x⟩ K=(z1G C gl e h x K).1:=(z1G ..).2
def z5M:ACode:=(.det (.seq (rg [uO 2 (.alloc [.p (.int .i64 0),.p (.int .i64 0)]),
mV 3 cF] [0,2])
(.seq (rg [uO 13 (.mkmap),
uO 4 (.alloc [.nilm]),
wO (.store none 4 13)] [0,2,4])
(.seq (rg [uO 14 (.mkfn SL [4]),
mV 5 14] [0,2,4,5])
(.seq (.seq (rg [mV 15 0,
lN 16 15,
mV 17 (cI 0)] [2,4,5,15,16,17])
(.block 0 (.loop (.scope ZM))))
BW)))))
def IS:AFun:=⟨1,[.cell 2 (some 2),.t 3],z5M,false,false⟩
def RT:Sf C gl z5M e h x K:=⟨_,by simp only[z5M,↓wZ,AO.still];rfl⟩
theorem zjg {C gl v0 h x K}:NW C gl IS.body ⟨enter [v0],h,x⟩ K=(RT C gl [(0,v0)] h x K).1:=(RT C gl [(0,v0)] h x K).2
def WM:ACode:=.pr [5,6,7] (.seq (rg [bN 8 .lss 7 6] [5,6,7,8])
(.seq (.cond 8 .skip
(.exit 0))
(.seq (.block 1 (.seq (rg [iA 9 none 5 7,
lD 10 none 9,
mV 4 10] [4,5,6,7])
(.seq (rg [mV 11 4,
bN 12 .neq 11 (cI 0)] [4,5,6,7,12])
(.cond 12 (.seq (rg [mV 13 4,
mV 2 13] [2])
.ret)
.skip))))
(rg [bN 14 .add 7 (cI 1),
mV 7 14] [5,6,7]))))
def z13:Sf C gl WM e h x K:=⟨_,by simp only[WM,↓wZ,AO.still];rfl⟩
theorem ziV:NW C gl WM ⟨e,h,x⟩ K=(z13 C gl e h x K).1:=(z13 ..).2
theorem zpy {C gl e h x K}:NW C gl (.loop WM) ⟨e,h,x⟩ K=yA C gl WM K [(5,bA e 5),(6,bA e 6),(7,bA e 7)] h x:=mB
def vW:ACode:=.pr [] (.seq (rg [mV 2 (cI 0)] [2])
.ret)
def z14:Sf C gl vW e h x K:=⟨_,by simp only[vW,↓wZ,AO.still];rfl⟩
theorem ziW:NW C gl vW ⟨e,h,x⟩ K=(z14 C gl e h x K).1:=(z14 ..).2
def z5G:ACode:=(.seq (rg [mV 2 (cI 0)] [0])
(.seq (.seq (rg [mV 5 0,
lN 6 5,
mV 7 (cI 0)] [5,6,7])
(.block 0 (.loop WM)))
vW))
def CS:AFun:=⟨1,[.t 2],z5G,false,false⟩
def LT:Sf C gl z5G e h x K:=⟨_,by simp only[z5G,↓wZ,AO.still];rfl⟩
theorem ziU {C gl v0 h x K}:NW C gl CS.body ⟨enter [v0],h,x⟩ K=(LT C gl [(0,v0)] h x K).1:=(LT C gl [(0,v0)] h x K).2
def jO:ACode:=.pr [1,16,17,18] (.seq (rg [bN 19 .lss 18 17] [1,16,17,18,19])
(.seq (.cond 19 .skip
(.exit 1))
(.seq (.block 2 (.seq (rg [mV 20 18,
iA 21 none 16 18,
lD 22 none 21,
mV 3 20,
mV 4 22] [1,3,4,16,17,18])
(.block 3 (.seq (rg [mV 24 4,
cL 25 cG [24],
uO 26 (.un .not 25),
mV 23 26] [1,3,4,16,17,18,23])
(.cond 23 (.seq (rg [mV 2 (cI 5)] [2])
.ret)
(.seq (rg [fA 28 0 none 1,
lD 29 none 28,
mV 30 3,
uO 31 (.slice none 29 none (some 30) none),
mV 32 4,
cL 33 WH [31,32],
mV 27 33] [1,16,17,18,27])
(.cond 27 (.seq (rg [mV 2 (cI 6)] [2])
.ret)
.skip)))))))
(rg [bN 34 .add 18 (cI 1),
mV 18 34] [1,16,17,18]))))
def z3R:Sf C gl jO e h x K:=⟨_,by simp only[jO,↓wZ,AO.still];rfl⟩
theorem zmM:NW C gl jO ⟨e,h,x⟩ K=(z3R C gl e h x K).1:=(z3R ..).2
theorem zq0 {C gl e h x K}:NW C gl (.loop jO) ⟨e,h,x⟩ K=yA C gl jO K [(1,bA e 1),(16,bA e 16),(17,bA e 17),(18,bA e 18)] h x:=mB
def eY:ACode:=.pr [1] (.seq (.seq (rg [fA 35 1 none 1,
lD 36 none 35,
cL 37 dG [36,(cI 1),(cI 10)]] [37])
(.cond 37 (.seq (rg [mV 2 (cI 1)] [2])
.ret)
.skip))
(.seq (rg [mV 2 (cI 0)] [2])
.ret))
def SP:Sf C gl eY e h x K:=⟨_,by simp only[eY,↓wZ,AO.still];rfl⟩
theorem z4C:NW C gl eY ⟨e,h,x⟩ K=(SP C gl e h x K).1:=(SP ..).2
def z7p:ACode:=(.seq (rg [uO 1 (.box 0),
mV 2 (cI 0)] [1])
(.seq (.block 0 (.seq (rg [fA 6 0 none 1,
lD 7 none 6,
lN 8 7,
bN 9 .eql 8 (cI 0),
mV 5 9] [1,5])
(.cond 5 (.seq (rg [mV 2 (cI 8)] [2])
.ret)
(.seq (rg [fA 11 0 none 1,
lD 12 none 11,
lN 13 12,
bN 14 .gtr 13 (cI 20),
mV 10 14] [1,10])
(.cond 10 (.seq (rg [mV 2 (cI 2)] [2])
.ret)
.skip)))))
(.seq (.seq (rg [fA 15 0 none 1,
lD 16 none 15,
lN 17 16,
mV 18 (cI 0)] [1,16,17,18])
(.block 1 (.loop jO)))
eY)))
def TS:AFun:=⟨1,[.t 2],z7p,false,false⟩
def EL:Sf C gl z7p e h x K:=⟨_,by simp only[z7p,↓wZ,AO.still];rfl⟩
theorem zmL {C gl v0 h x K}:NW C gl TS.body ⟨enter [v0],h,x⟩ K=(EL C gl [(0,v0)] h x K).1:=(EL C gl [(0,v0)] h x K).2
def iO:ACode:=.pr [0,9,10,11] (.seq (rg [bN 12 .lss 11 10] [0,9,10,11,12])
(.seq (.cond 12 .skip
(.exit 0))
(.seq (.block 1 (.seq (rg [mV 13 11,
iA 14 (some 8) 9 11,
lD 15 (some 8) 14,
uO 4 (.alloc [.p (.str []),.p (.int .i64 0),.p (.int .i64 0),.p (.int .i64 0),.p (.str []),.p (.str []),.p (.str []),.p (.int .i64 0)]),
mV 3 13,
wO (.store (some 8) 4 15)] [0,3,4,9,10,11])
(.seq (.seq (rg [lD 16 (some 8) 4,
cL 17 uM [16],
mV 5 17] [0,3,4,5,9,10,11])
(.seq (rg [mV 18 5,
bN 19 .neq 18 (cI 0)] [0,3,4,5,9,10,11,19])
(.cond 19 (.seq (rg [mV 20 5,
mV 2 20] [2])
.ret)
.skip)))
(.seq (dr [dF (mV 21 3) [3],
dF (bN 22 .gtr 21 (cI 0)) [21],
dF (mV 23 22) [22],
dF (gD 24 23 true (.load (some 8) 4)) [4,23],
dF (gD 25 23 true (.mv 0)) [0,23],
dF (gD 26 23 true (.mv 3)) [3,23],
dF (gD 27 23 true (.bin .sub 26 (cI 1))) [26,23],
dF (gD 28 23 true (.iaddr (some 8) 25 27)) [25,27,23],
dF (gD 29 23 true (.load (some 8) 28)) [28,23],
dT (gD 30 23 true (.call sM [24,29])) [24,29,23],
dF (gD 31 23 true (.bin .leq 30 (cI 0))) [30,23],
dF (uO 32 (.pick 23 31 cF)) [23,31]] [0,9,10,11,32])
(.cond 32 (.seq (rg [mV 2 (cI 7)] [2])
.ret)
.skip)))))
(rg [bN 33 .add 11 (cI 1),
mV 11 33] [0,9,10,11]))))
def z3P:Sf C gl iO e h x K:=⟨_,by simp only[iO,↓wZ,AO.still];rfl⟩
theorem zmJ:NW C gl iO ⟨e,h,x⟩ K=(z3P C gl e h x K).1:=(z3P ..).2
theorem zqz {C gl e h x K}:NW C gl (.loop (.scope iO)) ⟨e,h,x⟩ K=yA C gl (.scope iO) K [(0,bA e 0),(9,bA e 9),(10,bA e 10),(11,bA e 11)] h x:=wC
def dY:ACode:=.pr [0] (.seq (.seq (rg [mV 34 0,
cL 35 CM [34]] [35])
(.cond 35 (.seq (rg [mV 2 (cI 6)] [2])
.ret)
.skip))
(.seq (rg [mV 2 (cI 0)] [2])
.ret))
def z3Q:Sf C gl dY e h x K:=⟨_,by simp only[dY,↓wZ,AO.still];rfl⟩
theorem zmK:NW C gl dY ⟨e,h,x⟩ K=(z3Q C gl e h x K).1:=(z3Q ..).2
def z7o:ACode:=(.seq (rg [mV 2 (cI 0)] [0])
(.seq (.seq (rg [mV 6 0,
lN 7 6,
bN 8 .gtr 7 (cI 2000)] [0,8])
(.cond 8 (.seq (rg [mV 2 (cI 2)] [2])
.ret)
.skip))
(.seq (.seq (rg [mV 9 0,
lN 10 9,
mV 11 (cI 0)] [0,9,10,11])
(.block 0 (.loop (.scope iO))))
dY)))
def RS:AFun:=⟨1,[.t 2],z7o,false,false⟩
def RP:Sf C gl z7o e h x K:=⟨_,by simp only[z7o,↓wZ,AO.still];rfl⟩
theorem zmI {C gl v0 h x K}:NW C gl RS.body ⟨enter [v0],h,x⟩ K=(RP C gl [(0,v0)] h x K).1:=(RP C gl [(0,v0)] h x K).2
def YM:ACode:=.pr [0,23,24] (.seq (rg [bN 25 .lss 24 23] [0,23,24,25])
(.seq (.cond 25 .skip
(.exit 0))
(.seq (.block 1 (.seq (rg [mV 26 24,
mV 3 26] [0,3,23,24])
(.seq (rg [mV 27 0,
mV 28 3,
uO 29 (.idxs 27 28),
mV 4 29] [0,4,23,24])
(.seq (rg [mV 30 4,
bN 31 .geq 30 (.c (.p (.int .u8 97))),
mV 32 31,
gD 33 32 true (.mv 4),
gD 34 32 true (.bin .leq 33 (.c (.p (.int .u8 122)))),
uO 35 (.pick 32 34 cF),
mV 36 35,
gD 37 36 false (.mv 4),
gD 38 36 false (.bin .geq 37 (.c (.p (.int .u8 48)))),
gD 39 36 false (.mv 38),
gD 40 39 true (.mv 4),
gD 41 39 true (.bin .leq 40 (.c (.p (.int .u8 57)))),
gD 42 36 false (.pick 39 41 cF),
uO 43 (.pick 36 cT 42),
mV 44 43,
gD 45 44 false (.mv 4),
gD 46 44 false (.bin .eql 45 (.c (.p (.int .u8 45)))),
uO 47 (.pick 44 cT 46),
mV 48 47,
gD 49 48 false (.mv 4),
gD 50 48 false (.bin .eql 49 (.c (.p (.int .u8 95)))),
uO 51 (.pick 48 cT 50),
uO 52 (.un .not 51)] [0,23,24,52])
(.cond 52 (.seq (rg [mV 2 cF] [2])
.ret)
.skip)))))
(rg [bN 53 .add 24 (cI 1),
mV 24 53] [0,23,24]))))
def z17:Sf C gl YM e h x K:=⟨_,by simp only[YM,↓wZ,AO.still];rfl⟩
theorem zjc:NW C gl YM ⟨e,h,x⟩ K=(z17 C gl e h x K).1:=(z17 ..).2
theorem zp0 {C gl e h x K}:NW C gl (.loop YM) ⟨e,h,x⟩ K=yA C gl YM K [(0,bA e 0),(23,bA e 23),(24,bA e 24)] h x:=mB
def xW:ACode:=.pr [] (.seq (rg [mV 2 cT] [2])
.ret)
def z18:Sf C gl xW e h x K:=⟨_,by simp only[xW,↓wZ,AO.still];rfl⟩
theorem zjd:NW C gl xW ⟨e,h,x⟩ K=(z18 C gl e h x K).1:=(z18 ..).2
def z5J:ACode:=(.seq (rg [mV 2 cF] [0])
(.seq (.seq (rg [mV 5 0,
bN 6 .eql 5 (cS []),
mV 7 6,
gD 8 7 false (.mv 0),
gD 9 7 false (.lens 8),
gD 10 7 false (.bin .gtr 9 (cI 40)),
uO 11 (.pick 7 cT 10),
mV 12 11,
gD 13 12 false (.mv 0),
gD 14 12 false (.idxs 13 (cI 0)),
gD 15 12 false (.bin .lss 14 (.c (.p (.int .u8 97)))),
uO 16 (.pick 12 cT 15),
mV 17 16,
gD 18 17 false (.mv 0),
gD 19 17 false (.idxs 18 (cI 0)),
gD 20 17 false (.bin .gtr 19 (.c (.p (.int .u8 122)))),
uO 21 (.pick 17 cT 20)] [0,21])
(.cond 21 (.seq (rg [mV 2 cF] [2])
.ret)
.skip))
(.seq (.seq (rg [mV 22 0,
uO 23 (.lens 22),
mV 24 (cI 0)] [0,23,24])
(.block 0 (.loop YM)))
xW)))
def DS:AFun:=⟨1,[.t 2],z5J,false,false⟩
def LI:Sf C gl z5J e h x K:=⟨_,by simp only[z5J,↓wZ,AO.still];rfl⟩
theorem zjb {C gl v0 h x K}:NW C gl DS.body ⟨enter [v0],h,x⟩ K=(LI C gl [(0,v0)] h x K).1:=(LI C gl [(0,v0)] h x K).2
def z5O:ACode:=(.seq (rg [uO 1 (.box 0),
mV 2 cF] [1])
(.seq (rg [fA 3 0 none 1,
lD 4 none 3,
fA 5 1 none 1,
lD 6 none 5,
cL 7 dG [4,(cI 0),6],
uO 8 (.un .not 7),
mV 9 8,
gD 10 9 true (.faddr 1 none 1),
gD 11 9 true (.load none 10),
gD 12 9 true (.bin .leq 11 (cI 345686400000)),
uO 13 (.pick 9 12 cF),
mV 2 13] [2])
.ret))
def OZ:AFun:=⟨1,[.t 2],z5O,false,false⟩
def DP:Sf C gl z5O e h x K:=⟨_,by simp only[z5O,↓wZ,AO.still];rfl⟩
theorem zjt {C gl v0 h x K}:NW C gl OZ.body ⟨enter [v0],h,x⟩ K=(DP C gl [(0,v0)] h x K).1:=(DP C gl [(0,v0)] h x K).2
def z5W:ACode:=(.seq (rg [uO 1 (.box 0),
mV 2 (.c (.nilf))] [1])
(.seq (rg [uO 3 (.mkfn IV [1]),
mV 2 3] [2])
.ret))
def SZ:AFun:=⟨1,[.t 2],z5W,false,false⟩
def ZT:Sf C gl z5W e h x K:=⟨_,by simp only[z5W,↓wZ,AO.still];rfl⟩
theorem zj3 {C gl v0 h x K}:NW C gl SZ.body ⟨enter [v0],h,x⟩ K=(ZT C gl [(0,v0)] h x K).1:=(ZT C gl [(0,v0)] h x K).2
end
end Go.Am
