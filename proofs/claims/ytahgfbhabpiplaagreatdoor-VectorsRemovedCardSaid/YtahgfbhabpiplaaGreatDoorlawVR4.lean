/- Texts of the proof, laid together: Am31, AmX, AmS, AmW, CodesA, CodesB. -/
import GoSem.Extern.Table
import Derived.Laws.World
import Derived.KernelRfl
import Derived.Test.YtahgfbhabpiplaaGreatDoorlawVR3
set_option linter.all false
section
/- The abstract machine,part 31: words in which a function's code is printed,and the rules of computing over them. -/
set_option linter.unusedSimpArgs false
set_option linter.unusedVariables false
namespace Go.Am
variable {C:Hd} {gl:Nat→Option PV} {e:List (Nat × AV)} {h:aA} {x:Esc} {K:Ex→St→Prop} {s:St}
abbrev AI (n:Int):AV:=.p (.int .i64 n)
abbrev AB (b:Bool):AV:=.p (.bool b)
def iE (C:Hd)(gl:Nat→Option PV)(b:ACode)(K:Ex→St→Prop)(e:Ex)(s:St):Prop:=match e with
 | .normal=>NW C gl b s K
 | .exit i=>K (.exit i) s
 | .ret=>K .ret s
def tC (id:Nat)(K:Ex→St→Prop)(e:Ex)(s:St):Prop:=match e with
 | .normal=>K .normal s
 | .exit i=>bif Nat.beq i id then K .normal s else K (.exit i) s
 | .ret=>K .ret s
def nqK (sh:Option Sh)(l:List AV)(h:aA)(k:AV→aA→Esc→Prop):Prop:=match eK h sh l with
 | some l=>l≠[]∧∀y∈l,k y.1 y.2 []
 | none=>False
def nxK (i:AV)(h:aA)(k:AV→aA→Esc→Prop):Prop:=match FO h i with
 | some l=>l≠[]∧∀y∈l,k y.1 y.2 []
 | none=>False
def gv (gl:Nat→Option PV)(n:Nat):AV:=match gl n with|some v=>.vp v|none=>.und
theorem z4H {b:ACode}:iE C gl b K .normal s=NW C gl b s K:=(rfl)
theorem z4I {b:ACode}:iE C gl b K .ret s=K .ret s:=(rfl)
theorem z0H {i:Nat}:tC i K .normal s=K .normal s:=(rfl)
theorem z0J {i:Nat}:tC i K (.exit i) s=K .normal s:=by simp [tC]
theorem z0I {i:Nat}:tC i K .ret s=K .ret s:=(rfl)
theorem wD {b:ACode}:NW C gl (.scope b) ⟨e,h,x⟩ K=NW C gl b ⟨e,h,[]⟩ (z4F h.length x K):=(rfl)
theorem z6b {c:ACode}{s s':St}(hs:s=s'):NW C gl c s K=NW C gl c s' K:=by rw[hs]
def CA (C:Hd)(gl:Nat→Option PV)(b:ACode)(K:Ex→St→Prop)(e:List (Nat × AV))(h:aA)(x:Esc):Prop:=ALoop (NW C gl b) K ⟨e,h,x⟩
theorem YA {l:List Nat}{b:ACode}:NW C gl (.loop (.pr l b)) ⟨e,h,x⟩ K=CA C gl (.pr l b) K (GA (some l) e) h x:=by
 show ALoop _ _ _=ALoop _ _ _
 exact YZ (funext fun R=>by show NW C gl b _ R=NW C gl b _ R;dsimp only;rw[z3A])
theorem FB {l:List Nat}{b:ACode}:NW C gl (.loop (.scope (.pr l b))) ⟨e,h,x⟩ K=CA C gl (.scope (.pr l b)) K (GA (some l) e) h x:=by
 show ALoop _ _ _=ALoop _ _ _
 exact YZ (funext fun R=>by show NW C gl b _ _=NW C gl b _ _;dsimp only;rw[z3A])
theorem z6a {b:ACode}{e e':List (Nat × AV)}{h h':aA}{x x':Esc}(h1:e=e')(h2:h=h')(h3:x=x'):CA C gl b K e h x=CA C gl b K e' h' x':=by rw[h1,h2,h3]
theorem FA {σ:Type}{b:ACode}(S:σ→St)(P:σ→Prop)(m:σ→Nat)(t0:σ)(hs:(⟨e,h,x⟩:St)=S t0)(h0:P t0)(hr:∀ t,P t→NW C gl b (S t) (EO S P m K t)):CA C gl b K e h x:=by
 show ALoop (NW C gl b) K _
 rw[hs];have key:∀n t,m t<n→P t→ALoop (NW C gl b) K (S t):=by
  intro n;induction n with
  | zero=>intro t h;omega
  | succ n ih=>
   intro t hm hp;refine .mk _ _ (hr t hp) (fun s' h'=>?_) (fun i s' h'=>h') (fun s' h'=>h')
   obtain⟨u,rfl,hu,hlt⟩:=h';exact ih u (by omega) hu
 exact key _ t0 (Nat.lt_succ_self _) h0
theorem BA {X:Ctx}{f:Nat}{F:AFun}{a asv:List AV}{h h1:aA}{P:jA}(hf:X.fn f=some F)(hr:F.byref=false)(hp:mA h a=some (asv,h1))(hl:asv.length=F.nparams)(hd:F.isDet=false:=by rfl)(hO:nC F.results=false:=by rfl) :
 eA X f a h P=NW (eA X) X.gl F.body ⟨enter asv,h1,[]⟩ (nA F.results F.keep h.length P):=by
 rw[zhQ hf hr hp hl hd hO,sC]
theorem HM {X:Ctx}{f:Nat}{F:AFun}{a asv:List AV}{h h1:aA}{P:jA}(hf:X.fn f=some F)(hr:F.byref=false)(hp:mA h a=some (asv,h1))(hl:asv.length=F.nparams)(hd:F.isDet=true:=by rfl)(hO:nC F.results=false:=by rfl) :
 eA X f a h P = ∃v h' x,P v h' x∧NW (eA X) X.gl F.body ⟨enter asv,h1,[]⟩ (nA F.results F.keep h.length fun v1 h1 x1=>v1=v∧h1=h'∧x1=x):=by
 rw[zhS hf hr hp hl hd hO];simp only[sC]
theorem gC {X:Ctx}{f:Nat}{F:AFun}{asv:List AV}{h:aA}{P:jA}(hf:X.fn f=some F)(hr:F.byref=true)(hl:asv.length=F.nparams)(hd:F.isDet=false:=by rfl)(hO:nC F.results=false:=by rfl) :
 eA X f asv h P=NW (eA X) X.gl F.body ⟨enter asv,h,[]⟩ (nA F.results F.keep h.length P):=by
 rw[zhO hf hr hl hd hO,sC]
theorem z0T {X:Ctx}{f:Nat}{F:AFun}{a asv:List AV}{h h1:aA}{P:jA}(hf:X.fn f=some F)(hr:F.byref=false)(hp:mA h a=some (asv,h1))(hl:asv.length=F.nparams)(hd:F.isDet=false:=by rfl)(hO:nC F.results=true:=by rfl) :
 eA X f a h P=NW (eA X) X.gl F.body ⟨enter asv,h1,[]⟩ (xL F.results h.length P):=by
 rw[zhR hf hr hp hl hd hO,sC]
theorem z0U {X:Ctx}{f:Nat}{F:AFun}{a asv:List AV}{h h1:aA}{P:jA}(hf:X.fn f=some F)(hr:F.byref=false)(hp:mA h a=some (asv,h1))(hl:asv.length=F.nparams)(hd:F.isDet=true:=by rfl)(hO:nC F.results=true:=by rfl) :
 eA X f a h P = ∃v h' x,P v h' x∧NW (eA X) X.gl F.body ⟨enter asv,h1,[]⟩ (xL F.results h.length fun v1 h1 x1=>v1=v∧h1=h'∧x1=x):=by
 rw[zhT hf hr hp hl hd hO];simp only[sC]
theorem z33 {v:AV}{k:AV→Prop}:pK (some v) k=k v:=(rfl)
theorem z32 {k:AV→Prop}:pK none k=False:=(rfl)
theorem z5n {v:AV}{h:aA}{x:Esc}{k:AV→aA→Esc→Prop}:wK (some (v,h,x)) k=k v h x:=(rfl)
theorem z5l {k:AV→aA→Esc→Prop}:wK none k=False:=(rfl)
theorem zgf {p:Prop}[Decidable p]{a b:Option AV}{k:AV→Prop}:pK (if p then a else b) k=if p then pK a k else pK b k:=by split <;> rfl
theorem zi9 {p:Prop}[Decidable p]{a b:Option (AV × aA × Esc)}{k:AV→aA→Esc→Prop}:wK (if p then a else b) k=if p then wK a k else wK b k:=by split <;> rfl
theorem zge {o o':Option AV}{k:AV→Prop}(h:o=o'):pK o k=pK o' k:=by rw[h]
theorem zi8 {o o':Option (AV × aA × Esc)}{k:AV→aA→Esc→Prop}(h:o=o'):wK o k=wK o' k:=by rw[h]
theorem zdG {v v':AV}{b:Bool}{h:aA}{A:(AV→aA→Esc→Prop)→Prop}{k:AV→aA→Esc→Prop}(h1:v=v'):gV v b h A k=gV v' b h A k:=by rw[h1]
theorem zdF {v v':AV}{b:Bool}{o:Option AV}{h:aA}{k:AV→aA→Esc→Prop}(h1:v=v'):gP v b o h k=gP v' b o h k:=by rw[h1]
theorem zdE {v v':AV}{b:Bool}{u:AV}{h:aA}{k:AV→aA→Esc→Prop}(h1:v=v'):gM v b u h k=gM v' b u h k:=by rw[h1]
section
variable {A:(AV→aA→Esc→Prop)→Prop} {o:Option AV} {u:AV} {k:AV→aA→Esc→Prop} {t b:Bool}
theorem z28:gV (.p (.bool true)) true h A k=A k:=(rfl)
theorem z26:gV (.p (.bool false)) true h A k=k .skp h []:=(rfl)
theorem z27:gV .skp b h A k=k .skp h []:=(rfl)
theorem z25:gP (.p (.bool true)) true o h k=pK o fun v=>k v h []:=(rfl)
theorem z2z:gP (.p (.bool false)) false o h k=pK o fun v=>k v h []:=(rfl)
theorem z24:gP (.p (.bool true)) false o h k=k .skp h []:=(rfl)
theorem z22:gP (.p (.bool false)) true o h k=k .skp h []:=(rfl)
theorem z23:gP .skp b o h k=k .skp h []:=(rfl)
theorem z2y:gM (.p (.bool true)) true u h k=k u h []:=(rfl)
theorem z2u:gM (.p (.bool false)) false u h k=k u h []:=(rfl)
theorem z2x:gM (.p (.bool true)) false u h k=k .skp h []:=(rfl)
theorem z2v:gM (.p (.bool false)) true u h k=k .skp h []:=(rfl)
theorem z2w:gM .skp b u h k=k .skp h []:=(rfl)
end
section
variable {k k':IntKind} {a b:Int} {sa sb:List UInt8}
theorem z6E:sA .add (.p (.int k a)) (.p (.int k b))=some (.p (.int k (k.wrap (a+b)))):=by simp [sA,gB,SB]
theorem z6U:sA .sub (.p (.int k a)) (.p (.int k b))=some (.p (.int k (k.wrap (a-b)))):=by simp [sA,gB,SB]
theorem z6M:sA .mul (.p (.int k a)) (.p (.int k b))=some (.p (.int k (k.wrap (a*b)))):=by simp [sA,gB,SB]
theorem z6Q:sA .quo (.p (.int k a)) (.p (.int k b))=if b=0 then none else some (.p (.int k (k.wrap (a.tdiv b)))):=by simp [sA,gB,SB] <;> split <;> rfl
theorem z6R:sA .rem (.p (.int k a)) (.p (.int k b))=if b=0 then none else some (.p (.int k (a.tmod b))):=by simp [sA,gB,SB] <;> split <;> rfl
theorem z6F:sA .and (.p (.int k a)) (.p (.int k b))=some (.p (.int k (uC k a b))):=by simp [sA,gB,SB]
theorem z6P:sA .or (.p (.int k a)) (.p (.int k b))=some (.p (.int k (ior k a b))):=by simp [sA,gB,SB]
theorem z6V:sA .xor (.p (.int k a)) (.p (.int k b))=some (.p (.int k (UG k a b))):=by simp [sA,gB,SB]
theorem z6G:sA .andNot (.p (.int k a)) (.p (.int k b))=some (.p (.int k (TG k a b))):=by simp [sA,gB,SB]
theorem z6H:sA .eql (.p (.int k a)) (.p (.int k b))=some (.p (.bool (decide (a=b)))):=by simp [sA,gB,SB]
theorem z6N:sA .neq (.p (.int k a)) (.p (.int k b))=some (.p (.bool (!decide (a=b)))):=by simp [sA,gB,SB]
theorem z6L:sA .lss (.p (.int k a)) (.p (.int k b))=some (.p (.bool (decide (a<b)))):=by simp [sA,gB,SB]
theorem z6K:sA .leq (.p (.int k a)) (.p (.int k b))=some (.p (.bool (decide (a≤b)))):=by simp [sA,gB,SB]
theorem z6J:sA .gtr (.p (.int k a)) (.p (.int k b))=some (.p (.bool (decide (b<a)))):=by simp [sA,gB,SB]
theorem z6I:sA .geq (.p (.int k a)) (.p (.int k b))=some (.p (.bool (decide (b≤a)))):=by simp [sA,gB,SB]
theorem z6S:sA .shl (.p (.int k a)) (.p (.int k' b))=if b<0 then none else some (.p (.int k (uE k a b))):=by simp [sA,gB] <;> split <;> rfl
theorem z6T:sA .shr (.p (.int k a)) (.p (.int k' b))=if b<0 then none else some (.p (.int k (MC k a b))):=by simp [sA,gB] <;> split <;> rfl
theorem zia:sA .add (.p (.str sa)) (.p (.str sb))=if sa.length+sb.length≤fF then some (.p (.str (sa++sb))) else none:=by simp [sA,gB,qG] <;> split <;> rfl
theorem zib:sA .eql (.p (.str sa)) (.p (.str sb))=some (.p (.bool (decide (sa=sb)))):=by simp [sA,gB,qG]
theorem zid:sA .neq (.p (.str sa)) (.p (.str sb))=some (.p (.bool (!decide (sa=sb)))):=by simp [sA,gB,qG]
theorem zi3:oUn .neg (.p (.int k a))=some (.p (.int k (k.wrap (-a)))):=by simp [oUn,aun]
theorem zi4 {t:Bool}:oUn .not (.p (.bool t))=some (.p (.bool !t)):=(rfl)
theorem convI {k':IntKind}:NL k (.p (.int k' a))=some (.p (.int k (k.wrap a))):=(rfl)
theorem zfU {i j:Nat}:XL (.ref i j)=some (.ref i j):=(rfl)
theorem zgi {t:Bool}{u v:AV}:RF (.p (.bool t)) u v=some (bif t then u else v):=(rfl)
theorem zfv {sh:Sh}{xs:List PV}:VB (.p (.sl sh xs))=some (.p (.int .i64 xs.length)):=(rfl)
theorem zfu {i g o l:Nat}:VB (.own i g o l)=some (.p (.int .i64 l)):=(rfl)
theorem zfy:TL (.p (.str sa))=some (.p (.int .i64 sa.length)):=(rfl)
theorem ext_t {vs:List AV}{i:Nat}:OL (.tup vs) i=vs[i]?:=(rfl)
theorem zd1 {off i j:Nat}{sh:Sh}:VA off sh (.ref i j)=some (.ref i (j+off)):=(rfl)
def ldB (sh:Sh)(off:Nat):Option Obj→Option AV
 | some (.box cs)=>cut sh off cs
 | _=>none
def ldR (sh:Sh)(g i off:Nat):Option Obj→Option AV
 | some (.row _ xs _)=>if g=xs.length then((xs[i]?).bind (mB sh off)).map .p else none
 | _=>none
theorem zf5 {sh:Sh}{i j:Nat}:IA sh (.ref i j) h=ldB sh j h[i]?:=by unfold IA ldB;rfl
theorem z3a {sh:Sh}{i g m n:Nat}:IA sh (.rref i g m n) h=ldR sh g m n h[i]?:=by unfold IA ldR;rfl
theorem z3b {sh:Sh}{v:PV}:IA sh (.vp v) h=(mB sh 0 v).map .p:=(rfl)
theorem zfr {sh:Sh}{off:Nat}{cs:List AV}:ldB sh off (some (.box cs))=cut sh off cs:=(rfl)
theorem z2V {sh sh':Sh}{g i off fz:Nat}{xs:List PV}:ldR sh g i off (some (.row sh' xs fz))=if g=xs.length then((xs[i]?).bind (mB sh off)).map .p else none:=(rfl)
def stB (sh:Sh)(id off:Nat)(v:AV)(h:aA):Option Obj→Option (List AV)→Option (AV×aA×Esc)
 | some (.box cs),some vs=>if vs.length=gA sh∧off+vs.length≤cs.length then some (.und,h.set id (.box (splice cs off vs)),CF id cs v) else none
 | _,_=>none
theorem zhY {sh:Sh}{i j:Nat}{v:AV}:NC sh (.ref i j) v h=stB sh i j v h h[i]? v.cells:=by unfold NC stB;rfl
theorem zhJ {sh:Sh}{id off:Nat}{v:AV}{cs vs:List AV}:stB sh id off v h (some (.box cs)) (some vs)=if vs.length=gA sh∧off+vs.length≤cs.length then some (.und,h.set id (.box (splice cs off vs)),CF id cs v) else none:=(rfl)
theorem zde {id:Nat}{cs:List AV}{v:AV}(h:aF cs=false):CF id cs v=BB id v:=by
 unfold CF;rw[h];rfl
theorem zel {a:AV}{v:PV}:aF [a,.p v]=false:=(rfl)
theorem zem {a:AV}{s:Sh}:aF [a,.sl0 s]=false:=(rfl)
theorem zek {a:AV}{i j k l:Nat}:aF [a,.own i j k l]=false:=(rfl)
theorem zei {a:AV}:aF [a]=false:=(rfl)
theorem zej {a b c:AV}{l:List AV}:aF (a::b::c::l)=false:=by unfold aF;split <;> first|rfl|(rename_i h;simp at h)
def stE (sh:Sh)(id i off fz:Nat)(rsh:Sh)(xs:List PV)(v:PV)(h1:aA):Option PV→Option (AV×aA×Esc)
 | some (.agg cs)=>if off+v.cells.length≤cs.length then some (.und,h1.set id (.row rsh (xs.set i (.agg (splice cs off v.cells))) fz),[]) else none
 | some _=>if off=0∧v.sc then some (.und,h1.set id (.row rsh (xs.set i v) fz),[]) else none
 | none=>none
def stO (sh:Sh)(id g i off:Nat)(v:PV)(h1:aA):Option Obj→Option (AV×aA×Esc)
 | some (.row rsh xs fz)=>if g=xs.length∧fz≤i∧v.cells.length=gA sh∧v.cells.all PV.sc then stE sh id i off fz rsh xs v h1 xs[i]? else none
 | _=>none
def stR (sh:Sh)(id g i off:Nat):Option (PV×aA)→Option (AV×aA×Esc)
 | some y=>stO sh id g i off y.1 y.2 y.2[id]?
 | none=>none
theorem zhZ {sh:Sh}{id g i off:Nat}{x:AV}:NC sh (.rref id g i off) x h=stR sh id g i off (pur h x):=by
 unfold NC stR;cases pur h x with
 | none=>rfl
 | some y=>
  obtain⟨v,h1⟩:=y;dsimp only;unfold stO;cases h1[id]? with
  | none=>rfl
  | some o=>cases o <;> rfl
theorem zhN {sh:Sh}{id g i off:Nat}{v:PV}{h1:aA}:stR sh id g i off (some (v,h1))=stO sh id g i off v h1 h1[id]?:=(rfl)
theorem zhM {sh rsh:Sh}{id g i off fz:Nat}{v:PV}{h1:aA}{xs:List PV}:stO sh id g i off v h1 (some (.row rsh xs fz))=if g=xs.length∧fz≤i∧v.cells.length=gA sh∧v.cells.all PV.sc then stE sh id i off fz rsh xs v h1 xs[i]? else none:=(rfl)
theorem zhK {sh rsh:Sh}{id i off fz:Nat}{v:PV}{h1:aA}{xs:List PV}{k:IntKind}{n:Int}:stE sh id i off fz rsh xs v h1 (some (.int k n))=if off=0∧v.sc then some (.und,h1.set id (.row rsh (xs.set i v) fz),[]) else none:=(rfl)
theorem zhL {sh rsh:Sh}{id i off fz:Nat}{v:PV}{h1:aA}{xs:List PV}{s:List UInt8}:stE sh id i off fz rsh xs v h1 (some (.str s))=if off=0∧v.sc then some (.und,h1.set id (.row rsh (xs.set i v) fz),[]) else none:=(rfl)
def iaS (xs:List PV):Option Nat→Option AV
 | some k=>(xs[k]?).map .vp
 | none=>none
theorem zdU {sh:Sh}{xs:List PV}{i:AV}:tB sh (.p (.sl sh xs)) i h=iaS xs (aB i):=by
 unfold tB iaS;cases aB i <;> simp
theorem zdR {xs:List PV}{n:Nat}:iaS xs (some n)=(xs[n]?).map .vp:=(rfl)
def iaO (sh:Sh)(id g off len:Nat):Option Obj→Option Nat→Option AV
 | some (.row rsh xs _),some k=>if rsh=sh∧g=xs.length∧off+len≤xs.length∧k<len then some (.rref id g (off+k) 0) else none
 | _,_=>none
theorem zdT {sh:Sh}{id g off len:Nat}{i:AV}:tB sh (.own id g off len) i h=iaO sh id g off len h[id]? (aB i):=by
 unfold tB iaO;cases aB i with
 | none=>dsimp only;cases h[id]? with
  | none=>rfl
  | some o=>cases o <;> rfl
 | some k=>dsimp only;cases h[id]? with
  | none=>rfl
  | some o=>cases o <;> rfl
theorem zdQ {sh rsh:Sh}{id g off len k fz:Nat}{xs:List PV}:iaO sh id g off len (some (.row rsh xs fz)) (some k)=if rsh=sh∧g=xs.length∧off+len≤xs.length∧k<len then some (.rref id g (off+k) 0) else none:=(rfl)
theorem zea {i:AV}:oI (.p (.str sa)) i=(aB i).bind fun n=>(sa[n]?).map fun b=>.p (.int .u8 b.toNat):=by
 unfold oI;cases aB i <;> rfl
end
theorem z00 {z:List AV}{k:AV→aA→Esc→Prop}:alK z h k=k (.ref h.length 0) (h++[.box z]) []:=(rfl)
theorem z3r {sh:Sh}{k:AV→aA→Esc→Prop}:nwK sh h k=k (.own h.length 0 0 0) (h++[.row sh [] 0]) []:=(rfl)
theorem z3h {k:AV→aA→Esc→Prop}:mmK h k=k (.mp h.length) (h++[.amap [] 0]) []:=(rfl)
theorem z8S {A B:Prop}:fK (.p (.bool false)) A B=B:=(rfl)
theorem z8R {A B:Prop}:fK .anyb A B=(A∧B):=(rfl)
attribute [go_sem] z4H z4I z0H z0J z0I wD z33 z32 z5n z5l zgf zi9 z28 z26 z27 z25 z2z z24 z22 z23 z2y z2u z2x z2v z2w z6E z6U z6M z6Q z6R z6F z6P z6V z6G z6H z6N z6L z6K z6J z6I z6S z6T zia zib zid zi3 zi4 convI zfU zgi zfv zfu zfy ext_t zd1 zf5 z3a z3b zfr z2V zhY zhJ zhZ zhN zhM zhK zhL zde zel zem zek zei zej zdU zdR zdT zdQ zea z00 z3r z3h jG z4A upcB neqB lenB n64 z1A strB appB rds rd QF nI vL iF wL XG RL PF z8S z8R LL OO YG pD PO CC YL cE PL QL ML JO oClr oMx oMn pI WL NO KO MO SL VL UL
attribute [go_sem ↓] z33 z32 z5n z5l z28 z26 z27 z25 z2z z24 z22 z23 z2y z2u z2x z2v z2w z1w z1v z4H z4I z0H z0J z0I z00 z3r z3h z3d z3c z3e z4G z2a z2b
attribute [congr] z6b z6a zge zi8 zdG zdF zdE
end Go.Am
end
section
/- The abstract machine,part X: the library's functions that have no Go text: comparing strings,finding a byte. -/
set_option linter.unusedSimpArgs false
set_option linter.unusedVariables false
namespace Go.Am
variable {P:Program}
structure ExtRow (P:Program) (f:Nat) (e:Array Value→Sem Value):Prop where
 row:∃fn,P.funcs[f]?=some fn∧fn.name ≠ "runtime.NumGoroutine" ∧ fn.body=none∧Extern.findNext fn=none∧Extern.find fn=some e
theorem ExtRow.run {f:Nat}{e:Array Value→Sem Value}(R:ExtRow P f e){us:Array Value}{w w':World}{x:Value}(he:(e us).run P w = .ok x w'):(callFunc f us).run P w = .ok (.value x) w':=by
 obtain⟨fn,h1,h2,h3,h4,h5⟩:=R.row;unfold callFunc;simp [h1,h2,h3,h4,h5,he]
theorem zjU {f:Nat}{e:Array Value→Sem Value}(h:(match P.funcs[f]? with | some fn=>fn.name != "runtime.NumGoroutine" && fn.body.isNone&&(Extern.findNext fn).isNone | none=>false)=true)(h2:(P.funcs[f]?).bind Extern.find=some e):ExtRow P f e:=by
 cases hf:P.funcs[f]? with
 | none=>rw[hf]at h;cases h
 | some fn=>
  rw[hf]at h h2;simp only[Bool.and_eq_true,bne_iff_ne,ne_eq,Option.isNone_iff_eq_none]at h;exact⟨⟨fn,hf,h.1.1,h.1.2,h.2,h2⟩⟩
def bE (s:List UInt8)(c:UInt8):Int:=if s.findIdx (· == c)<s.length then(s.findIdx (· == c):Int) else -1
def OE:List UInt8→List UInt8→Int
 | [],[]=>0
 | [],_::_=>-1
 | _::_,[]=>1
 | a::asv,b::bs=>if a<b then -1 else if b<a then 1 else OE asv bs
theorem z0A (s:List UInt8)(i:Nat):(⟨s.toArray⟩:ByteArray)[i]! = s.getD i 0:=by
 by_cases h:i<s.length
 ·rw[getElem!_pos (⟨s.toArray⟩:ByteArray) i h]
  show s.toArray[i]=_
  simp [h]
 ·rw[getElem!_neg (⟨s.toArray⟩:ByteArray) i h]
  simp [Nat.not_lt.1 h];rfl
theorem zd8 (s:List UInt8)(c:UInt8):(match (List.range (⟨s.toArray⟩:ByteArray).size).find? fun i=>(⟨s.toArray⟩:ByteArray)[i]! == c with
 | some i=>(i:Int)
 | none=>-1)=bE s c:=by
 have hsz:(⟨s.toArray⟩:ByteArray).size=s.length:=rfl
 have hget:∀i,i<s.length→(⟨s.toArray⟩:ByteArray)[i]! = s.getD i 0:=by
  intro i hi;exact z0A s i
 unfold bE;rw[hsz];by_cases h:s.findIdx (· == c)<s.length
 ·rw[if_pos h]
  have hf:(List.range s.length).find? (fun i=>(⟨s.toArray⟩:ByteArray)[i]! == c)=some (s.findIdx (· == c)):=by
   rw[List.find?_eq_some_iff_getElem];refine⟨?_,s.findIdx (· == c),by simpa using h,by simp,fun j hj=>?_⟩
   ·rw[hget _ h]
    have:=List.findIdx_getElem (w:=h);simpa [h] using this
   ·simp only[List.getElem_range]
    have hj':j<s.length:=by omega
    rw[hget _ hj'];have:=List.not_of_lt_findIdx hj;simpa [hj'] using this
  rw[hf]
 ·rw[if_neg h]
  have hf:(List.range s.length).find? (fun i=>(⟨s.toArray⟩:ByteArray)[i]! == c)=none:=by
   rw[List.find?_eq_none];intro i hi;rw[List.mem_range]at hi;rw[hget _ hi];intro hc;exact h (List.findIdx_lt_length_of_exists ⟨s[i],List.getElem_mem hi,by simpa [hi] using hc⟩)
  rw[hf]
theorem z8K:∀ (a b:List UInt8),Extern.BytealgCompare.cmp ⟨a.toArray⟩ ⟨b.toArray⟩=OE a b:=by
 have key:∀(a b:List UInt8),(match (List.range (min a.length b.length)).find? fun i=>a.getD i 0 != b.getD i 0 with
  | some i=>if a.getD i 0<b.getD i 0 then(-1:Int) else 1
  | none=>if a.length<b.length then -1 else if a.length>b.length then 1 else 0)=OE a b:=by
  intro a;induction a with
  | nil=>intro b;cases b <;> simp [OE]
  | cons x a ih=>
   intro b;cases b with
   | nil=>simp [OE]
   | cons y b=>
    have hm:min (x::a).length (y::b).length=min a.length b.length+1:=by simp only[List.length_cons];omega
    rw[hm,List.range_succ_eq_map,List.find?_cons];simp only[List.getD_cons_zero];by_cases hxy:x=y
    ·subst hxy
     have hlt:¬x<x:=UInt8.lt_irrefl x
     simp only[bne_self_eq_false,List.find?_map,OE,hlt,if_false];rw[←ih b];have hc:((fun i=>(x::a).getD i 0 != (x::b).getD i 0) ∘ Nat.succ)=fun i=>a.getD i 0 != b.getD i 0:=by
      funext i;simp
     rw[hc];cases (List.range (min a.length b.length)).find? fun i=>a.getD i 0 != b.getD i 0 with
     | none=>simp
     | some i=>simp
    ·have:(x != y)=true:=by simpa using hxy
     rw[this];simp only[OE,List.getD_cons_zero];by_cases h1:x<y
     ·simp [h1]
     ·have h2:y<x:=by
       rcases UInt8.lt_or_lt_of_ne (a:=x) (b:=y) hxy with h|h
       ·exact absurd h h1
       ·exact h
      simp [h1,h2]
 intro a b;rw[←key a b];unfold Extern.BytealgCompare.cmp;have sa:(⟨a.toArray⟩:ByteArray).size=a.length:=rfl
 have sb:(⟨b.toArray⟩:ByteArray).size=b.length:=rfl
 simp only[sa,sb,z0A];generalize List.find? _ _=q;cases q <;> rfl
def IK (fi fc:Nat)(f:Nat)(vs:List PV):Option PV:=
 bif Nat.beq f fi then(match vs with
  | [.str s,.int .u8 c]=>some (.int .i64 (bE s (UInt8.ofNat c.toNat)))
  | _=>none)
 else bif Nat.beq f fc then(match vs with
  | [.str a,.str b]=>some (.int .i64 (OE a b))
  | _=>none)
 else none
theorem extF_ok {fi fc:Nat}(h1:ExtRow P fi Extern.BytealgIndexByte.indexByte)(h2:ExtRow P fc Extern.BytealgCompare.compare){f:Nat}{vs:List PV}{r:PV}(h:IK fi fc f vs=some r):z0e P f vs r:=by
 intro M w us hM hl hr;unfold IK at h;cases e1:Nat.beq f fi with
 | true=>
  rw[e1]at h;have e:=Nat.eq_of_beq_eq_true e1
  subst e;simp only[cond_true]at h;split at h
  ·rename_i s c
   injection h with h
   subst h;match us,hl with
   | [u,v],_=>
    have q1:=hr 0 _ u rfl rfl
    have q2:=hr 1 _ v rfl rfl
    cases q1;cases q2
    refine⟨.int .i64 (bE s (UInt8.ofNat c.toNat)),w,h1.run ?_,WExt.refl w,.int _ _⟩;rw[←zd8];show(match (List.range (⟨s.toArray⟩:ByteArray).size).find? fun i=>(⟨s.toArray⟩:ByteArray)[i]! == UInt8.ofNat c.toNat with|some i=>(pure (goInt i):Sem Value)|none=>pure (goInt (-1))).run P w=_
    generalize List.find? _ _=q;cases q <;> rfl
  ·cases h
 | false=>
  rw[e1]at h;simp only[cond_false]at h;cases e2:Nat.beq f fc with
  | true=>
   rw[e2]at h;have e:=Nat.eq_of_beq_eq_true e2
   subst e;simp only[cond_true]at h;split at h
   ·rename_i a b
    injection h with h
    subst h;match us,hl with
    | [u,v],_=>
     have q1:=hr 0 _ u rfl rfl
     have q2:=hr 1 _ v rfl rfl
     cases q1;cases q2
     refine⟨.int .i64 (OE a b),w,h2.run ?_,WExt.refl w,.int _ _⟩;rw[←z8K];rfl
   ·cases h
  | false=>rw[e2]at h;cases h
theorem zdi {X:Ctx}{f:Nat}{asv:List AV}{vs:List PV}{h h1:aA}{r:PV}{K:jA}(hf:X.fn f=none)(h2:X.ex2 f asv h=none)(hp:mA h asv=some (vs.map .p,h1))(hu:unp (vs.map AV.p)=some vs)(hx:X.ext f vs=some r):eA X f asv h K=K (.p r) h1 []:=by
 refine propext (eA.eq (eA.fold ?_) K);unfold GB;simp only[hf,h2,hp,hu,hx];exact⟨trivial,trivial,trivial⟩
structure GrowRow (P:Program) (f:Nat) (sh:Sh):Prop where
 enter:∀us w,(callFunc f us).run P w = .ok (.enter f us) w
 room:∀a w,Calls P f #[.slice a 0 0,.int .i64 0] w fun e w'=>e = .returned (.slice a 0 0)∧w'=w
 grow:∀a (n:Nat) w,0<n→n≤1048576→Calls P f #[.slice a 0 0,.int .i64 n] w fun e w'=>∃G cs E,e = .returned (.slice (some ⟨w.heap.size,0,none⟩) 0 G)∧cs.size=G*gA sh∧w'=w.drew.alloc (.cells cs E)
def fI:List (Nat × Sh)→Nat→List AV→aA→Option (AV × aA × Esc)
 | [],_,_,_=>none
 | (g,sh)::r,f,asv,h=>bif Nat.beq f g then(match asv with
  | [.sl0 _,.p (.int .i64 n)]=>bif decide (0≤n)&&decide (n≤1048576) then some (.own h.length 0 0 0,h++[.row sh [] 0],[]) else none
  | _=>none) else fI r f asv h
theorem z2H {gl:Nat→Option PV}:∀(gs:List (Nat×Sh)),(∀g sh,(g,sh)∈gs→GrowRow P g sh)→∀{f:Nat} {asv:List AV} {h:aA} {v:AV} {h':aA} {x:Esc},fI gs f asv h=some (v,h',x) →
 xB P gl f asv h fun v1 h1 x1=>v1=v∧h1=h'∧x1=x
 | [],_,f,asv,h,v,h',x,H=>by cases H
 | (g,sh)::r,hg,f,asv,h,v,h',x,H=>by
  unfold fI at H;cases e1:Nat.beq f g with
  | false=>
   rw[e1]at H;exact z2H r (fun g sh hm=>hg g sh (by simp [hm])) H
  | true=>
   rw[e1]at H;have e:=Nat.eq_of_beq_eq_true e1
   subst e;have R:=hg f sh (by simp)
   simp only[cond_true]at H;split at H
   ·rename_i sh' n
    cases hb:(decide (0≤n)&&decide (n≤1048576)) with
    | false=>rw[hb]at H;cases H
    | true=>
     rw[hb]at H;simp only[cond_true,Option.some.injEq,Prod.mk.injEq]at H;obtain⟨rfl,rfl,rfl⟩:=H;simp only[Bool.and_eq_true,decide_eq_true_eq]at hb;intro μ w vs Hh Hg hl hr;match vs,hl with
     | [u1,u2],_=>
      have q1:=hr 0 _ u1 rfl rfl
      have q2:=(hr 1 _ u2 rfl rfl).p_inv
      cases q1;cases q2
      obtain⟨m,hm⟩:=Int.eq_ofNat_of_zero_le hb.1;subst hm;refine .inl ⟨R.enter _,?_⟩;rcases Nat.eq_zero_or_pos m with h0|h0
      ·subst h0
       refine(R.room _ w).mono fun e w' he=>?_
       obtain⟨rfl,rfl⟩:=he;obtain⟨n1,n2⟩:=GO Hh sh;refine⟨_,_,_,_,⟨rfl,rfl,rfl⟩,?_,n1,n2,rA.push (by simp [Obj.top])⟩
       exact .own h.length 0 0 0 _ 0 sh [] 0 none (Nat.le_refl _) (by simp) (by rw[←Hh.len];simp) (by simp) (by simp) (fun _=>rfl)
      ·refine(R.grow _ m w h0 (by omega)).mono fun e w' he=>?_
       obtain⟨G,cs,E,rfl,hcs,rfl⟩:=he;have hw:WExt w (w.drew.alloc (.cells cs E)):=(WExt.drew w _).trans (WExt.push _ _)
       obtain⟨n1,n2⟩:=OF (sh:=sh) (xs:=[]) Hh hw (b:=w.heap.size) (n:=cs.size) (Nat.le_refl _) (by show w.heap.size<(w.heap.push _).size;simp) (c:=cs) (TA.push (w:=w.drew) cs E) (by simp) (by simp) (by simp)
       refine⟨_,_,_,_,⟨rfl,rfl,rfl⟩,?_,n1,n2,rA.push (by simp [Obj.top])⟩
       refine .own h.length 0 0 0 _ G sh [] 0 (some (w.heap.size,cs.size)) (Nat.zero_le _) (by simp) (by rw[←Hh.len];simp) (by simp) (by simp) (fun _=>?_)
       exact .inr ⟨by simp,by simp [hcs]⟩
   ·cases H
end Go.Am
end
section
/- Short words for the printed code. -/
set_option linter.all false
namespace Go.Am
instance {n:Nat}:OfNat Opd n:=⟨.t n⟩
abbrev GL:=Nat→Option PV
abbrev KT:=Ex→St→Prop
def cI (n:Int):Opd:=.c (.p (.int .i64 n))
def cT:Opd:=.c (.p (.bool true))
def cF:Opd:=.c (.p (.bool false))
def cS (s:List UInt8):Opd:=.c (.p (.str s))
def uO (d:Nat)(o:AO):AOp:=⟨some d,none,o⟩
def wO (o:AO):AOp:=⟨none,none,o⟩
def gD (d g:Nat)(b:Bool)(o:AO):AOp:=⟨some d,some (g,b),o⟩
def mV (d:Nat)(x:Opd):AOp:=⟨some d,none,.mv x⟩
def bN (d:Nat)(b:BinOp)(x y:Opd):AOp:=⟨some d,none,.bin b x y⟩
def cL (d f:Nat)(l:List Opd):AOp:=⟨some d,none,.call f l⟩
def lD (d:Nat)(s:Sh)(x:Opd):AOp:=⟨some d,none,.load s x⟩
def iA (d:Nat)(s:Sh)(x y:Opd):AOp:=⟨some d,none,.iaddr s x y⟩
def fA (d o:Nat)(s:Sh)(x:Opd):AOp:=⟨some d,none,.faddr o s x⟩
def sT (d:Nat)(s:Sh)(x y:Opd):AOp:=⟨some d,none,.store s x y⟩
def lN (d:Nat)(x:Opd):AOp:=⟨some d,none,.len x⟩
def eX (d:Nat)(x:Opd)(i:Nat):AOp:=⟨some d,none,.ext x i⟩
def dF (o:AOp)(l:List Nat):DOp:=⟨o,l,false,[],[]⟩
def dT (o:AOp)(l:List Nat):DOp:=⟨o,l,true,[],[]⟩
def dA (o:AOp)(l:List Nat)(e:Bool)(a b:List Nat):DOp:=⟨o,l,e,a,b⟩
def rg (l:List AOp)(k:List Nat):ACode:=.reg l (some k)
def dr (l:List DOp)(k:List Nat):ACode:=.draw l (some k)
end Go.Am
end
section
/- A function's formula,computed out of its code. -/
set_option linter.all false
namespace Go.Am
abbrev En:=List (Nat × AV)
variable {C:Hd} {gl:Nat→Option PV} {e:En} {h h':aA} {x y:Esc} {K:Ex→St→Prop} {s:St} {L:En→aA→Esc→Prop} {k:AV→aA→Esc→Prop} {ev:Opd→AV} {r:List AOp} {q:List DOp} {dn:YB} {hs:List aA} {Q:Prop}
abbrev Sf (C:Hd)(gl:Nat→Option PV)(c:ACode)(e:En)(h:aA)(x:Esc)(K:Ex→St→Prop):Type:={P:Prop // NW C gl c ⟨e,h,x⟩ K=P}
def gO (G:AO→(Opd→AV)→aA→(AV→aA→Esc→Prop)→Prop)(t:AV)(g:Bool)(o:AO)(ev:Opd→AV)(h:aA)(k:AV→aA→Esc→Prop):Prop:=gV t g h (G o ev h) k
theorem agetB {e:En}{n m:Nat}{v:AV}:bA ((n,v)::e) m=match Nat.beq n m with|true=>v|false=>bA e m:=by
 show(if n=m then v else bA e m)=_
 cases hb:Nat.beq n m with
 | true=>rw[if_pos (Nat.eq_of_beq_eq_true hb)]
 | false=>rw[if_neg (Nat.ne_of_beq_eq_false hb)]
theorem wA:(∀ {C:Hd} {gl:GL} {e:En} {h:aA} {x:Esc} {K:KT} {l:List Nat} {b:ACode},NW C gl (.pr l b) ⟨e,h,x⟩ K=NW C gl b ⟨GA (some l) e,h,x⟩ K) ∧
 (∀{C:Hd} {gl:GL} {K:KT} {s:St} {a b:ACode},NW C gl (.seq a b) s K=NW C gl a s (iE C gl b K)) ∧
 (∀{C:Hd} {gl:GL} {K:KT} {s:St} {i:Nat} {b:ACode},NW C gl (.block i b) s K=NW C gl b s (tC i K)) ∧
 (∀{C:Hd} {gl:GL} {e:En} {h:aA} {x:Esc} {K:KT} {c:Opd} {a b:ACode},NW C gl (.cond c a b) ⟨e,h,x⟩ K=SA (Opd.ev gl e c) (NW C gl a ⟨e,h,x⟩ K) (NW C gl b ⟨e,h,x⟩ K)) ∧
 (∀{C:Hd} {gl:GL} {e:En} {h:aA} {x:Esc} {K:KT} {c:Opd} {a b:ACode},NW C gl (.condu c a b) ⟨e,h,x⟩ K=fK (Opd.ev gl e c) (NW C gl a ⟨e,h,x⟩ K) (NW C gl b ⟨e,h,x⟩ K)) ∧
 (∀{C:Hd} {gl:GL} {K:KT} {s:St} {b:ACode},NW C gl (.det b) s K=NW C gl b s K) ∧
 (∀{C:Hd} {gl:GL} {K:KT} {s:St},NW C gl .skip s K=K .normal s) ∧
 (∀{C:Hd} {gl:GL} {K:KT} {s:St} {i:Nat},NW C gl (.exit i) s K=K (.exit i) s) ∧
 (∀{C:Hd} {gl:GL} {K:KT} {s:St},NW C gl .ret s K=K .ret s) ∧
 (∀{C:Hd} {gl:GL} {K:KT} {s:St},NW C gl .bad s K=False) ∧
 (∀{C:Hd} {gl:GL} {e:En} {h:aA} {x:Esc} {K:KT} {l:List AOp} {o:List Nat},NW C gl (.reg l (some o)) ⟨e,h,x⟩ K=vD C gl l e h x fun e h x=>K .normal ⟨GA (some o) e,h,x⟩) ∧
 (∀{C:Hd} {gl:GL} {e:En} {h:aA} {x:Esc} {K:KT} {l:List AOp},NW C gl (.reg l none) ⟨e,h,x⟩ K=vD C gl l e h x fun e h x=>K .normal ⟨e,h,x⟩) ∧
 (∀{C:Hd} {gl:GL} {e:En} {h:aA} {x:Esc} {K:KT} {l:List DOp} {o:List Nat},NW C gl (.draw l (some o)) ⟨e,h,x⟩ K=jD C gl l [] [] e h x fun e h x=>K .normal ⟨GA (some o) e,h,x⟩) ∧
 (∀{C:Hd} {gl:GL} {e:En} {h:aA} {x:Esc} {K:KT} {l:List DOp},NW C gl (.draw l none) ⟨e,h,x⟩ K=jD C gl l [] [] e h x fun e h x=>K .normal ⟨e,h,x⟩) ∧
 (∀{C:Hd} {gl:GL} {e:En} {h:aA} {x:Esc} {L:En→aA→Esc→Prop},vD C gl [] e h x L=L e h x) ∧
 (∀{C:Hd} {gl:GL} {e:En} {h:aA} {x:Esc} {L:En→aA→Esc→Prop} {r:List AOp} {d:Option Nat} {o:AO},vD C gl (⟨d,none,o⟩::r) e h x L=opC C o (Opd.ev gl e) h fun v h' x'=>vD C gl r (put d v e) h' (x'++x) L) ∧
 (∀{C:Hd} {gl:GL} {e:En} {h:aA} {x:Esc} {L:En→aA→Esc→Prop} {r:List AOp} {d:Option Nat} {t:Nat} {b:Bool} {o:AO},vD C gl (⟨d,some (t,b),o⟩::r) e h x L=gO (opC C) (bA e t) b o (Opd.ev gl e) h fun v h' x'=>vD C gl r (put d v e) h' (x'++x) L) ∧
 (∀{C:Hd} {gl:GL} {e:En} {h:aA} {x:Esc} {L:En→aA→Esc→Prop} {dn:YB} {hs:List aA},jD C gl [] dn hs e h x L=L e h x) ∧
 (∀{C:Hd} {gl:GL} {e:En} {h:aA} {x:Esc} {L:En→aA→Esc→Prop} {q:List DOp} {dn:YB} {hs:List aA} {d:Option Nat} {o:AO} {rd a b:List Nat} {f:Bool},jD C gl (⟨⟨d,none,o⟩,rd,f,a,b⟩::q) dn hs e h x L=opE C o (Opd.ev gl (GA (some rd) e)) h fun v h' y=>
  BF o.still f h h' y (nD C gl ⟨d,none,o⟩ (GA (some rd) e) v hs (kD C gl h' dn (jD C gl q (dn++[(⟨d,none,o⟩,GA (some rd) e,v)]) (hs++[h]) (put d v e) h' (y++x) L) b) a)) ∧
 (∀{C:Hd} {gl:GL} {e:En} {h:aA} {x:Esc} {L:En→aA→Esc→Prop} {q:List DOp} {dn:YB} {hs:List aA} {d:Option Nat} {t:Nat} {g:Bool} {o:AO} {rd a b:List Nat} {f:Bool},jD C gl (⟨⟨d,some (t,g),o⟩,rd,f,a,b⟩::q) dn hs e h x L=gO (opE C) (bA (GA (some rd) e) t) g o (Opd.ev gl (GA (some rd) e)) h fun v h' y=>
  BF o.still f h h' y (nD C gl ⟨d,some (t,g),o⟩ (GA (some rd) e) v hs (kD C gl h' dn (jD C gl q (dn++[(⟨d,some (t,g),o⟩,GA (some rd) e,v)]) (hs++[h]) (put d v e) h' (y++x) L) b) a)) ∧
 (∀{h':aA} {h:aA} {y:Esc} {Q:Prop} {b:Bool},BF b true h h' y Q=Q) ∧
 (∀{h':aA} {h:aA} {y:Esc} {Q:Prop},BF true false h h' y Q=Q) ∧
 (∀{h':aA} {h:aA} {y:Esc} {Q:Prop},BF false false h h' y Q=((h'=h∧y=[])∧Q)) ∧
 (∀{C:Hd} {gl:GL} {h:aA} {dn:YB} {Q:Prop},kD C gl h dn Q []=Q) ∧
 (∀{C:Hd} {gl:GL} {h:aA} {dn:YB} {Q:Prop} {j:Nat} {l:List Nat},kD C gl h dn Q (j::l)=((match dn[j]? with|some q=>eH C gl q h|none=>False)∧kD C gl h dn Q l)) ∧
 (∀{C:Hd} {gl:GL} {e:En} {hs:List aA} {Q:Prop} {o:AOp} {v:AV},nD C gl o e v hs Q []=Q) ∧
 (∀{C:Hd} {gl:GL} {e:En} {hs:List aA} {Q:Prop} {o:AOp} {v:AV} {j:Nat} {l:List Nat},nD C gl o e v hs Q (j::l)=((match hs[j]? with|some g=>eH C gl (o,e,v) g|none=>False)∧nD C gl o e v hs Q l)) ∧
 (∀{C:Hd} {gl:GL} {e:En} {d:Option Nat} {o:AO} {v:AV} {g:aA},eH C gl (⟨d,none,o⟩,e,v) g=opE C o (Opd.ev gl e) g fun v1 h1 x1=>v1=v∧h1=g∧x1=[]) ∧
 (∀{C:Hd} {gl:GL} {e:En} {d:Option Nat} {t:Nat} {b:Bool} {o:AO} {v:AV} {g:aA},eH C gl (⟨d,some (t,b),o⟩,e,v) g=gO (opE C) (bA e t) b o (Opd.ev gl e) g fun v1 h1 x1=>v1=v∧h1=g∧x1=[]) ∧
 (∀{e:En} {d:Nat} {v:AV},put (some d) v e=(d,v)::e) ∧
 (∀{e:En} {v:AV},put none v e=e) ∧
 (∀{e:En} {n:Nat} {l:List Nat},GA (some (n::l)) e=(n,bA e n)::GA (some l) e) ∧
 (∀{e:En},GA (some []) e=[]) ∧
 (∀{e:En} {n m:Nat} {v:AV},bA ((n,v)::e) m=match Nat.beq n m with|true=>v|false=>bA e m) ∧
 (∀{gl:GL} {e:En} {n:Nat},Opd.ev gl e (.t n)=bA e n) ∧
 (∀{gl:GL} {e:En} {v:AV},Opd.ev gl e (.c v)=v) ∧
 (∀{gl:GL} {e:En} {n:Nat},Opd.ev gl e (.f n) = .fn n []) ∧
 (∀{gl:GL} {e:En} {n:Nat},Opd.ev gl e (.g n)=gv gl n) ∧
 (∀{n:Nat},(OfNat.ofNat n:Opd) = .t n) ∧
 (∀{C:Hd} {h:aA} {k:AV→aA→Esc→Prop} {ev:Opd→AV} {a:Opd},opC C (.mnext none [a]) ev h k=nxK (ev a) h k) ∧
 (∀{C:Hd} {h:aA} {k:AV→aA→Esc→Prop} {ev:Opd→AV} {sh:Sh} {l:List Opd},opC C (.mnext (some sh) l) ev h k=nqK (some sh) (ev1 ev l) h k) ∧
 (∀{C:Hd} {h:aA} {k:AV→aA→Esc→Prop} {ev:Opd→AV} {f:Nat} {a:List Opd},opC C (.call f a) ev h k=C f (ev1 ev a) h k) ∧
 (∀{C:Hd} {h:aA} {k:AV→aA→Esc→Prop} {ev:Opd→AV} {f:Opd} {a:List Opd},opC C (.callv f a) ev h k=vF C (ev f) (ev1 ev a) h k) ∧
 (∀{C:Hd} {h:aA} {k:AV→aA→Esc→Prop} {ev:Opd→AV} {f:Nat} {a:List Opd},opE C (.call f a) ev h k=AD C f (ev1 ev a) h k) ∧
 (∀{C:Hd} {h:aA} {k:AV→aA→Esc→Prop} {ev:Opd→AV} {f:Opd} {a:List Opd},opE C (.callv f a) ev h k=YJ C (ev f) (ev1 ev a) h k) ∧
 (∀{ev:Opd→AV},ev1 ev []=[]) ∧
 (∀{ev:Opd→AV} {a:Opd} {l:List Opd},ev1 ev (a::l)=ev a::ev1 ev l) ∧
 (∀{ev:Opd→AV},ev2 ev []=[]) ∧
 (∀{ev:Opd→AV} {n:Nat} {a:Opd} {l:List (Nat×Opd)},ev2 ev ((n,a)::l)=(n,ev a)::ev2 ev l) ∧
 (∀{ev:Opd→AV},ev3 ev []=[]) ∧
 (∀{ev:Opd→AV} {n m:Nat} {a:Opd} {l:List (Nat×Nat×Opd)},ev3 ev ((n,m,a)::l)=(n,m,ev a)::ev3 ev l) ∧
 (∀{ev:Opd→AV},evO ev none=none) ∧
 (∀{ev:Opd→AV} {a:Opd},evO ev (some a)=some (ev a)):=
 ⟨(by intros;rfl),(by intros;rfl),(by intros;rfl),(by intros;rfl),(by intros;rfl),(by intros;rfl),(by intros;rfl),(by intros;rfl),(by intros;rfl),(by intros;rfl),(by intros;rfl),(by intros;rfl),(by intros;rfl),(by intros;rfl),(by intros;rfl),(by intros;rfl),(by intros;rfl),(by intros;rfl),(by intros;rfl),(by intros;rfl),(by intros;rfl),(by intros;rfl),(by intros;rfl),(by intros;rfl),(by intros;rfl),(by intros;rfl),(by intros;rfl),(by intros;rfl),(by intros;rfl),(by intros;rfl),(by intros;rfl),(by intros;rfl),(by intros;rfl),(by intro e n m v;exact agetB),(by intros;rfl),(by intros;rfl),(by intros;rfl),(by intros;rfl),(by intros;rfl),(by intros;rfl),(by intros;rfl),(by intros;rfl),(by intros;rfl),(by intros;rfl),(by intros;rfl),(by intros;rfl),(by intros;rfl),(by intros;rfl),(by intros;rfl),(by intros;rfl),(by intros;rfl),(by intros;rfl),(by intros;rfl)⟩
abbrev OpW (G:AO→(Opd→AV)→aA→(AV→aA→Esc→Prop)→Prop):Prop:=∀{ev:Opd→AV} {h:aA} {k:AV→aA→Esc→Prop},
 (∀{x},G (.mv x) ev h k=k (ev x) h [])∧(∀{c a b},G (.pick c a b) ev h k=pK (RF (ev c) (ev a) (ev b)) fun v=>k v h [])∧(∀{z},G (.alloc z) ev h k=alK z h k) ∧
 (∀{x},G (.box x) ev h k=wK (QF (ev x) h) k)∧(∀{z ps},G (.build z ps) ev h k=pK (nI z (ev3 ev ps)) fun v=>k v h [])∧(∀{o sh n z ps},G (.bsl o sh n z ps) ev h k=wK (iF o sh n z (ev2 ev ps) h) k) ∧
 (∀{sh a},G (.load sh a) ev h k=pK (IA sh (ev a) h) fun v=>k v h [])∧(∀{sh a x},G (.store sh a x) ev h k=wK (NC sh (ev a) (ev x) h) k)∧(∀{x},G (.nilchk x) ev h k=pK (XL (ev x)) fun v=>k v h []) ∧
 (∀{o x y},G (.bin o x y) ev h k=pK (sA o (ev x) (ev y)) fun v=>k v h [])∧(∀{l n x y},G (.eqa l n x y) ev h k=pK (XG l n (ev x) (ev y)) fun v=>k v h [])∧(∀{n b x},G (.isnil n b x) ev h k=pK (RL n b (ev x)) fun v=>k v h []) ∧
 (∀{x},G (.mkif x) ev h k=pK (OO (ev x)) fun v=>k v h [])∧(∀{o x},G (.un o x) ev h k=pK (oUn o (ev x)) fun v=>k v h [])∧(∀{c x},G (.conv (.i c) x) ev h k=pK (NL c (ev x)) fun v=>k v h []) ∧
 (∀{f l},G (.mkfn f l) ev h k=k (.fn f (ev1 ev l)) h [])∧(∀{sh x a b c},G (.slice sh x a b c) ev h k=pK (cE sh (ev x) (evO ev a) (evO ev b) (evO ev c) h) fun v=>k v h [])∧(∀{x a b},G (.slstr x a b) ev h k=pK (YL (ev x) (evO ev a) (evO ev b)) fun v=>k v h []) ∧
 (∀{sh z a b},G (.mksl sh z a b) ev h k=wK (PO sh z (ev a) (ev b) h) k)∧(∀{o sh x},G (.faddr o sh x) ev h k=pK (VA o sh (ev x)) fun v=>k v h [])∧(∀{o sh x},G (.field o sh x) ev h k=pK (LO o sh (ev x)) fun v=>k v h []) ∧
 (∀{sh x i},G (.iaddr sh x i) ev h k=pK (tB sh (ev x) (ev i) h) fun v=>k v h [])∧(∀{n sh x i},G (.iaddra n sh x i) ev h k=pK (PL n sh (ev x) (ev i)) fun v=>k v h [])∧(∀{n sh x i},G (.idxa n sh x i) ev h k=pK (QL n sh (ev x) (ev i)) fun v=>k v h []) ∧
 (∀{x i},G (.idxs x i) ev h k=pK (oI (ev x) (ev i)) fun v=>k v h [])∧(∀{x i},G (.ext x i) ev h k=pK (OL (ev x) i) fun v=>k v h [])∧(∀{x},G (.len x) ev h k=pK (VB (ev x)) fun v=>k v h [])∧(∀{x},G (.lens x) ev h k=pK (TL (ev x)) fun v=>k v h []) ∧
 (∀{sh a x},G (.app sh a x) ev h k=wK (ML sh (ev a) (ev x) h) k)∧(∀{sh a x},G (.copy sh a x) ev h k=wK (JO sh (ev a) (ev x) h) k)∧(∀{m t l},G (.uns m t l) ev h k=wK (jG m t (ev1 ev l) h) k)∧(∀{sh z x},G (.clr sh z x) ev h k=wK (oClr sh z (ev x) h) k) ∧
 (∀{l},G (.mx l) ev h k=pK (oMx (ev1 ev l)) fun v=>k v h [])∧(∀{l},G (.mn l) ev h k=pK (oMn (ev1 ev l)) fun v=>k v h [])∧(∀{sh},G (.new0 sh) ev h k=nwK sh h k)∧(∀{x},G (.conv .s2b x) ev h k=wK (pD .s2b (ev x) h) k)∧(∀{x},G (.conv .b2s x) ev h k=wK (pD .b2s (ev x) h) k) ∧
 (∀{x},G (.conv .r2s x) ev h k=wK (pD .r2s (ev x) h) k)∧(∀{x},G (.conv .same x) ev h k=wK (pD .same (ev x) h) k)∧(G .mkmap ev h k=mmK h k)∧(∀{n o z x y},G (.look n o z x y) ev h k=pK (pI n o z (ev x) (ev y) h) fun v=>k v h [])∧(∀{n m y x},G (.mupd n m y x) ev h k=wK (WL n (ev m) (ev y) (ev x) h) k) ∧
 (∀{n z m y},G (.ment n z m y) ev h k=wK (NO n z (ev m) (ev y) h) k)∧(∀{m a x},G (.estore m a x) ev h k=wK (KO (ev m) (ev a) (ev x) h) k)∧(∀{n m y},G (.mdel n m y) ev h k=wK (MO n (ev m) (ev y) h) k)∧(∀{x},G (.lenm x) ev h k=pK (SL (ev x) h) fun v=>k v h []) ∧
 (∀{x},G (.mrange x) ev h k=wK (VL (ev x) h) k)∧(∀{i},G (.mentry i) ev h k=wK (UL (ev i) h) k)
theorem w_op:∀ G,(G=opC C∨G=opE C)→OpW G:=by
 rintro G (rfl|rfl) <;> refine fun {_ _ _}=>⟨?_,?_,?_,?_,?_,?_,?_,?_,?_,?_,?_,?_,?_,?_,?_,?_,?_,?_,?_,?_,?_,?_,?_,?_,?_,?_,?_,?_,?_,?_,?_,?_,?_,?_,?_,?_,?_,?_,?_,?_,?_,?_,?_,?_,?_,?_,?_,?_⟩ <;> intros <;> rfl
theorem w_oc:OpW (opC C):=w_op _ (.inl rfl)
theorem w_oe:OpW (opE C):=w_op _ (.inr rfl)
abbrev OpG (G:AO→(Opd→AV)→aA→(AV→aA→Esc→Prop)→Prop):Prop:=∀{t:AV} {g:Bool} {ev:Opd→AV} {h:aA} {k:AV→aA→Esc→Prop},
 (∀{x},gO G t g (.mv x) ev h k=gM t g (ev x) h k) ∧
 (∀{c a b},gO G t g (.pick c a b) ev h k=gP t g (RF (ev c) (ev a) (ev b)) h k) ∧
 (∀{z},gO G t g (.alloc z) ev h k=gV t g h (fun k=>alK z h k) k) ∧
 (∀{x},gO G t g (.box x) ev h k=gV t g h (fun k=>wK (QF (ev x) h) k) k) ∧
 (∀{z ps},gO G t g (.build z ps) ev h k=gP t g (nI z (ev3 ev ps)) h k) ∧
 (∀{o sh n z ps},gO G t g (.bsl o sh n z ps) ev h k=gV t g h (fun k=>wK (iF o sh n z (ev2 ev ps) h) k) k) ∧
 (∀{sh a},gO G t g (.load sh a) ev h k=gP t g (IA sh (ev a) h) h k) ∧
 (∀{sh a x},gO G t g (.store sh a x) ev h k=gV t g h (fun k=>wK (NC sh (ev a) (ev x) h) k) k) ∧
 (∀{x},gO G t g (.nilchk x) ev h k=gP t g (XL (ev x)) h k) ∧
 (∀{o x y},gO G t g (.bin o x y) ev h k=gP t g (sA o (ev x) (ev y)) h k) ∧
 (∀{l n x y},gO G t g (.eqa l n x y) ev h k=gP t g (XG l n (ev x) (ev y)) h k) ∧
 (∀{n b x},gO G t g (.isnil n b x) ev h k=gP t g (RL n b (ev x)) h k) ∧
 (∀{x},gO G t g (.mkif x) ev h k=gP t g (OO (ev x)) h k) ∧
 (∀{o x},gO G t g (.un o x) ev h k=gP t g (oUn o (ev x)) h k) ∧
 (∀{c x},gO G t g (.conv (.i c) x) ev h k=gP t g (NL c (ev x)) h k) ∧
 (∀{f l},gO G t g (.mkfn f l) ev h k=gM t g (.fn f (ev1 ev l)) h k) ∧
 (∀{sh x a b c},gO G t g (.slice sh x a b c) ev h k=gP t g (cE sh (ev x) (evO ev a) (evO ev b) (evO ev c) h) h k) ∧
 (∀{x a b},gO G t g (.slstr x a b) ev h k=gP t g (YL (ev x) (evO ev a) (evO ev b)) h k) ∧
 (∀{sh z a b},gO G t g (.mksl sh z a b) ev h k=gV t g h (fun k=>wK (PO sh z (ev a) (ev b) h) k) k) ∧
 (∀{o sh x},gO G t g (.faddr o sh x) ev h k=gP t g (VA o sh (ev x)) h k) ∧
 (∀{o sh x},gO G t g (.field o sh x) ev h k=gP t g (LO o sh (ev x)) h k) ∧
 (∀{sh x i},gO G t g (.iaddr sh x i) ev h k=gP t g (tB sh (ev x) (ev i) h) h k) ∧
 (∀{n sh x i},gO G t g (.iaddra n sh x i) ev h k=gP t g (PL n sh (ev x) (ev i)) h k) ∧
 (∀{n sh x i},gO G t g (.idxa n sh x i) ev h k=gP t g (QL n sh (ev x) (ev i)) h k) ∧
 (∀{x i},gO G t g (.idxs x i) ev h k=gP t g (oI (ev x) (ev i)) h k) ∧
 (∀{x i},gO G t g (.ext x i) ev h k=gP t g (OL (ev x) i) h k) ∧
 (∀{x},gO G t g (.len x) ev h k=gP t g (VB (ev x)) h k) ∧
 (∀{x},gO G t g (.lens x) ev h k=gP t g (TL (ev x)) h k) ∧
 (∀{sh a x},gO G t g (.app sh a x) ev h k=gV t g h (fun k=>wK (ML sh (ev a) (ev x) h) k) k) ∧
 (∀{sh a x},gO G t g (.copy sh a x) ev h k=gV t g h (fun k=>wK (JO sh (ev a) (ev x) h) k) k) ∧
 (∀{m t2 l},gO G t g (.uns m t2 l) ev h k=gV t g h (fun k=>wK (jG m t2 (ev1 ev l) h) k) k) ∧
 (∀{sh z x},gO G t g (.clr sh z x) ev h k=gV t g h (fun k=>wK (oClr sh z (ev x) h) k) k) ∧
 (∀{l},gO G t g (.mx l) ev h k=gP t g (oMx (ev1 ev l)) h k) ∧
 (∀{l},gO G t g (.mn l) ev h k=gP t g (oMn (ev1 ev l)) h k) ∧
 (∀{sh},gO G t g (.new0 sh) ev h k=gV t g h (fun k=>nwK sh h k) k) ∧
 (∀{x},gO G t g (.conv .s2b x) ev h k=gV t g h (fun k=>wK (pD .s2b (ev x) h) k) k) ∧
 (∀{x},gO G t g (.conv .b2s x) ev h k=gV t g h (fun k=>wK (pD .b2s (ev x) h) k) k) ∧
 (∀{x},gO G t g (.conv .r2s x) ev h k=gV t g h (fun k=>wK (pD .r2s (ev x) h) k) k) ∧
 (∀{x},gO G t g (.conv .same x) ev h k=gV t g h (fun k=>wK (pD .same (ev x) h) k) k) ∧
 (gO G t g .mkmap ev h k=gV t g h (fun k=>mmK h k) k) ∧
 (∀{n o z x y},gO G t g (.look n o z x y) ev h k=gP t g (pI n o z (ev x) (ev y) h) h k) ∧
 (∀{n m y x},gO G t g (.mupd n m y x) ev h k=gV t g h (fun k=>wK (WL n (ev m) (ev y) (ev x) h) k) k) ∧
 (∀{n z m y},gO G t g (.ment n z m y) ev h k=gV t g h (fun k=>wK (NO n z (ev m) (ev y) h) k) k) ∧
 (∀{m a x},gO G t g (.estore m a x) ev h k=gV t g h (fun k=>wK (KO (ev m) (ev a) (ev x) h) k) k) ∧
 (∀{n m y},gO G t g (.mdel n m y) ev h k=gV t g h (fun k=>wK (MO n (ev m) (ev y) h) k) k) ∧
 (∀{x},gO G t g (.lenm x) ev h k=gP t g (SL (ev x) h) h k) ∧
 (∀{x},gO G t g (.mrange x) ev h k=gV t g h (fun k=>wK (VL (ev x) h) k) k) ∧
 (∀{i},gO G t g (.mentry i) ev h k=gV t g h (fun k=>wK (UL (ev i) h) k) k)
theorem w_og:∀ G,(G=opC C∨G=opE C)→OpG G:=by
 rintro G (rfl|rfl) <;> refine fun {_ _ _ _ _}=>⟨?_,?_,?_,?_,?_,?_,?_,?_,?_,?_,?_,?_,?_,?_,?_,?_,?_,?_,?_,?_,?_,?_,?_,?_,?_,?_,?_,?_,?_,?_,?_,?_,?_,?_,?_,?_,?_,?_,?_,?_,?_,?_,?_,?_,?_,?_,?_,?_⟩ <;> intros <;> rfl
theorem w_gc:OpG (opC C):=w_og _ (.inl rfl)
theorem w_ge:OpG (opE C):=w_og _ (.inr rfl)
theorem wG:(∀ {C:Hd} {t:AV} {g:Bool} {f:Nat} {a:List Opd} {ev:Opd→AV} {h:aA} {k:AV→aA→Esc→Prop},gO (opC C) t g (.call f a) ev h k=gV t g h (C f (ev1 ev a) h) k)∧(∀ {C:Hd} {t:AV} {g:Bool} {f:Opd} {a:List Opd} {ev:Opd→AV} {h:aA} {k:AV→aA→Esc→Prop},gO (opC C) t g (.callv f a) ev h k=gV t g h (vF C (ev f) (ev1 ev a) h) k) ∧
 (∀{C:Hd} {t:AV} {g:Bool} {f:Nat} {a:List Opd} {ev:Opd→AV} {h:aA} {k:AV→aA→Esc→Prop},gO (opE C) t g (.call f a) ev h k=gV t g h (AD C f (ev1 ev a) h) k)∧(∀{C:Hd} {t:AV} {g:Bool} {f:Opd} {a:List Opd} {ev:Opd→AV} {h:aA} {k:AV→aA→Esc→Prop},gO (opE C) t g (.callv f a) ev h k=gV t g h (YJ C (ev f) (ev1 ev a) h) k):=⟨rfl,rfl,rfl,rfl⟩
theorem wB:(∀ {α:Type} {l:List α},[]++l=l)∧(∀ {α:Type} {a:α} {l m:List α},a::l++m=a::(l++m))∧(∀ {α:Type} {a:α} {l:List α},(a::l)[0]?=some a)∧(∀ {α:Type} {a:α} {l:List α} {i:Nat},(a::l)[i+1]?=l[i]?) ∧
 (∀{C:Hd} {gl:GL} {b:ACode} {K:KT} {s:St},iE C gl b K .normal s=NW C gl b s K)∧(∀{C:Hd} {gl:GL} {b:ACode} {K:KT} {s:St} {i:Nat},iE C gl b K (.exit i) s=K (.exit i) s)∧(∀{C:Hd} {gl:GL} {b:ACode} {K:KT} {s:St},iE C gl b K .ret s=K .ret s) ∧
 (∀{i:Nat} {K:KT} {s:St},tC i K .normal s=K .normal s)∧(∀{i j:Nat} {K:KT} {s:St},tC i K (.exit j) s=match Nat.beq j i with|true=>K .normal s|false=>K (.exit j) s)∧(∀{i:Nat} {K:KT} {s:St},tC i K .ret s=K .ret s):=
 ⟨by intros;rfl,by intros;rfl,by intros;rfl,by intros;rfl,by intros;rfl,by intros;rfl,by intros;rfl,by intros;rfl,by intro i j K s;show(bif Nat.beq j i then _ else _)=_;cases Nat.beq j i <;> rfl,by intros;rfl⟩
theorem wS:(∀ {n:Int},cI n = .c (.p (.int .i64 n)))∧(cT = .c (.p (.bool true)))∧(cF = .c (.p (.bool false)))∧(∀ {l:List UInt8},cS l = .c (.p (.str l)))∧(∀ {d:Nat} {o:AO},uO d o=⟨some d,none,o⟩)∧(∀ {o:AO},wO o=⟨none,none,o⟩)∧(∀ {d g:Nat} {b:Bool} {o:AO},gD d g b o=⟨some d,some (g,b),o⟩)∧(∀ {d:Nat} {x:Opd},mV d x=⟨some d,none,.mv x⟩) ∧
 (∀{d:Nat} {b:BinOp} {x y:Opd},bN d b x y=⟨some d,none,.bin b x y⟩)∧(∀{d f:Nat} {l:List Opd},cL d f l=⟨some d,none,.call f l⟩)∧(∀{d:Nat} {s:Sh} {x:Opd},lD d s x=⟨some d,none,.load s x⟩)∧(∀{d:Nat} {s:Sh} {x y:Opd},iA d s x y=⟨some d,none,.iaddr s x y⟩)∧(∀{d o:Nat} {s:Sh} {x:Opd},fA d o s x=⟨some d,none,.faddr o s x⟩) ∧
 (∀{d:Nat} {s:Sh} {x y:Opd},sT d s x y=⟨some d,none,.store s x y⟩)∧(∀{d:Nat} {x:Opd},lN d x=⟨some d,none,.len x⟩)∧(∀{d:Nat} {x:Opd} {i:Nat},eX d x i=⟨some d,none,.ext x i⟩)∧(∀{o:AOp} {l:List Nat},dF o l=⟨o,l,false,[],[]⟩)∧(∀{o:AOp} {l:List Nat},dT o l=⟨o,l,true,[],[]⟩)∧(∀{o:AOp} {l:List Nat} {e:Bool} {a b:List Nat},dA o l e a b=⟨o,l,e,a,b⟩) ∧
 (∀{l:List AOp} {k:List Nat},rg l k = .reg l (some k))∧(∀{l:List DOp} {k:List Nat},dr l k = .draw l (some k)):=
 ⟨rfl,rfl,rfl,rfl,rfl,rfl,rfl,rfl,rfl,rfl,rfl,rfl,rfl,rfl,rfl,rfl,rfl,rfl,rfl,rfl,rfl⟩
def wZ:=And.intro wA (And.intro wB (And.intro @w_oc (And.intro @w_oe (And.intro @w_gc (And.intro @w_ge (And.intro wG wS))))))
end Go.Am
end
section
/- The functions asv abstract code,and asv formulas over their values: printed by program out of the translation. -/
set_option linter.all false
set_option maxRecDepth 100000
namespace Go.Am
def BP:ACode:=.pr [6,7,8,9,10,11,12,13,14,15,16] (.seq (rg [mV 62 7,
mV 63 12,
bN 64 .eql 62 63,
mV 65 64,
gD 66 65 true (.mv 6),
gD 67 65 true (.mv 14),
gD 68 65 true (.call XH [66,67]),
uO 69 (.pick 65 68 cF),
mV 70 69,
gD 71 70 true (.mv 9),
gD 72 70 true (.mv 12),
gD 73 70 true (.bin .eql 71 72),
uO 74 (.pick 70 73 cF),
mV 75 74,
gD 76 75 true (.mv 8),
gD 77 75 true (.mv 16),
gD 78 75 true (.call lL [76,77]),
uO 79 (.pick 75 78 cF),
mV 80 79,
gD 81 80 true (.mv 11),
gD 82 80 true (.mv 13),
gD 83 80 true (.bin .eql 81 82),
uO 84 (.pick 80 83 cF),
mV 85 84,
gD 86 85 true (.mv 10),
gD 87 85 true (.mv 15),
gD 88 85 true (.call XH [86,87]),
uO 89 (.pick 85 88 cF),
mV 90 89,
gD 91 90 true (.call RK []),
uO 92 (.pick 90 91 cF),
mV 2 92] [2])
.ret)
def CU (C:Hd)(gl:GL)(e:En)(h:aA)(x:Esc)(K:KT):Sf C gl BP e h x K:=⟨_,by simp only[BP,↓wZ,AO.still];rfl⟩
theorem za3 {C gl e h x K}:NW C gl BP ⟨e,h,x⟩ K=(CU C gl e h x K).1:=(CU C gl e h x K).2
def OX:ACode:=(.seq (rg [mV 2 cF] [0])
(.seq (rg [mV 17 0,
uO 18 (.build [.sl0 none,.p (.int .i64 0)] [(0,1,17)]),
uO 19 (.box 18),
mV 3 19] [3])
(.seq (rg [mV 20 3,
cL 21 TK [20],
mV 4 21] [3,4])
(.seq (rg [mV 22 3,
mV 23 4,
lN 24 23,
cL 25 UK [22,24],
mV 5 25] [4,5])
(.seq (rg [mV 27 4,
mV 28 5,
cL 29 CG [27,28],
mV 26 29,
eX 30 26 0,
eX 31 26 1,
mV 6 30,
mV 7 31] [4,5,6,7])
(.seq (rg [mV 33 4,
mV 34 5,
cL 35 DG [33,34],
mV 32 35,
eX 36 32 0,
eX 37 32 1,
mV 8 36,
mV 9 37] [4,5,6,7,8,9])
(.seq (rg [mV 39 4,
mV 40 5,
cL 41 FF [39,40],
mV 38 41,
eX 42 38 0,
eX 43 38 1,
mV 10 42,
mV 11 43] [4,5,6,7,8,9,10,11])
(.seq (rg [mV 44 4,
mV 45 5,
cL 46 KG [44,45],
mV 12 46] [4,5,6,7,8,9,10,11,12])
(.seq (rg [mV 47 12,
mV 13 47] [4,5,6,7,8,9,10,11,12,13])
(.seq (rg [mV 14 (.c (.p (.sl none []))),
mV 15 (.c (.p (.sl none [])))] [4,5,6,7,8,9,10,11,12,13,14,15])
(.seq (rg [mV 16 (.c (.p (.sl none [])))] [4,5,6,7,8,9,10,11,12,13,14,15,16])
(.seq (.seq (rg [mV 48 12,
bN 49 .eql 48 (cI 0)] [4,5,6,7,8,9,10,11,12,13,14,15,16,49])
(.cond 49 (.seq (rg [mV 50 4,
mV 51 5,
cL 52 PH [50,51],
mV 53 4,
mV 54 5,
cL 55 QH [53,54],
mV 14 52,
mV 16 55] [4,5,6,7,8,9,10,11,12,14,16])
(rg [mV 57 4,
mV 58 5,
cL 59 NG [57,58],
mV 56 59,
eX 60 56 0,
eX 61 56 1,
mV 15 60,
mV 13 61] [6,7,8,9,10,11,12,13,14,15,16]))
.skip))
BP))))))))))))
def VR:AFun:=⟨1,[.t 2],OX,false,false⟩
def CH (C:Hd)(gl:GL)(e:En)(h:aA)(x:Esc)(K:KT):Sf C gl OX e h x K:=⟨_,by simp only[OX,↓wZ,AO.still];rfl⟩
theorem za2 {C gl v0 h x K}:NW C gl VR.body ⟨enter [v0],h,x⟩ K=(CH C gl [(0,v0)] h x K).1:=(CH C gl [(0,v0)] h x K).2
def JI:ACode:=.pr [0,3,4,5,11,12,14,15] (.seq (rg [bN 16 .lss 15 14] [0,3,4,5,11,12,14,15,16])
(.seq (.cond 16 .skip
(.exit 2))
(.seq (.block 3 (rg [mV 17 5,
mV 18 0,
uO 19 (.bsl false none 2 (.str []) [(0,(cS [48])),(1,(cS [49]))]),
cL 20 HF [18,19],
bN 21 .add 17 20,
mV 5 21] [0,3,4,5,11,12,14,15]))
(rg [bN 22 .add 15 (cI 1),
mV 15 22] [0,3,4,5,11,12,14,15]))))
def FU (C:Hd)(gl:GL)(e:En)(h:aA)(x:Esc)(K:KT):Sf C gl JI e h x K:=⟨_,by simp only[JI,↓wZ,AO.still];rfl⟩
theorem zaD {C gl e h x K}:NW C gl JI ⟨e,h,x⟩ K=(FU C gl e h x K).1:=(FU C gl e h x K).2
theorem zeC {C gl e h x K}:NW C gl (.loop JI) ⟨e,h,x⟩ K=CA C gl JI K [(0,bA e 0),(3,bA e 3),(4,bA e 4),(5,bA e 5),(11,bA e 11),(12,bA e 12),(14,bA e 14),(15,bA e 15)] h x:=YA
def EP:ACode:=.pr [0,3,4,5,11,12] (rg [mV 23 3,
mV 24 5,
uO 25 (.bsl false none 1 (.str []) [(0,24)]),
uO 26 (.app none 23 25),
mV 3 26] [0,3,4,11,12])
def GU (C:Hd)(gl:GL)(e:En)(h:aA)(x:Esc)(K:KT):Sf C gl EP e h x K:=⟨_,by simp only[EP,↓wZ,AO.still];rfl⟩
theorem zaE {C gl e h x K}:NW C gl EP ⟨e,h,x⟩ K=(GU C gl e h x K).1:=(GU C gl e h x K).2
def FP:ACode:=.pr [0,3,4,11,12] (rg [bN 27 .add 12 (cI 1),
mV 12 27] [0,3,4,11,12])
def HU (C:Hd)(gl:GL)(e:En)(h:aA)(x:Esc)(K:KT):Sf C gl FP e h x K:=⟨_,by simp only[FP,↓wZ,AO.still];rfl⟩
theorem zaF {C gl e h x K}:NW C gl FP ⟨e,h,x⟩ K=(HU C gl e h x K).1:=(HU C gl e h x K).2
def KI:ACode:=.pr [0,3,4,11,12] (.seq (rg [bN 13 .lss 12 11] [0,3,4,11,12,13])
(.seq (.cond 13 .skip
(.exit 0))
(.seq (.block 1 (.seq (rg [mV 5 (cS [])] [0,3,4,5,11,12])
(.seq (.seq (rg [mV 14 4,
mV 15 (cI 0)] [0,3,4,5,11,12,14,15])
(.block 2 (.loop JI)))
EP)))
FP)))
def IU (C:Hd)(gl:GL)(e:En)(h:aA)(x:Esc)(K:KT):Sf C gl KI e h x K:=⟨_,by simp only[KI,↓wZ,AO.still];rfl⟩
theorem zaG {C gl e h x K}:NW C gl KI ⟨e,h,x⟩ K=(IU C gl e h x K).1:=(IU C gl e h x K).2
theorem zeD {C gl e h x K}:NW C gl (.loop (.scope KI)) ⟨e,h,x⟩ K=CA C gl (.scope KI) K [(0,bA e 0),(3,bA e 3),(4,bA e 4),(11,bA e 11),(12,bA e 12)] h x:=FB
def LI:ACode:=.pr [0,3,50,51] (.seq (rg [bN 52 .lss 51 50] [0,3,50,51,52])
(.seq (.cond 52 .skip
(.exit 5))
(.seq (.block 6 (.seq (rg [mV 53 51,
mV 6 53] [0,3,6,50,51])
(rg [mV 54 3,
mV 55 6,
mV 56 0,
uO 57 (.bsl false none 3 (.str []) [(0,(cS [48])),(1,(cS [49])),(2,(cS [48,49]))]),
cL 58 HF [56,57],
mV 59 0,
cL 60 JC [59,(cI 0),(cI 1)],
bN 61 .add (cI 32) 60,
cL 62 uL [58,61],
mV 63 0,
cL 64 JC [63,(cI 0),(cI 32)],
cL 65 uL [(cS [49]),64],
bN 66 .add 62 65,
iA 67 none 54 55,
wO (.store none 67 66)] [0,3,50,51])))
(rg [bN 68 .add 51 (cI 1),
mV 51 68] [0,3,50,51]))))
def JU (C:Hd)(gl:GL)(e:En)(h:aA)(x:Esc)(K:KT):Sf C gl LI e h x K:=⟨_,by simp only[LI,↓wZ,AO.still];rfl⟩
theorem zaH {C gl e h x K}:NW C gl LI ⟨e,h,x⟩ K=(JU C gl e h x K).1:=(JU C gl e h x K).2
theorem zeE {C gl e h x K}:NW C gl (.loop LI) ⟨e,h,x⟩ K=CA C gl LI K [(0,bA e 0),(3,bA e 3),(50,bA e 50),(51,bA e 51)] h x:=YA
def GP:ACode:=.pr [3] (.seq (rg [mV 69 3,
mV 2 69] [2])
.ret)
def KU (C:Hd)(gl:GL)(e:En)(h:aA)(x:Esc)(K:KT):Sf C gl GP e h x K:=⟨_,by simp only[GP,↓wZ,AO.still];rfl⟩
theorem zaI {C gl e h x K}:NW C gl GP ⟨e,h,x⟩ K=(KU C gl e h x K).1:=(KU C gl e h x K).2
def HP:ACode:=.pr [0,3] (.seq (.block 4 (.seq (rg [mV 29 0,
cL 30 CD [29,(cI 20)],
mV 28 30] [0,3,28])
(.cond 28 (dr [dF (mV 31 3) [3],
dF (mV 32 0) [0],
dF (mV 33 3) [3],
dF (lN 34 33) [33],
dT (cL 35 XC [32,34]) [32,34],
dF (iA 36 none 31 35) [31,35],
dF (lD 37 none 36) [36],
dF (mV 38 0) [0],
dA (uO 39 (.bsl false none 2 (.str []) [(0,(cS [48])),(1,(cS [120]))])) [] false [4] [],
dA (cL 40 HF [38,39]) [38,39] true [] [5,6],
dF (bN 41 .add 37 40) [37,40],
dF (iA 42 none 31 35) [31,35],
dT (wO (.store none 42 41)) [42,41]] [3])
(.seq (rg [mV 44 0,
cL 45 CD [44,(cI 40)],
mV 43 45] [0,3,43])
(.cond 43 (.seq (rg [mV 2 (.c (.p (.sl none [])))] [2])
.ret)
(.seq (rg [mV 47 0,
cL 48 CD [47,(cI 40)],
mV 46 48] [0,3,46])
(.cond 46 (.seq (rg [mV 49 3,
lN 50 49,
mV 51 (cI 0)] [0,3,50,51])
(.block 5 (.loop LI)))
.skip)))))))
GP)
def LU (C:Hd)(gl:GL)(e:En)(h:aA)(x:Esc)(K:KT):Sf C gl HP e h x K:=⟨_,by simp only[HP,↓wZ,AO.still];rfl⟩
theorem zaJ {C gl e h x K}:NW C gl HP ⟨e,h,x⟩ K=(LU C gl e h x K).1:=(LU C gl e h x K).2
def TX:ACode:=(.seq (rg [mV 2 (.c (.p (.sl none [])))] [0])
(.seq (rg [uO 3 (.new0 none)] [0,3])
(.seq (rg [mV 7 0,
uO 8 (.bsl false none 6 (.int .i64 0) [(0,(cI 0)),(1,(cI 1)),(2,(cI 2)),(3,(cI 3)),(4,(cI 4)),(5,(cI 5))]),
cL 9 DD [7,8],
mV 4 9] [0,3,4])
(.seq (.seq (rg [mV 10 0,
cL 11 JC [10,(cI 1),(cI 5)],
mV 12 (cI 0)] [0,3,4,11,12])
(.block 0 (.loop (.scope KI))))
HP))))
def aS:AFun:=⟨1,[.t 2],TX,false,false⟩
def qN (C:Hd)(gl:GL)(e:En)(h:aA)(x:Esc)(K:KT):Sf C gl TX e h x K:=⟨_,by simp only[TX,↓wZ,AO.still];rfl⟩
theorem zaC {C gl v0 h x K}:NW C gl aS.body ⟨enter [v0],h,x⟩ K=(qN C gl [(0,v0)] h x K).1:=(qN C gl [(0,v0)] h x K).2
def MI:ACode:=.pr [0,1,5,8,9] (.seq (rg [bN 10 .lss 9 8] [0,1,5,8,9,10])
(.seq (.cond 10 .skip
(.exit 0))
(.seq (.block 1 (.seq (rg [mV 11 0,
mV 12 1,
cL 13 SK [11,12],
uO 6 (.alloc [.p (.int .i64 0),.sl0 none]),
wO (.store (some 2) 6 13)] [0,1,5,6,8,9])
(.seq (rg [fA 14 1 none 6,
lD 15 none 14,
cL 16 JF [15],
fA 17 1 none 6,
wO (.store none 17 16)] [0,1,5,6,8,9])
(rg [mV 18 5,
lD 19 (some 2) 6,
uO 20 (.bsl false (some 2) 1 (.agg [.int .i64 0,.sl none []]) [(0,19)]),
uO 21 (.app (some 2) 18 20),
mV 5 21] [0,1,5,8,9]))))
(rg [bN 22 .add 9 (cI 1),
mV 9 22] [0,1,5,8,9]))))
def MU (C:Hd)(gl:GL)(e:En)(h:aA)(x:Esc)(K:KT):Sf C gl MI e h x K:=⟨_,by simp only[MI,↓wZ,AO.still];rfl⟩
theorem zaL {C gl e h x K}:NW C gl MI ⟨e,h,x⟩ K=(MU C gl e h x K).1:=(MU C gl e h x K).2
theorem zeF {C gl e h x K}:NW C gl (.loop (.scope MI)) ⟨e,h,x⟩ K=CA C gl (.scope MI) K [(0,bA e 0),(1,bA e 1),(5,bA e 5),(8,bA e 8),(9,bA e 9)] h x:=FB
def IP:ACode:=.pr [5] (.seq (rg [mV 23 5,
mV 4 23] [4])
.ret)
def NU (C:Hd)(gl:GL)(e:En)(h:aA)(x:Esc)(K:KT):Sf C gl IP e h x K:=⟨_,by simp only[IP,↓wZ,AO.still];rfl⟩
theorem zaM {C gl e h x K}:NW C gl IP ⟨e,h,x⟩ K=(NU C gl e h x K).1:=(NU C gl e h x K).2
def UX:ACode:=(.seq (rg [mV 4 (.c (.p (.sl (some 2) [])))] [0,1])
(.seq (rg [uO 5 (.new0 (some 2))] [0,1,5])
(.seq (.seq (rg [mV 7 0,
cL 8 JC [7,(cI 0),(cI 6)],
mV 9 (cI 0)] [0,1,5,8,9])
(.block 0 (.loop (.scope MI))))
IP)))
def bS:AFun:=⟨2,[.t 4],UX,false,true⟩
def rN (C:Hd)(gl:GL)(e:En)(h:aA)(x:Esc)(K:KT):Sf C gl UX e h x K:=⟨_,by simp only[UX,↓wZ,AO.still];rfl⟩
theorem zaK {C gl v0 v1 h x K}:NW C gl bS.body ⟨enter [v0,v1],h,x⟩ K=(rN C gl [(0,v0),(1,v1)] h x K).1:=(rN C gl [(0,v0),(1,v1)] h x K).2
def XO:ACode:=.pr [0,7,20,21,22] (rg [bN 32 .add 22 (cI 1),
mV 22 32] [0,7,20,21,22])
def JT (C:Hd)(gl:GL)(e:En)(h:aA)(x:Esc)(K:KT):Sf C gl XO e h x K:=⟨_,by simp only[XO,↓wZ,AO.still];rfl⟩
theorem z90 {C gl e h x K}:NW C gl XO ⟨e,h,x⟩ K=(JT C gl e h x K).1:=(JT C gl e h x K).2
def uI:ACode:=.pr [0,7,20,21,22] (.seq (rg [bN 23 .lss 22 21] [0,7,20,21,22,23])
(.seq (.cond 23 .skip
(.exit 0))
(.seq (.block 1 (.seq (rg [iA 24 none 20 22,
lD 25 none 24,
mV 9 25] [0,7,9,20,21,22])
(.seq (rg [mV 26 9,
cL 27 JG [26],
bN 28 .eql 27 (cI 1)] [0,7,9,20,21,22,28])
(.cond 28 (rg [mV 29 7,
mV 30 9,
bN 31 .or 29 30,
mV 7 31] [0,7,20,21,22])
.skip))))
XO)))
def LT (C:Hd)(gl:GL)(e:En)(h:aA)(x:Esc)(K:KT):Sf C gl uI e h x K:=⟨_,by simp only[uI,↓wZ,AO.still];rfl⟩
theorem z91 {C gl e h x K}:NW C gl uI ⟨e,h,x⟩ K=(LT C gl e h x K).1:=(LT C gl e h x K).2
theorem zev {C gl e h x K}:NW C gl (.loop uI) ⟨e,h,x⟩ K=CA C gl uI K [(0,bA e 0),(7,bA e 7),(20,bA e 20),(21,bA e 21),(22,bA e 22)] h x:=YA
def YO:ACode:=.pr [7,10,36,37] (rg [bN 49 .add 37 (cI 1),
mV 37 49] [7,10,36,37])
def MT (C:Hd)(gl:GL)(e:En)(h:aA)(x:Esc)(K:KT):Sf C gl YO e h x K:=⟨_,by simp only[YO,↓wZ,AO.still];rfl⟩
theorem z92 {C gl e h x K}:NW C gl YO ⟨e,h,x⟩ K=(MT C gl e h x K).1:=(MT C gl e h x K).2
def vI:ACode:=.pr [7,10,36,37] (.seq (rg [bN 38 .lss 37 36] [7,10,36,37,38])
(.seq (.cond 38 .skip
(.exit 2))
(.seq (.block 3 (.seq (rg [mV 39 37,
mV 11 39] [7,10,11,36,37])
(.seq (rg [mV 40 7,
mV 41 11,
bN 42 .shr 40 41,
bN 43 .and 42 (.c (.p (.int .u64 1))),
bN 44 .eql 43 (.c (.p (.int .u64 1)))] [7,10,11,36,37,44])
(.cond 44 (rg [mV 45 10,
mV 46 11,
uO 47 (.bsl false none 1 (.int .i64 0) [(0,46)]),
uO 48 (.app none 45 47),
mV 10 48] [7,10,36,37])
.skip))))
YO)))
def NT (C:Hd)(gl:GL)(e:En)(h:aA)(x:Esc)(K:KT):Sf C gl vI e h x K:=⟨_,by simp only[vI,↓wZ,AO.still];rfl⟩
theorem z93 {C gl e h x K}:NW C gl vI ⟨e,h,x⟩ K=(NT C gl e h x K).1:=(NT C gl e h x K).2
theorem zew {C gl e h x K}:NW C gl (.loop (.scope vI)) ⟨e,h,x⟩ K=CA C gl (.scope vI) K [(7,bA e 7),(10,bA e 10),(36,bA e 36),(37,bA e 37)] h x:=FB
def ZO:ACode:=.pr [10] (.seq (rg [mV 50 10,
mV 4 50,
mV 5 (cI 0)] [4,5])
.ret)
def OT (C:Hd)(gl:GL)(e:En)(h:aA)(x:Esc)(K:KT):Sf C gl ZO e h x K:=⟨_,by simp only[ZO,↓wZ,AO.still];rfl⟩
theorem z94 {C gl e h x K}:NW C gl ZO ⟨e,h,x⟩ K=(OT C gl e h x K).1:=(OT C gl e h x K).2
def aP:ACode:=.pr [0,7] (.seq (rg [uO 10 (.new0 none)] [0,7,10])
(.seq (.seq (rg [mV 33 0,
iA 34 none 33 (cI 0),
lD 35 none 34,
uO 36 (.lens 35),
mV 37 (cI 0)] [7,10,36,37])
(.block 2 (.loop (.scope vI))))
ZO))
def PT (C:Hd)(gl:GL)(e:En)(h:aA)(x:Esc)(K:KT):Sf C gl aP e h x K:=⟨_,by simp only[aP,↓wZ,AO.still];rfl⟩
theorem z95 {C gl e h x K}:NW C gl aP ⟨e,h,x⟩ K=(PT C gl e h x K).1:=(PT C gl e h x K).2
def uX:ACode:=(.seq (rg [mV 4 (.c (.p (.sl none []))),
mV 5 (cI 0)] [0,1])
(.seq (.seq (rg [mV 12 0,
mV 13 1,
cL 14 FG [12,13],
mV 6 14] [0,1,6])
(.seq (rg [mV 15 6,
bN 16 .neq 15 (cI 0)] [0,1,6,16])
(.cond 16 (.seq (rg [mV 17 6,
mV 4 (.c (.p (.sl none []))),
mV 5 17] [4,5])
.ret)
.skip)))
(.seq (rg [mV 7 (.c (.p (.int .u64 0)))] [0,1,7])
(.seq (.seq (rg [mV 18 0,
mV 19 1,
cL 20 GG [18,19],
lN 21 20,
mV 22 (cI 0)] [0,7,20,21,22])
(.block 0 (.loop uI)))
aP))))
def DR:AFun:=⟨2,[.t 4,.t 5],uX,false,false⟩
def lK (C:Hd)(gl:GL)(e:En)(h:aA)(x:Esc)(K:KT):Sf C gl uX e h x K:=⟨_,by simp only[uX,↓wZ,AO.still];rfl⟩
theorem z9z {C gl v0 v1 h x K}:NW C gl DR.body ⟨enter [v0,v1],h,x⟩ K=(lK C gl [(0,v0),(1,v1)] h x K).1:=(lK C gl [(0,v0),(1,v1)] h x K).2
def bP:ACode:=.pr [0,7,8,9] (rg [mV 37 9,
bN 38 .sub 37 (cI 1),
mV 9 38] [0,7,8,9])
def QT (C:Hd)(gl:GL)(e:En)(h:aA)(x:Esc)(K:KT):Sf C gl bP e h x K:=⟨_,by simp only[bP,↓wZ,AO.still];rfl⟩
theorem z97 {C gl e h x K}:NW C gl bP ⟨e,h,x⟩ K=(QT C gl e h x K).1:=(QT C gl e h x K).2
def wI:ACode:=.pr [0,7,8,9] (.seq (.seq (rg [mV 35 9,
bN 36 .geq 35 (cI 0)] [0,7,8,9,36])
(.cond 36 .skip
(.exit 0)))
(.seq (.block 1 (.seq (rg [mV 39 8,
mV 40 9,
bN 41 .shl (.c (.p (.int .u64 1))) 40,
bN 42 .andNot 39 41,
mV 10 42] [0,7,8,9,10])
(.seq (rg [mV 43 7,
mV 44 10,
cL 45 GF [43,44]] [0,7,8,9,10,45])
(.cond 45 (rg [mV 46 10,
mV 8 46] [0,7,8,9])
.skip))))
bP))
def RT (C:Hd)(gl:GL)(e:En)(h:aA)(x:Esc)(K:KT):Sf C gl wI e h x K:=⟨_,by simp only[wI,↓wZ,AO.still];rfl⟩
theorem z98 {C gl e h x K}:NW C gl wI ⟨e,h,x⟩ K=(RT C gl e h x K).1:=(RT C gl e h x K).2
theorem zex {C gl e h x K}:NW C gl (.loop wI) ⟨e,h,x⟩ K=CA C gl wI K [(0,bA e 0),(7,bA e 7),(8,bA e 8),(9,bA e 9)] h x:=YA
def cP:ACode:=.pr [8,11,13,14,47,48,49,54,55] (rg [bN 69 .add 55 (cI 1),
mV 55 69] [8,11,13,14,47,48,49,54,55])
def ST (C:Hd)(gl:GL)(e:En)(h:aA)(x:Esc)(K:KT):Sf C gl cP e h x K:=⟨_,by simp only[cP,↓wZ,AO.still];rfl⟩
theorem z99 {C gl e h x K}:NW C gl cP ⟨e,h,x⟩ K=(ST C gl e h x K).1:=(ST C gl e h x K).2
def xI:ACode:=.pr [8,11,13,14,47,48,49,54,55] (.seq (rg [bN 56 .lss 55 54] [8,11,13,14,47,48,49,54,55,56])
(.seq (.cond 56 .skip
(.exit 4))
(.seq (.block 5 (.seq (rg [mV 57 55,
mV 15 57] [8,11,13,14,15,47,48,49,54,55])
(.seq (rg [mV 58 8,
mV 59 15,
bN 60 .shr 58 59,
bN 61 .and 60 (.c (.p (.int .u64 1))),
bN 62 .eql 61 (.c (.p (.int .u64 1)))] [8,11,13,14,15,47,48,49,54,55,62])
(.cond 62 (rg [mV 63 14,
mV 64 13,
mV 65 15,
uO 66 (.idxs 64 65),
uO 67 (.bsl false none 1 (.int .u8 0) [(0,66)]),
uO 68 (.app none 63 67),
mV 14 68] [8,11,13,14,47,48,49,54,55])
.skip))))
cP)))
def TT (C:Hd)(gl:GL)(e:En)(h:aA)(x:Esc)(K:KT):Sf C gl xI e h x K:=⟨_,by simp only[xI,↓wZ,AO.still];rfl⟩
theorem z9A {C gl e h x K}:NW C gl xI ⟨e,h,x⟩ K=(TT C gl e h x K).1:=(TT C gl e h x K).2
theorem zey {C gl e h x K}:NW C gl (.loop (.scope xI)) ⟨e,h,x⟩ K=CA C gl (.scope xI) K [(8,bA e 8),(11,bA e 11),(13,bA e 13),(14,bA e 14),(47,bA e 47),(48,bA e 48),(49,bA e 49),(54,bA e 54),(55,bA e 55)] h x:=FB
def dP:ACode:=.pr [8,11,14,47,48,49] (rg [mV 70 11,
mV 71 14,
uO 72 (.conv .b2s 71),
uO 73 (.bsl false none 1 (.str []) [(0,72)]),
uO 74 (.app none 70 73),
mV 11 74] [8,11,47,48,49])
def UT (C:Hd)(gl:GL)(e:En)(h:aA)(x:Esc)(K:KT):Sf C gl dP e h x K:=⟨_,by simp only[dP,↓wZ,AO.still];rfl⟩
theorem z9B {C gl e h x K}:NW C gl dP ⟨e,h,x⟩ K=(UT C gl e h x K).1:=(UT C gl e h x K).2
def eP:ACode:=.pr [8,11,47,48,49] (rg [bN 75 .add 49 (cI 1),
mV 49 75] [8,11,47,48,49])
def VT (C:Hd)(gl:GL)(e:En)(h:aA)(x:Esc)(K:KT):Sf C gl eP e h x K:=⟨_,by simp only[eP,↓wZ,AO.still];rfl⟩
theorem z9C {C gl e h x K}:NW C gl eP ⟨e,h,x⟩ K=(VT C gl e h x K).1:=(VT C gl e h x K).2
def yI:ACode:=.pr [8,11,47,48,49] (.seq (rg [bN 50 .lss 49 48] [8,11,47,48,49,50])
(.seq (.cond 50 .skip
(.exit 2))
(.seq (.block 3 (.seq (rg [iA 51 none 47 49,
lD 52 none 51,
mV 13 52] [8,11,13,47,48,49])
(.seq (rg [uO 14 (.new0 none)] [8,11,13,14,47,48,49])
(.seq (.seq (rg [mV 53 13,
uO 54 (.lens 53),
mV 55 (cI 0)] [8,11,13,14,47,48,49,54,55])
(.block 4 (.loop (.scope xI))))
dP))))
eP)))
def WT (C:Hd)(gl:GL)(e:En)(h:aA)(x:Esc)(K:KT):Sf C gl yI e h x K:=⟨_,by simp only[yI,↓wZ,AO.still];rfl⟩
theorem z9D {C gl e h x K}:NW C gl yI ⟨e,h,x⟩ K=(WT C gl e h x K).1:=(WT C gl e h x K).2
theorem zez {C gl e h x K}:NW C gl (.loop (.scope yI)) ⟨e,h,x⟩ K=CA C gl (.scope yI) K [(8,bA e 8),(11,bA e 11),(47,bA e 47),(48,bA e 48),(49,bA e 49)] h x:=FB
def fP:ACode:=.pr [11] (.seq (rg [mV 76 11,
mV 4 76,
mV 5 (cI 0)] [4,5])
.ret)
def XT (C:Hd)(gl:GL)(e:En)(h:aA)(x:Esc)(K:KT):Sf C gl fP e h x K:=⟨_,by simp only[fP,↓wZ,AO.still];rfl⟩
theorem z9E {C gl e h x K}:NW C gl fP ⟨e,h,x⟩ K=(XT C gl e h x K).1:=(XT C gl e h x K).2
def iP:ACode:=.pr [0,8] (.seq (rg [uO 11 (.new0 none)] [0,8,11])
(.seq (.seq (rg [mV 47 0,
lN 48 47,
mV 49 (cI 0)] [8,11,47,48,49])
(.block 2 (.loop (.scope yI))))
fP))
def YT (C:Hd)(gl:GL)(e:En)(h:aA)(x:Esc)(K:KT):Sf C gl iP e h x K:=⟨_,by simp only[iP,↓wZ,AO.still];rfl⟩
theorem z9F {C gl e h x K}:NW C gl iP ⟨e,h,x⟩ K=(YT C gl e h x K).1:=(YT C gl e h x K).2
def vX:ACode:=(.seq (rg [mV 4 (.c (.p (.sl none []))),
mV 5 (cI 0)] [0,1])
(.seq (.seq (rg [mV 16 0,
mV 17 1,
cL 18 FG [16,17],
mV 6 18] [0,1,6])
(.seq (rg [mV 19 6,
bN 20 .neq 19 (cI 0)] [0,1,6,20])
(.cond 20 (.seq (rg [mV 21 6,
mV 4 (.c (.p (.sl none []))),
mV 5 21] [4,5])
.ret)
.skip)))
(.seq (rg [mV 22 0,
mV 23 1,
cL 24 GG [22,23],
mV 7 24] [0,7])
(.seq (rg [mV 25 0,
iA 26 none 25 (cI 0),
lD 27 none 26,
uO 28 (.lens 27),
cL 29 VE [28],
mV 8 29] [0,7,8])
(.seq (.seq (rg [mV 30 0,
iA 31 none 30 (cI 0),
lD 32 none 31,
uO 33 (.lens 32),
bN 34 .sub 33 (cI 1),
mV 9 34] [0,7,8,9])
(.block 0 (.loop wI)))
iP)))))
def ER:AFun:=⟨2,[.t 4,.t 5],vX,false,false⟩
def mK (C:Hd)(gl:GL)(e:En)(h:aA)(x:Esc)(K:KT):Sf C gl vX e h x K:=⟨_,by simp only[vX,↓wZ,AO.still];rfl⟩
theorem z96 {C gl v0 v1 h x K}:NW C gl ER.body ⟨enter [v0,v1],h,x⟩ K=(mK C gl [(0,v0),(1,v1)] h x K).1:=(mK C gl [(0,v0),(1,v1)] h x K).2
def jP:ACode:=.pr [7,8,9,36,37] (rg [bN 67 .add 37 (.c (.p (.int .u64 1))),
mV 37 67] [7,8,9,36,37])
def ZT (C:Hd)(gl:GL)(e:En)(h:aA)(x:Esc)(K:KT):Sf C gl jP e h x K:=⟨_,by simp only[jP,↓wZ,AO.still];rfl⟩
theorem z9I {C gl e h x K}:NW C gl jP ⟨e,h,x⟩ K=(ZT C gl e h x K).1:=(ZT C gl e h x K).2
def zI:ACode:=.pr [7,8,9,36,37] (.seq (rg [bN 38 .lss 37 36] [7,8,9,36,37,38])
(.seq (.cond 38 .skip
(.exit 0))
(.seq (.block 1 (.seq (rg [mV 39 37,
mV 10 39] [7,8,9,10,36,37])
(.seq (rg [mV 40 10,
cL 41 JG [40],
mV 42 9,
cL 43 JG [42],
bN 44 .sub 41 43,
mV 11 44] [7,8,9,10,11,36,37])
(.seq (.seq (rg [mV 45 10,
mV 46 9,
bN 47 .xor 45 46,
mV 12 47] [7,8,9,10,11,12,36,37])
(.seq (rg [mV 48 11,
bN 49 .gtr 48 (cI 0),
mV 50 49,
gD 51 50 false (.mv 11),
gD 52 50 false (.bin .eql 51 (cI 0)),
gD 53 50 false (.mv 52),
gD 54 53 true (.mv 10),
gD 55 53 true (.mv 12),
gD 56 53 true (.mv 12),
gD 57 53 true (.un .neg 56),
gD 58 53 true (.bin .and 55 57),
gD 59 53 true (.bin .and 54 58),
gD 60 53 true (.bin .eql 59 (.c (.p (.int .u64 0)))),
gD 61 50 false (.pick 53 60 cF),
uO 62 (.pick 50 cT 61)] [7,8,9,10,36,37,62])
(.cond 62 (.exit 1)
.skip)))
(.seq (rg [mV 63 8,
mV 64 10,
cL 65 GF [63,64]] [7,8,9,10,36,37,65])
(.cond 65 (rg [mV 66 10,
mV 9 66] [7,8,9,36,37])
.skip))))))
jP)))
def aU (C:Hd)(gl:GL)(e:En)(h:aA)(x:Esc)(K:KT):Sf C gl zI e h x K:=⟨_,by simp only[zI,↓wZ,AO.still];rfl⟩
theorem z9J {C gl e h x K}:NW C gl zI ⟨e,h,x⟩ K=(aU C gl e h x K).1:=(aU C gl e h x K).2
theorem ze0 {C gl e h x K}:NW C gl (.loop zI) ⟨e,h,x⟩ K=CA C gl zI K [(7,bA e 7),(8,bA e 8),(9,bA e 9),(36,bA e 36),(37,bA e 37)] h x:=YA
def kP:ACode:=.pr [9,13,68,69] (rg [bN 81 .add 69 (cI 1),
mV 69 81] [9,13,68,69])
def bU (C:Hd)(gl:GL)(e:En)(h:aA)(x:Esc)(K:KT):Sf C gl kP e h x K:=⟨_,by simp only[kP,↓wZ,AO.still];rfl⟩
theorem z9K {C gl e h x K}:NW C gl kP ⟨e,h,x⟩ K=(bU C gl e h x K).1:=(bU C gl e h x K).2
def BI:ACode:=.pr [9,13,68,69] (.seq (rg [bN 70 .lss 69 68] [9,13,68,69,70])
(.seq (.cond 70 .skip
(.exit 2))
(.seq (.block 3 (.seq (rg [mV 71 69,
mV 14 71] [9,13,14,68,69])
(.seq (rg [mV 72 9,
mV 73 14,
bN 74 .shr 72 73,
bN 75 .and 74 (.c (.p (.int .u64 1))),
bN 76 .eql 75 (.c (.p (.int .u64 1)))] [9,13,14,68,69,76])
(.cond 76 (rg [mV 77 13,
mV 78 14,
uO 79 (.bsl false none 1 (.int .i64 0) [(0,78)]),
uO 80 (.app none 77 79),
mV 13 80] [9,13,68,69])
.skip))))
kP)))
def cU (C:Hd)(gl:GL)(e:En)(h:aA)(x:Esc)(K:KT):Sf C gl BI e h x K:=⟨_,by simp only[BI,↓wZ,AO.still];rfl⟩
theorem z9L {C gl e h x K}:NW C gl BI ⟨e,h,x⟩ K=(cU C gl e h x K).1:=(cU C gl e h x K).2
theorem ze1 {C gl e h x K}:NW C gl (.loop (.scope BI)) ⟨e,h,x⟩ K=CA C gl (.scope BI) K [(9,bA e 9),(13,bA e 13),(68,bA e 68),(69,bA e 69)] h x:=FB
def lP:ACode:=.pr [13] (.seq (rg [mV 82 13,
mV 4 82,
mV 5 (cI 0)] [4,5])
.ret)
def dU (C:Hd)(gl:GL)(e:En)(h:aA)(x:Esc)(K:KT):Sf C gl lP e h x K:=⟨_,by simp only[lP,↓wZ,AO.still];rfl⟩
theorem z9M {C gl e h x K}:NW C gl lP ⟨e,h,x⟩ K=(dU C gl e h x K).1:=(dU C gl e h x K).2
def mP:ACode:=.pr [7,9] (.seq (rg [uO 13 (.new0 none)] [7,9,13])
(.seq (.seq (rg [mV 68 7,
mV 69 (cI 0)] [9,13,68,69])
(.block 2 (.loop (.scope BI))))
lP))
def fU (C:Hd)(gl:GL)(e:En)(h:aA)(x:Esc)(K:KT):Sf C gl mP e h x K:=⟨_,by simp only[mP,↓wZ,AO.still];rfl⟩
theorem z9N {C gl e h x K}:NW C gl mP ⟨e,h,x⟩ K=(fU C gl e h x K).1:=(fU C gl e h x K).2
def xX:ACode:=(.seq (rg [mV 4 (.c (.p (.sl none []))),
mV 5 (cI 0)] [0,1])
(.seq (.seq (rg [mV 15 0,
mV 16 1,
cL 17 FG [15,16],
mV 6 17] [0,1,6])
(.seq (rg [mV 18 6,
bN 19 .neq 18 (cI 0)] [0,1,6,19])
(.cond 19 (.seq (rg [mV 20 6,
mV 4 (.c (.p (.sl none []))),
mV 5 20] [4,5])
.ret)
.skip)))
(.seq (rg [mV 21 0,
iA 22 none 21 (cI 0),
lD 23 none 22,
uO 24 (.lens 23),
mV 7 24] [0,1,7])
(.seq (.seq (rg [mV 25 7,
bN 26 .gtr 25 (cI 14)] [0,1,7,26])
(.cond 26 (.seq (rg [mV 4 (.c (.p (.sl none []))),
mV 5 (cI 2)] [4,5])
.ret)
.skip))
(.seq (rg [mV 27 0,
mV 28 1,
cL 29 GG [27,28],
cL 30 rL [29],
cL 31 qL [30],
cL 32 fL [31],
mV 8 32] [7,8])
(.seq (rg [mV 33 7,
cL 34 VE [33],
mV 9 34] [7,8,9])
(.seq (.seq (rg [mV 35 7,
cL 36 VE [35],
mV 37 (.c (.p (.int .u64 0)))] [7,8,9,36,37])
(.block 0 (.loop zI)))
mP)))))))
def GR:AFun:=⟨2,[.t 4,.t 5],xX,false,false⟩
def AH (C:Hd)(gl:GL)(e:En)(h:aA)(x:Esc)(K:KT):Sf C gl xX e h x K:=⟨_,by simp only[xX,↓wZ,AO.still];rfl⟩
theorem z9H {C gl v0 v1 h x K}:NW C gl GR.body ⟨enter [v0,v1],h,x⟩ K=(AH C gl [(0,v0),(1,v1)] h x K).1:=(AH C gl [(0,v0),(1,v1)] h x K).2
def QX:ACode:=(.seq (rg [mV 4 (cI 0)] [0,1])
(.seq (.seq (rg [mV 6 0,
cL 7 ZK [6],
mV 5 7] [0,1,5])
(.seq (rg [mV 8 5,
bN 9 .neq 8 (cI 0)] [0,1,5,9])
(.cond 9 (.seq (rg [mV 10 5,
mV 4 10] [4])
.ret)
.skip)))
(.seq (rg [mV 11 0,
lN 12 11,
mV 13 1,
cL 14 XK [12,13],
mV 4 14] [4])
.ret)))
def XR:AFun:=⟨2,[.t 4],QX,false,false⟩
def qK (C:Hd)(gl:GL)(e:En)(h:aA)(x:Esc)(K:KT):Sf C gl QX e h x K:=⟨_,by simp only[QX,↓wZ,AO.still];rfl⟩
theorem za5 {C gl v0 v1 h x K}:NW C gl XR.body ⟨enter [v0,v1],h,x⟩ K=(qK C gl [(0,v0),(1,v1)] h x K).1:=(qK C gl [(0,v0),(1,v1)] h x K).2
def OP:ACode:=.pr [0,5,9,10,11] (rg [bN 27 .add 11 (cI 1),
mV 11 27] [0,5,9,10,11])
def UU (C:Hd)(gl:GL)(e:En)(h:aA)(x:Esc)(K:KT):Sf C gl OP e h x K:=⟨_,by simp only[OP,↓wZ,AO.still];rfl⟩
theorem zbi {C gl e h x K}:NW C gl OP ⟨e,h,x⟩ K=(UU C gl e h x K).1:=(UU C gl e h x K).2
def RI:ACode:=.pr [0,5,9,10,11] (.seq (rg [bN 12 .lss 11 10] [0,5,9,10,11,12])
(.seq (.cond 12 .skip
(.exit 0))
(.seq (.block 1 (.seq (rg [iA 13 (some 2) 9 11,
lD 14 (some 2) 13,
uO 7 (.alloc [.p (.int .i64 0),.sl0 none]),
wO (.store (some 2) 7 14)] [0,5,7,9,10,11])
(.seq (rg [mV 15 0,
lD 16 (some 2) 7,
cL 17 TH [15,16],
mV 8 17] [0,5,8,9,10,11])
(.seq (rg [mV 18 8,
lN 19 18,
bN 20 .eql 19 (cI 1)] [0,5,8,9,10,11,20])
(.cond 20 (rg [mV 21 5,
mV 22 8,
iA 23 none 22 (cI 0),
lD 24 none 23,
uO 25 (.bsl false none 1 (.int .i64 0) [(0,24)]),
uO 26 (.app none 21 25),
mV 5 26] [0,5,9,10,11])
.skip)))))
OP)))
def VU (C:Hd)(gl:GL)(e:En)(h:aA)(x:Esc)(K:KT):Sf C gl RI e h x K:=⟨_,by simp only[RI,↓wZ,AO.still];rfl⟩
theorem zbj {C gl e h x K}:NW C gl RI ⟨e,h,x⟩ K=(VU C gl e h x K).1:=(VU C gl e h x K).2
theorem zeK {C gl e h x K}:NW C gl (.loop (.scope RI)) ⟨e,h,x⟩ K=CA C gl (.scope RI) K [(0,bA e 0),(5,bA e 5),(9,bA e 9),(10,bA e 10),(11,bA e 11)] h x:=FB
def PP:ACode:=.pr [5] (.seq (rg [mV 28 5,
cL 29 ED [28]] [5])
(.seq (rg [mV 30 5,
cL 31 eL [30],
mV 4 31] [4])
.ret))
def WU (C:Hd)(gl:GL)(e:En)(h:aA)(x:Esc)(K:KT):Sf C gl PP e h x K:=⟨_,by simp only[PP,↓wZ,AO.still];rfl⟩
theorem zbk {C gl e h x K}:NW C gl PP ⟨e,h,x⟩ K=(WU C gl e h x K).1:=(WU C gl e h x K).2
def fY:ACode:=(.seq (rg [mV 4 (.c (.p (.sl none [])))] [0,1])
(.seq (rg [uO 5 (.new0 none)] [0,1,5])
(.seq (.seq (rg [mV 9 1,
lN 10 9,
mV 11 (cI 0)] [0,5,9,10,11])
(.block 0 (.loop (.scope RI))))
PP)))
def pS:AFun:=⟨2,[.t 4],fY,false,false⟩
def AN (C:Hd)(gl:GL)(e:En)(h:aA)(x:Esc)(K:KT):Sf C gl fY e h x K:=⟨_,by simp only[fY,↓wZ,AO.still];rfl⟩
theorem zbh {C gl v0 v1 h x K}:NW C gl pS.body ⟨enter [v0,v1],h,x⟩ K=(AN C gl [(0,v0),(1,v1)] h x K).1:=(AN C gl [(0,v0),(1,v1)] h x K).2
def SI:ACode:=.pr [0,5,6,22,23] (.seq (rg [bN 24 .lss 23 22] [0,5,6,22,23,24])
(.seq (.cond 24 .skip
(.exit 0))
(.seq (.block 1 (.seq (rg [mV 25 23,
mV 7 25] [0,5,6,7,22,23])
(rg [mV 26 6,
mV 27 7,
uO 28 (.bsl false none 1 (.int .i64 0) [(0,27)]),
uO 29 (.app none 26 28),
mV 6 29] [0,5,6,22,23])))
(rg [bN 30 .add 23 (cI 1),
mV 23 30] [0,5,6,22,23]))))
def XU (C:Hd)(gl:GL)(e:En)(h:aA)(x:Esc)(K:KT):Sf C gl SI e h x K:=⟨_,by simp only[SI,↓wZ,AO.still];rfl⟩
theorem zbm {C gl e h x K}:NW C gl SI ⟨e,h,x⟩ K=(XU C gl e h x K).1:=(XU C gl e h x K).2
theorem zeL {C gl e h x K}:NW C gl (.loop (.scope SI)) ⟨e,h,x⟩ K=CA C gl (.scope SI) K [(0,bA e 0),(5,bA e 5),(6,bA e 6),(22,bA e 22),(23,bA e 23)] h x:=FB
def QP:ACode:=.pr [0,5,6,8] (.seq (.seq (rg [lD 48 none 8] [0,5,6,48])
(rg [uO 8 (.alloc [.p (.int .i64 0)]),
wO (.store none 8 48)] [0,5,6,8]))
(rg [lD 38 none 8,
bN 39 .sub 38 (cI 1),
wO (.store none 8 39)] [0,5,6,8]))
def YU (C:Hd)(gl:GL)(e:En)(h:aA)(x:Esc)(K:KT):Sf C gl QP e h x K:=⟨_,by simp only[QP,↓wZ,AO.still];rfl⟩
theorem zbn {C gl e h x K}:NW C gl QP ⟨e,h,x⟩ K=(YU C gl e h x K).1:=(YU C gl e h x K).2
def TI:ACode:=.pr [0,5,6,8] (.seq (.seq (rg [lD 36 none 8,
bN 37 .geq 36 (cI 0)] [0,5,6,8,37])
(.cond 37 .skip
(.exit 2)))
(.seq (.block 3 (.seq (rg [mV 40 6,
cL 41 JF [40],
uO 42 (.mkfn RH [8]),
cL 43 kL [41,42],
mV 9 43] [0,5,6,8,9])
(.seq (rg [mV 44 5,
mV 45 9,
cL 46 IF [44,45]] [0,5,6,8,9,46])
(.cond 46 (rg [mV 47 9,
mV 6 47] [0,5,6,8])
.skip))))
QP))
def ZU (C:Hd)(gl:GL)(e:En)(h:aA)(x:Esc)(K:KT):Sf C gl TI e h x K:=⟨_,by simp only[TI,↓wZ,AO.still];rfl⟩
theorem zbo {C gl e h x K}:NW C gl TI ⟨e,h,x⟩ K=(ZU C gl e h x K).1:=(ZU C gl e h x K).2
theorem zeM {C gl e h x K}:NW C gl (.loop TI) ⟨e,h,x⟩ K=CA C gl TI K [(0,bA e 0),(5,bA e 5),(6,bA e 6),(8,bA e 8)] h x:=YA
def UI:ACode:=.pr [6,10,12,13,49,50,51,55,56,57] (.seq (rg [bN 58 .lss 57 56] [6,10,12,13,49,50,51,55,56,57,58])
(.seq (.cond 58 .skip
(.exit 6))
(.seq (.block 7 (.seq (rg [iA 59 none 55 57,
lD 60 none 59,
mV 15 60] [6,10,12,13,15,49,50,51,55,56,57])
(rg [mV 61 13,
mV 62 12,
mV 63 15,
uO 64 (.idxs 62 63),
uO 65 (.bsl false none 1 (.int .u8 0) [(0,64)]),
uO 66 (.app none 61 65),
mV 13 66] [6,10,12,13,49,50,51,55,56,57])))
(rg [bN 67 .add 57 (cI 1),
mV 57 67] [6,10,12,13,49,50,51,55,56,57]))))
def aV (C:Hd)(gl:GL)(e:En)(h:aA)(x:Esc)(K:KT):Sf C gl UI e h x K:=⟨_,by simp only[UI,↓wZ,AO.still];rfl⟩
theorem zbp {C gl e h x K}:NW C gl UI ⟨e,h,x⟩ K=(aV C gl e h x K).1:=(aV C gl e h x K).2
theorem zeN {C gl e h x K}:NW C gl (.loop (.scope UI)) ⟨e,h,x⟩ K=CA C gl (.scope UI) K [(6,bA e 6),(10,bA e 10),(12,bA e 12),(13,bA e 13),(49,bA e 49),(50,bA e 50),(51,bA e 51),(55,bA e 55),(56,bA e 56),(57,bA e 57)] h x:=FB
def RP:ACode:=.pr [6,10,13,49,50,51] (rg [mV 68 10,
mV 69 13,
uO 70 (.conv .b2s 69),
uO 71 (.bsl false none 1 (.str []) [(0,70)]),
uO 72 (.app none 68 71),
mV 10 72] [6,10,49,50,51])
def bV (C:Hd)(gl:GL)(e:En)(h:aA)(x:Esc)(K:KT):Sf C gl RP e h x K:=⟨_,by simp only[RP,↓wZ,AO.still];rfl⟩
theorem zbq {C gl e h x K}:NW C gl RP ⟨e,h,x⟩ K=(bV C gl e h x K).1:=(bV C gl e h x K).2
def SP:ACode:=.pr [6,10,49,50,51] (rg [bN 73 .add 51 (cI 1),
mV 51 73] [6,10,49,50,51])
def cV (C:Hd)(gl:GL)(e:En)(h:aA)(x:Esc)(K:KT):Sf C gl SP e h x K:=⟨_,by simp only[SP,↓wZ,AO.still];rfl⟩
theorem zbr {C gl e h x K}:NW C gl SP ⟨e,h,x⟩ K=(cV C gl e h x K).1:=(cV C gl e h x K).2
def VI:ACode:=.pr [6,10,49,50,51] (.seq (rg [bN 52 .lss 51 50] [6,10,49,50,51,52])
(.seq (.cond 52 .skip
(.exit 4))
(.seq (.block 5 (.seq (rg [iA 53 none 49 51,
lD 54 none 53,
mV 12 54] [6,10,12,49,50,51])
(.seq (rg [uO 13 (.new0 none)] [6,10,12,13,49,50,51])
(.seq (.seq (rg [mV 55 6,
lN 56 55,
mV 57 (cI 0)] [6,10,12,13,49,50,51,55,56,57])
(.block 6 (.loop (.scope UI))))
RP))))
SP)))
def dV (C:Hd)(gl:GL)(e:En)(h:aA)(x:Esc)(K:KT):Sf C gl VI e h x K:=⟨_,by simp only[VI,↓wZ,AO.still];rfl⟩
theorem zbs {C gl e h x K}:NW C gl VI ⟨e,h,x⟩ K=(dV C gl e h x K).1:=(dV C gl e h x K).2
theorem zeO {C gl e h x K}:NW C gl (.loop (.scope VI)) ⟨e,h,x⟩ K=CA C gl (.scope VI) K [(6,bA e 6),(10,bA e 10),(49,bA e 49),(50,bA e 50),(51,bA e 51)] h x:=FB
def TP:ACode:=.pr [10] (.seq (rg [mV 74 10,
mV 4 74] [4])
.ret)
def eV (C:Hd)(gl:GL)(e:En)(h:aA)(x:Esc)(K:KT):Sf C gl TP e h x K:=⟨_,by simp only[TP,↓wZ,AO.still];rfl⟩
theorem zbt {C gl e h x K}:NW C gl TP ⟨e,h,x⟩ K=(eV C gl e h x K).1:=(eV C gl e h x K).2
def WI:ACode:=.pr [0,6] (.seq (rg [uO 10 (.new0 none)] [0,6,10])
(.seq (.seq (rg [mV 49 0,
lN 50 49,
mV 51 (cI 0)] [6,10,49,50,51])
(.block 4 (.loop (.scope VI))))
TP))
def uK (C:Hd)(gl:GL)(e:En)(h:aA)(x:Esc)(K:KT):Sf C gl WI e h x K:=⟨_,by simp only[WI,↓wZ,AO.still];rfl⟩
theorem EW {C gl e h x K}:NW C gl WI ⟨e,h,x⟩ K=(uK C gl e h x K).1:=(uK C gl e h x K).2
def dM:ACode:=.pr [0,5,6] (.seq (.seq (rg [mV 31 0,
iA 32 none 31 (cI 0),
lD 33 none 32,
uO 34 (.lens 33),
bN 35 .sub 34 (cI 1),
uO 8 (.alloc [.p (.int .i64 0)]),
wO (.store none 8 35)] [0,5,6,8])
(.block 2 (.loop TI)))
WI)
def tK (C:Hd)(gl:GL)(e:En)(h:aA)(x:Esc)(K:KT):Sf C gl dM e h x K:=⟨_,by simp only[dM,↓wZ,AO.still];rfl⟩
theorem DW {C gl e h x K}:NW C gl dM ⟨e,h,x⟩ K=(tK C gl e h x K).1:=(tK C gl e h x K).2
def gY:ACode:=(.seq (rg [mV 4 (.c (.p (.sl none [])))] [0,1])
(.seq (rg [mV 16 0,
mV 17 1,
cL 18 SH [16,17],
mV 5 18] [0,5])
(.seq (rg [uO 6 (.new0 none)] [0,5,6])
(.seq (.seq (rg [mV 19 0,
iA 20 none 19 (cI 0),
lD 21 none 20,
uO 22 (.lens 21),
mV 23 (cI 0)] [0,5,6,22,23])
(.block 0 (.loop (.scope SI))))
dM))))
def qS:AFun:=⟨2,[.t 4],gY,false,false⟩
def BN (C:Hd)(gl:GL)(e:En)(h:aA)(x:Esc)(K:KT):Sf C gl gY e h x K:=⟨_,by simp only[gY,↓wZ,AO.still];rfl⟩
theorem zbl {C gl v0 v1 h x K}:NW C gl qS.body ⟨enter [v0,v1],h,x⟩ K=(BN C gl [(0,v0),(1,v1)] h x K).1:=(BN C gl [(0,v0),(1,v1)] h x K).2
def XP:ACode:=.pr [6,7,8,9,10,11,23,24,27,28] (rg [bN 40 .add 28 (cI 1),
mV 28 40] [6,7,8,9,10,11,23,24,27,28])
def nV (C:Hd)(gl:GL)(e:En)(h:aA)(x:Esc)(K:KT):Sf C gl XP e h x K:=⟨_,by simp only[XP,↓wZ,AO.still];rfl⟩
theorem zb2 {C gl e h x K}:NW C gl XP ⟨e,h,x⟩ K=(nV C gl e h x K).1:=(nV C gl e h x K).2
def ZI:ACode:=.pr [6,7,8,9,10,11,23,24,27,28] (.seq (rg [bN 29 .lss 28 27] [6,7,8,9,10,11,23,24,27,28,29])
(.seq (.cond 29 .skip
(.exit 2))
(.seq (.block 3 (.seq (rg [mV 30 28,
mV 12 30] [6,7,8,9,10,11,12,23,24,27,28])
(.seq (rg [mV 31 10,
mV 32 12,
bN 33 .shr 31 32,
bN 34 .and 33 (cI 1),
bN 35 .eql 34 (cI 1)] [6,7,8,9,10,11,12,23,24,27,28,35])
(.cond 35 (rg [mV 36 11,
mV 37 12,
uO 38 (.bsl false none 1 (.int .i64 0) [(0,37)]),
uO 39 (.app none 36 38),
mV 11 39] [6,7,8,9,10,11,23,24,27,28])
.skip))))
XP)))
def oV (C:Hd)(gl:GL)(e:En)(h:aA)(x:Esc)(K:KT):Sf C gl ZI e h x K:=⟨_,by simp only[ZI,↓wZ,AO.still];rfl⟩
theorem zb3 {C gl e h x K}:NW C gl ZI ⟨e,h,x⟩ K=(oV C gl e h x K).1:=(oV C gl e h x K).2
theorem zeR {C gl e h x K}:NW C gl (.loop (.scope ZI)) ⟨e,h,x⟩ K=CA C gl (.scope ZI) K [(6,bA e 6),(7,bA e 7),(8,bA e 8),(9,bA e 9),(10,bA e 10),(11,bA e 11),(23,bA e 23),(24,bA e 24),(27,bA e 27),(28,bA e 28)] h x:=FB
def eM:ACode:=.pr [6,7,8,9,11,23,24] (.seq (rg [mV 41 7,
mV 42 11,
cL 43 IF [41,42],
mV 44 43,
gD 45 44 true (.mv 9),
gD 46 44 true (.un .not 45),
gD 47 44 true (.mv 46),
gD 48 47 false (.mv 11),
gD 49 47 false (.len 48),
gD 50 47 false (.mv 8),
gD 51 47 false (.len 50),
gD 52 47 false (.bin .lss 49 51),
gD 53 44 true (.pick 47 cT 52),
gD 54 44 true (.mv 53),
gD 55 54 false (.mv 11),
gD 56 54 false (.len 55),
gD 57 54 false (.mv 8),
gD 58 54 false (.len 57),
gD 59 54 false (.bin .eql 56 58),
gD 60 54 false (.mv 59),
gD 61 60 true (.mv 11),
gD 62 60 true (.mv 8),
gD 63 60 true (.call OG [61,62]),
gD 64 60 true (.bin .lss 63 (cI 0)),
gD 65 54 false (.pick 60 64 cF),
gD 66 44 true (.pick 54 cT 65),
uO 67 (.pick 44 66 cF)] [6,7,8,9,11,23,24,67])
(.cond 67 (rg [mV 68 11,
mV 8 68,
mV 9 cT] [6,7,8,9,23,24])
.skip))
def UD (C:Hd)(gl:GL)(e:En)(h:aA)(x:Esc)(K:KT):Sf C gl eM e h x K:=⟨_,by simp only[eM,↓wZ,AO.still];rfl⟩
theorem FW {C gl e h x K}:NW C gl eM ⟨e,h,x⟩ K=(UD C gl e h x K).1:=(UD C gl e h x K).2
def YP:ACode:=.pr [6,7,8,9,23,24] (rg [bN 69 .add 24 (cI 1),
mV 24 69] [6,7,8,9,23,24])
def pV (C:Hd)(gl:GL)(e:En)(h:aA)(x:Esc)(K:KT):Sf C gl YP e h x K:=⟨_,by simp only[YP,↓wZ,AO.still];rfl⟩
theorem zb4 {C gl e h x K}:NW C gl YP ⟨e,h,x⟩ K=(pV C gl e h x K).1:=(pV C gl e h x K).2
def aJ:ACode:=.pr [6,7,8,9,23,24] (.seq (rg [bN 25 .lss 24 23] [6,7,8,9,23,24,25])
(.seq (.cond 25 .skip
(.exit 0))
(.seq (.block 1 (.seq (rg [mV 26 24,
mV 10 26] [6,7,8,9,10,23,24])
(.seq (rg [uO 11 (.new0 none)] [6,7,8,9,10,11,23,24])
(.seq (.seq (rg [mV 27 6,
mV 28 (cI 0)] [6,7,8,9,10,11,23,24,27,28])
(.block 2 (.loop (.scope ZI))))
eM))))
YP)))
def qV (C:Hd)(gl:GL)(e:En)(h:aA)(x:Esc)(K:KT):Sf C gl aJ e h x K:=⟨_,by simp only[aJ,↓wZ,AO.still];rfl⟩
theorem zb5 {C gl e h x K}:NW C gl aJ ⟨e,h,x⟩ K=(qV C gl e h x K).1:=(qV C gl e h x K).2
theorem zeS {C gl e h x K}:NW C gl (.loop aJ) ⟨e,h,x⟩ K=CA C gl aJ K [(6,bA e 6),(7,bA e 7),(8,bA e 8),(9,bA e 9),(23,bA e 23),(24,bA e 24)] h x:=YA
def ZP:ACode:=.pr [8] (.seq (rg [mV 70 8,
mV 4 70,
mV 5 (cI 0)] [4,5])
.ret)
def rV (C:Hd)(gl:GL)(e:En)(h:aA)(x:Esc)(K:KT):Sf C gl ZP e h x K:=⟨_,by simp only[ZP,↓wZ,AO.still];rfl⟩
theorem zb6 {C gl e h x K}:NW C gl ZP ⟨e,h,x⟩ K=(rV C gl e h x K).1:=(rV C gl e h x K).2
def kY:ACode:=(.seq (rg [mV 4 (.c (.p (.sl none []))),
mV 5 (cI 0)] [0,1])
(.seq (rg [mV 13 0,
iA 14 none 13 (cI 0),
lD 15 none 14,
uO 16 (.lens 15),
mV 6 16] [0,1,6])
(.seq (.seq (rg [mV 17 6,
bN 18 .gtr 17 (cI 14)] [0,1,6,18])
(.cond 18 (.seq (rg [mV 4 (.c (.p (.sl none []))),
mV 5 (cI 2)] [4,5])
.ret)
.skip))
(.seq (rg [mV 19 0,
mV 20 1,
cL 21 SH [19,20],
mV 7 21] [6,7])
(.seq (rg [mV 8 (.c (.p (.sl none [])))] [6,7,8])
(.seq (rg [mV 9 cF] [6,7,8,9])
(.seq (.seq (rg [mV 22 6,
bN 23 .shl (cI 1) 22,
mV 24 (cI 0)] [6,7,8,9,23,24])
(.block 0 (.loop aJ)))
ZP)))))))
def tS:AFun:=⟨2,[.t 4,.t 5],kY,false,false⟩
def vK (C:Hd)(gl:GL)(e:En)(h:aA)(x:Esc)(K:KT):Sf C gl kY e h x K:=⟨_,by simp only[kY,↓wZ,AO.still];rfl⟩
theorem zb1 {C gl v0 v1 h x K}:NW C gl tS.body ⟨enter [v0,v1],h,x⟩ K=(vK C gl [(0,v0),(1,v1)] h x K).1:=(vK C gl [(0,v0),(1,v1)] h x K).2
def nJ:ACode:=.pr [0,1,12,13] (.seq (rg [bN 14 .lss 13 12] [0,1,12,13,14])
(.seq (.cond 14 .skip
(.exit 0))
(.seq (.block 1 (.seq (rg [mV 15 13,
mV 5 15] [0,1,5,12,13])
(.seq (dr [dF (mV 16 0) [0],
dF (mV 17 5) [5],
dF (iA 18 none 16 17) [16,17],
dF (lD 19 none 18) [18],
dF (mV 20 1) [1],
dF (mV 21 5) [5],
dF (iA 22 none 20 21) [20,21],
dF (lD 23 none 22) [22],
dF (bN 24 .neq 19 23) [19,23]] [0,1,12,13,24])
(.cond 24 (.seq (rg [mV 4 cF] [4])
.ret)
.skip))))
(rg [bN 25 .add 13 (cI 1),
mV 13 25] [0,1,12,13]))))
def aW (C:Hd)(gl:GL)(e:En)(h:aA)(x:Esc)(K:KT):Sf C gl nJ e h x K:=⟨_,by simp only[nJ,↓wZ,AO.still];rfl⟩
theorem zcx {C gl e h x K}:NW C gl nJ ⟨e,h,x⟩ K=(aW C gl e h x K).1:=(aW C gl e h x K).2
theorem zff {C gl e h x K}:NW C gl (.loop nJ) ⟨e,h,x⟩ K=CA C gl nJ K [(0,bA e 0),(1,bA e 1),(12,bA e 12),(13,bA e 13)] h x:=YA
def uQ:ACode:=.pr [] (.seq (rg [mV 4 cT] [4])
.ret)
def bW (C:Hd)(gl:GL)(e:En)(h:aA)(x:Esc)(K:KT):Sf C gl uQ e h x K:=⟨_,by simp only[uQ,↓wZ,AO.still];rfl⟩
theorem zcy {C gl e h x K}:NW C gl uQ ⟨e,h,x⟩ K=(bW C gl e h x K).1:=(bW C gl e h x K).2
def FY:ACode:=(.seq (rg [mV 4 cF] [0,1])
(.seq (.seq (rg [mV 6 0,
lN 7 6,
mV 8 1,
lN 9 8,
bN 10 .neq 7 9] [0,1,10])
(.cond 10 (.seq (rg [mV 4 cF] [4])
.ret)
.skip))
(.seq (.seq (rg [mV 11 0,
lN 12 11,
mV 13 (cI 0)] [0,1,12,13])
(.block 0 (.loop nJ)))
uQ)))
def OS:AFun:=⟨2,[.t 4],FY,false,false⟩
def BK (C:Hd)(gl:GL)(e:En)(h:aA)(x:Esc)(K:KT):Sf C gl FY e h x K:=⟨_,by simp only[FY,↓wZ,AO.still];rfl⟩
theorem zcw {C gl v0 v1 h x K}:NW C gl OS.body ⟨enter [v0,v1],h,x⟩ K=(BK C gl [(0,v0),(1,v1)] h x K).1:=(BK C gl [(0,v0),(1,v1)] h x K).2
def oJ:ACode:=.pr [0,1,12,13] (.seq (rg [bN 14 .lss 13 12] [0,1,12,13,14])
(.seq (.cond 14 .skip
(.exit 0))
(.seq (.block 1 (.seq (rg [mV 15 13,
mV 5 15] [0,1,5,12,13])
(.seq (dr [dF (mV 16 0) [0],
dF (mV 17 5) [5],
dF (iA 18 none 16 17) [16,17],
dF (lD 19 none 18) [18],
dF (mV 20 1) [1],
dF (mV 21 5) [5],
dF (iA 22 none 20 21) [20,21],
dF (lD 23 none 22) [22],
dF (bN 24 .neq 19 23) [19,23]] [0,1,12,13,24])
(.cond 24 (.seq (rg [mV 4 cF] [4])
.ret)
.skip))))
(rg [bN 25 .add 13 (cI 1),
mV 13 25] [0,1,12,13]))))
def cW (C:Hd)(gl:GL)(e:En)(h:aA)(x:Esc)(K:KT):Sf C gl oJ e h x K:=⟨_,by simp only[oJ,↓wZ,AO.still];rfl⟩
theorem zc0 {C gl e h x K}:NW C gl oJ ⟨e,h,x⟩ K=(cW C gl e h x K).1:=(cW C gl e h x K).2
theorem zfg {C gl e h x K}:NW C gl (.loop oJ) ⟨e,h,x⟩ K=CA C gl oJ K [(0,bA e 0),(1,bA e 1),(12,bA e 12),(13,bA e 13)] h x:=YA
def vQ:ACode:=.pr [] (.seq (rg [mV 4 cT] [4])
.ret)
def dW (C:Hd)(gl:GL)(e:En)(h:aA)(x:Esc)(K:KT):Sf C gl vQ e h x K:=⟨_,by simp only[vQ,↓wZ,AO.still];rfl⟩
theorem zc1 {C gl e h x K}:NW C gl vQ ⟨e,h,x⟩ K=(dW C gl e h x K).1:=(dW C gl e h x K).2
def GY:ACode:=(.seq (rg [mV 4 cF] [0,1])
(.seq (.seq (rg [mV 6 0,
lN 7 6,
mV 8 1,
lN 9 8,
bN 10 .neq 7 9] [0,1,10])
(.cond 10 (.seq (rg [mV 4 cF] [4])
.ret)
.skip))
(.seq (.seq (rg [mV 11 0,
lN 12 11,
mV 13 (cI 0)] [0,1,12,13])
(.block 0 (.loop oJ)))
vQ)))
def PS:AFun:=⟨2,[.t 4],GY,false,false⟩
def CK (C:Hd)(gl:GL)(e:En)(h:aA)(x:Esc)(K:KT):Sf C gl GY e h x K:=⟨_,by simp only[GY,↓wZ,AO.still];rfl⟩
theorem zcz {C gl v0 v1 h x K}:NW C gl PS.body ⟨enter [v0,v1],h,x⟩ K=(CK C gl [(0,v0),(1,v1)] h x K).1:=(CK C gl [(0,v0),(1,v1)] h x K).2
def PX:ACode:=(.seq (rg [mV 0 cF] [])
(.seq (rg [uO 4 (.bsl false none 1 (.str []) [(0,(cS [48,49]))]),
uO 5 (.bsl false none 1 (.int .i64 0) [(0,(cI 0))]),
uO 6 (.build [.p (.int .i64 0),.sl0 none] [(0,1,(cI 2)),(1,1,5)]),
cL 7 NK [4,6],
mV 3 7,
eX 8 3 0,
eX 9 3 1,
mV 1 8,
mV 2 9] [1,2])
(.seq (rg [mV 10 2,
bN 11 .eql 10 (cI 0),
mV 12 11,
gD 13 12 true (.mv 1),
gD 14 12 true (.len 13),
gD 15 12 true (.bin .eql 14 (cI 1)),
uO 16 (.pick 12 15 cF),
mV 17 16,
gD 18 17 true (.mv 1),
gD 19 17 true (.iaddr none 18 (cI 0)),
gD 20 17 true (.load none 19),
gD 21 17 true (.bin .eql 20 (cS [49,49])),
uO 22 (.pick 17 21 cF),
mV 0 22] [0])
.ret)))
def WR:AFun:=⟨0,[.t 0],PX,false,false⟩
def oN (C:Hd)(gl:GL)(e:En)(h:aA)(x:Esc)(K:KT):Sf C gl PX e h x K:=⟨_,by simp only[PX,↓wZ,AO.still];rfl⟩
theorem za4 {C gl h x K}:NW C gl WR.body ⟨enter [],h,x⟩ K=(oN C gl [] h x K).1:=(oN C gl [] h x K).2
def ZX:ACode:=(.seq (rg [mV 4 (cI 0)] [0,1])
(.seq (rg [mV 5 1,
mV 6 0,
mV 7 1,
lN 8 7,
cL 9 XC [6,8],
iA 10 none 5 9,
lD 11 none 10,
mV 4 11] [4])
.ret))
def iS:AFun:=⟨2,[.t 4],ZX,false,false⟩
def uN (C:Hd)(gl:GL)(e:En)(h:aA)(x:Esc)(K:KT):Sf C gl ZX e h x K:=⟨_,by simp only[ZX,↓wZ,AO.still];rfl⟩
theorem zaV {C gl v0 v1 h x K}:NW C gl iS.body ⟨enter [v0,v1],h,x⟩ K=(uN C gl [(0,v0),(1,v1)] h x K).1:=(uN C gl [(0,v0),(1,v1)] h x K).2
def VX:ACode:=(.seq (rg [mV 4 cF] [0,1])
(.seq (rg [mV 5 0,
mV 6 1,
cL 7 XC [5,6],
bN 8 .eql 7 (cI 0),
mV 4 8] [4])
.ret))
def dS:AFun:=⟨2,[.t 4],VX,false,false⟩
def sN (C:Hd)(gl:GL)(e:En)(h:aA)(x:Esc)(K:KT):Sf C gl VX e h x K:=⟨_,by simp only[VX,↓wZ,AO.still];rfl⟩
theorem zaN {C gl v0 v1 h x K}:NW C gl dS.body ⟨enter [v0,v1],h,x⟩ K=(sN C gl [(0,v0),(1,v1)] h x K).1:=(sN C gl [(0,v0),(1,v1)] h x K).2
def aY:ACode:=(.seq (rg [mV 6 (cI 0)] [0,1,2])
(.seq (.seq (rg [mV 7 2,
mV 8 1,
bN 9 .lss 7 8] [0,1,2,9])
(.cond 9 (.seq (rg [mV 10 1,
mV 6 10] [6])
.ret)
.skip))
(.seq (rg [mV 11 1,
mV 12 0,
mV 13 2,
mV 14 1,
bN 15 .sub 13 14,
bN 16 .add 15 (cI 1),
cL 17 XC [12,16],
bN 18 .add 11 17,
mV 6 18] [6])
.ret)))
def jS:AFun:=⟨3,[.t 6],aY,false,false⟩
def vN (C:Hd)(gl:GL)(e:En)(h:aA)(x:Esc)(K:KT):Sf C gl aY e h x K:=⟨_,by simp only[aY,↓wZ,AO.still];rfl⟩
theorem zaW {C gl v0 v1 v2 h x K}:NW C gl jS.body ⟨enter [v0,v1,v2],h,x⟩ K=(vN C gl [(0,v0),(1,v1),(2,v2)] h x K).1:=(vN C gl [(0,v0),(1,v1),(2,v2)] h x K).2
def DY:ACode:=(.seq (rg [mV 4 cF] [0,1])
(.seq (rg [mV 5 0,
mV 6 1,
cL 7 oL [5,6],
bN 8 .geq 7 (cI 0),
mV 4 8] [4])
.ret))
def MS:AFun:=⟨2,[.t 4],DY,true,false⟩
def SN (C:Hd)(gl:GL)(e:En)(h:aA)(x:Esc)(K:KT):Sf C gl DY e h x K:=⟨_,by simp only[DY,↓wZ,AO.still];rfl⟩
theorem zcr {C gl v0 v1 h x K}:NW C gl MS.body ⟨enter [v0,v1],h,x⟩ K=(SN C gl [(0,v0),(1,v1)] h x K).1:=(SN C gl [(0,v0),(1,v1)] h x K).2
def tI:ACode:=.pr [0,7,18,19,20] (.seq (rg [bN 21 .lss 20 19] [0,7,18,19,20,21])
(.seq (.cond 21 .skip
(.exit 0))
(.seq (.block 1 (.seq (rg [iA 22 (some 2) 18 20,
lD 23 (some 2) 22,
uO 9 (.alloc [.p (.int .i64 0),.sl0 none]),
wO (.store (some 2) 9 23)] [0,7,9,18,19,20])
(dr [dF (mV 24 7) [7],
dF (lD 25 (some 2) 9) [9],
dF (mV 26 0) [0],
dF (iA 27 none 26 (cI 0)) [26],
dF (lD 28 none 27) [27],
dF (uO 29 (.lens 28)) [28],
dA (cL 30 VE [29]) [29] true [] [1],
dT (cL 31 IG [24,25,30]) [24,25,30]] [0,7,18,19,20])))
(rg [bN 32 .add 20 (cI 1),
mV 20 32] [0,7,18,19,20]))))
def HT (C:Hd)(gl:GL)(e:En)(h:aA)(x:Esc)(K:KT):Sf C gl tI e h x K:=⟨_,by simp only[tI,↓wZ,AO.still];rfl⟩
theorem z9x {C gl e h x K}:NW C gl tI ⟨e,h,x⟩ K=(HT C gl e h x K).1:=(HT C gl e h x K).2
theorem zeu {C gl e h x K}:NW C gl (.loop (.scope tI)) ⟨e,h,x⟩ K=CA C gl (.scope tI) K [(0,bA e 0),(7,bA e 7),(18,bA e 18),(19,bA e 19),(20,bA e 20)] h x:=FB
def WO:ACode:=.pr [0,7] (.seq (rg [mV 33 7,
mV 34 0,
iA 35 none 34 (cI 0),
lD 36 none 35,
uO 37 (.lens 36),
cL 38 HG [33,37],
mV 4 38,
mV 5 (cI 0)] [4,5])
.ret)
def IT (C:Hd)(gl:GL)(e:En)(h:aA)(x:Esc)(K:KT):Sf C gl WO e h x K:=⟨_,by simp only[WO,↓wZ,AO.still];rfl⟩
theorem z9y {C gl e h x K}:NW C gl WO ⟨e,h,x⟩ K=(IT C gl e h x K).1:=(IT C gl e h x K).2
def tX:ACode:=(.seq (rg [mV 4 (.c (.p (.sl none []))),
mV 5 (cI 0)] [0,1])
(.seq (.seq (rg [mV 10 0,
mV 11 1,
cL 12 JH [10,11],
mV 6 12] [0,1,6])
(.seq (rg [mV 13 6,
bN 14 .neq 13 (cI 0)] [0,1,6,14])
(.cond 14 (.seq (rg [mV 15 6,
mV 4 (.c (.p (.sl none []))),
mV 5 15] [4,5])
.ret)
.skip)))
(.seq (rg [mV 16 0,
cL 17 LH [16],
mV 7 17] [0,1,7])
(.seq (.seq (rg [mV 18 1,
lN 19 18,
mV 20 (cI 0)] [0,7,18,19,20])
(.block 0 (.loop (.scope tI))))
WO))))
def CR:AFun:=⟨2,[.t 4,.t 5],tX,false,false⟩
def kK (C:Hd)(gl:GL)(e:En)(h:aA)(x:Esc)(K:KT):Sf C gl tX e h x K:=⟨_,by simp only[tX,↓wZ,AO.still];rfl⟩
theorem z9w {C gl v0 v1 h x K}:NW C gl CR.body ⟨enter [v0,v1],h,x⟩ K=(kK C gl [(0,v0),(1,v1)] h x K).1:=(kK C gl [(0,v0),(1,v1)] h x K).2
def LY:ACode:=(.seq (rg [mV 3 0,
lN 4 3,
mV 2 4] [0,2])
(rg [mV 5 0,
mV 6 2,
mV 7 2,
uO 8 (.conv (.i .u64) 7),
cL 9 MH [8],
cL 10 KF [5,(cI 0),6,9]] []))
def US:AFun:=⟨1,[],LY,true,false⟩
def DK (C:Hd)(gl:GL)(e:En)(h:aA)(x:Esc)(K:KT):Sf C gl LY e h x K:=⟨_,by simp only[LY,↓wZ,AO.still];rfl⟩
theorem zcE {C gl v0 h x K}:NW C gl US.body ⟨enter [v0],h,x⟩ K=(DK C gl [(0,v0)] h x K).1:=(DK C gl [(0,v0)] h x K).2
def bY:ACode:=(.seq (rg [mV 4 (cS [])] [0,1])
(.seq (rg [mV 5 1,
mV 6 0,
mV 7 1,
lN 8 7,
cL 9 XC [6,8],
iA 10 none 5 9,
lD 11 none 10,
mV 4 11] [4])
.ret))
def kS:AFun:=⟨2,[.t 4],bY,false,false⟩
def wN (C:Hd)(gl:GL)(e:En)(h:aA)(x:Esc)(K:KT):Sf C gl bY e h x K:=⟨_,by simp only[bY,↓wZ,AO.still];rfl⟩
theorem zaX {C gl v0 v1 h x K}:NW C gl kS.body ⟨enter [v0,v1],h,x⟩ K=(wN C gl [(0,v0),(1,v1)] h x K).1:=(wN C gl [(0,v0),(1,v1)] h x K).2
def WX:ACode:=(.seq (rg [mV 4 (cI 0)] [0,1])
(.seq (rg [mV 7 0,
uO 8 (.nilchk 7),
fA 9 1 none 8,
lD 10 none 9,
bN 11 .add 10 (cI 1),
uO 12 (.nilchk 7),
fA 13 1 none 12,
wO (.store none 13 11)] [0,1])
(.seq (.seq (rg [mV 14 0,
uO 15 (.nilchk 14),
fA 16 0 none 15,
lD 17 none 16,
lN 18 17,
bN 19 .eql 18 (cI 0)] [0,1,19])
(.cond 19 (.seq (rg [mV 20 0,
uO 21 (.nilchk 20),
fA 22 1 none 21,
lD 23 none 22,
bN 24 .mul 23 (cI 7919),
mV 25 1,
cL 26 LG [24,25],
mV 4 26] [4])
.ret)
.skip))
(.seq (dr [dF (mV 27 0) [0],
dF (uO 28 (.nilchk 27)) [27],
dF (fA 29 1 none 28) [28],
dF (lD 30 none 29) [29],
dF (bN 31 .sub 30 (cI 1)) [30],
dF (mV 32 0) [0],
dF (uO 33 (.nilchk 32)) [32],
dF (fA 34 0 none 33) [33],
dF (lD 35 none 34) [34],
dF (lN 36 35) [35],
dF (bN 37 .rem 31 36) [31,36],
dF (mV 5 37) [37]] [0,1,5])
(.seq (dr [dF (mV 38 0) [0],
dF (uO 39 (.nilchk 38)) [38],
dF (fA 40 1 none 39) [39],
dF (lD 41 none 40) [40],
dF (bN 42 .sub 41 (cI 1)) [41],
dF (mV 43 0) [0],
dF (uO 44 (.nilchk 43)) [43],
dF (fA 45 0 none 44) [44],
dF (lD 46 none 45) [45],
dF (lN 47 46) [46],
dF (bN 48 .quo 42 47) [42,47],
dF (mV 6 48) [48]] [0,1,5,6])
(.seq (rg [mV 49 0,
uO 50 (.nilchk 49),
fA 51 0 none 50,
lD 52 none 51,
mV 53 5,
iA 54 none 52 53,
lD 55 none 54,
cL 56 LG [55,(cI 1073741824)],
mV 57 6,
mV 58 5,
bN 59 .add (cI 7919) 58,
bN 60 .mul 57 59,
bN 61 .add 56 60,
mV 62 1,
cL 63 LG [61,62],
mV 4 63] [4])
.ret))))))
def eS:AFun:=⟨2,[.t 4],WX,false,false⟩
def rK (C:Hd)(gl:GL)(e:En)(h:aA)(x:Esc)(K:KT):Sf C gl WX e h x K:=⟨_,by simp only[WX,↓wZ,AO.still];rfl⟩
theorem zaO {C gl v0 v1 h x K}:NW C gl eS.body ⟨enter [v0,v1],h,x⟩ K=(rK C gl [(0,v0),(1,v1)] h x K).1:=(rK C gl [(0,v0),(1,v1)] h x K).2
end Go.Am
end
section
/- The functions asv abstract code,and asv formulas over their values: printed by program out of the translation. -/
set_option linter.all false
set_option maxRecDepth 100000
namespace Go.Am
def cM:ACode:=.pr [4,5] (.seq (rg [lD 76 (some 2) 5,
wO (.store (some 2) 4 76)] [4])
.ret)
def z17 (C:Hd)(gl:GL)(v4 v5:AV)(h:aA)(x:Esc)(K:KT):Prop:=
 pK (IA (some 2) v5 h) fun t1=>
 wK (NC (some 2) v4 t1 h) fun t2 h3 y4=>
 K .ret ⟨[(4,v4)],h3,(y4++x)⟩
theorem za9 {C gl e h x K}:NW C gl cM ⟨e,h,x⟩ K=z17 C gl (bA e 4) (bA e 5) h x K:=by kernel_rfl
def z0p (q1:ACode):ACode:=.pr [0,1,4,5] (.seq (.seq (rg [mV 44 0,
cL 45 CD [44,(cI 30)]] [0,1,4,5,45])
(.cond 45 (.seq (rg [mV 46 0,
cL 47 XC [46,(cI 4)]] [0,1,4,5,47])
(.block 0 (.seq (rg [bN 54 .eql 47 (cI 0),
mV 53 54] [0,1,4,5,47,53])
(.cond 53 (rg [mV 55 0,
cL 56 NH [55,(cI 1),(cI 6)],
fA 57 0 none 5,
wO (.store none 57 56)] [4,5])
(.seq (rg [bN 59 .eql 47 (cI 1),
mV 58 59] [0,1,4,5,47,58])
(.cond 58 (dr [dF (fA 60 1 none 5) [5],
dF (lD 61 none 60) [60],
dF (mV 62 0) [0],
dF (mV 63 1) [1],
dF (fA 64 1 none 5) [5],
dF (lD 65 none 64) [64],
dF (iA 66 none 65 (cI 0)) [65],
dF (lD 67 none 66) [66],
dF (uO 68 (.bsl false none 5 (.int .i64 0) [(0,(cI 0)),(1,(cI 1)),(2,(cI (-1))),(3,63),(4,67)])) [63,67],
dA (cL 69 DD [62,68]) [62,68] true [] [1],
dF (uO 70 (.bsl false none 1 (.int .i64 0) [(0,69)])) [69],
dT (uO 71 (.app none 61 70)) [61,70],
dF (fA 72 1 none 5) [5],
dT (wO (.store none 72 71)) [72,71]] [4,5])
(.seq (rg [bN 74 .eql 47 (cI 2),
mV 73 74] [0,4,5,73])
(.cond 73 (rg [fA 75 1 none 5,
wO (.store none 75 (.c (.p (.sl none []))))] [4,5])
(rg [uO 48 (.bsl false none 7 (.int .i64 0) [(0,(cI 0)),(1,(cI 1)),(2,(cI 2)),(3,(cI 3)),(4,(cI 4)),(5,(cI 5)),(6,(cI 6))]),
mV 49 0,
cL 50 JC [49,(cI 5),(cI 7)],
uO 51 (.slice none 48 none (some 50) none),
fA 52 1 none 5,
wO (.store none 52 51)] [4,5])))))))))
.skip))
q1)
def SX:ACode:=z0p cM
def BD (C:Hd)(gl:GL)(q1:ACode)(v0 v1 v4 v5:AV)(h:aA)(x:Esc)(K:KT):Prop:=
 C CD [v0,(AI 30)] h fun t1 h2 y3=>
 SA t1 (C XC [v0,(AI 4)] h2 fun t4 h5 y6=>
 pK (sA .eql t4 (AI 0)) fun t7=>
 SA t7 (C NH [v0,(AI 1),(AI 6)] h5 fun t8 h9 y10=>
 pK (VA 0 none v5) fun t11=>
 wK (NC none t11 t8 h9) fun t12 h13 y14=>
 NW C gl q1 ⟨[(4,v4),(5,v5)],h13,(y14++(y10++(y6++(y3++x))))⟩ K)
 (pK (sA .eql t4 (AI 1)) fun t15=>
 SA t15 (pK (VA 1 none v5) fun t16=>
 pK (IA none t16 h5) fun t17=>
 pK (VA 1 none v5) fun t18=>
 pK (IA none t18 h5) fun t19=>
 pK (tB none t19 (AI 0) h5) fun t20=>
 pK (IA none t20 h5) fun t21=>
 wK (iF false none 5 (.int .i64 0) [(0,(AI 0)),(1,(AI 1)),(2,(AI (-1))),(3,v1),(4,t21)] h5) fun t22 h23 y24=>
 (h23=h5∧y24=[])∧(AD C DD [v0,t22] h23 fun t25 h26 y27=>
 (pK (IA none t16 h26) fun v=>(fun u (g1:aA) (y1:Esc)=>u=t17∧g1=h26∧y1=[]) v h26 [])∧(wK (iF false none 1 (.int .i64 0) [(0,t25)] h26) fun t28 h29 y30=>
 (h29=h26∧y30=[])∧(wK (ML none t17 t28 h29) fun t31 h32 y33=>
 pK (VA 1 none v5) fun t34=>
 wK (NC none t34 t31 h32) fun t35 h36 y37=>
 NW C gl q1 ⟨[(4,v4),(5,v5)],h36,(y37++(y33++(y30++(y27++(y24++(y6++(y3++x)))))))⟩ K))))
 (pK (sA .eql t4 (AI 2)) fun t38=>
 SA t38 (pK (VA 1 none v5) fun t39=>
 wK (NC none t39 (.p (.sl none [])) h5) fun t40 h41 y42=>
 NW C gl q1 ⟨[(4,v4),(5,v5)],h41,(y42++(y6++(y3++x)))⟩ K)
 (wK (iF false none 7 (.int .i64 0) [(0,(AI 0)),(1,(AI 1)),(2,(AI 2)),(3,(AI 3)),(4,(AI 4)),(5,(AI 5)),(6,(AI 6))] h5) fun t43 h44 y45=>
 C JC [v0,(AI 5),(AI 7)] h44 fun t46 h47 y48=>
 pK (cE none t43 none (some t46) none h47) fun t49=>
 pK (VA 1 none v5) fun t50=>
 wK (NC none t50 t49 h47) fun t51 h52 y53=>
 NW C gl q1 ⟨[(4,v4),(5,v5)],h52,(y53++(y48++(y45++(y6++(y3++x)))))⟩ K))))
 (NW C gl q1 ⟨[(0,v0),(1,v1),(4,v4),(5,v5),(45,t1)],h2,(y3++x)⟩ K)
theorem z5T {C gl q1 e h x K}:NW C gl (z0p q1) ⟨e,h,x⟩ K=BD C gl q1 (bA e 0) (bA e 1) (bA e 4) (bA e 5) h x K:=by kernel_rfl
theorem zaA {C gl e h x K}:NW C gl SX ⟨e,h,x⟩ K=BD C gl cM (bA e 0) (bA e 1) (bA e 4) (bA e 5) h x K:=z5T
def z0q (q2:ACode):ACode:=.pr [0,1,4,5,6,7] (.seq (rg [mV 29 6,
mV 30 7,
mV 31 7,
uO 32 (.slice none 29 none (some 30) (some 31)),
fA 33 1 none 5,
wO (.store none 33 32)] [0,1,4,5])
(.seq (.seq (rg [fA 34 0 none 5,
lD 35 none 34,
bN 36 .eql 35 (cI 5)] [0,1,4,5,36])
(.cond 36 (rg [fA 37 1 none 5,
lD 38 none 37,
uO 39 (.slice none 38 (some (cI 1)) none none),
cL 40 ED [39]] [0,1,4,5])
(rg [fA 41 1 none 5,
lD 42 none 41,
cL 43 ED [42]] [0,1,4,5])))
q2))
def DP:ACode:=z0q SX
def EU (C:Hd)(gl:GL)(q2:ACode)(v0 v1 v4 v5 v6 v7:AV)(h:aA)(x:Esc)(K:KT):Prop:=
 pK (cE none v6 none (some v7) (some v7) h) fun t1=>
 pK (VA 1 none v5) fun t2=>
 wK (NC none t2 t1 h) fun t3 h4 y5=>
 pK (VA 0 none v5) fun t6=>
 pK (IA none t6 h4) fun t7=>
 pK (sA .eql t7 (AI 5)) fun t8=>
 SA t8 (pK (VA 1 none v5) fun t9=>
 pK (IA none t9 h4) fun t10=>
 pK (cE none t10 (some (AI 1)) none none h4) fun t11=>
 C ED [t11] h4 fun t12 h13 y14=>
 NW C gl q2 ⟨[(0,v0),(1,v1),(4,v4),(5,v5)],h13,(y14++(y5++x))⟩ K)
 (pK (VA 1 none v5) fun t15=>
 pK (IA none t15 h4) fun t16=>
 C ED [t16] h4 fun t17 h18 y19=>
 NW C gl q2 ⟨[(0,v0),(1,v1),(4,v4),(5,v5)],h18,(y19++(y5++x))⟩ K)
theorem z5U {C gl q2 e h x K}:NW C gl (z0q q2) ⟨e,h,x⟩ K=EU C gl q2 (bA e 0) (bA e 1) (bA e 4) (bA e 5) (bA e 6) (bA e 7) h x K:=by kernel_rfl
theorem zaB {C gl e h x K}:NW C gl DP ⟨e,h,x⟩ K=EU C gl SX (bA e 0) (bA e 1) (bA e 4) (bA e 5) (bA e 6) (bA e 7) h x K:=z5U
def z0o (q3:ACode):ACode:=(.seq (rg [uO 4 (.alloc [.p (.int .i64 0),.sl0 none])] [0,1,4])
(.seq (rg [mV 8 0,
cL 9 JC [8,(cI 1),(cI 6)],
uO 10 (.build [.p (.int .i64 0),.sl0 none] [(0,1,9)]),
uO 5 (.alloc [.p (.int .i64 0),.sl0 none]),
wO (.store (some 2) 5 10)] [0,1,4,5])
(.seq (rg [mV 11 0,
mV 12 1,
uO 13 (.mx [12,(cI 1)]),
cL 14 OH [11,13],
mV 6 14] [0,1,4,5,6])
(.seq (rg [mV 7 (cI 1)] [0,1,4,5,6,7])
(.seq (.seq (rg [fA 15 0 none 5,
lD 16 none 15,
bN 17 .geq 16 (cI 3),
mV 18 17,
gD 19 18 true (.faddr 0 none 5),
gD 20 18 true (.load none 19),
gD 21 18 true (.bin .leq 20 (cI 5)),
uO 22 (.pick 18 21 cF)] [0,1,4,5,6,7,22])
(.cond 22 (rg [mV 23 0,
uO 24 (.bsl false none 3 (.int .i64 0) [(0,(cI 2)),(1,(cI 2)),(2,(cI 3))]),
cL 25 DD [23,24],
mV 26 6,
lN 27 26,
uO 28 (.mn [25,27]),
mV 7 28] [0,1,4,5,6,7])
.skip))
q3)))))
def ZR:AFun:=⟨2,[.cell 4 (some 2)],z0o DP,false,false⟩
def zG (C:Hd)(gl:GL)(q3:ACode)(v0 v1:AV)(h:aA)(x:Esc)(K:KT):Prop:=
 alK [.p (.int .i64 0),.sl0 none] h fun t1 h2 y3=>
 C JC [v0,(AI 1),(AI 6)] h2 fun t4 h5 y6=>
 pK (nI [.p (.int .i64 0),.sl0 none] [(0,1,t4)]) fun t7=>
 alK [.p (.int .i64 0),.sl0 none] h5 fun t8 h9 y10=>
 wK (NC (some 2) t8 t7 h9) fun t11 h12 y13=>
 pK (oMx [v1,(AI 1)]) fun t14=>
 C OH [v0,t14] h12 fun t15 h16 y17=>
 pK (VA 0 none t8) fun t18=>
 pK (IA none t18 h16) fun t19=>
 pK (sA .geq t19 (AI 3)) fun t20=>
 gP t20 true (VA 0 none t8) h16 fun t21 h22 y23=>
 gP t20 true (IA none t21 h22) h22 fun t24 h25 y26=>
 gP t20 true (sA .leq t24 (AI 5)) h25 fun t27 h28 y29=>
 pK (RF t20 t27 (AB false)) fun t30=>
 SA t30 (wK (iF false none 3 (.int .i64 0) [(0,(AI 2)),(1,(AI 2)),(2,(AI 3))] h28) fun t31 h32 y33=>
 C DD [v0,t31] h32 fun t34 h35 y36=>
 pK (VB t15) fun t37=>
 pK (oMn [t34,t37]) fun t38=>
 NW C gl q3 ⟨[(0,v0),(1,v1),(4,t1),(5,t8),(6,t15),(7,t38)],h35,(y36++(y33++(y29++(y26++(y23++(y17++(y13++(y10++(y6++(y3++x))))))))))⟩ K)
 (NW C gl q3 ⟨[(0,v0),(1,v1),(4,t1),(5,t8),(6,t15),(7,(AI 1)),(22,t30)],h28,(y29++(y26++(y23++(y17++(y13++(y10++(y6++(y3++x))))))))⟩ K)
theorem z5S {C gl q3 v0 v1 h x K}:NW C gl (z0o q3) ⟨enter [v0,v1],h,x⟩ K=zG C gl q3 v0 v1 h x K:=by kernel_rfl
theorem za8 {C gl v0 v1 h x K}:NW C gl ZR.body ⟨enter [v0,v1],h,x⟩ K=zG C gl DP v0 v1 h x K:=z5S
def vY:ACode:=(.det (.seq (rg [mV 2 (.c (.p (.sl none [])))] [0])
(.seq (.seq (rg [mV 3 0,
uO 4 (.isnil 4 false 3)] [0,4])
(.condu 4 (.seq (rg [uO 2 (.new0 none)] [2])
.ret)
.skip))
(.seq (rg [uO 5 (.bsl true none 0 (.int .i64 0) []),
mV 6 0,
uO 7 (.app none 5 6),
mV 2 7] [2])
.ret))))
def AM:AFun:=⟨1,[.t 2],vY,false,true⟩
def MN (C:Hd)(gl:GL)(e:En)(h:aA)(x:Esc)(K:KT):Sf C gl vY e h x K:=⟨_,by simp only[vY,↓wZ,AO.still];rfl⟩
theorem zbV {C gl v0 h x K}:NW C gl AM.body ⟨enter [v0],h,x⟩ K=(MN C gl [(0,v0)] h x K).1:=(MN C gl [(0,v0)] h x K).2
def DX:ACode:=(.seq (rg [mV 4 (cI 0)] [0,1])
(.seq (.seq (rg [mV 6 0,
cL 7 GH [6],
mV 5 7] [0,1,5])
(.seq (rg [mV 8 5,
bN 9 .neq 8 (cI 0)] [0,1,5,9])
(.cond 9 (.seq (rg [mV 10 5,
mV 4 10] [4])
.ret)
.skip)))
(.seq (.seq (rg [mV 11 1,
lN 12 11,
bN 13 .gtr 12 (cI 20000)] [0,1,13])
(.cond 13 (.seq (rg [mV 4 (cI 2)] [4])
.ret)
.skip))
(.seq (rg [mV 14 0,
mV 15 1,
cL 16 JH [14,15],
mV 4 16] [4])
.ret))))
def KR:AFun:=⟨2,[.t 4],DX,false,false⟩
def oK (C:Hd)(gl:GL)(e:En)(h:aA)(x:Esc)(K:KT):Sf C gl DX e h x K:=⟨_,by simp only[DX,↓wZ,AO.still];rfl⟩
theorem z9X {C gl v0 v1 h x K}:NW C gl KR.body ⟨enter [v0,v1],h,x⟩ K=(oK C gl [(0,v0),(1,v1)] h x K).1:=(oK C gl [(0,v0),(1,v1)] h x K).2
def EI:ACode:=.pr [0,5,6,11,12,13] (.seq (rg [bN 14 .lss 13 12] [0,5,6,11,12,13,14])
(.seq (.cond 14 .skip
(.exit 0))
(.seq (.block 1 (.seq (rg [iA 15 (some 2) 11 13,
lD 16 (some 2) 15,
uO 8 (.alloc [.p (.int .i64 0),.sl0 none]),
wO (.store (some 2) 8 16)] [0,5,6,8,11,12,13])
(dr [dF (mV 17 6) [6],
dF (mV 18 5) [5],
dF (lD 19 (some 2) 8) [8],
dF (mV 20 0) [0],
dF (iA 21 none 20 (cI 0)) [20],
dF (lD 22 none 21) [21],
dF (uO 23 (.lens 22)) [22],
dT (cL 24 EG [18,19,23]) [18,19,23],
dF (uO 25 (.bsl false none 1 (.int .u64 0) [(0,24)])) [24],
dT (uO 26 (.app none 17 25)) [17,25],
dF (mV 6 26) [26]] [0,5,6,11,12,13])))
(rg [bN 27 .add 13 (cI 1),
mV 13 27] [0,5,6,11,12,13]))))
def lU (C:Hd)(gl:GL)(e:En)(h:aA)(x:Esc)(K:KT):Sf C gl EI e h x K:=⟨_,by simp only[EI,↓wZ,AO.still];rfl⟩
theorem z9Z {C gl e h x K}:NW C gl EI ⟨e,h,x⟩ K=(lU C gl e h x K).1:=(lU C gl e h x K).2
theorem ze4 {C gl e h x K}:NW C gl (.loop (.scope EI)) ⟨e,h,x⟩ K=CA C gl (.scope EI) K [(0,bA e 0),(5,bA e 5),(6,bA e 6),(11,bA e 11),(12,bA e 12),(13,bA e 13)] h x:=FB
def pP:ACode:=.pr [6] (.seq (rg [mV 28 6,
mV 4 28] [4])
.ret)
def mU (C:Hd)(gl:GL)(e:En)(h:aA)(x:Esc)(K:KT):Sf C gl pP e h x K:=⟨_,by simp only[pP,↓wZ,AO.still];rfl⟩
theorem zaa {C gl e h x K}:NW C gl pP ⟨e,h,x⟩ K=(mU C gl e h x K).1:=(mU C gl e h x K).2
def EX:ACode:=(.seq (rg [mV 4 (.c (.p (.sl none [])))] [0,1])
(.seq (rg [mV 9 0,
cL 10 LH [9],
mV 5 10] [0,1,5])
(.seq (rg [uO 6 (.new0 none)] [0,1,5,6])
(.seq (.seq (rg [mV 11 1,
lN 12 11,
mV 13 (cI 0)] [0,5,6,11,12,13])
(.block 0 (.loop (.scope EI))))
pP))))
def LR:AFun:=⟨2,[.t 4],EX,false,false⟩
def dN (C:Hd)(gl:GL)(e:En)(h:aA)(x:Esc)(K:KT):Sf C gl EX e h x K:=⟨_,by simp only[EX,↓wZ,AO.still];rfl⟩
theorem z9Y {C gl v0 v1 h x K}:NW C gl LR.body ⟨enter [v0,v1],h,x⟩ K=(dN C gl [(0,v0),(1,v1)] h x K).1:=(dN C gl [(0,v0),(1,v1)] h x K).2
def NX:ACode:=(.seq (rg [mV 2 (cI 0)] [0])
(.seq (rg [mV 3 0,
bN 4 .shr 3 (.c (.p (.int .u64 1))),
bN 5 .and 4 (.c (.p (.int .u64 6148914691236517205))),
mV 6 0,
bN 7 .and 6 (.c (.p (.int .u64 6148914691236517205))),
bN 8 .add 5 7,
mV 0 8] [0])
(.seq (rg [mV 9 0,
bN 10 .shr 9 (.c (.p (.int .u64 2))),
bN 11 .and 10 (.c (.p (.int .u64 3689348814741910323))),
mV 12 0,
bN 13 .and 12 (.c (.p (.int .u64 3689348814741910323))),
bN 14 .add 11 13,
mV 0 14] [0])
(.seq (rg [mV 15 0,
bN 16 .shr 15 (.c (.p (.int .u64 4))),
mV 17 0,
bN 18 .add 16 17,
bN 19 .and 18 (.c (.p (.int .u64 1085102592571150095))),
mV 0 19] [0])
(.seq (rg [mV 20 0,
mV 21 0,
bN 22 .shr 21 (.c (.p (.int .u64 8))),
bN 23 .add 20 22,
mV 0 23] [0])
(.seq (rg [mV 24 0,
mV 25 0,
bN 26 .shr 25 (.c (.p (.int .u64 16))),
bN 27 .add 24 26,
mV 0 27] [0])
(.seq (rg [mV 28 0,
mV 29 0,
bN 30 .shr 29 (.c (.p (.int .u64 32))),
bN 31 .add 28 30,
mV 0 31] [0])
(.seq (rg [mV 32 0,
uO 33 (.conv (.i .i64) 32),
bN 34 .and 33 (cI 127),
mV 2 34] [2])
.ret))))))))
def UR:AFun:=⟨1,[.t 2],NX,false,false⟩
def nN (C:Hd)(gl:GL)(e:En)(h:aA)(x:Esc)(K:KT):Sf C gl NX e h x K:=⟨_,by simp only[NX,↓wZ,AO.still];rfl⟩
theorem za1 {C gl v0 h x K}:NW C gl UR.body ⟨enter [v0],h,x⟩ K=(nN C gl [(0,v0)] h x K).1:=(nN C gl [(0,v0)] h x K).2
def JX:ACode:=(.seq (rg [mV 2 (.c (.p (.int .u64 0)))] [0])
(.seq (rg [mV 3 0,
bN 4 .shl (.c (.p (.int .u64 1))) 3,
bN 5 .sub 4 (.c (.p (.int .u64 1))),
mV 2 5] [2])
.ret))
def OR:AFun:=⟨1,[.t 2],JX,false,false⟩
def iN (C:Hd)(gl:GL)(e:En)(h:aA)(x:Esc)(K:KT):Sf C gl JX e h x K:=⟨_,by simp only[JX,↓wZ,AO.still];rfl⟩
theorem zao {C gl v0 h x K}:NW C gl OR.body ⟨enter [v0],h,x⟩ K=(iN C gl [(0,v0)] h x K).1:=(iN C gl [(0,v0)] h x K).2
def zX:ACode:=(.seq (rg [uO 3 (.box 1),
mV 4 cF] [0,3])
(.seq (rg [mV 5 0,
uO 6 (.mkfn HH [3]),
cL 7 jL [5,6],
uO 8 (.un .not 7),
mV 4 8] [4])
.ret))
def xM:AFun:=⟨2,[.t 4],zX,false,false⟩
def aN (C:Hd)(gl:GL)(e:En)(h:aA)(x:Esc)(K:KT):Sf C gl zX e h x K:=⟨_,by simp only[zX,↓wZ,AO.still];rfl⟩
theorem z9R {C gl v0 v1 h x K}:NW C gl xM.body ⟨enter [v0,v1],h,x⟩ K=(aN C gl [(0,v0),(1,v1)] h x K).1:=(aN C gl [(0,v0),(1,v1)] h x K).2
def nQ:ACode:=.pr [0,3,4,5] (rg [mV 33 5,
bN 34 .add 33 (cI 1),
mV 5 34] [0,3,4,5])
def OV (C:Hd)(gl:GL)(e:En)(h:aA)(x:Esc)(K:KT):Sf C gl nQ e h x K:=⟨_,by simp only[nQ,↓wZ,AO.still];rfl⟩
theorem zcf {C gl e h x K}:NW C gl nQ ⟨e,h,x⟩ K=(OV C gl e h x K).1:=(OV C gl e h x K).2
def jJ:ACode:=.pr [0,3,4,5] (.seq (.seq (rg [mV 29 5,
mV 30 4,
lN 31 30,
bN 32 .lss 29 31] [0,3,4,5,32])
(.cond 32 .skip
(.exit 2)))
(.seq (.block 3 (.seq (dr [dF (mV 35 4) [4],
dF (mV 36 5) [5],
dF (iA 37 none 35 36) [35,36],
dF (lD 38 none 37) [37],
dF (mV 39 4) [4],
dF (mV 40 5) [5],
dF (bN 41 .sub 40 (cI 1)) [40],
dF (iA 42 none 39 41) [39,41],
dF (lD 43 none 42) [42],
dF (bN 44 .neq 38 43) [38,43]] [0,3,4,5,44])
(.cond 44 (.seq (rg [mV 45 0,
mV 46 3,
mV 47 4,
mV 48 5,
iA 49 none 47 48,
lD 50 none 49,
iA 51 none 45 46,
wO (.store none 51 50)] [0,3,4,5])
(rg [mV 52 3,
bN 53 .add 52 (cI 1),
mV 3 53] [0,3,4,5]))
.skip)))
nQ))
def QV (C:Hd)(gl:GL)(e:En)(h:aA)(x:Esc)(K:KT):Sf C gl jJ e h x K:=⟨_,by simp only[jJ,↓wZ,AO.still];rfl⟩
theorem zcg {C gl e h x K}:NW C gl jJ ⟨e,h,x⟩ K=(QV C gl e h x K).1:=(QV C gl e h x K).2
theorem zfb {C gl e h x K}:NW C gl (.loop jJ) ⟨e,h,x⟩ K=CA C gl jJ K [(0,bA e 0),(3,bA e 3),(4,bA e 4),(5,bA e 5)] h x:=YA
def oQ:ACode:=.pr [0,3] (.seq (rg [mV 54 0,
mV 55 3,
uO 56 (.slice none 54 (some 55) none none),
wO (.clr none (.int .u64 0) 56)] [0,3])
(.seq (rg [mV 57 0,
mV 58 3,
uO 59 (.slice none 57 none (some 58) none),
mV 2 59] [2])
.ret))
def RV (C:Hd)(gl:GL)(e:En)(h:aA)(x:Esc)(K:KT):Sf C gl oQ e h x K:=⟨_,by simp only[oQ,↓wZ,AO.still];rfl⟩
theorem zch {C gl e h x K}:NW C gl oQ ⟨e,h,x⟩ K=(RV C gl e h x K).1:=(RV C gl e h x K).2
def pQ:ACode:=.pr [0,3] (rg [mV 14 3,
bN 15 .add 14 (cI 1),
mV 3 15] [0,3])
def SV (C:Hd)(gl:GL)(e:En)(h:aA)(x:Esc)(K:KT):Sf C gl pQ e h x K:=⟨_,by simp only[pQ,↓wZ,AO.still];rfl⟩
theorem zci {C gl e h x K}:NW C gl pQ ⟨e,h,x⟩ K=(SV C gl e h x K).1:=(SV C gl e h x K).2
def kJ:ACode:=.pr [0,3] (.seq (.seq (rg [mV 10 3,
mV 11 0,
lN 12 11,
bN 13 .lss 10 12] [0,3,13])
(.cond 13 .skip
(.exit 0)))
(.seq (.block 1 (.seq (dr [dF (mV 16 0) [0],
dF (mV 17 3) [3],
dF (iA 18 none 16 17) [16,17],
dF (lD 19 none 18) [18],
dF (mV 20 0) [0],
dF (mV 21 3) [3],
dF (bN 22 .sub 21 (cI 1)) [21],
dF (iA 23 none 20 22) [20,22],
dF (lD 24 none 23) [23],
dF (bN 25 .eql 19 24) [19,24]] [0,3,25])
(.cond 25 (.seq (rg [mV 26 0,
mV 27 3,
uO 28 (.slice none 26 (some 27) none none),
mV 4 28] [0,3,4])
(.seq (.seq (rg [mV 5 (cI 1)] [0,3,4,5])
(.block 2 (.loop jJ)))
oQ))
.skip)))
pQ))
def TV (C:Hd)(gl:GL)(e:En)(h:aA)(x:Esc)(K:KT):Sf C gl kJ e h x K:=⟨_,by simp only[kJ,↓wZ,AO.still];rfl⟩
theorem zcj {C gl e h x K}:NW C gl kJ ⟨e,h,x⟩ K=(TV C gl e h x K).1:=(TV C gl e h x K).2
theorem zfc {C gl e h x K}:NW C gl (.loop kJ) ⟨e,h,x⟩ K=CA C gl kJ K [(0,bA e 0),(3,bA e 3)] h x:=YA
def qQ:ACode:=.pr [0] (.seq (rg [mV 60 0,
mV 2 60] [2])
.ret)
def UV (C:Hd)(gl:GL)(e:En)(h:aA)(x:Esc)(K:KT):Sf C gl qQ e h x K:=⟨_,by simp only[qQ,↓wZ,AO.still];rfl⟩
theorem zck {C gl e h x K}:NW C gl qQ ⟨e,h,x⟩ K=(UV C gl e h x K).1:=(UV C gl e h x K).2
def yY:ACode:=(.seq (rg [mV 2 (.c (.p (.sl none [])))] [0])
(.seq (.seq (rg [mV 6 0,
lN 7 6,
bN 8 .lss 7 (cI 2)] [0,8])
(.cond 8 (.seq (rg [mV 9 0,
mV 2 9] [2])
.ret)
.skip))
(.seq (.seq (rg [mV 3 (cI 1)] [0,3])
(.block 0 (.loop kJ)))
qQ)))
def IS:AFun:=⟨1,[.t 2],yY,true,false⟩
def AK (C:Hd)(gl:GL)(e:En)(h:aA)(x:Esc)(K:KT):Sf C gl yY e h x K:=⟨_,by simp only[yY,↓wZ,AO.still];rfl⟩
theorem zce {C gl v0 h x K}:NW C gl IS.body ⟨enter [v0],h,x⟩ K=(AK C gl [(0,v0)] h x K).1:=(AK C gl [(0,v0)] h x K).2
def NY:ACode:=(.seq (rg [mV 2 (.c (.p (.sl none [])))] [0])
(.seq (rg [mV 4 0,
cL 5 nO [4],
mV 3 5] [3])
(.seq (rg [mV 6 3,
cL 7 pL [6]] [3])
(.seq (rg [mV 8 3,
mV 2 8] [2])
.ret))))
def WS:AFun:=⟨1,[.t 2],NY,false,true⟩
def ZN (C:Hd)(gl:GL)(e:En)(h:aA)(x:Esc)(K:KT):Sf C gl NY e h x K:=⟨_,by simp only[NY,↓wZ,AO.still];rfl⟩
theorem zcG {C gl v0 h x K}:NW C gl WS.body ⟨enter [v0],h,x⟩ K=(ZN C gl [(0,v0)] h x K).1:=(ZN C gl [(0,v0)] h x K).2
def OY:ACode:=(.seq (rg [uO 1 (.box 0),
mV 2 (.c (.nilf))] [1])
(.seq (rg [uO 3 (.mkfn ZH [1]),
mV 2 3] [2])
.ret))
def XS:AFun:=⟨1,[.t 2],OY,false,false⟩
def aO (C:Hd)(gl:GL)(e:En)(h:aA)(x:Esc)(K:KT):Sf C gl OY e h x K:=⟨_,by simp only[OY,↓wZ,AO.still];rfl⟩
theorem zcH {C gl v0 h x K}:NW C gl XS.body ⟨enter [v0],h,x⟩ K=(aO C gl [(0,v0)] h x K).1:=(aO C gl [(0,v0)] h x K).2
def bJ:ACode:=.pr [0,13,14,15] (.seq (rg [bN 16 .lss 15 14] [0,13,14,15,16])
(.seq (.cond 16 .skip
(.exit 1))
(.seq (.block 2 (.seq (rg [iA 17 none 13 15,
lD 18 none 17,
mV 4 18] [0,4,13,14,15])
(.block 3 (.seq (rg [mV 20 4,
cL 21 VK [20],
uO 22 (.un .not 21),
mV 19 22] [0,4,13,14,15,19])
(.cond 19 (.seq (rg [mV 2 (cI 3)] [2])
.ret)
(.seq (rg [mV 24 4,
uO 25 (.lens 24),
bN 26 .gtr 25 (cI 64),
mV 23 26] [0,4,13,14,15,23])
(.cond 23 (.seq (rg [mV 2 (cI 2)] [2])
.ret)
(.seq (rg [mV 28 4,
uO 29 (.lens 28),
mV 30 0,
iA 31 none 30 (cI 0),
lD 32 none 31,
uO 33 (.lens 32),
bN 34 .neq 29 33,
mV 27 34] [0,13,14,15,27])
(.cond 27 (.seq (rg [mV 2 (cI 3)] [2])
.ret)
.skip)))))))))
(rg [bN 35 .add 15 (cI 1),
mV 15 35] [0,13,14,15]))))
def sV (C:Hd)(gl:GL)(e:En)(h:aA)(x:Esc)(K:KT):Sf C gl bJ e h x K:=⟨_,by simp only[bJ,↓wZ,AO.still];rfl⟩
theorem zb8 {C gl e h x K}:NW C gl bJ ⟨e,h,x⟩ K=(sV C gl e h x K).1:=(sV C gl e h x K).2
theorem zeT {C gl e h x K}:NW C gl (.loop bJ) ⟨e,h,x⟩ K=CA C gl bJ K [(0,bA e 0),(13,bA e 13),(14,bA e 14),(15,bA e 15)] h x:=YA
def aQ:ACode:=.pr [] (.seq (rg [mV 2 (cI 0)] [2])
.ret)
def tV (C:Hd)(gl:GL)(e:En)(h:aA)(x:Esc)(K:KT):Sf C gl aQ e h x K:=⟨_,by simp only[aQ,↓wZ,AO.still];rfl⟩
theorem zb9 {C gl e h x K}:NW C gl aQ ⟨e,h,x⟩ K=(tV C gl e h x K).1:=(tV C gl e h x K).2
def lY:ACode:=(.seq (rg [mV 2 (cI 0)] [0])
(.seq (.block 0 (.seq (rg [mV 6 0,
lN 7 6,
bN 8 .eql 7 (cI 0),
mV 5 8] [0,5])
(.cond 5 (.seq (rg [mV 2 (cI 8)] [2])
.ret)
(.seq (rg [mV 10 0,
lN 11 10,
bN 12 .gtr 11 (cI 100),
mV 9 12] [0,9])
(.cond 9 (.seq (rg [mV 2 (cI 2)] [2])
.ret)
.skip)))))
(.seq (.seq (rg [mV 13 0,
lN 14 13,
mV 15 (cI 0)] [0,13,14,15])
(.block 1 (.loop bJ)))
aQ)))
def uS:AFun:=⟨1,[.t 2],lY,false,false⟩
def EH (C:Hd)(gl:GL)(e:En)(h:aA)(x:Esc)(K:KT):Sf C gl lY e h x K:=⟨_,by simp only[lY,↓wZ,AO.still];rfl⟩
theorem zb7 {C gl v0 h x K}:NW C gl uS.body ⟨enter [v0],h,x⟩ K=(EH C gl [(0,v0)] h x K).1:=(EH C gl [(0,v0)] h x K).2
def QI:ACode:=.pr [0,11,12,13] (.seq (rg [bN 14 .lss 13 12] [0,11,12,13,14])
(.seq (.cond 14 .skip
(.exit 0))
(.seq (.block 1 (.seq (rg [iA 15 (some 2) 11 13,
lD 16 (some 2) 15,
uO 6 (.alloc [.p (.int .i64 0),.sl0 none]),
wO (.store (some 2) 6 16)] [0,6,11,12,13])
(.seq (rg [mV 17 0,
lD 18 (some 2) 6,
cL 19 WK [17,18],
mV 7 19] [0,7,11,12,13])
(.seq (rg [mV 20 7,
bN 21 .neq 20 (cI 0)] [0,7,11,12,13,21])
(.cond 21 (.seq (rg [mV 22 7,
mV 4 22] [4])
.ret)
.skip)))))
(rg [bN 23 .add 13 (cI 1),
mV 13 23] [0,11,12,13]))))
def SU (C:Hd)(gl:GL)(e:En)(h:aA)(x:Esc)(K:KT):Sf C gl QI e h x K:=⟨_,by simp only[QI,↓wZ,AO.still];rfl⟩
theorem zbf {C gl e h x K}:NW C gl QI ⟨e,h,x⟩ K=(SU C gl e h x K).1:=(SU C gl e h x K).2
theorem zeJ {C gl e h x K}:NW C gl (.loop (.scope QI)) ⟨e,h,x⟩ K=CA C gl (.scope QI) K [(0,bA e 0),(11,bA e 11),(12,bA e 12),(13,bA e 13)] h x:=FB
def NP:ACode:=.pr [] (.seq (rg [mV 4 (cI 0)] [4])
.ret)
def TU (C:Hd)(gl:GL)(e:En)(h:aA)(x:Esc)(K:KT):Sf C gl NP e h x K:=⟨_,by simp only[NP,↓wZ,AO.still];rfl⟩
theorem zbg {C gl e h x K}:NW C gl NP ⟨e,h,x⟩ K=(TU C gl e h x K).1:=(TU C gl e h x K).2
def eY:ACode:=(.seq (rg [mV 4 (cI 0)] [0,1])
(.seq (.seq (rg [mV 8 1,
lN 9 8,
bN 10 .gtr 9 (cI 20000)] [0,1,10])
(.cond 10 (.seq (rg [mV 4 (cI 2)] [4])
.ret)
.skip))
(.seq (.seq (rg [mV 11 1,
lN 12 11,
mV 13 (cI 0)] [0,11,12,13])
(.block 0 (.loop (.scope QI))))
NP)))
def oS:AFun:=⟨2,[.t 4],eY,false,false⟩
def zN (C:Hd)(gl:GL)(e:En)(h:aA)(x:Esc)(K:KT):Sf C gl eY e h x K:=⟨_,by simp only[eY,↓wZ,AO.still];rfl⟩
theorem zbe {C gl v0 v1 h x K}:NW C gl oS.body ⟨enter [v0,v1],h,x⟩ K=(zN C gl [(0,v0),(1,v1)] h x K).1:=(zN C gl [(0,v0),(1,v1)] h x K).2
def dJ:ACode:=.pr [0,5,6,7,15,16,20,21] (.seq (rg [bN 22 .lss 21 20] [0,5,6,7,15,16,20,21,22])
(.seq (.cond 22 .skip
(.exit 2))
(.seq (.block 3 (.seq (rg [mV 23 21,
mV 8 23] [0,5,6,7,8,15,16,20,21])
(.seq (dr [dF (mV 24 5) [5],
dF (mV 25 8) [8],
dF (iA 26 none 24 25) [24,25],
dF (lD 27 none 26) [26],
dF (mV 28 7) [7],
dF (uO 29 (.idxs 27 28)) [27,28],
dF (mV 30 0) [0],
dF (mV 31 8) [8],
dF (iA 32 none 30 31) [30,31],
dF (lD 33 none 32) [32],
dF (mV 34 7) [7],
dF (uO 35 (.idxs 33 34)) [33,34],
dF (bN 36 .neq 29 35) [29,35]] [0,5,6,7,15,16,20,21,36])
(.cond 36 (.seq (rg [mV 37 6,
mV 38 7,
uO 39 (.bsl false none 1 (.int .i64 0) [(0,38)]),
uO 40 (.app none 37 39),
mV 6 40] [0,5,6,15,16])
(.exit 2))
.skip))))
(rg [bN 41 .add 21 (cI 1),
mV 21 41] [0,5,6,7,15,16,20,21]))))
def wV (C:Hd)(gl:GL)(e:En)(h:aA)(x:Esc)(K:KT):Sf C gl dJ e h x K:=⟨_,by simp only[dJ,↓wZ,AO.still];rfl⟩
theorem zbE {C gl e h x K}:NW C gl dJ ⟨e,h,x⟩ K=(wV C gl e h x K).1:=(wV C gl e h x K).2
theorem zeV {C gl e h x K}:NW C gl (.loop (.scope dJ)) ⟨e,h,x⟩ K=CA C gl (.scope dJ) K [(0,bA e 0),(5,bA e 5),(6,bA e 6),(7,bA e 7),(15,bA e 15),(16,bA e 16),(20,bA e 20),(21,bA e 21)] h x:=FB
def cQ:ACode:=.pr [0,5,6,15,16] (rg [bN 42 .add 16 (cI 1),
mV 16 42] [0,5,6,15,16])
def xV (C:Hd)(gl:GL)(e:En)(h:aA)(x:Esc)(K:KT):Sf C gl cQ e h x K:=⟨_,by simp only[cQ,↓wZ,AO.still];rfl⟩
theorem zbF {C gl e h x K}:NW C gl cQ ⟨e,h,x⟩ K=(xV C gl e h x K).1:=(xV C gl e h x K).2
def eJ:ACode:=.pr [0,5,6,15,16] (.seq (rg [bN 17 .lss 16 15] [0,5,6,15,16,17])
(.seq (.cond 17 .skip
(.exit 0))
(.seq (.block 1 (.seq (rg [mV 18 16,
mV 7 18] [0,5,6,7,15,16])
(.seq (rg [mV 19 0,
lN 20 19,
mV 21 (cI 0)] [0,5,6,7,15,16,20,21])
(.block 2 (.loop (.scope dJ))))))
cQ)))
def yV (C:Hd)(gl:GL)(e:En)(h:aA)(x:Esc)(K:KT):Sf C gl eJ e h x K:=⟨_,by simp only[eJ,↓wZ,AO.still];rfl⟩
theorem zbG {C gl e h x K}:NW C gl eJ ⟨e,h,x⟩ K=(yV C gl e h x K).1:=(yV C gl e h x K).2
theorem zeW {C gl e h x K}:NW C gl (.loop (.scope eJ)) ⟨e,h,x⟩ K=CA C gl (.scope eJ) K [(0,bA e 0),(5,bA e 5),(6,bA e 6),(15,bA e 15),(16,bA e 16)] h x:=FB
def dQ:ACode:=.pr [6] (.seq (rg [mV 43 6,
mV 4 43] [4])
.ret)
def zV (C:Hd)(gl:GL)(e:En)(h:aA)(x:Esc)(K:KT):Sf C gl dQ e h x K:=⟨_,by simp only[dQ,↓wZ,AO.still];rfl⟩
theorem zbH {C gl e h x K}:NW C gl dQ ⟨e,h,x⟩ K=(zV C gl e h x K).1:=(zV C gl e h x K).2
def nY:ACode:=(.seq (rg [uO 3 (.box 1),
mV 4 (.c (.p (.sl none [])))] [0,3])
(.seq (rg [mV 9 0,
lD 10 (some 2) 3,
cL 11 YK [9,10],
mV 5 11] [0,5])
(.seq (rg [uO 6 (.new0 none)] [0,5,6])
(.seq (.seq (rg [mV 12 0,
iA 13 none 12 (cI 0),
lD 14 none 13,
uO 15 (.lens 14),
mV 16 (cI 0)] [0,5,6,15,16])
(.block 0 (.loop (.scope eJ))))
dQ))))
def xS:AFun:=⟨2,[.t 4],nY,false,false⟩
def GN (C:Hd)(gl:GL)(e:En)(h:aA)(x:Esc)(K:KT):Sf C gl nY e h x K:=⟨_,by simp only[nY,↓wZ,AO.still];rfl⟩
theorem zbD {C gl v0 v1 h x K}:NW C gl xS.body ⟨enter [v0,v1],h,x⟩ K=(GN C gl [(0,v0),(1,v1)] h x K).1:=(GN C gl [(0,v0),(1,v1)] h x K).2
def jQ:ACode:=.pr [0,3,4,5] (rg [mV 33 5,
bN 34 .add 33 (cI 1),
mV 5 34] [0,3,4,5])
def IV (C:Hd)(gl:GL)(e:En)(h:aA)(x:Esc)(K:KT):Sf C gl jQ e h x K:=⟨_,by simp only[jQ,↓wZ,AO.still];rfl⟩
theorem zbY {C gl e h x K}:NW C gl jQ ⟨e,h,x⟩ K=(IV C gl e h x K).1:=(IV C gl e h x K).2
def hJ:ACode:=.pr [0,3,4,5] (.seq (.seq (rg [mV 29 5,
mV 30 4,
lN 31 30,
bN 32 .lss 29 31] [0,3,4,5,32])
(.cond 32 .skip
(.exit 2)))
(.seq (.block 3 (.seq (dr [dF (mV 35 4) [4],
dF (mV 36 5) [5],
dF (iA 37 none 35 36) [35,36],
dF (lD 38 none 37) [37],
dF (mV 39 4) [4],
dF (mV 40 5) [5],
dF (bN 41 .sub 40 (cI 1)) [40],
dF (iA 42 none 39 41) [39,41],
dF (lD 43 none 42) [42],
dF (bN 44 .neq 38 43) [38,43]] [0,3,4,5,44])
(.cond 44 (.seq (rg [mV 45 0,
mV 46 3,
mV 47 4,
mV 48 5,
iA 49 none 47 48,
lD 50 none 49,
iA 51 none 45 46,
wO (.store none 51 50)] [0,3,4,5])
(rg [mV 52 3,
bN 53 .add 52 (cI 1),
mV 3 53] [0,3,4,5]))
.skip)))
jQ))
def JV (C:Hd)(gl:GL)(e:En)(h:aA)(x:Esc)(K:KT):Sf C gl hJ e h x K:=⟨_,by simp only[hJ,↓wZ,AO.still];rfl⟩
theorem zbZ {C gl e h x K}:NW C gl hJ ⟨e,h,x⟩ K=(JV C gl e h x K).1:=(JV C gl e h x K).2
theorem zeZ {C gl e h x K}:NW C gl (.loop hJ) ⟨e,h,x⟩ K=CA C gl hJ K [(0,bA e 0),(3,bA e 3),(4,bA e 4),(5,bA e 5)] h x:=YA
def kQ:ACode:=.pr [0,3] (.seq (rg [mV 54 0,
mV 55 3,
uO 56 (.slice none 54 (some 55) none none),
wO (.clr none (.int .i64 0) 56)] [0,3])
(.seq (rg [mV 57 0,
mV 58 3,
uO 59 (.slice none 57 none (some 58) none),
mV 2 59] [2])
.ret))
def KV (C:Hd)(gl:GL)(e:En)(h:aA)(x:Esc)(K:KT):Sf C gl kQ e h x K:=⟨_,by simp only[kQ,↓wZ,AO.still];rfl⟩
theorem zca {C gl e h x K}:NW C gl kQ ⟨e,h,x⟩ K=(KV C gl e h x K).1:=(KV C gl e h x K).2
def lQ:ACode:=.pr [0,3] (rg [mV 14 3,
bN 15 .add 14 (cI 1),
mV 3 15] [0,3])
def LV (C:Hd)(gl:GL)(e:En)(h:aA)(x:Esc)(K:KT):Sf C gl lQ e h x K:=⟨_,by simp only[lQ,↓wZ,AO.still];rfl⟩
theorem zcb {C gl e h x K}:NW C gl lQ ⟨e,h,x⟩ K=(LV C gl e h x K).1:=(LV C gl e h x K).2
def iJ:ACode:=.pr [0,3] (.seq (.seq (rg [mV 10 3,
mV 11 0,
lN 12 11,
bN 13 .lss 10 12] [0,3,13])
(.cond 13 .skip
(.exit 0)))
(.seq (.block 1 (.seq (dr [dF (mV 16 0) [0],
dF (mV 17 3) [3],
dF (iA 18 none 16 17) [16,17],
dF (lD 19 none 18) [18],
dF (mV 20 0) [0],
dF (mV 21 3) [3],
dF (bN 22 .sub 21 (cI 1)) [21],
dF (iA 23 none 20 22) [20,22],
dF (lD 24 none 23) [23],
dF (bN 25 .eql 19 24) [19,24]] [0,3,25])
(.cond 25 (.seq (rg [mV 26 0,
mV 27 3,
uO 28 (.slice none 26 (some 27) none none),
mV 4 28] [0,3,4])
(.seq (.seq (rg [mV 5 (cI 1)] [0,3,4,5])
(.block 2 (.loop hJ)))
kQ))
.skip)))
lQ))
def MV (C:Hd)(gl:GL)(e:En)(h:aA)(x:Esc)(K:KT):Sf C gl iJ e h x K:=⟨_,by simp only[iJ,↓wZ,AO.still];rfl⟩
theorem zcc {C gl e h x K}:NW C gl iJ ⟨e,h,x⟩ K=(MV C gl e h x K).1:=(MV C gl e h x K).2
theorem zfa {C gl e h x K}:NW C gl (.loop iJ) ⟨e,h,x⟩ K=CA C gl iJ K [(0,bA e 0),(3,bA e 3)] h x:=YA
def mQ:ACode:=.pr [0] (.seq (rg [mV 60 0,
mV 2 60] [2])
.ret)
def NV (C:Hd)(gl:GL)(e:En)(h:aA)(x:Esc)(K:KT):Sf C gl mQ e h x K:=⟨_,by simp only[mQ,↓wZ,AO.still];rfl⟩
theorem zcd {C gl e h x K}:NW C gl mQ ⟨e,h,x⟩ K=(NV C gl e h x K).1:=(NV C gl e h x K).2
def xY:ACode:=(.seq (rg [mV 2 (.c (.p (.sl none [])))] [0])
(.seq (.seq (rg [mV 6 0,
lN 7 6,
bN 8 .lss 7 (cI 2)] [0,8])
(.cond 8 (.seq (rg [mV 9 0,
mV 2 9] [2])
.ret)
.skip))
(.seq (.seq (rg [mV 3 (cI 1)] [0,3])
(.block 0 (.loop iJ)))
mQ)))
def GS:AFun:=⟨1,[.t 2],xY,true,false⟩
def zK (C:Hd)(gl:GL)(e:En)(h:aA)(x:Esc)(K:KT):Sf C gl xY e h x K:=⟨_,by simp only[xY,↓wZ,AO.still];rfl⟩
theorem zbX {C gl v0 h x K}:NW C gl GS.body ⟨enter [v0],h,x⟩ K=(zK C gl [(0,v0)] h x K).1:=(zK C gl [(0,v0)] h x K).2
def cJ:ACode:=.pr [0,5,8,9,10] (.seq (rg [bN 11 .lss 10 9] [0,5,8,9,10,11])
(.seq (.cond 11 .skip
(.exit 0))
(.seq (.block 1 (.seq (rg [iA 12 (some 2) 8 10,
lD 13 (some 2) 12,
uO 7 (.alloc [.p (.int .i64 0),.sl0 none]),
wO (.store (some 2) 7 13)] [0,5,7,8,9,10])
(rg [mV 14 5,
mV 15 0,
lD 16 (some 2) 7,
cL 17 TH [15,16],
uO 18 (.bsl false none 1 (.sl none []) [(0,17)]),
uO 19 (.app none 14 18),
mV 5 19] [0,5,8,9,10])))
(rg [bN 20 .add 10 (cI 1),
mV 10 20] [0,5,8,9,10]))))
def uV (C:Hd)(gl:GL)(e:En)(h:aA)(x:Esc)(K:KT):Sf C gl cJ e h x K:=⟨_,by simp only[cJ,↓wZ,AO.still];rfl⟩
theorem zbB {C gl e h x K}:NW C gl cJ ⟨e,h,x⟩ K=(uV C gl e h x K).1:=(uV C gl e h x K).2
theorem zeU {C gl e h x K}:NW C gl (.loop (.scope cJ)) ⟨e,h,x⟩ K=CA C gl (.scope cJ) K [(0,bA e 0),(5,bA e 5),(8,bA e 8),(9,bA e 9),(10,bA e 10)] h x:=FB
def bQ:ACode:=.pr [5] (.seq (rg [mV 21 5,
mV 4 21] [4])
.ret)
def vV (C:Hd)(gl:GL)(e:En)(h:aA)(x:Esc)(K:KT):Sf C gl bQ e h x K:=⟨_,by simp only[bQ,↓wZ,AO.still];rfl⟩
theorem zbC {C gl e h x K}:NW C gl bQ ⟨e,h,x⟩ K=(vV C gl e h x K).1:=(vV C gl e h x K).2
def mY:ACode:=(.seq (rg [mV 4 (.c (.p (.sl none [])))] [0,1])
(.seq (rg [uO 5 (.new0 none)] [0,1,5])
(.seq (.seq (rg [mV 8 1,
lN 9 8,
mV 10 (cI 0)] [0,5,8,9,10])
(.block 0 (.loop (.scope cJ))))
bQ)))
def vS:AFun:=⟨2,[.t 4],mY,false,false⟩
def FN (C:Hd)(gl:GL)(e:En)(h:aA)(x:Esc)(K:KT):Sf C gl mY e h x K:=⟨_,by simp only[mY,↓wZ,AO.still];rfl⟩
theorem zbA {C gl v0 v1 h x K}:NW C gl vS.body ⟨enter [v0,v1],h,x⟩ K=(FN C gl [(0,v0),(1,v1)] h x K).1:=(FN C gl [(0,v0),(1,v1)] h x K).2
def sQ:ACode:=.pr [0,1,5,6] (rg [mV 20 6,
bN 21 .add 20 (cI 1),
mV 6 21] [0,1,5,6])
def XV (C:Hd)(gl:GL)(e:En)(h:aA)(x:Esc)(K:KT):Sf C gl sQ e h x K:=⟨_,by simp only[sQ,↓wZ,AO.still];rfl⟩
theorem zct {C gl e h x K}:NW C gl sQ ⟨e,h,x⟩ K=(XV C gl e h x K).1:=(XV C gl e h x K).2
def mJ:ACode:=.pr [0,1,5,6] (.seq (.seq (rg [mV 16 6,
mV 17 0,
lN 18 17,
bN 19 .lss 16 18] [0,1,5,6,19])
(.cond 19 .skip
(.exit 0)))
(.seq (.block 1 (.seq (rg [mV 22 0,
mV 23 6,
iA 24 none 22 23,
lD 25 none 24,
mV 7 25] [0,1,5,6,7])
(.seq (rg [mV 26 1,
mV 27 7,
uO 28 (.callv 26 [27]),
uO 29 (.un .not 28)] [0,1,5,6,7,29])
(.cond 29 (.seq (rg [mV 30 0,
mV 31 5,
mV 32 7,
iA 33 none 30 31,
wO (.store none 33 32)] [0,1,5,6])
(rg [mV 34 5,
bN 35 .add 34 (cI 1),
mV 5 35] [0,1,5,6]))
.skip))))
sQ))
def YV (C:Hd)(gl:GL)(e:En)(h:aA)(x:Esc)(K:KT):Sf C gl mJ e h x K:=⟨_,by simp only[mJ,↓wZ,AO.still];rfl⟩
theorem zcu {C gl e h x K}:NW C gl mJ ⟨e,h,x⟩ K=(YV C gl e h x K).1:=(YV C gl e h x K).2
theorem zfe {C gl e h x K}:NW C gl (.loop mJ) ⟨e,h,x⟩ K=CA C gl mJ K [(0,bA e 0),(1,bA e 1),(5,bA e 5),(6,bA e 6)] h x:=YA
def tQ:ACode:=.pr [0,5] (.seq (rg [mV 36 0,
mV 37 5,
uO 38 (.slice none 36 (some 37) none none),
wO (.clr none (.int .i64 0) 38)] [0,5])
(.seq (rg [mV 39 0,
mV 40 5,
uO 41 (.slice none 39 none (some 40) none),
mV 4 41] [4])
.ret))
def ZV (C:Hd)(gl:GL)(e:En)(h:aA)(x:Esc)(K:KT):Sf C gl tQ e h x K:=⟨_,by simp only[tQ,↓wZ,AO.still];rfl⟩
theorem zcv {C gl e h x K}:NW C gl tQ ⟨e,h,x⟩ K=(ZV C gl e h x K).1:=(ZV C gl e h x K).2
def EY:ACode:=(.seq (rg [mV 4 (.c (.p (.sl none [])))] [0,1])
(.seq (rg [mV 8 0,
mV 9 1,
cL 10 YH [8,9],
mV 5 10] [0,1,5])
(.seq (.seq (rg [mV 11 5,
bN 12 .eql 11 (cI (-1))] [0,1,5,12])
(.cond 12 (.seq (rg [mV 13 0,
mV 4 13] [4])
.ret)
.skip))
(.seq (.seq (rg [mV 14 5,
bN 15 .add 14 (cI 1),
mV 6 15] [0,1,5,6])
(.block 0 (.loop mJ)))
tQ))))
def NS:AFun:=⟨2,[.t 4],EY,true,false⟩
def TN (C:Hd)(gl:GL)(e:En)(h:aA)(x:Esc)(K:KT):Sf C gl EY e h x K:=⟨_,by simp only[EY,↓wZ,AO.still];rfl⟩
theorem zcs {C gl v0 v1 h x K}:NW C gl NS.body ⟨enter [v0,v1],h,x⟩ K=(TN C gl [(0,v0),(1,v1)] h x K).1:=(TN C gl [(0,v0),(1,v1)] h x K).2
def iY:ACode:=(.seq (rg [mV 3 cF] [0,1])
(.seq (rg [mV 4 0,
lD 5 none 1,
bN 6 .eql 4 5,
mV 3 6] [3])
.ret))
def rS:AFun:=⟨2,[.t 3],iY,false,false⟩
def CN (C:Hd)(gl:GL)(e:En)(h:aA)(x:Esc)(K:KT):Sf C gl iY e h x K:=⟨_,by simp only[iY,↓wZ,AO.still];rfl⟩
theorem zbu {C gl v0 v1 h x K}:NW C gl rS.body ⟨enter [v0,v1],h,x⟩ K=(CN C gl [(0,v0),(1,v1)] h x K).1:=(CN C gl [(0,v0),(1,v1)] h x K).2
def oY:ACode:=(.seq (rg [uO 3 (.box 1),
mV 4 cF] [0,3])
(.seq (rg [mV 5 0,
uO 6 (.mkfn UH [3]),
cL 7 gL [5,6],
uO 8 (.un .not 7),
mV 4 8] [4])
.ret))
def zM:AFun:=⟨2,[.t 4],oY,false,false⟩
def HN (C:Hd)(gl:GL)(e:En)(h:aA)(x:Esc)(K:KT):Sf C gl oY e h x K:=⟨_,by simp only[oY,↓wZ,AO.still];rfl⟩
theorem zbI {C gl v0 v1 h x K}:NW C gl zM.body ⟨enter [v0,v1],h,x⟩ K=(HN C gl [(0,v0),(1,v1)] h x K).1:=(HN C gl [(0,v0),(1,v1)] h x K).2
def lJ:ACode:=.pr [0,1,9,10,11] (.seq (rg [bN 12 .lss 11 10] [0,1,9,10,11,12])
(.seq (.cond 12 .skip
(.exit 0))
(.seq (.block 1 (.seq (rg [mV 13 11,
iA 14 none 9 11,
lD 15 none 14,
mV 5 13,
mV 6 15] [0,1,5,6,9,10,11])
(.seq (.seq (rg [mV 16 5,
mV 17 1,
lN 18 17,
bN 19 .geq 16 18] [0,1,5,6,9,10,11,19])
(.cond 19 (.seq (rg [mV 4 (cI 1)] [4])
.ret)
.skip))
(.seq (rg [mV 20 1,
mV 21 5,
iA 22 none 20 21,
lD 23 none 22,
mV 7 23] [0,1,6,7,9,10,11])
(.seq (rg [mV 24 6,
mV 25 7,
cL 26 KK [24,25],
mV 8 26] [0,1,8,9,10,11])
(.seq (rg [mV 27 8,
bN 28 .neq 27 (cI 0)] [0,1,8,9,10,11,28])
(.cond 28 (.seq (rg [mV 29 8,
mV 4 29] [4])
.ret)
.skip)))))))
(rg [bN 30 .add 11 (cI 1),
mV 11 30] [0,1,9,10,11]))))
def VV (C:Hd)(gl:GL)(e:En)(h:aA)(x:Esc)(K:KT):Sf C gl lJ e h x K:=⟨_,by simp only[lJ,↓wZ,AO.still];rfl⟩
theorem zcm {C gl e h x K}:NW C gl lJ ⟨e,h,x⟩ K=(VV C gl e h x K).1:=(VV C gl e h x K).2
theorem zfd {C gl e h x K}:NW C gl (.loop lJ) ⟨e,h,x⟩ K=CA C gl lJ K [(0,bA e 0),(1,bA e 1),(9,bA e 9),(10,bA e 10),(11,bA e 11)] h x:=YA
def rQ:ACode:=.pr [0,1] (.seq (.seq (rg [mV 31 0,
lN 32 31,
mV 33 1,
lN 34 33,
bN 35 .lss 32 34] [35])
(.cond 35 (.seq (rg [mV 4 (cI (-1))] [4])
.ret)
.skip))
(.seq (rg [mV 4 (cI 0)] [4])
.ret))
def WV (C:Hd)(gl:GL)(e:En)(h:aA)(x:Esc)(K:KT):Sf C gl rQ e h x K:=⟨_,by simp only[rQ,↓wZ,AO.still];rfl⟩
theorem zcn {C gl e h x K}:NW C gl rQ ⟨e,h,x⟩ K=(WV C gl e h x K).1:=(WV C gl e h x K).2
def zY:ACode:=(.seq (rg [mV 4 (cI 0)] [0,1])
(.seq (.seq (rg [mV 9 0,
lN 10 9,
mV 11 (cI 0)] [0,1,9,10,11])
(.block 0 (.loop lJ)))
rQ))
def BM:AFun:=⟨2,[.t 4],zY,false,false⟩
def ON (C:Hd)(gl:GL)(e:En)(h:aA)(x:Esc)(K:KT):Sf C gl zY e h x K:=⟨_,by simp only[zY,↓wZ,AO.still];rfl⟩
theorem zcl {C gl v0 v1 h x K}:NW C gl BM.body ⟨enter [v0,v1],h,x⟩ K=(ON C gl [(0,v0),(1,v1)] h x K).1:=(ON C gl [(0,v0),(1,v1)] h x K).2
def wX:ACode:=(.seq (rg [uO 3 (.box 1),
mV 4 (.c (.p (.sl none []))),
mV 5 (cI 0)] [0,3])
(.seq (rg [mV 6 0,
lD 7 (some 2) 3,
uO 8 (.bsl false (some 2) 1 (.agg [.int .i64 0,.sl none []]) [(0,7)]),
cL 9 MK [6,8],
eX 10 9 0,
eX 11 9 1,
mV 4 10,
mV 5 11] [4,5])
.ret))
def FR:AFun:=⟨2,[.t 4,.t 5],wX,false,false⟩
def YM (C:Hd)(gl:GL)(e:En)(h:aA)(x:Esc)(K:KT):Sf C gl wX e h x K:=⟨_,by simp only[wX,↓wZ,AO.still];rfl⟩
theorem z9G {C gl v0 v1 h x K}:NW C gl FR.body ⟨enter [v0,v1],h,x⟩ K=(YM C gl [(0,v0),(1,v1)] h x K).1:=(YM C gl [(0,v0),(1,v1)] h x K).2
def XX:ACode:=(.seq (rg [mV 6 (cI 0)] [0,1,2])
(.seq (.seq (rg [mV 7 0,
cL 8 CD [7,(cI 12)]] [0,1,2,8])
(.cond 8 (.seq (rg [mV 9 0,
mV 10 1,
bN 11 .sub 10 (cI 1),
mV 12 2,
bN 13 .add 12 (cI 1),
mV 14 1,
mV 15 2,
uO 16 (.bsl false none 6 (.int .i64 0) [(0,11),(1,13),(2,14),(3,15),(4,(cI (-1099511627776))),(5,(cI 1099511627776))]),
cL 17 DD [9,16],
mV 6 17] [6])
.ret)
.skip))
(.seq (rg [mV 18 0,
mV 19 1,
mV 20 2,
cL 21 JC [18,19,20],
mV 6 21] [6])
.ret)))
def fS:AFun:=⟨3,[.t 6],XX,false,false⟩
def sK (C:Hd)(gl:GL)(e:En)(h:aA)(x:Esc)(K:KT):Sf C gl XX e h x K:=⟨_,by simp only[XX,↓wZ,AO.still];rfl⟩
theorem zaP {C gl v0 v1 v2 h x K}:NW C gl fS.body ⟨enter [v0,v1,v2],h,x⟩ K=(sK C gl [(0,v0),(1,v1),(2,v2)] h x K).1:=(sK C gl [(0,v0),(1,v1),(2,v2)] h x K).2
def CX:ACode:=(.seq (rg [mV 2 cF] [0])
(.seq (rg [mV 3 0,
cL 4 VD [3,(cI 3),(cI 5)],
uO 5 (.un .not 4),
mV 2 5] [2])
.ret))
def JR:AFun:=⟨1,[.t 2],CX,false,false⟩
def cN (C:Hd)(gl:GL)(e:En)(h:aA)(x:Esc)(K:KT):Sf C gl CX e h x K:=⟨_,by simp only[CX,↓wZ,AO.still];rfl⟩
theorem z9W {C gl v0 h x K}:NW C gl JR.body ⟨enter [v0],h,x⟩ K=(cN C gl [(0,v0)] h x K).1:=(cN C gl [(0,v0)] h x K).2
def rY:ACode:=(.seq (rg [mV 6 cF] [0,1,2])
(.seq (rg [mV 7 1,
mV 8 0,
bN 9 .leq 7 8,
mV 10 9,
gD 11 10 true (.mv 0),
gD 12 10 true (.mv 2),
gD 13 10 true (.bin .leq 11 12),
uO 14 (.pick 10 13 cF),
mV 6 14] [6])
.ret))
def BS:AFun:=⟨3,[.t 6],rY,false,false⟩
def JN (C:Hd)(gl:GL)(e:En)(h:aA)(x:Esc)(K:KT):Sf C gl rY e h x K:=⟨_,by simp only[rY,↓wZ,AO.still];rfl⟩
theorem zbL {C gl v0 v1 v2 h x K}:NW C gl BS.body ⟨enter [v0,v1,v2],h,x⟩ K=(JN C gl [(0,v0),(1,v1),(2,v2)] h x K).1:=(JN C gl [(0,v0),(1,v1),(2,v2)] h x K).2
def uY:ACode:=(.seq (rg [mV 2 cF] [0])
(.seq (rg [mV 3 0,
cL 4 rE [3,(cI 3),(cI 5)],
mV 2 4] [2])
.ret))
def ES:AFun:=⟨1,[.t 2],uY,false,false⟩
def LN (C:Hd)(gl:GL)(e:En)(h:aA)(x:Esc)(K:KT):Sf C gl uY e h x K:=⟨_,by simp only[uY,↓wZ,AO.still];rfl⟩
theorem zbU {C gl v0 h x K}:NW C gl ES.body ⟨enter [v0],h,x⟩ K=(LN C gl [(0,v0)] h x K).1:=(LN C gl [(0,v0)] h x K).2
def XI:ACode:=.pr [0,3,5,6,7,10,11,18,19] (.seq (rg [bN 20 .lss 19 18] [0,3,5,6,7,10,11,18,19,20])
(.seq (.cond 20 .skip
(.exit 2))
(.seq (.block 3 (.seq (rg [mV 21 19,
mV 8 21] [0,3,5,6,7,8,10,11,18,19])
(rg [mV 22 7,
mV 23 0,
lD 24 (some 2) 3,
mV 25 6,
mV 26 8,
cL 27 bL [23,24,25,26],
uO 28 (.bsl false none 1 (.int .u8 0) [(0,27)]),
uO 29 (.app none 22 28),
mV 7 29] [0,3,5,6,7,10,11,18,19])))
(rg [bN 30 .add 19 (cI 1),
mV 19 30] [0,3,5,6,7,10,11,18,19]))))
def fV (C:Hd)(gl:GL)(e:En)(h:aA)(x:Esc)(K:KT):Sf C gl XI e h x K:=⟨_,by simp only[XI,↓wZ,AO.still];rfl⟩
theorem zbw {C gl e h x K}:NW C gl XI ⟨e,h,x⟩ K=(fV C gl e h x K).1:=(fV C gl e h x K).2
theorem zeP {C gl e h x K}:NW C gl (.loop (.scope XI)) ⟨e,h,x⟩ K=CA C gl (.scope XI) K [(0,bA e 0),(3,bA e 3),(5,bA e 5),(6,bA e 6),(7,bA e 7),(10,bA e 10),(11,bA e 11),(18,bA e 18),(19,bA e 19)] h x:=FB
def UP:ACode:=.pr [0,3,5,7,10,11] (rg [mV 31 5,
mV 32 7,
uO 33 (.conv .b2s 32),
uO 34 (.bsl false none 1 (.str []) [(0,33)]),
uO 35 (.app none 31 34),
mV 5 35] [0,3,5,10,11])
def iV (C:Hd)(gl:GL)(e:En)(h:aA)(x:Esc)(K:KT):Sf C gl UP e h x K:=⟨_,by simp only[UP,↓wZ,AO.still];rfl⟩
theorem zbx {C gl e h x K}:NW C gl UP ⟨e,h,x⟩ K=(iV C gl e h x K).1:=(iV C gl e h x K).2
def VP:ACode:=.pr [0,3,5,10,11] (rg [bN 36 .add 11 (cI 1),
mV 11 36] [0,3,5,10,11])
def jV (C:Hd)(gl:GL)(e:En)(h:aA)(x:Esc)(K:KT):Sf C gl VP e h x K:=⟨_,by simp only[VP,↓wZ,AO.still];rfl⟩
theorem zby {C gl e h x K}:NW C gl VP ⟨e,h,x⟩ K=(jV C gl e h x K).1:=(jV C gl e h x K).2
def YI:ACode:=.pr [0,3,5,10,11] (.seq (rg [bN 12 .lss 11 10] [0,3,5,10,11,12])
(.seq (.cond 12 .skip
(.exit 0))
(.seq (.block 1 (.seq (rg [mV 13 11,
mV 6 13] [0,3,5,6,10,11])
(.seq (rg [uO 7 (.new0 none)] [0,3,5,6,7,10,11])
(.seq (.seq (rg [mV 14 0,
mV 15 6,
iA 16 none 14 15,
lD 17 none 16,
uO 18 (.lens 17),
mV 19 (cI 0)] [0,3,5,6,7,10,11,18,19])
(.block 2 (.loop (.scope XI))))
UP))))
VP)))
def kV (C:Hd)(gl:GL)(e:En)(h:aA)(x:Esc)(K:KT):Sf C gl YI e h x K:=⟨_,by simp only[YI,↓wZ,AO.still];rfl⟩
theorem zbz {C gl e h x K}:NW C gl YI ⟨e,h,x⟩ K=(kV C gl e h x K).1:=(kV C gl e h x K).2
theorem zeQ {C gl e h x K}:NW C gl (.loop (.scope YI)) ⟨e,h,x⟩ K=CA C gl (.scope YI) K [(0,bA e 0),(3,bA e 3),(5,bA e 5),(10,bA e 10),(11,bA e 11)] h x:=FB
def WP:ACode:=.pr [5] (.seq (rg [mV 37 5,
mV 4 37] [4])
.ret)
def lV (C:Hd)(gl:GL)(e:En)(h:aA)(x:Esc)(K:KT):Sf C gl WP e h x K:=⟨_,by simp only[WP,↓wZ,AO.still];rfl⟩
theorem zb0 {C gl e h x K}:NW C gl WP ⟨e,h,x⟩ K=(lV C gl e h x K).1:=(lV C gl e h x K).2
def jY:ACode:=(.seq (rg [uO 3 (.box 1),
mV 4 (.c (.p (.sl none [])))] [0,3])
(.seq (rg [uO 5 (.new0 none)] [0,3,5])
(.seq (.seq (rg [mV 9 0,
lN 10 9,
mV 11 (cI 0)] [0,3,5,10,11])
(.block 0 (.loop (.scope YI))))
WP)))
def sS:AFun:=⟨2,[.t 4],jY,false,false⟩
def DN (C:Hd)(gl:GL)(e:En)(h:aA)(x:Esc)(K:KT):Sf C gl jY e h x K:=⟨_,by simp only[jY,↓wZ,AO.still];rfl⟩
theorem zbv {C gl v0 v1 h x K}:NW C gl sS.body ⟨enter [v0,v1],h,x⟩ K=(DN C gl [(0,v0),(1,v1)] h x K).1:=(DN C gl [(0,v0),(1,v1)] h x K).2
def PI:ACode:=.pr [3,5,6] (.seq (.seq (rg [mV 48 6,
mV 49 5,
lN 50 49,
bN 51 .lss 48 50] [3,5,6,51])
(.cond 51 .skip
(.exit 1)))
(.seq (.block 2 (.seq (dr [dF (mV 54 5) [5],
dF (mV 55 6) [6],
dF (iA 56 none 54 55) [54,55],
dF (lD 57 none 56) [56],
dF (mV 58 5) [5],
dF (mV 59 6) [6],
dF (bN 60 .sub 59 (cI 1)) [59],
dF (iA 61 none 58 60) [58,60],
dF (lD 62 none 61) [61],
dF (bN 63 .leq 57 62) [57,62]] [3,5,6,63])
(.cond 63 (.seq (rg [mV 4 (cI 7)] [4])
.ret)
.skip)))
(rg [mV 52 6,
bN 53 .add 52 (cI 1),
mV 6 53] [3,5,6])))
def z18 (C:Hd)(gl:GL)(v3 v5 v6:AV)(h:aA)(x:Esc)(K:KT):Prop:=
 pK (VB v5) fun t1=>
 pK (sA .lss v6 t1) fun t2=>
 SA t2 (pK (tB none v5 v6 h) fun t3=>
 pK (IA none t3 h) fun t4=>
 pK (sA .sub v6 (AI 1)) fun t5=>
 pK (tB none v5 t5 h) fun t6=>
 pK (IA none t6 h) fun t7=>
 pK (sA .leq t4 t7) fun t8=>
 SA t8 (K .ret ⟨[(4,(AI 7))],h,x⟩)
 (pK (sA .add v6 (AI 1)) fun t9=>
 K .normal ⟨[(3,v3),(5,v5),(6,t9)],h,x⟩))
 (K (.exit 1) ⟨[(3,v3),(5,v5),(6,v6),(51,t2)],h,x⟩)
theorem zba {C gl e h x K}:NW C gl PI ⟨e,h,x⟩ K=z18 C gl (bA e 3) (bA e 5) (bA e 6) h x K:=by kernel_rfl
theorem zeI {C gl e h x K}:NW C gl (.loop PI) ⟨e,h,x⟩ K=CA C gl PI K [(3,bA e 3),(5,bA e 5),(6,bA e 6)] h x:=YA
def LP:ACode:=.pr [3,5] (.seq (.seq (rg [fA 64 0 none 3,
lD 65 none 64,
bN 66 .eql 65 (cI 5),
mV 67 66,
gD 68 67 true (.mv 5),
gD 69 67 true (.faddr 1 none 3),
gD 70 67 true (.load none 69),
gD 71 67 true (.iaddr none 70 (cI 0)),
gD 72 67 true (.load none 71),
gD 73 67 true (.call XD [68,72]),
uO 74 (.pick 67 73 cF)] [74])
(.cond 74 (.seq (rg [mV 4 (cI 6)] [4])
.ret)
.skip))
(.seq (rg [mV 4 (cI 0)] [4])
.ret))
def z19 (C:Hd)(gl:GL)(v3 v5:AV)(h:aA)(x:Esc)(K:KT):Prop:=
 pK (VA 0 none v3) fun t1=>
 pK (IA none t1 h) fun t2=>
 pK (sA .eql t2 (AI 5)) fun t3=>
 gM t3 true v5 h fun t4 h5 y6=>
 gP t3 true (VA 1 none v3) h5 fun t7 h8 y9=>
 gP t3 true (IA none t7 h8) h8 fun t10 h11 y12=>
 gP t3 true (tB none t10 (AI 0) h11) h11 fun t13 h14 y15=>
 gP t3 true (IA none t13 h14) h14 fun t16 h17 y18=>
 gV t3 true h17 (C XD [t4,t16] h17) fun t19 h20 y21=>
 pK (RF t3 t19 (AB false)) fun t22=>
 SA t22 (K .ret ⟨[(4,(AI 6))],h20,(y21++(y18++(y15++(y12++(y9++(y6++x))))))⟩)
 (K .ret ⟨[(4,(AI 0))],h20,(y21++(y18++(y15++(y12++(y9++(y6++x))))))⟩)
theorem zbb {C gl e h x K}:NW C gl LP ⟨e,h,x⟩ K=z19 C gl (bA e 3) (bA e 5) h x K:=by kernel_rfl
def z0s (q1 q2:ACode):ACode:=.pr [3,5] (.seq (.seq (rg [mV 6 (cI 1)] [3,5,6])
(.block 1 (.loop q1)))
q2)
def MP:ACode:=z0s PI LP
def DH (C:Hd)(gl:GL)(q1 q2:ACode)(v3 v5:AV)(h:aA)(x:Esc)(K:KT):Prop:=
 NW C gl (.loop q1) ⟨[(3,v3),(5,v5),(6,(AI 1))],h,x⟩ (tC 1 (iE C gl q2 K))
theorem z5W {C gl q1 q2 e h x K}:NW C gl (z0s q1 q2) ⟨e,h,x⟩ K=DH C gl q1 q2 (bA e 3) (bA e 5) h x K:=by kernel_rfl
theorem zbc {C gl e h x K}:NW C gl MP ⟨e,h,x⟩ K=DH C gl PI LP (bA e 3) (bA e 5) h x K:=z5W
def z0r (q3:ACode):ACode:=(.seq (rg [uO 2 (.box 0),
uO 3 (.box 1),
mV 4 (cI 0)] [2,3])
(.seq (.block 0 (.seq (rg [lD 8 none 2,
cL 9 rE [8,(cI 1),(cI 100)],
uO 10 (.un .not 9),
mV 7 10] [2,3,7])
(.cond 7 (.seq (rg [mV 4 (cI 1)] [4])
.ret)
(.seq (rg [fA 12 0 none 3,
lD 13 none 12,
cL 14 rE [13,(cI 1),(cI 6)],
uO 15 (.un .not 14),
mV 11 15] [2,3,11])
(.cond 11 (.seq (rg [mV 4 (cI 4)] [4])
.ret)
(.seq (rg [fA 17 1 none 3,
lD 18 none 17,
lN 19 18,
bN 20 .eql 19 (cI 0),
mV 16 20] [2,3,16])
(.cond 16 (.seq (rg [mV 4 (cI 8)] [4])
.ret)
(.seq (rg [fA 22 1 none 3,
lD 23 none 22,
lN 24 23,
bN 25 .gtr 24 (cI 6),
mV 21 25] [2,3,21])
(.cond 21 (.seq (rg [mV 4 (cI 2)] [4])
.ret)
(.seq (rg [fA 27 1 none 3,
lD 28 none 27,
uO 29 (.mkfn MG [2]),
cL 30 PG [28,29],
mV 26 30] [3,26])
(.cond 26 (.seq (rg [mV 4 (cI 1)] [4])
.ret)
(.seq (dr [dF (fA 32 0 none 3) [3],
dF (lD 33 none 32) [32],
dT (cL 34 WH [33]) [33],
dF (fA 35 1 none 3) [3],
dA (lD 36 none 35) [35] false [2] [],
dF (lN 37 36) [36],
dF (bN 38 .gtr 37 (cI 1)) [37],
dF (uO 39 (.eqa [] true 34 38)) [34,38],
dF (mV 31 39) [39]] [3,31])
(.cond 31 (.seq (rg [mV 4 (cI 3)] [4])
.ret)
.skip)))))))))))))
(.seq (rg [fA 40 1 none 3,
lD 41 none 40,
mV 5 41] [3,5])
(.seq (.seq (rg [fA 42 0 none 3,
lD 43 none 42,
bN 44 .eql 43 (cI 5)] [3,5,44])
(.cond 44 (rg [fA 45 1 none 3,
lD 46 none 45,
uO 47 (.slice none 46 (some (cI 1)) none none),
mV 5 47] [3,5])
.skip))
q3))))
def mS:AFun:=⟨2,[.t 4],z0r MP,false,false⟩
def RE (C:Hd)(gl:GL)(q3:ACode)(v0 v1:AV)(h:aA)(x:Esc)(K:KT):Prop:=
 wK (QF v0 h) fun t1 h2 y3=>
 wK (QF v1 h2) fun t4 h5 y6=>
 pK (IA none t1 h5) fun t7=>
 C rE [t7,(AI 1),(AI 100)] h5 fun t8 h9 y10=>
 pK (oUn .not t8) fun t11=>
 SA t11 (K .ret ⟨[(4,(AI 1))],h9,(y10++(y6++(y3++x)))⟩)
 (pK (VA 0 none t4) fun t12=>
 pK (IA none t12 h9) fun t13=>
 C rE [t13,(AI 1),(AI 6)] h9 fun t14 h15 y16=>
 pK (oUn .not t14) fun t17=>
 SA t17 (K .ret ⟨[(4,(AI 4))],h15,(y16++(y10++(y6++(y3++x))))⟩)
 (pK (VA 1 none t4) fun t18=>
 pK (IA none t18 h15) fun t19=>
 pK (VB t19) fun t20=>
 pK (sA .eql t20 (AI 0)) fun t21=>
 SA t21 (K .ret ⟨[(4,(AI 8))],h15,(y16++(y10++(y6++(y3++x))))⟩)
 (pK (VA 1 none t4) fun t22=>
 pK (IA none t22 h15) fun t23=>
 pK (VB t23) fun t24=>
 pK (sA .gtr t24 (AI 6)) fun t25=>
 SA t25 (K .ret ⟨[(4,(AI 2))],h15,(y16++(y10++(y6++(y3++x))))⟩)
 (pK (VA 1 none t4) fun t26=>
 pK (IA none t26 h15) fun t27=>
 C PG [t27,(.fn MG [t1])] h15 fun t28 h29 y30=>
 SA t28 (K .ret ⟨[(4,(AI 1))],h29,(y30++(y16++(y10++(y6++(y3++x)))))⟩)
 (pK (VA 0 none t4) fun t31=>
 pK (IA none t31 h29) fun t32=>
 AD C WH [t32] h29 fun t33 h34 y35=>
 pK (VA 1 none t4) fun t36=>
 pK (IA none t36 h34) fun t37=>
 (pK (IA none t36 h29) fun v=>(fun u (g1:aA) (y1:Esc)=>u=t37∧g1=h29∧y1=[]) v h29 [])∧(pK (VB t37) fun t38=>
 pK (sA .gtr t38 (AI 1)) fun t39=>
 pK (XG [] true t33 t39) fun t40=>
 SA t40 (K .ret ⟨[(4,(AI 3))],h34,(y35++(y30++(y16++(y10++(y6++(y3++x))))))⟩)
 (pK (VA 1 none t4) fun t41=>
 pK (IA none t41 h34) fun t42=>
 pK (VA 0 none t4) fun t43=>
 pK (IA none t43 h34) fun t44=>
 pK (sA .eql t44 (AI 5)) fun t45=>
 SA t45 (pK (VA 1 none t4) fun t46=>
 pK (IA none t46 h34) fun t47=>
 pK (cE none t47 (some (AI 1)) none none h34) fun t48=>
 NW C gl q3 ⟨[(3,t4),(5,t48)],h34,(y35++(y30++(y16++(y10++(y6++(y3++x))))))⟩ K)
 (NW C gl q3 ⟨[(3,t4),(5,t42),(44,t45)],h34,(y35++(y30++(y16++(y10++(y6++(y3++x))))))⟩ K))))))))
theorem z5V {C gl q3 v0 v1 h x K}:NW C gl (z0r q3) ⟨enter [v0,v1],h,x⟩ K=RE C gl q3 v0 v1 h x K:=by kernel_rfl
theorem zaZ {C gl v0 v1 h x K}:NW C gl mS.body ⟨enter [v0,v1],h,x⟩ K=RE C gl MP v0 v1 h x K:=z5V
def sJ:ACode:=.pr [0,1,7,8] (.seq (rg [bN 9 .lss 8 7] [0,1,7,8,9])
(.seq (.cond 9 .skip
(.exit 0))
(.seq (.block 1 (.seq (rg [mV 10 8,
mV 5 10] [0,1,5,7,8])
(.seq (rg [mV 11 1,
mV 12 0,
mV 13 5,
iA 14 none 12 13,
lD 15 none 14,
bN 16 .eql 11 15] [0,1,5,7,8,16])
(.cond 16 (.seq (rg [mV 17 5,
mV 4 17] [4])
.ret)
.skip))))
(rg [bN 18 .add 8 (cI 1),
mV 8 18] [0,1,7,8]))))
def lW (C:Hd)(gl:GL)(e:En)(h:aA)(x:Esc)(K:KT):Sf C gl sJ e h x K:=⟨_,by simp only[sJ,↓wZ,AO.still];rfl⟩
theorem zcC {C gl e h x K}:NW C gl sJ ⟨e,h,x⟩ K=(lW C gl e h x K).1:=(lW C gl e h x K).2
theorem zfk {C gl e h x K}:NW C gl (.loop sJ) ⟨e,h,x⟩ K=CA C gl sJ K [(0,bA e 0),(1,bA e 1),(7,bA e 7),(8,bA e 8)] h x:=YA
def zQ:ACode:=.pr [] (.seq (rg [mV 4 (cI (-1))] [4])
.ret)
def mW (C:Hd)(gl:GL)(e:En)(h:aA)(x:Esc)(K:KT):Sf C gl zQ e h x K:=⟨_,by simp only[zQ,↓wZ,AO.still];rfl⟩
theorem zcD {C gl e h x K}:NW C gl zQ ⟨e,h,x⟩ K=(mW C gl e h x K).1:=(mW C gl e h x K).2
def KY:ACode:=(.seq (rg [mV 4 (cI 0)] [0,1])
(.seq (.seq (rg [mV 6 0,
lN 7 6,
mV 8 (cI 0)] [0,1,7,8])
(.block 0 (.loop sJ)))
zQ))
def TS:AFun:=⟨2,[.t 4],KY,true,false⟩
def XN (C:Hd)(gl:GL)(e:En)(h:aA)(x:Esc)(K:KT):Sf C gl KY e h x K:=⟨_,by simp only[KY,↓wZ,AO.still];rfl⟩
theorem zcB {C gl v0 v1 h x K}:NW C gl TS.body ⟨enter [v0,v1],h,x⟩ K=(XN C gl [(0,v0),(1,v1)] h x K).1:=(XN C gl [(0,v0),(1,v1)] h x K).2
def DI:ACode:=.pr [0,14,15,16] (.seq (rg [bN 17 .lss 16 15] [0,14,15,16,17])
(.seq (.cond 17 .skip
(.exit 0))
(.seq (.block 1 (.seq (rg [iA 18 (some 2) 14 16,
lD 19 (some 2) 18,
uO 7 (.alloc [.p (.int .i64 0),.sl0 none]),
wO (.store (some 2) 7 19)] [0,7,14,15,16])
(.seq (rg [mV 20 0,
lN 21 20,
lD 22 (some 2) 7,
cL 23 LK [21,22],
mV 8 23] [0,8,14,15,16])
(.seq (rg [mV 24 8,
bN 25 .neq 24 (cI 0)] [0,8,14,15,16,25])
(.cond 25 (.seq (rg [mV 26 8,
mV 4 26] [4])
.ret)
.skip)))))
(rg [bN 27 .add 16 (cI 1),
mV 16 27] [0,14,15,16]))))
def jU (C:Hd)(gl:GL)(e:En)(h:aA)(x:Esc)(K:KT):Sf C gl DI e h x K:=⟨_,by simp only[DI,↓wZ,AO.still];rfl⟩
theorem z9U {C gl e h x K}:NW C gl DI ⟨e,h,x⟩ K=(jU C gl e h x K).1:=(jU C gl e h x K).2
theorem ze3 {C gl e h x K}:NW C gl (.loop (.scope DI)) ⟨e,h,x⟩ K=CA C gl (.scope DI) K [(0,bA e 0),(14,bA e 14),(15,bA e 15),(16,bA e 16)] h x:=FB
def oP:ACode:=.pr [] (.seq (rg [mV 4 (cI 0)] [4])
.ret)
def kU (C:Hd)(gl:GL)(e:En)(h:aA)(x:Esc)(K:KT):Sf C gl oP e h x K:=⟨_,by simp only[oP,↓wZ,AO.still];rfl⟩
theorem z9V {C gl e h x K}:NW C gl oP ⟨e,h,x⟩ K=(kU C gl e h x K).1:=(kU C gl e h x K).2
def BX:ACode:=(.seq (rg [mV 4 (cI 0)] [0,1])
(.seq (.seq (rg [mV 9 0,
cL 10 GH [9],
mV 5 10] [0,1,5])
(.seq (rg [mV 11 5,
bN 12 .neq 11 (cI 0)] [0,1,5,12])
(.cond 12 (.seq (rg [mV 13 5,
mV 4 13] [4])
.ret)
.skip)))
(.seq (.seq (rg [mV 14 1,
lN 15 14,
mV 16 (cI 0)] [0,14,15,16])
(.block 0 (.loop (.scope DI))))
oP)))
def IR:AFun:=⟨2,[.t 4],BX,false,false⟩
def nK (C:Hd)(gl:GL)(e:En)(h:aA)(x:Esc)(K:KT):Sf C gl BX e h x K:=⟨_,by simp only[BX,↓wZ,AO.still];rfl⟩
theorem z9T {C gl v0 v1 h x K}:NW C gl IR.body ⟨enter [v0,v1],h,x⟩ K=(nK C gl [(0,v0),(1,v1)] h x K).1:=(nK C gl [(0,v0),(1,v1)] h x K).2
def FI:ACode:=.pr [3,5,6,8,9,10,15,16] (.seq (rg [bN 17 .lss 16 15] [3,5,6,8,9,10,15,16,17])
(.seq (.cond 17 .skip
(.exit 2))
(.seq (.block 3 (.seq (rg [mV 18 16,
mV 7 18] [3,5,6,7,8,9,10,15,16])
(rg [mV 19 6,
mV 20 5,
mV 21 7,
uO 22 (.idxs 20 21),
bN 23 .sub 22 (.c (.p (.int .u8 48))),
uO 24 (.conv (.i .u64) 23),
mV 25 7,
bN 26 .shl 24 25,
bN 27 .or 19 26,
mV 6 27] [3,5,6,8,9,10,15,16])))
(rg [bN 28 .add 16 (cI 1),
mV 16 28] [3,5,6,8,9,10,15,16]))))
def nU (C:Hd)(gl:GL)(e:En)(h:aA)(x:Esc)(K:KT):Sf C gl FI e h x K:=⟨_,by simp only[FI,↓wZ,AO.still];rfl⟩
theorem zad {C gl e h x K}:NW C gl FI ⟨e,h,x⟩ K=(nU C gl e h x K).1:=(nU C gl e h x K).2
theorem ze5 {C gl e h x K}:NW C gl (.loop FI) ⟨e,h,x⟩ K=CA C gl FI K [(3,bA e 3),(5,bA e 5),(6,bA e 6),(8,bA e 8),(9,bA e 9),(10,bA e 10),(15,bA e 15),(16,bA e 16)] h x:=YA
def qP:ACode:=.pr [3,6,8,9,10] (rg [mV 29 3,
mV 30 6,
uO 31 (.bsl false none 1 (.int .u64 0) [(0,30)]),
uO 32 (.app none 29 31),
mV 3 32] [3,8,9,10])
def oU (C:Hd)(gl:GL)(e:En)(h:aA)(x:Esc)(K:KT):Sf C gl qP e h x K:=⟨_,by simp only[qP,↓wZ,AO.still];rfl⟩
theorem zae {C gl e h x K}:NW C gl qP ⟨e,h,x⟩ K=(oU C gl e h x K).1:=(oU C gl e h x K).2
def rP:ACode:=.pr [3,8,9,10] (rg [bN 33 .add 10 (cI 1),
mV 10 33] [3,8,9,10])
def pU (C:Hd)(gl:GL)(e:En)(h:aA)(x:Esc)(K:KT):Sf C gl rP e h x K:=⟨_,by simp only[rP,↓wZ,AO.still];rfl⟩
theorem zaf {C gl e h x K}:NW C gl rP ⟨e,h,x⟩ K=(pU C gl e h x K).1:=(pU C gl e h x K).2
def GI:ACode:=.pr [3,8,9,10] (.seq (rg [bN 11 .lss 10 9] [3,8,9,10,11])
(.seq (.cond 11 .skip
(.exit 0))
(.seq (.block 1 (.seq (rg [iA 12 none 8 10,
lD 13 none 12,
mV 5 13] [3,5,8,9,10])
(.seq (rg [mV 6 (.c (.p (.int .u64 0)))] [3,5,6,8,9,10])
(.seq (.seq (rg [mV 14 5,
uO 15 (.lens 14),
mV 16 (cI 0)] [3,5,6,8,9,10,15,16])
(.block 2 (.loop FI)))
qP))))
rP)))
def qU (C:Hd)(gl:GL)(e:En)(h:aA)(x:Esc)(K:KT):Sf C gl GI e h x K:=⟨_,by simp only[GI,↓wZ,AO.still];rfl⟩
theorem zag {C gl e h x K}:NW C gl GI ⟨e,h,x⟩ K=(qU C gl e h x K).1:=(qU C gl e h x K).2
theorem ze6 {C gl e h x K}:NW C gl (.loop (.scope GI)) ⟨e,h,x⟩ K=CA C gl (.scope GI) K [(3,bA e 3),(8,bA e 8),(9,bA e 9),(10,bA e 10)] h x:=FB
def sP:ACode:=.pr [3] (.seq (rg [mV 34 3,
mV 2 34] [2])
.ret)
def rU (C:Hd)(gl:GL)(e:En)(h:aA)(x:Esc)(K:KT):Sf C gl sP e h x K:=⟨_,by simp only[sP,↓wZ,AO.still];rfl⟩
theorem zah {C gl e h x K}:NW C gl sP ⟨e,h,x⟩ K=(rU C gl e h x K).1:=(rU C gl e h x K).2
def GX:ACode:=(.seq (rg [mV 2 (.c (.p (.sl none [])))] [0])
(.seq (rg [uO 3 (.new0 none)] [0,3])
(.seq (.seq (rg [mV 8 0,
lN 9 8,
mV 10 (cI 0)] [3,8,9,10])
(.block 0 (.loop (.scope GI))))
sP)))
def NR:AFun:=⟨1,[.t 2],GX,false,true⟩
def fN (C:Hd)(gl:GL)(e:En)(h:aA)(x:Esc)(K:KT):Sf C gl GX e h x K:=⟨_,by simp only[GX,↓wZ,AO.still];rfl⟩
theorem zac {C gl v0 h x K}:NW C gl NR.body ⟨enter [v0],h,x⟩ K=(fN C gl [(0,v0)] h x K).1:=(fN C gl [(0,v0)] h x K).2
end Go.Am
end
