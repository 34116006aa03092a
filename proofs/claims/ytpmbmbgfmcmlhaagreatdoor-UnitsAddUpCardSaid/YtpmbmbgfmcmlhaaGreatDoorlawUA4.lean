/- Texts of the proof, laid together: Am31, AmX, AmS, AmW, CodesA. -/
import GoSem.Extern.Table
import Derived.Laws.World
import Derived.KernelRfl
import Derived.Test.YtpmbmbgfmcmlhaaGreatDoorlawUA3
set_option linter.all false
section
/- The abstract machine,part 31: words in which a function's code is printed,and the rules of computing over them. -/
set_option linter.unusedSimpArgs false
set_option linter.unusedVariables false
namespace Go.Am
variable {C:Hd} {gl:Nat→Option PV} {e:List (Nat × AV)} {h:aA} {x:Esc} {K:Ex→St→Prop} {s:St}
abbrev AI (n:Int):AV:=.p (.int .i64 n)
abbrev AB (b:Bool):AV:=.p (.bool b)
def yC (C:Hd)(gl:Nat→Option PV)(b:ACode)(K:Ex→St→Prop)(e:Ex)(s:St):Prop:=match e with
 | .normal=>NW C gl b s K
 | .exit i=>K (.exit i) s
 | .ret=>K .ret s
def JB (id:Nat)(K:Ex→St→Prop)(e:Ex)(s:St):Prop:=match e with
 | .normal=>K .normal s
 | .exit i=>bif Nat.beq i id then K .normal s else K (.exit i) s
 | .ret=>K .ret s
def nqK (sh:Option Sh)(l:List AV)(h:aA)(k:AV→aA→Esc→Prop):Prop:=match EG h sh l with
 | some l=>l≠[]∧∀y∈l,k y.1 y.2 []
 | none=>False
def nxK (i:AV)(h:aA)(k:AV→aA→Esc→Prop):Prop:=match SO h i with
 | some l=>l≠[]∧∀y∈l,k y.1 y.2 []
 | none=>False
def gv (gl:Nat→Option PV)(n:Nat):AV:=match gl n with|some v=>.vp v|none=>.und
theorem z5r {b:ACode}:yC C gl b K .normal s=NW C gl b s K:=(rfl)
theorem z5q {b:ACode}{i:Nat}:yC C gl b K (.exit i) s=K (.exit i) s:=(rfl)
theorem z5s {b:ACode}:yC C gl b K .ret s=K .ret s:=(rfl)
theorem z0l {i:Nat}:JB i K .normal s=K .normal s:=(rfl)
theorem z0n {i:Nat}:JB i K (.exit i) s=K .normal s:=by simp [JB]
theorem z8o {i j:Nat}:JB i K (.exit j) s=bif Nat.beq j i then K .normal s else K (.exit j) s:=(rfl)
theorem z0m {i:Nat}:JB i K .ret s=K .ret s:=(rfl)
theorem z8n {i:Nat}{ex ex':Ex}{s s':St}(he:ex=ex')(hs:s=s'):JB i K ex s=JB i K ex' s':=by rw[he,hs]
theorem z6n {b:ACode}:NW C gl (.scope b) ⟨e,h,x⟩ K=NW C gl b ⟨e,h,[]⟩ (LY h.length x K):=(rfl)
theorem z6m {c:ACode}{s s':St}(hs:s=s'):NW C gl c s K=NW C gl c s' K:=by rw[hs]
def DA (C:Hd)(gl:Nat→Option PV)(b:ACode)(K:Ex→St→Prop)(e:List (Nat × AV))(h:aA)(x:Esc):Prop:=ALoop (NW C gl b) K ⟨e,h,x⟩
theorem mB {l:List Nat}{b:ACode}:NW C gl (.loop (.pr l b)) ⟨e,h,x⟩ K=DA C gl (.pr l b) K (xA (some l) e) h x:=by
 show ALoop _ _ _=ALoop _ _ _
 exact nZ (funext fun R=>by show NW C gl b _ R=NW C gl b _ R;dsimp only;rw[z4o])
theorem CC {l:List Nat}{b:ACode}:NW C gl (.loop (.scope (.pr l b))) ⟨e,h,x⟩ K=DA C gl (.scope (.pr l b)) K (xA (some l) e) h x:=by
 show ALoop _ _ _=ALoop _ _ _
 exact nZ (funext fun R=>by show NW C gl b _ _=NW C gl b _ _;dsimp only;rw[z4o])
theorem z6l {b:ACode}{e e':List (Nat × AV)}{h h':aA}{x x':Esc}(h1:e=e')(h2:h=h')(h3:x=x'):DA C gl b K e h x=DA C gl b K e' h' x':=by rw[h1,h2,h3]
theorem CA {σ:Type}{b:ACode}(S:σ→St)(P:σ→Prop)(m:σ→Nat)(t0:σ)(hs:(⟨e,h,x⟩:St)=S t0)(h0:P t0)(hr:∀ t,P t→NW C gl b (S t) (KL S P m K t)):DA C gl b K e h x:=by
 show ALoop (NW C gl b) K _
 rw[hs];have key:∀n t,m t<n→P t→ALoop (NW C gl b) K (S t):=by
  intro n;induction n with
  | zero=>intro t h;omega
  | succ n ih=>
   intro t hm hp;refine .mk _ _ (hr t hp) (fun s' h'=>?_) (fun i s' h'=>h') (fun s' h'=>h')
   obtain⟨u,rfl,hu,hlt⟩:=h';exact ih u (by omega) hu
 exact key _ t0 (Nat.lt_succ_self _) h0
theorem yA {X:Ctx}{f:Nat}{F:AFun}{a asv:List AV}{h h1:aA}{P:kA}(hf:X.fn f=some F)(hr:F.byref=false)(hp:oA h a=some (asv,h1))(hl:asv.length=F.nparams)(hd:F.isDet=false:=by rfl) :
 gA X f a h P=NW (gA X) X.gl F.body ⟨enter asv,h1,[]⟩ (mA F.results F.keep h.length P):=by
 rw[zkZ hf hr hp hl hd,iD]
theorem z0u {X:Ctx}{f:Nat}{F:AFun}{a asv:List AV}{h h1:aA}{P:kA}(hf:X.fn f=some F)(hr:F.byref=false)(hp:oA h a=some (asv,h1))(hl:asv.length=F.nparams)(hd:F.isDet=true:=by rfl) :
 gA X f a h P = ∃v h' x,P v h' x∧NW (gA X) X.gl F.body ⟨enter asv,h1,[]⟩ (mA F.results F.keep h.length fun v1 h1 x1=>v1=v∧h1=h'∧x1=x):=by
 rw[zla hf hr hp hl hd];simp only[iD]
theorem PD {X:Ctx}{f:Nat}{F:AFun}{asv:List AV}{h:aA}{P:kA}(hf:X.fn f=some F)(hr:F.byref=true)(hl:asv.length=F.nparams)(hd:F.isDet=false:=by rfl) :
 gA X f asv h P=NW (gA X) X.gl F.body ⟨enter asv,h,[]⟩ (mA F.results F.keep h.length P):=by
 rw[zkX hf hr hl hd,iD]
theorem z4l {v:AV}{k:AV→Prop}:pK (some v) k=k v:=(rfl)
theorem z4k {k:AV→Prop}:pK none k=False:=(rfl)
theorem z5J {v:AV}{h:aA}{x:Esc}{k:AV→aA→Esc→Prop}:wK (some (v,h,x)) k=k v h x:=(rfl)
theorem zg2 {p:Prop}[Decidable p]{a b:Option AV}{k:AV→Prop}:pK (if p then a else b) k=if p then pK a k else pK b k:=by split <;> rfl
theorem zg1 {o o':Option AV}{k:AV→Prop}(h:o=o'):pK o k=pK o' k:=by rw[h]
theorem zlQ {o o':Option (AV × aA × Esc)}{k:AV→aA→Esc→Prop}(h:o=o'):wK o k=wK o' k:=by rw[h]
theorem zei {v v':AV}{b:Bool}{h:aA}{A:(AV→aA→Esc→Prop)→Prop}{k:AV→aA→Esc→Prop}(h1:v=v'):gV v b h A k=gV v' b h A k:=by rw[h1]
theorem zeg {v v':AV}{b:Bool}{o:Option AV}{h:aA}{k:AV→aA→Esc→Prop}(h1:v=v'):gP v b o h k=gP v' b o h k:=by rw[h1]
theorem zee {v v':AV}{b:Bool}{u:AV}{h:aA}{k:AV→aA→Esc→Prop}(h1:v=v'):gM v b u h k=gM v' b u h k:=by rw[h1]
section
variable {A:(AV→aA→Esc→Prop)→Prop} {o:Option AV} {u:AV} {k:AV→aA→Esc→Prop} {t b:Bool}
theorem z3g:gV (.p (.bool true)) true h A k=A k:=(rfl)
theorem z3c:gV (.p (.bool false)) false h A k=A k:=(rfl)
theorem z3f:gV (.p (.bool true)) false h A k=k .skp h []:=(rfl)
theorem z3d:gV (.p (.bool false)) true h A k=k .skp h []:=(rfl)
theorem z3e:gV .skp b h A k=k .skp h []:=(rfl)
theorem zeh:gV (.p (.bool t)) b h A k=vD (.p (.bool t)) b (A k) (k .skp h []):=(rfl)
theorem z3b:gP (.p (.bool true)) true o h k=pK o fun v=>k v h []:=(rfl)
theorem z2X:gP (.p (.bool false)) false o h k=pK o fun v=>k v h []:=(rfl)
theorem z3a:gP (.p (.bool true)) false o h k=k .skp h []:=(rfl)
theorem z2Y:gP (.p (.bool false)) true o h k=k .skp h []:=(rfl)
theorem z2Z:gP .skp b o h k=k .skp h []:=(rfl)
theorem zef:gP (.p (.bool t)) b o h k=vD (.p (.bool t)) b (pK o fun v=>k v h []) (k .skp h []):=(rfl)
theorem z2W:gM (.p (.bool true)) true u h k=k u h []:=(rfl)
theorem z2S:gM (.p (.bool false)) false u h k=k u h []:=(rfl)
theorem z2V:gM (.p (.bool true)) false u h k=k .skp h []:=(rfl)
theorem z2T:gM (.p (.bool false)) true u h k=k .skp h []:=(rfl)
theorem z2U:gM .skp b u h k=k .skp h []:=(rfl)
theorem zec:gM (.p (.bool t)) b u h k=vD (.p (.bool t)) b (k u h []) (k .skp h []):=(rfl)
end
section
variable {k k':IntKind} {a b:Int} {sa sb:List UInt8}
theorem z8a:BA .add (.p (.int k a)) (.p (.int k b))=some (.p (.int k (k.wrap (a+b)))):=by simp [BA,BB,NC]
theorem z8m:BA .sub (.p (.int k a)) (.p (.int k b))=some (.p (.int k (k.wrap (a-b)))):=by simp [BA,BB,NC]
theorem z8g:BA .mul (.p (.int k a)) (.p (.int k b))=some (.p (.int k (k.wrap (a*b)))):=by simp [BA,BB,NC]
theorem z8j:BA .quo (.p (.int k a)) (.p (.int k b))=if b=0 then none else some (.p (.int k (k.wrap (a.tdiv b)))):=by simp [BA,BB,NC] <;> split <;> rfl
theorem z8k:BA .rem (.p (.int k a)) (.p (.int k b))=if b=0 then none else some (.p (.int k (a.tmod b))):=by simp [BA,BB,NC] <;> split <;> rfl
theorem z8b:BA .eql (.p (.int k a)) (.p (.int k b))=some (.p (.bool (decide (a=b)))):=by simp [BA,BB,NC]
theorem z8h:BA .neq (.p (.int k a)) (.p (.int k b))=some (.p (.bool (!decide (a=b)))):=by simp [BA,BB,NC]
theorem z8f:BA .lss (.p (.int k a)) (.p (.int k b))=some (.p (.bool (decide (a<b)))):=by simp [BA,BB,NC]
theorem z8e:BA .leq (.p (.int k a)) (.p (.int k b))=some (.p (.bool (decide (a≤b)))):=by simp [BA,BB,NC]
theorem z8d:BA .gtr (.p (.int k a)) (.p (.int k b))=some (.p (.bool (decide (b<a)))):=by simp [BA,BB,NC]
theorem z8c:BA .geq (.p (.int k a)) (.p (.int k b))=some (.p (.bool (decide (b≤a)))):=by simp [BA,BB,NC]
theorem z8l:BA .shr (.p (.int k a)) (.p (.int k' b))=if b<0 then none else some (.p (.int k (LI k a b))):=by simp [BA,BB] <;> split <;> rfl
theorem zlh:BA .add (.p (.str sa)) (.p (.str sb))=if sa.length+sb.length≤LL then some (.p (.str (sa++sb))) else none:=by simp [BA,BB,CH] <;> split <;> rfl
theorem zli:BA .eql (.p (.str sa)) (.p (.str sb))=some (.p (.bool (decide (sa=sb)))):=by simp [BA,BB,CH]
theorem zlI:oUn .neg (.p (.int k a))=some (.p (.int k (k.wrap (-a)))):=by simp [oUn,aun]
theorem zlJ {t:Bool}:oUn .not (.p (.bool t))=some (.p (.bool !t)):=(rfl)
theorem convI {k':IntKind}:SI k (.p (.int k' a))=some (.p (.int k (k.wrap a))):=(rfl)
theorem zgq {i j:Nat}:UL (.ref i j)=some (.ref i j):=(rfl)
theorem zjA {t:Bool}{u v:AV}:nH (.p (.bool t)) u v=some (bif t then u else v):=(rfl)
theorem zf9 {sh:Sh}{xs:List PV}:ID (.p (.sl sh xs))=some (.p (.int .i64 xs.length)):=(rfl)
theorem zf8 {i g o l:Nat}:ID (.own i g o l)=some (.p (.int .i64 l)):=(rfl)
theorem zfC:TL (.p (.str sa))=some (.p (.int .i64 sa.length)):=(rfl)
theorem ext_t {vs:List AV}{i:Nat}:lH (.tup vs) i=vs[i]?:=(rfl)
theorem zdN {off i j:Nat}{sh:Sh}:vB off sh (.ref i j)=some (.ref i (j+off)):=(rfl)
theorem zdO {off:Nat}{sh:Sh}{v:PV}:vB off sh (.vp v)=(MA sh off v).map .vp:=(rfl)
def ldB (sh:Sh)(off:Nat):Option Obj→Option AV
 | some (.box cs)=>cut sh off cs
 | _=>none
def ldR (sh:Sh)(g i off:Nat):Option Obj→Option AV
 | some (.row _ xs _)=>if g=xs.length then((xs[i]?).bind (MA sh off)).map .p else none
 | _=>none
theorem zfK {sh:Sh}{i j:Nat}:YA sh (.ref i j) h=ldB sh j h[i]?:=by unfold YA ldB;rfl
theorem zfL {sh:Sh}{i g m n:Nat}:YA sh (.rref i g m n) h=ldR sh g m n h[i]?:=by unfold YA ldR;rfl
theorem z3G {sh:Sh}{v:PV}:YA sh (.vp v) h=(MA sh 0 v).map .p:=(rfl)
theorem zf3 {sh:Sh}{off:Nat}{cs:List AV}:ldB sh off (some (.box cs))=cut sh off cs:=(rfl)
theorem zf4 {sh sh':Sh}{g i off fz:Nat}{xs:List PV}:ldR sh g i off (some (.row sh' xs fz))=if g=xs.length then((xs[i]?).bind (MA sh off)).map .p else none:=(rfl)
def stB (sh:Sh)(id off:Nat)(v:AV)(h:aA):Option Obj→Option (List AV)→Option (AV×aA×Esc)
 | some (.box cs),some vs=>if vs.length=jA sh∧off+vs.length≤cs.length then some (.und,h.set id (.box (splice cs off vs)),NF id cs v) else none
 | _,_=>none
theorem zlf {sh:Sh}{i j:Nat}{v:AV}:vC sh (.ref i j) v h=stB sh i j v h h[i]? v.cells:=by unfold vC stB;rfl
theorem zkQ {sh:Sh}{id off:Nat}{v:AV}{cs vs:List AV}:stB sh id off v h (some (.box cs)) (some vs)=if vs.length=jA sh∧off+vs.length≤cs.length then some (.und,h.set id (.box (splice cs off vs)),NF id cs v) else none:=(rfl)
theorem zd5 {id:Nat}{cs:List AV}{v:AV}(h:KI cs=false):NF id cs v=bC id v:=by
 unfold NF;rw[h];rfl
theorem zeB {a:AV}{v:PV}:KI [a,.p v]=false:=(rfl)
theorem zeA {a b c:AV}{l:List AV}:KI (a::b::c::l)=false:=by unfold KI;split <;> first|rfl|(rename_i h;simp at h)
def stE (sh:Sh)(id i off fz:Nat)(rsh:Sh)(xs:List PV)(v:PV)(h1:aA):Option PV→Option (AV×aA×Esc)
 | some (.agg cs)=>if off+v.cells.length≤cs.length then some (.und,h1.set id (.row rsh (xs.set i (.agg (splice cs off v.cells))) fz),[]) else none
 | some _=>if off=0∧v.sc then some (.und,h1.set id (.row rsh (xs.set i v) fz),[]) else none
 | none=>none
def stO (sh:Sh)(id g i off:Nat)(v:PV)(h1:aA):Option Obj→Option (AV×aA×Esc)
 | some (.row rsh xs fz)=>if g=xs.length∧fz≤i∧v.cells.length=jA sh∧v.cells.all PV.sc then stE sh id i off fz rsh xs v h1 xs[i]? else none
 | _=>none
def stR (sh:Sh)(id g i off:Nat):Option (PV×aA)→Option (AV×aA×Esc)
 | some y=>stO sh id g i off y.1 y.2 y.2[id]?
 | none=>none
theorem zlg {sh:Sh}{id g i off:Nat}{x:AV}:vC sh (.rref id g i off) x h=stR sh id g i off (pur h x):=by
 unfold vC stR;cases pur h x with
 | none=>rfl
 | some y=>
  obtain⟨v,h1⟩:=y;dsimp only;unfold stO;cases h1[id]? with
  | none=>rfl
  | some o=>cases o <;> rfl
theorem zkT {sh:Sh}{id g i off:Nat}{v:PV}{h1:aA}:stR sh id g i off (some (v,h1))=stO sh id g i off v h1 h1[id]?:=(rfl)
theorem zkS {sh rsh:Sh}{id g i off fz:Nat}{v:PV}{h1:aA}{xs:List PV}:stO sh id g i off v h1 (some (.row rsh xs fz))=if g=xs.length∧fz≤i∧v.cells.length=jA sh∧v.cells.all PV.sc then stE sh id i off fz rsh xs v h1 xs[i]? else none:=(rfl)
theorem zkR {sh rsh:Sh}{id i off fz:Nat}{v:PV}{h1:aA}{xs cs:List PV}:stE sh id i off fz rsh xs v h1 (some (.agg cs))=if off+v.cells.length≤cs.length then some (.und,h1.set id (.row rsh (xs.set i (.agg (splice cs off v.cells))) fz),[]) else none:=(rfl)
def iaS (xs:List PV):Option Nat→Option AV
 | some k=>(xs[k]?).map .vp
 | none=>none
theorem ze1 {sh:Sh}{xs:List PV}{i:AV}:dD sh (.p (.sl sh xs)) i h=iaS xs (aB i):=by
 unfold dD iaS;cases aB i <;> simp
theorem zey {xs:List PV}{n:Nat}:iaS xs (some n)=(xs[n]?).map .vp:=(rfl)
def iaO (sh:Sh)(id g off len:Nat):Option Obj→Option Nat→Option AV
 | some (.row rsh xs _),some k=>if rsh=sh∧g=xs.length∧off+len≤xs.length∧k<len then some (.rref id g (off+k) 0) else none
 | _,_=>none
theorem ze0 {sh:Sh}{id g off len:Nat}{i:AV}:dD sh (.own id g off len) i h=iaO sh id g off len h[id]? (aB i):=by
 unfold dD iaO;cases aB i with
 | none=>dsimp only;cases h[id]? with
  | none=>rfl
  | some o=>cases o <;> rfl
 | some k=>dsimp only;cases h[id]? with
  | none=>rfl
  | some o=>cases o <;> rfl
theorem zex {sh rsh:Sh}{id g off len k fz:Nat}{xs:List PV}:iaO sh id g off len (some (.row rsh xs fz)) (some k)=if rsh=sh∧g=xs.length∧off+len≤xs.length∧k<len then some (.rref id g (off+k) 0) else none:=(rfl)
theorem ze7 {i:AV}:TI (.p (.str sa)) i=(aB i).bind fun n=>(sa[n]?).map fun b=>.p (.int .u8 b.toNat):=by
 unfold TI;cases aB i <;> rfl
end
theorem TZ {z:List AV}{k:AV→aA→Esc→Prop}:alK z h k=k (.ref h.length 0) (h++[.box z]) []:=(rfl)
theorem z4c {sh:Sh}{k:AV→aA→Esc→Prop}:nwK sh h k=k (.own h.length 0 0 0) (h++[.row sh [] 0]) []:=(rfl)
theorem z3S {k:AV→aA→Esc→Prop}:mmK h k=k (.mp h.length) (h++[.amap [] 0]) []:=(rfl)
theorem zaa {A B:Prop}:nK (.p (.bool false)) A B=B:=(rfl)
theorem z9Z {A B:Prop}:nK .anyb A B=(A∧B):=(rfl)
attribute [go_sem] z5r z5q z5s z0l z0n z0m z6n z4l z4k z5J zg2 z3g z3c z3f z3d z3e z3b z2X z3a z2Y z2Z z2W z2S z2V z2T z2U z8a z8m z8g z8j z8k z8b z8h z8f z8e z8d z8c z8l zlh zli zlI zlJ convI zgq zjA zf9 zf8 zfC ext_t zdN zdO zfK zfL z3G zf3 zf4 zlf zkQ zlg zkT zkS zkR zd5 zeB zeA ze1 zey ze0 zex ze7 TZ z4c z3S zF z5k upcB neqB lenB n64 z0X strB appB rds rd oBox UB pL dC qL kH RL aG zaa z9Z PL cP fG rD dP WC VL eG mH QL bG XO oClr oMx oMn WB uC bP YO aP SL dG cG
attribute [go_sem ↓] z4l z4k z5J z3g z3c z3f z3d z3e z3b z2X z3a z2Y z2Z z2W z2S z2V z2T z2U z0L z0K z5r z5q z5s z0l z0n z0m TZ z4c z3S z3K z3J z3L z5p z2A z2B
attribute [go_sem low] zeh zef zec z8o
attribute [congr] z8n z6m z6l zg1 zlQ zei zeg zee
end Go.Am
end
section
/- The abstract machine,part X: the library's functions that have no Go text: comparing strings,finding a byte. -/
set_option linter.unusedSimpArgs false
set_option linter.unusedVariables false
namespace Go.Am
variable {P:Program}
structure ExtRow (P:Program) (f:Nat) (e:Array Value→Sem Value):Prop where
 row:∃fn,P.funcs[f]?=some fn∧fn.name ≠ "runtime.NumGoroutine" ∧ fn.body=none∧Extern.findNext fn=none∧Extern.find fn=some e
theorem ExtRow.run {f:Nat}{e:Array Value→Sem Value}(R:ExtRow P f e){us:Array Value}{w w':World}{x:Value}(he:(e us).run P w = .ok x w'):(callFunc f us).run P w = .ok (.value x) w':=by
 obtain⟨fn,h1,h2,h3,h4,h5⟩:=R.row;unfold callFunc;simp [h1,h2,h3,h4,h5,he]
theorem znv {f:Nat}{e:Array Value→Sem Value}(h:(match P.funcs[f]? with | some fn=>fn.name != "runtime.NumGoroutine" && fn.body.isNone&&(Extern.findNext fn).isNone | none=>false)=true)(h2:(P.funcs[f]?).bind Extern.find=some e):ExtRow P f e:=by
 cases hf:P.funcs[f]? with
 | none=>rw[hf]at h;cases h
 | some fn=>
  rw[hf]at h h2;simp only[Bool.and_eq_true,bne_iff_ne,ne_eq,Option.isNone_iff_eq_none]at h;exact⟨⟨fn,hf,h.1.1,h.1.2,h.2,h2⟩⟩
def pE (s:List UInt8)(c:UInt8):Int:=if s.findIdx (· == c)<s.length then(s.findIdx (· == c):Int) else -1
def OA:List UInt8→List UInt8→Int
 | [],[]=>0
 | [],_::_=>-1
 | _::_,[]=>1
 | a::asv,b::bs=>if a<b then -1 else if b<a then 1 else OA asv bs
theorem z0f (s:List UInt8)(i:Nat):(⟨s.toArray⟩:ByteArray)[i]! = s.getD i 0:=by
 by_cases h:i<s.length
 ·rw[getElem!_pos (⟨s.toArray⟩:ByteArray) i h]
  show s.toArray[i]=_
  simp [h]
 ·rw[getElem!_neg (⟨s.toArray⟩:ByteArray) i h]
  simp [Nat.not_lt.1 h];rfl
theorem zdX (s:List UInt8)(c:UInt8):(match (List.range (⟨s.toArray⟩:ByteArray).size).find? fun i=>(⟨s.toArray⟩:ByteArray)[i]! == c with
 | some i=>(i:Int)
 | none=>-1)=pE s c:=by
 have hsz:(⟨s.toArray⟩:ByteArray).size=s.length:=rfl
 have hget:∀i,i<s.length→(⟨s.toArray⟩:ByteArray)[i]! = s.getD i 0:=by
  intro i hi;exact z0f s i
 unfold pE;rw[hsz];by_cases h:s.findIdx (· == c)<s.length
 ·rw[if_pos h]
  have hf:(List.range s.length).find? (fun i=>(⟨s.toArray⟩:ByteArray)[i]! == c)=some (s.findIdx (· == c)):=by
   rw[List.find?_eq_some_iff_getElem];refine⟨?_,s.findIdx (· == c),by simpa using h,by simp,fun j hj=>?_⟩
   ·rw[hget _ h]
    have:=List.findIdx_getElem (w:=h);simpa [h] using this
   ·simp only[List.getElem_range]
    have hj':j<s.length:=by omega
    rw[hget _ hj'];have:=List.not_of_lt_findIdx hj;simpa [hj'] using this
  rw[hf]
 ·rw[if_neg h]
  have hf:(List.range s.length).find? (fun i=>(⟨s.toArray⟩:ByteArray)[i]! == c)=none:=by
   rw[List.find?_eq_none];intro i hi;rw[List.mem_range]at hi;rw[hget _ hi];intro hc;exact h (List.findIdx_lt_length_of_exists ⟨s[i],List.getElem_mem hi,by simpa [hi] using hc⟩)
  rw[hf]
theorem z9S:∀ (a b:List UInt8),Extern.BytealgCompare.cmp ⟨a.toArray⟩ ⟨b.toArray⟩=OA a b:=by
 have key:∀(a b:List UInt8),(match (List.range (min a.length b.length)).find? fun i=>a.getD i 0 != b.getD i 0 with
  | some i=>if a.getD i 0<b.getD i 0 then(-1:Int) else 1
  | none=>if a.length<b.length then -1 else if a.length>b.length then 1 else 0)=OA a b:=by
  intro a;induction a with
  | nil=>intro b;cases b <;> simp [OA]
  | cons x a ih=>
   intro b;cases b with
   | nil=>simp [OA]
   | cons y b=>
    have hm:min (x::a).length (y::b).length=min a.length b.length+1:=by simp only[List.length_cons];omega
    rw[hm,List.range_succ_eq_map,List.find?_cons];simp only[List.getD_cons_zero];by_cases hxy:x=y
    ·subst hxy
     have hlt:¬x<x:=UInt8.lt_irrefl x
     simp only[bne_self_eq_false,List.find?_map,OA,hlt,if_false];rw[←ih b];have hc:((fun i=>(x::a).getD i 0 != (x::b).getD i 0) ∘ Nat.succ)=fun i=>a.getD i 0 != b.getD i 0:=by
      funext i;simp
     rw[hc];cases (List.range (min a.length b.length)).find? fun i=>a.getD i 0 != b.getD i 0 with
     | none=>simp
     | some i=>simp
    ·have:(x != y)=true:=by simpa using hxy
     rw[this];simp only[OA,List.getD_cons_zero];by_cases h1:x<y
     ·simp [h1]
     ·have h2:y<x:=by
       rcases UInt8.lt_or_lt_of_ne (a:=x) (b:=y) hxy with h|h
       ·exact absurd h h1
       ·exact h
      simp [h1,h2]
 intro a b;rw[←key a b];unfold Extern.BytealgCompare.cmp;have sa:(⟨a.toArray⟩:ByteArray).size=a.length:=rfl
 have sb:(⟨b.toArray⟩:ByteArray).size=b.length:=rfl
 simp only[sa,sb,z0f];generalize List.find? _ _=q;cases q <;> rfl
def KG (fi fc:Nat)(f:Nat)(vs:List PV):Option PV:=
 bif Nat.beq f fi then(match vs with
  | [.str s,.int .u8 c]=>some (.int .i64 (pE s (UInt8.ofNat c.toNat)))
  | _=>none)
 else bif Nat.beq f fc then(match vs with
  | [.str a,.str b]=>some (.int .i64 (OA a b))
  | _=>none)
 else none
theorem extF_ok {fi fc:Nat}(h1:ExtRow P fi Extern.BytealgIndexByte.indexByte)(h2:ExtRow P fc Extern.BytealgCompare.compare){f:Nat}{vs:List PV}{r:PV}(h:KG fi fc f vs=some r):uZ P f vs r:=by
 intro M w us hM hl hr;unfold KG at h;cases e1:Nat.beq f fi with
 | true=>
  rw[e1]at h;have e:=Nat.eq_of_beq_eq_true e1
  subst e;simp only[cond_true]at h;split at h
  ·rename_i s c
   injection h with h
   subst h;match us,hl with
   | [u,v],_=>
    have q1:=hr 0 _ u rfl rfl
    have q2:=hr 1 _ v rfl rfl
    cases q1;cases q2
    refine⟨.int .i64 (pE s (UInt8.ofNat c.toNat)),w,h1.run ?_,WExt.refl w,.int _ _⟩;rw[←zdX];show(match (List.range (⟨s.toArray⟩:ByteArray).size).find? fun i=>(⟨s.toArray⟩:ByteArray)[i]! == UInt8.ofNat c.toNat with|some i=>(pure (goInt i):Sem Value)|none=>pure (goInt (-1))).run P w=_
    generalize List.find? _ _=q;cases q <;> rfl
  ·cases h
 | false=>
  rw[e1]at h;simp only[cond_false]at h;cases e2:Nat.beq f fc with
  | true=>
   rw[e2]at h;have e:=Nat.eq_of_beq_eq_true e2
   subst e;simp only[cond_true]at h;split at h
   ·rename_i a b
    injection h with h
    subst h;match us,hl with
    | [u,v],_=>
     have q1:=hr 0 _ u rfl rfl
     have q2:=hr 1 _ v rfl rfl
     cases q1;cases q2
     refine⟨.int .i64 (OA a b),w,h2.run ?_,WExt.refl w,.int _ _⟩;rw[←z9S];rfl
   ·cases h
  | false=>rw[e2]at h;cases h
theorem z11 {X:Ctx}{f:Nat}{asv:List AV}{vs:List PV}{h h1:aA}{r:PV}{K:kA}(hf:X.fn f=none)(h2:X.ex2 f asv h=none)(hp:oA h asv=some (vs.map .p,h1))(hu:unp (vs.map AV.p)=some vs)(hx:X.ext f vs=some r):gA X f asv h K=K (.p r) h1 []:=by
 refine propext (gA.eq (gA.fold ?_) K);unfold IB;simp only[hf,h2,hp,hu,hx];exact⟨trivial,trivial,trivial⟩
structure GrowRow (P:Program) (f:Nat) (sh:Sh):Prop where
 enter:∀us w,(callFunc f us).run P w = .ok (.enter f us) w
 room:∀a w,Calls P f #[.slice a 0 0,.int .i64 0] w fun e w'=>e = .returned (.slice a 0 0)∧w'=w
 grow:∀a (n:Nat) w,0<n→n≤1048576→Calls P f #[.slice a 0 0,.int .i64 n] w fun e w'=>∃G cs E,e = .returned (.slice (some ⟨w.heap.size,0,none⟩) 0 G)∧cs.size=G*jA sh∧w'=w.drew.alloc (.cells cs E)
def VF:List (Nat × Sh)→Nat→List AV→aA→Option (AV×aA×Esc)
 | [],_,_,_=>none
 | (g,sh)::r,f,asv,h=>bif Nat.beq f g then(match asv with
  | [.sl0 _,.p (.int .i64 n)]=>bif decide (0≤n)&&decide (n≤1048576) then some (.own h.length 0 0 0,h++[.row sh [] 0],[]) else none
  | _=>none) else VF r f asv h
theorem z3s {gl:Nat→Option PV}:∀(gs:List (Nat×Sh)),(∀g sh,(g,sh)∈gs→GrowRow P g sh)→∀{f:Nat} {asv:List AV} {h:aA} {v:AV} {h':aA} {x:Esc},VF gs f asv h=some (v,h',x) →
 YB P gl f asv h fun v1 h1 x1=>v1=v∧h1=h'∧x1=x
 | [],_,f,asv,h,v,h',x,H=>by cases H
 | (g,sh)::r,hg,f,asv,h,v,h',x,H=>by
  unfold VF at H;cases e1:Nat.beq f g with
  | false=>
   rw[e1]at H;exact z3s r (fun g sh hm=>hg g sh (by simp [hm])) H
  | true=>
   rw[e1]at H;have e:=Nat.eq_of_beq_eq_true e1
   subst e;have R:=hg f sh (by simp)
   simp only[cond_true]at H;split at H
   ·rename_i sh' n
    cases hb:(decide (0≤n)&&decide (n≤1048576)) with
    | false=>rw[hb]at H;cases H
    | true=>
     rw[hb]at H;simp only[cond_true,Option.some.injEq,Prod.mk.injEq]at H;obtain⟨rfl,rfl,rfl⟩:=H;simp only[Bool.and_eq_true,decide_eq_true_eq]at hb;intro μ w vs Hh Hg hl hr;match vs,hl with
     | [u1,u2],_=>
      have q1:=hr 0 _ u1 rfl rfl
      have q2:=(hr 1 _ u2 rfl rfl).p_inv
      cases q1;cases q2
      obtain⟨m,hm⟩:=Int.eq_ofNat_of_zero_le hb.1;subst hm;refine .inl ⟨R.enter _,?_⟩;rcases Nat.eq_zero_or_pos m with h0|h0
      ·subst h0
       refine(R.room _ w).mono fun e w' he=>?_
       obtain⟨rfl,rfl⟩:=he;obtain⟨n1,n2⟩:=UO Hh sh;refine⟨_,_,_,_,⟨rfl,rfl,rfl⟩,?_,n1,n2,qA.push (by simp [Obj.top])⟩
       exact .own h.length 0 0 0 _ 0 sh [] 0 none (Nat.le_refl _) (by simp) (by rw[←Hh.len];simp) (by simp) (by simp) (fun _=>rfl)
      ·refine(R.grow _ m w h0 (by omega)).mono fun e w' he=>?_
       obtain⟨G,cs,E,rfl,hcs,rfl⟩:=he;have hw:WExt w (w.drew.alloc (.cells cs E)):=(WExt.drew w _).trans (WExt.push _ _)
       obtain⟨n1,n2⟩:=jH (sh:=sh) (xs:=[]) Hh hw (b:=w.heap.size) (n:=cs.size) (Nat.le_refl _) (by show w.heap.size<(w.heap.push _).size;simp) (c:=cs) (RA.push (w:=w.drew) cs E) (by simp) (by simp) (by simp)
       refine⟨_,_,_,_,⟨rfl,rfl,rfl⟩,?_,n1,n2,qA.push (by simp [Obj.top])⟩
       refine .own h.length 0 0 0 _ G sh [] 0 (some (w.heap.size,cs.size)) (Nat.zero_le _) (by simp) (by rw[←Hh.len];simp) (by simp) (by simp) (fun _=>?_)
       exact .inr ⟨by simp,by simp [hcs]⟩
   ·cases H
end Go.Am
end
section
/- Short words for the printed code. -/
set_option linter.all false
namespace Go.Am
instance {n:Nat}:OfNat Opd n:=⟨.t n⟩
abbrev GL:=Nat→Option PV
abbrev KT:=Ex→St→Prop
def cI (n:Int):Opd:=.c (.p (.int .i64 n))
def cT:Opd:=.c (.p (.bool true))
def cF:Opd:=.c (.p (.bool false))
def cS (s:List UInt8):Opd:=.c (.p (.str s))
def uO (d:Nat)(o:AO):AOp:=⟨some d,none,o⟩
def wO (o:AO):AOp:=⟨none,none,o⟩
def gD (d g:Nat)(b:Bool)(o:AO):AOp:=⟨some d,some (g,b),o⟩
def mV (d:Nat)(x:Opd):AOp:=⟨some d,none,.mv x⟩
def bN (d:Nat)(b:BinOp)(x y:Opd):AOp:=⟨some d,none,.bin b x y⟩
def cL (d f:Nat)(l:List Opd):AOp:=⟨some d,none,.call f l⟩
def lD (d:Nat)(s:Sh)(x:Opd):AOp:=⟨some d,none,.load s x⟩
def iA (d:Nat)(s:Sh)(x y:Opd):AOp:=⟨some d,none,.iaddr s x y⟩
def fA (d o:Nat)(s:Sh)(x:Opd):AOp:=⟨some d,none,.faddr o s x⟩
def sT (d:Nat)(s:Sh)(x y:Opd):AOp:=⟨some d,none,.store s x y⟩
def lN (d:Nat)(x:Opd):AOp:=⟨some d,none,.len x⟩
def eX (d:Nat)(x:Opd)(i:Nat):AOp:=⟨some d,none,.ext x i⟩
def dF (o:AOp)(l:List Nat):DOp:=⟨o,l,false,[],[]⟩
def dT (o:AOp)(l:List Nat):DOp:=⟨o,l,true,[],[]⟩
def dA (o:AOp)(l:List Nat)(e:Bool)(a b:List Nat):DOp:=⟨o,l,e,a,b⟩
def rg (l:List AOp)(k:List Nat):ACode:=.reg l (some k)
def dr (l:List DOp)(k:List Nat):ACode:=.draw l (some k)
end Go.Am
end
section
/- A function's formula,computed out of its code. -/
set_option linter.all false
namespace Go.Am
abbrev En:=List (Nat × AV)
variable {C:Hd} {gl:Nat→Option PV} {e:En} {h h':aA} {x y:Esc} {K:Ex→St→Prop} {s:St} {L:En→aA→Esc→Prop} {k:AV→aA→Esc→Prop} {ev:Opd→AV} {r:List AOp} {q:List DOp} {dn:gC} {hs:List aA} {Q:Prop}
abbrev Sf (C:Hd)(gl:Nat→Option PV)(c:ACode)(e:En)(h:aA)(x:Esc)(K:Ex→St→Prop):Type:={P:Prop // NW C gl c ⟨e,h,x⟩ K=P}
def gO (G:AO→(Opd→AV)→aA→(AV→aA→Esc→Prop)→Prop)(t:AV)(g:Bool)(o:AO)(ev:Opd→AV)(h:aA)(k:AV→aA→Esc→Prop):Prop:=gV t g h (G o ev h) k
theorem agetB {e:En}{n m:Nat}{v:AV}:bA ((n,v)::e) m=match Nat.beq n m with|true=>v|false=>bA e m:=by
 show(if n=m then v else bA e m)=_
 cases hb:Nat.beq n m with
 | true=>rw[if_pos (Nat.eq_of_beq_eq_true hb)]
 | false=>rw[if_neg (Nat.ne_of_beq_eq_false hb)]
theorem wA:(∀ {C:Hd}{gl:GL}{e:En}{h:aA}{x:Esc}{K:KT}{l:List Nat}{b:ACode},NW C gl (.pr l b) ⟨e,h,x⟩ K=NW C gl b ⟨xA (some l) e,h,x⟩ K) ∧
 (∀{C:Hd} {gl:GL} {K:KT} {s:St} {a b:ACode},NW C gl (.seq a b) s K=NW C gl a s (yC C gl b K)) ∧
 (∀{C:Hd} {gl:GL} {K:KT} {s:St} {i:Nat} {b:ACode},NW C gl (.block i b) s K=NW C gl b s (JB i K)) ∧
 (∀{C:Hd} {gl:GL} {e:En} {h:aA} {x:Esc} {K:KT} {c:Opd} {a b:ACode},NW C gl (.cond c a b) ⟨e,h,x⟩ K=FB (Opd.ev gl e c) (NW C gl a ⟨e,h,x⟩ K) (NW C gl b ⟨e,h,x⟩ K)) ∧
 (∀{C:Hd} {gl:GL} {e:En} {h:aA} {x:Esc} {K:KT} {c:Opd} {a b:ACode},NW C gl (.condu c a b) ⟨e,h,x⟩ K=nK (Opd.ev gl e c) (NW C gl a ⟨e,h,x⟩ K) (NW C gl b ⟨e,h,x⟩ K)) ∧
 (∀{C:Hd} {gl:GL} {K:KT} {s:St} {b:ACode},NW C gl (.det b) s K=NW C gl b s K) ∧
 (∀{C:Hd} {gl:GL} {K:KT} {s:St},NW C gl .skip s K=K .normal s) ∧
 (∀{C:Hd} {gl:GL} {K:KT} {s:St} {i:Nat},NW C gl (.exit i) s K=K (.exit i) s) ∧
 (∀{C:Hd} {gl:GL} {K:KT} {s:St},NW C gl .ret s K=K .ret s) ∧
 (∀{C:Hd} {gl:GL} {K:KT} {s:St},NW C gl .bad s K=False) ∧
 (∀{C:Hd} {gl:GL} {e:En} {h:aA} {x:Esc} {K:KT} {l:List AOp} {o:List Nat},NW C gl (.reg l (some o)) ⟨e,h,x⟩ K=MD C gl l e h x fun e h x=>K .normal ⟨xA (some o) e,h,x⟩) ∧
 (∀{C:Hd} {gl:GL} {e:En} {h:aA} {x:Esc} {K:KT} {l:List AOp},NW C gl (.reg l none) ⟨e,h,x⟩ K=MD C gl l e h x fun e h x=>K .normal ⟨e,h,x⟩) ∧
 (∀{C:Hd} {gl:GL} {e:En} {h:aA} {x:Esc} {K:KT} {l:List DOp} {o:List Nat},NW C gl (.draw l (some o)) ⟨e,h,x⟩ K=xD C gl l [] [] e h x fun e h x=>K .normal ⟨xA (some o) e,h,x⟩) ∧
 (∀{C:Hd} {gl:GL} {e:En} {h:aA} {x:Esc} {K:KT} {l:List DOp},NW C gl (.draw l none) ⟨e,h,x⟩ K=xD C gl l [] [] e h x fun e h x=>K .normal ⟨e,h,x⟩) ∧
 (∀{C:Hd} {gl:GL} {e:En} {h:aA} {x:Esc} {L:En→aA→Esc→Prop},MD C gl [] e h x L=L e h x) ∧
 (∀{C:Hd} {gl:GL} {e:En} {h:aA} {x:Esc} {L:En→aA→Esc→Prop} {r:List AOp} {d:Option Nat} {o:AO},MD C gl (⟨d,none,o⟩::r) e h x L=opC C o (Opd.ev gl e) h fun v h' x'=>MD C gl r (put d v e) h' (x'++x) L) ∧
 (∀{C:Hd} {gl:GL} {e:En} {h:aA} {x:Esc} {L:En→aA→Esc→Prop} {r:List AOp} {d:Option Nat} {t:Nat} {b:Bool} {o:AO},MD C gl (⟨d,some (t,b),o⟩::r) e h x L=gO (opC C) (bA e t) b o (Opd.ev gl e) h fun v h' x'=>MD C gl r (put d v e) h' (x'++x) L) ∧
 (∀{C:Hd} {gl:GL} {e:En} {h:aA} {x:Esc} {L:En→aA→Esc→Prop} {dn:gC} {hs:List aA},xD C gl [] dn hs e h x L=L e h x) ∧
 (∀{C:Hd} {gl:GL} {e:En} {h:aA} {x:Esc} {L:En→aA→Esc→Prop} {q:List DOp} {dn:gC} {hs:List aA} {d:Option Nat} {o:AO} {rd a b:List Nat} {f:Bool},xD C gl (⟨⟨d,none,o⟩,rd,f,a,b⟩::q) dn hs e h x L=opE C o (Opd.ev gl (xA (some rd) e)) h fun v h' y=>
  MF o.still f h h' y (CD C gl ⟨d,none,o⟩ (xA (some rd) e) v hs (yD C gl h' dn (xD C gl q (dn++[(⟨d,none,o⟩,xA (some rd) e,v)]) (hs++[h]) (put d v e) h' (y++x) L) b) a)) ∧
 (∀{C:Hd} {gl:GL} {e:En} {h:aA} {x:Esc} {L:En→aA→Esc→Prop} {q:List DOp} {dn:gC} {hs:List aA} {d:Option Nat} {t:Nat} {g:Bool} {o:AO} {rd a b:List Nat} {f:Bool},xD C gl (⟨⟨d,some (t,g),o⟩,rd,f,a,b⟩::q) dn hs e h x L=gO (opE C) (bA (xA (some rd) e) t) g o (Opd.ev gl (xA (some rd) e)) h fun v h' y=>
  MF o.still f h h' y (CD C gl ⟨d,some (t,g),o⟩ (xA (some rd) e) v hs (yD C gl h' dn (xD C gl q (dn++[(⟨d,some (t,g),o⟩,xA (some rd) e,v)]) (hs++[h]) (put d v e) h' (y++x) L) b) a)) ∧
 (∀{h':aA} {h:aA} {y:Esc} {Q:Prop} {b:Bool},MF b true h h' y Q=Q) ∧
 (∀{h':aA} {h:aA} {y:Esc} {Q:Prop},MF true false h h' y Q=Q) ∧
 (∀{h':aA} {h:aA} {y:Esc} {Q:Prop},MF false false h h' y Q=((h'=h∧y=[])∧Q)) ∧
 (∀{C:Hd} {gl:GL} {h:aA} {dn:gC} {Q:Prop},yD C gl h dn Q []=Q) ∧
 (∀{C:Hd} {gl:GL} {h:aA} {dn:gC} {Q:Prop} {j:Nat} {l:List Nat},yD C gl h dn Q (j::l)=((match dn[j]? with|some q=>xH C gl q h|none=>False)∧yD C gl h dn Q l)) ∧
 (∀{C:Hd} {gl:GL} {e:En} {hs:List aA} {Q:Prop} {o:AOp} {v:AV},CD C gl o e v hs Q []=Q) ∧
 (∀{C:Hd} {gl:GL} {e:En} {hs:List aA} {Q:Prop} {o:AOp} {v:AV} {j:Nat} {l:List Nat},CD C gl o e v hs Q (j::l)=((match hs[j]? with|some g=>xH C gl (o,e,v) g|none=>False)∧CD C gl o e v hs Q l)) ∧
 (∀{C:Hd} {gl:GL} {e:En} {d:Option Nat} {o:AO} {v:AV} {g:aA},xH C gl (⟨d,none,o⟩,e,v) g=opE C o (Opd.ev gl e) g fun v1 h1 x1=>v1=v∧h1=g∧x1=[]) ∧
 (∀{C:Hd} {gl:GL} {e:En} {d:Option Nat} {t:Nat} {b:Bool} {o:AO} {v:AV} {g:aA},xH C gl (⟨d,some (t,b),o⟩,e,v) g=gO (opE C) (bA e t) b o (Opd.ev gl e) g fun v1 h1 x1=>v1=v∧h1=g∧x1=[]) ∧
 (∀{e:En} {d:Nat} {v:AV},put (some d) v e=(d,v)::e) ∧
 (∀{e:En} {v:AV},put none v e=e) ∧
 (∀{e:En} {n:Nat} {l:List Nat},xA (some (n::l)) e=(n,bA e n)::xA (some l) e) ∧
 (∀{e:En},xA (some []) e=[]) ∧
 (∀{e:En} {n m:Nat} {v:AV},bA ((n,v)::e) m=match Nat.beq n m with|true=>v|false=>bA e m) ∧
 (∀{gl:GL} {e:En} {n:Nat},Opd.ev gl e (.t n)=bA e n) ∧
 (∀{gl:GL} {e:En} {v:AV},Opd.ev gl e (.c v)=v) ∧
 (∀{gl:GL} {e:En} {n:Nat},Opd.ev gl e (.f n) = .fn n []) ∧
 (∀{gl:GL} {e:En} {n:Nat},Opd.ev gl e (.g n)=gv gl n) ∧
 (∀{n:Nat},(OfNat.ofNat n:Opd) = .t n) ∧
 (∀{C:Hd} {h:aA} {k:AV→aA→Esc→Prop} {ev:Opd→AV} {a:Opd},opC C (.mnext none [a]) ev h k=nxK (ev a) h k) ∧
 (∀{C:Hd} {h:aA} {k:AV→aA→Esc→Prop} {ev:Opd→AV} {sh:Sh} {l:List Opd},opC C (.mnext (some sh) l) ev h k=nqK (some sh) (ev1 ev l) h k) ∧
 (∀{C:Hd} {h:aA} {k:AV→aA→Esc→Prop} {ev:Opd→AV} {f:Nat} {a:List Opd},opC C (.call f a) ev h k=C f (ev1 ev a) h k) ∧
 (∀{C:Hd} {h:aA} {k:AV→aA→Esc→Prop} {ev:Opd→AV} {f:Opd} {a:List Opd},opC C (.callv f a) ev h k=FF C (ev f) (ev1 ev a) h k) ∧
 (∀{C:Hd} {h:aA} {k:AV→aA→Esc→Prop} {ev:Opd→AV} {f:Nat} {a:List Opd},opE C (.call f a) ev h k=AD C f (ev1 ev a) h k) ∧
 (∀{C:Hd} {h:aA} {k:AV→aA→Esc→Prop} {ev:Opd→AV} {f:Opd} {a:List Opd},opE C (.callv f a) ev h k=EF C (ev f) (ev1 ev a) h k) ∧
 (∀{ev:Opd→AV},ev1 ev []=[]) ∧
 (∀{ev:Opd→AV} {a:Opd} {l:List Opd},ev1 ev (a::l)=ev a::ev1 ev l) ∧
 (∀{ev:Opd→AV},ev2 ev []=[]) ∧
 (∀{ev:Opd→AV} {n:Nat} {a:Opd} {l:List (Nat×Opd)},ev2 ev ((n,a)::l)=(n,ev a)::ev2 ev l) ∧
 (∀{ev:Opd→AV},ev3 ev []=[]) ∧
 (∀{ev:Opd→AV} {n m:Nat} {a:Opd} {l:List (Nat×Nat×Opd)},ev3 ev ((n,m,a)::l)=(n,m,ev a)::ev3 ev l) ∧
 (∀{ev:Opd→AV},evO ev none=none) ∧
 (∀{ev:Opd→AV} {a:Opd},evO ev (some a)=some (ev a)):=
 ⟨(by intros;rfl),(by intros;rfl),(by intros;rfl),(by intros;rfl),(by intros;rfl),(by intros;rfl),(by intros;rfl),(by intros;rfl),(by intros;rfl),(by intros;rfl),(by intros;rfl),(by intros;rfl),(by intros;rfl),(by intros;rfl),(by intros;rfl),(by intros;rfl),(by intros;rfl),(by intros;rfl),(by intros;rfl),(by intros;rfl),(by intros;rfl),(by intros;rfl),(by intros;rfl),(by intros;rfl),(by intros;rfl),(by intros;rfl),(by intros;rfl),(by intros;rfl),(by intros;rfl),(by intros;rfl),(by intros;rfl),(by intros;rfl),(by intros;rfl),(by intro e n m v;exact agetB),(by intros;rfl),(by intros;rfl),(by intros;rfl),(by intros;rfl),(by intros;rfl),(by intros;rfl),(by intros;rfl),(by intros;rfl),(by intros;rfl),(by intros;rfl),(by intros;rfl),(by intros;rfl),(by intros;rfl),(by intros;rfl),(by intros;rfl),(by intros;rfl),(by intros;rfl),(by intros;rfl),(by intros;rfl)⟩
abbrev OpW (G:AO→(Opd→AV)→aA→(AV→aA→Esc→Prop)→Prop):Prop:=∀{ev:Opd→AV} {h:aA} {k:AV→aA→Esc→Prop},
 (∀{x},G (.mv x) ev h k=k (ev x) h [])∧(∀{c a b},G (.pick c a b) ev h k=pK (nH (ev c) (ev a) (ev b)) fun v=>k v h [])∧(∀{z},G (.alloc z) ev h k=alK z h k) ∧
 (∀{x},G (.box x) ev h k=wK (oBox (ev x) h) k)∧(∀{z ps},G (.build z ps) ev h k=pK (UB z (ev3 ev ps)) fun v=>k v h [])∧(∀{o sh n z ps},G (.bsl o sh n z ps) ev h k=wK (dC o sh n z (ev2 ev ps) h) k) ∧
 (∀{sh a},G (.load sh a) ev h k=pK (YA sh (ev a) h) fun v=>k v h [])∧(∀{sh a x},G (.store sh a x) ev h k=wK (vC sh (ev a) (ev x) h) k)∧(∀{x},G (.nilchk x) ev h k=pK (UL (ev x)) fun v=>k v h []) ∧
 (∀{o x y},G (.bin o x y) ev h k=pK (BA o (ev x) (ev y)) fun v=>k v h [])∧(∀{l n x y},G (.eqa l n x y) ev h k=pK (kH l n (ev x) (ev y)) fun v=>k v h [])∧(∀{n b x},G (.isnil n b x) ev h k=pK (RL n b (ev x)) fun v=>k v h []) ∧
 (∀{x},G (.mkif x) ev h k=pK (cP (ev x)) fun v=>k v h [])∧(∀{o x},G (.un o x) ev h k=pK (oUn o (ev x)) fun v=>k v h [])∧(∀{c x},G (.conv (.i c) x) ev h k=pK (SI c (ev x)) fun v=>k v h []) ∧
 (∀{f l},G (.mkfn f l) ev h k=k (.fn f (ev1 ev l)) h [])∧(∀{sh x a b c},G (.slice sh x a b c) ev h k=pK (eG sh (ev x) (evO ev a) (evO ev b) (evO ev c) h) fun v=>k v h [])∧(∀{x a b},G (.slstr x a b) ev h k=pK (VL (ev x) (evO ev a) (evO ev b)) fun v=>k v h []) ∧
 (∀{sh z a b},G (.mksl sh z a b) ev h k=wK (dP sh z (ev a) (ev b) h) k)∧(∀{o sh x},G (.faddr o sh x) ev h k=pK (vB o sh (ev x)) fun v=>k v h [])∧(∀{o sh x},G (.field o sh x) ev h k=pK (ZO o sh (ev x)) fun v=>k v h []) ∧
 (∀{sh x i},G (.iaddr sh x i) ev h k=pK (dD sh (ev x) (ev i) h) fun v=>k v h [])∧(∀{n sh x i},G (.iaddra n sh x i) ev h k=pK (mH n sh (ev x) (ev i)) fun v=>k v h [])∧(∀{n sh x i},G (.idxa n sh x i) ev h k=pK (QL n sh (ev x) (ev i)) fun v=>k v h []) ∧
 (∀{x i},G (.idxs x i) ev h k=pK (TI (ev x) (ev i)) fun v=>k v h [])∧(∀{x i},G (.ext x i) ev h k=pK (lH (ev x) i) fun v=>k v h [])∧(∀{x},G (.len x) ev h k=pK (ID (ev x)) fun v=>k v h [])∧(∀{x},G (.lens x) ev h k=pK (TL (ev x)) fun v=>k v h []) ∧
 (∀{sh a x},G (.app sh a x) ev h k=wK (bG sh (ev a) (ev x) h) k)∧(∀{sh a x},G (.copy sh a x) ev h k=wK (XO sh (ev a) (ev x) h) k)∧(∀{m t l},G (.uns m t l) ev h k=wK (zF m t (ev1 ev l) h) k)∧(∀{sh z x},G (.clr sh z x) ev h k=wK (oClr sh z (ev x) h) k) ∧
 (∀{l},G (.mx l) ev h k=pK (oMx (ev1 ev l)) fun v=>k v h [])∧(∀{l},G (.mn l) ev h k=pK (oMn (ev1 ev l)) fun v=>k v h [])∧(∀{sh},G (.new0 sh) ev h k=nwK sh h k)∧(∀{x},G (.conv .s2b x) ev h k=wK (rD .s2b (ev x) h) k)∧(∀{x},G (.conv .b2s x) ev h k=wK (rD .b2s (ev x) h) k) ∧
 (∀{x},G (.conv .r2s x) ev h k=wK (rD .r2s (ev x) h) k)∧(∀{x},G (.conv .same x) ev h k=wK (rD .same (ev x) h) k)∧(G .mkmap ev h k=mmK h k)∧(∀{n o z x y},G (.look n o z x y) ev h k=pK (WB n o z (ev x) (ev y) h) fun v=>k v h [])∧(∀{n m y x},G (.mupd n m y x) ev h k=wK (uC n (ev m) (ev y) (ev x) h) k) ∧
 (∀{n z m y},G (.ment n z m y) ev h k=wK (bP n z (ev m) (ev y) h) k)∧(∀{m a x},G (.estore m a x) ev h k=wK (YO (ev m) (ev a) (ev x) h) k)∧(∀{n m y},G (.mdel n m y) ev h k=wK (aP n (ev m) (ev y) h) k)∧(∀{x},G (.lenm x) ev h k=pK (SL (ev x) h) fun v=>k v h []) ∧
 (∀{x},G (.mrange x) ev h k=wK (dG (ev x) h) k)∧(∀{i},G (.mentry i) ev h k=wK (cG (ev i) h) k)
theorem w_op:∀ G,(G=opC C∨G=opE C)→OpW G:=by
 rintro G (rfl|rfl) <;> refine fun {_ _ _}=>⟨?_,?_,?_,?_,?_,?_,?_,?_,?_,?_,?_,?_,?_,?_,?_,?_,?_,?_,?_,?_,?_,?_,?_,?_,?_,?_,?_,?_,?_,?_,?_,?_,?_,?_,?_,?_,?_,?_,?_,?_,?_,?_,?_,?_,?_,?_,?_,?_⟩ <;> intros <;> rfl
theorem w_oc:OpW (opC C):=w_op _ (.inl rfl)
theorem w_oe:OpW (opE C):=w_op _ (.inr rfl)
abbrev OpG (G:AO→(Opd→AV)→aA→(AV→aA→Esc→Prop)→Prop):Prop:=∀{t:AV} {g:Bool} {ev:Opd→AV} {h:aA} {k:AV→aA→Esc→Prop},
 (∀{x},gO G t g (.mv x) ev h k=gM t g (ev x) h k) ∧
 (∀{c a b},gO G t g (.pick c a b) ev h k=gP t g (nH (ev c) (ev a) (ev b)) h k) ∧
 (∀{z},gO G t g (.alloc z) ev h k=gV t g h (fun k=>alK z h k) k) ∧
 (∀{x},gO G t g (.box x) ev h k=gV t g h (fun k=>wK (oBox (ev x) h) k) k) ∧
 (∀{z ps},gO G t g (.build z ps) ev h k=gP t g (UB z (ev3 ev ps)) h k) ∧
 (∀{o sh n z ps},gO G t g (.bsl o sh n z ps) ev h k=gV t g h (fun k=>wK (dC o sh n z (ev2 ev ps) h) k) k) ∧
 (∀{sh a},gO G t g (.load sh a) ev h k=gP t g (YA sh (ev a) h) h k) ∧
 (∀{sh a x},gO G t g (.store sh a x) ev h k=gV t g h (fun k=>wK (vC sh (ev a) (ev x) h) k) k) ∧
 (∀{x},gO G t g (.nilchk x) ev h k=gP t g (UL (ev x)) h k) ∧
 (∀{o x y},gO G t g (.bin o x y) ev h k=gP t g (BA o (ev x) (ev y)) h k) ∧
 (∀{l n x y},gO G t g (.eqa l n x y) ev h k=gP t g (kH l n (ev x) (ev y)) h k) ∧
 (∀{n b x},gO G t g (.isnil n b x) ev h k=gP t g (RL n b (ev x)) h k) ∧
 (∀{x},gO G t g (.mkif x) ev h k=gP t g (cP (ev x)) h k) ∧
 (∀{o x},gO G t g (.un o x) ev h k=gP t g (oUn o (ev x)) h k) ∧
 (∀{c x},gO G t g (.conv (.i c) x) ev h k=gP t g (SI c (ev x)) h k) ∧
 (∀{f l},gO G t g (.mkfn f l) ev h k=gM t g (.fn f (ev1 ev l)) h k) ∧
 (∀{sh x a b c},gO G t g (.slice sh x a b c) ev h k=gP t g (eG sh (ev x) (evO ev a) (evO ev b) (evO ev c) h) h k) ∧
 (∀{x a b},gO G t g (.slstr x a b) ev h k=gP t g (VL (ev x) (evO ev a) (evO ev b)) h k) ∧
 (∀{sh z a b},gO G t g (.mksl sh z a b) ev h k=gV t g h (fun k=>wK (dP sh z (ev a) (ev b) h) k) k) ∧
 (∀{o sh x},gO G t g (.faddr o sh x) ev h k=gP t g (vB o sh (ev x)) h k) ∧
 (∀{o sh x},gO G t g (.field o sh x) ev h k=gP t g (ZO o sh (ev x)) h k) ∧
 (∀{sh x i},gO G t g (.iaddr sh x i) ev h k=gP t g (dD sh (ev x) (ev i) h) h k) ∧
 (∀{n sh x i},gO G t g (.iaddra n sh x i) ev h k=gP t g (mH n sh (ev x) (ev i)) h k) ∧
 (∀{n sh x i},gO G t g (.idxa n sh x i) ev h k=gP t g (QL n sh (ev x) (ev i)) h k) ∧
 (∀{x i},gO G t g (.idxs x i) ev h k=gP t g (TI (ev x) (ev i)) h k) ∧
 (∀{x i},gO G t g (.ext x i) ev h k=gP t g (lH (ev x) i) h k) ∧
 (∀{x},gO G t g (.len x) ev h k=gP t g (ID (ev x)) h k) ∧
 (∀{x},gO G t g (.lens x) ev h k=gP t g (TL (ev x)) h k) ∧
 (∀{sh a x},gO G t g (.app sh a x) ev h k=gV t g h (fun k=>wK (bG sh (ev a) (ev x) h) k) k) ∧
 (∀{sh a x},gO G t g (.copy sh a x) ev h k=gV t g h (fun k=>wK (XO sh (ev a) (ev x) h) k) k) ∧
 (∀{m t2 l},gO G t g (.uns m t2 l) ev h k=gV t g h (fun k=>wK (zF m t2 (ev1 ev l) h) k) k) ∧
 (∀{sh z x},gO G t g (.clr sh z x) ev h k=gV t g h (fun k=>wK (oClr sh z (ev x) h) k) k) ∧
 (∀{l},gO G t g (.mx l) ev h k=gP t g (oMx (ev1 ev l)) h k) ∧
 (∀{l},gO G t g (.mn l) ev h k=gP t g (oMn (ev1 ev l)) h k) ∧
 (∀{sh},gO G t g (.new0 sh) ev h k=gV t g h (fun k=>nwK sh h k) k) ∧
 (∀{x},gO G t g (.conv .s2b x) ev h k=gV t g h (fun k=>wK (rD .s2b (ev x) h) k) k) ∧
 (∀{x},gO G t g (.conv .b2s x) ev h k=gV t g h (fun k=>wK (rD .b2s (ev x) h) k) k) ∧
 (∀{x},gO G t g (.conv .r2s x) ev h k=gV t g h (fun k=>wK (rD .r2s (ev x) h) k) k) ∧
 (∀{x},gO G t g (.conv .same x) ev h k=gV t g h (fun k=>wK (rD .same (ev x) h) k) k) ∧
 (gO G t g .mkmap ev h k=gV t g h (fun k=>mmK h k) k) ∧
 (∀{n o z x y},gO G t g (.look n o z x y) ev h k=gP t g (WB n o z (ev x) (ev y) h) h k) ∧
 (∀{n m y x},gO G t g (.mupd n m y x) ev h k=gV t g h (fun k=>wK (uC n (ev m) (ev y) (ev x) h) k) k) ∧
 (∀{n z m y},gO G t g (.ment n z m y) ev h k=gV t g h (fun k=>wK (bP n z (ev m) (ev y) h) k) k) ∧
 (∀{m a x},gO G t g (.estore m a x) ev h k=gV t g h (fun k=>wK (YO (ev m) (ev a) (ev x) h) k) k) ∧
 (∀{n m y},gO G t g (.mdel n m y) ev h k=gV t g h (fun k=>wK (aP n (ev m) (ev y) h) k) k) ∧
 (∀{x},gO G t g (.lenm x) ev h k=gP t g (SL (ev x) h) h k) ∧
 (∀{x},gO G t g (.mrange x) ev h k=gV t g h (fun k=>wK (dG (ev x) h) k) k) ∧
 (∀{i},gO G t g (.mentry i) ev h k=gV t g h (fun k=>wK (cG (ev i) h) k) k)
theorem w_og:∀ G,(G=opC C∨G=opE C)→OpG G:=by
 rintro G (rfl|rfl) <;> refine fun {_ _ _ _ _}=>⟨?_,?_,?_,?_,?_,?_,?_,?_,?_,?_,?_,?_,?_,?_,?_,?_,?_,?_,?_,?_,?_,?_,?_,?_,?_,?_,?_,?_,?_,?_,?_,?_,?_,?_,?_,?_,?_,?_,?_,?_,?_,?_,?_,?_,?_,?_,?_,?_⟩ <;> intros <;> rfl
theorem w_gc:OpG (opC C):=w_og _ (.inl rfl)
theorem w_ge:OpG (opE C):=w_og _ (.inr rfl)
theorem wG:(∀ {C:Hd}{t:AV}{g:Bool}{f:Nat}{a:List Opd}{ev:Opd→AV}{h:aA}{k:AV→aA→Esc→Prop},gO (opC C) t g (.call f a) ev h k=gV t g h (C f (ev1 ev a) h) k)∧(∀{C:Hd} {t:AV} {g:Bool} {f:Opd} {a:List Opd} {ev:Opd→AV} {h:aA} {k:AV→aA→Esc→Prop},gO (opC C) t g (.callv f a) ev h k=gV t g h (FF C (ev f) (ev1 ev a) h) k) ∧
 (∀{C:Hd} {t:AV} {g:Bool} {f:Nat} {a:List Opd} {ev:Opd→AV} {h:aA} {k:AV→aA→Esc→Prop},gO (opE C) t g (.call f a) ev h k=gV t g h (AD C f (ev1 ev a) h) k)∧(∀{C:Hd} {t:AV} {g:Bool} {f:Opd} {a:List Opd} {ev:Opd→AV} {h:aA} {k:AV→aA→Esc→Prop},gO (opE C) t g (.callv f a) ev h k=gV t g h (EF C (ev f) (ev1 ev a) h) k):=⟨rfl,rfl,rfl,rfl⟩
theorem wB:(∀ {α:Type}{l:List α},[]++l=l)∧(∀{α:Type} {a:α} {l m:List α},a::l++m=a::(l++m))∧(∀{α:Type} {a:α} {l:List α},(a::l)[0]?=some a)∧(∀{α:Type} {a:α} {l:List α} {i:Nat},(a::l)[i+1]?=l[i]?) ∧
 (∀{C:Hd} {gl:GL} {b:ACode} {K:KT} {s:St},yC C gl b K .normal s=NW C gl b s K)∧(∀{C:Hd} {gl:GL} {b:ACode} {K:KT} {s:St} {i:Nat},yC C gl b K (.exit i) s=K (.exit i) s)∧(∀{C:Hd} {gl:GL} {b:ACode} {K:KT} {s:St},yC C gl b K .ret s=K .ret s) ∧
 (∀{i:Nat} {K:KT} {s:St},JB i K .normal s=K .normal s)∧(∀{i j:Nat} {K:KT} {s:St},JB i K (.exit j) s=match Nat.beq j i with|true=>K .normal s|false=>K (.exit j) s)∧(∀{i:Nat} {K:KT} {s:St},JB i K .ret s=K .ret s):=
 ⟨by intros;rfl,by intros;rfl,by intros;rfl,by intros;rfl,by intros;rfl,by intros;rfl,by intros;rfl,by intros;rfl,by intro i j K s;show(bif Nat.beq j i then _ else _)=_;cases Nat.beq j i <;> rfl,by intros;rfl⟩
theorem wS:(∀ {n:Int},cI n = .c (.p (.int .i64 n)))∧(cT = .c (.p (.bool true)))∧(cF = .c (.p (.bool false)))∧(∀{l:List UInt8},cS l = .c (.p (.str l)))∧(∀{d:Nat} {o:AO},uO d o=⟨some d,none,o⟩)∧(∀{o:AO},wO o=⟨none,none,o⟩)∧(∀{d g:Nat} {b:Bool} {o:AO},gD d g b o=⟨some d,some (g,b),o⟩)∧(∀{d:Nat} {x:Opd},mV d x=⟨some d,none,.mv x⟩) ∧
 (∀{d:Nat} {b:BinOp} {x y:Opd},bN d b x y=⟨some d,none,.bin b x y⟩)∧(∀{d f:Nat} {l:List Opd},cL d f l=⟨some d,none,.call f l⟩)∧(∀{d:Nat} {s:Sh} {x:Opd},lD d s x=⟨some d,none,.load s x⟩)∧(∀{d:Nat} {s:Sh} {x y:Opd},iA d s x y=⟨some d,none,.iaddr s x y⟩)∧(∀{d o:Nat} {s:Sh} {x:Opd},fA d o s x=⟨some d,none,.faddr o s x⟩) ∧
 (∀{d:Nat} {s:Sh} {x y:Opd},sT d s x y=⟨some d,none,.store s x y⟩)∧(∀{d:Nat} {x:Opd},lN d x=⟨some d,none,.len x⟩)∧(∀{d:Nat} {x:Opd} {i:Nat},eX d x i=⟨some d,none,.ext x i⟩)∧(∀{o:AOp} {l:List Nat},dF o l=⟨o,l,false,[],[]⟩)∧(∀{o:AOp} {l:List Nat},dT o l=⟨o,l,true,[],[]⟩)∧(∀{o:AOp} {l:List Nat} {e:Bool} {a b:List Nat},dA o l e a b=⟨o,l,e,a,b⟩) ∧
 (∀{l:List AOp} {k:List Nat},rg l k = .reg l (some k))∧(∀{l:List DOp} {k:List Nat},dr l k = .draw l (some k)):=
 ⟨rfl,rfl,rfl,rfl,rfl,rfl,rfl,rfl,rfl,rfl,rfl,rfl,rfl,rfl,rfl,rfl,rfl,rfl,rfl,rfl,rfl⟩
def wZ:=And.intro wA (And.intro wB (And.intro @w_oc (And.intro @w_oe (And.intro @w_gc (And.intro @w_ge (And.intro wG wS))))))
end Go.Am
end
section
/- The functions asv abstract code,and asv formulas over their values: printed by program out of the translation. -/
set_option linter.all false
set_option maxRecDepth 100000
namespace Go.Am
def DP:ACode:=.pr [4,5,6,15,17,18,92,93,94] (rg [bN 117 .add 94 (cI 1),
mV 94 117] [4,5,6,15,17,18,92,93,94])
def IT (C:Hd)(gl:GL)(e:En)(h:aA)(x:Esc)(K:KT):Sf C gl DP e h x K:=⟨_,by simp only[DP,↓wZ,AO.still];rfl⟩
theorem zbx {C gl e h x K}:NW C gl DP ⟨e,h,x⟩ K=(IT C gl e h x K).1:=(IT C gl e h x K).2
def kJ:ACode:=.pr [4,5,6,15,17,18,92,93,94] (.seq (rg [bN 95 .lss 94 93] [4,5,6,15,17,18,92,93,94,95])
(.seq (.cond 95 .skip
(.exit 0))
(.seq (.block 1 (.seq (rg [iA 96 (some 2) 92 94,
lD 97 (some 2) 96,
uO 20 (.alloc [.p (.str []),.p (.str [])]),
wO (.store (some 2) 20 97)] [4,5,6,15,17,18,20,92,93,94])
(.seq (rg [fA 99 1 none 20,
lD 100 none 99,
cL 101 zO [100],
mV 98 101,
eX 102 98 0,
eX 103 98 1,
mV 21 102,
mV 22 103] [4,5,6,15,17,18,20,21,22,92,93,94])
(.seq (.seq (rg [mV 104 17,
mV 105 21,
bN 106 .add 104 105,
mV 17 106] [4,5,6,15,17,18,20,21,22,92,93,94])
(.seq (rg [mV 107 22,
uO 108 (.isnil 3 true 107),
mV 109 108,
gD 110 109 false (.mv 21),
gD 111 109 false (.bin .lss 110 (cI 1)),
uO 112 (.pick 109 cT 111)] [4,5,6,15,17,18,20,21,92,93,94,112])
(.cond 112 (.seq (rg [mV 2 cF] [2])
.ret)
.skip)))
(.seq (rg [fA 113 0 none 20,
lD 114 none 113,
bN 115 .eql 114 (cS [49])] [4,5,6,15,17,18,21,92,93,94,115])
(.cond 115 (rg [mV 116 21,
mV 18 116] [4,5,6,15,17,18,92,93,94])
.skip))))))
DP)))
def JT (C:Hd)(gl:GL)(e:En)(h:aA)(x:Esc)(K:KT):Sf C gl kJ e h x K:=⟨_,by simp only[kJ,↓wZ,AO.still];rfl⟩
theorem zby {C gl e h x K}:NW C gl kJ ⟨e,h,x⟩ K=(JT C gl e h x K).1:=(JT C gl e h x K).2
theorem zeV {C gl e h x K}:NW C gl (.loop (.scope kJ)) ⟨e,h,x⟩ K=DA C gl (.scope kJ) K [(4,bA e 4),(5,bA e 5),(6,bA e 6),(15,bA e 15),(17,bA e 17),(18,bA e 18),(92,bA e 92),(93,bA e 93),(94,bA e 94)] h x:=CC
def XL:ACode:=.pr [4,5,6,15,17,18] (.seq (rg [mV 119 4,
mV 120 5,
mV 121 6,
cL 122 nI [119,120,121],
mV 118 122,
eX 123 118 0,
eX 124 118 1,
uO 23 (.alloc [.p (.int .i64 0),.p (.int .i64 0)]),
wO (.store (some 2) 23 123),
mV 24 124] [4,5,15,17,18,23,24])
(.seq (rg [mV 126 4,
mV 127 5,
cL 128 nI [126,127,(cI 3)],
mV 125 128,
eX 129 125 0,
eX 130 125 1,
uO 25 (.alloc [.p (.int .i64 0),.p (.int .i64 0)]),
wO (.store (some 2) 25 129),
mV 26 130] [5,15,17,18,23,24,25,26])
(.seq (.seq (rg [mV 131 5,
lN 132 131,
bN 133 .eql 132 (cI 0)] [15,17,18,23,24,25,26,133])
(.cond 133 (.seq (rg [mV 134 24,
bN 135 .eql 134 (cI 8),
mV 136 135,
gD 137 136 true (.mv 26),
gD 138 136 true (.bin .eql 137 (cI 8)),
uO 139 (.pick 136 138 cF),
mV 140 139,
gD 141 140 true (.mv 17),
gD 142 140 true (.bin .eql 141 (cI 0)),
uO 143 (.pick 140 142 cF),
mV 144 143,
gD 145 144 true (.call RG []),
uO 146 (.pick 144 145 cF),
mV 2 146] [2])
.ret)
.skip))
(.seq (rg [mV 147 24,
mV 148 26,
uO 149 (.bsl false none 2 (.int .i64 0) [(0,147),(1,148)]),
cL 150 RF [149],
bN 151 .eql 150 (cI 0),
mV 152 151,
gD 153 152 true (.mv 17),
gD 154 152 true (.mv 15),
gD 155 152 true (.len 154),
gD 156 152 true (.bin .eql 153 155),
uO 157 (.pick 152 156 cF),
mV 158 157,
gD 159 158 true (.faddr 0 none 23),
gD 160 158 true (.load none 159),
gD 161 158 true (.mv 17),
gD 162 158 true (.bin .mul 160 161),
gD 163 158 true (.faddr 1 none 23),
gD 164 158 true (.load none 163),
gD 165 158 true (.mv 18),
gD 166 158 true (.bin .mul 164 165),
gD 167 158 true (.bin .eql 162 166),
uO 168 (.pick 158 167 cF),
mV 169 168,
gD 170 169 true (.faddr 0 none 23),
gD 171 169 true (.load none 170),
gD 172 169 true (.faddr 1 none 25),
gD 173 169 true (.load none 172),
gD 174 169 true (.bin .mul 171 173),
gD 175 169 true (.faddr 0 none 25),
gD 176 169 true (.load none 175),
gD 177 169 true (.faddr 1 none 23),
gD 178 169 true (.load none 177),
gD 179 169 true (.bin .mul 176 178),
gD 180 169 true (.bin .leq 174 179),
uO 181 (.pick 169 180 cF),
mV 182 181,
gD 183 182 true (.call RG []),
uO 184 (.pick 182 183 cF),
mV 2 184] [2])
.ret))))
def TH (C:Hd)(gl:GL)(e:En)(h:aA)(x:Esc)(K:KT):Sf C gl XL e h x K:=⟨_,by simp only[XL,↓wZ,AO.still];rfl⟩
theorem lV {C gl e h x K}:NW C gl XL ⟨e,h,x⟩ K=(TH C gl e h x K).1:=(TH C gl e h x K).2
def cX:ACode:=(.seq (rg [mV 2 cF] [0])
(.seq (rg [mV 27 0,
uO 28 (.build [.sl0 none,.p (.int .i64 0)] [(0,1,27)]),
uO 29 (.box 28),
mV 3 29] [3])
(.seq (rg [mV 30 3,
cL 31 YK [30],
mV 4 31] [3,4])
(.seq (rg [mV 32 3,
mV 33 4,
mV 34 3,
cL 35 lE [34,(cI 0),(cI 12)],
cL 36 ZK [32,33,35],
mV 37 3,
cL 38 lE [37,(cI 1),(cI 3)],
mV 5 36,
mV 6 38] [3,4,5,6])
(.seq (rg [mV 40 3,
mV 41 5,
cL 42 VK [40,41],
mV 39 42,
eX 43 39 0,
eX 44 39 1,
mV 7 43,
mV 8 44] [4,5,6,7,8])
(.seq (rg [mV 46 4,
mV 47 7,
mV 48 8,
cL 49 mI [46,47,48],
mV 45 49,
eX 50 45 0,
eX 51 45 1,
mV 9 50,
mV 10 51] [4,5,6,7,8,9,10])
(.seq (rg [mV 53 4,
mV 54 8,
mV 55 7,
cL 56 mI [53,54,55],
mV 52 56,
eX 57 52 0,
eX 58 52 1,
mV 11 57,
mV 12 58] [4,5,6,9,10,11,12])
(.seq (rg [mV 60 4,
mV 61 5,
mV 62 6,
cL 63 MK [60,61,62],
mV 59 63,
eX 64 59 0,
eX 65 59 1,
mV 13 64,
mV 14 65] [4,5,6,9,10,11,12,13,14])
(.seq (rg [mV 67 4,
mV 68 5,
mV 69 6,
cL 70 OK [67,68,69],
mV 66 70,
eX 71 66 0,
eX 72 66 1,
mV 15 71,
mV 16 72] [4,5,6,9,10,11,12,13,14,15,16])
(.seq (.seq (rg [mV 73 10,
mV 74 12,
mV 75 14,
mV 76 16,
uO 77 (.bsl false none 4 (.int .i64 0) [(0,73),(1,74),(2,75),(3,76)]),
cL 78 RF [77],
bN 79 .neq 78 (cI 0),
mV 80 79,
gD 81 80 false (.mv 9),
gD 82 80 false (.mv 5),
gD 83 80 false (.call CI [81,82,(.f SF)]),
gD 84 80 false (.un .not 83),
uO 85 (.pick 80 cT 84),
mV 86 85,
gD 87 86 false (.mv 11),
gD 88 86 false (.mv 5),
gD 89 86 false (.call CI [87,88,(.f SF)]),
gD 90 86 false (.un .not 89),
uO 91 (.pick 86 cT 90)] [4,5,6,13,15,91])
(.cond 91 (.seq (rg [mV 2 cF] [2])
.ret)
.skip))
(.seq (rg [mV 17 (cI 0),
mV 18 (cI 0)] [4,5,6,13,15,17,18])
(.seq (.seq (rg [mV 92 13,
lN 93 92,
mV 94 (cI 0)] [4,5,6,15,17,18,92,93,94])
(.block 0 (.loop (.scope kJ))))
XL))))))))))))
def CR:AFun:=⟨1,[.t 2],cX,false,false⟩
def GN (C:Hd)(gl:GL)(e:En)(h:aA)(x:Esc)(K:KT):Sf C gl cX e h x K:=⟨_,by simp only[cX,↓wZ,AO.still];rfl⟩
theorem zbw {C gl v0 h x K}:NW C gl CR.body ⟨enter [v0],h,x⟩ K=(GN C gl [(0,v0)] h x K).1:=(GN C gl [(0,v0)] h x K).2
def oJ:ACode:=.pr [0,4] (.seq (rg [bN 5 .lss 4 (cI 6)] [0,4,5])
(.seq (.cond 5 .skip
(.exit 0))
(.seq (.block 1 (.seq (rg [mV 6 0,
cL 7 WK [6],
mV 3 7] [0,3,4])
(.seq (rg [mV 8 3,
cL 9 wI [8],
bN 10 .eql 9 (cI 0)] [0,3,4,10])
(.cond 10 (.seq (rg [mV 11 3,
mV 2 11] [2])
.ret)
.skip))))
(rg [bN 12 .add 4 (cI 1),
mV 4 12] [0,4]))))
def UT (C:Hd)(gl:GL)(e:En)(h:aA)(x:Esc)(K:KT):Sf C gl oJ e h x K:=⟨_,by simp only[oJ,↓wZ,AO.still];rfl⟩
theorem zbR {C gl e h x K}:NW C gl oJ ⟨e,h,x⟩ K=(UT C gl e h x K).1:=(UT C gl e h x K).2
theorem zfa {C gl e h x K}:NW C gl (.loop oJ) ⟨e,h,x⟩ K=DA C gl oJ K [(0,bA e 0),(4,bA e 4)] h x:=mB
def KP:ACode:=.pr [] (.seq (rg [uO 13 (.build [.p (.str []),.p (.int .i64 0),.p (.int .i64 0),.p (.int .i64 0)] [(0,1,(cS [118,111,108,116])),(2,1,(cI 10)),(3,1,(cI 5))]),
uO 14 (.bsl false (some 4) 1 (.agg [.str [],.int .i64 0,.int .i64 0,.int .i64 0]) [(0,13)]),
mV 2 14] [2])
.ret)
def VT (C:Hd)(gl:GL)(e:En)(h:aA)(x:Esc)(K:KT):Sf C gl KP e h x K:=⟨_,by simp only[KP,↓wZ,AO.still];rfl⟩
theorem zbS {C gl e h x K}:NW C gl KP ⟨e,h,x⟩ K=(VT C gl e h x K).1:=(VT C gl e h x K).2
def tX:ACode:=(.seq (rg [mV 2 (.c (.p (.sl (some 4) [])))] [0])
(.seq (.seq (rg [mV 4 (cI 0)] [0,4])
(.block 0 (.loop oJ)))
KP))
def PR:AFun:=⟨1,[.t 2],tX,false,false⟩
def PN (C:Hd)(gl:GL)(e:En)(h:aA)(x:Esc)(K:KT):Sf C gl tX e h x K:=⟨_,by simp only[tX,↓wZ,AO.still];rfl⟩
theorem zbQ {C gl v0 h x K}:NW C gl PR.body ⟨enter [v0],h,x⟩ K=(PN C gl [(0,v0)] h x K).1:=(PN C gl [(0,v0)] h x K).2
def pJ:ACode:=.pr [0,1,2,8] (.seq (rg [bN 9 .lss 8 (cI 6)] [0,1,2,8,9])
(.seq (.cond 9 .skip
(.exit 0))
(.seq (.block 1 (.seq (rg [mV 10 0,
mV 11 1,
mV 12 2,
cL 13 XK [10,11,12],
mV 7 13] [0,1,2,7,8])
(.seq (rg [mV 14 1,
mV 15 7,
cL 16 bL [14,15],
bN 17 .eql 16 (cI 0)] [0,1,2,7,8,17])
(.cond 17 (.seq (rg [mV 18 7,
mV 6 18] [6])
.ret)
.skip))))
(rg [bN 19 .add 8 (cI 1),
mV 8 19] [0,1,2,8]))))
def WT (C:Hd)(gl:GL)(e:En)(h:aA)(x:Esc)(K:KT):Sf C gl pJ e h x K:=⟨_,by simp only[pJ,↓wZ,AO.still];rfl⟩
theorem zbU {C gl e h x K}:NW C gl pJ ⟨e,h,x⟩ K=(WT C gl e h x K).1:=(WT C gl e h x K).2
theorem zfb {C gl e h x K}:NW C gl (.loop pJ) ⟨e,h,x⟩ K=DA C gl pJ K [(0,bA e 0),(1,bA e 1),(2,bA e 2),(8,bA e 8)] h x:=mB
def LP:ACode:=.pr [] (.seq (rg [mV 6 (.c (.p (.sl (some 4) [])))] [6])
.ret)
def XT (C:Hd)(gl:GL)(e:En)(h:aA)(x:Esc)(K:KT):Sf C gl LP e h x K:=⟨_,by simp only[LP,↓wZ,AO.still];rfl⟩
theorem zbV {C gl e h x K}:NW C gl LP ⟨e,h,x⟩ K=(XT C gl e h x K).1:=(XT C gl e h x K).2
def uX:ACode:=(.seq (rg [mV 6 (.c (.p (.sl (some 4) [])))] [0,1,2])
(.seq (.seq (rg [mV 8 (cI 0)] [0,1,2,8])
(.block 0 (.loop pJ)))
LP))
def QR:AFun:=⟨3,[.t 6],uX,false,false⟩
def QN (C:Hd)(gl:GL)(e:En)(h:aA)(x:Esc)(K:KT):Sf C gl uX e h x K:=⟨_,by simp only[uX,↓wZ,AO.still];rfl⟩
theorem zbT {C gl v0 v1 v2 h x K}:NW C gl QR.body ⟨enter [v0,v1,v2],h,x⟩ K=(QN C gl [(0,v0),(1,v1),(2,v2)] h x K).1:=(QN C gl [(0,v0),(1,v1),(2,v2)] h x K).2
def nX:ACode:=(.seq (rg [mV 6 (cI 0)] [0,1,2])
(.seq (.seq (rg [mV 7 2,
mV 8 1,
bN 9 .lss 7 8] [0,1,2,9])
(.cond 9 (.seq (rg [mV 10 1,
mV 6 10] [6])
.ret)
.skip))
(.seq (rg [mV 11 1,
mV 12 0,
mV 13 2,
mV 14 1,
bN 15 .sub 13 14,
bN 16 .add 15 (cI 1),
cL 17 OC [12,16],
bN 18 .add 11 17,
mV 6 18] [6])
.ret)))
def LR:AFun:=⟨3,[.t 6],nX,false,false⟩
def MN (C:Hd)(gl:GL)(e:En)(h:aA)(x:Esc)(K:KT):Sf C gl nX e h x K:=⟨_,by simp only[nX,↓wZ,AO.still];rfl⟩
theorem zbE {C gl v0 v1 v2 h x K}:NW C gl LR.body ⟨enter [v0,v1,v2],h,x⟩ K=(MN C gl [(0,v0),(1,v1),(2,v2)] h x K).1:=(MN C gl [(0,v0),(1,v1),(2,v2)] h x K).2
def FP:ACode:=.pr [0,6,7,10,11,12] (rg [bN 38 .add 12 (cI 1),
mV 12 38] [0,6,7,10,11,12])
def NT (C:Hd)(gl:GL)(e:En)(h:aA)(x:Esc)(K:KT):Sf C gl FP e h x K:=⟨_,by simp only[FP,↓wZ,AO.still];rfl⟩
theorem zb3 {C gl e h x K}:NW C gl FP ⟨e,h,x⟩ K=(NT C gl e h x K).1:=(NT C gl e h x K).2
def mJ:ACode:=.pr [0,6,7,10,11,12] (.seq (rg [bN 13 .lss 12 11] [0,6,7,10,11,12,13])
(.seq (.cond 13 .skip
(.exit 0))
(.seq (.block 1 (.seq (rg [iA 14 (some 4) 10 12,
lD 15 (some 4) 14,
uO 9 (.alloc [.p (.str []),.p (.int .i64 0),.p (.str []),.sl0 none]),
wO (.store (some 4) 9 15)] [0,6,7,9,10,11,12])
(.seq (rg [mV 16 0,
cL 17 OC [16,(cI 3)]] [0,6,7,9,10,11,12,17])
(.block 2 (.seq (rg [bN 27 .eql 17 (cI 0),
mV 26 27] [0,6,7,9,10,11,12,17,26])
(.cond 26 (rg [mV 28 6,
lD 29 (some 4) 9,
uO 30 (.bsl false (some 4) 1 (.agg [.str [],.int .i64 0,.str [],.sl none []]) [(0,29)]),
uO 31 (.app (some 4) 28 30),
mV 6 31] [0,6,7,10,11,12])
(.seq (rg [bN 33 .eql 17 (cI 1),
mV 32 33] [0,6,7,9,10,11,12,32])
(.cond 32 (rg [mV 34 7,
lD 35 (some 4) 9,
uO 36 (.bsl false (some 4) 1 (.agg [.str [],.int .i64 0,.str [],.sl none []]) [(0,35)]),
uO 37 (.app (some 4) 34 36),
mV 7 37] [0,6,7,10,11,12])
(dr [dF (mV 18 6) [6],
dF (lD 19 (some 4) 9) [9],
dF (uO 20 (.bsl false (some 4) 1 (.agg [.str [],.int .i64 0,.str [],.sl none []]) [(0,19)])) [19],
dT (uO 21 (.app (some 4) 18 20)) [18,20],
dF (mV 22 7) [7],
dA (lD 23 (some 4) 9) [9] false [3] [],
dA (uO 24 (.bsl false (some 4) 1 (.agg [.str [],.int .i64 0,.str [],.sl none []]) [(0,23)])) [23] false [3] [],
dT (uO 25 (.app (some 4) 22 24)) [22,24],
dF (mV 6 21) [21],
dF (mV 7 25) [25]] [0,6,7,10,11,12])))))))))
FP)))
def OT (C:Hd)(gl:GL)(e:En)(h:aA)(x:Esc)(K:KT):Sf C gl mJ e h x K:=⟨_,by simp only[mJ,↓wZ,AO.still];rfl⟩
theorem zb4 {C gl e h x K}:NW C gl mJ ⟨e,h,x⟩ K=(OT C gl e h x K).1:=(OT C gl e h x K).2
theorem zeX {C gl e h x K}:NW C gl (.loop (.scope mJ)) ⟨e,h,x⟩ K=DA C gl (.scope mJ) K [(0,bA e 0),(6,bA e 6),(7,bA e 7),(10,bA e 10),(11,bA e 11),(12,bA e 12)] h x:=CC
def GP:ACode:=.pr [6,7] (.seq (rg [mV 39 6,
mV 40 7,
mV 4 39,
mV 5 40] [4,5])
.ret)
def PT (C:Hd)(gl:GL)(e:En)(h:aA)(x:Esc)(K:KT):Sf C gl GP e h x K:=⟨_,by simp only[GP,↓wZ,AO.still];rfl⟩
theorem zb5 {C gl e h x K}:NW C gl GP ⟨e,h,x⟩ K=(PT C gl e h x K).1:=(PT C gl e h x K).2
def fX:ACode:=(.seq (rg [mV 4 (.c (.p (.sl (some 4) []))),
mV 5 (.c (.p (.sl (some 4) [])))] [0,1])
(.seq (rg [uO 6 (.new0 (some 4)),
uO 7 (.new0 (some 4))] [0,1,6,7])
(.seq (.seq (rg [mV 10 1,
lN 11 10,
mV 12 (cI 0)] [0,6,7,10,11,12])
(.block 0 (.loop (.scope mJ))))
GP)))
def DR:AFun:=⟨2,[.t 4,.t 5],fX,false,false⟩
def IN (C:Hd)(gl:GL)(e:En)(h:aA)(x:Esc)(K:KT):Sf C gl fX e h x K:=⟨_,by simp only[fX,↓wZ,AO.still];rfl⟩
theorem zb2 {C gl v0 v1 h x K}:NW C gl DR.body ⟨enter [v0,v1],h,x⟩ K=(IN C gl [(0,v0),(1,v1)] h x K).1:=(IN C gl [(0,v0),(1,v1)] h x K).2
def eJ:ACode:=.pr [9,34,35,36] (.seq (rg [bN 37 .lss 36 35] [9,34,35,36,37])
(.seq (.cond 37 .skip
(.exit 0))
(.seq (.block 1 (.seq (rg [mV 38 36,
iA 39 (some 4) 34 36,
lD 40 (some 4) 39,
uO 11 (.alloc [.p (.str []),.p (.int .i64 0),.p (.str []),.sl0 none]),
mV 10 38,
wO (.store (some 4) 11 40)] [9,10,11,34,35,36])
(.seq (dr [dF (mV 41 10) [10],
dF (bN 42 .gtr 41 (cI 0)) [41],
dF (mV 43 42) [42],
dF (gD 44 43 true (.load (some 4) 11)) [11,43],
dF (gD 45 43 true (.mv 9)) [9,43],
dF (gD 46 43 true (.mv 10)) [10,43],
dF (gD 47 43 true (.bin .sub 46 (cI 1))) [46,43],
dF (gD 48 43 true (.iaddr (some 4) 45 47)) [45,47,43],
dF (gD 49 43 true (.load (some 4) 48)) [48,43],
dT (gD 50 43 true (.call HE [44,49])) [44,49,43],
dF (gD 51 43 true (.bin .eql 50 (cI 0))) [50,43],
dF (uO 52 (.pick 43 51 cF)) [43,51]] [9,34,35,36,52])
(.cond 52 (.seq (rg [mV 6 (.c (.p (.sl (some 4) []))),
mV 7 (cI 13)] [6,7])
.ret)
.skip))))
(rg [bN 53 .add 36 (cI 1),
mV 36 53] [9,34,35,36]))))
def z0P (C:Hd)(gl:GL)(v9 v34 v35 v36:AV)(h:aA)(x:Esc)(K:KT):Prop:=
 pK (BA .lss v36 v35) fun t1=>
 FB t1 (pK (dD (some 4) v34 v36 h) fun t2=>
 pK (YA (some 4) t2 h) fun t3=>
 alK [.p (.str []),.p (.int .i64 0),.p (.str []),.sl0 none] h fun t4 h5 y6=>
 wK (vC (some 4) t4 t3 h5) fun t7 h8 y9=>
 pK (BA .gtr v36 (AI 0)) fun t10=>
 gP t10 true (YA (some 4) t4 h8) h8 fun t11 h12 y13=>
 gM t10 true v9 h12 fun t14 h15 y16=>
 gM t10 true v36 h15 fun t17 h18 y19=>
 gP t10 true (BA .sub t17 (AI 1)) h18 fun t20 h21 y22=>
 gP t10 true (dD (some 4) t14 t20 h21) h21 fun t23 h24 y25=>
 gP t10 true (YA (some 4) t23 h24) h24 fun t26 h27 y28=>
 gV t10 true h27 (AD C HE [t11,t26] h27) fun t29 h30 y31=>
 gP t10 true (BA .eql t29 (AI 0)) h30 fun t32 h33 y34=>
 pK (nH t10 t32 (AB false)) fun t35=>
 FB t35 (K .ret ⟨[(6,(.p (.sl (some 4) []))),(7,(AI 13))],h33,(y34++(y31++(y28++(y25++(y22++(y19++(y16++(y13++(y9++(y6++x))))))))))⟩)
 (pK (BA .add v36 (AI 1)) fun t36=>
 K .normal ⟨[(9,v9),(34,v34),(35,v35),(36,t36)],h33,(y34++(y31++(y28++(y25++(y22++(y19++(y16++(y13++(y9++(y6++x))))))))))⟩))
 (K (.exit 0) ⟨[(9,v9),(34,v34),(35,v35),(36,v36),(37,t1)],h,x⟩)
theorem zaM {C gl e h x K}:NW C gl eJ ⟨e,h,x⟩ K=z0P C gl (bA e 9) (bA e 34) (bA e 35) (bA e 36) h x K:=by kernel_rfl
theorem zeP {C gl e h x K}:NW C gl (.loop (.scope eJ)) ⟨e,h,x⟩ K=DA C gl (.scope eJ) K [(9,bA e 9),(34,bA e 34),(35,bA e 35),(36,bA e 36)] h x:=CC
def fJ:ACode:=.pr [12,57,58,59] (.seq (rg [bN 60 .lss 59 58] [12,57,58,59,60])
(.seq (.cond 60 .skip
(.exit 2))
(.seq (.block 3 (.seq (rg [iA 61 (some 4) 57 59,
lD 62 (some 4) 61,
uO 14 (.alloc [.p (.str []),.p (.int .i64 0),.p (.str []),.sl0 none]),
wO (.store (some 4) 14 62)] [12,14,57,58,59])
(rg [mV 63 12,
lD 64 (some 4) 14,
cL 65 pI [64],
uO 66 (.bsl false (some 4) 1 (.agg [.str [],.int .i64 0,.str [],.sl none []]) [(0,65)]),
uO 67 (.app (some 4) 63 66),
mV 12 67] [12,57,58,59])))
(rg [bN 68 .add 59 (cI 1),
mV 59 68] [12,57,58,59]))))
def GG (C:Hd)(gl:GL)(v12 v57 v58 v59:AV)(h:aA)(x:Esc)(K:KT):Prop:=
 pK (BA .lss v59 v58) fun t1=>
 FB t1 (pK (dD (some 4) v57 v59 h) fun t2=>
 pK (YA (some 4) t2 h) fun t3=>
 alK [.p (.str []),.p (.int .i64 0),.p (.str []),.sl0 none] h fun t4 h5 y6=>
 wK (vC (some 4) t4 t3 h5) fun t7 h8 y9=>
 pK (YA (some 4) t4 h8) fun t10=>
 C pI [t10] h8 fun t11 h12 y13=>
 wK (dC false (some 4) 1 (.agg [.str [],.int .i64 0,.str [],.sl none []]) [(0,t11)] h12) fun t14 h15 y16=>
 wK (bG (some 4) v12 t14 h15) fun t17 h18 y19=>
 pK (BA .add v59 (AI 1)) fun t20=>
 K .normal ⟨[(12,t17),(57,v57),(58,v58),(59,t20)],h18,(y19++(y16++(y13++(y9++(y6++x)))))⟩)
 (K (.exit 2) ⟨[(12,v12),(57,v57),(58,v58),(59,v59),(60,t1)],h,x⟩)
theorem gI {C gl e h x K}:NW C gl fJ ⟨e,h,x⟩ K=GG C gl (bA e 12) (bA e 57) (bA e 58) (bA e 59) h x K:=by kernel_rfl
theorem zeQ {C gl e h x K}:NW C gl (.loop (.scope fJ)) ⟨e,h,x⟩ K=DA C gl (.scope fJ) K [(12,bA e 12),(57,bA e 57),(58,bA e 58),(59,bA e 59)] h x:=CC
def qP:ACode:=.pr [12] (.seq (rg [mV 69 12,
mV 6 69,
mV 7 (cI 0)] [6,7])
.ret)
def PH (C:Hd)(gl:GL)(v12:AV)(h:aA)(x:Esc)(K:KT):Prop:=
 K .ret ⟨[(6,v12),(7,(AI 0))],h,x⟩
theorem FK {C gl e h x K}:NW C gl qP ⟨e,h,x⟩ K=PH C gl (bA e 12) h x K:=by kernel_rfl
def AZ (q2 q3:ACode):ACode:=.pr [9] (.seq (.seq (rg [mV 54 9,
lN 55 54,
bN 56 .gtr 55 (cI 5000)] [9,56])
(.cond 56 (.seq (rg [mV 6 (.c (.p (.sl (some 4) []))),
mV 7 (cI 2)] [6,7])
.ret)
.skip))
(.seq (rg [uO 12 (.new0 (some 4))] [9,12])
(.seq (.seq (rg [mV 57 9,
lN 58 57,
mV 59 (cI 0)] [12,57,58,59])
(.block 2 (.loop (.scope q2))))
q3)))
def rP:ACode:=AZ fJ qP
def KF (C:Hd)(gl:GL)(q2 q3:ACode)(v9:AV)(h:aA)(x:Esc)(K:KT):Prop:=
 pK (ID v9) fun t1=>
 pK (BA .gtr t1 (AI 5000)) fun t2=>
 FB t2 (K .ret ⟨[(6,(.p (.sl (some 4) []))),(7,(AI 2))],h,x⟩)
 (nwK (some 4) h fun t3 h4 y5=>
 pK (ID v9) fun t6=>
 NW C gl (.loop (.scope q2)) ⟨[(12,t3),(57,v9),(58,t6),(59,(AI 0))],h4,(y5++x)⟩ (JB 2 (yC C gl q3 K)))
theorem z6c {C gl q2 q3 e h x K}:NW C gl (AZ q2 q3) ⟨e,h,x⟩ K=KF C gl q2 q3 (bA e 9) h x K:=by kernel_rfl
theorem GK {C gl e h x K}:NW C gl rP ⟨e,h,x⟩ K=KF C gl fJ qP (bA e 9) h x K:=z6c
def zZ (q1 q4:ACode):ACode:=(.seq (rg [mV 6 (.c (.p (.sl (some 4) []))),
mV 7 (cI 0)] [0,1,2])
(.seq (.seq (rg [mV 15 0,
mV 16 1,
cL 17 nF [15,16],
mV 18 0,
mV 19 2,
cL 20 nF [18,19],
uO 21 (.bsl false none 2 (.int .i64 0) [(0,17),(1,20)]),
cL 22 OF [21],
mV 8 22] [1,2,8])
(.seq (rg [mV 23 8,
bN 24 .neq 23 (cI 0)] [1,2,8,24])
(.cond 24 (.seq (rg [mV 25 8,
mV 6 (.c (.p (.sl (some 4) []))),
mV 7 25] [6,7])
.ret)
.skip)))
(.seq (rg [mV 26 1,
mV 27 2,
uO 28 (.bsl false none 2 (.sl (some 4) []) [(0,26),(1,27)]),
cL 29 BI [28],
mV 9 29] [9])
(.seq (rg [mV 30 9,
cL 31 IE [30,(.f HE)]] [9])
(.seq (rg [mV 32 9,
cL 33 TF [32,(.f QG)],
mV 9 33] [9])
(.seq (.seq (rg [mV 34 9,
lN 35 34,
mV 36 (cI 0)] [9,34,35,36])
(.block 0 (.loop (.scope q1))))
q4))))))
def iR:AFun:=⟨3,[.t 6,.t 7],zZ eJ rP,false,false⟩
def sK (C:Hd)(gl:GL)(q1 q4:ACode)(v0 v1 v2:AV)(h:aA)(x:Esc)(K:KT):Prop:=
 C nF [v0,v1] h fun t1 h2 y3=>
 C nF [v0,v2] h2 fun t4 h5 y6=>
 wK (dC false none 2 (.int .i64 0) [(0,t1),(1,t4)] h5) fun t7 h8 y9=>
 C OF [t7] h8 fun t10 h11 y12=>
 pK (BA .neq t10 (AI 0)) fun t13=>
 FB t13 (K .ret ⟨[(6,(.p (.sl (some 4) []))),(7,t10)],h11,(y12++(y9++(y6++(y3++x))))⟩)
 (wK (dC false none 2 (.sl (some 4) []) [(0,v1),(1,v2)] h11) fun t14 h15 y16=>
 C BI [t14] h15 fun t17 h18 y19=>
 C IE [t17,(.fn HE [])] h18 fun t20 h21 y22=>
 C TF [t17,(.fn QG [])] h21 fun t23 h24 y25=>
 pK (ID t23) fun t26=>
 NW C gl (.loop (.scope q1)) ⟨[(9,t23),(34,t23),(35,t26),(36,(AI 0))],h24,(y25++(y22++(y19++(y16++(y12++(y9++(y6++(y3++x))))))))⟩ (JB 0 (yC C gl q4 K)))
theorem z6b {C gl q1 q4 v0 v1 v2 h x K}:NW C gl (zZ q1 q4) ⟨enter [v0,v1,v2],h,x⟩ K=sK C gl q1 q4 v0 v1 v2 h x K:=by kernel_rfl
theorem zaL {C gl v0 v1 v2 h x K}:NW C gl iR.body ⟨enter [v0,v1,v2],h,x⟩ K=sK C gl eJ rP v0 v1 v2 h x K:=z6b
def aJ:ACode:=.pr [0,9,25,26,27] (.seq (rg [bN 28 .lss 27 26] [0,9,25,26,27,28])
(.seq (.cond 28 .skip
(.exit 0))
(.seq (.block 1 (.seq (rg [iA 29 (some 4) 25 27,
lD 30 (some 4) 29,
uO 11 (.alloc [.p (.str []),.p (.int .i64 0),.p (.str []),.sl0 none]),
wO (.store (some 4) 11 30)] [0,9,11,25,26,27])
(rg [mV 31 9,
mV 32 0,
lD 33 (some 4) 11,
cL 34 oI [32,33],
uO 35 (.look (none,[0]) false (AI 0) 31 34),
bN 36 .add 35 (cI 1),
wO (.mupd (none,[0]) 31 34 36)] [0,9,25,26,27])))
(rg [bN 37 .add 27 (cI 1),
mV 27 37] [0,9,25,26,27]))))
def jT (C:Hd)(gl:GL)(e:En)(h:aA)(x:Esc)(K:KT):Sf C gl aJ e h x K:=⟨_,by simp only[aJ,↓wZ,AO.still];rfl⟩
theorem za9 {C gl e h x K}:NW C gl aJ ⟨e,h,x⟩ K=(jT C gl e h x K).1:=(jT C gl e h x K).2
theorem zeL {C gl e h x K}:NW C gl (.loop (.scope aJ)) ⟨e,h,x⟩ K=DA C gl (.scope aJ) K [(0,bA e 0),(9,bA e 9),(25,bA e 25),(26,bA e 26),(27,bA e 27)] h x:=CC
def lP:ACode:=.pr [9,12,13] (rg [mV 40 13,
bN 41 .add 40 (cI 1),
mV 13 41] [9,12,13])
def kT (C:Hd)(gl:GL)(e:En)(h:aA)(x:Esc)(K:KT):Sf C gl lP e h x K:=⟨_,by simp only[lP,↓wZ,AO.still];rfl⟩
theorem zaA {C gl e h x K}:NW C gl lP ⟨e,h,x⟩ K=(kT C gl e h x K).1:=(kT C gl e h x K).2
def bJ:ACode:=.pr [9,12,13] (.seq (.seq (rg [mV 38 13,
bN 39 .leq 38 (cI 100)] [9,12,13,39])
(.cond 39 .skip
(.exit 2)))
(.seq (.block 3 (.seq (rg [mV 42 9,
mV 43 13,
uO 44 (.look (none,[0]) false (AI 0) 42 43),
bN 45 .gtr 44 (cI 0)] [9,12,13,45])
(.cond 45 (dr [dF (mV 46 12) [12],
dF (mV 47 13) [13],
dT (cL 48 mL [47]) [47],
dF (mV 49 9) [9],
dF (mV 50 13) [13],
dA (uO 51 (.look (none,[0]) false (AI 0) 49 50)) [49,50] false [2] [],
dT (cL 52 tI [48,51]) [48,51],
dF (uO 53 (.bsl false (some 2) 1 (.agg [.str [],.str []]) [(0,52)])) [52],
dT (uO 54 (.app (some 2) 46 53)) [46,53],
dF (mV 12 54) [54]] [9,12,13])
.skip)))
lP))
def lT (C:Hd)(gl:GL)(e:En)(h:aA)(x:Esc)(K:KT):Sf C gl bJ e h x K:=⟨_,by simp only[bJ,↓wZ,AO.still];rfl⟩
theorem zaB {C gl e h x K}:NW C gl bJ ⟨e,h,x⟩ K=(lT C gl e h x K).1:=(lT C gl e h x K).2
theorem zeM {C gl e h x K}:NW C gl (.loop (.scope bJ)) ⟨e,h,x⟩ K=DA C gl (.scope bJ) K [(9,bA e 9),(12,bA e 12),(13,bA e 13)] h x:=CC
def mP:ACode:=.pr [12] (.seq (rg [mV 55 12,
mV 6 55,
mV 7 (cI 0)] [6,7])
.ret)
def mT (C:Hd)(gl:GL)(e:En)(h:aA)(x:Esc)(K:KT):Sf C gl mP e h x K:=⟨_,by simp only[mP,↓wZ,AO.still];rfl⟩
theorem zaC {C gl e h x K}:NW C gl mP ⟨e,h,x⟩ K=(mT C gl e h x K).1:=(mT C gl e h x K).2
def nP:ACode:=.pr [9] (.seq (rg [uO 12 (.new0 (some 2))] [9,12])
(.seq (.seq (rg [mV 13 (cI 1)] [9,12,13])
(.block 2 (.loop (.scope bJ))))
mP))
def nT (C:Hd)(gl:GL)(e:En)(h:aA)(x:Esc)(K:KT):Sf C gl nP e h x K:=⟨_,by simp only[nP,↓wZ,AO.still];rfl⟩
theorem zaD {C gl e h x K}:NW C gl nP ⟨e,h,x⟩ K=(nT C gl e h x K).1:=(nT C gl e h x K).2
def CW:ACode:=(.seq (rg [mV 6 (.c (.p (.sl (some 2) []))),
mV 7 (cI 0)] [0,1,2])
(.seq (.seq (rg [mV 14 0,
mV 15 1,
mV 16 2,
cL 17 PG [14,15,16],
mV 8 17] [0,1,2,8])
(.seq (rg [mV 18 8,
bN 19 .neq 18 (cI 0)] [0,1,2,8,19])
(.cond 19 (.seq (rg [mV 20 8,
mV 6 (.c (.p (.sl (some 2) []))),
mV 7 20] [6,7])
.ret)
.skip)))
(.seq (rg [uO 21 (.mkmap),
mV 9 21] [0,1,2,9])
(.seq (.seq (rg [mV 22 0,
mV 23 1,
mV 24 2,
cL 25 NG [22,23,24],
lN 26 25,
mV 27 (cI 0)] [0,9,25,26,27])
(.block 0 (.loop (.scope aJ))))
nP))))
def dR:AFun:=⟨3,[.t 6,.t 7],CW,false,false⟩
def oK (C:Hd)(gl:GL)(e:En)(h:aA)(x:Esc)(K:KT):Sf C gl CW e h x K:=⟨_,by simp only[CW,↓wZ,AO.still];rfl⟩
theorem za8 {C gl v0 v1 v2 h x K}:NW C gl dR.body ⟨enter [v0,v1,v2],h,x⟩ K=(oK C gl [(0,v0),(1,v1),(2,v2)] h x K).1:=(oK C gl [(0,v0),(1,v1),(2,v2)] h x K).2
def dJ:ACode:=.pr [0,9,22,23,24] (.seq (rg [bN 25 .lss 24 23] [0,9,22,23,24,25])
(.seq (.cond 25 .skip
(.exit 0))
(.seq (.block 1 (.seq (rg [iA 26 (some 4) 22 24,
lD 27 (some 4) 26,
uO 11 (.alloc [.p (.str []),.p (.int .i64 0),.p (.str []),.sl0 none]),
wO (.store (some 4) 11 27)] [0,9,11,22,23,24])
(dr [dF (mV 28 9) [9],
dF (fA 29 0 none 11) [11],
dF (lD 30 none 29) [29],
dF (mV 31 0) [0],
dF (lD 32 (some 4) 11) [11],
dA (cL 33 oI [31,32]) [31,32] true [] [2],
dT (cL 34 tI [30,33]) [30,33],
dF (uO 35 (.bsl false (some 2) 1 (.agg [.str [],.str []]) [(0,34)])) [34],
dT (uO 36 (.app (some 2) 28 35)) [28,35],
dF (mV 9 36) [36]] [0,9,22,23,24])))
(rg [bN 37 .add 24 (cI 1),
mV 24 37] [0,9,22,23,24]))))
def qT (C:Hd)(gl:GL)(e:En)(h:aA)(x:Esc)(K:KT):Sf C gl dJ e h x K:=⟨_,by simp only[dJ,↓wZ,AO.still];rfl⟩
theorem zaJ {C gl e h x K}:NW C gl dJ ⟨e,h,x⟩ K=(qT C gl e h x K).1:=(qT C gl e h x K).2
theorem zeO {C gl e h x K}:NW C gl (.loop (.scope dJ)) ⟨e,h,x⟩ K=DA C gl (.scope dJ) K [(0,bA e 0),(9,bA e 9),(22,bA e 22),(23,bA e 23),(24,bA e 24)] h x:=CC
def pP:ACode:=.pr [9] (.seq (rg [mV 38 9,
mV 6 38,
mV 7 (cI 0)] [6,7])
.ret)
def rT (C:Hd)(gl:GL)(e:En)(h:aA)(x:Esc)(K:KT):Sf C gl pP e h x K:=⟨_,by simp only[pP,↓wZ,AO.still];rfl⟩
theorem zaK {C gl e h x K}:NW C gl pP ⟨e,h,x⟩ K=(rT C gl e h x K).1:=(rT C gl e h x K).2
def FW:ACode:=(.seq (rg [mV 6 (.c (.p (.sl (some 2) []))),
mV 7 (cI 0)] [0,1,2])
(.seq (.seq (rg [mV 12 0,
mV 13 1,
mV 14 2,
cL 15 PG [12,13,14],
mV 8 15] [0,1,2,8])
(.seq (rg [mV 16 8,
bN 17 .neq 16 (cI 0)] [0,1,2,8,17])
(.cond 17 (.seq (rg [mV 18 8,
mV 6 (.c (.p (.sl (some 2) []))),
mV 7 18] [6,7])
.ret)
.skip)))
(.seq (rg [uO 9 (.new0 (some 2))] [0,1,2,9])
(.seq (.seq (rg [mV 19 0,
mV 20 1,
mV 21 2,
cL 22 NG [19,20,21],
lN 23 22,
mV 24 (cI 0)] [0,9,22,23,24])
(.block 0 (.loop (.scope dJ))))
pP))))
def gR:AFun:=⟨3,[.t 6,.t 7],FW,false,false⟩
def rK (C:Hd)(gl:GL)(e:En)(h:aA)(x:Esc)(K:KT):Sf C gl FW e h x K:=⟨_,by simp only[FW,↓wZ,AO.still];rfl⟩
theorem zaI {C gl v0 v1 v2 h x K}:NW C gl gR.body ⟨enter [v0,v1,v2],h,x⟩ K=(rK C gl [(0,v0),(1,v1),(2,v2)] h x K).1:=(rK C gl [(0,v0),(1,v1),(2,v2)] h x K).2
def lJ:ACode:=.pr [5,6,7] (.seq (rg [bN 8 .lss 7 6] [5,6,7,8])
(.seq (.cond 8 .skip
(.exit 0))
(.seq (.block 1 (.seq (rg [iA 9 none 5 7,
lD 10 none 9,
mV 4 10] [4,5,6,7])
(.seq (rg [mV 11 4,
bN 12 .neq 11 (cI 0)] [4,5,6,7,12])
(.cond 12 (.seq (rg [mV 13 4,
mV 2 13] [2])
.ret)
.skip))))
(rg [bN 14 .add 7 (cI 1),
mV 7 14] [5,6,7]))))
def LT (C:Hd)(gl:GL)(e:En)(h:aA)(x:Esc)(K:KT):Sf C gl lJ e h x K:=⟨_,by simp only[lJ,↓wZ,AO.still];rfl⟩
theorem zb0 {C gl e h x K}:NW C gl lJ ⟨e,h,x⟩ K=(LT C gl e h x K).1:=(LT C gl e h x K).2
theorem zeW {C gl e h x K}:NW C gl (.loop lJ) ⟨e,h,x⟩ K=DA C gl lJ K [(5,bA e 5),(6,bA e 6),(7,bA e 7)] h x:=mB
def EP:ACode:=.pr [] (.seq (rg [mV 2 (cI 0)] [2])
.ret)
def MT (C:Hd)(gl:GL)(e:En)(h:aA)(x:Esc)(K:KT):Sf C gl EP e h x K:=⟨_,by simp only[EP,↓wZ,AO.still];rfl⟩
theorem zb1 {C gl e h x K}:NW C gl EP ⟨e,h,x⟩ K=(MT C gl e h x K).1:=(MT C gl e h x K).2
def dX:ACode:=(.seq (rg [mV 2 (cI 0)] [0])
(.seq (.seq (rg [mV 5 0,
lN 6 5,
mV 7 (cI 0)] [5,6,7])
(.block 0 (.loop lJ)))
EP))
def MM:AFun:=⟨1,[.t 2],dX,false,false⟩
def HN (C:Hd)(gl:GL)(e:En)(h:aA)(x:Esc)(K:KT):Sf C gl dX e h x K:=⟨_,by simp only[dX,↓wZ,AO.still];rfl⟩
theorem zbz {C gl v0 h x K}:NW C gl MM.body ⟨enter [v0],h,x⟩ K=(HN C gl [(0,v0)] h x K).1:=(HN C gl [(0,v0)] h x K).2
def yJ:ACode:=.pr [1,2,15,16,17] (.seq (rg [bN 18 .lss 17 16] [1,2,15,16,17,18])
(.seq (.cond 18 .skip
(.exit 0))
(.seq (.block 1 (.seq (rg [mV 19 17,
iA 20 (some 4) 15 17,
lD 21 (some 4) 20,
uO 8 (.alloc [.p (.str []),.p (.int .i64 0),.p (.str []),.sl0 none]),
mV 7 19,
wO (.store (some 4) 8 21)] [1,2,7,8,15,16,17])
(.seq (rg [mV 22 1,
mV 23 7,
iA 24 (some 4) 22 23,
lD 25 (some 4) 24,
uO 9 (.alloc [.p (.str []),.p (.int .i64 0),.p (.str []),.sl0 none]),
wO (.store (some 4) 9 25)] [1,2,8,9,15,16,17])
(.seq (rg [mV 26 2,
lD 27 (some 4) 8,
lD 28 (some 4) 9,
uO 29 (.callv 26 [27,28]),
uO 30 (.un .not 29)] [1,2,15,16,17,30])
(.cond 30 (.seq (rg [mV 6 cF] [6])
.ret)
.skip)))))
(rg [bN 31 .add 17 (cI 1),
mV 17 31] [1,2,15,16,17]))))
def sU (C:Hd)(gl:GL)(e:En)(h:aA)(x:Esc)(K:KT):Sf C gl yJ e h x K:=⟨_,by simp only[yJ,↓wZ,AO.still];rfl⟩
theorem zc8 {C gl e h x K}:NW C gl yJ ⟨e,h,x⟩ K=(sU C gl e h x K).1:=(sU C gl e h x K).2
theorem zfk {C gl e h x K}:NW C gl (.loop (.scope yJ)) ⟨e,h,x⟩ K=DA C gl (.scope yJ) K [(1,bA e 1),(2,bA e 2),(15,bA e 15),(16,bA e 16),(17,bA e 17)] h x:=CC
def WP:ACode:=.pr [] (.seq (rg [mV 6 cT] [6])
.ret)
def tU (C:Hd)(gl:GL)(e:En)(h:aA)(x:Esc)(K:KT):Sf C gl WP e h x K:=⟨_,by simp only[WP,↓wZ,AO.still];rfl⟩
theorem zc9 {C gl e h x K}:NW C gl WP ⟨e,h,x⟩ K=(tU C gl e h x K).1:=(tU C gl e h x K).2
def PX:ACode:=(.seq (rg [mV 6 cF] [0,1,2])
(.seq (.seq (rg [mV 10 0,
lN 11 10,
mV 12 1,
lN 13 12,
bN 14 .neq 11 13] [0,1,2,14])
(.cond 14 (.seq (rg [mV 6 cF] [6])
.ret)
.skip))
(.seq (.seq (rg [mV 15 0,
lN 16 15,
mV 17 (cI 0)] [1,2,15,16,17])
(.block 0 (.loop (.scope yJ))))
WP)))
def mS:AFun:=⟨3,[.t 6],PX,false,false⟩
def DK (C:Hd)(gl:GL)(e:En)(h:aA)(x:Esc)(K:KT):Sf C gl PX e h x K:=⟨_,by simp only[PX,↓wZ,AO.still];rfl⟩
theorem zc7 {C gl v0 v1 v2 h x K}:NW C gl mS.body ⟨enter [v0,v1,v2],h,x⟩ K=(DK C gl [(0,v0),(1,v1),(2,v2)] h x K).1:=(DK C gl [(0,v0),(1,v1),(2,v2)] h x K).2
def AX:ACode:=(.seq (rg [uO 2 (.box 0),
uO 3 (.box 1),
mV 4 cF] [2,3])
(.seq (rg [fA 5 0 none 2,
lD 6 none 5,
fA 7 0 none 3,
lD 8 none 7,
bN 9 .eql 6 8,
mV 10 9,
gD 11 10 true (.faddr 1 none 2),
gD 12 10 true (.load none 11),
gD 13 10 true (.faddr 1 none 3),
gD 14 10 true (.load none 13),
gD 15 10 true (.bin .eql 12 14),
uO 16 (.pick 10 15 cF),
mV 17 16,
gD 18 17 true (.faddr 2 none 2),
gD 19 17 true (.load none 18),
gD 20 17 true (.faddr 2 none 3),
gD 21 17 true (.load none 20),
gD 22 17 true (.bin .eql 19 21),
uO 23 (.pick 17 22 cF),
mV 24 23,
gD 25 24 true (.faddr 3 none 2),
gD 26 24 true (.load none 25),
gD 27 24 true (.faddr 3 none 3),
gD 28 24 true (.load none 27),
gD 29 24 true (.call DI [26,28]),
uO 30 (.pick 24 29 cF),
mV 4 30] [4])
.ret))
def XR:AFun:=⟨2,[.t 4],AX,false,false⟩
def JG (C:Hd)(gl:GL)(e:En)(h:aA)(x:Esc)(K:KT):Sf C gl AX e h x K:=⟨_,by simp only[AX,↓wZ,AO.still];rfl⟩
theorem zcf {C gl v0 v1 h x K}:NW C gl XR.body ⟨enter [v0,v1],h,x⟩ K=(JG C gl [(0,v0),(1,v1)] h x K).1:=(JG C gl [(0,v0),(1,v1)] h x K).2
def sP:ACode:=.pr [0,6,9,10,32,33,34] (rg [bN 44 .add 34 (cI 1),
mV 34 44] [0,6,9,10,32,33,34])
def tT (C:Hd)(gl:GL)(e:En)(h:aA)(x:Esc)(K:KT):Sf C gl sP e h x K:=⟨_,by simp only[sP,↓wZ,AO.still];rfl⟩
theorem zaO {C gl e h x K}:NW C gl sP ⟨e,h,x⟩ K=(tT C gl e h x K).1:=(tT C gl e h x K).2
def gJ:ACode:=.pr [0,6,9,10,32,33,34] (.seq (rg [bN 35 .lss 34 33] [0,6,9,10,32,33,34,35])
(.seq (.cond 35 .skip
(.exit 0))
(.seq (.block 1 (.seq (rg [iA 36 (some 4) 32 34,
lD 37 (some 4) 36,
uO 12 (.alloc [.p (.str []),.p (.int .i64 0),.p (.str []),.sl0 none]),
wO (.store (some 4) 12 37)] [0,6,9,10,12,32,33,34])
(.seq (rg [mV 38 0,
lD 39 (some 4) 12,
cL 40 oF [38,39],
bN 41 .lss 40 (cI 0)] [0,6,9,10,32,33,34,41])
(.cond 41 (rg [mV 42 9,
bN 43 .add 42 (cI 1),
mV 9 43] [0,6,9,10,32,33,34])
.skip))))
sP)))
def uT (C:Hd)(gl:GL)(e:En)(h:aA)(x:Esc)(K:KT):Sf C gl gJ e h x K:=⟨_,by simp only[gJ,↓wZ,AO.still];rfl⟩
theorem zaP {C gl e h x K}:NW C gl gJ ⟨e,h,x⟩ K=(uT C gl e h x K).1:=(uT C gl e h x K).2
theorem zeR {C gl e h x K}:NW C gl (.loop (.scope gJ)) ⟨e,h,x⟩ K=DA C gl (.scope gJ) K [(0,bA e 0),(6,bA e 6),(9,bA e 9),(10,bA e 10),(32,bA e 32),(33,bA e 33),(34,bA e 34)] h x:=CC
def tP:ACode:=.pr [6,9,10] (.seq (rg [mV 45 9,
mV 46 10,
lN 47 46,
cL 48 PF [45,47],
wO (.store (some 2) 6 48),
mV 7 (cI 0)] [6,7])
.ret)
def vT (C:Hd)(gl:GL)(e:En)(h:aA)(x:Esc)(K:KT):Sf C gl tP e h x K:=⟨_,by simp only[tP,↓wZ,AO.still];rfl⟩
theorem zaQ {C gl e h x K}:NW C gl tP ⟨e,h,x⟩ K=(vT C gl e h x K).1:=(vT C gl e h x K).2
def uP:ACode:=.pr [0,1,2,6,8] (.seq (.seq (rg [mV 24 8,
bN 25 .neq 24 (cI 0)] [0,1,2,6,8,25])
(.cond 25 (.seq (rg [uO 26 (.build [.p (.int .i64 0),.p (.int .i64 0)] []),
mV 27 8,
wO (.store (some 2) 6 26),
mV 7 27] [6,7])
.ret)
.skip))
(.seq (rg [mV 9 (cI 0)] [0,1,2,6,9])
(.seq (rg [mV 28 0,
mV 29 1,
mV 30 2,
cL 31 NG [28,29,30],
mV 10 31] [0,6,9,10])
(.seq (.seq (rg [mV 32 10,
lN 33 32,
mV 34 (cI 0)] [0,6,9,10,32,33,34])
(.block 0 (.loop (.scope gJ))))
tP))))
def wT (C:Hd)(gl:GL)(e:En)(h:aA)(x:Esc)(K:KT):Sf C gl uP e h x K:=⟨_,by simp only[uP,↓wZ,AO.still];rfl⟩
theorem zaR {C gl e h x K}:NW C gl uP ⟨e,h,x⟩ K=(wT C gl e h x K).1:=(wT C gl e h x K).2
def GW:ACode:=(.seq (rg [uO 6 (.alloc [.p (.int .i64 0),.p (.int .i64 0)]),
mV 7 (cI 0)] [0,1,2,6])
(.seq (rg [mV 13 0,
mV 14 1,
mV 15 2,
cL 16 PG [13,14,15],
mV 8 16] [0,1,2,6,8])
(.seq (.seq (rg [mV 17 8,
bN 18 .eql 17 (cI 0),
mV 19 18,
gD 20 19 true (.mv 1),
gD 21 19 true (.len 20),
gD 22 19 true (.bin .eql 21 (cI 0)),
uO 23 (.pick 19 22 cF)] [0,1,2,6,8,23])
(.cond 23 (rg [mV 8 (cI 8)] [0,1,2,6,8])
.skip))
uP)))
def jR:AFun:=⟨3,[.cell 6 (some 2),.t 7],GW,false,false⟩
def QH (C:Hd)(gl:GL)(e:En)(h:aA)(x:Esc)(K:KT):Sf C gl GW e h x K:=⟨_,by simp only[GW,↓wZ,AO.still];rfl⟩
theorem zaN {C gl v0 v1 v2 h x K}:NW C gl jR.body ⟨enter [v0,v1,v2],h,x⟩ K=(QH C gl [(0,v0),(1,v1),(2,v2)] h x K).1:=(QH C gl [(0,v0),(1,v1),(2,v2)] h x K).2
def IP:ACode:=.pr [3] (.seq (rg [mV 34 3,
mV 2 34] [2])
.ret)
def RT (C:Hd)(gl:GL)(e:En)(h:aA)(x:Esc)(K:KT):Sf C gl IP e h x K:=⟨_,by simp only[IP,↓wZ,AO.still];rfl⟩
theorem zbA {C gl e h x K}:NW C gl IP ⟨e,h,x⟩ K=(RT C gl e h x K).1:=(RT C gl e h x K).2
def jX:ACode:=(.seq (rg [mV 2 (.c (.p (.sl (some 4) [])))] [0])
(.seq (rg [uO 4 (.build [.p (.str []),.p (.int .i64 0),.p (.int .i64 0),.p (.int .i64 0)] [(0,1,(cS [118,111,108,116])),(2,1,(cI 10)),(3,1,(cI 5))]),
mV 5 0,
uO 6 (.bsl false none 3 (.int .i64 0) [(0,(cI 5)),(1,(cI 6)),(2,(cI 2))]),
cL 7 sC [5,6],
uO 8 (.build [.p (.str []),.p (.int .i64 0),.p (.int .i64 0),.p (.int .i64 0)] [(0,1,(cS [97,109,112])),(1,1,(cI (-5))),(2,1,(cI 5)),(3,1,7)]),
uO 9 (.build [.p (.str []),.p (.int .i64 0),.p (.int .i64 0),.p (.int .i64 0)] [(0,1,(cS [104,122])),(1,1,(cI 3)),(2,1,(cI 8)),(3,1,(cI 9))]),
uO 10 (.bsl true (some 4) 3 (.agg [.str [],.int .i64 0,.int .i64 0,.int .i64 0]) [(0,4),(1,8),(2,9)]),
mV 11 0,
cL 12 lE [11,(cI 1),(cI 3)],
uO 13 (.slice (some 4) 10 none (some 12) none),
mV 3 13] [0,3])
(.seq (.seq (rg [mV 14 0,
cL 15 TD [14,(cI 15)]] [0,3,15])
(.cond 15 (rg [mV 16 3,
mV 17 0,
mV 18 3,
lN 19 18,
cL 20 OC [17,19],
mV 21 0,
uO 22 (.bsl false none 3 (.str []) [(0,(cS [118,111,108,116])),(1,(cS [])),(2,(cS [122]))]),
cL 23 nD [21,22],
mV 24 0,
uO 25 (.bsl false none 4 (.int .i64 0) [(0,(cI 0)),(1,(cI (-100000))),(2,(cI (-100001))),(3,(cI 20))]),
cL 26 sC [24,25],
mV 27 0,
uO 28 (.bsl false none 3 (.int .i64 0) [(0,(cI 10)),(1,(cI 100000)),(2,(cI 100001))]),
cL 29 sC [27,28],
mV 30 0,
cL 31 TG [30,(cI 2),(cI 100)],
uO 32 (.build [.p (.str []),.p (.int .i64 0),.p (.int .i64 0),.p (.int .i64 0)] [(0,1,23),(1,1,26),(2,1,29),(3,1,31)]),
iA 33 (some 4) 16 20,
wO (.store (some 4) 33 32)] [3])
.skip))
IP)))
def HR:AFun:=⟨1,[.t 2],jX,false,false⟩
def xK (C:Hd)(gl:GL)(e:En)(h:aA)(x:Esc)(K:KT):Sf C gl jX e h x K:=⟨_,by simp only[jX,↓wZ,AO.still];rfl⟩
theorem zb9 {C gl v0 h x K}:NW C gl HR.body ⟨enter [v0],h,x⟩ K=(xK C gl [(0,v0)] h x K).1:=(xK C gl [(0,v0)] h x K).2
def qJ:ACode:=.pr [0,13,14,15] (.seq (rg [bN 16 .lss 15 14] [0,13,14,15,16])
(.seq (.cond 16 .skip
(.exit 1))
(.seq (.block 2 (.seq (rg [mV 17 15,
iA 18 (some 4) 13 15,
lD 19 (some 4) 18,
uO 4 (.alloc [.p (.str []),.p (.int .i64 0),.p (.int .i64 0),.p (.int .i64 0)]),
mV 3 17,
wO (.store (some 4) 4 19)] [0,3,4,13,14,15])
(.block 3 (.seq (rg [fA 21 0 none 4,
lD 22 none 21,
cL 23 WG [22],
uO 24 (.un .not 23),
mV 20 24] [0,3,4,13,14,15,20])
(.cond 20 (.seq (rg [mV 2 (cI 5)] [2])
.ret)
(.seq (dr [dF (mV 26 0) [0],
dF (mV 27 3) [3],
dF (uO 28 (.slice (some 4) 26 none (some 27) none)) [26,27],
dF (fA 29 0 none 4) [4],
dF (lD 30 none 29) [29],
dT (cL 31 dL [28,30]) [28,30],
dF (bN 32 .geq 31 (cI 0)) [31],
dF (mV 25 32) [32]] [0,4,13,14,15,25])
(.cond 25 (.seq (rg [mV 2 (cI 6)] [2])
.ret)
(.seq (rg [fA 34 1 none 4,
lD 35 none 34,
fA 36 2 none 4,
lD 37 none 36,
cL 38 UD [35,(cI (-100000)),37],
uO 39 (.un .not 38),
mV 40 39,
gD 41 40 false (.faddr 2 none 4),
gD 42 40 false (.load none 41),
gD 43 40 false (.bin .gtr 42 (cI 100000)),
uO 44 (.pick 40 cT 43),
mV 45 44,
gD 46 45 false (.faddr 3 none 4),
gD 47 45 false (.load none 46),
gD 48 45 false (.call UD [47,(cI 2),(cI 100)]),
gD 49 45 false (.un .not 48),
uO 50 (.pick 45 cT 49),
mV 33 50] [0,13,14,15,33])
(.cond 33 (.seq (rg [mV 2 (cI 1)] [2])
.ret)
.skip)))))))))
(rg [bN 51 .add 15 (cI 1),
mV 15 51] [0,13,14,15]))))
def YT (C:Hd)(gl:GL)(e:En)(h:aA)(x:Esc)(K:KT):Sf C gl qJ e h x K:=⟨_,by simp only[qJ,↓wZ,AO.still];rfl⟩
theorem zbZ {C gl e h x K}:NW C gl qJ ⟨e,h,x⟩ K=(YT C gl e h x K).1:=(YT C gl e h x K).2
theorem zfc {C gl e h x K}:NW C gl (.loop (.scope qJ)) ⟨e,h,x⟩ K=DA C gl (.scope qJ) K [(0,bA e 0),(13,bA e 13),(14,bA e 14),(15,bA e 15)] h x:=CC
def MP:ACode:=.pr [] (.seq (rg [mV 2 (cI 0)] [2])
.ret)
def ZT (C:Hd)(gl:GL)(e:En)(h:aA)(x:Esc)(K:KT):Sf C gl MP e h x K:=⟨_,by simp only[MP,↓wZ,AO.still];rfl⟩
theorem zca {C gl e h x K}:NW C gl MP ⟨e,h,x⟩ K=(ZT C gl e h x K).1:=(ZT C gl e h x K).2
def xX:ACode:=(.seq (rg [mV 2 (cI 0)] [0])
(.seq (.block 0 (.seq (rg [mV 6 0,
lN 7 6,
bN 8 .eql 7 (cI 0),
mV 5 8] [0,5])
(.cond 5 (.seq (rg [mV 2 (cI 8)] [2])
.ret)
(.seq (rg [mV 10 0,
lN 11 10,
bN 12 .gtr 11 (cI 100),
mV 9 12] [0,9])
(.cond 9 (.seq (rg [mV 2 (cI 2)] [2])
.ret)
.skip)))))
(.seq (.seq (rg [mV 13 0,
lN 14 13,
mV 15 (cI 0)] [0,13,14,15])
(.block 1 (.loop (.scope qJ))))
MP)))
def UR:AFun:=⟨1,[.t 2],xX,false,false⟩
def UH (C:Hd)(gl:GL)(e:En)(h:aA)(x:Esc)(K:KT):Sf C gl xX e h x K:=⟨_,by simp only[xX,↓wZ,AO.still];rfl⟩
theorem zbY {C gl v0 h x K}:NW C gl UR.body ⟨enter [v0],h,x⟩ K=(UH C gl [(0,v0)] h x K).1:=(UH C gl [(0,v0)] h x K).2
def oX:ACode:=.pr [0,1,7,8,9,11,12,13,14,29,30,31] (.seq (rg [fA 71 3 none 9,
lD 72 none 71,
mV 73 12,
uO 74 (.bsl false none 1 (.int .i64 0) [(0,73)]),
uO 75 (.app none 72 74),
fA 76 3 none 9,
wO (.store none 76 75)] [0,1,7,8,9,11,12,13,14,29,30,31])
(.seq (rg [mV 77 12,
fA 78 1 none 11,
lD 79 none 78,
bN 80 .lss 77 79,
mV 81 80,
gD 82 81 false (.mv 12),
gD 83 81 false (.faddr 2 none 11),
gD 84 81 false (.load none 83),
gD 85 81 false (.bin .gtr 82 84),
uO 86 (.pick 81 cT 85)] [0,1,7,8,9,13,14,29,30,31,86])
(.cond 86 (.exit 2)
.skip)))
def z0Q (C:Hd)(gl:GL)(v0 v1 v7 v8 v9 v11 v12 v13 v14 v29 v30 v31:AV)(h:aA)(x:Esc)(K:KT):Prop:=
 pK (vB 3 none v9) fun t1=>
 pK (YA none t1 h) fun t2=>
 wK (dC false none 1 (.int .i64 0) [(0,v12)] h) fun t3 h4 y5=>
 wK (bG none t2 t3 h4) fun t6 h7 y8=>
 pK (vB 3 none v9) fun t9=>
 wK (vC none t9 t6 h7) fun t10 h11 y12=>
 pK (vB 1 none v11) fun t13=>
 pK (YA none t13 h11) fun t14=>
 pK (BA .lss v12 t14) fun t15=>
 gM t15 false v12 h11 fun t16 h17 y18=>
 gP t15 false (vB 2 none v11) h17 fun t19 h20 y21=>
 gP t15 false (YA none t19 h20) h20 fun t22 h23 y24=>
 gP t15 false (BA .gtr t16 t22) h23 fun t25 h26 y27=>
 pK (nH t15 (AB true) t25) fun t28=>
 FB t28 (K (.exit 2) ⟨[(0,v0),(1,v1),(7,v7),(8,v8),(9,v9),(13,v13),(14,v14),(29,v29),(30,v30),(31,v31),(86,t28)],h26,(y27++(y24++(y21++(y18++(y12++(y8++(y5++x)))))))⟩)
 (K .normal ⟨[(0,v0),(1,v1),(7,v7),(8,v8),(9,v9),(13,v13),(14,v14),(29,v29),(30,v30),(31,v31),(86,t28)],h26,(y27++(y24++(y21++(y18++(y12++(y8++(y5++x)))))))⟩)
theorem zbG {C gl e h x K}:NW C gl oX ⟨e,h,x⟩ K=z0Q C gl (bA e 0) (bA e 1) (bA e 7) (bA e 8) (bA e 9) (bA e 11) (bA e 12) (bA e 13) (bA e 14) (bA e 29) (bA e 30) (bA e 31) h x K:=by kernel_rfl
def pX:ACode:=.pr [0,1,7,8,9,13,14,29,30,31] (rg [bN 87 .add 31 (cI 1),
mV 31 87] [0,1,7,8,9,13,14,29,30,31])
def z0R (C:Hd)(gl:GL)(v0 v1 v7 v8 v9 v13 v14 v29 v30 v31:AV)(h:aA)(x:Esc)(K:KT):Prop:=
 pK (BA .add v31 (AI 1)) fun t1=>
 K .normal ⟨[(0,v0),(1,v1),(7,v7),(8,v8),(9,v9),(13,v13),(14,v14),(29,v29),(30,v30),(31,t1)],h,x⟩
theorem zbH {C gl e h x K}:NW C gl pX ⟨e,h,x⟩ K=z0R C gl (bA e 0) (bA e 1) (bA e 7) (bA e 8) (bA e 9) (bA e 13) (bA e 14) (bA e 29) (bA e 30) (bA e 31) h x K:=by kernel_rfl
def CZ (q1 q2:ACode):ACode:=.pr [0,1,7,8,9,13,14,29,30,31] (.seq (rg [bN 32 .lss 31 30] [0,1,7,8,9,13,14,29,30,31,32])
(.seq (.cond 32 .skip
(.exit 2))
(.seq (.block 3 (.seq (rg [iA 33 (some 4) 29 31,
lD 34 (some 4) 33,
uO 11 (.alloc [.p (.str []),.p (.int .i64 0),.p (.int .i64 0),.p (.int .i64 0)]),
wO (.store (some 4) 11 34)] [0,1,7,8,9,11,13,14,29,30,31])
(.seq (rg [mV 35 0,
fA 36 1 none 11,
lD 37 none 36,
fA 38 2 none 11,
lD 39 none 38,
fA 40 1 none 11,
lD 41 none 40,
fA 42 2 none 11,
lD 43 none 42,
bN 44 .add 41 43,
bN 45 .quo 44 (cI 2),
fA 46 1 none 11,
lD 47 none 46,
fA 48 2 none 11,
lD 49 none 48,
bN 50 .add 47 49,
bN 51 .quo 50 (cI 2),
fA 52 1 none 11,
lD 53 none 52,
bN 54 .add 53 (cI 1),
uO 55 (.bsl false none 5 (.int .i64 0) [(0,37),(1,39),(2,45),(3,51),(4,54)]),
cL 56 sC [35,55],
mV 12 56] [0,1,7,8,9,11,12,13,14,29,30,31])
(.seq (.seq (rg [mV 57 0,
cL 58 TD [57,(cI 5)]] [0,1,7,8,9,11,12,13,14,29,30,31,58])
(.cond 58 (rg [mV 59 0,
fA 60 1 none 11,
lD 61 none 60,
bN 62 .sub 61 (cI 1),
fA 63 2 none 11,
lD 64 none 63,
bN 65 .add 64 (cI 1),
fA 66 2 none 11,
lD 67 none 66,
bN 68 .add 67 (cI 7),
uO 69 (.bsl false none 3 (.int .i64 0) [(0,62),(1,65),(2,68)]),
cL 70 sC [59,69],
mV 12 70] [0,1,7,8,9,11,12,13,14,29,30,31])
.skip))
q1))))
q2)))
def YL:ACode:=CZ oX pX
def ST (C:Hd)(gl:GL)(q1 q2:ACode)(v0 v1 v7 v8 v9 v13 v14 v29 v30 v31:AV)(h:aA)(x:Esc)(K:KT):Prop:=
 pK (BA .lss v31 v30) fun t1=>
 FB t1 (pK (dD (some 4) v29 v31 h) fun t2=>
 pK (YA (some 4) t2 h) fun t3=>
 alK [.p (.str []),.p (.int .i64 0),.p (.int .i64 0),.p (.int .i64 0)] h fun t4 h5 y6=>
 wK (vC (some 4) t4 t3 h5) fun t7 h8 y9=>
 pK (vB 1 none t4) fun t10=>
 pK (YA none t10 h8) fun t11=>
 pK (vB 2 none t4) fun t12=>
 pK (YA none t12 h8) fun t13=>
 pK (vB 1 none t4) fun t14=>
 pK (YA none t14 h8) fun t15=>
 pK (vB 2 none t4) fun t16=>
 pK (YA none t16 h8) fun t17=>
 pK (BA .add t15 t17) fun t18=>
 pK (BA .quo t18 (AI 2)) fun t19=>
 pK (vB 1 none t4) fun t20=>
 pK (YA none t20 h8) fun t21=>
 pK (vB 2 none t4) fun t22=>
 pK (YA none t22 h8) fun t23=>
 pK (BA .add t21 t23) fun t24=>
 pK (BA .quo t24 (AI 2)) fun t25=>
 pK (vB 1 none t4) fun t26=>
 pK (YA none t26 h8) fun t27=>
 pK (BA .add t27 (AI 1)) fun t28=>
 wK (dC false none 5 (.int .i64 0) [(0,t11),(1,t13),(2,t19),(3,t25),(4,t28)] h8) fun t29 h30 y31=>
 C sC [v0,t29] h30 fun t32 h33 y34=>
 C TD [v0,(AI 5)] h33 fun t35 h36 y37=>
 FB t35 (pK (vB 1 none t4) fun t38=>
 pK (YA none t38 h36) fun t39=>
 pK (BA .sub t39 (AI 1)) fun t40=>
 pK (vB 2 none t4) fun t41=>
 pK (YA none t41 h36) fun t42=>
 pK (BA .add t42 (AI 1)) fun t43=>
 pK (vB 2 none t4) fun t44=>
 pK (YA none t44 h36) fun t45=>
 pK (BA .add t45 (AI 7)) fun t46=>
 wK (dC false none 3 (.int .i64 0) [(0,t40),(1,t43),(2,t46)] h36) fun t47 h48 y49=>
 C sC [v0,t47] h48 fun t50 h51 y52=>
 NW C gl q1 ⟨[(0,v0),(1,v1),(7,v7),(8,v8),(9,v9),(11,t4),(12,t50),(13,v13),(14,v14),(29,v29),(30,v30),(31,v31)],h51,(y52++(y49++(y37++(y34++(y31++(y9++(y6++x)))))))⟩ (JB 3 (yC C gl q2 K)))
 (NW C gl q1 ⟨[(0,v0),(1,v1),(7,v7),(8,v8),(9,v9),(11,t4),(12,t32),(13,v13),(14,v14),(29,v29),(30,v30),(31,v31),(58,t35)],h36,(y37++(y34++(y31++(y9++(y6++x)))))⟩ (JB 3 (yC C gl q2 K))))
 (K (.exit 2) ⟨[(0,v0),(1,v1),(7,v7),(8,v8),(9,v9),(13,v13),(14,v14),(29,v29),(30,v30),(31,v31),(32,t1)],h,x⟩)
theorem z6e {C gl q1 q2 e h x K}:NW C gl (CZ q1 q2) ⟨e,h,x⟩ K=ST C gl q1 q2 (bA e 0) (bA e 1) (bA e 7) (bA e 8) (bA e 9) (bA e 13) (bA e 14) (bA e 29) (bA e 30) (bA e 31) h x K:=by kernel_rfl
theorem zbI {C gl e h x K}:NW C gl YL ⟨e,h,x⟩ K=ST C gl oX pX (bA e 0) (bA e 1) (bA e 7) (bA e 8) (bA e 9) (bA e 13) (bA e 14) (bA e 29) (bA e 30) (bA e 31) h x K:=z6e
theorem zeY {C gl e h x K}:NW C gl (.loop (.scope YL)) ⟨e,h,x⟩ K=DA C gl (.scope YL) K [(0,bA e 0),(1,bA e 1),(7,bA e 7),(8,bA e 8),(9,bA e 9),(13,bA e 13),(14,bA e 14),(29,bA e 29),(30,bA e 30),(31,bA e 31)] h x:=CC
def ZL:ACode:=.pr [0,1,7,8,9,13,14] (rg [mV 125 7,
lD 126 (some 4) 9,
uO 127 (.bsl false (some 4) 1 (.agg [.str [],.int .i64 0,.str [],.sl none []]) [(0,126)]),
uO 128 (.app (some 4) 125 127),
mV 7 128] [0,1,7,8,13,14])
def z0S (C:Hd)(gl:GL)(v0 v1 v7 v8 v9 v13 v14:AV)(h:aA)(x:Esc)(K:KT):Prop:=
 pK (YA (some 4) v9 h) fun t1=>
 wK (dC false (some 4) 1 (.agg [.str [],.int .i64 0,.str [],.sl none []]) [(0,t1)] h) fun t2 h3 y4=>
 wK (bG (some 4) v7 t2 h3) fun t5 h6 y7=>
 K .normal ⟨[(0,v0),(1,v1),(7,t5),(8,v8),(13,v13),(14,v14)],h6,(y7++(y4++x))⟩
theorem zbJ {C gl e h x K}:NW C gl ZL ⟨e,h,x⟩ K=z0S C gl (bA e 0) (bA e 1) (bA e 7) (bA e 8) (bA e 9) (bA e 13) (bA e 14) h x K:=by kernel_rfl
def DZ (q4:ACode):ACode:=.pr [0,1,7,8,9,13,14] (.seq (.seq (rg [mV 88 0,
cL 89 TD [88,(cI 60)]] [0,1,7,8,9,13,14,89])
(.cond 89 (.seq (rg [mV 90 0,
cL 91 OC [90,(cI 3)]] [0,1,7,8,9,13,14,91])
(.block 4 (.seq (rg [bN 103 .eql 91 (cI 0),
mV 102 103] [0,1,7,8,9,13,14,91,102])
(.cond 102 (rg [mV 104 0,
uO 105 (.bsl false none 2 (.str []) [(0,(cS [])),(1,(cS [117,49]))]),
cL 106 nD [104,105],
mV 107 0,
uO 108 (.bsl false none 2 (.str []) [(0,(cS [65])),(1,(cS [115,49]))]),
cL 109 nD [107,108],
mV 110 0,
cL 111 TG [110,(cI 0),(cI 50)],
fA 112 0 none 9,
wO (.store none 112 106),
fA 113 2 none 9,
wO (.store none 113 109),
fA 114 1 none 9,
wO (.store none 114 111)] [0,1,7,8,9,13,14])
(.seq (rg [bN 116 .eql 91 (cI 1),
mV 115 116] [0,1,7,8,9,13,14,115])
(.cond 115 (dr [dF (fA 117 3 none 9) [9],
dF (lD 118 none 117) [117],
dF (mV 119 0) [0],
dF (uO 120 (.bsl false none 3 (.int .i64 0) [(0,(cI 0)),(1,(cI 100001)),(2,(cI (-100001)))])) [],
dA (cL 121 sC [119,120]) [119,120] true [] [1],
dF (uO 122 (.bsl false none 1 (.int .i64 0) [(0,121)])) [121],
dT (uO 123 (.app none 118 122)) [118,122],
dF (fA 124 3 none 9) [9],
dT (wO (.store none 124 123)) [124,123]] [0,1,7,8,9,13,14])
(dr [dF (fA 92 3 none 9) [9],
dF (lD 93 none 92) [92],
dF (mV 94 0) [0],
dF (fA 95 3 none 9) [9],
dF (lD 96 none 95) [95],
dF (lN 97 96) [96],
dF (bN 98 .add 97 (cI 1)) [97],
dA (cL 99 OC [94,98]) [94,98] true [] [1],
dF (uO 100 (.slice none 93 none (some 99) none)) [93,99],
dF (fA 101 3 none 9) [9],
dT (wO (.store none 101 100)) [101,100]] [0,1,7,8,9,13,14])))))))
.skip))
q4)
def qX:ACode:=DZ ZL
def FE (C:Hd)(gl:GL)(q4:ACode)(v0 v1 v7 v8 v9 v13 v14:AV)(h:aA)(x:Esc)(K:KT):Prop:=
 C TD [v0,(AI 60)] h fun t1 h2 y3=>
 FB t1 (C OC [v0,(AI 3)] h2 fun t4 h5 y6=>
 pK (BA .eql t4 (AI 0)) fun t7=>
 FB t7 (wK (dC false none 2 (.str []) [(0,(.p (.str []))),(1,(.p (.str [117,49])))] h5) fun t8 h9 y10=>
 C nD [v0,t8] h9 fun t11 h12 y13=>
 wK (dC false none 2 (.str []) [(0,(.p (.str [65]))),(1,(.p (.str [115,49])))] h12) fun t14 h15 y16=>
 C nD [v0,t14] h15 fun t17 h18 y19=>
 C TG [v0,(AI 0),(AI 50)] h18 fun t20 h21 y22=>
 pK (vB 0 none v9) fun t23=>
 wK (vC none t23 t11 h21) fun t24 h25 y26=>
 pK (vB 2 none v9) fun t27=>
 wK (vC none t27 t17 h25) fun t28 h29 y30=>
 pK (vB 1 none v9) fun t31=>
 wK (vC none t31 t20 h29) fun t32 h33 y34=>
 NW C gl q4 ⟨[(0,v0),(1,v1),(7,v7),(8,v8),(9,v9),(13,v13),(14,v14)],h33,(y34++(y30++(y26++(y22++(y19++(y16++(y13++(y10++(y6++(y3++x))))))))))⟩ K)
 (pK (BA .eql t4 (AI 1)) fun t35=>
 FB t35 (pK (vB 3 none v9) fun t36=>
 pK (YA none t36 h5) fun t37=>
 wK (dC false none 3 (.int .i64 0) [(0,(AI 0)),(1,(AI 100001)),(2,(AI (-100001)))] h5) fun t38 h39 y40=>
 (h39=h5∧y40=[])∧(AD C sC [v0,t38] h39 fun t41 h42 y43=>
 (pK (YA none t36 h42) fun v=>(fun u (g1:aA) (y1:Esc)=>u=t37∧g1=h42∧y1=[]) v h42 [])∧(wK (dC false none 1 (.int .i64 0) [(0,t41)] h42) fun t44 h45 y46=>
 (h45=h42∧y46=[])∧(wK (bG none t37 t44 h45) fun t47 h48 y49=>
 pK (vB 3 none v9) fun t50=>
 wK (vC none t50 t47 h48) fun t51 h52 y53=>
 NW C gl q4 ⟨[(0,v0),(1,v1),(7,v7),(8,v8),(9,v9),(13,v13),(14,v14)],h52,(y53++(y49++(y46++(y43++(y40++(y6++(y3++x)))))))⟩ K))))
 (pK (vB 3 none v9) fun t54=>
 pK (YA none t54 h5) fun t55=>
 pK (vB 3 none v9) fun t56=>
 pK (YA none t56 h5) fun t57=>
 pK (ID t57) fun t58=>
 pK (BA .add t58 (AI 1)) fun t59=>
 AD C OC [v0,t59] h5 fun t60 h61 y62=>
 (pK (YA none t54 h61) fun v=>(fun u (g1:aA) (y1:Esc)=>u=t55∧g1=h61∧y1=[]) v h61 [])∧(pK (eG none t55 none (some t60) none h61) fun t63=>
 pK (vB 3 none v9) fun t64=>
 wK (vC none t64 t63 h61) fun t65 h66 y67=>
 NW C gl q4 ⟨[(0,v0),(1,v1),(7,v7),(8,v8),(9,v9),(13,v13),(14,v14)],h66,(y67++(y62++(y6++(y3++x))))⟩ K))))
 (NW C gl q4 ⟨[(0,v0),(1,v1),(7,v7),(8,v8),(9,v9),(13,v13),(14,v14),(89,t1)],h2,(y3++x)⟩ K)
theorem z6f {C gl q4 e h x K}:NW C gl (DZ q4) ⟨e,h,x⟩ K=FE C gl q4 (bA e 0) (bA e 1) (bA e 7) (bA e 8) (bA e 9) (bA e 13) (bA e 14) h x K:=by kernel_rfl
theorem zbK {C gl e h x K}:NW C gl qX ⟨e,h,x⟩ K=FE C gl ZL (bA e 0) (bA e 1) (bA e 7) (bA e 8) (bA e 9) (bA e 13) (bA e 14) h x K:=z6f
def JP:ACode:=.pr [0,1,7,8,13,14] (rg [bN 129 .add 14 (cI 1),
mV 14 129] [0,1,7,8,13,14])
def z0T (C:Hd)(gl:GL)(v0 v1 v7 v8 v13 v14:AV)(h:aA)(x:Esc)(K:KT):Prop:=
 pK (BA .add v14 (AI 1)) fun t1=>
 K .normal ⟨[(0,v0),(1,v1),(7,v7),(8,v8),(13,v13),(14,t1)],h,x⟩
theorem zbL {C gl e h x K}:NW C gl JP ⟨e,h,x⟩ K=z0T C gl (bA e 0) (bA e 1) (bA e 7) (bA e 8) (bA e 13) (bA e 14) h x K:=by kernel_rfl
def EZ (q3 q5 q6:ACode):ACode:=.pr [0,1,7,8,13,14] (.seq (rg [bN 15 .lss 14 13] [0,1,7,8,13,14,15])
(.seq (.cond 15 .skip
(.exit 0))
(.seq (.block 1 (.seq (rg [mV 16 8,
mV 17 0,
uO 18 (.bsl false none 4 (.int .i64 0) [(0,(cI 1)),(1,(cI 1)),(2,(cI 5)),(3,(cI 0))]),
cL 19 sC [17,18],
bN 20 .add 16 19,
mV 8 20] [0,1,7,8,13,14])
(.seq (rg [mV 21 0,
uO 22 (.bsl false none 4 (.str []) [(0,(cS [117,49])),(1,(cS [117,50])),(2,(cS [117,51])),(3,(cS [117,52]))]),
cL 23 nD [21,22],
mV 24 8,
mV 25 0,
uO 26 (.bsl false none 3 (.str []) [(0,(cS [115,49])),(1,(cS [115,49])),(2,(cS [115,50]))]),
cL 27 nD [25,26],
uO 28 (.build [.p (.str []),.p (.int .i64 0),.p (.str []),.sl0 none] [(0,1,23),(1,1,24),(2,1,27)]),
uO 9 (.alloc [.p (.str []),.p (.int .i64 0),.p (.str []),.sl0 none]),
wO (.store (some 4) 9 28)] [0,1,7,8,9,13,14])
(.seq (.seq (rg [mV 29 1,
lN 30 29,
mV 31 (cI 0)] [0,1,7,8,9,13,14,29,30,31])
(.block 2 (.loop (.scope q3))))
q5))))
q6)))
def nJ:ACode:=EZ YL qX JP
def TT (C:Hd)(gl:GL)(q3 q5 q6:ACode)(v0 v1 v7 v8 v13 v14:AV)(h:aA)(x:Esc)(K:KT):Prop:=
 pK (BA .lss v14 v13) fun t1=>
 FB t1 (wK (dC false none 4 (.int .i64 0) [(0,(AI 1)),(1,(AI 1)),(2,(AI 5)),(3,(AI 0))] h) fun t2 h3 y4=>
 C sC [v0,t2] h3 fun t5 h6 y7=>
 pK (BA .add v8 t5) fun t8=>
 wK (dC false none 4 (.str []) [(0,(.p (.str [117,49]))),(1,(.p (.str [117,50]))),(2,(.p (.str [117,51]))),(3,(.p (.str [117,52])))] h6) fun t9 h10 y11=>
 C nD [v0,t9] h10 fun t12 h13 y14=>
 wK (dC false none 3 (.str []) [(0,(.p (.str [115,49]))),(1,(.p (.str [115,49]))),(2,(.p (.str [115,50])))] h13) fun t15 h16 y17=>
 C nD [v0,t15] h16 fun t18 h19 y20=>
 pK (UB [.p (.str []),.p (.int .i64 0),.p (.str []),.sl0 none] [(0,1,t12),(1,1,t8),(2,1,t18)]) fun t21=>
 alK [.p (.str []),.p (.int .i64 0),.p (.str []),.sl0 none] h19 fun t22 h23 y24=>
 wK (vC (some 4) t22 t21 h23) fun t25 h26 y27=>
 pK (ID v1) fun t28=>
 NW C gl (.loop (.scope q3)) ⟨[(0,v0),(1,v1),(7,v7),(8,t8),(9,t22),(13,v13),(14,v14),(29,v1),(30,t28),(31,(AI 0))],h26,(y27++(y24++(y20++(y17++(y14++(y11++(y7++(y4++x))))))))⟩ (JB 2 (yC C gl q5 (JB 1 (yC C gl q6 K)))))
 (K (.exit 0) ⟨[(0,v0),(1,v1),(7,v7),(8,v8),(13,v13),(14,v14),(15,t1)],h,x⟩)
theorem z6g {C gl q3 q5 q6 e h x K}:NW C gl (EZ q3 q5 q6) ⟨e,h,x⟩ K=TT C gl q3 q5 q6 (bA e 0) (bA e 1) (bA e 7) (bA e 8) (bA e 13) (bA e 14) h x K:=by kernel_rfl
theorem zbM {C gl e h x K}:NW C gl nJ ⟨e,h,x⟩ K=TT C gl YL qX JP (bA e 0) (bA e 1) (bA e 7) (bA e 8) (bA e 13) (bA e 14) h x K:=z6g
theorem zeZ {C gl e h x K}:NW C gl (.loop (.scope nJ)) ⟨e,h,x⟩ K=DA C gl (.scope nJ) K [(0,bA e 0),(1,bA e 1),(7,bA e 7),(8,bA e 8),(13,bA e 13),(14,bA e 14)] h x:=CC
def aM:ACode:=.pr [7] (.seq (rg [mV 130 7,
cL 131 IE [130,(.f UG)]] [7])
(.seq (rg [mV 132 7,
cL 133 TF [132,(.f VG)],
mV 6 133] [6])
.ret))
def z0U (C:Hd)(gl:GL)(v7:AV)(h:aA)(x:Esc)(K:KT):Prop:=
 C IE [v7,(.fn UG [])] h fun t1 h2 y3=>
 C TF [v7,(.fn VG [])] h2 fun t4 h5 y6=>
 K .ret ⟨[(6,t4)],h5,(y6++(y3++x))⟩
theorem zbN {C gl e h x K}:NW C gl aM ⟨e,h,x⟩ K=z0U C gl (bA e 7) h x K:=by kernel_rfl
def BZ (q7 q8:ACode):ACode:=(.seq (rg [mV 6 (.c (.p (.sl (some 4) [])))] [0,1,2])
(.seq (rg [uO 7 (.new0 (some 4))] [0,1,2,7])
(.seq (rg [mV 8 (cI 0)] [0,1,2,7,8])
(.seq (.seq (rg [mV 13 2,
mV 14 (cI 0)] [0,1,7,8,13,14])
(.block 0 (.loop (.scope q7))))
q8))))
def MR:AFun:=⟨3,[.t 6],BZ nJ aM,false,false⟩
def NN (C:Hd)(gl:GL)(q7 q8:ACode)(v0 v1 v2:AV)(h:aA)(x:Esc)(K:KT):Prop:=
 nwK (some 4) h fun t1 h2 y3=>
 NW C gl (.loop (.scope q7)) ⟨[(0,v0),(1,v1),(7,t1),(8,(AI 0)),(13,v2),(14,(AI 0))],h2,(y3++x)⟩ (JB 0 (yC C gl q8 K))
theorem z6d {C gl q7 q8 v0 v1 v2 h x K}:NW C gl (BZ q7 q8) ⟨enter [v0,v1,v2],h,x⟩ K=NN C gl q7 q8 v0 v1 v2 h x K:=by kernel_rfl
theorem zbF {C gl v0 v1 v2 h x K}:NW C gl MR.body ⟨enter [v0,v1,v2],h,x⟩ K=NN C gl nJ aM v0 v1 v2 h x K:=z6d
def rJ:ACode:=.pr [0,1,17,18,19] (.seq (rg [bN 20 .lss 19 18] [0,1,17,18,19,20])
(.seq (.cond 20 .skip
(.exit 0))
(.seq (.block 1 (.seq (rg [mV 21 19,
iA 22 (some 4) 17 19,
lD 23 (some 4) 22,
uO 7 (.alloc [.p (.str []),.p (.int .i64 0),.p (.str []),.sl0 none]),
mV 6 21,
wO (.store (some 4) 7 23)] [0,1,6,7,17,18,19])
(.seq (.seq (rg [mV 24 0,
lD 25 (some 4) 7,
cL 26 fL [24,25],
mV 8 26] [0,1,6,7,8,17,18,19])
(.seq (rg [mV 27 8,
bN 28 .neq 27 (cI 0)] [0,1,6,7,8,17,18,19,28])
(.cond 28 (.seq (rg [mV 29 8,
mV 4 29] [4])
.ret)
.skip)))
(.seq (dr [dF (mV 30 6) [6],
dF (bN 31 .gtr 30 (cI 0)) [30],
dF (mV 32 31) [31],
dF (gD 33 32 true (.mv 1)) [1,32],
dF (gD 34 32 true (.mv 6)) [6,32],
dF (gD 35 32 true (.bin .sub 34 (cI 1))) [34,32],
dF (gD 36 32 true (.iaddr (some 4) 33 35)) [33,35,32],
dF (gD 37 32 true (.load (some 4) 36)) [36,32],
dF (gD 38 32 true (.load (some 4) 7)) [7,32],
dT (gD 39 32 true (.call gL [37,38])) [37,38,32],
dF (gD 40 32 true (.bin .geq 39 (cI 0))) [39,32],
dF (uO 41 (.pick 32 40 cF)) [32,40]] [0,1,17,18,19,41])
(.cond 41 (.seq (rg [mV 4 (cI 7)] [4])
.ret)
.skip)))))
(rg [bN 42 .add 19 (cI 1),
mV 19 42] [0,1,17,18,19]))))
def aU (C:Hd)(gl:GL)(e:En)(h:aA)(x:Esc)(K:KT):Sf C gl rJ e h x K:=⟨_,by simp only[rJ,↓wZ,AO.still];rfl⟩
theorem zcd {C gl e h x K}:NW C gl rJ ⟨e,h,x⟩ K=(aU C gl e h x K).1:=(aU C gl e h x K).2
theorem zfd {C gl e h x K}:NW C gl (.loop (.scope rJ)) ⟨e,h,x⟩ K=DA C gl (.scope rJ) K [(0,bA e 0),(1,bA e 1),(17,bA e 17),(18,bA e 18),(19,bA e 19)] h x:=CC
def NP:ACode:=.pr [] (.seq (rg [mV 4 (cI 0)] [4])
.ret)
def bU (C:Hd)(gl:GL)(e:En)(h:aA)(x:Esc)(K:KT):Sf C gl NP e h x K:=⟨_,by simp only[NP,↓wZ,AO.still];rfl⟩
theorem zce {C gl e h x K}:NW C gl NP ⟨e,h,x⟩ K=(bU C gl e h x K).1:=(bU C gl e h x K).2
def zX:ACode:=(.seq (rg [mV 4 (cI 0)] [0,1])
(.seq (.seq (rg [mV 9 0,
cL 10 wI [9],
mV 5 10] [0,1,5])
(.seq (rg [mV 11 5,
bN 12 .neq 11 (cI 0)] [0,1,5,12])
(.cond 12 (.seq (rg [mV 13 5,
mV 4 13] [4])
.ret)
.skip)))
(.seq (.seq (rg [mV 14 1,
lN 15 14,
bN 16 .gtr 15 (cI 5000)] [0,1,16])
(.cond 16 (.seq (rg [mV 4 (cI 2)] [4])
.ret)
.skip))
(.seq (.seq (rg [mV 17 1,
lN 18 17,
mV 19 (cI 0)] [0,1,17,18,19])
(.block 0 (.loop (.scope rJ))))
NP))))
def WR:AFun:=⟨2,[.t 4],zX,false,false⟩
def VH (C:Hd)(gl:GL)(e:En)(h:aA)(x:Esc)(K:KT):Sf C gl zX e h x K:=⟨_,by simp only[zX,↓wZ,AO.still];rfl⟩
theorem zcc {C gl v0 v1 h x K}:NW C gl WR.body ⟨enter [v0,v1],h,x⟩ K=(VH C gl [(0,v0),(1,v1)] h x K).1:=(VH C gl [(0,v0),(1,v1)] h x K).2
end Go.Am
end
