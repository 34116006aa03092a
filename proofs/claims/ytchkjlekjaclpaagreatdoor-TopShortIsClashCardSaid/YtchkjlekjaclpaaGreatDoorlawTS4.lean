/- Texts of the proof, laid together: Am31, AmX, AmS, CodesA. -/
import GoSem.Extern.Table
import Derived.Laws.World
import Derived.KernelRfl
import Derived.Test.YtchkjlekjaclpaaGreatDoorlawTS3
set_option linter.all false
section
/- The abstract machine,part 31: words in which a function's code is printed,and the rules of computing over them. -/
set_option linter.unusedSimpArgs false
set_option linter.unusedVariables false
namespace Go.Am
variable {C:Hd} {gl:Nat→Option PV} {e:List (Nat × AV)} {h:aA} {x:Esc} {K:Ex→St→Prop} {s:St}
abbrev AI (n:Int):AV:=.p (.int .i64 n)
abbrev AB (b:Bool):AV:=.p (.bool b)
def FA (C:Hd)(gl:Nat→Option PV)(b:ACode)(K:Ex→St→Prop)(e:Ex)(s:St):Prop:=match e with
 | .normal=>NW C gl b s K
 | .exit i=>K (.exit i) s
 | .ret=>K .ret s
def CA (id:Nat)(K:Ex→St→Prop)(e:Ex)(s:St):Prop:=match e with
 | .normal=>K .normal s
 | .exit i=>bif Nat.beq i id then K .normal s else K (.exit i) s
 | .ret=>K .ret s
def nqK (sh:Option Sh)(l:List AV)(h:aA)(k:AV→aA→Esc→Prop):Prop:=match mF h sh l with
 | some l=>l≠[]∧∀y∈l,k y.1 y.2 []
 | none=>False
def nxK (i:AV)(h:aA)(k:AV→aA→Esc→Prop):Prop:=match vK h i with
 | some l=>l≠[]∧∀y∈l,k y.1 y.2 []
 | none=>False
theorem cX {b:ACode}:FA C gl b K .normal s=NW C gl b s K:=(rfl)
theorem bX {b:ACode}{i:Nat}:FA C gl b K (.exit i) s=K (.exit i) s:=(rfl)
theorem dX {b:ACode}:FA C gl b K .ret s=K .ret s:=(rfl)
theorem iR {i:Nat}:CA i K .normal s=K .normal s:=(rfl)
theorem kR {i:Nat}:CA i K (.exit i) s=K .normal s:=by simp [CA]
theorem z3m {i j:Nat}:CA i K (.exit j) s=bif Nat.beq j i then K .normal s else K (.exit j) s:=(rfl)
theorem jR {i:Nat}:CA i K .ret s=K .ret s:=(rfl)
theorem zcw {b:ACode}{ex ex':Ex}{s s':St}(he:ex=ex')(hs:s=s'):FA C gl b K ex s=FA C gl b K ex' s':=by rw[he,hs]
theorem z3l {i:Nat}{ex ex':Ex}{s s':St}(he:ex=ex')(hs:s=s'):CA i K ex s=CA i K ex' s':=by rw[he,hs]
theorem z0j {b:ACode}:NW C gl (.scope b) ⟨e,h,x⟩ K=NW C gl b ⟨e,h,[]⟩ (SI h.length x K):=(rfl)
theorem z0i {c:ACode}{s s':St}(hs:s=s'):NW C gl c s K=NW C gl c s' K:=by rw[hs]
def GA (C:Hd)(gl:Nat→Option PV)(b:ACode)(K:Ex→St→Prop)(e:List (Nat × AV))(h:aA)(x:Esc):Prop:=ALoop (NW C gl b) K ⟨e,h,x⟩
theorem uB {l:List Nat}{b:ACode}:NW C gl (.loop (.pr l b)) ⟨e,h,x⟩ K=GA C gl (.pr l b) K (AA (some l) e) h x:=by
 show ALoop _ _ _=ALoop _ _ _
 exact ZI (funext fun R=>by show NW C gl b _ R=NW C gl b _ R;dsimp only;rw[eL])
theorem LB {l:List Nat}{b:ACode}:NW C gl (.loop (.scope (.pr l b))) ⟨e,h,x⟩ K=GA C gl (.scope (.pr l b)) K (AA (some l) e) h x:=by
 show ALoop _ _ _=ALoop _ _ _
 exact ZI (funext fun R=>by show NW C gl b _ _=NW C gl b _ _;dsimp only;rw[eL])
theorem z0h {b:ACode}{e e':List (Nat × AV)}{h h':aA}{x x':Esc}(h1:e=e')(h2:h=h')(h3:x=x'):GA C gl b K e h x=GA C gl b K e' h' x':=by rw[h1,h2,h3]
theorem kC {σ:Type}{b:ACode}(S:σ→St)(P:σ→Prop)(m:σ→Nat)(t0:σ)(hs:(⟨e,h,x⟩:St)=S t0)(h0:P t0)(hr:∀ t,P t→NW C gl b (S t) (GG S P m K t)):GA C gl b K e h x:=by
 show ALoop (NW C gl b) K _
 rw[hs];have key:∀n t,m t<n→P t→ALoop (NW C gl b) K (S t):=by
  intro n;induction n with
  | zero=>intro t h;omega
  | succ n ih=>
   intro t hm hp;refine .mk _ _ (hr t hp) (fun s' h'=>?_) (fun i s' h'=>h') (fun s' h'=>h')
   obtain⟨u,rfl,hu,hlt⟩:=h';exact ih u (by omega) hu
 exact key _ t0 (Nat.lt_succ_self _) h0
theorem RA {X:Ctx}{f:Nat}{F:AFun}{a asv:List AV}{h h1:aA}{P:kA}(hf:X.fn f=some F)(hr:F.byref=false)(hp:yA h a=some (asv,h1))(hl:asv.length=F.nparams)(hd:F.isDet=false:=by rfl) :
 gA X f a h P=NW (gA X) X.gl F.body ⟨enter asv,h1,[]⟩ (BA F.results F.keep h.length P):=by
 rw[zcN hf hr hp hl hd,BC]
theorem sR {X:Ctx}{f:Nat}{F:AFun}{a asv:List AV}{h h1:aA}{P:kA}(hf:X.fn f=some F)(hr:F.byref=false)(hp:yA h a=some (asv,h1))(hl:asv.length=F.nparams)(hd:F.isDet=true:=by rfl) :
 gA X f a h P = ∃v h' x,P v h' x∧NW (gA X) X.gl F.body ⟨enter asv,h1,[]⟩ (BA F.results F.keep h.length fun v1 h1 x1=>v1=v∧h1=h'∧x1=x):=by
 rw[zcO hf hr hp hl hd];simp only[BC]
theorem vD {X:Ctx}{f:Nat}{F:AFun}{asv:List AV}{h:aA}{P:kA}(hf:X.fn f=some F)(hr:F.byref=true)(hl:asv.length=F.nparams)(hd:F.isDet=false:=by rfl) :
 gA X f asv h P=NW (gA X) X.gl F.body ⟨enter asv,h,[]⟩ (BA F.results F.keep h.length P):=by
 rw[zcL hf hr hl hd,BC]
theorem fW {v:AV}{k:AV→Prop}:pK (some v) k=k v:=(rfl)
theorem eW {k:AV→Prop}:pK none k=False:=(rfl)
theorem BX {v:AV}{h:aA}{x:Esc}{k:AV→aA→Esc→Prop}:wK (some (v,h,x)) k=k v h x:=(rfl)
theorem zX {k:AV→aA→Esc→Prop}:wK none k=False:=(rfl)
theorem zat {p:Prop}[Decidable p]{a b:Option AV}{k:AV→Prop}:pK (if p then a else b) k=if p then pK a k else pK b k:=by split <;> rfl
theorem zdI {p:Prop}[Decidable p]{a b:Option (AV × aA × Esc)}{k:AV→aA→Esc→Prop}:wK (if p then a else b) k=if p then wK a k else wK b k:=by split <;> rfl
theorem zas {o o':Option AV}{k:AV→Prop}(h:o=o'):pK o k=pK o' k:=by rw[h]
theorem zdH {o o':Option (AV × aA × Esc)}{k:AV→aA→Esc→Prop}(h:o=o'):wK o k=wK o' k:=by rw[h]
theorem z8m {v v':AV}{b:Bool}{h:aA}{A:(AV→aA→Esc→Prop)→Prop}{k:AV→aA→Esc→Prop}(h1:v=v'):gV v b h A k=gV v' b h A k:=by rw[h1]
theorem z8k {v v':AV}{b:Bool}{o:Option AV}{h:aA}{k:AV→aA→Esc→Prop}(h1:v=v'):gP v b o h k=gP v' b o h k:=by rw[h1]
theorem z8i {v v':AV}{b:Bool}{u:AV}{h:aA}{k:AV→aA→Esc→Prop}(h1:v=v'):gM v b u h k=gM v' b u h k:=by rw[h1]
section
variable {A:(AV→aA→Esc→Prop)→Prop} {o:Option AV} {u:AV} {k:AV→aA→Esc→Prop} {t b:Bool}
theorem oV:gV (.p (.bool true)) true h A k=A k:=(rfl)
theorem jV:gV (.p (.bool false)) false h A k=A k:=(rfl)
theorem nV:gV (.p (.bool true)) false h A k=k .skp h []:=(rfl)
theorem kV:gV (.p (.bool false)) true h A k=k .skp h []:=(rfl)
theorem lV:gV .skp b h A k=k .skp h []:=(rfl)
theorem z8l:gV (.p (.bool t)) b h A k=FB (.p (.bool t)) b (A k) (k .skp h []):=(rfl)
theorem iV:gP (.p (.bool true)) true o h k=pK o fun v=>k v h []:=(rfl)
theorem cV:gP (.p (.bool false)) false o h k=pK o fun v=>k v h []:=(rfl)
theorem fV:gP (.p (.bool true)) false o h k=k .skp h []:=(rfl)
theorem dV:gP (.p (.bool false)) true o h k=k .skp h []:=(rfl)
theorem eV:gP .skp b o h k=k .skp h []:=(rfl)
theorem z8j:gP (.p (.bool t)) b o h k=FB (.p (.bool t)) b (pK o fun v=>k v h []) (k .skp h []):=(rfl)
theorem bV:gM (.p (.bool true)) true u h k=k u h []:=(rfl)
theorem XU:gM (.p (.bool false)) false u h k=k u h []:=(rfl)
theorem aV:gM (.p (.bool true)) false u h k=k .skp h []:=(rfl)
theorem YU:gM (.p (.bool false)) true u h k=k .skp h []:=(rfl)
theorem ZU:gM .skp b u h k=k .skp h []:=(rfl)
theorem z8h:gM (.p (.bool t)) b u h k=FB (.p (.bool t)) b (k u h []) (k .skp h []):=(rfl)
end
section
variable {k k':IntKind} {a b:Int} {sa sb:List UInt8}
theorem z2P:eA .add (.p (.int k a)) (.p (.int k b))=some (.p (.int k (k.wrap (a+b)))):=by simp [eA,VA,IB]
theorem z3f:eA .sub (.p (.int k a)) (.p (.int k b))=some (.p (.int k (k.wrap (a-b)))):=by simp [eA,VA,IB]
theorem z2X:eA .mul (.p (.int k a)) (.p (.int k b))=some (.p (.int k (k.wrap (a*b)))):=by simp [eA,VA,IB]
theorem z3b:eA .quo (.p (.int k a)) (.p (.int k b))=if b=0 then none else some (.p (.int k (k.wrap (a.tdiv b)))):=by simp [eA,VA,IB] <;> split <;> rfl
theorem z3c:eA .rem (.p (.int k a)) (.p (.int k b))=if b=0 then none else some (.p (.int k (a.tmod b))):=by simp [eA,VA,IB] <;> split <;> rfl
theorem z2Q:eA .and (.p (.int k a)) (.p (.int k b))=some (.p (.int k (BG k a b))):=by simp [eA,VA,IB]
theorem z3a:eA .or (.p (.int k a)) (.p (.int k b))=some (.p (.int k (ior k a b))):=by simp [eA,VA,IB]
theorem z3g:eA .xor (.p (.int k a)) (.p (.int k b))=some (.p (.int k (EG k a b))):=by simp [eA,VA,IB]
theorem z2R:eA .andNot (.p (.int k a)) (.p (.int k b))=some (.p (.int k (CG k a b))):=by simp [eA,VA,IB]
theorem z2S:eA .eql (.p (.int k a)) (.p (.int k b))=some (.p (.bool (decide (a=b)))):=by simp [eA,VA,IB]
theorem z2Y:eA .neq (.p (.int k a)) (.p (.int k b))=some (.p (.bool (!decide (a=b)))):=by simp [eA,VA,IB]
theorem z2W:eA .lss (.p (.int k a)) (.p (.int k b))=some (.p (.bool (decide (a<b)))):=by simp [eA,VA,IB]
theorem z2V:eA .leq (.p (.int k a)) (.p (.int k b))=some (.p (.bool (decide (a≤b)))):=by simp [eA,VA,IB]
theorem z2U:eA .gtr (.p (.int k a)) (.p (.int k b))=some (.p (.bool (decide (b<a)))):=by simp [eA,VA,IB]
theorem z2T:eA .geq (.p (.int k a)) (.p (.int k b))=some (.p (.bool (decide (b≤a)))):=by simp [eA,VA,IB]
theorem z3d:eA .shl (.p (.int k a)) (.p (.int k' b))=if b<0 then none else some (.p (.int k (ishl k a b))):=by simp [eA,VA] <;> split <;> rfl
theorem z3e:eA .shr (.p (.int k a)) (.p (.int k' b))=if b<0 then none else some (.p (.int k (DG k a b))):=by simp [eA,VA] <;> split <;> rfl
theorem zcW:eA .add (.p (.str sa)) (.p (.str sb))=if sa.length+sb.length≤IG then some (.p (.str (sa++sb))) else none:=by simp [eA,VA,fD] <;> split <;> rfl
theorem zcX:eA .eql (.p (.str sa)) (.p (.str sb))=some (.p (.bool (decide (sa=sb)))):=by simp [eA,VA,fD]
theorem zdd:eA .neq (.p (.str sa)) (.p (.str sb))=some (.p (.bool (!decide (sa=sb)))):=by simp [eA,VA,fD]
theorem zdc:eA .lss (.p (.str sa)) (.p (.str sb))=some (.p (.bool (Op.bytesLess sa sb))):=by simp [eA,VA,fD]
theorem zdb:eA .leq (.p (.str sa)) (.p (.str sb))=some (.p (.bool (Op.bytesLess sa sb||decide (sa=sb)))):=by simp [eA,VA,fD]
theorem zda:eA .gtr (.p (.str sa)) (.p (.str sb))=some (.p (.bool (!(Op.bytesLess sa sb||decide (sa=sb))))):=by simp [eA,VA,fD]
theorem zcY:eA .geq (.p (.str sa)) (.p (.str sb))=some (.p (.bool (!Op.bytesLess sa sb))):=by simp [eA,VA,fD]
theorem zdC:oUn .neg (.p (.int k a))=some (.p (.int k (k.wrap (-a)))):=by simp [oUn,aun]
theorem zdD {t:Bool}:oUn .not (.p (.bool t))=some (.p (.bool !t)):=(rfl)
theorem convI {k':IntKind}:ED k (.p (.int k' a))=some (.p (.int k (k.wrap a))):=(rfl)
theorem zab {i j:Nat}:lC (.ref i j)=some (.ref i j):=(rfl)
theorem zac {i j m n:Nat}:lC (.rref i j m n)=some (.rref i j m n):=(rfl)
theorem nilvp {v:PV}:lC (.vp v)=some (.vp v):=(rfl)
theorem nilfn {f:Nat}{cs:List AV}:lC (.fn f cs)=some (.fn f cs):=(rfl)
theorem zbh {t:Bool}{u v:AV}:QA (.p (.bool t)) u v=some (bif t then u else v):=(rfl)
theorem z92 {sh:Sh}{xs:List PV}:zA (.p (.sl sh xs))=some (.p (.int .i64 xs.length)):=(rfl)
theorem z93 {sh:Sh}:zA (.sl0 sh)=some (.p (.int .i64 0)):=(rfl)
theorem z91 {i g o l:Nat}:zA (.own i g o l)=some (.p (.int .i64 l)):=(rfl)
theorem z96:XC (.p (.str sa))=some (.p (.int .i64 sa.length)):=(rfl)
theorem ext_t {vs:List AV}{i:Nat}:xB (.tup vs) i=vs[i]?:=(rfl)
theorem z7Q {off i j:Nat}{sh:Sh}:nA off sh (.ref i j)=some (.ref i (j+off)):=(rfl)
theorem z7R {off i j m n:Nat}{sh:Sh}:nA off sh (.rref i j m n)=some (.rref i j m (n+off)):=(rfl)
theorem z7S {off:Nat}{sh:Sh}{v:PV}:nA off sh (.vp v)=(IA sh off v).map .vp:=(rfl)
theorem z7Y {off:Nat}{sh:Sh}{cs:List PV}:zK off sh (.p (.agg cs))=(IA sh off (.agg cs)).map .p:=(rfl)
theorem z7W {off:Nat}{sh:Sh}{cs:List AV}:zK off sh (.agg cs)=cut sh off cs:=(rfl)
def ldB (sh:Sh)(off:Nat):Option Obj→Option AV
 | some (.box cs)=>cut sh off cs
 | _=>none
def ldR (sh:Sh)(g i off:Nat):Option Obj→Option AV
 | some (.row _ xs _)=>if g=xs.length then((xs[i]?).bind (IA sh off)).map .p else none
 | _=>none
theorem z9B {sh:Sh}{i j:Nat}:jA sh (.ref i j) h=ldB sh j h[i]?:=by unfold jA ldB;rfl
theorem zV {sh:Sh}{i g m n:Nat}:jA sh (.rref i g m n) h=ldR sh g m n h[i]?:=by unfold jA ldR;rfl
theorem BV {sh:Sh}{v:PV}:jA sh (.vp v) h=(IA sh 0 v).map .p:=(rfl)
theorem z9x {sh:Sh}{off:Nat}{cs:List AV}:ldB sh off (some (.box cs))=cut sh off cs:=(rfl)
theorem wV {sh sh':Sh}{g i off fz:Nat}{xs:List PV}:ldR sh g i off (some (.row sh' xs fz))=if g=xs.length then((xs[i]?).bind (IA sh off)).map .p else none:=(rfl)
def stB (sh:Sh)(id off:Nat)(v:AV)(h:aA):Option Obj→Option (List AV)→Option (AV×aA×Esc)
 | some (.box cs),some vs=>if vs.length=cA sh∧off+vs.length≤cs.length then some (.und,h.set id (.box (splice cs off vs)),DC id cs v) else none
 | _,_=>none
theorem zcU {sh:Sh}{i j:Nat}{v:AV}:XA sh (.ref i j) v h=stB sh i j v h h[i]? v.cells:=by unfold XA stB;rfl
theorem zcC {sh:Sh}{id off:Nat}{v:AV}{cs vs:List AV}:stB sh id off v h (some (.box cs)) (some vs)=if vs.length=cA sh∧off+vs.length≤cs.length then some (.und,h.set id (.box (splice cs off vs)),DC id cs v) else none:=(rfl)
theorem z7C {id:Nat}{cs:List AV}{v:PV}:DC id cs (.p v)=[]:=by
 unfold DC;cases WC cs&&decide (AV.top (.p v)≤AV.tops cs) <;> rfl
theorem z7A {id:Nat}{cs:List AV}{v:AV}(h:WC cs=false):DC id cs v=TB id v:=by
 unfold DC;rw[h];rfl
theorem z8B {a:AV}{v:PV}:WC [a,.p v]=false:=(rfl)
theorem z8C {a:AV}{s:Sh}:WC [a,.sl0 s]=false:=(rfl)
theorem z8A {a:AV}{i j k l:Nat}:WC [a,.own i j k l]=false:=(rfl)
theorem z89 {a:AV}:WC [a,.nilp]=false:=(rfl)
theorem z86:WC []=false:=(rfl)
theorem z87 {a:AV}:WC [a]=false:=(rfl)
theorem z88 {a b c:AV}{l:List AV}:WC (a::b::c::l)=false:=by unfold WC;split <;> first|rfl|(rename_i h;simp at h)
theorem z7D {id t n m:Nat}{a:AV}:DC id [a,.bt 1 t (id+1) n] (.ref id m)=[]:=by
 unfold DC;have e:decide (AV.top (.ref id m)≤AV.tops [a,.bt 1 t (id+1) n])=true:=by simp [AV.top,AV.tops];omega
 rw[e];rfl
theorem z7B {id t t' i n n':Nat}{a:AV}:DC id [a,.bt 1 t i n] (.bt 1 t' i n')=[]:=by
 unfold DC;have e:decide (AV.top (.bt 1 t' i n')≤AV.tops [a,.bt 1 t i n])=true:=by simp [AV.top,AV.tops];omega
 rw[e];rfl
def stE (sh:Sh)(id i off fz:Nat)(rsh:Sh)(xs:List PV)(v:PV)(h1:aA):Option PV→Option (AV×aA×Esc)
 | some (.agg cs)=>if off+v.cells.length≤cs.length then some (.und,h1.set id (.row rsh (xs.set i (.agg (splice cs off v.cells))) fz),[]) else none
 | some _=>if off=0∧v.sc then some (.und,h1.set id (.row rsh (xs.set i v) fz),[]) else none
 | none=>none
def stO (sh:Sh)(id g i off:Nat)(v:PV)(h1:aA):Option Obj→Option (AV×aA×Esc)
 | some (.row rsh xs fz)=>if g=xs.length∧fz≤i∧v.cells.length=cA sh∧v.cells.all PV.sc then stE sh id i off fz rsh xs v h1 xs[i]? else none
 | _=>none
def stR (sh:Sh)(id g i off:Nat):Option (PV×aA)→Option (AV×aA×Esc)
 | some y=>stO sh id g i off y.1 y.2 y.2[id]?
 | none=>none
theorem zcV {sh:Sh}{id g i off:Nat}{x:AV}:XA sh (.rref id g i off) x h=stR sh id g i off (pur h x):=by
 unfold XA stR;cases pur h x with
 | none=>rfl
 | some y=>
  obtain⟨v,h1⟩:=y;dsimp only;unfold stO;cases h1[id]? with
  | none=>rfl
  | some o=>cases o <;> rfl
theorem zcK {sh:Sh}{id g i off:Nat}{v:PV}{h1:aA}:stR sh id g i off (some (v,h1))=stO sh id g i off v h1 h1[id]?:=(rfl)
theorem zcJ {sh rsh:Sh}{id g i off fz:Nat}{v:PV}{h1:aA}{xs:List PV}:stO sh id g i off v h1 (some (.row rsh xs fz))=if g=xs.length∧fz≤i∧v.cells.length=cA sh∧v.cells.all PV.sc then stE sh id i off fz rsh xs v h1 xs[i]? else none:=(rfl)
theorem zcD {sh rsh:Sh}{id i off fz:Nat}{v:PV}{h1:aA}{xs cs:List PV}:stE sh id i off fz rsh xs v h1 (some (.agg cs))=if off+v.cells.length≤cs.length then some (.und,h1.set id (.row rsh (xs.set i (.agg (splice cs off v.cells))) fz),[]) else none:=(rfl)
theorem zcF {sh rsh:Sh}{id i off fz:Nat}{v:PV}{h1:aA}{xs:List PV}{k:IntKind}{n:Int}:stE sh id i off fz rsh xs v h1 (some (.int k n))=if off=0∧v.sc then some (.und,h1.set id (.row rsh (xs.set i v) fz),[]) else none:=(rfl)
theorem zcE {sh rsh:Sh}{id i off fz:Nat}{v:PV}{h1:aA}{xs:List PV}{t:Bool}:stE sh id i off fz rsh xs v h1 (some (.bool t))=if off=0∧v.sc then some (.und,h1.set id (.row rsh (xs.set i v) fz),[]) else none:=(rfl)
theorem zcI {sh rsh:Sh}{id i off fz:Nat}{v:PV}{h1:aA}{xs:List PV}{s:List UInt8}:stE sh id i off fz rsh xs v h1 (some (.str s))=if off=0∧v.sc then some (.und,h1.set id (.row rsh (xs.set i v) fz),[]) else none:=(rfl)
theorem zcH {sh rsh:Sh}{id i off fz:Nat}{v:PV}{h1:aA}{xs:List PV}{sh':Sh}{ys:List PV}:stE sh id i off fz rsh xs v h1 (some (.sl sh' ys))=if off=0∧v.sc then some (.und,h1.set id (.row rsh (xs.set i v) fz),[]) else none:=(rfl)
theorem zcG {sh rsh:Sh}{id i off fz:Nat}{v:PV}{h1:aA}{xs:List PV}  : stE sh id i off fz rsh xs v h1 (some .nilp)=if off=0∧v.sc then some (.und,h1.set id (.row rsh (xs.set i v) fz),[]) else none:=(rfl)
theorem pur_p {v:PV}:pur h (.p v)=some (v,h):=(rfl)
def iaS (xs:List PV):Option Nat→Option AV
 | some k=>(xs[k]?).map .vp
 | none=>none
theorem z8x {sh:Sh}{xs:List PV}{i:AV}:sA sh (.p (.sl sh xs)) i h=iaS xs (OA i):=by
 unfold sA iaS;cases OA i <;> simp
theorem z8t {xs:List PV}{n:Nat}:iaS xs (some n)=(xs[n]?).map .vp:=(rfl)
def iaO (sh:Sh)(id g off len:Nat):Option Obj→Option Nat→Option AV
 | some (.row rsh xs _),some k=>if rsh=sh∧g=xs.length∧off+len≤xs.length∧k<len then some (.rref id g (off+k) 0) else none
 | _,_=>none
theorem z8w {sh:Sh}{id g off len:Nat}{i:AV}:sA sh (.own id g off len) i h=iaO sh id g off len h[id]? (OA i):=by
 unfold sA iaO;cases OA i with
 | none=>dsimp only;cases h[id]? with
  | none=>rfl
  | some o=>cases o <;> rfl
 | some k=>dsimp only;cases h[id]? with
  | none=>rfl
  | some o=>cases o <;> rfl
theorem z8s {sh rsh:Sh}{id g off len k fz:Nat}{xs:List PV}:iaO sh id g off len (some (.row rsh xs fz)) (some k)=if rsh=sh∧g=xs.length∧off+len≤xs.length∧k<len then some (.rref id g (off+k) 0) else none:=(rfl)
theorem z82 {i:AV}:FD (.p (.str sa)) i=(OA i).bind fun n=>(sa[n]?).map fun b=>.p (.int .u8 b.toNat):=by
 unfold FD;cases OA i <;> rfl
end
theorem WQ {z:List AV}{k:AV→aA→Esc→Prop}:alK z h k=k (.ref h.length 0) (h++[.box z]) []:=(rfl)
theorem SV {sh:Sh}{k:AV→aA→Esc→Prop}:nwK sh h k=k (.own h.length 0 0 0) (h++[.row sh [] 0]) []:=(rfl)
theorem JV {k:AV→aA→Esc→Prop}:mmK h k=k (.mp h.length) (h++[.amap [] 0]) []:=(rfl)
theorem z4m {A B:Prop}:JH (.p (.bool true)) A B=A:=(rfl)
theorem z4l {A B:Prop}:JH (.p (.bool false)) A B=B:=(rfl)
theorem z4k {A B:Prop}:JH .anyb A B=(A∧B):=(rfl)
theorem zbN {h:aA}:PB [] h=([],h):=(rfl)
theorem zbP {h:aA}{s:Sh}{r:List AV}:PB (.sl0 s::r) h=(.own h.length 0 0 0::(PB r (h++[.row s [] 0])).1,(PB r (h++[.row s [] 0])).2):=(rfl)
theorem zbO {h:aA}{v:PV}{r:List AV}:PB (.p v::r) h=(.p v::(PB r h).1,(PB r h).2):=(rfl)
attribute [go_sem] zbN zbP zbO
theorem zbH {h:aA}:PA [] h=([],h):=(rfl)
theorem zbL {h:aA}{s:Sh}{r:List AV}:PA (.sl0 s::r) h=(.own h.length 0 0 0::(PA r (h++[.row s [] 0])).1,(PA r (h++[.row s [] 0])).2):=(rfl)
theorem zbJ {h:aA}{v:PV}{r:List AV}:PA (.p v::r) h=(.p v::(PA r h).1,(PA r h).2):=(rfl)
theorem zbK {h:aA}{i o:Nat}{r:List AV}:PA (.ref i o::r) h=(.ref i o::(PA r h).1,(PA r h).2):=(rfl)
theorem zbI {h:aA}{i o g l:Nat}{r:List AV}:PA (.own i o g l::r) h=(.own i o g l::(PA r h).1,(PA r h).2):=(rfl)
theorem zbG {h:aA}{i:Nat}{r:List AV}:PA (.mp i::r) h=(.mp i::(PA r h).1,(PA r h).2):=(rfl)
attribute [go_sem] zbH zbL zbJ zbK zbI zbG
def ldAr (sh:Sh)(off g:Nat):Option Obj→Option AV
 | some (.arow rsh cs)=>if g*cA rsh=cs.length then cut sh off cs else none
 | _=>none
theorem z99 {sh:Sh}{off id g:Nat}:jA sh (.bt 4 off id g) h=ldAr sh off g h[id]?:=by
 show ldA sh 4 off id g h=_
 unfold ldA ldAr;rfl
theorem z9w {sh rsh:Sh}{off g:Nat}{cs:List AV}:ldAr sh off g (some (.arow rsh cs))=if g*cA rsh=cs.length then cut sh off cs else none:=(rfl)
def stAr (sh:Sh)(off id g:Nat)(x:AV)(h:aA):Option Obj→Option (List AV)→Option (AV×aA×Esc)
 | some (.arow rsh cs),some vs=>if g*cA rsh=cs.length∧vs.length=cA sh∧off+vs.length≤cs.length then some (.und,h.set id (.arow rsh (splice cs off vs)),TB id x) else none
 | _,_=>none
theorem zcS {sh:Sh}{off id g:Nat}{x:AV}:XA sh (.bt 4 off id g) x h=stAr sh off id g x h h[id]? x.cells:=by
 show stA sh 4 off id g x h=_
 unfold stA stAr;rfl
theorem zcB {sh rsh:Sh}{off id g:Nat}{x:AV}{cs vs:List AV}:stAr sh off id g x h (some (.arow rsh cs)) (some vs)=if g*cA rsh=cs.length∧vs.length=cA sh∧off+vs.length≤cs.length then some (.und,h.set id (.arow rsh (splice cs off vs)),TB id x) else none:=(rfl)
def iaAr (sh:Sh)(id g:Nat):Option Obj→Option Nat→Option AV
 | some (.arow rsh cs),some i=>if rsh=sh∧g*cA rsh=cs.length∧i<g then some (.bt 4 (i*cA sh) id g) else none
 | _,_=>none
theorem z8u {sh:Sh}{t id g:Nat}{i:AV}:sA sh (.bt 3 t id g) i h=iaAr sh id g h[id]? (OA i):=by
 unfold sA iaAr;cases OA i with
 | none=>cases h[id]? with
  | none=>rfl
  | some o=>cases o <;> rfl
 | some k=>
  show iaA sh 3 id g k h=_
  unfold iaA;cases h[id]? with
  | none=>rfl
  | some o=>cases o <;> rfl
theorem z8r {sh rsh:Sh}{id g i:Nat}{cs:List AV}:iaAr sh id g (some (.arow rsh cs)) (some i)=if rsh=sh∧g*cA rsh=cs.length∧i<g then some (.bt 4 (i*cA sh) id g) else none:=(rfl)
theorem z7O {off o id g:Nat}{sh:Sh}:nA off sh (.bt 4 o id g)=some (.bt 4 (o+off) id g):=(rfl)
theorem z9z {t id g:Nat}:zA (.bt 3 t id g)=some (.p (.int .i64 g)):=(rfl)
theorem z9Y {o id g:Nat}:lC (.bt 4 o id g)=some (.bt 4 o id g):=(rfl)
def apAr (sh:Sh)(h:aA)(t id g g':Nat):Option Obj→Option Obj→Option (AV×aA×Esc)
 | some (.arow rsh cs),some (.arow rsh' ds)=>if rsh=sh∧rsh'=sh∧g*cA sh=cs.length∧g'*cA sh=ds.length∧g+g'≤oB then
  some (.bt 3 t id (g+g'),h.set id (.arow sh (cs++ds)),bif decide (id<AV.tops ds) then [(id,AV.tops ds)] else []) else none
 | _,_=>none
theorem z25 {sh:Sh}{t id g t' id' g':Nat}:apA sh h (.bt 3 t id g) (.bt 3 t' id' g')=apAr sh h t id g g' h[id]? h[id']?:=by
 show(match h[id]?,h[id']? with|_,_=>_)=_
 unfold apAr;rfl
theorem z26 {sh rsh rsh':Sh}{t id g g':Nat}{cs ds:List AV}:apAr sh h t id g g' (some (.arow rsh cs)) (some (.arow rsh' ds))=if rsh=sh∧rsh'=sh∧g*cA sh=cs.length∧g'*cA sh=ds.length∧g+g'≤oB then
 some (.bt 3 t id (g+g'),h.set id (.arow sh (cs++ds)),bif decide (id<AV.tops ds) then [(id,AV.tops ds)] else []) else none:=(rfl)
theorem zbM {h:aA}{k t i g:Nat}{r:List AV}:PB (.bt k t i g::r) h=(.bt 3 t h.length 0::(PB r (h++[.arow (yD t) []])).1,(PB r (h++[.arow (yD t) []])).2):=(rfl)
theorem z40:yD 0=none:=(rfl)
theorem z41 {n:Nat}:yD (n+1)=some n:=(rfl)
attribute [go_sem] z99 z9w zcS zcB z8u z8r z7O z9z z9Y z25 z26 zbM z40 z41
attribute [go_sem] cX bX dX iR kR jR z0j fW eW BX zX zat zdI oV jV nV kV lV iV cV fV dV eV bV XU aV YU ZU z2P z3f z2X z3b z3c z2Q z3a z3g z2R z2S z2Y z2W z2V z2U z2T z3d z3e zcW zcX zdd zdc zdb zda zcY zdC zdD convI zab zac nilvp nilfn zbh z92 z93 z91 z96 ext_t z7Q z7R z7S z7Y z7W z9B zV BV z9x wV zcU zcC zcV zcK zcJ zcD zcF zcE zcI zcH zcG pur_p z7C z7A z8B z8C z8A z89 z86 z87 z88 z7D z7B z8x z8t z8w z8s z82 WQ SV JV OF UW upcB neqB lenB n64 xT strB appB rds rd iB WA YH wB ZH iI iO LE z4m z4l z4k gI XV NE jE lO oC mO YC jI gO HF TV oClr oMx oMn yB gC WV UV VV jO BK AK
attribute [go_sem ↓] fW eW BX zX oV jV nV kV lV iV cV fV dV eV bV XU aV YU ZU MR LR IX DX GX EX FX cX bX dX iR kR jR WQ SV JV EV DV FV aX LU MU
attribute [go_sem low] z8l z8j z8h z3m
attribute [congr] zcw z3l z0i z0h zas zdH z8m z8k z8i
end Go.Am
end
section
/- The abstract machine,part X: the library's functions that have no Go text: comparing strings,finding a byte. -/
set_option linter.unusedSimpArgs false
set_option linter.unusedVariables false
namespace Go.Am
variable {P:Program}
structure ExtRow (P:Program) (f:Nat) (e:Array Value→Sem Value):Prop where
 row:∃fn,P.funcs[f]?=some fn∧fn.name ≠ "runtime.NumGoroutine" ∧ fn.body=none∧Extern.findNext fn=none∧Extern.find fn=some e
theorem ExtRow.run {f:Nat}{e:Array Value→Sem Value}(R:ExtRow P f e){us:Array Value}{w w':World}{x:Value}(he:(e us).run P w = .ok x w'):(callFunc f us).run P w = .ok (.value x) w':=by
 obtain⟨fn,h1,h2,h3,h4,h5⟩:=R.row;unfold callFunc;simp [h1,h2,h3,h4,h5,he]
theorem zeI {f:Nat}{e:Array Value→Sem Value}(h:(match P.funcs[f]? with | some fn=>fn.name != "runtime.NumGoroutine" && fn.body.isNone&&(Extern.findNext fn).isNone | none=>false)=true)(h2:(P.funcs[f]?).bind Extern.find=some e):ExtRow P f e:=by
 cases hf:P.funcs[f]? with
 | none=>rw[hf]at h;cases h
 | some fn=>
  rw[hf]at h h2;simp only[Bool.and_eq_true,bne_iff_ne,ne_eq,Option.isNone_iff_eq_none]at h;exact⟨⟨fn,hf,h.1.1,h.1.2,h.2,h2⟩⟩
def idxB (s:List UInt8)(c:UInt8):Int:=if s.findIdx (· == c)<s.length then(s.findIdx (· == c):Int) else -1
def xA:List UInt8→List UInt8→Int
 | [],[]=>0
 | [],_::_=>-1
 | _::_,[]=>1
 | a::asv,b::bs=>if a<b then -1 else if b<a then 1 else xA asv bs
theorem fR (s:List UInt8)(i:Nat):(⟨s.toArray⟩:ByteArray)[i]! = s.getD i 0:=by
 by_cases h:i<s.length
 ·rw[getElem!_pos (⟨s.toArray⟩:ByteArray) i h]
  show s.toArray[i]=_
  simp [h]
 ·rw[getElem!_neg (⟨s.toArray⟩:ByteArray) i h]
  simp [Nat.not_lt.1 h];rfl
theorem z8c (s:List UInt8)(c:UInt8):(match (List.range (⟨s.toArray⟩:ByteArray).size).find? fun i=>(⟨s.toArray⟩:ByteArray)[i]! == c with
 | some i=>(i:Int)
 | none=>-1)=idxB s c:=by
 have hsz:(⟨s.toArray⟩:ByteArray).size=s.length:=rfl
 have hget:∀i,i<s.length→(⟨s.toArray⟩:ByteArray)[i]! = s.getD i 0:=by
  intro i hi;exact fR s i
 unfold idxB;rw[hsz];by_cases h:s.findIdx (· == c)<s.length
 ·rw[if_pos h]
  have hf:(List.range s.length).find? (fun i=>(⟨s.toArray⟩:ByteArray)[i]! == c)=some (s.findIdx (· == c)):=by
   rw[List.find?_eq_some_iff_getElem];refine⟨?_,s.findIdx (· == c),by simpa using h,by simp,fun j hj=>?_⟩
   ·rw[hget _ h]
    have:=List.findIdx_getElem (w:=h);simpa [h] using this
   ·simp only[List.getElem_range]
    have hj':j<s.length:=by omega
    rw[hget _ hj'];have:=List.not_of_lt_findIdx hj;simpa [hj'] using this
  rw[hf]
 ·rw[if_neg h]
  have hf:(List.range s.length).find? (fun i=>(⟨s.toArray⟩:ByteArray)[i]! == c)=none:=by
   rw[List.find?_eq_none];intro i hi;rw[List.mem_range]at hi;rw[hget _ hi];intro hc;exact h (List.findIdx_lt_length_of_exists ⟨s[i],List.getElem_mem hi,by simpa [hi] using hc⟩)
  rw[hf]
theorem z4f:∀ (a b:List UInt8),Extern.BytealgCompare.cmp ⟨a.toArray⟩ ⟨b.toArray⟩=xA a b:=by
 have key:∀(a b:List UInt8),(match (List.range (min a.length b.length)).find? fun i=>a.getD i 0 != b.getD i 0 with
  | some i=>if a.getD i 0<b.getD i 0 then(-1:Int) else 1
  | none=>if a.length<b.length then -1 else if a.length>b.length then 1 else 0)=xA a b:=by
  intro a;induction a with
  | nil=>intro b;cases b <;> simp [xA]
  | cons x a ih=>
   intro b;cases b with
   | nil=>simp [xA]
   | cons y b=>
    have hm:min (x::a).length (y::b).length=min a.length b.length+1:=by simp only[List.length_cons];omega
    rw[hm,List.range_succ_eq_map,List.find?_cons];simp only[List.getD_cons_zero];by_cases hxy:x=y
    ·subst hxy
     have hlt:¬x<x:=UInt8.lt_irrefl x
     simp only[bne_self_eq_false,List.find?_map,xA,hlt,if_false];rw[←ih b];have hc:((fun i=>(x::a).getD i 0 != (x::b).getD i 0) ∘ Nat.succ)=fun i=>a.getD i 0 != b.getD i 0:=by
      funext i;simp
     rw[hc];cases (List.range (min a.length b.length)).find? fun i=>a.getD i 0 != b.getD i 0 with
     | none=>simp
     | some i=>simp
    ·have:(x != y)=true:=by simpa using hxy
     rw[this];simp only[xA,List.getD_cons_zero];by_cases h1:x<y
     ·simp [h1]
     ·have h2:y<x:=by
       rcases UInt8.lt_or_lt_of_ne (a:=x) (b:=y) hxy with h|h
       ·exact absurd h h1
       ·exact h
      simp [h1,h2]
 intro a b;rw[←key a b];unfold Extern.BytealgCompare.cmp;have sa:(⟨a.toArray⟩:ByteArray).size=a.length:=rfl
 have sb:(⟨b.toArray⟩:ByteArray).size=b.length:=rfl
 simp only[sa,sb,fR];generalize List.find? _ _=q;cases q <;> rfl
def fG (fi fc:Nat)(f:Nat)(vs:List PV):Option PV:=
 bif Nat.beq f fi then(match vs with
  | [.str s,.int .u8 c]=>some (.int .i64 (idxB s (UInt8.ofNat c.toNat)))
  | _=>none)
 else bif Nat.beq f fc then(match vs with
  | [.str a,.str b]=>some (.int .i64 (xA a b))
  | _=>none)
 else none
theorem extF_ok {fi fc:Nat}(h1:ExtRow P fi Extern.BytealgIndexByte.indexByte)(h2:ExtRow P fc Extern.BytealgCompare.compare){f:Nat}{vs:List PV}{r:PV}(h:fG fi fc f vs=some r):NP P f vs r:=by
 intro M w us hM hl hr;unfold fG at h;cases e1:Nat.beq f fi with
 | true=>
  rw[e1]at h;have e:=Nat.eq_of_beq_eq_true e1
  subst e;simp only[cond_true]at h;split at h
  ·rename_i s c
   injection h with h
   subst h;match us,hl with
   | [u,v],_=>
    have q1:=hr 0 _ u rfl rfl
    have q2:=hr 1 _ v rfl rfl
    cases q1;cases q2
    refine⟨.int .i64 (idxB s (UInt8.ofNat c.toNat)),w,h1.run ?_,WExt.refl w,.int _ _⟩;rw[←z8c];show(match (List.range (⟨s.toArray⟩:ByteArray).size).find? fun i=>(⟨s.toArray⟩:ByteArray)[i]! == UInt8.ofNat c.toNat with|some i=>(pure (goInt i):Sem Value)|none=>pure (goInt (-1))).run P w=_
    generalize List.find? _ _=q;cases q <;> rfl
  ·cases h
 | false=>
  rw[e1]at h;simp only[cond_false]at h;cases e2:Nat.beq f fc with
  | true=>
   rw[e2]at h;have e:=Nat.eq_of_beq_eq_true e2
   subst e;simp only[cond_true]at h;split at h
   ·rename_i a b
    injection h with h
    subst h;match us,hl with
    | [u,v],_=>
     have q1:=hr 0 _ u rfl rfl
     have q2:=hr 1 _ v rfl rfl
     cases q1;cases q2
     refine⟨.int .i64 (xA a b),w,h2.run ?_,WExt.refl w,.int _ _⟩;rw[←z4f];rfl
   ·cases h
  | false=>rw[e2]at h;cases h
theorem z7K {X:Ctx}{f:Nat}{asv:List AV}{vs:List PV}{h h1:aA}{r:PV}{K:kA}(hf:X.fn f=none)(h2:X.ex2 f asv h=none)(hp:yA h asv=some (vs.map .p,h1))(hu:unp (vs.map AV.p)=some vs)(hx:X.ext f vs=some r):gA X f asv h K=K (.p r) h1 []:=by
 refine propext (gA.eq (gA.fold ?_) K);unfold nB;simp only[hf,h2,hp,hu,hx];exact⟨trivial,trivial,trivial⟩
structure GrowRow (P:Program) (f:Nat) (sh:Sh):Prop where
 enter:∀us w,(callFunc f us).run P w = .ok (.enter f us) w
 room:∀a w,Calls P f #[.slice a 0 0,.int .i64 0] w fun e w'=>e = .returned (.slice a 0 0)∧w'=w
 grow:∀a (n:Nat) w,0<n→n≤1048576→Calls P f #[.slice a 0 0,.int .i64 n] w fun e w'=>∃G cs E,e = .returned (.slice (some ⟨w.heap.size,0,none⟩) 0 G)∧cs.size=G*cA sh∧w'=w.drew.alloc (.cells cs E)
def nK:List (Nat × Sh)→Nat→List AV→aA→Option (AV×aA×Esc)
 | [],_,_,_=>none
 | (g,sh)::r,f,asv,h=>bif Nat.beq f g then(match asv with
  | [.sl0 _,.p (.int .i64 n)]=>bif decide (0≤n)&&decide (n≤1048576) then some (.own h.length 0 0 0,h++[.row sh [] 0],[]) else none
  | _=>none) else nK r f asv h
theorem tV {gl:Nat→Option PV}:∀(gs:List (Nat×Sh)),(∀g sh,(g,sh)∈gs→GrowRow P g sh)→∀{f:Nat} {asv:List AV} {h:aA} {v:AV} {h':aA} {x:Esc},nK gs f asv h=some (v,h',x) →
 CB P gl f asv h fun v1 h1 x1=>v1=v∧h1=h'∧x1=x
 | [],_,f,asv,h,v,h',x,H=>by cases H
 | (g,sh)::r,hg,f,asv,h,v,h',x,H=>by
  unfold nK at H;cases e1:Nat.beq f g with
  | false=>
   rw[e1]at H;exact tV r (fun g sh hm=>hg g sh (by simp [hm])) H
  | true=>
   rw[e1]at H;have e:=Nat.eq_of_beq_eq_true e1
   subst e;have R:=hg f sh (by simp)
   simp only[cond_true]at H;split at H
   ·rename_i sh' n
    cases hb:(decide (0≤n)&&decide (n≤1048576)) with
    | false=>rw[hb]at H;cases H
    | true=>
     rw[hb]at H;simp only[cond_true,Option.some.injEq,Prod.mk.injEq]at H;obtain⟨rfl,rfl,rfl⟩:=H;simp only[Bool.and_eq_true,decide_eq_true_eq]at hb;intro μ w vs Hh Hg hl hr;match vs,hl with
     | [u1,u2],_=>
      have q1:=hr 0 _ u1 rfl rfl
      have q2:=(hr 1 _ u2 rfl rfl).p_inv
      cases q1;cases q2
      obtain⟨m,hm⟩:=Int.eq_ofNat_of_zero_le hb.1;subst hm;refine .inl ⟨R.enter _,?_⟩;rcases Nat.eq_zero_or_pos m with h0|h0
      ·subst h0
       refine(R.room _ w).mono fun e w' he=>?_
       obtain⟨rfl,rfl⟩:=he;obtain⟨n1,n2⟩:=xK Hh sh;refine⟨_,_,_,_,⟨rfl,rfl,rfl⟩,?_,n1,n2,rA.push (by simp [Obj.top])⟩
       exact .own h.length 0 0 0 _ 0 sh [] 0 none (Nat.le_refl _) (by simp) (by rw[←Hh.len];simp) (by simp) (by simp) (fun _=>rfl)
      ·refine(R.grow _ m w h0 (by omega)).mono fun e w' he=>?_
       obtain⟨G,cs,E,rfl,hcs,rfl⟩:=he;have hw:WExt w (w.drew.alloc (.cells cs E)):=(WExt.drew w _).trans (WExt.push _ _)
       obtain⟨n1,n2⟩:=GF (sh:=sh) (xs:=[]) Hh hw (b:=w.heap.size) (n:=cs.size) (Nat.le_refl _) (by show w.heap.size<(w.heap.push _).size;simp) (c:=cs) (MA.push (w:=w.drew) cs E) (by simp) (by simp) (by simp)
       refine⟨_,_,_,_,⟨rfl,rfl,rfl⟩,?_,n1,n2,rA.push (by simp [Obj.top])⟩
       refine .own h.length 0 0 0 _ G sh [] 0 (some (w.heap.size,cs.size)) (Nat.zero_le _) (by simp) (by rw[←Hh.len];simp) (by simp) (by simp) (fun _=>?_)
       exact .inr ⟨by simp,by simp [hcs]⟩
   ·cases H
end Go.Am
end
section
/- Short words for the printed code. -/
set_option linter.all false
namespace Go.Am
instance {n:Nat}:OfNat Opd n:=⟨.t n⟩
abbrev GL:=Nat→Option PV
abbrev KT:=Ex→St→Prop
def cI (n:Int):Opd:=.c (.p (.int .i64 n))
def cT:Opd:=.c (.p (.bool true))
def cF:Opd:=.c (.p (.bool false))
def cS (s:List UInt8):Opd:=.c (.p (.str s))
def uO (d:Nat)(o:AO):AOp:=⟨some d,none,o⟩
def wO (o:AO):AOp:=⟨none,none,o⟩
def gD (d g:Nat)(b:Bool)(o:AO):AOp:=⟨some d,some (g,b),o⟩
def mV (d:Nat)(x:Opd):AOp:=⟨some d,none,.mv x⟩
def bN (d:Nat)(b:BinOp)(x y:Opd):AOp:=⟨some d,none,.bin b x y⟩
def cL (d f:Nat)(l:List Opd):AOp:=⟨some d,none,.call f l⟩
def lD (d:Nat)(s:Sh)(x:Opd):AOp:=⟨some d,none,.load s x⟩
def iA (d:Nat)(s:Sh)(x y:Opd):AOp:=⟨some d,none,.iaddr s x y⟩
def fA (d o:Nat)(s:Sh)(x:Opd):AOp:=⟨some d,none,.faddr o s x⟩
def lN (d:Nat)(x:Opd):AOp:=⟨some d,none,.len x⟩
def eX (d:Nat)(x:Opd)(i:Nat):AOp:=⟨some d,none,.ext x i⟩
def dF (o:AOp)(l:List Nat):DOp:=⟨o,l,false,[],[]⟩
def dT (o:AOp)(l:List Nat):DOp:=⟨o,l,true,[],[]⟩
def dA (o:AOp)(l:List Nat)(e:Bool)(a b:List Nat):DOp:=⟨o,l,e,a,b⟩
def rg (l:List AOp)(k:List Nat):ACode:=.reg l (some k)
def dr (l:List DOp)(k:List Nat):ACode:=.draw l (some k)
end Go.Am
end
section
/- The functions asv abstract code,and asv formulas over their values: printed by program out of the translation. -/
set_option linter.unusedVariables false
set_option maxRecDepth 100000
namespace Go.Am
def z0D:ACode:=(.seq (rg [mV 2 cF] [0])
(.seq (rg [mV 14 0,
uO 15 (.build [.sl0 none,.p (.int .i64 0)] [(0,1,14)]),
uO 16 (.box 15),
mV 3 16] [3])
(.seq (rg [mV 4 (.f dE)] [3,4])
(.seq (rg [mV 17 4,
uO 18 (.callv 17 [(cI 2),(cS [97])]),
mV 19 4,
uO 20 (.callv 19 [(cI 2),(cS [98])]),
uO 21 (.bsl false (some 4) 2 (.agg [.int .i64 0,.str [],.int .i64 0,.int .i64 0]) [(0,18),(1,20)]),
uO 22 (.build [.p (.str []),.sl0 (some 4)] [(0,1,(cS [117])),(1,1,21)]),
mV 23 4,
uO 24 (.callv 23 [(cI 1),(cS [97])]),
mV 25 4,
uO 26 (.callv 25 [(cI 1),(cS [98])]),
uO 27 (.bsl false (some 4) 2 (.agg [.int .i64 0,.str [],.int .i64 0,.int .i64 0]) [(0,24),(1,26)]),
uO 28 (.build [.p (.str []),.sl0 (some 4)] [(0,1,(cS [118])),(1,1,27)]),
uO 29 (.bsl false (some 2) 2 (.agg [.str [],.sl (some 4) []]) [(0,22),(1,28)]),
uO 30 (.build [.p (.str []),.p (.str []),.p (.str [])] [(0,1,(cS [110])),(1,1,(cS [117])),(2,1,(cS [97]))]),
uO 31 (.build [.p (.str []),.p (.str []),.p (.str [])] [(0,1,(cS [110])),(1,1,(cS [117])),(2,1,(cS [98]))]),
uO 32 (.build [.p (.str []),.p (.str []),.p (.str [])] [(0,1,(cS [110])),(1,1,(cS [118])),(2,1,(cS [97]))]),
uO 33 (.build [.p (.str []),.p (.str []),.p (.str [])] [(0,1,(cS [110])),(1,1,(cS [118])),(2,1,(cS [98]))]),
uO 34 (.bsl false (some 3) 4 (.agg [.str [],.str [],.str []]) [(0,30),(1,31),(2,32),(3,33)]),
uO 35 (.build [.sl0 (some 2),.sl0 (some 3),.sl0 (some 2)] [(0,1,29),(1,1,34)]),
uO 5 (.alloc [.sl0 (some 2),.sl0 (some 3),.sl0 (some 2)]),
wO (.store (some 3) 5 35)] [3,5])
(.seq (rg [mV 36 3,
uO 37 (.bsl false none 2 (.str []) [(0,(cS [48])),(1,(cS [49]))]),
cL 38 kD [36,37],
mV 39 3,
uO 40 (.bsl false none 2 (.str []) [(0,(cS [48])),(1,(cS [49]))]),
cL 41 kD [39,40],
mV 6 38,
mV 7 41] [5,6,7])
(.seq (rg [lD 43 (some 3) 5,
mV 44 6,
mV 45 7,
bN 46 .add 44 45,
uO 47 (.bsl false none 2 (.str []) [(0,46),(1,(cS [48,48]))]),
cL 48 ZD [43,47],
mV 42 48,
eX 49 42 0,
eX 50 42 1,
mV 8 49,
mV 9 50] [5,6,7,8,9])
(.seq (rg [mV 52 6,
mV 53 7,
uO 54 (.bsl false none 2 (.str []) [(0,52),(1,53)]),
uO 55 (.bsl false none 2 (.int .i64 0) [(0,(cI 0)),(1,(cI 1))]),
uO 56 (.build [.p (.int .i64 0),.sl0 none] [(0,1,(cI 3)),(1,1,55)]),
cL 57 jD [54,56],
mV 51 57,
eX 58 51 0,
eX 59 51 1,
mV 10 58,
mV 11 59] [5,6,7,8,9,10,11])
(.seq (rg [lD 61 (some 3) 5,
mV 62 6,
mV 63 7,
bN 64 .add 62 63,
uO 65 (.bsl false none 2 (.str []) [(0,64),(1,(cS [48,48]))]),
cL 66 aE [61,65],
mV 60 66,
eX 67 60 0,
eX 68 60 1,
mV 12 67,
mV 13 68] [6,7,8,9,10,11,12,13])
(.seq (dr [dF (mV 69 9) [9],
dF (bN 70 .eql 69 (cI 0)) [69],
dF (mV 71 70) [70],
dF (gD 72 71 true (.mv 11)) [11,71],
dF (gD 73 71 true (.bin .eql 72 (cI 0))) [72,71],
dF (uO 74 (.pick 71 73 cF)) [71,73],
dF (mV 75 74) [74],
dF (gD 76 75 true (.mv 13)) [13,75],
dF (gD 77 75 true (.bin .eql 76 (cI 0))) [76,75],
dF (uO 78 (.pick 75 77 cF)) [75,77],
dF (mV 79 78) [78],
dF (gD 80 79 true (.mv 8)) [8,79],
dF (gD 81 79 true (.len 80)) [80,79],
dF (gD 82 79 true (.bin .eql 81 (cI 2))) [81,79],
dF (uO 83 (.pick 79 82 cF)) [79,82],
dF (mV 84 83) [83],
dF (gD 85 84 true (.mv 10)) [10,84],
dF (gD 86 84 true (.len 85)) [85,84],
dF (gD 87 84 true (.bin .eql 86 (cI 2))) [86,84],
dF (uO 88 (.pick 84 87 cF)) [84,87],
dF (mV 89 88) [88],
dF (gD 90 89 true (.mv 8)) [8,89],
dF (gD 91 89 true (.iaddr none 90 (cI 1))) [90,89],
dF (gD 92 89 true (.load none 91)) [91,89],
dF (gD 93 89 true (.mv 10)) [10,89],
dF (gD 94 89 true (.iaddr none 93 (cI 0))) [93,89],
dF (gD 95 89 true (.load none 94)) [94,89],
dF (gD 96 89 true (.mv 10)) [10,89],
dF (gD 97 89 true (.iaddr none 96 (cI 1))) [96,89],
dF (gD 98 89 true (.load none 97)) [97,89],
dF (gD 99 89 true (.bin .add 95 98)) [95,98,89],
dF (gD 100 89 true (.bin .eql 92 99)) [92,99,89],
dF (uO 101 (.pick 89 100 cF)) [89,100],
dF (mV 102 101) [101],
dF (gD 103 102 true (.mv 12)) [12,102],
dF (gD 104 102 true (.len 103)) [103,102],
dF (gD 105 102 true (.bin .eql 104 (cI 1))) [104,102],
dF (gD 106 102 true (.mv 6)) [6,102],
dF (gD 107 102 true (.mv 7)) [7,102],
dF (gD 108 102 true (.bin .neq 106 107)) [106,107,102],
dF (gD 109 102 true (.eqa [] false 105 108)) [105,108,102],
dF (uO 110 (.pick 102 109 cF)) [102,109],
dF (mV 111 110) [110],
dT (gD 112 111 true (.call vF [])) [111],
dF (uO 113 (.pick 111 112 cF)) [111,112],
dF (mV 2 113) [113]] [2])
.ret)))))))))
def cM:AFun:=⟨1,[.t 2],z0D,false,false⟩
def jN (C:Hd)(gl:GL)(v0:AV)(h:aA)(x:Esc)(K:KT):Prop:=
 pK (WA [.sl0 none,.p (.int .i64 0)] [(0,1,v0)]) fun t1=>
 wK (iB t1 h) fun t2 h3 y4=>
 pC C (.fn dE []) [(AI 2),(.p (.str [97]))] h3 fun t5 h6 y7=>
 pC C (.fn dE []) [(AI 2),(.p (.str [98]))] h6 fun t8 h9 y10=>
 wK (wB false (some 4) 2 (.agg [.int .i64 0,.str [],.int .i64 0,.int .i64 0]) [(0,t5),(1,t8)] h9) fun t11 h12 y13=>
 pK (WA [.p (.str []),.sl0 (some 4)] [(0,1,(.p (.str [117]))),(1,1,t11)]) fun t14=>
 pC C (.fn dE []) [(AI 1),(.p (.str [97]))] h12 fun t15 h16 y17=>
 pC C (.fn dE []) [(AI 1),(.p (.str [98]))] h16 fun t18 h19 y20=>
 wK (wB false (some 4) 2 (.agg [.int .i64 0,.str [],.int .i64 0,.int .i64 0]) [(0,t15),(1,t18)] h19) fun t21 h22 y23=>
 pK (WA [.p (.str []),.sl0 (some 4)] [(0,1,(.p (.str [118]))),(1,1,t21)]) fun t24=>
 wK (wB false (some 2) 2 (.agg [.str [],.sl (some 4) []]) [(0,t14),(1,t24)] h22) fun t25 h26 y27=>
 pK (WA [.p (.str []),.p (.str []),.p (.str [])] [(0,1,(.p (.str [110]))),(1,1,(.p (.str [117]))),(2,1,(.p (.str [97])))]) fun t28=>
 pK (WA [.p (.str []),.p (.str []),.p (.str [])] [(0,1,(.p (.str [110]))),(1,1,(.p (.str [117]))),(2,1,(.p (.str [98])))]) fun t29=>
 pK (WA [.p (.str []),.p (.str []),.p (.str [])] [(0,1,(.p (.str [110]))),(1,1,(.p (.str [118]))),(2,1,(.p (.str [97])))]) fun t30=>
 pK (WA [.p (.str []),.p (.str []),.p (.str [])] [(0,1,(.p (.str [110]))),(1,1,(.p (.str [118]))),(2,1,(.p (.str [98])))]) fun t31=>
 wK (wB false (some 3) 4 (.agg [.str [],.str [],.str []]) [(0,t28),(1,t29),(2,t30),(3,t31)] h26) fun t32 h33 y34=>
 pK (WA [.sl0 (some 2),.sl0 (some 3),.sl0 (some 2)] [(0,1,t25),(1,1,t32)]) fun t35=>
 alK [.sl0 (some 2),.sl0 (some 3),.sl0 (some 2)] h33 fun t36 h37 y38=>
 wK (XA (some 3) t36 t35 h37) fun t39 h40 y41=>
 wK (wB false none 2 (.str []) [(0,(.p (.str [48]))),(1,(.p (.str [49])))] h40) fun t42 h43 y44=>
 C kD [t2,t42] h43 fun t45 h46 y47=>
 wK (wB false none 2 (.str []) [(0,(.p (.str [48]))),(1,(.p (.str [49])))] h46) fun t48 h49 y50=>
 C kD [t2,t48] h49 fun t51 h52 y53=>
 pK (jA (some 3) t36 h52) fun t54=>
 pK (eA .add t45 t51) fun t55=>
 wK (wB false none 2 (.str []) [(0,t55),(1,(.p (.str [48,48])))] h52) fun t56 h57 y58=>
 C ZD [t54,t56] h57 fun t59 h60 y61=>
 pK (xB t59 0) fun t62=>
 pK (xB t59 1) fun t63=>
 wK (wB false none 2 (.str []) [(0,t45),(1,t51)] h60) fun t64 h65 y66=>
 wK (wB false none 2 (.int .i64 0) [(0,(AI 0)),(1,(AI 1))] h65) fun t67 h68 y69=>
 pK (WA [.p (.int .i64 0),.sl0 none] [(0,1,(AI 3)),(1,1,t67)]) fun t70=>
 C jD [t64,t70] h68 fun t71 h72 y73=>
 pK (xB t71 0) fun t74=>
 pK (xB t71 1) fun t75=>
 pK (jA (some 3) t36 h72) fun t76=>
 pK (eA .add t45 t51) fun t77=>
 wK (wB false none 2 (.str []) [(0,t77),(1,(.p (.str [48,48])))] h72) fun t78 h79 y80=>
 C aE [t76,t78] h79 fun t81 h82 y83=>
 pK (xB t81 0) fun t84=>
 pK (xB t81 1) fun t85=>
 pK (eA .eql t63 (AI 0)) fun t86=>
 gM t86 true t75 h82 fun t87 h88 y89=>
 gP t86 true (eA .eql t87 (AI 0)) h88 fun t90 h91 y92=>
 pK (QA t86 t90 (AB false)) fun t93=>
 gM t93 true t85 h91 fun t94 h95 y96=>
 gP t93 true (eA .eql t94 (AI 0)) h95 fun t97 h98 y99=>
 pK (QA t93 t97 (AB false)) fun t100=>
 gM t100 true t62 h98 fun t101 h102 y103=>
 gP t100 true (zA t101) h102 fun t104 h105 y106=>
 gP t100 true (eA .eql t104 (AI 2)) h105 fun t107 h108 y109=>
 pK (QA t100 t107 (AB false)) fun t110=>
 gM t110 true t74 h108 fun t111 h112 y113=>
 gP t110 true (zA t111) h112 fun t114 h115 y116=>
 gP t110 true (eA .eql t114 (AI 2)) h115 fun t117 h118 y119=>
 pK (QA t110 t117 (AB false)) fun t120=>
 gM t120 true t62 h118 fun t121 h122 y123=>
 gP t120 true (sA none t121 (AI 1) h122) h122 fun t124 h125 y126=>
 gP t120 true (jA none t124 h125) h125 fun t127 h128 y129=>
 gM t120 true t74 h128 fun t130 h131 y132=>
 gP t120 true (sA none t130 (AI 0) h131) h131 fun t133 h134 y135=>
 gP t120 true (jA none t133 h134) h134 fun t136 h137 y138=>
 gM t120 true t74 h137 fun t139 h140 y141=>
 gP t120 true (sA none t139 (AI 1) h140) h140 fun t142 h143 y144=>
 gP t120 true (jA none t142 h143) h143 fun t145 h146 y147=>
 gP t120 true (eA .add t136 t145) h146 fun t148 h149 y150=>
 gP t120 true (eA .eql t127 t148) h149 fun t151 h152 y153=>
 pK (QA t120 t151 (AB false)) fun t154=>
 gM t154 true t84 h152 fun t155 h156 y157=>
 gP t154 true (zA t155) h156 fun t158 h159 y160=>
 gP t154 true (eA .eql t158 (AI 1)) h159 fun t161 h162 y163=>
 gM t154 true t45 h162 fun t164 h165 y166=>
 gM t154 true t51 h165 fun t167 h168 y169=>
 gP t154 true (eA .neq t164 t167) h168 fun t170 h171 y172=>
 gP t154 true (iI [] false t161 t170) h171 fun t173 h174 y175=>
 pK (QA t154 t173 (AB false)) fun t176=>
 gV t176 true h174 (MB C vF [] h174) fun t177 h178 y179=>
 pK (QA t176 t177 (AB false)) fun t180=>
 K .ret ⟨[(2,t180)],h178,(y179++(y175++(y172++(y169++(y166++(y163++(y160++(y157++(y153++(y150++(y147++(y144++(y141++(y138++(y135++(y132++(y129++(y126++(y123++(y119++(y116++(y113++(y109++(y106++(y103++(y99++(y96++(y92++(y89++(y83++(y80++(y73++(y69++(y66++(y61++(y58++(y53++(y50++(y47++(y44++(y41++(y38++(y34++(y27++(y23++(y20++(y17++(y13++(y10++(y7++(y4++x)))))))))))))))))))))))))))))))))))))))))))))))))))⟩
theorem z6R {C gl v0 h x K}:NW C gl cM.body ⟨enter [v0],h,x⟩ K=jN C gl v0 h x K:=by kernel_rfl
def z0E:ACode:=(.seq (rg [uO 4 (.alloc [.p (.int .i64 0),.p (.str []),.p (.int .i64 0),.p (.int .i64 0)])] [0,1,4])
(.seq (rg [mV 5 0,
mV 6 1,
uO 7 (.build [.p (.int .i64 0),.p (.str []),.p (.int .i64 0),.p (.int .i64 0)] [(0,1,5),(1,1,6),(2,1,(cI (-1)))]),
wO (.store (some 4) 4 7)] [4])
.ret))
def dM:AFun:=⟨2,[.cell 4 (some 4)],z0E,false,false⟩
def kN (C:Hd)(gl:GL)(v0 v1:AV)(h:aA)(x:Esc)(K:KT):Prop:=
 alK [.p (.int .i64 0),.p (.str []),.p (.int .i64 0),.p (.int .i64 0)] h fun t1 h2 y3=>
 pK (WA [.p (.int .i64 0),.p (.str []),.p (.int .i64 0),.p (.int .i64 0)] [(0,1,v0),(1,1,v1),(2,1,(AI (-1)))]) fun t4=>
 wK (XA (some 4) t1 t4 h2) fun t5 h6 y7=>
 K .ret ⟨[(4,t1)],h6,(y7++(y3++x))⟩
theorem z6S {C gl v0 v1 h x K}:NW C gl dM.body ⟨enter [v0,v1],h,x⟩ K=kN C gl v0 v1 h x K:=by kernel_rfl
def z0C:ACode:=(.seq (rg [mV 4 (cS [])] [0,1])
(.seq (rg [mV 5 1,
mV 6 0,
mV 7 1,
lN 8 7,
cL 9 cE [6,8],
iA 10 none 5 9,
lD 11 none 10,
mV 4 11] [4])
.ret))
def bM:AFun:=⟨2,[.t 4],z0C,false,false⟩
def iN (C:Hd)(gl:GL)(v0 v1:AV)(h:aA)(x:Esc)(K:KT):Prop:=
 pK (zA v1) fun t1=>
 C cE [v0,t1] h fun t2 h3 y4=>
 pK (sA none v1 t2 h3) fun t5=>
 pK (jA none t5 h3) fun t6=>
 K .ret ⟨[(4,t6)],h3,(y4++x)⟩
theorem z6Q {C gl v0 v1 h x K}:NW C gl bM.body ⟨enter [v0,v1],h,x⟩ K=iN C gl v0 v1 h x K:=by kernel_rfl
def qO:ACode:=.pr [1,7,8,9,11,12,29,30,31,42,43,44] (rg [bN 81 .add 44 (cI 1),
mV 44 81] [1,7,8,9,11,12,29,30,31,42,43,44])
def UR (C:Hd)(gl:GL)(v1 v7 v8 v9 v11 v12 v29 v30 v31 v42 v43 v44:AV)(h:aA)(x:Esc)(K:KT):Prop:=
 pK (eA .add v44 (AI 1)) fun t1=>
 K .normal ⟨[(1,v1),(7,v7),(8,v8),(9,v9),(11,v11),(12,v12),(29,v29),(30,v30),(31,v31),(42,v42),(43,v43),(44,t1)],h,x⟩
theorem z5s {C gl e h x K}:NW C gl qO ⟨e,h,x⟩ K=UR C gl (bA e 1) (bA e 7) (bA e 8) (bA e 9) (bA e 11) (bA e 12) (bA e 29) (bA e 30) (bA e 31) (bA e 42) (bA e 43) (bA e 44) h x K:=by kernel_rfl
def SP (q1:ACode):ACode:=.pr [1,7,8,9,11,12,29,30,31,42,43,44] (.seq (rg [bN 45 .lss 44 43] [1,7,8,9,11,12,29,30,31,42,43,44,45])
(.seq (.cond 45 .skip
(.exit 2))
(.seq (.block 3 (.seq (rg [mV 46 44,
iA 47 (some 4) 42 44,
lD 48 (some 4) 47,
uO 14 (.alloc [.p (.int .i64 0),.p (.str []),.p (.int .i64 0),.p (.int .i64 0)]),
mV 13 46,
wO (.store (some 4) 14 48)] [1,7,8,9,11,12,13,14,29,30,31,42,43,44])
(.seq (.seq (rg [fA 49 0 none 14,
lD 50 none 49,
bN 51 .neq 50 (cI 1)] [1,7,8,9,11,12,13,14,29,30,31,42,43,44,51])
(.cond 51 (.exit 3)
.skip))
(.seq (rg [mV 52 12,
mV 53 13,
iA 54 none 52 53,
wO (.store none 54 (.c (.p (.int .u8 49))))] [1,7,8,9,11,12,13,14,29,30,31,42,43,44])
(.seq (rg [mV 56 8,
fA 57 0 none 11,
lD 58 none 57,
fA 59 1 none 14,
lD 60 none 59,
uO 61 (.build [.p (.str []),.p (.str [])] [(0,1,58),(1,1,60)]),
uO 62 (.look ((some 2),[2,2]) true (.p (.str [])) 56 61),
mV 55 62,
eX 63 55 0,
eX 64 55 1,
mV 15 63,
mV 16 64] [1,7,8,9,11,12,13,15,16,29,30,31,42,43,44])
(.seq (rg [mV 65 16,
mV 66 65,
gD 67 66 true (.mv 7),
gD 68 66 true (.mv 15),
gD 69 66 true (.look (none,[2]) false (AI 0) 67 68),
gD 70 66 true (.bin .neq 69 (cI 1)),
uO 71 (.pick 66 70 cF),
mV 72 71,
gD 73 72 true (.mv 7),
gD 74 72 true (.mv 15),
gD 75 72 true (.look (none,[2]) false (AI 0) 73 74),
gD 76 72 true (.bin .neq 75 (cI 2)),
uO 77 (.pick 72 76 cF)] [1,7,8,9,11,12,13,29,30,31,42,43,44,77])
(.cond 77 (rg [mV 78 12,
mV 79 13,
iA 80 none 78 79,
wO (.store none 80 (.c (.p (.int .u8 48))))] [1,7,8,9,11,12,29,30,31,42,43,44])
.skip)))))))
q1)))
def lI:ACode:=SP qO
def EM (C:Hd)(gl:GL)(q1:ACode)(v1 v7 v8 v9 v11 v12 v29 v30 v31 v42 v43 v44:AV)(h:aA)(x:Esc)(K:KT):Prop:=
 pK (eA .lss v44 v43) fun t1=>
 mA t1 (pK (sA (some 4) v42 v44 h) fun t2=>
 pK (jA (some 4) t2 h) fun t3=>
 alK [.p (.int .i64 0),.p (.str []),.p (.int .i64 0),.p (.int .i64 0)] h fun t4 h5 y6=>
 wK (XA (some 4) t4 t3 h5) fun t7 h8 y9=>
 pK (nA 0 none t4) fun t10=>
 pK (jA none t10 h8) fun t11=>
 pK (eA .neq t11 (AI 1)) fun t12=>
 mA t12 (NW C gl q1 ⟨[(1,v1),(7,v7),(8,v8),(9,v9),(11,v11),(12,v12),(13,v44),(14,t4),(29,v29),(30,v30),(31,v31),(42,v42),(43,v43),(44,v44),(51,t12)],h8,(y9++(y6++x))⟩ K)
 (pK (sA none v12 v44 h8) fun t13=>
 wK (XA none t13 (.p (.int .u8 49)) h8) fun t14 h15 y16=>
 pK (nA 0 none v11) fun t17=>
 pK (jA none t17 h15) fun t18=>
 pK (nA 1 none t4) fun t19=>
 pK (jA none t19 h15) fun t20=>
 pK (WA [.p (.str []),.p (.str [])] [(0,1,t18),(1,1,t20)]) fun t21=>
 pK (yB ((some 2),[2,2]) true (.p (.str [])) v8 t21 h15) fun t22=>
 pK (xB t22 0) fun t23=>
 pK (xB t22 1) fun t24=>
 gM t24 true v7 h15 fun t25 h26 y27=>
 gM t24 true t23 h26 fun t28 h29 y30=>
 gP t24 true (yB (none,[2]) false (AI 0) t25 t28 h29) h29 fun t31 h32 y33=>
 gP t24 true (eA .neq t31 (AI 1)) h32 fun t34 h35 y36=>
 pK (QA t24 t34 (AB false)) fun t37=>
 gM t37 true v7 h35 fun t38 h39 y40=>
 gM t37 true t23 h39 fun t41 h42 y43=>
 gP t37 true (yB (none,[2]) false (AI 0) t38 t41 h42) h42 fun t44 h45 y46=>
 gP t37 true (eA .neq t44 (AI 2)) h45 fun t47 h48 y49=>
 pK (QA t37 t47 (AB false)) fun t50=>
 mA t50 (pK (sA none v12 v44 h48) fun t51=>
 wK (XA none t51 (.p (.int .u8 48)) h48) fun t52 h53 y54=>
 NW C gl q1 ⟨[(1,v1),(7,v7),(8,v8),(9,v9),(11,v11),(12,v12),(29,v29),(30,v30),(31,v31),(42,v42),(43,v43),(44,v44)],h53,(y54++(y49++(y46++(y43++(y40++(y36++(y33++(y30++(y27++(y16++(y9++(y6++x))))))))))))⟩ K)
 (NW C gl q1 ⟨[(1,v1),(7,v7),(8,v8),(9,v9),(11,v11),(12,v12),(13,v44),(29,v29),(30,v30),(31,v31),(42,v42),(43,v43),(44,v44),(77,t50)],h48,(y49++(y46++(y43++(y40++(y36++(y33++(y30++(y27++(y16++(y9++(y6++x)))))))))))⟩ K)))
 (K (.exit 2) ⟨[(1,v1),(7,v7),(8,v8),(9,v9),(11,v11),(12,v12),(29,v29),(30,v30),(31,v31),(42,v42),(43,v43),(44,v44),(45,t1)],h,x⟩)
theorem hZ {C gl q1 e h x K}:NW C gl (SP q1) ⟨e,h,x⟩ K=EM C gl q1 (bA e 1) (bA e 7) (bA e 8) (bA e 9) (bA e 11) (bA e 12) (bA e 29) (bA e 30) (bA e 31) (bA e 42) (bA e 43) (bA e 44) h x K:=by kernel_rfl
theorem z5t {C gl e h x K}:NW C gl lI ⟨e,h,x⟩ K=EM C gl qO (bA e 1) (bA e 7) (bA e 8) (bA e 9) (bA e 11) (bA e 12) (bA e 29) (bA e 30) (bA e 31) (bA e 42) (bA e 43) (bA e 44) h x K:=hZ
theorem z8I {C gl e h x K}:NW C gl (.loop (.scope lI)) ⟨e,h,x⟩ K=GA C gl (.scope lI) K [(1,bA e 1),(7,bA e 7),(8,bA e 8),(9,bA e 9),(11,bA e 11),(12,bA e 12),(29,bA e 29),(30,bA e 30),(31,bA e 31),(42,bA e 42),(43,bA e 43),(44,bA e 44)] h x:=LB
def rO:ACode:=.pr [1,7,8,9,12,29,30,31] (rg [mV 82 9,
mV 83 12,
uO 84 (.conv .b2s 83),
uO 85 (.bsl false none 1 (.str []) [(0,84)]),
uO 86 (.app none 82 85),
mV 9 86] [1,7,8,9,29,30,31])
def VR (C:Hd)(gl:GL)(v1 v7 v8 v9 v12 v29 v30 v31:AV)(h:aA)(x:Esc)(K:KT):Prop:=
 wK (jE .b2s v12 h) fun t1 h2 y3=>
 wK (wB false none 1 (.str []) [(0,t1)] h2) fun t4 h5 y6=>
 wK (HF none v9 t4 h5) fun t7 h8 y9=>
 K .normal ⟨[(1,v1),(7,v7),(8,v8),(9,t7),(29,v29),(30,v30),(31,v31)],h8,(y9++(y6++(y3++x)))⟩
theorem z5u {C gl e h x K}:NW C gl rO ⟨e,h,x⟩ K=VR C gl (bA e 1) (bA e 7) (bA e 8) (bA e 9) (bA e 12) (bA e 29) (bA e 30) (bA e 31) h x K:=by kernel_rfl
def sO:ACode:=.pr [1,7,8,9,29,30,31] (rg [bN 87 .add 31 (cI 1),
mV 31 87] [1,7,8,9,29,30,31])
def WR (C:Hd)(gl:GL)(v1 v7 v8 v9 v29 v30 v31:AV)(h:aA)(x:Esc)(K:KT):Prop:=
 pK (eA .add v31 (AI 1)) fun t1=>
 K .normal ⟨[(1,v1),(7,v7),(8,v8),(9,v9),(29,v29),(30,v30),(31,t1)],h,x⟩
theorem z5v {C gl e h x K}:NW C gl sO ⟨e,h,x⟩ K=WR C gl (bA e 1) (bA e 7) (bA e 8) (bA e 9) (bA e 29) (bA e 30) (bA e 31) h x K:=by kernel_rfl
def TP (q2 q3 q4:ACode):ACode:=.pr [1,7,8,9,29,30,31] (.seq (rg [bN 32 .lss 31 30] [1,7,8,9,29,30,31,32])
(.seq (.cond 32 .skip
(.exit 0))
(.seq (.block 1 (.seq (rg [mV 33 31,
iA 34 (some 2) 29 31,
lD 35 (some 2) 34,
uO 11 (.alloc [.p (.str []),.sl0 (some 4)]),
mV 10 33,
wO (.store (some 2) 11 35)] [1,7,8,9,10,11,29,30,31])
(.seq (rg [mV 36 1,
mV 37 10,
iA 38 none 36 37,
lD 39 none 38,
uO 40 (.conv .s2b 39),
mV 12 40] [1,7,8,9,11,12,29,30,31])
(.seq (.seq (rg [fA 41 1 none 11,
lD 42 none 41,
lN 43 42,
mV 44 (cI 0)] [1,7,8,9,11,12,29,30,31,42,43,44])
(.block 2 (.loop (.scope q2))))
q3))))
q4)))
def LG:ACode:=TP lI rO sO
def FM (C:Hd)(gl:GL)(q2 q3 q4:ACode)(v1 v7 v8 v9 v29 v30 v31:AV)(h:aA)(x:Esc)(K:KT):Prop:=
 pK (eA .lss v31 v30) fun t1=>
 mA t1 (pK (sA (some 2) v29 v31 h) fun t2=>
 pK (jA (some 2) t2 h) fun t3=>
 alK [.p (.str []),.sl0 (some 4)] h fun t4 h5 y6=>
 wK (XA (some 2) t4 t3 h5) fun t7 h8 y9=>
 pK (sA none v1 v31 h8) fun t10=>
 pK (jA none t10 h8) fun t11=>
 wK (jE .s2b t11 h8) fun t12 h13 y14=>
 pK (nA 1 none t4) fun t15=>
 pK (jA none t15 h13) fun t16=>
 pK (zA t16) fun t17=>
 NW C gl (.loop (.scope q2)) ⟨[(1,v1),(7,v7),(8,v8),(9,v9),(11,t4),(12,t12),(29,v29),(30,v30),(31,v31),(42,t16),(43,t17),(44,(AI 0))],h13,(y14++(y9++(y6++x)))⟩ (CA 2 (FA C gl q3 (CA 1 (FA C gl q4 K)))))
 (K (.exit 0) ⟨[(1,v1),(7,v7),(8,v8),(9,v9),(29,v29),(30,v30),(31,v31),(32,t1)],h,x⟩)
theorem iZ {C gl q2 q3 q4 e h x K}:NW C gl (TP q2 q3 q4) ⟨e,h,x⟩ K=FM C gl q2 q3 q4 (bA e 1) (bA e 7) (bA e 8) (bA e 9) (bA e 29) (bA e 30) (bA e 31) h x K:=by kernel_rfl
theorem z5w {C gl e h x K}:NW C gl LG ⟨e,h,x⟩ K=FM C gl lI rO sO (bA e 1) (bA e 7) (bA e 8) (bA e 9) (bA e 29) (bA e 30) (bA e 31) h x K:=iZ
theorem z8J {C gl e h x K}:NW C gl (.loop (.scope LG)) ⟨e,h,x⟩ K=GA C gl (.scope LG) K [(1,bA e 1),(7,bA e 7),(8,bA e 8),(9,bA e 9),(29,bA e 29),(30,bA e 30),(31,bA e 31)] h x:=LB
def DK:ACode:=.pr [9] (.seq (rg [mV 88 9,
mV 4 88,
mV 5 (cI 0)] [4,5])
.ret)
def XR (C:Hd)(gl:GL)(v9:AV)(h:aA)(x:Esc)(K:KT):Prop:=
 K .ret ⟨[(4,v9),(5,(AI 0))],h,x⟩
theorem z5x {C gl e h x K}:NW C gl DK ⟨e,h,x⟩ K=XR C gl (bA e 9) h x K:=by kernel_rfl
def RP (q5 q6:ACode):ACode:=(.seq (rg [uO 2 (.box 0),
mV 4 (.c (.p (.sl none []))),
mV 5 (cI 0)] [1,2])
(.seq (.seq (rg [lD 17 (some 3) 2,
mV 18 1,
cL 19 pF [17,18],
mV 6 19] [1,2,6])
(.seq (rg [mV 20 6,
bN 21 .neq 20 (cI 0)] [1,2,6,21])
(.cond 21 (.seq (rg [mV 22 6,
mV 4 (.c (.p (.sl none []))),
mV 5 22] [4,5])
.ret)
.skip)))
(.seq (dr [dF (lD 23 (some 3) 2) [2],
dF (mV 24 1) [1],
dT (cL 25 rF [23,24]) [23,24],
dA (lD 26 (some 3) 2) [2] false [2] [],
dT (cL 27 sF [26]) [26],
dF (mV 7 25) [25],
dF (mV 8 27) [27]] [1,2,7,8])
(.seq (rg [uO 9 (.new0 none)] [1,2,7,8,9])
(.seq (.seq (rg [fA 28 0 none 2,
lD 29 none 28,
lN 30 29,
mV 31 (cI 0)] [1,7,8,9,29,30,31])
(.block 0 (.loop (.scope q5))))
q6)))))
def FL:AFun:=⟨2,[.t 4,.t 5],RP LG DK,false,false⟩
def DM (C:Hd)(gl:GL)(q5 q6:ACode)(v0 v1:AV)(h:aA)(x:Esc)(K:KT):Prop:=
 wK (iB v0 h) fun t1 h2 y3=>
 pK (jA (some 3) t1 h2) fun t4=>
 C pF [t4,v1] h2 fun t5 h6 y7=>
 pK (eA .neq t5 (AI 0)) fun t8=>
 mA t8 (K .ret ⟨[(4,(.p (.sl none []))),(5,t5)],h6,(y7++(y3++x))⟩)
 (pK (jA (some 3) t1 h6) fun t9=>
 MB C rF [t9,v1] h6 fun t10 h11 y12=>
 pK (jA (some 3) t1 h11) fun t13=>
 (pK (jA (some 3) t1 h6) fun v=>(fun u (g1:aA) (y1:Esc)=>u=t13∧g1=h6∧y1=[]) v h6 [])∧(MB C sF [t13] h11 fun t14 h15 y16=>
 nwK none h15 fun t17 h18 y19=>
 pK (nA 0 none t1) fun t20=>
 pK (jA none t20 h18) fun t21=>
 pK (zA t21) fun t22=>
 NW C gl (.loop (.scope q5)) ⟨[(1,v1),(7,t10),(8,t14),(9,t17),(29,t21),(30,t22),(31,(AI 0))],h18,(y19++(y16++(y12++(y7++(y3++x)))))⟩ (CA 0 (FA C gl q6 K))))
theorem gZ {C gl q5 q6 v0 v1 h x K}:NW C gl (RP q5 q6) ⟨enter [v0,v1],h,x⟩ K=DM C gl q5 q6 v0 v1 h x K:=by kernel_rfl
theorem z5r {C gl v0 v1 h x K}:NW C gl FL.body ⟨enter [v0,v1],h,x⟩ K=DM C gl LG DK v0 v1 h x K:=gZ
def z02:ACode:=(.seq (rg [uO 3 (.box 1),
mV 4 (.c (.p (.sl none []))),
mV 5 (cI 0)] [0,3])
(.seq (rg [mV 6 0,
lD 7 (some 2) 3,
uO 8 (.bsl false (some 2) 1 (.agg [.int .i64 0,.sl none []]) [(0,7)]),
cL 9 pG [6,8],
eX 10 9 0,
eX 11 9 1,
mV 4 10,
mV 5 11] [4,5])
.ret))
def iJ:AFun:=⟨2,[.t 4,.t 5],z02,false,false⟩
def KS (C:Hd)(gl:GL)(v0 v1:AV)(h:aA)(x:Esc)(K:KT):Prop:=
 wK (iB v1 h) fun t1 h2 y3=>
 pK (jA (some 2) t1 h2) fun t4=>
 wK (wB false (some 2) 1 (.agg [.int .i64 0,.sl none []]) [(0,t4)] h2) fun t5 h6 y7=>
 C pG [v0,t5] h6 fun t8 h9 y10=>
 pK (xB t8 0) fun t11=>
 pK (xB t8 1) fun t12=>
 K .ret ⟨[(4,t11),(5,t12)],h9,(y10++(y7++(y3++x)))⟩
theorem z6y {C gl v0 v1 h x K}:NW C gl iJ.body ⟨enter [v0,v1],h,x⟩ K=KS C gl v0 v1 h x K:=by kernel_rfl
def z0q:ACode:=(.seq (rg [uO 2 (.box 0),
mV 4 (.c (.p (.sl none []))),
mV 5 (cI 0)] [1,2])
(.seq (.seq (rg [lD 8 (some 3) 2,
mV 9 1,
cL 10 pF [8,9],
mV 6 10] [1,2,6])
(.seq (rg [mV 11 6,
bN 12 .neq 11 (cI 0)] [1,2,6,12])
(.cond 12 (.seq (rg [mV 13 6,
mV 4 (.c (.p (.sl none []))),
mV 5 13] [4,5])
.ret)
.skip)))
(.seq (rg [lD 14 (some 3) 2,
mV 15 1,
cL 16 rF [14,15],
uO 7 (.alloc [.nilm]),
wO (.store none 7 16)] [2,7])
(.seq (rg [lD 17 (some 3) 2,
cL 18 AD [17],
uO 19 (.mkfn TH [7]),
cL 20 VH [18,19],
mV 4 20,
mV 5 (cI 0)] [4,5])
.ret))))
def JL:AFun:=⟨2,[.t 4,.t 5],z0q,false,false⟩
def eS (C:Hd)(gl:GL)(v0 v1:AV)(h:aA)(x:Esc)(K:KT):Prop:=
 wK (iB v0 h) fun t1 h2 y3=>
 pK (jA (some 3) t1 h2) fun t4=>
 C pF [t4,v1] h2 fun t5 h6 y7=>
 pK (eA .neq t5 (AI 0)) fun t8=>
 mA t8 (K .ret ⟨[(4,(.p (.sl none []))),(5,t5)],h6,(y7++(y3++x))⟩)
 (pK (jA (some 3) t1 h6) fun t9=>
 C rF [t9,v1] h6 fun t10 h11 y12=>
 alK [.nilm] h11 fun t13 h14 y15=>
 wK (XA none t13 t10 h14) fun t16 h17 y18=>
 pK (jA (some 3) t1 h17) fun t19=>
 C AD [t19] h17 fun t20 h21 y22=>
 C VH [t20,(.fn TH [t13])] h21 fun t23 h24 y25=>
 K .ret ⟨[(4,t23),(5,(AI 0))],h24,(y25++(y22++(y18++(y15++(y12++(y7++(y3++x)))))))⟩)
theorem z55 {C gl v0 v1 h x K}:NW C gl JL.body ⟨enter [v0,v1],h,x⟩ K=eS C gl v0 v1 h x K:=by kernel_rfl
def z0B:ACode:=(.seq (rg [mV 4 (cI 0)] [0,1])
(.seq (rg [mV 7 0,
uO 8 (.nilchk 7),
fA 9 1 none 8,
lD 10 none 9,
bN 11 .add 10 (cI 1),
uO 12 (.nilchk 7),
fA 13 1 none 12,
wO (.store none 13 11)] [0,1])
(.seq (.seq (rg [mV 14 0,
uO 15 (.nilchk 14),
fA 16 0 none 15,
lD 17 none 16,
lN 18 17,
bN 19 .eql 18 (cI 0)] [0,1,19])
(.cond 19 (.seq (rg [mV 20 0,
uO 21 (.nilchk 20),
fA 22 1 none 21,
lD 23 none 22,
bN 24 .mul 23 (cI 7919),
mV 25 1,
cL 26 CD [24,25],
mV 4 26] [4])
.ret)
.skip))
(.seq (dr [dF (mV 27 0) [0],
dF (uO 28 (.nilchk 27)) [27],
dF (fA 29 1 none 28) [28],
dF (lD 30 none 29) [29],
dF (bN 31 .sub 30 (cI 1)) [30],
dF (mV 32 0) [0],
dF (uO 33 (.nilchk 32)) [32],
dF (fA 34 0 none 33) [33],
dF (lD 35 none 34) [34],
dF (lN 36 35) [35],
dF (bN 37 .rem 31 36) [31,36],
dF (mV 5 37) [37]] [0,1,5])
(.seq (dr [dF (mV 38 0) [0],
dF (uO 39 (.nilchk 38)) [38],
dF (fA 40 1 none 39) [39],
dF (lD 41 none 40) [40],
dF (bN 42 .sub 41 (cI 1)) [41],
dF (mV 43 0) [0],
dF (uO 44 (.nilchk 43)) [43],
dF (fA 45 0 none 44) [44],
dF (lD 46 none 45) [45],
dF (lN 47 46) [46],
dF (bN 48 .quo 42 47) [42,47],
dF (mV 6 48) [48]] [0,1,5,6])
(.seq (rg [mV 49 0,
uO 50 (.nilchk 49),
fA 51 0 none 50,
lD 52 none 51,
mV 53 5,
iA 54 none 52 53,
lD 55 none 54,
cL 56 CD [55,(cI 1073741824)],
mV 57 6,
mV 58 5,
bN 59 .add (cI 7919) 58,
bN 60 .mul 57 59,
bN 61 .add 56 60,
mV 62 1,
cL 63 CD [61,62],
mV 4 63] [4])
.ret))))))
def aM:AFun:=⟨2,[.t 4],z0B,false,false⟩
def TJ (C:Hd)(gl:GL)(v0 v1:AV)(h:aA)(x:Esc)(K:KT):Prop:=
 pK (lC v0) fun t1=>
 pK (nA 1 none t1) fun t2=>
 pK (jA none t2 h) fun t3=>
 pK (eA .add t3 (AI 1)) fun t4=>
 pK (lC v0) fun t5=>
 pK (nA 1 none t5) fun t6=>
 wK (XA none t6 t4 h) fun t7 h8 y9=>
 pK (lC v0) fun t10=>
 pK (nA 0 none t10) fun t11=>
 pK (jA none t11 h8) fun t12=>
 pK (zA t12) fun t13=>
 pK (eA .eql t13 (AI 0)) fun t14=>
 mA t14 (pK (lC v0) fun t15=>
 pK (nA 1 none t15) fun t16=>
 pK (jA none t16 h8) fun t17=>
 pK (eA .mul t17 (AI 7919)) fun t18=>
 C CD [t18,v1] h8 fun t19 h20 y21=>
 K .ret ⟨[(4,t19)],h20,(y21++(y9++x))⟩)
 (pK (lC v0) fun t22=>
 pK (nA 1 none t22) fun t23=>
 pK (jA none t23 h8) fun t24=>
 pK (eA .sub t24 (AI 1)) fun t25=>
 pK (lC v0) fun t26=>
 pK (nA 0 none t26) fun t27=>
 pK (jA none t27 h8) fun t28=>
 pK (zA t28) fun t29=>
 pK (eA .rem t25 t29) fun t30=>
 pK (lC v0) fun t31=>
 pK (nA 1 none t31) fun t32=>
 pK (jA none t32 h8) fun t33=>
 pK (eA .sub t33 (AI 1)) fun t34=>
 pK (lC v0) fun t35=>
 pK (nA 0 none t35) fun t36=>
 pK (jA none t36 h8) fun t37=>
 pK (zA t37) fun t38=>
 pK (eA .quo t34 t38) fun t39=>
 pK (lC v0) fun t40=>
 pK (nA 0 none t40) fun t41=>
 pK (jA none t41 h8) fun t42=>
 pK (sA none t42 t30 h8) fun t43=>
 pK (jA none t43 h8) fun t44=>
 C CD [t44,(AI 1073741824)] h8 fun t45 h46 y47=>
 pK (eA .add (AI 7919) t30) fun t48=>
 pK (eA .mul t39 t48) fun t49=>
 pK (eA .add t45 t49) fun t50=>
 C CD [t50,v1] h46 fun t51 h52 y53=>
 K .ret ⟨[(4,t51)],h52,(y53++(y47++(y9++x)))⟩)
theorem z6P {C gl v0 v1 h x K}:NW C gl aM.body ⟨enter [v0,v1],h,x⟩ K=TJ C gl v0 v1 h x K:=by kernel_rfl
def MG:ACode:=.pr [2,19,20,21] (.seq (rg [bN 22 .lss 21 20] [2,19,20,21,22])
(.seq (.cond 22 .skip
(.exit 0))
(.seq (.block 1 (.seq (rg [mV 23 21,
iA 24 none 19 21,
lD 25 none 24,
mV 6 23,
mV 7 25] [2,6,7,19,20,21])
(.seq (rg [mV 26 7,
uO 27 (.lens 26),
fA 28 0 none 2,
lD 29 none 28,
mV 30 6,
iA 31 (some 2) 29 30,
fA 32 1 none 31,
lD 33 none 32,
lN 34 33,
bN 35 .neq 27 34,
mV 36 35,
gD 37 36 false (.mv 7),
gD 38 36 false (.call UC [37]),
gD 39 36 false (.un .not 38),
uO 40 (.pick 36 cT 39)] [2,19,20,21,40])
(.cond 40 (.seq (rg [mV 4 (cI 3)] [4])
.ret)
.skip))))
(rg [bN 41 .add 21 (cI 1),
mV 21 41] [2,19,20,21]))))
def YR (C:Hd)(gl:GL)(v2 v19 v20 v21:AV)(h:aA)(x:Esc)(K:KT):Prop:=
 pK (eA .lss v21 v20) fun t1=>
 mA t1 (pK (sA none v19 v21 h) fun t2=>
 pK (jA none t2 h) fun t3=>
 pK (XC t3) fun t4=>
 pK (nA 0 none v2) fun t5=>
 pK (jA none t5 h) fun t6=>
 pK (sA (some 2) t6 v21 h) fun t7=>
 pK (nA 1 none t7) fun t8=>
 pK (jA none t8 h) fun t9=>
 pK (zA t9) fun t10=>
 pK (eA .neq t4 t10) fun t11=>
 gM t11 false t3 h fun t12 h13 y14=>
 gV t11 false h13 (C UC [t12] h13) fun t15 h16 y17=>
 gP t11 false (oUn .not t15) h16 fun t18 h19 y20=>
 pK (QA t11 (AB true) t18) fun t21=>
 mA t21 (K .ret ⟨[(4,(AI 3))],h19,(y20++(y17++(y14++x)))⟩)
 (pK (eA .add v21 (AI 1)) fun t22=>
 K .normal ⟨[(2,v2),(19,v19),(20,v20),(21,t22)],h19,(y20++(y17++(y14++x)))⟩))
 (K (.exit 0) ⟨[(2,v2),(19,v19),(20,v20),(21,v21),(22,t1)],h,x⟩)
theorem z5z {C gl e h x K}:NW C gl MG ⟨e,h,x⟩ K=YR C gl (bA e 2) (bA e 19) (bA e 20) (bA e 21) h x K:=by kernel_rfl
theorem z8K {C gl e h x K}:NW C gl (.loop MG) ⟨e,h,x⟩ K=GA C gl MG K [(2,bA e 2),(19,bA e 19),(20,bA e 20),(21,bA e 21)] h x:=uB
def EK:ACode:=.pr [] (.seq (rg [mV 4 (cI 0)] [4])
.ret)
def ZR (C:Hd)(gl:GL)(h:aA)(x:Esc)(K:KT):Prop:=
 K .ret ⟨[(4,(AI 0))],h,x⟩
theorem z50 {C gl e h x K}:NW C gl EK ⟨e,h,x⟩ K=ZR C gl h x K:=by kernel_rfl
def UP (q1 q2:ACode):ACode:=(.seq (rg [uO 2 (.box 0),
mV 4 (cI 0)] [1,2])
(.seq (.seq (rg [lD 8 (some 3) 2,
cL 9 AE [8],
mV 5 9] [1,2,5])
(.seq (rg [mV 10 5,
bN 11 .neq 10 (cI 0)] [1,2,5,11])
(.cond 11 (.seq (rg [mV 12 5,
mV 4 12] [4])
.ret)
.skip)))
(.seq (.seq (rg [mV 13 1,
lN 14 13,
fA 15 0 none 2,
lD 16 none 15,
lN 17 16,
bN 18 .neq 14 17] [1,2,18])
(.cond 18 (.seq (rg [mV 4 (cI 3)] [4])
.ret)
.skip))
(.seq (.seq (rg [mV 19 1,
lN 20 19,
mV 21 (cI 0)] [2,19,20,21])
(.block 0 (.loop q1)))
q2))))
def HL:AFun:=⟨2,[.t 4],UP MG EK,false,false⟩
def GM (C:Hd)(gl:GL)(q1 q2:ACode)(v0 v1:AV)(h:aA)(x:Esc)(K:KT):Prop:=
 wK (iB v0 h) fun t1 h2 y3=>
 pK (jA (some 3) t1 h2) fun t4=>
 C AE [t4] h2 fun t5 h6 y7=>
 pK (eA .neq t5 (AI 0)) fun t8=>
 mA t8 (K .ret ⟨[(4,t5)],h6,(y7++(y3++x))⟩)
 (pK (zA v1) fun t9=>
 pK (nA 0 none t1) fun t10=>
 pK (jA none t10 h6) fun t11=>
 pK (zA t11) fun t12=>
 pK (eA .neq t9 t12) fun t13=>
 mA t13 (K .ret ⟨[(4,(AI 3))],h6,(y7++(y3++x))⟩)
 (pK (zA v1) fun t14=>
 NW C gl (.loop q1) ⟨[(2,t1),(19,v1),(20,t14),(21,(AI 0))],h6,(y7++(y3++x))⟩ (CA 0 (FA C gl q2 K))))
theorem jZ {C gl q1 q2 v0 v1 h x K}:NW C gl (UP q1 q2) ⟨enter [v0,v1],h,x⟩ K=GM C gl q1 q2 v0 v1 h x K:=by kernel_rfl
theorem z5y {C gl v0 v1 h x K}:NW C gl HL.body ⟨enter [v0,v1],h,x⟩ K=GM C gl MG EK v0 v1 h x K:=jZ
def RG:ACode:=.pr [1,2,5,20,21,22] (.seq (rg [bN 23 .lss 22 21] [1,2,5,20,21,22,23])
(.seq (.cond 23 .skip
(.exit 0))
(.seq (.block 1 (.seq (rg [iA 24 none 20 22,
lD 25 none 24,
mV 7 25] [1,2,5,7,20,21,22])
(rg [mV 26 5,
mV 27 7,
wO (.mupd (none,[2]) 26 27 (cI 2))] [1,2,5,20,21,22])))
(rg [bN 28 .add 22 (cI 1),
mV 22 28] [1,2,5,20,21,22]))))
def qS (C:Hd)(gl:GL)(v1 v2 v5 v20 v21 v22:AV)(h:aA)(x:Esc)(K:KT):Prop:=
 pK (eA .lss v22 v21) fun t1=>
 mA t1 (pK (sA none v20 v22 h) fun t2=>
 pK (jA none t2 h) fun t3=>
 wK (gC (none,[2]) v5 t3 (AI 2) h) fun t4 h5 y6=>
 pK (eA .add v22 (AI 1)) fun t7=>
 K .normal ⟨[(1,v1),(2,v2),(5,v5),(20,v20),(21,v21),(22,t7)],h5,(y6++x)⟩)
 (K (.exit 0) ⟨[(1,v1),(2,v2),(5,v5),(20,v20),(21,v21),(22,v22),(23,t1)],h,x⟩)
theorem z5S {C gl e h x K}:NW C gl RG ⟨e,h,x⟩ K=qS C gl (bA e 1) (bA e 2) (bA e 5) (bA e 20) (bA e 21) (bA e 22) h x K:=by kernel_rfl
theorem z8T {C gl e h x K}:NW C gl (.loop RG) ⟨e,h,x⟩ K=GA C gl RG K [(1,bA e 1),(2,bA e 2),(5,bA e 5),(20,bA e 20),(21,bA e 21),(22,bA e 22)] h x:=uB
def tI:ACode:=.pr [1,2,5,30,31,32] (.seq (rg [bN 33 .lss 32 31] [1,2,5,30,31,32,33])
(.seq (.cond 33 .skip
(.exit 2))
(.seq (.block 3 (.seq (rg [iA 34 (some 2) 30 32,
lD 35 (some 2) 34,
uO 9 (.alloc [.p (.str []),.p (.int .i64 0)]),
wO (.store (some 2) 9 35)] [1,2,5,9,30,31,32])
(rg [mV 36 5,
fA 37 0 none 9,
lD 38 none 37,
fA 39 1 none 9,
lD 40 none 39,
wO (.mupd (none,[2]) 36 38 40)] [1,2,5,30,31,32])))
(rg [bN 41 .add 32 (cI 1),
mV 32 41] [1,2,5,30,31,32]))))
def rS (C:Hd)(gl:GL)(v1 v2 v5 v30 v31 v32:AV)(h:aA)(x:Esc)(K:KT):Prop:=
 pK (eA .lss v32 v31) fun t1=>
 mA t1 (pK (sA (some 2) v30 v32 h) fun t2=>
 pK (jA (some 2) t2 h) fun t3=>
 alK [.p (.str []),.p (.int .i64 0)] h fun t4 h5 y6=>
 wK (XA (some 2) t4 t3 h5) fun t7 h8 y9=>
 pK (nA 0 none t4) fun t10=>
 pK (jA none t10 h8) fun t11=>
 pK (nA 1 none t4) fun t12=>
 pK (jA none t12 h8) fun t13=>
 wK (gC (none,[2]) v5 t11 t13 h8) fun t14 h15 y16=>
 pK (eA .add v32 (AI 1)) fun t17=>
 K .normal ⟨[(1,v1),(2,v2),(5,v5),(30,v30),(31,v31),(32,t17)],h15,(y16++(y9++(y6++x)))⟩)
 (K (.exit 2) ⟨[(1,v1),(2,v2),(5,v5),(30,v30),(31,v31),(32,v32),(33,t1)],h,x⟩)
theorem z5T {C gl e h x K}:NW C gl tI ⟨e,h,x⟩ K=rS C gl (bA e 1) (bA e 2) (bA e 5) (bA e 30) (bA e 31) (bA e 32) h x K:=by kernel_rfl
theorem z8U {C gl e h x K}:NW C gl (.loop (.scope tI)) ⟨e,h,x⟩ K=GA C gl (.scope tI) K [(1,bA e 1),(2,bA e 2),(5,bA e 5),(30,bA e 30),(31,bA e 31),(32,bA e 32)] h x:=LB
def BO:ACode:=.pr [1,2,5,10,17,44,50,51,52] (rg [mV 100 5,
mV 101 10,
mV 102 17,
wO (.mupd (none,[2]) 100 101 102),
mV 12 cT] [1,2,5,10,12,44,50,51,52])
def sS (C:Hd)(gl:GL)(v1 v2 v5 v10 v17 v44 v50 v51 v52:AV)(h:aA)(x:Esc)(K:KT):Prop:=
 wK (gC (none,[2]) v5 v10 v17 h) fun t1 h2 y3=>
 K .normal ⟨[(1,v1),(2,v2),(5,v5),(10,v10),(12,(AB true)),(44,v44),(50,v50),(51,v51),(52,v52)],h2,(y3++x)⟩
theorem z5U {C gl e h x K}:NW C gl BO ⟨e,h,x⟩ K=sS C gl (bA e 1) (bA e 2) (bA e 5) (bA e 10) (bA e 17) (bA e 44) (bA e 50) (bA e 51) (bA e 52) h x K:=by kernel_rfl
def CO:ACode:=.pr [1,2,5,10,12,44,50,51,52] (rg [bN 103 .add 52 (cI 1),
mV 52 103] [1,2,5,10,12,44,50,51,52])
def tS (C:Hd)(gl:GL)(v1 v2 v5 v10 v12 v44 v50 v51 v52:AV)(h:aA)(x:Esc)(K:KT):Prop:=
 pK (eA .add v52 (AI 1)) fun t1=>
 K .normal ⟨[(1,v1),(2,v2),(5,v5),(10,v10),(12,v12),(44,v44),(50,v50),(51,v51),(52,t1)],h,x⟩
theorem z5V {C gl e h x K}:NW C gl CO ⟨e,h,x⟩ K=tS C gl (bA e 1) (bA e 2) (bA e 5) (bA e 10) (bA e 12) (bA e 44) (bA e 50) (bA e 51) (bA e 52) h x K:=by kernel_rfl
def fQ (q3 q4:ACode):ACode:=.pr [1,2,5,10,12,44,50,51,52] (.seq (rg [bN 53 .lss 52 51] [1,2,5,10,12,44,50,51,52,53])
(.seq (.cond 53 .skip
(.exit 6))
(.seq (.block 7 (.seq (rg [iA 54 (some 2) 50 52,
lD 55 (some 2) 54,
uO 14 (.alloc [.p (.int .i64 0),.p (.int .i64 0)]),
wO (.store (some 2) 14 55)] [1,2,5,10,12,14,44,50,51,52])
(.seq (dr [dF (fA 56 0 none 2) [2],
dF (lD 57 none 56) [56],
dF (fA 58 0 none 14) [14],
dF (lD 59 none 58) [58],
dF (iA 60 (some 2) 57 59) [57,59],
dF (fA 61 1 none 60) [60],
dF (lD 62 none 61) [61],
dF (fA 63 1 none 14) [14],
dF (lD 64 none 63) [63],
dF (iA 65 (some 4) 62 64) [62,64],
dF (lD 66 (some 4) 65) [65],
dF (mV 67 1) [1],
dF (fA 68 0 none 14) [14],
dF (lD 69 none 68) [68],
dF (iA 70 none 67 69) [67,69],
dF (lD 71 none 70) [70],
dA (uO 15 (.alloc [.p (.int .i64 0),.p (.str []),.p (.int .i64 0),.p (.int .i64 0)])) [] true [] [1,3,4,6,8,9,10,13,14,15],
dA (wO (.store (some 4) 15 66)) [15,66] true [] [13,14,15],
dF (mV 16 71) [71]] [1,2,5,10,12,14,15,16,44,50,51,52])
(.seq (.seq (dr [dF (fA 72 2 none 15) [15],
dF (lD 73 none 72) [72],
dF (bN 74 .geq 73 (cI 0)) [73],
dF (mV 75 74) [74],
dF (gD 76 75 true (.mv 16)) [16,75],
dF (gD 77 75 true (.faddr 2 none 15)) [15,75],
dF (gD 78 75 true (.load none 77)) [77,75],
dF (gD 79 75 true (.idxs 76 78)) [76,78,75],
dF (gD 80 75 true (.bin .sub 79 (.c (.p (.int .u8 48))))) [79,75],
dF (gD 81 75 true (.conv (.i .i64) 80)) [80,75],
dF (gD 82 75 true (.faddr 3 none 15)) [15,75],
dF (gD 83 75 true (.load none 82)) [82,75],
dF (gD 84 75 true (.bin .eql 81 83)) [81,83,75],
dF (uO 85 (.pick 75 84 cF)) [75,84]] [1,2,5,10,12,14,16,44,50,51,52,85])
(.cond 85 (.exit 7)
.skip))
(.seq (rg [mV 86 16,
fA 87 1 none 14,
lD 88 none 87,
uO 89 (.idxs 86 88),
bN 90 .sub 89 (.c (.p (.int .u8 48))),
uO 91 (.conv (.i .i64) 90),
mV 17 91] [1,2,5,10,12,17,44,50,51,52])
(.seq (.seq (rg [mV 92 12,
mV 93 92,
gD 94 93 true (.mv 5),
gD 95 93 true (.mv 10),
gD 96 93 true (.look (none,[2]) false (AI 0) 94 95),
gD 97 93 true (.mv 17),
gD 98 93 true (.bin .neq 96 97),
uO 99 (.pick 93 98 cF)] [1,2,5,10,17,44,50,51,52,99])
(.cond 99 (rg [mV 17 (cI 3)] [1,2,5,10,17,44,50,51,52])
.skip))
q3))))))
q4)))
def uI:ACode:=fQ BO CO
def OM (C:Hd)(gl:GL)(q3 q4:ACode)(v1 v2 v5 v10 v12 v44 v50 v51 v52:AV)(h:aA)(x:Esc)(K:KT):Prop:=
 pK (eA .lss v52 v51) fun t1=>
 mA t1 (pK (sA (some 2) v50 v52 h) fun t2=>
 pK (jA (some 2) t2 h) fun t3=>
 alK [.p (.int .i64 0),.p (.int .i64 0)] h fun t4 h5 y6=>
 wK (XA (some 2) t4 t3 h5) fun t7 h8 y9=>
 pK (nA 0 none v2) fun t10=>
 pK (jA none t10 h8) fun t11=>
 pK (nA 0 none t4) fun t12=>
 pK (jA none t12 h8) fun t13=>
 pK (sA (some 2) t11 t13 h8) fun t14=>
 pK (nA 1 none t14) fun t15=>
 pK (jA none t15 h8) fun t16=>
 pK (nA 1 none t4) fun t17=>
 pK (jA none t17 h8) fun t18=>
 pK (sA (some 4) t16 t18 h8) fun t19=>
 pK (jA (some 4) t19 h8) fun t20=>
 pK (nA 0 none t4) fun t21=>
 pK (jA none t21 h8) fun t22=>
 pK (sA none v1 t22 h8) fun t23=>
 pK (jA none t23 h8) fun t24=>
 alK [.p (.int .i64 0),.p (.str []),.p (.int .i64 0),.p (.int .i64 0)] h8 fun t25 h26 y27=>
 (pK (jA none t10 h26) fun v=>(fun u (g1:aA) (y1:Esc)=>u=t11∧g1=h26∧y1=[]) v h26 [])∧((pK (jA none t12 h26) fun v=>(fun u (g1:aA) (y1:Esc)=>u=t13∧g1=h26∧y1=[]) v h26 [])∧((pK (sA (some 2) t11 t13 h26) fun v=>(fun u (g1:aA) (y1:Esc)=>u=t14∧g1=h26∧y1=[]) v h26 [])∧((pK (jA none t15 h26) fun v=>(fun u (g1:aA) (y1:Esc)=>u=t16∧g1=h26∧y1=[]) v h26 [])∧((pK (jA none t17 h26) fun v=>(fun u (g1:aA) (y1:Esc)=>u=t18∧g1=h26∧y1=[]) v h26 [])∧((pK (sA (some 4) t16 t18 h26) fun v=>(fun u (g1:aA) (y1:Esc)=>u=t19∧g1=h26∧y1=[]) v h26 [])∧((pK (jA (some 4) t19 h26) fun v=>(fun u (g1:aA) (y1:Esc)=>u=t20∧g1=h26∧y1=[]) v h26 [])∧((pK (jA none t21 h26) fun v=>(fun u (g1:aA) (y1:Esc)=>u=t22∧g1=h26∧y1=[]) v h26 [])∧((pK (sA none v1 t22 h26) fun v=>(fun u (g1:aA) (y1:Esc)=>u=t23∧g1=h26∧y1=[]) v h26 [])∧((pK (jA none t23 h26) fun v=>(fun u (g1:aA) (y1:Esc)=>u=t24∧g1=h26∧y1=[]) v h26 [])∧(wK (XA (some 4) t25 t20 h26) fun t28 h29 y30=>
 (pK (jA none t21 h29) fun v=>(fun u (g1:aA) (y1:Esc)=>u=t22∧g1=h29∧y1=[]) v h29 [])∧((pK (sA none v1 t22 h29) fun v=>(fun u (g1:aA) (y1:Esc)=>u=t23∧g1=h29∧y1=[]) v h29 [])∧((pK (jA none t23 h29) fun v=>(fun u (g1:aA) (y1:Esc)=>u=t24∧g1=h29∧y1=[]) v h29 [])∧(pK (nA 2 none t25) fun t31=>
 pK (jA none t31 h29) fun t32=>
 pK (eA .geq t32 (AI 0)) fun t33=>
 gM t33 true t24 h29 fun t34 h35 y36=>
 gP t33 true (nA 2 none t25) h35 fun t37 h38 y39=>
 gP t33 true (jA none t37 h38) h38 fun t40 h41 y42=>
 gP t33 true (FD t34 t40) h41 fun t43 h44 y45=>
 gP t33 true (eA .sub t43 (.p (.int .u8 48))) h44 fun t46 h47 y48=>
 gP t33 true (ED .i64 t46) h47 fun t49 h50 y51=>
 (h50=h47∧y51=[])∧(gP t33 true (nA 3 none t25) h50 fun t52 h53 y54=>
 gP t33 true (jA none t52 h53) h53 fun t55 h56 y57=>
 gP t33 true (eA .eql t49 t55) h56 fun t58 h59 y60=>
 pK (QA t33 t58 (AB false)) fun t61=>
 mA t61 (NW C gl q4 ⟨[(1,v1),(2,v2),(5,v5),(10,v10),(12,v12),(14,t4),(16,t24),(44,v44),(50,v50),(51,v51),(52,v52),(85,t61)],h59,(y60++(y57++(y54++(y51++(y48++(y45++(y42++(y39++(y36++(y30++(y27++(y9++(y6++x)))))))))))))⟩ K)
 (pK (nA 1 none t4) fun t62=>
 pK (jA none t62 h59) fun t63=>
 pK (FD t24 t63) fun t64=>
 pK (eA .sub t64 (.p (.int .u8 48))) fun t65=>
 pK (ED .i64 t65) fun t66=>
 gM v12 true v5 h59 fun t67 h68 y69=>
 gM v12 true v10 h68 fun t70 h71 y72=>
 gP v12 true (yB (none,[2]) false (AI 0) t67 t70 h71) h71 fun t73 h74 y75=>
 gM v12 true t66 h74 fun t76 h77 y78=>
 gP v12 true (eA .neq t73 t76) h77 fun t79 h80 y81=>
 pK (QA v12 t79 (AB false)) fun t82=>
 mA t82 (NW C gl q3 ⟨[(1,v1),(2,v2),(5,v5),(10,v10),(17,(AI 3)),(44,v44),(50,v50),(51,v51),(52,v52)],h80,(y81++(y78++(y75++(y72++(y69++(y60++(y57++(y54++(y51++(y48++(y45++(y42++(y39++(y36++(y30++(y27++(y9++(y6++x))))))))))))))))))⟩ (CA 7 (FA C gl q4 K)))
 (NW C gl q3 ⟨[(1,v1),(2,v2),(5,v5),(10,v10),(17,t66),(44,v44),(50,v50),(51,v51),(52,v52),(99,t82)],h80,(y81++(y78++(y75++(y72++(y69++(y60++(y57++(y54++(y51++(y48++(y45++(y42++(y39++(y36++(y30++(y27++(y9++(y6++x))))))))))))))))))⟩ (CA 7 (FA C gl q4 K)))))))))))))))))))
 (K (.exit 6) ⟨[(1,v1),(2,v2),(5,v5),(10,v10),(12,v12),(44,v44),(50,v50),(51,v51),(52,v52),(53,t1)],h,x⟩)
theorem uZ {C gl q3 q4 e h x K}:NW C gl (fQ q3 q4) ⟨e,h,x⟩ K=OM C gl q3 q4 (bA e 1) (bA e 2) (bA e 5) (bA e 10) (bA e 12) (bA e 44) (bA e 50) (bA e 51) (bA e 52) h x K:=by kernel_rfl
theorem z5W {C gl e h x K}:NW C gl uI ⟨e,h,x⟩ K=OM C gl BO CO (bA e 1) (bA e 2) (bA e 5) (bA e 10) (bA e 12) (bA e 44) (bA e 50) (bA e 51) (bA e 52) h x K:=uZ
theorem z8V {C gl e h x K}:NW C gl (.loop (.scope uI)) ⟨e,h,x⟩ K=GA C gl (.scope uI) K [(1,bA e 1),(2,bA e 2),(5,bA e 5),(10,bA e 10),(12,bA e 12),(44,bA e 44),(50,bA e 50),(51,bA e 51),(52,bA e 52)] h x:=LB
def gQ (q5:ACode):ACode:=.pr [1,2,5,44] (.seq (rg [uO 45 (.mnext none [44]),
eX 46 45 0] [1,2,5,44,46])
(.seq (.cond 46 .skip
(.exit 4))
(.block 5 (.seq (rg [uO 47 (.mentry 44),
eX 48 47 0,
eX 49 47 1,
mV 10 48,
mV 11 49] [1,2,5,10,11,44])
(.seq (rg [mV 12 cF] [1,2,5,10,11,12,44])
(.seq (rg [mV 50 11,
lN 51 50,
mV 52 (cI 0)] [1,2,5,10,12,44,50,51,52])
(.block 6 (.loop (.scope q5)))))))))
def vI:ACode:=gQ uI
def PM (C:Hd)(gl:GL)(q5:ACode)(v1 v2 v5 v44:AV)(h:aA)(x:Esc)(K:KT):Prop:=
 nxK v44 h fun t1 h2 y3=>
 pK (xB t1 0) fun t4=>
 mA t4 (wK (AK v44 h2) fun t5 h6 y7=>
 pK (xB t5 0) fun t8=>
 pK (xB t5 1) fun t9=>
 pK (zA t9) fun t10=>
 NW C gl (.loop (.scope q5)) ⟨[(1,v1),(2,v2),(5,v5),(10,t8),(12,(AB false)),(44,v44),(50,t9),(51,t10),(52,(AI 0))],h6,(y7++(y3++x))⟩ (CA 6 (CA 5 K)))
 (K (.exit 4) ⟨[(1,v1),(2,v2),(5,v5),(44,v44),(46,t4)],h2,(y3++x)⟩)
theorem vZ {C gl q5 e h x K}:NW C gl (gQ q5) ⟨e,h,x⟩ K=PM C gl q5 (bA e 1) (bA e 2) (bA e 5) (bA e 44) h x K:=by kernel_rfl
theorem z5X {C gl e h x K}:NW C gl vI ⟨e,h,x⟩ K=PM C gl uI (bA e 1) (bA e 2) (bA e 5) (bA e 44) h x K:=vZ
theorem z8W {C gl e h x K}:NW C gl (.loop (.scope vI)) ⟨e,h,x⟩ K=GA C gl (.scope vI) K [(1,bA e 1),(2,bA e 2),(5,bA e 5),(44,bA e 44)] h x:=LB
def DO:ACode:=.pr [5] (.seq (rg [mV 104 5,
mV 4 104] [4])
.ret)
def uS (C:Hd)(gl:GL)(v5:AV)(h:aA)(x:Esc)(K:KT):Prop:=
 K .ret ⟨[(4,v5)],h,x⟩
theorem z5Y {C gl e h x K}:NW C gl DO ⟨e,h,x⟩ K=uS C gl (bA e 5) h x K:=by kernel_rfl
def iQ (q6 q7:ACode):ACode:=.pr [1,2,5] (.seq (.seq (rg [lD 42 (some 3) 2,
cL 43 UH [42,(cI 2)],
uO 44 (.mrange 43)] [1,2,5,44])
(.block 4 (.loop (.scope q6))))
q7)
def EO:ACode:=iQ vI DO
def QM (C:Hd)(gl:GL)(q6 q7:ACode)(v1 v2 v5:AV)(h:aA)(x:Esc)(K:KT):Prop:=
 pK (jA (some 3) v2 h) fun t1=>
 C UH [t1,(AI 2)] h fun t2 h3 y4=>
 wK (BK t2 h3) fun t5 h6 y7=>
 NW C gl (.loop (.scope q6)) ⟨[(1,v1),(2,v2),(5,v5),(44,t5)],h6,(y7++(y4++x))⟩ (CA 4 (FA C gl q7 K))
theorem wZ {C gl q6 q7 e h x K}:NW C gl (iQ q6 q7) ⟨e,h,x⟩ K=QM C gl q6 q7 (bA e 1) (bA e 2) (bA e 5) h x K:=by kernel_rfl
theorem z5Z {C gl e h x K}:NW C gl EO ⟨e,h,x⟩ K=QM C gl vI DO (bA e 1) (bA e 2) (bA e 5) h x K:=wZ
def jQ (q2 q8:ACode):ACode:=.pr [1,2,5] (.seq (.seq (rg [fA 29 2 none 2,
lD 30 none 29,
lN 31 30,
mV 32 (cI 0)] [1,2,5,30,31,32])
(.block 2 (.loop (.scope q2))))
q8)
def GK:ACode:=jQ tI EO
def RM (C:Hd)(gl:GL)(q2 q8:ACode)(v1 v2 v5:AV)(h:aA)(x:Esc)(K:KT):Prop:=
 pK (nA 2 none v2) fun t1=>
 pK (jA none t1 h) fun t2=>
 pK (zA t2) fun t3=>
 NW C gl (.loop (.scope q2)) ⟨[(1,v1),(2,v2),(5,v5),(30,t2),(31,t3),(32,(AI 0))],h,x⟩ (CA 2 (FA C gl q8 K))
theorem xZ {C gl q2 q8 e h x K}:NW C gl (jQ q2 q8) ⟨e,h,x⟩ K=RM C gl q2 q8 (bA e 1) (bA e 2) (bA e 5) h x K:=by kernel_rfl
theorem z6a {C gl e h x K}:NW C gl GK ⟨e,h,x⟩ K=RM C gl tI EO (bA e 1) (bA e 2) (bA e 5) h x K:=xZ
def eQ (q1 q9:ACode):ACode:=(.det (.seq (rg [uO 2 (.box 0),
mV 4 (.c (.nilm))] [1,2])
(.seq (rg [uO 18 (.mkmap),
mV 5 18] [1,2,5])
(.seq (.seq (rg [lD 19 (some 3) 2,
cL 20 AD [19],
lN 21 20,
mV 22 (cI 0)] [1,2,5,20,21,22])
(.block 0 (.loop q1)))
q9))))
def UL:AFun:=⟨2,[.t 4],eQ RG GK,false,false⟩
def MM (C:Hd)(gl:GL)(q1 q9:ACode)(v0 v1:AV)(h:aA)(x:Esc)(K:KT):Prop:=
 wK (iB v0 h) fun t1 h2 y3=>
 mmK h2 fun t4 h5 y6=>
 pK (jA (some 3) t1 h5) fun t7=>
 C AD [t7] h5 fun t8 h9 y10=>
 pK (zA t8) fun t11=>
 NW C gl (.loop q1) ⟨[(1,v1),(2,t1),(5,t4),(20,t8),(21,t11),(22,(AI 0))],h9,(y10++(y6++(y3++x)))⟩ (CA 0 (FA C gl q9 K))
theorem tZ {C gl q1 q9 v0 v1 h x K}:NW C gl (eQ q1 q9) ⟨enter [v0,v1],h,x⟩ K=MM C gl q1 q9 v0 v1 h x K:=by kernel_rfl
theorem z5R {C gl v0 v1 h x K}:NW C gl UL.body ⟨enter [v0,v1],h,x⟩ K=MM C gl RG GK v0 v1 h x K:=tZ
def TG:ACode:=.pr [3,8,9,10] (.seq (rg [bN 11 .lss 10 9] [3,8,9,10,11])
(.seq (.cond 11 .skip
(.exit 0))
(.seq (.block 1 (.seq (rg [iA 12 (some 3) 8 10,
lD 13 (some 3) 12,
uO 5 (.alloc [.p (.str []),.p (.str []),.p (.str [])]),
wO (.store (some 3) 5 13)] [3,5,8,9,10])
(rg [mV 14 3,
fA 15 1 none 5,
lD 16 none 15,
fA 17 2 none 5,
lD 18 none 17,
uO 19 (.build [.p (.str []),.p (.str [])] [(0,1,16),(1,1,18)]),
fA 20 0 none 5,
lD 21 none 20,
wO (.mupd ((some 2),[2,2]) 14 19 21)] [3,8,9,10])))
(rg [bN 22 .add 10 (cI 1),
mV 10 22] [3,8,9,10]))))
def xS (C:Hd)(gl:GL)(v3 v8 v9 v10:AV)(h:aA)(x:Esc)(K:KT):Prop:=
 pK (eA .lss v10 v9) fun t1=>
 mA t1 (pK (sA (some 3) v8 v10 h) fun t2=>
 pK (jA (some 3) t2 h) fun t3=>
 alK [.p (.str []),.p (.str []),.p (.str [])] h fun t4 h5 y6=>
 wK (XA (some 3) t4 t3 h5) fun t7 h8 y9=>
 pK (nA 1 none t4) fun t10=>
 pK (jA none t10 h8) fun t11=>
 pK (nA 2 none t4) fun t12=>
 pK (jA none t12 h8) fun t13=>
 pK (WA [.p (.str []),.p (.str [])] [(0,1,t11),(1,1,t13)]) fun t14=>
 pK (nA 0 none t4) fun t15=>
 pK (jA none t15 h8) fun t16=>
 wK (gC ((some 2),[2,2]) v3 t14 t16 h8) fun t17 h18 y19=>
 pK (eA .add v10 (AI 1)) fun t20=>
 K .normal ⟨[(3,v3),(8,v8),(9,v9),(10,t20)],h18,(y19++(y9++(y6++x)))⟩)
 (K (.exit 0) ⟨[(3,v3),(8,v8),(9,v9),(10,v10),(11,t1)],h,x⟩)
theorem z6f {C gl e h x K}:NW C gl TG ⟨e,h,x⟩ K=xS C gl (bA e 3) (bA e 8) (bA e 9) (bA e 10) h x K:=by kernel_rfl
theorem z8Y {C gl e h x K}:NW C gl (.loop (.scope TG)) ⟨e,h,x⟩ K=GA C gl (.scope TG) K [(3,bA e 3),(8,bA e 8),(9,bA e 9),(10,bA e 10)] h x:=LB
def IK:ACode:=.pr [3] (.seq (rg [mV 23 3,
mV 2 23] [2])
.ret)
def yS (C:Hd)(gl:GL)(v3:AV)(h:aA)(x:Esc)(K:KT):Prop:=
 K .ret ⟨[(2,v3)],h,x⟩
theorem z6g {C gl e h x K}:NW C gl IK ⟨e,h,x⟩ K=yS C gl (bA e 3) h x K:=by kernel_rfl
def lQ (q1 q2:ACode):ACode:=(.seq (rg [uO 1 (.box 0),
mV 2 (.c (.nilm))] [1])
(.seq (rg [uO 6 (.mkmap),
mV 3 6] [1,3])
(.seq (.seq (rg [fA 7 1 none 1,
lD 8 none 7,
lN 9 8,
mV 10 (cI 0)] [3,8,9,10])
(.block 0 (.loop (.scope q1))))
q2)))
def WL:AFun:=⟨1,[.t 2],lQ TG IK,false,false⟩
def SM (C:Hd)(gl:GL)(q1 q2:ACode)(v0:AV)(h:aA)(x:Esc)(K:KT):Prop:=
 wK (iB v0 h) fun t1 h2 y3=>
 mmK h2 fun t4 h5 y6=>
 pK (nA 1 none t1) fun t7=>
 pK (jA none t7 h5) fun t8=>
 pK (zA t8) fun t9=>
 NW C gl (.loop (.scope q1)) ⟨[(3,t4),(8,t8),(9,t9),(10,(AI 0))],h5,(y6++(y3++x))⟩ (CA 0 (FA C gl q2 K))
theorem zZ {C gl q1 q2 v0 h x K}:NW C gl (lQ q1 q2) ⟨enter [v0],h,x⟩ K=SM C gl q1 q2 v0 h x K:=by kernel_rfl
theorem z6e {C gl v0 h x K}:NW C gl WL.body ⟨enter [v0],h,x⟩ K=SM C gl TG IK v0 h x K:=zZ
def XG:ACode:=.pr [0,7,18,19,20] (.seq (rg [bN 21 .lss 20 19] [0,7,18,19,20,21])
(.seq (.cond 21 .skip
(.exit 0))
(.seq (.block 1 (.seq (rg [iA 22 (some 2) 18 20,
lD 23 (some 2) 22,
uO 9 (.alloc [.p (.int .i64 0),.sl0 none]),
wO (.store (some 2) 9 23)] [0,7,9,18,19,20])
(dr [dF (mV 24 7) [7],
dF (lD 25 (some 2) 9) [9],
dF (mV 26 0) [0],
dF (iA 27 none 26 (cI 0)) [26],
dF (lD 28 none 27) [27],
dF (uO 29 (.lens 28)) [28],
dA (cL 30 uG [29]) [29] true [] [1],
dT (cL 31 vG [24,25,30]) [24,25,30]] [0,7,18,19,20])))
(rg [bN 32 .add 20 (cI 1),
mV 20 32] [0,7,18,19,20]))))
def IS (C:Hd)(gl:GL)(v0 v7 v18 v19 v20:AV)(h:aA)(x:Esc)(K:KT):Prop:=
 pK (eA .lss v20 v19) fun t1=>
 mA t1 (pK (sA (some 2) v18 v20 h) fun t2=>
 pK (jA (some 2) t2 h) fun t3=>
 alK [.p (.int .i64 0),.sl0 none] h fun t4 h5 y6=>
 wK (XA (some 2) t4 t3 h5) fun t7 h8 y9=>
 pK (jA (some 2) t4 h8) fun t10=>
 pK (sA none v0 (AI 0) h8) fun t11=>
 pK (jA none t11 h8) fun t12=>
 pK (XC t12) fun t13=>
 MB C uG [t13] h8 fun t14 h15 y16=>
 (pK (jA (some 2) t4 h15) fun v=>(fun u (g1:aA) (y1:Esc)=>u=t10∧g1=h15∧y1=[]) v h15 [])∧(MB C vG [v7,t10,t14] h15 fun t17 h18 y19=>
 pK (eA .add v20 (AI 1)) fun t20=>
 K .normal ⟨[(0,v0),(7,v7),(18,v18),(19,v19),(20,t20)],h18,(y19++(y16++(y9++(y6++x))))⟩))
 (K (.exit 0) ⟨[(0,v0),(7,v7),(18,v18),(19,v19),(20,v20),(21,t1)],h,x⟩)
theorem z6w {C gl e h x K}:NW C gl XG ⟨e,h,x⟩ K=IS C gl (bA e 0) (bA e 7) (bA e 18) (bA e 19) (bA e 20) h x K:=by kernel_rfl
theorem z9d {C gl e h x K}:NW C gl (.loop (.scope XG)) ⟨e,h,x⟩ K=GA C gl (.scope XG) K [(0,bA e 0),(7,bA e 7),(18,bA e 18),(19,bA e 19),(20,bA e 20)] h x:=LB
def MK:ACode:=.pr [0,7] (.seq (rg [mV 33 7,
mV 34 0,
iA 35 none 34 (cI 0),
lD 36 none 35,
uO 37 (.lens 36),
cL 38 tG [33,37],
mV 4 38,
mV 5 (cI 0)] [4,5])
.ret)
def JS (C:Hd)(gl:GL)(v0 v7:AV)(h:aA)(x:Esc)(K:KT):Prop:=
 pK (sA none v0 (AI 0) h) fun t1=>
 pK (jA none t1 h) fun t2=>
 pK (XC t2) fun t3=>
 C tG [v7,t3] h fun t4 h5 y6=>
 K .ret ⟨[(4,t4),(5,(AI 0))],h5,(y6++x)⟩
theorem z6x {C gl e h x K}:NW C gl MK ⟨e,h,x⟩ K=JS C gl (bA e 0) (bA e 7) h x K:=by kernel_rfl
def rQ (q1 q2:ACode):ACode:=(.seq (rg [mV 4 (.c (.p (.sl none []))),
mV 5 (cI 0)] [0,1])
(.seq (.seq (rg [mV 10 0,
mV 11 1,
cL 12 qG [10,11],
mV 6 12] [0,1,6])
(.seq (rg [mV 13 6,
bN 14 .neq 13 (cI 0)] [0,1,6,14])
(.cond 14 (.seq (rg [mV 15 6,
mV 4 (.c (.p (.sl none []))),
mV 5 15] [4,5])
.ret)
.skip)))
(.seq (rg [mV 16 0,
cL 17 sG [16],
mV 7 17] [0,1,7])
(.seq (.seq (rg [mV 18 1,
lN 19 18,
mV 20 (cI 0)] [0,7,18,19,20])
(.block 0 (.loop (.scope q1))))
q2))))
def hJ:AFun:=⟨2,[.t 4,.t 5],rQ XG MK,false,false⟩
def WM (C:Hd)(gl:GL)(q1 q2:ACode)(v0 v1:AV)(h:aA)(x:Esc)(K:KT):Prop:=
 C qG [v0,v1] h fun t1 h2 y3=>
 pK (eA .neq t1 (AI 0)) fun t4=>
 mA t4 (K .ret ⟨[(4,(.p (.sl none []))),(5,t1)],h2,(y3++x)⟩)
 (C sG [v0] h2 fun t5 h6 y7=>
 pK (zA v1) fun t8=>
 NW C gl (.loop (.scope q1)) ⟨[(0,v0),(7,t5),(18,v1),(19,t8),(20,(AI 0))],h6,(y7++(y3++x))⟩ (CA 0 (FA C gl q2 K)))
theorem FZ {C gl q1 q2 v0 v1 h x K}:NW C gl (rQ q1 q2) ⟨enter [v0,v1],h,x⟩ K=WM C gl q1 q2 v0 v1 h x K:=by kernel_rfl
theorem z6v {C gl v0 v1 h x K}:NW C gl hJ.body ⟨enter [v0,v1],h,x⟩ K=WM C gl XG MK v0 v1 h x K:=FZ
def PO:ACode:=.pr [0,1,5,6] (rg [mV 20 6,
bN 21 .add 20 (cI 1),
mV 6 21] [0,1,5,6])
def lT (C:Hd)(gl:GL)(v0 v1 v5 v6:AV)(h:aA)(x:Esc)(K:KT):Prop:=
 pK (eA .add v6 (AI 1)) fun t1=>
 K .normal ⟨[(0,v0),(1,v1),(5,v5),(6,t1)],h,x⟩
theorem z7h {C gl e h x K}:NW C gl PO ⟨e,h,x⟩ K=lT C gl (bA e 0) (bA e 1) (bA e 5) (bA e 6) h x K:=by kernel_rfl
def GQ (q1:ACode):ACode:=.pr [0,1,5,6] (.seq (.seq (rg [mV 16 6,
mV 17 0,
lN 18 17,
bN 19 .lss 16 18] [0,1,5,6,19])
(.cond 19 .skip
(.exit 0)))
(.seq (.block 1 (.seq (rg [mV 22 0,
mV 23 6,
iA 24 none 22 23,
lD 25 none 24,
mV 7 25] [0,1,5,6,7])
(.seq (rg [mV 26 1,
mV 27 7,
uO 28 (.callv 26 [27]),
uO 29 (.un .not 28)] [0,1,5,6,7,29])
(.cond 29 (.seq (rg [mV 30 0,
mV 31 5,
mV 32 7,
iA 33 none 30 31,
wO (.store none 33 32)] [0,1,5,6])
(rg [mV 34 5,
bN 35 .add 34 (cI 1),
mV 5 35] [0,1,5,6]))
.skip))))
q1))
def dH:ACode:=GQ PO
def rN (C:Hd)(gl:GL)(q1:ACode)(v0 v1 v5 v6:AV)(h:aA)(x:Esc)(K:KT):Prop:=
 pK (zA v0) fun t1=>
 pK (eA .lss v6 t1) fun t2=>
 mA t2 (pK (sA none v0 v6 h) fun t3=>
 pK (jA none t3 h) fun t4=>
 pC C v1 [t4] h fun t5 h6 y7=>
 pK (oUn .not t5) fun t8=>
 mA t8 (pK (sA none v0 v5 h6) fun t9=>
 wK (XA none t9 t4 h6) fun t10 h11 y12=>
 pK (eA .add v5 (AI 1)) fun t13=>
 NW C gl q1 ⟨[(0,v0),(1,v1),(5,t13),(6,v6)],h11,(y12++(y7++x))⟩ K)
 (NW C gl q1 ⟨[(0,v0),(1,v1),(5,v5),(6,v6),(7,t4),(29,t8)],h6,(y7++x)⟩ K))
 (K (.exit 0) ⟨[(0,v0),(1,v1),(5,v5),(6,v6),(19,t2)],h,x⟩)
theorem VZ {C gl q1 e h x K}:NW C gl (GQ q1) ⟨e,h,x⟩ K=rN C gl q1 (bA e 0) (bA e 1) (bA e 5) (bA e 6) h x K:=by kernel_rfl
theorem z7i {C gl e h x K}:NW C gl dH ⟨e,h,x⟩ K=rN C gl PO (bA e 0) (bA e 1) (bA e 5) (bA e 6) h x K:=VZ
theorem z9p {C gl e h x K}:NW C gl (.loop dH) ⟨e,h,x⟩ K=GA C gl dH K [(0,bA e 0),(1,bA e 1),(5,bA e 5),(6,bA e 6)] h x:=uB
def VK:ACode:=.pr [0,5] (.seq (rg [mV 36 0,
mV 37 5,
uO 38 (.slice none 36 (some 37) none none),
wO (.clr none (.str []) 38)] [0,5])
(.seq (rg [mV 39 0,
mV 40 5,
uO 41 (.slice none 39 none (some 40) none),
mV 4 41] [4])
.ret))
def mT (C:Hd)(gl:GL)(v0 v5:AV)(h:aA)(x:Esc)(K:KT):Prop:=
 pK (YC none v0 (some v5) none none h) fun t1=>
 wK (oClr none (.str []) t1 h) fun t2 h3 y4=>
 pK (YC none v0 none (some v5) none h3) fun t5=>
 K .ret ⟨[(4,t5)],h3,(y4++x)⟩
theorem z7j {C gl e h x K}:NW C gl VK ⟨e,h,x⟩ K=mT C gl (bA e 0) (bA e 5) h x K:=by kernel_rfl
def FQ (q2 q3:ACode):ACode:=(.seq (rg [mV 4 (.c (.p (.sl none [])))] [0,1])
(.seq (rg [mV 8 0,
mV 9 1,
cL 10 WH [8,9],
mV 5 10] [0,1,5])
(.seq (.seq (rg [mV 11 5,
bN 12 .eql 11 (cI (-1))] [0,1,5,12])
(.cond 12 (.seq (rg [mV 13 0,
mV 4 13] [4])
.ret)
.skip))
(.seq (.seq (rg [mV 14 5,
bN 15 .add 14 (cI 1),
mV 6 15] [0,1,5,6])
(.block 0 (.loop q2)))
q3))))
def jM:AFun:=⟨2,[.t 4],FQ dH VK,true,false⟩
def qN (C:Hd)(gl:GL)(q2 q3:ACode)(v0 v1:AV)(h:aA)(x:Esc)(K:KT):Prop:=
 C WH [v0,v1] h fun t1 h2 y3=>
 pK (eA .eql t1 (AI (-1))) fun t4=>
 mA t4 (K .ret ⟨[(4,v0)],h2,(y3++x)⟩)
 (pK (eA .add t1 (AI 1)) fun t5=>
 NW C gl (.loop q2) ⟨[(0,v0),(1,v1),(5,t1),(6,t5)],h2,(y3++x)⟩ (CA 0 (FA C gl q3 K)))
theorem UZ {C gl q2 q3 v0 v1 h x K}:NW C gl (FQ q2 q3) ⟨enter [v0,v1],h,x⟩ K=qN C gl q2 q3 v0 v1 h x K:=by kernel_rfl
theorem z7g {C gl v0 v1 h x K}:NW C gl jM.body ⟨enter [v0,v1],h,x⟩ K=qN C gl dH VK v0 v1 h x K:=UZ
def SG:ACode:=.pr [3,7,8,9] (.seq (rg [bN 10 .lss 9 8] [3,7,8,9,10])
(.seq (.cond 10 .skip
(.exit 0))
(.seq (.block 1 (.seq (rg [iA 11 (some 3) 7 9,
lD 12 (some 3) 11,
uO 5 (.alloc [.p (.str []),.p (.str []),.p (.str [])]),
wO (.store (some 3) 5 12)] [3,5,7,8,9])
(rg [mV 13 3,
fA 14 0 none 5,
lD 15 none 14,
uO 16 (.bsl false none 1 (.str []) [(0,15)]),
uO 17 (.app none 13 16),
mV 3 17] [3,7,8,9])))
(rg [bN 18 .add 9 (cI 1),
mV 9 18] [3,7,8,9]))))
def vS (C:Hd)(gl:GL)(v3 v7 v8 v9:AV)(h:aA)(x:Esc)(K:KT):Prop:=
 pK (eA .lss v9 v8) fun t1=>
 mA t1 (pK (sA (some 3) v7 v9 h) fun t2=>
 pK (jA (some 3) t2 h) fun t3=>
 alK [.p (.str []),.p (.str []),.p (.str [])] h fun t4 h5 y6=>
 wK (XA (some 3) t4 t3 h5) fun t7 h8 y9=>
 pK (nA 0 none t4) fun t10=>
 pK (jA none t10 h8) fun t11=>
 wK (wB false none 1 (.str []) [(0,t11)] h8) fun t12 h13 y14=>
 wK (HF none v3 t12 h13) fun t15 h16 y17=>
 pK (eA .add v9 (AI 1)) fun t18=>
 K .normal ⟨[(3,t15),(7,v7),(8,v8),(9,t18)],h16,(y17++(y14++(y9++(y6++x))))⟩)
 (K (.exit 0) ⟨[(3,v3),(7,v7),(8,v8),(9,v9),(10,t1)],h,x⟩)
theorem z6c {C gl e h x K}:NW C gl SG ⟨e,h,x⟩ K=vS C gl (bA e 3) (bA e 7) (bA e 8) (bA e 9) h x K:=by kernel_rfl
theorem z8X {C gl e h x K}:NW C gl (.loop (.scope SG)) ⟨e,h,x⟩ K=GA C gl (.scope SG) K [(3,bA e 3),(7,bA e 7),(8,bA e 8),(9,bA e 9)] h x:=LB
def HK:ACode:=.pr [3] (.seq (rg [mV 19 3,
cL 20 xF [19],
mV 2 20] [2])
.ret)
def wS (C:Hd)(gl:GL)(v3:AV)(h:aA)(x:Esc)(K:KT):Prop:=
 C xF [v3] h fun t1 h2 y3=>
 K .ret ⟨[(2,t1)],h2,(y3++x)⟩
theorem z6d {C gl e h x K}:NW C gl HK ⟨e,h,x⟩ K=wS C gl (bA e 3) h x K:=by kernel_rfl
def kQ (q1 q2:ACode):ACode:=(.seq (rg [uO 1 (.box 0),
mV 2 (.c (.p (.sl none [])))] [1])
(.seq (rg [uO 3 (.new0 none)] [1,3])
(.seq (.seq (rg [fA 6 1 none 1,
lD 7 none 6,
lN 8 7,
mV 9 (cI 0)] [3,7,8,9])
(.block 0 (.loop (.scope q1))))
q2)))
def VL:AFun:=⟨1,[.t 2],kQ SG HK,false,true⟩
def NJ (C:Hd)(gl:GL)(q1 q2:ACode)(v0:AV)(h:aA)(x:Esc)(K:KT):Prop:=
 wK (iB v0 h) fun t1 h2 y3=>
 nwK none h2 fun t4 h5 y6=>
 pK (nA 1 none t1) fun t7=>
 pK (jA none t7 h5) fun t8=>
 pK (zA t8) fun t9=>
 NW C gl (.loop (.scope q1)) ⟨[(3,t4),(7,t8),(8,t9),(9,(AI 0))],h5,(y6++(y3++x))⟩ (CA 0 (FA C gl q2 K))
theorem yZ {C gl q1 q2 v0 h x K}:NW C gl (kQ q1 q2) ⟨enter [v0],h,x⟩ K=NJ C gl q1 q2 v0 h x K:=by kernel_rfl
theorem z6b {C gl v0 h x K}:NW C gl VL.body ⟨enter [v0],h,x⟩ K=NJ C gl SG HK v0 h x K:=yZ
def z0r:ACode:=(.seq (rg [mV 3 cF] [0,1])
(.seq (rg [lD 4 none 1,
mV 5 0,
uO 6 (.look (none,[2]) false (AI 0) 4 5),
bN 7 .neq 6 (cI 3),
mV 3 7] [3])
.ret))
def KL:AFun:=⟨2,[.t 3],z0r,false,false⟩
def fS (C:Hd)(gl:GL)(v0 v1:AV)(h:aA)(x:Esc)(K:KT):Prop:=
 pK (jA none v1 h) fun t1=>
 pK (yB (none,[2]) false (AI 0) t1 v0 h) fun t2=>
 pK (eA .neq t2 (AI 3)) fun t3=>
 K .ret ⟨[(3,t3)],h,x⟩
theorem z56 {C gl v0 v1 h x K}:NW C gl KL.body ⟨enter [v0,v1],h,x⟩ K=fS C gl v0 v1 h x K:=by kernel_rfl
def SK:ACode:=.pr [0] (.seq (rg [mV 15 0,
mV 4 15] [4])
.ret)
def aT (C:Hd)(gl:GL)(v0:AV)(h:aA)(x:Esc)(K:KT):Prop:=
 K .ret ⟨[(4,v0)],h,x⟩
theorem z6O {C gl e h x K}:NW C gl SK ⟨e,h,x⟩ K=aT C gl (bA e 0) h x K:=by kernel_rfl
def AQ (q1:ACode):ACode:=(.seq (rg [mV 4 (cI 0)] [0,1])
(.seq (.seq (rg [mV 5 1,
bN 6 .lss 5 (cI 1)] [0,1,6])
(.cond 6 (.seq (rg [mV 4 (cI 0)] [4])
.ret)
.skip))
(.seq (rg [mV 7 0,
mV 8 1,
bN 9 .rem 7 8,
mV 0 9] [0,1])
(.seq (.seq (rg [mV 10 0,
bN 11 .lss 10 (cI 0)] [0,1,11])
(.cond 11 (rg [mV 12 0,
mV 13 1,
bN 14 .add 12 13,
mV 0 14] [0])
.skip))
q1))))
def ZL:AFun:=⟨2,[.t 4],AQ SK,false,false⟩
def SJ (C:Hd)(gl:GL)(q1:ACode)(v0 v1:AV)(h:aA)(x:Esc)(K:KT):Prop:=
 pK (eA .lss v1 (AI 1)) fun t1=>
 mA t1 (K .ret ⟨[(4,(AI 0))],h,x⟩)
 (pK (eA .rem v0 v1) fun t2=>
 pK (eA .lss t2 (AI 0)) fun t3=>
 mA t3 (pK (eA .add t2 v1) fun t4=>
 NW C gl q1 ⟨[(0,t4)],h,x⟩ K)
 (NW C gl q1 ⟨[(0,t2),(1,v1),(11,t3)],h,x⟩ K))
theorem PZ {C gl q1 v0 v1 h x K}:NW C gl (AQ q1) ⟨enter [v0,v1],h,x⟩ K=SJ C gl q1 v0 v1 h x K:=by kernel_rfl
theorem z6N {C gl v0 v1 h x K}:NW C gl ZL.body ⟨enter [v0,v1],h,x⟩ K=SJ C gl SK v0 v1 h x K:=PZ
end Go.Am
end
