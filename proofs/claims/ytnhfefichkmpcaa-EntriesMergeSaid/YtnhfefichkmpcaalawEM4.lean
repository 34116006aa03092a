/- Texts of the proof, laid together: Am31, AmX, AmS, CodesA, CodesB. -/
import GoSem.Extern.Table
import Derived.Laws.World
import Derived.KernelRfl
import Derived.Test.YtnhfefichkmpcaalawEM3
set_option linter.all false
section
/- The abstract machine,part 31: words in which a function's code is printed,and the rules of computing AE them. -/
set_option linter.unusedSimpArgs false
set_option linter.unusedVariables false
namespace Go.Am
variable {C:Hd} {gl:Nat→Option PV} {e:List (Nat × AV)} {h:aA} {x:Esc} {K:Ex→St→Prop} {s:St}
abbrev AI (n:Int):AV:=.p (.int .i64 n)
abbrev AB (b:Bool):AV:=.p (.bool b)
def TA (C:Hd)(gl:Nat→Option PV)(b:ACode)(K:Ex→St→Prop)(e:Ex)(s:St):Prop:=match e with
 | .normal=>NW C gl b s K
 | .exit i=>K (.exit i) s
 | .ret=>K .ret s
def OA (id:Nat)(K:Ex→St→Prop)(e:Ex)(s:St):Prop:=match e with
 | .normal=>K .normal s
 | .exit i=>bif Nat.beq i id then K .normal s else K (.exit i) s
 | .ret=>K .ret s
theorem z3D {b:ACode}:TA C gl b K .normal s=NW C gl b s K:=(rfl)
theorem z3C {b:ACode}{i:Nat}:TA C gl b K (.exit i) s=K (.exit i) s:=(rfl)
theorem z3E {b:ACode}:TA C gl b K .ret s=K .ret s:=(rfl)
theorem rY {i:Nat}:OA i K .normal s=K .normal s:=(rfl)
theorem tY {i:Nat}:OA i K (.exit i) s=K .normal s:=by simp [OA]
theorem z8A {i j:Nat}:OA i K (.exit j) s=bif Nat.beq j i then K .normal s else K (.exit j) s:=(rfl)
theorem sY {i:Nat}:OA i K .ret s=K .ret s:=(rfl)
theorem ziS {b:ACode}{ex ex':Ex}{s s':St}(he:ex=ex')(hs:s=s'):TA C gl b K ex s=TA C gl b K ex' s':=by rw[he,hs]
theorem z89 {i:Nat}{ex ex':Ex}{s s':St}(he:ex=ex')(hs:s=s'):OA i K ex s=OA i K ex' s':=by rw[he,hs]
theorem z6E {b:ACode}:NW C gl (.scope b) ⟨e,h,x⟩ K=NW C gl b ⟨e,h,[]⟩ (RK h.length x K):=(rfl)
theorem z6D {c:ACode}{s s':St}(hs:s=s'):NW C gl c s K=NW C gl c s' K:=by rw[hs]
def YA (C:Hd)(gl:Nat→Option PV)(b:ACode)(K:Ex→St→Prop)(e:List (Nat × AV))(h:aA)(x:Esc):Prop:=ALoop (NW C gl b) K ⟨e,h,x⟩
theorem RB {l:List Nat}{b:ACode}:NW C gl (.loop (.pr l b)) ⟨e,h,x⟩ K=YA C gl (.pr l b) K (RA (some l) e) h x:=by
 show ALoop _ _ _=ALoop _ _ _
 exact WM (funext fun R=>by show NW C gl b _ R=NW C gl b _ R;dsimp only;rw[fQ])
theorem gE {l:List Nat}{b:ACode}:NW C gl (.loop (.scope (.pr l b))) ⟨e,h,x⟩ K=YA C gl (.scope (.pr l b)) K (RA (some l) e) h x:=by
 show ALoop _ _ _=ALoop _ _ _
 exact WM (funext fun R=>by show NW C gl b _ _=NW C gl b _ _;dsimp only;rw[fQ])
theorem z6C {b:ACode}{e e':List (Nat × AV)}{h h':aA}{x x':Esc}(h1:e=e')(h2:h=h')(h3:x=x'):YA C gl b K e h x=YA C gl b K e' h' x':=by rw[h1,h2,h3]
theorem qB {σ:Type}{b:ACode}(S:σ→St)(P:σ→Prop)(m:σ→Nat)(t0:σ)(hs:(⟨e,h,x⟩:St)=S t0)(h0:P t0)(hr:∀ t,P t→NW C gl b (S t) (xH S P m K t)):YA C gl b K e h x:=by
 show ALoop (NW C gl b) K _
 rw[hs];have key:∀n t,m t<n→P t→ALoop (NW C gl b) K (S t):=by
  intro n;induction n with
  | zero=>intro t h;omega
  | succ n ih=>
   intro t hm hp;refine .mk _ _ (hr t hp) (fun s' h'=>?_) (fun i s' h'=>h') (fun s' h'=>h')
   obtain⟨u,rfl,hu,hlt⟩:=h';exact ih u (by omega) hu
 exact key _ t0 (Nat.lt_succ_self _) h0
theorem UA {X:Ctx}{f:Nat}{F:AFun}{a asv:List AV}{h h1:aA}{P:jA}(hf:X.fn f=some F)(hr:F.byref=false)(hp:CA h a=some (asv,h1))(hl:asv.length=F.nparams)(hd:F.isDet=false:=by rfl) :
 cA X f a h P=NW (cA X) X.gl F.body ⟨enter asv,h1,[]⟩ (DA F.results F.keep h.length P):=by
 rw[zju hf hr hp hl hd,UD]
theorem xN {X:Ctx}{f:Nat}{F:AFun}{a asv:List AV}{h h1:aA}{P:jA}(hf:X.fn f=some F)(hr:F.byref=false)(hp:CA h a=some (asv,h1))(hl:asv.length=F.nparams)(hd:F.isDet=true:=by rfl) :
 cA X f a h P = ∃v h' x,P v h' x∧NW (cA X) X.gl F.body ⟨enter asv,h1,[]⟩ (DA F.results F.keep h.length fun v1 h1 x1=>v1=v∧h1=h'∧x1=x):=by
 rw[zjv hf hr hp hl hd];simp only[UD]
theorem AD {X:Ctx}{f:Nat}{F:AFun}{asv:List AV}{h:aA}{P:jA}(hf:X.fn f=some F)(hr:F.byref=true)(hl:asv.length=F.nparams)(hd:F.isDet=false:=by rfl) :
 cA X f asv h P=NW (cA X) X.gl F.body ⟨enter asv,h,[]⟩ (DA F.results F.keep h.length P):=by
 rw[zjs hf hr hl hd,UD]
theorem oP {v:AV}{k:AV→Prop}:pK (some v) k=k v:=(rfl)
theorem z2D {k:AV→Prop}:pK none k=False:=(rfl)
theorem z4f {v:AV}{h:aA}{x:Esc}{k:AV→aA→Esc→Prop}:wK (some (v,h,x)) k=k v h x:=(rfl)
theorem z4d {k:AV→aA→Esc→Prop}:wK none k=False:=(rfl)
theorem zhr {p:Prop}[Decidable p]{a b:Option AV}{k:AV→Prop}:pK (if p then a else b) k=if p then pK a k else pK b k:=by split <;> rfl
theorem zkn {p:Prop}[Decidable p]{a b:Option (AV × aA × Esc)}{k:AV→aA→Esc→Prop}:wK (if p then a else b) k=if p then wK a k else wK b k:=by split <;> rfl
theorem zhq {o o':Option AV}{k:AV→Prop}(h:o=o'):pK o k=pK o' k:=by rw[h]
theorem zkm {o o':Option (AV × aA × Esc)}{k:AV→aA→Esc→Prop}(h:o=o'):wK o k=wK o' k:=by rw[h]
theorem zeO {v v':AV}{b:Bool}{h:aA}{A:(AV→aA→Esc→Prop)→Prop}{k:AV→aA→Esc→Prop}(h1:v=v'):gV v b h A k=gV v' b h A k:=by rw[h1]
theorem zeM {v v':AV}{b:Bool}{o:Option AV}{h:aA}{k:AV→aA→Esc→Prop}(h1:v=v'):gP v b o h k=gP v' b o h k:=by rw[h1]
theorem zeK {v v':AV}{b:Bool}{u:AV}{h:aA}{k:AV→aA→Esc→Prop}(h1:v=v'):gM v b u h k=gM v' b u h k:=by rw[h1]
section
variable {A:(AV→aA→Esc→Prop)→Prop} {o:Option AV} {u:AV} {k:AV→aA→Esc→Prop} {t b:Bool}
theorem z1G:gV (.p (.bool true)) true h A k=A k:=(rfl)
theorem z1C:gV (.p (.bool false)) false h A k=A k:=(rfl)
theorem z1F:gV (.p (.bool true)) false h A k=k .skp h []:=(rfl)
theorem z1D:gV (.p (.bool false)) true h A k=k .skp h []:=(rfl)
theorem z1E:gV .skp b h A k=k .skp h []:=(rfl)
theorem zeN:gV (.p (.bool t)) b h A k=MC (.p (.bool t)) b (A k) (k .skp h []):=(rfl)
theorem z1B:gP (.p (.bool true)) true o h k=pK o fun v=>k v h []:=(rfl)
theorem z17:gP (.p (.bool false)) false o h k=pK o fun v=>k v h []:=(rfl)
theorem z1A:gP (.p (.bool true)) false o h k=k .skp h []:=(rfl)
theorem z18:gP (.p (.bool false)) true o h k=k .skp h []:=(rfl)
theorem z19:gP .skp b o h k=k .skp h []:=(rfl)
theorem zeL:gP (.p (.bool t)) b o h k=MC (.p (.bool t)) b (pK o fun v=>k v h []) (k .skp h []):=(rfl)
theorem z16:gM (.p (.bool true)) true u h k=k u h []:=(rfl)
theorem z12:gM (.p (.bool false)) false u h k=k u h []:=(rfl)
theorem z15:gM (.p (.bool true)) false u h k=k .skp h []:=(rfl)
theorem z13:gM (.p (.bool false)) true u h k=k .skp h []:=(rfl)
theorem z14:gM .skp b u h k=k .skp h []:=(rfl)
theorem zeJ:gM (.p (.bool t)) b u h k=MC (.p (.bool t)) b (k u h []) (k .skp h []):=(rfl)
end
section
variable {k k':IntKind} {a b:Int} {sa sb:List UInt8}
theorem z8n:eA .add (.p (.int k a)) (.p (.int k b))=some (.p (.int k (k.wrap (a+b)))):=by simp [eA,GB,OC]
theorem z83:eA .sub (.p (.int k a)) (.p (.int k b))=some (.p (.int k (k.wrap (a-b)))):=by simp [eA,GB,OC]
theorem z8v:eA .mul (.p (.int k a)) (.p (.int k b))=some (.p (.int k (k.wrap (a*b)))):=by simp [eA,GB,OC]
theorem z8z:eA .quo (.p (.int k a)) (.p (.int k b))=if b=0 then none else some (.p (.int k (k.wrap (a.tdiv b)))):=by simp [eA,GB,OC] <;> split <;> rfl
theorem z80:eA .rem (.p (.int k a)) (.p (.int k b))=if b=0 then none else some (.p (.int k (a.tmod b))):=by simp [eA,GB,OC] <;> split <;> rfl
theorem z8o:eA .and (.p (.int k a)) (.p (.int k b))=some (.p (.int k (MJ k a b))):=by simp [eA,GB,OC]
theorem z8y:eA .or (.p (.int k a)) (.p (.int k b))=some (.p (.int k (ior k a b))):=by simp [eA,GB,OC]
theorem z84:eA .xor (.p (.int k a)) (.p (.int k b))=some (.p (.int k (QJ k a b))):=by simp [eA,GB,OC]
theorem z8p:eA .andNot (.p (.int k a)) (.p (.int k b))=some (.p (.int k (NJ k a b))):=by simp [eA,GB,OC]
theorem z8q:eA .eql (.p (.int k a)) (.p (.int k b))=some (.p (.bool (decide (a=b)))):=by simp [eA,GB,OC]
theorem z8w:eA .neq (.p (.int k a)) (.p (.int k b))=some (.p (.bool (!decide (a=b)))):=by simp [eA,GB,OC]
theorem z8u:eA .lss (.p (.int k a)) (.p (.int k b))=some (.p (.bool (decide (a<b)))):=by simp [eA,GB,OC]
theorem z8t:eA .leq (.p (.int k a)) (.p (.int k b))=some (.p (.bool (decide (a≤b)))):=by simp [eA,GB,OC]
theorem z8s:eA .gtr (.p (.int k a)) (.p (.int k b))=some (.p (.bool (decide (b<a)))):=by simp [eA,GB,OC]
theorem z8r:eA .geq (.p (.int k a)) (.p (.int k b))=some (.p (.bool (decide (b≤a)))):=by simp [eA,GB,OC]
theorem z81:eA .shl (.p (.int k a)) (.p (.int k' b))=if b<0 then none else some (.p (.int k (ishl k a b))):=by simp [eA,GB] <;> split <;> rfl
theorem z82:eA .shr (.p (.int k a)) (.p (.int k' b))=if b<0 then none else some (.p (.int k (ishr k a b))):=by simp [eA,GB] <;> split <;> rfl
theorem zj3:eA .add (.p (.str sa)) (.p (.str sb))=if sa.length+sb.length≤iU then some (.p (.str (sa++sb))) else none:=by simp [eA,GB,aF] <;> split <;> rfl
theorem zj4:eA .eql (.p (.str sa)) (.p (.str sb))=some (.p (.bool (decide (sa=sb)))):=by simp [eA,GB,aF]
theorem zjA:eA .neq (.p (.str sa)) (.p (.str sb))=some (.p (.bool (!decide (sa=sb)))):=by simp [eA,GB,aF]
theorem zj9:eA .lss (.p (.str sa)) (.p (.str sb))=some (.p (.bool (Op.bytesLess sa sb))):=by simp [eA,GB,aF]
theorem zj8:eA .leq (.p (.str sa)) (.p (.str sb))=some (.p (.bool (Op.bytesLess sa sb||decide (sa=sb)))):=by simp [eA,GB,aF]
theorem zj7:eA .gtr (.p (.str sa)) (.p (.str sb))=some (.p (.bool (!(Op.bytesLess sa sb||decide (sa=sb))))):=by simp [eA,GB,aF]
theorem zj5:eA .geq (.p (.str sa)) (.p (.str sb))=some (.p (.bool (!Op.bytesLess sa sb))):=by simp [eA,GB,aF]
theorem zkh:oUn .neg (.p (.int k a))=some (.p (.int k (k.wrap (-a)))):=by simp [oUn,aun]
theorem zki {t:Bool}:oUn .not (.p (.bool t))=some (.p (.bool !t)):=(rfl)
theorem convI {k':IntKind}:CI k (.p (.int k' a))=some (.p (.int k (k.wrap a))):=(rfl)
theorem zgY {i j:Nat}:cD (.ref i j)=some (.ref i j):=(rfl)
theorem zgZ {i j m n:Nat}:cD (.rref i j m n)=some (.rref i j m n):=(rfl)
theorem nilvp {v:PV}:cD (.vp v)=some (.vp v):=(rfl)
theorem nilfn {f:Nat}{cs:List AV}:cD (.fn f cs)=some (.fn f cs):=(rfl)
theorem zhE {t:Bool}{u v:AV}:SA (.p (.bool t)) u v=some (bif t then u else v):=(rfl)
theorem zgz {sh:Sh}{xs:List PV}:QA (.p (.sl sh xs))=some (.p (.int .i64 xs.length)):=(rfl)
theorem zg0 {sh:Sh}:QA (.sl0 sh)=some (.p (.int .i64 0)):=(rfl)
theorem zgy {i g o l:Nat}:QA (.own i g o l)=some (.p (.int .i64 l)):=(rfl)
theorem zg3:DI (.p (.str sa))=some (.p (.int .i64 sa.length)):=(rfl)
theorem ext_t {vs:List AV}{i:Nat}:xC (.tup vs) i=vs[i]?:=(rfl)
theorem ze4 {off i j:Nat}{sh:Sh}:rA off sh (.ref i j)=some (.ref i (j+off)):=(rfl)
theorem ze5 {off i j m n:Nat}{sh:Sh}:rA off sh (.rref i j m n)=some (.rref i j m (n+off)):=(rfl)
theorem ze6 {off:Nat}{sh:Sh}{v:PV}:rA off sh (.vp v)=(aB sh off v).map .vp:=(rfl)
theorem zeC {off:Nat}{sh:Sh}{cs:List PV}:kP off sh (.p (.agg cs))=(aB sh off (.agg cs)).map .p:=(rfl)
theorem zeA {off:Nat}{sh:Sh}{cs:List AV}:kP off sh (.agg cs)=cut sh off cs:=(rfl)
def ldB (sh:Sh)(off:Nat):Option Obj→Option AV
 | some (.box cs)=>cut sh off cs
 | _=>none
def ldR (sh:Sh)(g i off:Nat):Option Obj→Option AV
 | some (.row _ xs _)=>if g=xs.length then((xs[i]?).bind (aB sh off)).map .p else none
 | _=>none
theorem zg6 {sh:Sh}{i j:Nat}:oA sh (.ref i j) h=ldB sh j h[i]?:=by unfold oA ldB;rfl
theorem z2i {sh:Sh}{i g m n:Nat}:oA sh (.rref i g m n) h=ldR sh g m n h[i]?:=by unfold oA ldR;rfl
theorem z2j {sh:Sh}{v:PV}:oA sh (.vp v) h=(aB sh 0 v).map .p:=(rfl)
theorem zgt {sh:Sh}{off:Nat}{cs:List AV}:ldB sh off (some (.box cs))=cut sh off cs:=(rfl)
theorem z2f {sh sh':Sh}{g i off fz:Nat}{xs:List PV}:ldR sh g i off (some (.row sh' xs fz))=if g=xs.length then((xs[i]?).bind (aB sh off)).map .p else none:=(rfl)
def stB (sh:Sh)(id off:Nat)(v:AV)(h:aA):Option Obj→Option (List AV)→Option (AV×aA×Esc)
 | some (.box cs),some vs=>if vs.length=gA sh∧off+vs.length≤cs.length then some (.und,h.set id (.box (splice cs off vs)),XD id cs v) else none
 | _,_=>none
theorem zj1 {sh:Sh}{i j:Nat}{v:AV}:GA sh (.ref i j) v h=stB sh i j v h h[i]? v.cells:=by unfold GA stB;rfl
theorem zjh {sh:Sh}{id off:Nat}{v:AV}{cs vs:List AV}:stB sh id off v h (some (.box cs)) (some vs)=if vs.length=gA sh∧off+vs.length≤cs.length then some (.und,h.set id (.box (splice cs off vs)),XD id cs v) else none:=(rfl)
theorem zet {id:Nat}{cs:List AV}{v:PV}:XD id cs (.p v)=[]:=by
 unfold XD;cases yE cs&&decide (AV.top (.p v)≤AV.tops cs) <;> rfl
theorem zer {id:Nat}{cs:List AV}{v:AV}(h:yE cs=false):XD id cs v=IC id v:=by
 unfold XD;rw[h];rfl
theorem zf2 {a:AV}{v:PV}:yE [a,.p v]=false:=(rfl)
theorem zf3 {a:AV}{s:Sh}:yE [a,.sl0 s]=false:=(rfl)
theorem zf1 {a:AV}{i j k l:Nat}:yE [a,.own i j k l]=false:=(rfl)
theorem zf0 {a:AV}:yE [a,.nilp]=false:=(rfl)
theorem zfx:yE []=false:=(rfl)
theorem zfy {a:AV}:yE [a]=false:=(rfl)
theorem zfz {a b c:AV}{l:List AV}:yE (a::b::c::l)=false:=by unfold yE;split <;> first|rfl|(rename_i h;simp at h)
theorem zeu {id t n m:Nat}{a:AV}:XD id [a,.bt 1 t (id+1) n] (.ref id m)=[]:=by
 unfold XD;have e:decide (AV.top (.ref id m)≤AV.tops [a,.bt 1 t (id+1) n])=true:=by simp [AV.top,AV.tops];omega
 rw[e];rfl
theorem zes {id t t' i n n':Nat}{a:AV}:XD id [a,.bt 1 t i n] (.bt 1 t' i n')=[]:=by
 unfold XD;have e:decide (AV.top (.bt 1 t' i n')≤AV.tops [a,.bt 1 t i n])=true:=by simp [AV.top,AV.tops];omega
 rw[e];rfl
def stE (sh:Sh)(id i off fz:Nat)(rsh:Sh)(xs:List PV)(v:PV)(h1:aA):Option PV→Option (AV×aA×Esc)
 | some (.agg cs)=>if off+v.cells.length≤cs.length then some (.und,h1.set id (.row rsh (xs.set i (.agg (splice cs off v.cells))) fz),[]) else none
 | some _=>if off=0∧v.sc then some (.und,h1.set id (.row rsh (xs.set i v) fz),[]) else none
 | none=>none
def stO (sh:Sh)(id g i off:Nat)(v:PV)(h1:aA):Option Obj→Option (AV×aA×Esc)
 | some (.row rsh xs fz)=>if g=xs.length∧fz≤i∧v.cells.length=gA sh∧v.cells.all PV.sc then stE sh id i off fz rsh xs v h1 xs[i]? else none
 | _=>none
def stR (sh:Sh)(id g i off:Nat):Option (PV×aA)→Option (AV×aA×Esc)
 | some y=>stO sh id g i off y.1 y.2 y.2[id]?
 | none=>none
theorem zj2 {sh:Sh}{id g i off:Nat}{x:AV}:GA sh (.rref id g i off) x h=stR sh id g i off (pur h x):=by
 unfold GA stR;cases pur h x with
 | none=>rfl
 | some y=>
  obtain⟨v,h1⟩:=y;dsimp only;unfold stO;cases h1[id]? with
  | none=>rfl
  | some o=>cases o <;> rfl
theorem zjp {sh:Sh}{id g i off:Nat}{v:PV}{h1:aA}:stR sh id g i off (some (v,h1))=stO sh id g i off v h1 h1[id]?:=(rfl)
theorem zjo {sh rsh:Sh}{id g i off fz:Nat}{v:PV}{h1:aA}{xs:List PV}:stO sh id g i off v h1 (some (.row rsh xs fz))=if g=xs.length∧fz≤i∧v.cells.length=gA sh∧v.cells.all PV.sc then stE sh id i off fz rsh xs v h1 xs[i]? else none:=(rfl)
theorem zji {sh rsh:Sh}{id i off fz:Nat}{v:PV}{h1:aA}{xs cs:List PV}:stE sh id i off fz rsh xs v h1 (some (.agg cs))=if off+v.cells.length≤cs.length then some (.und,h1.set id (.row rsh (xs.set i (.agg (splice cs off v.cells))) fz),[]) else none:=(rfl)
theorem zjk {sh rsh:Sh}{id i off fz:Nat}{v:PV}{h1:aA}{xs:List PV}{k:IntKind}{n:Int}:stE sh id i off fz rsh xs v h1 (some (.int k n))=if off=0∧v.sc then some (.und,h1.set id (.row rsh (xs.set i v) fz),[]) else none:=(rfl)
theorem zjj {sh rsh:Sh}{id i off fz:Nat}{v:PV}{h1:aA}{xs:List PV}{t:Bool}:stE sh id i off fz rsh xs v h1 (some (.bool t))=if off=0∧v.sc then some (.und,h1.set id (.row rsh (xs.set i v) fz),[]) else none:=(rfl)
theorem zjn {sh rsh:Sh}{id i off fz:Nat}{v:PV}{h1:aA}{xs:List PV}{s:List UInt8}:stE sh id i off fz rsh xs v h1 (some (.str s))=if off=0∧v.sc then some (.und,h1.set id (.row rsh (xs.set i v) fz),[]) else none:=(rfl)
theorem zjm {sh rsh:Sh}{id i off fz:Nat}{v:PV}{h1:aA}{xs:List PV}{sh':Sh}{ys:List PV}:stE sh id i off fz rsh xs v h1 (some (.sl sh' ys))=if off=0∧v.sc then some (.und,h1.set id (.row rsh (xs.set i v) fz),[]) else none:=(rfl)
theorem zjl {sh rsh:Sh}{id i off fz:Nat}{v:PV}{h1:aA}{xs:List PV}  : stE sh id i off fz rsh xs v h1 (some .nilp)=if off=0∧v.sc then some (.und,h1.set id (.row rsh (xs.set i v) fz),[]) else none:=(rfl)
theorem pur_p {v:PV}:pur h (.p v)=some (v,h):=(rfl)
def iaS (xs:List PV):Option Nat→Option AV
 | some k=>(xs[k]?).map .vp
 | none=>none
theorem zfe {sh:Sh}{xs:List PV}{i:AV}:uA sh (.p (.sl sh xs)) i h=iaS xs (zB i):=by
 unfold uA iaS;cases zB i <;> simp
theorem zfa {xs:List PV}{n:Nat}:iaS xs (some n)=(xs[n]?).map .vp:=(rfl)
def iaO (sh:Sh)(id g off len:Nat):Option Obj→Option Nat→Option AV
 | some (.row rsh xs _),some k=>if rsh=sh∧g=xs.length∧off+len≤xs.length∧k<len then some (.rref id g (off+k) 0) else none
 | _,_=>none
theorem zfd {sh:Sh}{id g off len:Nat}{i:AV}:uA sh (.own id g off len) i h=iaO sh id g off len h[id]? (zB i):=by
 unfold uA iaO;cases zB i with
 | none=>dsimp only;cases h[id]? with
  | none=>rfl
  | some o=>cases o <;> rfl
 | some k=>dsimp only;cases h[id]? with
  | none=>rfl
  | some o=>cases o <;> rfl
theorem zeZ {sh rsh:Sh}{id g off len k fz:Nat}{xs:List PV}:iaO sh id g off len (some (.row rsh xs fz)) (some k)=if rsh=sh∧g=xs.length∧off+len≤xs.length∧k<len then some (.rref id g (off+k) 0) else none:=(rfl)
theorem zfr {i:AV}:zG (.p (.str sa)) i=(zB i).bind fun n=>(sa[n]?).map fun b=>.p (.int .u8 b.toNat):=by
 unfold zG;cases zB i <;> rfl
end
theorem gY {z:List AV}{k:AV→aA→Esc→Prop}:alK z h k=k (.ref h.length 0) (h++[.box z]) []:=(rfl)
theorem z2y {sh:Sh}{k:AV→aA→Esc→Prop}:nwK sh h k=k (.own h.length 0 0 0) (h++[.row sh [] 0]) []:=(rfl)
theorem z2r {k:AV→aA→Esc→Prop}:mmK h k=k (.mp h.length) (h++[.amap [] 0]) []:=(rfl)
theorem zap {A B:Prop}:TG (.p (.bool true)) A B=A:=(rfl)
theorem zao {A B:Prop}:TG (.p (.bool false)) A B=B:=(rfl)
theorem zan {A B:Prop}:TG .anyb A B=(A∧B):=(rfl)
theorem zit {h:aA}:VC [] h=([],h):=(rfl)
theorem ziv {h:aA}{s:Sh}{r:List AV}:VC (.sl0 s::r) h=(.own h.length 0 0 0::(VC r (h++[.row s [] 0])).1,(VC r (h++[.row s [] 0])).2):=(rfl)
theorem ziu {h:aA}{v:PV}{r:List AV}:VC (.p v::r) h=(.p v::(VC r h).1,(VC r h).2):=(rfl)
attribute [go_sem] zit ziv ziu
theorem zim {h:aA}:yB [] h=([],h):=(rfl)
theorem zir {h:aA}{s:Sh}{r:List AV}:yB (.sl0 s::r) h=(.own h.length 0 0 0::(yB r (h++[.row s [] 0])).1,(yB r (h++[.row s [] 0])).2):=(rfl)
theorem zio {h:aA}{v:PV}{r:List AV}:yB (.p v::r) h=(.p v::(yB r h).1,(yB r h).2):=(rfl)
theorem ziq {h:aA}{i o:Nat}{r:List AV}:yB (.ref i o::r) h=(.ref i o::(yB r h).1,(yB r h).2):=(rfl)
theorem zin {h:aA}{i o g l:Nat}{r:List AV}:yB (.own i o g l::r) h=(.own i o g l::(yB r h).1,(yB r h).2):=(rfl)
theorem zil {h:aA}{i:Nat}{r:List AV}:yB (.mp i::r) h=(.mp i::(yB r h).1,(yB r h).2):=(rfl)
attribute [go_sem] zim zir zio ziq zin zil
def ldAr (sh:Sh)(off g:Nat):Option Obj→Option AV
 | some (.arow rsh cs)=>if g*gA rsh=cs.length then cut sh off cs else none
 | _=>none
theorem zg4 {sh:Sh}{off id g:Nat}:oA sh (.bt 4 off id g) h=ldAr sh off g h[id]?:=by
 show ldA sh 4 off id g h=_
 unfold ldA ldAr;rfl
theorem zgs {sh rsh:Sh}{off g:Nat}{cs:List AV}:ldAr sh off g (some (.arow rsh cs))=if g*gA rsh=cs.length then cut sh off cs else none:=(rfl)
def stAr (sh:Sh)(off id g:Nat)(x:AV)(h:aA):Option Obj→Option (List AV)→Option (AV×aA×Esc)
 | some (.arow rsh cs),some vs=>if g*gA rsh=cs.length∧vs.length=gA sh∧off+vs.length≤cs.length then some (.und,h.set id (.arow rsh (splice cs off vs)),IC id x) else none
 | _,_=>none
theorem zjz {sh:Sh}{off id g:Nat}{x:AV}:GA sh (.bt 4 off id g) x h=stAr sh off id g x h h[id]? x.cells:=by
 show stA sh 4 off id g x h=_
 unfold stA stAr;rfl
theorem zjg {sh rsh:Sh}{off id g:Nat}{x:AV}{cs vs:List AV}:stAr sh off id g x h (some (.arow rsh cs)) (some vs)=if g*gA rsh=cs.length∧vs.length=gA sh∧off+vs.length≤cs.length then some (.und,h.set id (.arow rsh (splice cs off vs)),IC id x) else none:=(rfl)
def iaAr (sh:Sh)(id g:Nat):Option Obj→Option Nat→Option AV
 | some (.arow rsh cs),some i=>if rsh=sh∧g*gA rsh=cs.length∧i<g then some (.bt 4 (i*gA sh) id g) else none
 | _,_=>none
theorem zfb {sh:Sh}{t id g:Nat}{i:AV}:uA sh (.bt 3 t id g) i h=iaAr sh id g h[id]? (zB i):=by
 unfold uA iaAr;cases zB i with
 | none=>cases h[id]? with
  | none=>rfl
  | some o=>cases o <;> rfl
 | some k=>
  show iaA sh 3 id g k h=_
  unfold iaA;cases h[id]? with
  | none=>rfl
  | some o=>cases o <;> rfl
theorem zeY {sh rsh:Sh}{id g i:Nat}{cs:List AV}:iaAr sh id g (some (.arow rsh cs)) (some i)=if rsh=sh∧g*gA rsh=cs.length∧i<g then some (.bt 4 (i*gA sh) id g) else none:=(rfl)
theorem ze2 {off o id g:Nat}{sh:Sh}:rA off sh (.bt 4 o id g)=some (.bt 4 (o+off) id g):=(rfl)
theorem zgw {t id g:Nat}:QA (.bt 3 t id g)=some (.p (.int .i64 g)):=(rfl)
theorem zgV {o id g:Nat}:cD (.bt 4 o id g)=some (.bt 4 o id g):=(rfl)
def apAr (sh:Sh)(h:aA)(t id g g':Nat):Option Obj→Option Obj→Option (AV×aA×Esc)
 | some (.arow rsh cs),some (.arow rsh' ds)=>if rsh=sh∧rsh'=sh∧g*gA sh=cs.length∧g'*gA sh=ds.length∧g+g'≤xB then
  some (.bt 3 t id (g+g'),h.set id (.arow sh (cs++ds)),bif decide (id<AV.tops ds) then [(id,AV.tops ds)] else []) else none
 | _,_=>none
theorem z7W {sh:Sh}{t id g t' id' g':Nat}:apA sh h (.bt 3 t id g) (.bt 3 t' id' g')=apAr sh h t id g g' h[id]? h[id']?:=by
 show(match h[id]?,h[id']? with|_,_=>_)=_
 unfold apAr;rfl
theorem z7X {sh rsh rsh':Sh}{t id g g':Nat}{cs ds:List AV}:apAr sh h t id g g' (some (.arow rsh cs)) (some (.arow rsh' ds))=if rsh=sh∧rsh'=sh∧g*gA sh=cs.length∧g'*gA sh=ds.length∧g+g'≤xB then
 some (.bt 3 t id (g+g'),h.set id (.arow sh (cs++ds)),bif decide (id<AV.tops ds) then [(id,AV.tops ds)] else []) else none:=(rfl)
theorem zis {h:aA}{k t i g:Nat}{r:List AV}:VC (.bt k t i g::r) h=(.bt 3 t h.length 0::(VC r (h++[.arow (AF t) []])).1,(VC r (h++[.arow (AF t) []])).2):=(rfl)
theorem za4:AF 0=none:=(rfl)
theorem za5 {n:Nat}:AF (n+1)=some n:=(rfl)
attribute [go_sem] zg4 zgs zjz zjg zfb zeY ze2 zgw zgV z7W z7X zis za4 za5
attribute [go_sem] z3D z3C z3E rY tY sY z6E oP z2D z4f z4d zhr zkn z1G z1C z1F z1D z1E z1B z17 z1A z18 z19 z16 z12 z15 z13 z14 z8n z83 z8v z8z z80 z8o z8y z84 z8p z8q z8w z8u z8t z8s z8r z81 z82 zj3 zj4 zjA zj9 zj8 zj7 zj5 zkh zki convI zgY zgZ nilvp nilfn zhE zgz zg0 zgy zg3 ext_t ze4 ze5 ze6 zeC zeA zg6 z2i z2j zgt z2f zj1 zjh zj2 zjp zjo zji zjk zjj zjn zjm zjl pur_p zet zer zf2 zf3 zf1 zf0 zfx zfy zfz zeu zes zfe zfa zfd zeZ zfr gY z2y z2r NI z33 upcB neqB lenB n64 z0w strB appB rds rd jD mE UL ZA VL iB lP yH zap zao zan fM z24 zH iM tU yD mP QC qU rU mF z2z oClr oMx oMn aC jC z23 z21 kD sU WJ VJ
attribute [go_sem ↓] oP z2D z4f z4d z1G z1C z1F z1D z1E z1B z17 z1A z18 z19 z16 z12 z15 z13 z14 IN WY z4k z4g z4j z4h z4i z3D z3C z3E rY tY sY gY z2y z2r z2l z2k z2m z3B z1o z1p
attribute [go_sem low] zeN zeL zeJ z8A
attribute [congr] ziS z89 z6D z6C zhq zkm zeO zeM zeK
end Go.Am
end
section
/- The abstract machine,part X: the library's functions that have no Go text: comparing strings,finding a byte. -/
set_option linter.unusedSimpArgs false
set_option linter.unusedVariables false
namespace Go.Am
variable {P:Program}
structure ExtRow (P:Program) (f:Nat) (e:Array Value→Sem Value):Prop where
 row:∃fn,P.funcs[f]?=some fn∧fn.name ≠ "runtime.NumGoroutine" ∧ fn.body=none∧Extern.findNext fn=none∧Extern.find fn=some e
theorem ExtRow.run {f:Nat}{e:Array Value→Sem Value}(R:ExtRow P f e){us:Array Value}{w w':World}{x:Value}(he:(e us).run P w = .ok x w'):(callFunc f us).run P w = .ok (.value x) w':=by
 obtain⟨fn,h1,h2,h3,h4,h5⟩:=R.row;unfold callFunc;simp [h1,h2,h3,h4,h5,he]
theorem zl5 {f:Nat}{e:Array Value→Sem Value}(h:(match P.funcs[f]? with | some fn=>fn.name != "runtime.NumGoroutine" && fn.body.isNone&&(Extern.findNext fn).isNone | none=>false)=true)(h2:(P.funcs[f]?).bind Extern.find=some e):ExtRow P f e:=by
 cases hf:P.funcs[f]? with
 | none=>rw[hf]at h;cases h
 | some fn=>
  rw[hf]at h h2;simp only[Bool.and_eq_true,bne_iff_ne,ne_eq,Option.isNone_iff_eq_none]at h;exact⟨⟨fn,hf,h.1.1,h.1.2,h.2,h2⟩⟩
def kF (s:List UInt8)(c:UInt8):Int:=if s.findIdx (· == c)<s.length then(s.findIdx (· == c):Int) else -1
def cB:List UInt8→List UInt8→Int
 | [],[]=>0
 | [],_::_=>-1
 | _::_,[]=>1
 | a::asv,b::bs=>if a<b then -1 else if b<a then 1 else cB asv bs
theorem qY (s:List UInt8)(i:Nat):(⟨s.toArray⟩:ByteArray)[i]! = s.getD i 0:=by
 by_cases h:i<s.length
 ·rw[getElem!_pos (⟨s.toArray⟩:ByteArray) i h]
  show s.toArray[i]=_
  simp [h]
 ·rw[getElem!_neg (⟨s.toArray⟩:ByteArray) i h]
  simp [Nat.not_lt.1 h];rfl
theorem zeF (s:List UInt8)(c:UInt8):(match (List.range (⟨s.toArray⟩:ByteArray).size).find? fun i=>(⟨s.toArray⟩:ByteArray)[i]! == c with
 | some i=>(i:Int)
 | none=>-1)=kF s c:=by
 have hsz:(⟨s.toArray⟩:ByteArray).size=s.length:=rfl
 have hget:∀i,i<s.length→(⟨s.toArray⟩:ByteArray)[i]! = s.getD i 0:=by
  intro i hi;exact qY s i
 unfold kF;rw[hsz];by_cases h:s.findIdx (· == c)<s.length
 ·rw[if_pos h]
  have hf:(List.range s.length).find? (fun i=>(⟨s.toArray⟩:ByteArray)[i]! == c)=some (s.findIdx (· == c)):=by
   rw[List.find?_eq_some_iff_getElem];refine⟨?_,s.findIdx (· == c),by simpa using h,by simp,fun j hj=>?_⟩
   ·rw[hget _ h]
    have:=List.findIdx_getElem (w:=h);simpa [h] using this
   ·simp only[List.getElem_range]
    have hj':j<s.length:=by omega
    rw[hget _ hj'];have:=List.not_of_lt_findIdx hj;simpa [hj'] using this
  rw[hf]
 ·rw[if_neg h]
  have hf:(List.range s.length).find? (fun i=>(⟨s.toArray⟩:ByteArray)[i]! == c)=none:=by
   rw[List.find?_eq_none];intro i hi;rw[List.mem_range]at hi;rw[hget _ hi];intro hc;exact h (List.findIdx_lt_length_of_exists ⟨s[i],List.getElem_mem hi,by simpa [hi] using hc⟩)
  rw[hf]
theorem zaa:∀ (a b:List UInt8),Extern.BytealgCompare.cmp ⟨a.toArray⟩ ⟨b.toArray⟩=cB a b:=by
 have key:∀(a b:List UInt8),(match (List.range (min a.length b.length)).find? fun i=>a.getD i 0 != b.getD i 0 with
  | some i=>if a.getD i 0<b.getD i 0 then(-1:Int) else 1
  | none=>if a.length<b.length then -1 else if a.length>b.length then 1 else 0)=cB a b:=by
  intro a;induction a with
  | nil=>intro b;cases b <;> simp [cB]
  | cons x a ih=>
   intro b;cases b with
   | nil=>simp [cB]
   | cons y b=>
    have hm:min (x::a).length (y::b).length=min a.length b.length+1:=by simp only[List.length_cons];omega
    rw[hm,List.range_succ_eq_map,List.find?_cons];simp only[List.getD_cons_zero];by_cases hxy:x=y
    ·subst hxy
     have hlt:¬x<x:=UInt8.lt_irrefl x
     simp only[bne_self_eq_false,List.find?_map,cB,hlt,if_false];rw[←ih b];have hc:((fun i=>(x::a).getD i 0 != (x::b).getD i 0) ∘ Nat.succ)=fun i=>a.getD i 0 != b.getD i 0:=by
      funext i;simp
     rw[hc];cases (List.range (min a.length b.length)).find? fun i=>a.getD i 0 != b.getD i 0 with
     | none=>simp
     | some i=>simp
    ·have:(x != y)=true:=by simpa using hxy
     rw[this];simp only[cB,List.getD_cons_zero];by_cases h1:x<y
     ·simp [h1]
     ·have h2:y<x:=by
       rcases UInt8.lt_or_lt_of_ne (a:=x) (b:=y) hxy with h|h
       ·exact absurd h h1
       ·exact h
      simp [h1,h2]
 intro a b;rw[←key a b];unfold Extern.BytealgCompare.cmp;have sa:(⟨a.toArray⟩:ByteArray).size=a.length:=rfl
 have sb:(⟨b.toArray⟩:ByteArray).size=b.length:=rfl
 simp only[sa,sb,qY];generalize List.find? _ _=q;cases q <;> rfl
def kI (fi fc:Nat)(f:Nat)(vs:List PV):Option PV:=
 bif Nat.beq f fi then(match vs with
  | [.str s,.int .u8 c]=>some (.int .i64 (kF s (UInt8.ofNat c.toNat)))
  | _=>none)
 else bif Nat.beq f fc then(match vs with
  | [.str a,.str b]=>some (.int .i64 (cB a b))
  | _=>none)
 else none
theorem extF_ok {fi fc:Nat}(h1:ExtRow P fi Extern.BytealgIndexByte.indexByte)(h2:ExtRow P fc Extern.BytealgCompare.compare){f:Nat}{vs:List PV}{r:PV}(h:kI fi fc f vs=some r):rW P f vs r:=by
 intro M w us hM hl hr;unfold kI at h;cases e1:Nat.beq f fi with
 | true=>
  rw[e1]at h;have e:=Nat.eq_of_beq_eq_true e1
  subst e;simp only[cond_true]at h;split at h
  ·rename_i s c
   injection h with h
   subst h;match us,hl with
   | [u,v],_=>
    have q1:=hr 0 _ u rfl rfl
    have q2:=hr 1 _ v rfl rfl
    cases q1;cases q2
    refine⟨.int .i64 (kF s (UInt8.ofNat c.toNat)),w,h1.run ?_,WExt.refl w,.int _ _⟩;rw[←zeF];show(match (List.range (⟨s.toArray⟩:ByteArray).size).find? fun i=>(⟨s.toArray⟩:ByteArray)[i]! == UInt8.ofNat c.toNat with|some i=>(pure (goInt i):Sem Value)|none=>pure (goInt (-1))).run P w=_
    generalize List.find? _ _=q;cases q <;> rfl
  ·cases h
 | false=>
  rw[e1]at h;simp only[cond_false]at h;cases e2:Nat.beq f fc with
  | true=>
   rw[e2]at h;have e:=Nat.eq_of_beq_eq_true e2
   subst e;simp only[cond_true]at h;split at h
   ·rename_i a b
    injection h with h
    subst h;match us,hl with
    | [u,v],_=>
     have q1:=hr 0 _ u rfl rfl
     have q2:=hr 1 _ v rfl rfl
     cases q1;cases q2
     refine⟨.int .i64 (cB a b),w,h2.run ?_,WExt.refl w,.int _ _⟩;rw[←zaa];rfl
   ·cases h
  | false=>rw[e2]at h;cases h
theorem z0W {X:Ctx}{f:Nat}{asv:List AV}{vs:List PV}{h h1:aA}{r:PV}{K:jA}(hf:X.fn f=none)(h2:X.ex2 f asv h=none)(hp:CA h asv=some (vs.map .p,h1))(hu:unp (vs.map AV.p)=some vs)(hx:X.ext f vs=some r):cA X f asv h K=K (.p r) h1 []:=by
 refine propext (cA.eq (cA.fold ?_) K);unfold oC;simp only[hf,h2,hp,hu,hx];exact⟨trivial,trivial,trivial⟩
structure GrowRow (P:Program) (f:Nat) (sh:Sh):Prop where
 enter:∀us w,(callFunc f us).run P w = .ok (.enter f us) w
 room:∀a w,Calls P f #[.slice a 0 0,.int .i64 0] w fun e w'=>e = .returned (.slice a 0 0)∧w'=w
 grow:∀a (n:Nat) w,0<n→n≤1048576→Calls P f #[.slice a 0 0,.int .i64 n] w fun e w'=>∃G cs E,e = .returned (.slice (some ⟨w.heap.size,0,none⟩) 0 G)∧cs.size=G*gA sh∧w'=w.drew.alloc (.cells cs E)
def LJ:List (Nat × Sh)→Nat→List AV→aA→Option (AV×aA×Esc)
 | [],_,_,_=>none
 | (g,sh)::r,f,asv,h=>bif Nat.beq f g then(match asv with
  | [.sl0 _,.p (.int .i64 n)]=>bif decide (0≤n)&&decide (n≤1048576) then some (.own h.length 0 0 0,h++[.row sh [] 0],[]) else none
  | _=>none) else LJ r f asv h
theorem z1N {gl:Nat→Option PV}:∀(gs:List (Nat×Sh)),(∀g sh,(g,sh)∈gs→GrowRow P g sh)→∀{f:Nat} {asv:List AV} {h:aA} {v:AV} {h':aA} {x:Esc},LJ gs f asv h=some (v,h',x) →
 DC P gl f asv h fun v1 h1 x1=>v1=v∧h1=h'∧x1=x
 | [],_,f,asv,h,v,h',x,H=>by cases H
 | (g,sh)::r,hg,f,asv,h,v,h',x,H=>by
  unfold LJ at H;cases e1:Nat.beq f g with
  | false=>
   rw[e1]at H;exact z1N r (fun g sh hm=>hg g sh (by simp [hm])) H
  | true=>
   rw[e1]at H;have e:=Nat.eq_of_beq_eq_true e1
   subst e;have R:=hg f sh (by simp)
   simp only[cond_true]at H;split at H
   ·rename_i sh' n
    cases hb:(decide (0≤n)&&decide (n≤1048576)) with
    | false=>rw[hb]at H;cases H
    | true=>
     rw[hb]at H;simp only[cond_true,Option.some.injEq,Prod.mk.injEq]at H;obtain⟨rfl,rfl,rfl⟩:=H;simp only[Bool.and_eq_true,decide_eq_true_eq]at hb;intro μ w vs Hh Hg hl hr;match vs,hl with
     | [u1,u2],_=>
      have q1:=hr 0 _ u1 rfl rfl
      have q2:=(hr 1 _ u2 rfl rfl).p_inv
      cases q1;cases q2
      obtain⟨m,hm⟩:=Int.eq_ofNat_of_zero_le hb.1;subst hm;refine .inl ⟨R.enter _,?_⟩;rcases Nat.eq_zero_or_pos m with h0|h0
      ·subst h0
       refine(R.room _ w).mono fun e w' he=>?_
       obtain⟨rfl,rfl⟩:=he;obtain⟨n1,n2⟩:=iP Hh sh;refine⟨_,_,_,_,⟨rfl,rfl,rfl⟩,?_,n1,n2,AA.push (by simp [Obj.top])⟩
       exact .own h.length 0 0 0 _ 0 sh [] 0 none (Nat.le_refl _) (by simp) (by rw[←Hh.len];simp) (by simp) (by simp) (fun _=>rfl)
      ·refine(R.grow _ m w h0 (by omega)).mono fun e w' he=>?_
       obtain⟨G,cs,E,rfl,hcs,rfl⟩:=he;have hw:WExt w (w.drew.alloc (.cells cs E)):=(WExt.drew w _).trans (WExt.push _ _)
       obtain⟨n1,n2⟩:=zI (sh:=sh) (xs:=[]) Hh hw (b:=w.heap.size) (n:=cs.size) (Nat.le_refl _) (by show w.heap.size<(w.heap.push _).size;simp) (c:=cs) (uB.push (w:=w.drew) cs E) (by simp) (by simp) (by simp)
       refine⟨_,_,_,_,⟨rfl,rfl,rfl⟩,?_,n1,n2,AA.push (by simp [Obj.top])⟩
       refine .own h.length 0 0 0 _ G sh [] 0 (some (w.heap.size,cs.size)) (Nat.zero_le _) (by simp) (by rw[←Hh.len];simp) (by simp) (by simp) (fun _=>?_)
       exact .inr ⟨by simp,by simp [hcs]⟩
   ·cases H
end Go.Am
end
section
/- Short words for the printed code. -/
set_option linter.all false
namespace Go.Am
instance {n:Nat}:OfNat Opd n:=⟨.t n⟩
abbrev GL:=Nat→Option PV
abbrev KT:=Ex→St→Prop
def cI (n:Int):Opd:=.c (.p (.int .i64 n))
def cT:Opd:=.c (.p (.bool true))
def cF:Opd:=.c (.p (.bool false))
def cS (s:List UInt8):Opd:=.c (.p (.str s))
def uO (d:Nat)(o:AO):AOp:=⟨some d,none,o⟩
def wO (o:AO):AOp:=⟨none,none,o⟩
def gD (d g:Nat)(b:Bool)(o:AO):AOp:=⟨some d,some (g,b),o⟩
def mV (d:Nat)(x:Opd):AOp:=⟨some d,none,.mv x⟩
def bN (d:Nat)(b:BinOp)(x y:Opd):AOp:=⟨some d,none,.bin b x y⟩
def cL (d f:Nat)(l:List Opd):AOp:=⟨some d,none,.call f l⟩
def lD (d:Nat)(s:Sh)(x:Opd):AOp:=⟨some d,none,.load s x⟩
def iA (d:Nat)(s:Sh)(x y:Opd):AOp:=⟨some d,none,.iaddr s x y⟩
def fA (d o:Nat)(s:Sh)(x:Opd):AOp:=⟨some d,none,.faddr o s x⟩
def lN (d:Nat)(x:Opd):AOp:=⟨some d,none,.len x⟩
def eX (d:Nat)(x:Opd)(i:Nat):AOp:=⟨some d,none,.ext x i⟩
def dF (o:AOp)(l:List Nat):DOp:=⟨o,l,false,[],[]⟩
def dT (o:AOp)(l:List Nat):DOp:=⟨o,l,true,[],[]⟩
def dA (o:AOp)(l:List Nat)(e:Bool)(a b:List Nat):DOp:=⟨o,l,e,a,b⟩
def rg (l:List AOp)(k:List Nat):ACode:=.reg l (some k)
def dr (l:List DOp)(k:List Nat):ACode:=.draw l (some k)
end Go.Am
end
section
/- The functions asv abstract code,and asv formulas AE their values: printed by program out of the translation. -/
set_option linter.unusedVariables false
set_option maxRecDepth 100000
namespace Go.Am
def tP:ACode:=.pr [4,5,9,10,11,12,13,14,15,16,17,18,19,20,21] (.seq (dr [dF (lD 115 (some 2) 4) [4],
dT (cL 116 pH [115]) [115],
dA (lD 117 (some 2) 4) [4] false [1] [],
dT (cL 118 wJ [117]) [117],
dF (bN 119 .eql 116 118) [116,118],
dF (mV 120 119) [119],
dF (gD 121 120 true (.mv 5)) [5,120],
dT (gD 122 120 true (.call rD [121])) [121,120],
dF (gD 123 120 true (.mv 15)) [15,120],
dF (gD 124 120 true (.bin .eql 122 123)) [122,123,120],
dF (uO 125 (.pick 120 124 cF)) [120,124],
dF (mV 126 125) [125],
dF (gD 127 126 true (.mv 10)) [10,126],
dF (gD 128 126 true (.mv 16)) [16,126],
dF (gD 129 126 true (.bin .eql 127 128)) [127,128,126],
dF (uO 130 (.pick 126 129 cF)) [126,129],
dF (mV 131 130) [130],
dF (gD 132 131 true (.mv 9)) [9,131],
dF (gD 133 131 true (.mv 19)) [19,131],
dT (gD 134 131 true (.call kH [132,133])) [132,133,131],
dF (uO 135 (.pick 131 134 cF)) [131,134],
dF (mV 136 135) [135],
dF (gD 137 136 true (.mv 12)) [12,136],
dF (gD 138 136 true (.mv 17)) [17,136],
dF (gD 139 136 true (.bin .eql 137 138)) [137,138,136],
dF (uO 140 (.pick 136 139 cF)) [136,139],
dF (mV 141 140) [140],
dF (gD 142 141 true (.mv 11)) [11,141],
dF (gD 143 141 true (.mv 20)) [20,141],
dT (gD 144 141 true (.call kH [142,143])) [142,143,141],
dF (uO 145 (.pick 141 144 cF)) [141,144],
dF (mV 146 145) [145],
dF (gD 147 146 true (.mv 14)) [14,146],
dF (gD 148 146 true (.mv 18)) [18,146],
dF (gD 149 146 true (.bin .eql 147 148)) [147,148,146],
dF (uO 150 (.pick 146 149 cF)) [146,149],
dF (mV 151 150) [150],
dF (gD 152 151 true (.mv 13)) [13,151],
dF (gD 153 151 true (.mv 21)) [21,151],
dT (gD 154 151 true (.call CJ [152,153])) [152,153,151],
dF (uO 155 (.pick 151 154 cF)) [151,154],
dF (mV 156 155) [155],
dT (gD 157 156 true (.call pI [])) [156],
dF (uO 158 (.pick 156 157 cF)) [156,157],
dF (mV 2 158) [158]] [2])
.ret)
def PN (C:Hd)(gl:GL)(v4 v5 v9 v10 v11 v12 v13 v14 v15 v16 v17 v18 v19 v20 v21:AV)(h:aA)(x:Esc)(K:KT):Prop:=
 pK (oA (some 2) v4 h) fun t1=>
 BB C pH [t1] h fun t2 h3 y4=>
 pK (oA (some 2) v4 h3) fun t5=>
 (pK (oA (some 2) v4 h) fun v=>(fun u (g1:aA) (y1:Esc)=>u=t5∧g1=h∧y1=[]) v h [])∧(BB C wJ [t5] h3 fun t6 h7 y8=>
 pK (eA .eql t2 t6) fun t9=>
 gM t9 true v5 h7 fun t10 h11 y12=>
 gV t9 true h11 (BB C rD [t10] h11) fun t13 h14 y15=>
 gM t9 true v15 h14 fun t16 h17 y18=>
 gP t9 true (eA .eql t13 t16) h17 fun t19 h20 y21=>
 pK (SA t9 t19 (AB false)) fun t22=>
 gM t22 true v10 h20 fun t23 h24 y25=>
 gM t22 true v16 h24 fun t26 h27 y28=>
 gP t22 true (eA .eql t23 t26) h27 fun t29 h30 y31=>
 pK (SA t22 t29 (AB false)) fun t32=>
 gM t32 true v9 h30 fun t33 h34 y35=>
 gM t32 true v19 h34 fun t36 h37 y38=>
 gV t32 true h37 (BB C kH [t33,t36] h37) fun t39 h40 y41=>
 pK (SA t32 t39 (AB false)) fun t42=>
 gM t42 true v12 h40 fun t43 h44 y45=>
 gM t42 true v17 h44 fun t46 h47 y48=>
 gP t42 true (eA .eql t43 t46) h47 fun t49 h50 y51=>
 pK (SA t42 t49 (AB false)) fun t52=>
 gM t52 true v11 h50 fun t53 h54 y55=>
 gM t52 true v20 h54 fun t56 h57 y58=>
 gV t52 true h57 (BB C kH [t53,t56] h57) fun t59 h60 y61=>
 pK (SA t52 t59 (AB false)) fun t62=>
 gM t62 true v14 h60 fun t63 h64 y65=>
 gM t62 true v18 h64 fun t66 h67 y68=>
 gP t62 true (eA .eql t63 t66) h67 fun t69 h70 y71=>
 pK (SA t62 t69 (AB false)) fun t72=>
 gM t72 true v13 h70 fun t73 h74 y75=>
 gM t72 true v21 h74 fun t76 h77 y78=>
 gV t72 true h77 (BB C CJ [t73,t76] h77) fun t79 h80 y81=>
 pK (SA t72 t79 (AB false)) fun t82=>
 gV t82 true h80 (BB C pI [] h80) fun t83 h84 y85=>
 pK (SA t82 t83 (AB false)) fun t86=>
 K .ret ⟨[(2,t86)],h84,(y85++(y81++(y78++(y75++(y71++(y68++(y65++(y61++(y58++(y55++(y51++(y48++(y45++(y41++(y38++(y35++(y31++(y28++(y25++(y21++(y18++(y15++(y12++(y8++(y4++x)))))))))))))))))))))))))⟩)
theorem NL {C gl e h x K}:NW C gl tP ⟨e,h,x⟩ K=PN C gl (bA e 4) (bA e 5) (bA e 9) (bA e 10) (bA e 11) (bA e 12) (bA e 13) (bA e 14) (bA e 15) (bA e 16) (bA e 17) (bA e 18) (bA e 19) (bA e 20) (bA e 21) h x K:=by kernel_rfl
def DW (q1:ACode):ACode:=.pr [4,5,7,9,10,11,12,13,14,15,16,17,18,19,20] (.seq (rg [mV 21 (.c (.p (.sl none [])))] [4,5,7,9,10,11,12,13,14,15,16,17,18,19,20,21])
(.seq (.seq (rg [mV 110 18,
bN 111 .eql 110 (cI 0)] [4,5,7,9,10,11,12,13,14,15,16,17,18,19,20,21,111])
(.cond 111 (rg [mV 112 5,
mV 113 7,
cL 114 fF [112,113],
mV 21 114] [4,5,9,10,11,12,13,14,15,16,17,18,19,20,21])
.skip))
q1))
def uP:ACode:=DW tP
def ZI (C:Hd)(gl:GL)(q1:ACode)(v4 v5 v7 v9 v10 v11 v12 v13 v14 v15 v16 v17 v18 v19 v20:AV)(h:aA)(x:Esc)(K:KT):Prop:=
 pK (eA .eql v18 (AI 0)) fun t1=>
 qA t1 (C fF [v5,v7] h fun t2 h3 y4=>
 NW C gl q1 ⟨[(4,v4),(5,v5),(9,v9),(10,v10),(11,v11),(12,v12),(13,v13),(14,v14),(15,v15),(16,v16),(17,v17),(18,v18),(19,v19),(20,v20),(21,t2)],h3,(y4++x)⟩ K)
 (NW C gl q1 ⟨[(4,v4),(5,v5),(7,v7),(9,v9),(10,v10),(11,v11),(12,v12),(13,v13),(14,v14),(15,v15),(16,v16),(17,v17),(18,v18),(19,v19),(20,v20),(21,(.p (.sl none []))),(111,t1)],h,x⟩ K)
theorem z55 {C gl q1 e h x K}:NW C gl (DW q1) ⟨e,h,x⟩ K=ZI C gl q1 (bA e 4) (bA e 5) (bA e 7) (bA e 9) (bA e 10) (bA e 11) (bA e 12) (bA e 13) (bA e 14) (bA e 15) (bA e 16) (bA e 17) (bA e 18) (bA e 19) (bA e 20) h x K:=by kernel_rfl
theorem OL {C gl e h x K}:NW C gl uP ⟨e,h,x⟩ K=ZI C gl tP (bA e 4) (bA e 5) (bA e 7) (bA e 9) (bA e 10) (bA e 11) (bA e 12) (bA e 13) (bA e 14) (bA e 15) (bA e 16) (bA e 17) (bA e 18) (bA e 19) (bA e 20) h x K:=z55
def EW (q2:ACode):ACode:=.pr [4,5,7,8,9,10,11,12,13,14,15,16,17,18,19,20] (.seq (.seq (rg [mV 102 17,
bN 103 .eql 102 (cI 0)] [4,5,7,8,9,10,11,12,13,14,15,16,17,18,19,20,103])
(.cond 103 (rg [mV 105 5,
lD 106 (some 8) 8,
cL 107 HF [105,106],
mV 104 107,
eX 108 104 0,
eX 109 104 1,
mV 20 108,
mV 17 109] [4,5,7,9,10,11,12,13,14,15,16,17,18,19,20])
.skip))
q2)
def CU:ACode:=EW uP
def aJ (C:Hd)(gl:GL)(q2:ACode)(v4 v5 v7 v8 v9 v10 v11 v12 v13 v14 v15 v16 v17 v18 v19 v20:AV)(h:aA)(x:Esc)(K:KT):Prop:=
 pK (eA .eql v17 (AI 0)) fun t1=>
 qA t1 (pK (oA (some 8) v8 h) fun t2=>
 C HF [v5,t2] h fun t3 h4 y5=>
 pK (xC t3 0) fun t6=>
 pK (xC t3 1) fun t7=>
 NW C gl q2 ⟨[(4,v4),(5,v5),(7,v7),(9,v9),(10,v10),(11,v11),(12,v12),(13,v13),(14,v14),(15,v15),(16,v16),(17,t7),(18,v18),(19,v19),(20,t6)],h4,(y5++x)⟩ K)
 (NW C gl q2 ⟨[(4,v4),(5,v5),(7,v7),(8,v8),(9,v9),(10,v10),(11,v11),(12,v12),(13,v13),(14,v14),(15,v15),(16,v16),(17,v17),(18,v18),(19,v19),(20,v20),(103,t1)],h,x⟩ K)
theorem z56 {C gl q2 e h x K}:NW C gl (EW q2) ⟨e,h,x⟩ K=aJ C gl q2 (bA e 4) (bA e 5) (bA e 7) (bA e 8) (bA e 9) (bA e 10) (bA e 11) (bA e 12) (bA e 13) (bA e 14) (bA e 15) (bA e 16) (bA e 17) (bA e 18) (bA e 19) (bA e 20) h x K:=by kernel_rfl
theorem jG {C gl e h x K}:NW C gl CU ⟨e,h,x⟩ K=aJ C gl uP (bA e 4) (bA e 5) (bA e 7) (bA e 8) (bA e 9) (bA e 10) (bA e 11) (bA e 12) (bA e 13) (bA e 14) (bA e 15) (bA e 16) (bA e 17) (bA e 18) (bA e 19) (bA e 20) h x K:=z56
def FW (q3:ACode):ACode:=.pr [3,4,5,6,7] (.seq (rg [mV 60 3,
mV 61 5,
cL 62 uJ [60,61],
uO 8 (.alloc [.p (.str []),.p (.int .i64 0),.p (.int .i64 0),.p (.int .i64 0),.p (.str []),.p (.str []),.p (.str []),.p (.int .i64 0)]),
wO (.store (some 8) 8 62)] [4,5,6,7,8])
(.seq (rg [mV 64 5,
mV 65 6,
cL 66 JF [64,65],
mV 63 66,
eX 67 63 0,
eX 68 63 1,
mV 9 67,
mV 10 68] [4,5,6,7,8,9,10])
(.seq (rg [mV 70 5,
lD 71 (some 8) 8,
cL 72 HJ [70,71],
mV 69 72,
eX 73 69 0,
eX 74 69 1,
mV 11 73,
mV 12 74] [4,5,6,7,8,9,10,11,12])
(.seq (rg [mV 76 5,
mV 77 7,
cL 78 GJ [76,77],
mV 75 78,
eX 79 75 0,
eX 80 75 1,
mV 13 79,
mV 14 80] [4,5,6,7,8,9,10,11,12,13,14])
(.seq (rg [mV 81 5,
cL 82 tE [81],
mV 15 82] [4,5,6,7,8,9,10,11,12,13,14,15])
(.seq (rg [mV 83 15,
mV 84 6,
cL 85 tE [84],
uO 86 (.bsl false none 2 (.int .i64 0) [(0,83),(1,85)]),
cL 87 bH [86],
mV 88 15,
mV 89 15,
mV 90 7,
cL 91 xJ [90],
uO 92 (.bsl false none 2 (.int .i64 0) [(0,89),(1,91)]),
cL 93 bH [92],
mV 16 87,
mV 17 88,
mV 18 93] [4,5,6,7,8,9,10,11,12,13,14,15,16,17,18])
(.seq (rg [mV 19 (.c (.p (.sl (some 8) []))),
mV 20 (.c (.p (.sl (some 8) [])))] [4,5,6,7,8,9,10,11,12,13,14,15,16,17,18,19,20])
(.seq (.seq (rg [mV 94 16,
bN 95 .eql 94 (cI 0)] [4,5,6,7,8,9,10,11,12,13,14,15,16,17,18,19,20,95])
(.cond 95 (rg [mV 97 5,
mV 98 6,
cL 99 GF [97,98],
mV 96 99,
eX 100 96 0,
eX 101 96 1,
mV 19 100,
mV 16 101] [4,5,7,8,9,10,11,12,13,14,15,16,17,18,19,20])
.skip))
q3))))))))
def EI:ACode:=FW CU
def fG (C:Hd)(gl:GL)(q3:ACode)(v3 v4 v5 v6 v7:AV)(h:aA)(x:Esc)(K:KT):Prop:=
 C uJ [v3,v5] h fun t1 h2 y3=>
 alK [.p (.str []),.p (.int .i64 0),.p (.int .i64 0),.p (.int .i64 0),.p (.str []),.p (.str []),.p (.str []),.p (.int .i64 0)] h2 fun t4 h5 y6=>
 wK (GA (some 8) t4 t1 h5) fun t7 h8 y9=>
 C JF [v5,v6] h8 fun t10 h11 y12=>
 pK (xC t10 0) fun t13=>
 pK (xC t10 1) fun t14=>
 pK (oA (some 8) t4 h11) fun t15=>
 C HJ [v5,t15] h11 fun t16 h17 y18=>
 pK (xC t16 0) fun t19=>
 pK (xC t16 1) fun t20=>
 C GJ [v5,v7] h17 fun t21 h22 y23=>
 pK (xC t21 0) fun t24=>
 pK (xC t21 1) fun t25=>
 C tE [v5] h22 fun t26 h27 y28=>
 C tE [v6] h27 fun t29 h30 y31=>
 wK (ZA false none 2 (.int .i64 0) [(0,t26),(1,t29)] h30) fun t32 h33 y34=>
 C bH [t32] h33 fun t35 h36 y37=>
 C xJ [v7] h36 fun t38 h39 y40=>
 wK (ZA false none 2 (.int .i64 0) [(0,t26),(1,t38)] h39) fun t41 h42 y43=>
 C bH [t41] h42 fun t44 h45 y46=>
 pK (eA .eql t35 (AI 0)) fun t47=>
 qA t47 (C GF [v5,v6] h45 fun t48 h49 y50=>
 pK (xC t48 0) fun t51=>
 pK (xC t48 1) fun t52=>
 NW C gl q3 ⟨[(4,v4),(5,v5),(7,v7),(8,t4),(9,t13),(10,t14),(11,t19),(12,t20),(13,t24),(14,t25),(15,t26),(16,t52),(17,t26),(18,t44),(19,t51),(20,(.p (.sl (some 8) [])))],h49,(y50++(y46++(y43++(y40++(y37++(y34++(y31++(y28++(y23++(y18++(y12++(y9++(y6++(y3++x))))))))))))))⟩ K)
 (NW C gl q3 ⟨[(4,v4),(5,v5),(6,v6),(7,v7),(8,t4),(9,t13),(10,t14),(11,t19),(12,t20),(13,t24),(14,t25),(15,t26),(16,t35),(17,t26),(18,t44),(19,(.p (.sl (some 8) []))),(20,(.p (.sl (some 8) []))),(95,t47)],h45,(y46++(y43++(y40++(y37++(y34++(y31++(y28++(y23++(y18++(y12++(y9++(y6++(y3++x)))))))))))))⟩ K)
theorem z57 {C gl q3 e h x K}:NW C gl (FW q3) ⟨e,h,x⟩ K=fG C gl q3 (bA e 3) (bA e 4) (bA e 5) (bA e 6) (bA e 7) h x K:=by kernel_rfl
theorem lJ {C gl e h x K}:NW C gl EI ⟨e,h,x⟩ K=fG C gl CU (bA e 3) (bA e 4) (bA e 5) (bA e 6) (bA e 7) h x K:=z57
def CW (q4:ACode):ACode:=(.seq (rg [mV 2 cF] [0])
(.seq (rg [mV 22 0,
uO 23 (.build [.sl0 none,.p (.int .i64 0)] [(0,1,22)]),
uO 24 (.box 23),
mV 3 24] [3])
(.seq (rg [mV 25 3,
cL 26 tJ [25],
mV 27 3,
mV 28 3,
cL 29 dC [28,(cI 0),(cI 10)],
cL 30 cH [27,29],
mV 31 3,
mV 32 3,
cL 33 dC [32,(cI 0),(cI 4)],
cL 34 cH [31,33],
mV 35 3,
cL 36 vJ [35],
uO 4 (.alloc [.sl0 none,.p (.int .i64 0)]),
wO (.store (some 2) 4 26),
mV 5 30,
mV 6 34,
mV 7 36] [3,4,5,6,7])
(.seq (.seq (rg [mV 37 5,
lN 38 37,
bN 39 .gtr 38 (cI 0),
mV 40 39,
gD 41 40 true (.mv 3),
gD 42 40 true (.call JC [41,(cI 2)]),
uO 43 (.pick 40 42 cF)] [3,4,5,6,7,43])
(.cond 43 (.seq (rg [mV 44 5,
mV 45 3,
mV 46 5,
lN 47 46,
cL 48 TC [45,47],
uO 49 (.slice (some 8) 44 (some 48) none none),
cL 50 uE [49],
mV 6 50] [3,4,5,6,7])
(.seq (rg [mV 51 3,
cL 52 JC [51,(cI 4)]] [3,4,5,6,7,52])
(.cond 52 (rg [mV 53 6,
iA 54 (some 8) 53 (cI 0),
fA 55 2 none 54,
lD 56 none 55,
bN 57 .add 56 (cI 1),
iA 58 (some 8) 53 (cI 0),
fA 59 2 none 58,
wO (.store none 59 57)] [3,4,5,6,7])
.skip)))
.skip))
q4))))
def RQ:AFun:=⟨1,[.t 2],CW EI,false,false⟩
def dI (C:Hd)(gl:GL)(q4:ACode)(v0:AV)(h:aA)(x:Esc)(K:KT):Prop:=
 pK (mE [.sl0 none,.p (.int .i64 0)] [(0,1,v0)]) fun t1=>
 wK (jD t1 h) fun t2 h3 y4=>
 C tJ [t2] h3 fun t5 h6 y7=>
 C dC [t2,(AI 0),(AI 10)] h6 fun t8 h9 y10=>
 C cH [t2,t8] h9 fun t11 h12 y13=>
 C dC [t2,(AI 0),(AI 4)] h12 fun t14 h15 y16=>
 C cH [t2,t14] h15 fun t17 h18 y19=>
 C vJ [t2] h18 fun t20 h21 y22=>
 alK [.sl0 none,.p (.int .i64 0)] h21 fun t23 h24 y25=>
 wK (GA (some 2) t23 t5 h24) fun t26 h27 y28=>
 pK (QA t11) fun t29=>
 pK (eA .gtr t29 (AI 0)) fun t30=>
 gM t30 true t2 h27 fun t31 h32 y33=>
 gV t30 true h32 (C JC [t31,(AI 2)] h32) fun t34 h35 y36=>
 pK (SA t30 t34 (AB false)) fun t37=>
 qA t37 (pK (QA t11) fun t38=>
 C TC [t2,t38] h35 fun t39 h40 y41=>
 pK (QC (some 8) t11 (some t39) none none h40) fun t42=>
 C uE [t42] h40 fun t43 h44 y45=>
 C JC [t2,(AI 4)] h44 fun t46 h47 y48=>
 qA t46 (pK (uA (some 8) t43 (AI 0) h47) fun t49=>
 pK (rA 2 none t49) fun t50=>
 pK (oA none t50 h47) fun t51=>
 pK (eA .add t51 (AI 1)) fun t52=>
 pK (uA (some 8) t43 (AI 0) h47) fun t53=>
 pK (rA 2 none t53) fun t54=>
 wK (GA none t54 t52 h47) fun t55 h56 y57=>
 NW C gl q4 ⟨[(3,t2),(4,t23),(5,t11),(6,t43),(7,t20)],h56,(y57++(y48++(y45++(y41++(y36++(y33++(y28++(y25++(y22++(y19++(y16++(y13++(y10++(y7++(y4++x)))))))))))))))⟩ K)
 (NW C gl q4 ⟨[(3,t2),(4,t23),(5,t11),(6,t43),(7,t20),(52,t46)],h47,(y48++(y45++(y41++(y36++(y33++(y28++(y25++(y22++(y19++(y16++(y13++(y10++(y7++(y4++x))))))))))))))⟩ K))
 (NW C gl q4 ⟨[(3,t2),(4,t23),(5,t11),(6,t17),(7,t20),(43,t37)],h35,(y36++(y33++(y28++(y25++(y22++(y19++(y16++(y13++(y10++(y7++(y4++x)))))))))))⟩ K)
theorem z54 {C gl q4 v0 h x K}:NW C gl (CW q4) ⟨enter [v0],h,x⟩ K=dI C gl q4 v0 h x K:=by kernel_rfl
theorem zb9 {C gl v0 h x K}:NW C gl RQ.body ⟨enter [v0],h,x⟩ K=dI C gl EI v0 h x K:=z54
def DU:ACode:=.pr [2,3] (.seq (rg [lD 27 (some 2) 3,
wO (.store (some 2) 2 27)] [2])
.ret)
def kZ (C:Hd)(gl:GL)(v2 v3:AV)(h:aA)(x:Esc)(K:KT):Prop:=
 pK (oA (some 2) v3 h) fun t1=>
 wK (GA (some 2) v2 t1 h) fun t2 h3 y4=>
 K .ret ⟨[(2,v2)],h3,(y4++x)⟩
theorem zbG {C gl e h x K}:NW C gl DU ⟨e,h,x⟩ K=kZ C gl (bA e 2) (bA e 3) h x K:=by kernel_rfl
def JW (q1:ACode):ACode:=.pr [0,2,3] (.seq (.seq (rg [mV 22 0,
cL 23 JC [22,(cI 25)]] [0,2,3,23])
(.cond 23 (rg [mV 24 0,
cL 25 ED [24,(cI 1),(cI 10)],
fA 26 1 none 3,
wO (.store none 26 25)] [2,3])
.skip))
q1)
def EU:ACode:=JW DU
def xS (C:Hd)(gl:GL)(q1:ACode)(v0 v2 v3:AV)(h:aA)(x:Esc)(K:KT):Prop:=
 C JC [v0,(AI 25)] h fun t1 h2 y3=>
 qA t1 (C ED [v0,(AI 1),(AI 10)] h2 fun t4 h5 y6=>
 pK (rA 1 none v3) fun t7=>
 wK (GA none t7 t4 h5) fun t8 h9 y10=>
 NW C gl q1 ⟨[(2,v2),(3,v3)],h9,(y10++(y6++(y3++x)))⟩ K)
 (NW C gl q1 ⟨[(0,v0),(2,v2),(3,v3),(23,t1)],h2,(y3++x)⟩ K)
theorem z5B {C gl q1 e h x K}:NW C gl (JW q1) ⟨e,h,x⟩ K=xS C gl q1 (bA e 0) (bA e 2) (bA e 3) h x K:=by kernel_rfl
theorem zbH {C gl e h x K}:NW C gl EU ⟨e,h,x⟩ K=xS C gl DU (bA e 0) (bA e 2) (bA e 3) h x K:=z5B
def KW (q2:ACode):ACode:=.pr [0,2,3] (.seq (.seq (rg [mV 11 0,
cL 12 JC [11,(cI 20)]] [0,2,3,12])
(.cond 12 (dr [dF (fA 13 0 none 3) [3],
dF (lD 14 none 13) [13],
dF (mV 15 0) [0],
dF (uO 16 (.bsl false none 3 (.str []) [(0,(cS [])),(1,(cS [115,99,97,110])),(2,(cS [122,122]))])) [],
dA (cL 17 XB [15,16]) [15,16] true [] [1],
dF (uO 18 (.bsl false none 1 (.str []) [(0,17)])) [17],
dF (uO 19 (.bsl false none 2 (.sl none []) [(0,14),(1,18)])) [14,18],
dT (cL 20 AJ [19]) [19],
dF (fA 21 0 none 3) [3],
dT (wO (.store none 21 20)) [21,20]] [0,2,3])
.skip))
q2)
def kM:ACode:=KW EU
def fI (C:Hd)(gl:GL)(q2:ACode)(v0 v2 v3:AV)(h:aA)(x:Esc)(K:KT):Prop:=
 C JC [v0,(AI 20)] h fun t1 h2 y3=>
 qA t1 (pK (rA 0 none v3) fun t4=>
 pK (oA none t4 h2) fun t5=>
 wK (ZA false none 3 (.str []) [(0,(.p (.str []))),(1,(.p (.str [115,99,97,110]))),(2,(.p (.str [122,122])))] h2) fun t6 h7 y8=>
 (h7=h2∧y8=[])∧(BB C XB [v0,t6] h7 fun t9 h10 y11=>
 (pK (oA none t4 h10) fun v=>(fun u (g1:aA) (y1:Esc)=>u=t5∧g1=h10∧y1=[]) v h10 [])∧(wK (ZA false none 1 (.str []) [(0,t9)] h10) fun t12 h13 y14=>
 (h13=h10∧y14=[])∧(wK (ZA false none 2 (.sl none []) [(0,t5),(1,t12)] h13) fun t15 h16 y17=>
 (h16=h13∧y17=[])∧(BB C AJ [t15] h16 fun t18 h19 y20=>
 pK (rA 0 none v3) fun t21=>
 wK (GA none t21 t18 h19) fun t22 h23 y24=>
 NW C gl q2 ⟨[(0,v0),(2,v2),(3,v3)],h23,(y24++(y20++(y17++(y14++(y11++(y8++(y3++x)))))))⟩ K)))))
 (NW C gl q2 ⟨[(0,v0),(2,v2),(3,v3),(12,t1)],h2,(y3++x)⟩ K)
theorem z5C {C gl q2 e h x K}:NW C gl (KW q2) ⟨e,h,x⟩ K=fI C gl q2 (bA e 0) (bA e 2) (bA e 3) h x K:=by kernel_rfl
theorem mJ {C gl e h x K}:NW C gl kM ⟨e,h,x⟩ K=fI C gl EU (bA e 0) (bA e 2) (bA e 3) h x K:=z5C
def IW (q3:ACode):ACode:=(.det (.seq (rg [uO 2 (.alloc [.sl0 none,.p (.int .i64 0)])] [0,2])
(.seq (.condu (.c .anyb) (.block 2 (.block 7 (.block 0 (.block 1 (.block 2 (.block 3 (.block 4 (.block 5 (.block 6 (.block 7 (.block 8 (.condu (.c .anyb) (.block 5 (.block 7 (.block 0 (.block 1 (.block 2 (.block 3 (.block 4 (.block 5 (.block 6 (.block 7 (.block 8 (dr [dF (uO 4 (.bsl false none 3 (.str []) [(0,(cS [115,99,97,110])),(1,(cS [102,108,97,115,104])),(2,(cS [98,117,114,110]))])) [],
dF (mV 5 0) [0],
dA (cL 6 dC [5,(cI 1),(cI 3)]) [5] true [] [0],
dF (uO 7 (.slice none 4 none (some 6) none)) [4,6],
dF (mV 8 0) [0],
dA (cL 9 dC [8,(cI 1),(cI 3)]) [8] true [] [0,3],
dF (uO 10 (.build [.sl0 none,.p (.int .i64 0)] [(0,1,7),(1,1,9)])) [7,9],
dA (uO 3 (.alloc [.sl0 none,.p (.int .i64 0)])) [] true [] [0,3],
dT (wO (.store (some 2) 3 10)) [3,10]] [0,2,3]))))))))))))
(.block 7 (.block 5 (.block 0 (.block 1 (.block 2 (.block 3 (.block 4 (.block 7 (.block 5 (.block 6 (.block 8 (dr [dF (uO 4 (.bsl false none 3 (.str []) [(0,(cS [115,99,97,110])),(1,(cS [102,108,97,115,104])),(2,(cS [98,117,114,110]))])) [],
dF (mV 5 0) [0],
dA (cL 6 dC [5,(cI 1),(cI 3)]) [5] true [] [0],
dF (uO 7 (.slice none 4 none (some 6) none)) [4,6],
dF (mV 8 0) [0],
dA (uO 3 (.alloc [.sl0 none,.p (.int .i64 0)])) [] true [] [0,3],
dA (cL 9 dC [8,(cI 1),(cI 3)]) [8] true [] [0,3],
dF (uO 10 (.build [.sl0 none,.p (.int .i64 0)] [(0,1,7),(1,1,9)])) [7,9],
dT (wO (.store (some 2) 3 10)) [3,10]] [0,2,3]))))))))))))))))))))))))
(.block 7 (.block 2 (.block 0 (.block 1 (.block 4 (.block 7 (.block 2 (.block 3 (.block 5 (.block 6 (.block 8 (dr [dF (uO 4 (.bsl false none 3 (.str []) [(0,(cS [115,99,97,110])),(1,(cS [102,108,97,115,104])),(2,(cS [98,117,114,110]))])) [],
dF (mV 5 0) [0],
dF (mV 8 0) [0],
dA (uO 3 (.alloc [.sl0 none,.p (.int .i64 0)])) [] true [] [0],
dA (cL 6 dC [5,(cI 1),(cI 3)]) [5] true [] [0],
dF (uO 7 (.slice none 4 none (some 6) none)) [4,6],
dA (cL 9 dC [8,(cI 1),(cI 3)]) [8] true [] [0,5],
dF (uO 10 (.build [.sl0 none,.p (.int .i64 0)] [(0,1,7),(1,1,9)])) [7,9],
dT (wO (.store (some 2) 3 10)) [3,10]] [0,2,3])))))))))))))
q3)))
def UQ:AFun:=⟨1,[.cell 2 (some 2)],IW kM,false,false⟩
def SN (C:Hd)(gl:GL)(q3:ACode)(v0:AV)(h:aA)(x:Esc)(K:KT):Prop:=
 alK [.sl0 none,.p (.int .i64 0)] h fun t1 h2 y3=>
 TG .anyb (TG .anyb (wK (ZA false none 3 (.str []) [(0,(.p (.str [115,99,97,110]))),(1,(.p (.str [102,108,97,115,104]))),(2,(.p (.str [98,117,114,110])))] h2) fun t4 h5 y6=>
 (h5=h2∧y6=[])∧(BB C dC [v0,(AI 1),(AI 3)] h5 fun t7 h8 y9=>
 (wK (ZA false none 3 (.str []) [(0,(.p (.str [115,99,97,110]))),(1,(.p (.str [102,108,97,115,104]))),(2,(.p (.str [98,117,114,110])))] h8) (fun u (g1:aA) (y1:Esc)=>u=t4∧g1=h8∧y1=[]))∧(pK (QC none t4 none (some t7) none h8) fun t10=>
 BB C dC [v0,(AI 1),(AI 3)] h8 fun t11 h12 y13=>
 (wK (ZA false none 3 (.str []) [(0,(.p (.str [115,99,97,110]))),(1,(.p (.str [102,108,97,115,104]))),(2,(.p (.str [98,117,114,110])))] h12) (fun u (g1:aA) (y1:Esc)=>u=t4∧g1=h12∧y1=[]))∧((pK (QC none t4 none (some t7) none h12) fun v=>(fun u (g1:aA) (y1:Esc)=>u=t10∧g1=h12∧y1=[]) v h12 [])∧(pK (mE [.sl0 none,.p (.int .i64 0)] [(0,1,t10),(1,1,t11)]) fun t14=>
 alK [.sl0 none,.p (.int .i64 0)] h12 fun t15 h16 y17=>
 (wK (ZA false none 3 (.str []) [(0,(.p (.str [115,99,97,110]))),(1,(.p (.str [102,108,97,115,104]))),(2,(.p (.str [98,117,114,110])))] h16) (fun u (g1:aA) (y1:Esc)=>u=t4∧g1=h16∧y1=[]))∧((pK (QC none t4 none (some t7) none h16) fun v=>(fun u (g1:aA) (y1:Esc)=>u=t10∧g1=h16∧y1=[]) v h16 [])∧(wK (GA (some 2) t15 t14 h16) fun t18 h19 y20=>
 NW C gl q3 ⟨[(0,v0),(2,t1),(3,t15)],h19,(y20++(y17++(y13++(y9++(y6++(y3++x))))))⟩ K)))))))
 (wK (ZA false none 3 (.str []) [(0,(.p (.str [115,99,97,110]))),(1,(.p (.str [102,108,97,115,104]))),(2,(.p (.str [98,117,114,110])))] h2) fun t21 h22 y23=>
 (h22=h2∧y23=[])∧(BB C dC [v0,(AI 1),(AI 3)] h22 fun t24 h25 y26=>
 (wK (ZA false none 3 (.str []) [(0,(.p (.str [115,99,97,110]))),(1,(.p (.str [102,108,97,115,104]))),(2,(.p (.str [98,117,114,110])))] h25) (fun u (g1:aA) (y1:Esc)=>u=t21∧g1=h25∧y1=[]))∧(pK (QC none t21 none (some t24) none h25) fun t27=>
 alK [.sl0 none,.p (.int .i64 0)] h25 fun t28 h29 y30=>
 (wK (ZA false none 3 (.str []) [(0,(.p (.str [115,99,97,110]))),(1,(.p (.str [102,108,97,115,104]))),(2,(.p (.str [98,117,114,110])))] h29) (fun u (g1:aA) (y1:Esc)=>u=t21∧g1=h29∧y1=[]))∧((pK (QC none t21 none (some t24) none h29) fun v=>(fun u (g1:aA) (y1:Esc)=>u=t27∧g1=h29∧y1=[]) v h29 [])∧(BB C dC [v0,(AI 1),(AI 3)] h29 fun t31 h32 y33=>
 (wK (ZA false none 3 (.str []) [(0,(.p (.str [115,99,97,110]))),(1,(.p (.str [102,108,97,115,104]))),(2,(.p (.str [98,117,114,110])))] h32) (fun u (g1:aA) (y1:Esc)=>u=t21∧g1=h32∧y1=[]))∧((pK (QC none t21 none (some t24) none h32) fun v=>(fun u (g1:aA) (y1:Esc)=>u=t27∧g1=h32∧y1=[]) v h32 [])∧(pK (mE [.sl0 none,.p (.int .i64 0)] [(0,1,t27),(1,1,t31)]) fun t34=>
 wK (GA (some 2) t28 t34 h32) fun t35 h36 y37=>
 NW C gl q3 ⟨[(0,v0),(2,t1),(3,t28)],h36,(y37++(y33++(y30++(y26++(y23++(y3++x))))))⟩ K))))))))
 (wK (ZA false none 3 (.str []) [(0,(.p (.str [115,99,97,110]))),(1,(.p (.str [102,108,97,115,104]))),(2,(.p (.str [98,117,114,110])))] h2) fun t38 h39 y40=>
 (h39=h2∧y40=[])∧(alK [.sl0 none,.p (.int .i64 0)] h39 fun t41 h42 y43=>
 (wK (ZA false none 3 (.str []) [(0,(.p (.str [115,99,97,110]))),(1,(.p (.str [102,108,97,115,104]))),(2,(.p (.str [98,117,114,110])))] h42) (fun u (g1:aA) (y1:Esc)=>u=t38∧g1=h42∧y1=[]))∧(BB C dC [v0,(AI 1),(AI 3)] h42 fun t44 h45 y46=>
 (wK (ZA false none 3 (.str []) [(0,(.p (.str [115,99,97,110]))),(1,(.p (.str [102,108,97,115,104]))),(2,(.p (.str [98,117,114,110])))] h45) (fun u (g1:aA) (y1:Esc)=>u=t38∧g1=h45∧y1=[]))∧(pK (QC none t38 none (some t44) none h45) fun t47=>
 BB C dC [v0,(AI 1),(AI 3)] h45 fun t48 h49 y50=>
 (wK (ZA false none 3 (.str []) [(0,(.p (.str [115,99,97,110]))),(1,(.p (.str [102,108,97,115,104]))),(2,(.p (.str [98,117,114,110])))] h49) (fun u (g1:aA) (y1:Esc)=>u=t38∧g1=h49∧y1=[]))∧((pK (QC none t38 none (some t44) none h49) fun v=>(fun u (g1:aA) (y1:Esc)=>u=t47∧g1=h49∧y1=[]) v h49 [])∧(pK (mE [.sl0 none,.p (.int .i64 0)] [(0,1,t47),(1,1,t48)]) fun t51=>
 wK (GA (some 2) t41 t51 h49) fun t52 h53 y54=>
 NW C gl q3 ⟨[(0,v0),(2,t1),(3,t41)],h53,(y54++(y50++(y46++(y43++(y40++(y3++x))))))⟩ K))))))
theorem z5A {C gl q3 v0 h x K}:NW C gl (IW q3) ⟨enter [v0],h,x⟩ K=SN C gl q3 v0 h x K:=by kernel_rfl
theorem zbF {C gl v0 h x K}:NW C gl UQ.body ⟨enter [v0],h,x⟩ K=SN C gl kM v0 h x K:=z5A
def lM:ACode:=.pr [0,5,6,7,9,11,12] (.seq (rg [fA 55 3 none 9,
lD 56 none 55,
bN 57 .eql 56 (cI 2)] [0,5,6,7,9,11,12,57])
(.cond 57 (rg [mV 58 0,
uO 59 (.bsl false none 4 (.str []) [(0,(cS [115,99,97,110])),(1,(cS [115,99,97,110])),(2,(cS [102,108,97,115,104])),(3,(cS [98,117,114,110]))]),
cL 60 XB [58,59],
fA 61 5 none 9,
wO (.store none 61 60)] [0,5,6,7,9,11,12])
.skip))
def mZ (C:Hd)(gl:GL)(v0 v5 v6 v7 v9 v11 v12:AV)(h:aA)(x:Esc)(K:KT):Prop:=
 pK (rA 3 none v9) fun t1=>
 pK (oA none t1 h) fun t2=>
 pK (eA .eql t2 (AI 2)) fun t3=>
 qA t3 (wK (ZA false none 4 (.str []) [(0,(.p (.str [115,99,97,110]))),(1,(.p (.str [115,99,97,110]))),(2,(.p (.str [102,108,97,115,104]))),(3,(.p (.str [98,117,114,110])))] h) fun t4 h5 y6=>
 C XB [v0,t4] h5 fun t7 h8 y9=>
 pK (rA 5 none v9) fun t10=>
 wK (GA none t10 t7 h8) fun t11 h12 y13=>
 K .normal ⟨[(0,v0),(5,v5),(6,v6),(7,v7),(9,v9),(11,v11),(12,v12)],h12,(y13++(y9++(y6++x)))⟩)
 (K .normal ⟨[(0,v0),(5,v5),(6,v6),(7,v7),(9,v9),(11,v11),(12,v12),(57,t3)],h,x⟩)
theorem pT {C gl e h x K}:NW C gl lM ⟨e,h,x⟩ K=mZ C gl (bA e 0) (bA e 5) (bA e 6) (bA e 7) (bA e 9) (bA e 11) (bA e 12) h x K:=by kernel_rfl
def yP:ACode:=.pr [0,5,6,7,9,11,12] (rg [mV 111 5,
lD 112 (some 8) 9,
uO 113 (.bsl false (some 8) 1 (.agg [.str [],.int .i64 0,.int .i64 0,.int .i64 0,.str [],.str [],.str [],.int .i64 0]) [(0,112)]),
uO 114 (.app (some 8) 111 113),
mV 5 114] [0,5,6,7,11,12])
def nZ (C:Hd)(gl:GL)(v0 v5 v6 v7 v9 v11 v12:AV)(h:aA)(x:Esc)(K:KT):Prop:=
 pK (oA (some 8) v9 h) fun t1=>
 wK (ZA false (some 8) 1 (.agg [.str [],.int .i64 0,.int .i64 0,.int .i64 0,.str [],.str [],.str [],.int .i64 0]) [(0,t1)] h) fun t2 h3 y4=>
 wK (mF (some 8) v5 t2 h3) fun t5 h6 y7=>
 K .normal ⟨[(0,v0),(5,t5),(6,v6),(7,v7),(11,v11),(12,v12)],h6,(y7++(y4++x))⟩
theorem zbL {C gl e h x K}:NW C gl yP ⟨e,h,x⟩ K=nZ C gl (bA e 0) (bA e 5) (bA e 6) (bA e 7) (bA e 9) (bA e 11) (bA e 12) h x K:=by kernel_rfl
def OW (q2:ACode):ACode:=.pr [0,5,6,7,9,11,12] (.seq (.seq (rg [mV 71 0,
cL 72 JC [71,(cI 100)]] [0,5,6,7,9,11,12,72])
(.cond 72 (.seq (rg [mV 73 0,
cL 74 TC [73,(cI 3)]] [0,5,6,7,9,11,12,74])
(.block 3 (.seq (rg [bN 83 .eql 74 (cI 0),
mV 82 83] [0,5,6,7,9,11,12,74,82])
(.cond 82 (rg [mV 84 0,
fA 85 0 none 9,
lD 86 none 85,
uO 87 (.bsl false none 2 (.str []) [(0,(cS [])),(1,86)]),
cL 88 XB [84,87],
mV 89 0,
cL 90 ED [89,(cI 1),(cI 9)],
mV 91 0,
cL 92 ED [91,(cI 0),(cI 100)],
fA 93 0 none 9,
wO (.store none 93 88),
fA 94 1 none 9,
wO (.store none 94 90),
fA 95 2 none 9,
wO (.store none 95 92)] [0,5,6,7,9,11,12])
(.seq (rg [bN 97 .eql 74 (cI 1),
mV 96 97] [0,5,6,7,9,11,12,96])
(.cond 96 (dr [dF (mV 98 0) [0],
dT (cL 99 ED [98,(cI 1),(cI 7)]) [98],
dF (mV 100 0) [0],
dF (fA 101 4 none 9) [9],
dA (lD 102 none 101) [101] false [1] [],
dA (uO 103 (.bsl false none 3 (.str []) [(0,(cS [])),(1,(cS [65])),(2,102)])) [102] false [1] [],
dT (cL 104 XB [100,103]) [100,103],
dF (mV 105 0) [0],
dA (uO 106 (.bsl false none 2 (.str []) [(0,(cS [])),(1,(cS [115,99,97,110]))])) [] false [1,6] [],
dT (cL 107 XB [105,106]) [105,106],
dF (fA 108 3 none 9) [9],
dT (wO (.store none 108 99)) [108,99],
dF (fA 109 4 none 9) [9],
dT (wO (.store none 109 104)) [109,104],
dF (fA 110 5 none 9) [9],
dT (wO (.store none 110 107)) [110,107]] [0,5,6,7,9,11,12])
(rg [mV 75 0,
uO 76 (.bsl false none 2 (.str []) [(0,(cS [])),(1,(cS [115,97]))]),
cL 77 XB [75,76],
mV 78 0,
cL 79 ED [78,(cI 0),(cI 5)],
fA 80 6 none 9,
wO (.store none 80 77),
fA 81 7 none 9,
wO (.store none 81 79)] [0,5,6,7,9,11,12])))))))
.skip))
q2)
def mM:ACode:=OW yP
def zF (C:Hd)(gl:GL)(q2:ACode)(v0 v5 v6 v7 v9 v11 v12:AV)(h:aA)(x:Esc)(K:KT):Prop:=
 C JC [v0,(AI 100)] h fun t1 h2 y3=>
 qA t1 (C TC [v0,(AI 3)] h2 fun t4 h5 y6=>
 pK (eA .eql t4 (AI 0)) fun t7=>
 qA t7 (pK (rA 0 none v9) fun t8=>
 pK (oA none t8 h5) fun t9=>
 wK (ZA false none 2 (.str []) [(0,(.p (.str []))),(1,t9)] h5) fun t10 h11 y12=>
 C XB [v0,t10] h11 fun t13 h14 y15=>
 C ED [v0,(AI 1),(AI 9)] h14 fun t16 h17 y18=>
 C ED [v0,(AI 0),(AI 100)] h17 fun t19 h20 y21=>
 pK (rA 0 none v9) fun t22=>
 wK (GA none t22 t13 h20) fun t23 h24 y25=>
 pK (rA 1 none v9) fun t26=>
 wK (GA none t26 t16 h24) fun t27 h28 y29=>
 pK (rA 2 none v9) fun t30=>
 wK (GA none t30 t19 h28) fun t31 h32 y33=>
 NW C gl q2 ⟨[(0,v0),(5,v5),(6,v6),(7,v7),(9,v9),(11,v11),(12,v12)],h32,(y33++(y29++(y25++(y21++(y18++(y15++(y12++(y6++(y3++x)))))))))⟩ K)
 (pK (eA .eql t4 (AI 1)) fun t34=>
 qA t34 (BB C ED [v0,(AI 1),(AI 7)] h5 fun t35 h36 y37=>
 pK (rA 4 none v9) fun t38=>
 pK (oA none t38 h36) fun t39=>
 (pK (oA none t38 h5) fun v=>(fun u (g1:aA) (y1:Esc)=>u=t39∧g1=h5∧y1=[]) v h5 [])∧(wK (ZA false none 3 (.str []) [(0,(.p (.str []))),(1,(.p (.str [65]))),(2,t39)] h36) fun t40 h41 y42=>
 (h41=h36∧y42=[])∧((wK (ZA false none 3 (.str []) [(0,(.p (.str []))),(1,(.p (.str [65]))),(2,t39)] h5) (fun u (g1:aA) (y1:Esc)=>u=t40∧g1=h5∧y1=[]))∧(BB C XB [v0,t40] h41 fun t43 h44 y45=>
 wK (ZA false none 2 (.str []) [(0,(.p (.str []))),(1,(.p (.str [115,99,97,110])))] h44) fun t46 h47 y48=>
 (h47=h44∧y48=[])∧((wK (ZA false none 2 (.str []) [(0,(.p (.str []))),(1,(.p (.str [115,99,97,110])))] h5) (fun u (g1:aA) (y1:Esc)=>u=t46∧g1=h5∧y1=[]))∧((wK (ZA false none 2 (.str []) [(0,(.p (.str []))),(1,(.p (.str [115,99,97,110])))] h41) (fun u (g1:aA) (y1:Esc)=>u=t46∧g1=h41∧y1=[]))∧(BB C XB [v0,t46] h47 fun t49 h50 y51=>
 pK (rA 3 none v9) fun t52=>
 wK (GA none t52 t35 h50) fun t53 h54 y55=>
 pK (rA 4 none v9) fun t56=>
 wK (GA none t56 t43 h54) fun t57 h58 y59=>
 pK (rA 5 none v9) fun t60=>
 wK (GA none t60 t49 h58) fun t61 h62 y63=>
 NW C gl q2 ⟨[(0,v0),(5,v5),(6,v6),(7,v7),(9,v9),(11,v11),(12,v12)],h62,(y63++(y59++(y55++(y51++(y48++(y45++(y42++(y37++(y6++(y3++x))))))))))⟩ K)))))))
 (wK (ZA false none 2 (.str []) [(0,(.p (.str []))),(1,(.p (.str [115,97])))] h5) fun t64 h65 y66=>
 C XB [v0,t64] h65 fun t67 h68 y69=>
 C ED [v0,(AI 0),(AI 5)] h68 fun t70 h71 y72=>
 pK (rA 6 none v9) fun t73=>
 wK (GA none t73 t67 h71) fun t74 h75 y76=>
 pK (rA 7 none v9) fun t77=>
 wK (GA none t77 t70 h75) fun t78 h79 y80=>
 NW C gl q2 ⟨[(0,v0),(5,v5),(6,v6),(7,v7),(9,v9),(11,v11),(12,v12)],h79,(y80++(y76++(y72++(y69++(y66++(y6++(y3++x)))))))⟩ K)))
 (NW C gl q2 ⟨[(0,v0),(5,v5),(6,v6),(7,v7),(9,v9),(11,v11),(12,v12),(72,t1)],h2,(y3++x)⟩ K)
theorem z5F {C gl q2 e h x K}:NW C gl (OW q2) ⟨e,h,x⟩ K=zF C gl q2 (bA e 0) (bA e 5) (bA e 6) (bA e 7) (bA e 9) (bA e 11) (bA e 12) h x K:=by kernel_rfl
theorem nJ {C gl e h x K}:NW C gl mM ⟨e,h,x⟩ K=zF C gl yP (bA e 0) (bA e 5) (bA e 6) (bA e 7) (bA e 9) (bA e 11) (bA e 12) h x K:=z5F
def PW (q1 q3:ACode):ACode:=.pr [0,5,6,7,8,9,11,12] (.seq (rg [mV 31 7,
fA 32 0 none 9,
lD 33 none 32,
uO 34 (.look (none,[2]) false (AI 0) 31 33),
bN 35 .add 34 (cI 1),
wO (.mupd (none,[2]) 31 33 35)] [0,5,6,7,8,9,11,12])
(.seq (rg [mV 36 7,
fA 37 0 none 9,
lD 38 none 37,
uO 39 (.look (none,[2]) false (AI 0) 36 38),
fA 40 1 none 9,
wO (.store none 40 39)] [0,5,6,7,8,9,11,12])
(.seq (.seq (rg [fA 41 3 none 9,
lD 42 none 41] [0,5,6,7,8,9,11,12,42])
(.block 2 (.seq (rg [bN 63 .eql 42 (cI 7),
mV 62 63] [0,5,6,7,8,9,11,12,62])
(.cond 62 (rg [mV 64 0,
uO 65 (.bsl false none 2 (.str []) [(0,(cS [115,97])),(1,(cS [115,98]))]),
cL 66 XB [64,65],
mV 67 0,
cL 68 dC [67,(cI 1),(cI 8)],
fA 69 6 none 9,
wO (.store none 69 66),
fA 70 7 none 9,
wO (.store none 70 68)] [0,5,6,7,9,11,12])
(.seq (rg [uO 43 (.bsl false none 3 (.str []) [(0,(cS [98,49])),(1,(cS [98,50])),(2,(cS [98,51]))]),
mV 44 8,
bN 45 .rem 44 (cI 3),
iA 46 none 43 45,
lD 47 none 46,
fA 48 4 none 9,
wO (.store none 48 47)] [0,5,6,7,8,9,11,12])
(.seq (.seq (rg [mV 49 8,
bN 50 .geq 49 (cI 3)] [0,5,6,7,9,11,12,50])
(.cond 50 (rg [mV 51 0,
uO 52 (.bsl false none 5 (.str []) [(0,(cS [98,49])),(1,(cS [98,49])),(2,(cS [98,50])),(3,(cS [98,51])),(4,(cS [98,52]))]),
cL 53 XB [51,52],
fA 54 4 none 9,
wO (.store none 54 53)] [0,5,6,7,9,11,12])
.skip))
q1))))))
q3)))
def zP:ACode:=PW lM mM
def gI (C:Hd)(gl:GL)(q1 q3:ACode)(v0 v5 v6 v7 v8 v9 v11 v12:AV)(h:aA)(x:Esc)(K:KT):Prop:=
 pK (rA 0 none v9) fun t1=>
 pK (oA none t1 h) fun t2=>
 pK (aC (none,[2]) false (AI 0) v7 t2 h) fun t3=>
 pK (eA .add t3 (AI 1)) fun t4=>
 wK (jC (none,[2]) v7 t2 t4 h) fun t5 h6 y7=>
 pK (rA 0 none v9) fun t8=>
 pK (oA none t8 h6) fun t9=>
 pK (aC (none,[2]) false (AI 0) v7 t9 h6) fun t10=>
 pK (rA 1 none v9) fun t11=>
 wK (GA none t11 t10 h6) fun t12 h13 y14=>
 pK (rA 3 none v9) fun t15=>
 pK (oA none t15 h13) fun t16=>
 pK (eA .eql t16 (AI 7)) fun t17=>
 qA t17 (wK (ZA false none 2 (.str []) [(0,(.p (.str [115,97]))),(1,(.p (.str [115,98])))] h13) fun t18 h19 y20=>
 C XB [v0,t18] h19 fun t21 h22 y23=>
 C dC [v0,(AI 1),(AI 8)] h22 fun t24 h25 y26=>
 pK (rA 6 none v9) fun t27=>
 wK (GA none t27 t21 h25) fun t28 h29 y30=>
 pK (rA 7 none v9) fun t31=>
 wK (GA none t31 t24 h29) fun t32 h33 y34=>
 NW C gl q3 ⟨[(0,v0),(5,v5),(6,v6),(7,v7),(9,v9),(11,v11),(12,v12)],h33,(y34++(y30++(y26++(y23++(y20++(y14++(y7++x)))))))⟩ K)
 (wK (ZA false none 3 (.str []) [(0,(.p (.str [98,49]))),(1,(.p (.str [98,50]))),(2,(.p (.str [98,51])))] h13) fun t35 h36 y37=>
 pK (eA .rem v8 (AI 3)) fun t38=>
 pK (uA none t35 t38 h36) fun t39=>
 pK (oA none t39 h36) fun t40=>
 pK (rA 4 none v9) fun t41=>
 wK (GA none t41 t40 h36) fun t42 h43 y44=>
 pK (eA .geq v8 (AI 3)) fun t45=>
 qA t45 (wK (ZA false none 5 (.str []) [(0,(.p (.str [98,49]))),(1,(.p (.str [98,49]))),(2,(.p (.str [98,50]))),(3,(.p (.str [98,51]))),(4,(.p (.str [98,52])))] h43) fun t46 h47 y48=>
 C XB [v0,t46] h47 fun t49 h50 y51=>
 pK (rA 4 none v9) fun t52=>
 wK (GA none t52 t49 h50) fun t53 h54 y55=>
 NW C gl q1 ⟨[(0,v0),(5,v5),(6,v6),(7,v7),(9,v9),(11,v11),(12,v12)],h54,(y55++(y51++(y48++(y44++(y37++(y14++(y7++x)))))))⟩ (OA 2 (TA C gl q3 K)))
 (NW C gl q1 ⟨[(0,v0),(5,v5),(6,v6),(7,v7),(9,v9),(11,v11),(12,v12),(50,t45)],h43,(y44++(y37++(y14++(y7++x))))⟩ (OA 2 (TA C gl q3 K))))
theorem z5G {C gl q1 q3 e h x K}:NW C gl (PW q1 q3) ⟨e,h,x⟩ K=gI C gl q1 q3 (bA e 0) (bA e 5) (bA e 6) (bA e 7) (bA e 8) (bA e 9) (bA e 11) (bA e 12) h x K:=by kernel_rfl
theorem qT {C gl e h x K}:NW C gl zP ⟨e,h,x⟩ K=gI C gl lM mM (bA e 0) (bA e 5) (bA e 6) (bA e 7) (bA e 8) (bA e 9) (bA e 11) (bA e 12) h x K:=z5G
def AP:ACode:=.pr [0,5,6,7,11,12] (rg [bN 115 .add 12 (cI 1),
mV 12 115] [0,5,6,7,11,12])
def oZ (C:Hd)(gl:GL)(v0 v5 v6 v7 v11 v12:AV)(h:aA)(x:Esc)(K:KT):Prop:=
 pK (eA .add v12 (AI 1)) fun t1=>
 K .normal ⟨[(0,v0),(5,v5),(6,v6),(7,v7),(11,v11),(12,t1)],h,x⟩
theorem zbM {C gl e h x K}:NW C gl AP ⟨e,h,x⟩ K=oZ C gl (bA e 0) (bA e 5) (bA e 6) (bA e 7) (bA e 11) (bA e 12) h x K:=by kernel_rfl
def QW (q4 q5:ACode):ACode:=.pr [0,5,6,7,11,12] (.seq (rg [bN 13 .lss 12 11] [0,5,6,7,11,12,13])
(.seq (.cond 13 .skip
(.exit 0))
(.seq (.block 1 (.seq (rg [mV 14 12,
mV 8 14] [0,5,6,7,8,11,12])
(.seq (rg [mV 15 6,
mV 16 0,
uO 17 (.bsl false none 5 (.int .i64 0) [(0,(cI 0)),(1,(cI 1)),(2,(cI 1)),(3,(cI 3)),(4,(cI 10))]),
cL 18 UC [16,17],
bN 19 .add 15 18,
mV 6 19] [0,5,6,7,8,11,12])
(.seq (rg [mV 20 0,
uO 21 (.bsl false none 3 (.str []) [(0,(cS [115,97])),(1,(cS [115,97])),(2,(cS [115,98]))]),
cL 22 XB [20,21],
mV 23 6,
mV 24 0,
uO 25 (.bsl false none 12 (.int .i64 0) [(0,(cI 2)),(1,(cI 2)),(2,(cI 2)),(3,(cI 3)),(4,(cI 3)),(5,(cI 4)),(6,(cI 4)),(7,(cI 5)),(8,(cI 5)),(9,(cI 6)),(10,(cI 7)),(11,(cI 1))]),
cL 26 UC [24,25],
uO 27 (.build [.p (.str []),.p (.int .i64 0),.p (.int .i64 0),.p (.int .i64 0),.p (.str []),.p (.str []),.p (.str []),.p (.int .i64 0)] [(0,1,22),(2,1,23),(3,1,26)]),
uO 9 (.alloc [.p (.str []),.p (.int .i64 0),.p (.int .i64 0),.p (.int .i64 0),.p (.str []),.p (.str []),.p (.str []),.p (.int .i64 0)]),
wO (.store (some 8) 9 27)] [0,5,6,7,8,9,11,12])
(.seq (.seq (rg [mV 28 8,
bN 29 .lss 28 (cI 3)] [0,5,6,7,8,9,11,12,29])
(.cond 29 (rg [fA 30 3 none 9,
wO (.store none 30 (cI 1))] [0,5,6,7,8,9,11,12])
.skip))
q4)))))
q5)))
def bK:ACode:=QW zP AP
def yS (C:Hd)(gl:GL)(q4 q5:ACode)(v0 v5 v6 v7 v11 v12:AV)(h:aA)(x:Esc)(K:KT):Prop:=
 pK (eA .lss v12 v11) fun t1=>
 qA t1 (wK (ZA false none 5 (.int .i64 0) [(0,(AI 0)),(1,(AI 1)),(2,(AI 1)),(3,(AI 3)),(4,(AI 10))] h) fun t2 h3 y4=>
 C UC [v0,t2] h3 fun t5 h6 y7=>
 pK (eA .add v6 t5) fun t8=>
 wK (ZA false none 3 (.str []) [(0,(.p (.str [115,97]))),(1,(.p (.str [115,97]))),(2,(.p (.str [115,98])))] h6) fun t9 h10 y11=>
 C XB [v0,t9] h10 fun t12 h13 y14=>
 wK (ZA false none 12 (.int .i64 0) [(0,(AI 2)),(1,(AI 2)),(2,(AI 2)),(3,(AI 3)),(4,(AI 3)),(5,(AI 4)),(6,(AI 4)),(7,(AI 5)),(8,(AI 5)),(9,(AI 6)),(10,(AI 7)),(11,(AI 1))] h13) fun t15 h16 y17=>
 C UC [v0,t15] h16 fun t18 h19 y20=>
 pK (mE [.p (.str []),.p (.int .i64 0),.p (.int .i64 0),.p (.int .i64 0),.p (.str []),.p (.str []),.p (.str []),.p (.int .i64 0)] [(0,1,t12),(2,1,t8),(3,1,t18)]) fun t21=>
 alK [.p (.str []),.p (.int .i64 0),.p (.int .i64 0),.p (.int .i64 0),.p (.str []),.p (.str []),.p (.str []),.p (.int .i64 0)] h19 fun t22 h23 y24=>
 wK (GA (some 8) t22 t21 h23) fun t25 h26 y27=>
 pK (eA .lss v12 (AI 3)) fun t28=>
 qA t28 (pK (rA 3 none t22) fun t29=>
 wK (GA none t29 (AI 1) h26) fun t30 h31 y32=>
 NW C gl q4 ⟨[(0,v0),(5,v5),(6,t8),(7,v7),(8,v12),(9,t22),(11,v11),(12,v12)],h31,(y32++(y27++(y24++(y20++(y17++(y14++(y11++(y7++(y4++x)))))))))⟩ (OA 1 (TA C gl q5 K)))
 (NW C gl q4 ⟨[(0,v0),(5,v5),(6,t8),(7,v7),(8,v12),(9,t22),(11,v11),(12,v12),(29,t28)],h26,(y27++(y24++(y20++(y17++(y14++(y11++(y7++(y4++x))))))))⟩ (OA 1 (TA C gl q5 K))))
 (K (.exit 0) ⟨[(0,v0),(5,v5),(6,v6),(7,v7),(11,v11),(12,v12),(13,t1)],h,x⟩)
theorem z5H {C gl q4 q5 e h x K}:NW C gl (QW q4 q5) ⟨e,h,x⟩ K=yS C gl q4 q5 (bA e 0) (bA e 5) (bA e 6) (bA e 7) (bA e 11) (bA e 12) h x K:=by kernel_rfl
theorem zbN {C gl e h x K}:NW C gl bK ⟨e,h,x⟩ K=yS C gl zP AP (bA e 0) (bA e 5) (bA e 6) (bA e 7) (bA e 11) (bA e 12) h x K:=z5H
theorem zfD {C gl e h x K}:NW C gl (.loop (.scope bK)) ⟨e,h,x⟩ K=YA C gl (.scope bK) K [(0,bA e 0),(5,bA e 5),(6,bA e 6),(7,bA e 7),(11,bA e 11),(12,bA e 12)] h x:=gE
def nM:ACode:=.pr [5] (.seq (rg [mV 116 5,
cL 117 nH [116,(.f FD)]] [5])
(.seq (rg [mV 118 5,
mV 4 118] [4])
.ret))
def pZ (C:Hd)(gl:GL)(v5:AV)(h:aA)(x:Esc)(K:KT):Prop:=
 C nH [v5,(.fn FD [])] h fun t1 h2 y3=>
 K .ret ⟨[(4,v5)],h2,(y3++x)⟩
theorem zbO {C gl e h x K}:NW C gl nM ⟨e,h,x⟩ K=pZ C gl (bA e 5) h x K:=by kernel_rfl
def MW (q6 q7:ACode):ACode:=(.seq (rg [mV 4 (.c (.p (.sl (some 8) [])))] [0,1])
(.seq (rg [uO 5 (.new0 (some 8))] [0,1,5])
(.seq (rg [mV 6 (cI 0)] [0,1,5,6])
(.seq (rg [uO 10 (.mkmap),
mV 7 10] [0,1,5,6,7])
(.seq (.seq (rg [mV 11 1,
mV 12 (cI 0)] [0,5,6,7,11,12])
(.block 0 (.loop (.scope q6))))
q7)))))
def WQ:AFun:=⟨2,[.t 4],MW bK nM,false,false⟩
def TN (C:Hd)(gl:GL)(q6 q7:ACode)(v0 v1:AV)(h:aA)(x:Esc)(K:KT):Prop:=
 nwK (some 8) h fun t1 h2 y3=>
 mmK h2 fun t4 h5 y6=>
 NW C gl (.loop (.scope q6)) ⟨[(0,v0),(5,t1),(6,(AI 0)),(7,t4),(11,v1),(12,(AI 0))],h5,(y6++(y3++x))⟩ (OA 0 (TA C gl q7 K))
theorem z5E {C gl q6 q7 v0 v1 h x K}:NW C gl (MW q6 q7) ⟨enter [v0,v1],h,x⟩ K=TN C gl q6 q7 v0 v1 h x K:=by kernel_rfl
theorem zbK {C gl v0 v1 h x K}:NW C gl WQ.body ⟨enter [v0,v1],h,x⟩ K=TN C gl bK nM v0 v1 h x K:=z5E
def z6S:ACode:=(.seq (rg [mV 6 (cI 0)] [0,1,2])
(.seq (.seq (rg [mV 7 2,
mV 8 1,
bN 9 .lss 7 8] [0,1,2,9])
(.cond 9 (.seq (rg [mV 10 1,
mV 6 10] [6])
.ret)
.skip))
(.seq (rg [mV 11 1,
mV 12 0,
mV 13 2,
mV 14 1,
bN 15 .sub 13 14,
bN 16 .add 15 (cI 1),
cL 17 TC [12,16],
bN 18 .add 11 17,
mV 6 18] [6])
.ret)))
def cR:AFun:=⟨3,[.t 6],z6S,false,false⟩
def DS (C:Hd)(gl:GL)(v0 v1 v2:AV)(h:aA)(x:Esc)(K:KT):Prop:=
 pK (eA .lss v2 v1) fun t1=>
 qA t1 (K .ret ⟨[(6,v1)],h,x⟩)
 (pK (eA .sub v2 v1) fun t2=>
 pK (eA .add t2 (AI 1)) fun t3=>
 C TC [v0,t3] h fun t4 h5 y6=>
 pK (eA .add v1 t4) fun t7=>
 K .ret ⟨[(6,t7)],h5,(y6++x)⟩)
theorem zbU {C gl v0 v1 v2 h x K}:NW C gl cR.body ⟨enter [v0,v1,v2],h,x⟩ K=DS C gl v0 v1 v2 h x K:=by kernel_rfl
def z6N:ACode:=(.seq (rg [mV 2 (cI 0)] [0])
(.seq (rg [mV 3 0,
uO 4 (.bsl false none 9 (.int .i64 0) [(0,(cI 5)),(1,(cI 10)),(2,(cI 20)),(3,(cI 40)),(4,(cI 100)),(5,(cI 500)),(6,(cI 0)),(7,(cI (-1))),(8,(cI 345686400000))]),
cL 5 UC [3,4],
mV 2 5] [2])
.ret))
def XQ:AFun:=⟨1,[.t 2],z6N,false,false⟩
def zS (C:Hd)(gl:GL)(v0:AV)(h:aA)(x:Esc)(K:KT):Prop:=
 wK (ZA false none 9 (.int .i64 0) [(0,(AI 5)),(1,(AI 10)),(2,(AI 20)),(3,(AI 40)),(4,(AI 100)),(5,(AI 500)),(6,(AI 0)),(7,(AI (-1))),(8,(AI 345686400000))] h) fun t1 h2 y3=>
 C UC [v0,t1] h2 fun t4 h5 y6=>
 K .ret ⟨[(2,t4)],h5,(y6++(y3++x))⟩
theorem zbP {C gl v0 h x K}:NW C gl XQ.body ⟨enter [v0],h,x⟩ K=zS C gl v0 h x K:=by kernel_rfl
def z6O:ACode:=(.seq (rg [mV 4 cF] [0,1])
(.seq (rg [mV 5 0,
mV 6 1,
cL 7 TC [5,6],
bN 8 .eql 7 (cI 0),
mV 4 8] [4])
.ret))
def YQ:AFun:=⟨2,[.t 4],z6O,false,false⟩
def BS (C:Hd)(gl:GL)(v0 v1:AV)(h:aA)(x:Esc)(K:KT):Prop:=
 C TC [v0,v1] h fun t1 h2 y3=>
 pK (eA .eql t1 (AI 0)) fun t4=>
 K .ret ⟨[(4,t4)],h2,(y3++x)⟩
theorem zbQ {C gl v0 v1 h x K}:NW C gl YQ.body ⟨enter [v0,v1],h,x⟩ K=BS C gl v0 v1 h x K:=by kernel_rfl
def z7d:ACode:=(.det (.seq (rg [mV 2 (.c (.p (.sl (some 8) [])))] [0])
(.seq (.seq (rg [mV 3 0,
uO 4 (.isnil 4 false 3)] [0,4])
(.condu 4 (.seq (rg [uO 2 (.new0 (some 8))] [2])
.ret)
.skip))
(.seq (rg [uO 5 (.bsl true (some 8) 0 (.agg [.str [],.int .i64 0,.int .i64 0,.int .i64 0,.str [],.str [],.str [],.int .i64 0]) []),
mV 6 0,
uO 7 (.app (some 8) 5 6),
mV 2 7] [2])
.ret))))
def vR:AFun:=⟨1,[.t 2],z7d,false,true⟩
def NS (C:Hd)(gl:GL)(v0:AV)(h:aA)(x:Esc)(K:KT):Prop:=
 pK (lP 4 false v0) fun t1=>
 TG t1 (nwK (some 8) h fun t2 h3 y4=>
 K .ret ⟨[(2,t2)],h3,(y4++x)⟩)
 (wK (ZA true (some 8) 0 (.agg [.str [],.int .i64 0,.int .i64 0,.int .i64 0,.str [],.str [],.str [],.int .i64 0]) [] h) fun t5 h6 y7=>
 wK (mF (some 8) t5 v0 h6) fun t8 h9 y10=>
 K .ret ⟨[(2,t8)],h9,(y10++(y7++x))⟩)
theorem zc4 {C gl v0 h x K}:NW C gl vR.body ⟨enter [v0],h,x⟩ K=NS C gl v0 h x K:=by kernel_rfl
def z6P:ACode:=(.seq (rg [mV 4 (cI 0)] [0,1])
(.seq (rg [mV 7 0,
uO 8 (.nilchk 7),
fA 9 1 none 8,
lD 10 none 9,
bN 11 .add 10 (cI 1),
uO 12 (.nilchk 7),
fA 13 1 none 12,
wO (.store none 13 11)] [0,1])
(.seq (.seq (rg [mV 14 0,
uO 15 (.nilchk 14),
fA 16 0 none 15,
lD 17 none 16,
lN 18 17,
bN 19 .eql 18 (cI 0)] [0,1,19])
(.cond 19 (.seq (rg [mV 20 0,
uO 21 (.nilchk 20),
fA 22 1 none 21,
lD 23 none 22,
bN 24 .mul 23 (cI 7919),
mV 25 1,
cL 26 FF [24,25],
mV 4 26] [4])
.ret)
.skip))
(.seq (dr [dF (mV 27 0) [0],
dF (uO 28 (.nilchk 27)) [27],
dF (fA 29 1 none 28) [28],
dF (lD 30 none 29) [29],
dF (bN 31 .sub 30 (cI 1)) [30],
dF (mV 32 0) [0],
dF (uO 33 (.nilchk 32)) [32],
dF (fA 34 0 none 33) [33],
dF (lD 35 none 34) [34],
dF (lN 36 35) [35],
dF (bN 37 .rem 31 36) [31,36],
dF (mV 5 37) [37]] [0,1,5])
(.seq (dr [dF (mV 38 0) [0],
dF (uO 39 (.nilchk 38)) [38],
dF (fA 40 1 none 39) [39],
dF (lD 41 none 40) [40],
dF (bN 42 .sub 41 (cI 1)) [41],
dF (mV 43 0) [0],
dF (uO 44 (.nilchk 43)) [43],
dF (fA 45 0 none 44) [44],
dF (lD 46 none 45) [45],
dF (lN 47 46) [46],
dF (bN 48 .quo 42 47) [42,47],
dF (mV 6 48) [48]] [0,1,5,6])
(.seq (rg [mV 49 0,
uO 50 (.nilchk 49),
fA 51 0 none 50,
lD 52 none 51,
mV 53 5,
iA 54 none 52 53,
lD 55 none 54,
cL 56 FF [55,(cI 1073741824)],
mV 57 6,
mV 58 5,
bN 59 .add (cI 7919) 58,
bN 60 .mul 57 59,
bN 61 .add 56 60,
mV 62 1,
cL 63 FF [61,62],
mV 4 63] [4])
.ret))))))
def ZQ:AFun:=⟨2,[.t 4],z6P,false,false⟩
def UN (C:Hd)(gl:GL)(v0 v1:AV)(h:aA)(x:Esc)(K:KT):Prop:=
 pK (cD v0) fun t1=>
 pK (rA 1 none t1) fun t2=>
 pK (oA none t2 h) fun t3=>
 pK (eA .add t3 (AI 1)) fun t4=>
 pK (cD v0) fun t5=>
 pK (rA 1 none t5) fun t6=>
 wK (GA none t6 t4 h) fun t7 h8 y9=>
 pK (cD v0) fun t10=>
 pK (rA 0 none t10) fun t11=>
 pK (oA none t11 h8) fun t12=>
 pK (QA t12) fun t13=>
 pK (eA .eql t13 (AI 0)) fun t14=>
 qA t14 (pK (cD v0) fun t15=>
 pK (rA 1 none t15) fun t16=>
 pK (oA none t16 h8) fun t17=>
 pK (eA .mul t17 (AI 7919)) fun t18=>
 C FF [t18,v1] h8 fun t19 h20 y21=>
 K .ret ⟨[(4,t19)],h20,(y21++(y9++x))⟩)
 (pK (cD v0) fun t22=>
 pK (rA 1 none t22) fun t23=>
 pK (oA none t23 h8) fun t24=>
 pK (eA .sub t24 (AI 1)) fun t25=>
 pK (cD v0) fun t26=>
 pK (rA 0 none t26) fun t27=>
 pK (oA none t27 h8) fun t28=>
 pK (QA t28) fun t29=>
 pK (eA .rem t25 t29) fun t30=>
 pK (cD v0) fun t31=>
 pK (rA 1 none t31) fun t32=>
 pK (oA none t32 h8) fun t33=>
 pK (eA .sub t33 (AI 1)) fun t34=>
 pK (cD v0) fun t35=>
 pK (rA 0 none t35) fun t36=>
 pK (oA none t36 h8) fun t37=>
 pK (QA t37) fun t38=>
 pK (eA .quo t34 t38) fun t39=>
 pK (cD v0) fun t40=>
 pK (rA 0 none t40) fun t41=>
 pK (oA none t41 h8) fun t42=>
 pK (uA none t42 t30 h8) fun t43=>
 pK (oA none t43 h8) fun t44=>
 C FF [t44,(AI 1073741824)] h8 fun t45 h46 y47=>
 pK (eA .add (AI 7919) t30) fun t48=>
 pK (eA .mul t39 t48) fun t49=>
 pK (eA .add t45 t49) fun t50=>
 C FF [t50,v1] h46 fun t51 h52 y53=>
 K .ret ⟨[(4,t51)],h52,(y53++(y47++(y9++x)))⟩)
theorem zbR {C gl v0 v1 h x K}:NW C gl ZQ.body ⟨enter [v0,v1],h,x⟩ K=UN C gl v0 v1 h x K:=by kernel_rfl
def xP:ACode:=.pr [4,5] (.seq (rg [lD 34 (some 8) 5,
wO (.store (some 8) 4 34)] [4])
.ret)
def lZ (C:Hd)(gl:GL)(v4 v5:AV)(h:aA)(x:Esc)(K:KT):Prop:=
 pK (oA (some 8) v5 h) fun t1=>
 wK (GA (some 8) v4 t1 h) fun t2 h3 y4=>
 K .ret ⟨[(4,v4)],h3,(y4++x)⟩
theorem zbJ {C gl e h x K}:NW C gl xP ⟨e,h,x⟩ K=lZ C gl (bA e 4) (bA e 5) h x K:=by kernel_rfl
def LW (q1:ACode):ACode:=(.seq (rg [uO 4 (.alloc [.p (.str []),.p (.int .i64 0),.p (.int .i64 0),.p (.int .i64 0),.p (.str []),.p (.str []),.p (.str []),.p (.int .i64 0)])] [0,1,4])
(.seq (rg [mV 6 0,
uO 7 (.bsl false none 3 (.str []) [(0,(cS [115,97])),(1,(cS [115,98])),(2,(cS [115,99]))]),
cL 8 XB [6,7],
mV 9 0,
uO 10 (.bsl false none 5 (.int .i64 0) [(0,(cI 0)),(1,(cI 0)),(2,(cI 0)),(3,(cI 0)),(4,(cI 1))]),
cL 11 UC [9,10],
mV 12 0,
uO 13 (.bsl false none 4 (.int .i64 0) [(0,(cI 0)),(1,(cI 500)),(2,(cI 500)),(3,(cI 500))]),
cL 14 UC [12,13],
mV 15 0,
uO 16 (.bsl false none 3 (.str []) [(0,(cS [98,57])),(1,(cS [98,57])),(2,(cS []))]),
cL 17 XB [15,16],
uO 18 (.build [.p (.str []),.p (.int .i64 0),.p (.int .i64 0),.p (.int .i64 0),.p (.str []),.p (.str []),.p (.str []),.p (.int .i64 0)] [(0,1,8),(1,1,11),(2,1,14),(3,1,(cI 1)),(4,1,17)]),
uO 5 (.alloc [.p (.str []),.p (.int .i64 0),.p (.int .i64 0),.p (.int .i64 0),.p (.str []),.p (.str []),.p (.str []),.p (.int .i64 0)]),
wO (.store (some 8) 5 18)] [0,1,4,5])
(.seq (.seq (rg [mV 19 1,
lN 20 19,
bN 21 .gtr 20 (cI 0),
mV 22 21,
gD 23 22 true (.mv 0),
gD 24 22 true (.call JC [23,(cI 3)]),
uO 25 (.pick 22 24 cF)] [1,4,5,25])
(.cond 25 (rg [mV 26 1,
mV 27 1,
lN 28 27,
bN 29 .sub 28 (cI 1),
iA 30 (some 8) 26 29,
fA 31 2 none 30,
lD 32 none 31,
fA 33 2 none 5,
wO (.store none 33 32)] [4,5])
.skip))
q1)))
def VQ:AFun:=⟨2,[.cell 4 (some 8)],LW xP,false,false⟩
def bJ (C:Hd)(gl:GL)(q1:ACode)(v0 v1:AV)(h:aA)(x:Esc)(K:KT):Prop:=
 alK [.p (.str []),.p (.int .i64 0),.p (.int .i64 0),.p (.int .i64 0),.p (.str []),.p (.str []),.p (.str []),.p (.int .i64 0)] h fun t1 h2 y3=>
 wK (ZA false none 3 (.str []) [(0,(.p (.str [115,97]))),(1,(.p (.str [115,98]))),(2,(.p (.str [115,99])))] h2) fun t4 h5 y6=>
 C XB [v0,t4] h5 fun t7 h8 y9=>
 wK (ZA false none 5 (.int .i64 0) [(0,(AI 0)),(1,(AI 0)),(2,(AI 0)),(3,(AI 0)),(4,(AI 1))] h8) fun t10 h11 y12=>
 C UC [v0,t10] h11 fun t13 h14 y15=>
 wK (ZA false none 4 (.int .i64 0) [(0,(AI 0)),(1,(AI 500)),(2,(AI 500)),(3,(AI 500))] h14) fun t16 h17 y18=>
 C UC [v0,t16] h17 fun t19 h20 y21=>
 wK (ZA false none 3 (.str []) [(0,(.p (.str [98,57]))),(1,(.p (.str [98,57]))),(2,(.p (.str [])))] h20) fun t22 h23 y24=>
 C XB [v0,t22] h23 fun t25 h26 y27=>
 pK (mE [.p (.str []),.p (.int .i64 0),.p (.int .i64 0),.p (.int .i64 0),.p (.str []),.p (.str []),.p (.str []),.p (.int .i64 0)] [(0,1,t7),(1,1,t13),(2,1,t19),(3,1,(AI 1)),(4,1,t25)]) fun t28=>
 alK [.p (.str []),.p (.int .i64 0),.p (.int .i64 0),.p (.int .i64 0),.p (.str []),.p (.str []),.p (.str []),.p (.int .i64 0)] h26 fun t29 h30 y31=>
 wK (GA (some 8) t29 t28 h30) fun t32 h33 y34=>
 pK (QA v1) fun t35=>
 pK (eA .gtr t35 (AI 0)) fun t36=>
 gM t36 true v0 h33 fun t37 h38 y39=>
 gV t36 true h38 (C JC [t37,(AI 3)] h38) fun t40 h41 y42=>
 pK (SA t36 t40 (AB false)) fun t43=>
 qA t43 (pK (QA v1) fun t44=>
 pK (eA .sub t44 (AI 1)) fun t45=>
 pK (uA (some 8) v1 t45 h41) fun t46=>
 pK (rA 2 none t46) fun t47=>
 pK (oA none t47 h41) fun t48=>
 pK (rA 2 none t29) fun t49=>
 wK (GA none t49 t48 h41) fun t50 h51 y52=>
 NW C gl q1 ⟨[(4,t1),(5,t29)],h51,(y52++(y42++(y39++(y34++(y31++(y27++(y24++(y21++(y18++(y15++(y12++(y9++(y6++(y3++x))))))))))))))⟩ K)
 (NW C gl q1 ⟨[(1,v1),(4,t1),(5,t29),(25,t43)],h41,(y42++(y39++(y34++(y31++(y27++(y24++(y21++(y18++(y15++(y12++(y9++(y6++(y3++x)))))))))))))⟩ K)
theorem z5D {C gl q1 v0 v1 h x K}:NW C gl (LW q1) ⟨enter [v0,v1],h,x⟩ K=bJ C gl q1 v0 v1 h x K:=by kernel_rfl
theorem zbI {C gl v0 v1 h x K}:NW C gl VQ.body ⟨enter [v0,v1],h,x⟩ K=bJ C gl xP v0 v1 h x K:=z5D
def z7k:ACode:=(.seq (rg [mV 4 (.c (.p (.sl (some 8) []))),
mV 5 (cI 0)] [0,1])
(.seq (.seq (rg [mV 8 0,
cL 9 rD [8],
mV 10 1,
cL 11 rD [10],
uO 12 (.bsl false none 2 (.int .i64 0) [(0,9),(1,11)]),
cL 13 EF [12],
mV 6 13] [0,1,6])
(.seq (rg [mV 14 6,
bN 15 .neq 14 (cI 0)] [0,1,6,15])
(.cond 15 (.seq (rg [mV 16 6,
mV 4 (.c (.p (.sl (some 8) []))),
mV 5 16] [4,5])
.ret)
.skip)))
(.seq (rg [mV 17 0,
mV 18 1,
uO 19 (.bsl false none 2 (.sl (some 8) []) [(0,17),(1,18)]),
cL 20 zJ [19],
mV 7 20] [7])
(.seq (rg [mV 21 7,
cL 22 nH [21,(.f wE)]] [7])
(.seq (rg [mV 23 7,
cL 24 yJ [23],
mV 7 24] [7])
(.seq (.block 0 (.seq (rg [mV 26 7,
cL 27 gF [26],
mV 25 27] [7,25])
(.cond 25 (.seq (rg [mV 4 (.c (.p (.sl (some 8) []))),
mV 5 (cI 13)] [4,5])
.ret)
(.seq (rg [mV 29 7,
lN 30 29,
bN 31 .gtr 30 (cI 2000),
mV 28 31] [7,28])
(.cond 28 (.seq (rg [mV 4 (.c (.p (.sl (some 8) []))),
mV 5 (cI 2)] [4,5])
.ret)
.skip)))))
(.seq (rg [mV 32 7,
mV 4 32,
mV 5 (cI 0)] [4,5])
.ret)))))))
def gL:AFun:=⟨2,[.t 4,.t 5],z7k,false,false⟩
def LL (C:Hd)(gl:GL)(v0 v1:AV)(h:aA)(x:Esc)(K:KT):Prop:=
 C rD [v0] h fun t1 h2 y3=>
 C rD [v1] h2 fun t4 h5 y6=>
 wK (ZA false none 2 (.int .i64 0) [(0,t1),(1,t4)] h5) fun t7 h8 y9=>
 C EF [t7] h8 fun t10 h11 y12=>
 pK (eA .neq t10 (AI 0)) fun t13=>
 qA t13 (K .ret ⟨[(4,(.p (.sl (some 8) []))),(5,t10)],h11,(y12++(y9++(y6++(y3++x))))⟩)
 (wK (ZA false none 2 (.sl (some 8) []) [(0,v0),(1,v1)] h11) fun t14 h15 y16=>
 C zJ [t14] h15 fun t17 h18 y19=>
 C nH [t17,(.fn wE [])] h18 fun t20 h21 y22=>
 C yJ [t17] h21 fun t23 h24 y25=>
 C gF [t23] h24 fun t26 h27 y28=>
 qA t26 (K .ret ⟨[(4,(.p (.sl (some 8) []))),(5,(AI 13))],h27,(y28++(y25++(y22++(y19++(y16++(y12++(y9++(y6++(y3++x)))))))))⟩)
 (pK (QA t23) fun t29=>
 pK (eA .gtr t29 (AI 2000)) fun t30=>
 qA t30 (K .ret ⟨[(4,(.p (.sl (some 8) []))),(5,(AI 2))],h27,(y28++(y25++(y22++(y19++(y16++(y12++(y9++(y6++(y3++x)))))))))⟩)
 (K .ret ⟨[(4,t23),(5,(AI 0))],h27,(y28++(y25++(y22++(y19++(y16++(y12++(y9++(y6++(y3++x)))))))))⟩)))
theorem zdJ {C gl v0 v1 h x K}:NW C gl gL.body ⟨enter [v0,v1],h,x⟩ K=LL C gl v0 v1 h x K:=by kernel_rfl
def YU:ACode:=.pr [0,3,18,19,20] (rg [bN 35 .add 20 (cI 1),
mV 20 35] [0,3,18,19,20])
def z0p (C:Hd)(gl:GL)(v0 v3 v18 v19 v20:AV)(h:aA)(x:Esc)(K:KT):Prop:=
 pK (eA .add v20 (AI 1)) fun t1=>
 K .normal ⟨[(0,v0),(3,v3),(18,v18),(19,v19),(20,t1)],h,x⟩
theorem zdL {C gl e h x K}:NW C gl YU ⟨e,h,x⟩ K=z0p C gl (bA e 0) (bA e 3) (bA e 18) (bA e 19) (bA e 20) h x K:=by kernel_rfl
def RX (q1:ACode):ACode:=.pr [0,3,18,19,20] (.seq (rg [bN 21 .lss 20 19] [0,3,18,19,20,21])
(.seq (.cond 21 .skip
(.exit 0))
(.seq (.block 1 (.seq (rg [iA 22 (some 8) 18 20,
lD 23 (some 8) 22,
uO 8 (.alloc [.p (.str []),.p (.int .i64 0),.p (.int .i64 0),.p (.int .i64 0),.p (.str []),.p (.str []),.p (.str []),.p (.int .i64 0)]),
wO (.store (some 8) 8 23)] [0,3,8,18,19,20])
(.seq (rg [fA 24 0 none 8,
lD 25 none 24,
fA 26 0 none 3,
lD 27 none 26,
bN 28 .eql 25 27] [0,3,8,18,19,20,28])
(.cond 28 (rg [fA 29 1 none 3,
lD 30 none 29,
fA 31 1 none 8,
lD 32 none 31,
uO 33 (.mx [30,32]),
fA 34 1 none 3,
wO (.store none 34 33)] [0,3,18,19,20])
.skip))))
q1)))
def HI:ACode:=RX YU
def kT (C:Hd)(gl:GL)(q1:ACode)(v0 v3 v18 v19 v20:AV)(h:aA)(x:Esc)(K:KT):Prop:=
 pK (eA .lss v20 v19) fun t1=>
 qA t1 (pK (uA (some 8) v18 v20 h) fun t2=>
 pK (oA (some 8) t2 h) fun t3=>
 alK [.p (.str []),.p (.int .i64 0),.p (.int .i64 0),.p (.int .i64 0),.p (.str []),.p (.str []),.p (.str []),.p (.int .i64 0)] h fun t4 h5 y6=>
 wK (GA (some 8) t4 t3 h5) fun t7 h8 y9=>
 pK (rA 0 none t4) fun t10=>
 pK (oA none t10 h8) fun t11=>
 pK (rA 0 none v3) fun t12=>
 pK (oA none t12 h8) fun t13=>
 pK (eA .eql t11 t13) fun t14=>
 qA t14 (pK (rA 1 none v3) fun t15=>
 pK (oA none t15 h8) fun t16=>
 pK (rA 1 none t4) fun t17=>
 pK (oA none t17 h8) fun t18=>
 pK (oMx [t16,t18]) fun t19=>
 pK (rA 1 none v3) fun t20=>
 wK (GA none t20 t19 h8) fun t21 h22 y23=>
 NW C gl q1 ⟨[(0,v0),(3,v3),(18,v18),(19,v19),(20,v20)],h22,(y23++(y9++(y6++x)))⟩ K)
 (NW C gl q1 ⟨[(0,v0),(3,v3),(8,t4),(18,v18),(19,v19),(20,v20),(28,t14)],h8,(y9++(y6++x))⟩ K))
 (K (.exit 0) ⟨[(0,v0),(3,v3),(18,v18),(19,v19),(20,v20),(21,t1)],h,x⟩)
theorem z64 {C gl q1 e h x K}:NW C gl (RX q1) ⟨e,h,x⟩ K=kT C gl q1 (bA e 0) (bA e 3) (bA e 18) (bA e 19) (bA e 20) h x K:=by kernel_rfl
theorem zdM {C gl e h x K}:NW C gl HI ⟨e,h,x⟩ K=kT C gl YU (bA e 0) (bA e 3) (bA e 18) (bA e 19) (bA e 20) h x K:=z64
theorem zgo {C gl e h x K}:NW C gl (.loop (.scope HI)) ⟨e,h,x⟩ K=YA C gl (.scope HI) K [(0,bA e 0),(3,bA e 3),(18,bA e 18),(19,bA e 19),(20,bA e 20)] h x:=gE
def FK:ACode:=.pr [0,3] (.seq (rg [fA 36 1 none 3,
lD 37 none 36,
bN 38 .add 37 (cI 1),
fA 39 1 none 3,
wO (.store none 39 38)] [0,3])
(.seq (.seq (rg [lD 40 (some 8) 3,
cL 41 qG [40],
mV 9 41] [0,3,9])
(.seq (rg [mV 42 9,
bN 43 .neq 42 (cI 0)] [0,3,9,43])
(.cond 43 (.seq (rg [mV 44 9,
mV 4 (.c (.p (.sl (some 8) []))),
mV 5 44] [4,5])
.ret)
.skip)))
(.seq (.block 2 (.seq (dr [dF (mV 46 0) [0],
dF (lN 47 46) [46],
dF (bN 48 .gtr 47 (cI 0)) [47],
dF (mV 49 48) [48],
dF (gD 50 49 true (.load (some 8) 3)) [3,49],
dF (gD 51 49 true (.mv 0)) [0,49],
dF (gD 52 49 true (.mv 0)) [0,49],
dF (gD 53 49 true (.len 52)) [52,49],
dF (gD 54 49 true (.bin .sub 53 (cI 1))) [53,49],
dF (gD 55 49 true (.iaddr (some 8) 51 54)) [51,54,49],
dF (gD 56 49 true (.load (some 8) 55)) [55,49],
dT (gD 57 49 true (.call wE [50,56])) [50,56,49],
dF (gD 58 49 true (.bin .leq 57 (cI 0))) [57,49],
dF (uO 59 (.pick 49 58 cF)) [49,58],
dF (mV 45 59) [59]] [0,3,45])
(.cond 45 (.seq (rg [mV 4 (.c (.p (.sl (some 8) []))),
mV 5 (cI 7)] [4,5])
.ret)
(.seq (rg [mV 61 0,
lN 62 61,
bN 63 .geq 62 (cI 2000),
mV 60 63] [0,3,60])
(.cond 60 (.seq (rg [mV 4 (.c (.p (.sl (some 8) []))),
mV 5 (cI 2)] [4,5])
.ret)
.skip)))))
(.seq (dr [dF (mV 64 0) [0],
dT (cL 65 uE [64]) [64],
dA (lD 66 (some 8) 3) [3] false [1] [],
dA (uO 67 (.bsl false (some 8) 1 (.agg [.str [],.int .i64 0,.int .i64 0,.int .i64 0,.str [],.str [],.str [],.int .i64 0]) [(0,66)])) [66] false [1] [],
dT (uO 68 (.app (some 8) 65 67)) [65,67],
dF (mV 4 68) [68],
dF (mV 5 (cI 0)) []] [4,5])
.ret))))
def ML (C:Hd)(gl:GL)(v0 v3:AV)(h:aA)(x:Esc)(K:KT):Prop:=
 pK (rA 1 none v3) fun t1=>
 pK (oA none t1 h) fun t2=>
 pK (eA .add t2 (AI 1)) fun t3=>
 pK (rA 1 none v3) fun t4=>
 wK (GA none t4 t3 h) fun t5 h6 y7=>
 pK (oA (some 8) v3 h6) fun t8=>
 C qG [t8] h6 fun t9 h10 y11=>
 pK (eA .neq t9 (AI 0)) fun t12=>
 qA t12 (K .ret ⟨[(4,(.p (.sl (some 8) []))),(5,t9)],h10,(y11++(y7++x))⟩)
 (pK (QA v0) fun t13=>
 pK (eA .gtr t13 (AI 0)) fun t14=>
 gP t14 true (oA (some 8) v3 h10) h10 fun t15 h16 y17=>
 gM t14 true v0 h16 fun t18 h19 y20=>
 gM t14 true v0 h19 fun t21 h22 y23=>
 gP t14 true (QA t21) h22 fun t24 h25 y26=>
 gP t14 true (eA .sub t24 (AI 1)) h25 fun t27 h28 y29=>
 gP t14 true (uA (some 8) t18 t27 h28) h28 fun t30 h31 y32=>
 gP t14 true (oA (some 8) t30 h31) h31 fun t33 h34 y35=>
 gV t14 true h34 (BB C wE [t15,t33] h34) fun t36 h37 y38=>
 gP t14 true (eA .leq t36 (AI 0)) h37 fun t39 h40 y41=>
 pK (SA t14 t39 (AB false)) fun t42=>
 qA t42 (K .ret ⟨[(4,(.p (.sl (some 8) []))),(5,(AI 7))],h40,(y41++(y38++(y35++(y32++(y29++(y26++(y23++(y20++(y17++(y11++(y7++x)))))))))))⟩)
 (pK (QA v0) fun t43=>
 pK (eA .geq t43 (AI 2000)) fun t44=>
 qA t44 (K .ret ⟨[(4,(.p (.sl (some 8) []))),(5,(AI 2))],h40,(y41++(y38++(y35++(y32++(y29++(y26++(y23++(y20++(y17++(y11++(y7++x)))))))))))⟩)
 (BB C uE [v0] h40 fun t45 h46 y47=>
 pK (oA (some 8) v3 h46) fun t48=>
 (pK (oA (some 8) v3 h40) fun v=>(fun u (g1:aA) (y1:Esc)=>u=t48∧g1=h40∧y1=[]) v h40 [])∧(wK (ZA false (some 8) 1 (.agg [.str [],.int .i64 0,.int .i64 0,.int .i64 0,.str [],.str [],.str [],.int .i64 0]) [(0,t48)] h46) fun t49 h50 y51=>
 (h50=h46∧y51=[])∧((wK (ZA false (some 8) 1 (.agg [.str [],.int .i64 0,.int .i64 0,.int .i64 0,.str [],.str [],.str [],.int .i64 0]) [(0,t48)] h40) (fun u (g1:aA) (y1:Esc)=>u=t49∧g1=h40∧y1=[]))∧(wK (mF (some 8) t45 t49 h50) fun t52 h53 y54=>
 K .ret ⟨[(4,t52),(5,(AI 0))],h53,(y54++(y51++(y47++(y41++(y38++(y35++(y32++(y29++(y26++(y23++(y20++(y17++(y11++(y7++x))))))))))))))⟩))))))
theorem zO {C gl e h x K}:NW C gl FK ⟨e,h,x⟩ K=ML C gl (bA e 0) (bA e 3) h x K:=by kernel_rfl
def QX (q2 q3:ACode):ACode:=(.seq (rg [uO 3 (.box 1),
mV 4 (.c (.p (.sl (some 8) []))),
mV 5 (cI 0)] [0,3])
(.seq (.seq (rg [mV 10 0,
cL 11 rD [10],
mV 6 11] [0,3,6])
(.seq (rg [mV 12 6,
bN 13 .neq 12 (cI 0)] [0,3,6,13])
(.cond 13 (.seq (rg [mV 14 6,
mV 4 (.c (.p (.sl (some 8) []))),
mV 5 14] [4,5])
.ret)
.skip)))
(.seq (.seq (rg [fA 15 1 none 3,
lD 16 none 15,
bN 17 .neq 16 (cI 0)] [0,3,17])
(.cond 17 (.seq (rg [mV 4 (.c (.p (.sl (some 8) []))),
mV 5 (cI 3)] [4,5])
.ret)
.skip))
(.seq (.seq (rg [mV 18 0,
lN 19 18,
mV 20 (cI 0)] [0,3,18,19,20])
(.block 0 (.loop (.scope q2))))
q3))))
def OR:AFun:=⟨2,[.t 4,.t 5],QX HI FK,false,false⟩
def jJ (C:Hd)(gl:GL)(q2 q3:ACode)(v0 v1:AV)(h:aA)(x:Esc)(K:KT):Prop:=
 wK (jD v1 h) fun t1 h2 y3=>
 C rD [v0] h2 fun t4 h5 y6=>
 pK (eA .neq t4 (AI 0)) fun t7=>
 qA t7 (K .ret ⟨[(4,(.p (.sl (some 8) []))),(5,t4)],h5,(y6++(y3++x))⟩)
 (pK (rA 1 none t1) fun t8=>
 pK (oA none t8 h5) fun t9=>
 pK (eA .neq t9 (AI 0)) fun t10=>
 qA t10 (K .ret ⟨[(4,(.p (.sl (some 8) []))),(5,(AI 3))],h5,(y6++(y3++x))⟩)
 (pK (QA v0) fun t11=>
 NW C gl (.loop (.scope q2)) ⟨[(0,v0),(3,t1),(18,v0),(19,t11),(20,(AI 0))],h5,(y6++(y3++x))⟩ (OA 0 (TA C gl q3 K))))
theorem z63 {C gl q2 q3 v0 v1 h x K}:NW C gl (QX q2 q3) ⟨enter [v0,v1],h,x⟩ K=jJ C gl q2 q3 v0 v1 h x K:=by kernel_rfl
theorem zdK {C gl v0 v1 h x K}:NW C gl OR.body ⟨enter [v0,v1],h,x⟩ K=jJ C gl HI FK v0 v1 h x K:=z63
def XU:ACode:=.pr [7,22,23,24] (rg [bN 34 .add 24 (cI 1),
mV 24 34] [7,22,23,24])
def z0n (C:Hd)(gl:GL)(v7 v22 v23 v24:AV)(h:aA)(x:Esc)(K:KT):Prop:=
 pK (eA .add v24 (AI 1)) fun t1=>
 K .normal ⟨[(7,v7),(22,v22),(23,v23),(24,t1)],h,x⟩
theorem zdG {C gl e h x K}:NW C gl XU ⟨e,h,x⟩ K=z0n C gl (bA e 7) (bA e 22) (bA e 23) (bA e 24) h x K:=by kernel_rfl
def PX (q1:ACode):ACode:=.pr [7,22,23,24] (.seq (rg [bN 25 .lss 24 23] [7,22,23,24,25])
(.seq (.cond 25 .skip
(.exit 0))
(.seq (.block 1 (.seq (rg [mV 26 24,
iA 27 none 22 24,
lD 28 none 27,
mV 8 26,
mV 9 28] [7,8,9,22,23,24])
(.seq (rg [mV 29 9] [7,8,22,23,24,29])
(.cond 29 (rg [mV 30 7,
mV 31 8,
uO 32 (.bsl false none 1 (.int .i64 0) [(0,31)]),
uO 33 (.app none 30 32),
mV 7 33] [7,22,23,24])
.skip))))
q1)))
def EK:ACode:=PX XU
def jT (C:Hd)(gl:GL)(q1:ACode)(v7 v22 v23 v24:AV)(h:aA)(x:Esc)(K:KT):Prop:=
 pK (eA .lss v24 v23) fun t1=>
 qA t1 (pK (uA none v22 v24 h) fun t2=>
 pK (oA none t2 h) fun t3=>
 qA t3 (wK (ZA false none 1 (.int .i64 0) [(0,v24)] h) fun t4 h5 y6=>
 wK (mF none v7 t4 h5) fun t7 h8 y9=>
 NW C gl q1 ⟨[(7,t7),(22,v22),(23,v23),(24,v24)],h8,(y9++(y6++x))⟩ K)
 (NW C gl q1 ⟨[(7,v7),(8,v24),(22,v22),(23,v23),(24,v24),(29,t3)],h,x⟩ K))
 (K (.exit 0) ⟨[(7,v7),(22,v22),(23,v23),(24,v24),(25,t1)],h,x⟩)
theorem z62 {C gl q1 e h x K}:NW C gl (PX q1) ⟨e,h,x⟩ K=jT C gl q1 (bA e 7) (bA e 22) (bA e 23) (bA e 24) h x K:=by kernel_rfl
theorem zdH {C gl e h x K}:NW C gl EK ⟨e,h,x⟩ K=jT C gl XU (bA e 7) (bA e 22) (bA e 23) (bA e 24) h x K:=z62
theorem zgn {C gl e h x K}:NW C gl (.loop (.scope EK)) ⟨e,h,x⟩ K=YA C gl (.scope EK) K [(7,bA e 7),(22,bA e 22),(23,bA e 23),(24,bA e 24)] h x:=gE
def YP:ACode:=.pr [7] (.seq (rg [mV 35 7,
mV 4 35,
mV 5 (cI 0)] [4,5])
.ret)
def z0o (C:Hd)(gl:GL)(v7:AV)(h:aA)(x:Esc)(K:KT):Prop:=
 K .ret ⟨[(4,v7),(5,(AI 0))],h,x⟩
theorem zdI {C gl e h x K}:NW C gl YP ⟨e,h,x⟩ K=z0o C gl (bA e 7) h x K:=by kernel_rfl
def OX (q2 q3:ACode):ACode:=(.seq (rg [mV 4 (.c (.p (.sl none []))),
mV 5 (cI 0)] [0,1])
(.seq (.seq (rg [mV 10 0,
cL 11 rD [10],
mV 12 1,
cL 13 rH [12],
uO 14 (.bsl false none 2 (.int .i64 0) [(0,11),(1,13)]),
cL 15 EF [14],
mV 6 15] [0,1,6])
(.seq (rg [mV 16 6,
bN 17 .neq 16 (cI 0)] [0,1,6,17])
(.cond 17 (.seq (rg [mV 18 6,
mV 4 (.c (.p (.sl none []))),
mV 5 18] [4,5])
.ret)
.skip)))
(.seq (rg [uO 7 (.new0 none)] [0,1,7])
(.seq (.seq (rg [mV 19 0,
mV 20 1,
cL 21 sH [19,20],
cL 22 qH [21],
lN 23 22,
mV 24 (cI 0)] [7,22,23,24])
(.block 0 (.loop (.scope q2))))
q3))))
def NR:AFun:=⟨2,[.t 4,.t 5],OX EK YP,false,false⟩
def KL (C:Hd)(gl:GL)(q2 q3:ACode)(v0 v1:AV)(h:aA)(x:Esc)(K:KT):Prop:=
 C rD [v0] h fun t1 h2 y3=>
 C rH [v1] h2 fun t4 h5 y6=>
 wK (ZA false none 2 (.int .i64 0) [(0,t1),(1,t4)] h5) fun t7 h8 y9=>
 C EF [t7] h8 fun t10 h11 y12=>
 pK (eA .neq t10 (AI 0)) fun t13=>
 qA t13 (K .ret ⟨[(4,(.p (.sl none []))),(5,t10)],h11,(y12++(y9++(y6++(y3++x))))⟩)
 (nwK none h11 fun t14 h15 y16=>
 C sH [v0,v1] h15 fun t17 h18 y19=>
 C qH [t17] h18 fun t20 h21 y22=>
 pK (QA t20) fun t23=>
 NW C gl (.loop (.scope q2)) ⟨[(7,t14),(22,t20),(23,t23),(24,(AI 0))],h21,(y22++(y19++(y16++(y12++(y9++(y6++(y3++x)))))))⟩ (OA 0 (TA C gl q3 K)))
theorem z61 {C gl q2 q3 v0 v1 h x K}:NW C gl (OX q2 q3) ⟨enter [v0,v1],h,x⟩ K=KL C gl q2 q3 v0 v1 h x K:=by kernel_rfl
theorem zdF {C gl v0 v1 h x K}:NW C gl NR.body ⟨enter [v0,v1],h,x⟩ K=KL C gl EK YP v0 v1 h x K:=z61
end Go.Am
end
section
/- The functions asv abstract code,and asv formulas AE their values: printed by program out of the translation. -/
set_option linter.unusedVariables false
set_option maxRecDepth 100000
namespace Go.Am
def dK:ACode:=.pr [0,11,12,13] (.seq (rg [bN 14 .lss 13 12] [0,11,12,13,14])
(.seq (.cond 14 .skip
(.exit 0))
(.seq (.block 1 (.seq (rg [mV 15 13,
iA 16 (some 8) 11 13,
lD 17 (some 8) 16,
uO 4 (.alloc [.p (.str []),.p (.int .i64 0),.p (.int .i64 0),.p (.int .i64 0),.p (.str []),.p (.str []),.p (.str []),.p (.int .i64 0)]),
mV 3 15,
wO (.store (some 8) 4 17)] [0,3,4,11,12,13])
(.seq (.seq (rg [lD 18 (some 8) 4,
cL 19 dH [18],
mV 5 19] [0,3,4,5,11,12,13])
(.seq (rg [mV 20 5,
bN 21 .neq 20 (cI 0)] [0,3,4,5,11,12,13,21])
(.cond 21 (.seq (rg [mV 22 5,
mV 2 22] [2])
.ret)
.skip)))
(.seq (dr [dF (mV 23 3) [3],
dF (bN 24 .gtr 23 (cI 0)) [23],
dF (mV 25 24) [24],
dF (gD 26 25 true (.mv 0)) [0,25],
dF (gD 27 25 true (.mv 3)) [3,25],
dF (gD 28 25 true (.bin .sub 27 (cI 1))) [27,25],
dF (gD 29 25 true (.iaddr (some 8) 26 28)) [26,28,25],
dF (gD 30 25 true (.load (some 8) 29)) [29,25],
dF (gD 31 25 true (.load (some 8) 4)) [4,25],
dT (gD 32 25 true (.call FD [30,31])) [30,31,25],
dF (gD 33 25 true (.bin .geq 32 (cI 0))) [32,25],
dF (uO 34 (.pick 25 33 cF)) [25,33]] [0,11,12,13,34])
(.cond 34 (.seq (rg [mV 2 (cI 7)] [2])
.ret)
.skip)))))
(rg [bN 35 .add 13 (cI 1),
mV 13 35] [0,11,12,13]))))
def sZ (C:Hd)(gl:GL)(v0 v11 v12 v13:AV)(h:aA)(x:Esc)(K:KT):Prop:=
 pK (eA .lss v13 v12) fun t1=>
 qA t1 (pK (uA (some 8) v11 v13 h) fun t2=>
 pK (oA (some 8) t2 h) fun t3=>
 alK [.p (.str []),.p (.int .i64 0),.p (.int .i64 0),.p (.int .i64 0),.p (.str []),.p (.str []),.p (.str []),.p (.int .i64 0)] h fun t4 h5 y6=>
 wK (GA (some 8) t4 t3 h5) fun t7 h8 y9=>
 pK (oA (some 8) t4 h8) fun t10=>
 C dH [t10] h8 fun t11 h12 y13=>
 pK (eA .neq t11 (AI 0)) fun t14=>
 qA t14 (K .ret ⟨[(2,t11)],h12,(y13++(y9++(y6++x)))⟩)
 (pK (eA .gtr v13 (AI 0)) fun t15=>
 gM t15 true v0 h12 fun t16 h17 y18=>
 gM t15 true v13 h17 fun t19 h20 y21=>
 gP t15 true (eA .sub t19 (AI 1)) h20 fun t22 h23 y24=>
 gP t15 true (uA (some 8) t16 t22 h23) h23 fun t25 h26 y27=>
 gP t15 true (oA (some 8) t25 h26) h26 fun t28 h29 y30=>
 gP t15 true (oA (some 8) t4 h29) h29 fun t31 h32 y33=>
 gV t15 true h32 (BB C FD [t28,t31] h32) fun t34 h35 y36=>
 gP t15 true (eA .geq t34 (AI 0)) h35 fun t37 h38 y39=>
 pK (SA t15 t37 (AB false)) fun t40=>
 qA t40 (K .ret ⟨[(2,(AI 7))],h38,(y39++(y36++(y33++(y30++(y27++(y24++(y21++(y18++(y13++(y9++(y6++x)))))))))))⟩)
 (pK (eA .add v13 (AI 1)) fun t41=>
 K .normal ⟨[(0,v0),(11,v11),(12,v12),(13,t41)],h38,(y39++(y36++(y33++(y30++(y27++(y24++(y21++(y18++(y13++(y9++(y6++x)))))))))))⟩)))
 (K (.exit 0) ⟨[(0,v0),(11,v11),(12,v12),(13,v13),(14,t1)],h,x⟩)
theorem zcb {C gl e h x K}:NW C gl dK ⟨e,h,x⟩ K=sZ C gl (bA e 0) (bA e 11) (bA e 12) (bA e 13) h x K:=by kernel_rfl
theorem zfF {C gl e h x K}:NW C gl (.loop (.scope dK)) ⟨e,h,x⟩ K=YA C gl (.scope dK) K [(0,bA e 0),(11,bA e 11),(12,bA e 12),(13,bA e 13)] h x:=gE
def oM:ACode:=.pr [0,36,37,38] (.seq (rg [bN 39 .lss 38 37] [0,36,37,38,39])
(.seq (.cond 39 .skip
(.exit 2))
(.seq (.block 3 (.seq (rg [mV 40 38,
iA 41 (some 8) 36 38,
lD 42 (some 8) 41,
uO 7 (.alloc [.p (.str []),.p (.int .i64 0),.p (.int .i64 0),.p (.int .i64 0),.p (.str []),.p (.str []),.p (.str []),.p (.int .i64 0)]),
mV 6 40,
wO (.store (some 8) 7 42)] [0,6,7,36,37,38])
(.seq (rg [mV 43 0,
mV 44 6,
uO 45 (.slice (some 8) 43 none (some 44) none),
uO 46 (.mkfn qI [7]),
cL 47 BJ [45,46]] [0,36,37,38,47])
(.cond 47 (.seq (rg [mV 2 (cI 6)] [2])
.ret)
.skip))))
(rg [bN 48 .add 38 (cI 1),
mV 38 48] [0,36,37,38]))))
def tZ (C:Hd)(gl:GL)(v0 v36 v37 v38:AV)(h:aA)(x:Esc)(K:KT):Prop:=
 pK (eA .lss v38 v37) fun t1=>
 qA t1 (pK (uA (some 8) v36 v38 h) fun t2=>
 pK (oA (some 8) t2 h) fun t3=>
 alK [.p (.str []),.p (.int .i64 0),.p (.int .i64 0),.p (.int .i64 0),.p (.str []),.p (.str []),.p (.str []),.p (.int .i64 0)] h fun t4 h5 y6=>
 wK (GA (some 8) t4 t3 h5) fun t7 h8 y9=>
 pK (QC (some 8) v0 none (some v38) none h8) fun t10=>
 C BJ [t10,(.fn qI [t4])] h8 fun t11 h12 y13=>
 qA t11 (K .ret ⟨[(2,(AI 6))],h12,(y13++(y9++(y6++x)))⟩)
 (pK (eA .add v38 (AI 1)) fun t14=>
 K .normal ⟨[(0,v0),(36,v36),(37,v37),(38,t14)],h12,(y13++(y9++(y6++x)))⟩))
 (K (.exit 2) ⟨[(0,v0),(36,v36),(37,v37),(38,v38),(39,t1)],h,x⟩)
theorem zcc {C gl e h x K}:NW C gl oM ⟨e,h,x⟩ K=tZ C gl (bA e 0) (bA e 36) (bA e 37) (bA e 38) h x K:=by kernel_rfl
theorem zfG {C gl e h x K}:NW C gl (.loop (.scope oM)) ⟨e,h,x⟩ K=YA C gl (.scope oM) K [(0,bA e 0),(36,bA e 36),(37,bA e 37),(38,bA e 38)] h x:=gE
def GU:ACode:=.pr [] (.seq (rg [mV 2 (cI 0)] [2])
.ret)
def uZ (C:Hd)(gl:GL)(h:aA)(x:Esc)(K:KT):Prop:=
 K .ret ⟨[(2,(AI 0))],h,x⟩
theorem zcd {C gl e h x K}:NW C gl GU ⟨e,h,x⟩ K=uZ C gl h x K:=by kernel_rfl
def UW (q2 q3:ACode):ACode:=.pr [0] (.seq (.seq (rg [mV 36 0,
lN 37 36,
mV 38 (cI 0)] [0,36,37,38])
(.block 2 (.loop (.scope q2))))
q3)
def CP:ACode:=UW oM GU
def WN (C:Hd)(gl:GL)(q2 q3:ACode)(v0:AV)(h:aA)(x:Esc)(K:KT):Prop:=
 pK (QA v0) fun t1=>
 NW C gl (.loop (.scope q2)) ⟨[(0,v0),(36,v0),(37,t1),(38,(AI 0))],h,x⟩ (OA 2 (TA C gl q3 K))
theorem z5L {C gl q2 q3 e h x K}:NW C gl (UW q2 q3) ⟨e,h,x⟩ K=WN C gl q2 q3 (bA e 0) h x K:=by kernel_rfl
theorem rT {C gl e h x K}:NW C gl CP ⟨e,h,x⟩ K=WN C gl oM GU (bA e 0) h x K:=z5L
def TW (q1 q4:ACode):ACode:=(.seq (rg [mV 2 (cI 0)] [0])
(.seq (.seq (rg [mV 8 0,
lN 9 8,
bN 10 .gtr 9 (cI 2000)] [0,10])
(.cond 10 (.seq (rg [mV 2 (cI 2)] [2])
.ret)
.skip))
(.seq (.seq (rg [mV 11 0,
lN 12 11,
mV 13 (cI 0)] [0,11,12,13])
(.block 0 (.loop (.scope q1))))
q4)))
def eL:AFun:=⟨1,[.t 2],TW dK CP,false,false⟩
def sL (C:Hd)(gl:GL)(q1 q4:ACode)(v0:AV)(h:aA)(x:Esc)(K:KT):Prop:=
 pK (QA v0) fun t1=>
 pK (eA .gtr t1 (AI 2000)) fun t2=>
 qA t2 (K .ret ⟨[(2,(AI 2))],h,x⟩)
 (pK (QA v0) fun t3=>
 NW C gl (.loop (.scope q1)) ⟨[(0,v0),(11,v0),(12,t3),(13,(AI 0))],h,x⟩ (OA 0 (TA C gl q4 K)))
theorem z5K {C gl q1 q4 v0 h x K}:NW C gl (TW q1 q4) ⟨enter [v0],h,x⟩ K=sL C gl q1 q4 v0 h x K:=by kernel_rfl
theorem zca {C gl v0 h x K}:NW C gl eL.body ⟨enter [v0],h,x⟩ K=sL C gl dK CP v0 h x K:=z5K
def aK:ACode:=.pr [5,6,7] (.seq (rg [bN 8 .lss 7 6] [5,6,7,8])
(.seq (.cond 8 .skip
(.exit 0))
(.seq (.block 1 (.seq (rg [iA 9 none 5 7,
lD 10 none 9,
mV 4 10] [4,5,6,7])
(.seq (rg [mV 11 4,
bN 12 .neq 11 (cI 0)] [4,5,6,7,12])
(.cond 12 (.seq (rg [mV 13 4,
mV 2 13] [2])
.ret)
.skip))))
(rg [bN 14 .add 7 (cI 1),
mV 7 14] [5,6,7]))))
def hZ (C:Hd)(gl:GL)(v5 v6 v7:AV)(h:aA)(x:Esc)(K:KT):Prop:=
 pK (eA .lss v7 v6) fun t1=>
 qA t1 (pK (uA none v5 v7 h) fun t2=>
 pK (oA none t2 h) fun t3=>
 pK (eA .neq t3 (AI 0)) fun t4=>
 qA t4 (K .ret ⟨[(2,t3)],h,x⟩)
 (pK (eA .add v7 (AI 1)) fun t5=>
 K .normal ⟨[(5,v5),(6,v6),(7,t5)],h,x⟩))
 (K (.exit 0) ⟨[(5,v5),(6,v6),(7,v7),(8,t1)],h,x⟩)
theorem zbB {C gl e h x K}:NW C gl aK ⟨e,h,x⟩ K=hZ C gl (bA e 5) (bA e 6) (bA e 7) h x K:=by kernel_rfl
theorem zfC {C gl e h x K}:NW C gl (.loop aK) ⟨e,h,x⟩ K=YA C gl aK K [(5,bA e 5),(6,bA e 6),(7,bA e 7)] h x:=RB
def vP:ACode:=.pr [] (.seq (rg [mV 2 (cI 0)] [2])
.ret)
def iZ (C:Hd)(gl:GL)(h:aA)(x:Esc)(K:KT):Prop:=
 K .ret ⟨[(2,(AI 0))],h,x⟩
theorem zbC {C gl e h x K}:NW C gl vP ⟨e,h,x⟩ K=iZ C gl h x K:=by kernel_rfl
def GW (q1 q2:ACode):ACode:=(.seq (rg [mV 2 (cI 0)] [0])
(.seq (.seq (rg [mV 5 0,
lN 6 5,
mV 7 (cI 0)] [5,6,7])
(.block 0 (.loop q1)))
q2))
def SQ:AFun:=⟨1,[.t 2],GW aK vP,false,false⟩
def QN (C:Hd)(gl:GL)(q1 q2:ACode)(v0:AV)(h:aA)(x:Esc)(K:KT):Prop:=
 pK (QA v0) fun t1=>
 NW C gl (.loop q1) ⟨[(5,v0),(6,t1),(7,(AI 0))],h,x⟩ (OA 0 (TA C gl q2 K))
theorem z58 {C gl q1 q2 v0 h x K}:NW C gl (GW q1 q2) ⟨enter [v0],h,x⟩ K=QN C gl q1 q2 v0 h x K:=by kernel_rfl
theorem zbA {C gl v0 h x K}:NW C gl SQ.body ⟨enter [v0],h,x⟩ K=QN C gl aK vP v0 h x K:=z58
def z6Z:ACode:=(.seq (rg [mV 2 (cI 0)] [0])
(.seq (.seq (rg [mV 3 0,
cL 4 eH [3],
uO 5 (.un .not 4)] [5])
(.cond 5 (.seq (rg [mV 2 (cI 1)] [2])
.ret)
.skip))
(.seq (rg [mV 2 (cI 0)] [2])
.ret)))
def nR:AFun:=⟨1,[.t 2],z6Z,false,false⟩
def ZN (C:Hd)(gl:GL)(v0:AV)(h:aA)(x:Esc)(K:KT):Prop:=
 C eH [v0] h fun t1 h2 y3=>
 pK (oUn .not t1) fun t4=>
 qA t4 (K .ret ⟨[(2,(AI 1))],h2,(y3++x)⟩)
 (K .ret ⟨[(2,(AI 0))],h2,(y3++x)⟩)
theorem zcr {C gl v0 h x K}:NW C gl nR.body ⟨enter [v0],h,x⟩ K=ZN C gl v0 h x K:=by kernel_rfl
def HU:ACode:=.pr [6,12,13,14] (rg [bN 33 .add 14 (cI 1),
mV 14 33] [6,12,13,14])
def wZ (C:Hd)(gl:GL)(v6 v12 v13 v14:AV)(h:aA)(x:Esc)(K:KT):Prop:=
 pK (eA .add v14 (AI 1)) fun t1=>
 K .normal ⟨[(6,v6),(12,v12),(13,v13),(14,t1)],h,x⟩
theorem zcm {C gl e h x K}:NW C gl HU ⟨e,h,x⟩ K=wZ C gl (bA e 6) (bA e 12) (bA e 13) (bA e 14) h x K:=by kernel_rfl
def YW (q1:ACode):ACode:=.pr [6,12,13,14] (.seq (rg [bN 15 .lss 14 13] [6,12,13,14,15])
(.seq (.cond 15 .skip
(.exit 0))
(.seq (.block 1 (.seq (rg [iA 16 (some 8) 12 14,
lD 17 (some 8) 16,
uO 8 (.alloc [.p (.str []),.p (.int .i64 0),.p (.int .i64 0),.p (.int .i64 0),.p (.str []),.p (.str []),.p (.str []),.p (.int .i64 0)]),
wO (.store (some 8) 8 17)] [6,8,12,13,14])
(.seq (rg [mV 18 6,
uO 19 (.mkfn rI [8]),
cL 20 lH [18,19],
mV 9 20] [6,8,9,12,13,14])
(.seq (rg [mV 21 9,
bN 22 .lss 21 (cI 0)] [6,8,9,12,13,14,22])
(.cond 22 (rg [mV 23 6,
lD 24 (some 8) 8,
uO 25 (.bsl false (some 8) 1 (.agg [.str [],.int .i64 0,.int .i64 0,.int .i64 0,.str [],.str [],.str [],.int .i64 0]) [(0,24)]),
uO 26 (.app (some 8) 23 25),
mV 6 26] [6,12,13,14])
(.seq (dr [dF (mV 27 6) [6],
dF (mV 28 9) [9],
dF (iA 29 (some 8) 27 28) [27,28],
dF (lD 30 (some 8) 29) [29],
dF (lD 31 (some 8) 8) [8],
dF (uO 32 (.eqa [2,0,0,0,2,2,2,0] true 30 31)) [30,31]] [6,12,13,14,32])
(.cond 32 (.seq (rg [mV 4 (.c (.p (.sl (some 8) []))),
mV 5 (cI 13)] [4,5])
.ret)
.skip)))))))
q1)))
def fK:ACode:=YW HU
def IS (C:Hd)(gl:GL)(q1:ACode)(v6 v12 v13 v14:AV)(h:aA)(x:Esc)(K:KT):Prop:=
 pK (eA .lss v14 v13) fun t1=>
 qA t1 (pK (uA (some 8) v12 v14 h) fun t2=>
 pK (oA (some 8) t2 h) fun t3=>
 alK [.p (.str []),.p (.int .i64 0),.p (.int .i64 0),.p (.int .i64 0),.p (.str []),.p (.str []),.p (.str []),.p (.int .i64 0)] h fun t4 h5 y6=>
 wK (GA (some 8) t4 t3 h5) fun t7 h8 y9=>
 C lH [v6,(.fn rI [t4])] h8 fun t10 h11 y12=>
 pK (eA .lss t10 (AI 0)) fun t13=>
 qA t13 (pK (oA (some 8) t4 h11) fun t14=>
 wK (ZA false (some 8) 1 (.agg [.str [],.int .i64 0,.int .i64 0,.int .i64 0,.str [],.str [],.str [],.int .i64 0]) [(0,t14)] h11) fun t15 h16 y17=>
 wK (mF (some 8) v6 t15 h16) fun t18 h19 y20=>
 NW C gl q1 ⟨[(6,t18),(12,v12),(13,v13),(14,v14)],h19,(y20++(y17++(y12++(y9++(y6++x)))))⟩ K)
 (pK (uA (some 8) v6 t10 h11) fun t21=>
 pK (oA (some 8) t21 h11) fun t22=>
 pK (oA (some 8) t4 h11) fun t23=>
 pK (iB [2,0,0,0,2,2,2,0] true t22 t23) fun t24=>
 qA t24 (K .ret ⟨[(4,(.p (.sl (some 8) []))),(5,(AI 13))],h11,(y12++(y9++(y6++x)))⟩)
 (NW C gl q1 ⟨[(6,v6),(12,v12),(13,v13),(14,v14),(32,t24)],h11,(y12++(y9++(y6++x)))⟩ K)))
 (K (.exit 0) ⟨[(6,v6),(12,v12),(13,v13),(14,v14),(15,t1)],h,x⟩)
theorem z5P {C gl q1 e h x K}:NW C gl (YW q1) ⟨e,h,x⟩ K=IS C gl q1 (bA e 6) (bA e 12) (bA e 13) (bA e 14) h x K:=by kernel_rfl
theorem zcn {C gl e h x K}:NW C gl fK ⟨e,h,x⟩ K=IS C gl HU (bA e 6) (bA e 12) (bA e 13) (bA e 14) h x K:=z5P
theorem zfI {C gl e h x K}:NW C gl (.loop (.scope fK)) ⟨e,h,x⟩ K=YA C gl (.scope fK) K [(6,bA e 6),(12,bA e 12),(13,bA e 13),(14,bA e 14)] h x:=gE
def FP:ACode:=.pr [6] (.seq (rg [mV 34 6,
cL 35 sI [34,(.f FD)]] [6])
(.seq (.seq (rg [mV 36 6,
lN 37 36,
bN 38 .gtr 37 (cI 2000)] [6,38])
(.cond 38 (.seq (rg [mV 4 (.c (.p (.sl (some 8) []))),
mV 5 (cI 2)] [4,5])
.ret)
.skip))
(.seq (rg [mV 39 6,
mV 4 39,
mV 5 (cI 0)] [4,5])
.ret)))
def xZ (C:Hd)(gl:GL)(v6:AV)(h:aA)(x:Esc)(K:KT):Prop:=
 C sI [v6,(.fn FD [])] h fun t1 h2 y3=>
 pK (QA v6) fun t4=>
 pK (eA .gtr t4 (AI 2000)) fun t5=>
 qA t5 (K .ret ⟨[(4,(.p (.sl (some 8) []))),(5,(AI 2))],h2,(y3++x)⟩)
 (K .ret ⟨[(4,v6),(5,(AI 0))],h2,(y3++x)⟩)
theorem zco {C gl e h x K}:NW C gl FP ⟨e,h,x⟩ K=xZ C gl (bA e 6) h x K:=by kernel_rfl
def XW (q2 q3:ACode):ACode:=(.seq (rg [mV 4 (.c (.p (.sl (some 8) []))),
mV 5 (cI 0)] [0,1])
(.seq (rg [mV 10 0,
cL 11 uE [10],
mV 6 11] [1,6])
(.seq (.seq (rg [mV 12 1,
lN 13 12,
mV 14 (cI 0)] [6,12,13,14])
(.block 0 (.loop (.scope q2))))
q3)))
def fL:AFun:=⟨2,[.t 4,.t 5],XW fK FP,false,false⟩
def YN (C:Hd)(gl:GL)(q2 q3:ACode)(v0 v1:AV)(h:aA)(x:Esc)(K:KT):Prop:=
 C uE [v0] h fun t1 h2 y3=>
 pK (QA v1) fun t4=>
 NW C gl (.loop (.scope q2)) ⟨[(6,t1),(12,v1),(13,t4),(14,(AI 0))],h2,(y3++x)⟩ (OA 0 (TA C gl q3 K))
theorem z5O {C gl q2 q3 v0 v1 h x K}:NW C gl (XW q2 q3) ⟨enter [v0,v1],h,x⟩ K=YN C gl q2 q3 v0 v1 h x K:=by kernel_rfl
theorem zcl {C gl v0 v1 h x K}:NW C gl fL.body ⟨enter [v0,v1],h,x⟩ K=YN C gl fK FP v0 v1 h x K:=z5O
def IU:ACode:=.pr [0,3,12,13,14] (rg [bN 29 .add 14 (cI 1),
mV 14 29] [0,3,12,13,14])
def yZ (C:Hd)(gl:GL)(v0 v3 v12 v13 v14:AV)(h:aA)(x:Esc)(K:KT):Prop:=
 pK (eA .add v14 (AI 1)) fun t1=>
 K .normal ⟨[(0,v0),(3,v3),(12,v12),(13,v13),(14,t1)],h,x⟩
theorem zct {C gl e h x K}:NW C gl IU ⟨e,h,x⟩ K=yZ C gl (bA e 0) (bA e 3) (bA e 12) (bA e 13) (bA e 14) h x K:=by kernel_rfl
def aX (q1:ACode):ACode:=.pr [0,3,12,13,14] (.seq (rg [bN 15 .lss 14 13] [0,3,12,13,14,15])
(.seq (.cond 15 .skip
(.exit 0))
(.seq (.block 1 (.seq (rg [iA 16 (some 8) 12 14,
lD 17 (some 8) 16,
uO 7 (.alloc [.p (.str []),.p (.int .i64 0),.p (.int .i64 0),.p (.int .i64 0),.p (.str []),.p (.str []),.p (.str []),.p (.int .i64 0)]),
wO (.store (some 8) 7 17)] [0,3,7,12,13,14])
(.seq (rg [fA 18 0 none 7,
lD 19 none 18,
fA 20 0 none 3,
lD 21 none 20,
bN 22 .eql 19 21] [0,3,7,12,13,14,22])
(.cond 22 (rg [fA 23 1 none 3,
lD 24 none 23,
fA 25 1 none 7,
lD 26 none 25,
uO 27 (.mx [24,26]),
fA 28 1 none 3,
wO (.store none 28 27)] [0,3,12,13,14])
.skip))))
q1)))
def FI:ACode:=aX IU
def LS (C:Hd)(gl:GL)(q1:ACode)(v0 v3 v12 v13 v14:AV)(h:aA)(x:Esc)(K:KT):Prop:=
 pK (eA .lss v14 v13) fun t1=>
 qA t1 (pK (uA (some 8) v12 v14 h) fun t2=>
 pK (oA (some 8) t2 h) fun t3=>
 alK [.p (.str []),.p (.int .i64 0),.p (.int .i64 0),.p (.int .i64 0),.p (.str []),.p (.str []),.p (.str []),.p (.int .i64 0)] h fun t4 h5 y6=>
 wK (GA (some 8) t4 t3 h5) fun t7 h8 y9=>
 pK (rA 0 none t4) fun t10=>
 pK (oA none t10 h8) fun t11=>
 pK (rA 0 none v3) fun t12=>
 pK (oA none t12 h8) fun t13=>
 pK (eA .eql t11 t13) fun t14=>
 qA t14 (pK (rA 1 none v3) fun t15=>
 pK (oA none t15 h8) fun t16=>
 pK (rA 1 none t4) fun t17=>
 pK (oA none t17 h8) fun t18=>
 pK (oMx [t16,t18]) fun t19=>
 pK (rA 1 none v3) fun t20=>
 wK (GA none t20 t19 h8) fun t21 h22 y23=>
 NW C gl q1 ⟨[(0,v0),(3,v3),(12,v12),(13,v13),(14,v14)],h22,(y23++(y9++(y6++x)))⟩ K)
 (NW C gl q1 ⟨[(0,v0),(3,v3),(7,t4),(12,v12),(13,v13),(14,v14),(22,t14)],h8,(y9++(y6++x))⟩ K))
 (K (.exit 0) ⟨[(0,v0),(3,v3),(12,v12),(13,v13),(14,v14),(15,t1)],h,x⟩)
theorem z5R {C gl q1 e h x K}:NW C gl (aX q1) ⟨e,h,x⟩ K=LS C gl q1 (bA e 0) (bA e 3) (bA e 12) (bA e 13) (bA e 14) h x K:=by kernel_rfl
theorem zcu {C gl e h x K}:NW C gl FI ⟨e,h,x⟩ K=LS C gl IU (bA e 0) (bA e 3) (bA e 12) (bA e 13) (bA e 14) h x K:=z5R
theorem zfJ {C gl e h x K}:NW C gl (.loop (.scope FI)) ⟨e,h,x⟩ K=YA C gl (.scope FI) K [(0,bA e 0),(3,bA e 3),(12,bA e 12),(13,bA e 13),(14,bA e 14)] h x:=gE
def iK:ACode:=.pr [0,3] (.seq (rg [fA 30 1 none 3,
lD 31 none 30,
bN 32 .add 31 (cI 1),
fA 33 1 none 3,
wO (.store none 33 32)] [0,3])
(.seq (.seq (rg [lD 34 (some 8) 3,
cL 35 dH [34],
mV 8 35] [0,3,8])
(.seq (rg [mV 36 8,
bN 37 .neq 36 (cI 0)] [0,3,8,37])
(.cond 37 (.seq (rg [mV 38 8,
mV 4 (.c (.p (.sl (some 8) []))),
mV 5 38] [4,5])
.ret)
.skip)))
(.seq (.seq (dr [dF (mV 39 0) [0],
dF (lN 40 39) [39],
dF (bN 41 .gtr 40 (cI 0)) [40],
dF (mV 42 41) [41],
dF (gD 43 42 true (.mv 0)) [0,42],
dF (gD 44 42 true (.mv 0)) [0,42],
dF (gD 45 42 true (.len 44)) [44,42],
dF (gD 46 42 true (.bin .sub 45 (cI 1))) [45,42],
dF (gD 47 42 true (.iaddr (some 8) 43 46)) [43,46,42],
dF (gD 48 42 true (.load (some 8) 47)) [47,42],
dF (gD 49 42 true (.load (some 8) 3)) [3,42],
dT (gD 50 42 true (.call FD [48,49])) [48,49,42],
dF (gD 51 42 true (.bin .geq 50 (cI 0))) [50,42],
dF (uO 52 (.pick 42 51 cF)) [42,51]] [0,3,52])
(.cond 52 (.seq (rg [mV 4 (.c (.p (.sl (some 8) []))),
mV 5 (cI 7)] [4,5])
.ret)
.skip))
(.seq (.seq (rg [mV 53 0,
lN 54 53,
bN 55 .geq 54 (cI 2000)] [0,3,55])
(.cond 55 (.seq (rg [mV 4 (.c (.p (.sl (some 8) []))),
mV 5 (cI 2)] [4,5])
.ret)
.skip))
(.seq (dr [dF (mV 56 0) [0],
dT (cL 57 uE [56]) [56],
dA (lD 58 (some 8) 3) [3] false [1] [],
dA (uO 59 (.bsl false (some 8) 1 (.agg [.str [],.int .i64 0,.int .i64 0,.int .i64 0,.str [],.str [],.str [],.int .i64 0]) [(0,58)])) [58] false [1] [],
dT (uO 60 (.app (some 8) 57 59)) [57,59],
dF (mV 4 60) [60],
dF (mV 5 (cI 0)) []] [4,5])
.ret)))))
def uL (C:Hd)(gl:GL)(v0 v3:AV)(h:aA)(x:Esc)(K:KT):Prop:=
 pK (rA 1 none v3) fun t1=>
 pK (oA none t1 h) fun t2=>
 pK (eA .add t2 (AI 1)) fun t3=>
 pK (rA 1 none v3) fun t4=>
 wK (GA none t4 t3 h) fun t5 h6 y7=>
 pK (oA (some 8) v3 h6) fun t8=>
 C dH [t8] h6 fun t9 h10 y11=>
 pK (eA .neq t9 (AI 0)) fun t12=>
 qA t12 (K .ret ⟨[(4,(.p (.sl (some 8) []))),(5,t9)],h10,(y11++(y7++x))⟩)
 (pK (QA v0) fun t13=>
 pK (eA .gtr t13 (AI 0)) fun t14=>
 gM t14 true v0 h10 fun t15 h16 y17=>
 gM t14 true v0 h16 fun t18 h19 y20=>
 gP t14 true (QA t18) h19 fun t21 h22 y23=>
 gP t14 true (eA .sub t21 (AI 1)) h22 fun t24 h25 y26=>
 gP t14 true (uA (some 8) t15 t24 h25) h25 fun t27 h28 y29=>
 gP t14 true (oA (some 8) t27 h28) h28 fun t30 h31 y32=>
 gP t14 true (oA (some 8) v3 h31) h31 fun t33 h34 y35=>
 gV t14 true h34 (BB C FD [t30,t33] h34) fun t36 h37 y38=>
 gP t14 true (eA .geq t36 (AI 0)) h37 fun t39 h40 y41=>
 pK (SA t14 t39 (AB false)) fun t42=>
 qA t42 (K .ret ⟨[(4,(.p (.sl (some 8) []))),(5,(AI 7))],h40,(y41++(y38++(y35++(y32++(y29++(y26++(y23++(y20++(y17++(y11++(y7++x)))))))))))⟩)
 (pK (QA v0) fun t43=>
 pK (eA .geq t43 (AI 2000)) fun t44=>
 qA t44 (K .ret ⟨[(4,(.p (.sl (some 8) []))),(5,(AI 2))],h40,(y41++(y38++(y35++(y32++(y29++(y26++(y23++(y20++(y17++(y11++(y7++x)))))))))))⟩)
 (BB C uE [v0] h40 fun t45 h46 y47=>
 pK (oA (some 8) v3 h46) fun t48=>
 (pK (oA (some 8) v3 h40) fun v=>(fun u (g1:aA) (y1:Esc)=>u=t48∧g1=h40∧y1=[]) v h40 [])∧(wK (ZA false (some 8) 1 (.agg [.str [],.int .i64 0,.int .i64 0,.int .i64 0,.str [],.str [],.str [],.int .i64 0]) [(0,t48)] h46) fun t49 h50 y51=>
 (h50=h46∧y51=[])∧((wK (ZA false (some 8) 1 (.agg [.str [],.int .i64 0,.int .i64 0,.int .i64 0,.str [],.str [],.str [],.int .i64 0]) [(0,t48)] h40) (fun u (g1:aA) (y1:Esc)=>u=t49∧g1=h40∧y1=[]))∧(wK (mF (some 8) t45 t49 h50) fun t52 h53 y54=>
 K .ret ⟨[(4,t52),(5,(AI 0))],h53,(y54++(y51++(y47++(y41++(y38++(y35++(y32++(y29++(y26++(y23++(y20++(y17++(y11++(y7++x))))))))))))))⟩))))))
theorem yO {C gl e h x K}:NW C gl iK ⟨e,h,x⟩ K=uL C gl (bA e 0) (bA e 3) h x K:=by kernel_rfl
def ZW (q2 q3:ACode):ACode:=(.seq (rg [uO 3 (.box 1),
mV 4 (.c (.p (.sl (some 8) []))),
mV 5 (cI 0)] [0,3])
(.seq (.seq (rg [fA 9 1 none 3,
lD 10 none 9,
bN 11 .neq 10 (cI 0)] [0,3,11])
(.cond 11 (.seq (rg [mV 4 (.c (.p (.sl (some 8) []))),
mV 5 (cI 3)] [4,5])
.ret)
.skip))
(.seq (.seq (rg [mV 12 0,
lN 13 12,
mV 14 (cI 0)] [0,3,12,13,14])
(.block 0 (.loop (.scope q2))))
q3)))
def oR:AFun:=⟨2,[.t 4,.t 5],ZW FI iK,false,false⟩
def tL (C:Hd)(gl:GL)(q2 q3:ACode)(v0 v1:AV)(h:aA)(x:Esc)(K:KT):Prop:=
 wK (jD v1 h) fun t1 h2 y3=>
 pK (rA 1 none t1) fun t4=>
 pK (oA none t4 h2) fun t5=>
 pK (eA .neq t5 (AI 0)) fun t6=>
 qA t6 (K .ret ⟨[(4,(.p (.sl (some 8) []))),(5,(AI 3))],h2,(y3++x)⟩)
 (pK (QA v0) fun t7=>
 NW C gl (.loop (.scope q2)) ⟨[(0,v0),(3,t1),(12,v0),(13,t7),(14,(AI 0))],h2,(y3++x)⟩ (OA 0 (TA C gl q3 K)))
theorem z5Q {C gl q2 q3 v0 v1 h x K}:NW C gl (ZW q2 q3) ⟨enter [v0,v1],h,x⟩ K=tL C gl q2 q3 v0 v1 h x K:=by kernel_rfl
theorem zcs {C gl v0 v1 h x K}:NW C gl oR.body ⟨enter [v0,v1],h,x⟩ K=tL C gl FI iK v0 v1 h x K:=z5Q
def FU:ACode:=.pr [0,1,5,8,9] (rg [bN 20 .add 9 (cI 1),
mV 9 20] [0,1,5,8,9])
def qZ (C:Hd)(gl:GL)(v0 v1 v5 v8 v9:AV)(h:aA)(x:Esc)(K:KT):Prop:=
 pK (eA .add v9 (AI 1)) fun t1=>
 K .normal ⟨[(0,v0),(1,v1),(5,v5),(8,v8),(9,t1)],h,x⟩
theorem zbX {C gl e h x K}:NW C gl FU ⟨e,h,x⟩ K=qZ C gl (bA e 0) (bA e 1) (bA e 5) (bA e 8) (bA e 9) h x K:=by kernel_rfl
def SW (q1:ACode):ACode:=.pr [0,1,5,8,9] (.seq (rg [bN 10 .lss 9 8] [0,1,5,8,9,10])
(.seq (.cond 10 .skip
(.exit 0))
(.seq (.block 1 (.seq (rg [mV 11 9,
mV 6 11] [0,1,5,6,8,9])
(.seq (rg [mV 12 0,
mV 13 6,
mV 14 1,
cL 15 fH [12,13,14]] [0,1,5,6,8,9,15])
(.cond 15 (rg [mV 16 5,
mV 17 6,
uO 18 (.bsl false none 1 (.int .i64 0) [(0,17)]),
uO 19 (.app none 16 18),
mV 5 19] [0,1,5,8,9])
.skip))))
q1)))
def cK:ACode:=SW FU
def FS (C:Hd)(gl:GL)(q1:ACode)(v0 v1 v5 v8 v9:AV)(h:aA)(x:Esc)(K:KT):Prop:=
 pK (eA .lss v9 v8) fun t1=>
 qA t1 (C fH [v0,v9,v1] h fun t2 h3 y4=>
 qA t2 (wK (ZA false none 1 (.int .i64 0) [(0,v9)] h3) fun t5 h6 y7=>
 wK (mF none v5 t5 h6) fun t8 h9 y10=>
 NW C gl q1 ⟨[(0,v0),(1,v1),(5,t8),(8,v8),(9,v9)],h9,(y10++(y7++(y4++x)))⟩ K)
 (NW C gl q1 ⟨[(0,v0),(1,v1),(5,v5),(6,v9),(8,v8),(9,v9),(15,t2)],h3,(y4++x)⟩ K))
 (K (.exit 0) ⟨[(0,v0),(1,v1),(5,v5),(8,v8),(9,v9),(10,t1)],h,x⟩)
theorem z5J {C gl q1 e h x K}:NW C gl (SW q1) ⟨e,h,x⟩ K=FS C gl q1 (bA e 0) (bA e 1) (bA e 5) (bA e 8) (bA e 9) h x K:=by kernel_rfl
theorem zbY {C gl e h x K}:NW C gl cK ⟨e,h,x⟩ K=FS C gl FU (bA e 0) (bA e 1) (bA e 5) (bA e 8) (bA e 9) h x K:=z5J
theorem zfE {C gl e h x K}:NW C gl (.loop (.scope cK)) ⟨e,h,x⟩ K=YA C gl (.scope cK) K [(0,bA e 0),(1,bA e 1),(5,bA e 5),(8,bA e 8),(9,bA e 9)] h x:=gE
def BP:ACode:=.pr [5] (.seq (rg [mV 21 5,
mV 4 21] [4])
.ret)
def rZ (C:Hd)(gl:GL)(v5:AV)(h:aA)(x:Esc)(K:KT):Prop:=
 K .ret ⟨[(4,v5)],h,x⟩
theorem zbZ {C gl e h x K}:NW C gl BP ⟨e,h,x⟩ K=rZ C gl (bA e 5) h x K:=by kernel_rfl
def RW (q2 q3:ACode):ACode:=(.seq (rg [mV 4 (.c (.p (.sl none [])))] [0,1])
(.seq (rg [uO 5 (.new0 none)] [0,1,5])
(.seq (.seq (rg [mV 7 0,
lN 8 7,
mV 9 (cI 0)] [0,1,5,8,9])
(.block 0 (.loop (.scope q2))))
q3)))
def eR:AFun:=⟨2,[.t 4],RW cK BP,false,false⟩
def VN (C:Hd)(gl:GL)(q2 q3:ACode)(v0 v1:AV)(h:aA)(x:Esc)(K:KT):Prop:=
 nwK none h fun t1 h2 y3=>
 pK (QA v0) fun t4=>
 NW C gl (.loop (.scope q2)) ⟨[(0,v0),(1,v1),(5,t1),(8,t4),(9,(AI 0))],h2,(y3++x)⟩ (OA 0 (TA C gl q3 K))
theorem z5I {C gl q2 q3 v0 v1 h x K}:NW C gl (RW q2 q3) ⟨enter [v0,v1],h,x⟩ K=VN C gl q2 q3 v0 v1 h x K:=by kernel_rfl
theorem zbW {C gl v0 v1 h x K}:NW C gl eR.body ⟨enter [v0,v1],h,x⟩ K=VN C gl cK BP v0 v1 h x K:=z5I
def DK:ACode:=.pr [1,16,17,18] (.seq (rg [bN 19 .lss 18 17] [1,16,17,18,19])
(.seq (.cond 19 .skip
(.exit 1))
(.seq (.block 2 (.seq (rg [mV 20 18,
iA 21 none 16 18,
lD 22 none 21,
mV 3 20,
mV 4 22] [1,3,4,16,17,18])
(.block 3 (.seq (rg [mV 24 4,
cL 25 pD [24],
uO 26 (.un .not 25),
mV 23 26] [1,3,4,16,17,18,23])
(.cond 23 (.seq (rg [mV 2 (cI 5)] [2])
.ret)
(.seq (rg [fA 28 0 none 1,
lD 29 none 28,
mV 30 3,
uO 31 (.slice none 29 none (some 30) none),
mV 32 4,
cL 33 pG [31,32],
mV 27 33] [1,16,17,18,27])
(.cond 27 (.seq (rg [mV 2 (cI 6)] [2])
.ret)
.skip)))))))
(rg [bN 34 .add 18 (cI 1),
mV 18 34] [1,16,17,18]))))
def z0m (C:Hd)(gl:GL)(v1 v16 v17 v18:AV)(h:aA)(x:Esc)(K:KT):Prop:=
 pK (eA .lss v18 v17) fun t1=>
 qA t1 (pK (uA none v16 v18 h) fun t2=>
 pK (oA none t2 h) fun t3=>
 C pD [t3] h fun t4 h5 y6=>
 pK (oUn .not t4) fun t7=>
 qA t7 (K .ret ⟨[(2,(AI 5))],h5,(y6++x)⟩)
 (pK (rA 0 none v1) fun t8=>
 pK (oA none t8 h5) fun t9=>
 pK (QC none t9 none (some v18) none h5) fun t10=>
 C pG [t10,t3] h5 fun t11 h12 y13=>
 qA t11 (K .ret ⟨[(2,(AI 6))],h12,(y13++(y6++x))⟩)
 (pK (eA .add v18 (AI 1)) fun t14=>
 K .normal ⟨[(1,v1),(16,v16),(17,v17),(18,t14)],h12,(y13++(y6++x))⟩)))
 (K (.exit 1) ⟨[(1,v1),(16,v16),(17,v17),(18,v18),(19,t1)],h,x⟩)
theorem zdE {C gl e h x K}:NW C gl DK ⟨e,h,x⟩ K=z0m C gl (bA e 1) (bA e 16) (bA e 17) (bA e 18) h x K:=by kernel_rfl
theorem zgm {C gl e h x K}:NW C gl (.loop DK) ⟨e,h,x⟩ K=YA C gl DK K [(1,bA e 1),(16,bA e 16),(17,bA e 17),(18,bA e 18)] h x:=RB
def XP:ACode:=.pr [1] (.seq (.seq (rg [fA 35 1 none 1,
lD 36 none 35,
cL 37 qD [36,(cI 1),(cI 10)]] [37])
(.cond 37 (.seq (rg [mV 2 (cI 1)] [2])
.ret)
.skip))
(.seq (rg [mV 2 (cI 0)] [2])
.ret))
def qO (C:Hd)(gl:GL)(v1:AV)(h:aA)(x:Esc)(K:KT):Prop:=
 pK (rA 1 none v1) fun t1=>
 pK (oA none t1 h) fun t2=>
 C qD [t2,(AI 1),(AI 10)] h fun t3 h4 y5=>
 qA t3 (K .ret ⟨[(2,(AI 1))],h4,(y5++x)⟩)
 (K .ret ⟨[(2,(AI 0))],h4,(y5++x)⟩)
theorem AT {C gl e h x K}:NW C gl XP ⟨e,h,x⟩ K=qO C gl (bA e 1) h x K:=by kernel_rfl
def NX (q1 q2:ACode):ACode:=(.seq (rg [uO 1 (.box 0),
mV 2 (cI 0)] [1])
(.seq (.block 0 (.seq (rg [fA 6 0 none 1,
lD 7 none 6,
lN 8 7,
bN 9 .eql 8 (cI 0),
mV 5 9] [1,5])
(.cond 5 (.seq (rg [mV 2 (cI 8)] [2])
.ret)
(.seq (rg [fA 11 0 none 1,
lD 12 none 11,
lN 13 12,
bN 14 .gtr 13 (cI 20),
mV 10 14] [1,10])
(.cond 10 (.seq (rg [mV 2 (cI 2)] [2])
.ret)
.skip)))))
(.seq (.seq (rg [fA 15 0 none 1,
lD 16 none 15,
lN 17 16,
mV 18 (cI 0)] [1,16,17,18])
(.block 1 (.loop q1)))
q2)))
def mN:AFun:=⟨1,[.t 2],NX DK XP,false,false⟩
def iJ (C:Hd)(gl:GL)(q1 q2:ACode)(v0:AV)(h:aA)(x:Esc)(K:KT):Prop:=
 wK (jD v0 h) fun t1 h2 y3=>
 pK (rA 0 none t1) fun t4=>
 pK (oA none t4 h2) fun t5=>
 pK (QA t5) fun t6=>
 pK (eA .eql t6 (AI 0)) fun t7=>
 qA t7 (K .ret ⟨[(2,(AI 8))],h2,(y3++x)⟩)
 (pK (rA 0 none t1) fun t8=>
 pK (oA none t8 h2) fun t9=>
 pK (QA t9) fun t10=>
 pK (eA .gtr t10 (AI 20)) fun t11=>
 qA t11 (K .ret ⟨[(2,(AI 2))],h2,(y3++x)⟩)
 (pK (rA 0 none t1) fun t12=>
 pK (oA none t12 h2) fun t13=>
 pK (QA t13) fun t14=>
 NW C gl (.loop q1) ⟨[(1,t1),(16,t13),(17,t14),(18,(AI 0))],h2,(y3++x)⟩ (OA 1 (TA C gl q2 K))))
theorem z60 {C gl q1 q2 v0 h x K}:NW C gl (NX q1 q2) ⟨enter [v0],h,x⟩ K=iJ C gl q1 q2 v0 h x K:=by kernel_rfl
theorem zdD {C gl v0 h x K}:NW C gl mN.body ⟨enter [v0],h,x⟩ K=iJ C gl DK XP v0 h x K:=z60
def eK:ACode:=.pr [1,16,17,18] (.seq (rg [bN 19 .lss 18 17] [1,16,17,18,19])
(.seq (.cond 19 .skip
(.exit 1))
(.seq (.block 2 (.seq (rg [mV 20 18,
iA 21 none 16 18,
lD 22 none 21,
mV 3 20,
mV 4 22] [1,3,4,16,17,18])
(.seq (.seq (rg [mV 23 4,
cL 24 ZD [23],
uO 25 (.un .not 24)] [1,3,4,16,17,18,25])
(.cond 25 (.seq (rg [mV 2 (cI 5)] [2])
.ret)
.skip))
(.seq (rg [fA 26 0 none 1,
lD 27 none 26,
mV 28 3,
uO 29 (.slice none 27 none (some 28) none),
mV 30 4,
cL 31 pG [29,30]] [1,16,17,18,31])
(.cond 31 (.seq (rg [mV 2 (cI 6)] [2])
.ret)
.skip)))))
(rg [bN 32 .add 18 (cI 1),
mV 18 32] [1,16,17,18]))))
def vZ (C:Hd)(gl:GL)(v1 v16 v17 v18:AV)(h:aA)(x:Esc)(K:KT):Prop:=
 pK (eA .lss v18 v17) fun t1=>
 qA t1 (pK (uA none v16 v18 h) fun t2=>
 pK (oA none t2 h) fun t3=>
 C ZD [t3] h fun t4 h5 y6=>
 pK (oUn .not t4) fun t7=>
 qA t7 (K .ret ⟨[(2,(AI 5))],h5,(y6++x)⟩)
 (pK (rA 0 none v1) fun t8=>
 pK (oA none t8 h5) fun t9=>
 pK (QC none t9 none (some v18) none h5) fun t10=>
 C pG [t10,t3] h5 fun t11 h12 y13=>
 qA t11 (K .ret ⟨[(2,(AI 6))],h12,(y13++(y6++x))⟩)
 (pK (eA .add v18 (AI 1)) fun t14=>
 K .normal ⟨[(1,v1),(16,v16),(17,v17),(18,t14)],h12,(y13++(y6++x))⟩)))
 (K (.exit 1) ⟨[(1,v1),(16,v16),(17,v17),(18,v18),(19,t1)],h,x⟩)
theorem zcj {C gl e h x K}:NW C gl eK ⟨e,h,x⟩ K=vZ C gl (bA e 1) (bA e 16) (bA e 17) (bA e 18) h x K:=by kernel_rfl
theorem zfH {C gl e h x K}:NW C gl (.loop eK) ⟨e,h,x⟩ K=YA C gl eK K [(1,bA e 1),(16,bA e 16),(17,bA e 17),(18,bA e 18)] h x:=RB
def EP:ACode:=.pr [1] (.seq (.seq (rg [fA 33 1 none 1,
lD 34 none 33,
cL 35 iD [34,(cI 1),(cI 10)],
uO 36 (.un .not 35)] [36])
(.cond 36 (.seq (rg [mV 2 (cI 1)] [2])
.ret)
.skip))
(.seq (rg [mV 2 (cI 0)] [2])
.ret))
def XN (C:Hd)(gl:GL)(v1:AV)(h:aA)(x:Esc)(K:KT):Prop:=
 pK (rA 1 none v1) fun t1=>
 pK (oA none t1 h) fun t2=>
 C iD [t2,(AI 1),(AI 10)] h fun t3 h4 y5=>
 pK (oUn .not t3) fun t6=>
 qA t6 (K .ret ⟨[(2,(AI 1))],h4,(y5++x)⟩)
 (K .ret ⟨[(2,(AI 0))],h4,(y5++x)⟩)
theorem sT {C gl e h x K}:NW C gl EP ⟨e,h,x⟩ K=XN C gl (bA e 1) h x K:=by kernel_rfl
def WW (q1 q2:ACode):ACode:=(.seq (rg [uO 1 (.box 0),
mV 2 (cI 0)] [1])
(.seq (.block 0 (.seq (rg [fA 6 0 none 1,
lD 7 none 6,
lN 8 7,
bN 9 .eql 8 (cI 0),
mV 5 9] [1,5])
(.cond 5 (.seq (rg [mV 2 (cI 8)] [2])
.ret)
(.seq (rg [fA 11 0 none 1,
lD 12 none 11,
lN 13 12,
bN 14 .gtr 13 (cI 20),
mV 10 14] [1,10])
(.cond 10 (.seq (rg [mV 2 (cI 2)] [2])
.ret)
.skip)))))
(.seq (.seq (rg [fA 15 0 none 1,
lD 16 none 15,
lN 17 16,
mV 18 (cI 0)] [1,16,17,18])
(.block 1 (.loop q1)))
q2)))
def jR:AFun:=⟨1,[.t 2],WW eK EP,false,false⟩
def dJ (C:Hd)(gl:GL)(q1 q2:ACode)(v0:AV)(h:aA)(x:Esc)(K:KT):Prop:=
 wK (jD v0 h) fun t1 h2 y3=>
 pK (rA 0 none t1) fun t4=>
 pK (oA none t4 h2) fun t5=>
 pK (QA t5) fun t6=>
 pK (eA .eql t6 (AI 0)) fun t7=>
 qA t7 (K .ret ⟨[(2,(AI 8))],h2,(y3++x)⟩)
 (pK (rA 0 none t1) fun t8=>
 pK (oA none t8 h2) fun t9=>
 pK (QA t9) fun t10=>
 pK (eA .gtr t10 (AI 20)) fun t11=>
 qA t11 (K .ret ⟨[(2,(AI 2))],h2,(y3++x)⟩)
 (pK (rA 0 none t1) fun t12=>
 pK (oA none t12 h2) fun t13=>
 pK (QA t13) fun t14=>
 NW C gl (.loop q1) ⟨[(1,t1),(16,t13),(17,t14),(18,(AI 0))],h2,(y3++x)⟩ (OA 1 (TA C gl q2 K))))
theorem z5N {C gl q1 q2 v0 h x K}:NW C gl (WW q1 q2) ⟨enter [v0],h,x⟩ K=dJ C gl q1 q2 v0 h x K:=by kernel_rfl
theorem zci {C gl v0 h x K}:NW C gl jR.body ⟨enter [v0],h,x⟩ K=dJ C gl eK EP v0 h x K:=z5N
def CK:ACode:=.pr [0,9,10,11] (.seq (rg [bN 12 .lss 11 10] [0,9,10,11,12])
(.seq (.cond 12 .skip
(.exit 0))
(.seq (.block 1 (.seq (rg [mV 13 11,
iA 14 (some 8) 9 11,
lD 15 (some 8) 14,
uO 4 (.alloc [.p (.str []),.p (.int .i64 0),.p (.int .i64 0),.p (.int .i64 0),.p (.str []),.p (.str []),.p (.str []),.p (.int .i64 0)]),
mV 3 13,
wO (.store (some 8) 4 15)] [0,3,4,9,10,11])
(.seq (.seq (rg [lD 16 (some 8) 4,
cL 17 qG [16],
mV 5 17] [0,3,4,5,9,10,11])
(.seq (rg [mV 18 5,
bN 19 .neq 18 (cI 0)] [0,3,4,5,9,10,11,19])
(.cond 19 (.seq (rg [mV 20 5,
mV 2 20] [2])
.ret)
.skip)))
(.seq (dr [dF (mV 21 3) [3],
dF (bN 22 .gtr 21 (cI 0)) [21],
dF (mV 23 22) [22],
dF (gD 24 23 true (.load (some 8) 4)) [4,23],
dF (gD 25 23 true (.mv 0)) [0,23],
dF (gD 26 23 true (.mv 3)) [3,23],
dF (gD 27 23 true (.bin .sub 26 (cI 1))) [26,23],
dF (gD 28 23 true (.iaddr (some 8) 25 27)) [25,27,23],
dF (gD 29 23 true (.load (some 8) 28)) [28,23],
dT (gD 30 23 true (.call wE [24,29])) [24,29,23],
dF (gD 31 23 true (.bin .leq 30 (cI 0))) [30,23],
dF (uO 32 (.pick 23 31 cF)) [23,31]] [0,9,10,11,32])
(.cond 32 (.seq (rg [mV 2 (cI 7)] [2])
.ret)
.skip)))))
(rg [bN 33 .add 11 (cI 1),
mV 11 33] [0,9,10,11]))))
def z0k (C:Hd)(gl:GL)(v0 v9 v10 v11:AV)(h:aA)(x:Esc)(K:KT):Prop:=
 pK (eA .lss v11 v10) fun t1=>
 qA t1 (pK (uA (some 8) v9 v11 h) fun t2=>
 pK (oA (some 8) t2 h) fun t3=>
 alK [.p (.str []),.p (.int .i64 0),.p (.int .i64 0),.p (.int .i64 0),.p (.str []),.p (.str []),.p (.str []),.p (.int .i64 0)] h fun t4 h5 y6=>
 wK (GA (some 8) t4 t3 h5) fun t7 h8 y9=>
 pK (oA (some 8) t4 h8) fun t10=>
 C qG [t10] h8 fun t11 h12 y13=>
 pK (eA .neq t11 (AI 0)) fun t14=>
 qA t14 (K .ret ⟨[(2,t11)],h12,(y13++(y9++(y6++x)))⟩)
 (pK (eA .gtr v11 (AI 0)) fun t15=>
 gP t15 true (oA (some 8) t4 h12) h12 fun t16 h17 y18=>
 gM t15 true v0 h17 fun t19 h20 y21=>
 gM t15 true v11 h20 fun t22 h23 y24=>
 gP t15 true (eA .sub t22 (AI 1)) h23 fun t25 h26 y27=>
 gP t15 true (uA (some 8) t19 t25 h26) h26 fun t28 h29 y30=>
 gP t15 true (oA (some 8) t28 h29) h29 fun t31 h32 y33=>
 gV t15 true h32 (BB C wE [t16,t31] h32) fun t34 h35 y36=>
 gP t15 true (eA .leq t34 (AI 0)) h35 fun t37 h38 y39=>
 pK (SA t15 t37 (AB false)) fun t40=>
 qA t40 (K .ret ⟨[(2,(AI 7))],h38,(y39++(y36++(y33++(y30++(y27++(y24++(y21++(y18++(y13++(y9++(y6++x)))))))))))⟩)
 (pK (eA .add v11 (AI 1)) fun t41=>
 K .normal ⟨[(0,v0),(9,v9),(10,v10),(11,t41)],h38,(y39++(y36++(y33++(y30++(y27++(y24++(y21++(y18++(y13++(y9++(y6++x)))))))))))⟩)))
 (K (.exit 0) ⟨[(0,v0),(9,v9),(10,v10),(11,v11),(12,t1)],h,x⟩)
theorem zdB {C gl e h x K}:NW C gl CK ⟨e,h,x⟩ K=z0k C gl (bA e 0) (bA e 9) (bA e 10) (bA e 11) h x K:=by kernel_rfl
theorem zgl {C gl e h x K}:NW C gl (.loop (.scope CK)) ⟨e,h,x⟩ K=YA C gl (.scope CK) K [(0,bA e 0),(9,bA e 9),(10,bA e 10),(11,bA e 11)] h x:=gE
def WP:ACode:=.pr [0] (.seq (.seq (rg [mV 34 0,
cL 35 gF [34]] [35])
(.cond 35 (.seq (rg [mV 2 (cI 6)] [2])
.ret)
.skip))
(.seq (rg [mV 2 (cI 0)] [2])
.ret))
def z0l (C:Hd)(gl:GL)(v0:AV)(h:aA)(x:Esc)(K:KT):Prop:=
 C gF [v0] h fun t1 h2 y3=>
 qA t1 (K .ret ⟨[(2,(AI 6))],h2,(y3++x)⟩)
 (K .ret ⟨[(2,(AI 0))],h2,(y3++x)⟩)
theorem zdC {C gl e h x K}:NW C gl WP ⟨e,h,x⟩ K=z0l C gl (bA e 0) h x K:=by kernel_rfl
def MX (q1 q2:ACode):ACode:=(.seq (rg [mV 2 (cI 0)] [0])
(.seq (.seq (rg [mV 6 0,
lN 7 6,
bN 8 .gtr 7 (cI 2000)] [0,8])
(.cond 8 (.seq (rg [mV 2 (cI 2)] [2])
.ret)
.skip))
(.seq (.seq (rg [mV 9 0,
lN 10 9,
mV 11 (cI 0)] [0,9,10,11])
(.block 0 (.loop (.scope q1))))
q2)))
def kN:AFun:=⟨1,[.t 2],MX CK WP,false,false⟩
def JL (C:Hd)(gl:GL)(q1 q2:ACode)(v0:AV)(h:aA)(x:Esc)(K:KT):Prop:=
 pK (QA v0) fun t1=>
 pK (eA .gtr t1 (AI 2000)) fun t2=>
 qA t2 (K .ret ⟨[(2,(AI 2))],h,x⟩)
 (pK (QA v0) fun t3=>
 NW C gl (.loop (.scope q1)) ⟨[(0,v0),(9,v0),(10,t3),(11,(AI 0))],h,x⟩ (OA 0 (TA C gl q2 K)))
theorem z6z {C gl q1 q2 v0 h x K}:NW C gl (MX q1 q2) ⟨enter [v0],h,x⟩ K=JL C gl q1 q2 v0 h x K:=by kernel_rfl
theorem zdA {C gl v0 h x K}:NW C gl kN.body ⟨enter [v0],h,x⟩ K=JL C gl CK WP v0 h x K:=z6z
def oK:ACode:=.pr [0,1,12,13] (.seq (rg [bN 14 .lss 13 12] [0,1,12,13,14])
(.seq (.cond 14 .skip
(.exit 0))
(.seq (.block 1 (.seq (rg [mV 15 13,
mV 5 15] [0,1,5,12,13])
(.seq (dr [dF (mV 16 0) [0],
dF (mV 17 5) [5],
dF (iA 18 (some 8) 16 17) [16,17],
dF (lD 19 (some 8) 18) [18],
dF (mV 20 1) [1],
dF (mV 21 5) [5],
dF (iA 22 (some 8) 20 21) [20,21],
dF (lD 23 (some 8) 22) [22],
dF (uO 24 (.eqa [2,0,0,0,2,2,2,0] true 19 23)) [19,23]] [0,1,12,13,24])
(.cond 24 (.seq (rg [mV 4 cF] [4])
.ret)
.skip))))
(rg [bN 25 .add 13 (cI 1),
mV 13 25] [0,1,12,13]))))
def OZ (C:Hd)(gl:GL)(v0 v1 v12 v13:AV)(h:aA)(x:Esc)(K:KT):Prop:=
 pK (eA .lss v13 v12) fun t1=>
 qA t1 (pK (uA (some 8) v0 v13 h) fun t2=>
 pK (oA (some 8) t2 h) fun t3=>
 pK (uA (some 8) v1 v13 h) fun t4=>
 pK (oA (some 8) t4 h) fun t5=>
 pK (iB [2,0,0,0,2,2,2,0] true t3 t5) fun t6=>
 qA t6 (K .ret ⟨[(4,(AB false))],h,x⟩)
 (pK (eA .add v13 (AI 1)) fun t7=>
 K .normal ⟨[(0,v0),(1,v1),(12,v12),(13,t7)],h,x⟩))
 (K (.exit 0) ⟨[(0,v0),(1,v1),(12,v12),(13,v13),(14,t1)],h,x⟩)
theorem zcP {C gl e h x K}:NW C gl oK ⟨e,h,x⟩ K=OZ C gl (bA e 0) (bA e 1) (bA e 12) (bA e 13) h x K:=by kernel_rfl
theorem zfS {C gl e h x K}:NW C gl (.loop oK) ⟨e,h,x⟩ K=YA C gl oK K [(0,bA e 0),(1,bA e 1),(12,bA e 12),(13,bA e 13)] h x:=RB
def LP:ACode:=.pr [] (.seq (rg [mV 4 cT] [4])
.ret)
def PZ (C:Hd)(gl:GL)(h:aA)(x:Esc)(K:KT):Prop:=
 K .ret ⟨[(4,(AB true))],h,x⟩
theorem zcQ {C gl e h x K}:NW C gl LP ⟨e,h,x⟩ K=PZ C gl h x K:=by kernel_rfl
def mX (q1 q2:ACode):ACode:=(.seq (rg [mV 4 cF] [0,1])
(.seq (.seq (rg [mV 6 0,
lN 7 6,
mV 8 1,
lN 9 8,
bN 10 .neq 7 9] [0,1,10])
(.cond 10 (.seq (rg [mV 4 cF] [4])
.ret)
.skip))
(.seq (.seq (rg [mV 11 0,
lN 12 11,
mV 13 (cI 0)] [0,1,12,13])
(.block 0 (.loop q1)))
q2)))
def AR:AFun:=⟨2,[.t 4],mX oK LP,false,false⟩
def yL (C:Hd)(gl:GL)(q1 q2:ACode)(v0 v1:AV)(h:aA)(x:Esc)(K:KT):Prop:=
 pK (QA v0) fun t1=>
 pK (QA v1) fun t2=>
 pK (eA .neq t1 t2) fun t3=>
 qA t3 (K .ret ⟨[(4,(AB false))],h,x⟩)
 (pK (QA v0) fun t4=>
 NW C gl (.loop q1) ⟨[(0,v0),(1,v1),(12,t4),(13,(AI 0))],h,x⟩ (OA 0 (TA C gl q2 K)))
theorem z6b {C gl q1 q2 v0 v1 h x K}:NW C gl (mX q1 q2) ⟨enter [v0,v1],h,x⟩ K=yL C gl q1 q2 v0 v1 h x K:=by kernel_rfl
theorem zcO {C gl v0 v1 h x K}:NW C gl AR.body ⟨enter [v0,v1],h,x⟩ K=yL C gl oK LP v0 v1 h x K:=z6b
def qK:ACode:=.pr [0,1,12,13] (.seq (rg [bN 14 .lss 13 12] [0,1,12,13,14])
(.seq (.cond 14 .skip
(.exit 0))
(.seq (.block 1 (.seq (rg [mV 15 13,
mV 5 15] [0,1,5,12,13])
(.seq (dr [dF (mV 16 0) [0],
dF (mV 17 5) [5],
dF (iA 18 none 16 17) [16,17],
dF (lD 19 none 18) [18],
dF (mV 20 1) [1],
dF (mV 21 5) [5],
dF (iA 22 none 20 21) [20,21],
dF (lD 23 none 22) [22],
dF (bN 24 .neq 19 23) [19,23]] [0,1,12,13,24])
(.cond 24 (.seq (rg [mV 4 cF] [4])
.ret)
.skip))))
(rg [bN 25 .add 13 (cI 1),
mV 13 25] [0,1,12,13]))))
def QZ (C:Hd)(gl:GL)(v0 v1 v12 v13:AV)(h:aA)(x:Esc)(K:KT):Prop:=
 pK (eA .lss v13 v12) fun t1=>
 qA t1 (pK (uA none v0 v13 h) fun t2=>
 pK (oA none t2 h) fun t3=>
 pK (uA none v1 v13 h) fun t4=>
 pK (oA none t4 h) fun t5=>
 pK (eA .neq t3 t5) fun t6=>
 qA t6 (K .ret ⟨[(4,(AB false))],h,x⟩)
 (pK (eA .add v13 (AI 1)) fun t7=>
 K .normal ⟨[(0,v0),(1,v1),(12,v12),(13,t7)],h,x⟩))
 (K (.exit 0) ⟨[(0,v0),(1,v1),(12,v12),(13,v13),(14,t1)],h,x⟩)
theorem zcS {C gl e h x K}:NW C gl qK ⟨e,h,x⟩ K=QZ C gl (bA e 0) (bA e 1) (bA e 12) (bA e 13) h x K:=by kernel_rfl
theorem zfT {C gl e h x K}:NW C gl (.loop qK) ⟨e,h,x⟩ K=YA C gl qK K [(0,bA e 0),(1,bA e 1),(12,bA e 12),(13,bA e 13)] h x:=RB
def MP:ACode:=.pr [] (.seq (rg [mV 4 cT] [4])
.ret)
def RZ (C:Hd)(gl:GL)(h:aA)(x:Esc)(K:KT):Prop:=
 K .ret ⟨[(4,(AB true))],h,x⟩
theorem zcT {C gl e h x K}:NW C gl MP ⟨e,h,x⟩ K=RZ C gl h x K:=by kernel_rfl
def nX (q1 q2:ACode):ACode:=(.seq (rg [mV 4 cF] [0,1])
(.seq (.seq (rg [mV 6 0,
lN 7 6,
mV 8 1,
lN 9 8,
bN 10 .neq 7 9] [0,1,10])
(.cond 10 (.seq (rg [mV 4 cF] [4])
.ret)
.skip))
(.seq (.seq (rg [mV 11 0,
lN 12 11,
mV 13 (cI 0)] [0,1,12,13])
(.block 0 (.loop q1)))
q2)))
def BR:AFun:=⟨2,[.t 4],nX qK MP,false,false⟩
def zL (C:Hd)(gl:GL)(q1 q2:ACode)(v0 v1:AV)(h:aA)(x:Esc)(K:KT):Prop:=
 pK (QA v0) fun t1=>
 pK (QA v1) fun t2=>
 pK (eA .neq t1 t2) fun t3=>
 qA t3 (K .ret ⟨[(4,(AB false))],h,x⟩)
 (pK (QA v0) fun t4=>
 NW C gl (.loop q1) ⟨[(0,v0),(1,v1),(12,t4),(13,(AI 0))],h,x⟩ (OA 0 (TA C gl q2 K)))
theorem z6c {C gl q1 q2 v0 v1 h x K}:NW C gl (nX q1 q2) ⟨enter [v0,v1],h,x⟩ K=zL C gl q1 q2 v0 v1 h x K:=by kernel_rfl
theorem zcR {C gl v0 v1 h x K}:NW C gl BR.body ⟨enter [v0,v1],h,x⟩ K=zL C gl qK MP v0 v1 h x K:=z6c
def nK:ACode:=.pr [0,3,9,10,11] (.seq (rg [bN 12 .lss 11 10] [0,3,9,10,11,12])
(.seq (.cond 12 .skip
(.exit 0))
(.seq (.block 1 (.seq (rg [iA 13 none 9 11,
lD 14 none 13,
mV 5 14] [0,3,5,9,10,11])
(.seq (rg [mV 15 3,
mV 16 5,
lN 17 16,
bN 18 .add 15 17,
mV 3 18] [0,3,9,10,11])
(.seq (rg [mV 19 3,
bN 20 .lss 19 (cI 0)] [0,3,9,10,11,20])
(.cond 20 .bad
.skip)))))
(rg [bN 22 .add 11 (cI 1),
mV 11 22] [0,3,9,10,11]))))
def LZ (C:Hd)(gl:GL)(v0 v3 v9 v10 v11:AV)(h:aA)(x:Esc)(K:KT):Prop:=
 pK (eA .lss v11 v10) fun t1=>
 qA t1 (pK (uA none v9 v11 h) fun t2=>
 pK (oA none t2 h) fun t3=>
 pK (QA t3) fun t4=>
 pK (eA .add v3 t4) fun t5=>
 pK (eA .lss t5 (AI 0)) fun t6=>
 qA t6 (False)
 (pK (eA .add v11 (AI 1)) fun t7=>
 K .normal ⟨[(0,v0),(3,t5),(9,v9),(10,v10),(11,t7)],h,x⟩))
 (K (.exit 0) ⟨[(0,v0),(3,v3),(9,v9),(10,v10),(11,v11),(12,t1)],h,x⟩)
theorem zcI {C gl e h x K}:NW C gl nK ⟨e,h,x⟩ K=LZ C gl (bA e 0) (bA e 3) (bA e 9) (bA e 10) (bA e 11) h x K:=by kernel_rfl
theorem zfQ {C gl e h x K}:NW C gl (.loop nK) ⟨e,h,x⟩ K=YA C gl nK K [(0,bA e 0),(3,bA e 3),(9,bA e 9),(10,bA e 10),(11,bA e 11)] h x:=RB
def rM:ACode:=.pr [6,25,26,27] (.seq (rg [bN 28 .lss 27 26] [6,25,26,27,28])
(.seq (.cond 28 .skip
(.exit 2))
(.seq (.block 3 (.seq (rg [iA 29 none 25 27,
lD 30 none 29,
mV 8 30] [6,8,25,26,27])
(rg [mV 31 6,
mV 32 8,
uO 33 (.app none 31 32),
mV 6 33] [6,25,26,27])))
(rg [bN 34 .add 27 (cI 1),
mV 27 34] [6,25,26,27]))))
def MZ (C:Hd)(gl:GL)(v6 v25 v26 v27:AV)(h:aA)(x:Esc)(K:KT):Prop:=
 pK (eA .lss v27 v26) fun t1=>
 qA t1 (pK (uA none v25 v27 h) fun t2=>
 pK (oA none t2 h) fun t3=>
 wK (mF none v6 t3 h) fun t4 h5 y6=>
 pK (eA .add v27 (AI 1)) fun t7=>
 K .normal ⟨[(6,t4),(25,v25),(26,v26),(27,t7)],h5,(y6++x)⟩)
 (K (.exit 2) ⟨[(6,v6),(25,v25),(26,v26),(27,v27),(28,t1)],h,x⟩)
theorem zcJ {C gl e h x K}:NW C gl rM ⟨e,h,x⟩ K=MZ C gl (bA e 6) (bA e 25) (bA e 26) (bA e 27) h x K:=by kernel_rfl
theorem zfR {C gl e h x K}:NW C gl (.loop (.scope rM)) ⟨e,h,x⟩ K=YA C gl (.scope rM) K [(6,bA e 6),(25,bA e 25),(26,bA e 26),(27,bA e 27)] h x:=gE
def NU:ACode:=.pr [6] (.seq (rg [mV 35 6,
mV 2 35] [2])
.ret)
def NZ (C:Hd)(gl:GL)(v6:AV)(h:aA)(x:Esc)(K:KT):Prop:=
 K .ret ⟨[(2,v6)],h,x⟩
theorem zcK {C gl e h x K}:NW C gl NU ⟨e,h,x⟩ K=NZ C gl (bA e 6) h x K:=by kernel_rfl
def lX (q2 q3:ACode):ACode:=.pr [0,3] (.seq (rg [mV 23 3,
cL 24 TL [(.c (.sl0 none)),23],
mV 6 24] [0,6])
(.seq (.seq (rg [mV 25 0,
lN 26 25,
mV 27 (cI 0)] [6,25,26,27])
(.block 2 (.loop (.scope q2))))
q3))
def KP:ACode:=lX rM NU
def RS (C:Hd)(gl:GL)(q2 q3:ACode)(v0 v3:AV)(h:aA)(x:Esc)(K:KT):Prop:=
 C TL [(.sl0 none),v3] h fun t1 h2 y3=>
 pK (QA v0) fun t4=>
 NW C gl (.loop (.scope q2)) ⟨[(6,t1),(25,v0),(26,t4),(27,(AI 0))],h2,(y3++x)⟩ (OA 2 (TA C gl q3 K))
theorem z6a {C gl q2 q3 e h x K}:NW C gl (lX q2 q3) ⟨e,h,x⟩ K=RS C gl q2 q3 (bA e 0) (bA e 3) h x K:=by kernel_rfl
theorem zcL {C gl e h x K}:NW C gl KP ⟨e,h,x⟩ K=RS C gl rM NU (bA e 0) (bA e 3) h x K:=z6a
def kX (q1 q4:ACode):ACode:=(.seq (rg [mV 2 (.c (.p (.sl none [])))] [0])
(.seq (rg [mV 3 (cI 0)] [0,3])
(.seq (.seq (rg [mV 9 0,
lN 10 9,
mV 11 (cI 0)] [0,3,9,10,11])
(.block 0 (.loop q1)))
q4)))
def yR:AFun:=⟨1,[.t 2],kX nK KP,false,true⟩
def dO (C:Hd)(gl:GL)(q1 q4:ACode)(v0:AV)(h:aA)(x:Esc)(K:KT):Prop:=
 pK (QA v0) fun t1=>
 NW C gl (.loop q1) ⟨[(0,v0),(3,(AI 0)),(9,v0),(10,t1),(11,(AI 0))],h,x⟩ (OA 0 (TA C gl q4 K))
theorem z5Z {C gl q1 q4 v0 h x K}:NW C gl (kX q1 q4) ⟨enter [v0],h,x⟩ K=dO C gl q1 q4 v0 h x K:=by kernel_rfl
theorem zcH {C gl v0 h x K}:NW C gl yR.body ⟨enter [v0],h,x⟩ K=dO C gl nK KP v0 h x K:=z5Z
def z6T:ACode:=(.seq (rg [mV 4 (cS [])] [0,1])
(.seq (rg [mV 5 1,
mV 6 0,
mV 7 1,
lN 8 7,
cL 9 TC [6,8],
iA 10 none 5 9,
lD 11 none 10,
mV 4 11] [4])
.ret))
def dR:AFun:=⟨2,[.t 4],z6T,false,false⟩
def ES (C:Hd)(gl:GL)(v0 v1:AV)(h:aA)(x:Esc)(K:KT):Prop:=
 pK (QA v1) fun t1=>
 C TC [v0,t1] h fun t2 h3 y4=>
 pK (uA none v1 t2 h3) fun t5=>
 pK (oA none t5 h3) fun t6=>
 K .ret ⟨[(4,t6)],h3,(y4++x)⟩
theorem zbV {C gl v0 v1 h x K}:NW C gl dR.body ⟨enter [v0,v1],h,x⟩ K=ES C gl v0 v1 h x K:=by kernel_rfl
def z6Q:ACode:=(.seq (rg [mV 6 (cI 0)] [0,1,2])
(.seq (.seq (rg [mV 7 0,
cL 8 JC [7,(cI 12)]] [0,1,2,8])
(.cond 8 (.seq (rg [mV 9 0,
mV 10 1,
bN 11 .sub 10 (cI 1),
mV 12 2,
bN 13 .add 12 (cI 1),
mV 14 1,
mV 15 2,
uO 16 (.bsl false none 6 (.int .i64 0) [(0,11),(1,13),(2,14),(3,15),(4,(cI (-1099511627776))),(5,(cI 1099511627776))]),
cL 17 UC [9,16],
mV 6 17] [6])
.ret)
.skip))
(.seq (rg [mV 18 0,
mV 19 1,
mV 20 2,
cL 21 dC [18,19,20],
mV 6 21] [6])
.ret)))
def aR:AFun:=⟨3,[.t 6],z6Q,false,false⟩
def cJ (C:Hd)(gl:GL)(v0 v1 v2:AV)(h:aA)(x:Esc)(K:KT):Prop:=
 C JC [v0,(AI 12)] h fun t1 h2 y3=>
 qA t1 (pK (eA .sub v1 (AI 1)) fun t4=>
 pK (eA .add v2 (AI 1)) fun t5=>
 wK (ZA false none 6 (.int .i64 0) [(0,t4),(1,t5),(2,v1),(3,v2),(4,(AI (-1099511627776))),(5,(AI 1099511627776))] h2) fun t6 h7 y8=>
 C UC [v0,t6] h7 fun t9 h10 y11=>
 K .ret ⟨[(6,t9)],h10,(y11++(y8++(y3++x)))⟩)
 (C dC [v0,v1,v2] h2 fun t12 h13 y14=>
 K .ret ⟨[(6,t12)],h13,(y14++(y3++x))⟩)
theorem zbS {C gl v0 v1 v2 h x K}:NW C gl aR.body ⟨enter [v0,v1,v2],h,x⟩ K=cJ C gl v0 v1 v2 h x K:=by kernel_rfl
def z6R:ACode:=(.seq (rg [mV 4 (cI 0)] [0,1])
(.seq (rg [mV 5 1,
mV 6 0,
mV 7 1,
lN 8 7,
cL 9 TC [6,8],
iA 10 none 5 9,
lD 11 none 10,
mV 4 11] [4])
.ret))
def bR:AFun:=⟨2,[.t 4],z6R,false,false⟩
def CS (C:Hd)(gl:GL)(v0 v1:AV)(h:aA)(x:Esc)(K:KT):Prop:=
 pK (QA v1) fun t1=>
 C TC [v0,t1] h fun t2 h3 y4=>
 pK (uA none v1 t2 h3) fun t5=>
 pK (oA none t5 h3) fun t6=>
 K .ret ⟨[(4,t6)],h3,(y4++x)⟩
theorem zbT {C gl v0 v1 h x K}:NW C gl bR.body ⟨enter [v0,v1],h,x⟩ K=CS C gl v0 v1 h x K:=by kernel_rfl
def z7h:ACode:=(rg [mV 4 0,
mV 5 0,
lN 6 5,
mV 7 1,
cL 8 FJ [4,6,7]] [])
def ER:AFun:=⟨2,[],z7h,true,false⟩
def US (C:Hd)(gl:GL)(v0 v1:AV)(h:aA)(x:Esc)(K:KT):Prop:=
 pK (QA v0) fun t1=>
 C FJ [v0,t1,v1] h fun t2 h3 y4=>
 K .normal ⟨[],h3,(y4++x)⟩
theorem zdb {C gl v0 v1 h x K}:NW C gl ER.body ⟨enter [v0,v1],h,x⟩ K=US C gl v0 v1 h x K:=by kernel_rfl
def z6V:ACode:=(.seq (rg [uO 2 (.box 0),
uO 3 (.box 1),
mV 4 (cI 0)] [2,3])
(.seq (.block 0 (.seq (rg [fA 6 2 none 2,
lD 7 none 6,
fA 8 2 none 3,
lD 9 none 8,
bN 10 .neq 7 9,
mV 5 10] [2,3,5])
(.cond 5 (.seq (rg [fA 11 2 none 2,
lD 12 none 11,
fA 13 2 none 3,
lD 14 none 13,
bN 15 .sub 12 14,
cL 16 jH [15],
mV 4 16] [4])
.ret)
(.seq (rg [fA 18 0 none 2,
lD 19 none 18,
fA 20 0 none 3,
lD 21 none 20,
bN 22 .neq 19 21,
mV 17 22] [2,3,17])
(.cond 17 (.seq (rg [fA 23 0 none 2,
lD 24 none 23,
fA 25 0 none 3,
lD 26 none 25,
cL 27 rG [24,26],
mV 4 27] [4])
.ret)
.skip)))))
(.seq (rg [fA 28 1 none 2,
lD 29 none 28,
fA 30 1 none 3,
lD 31 none 30,
bN 32 .sub 29 31,
cL 33 jH [32],
mV 4 33] [4])
.ret)))
def iR:AFun:=⟨2,[.t 4],z6V,false,false⟩
def YG (C:Hd)(gl:GL)(v0 v1:AV)(h:aA)(x:Esc)(K:KT):Prop:=
 wK (jD v0 h) fun t1 h2 y3=>
 wK (jD v1 h2) fun t4 h5 y6=>
 pK (rA 2 none t1) fun t7=>
 pK (oA none t7 h5) fun t8=>
 pK (rA 2 none t4) fun t9=>
 pK (oA none t9 h5) fun t10=>
 pK (eA .neq t8 t10) fun t11=>
 qA t11 (pK (rA 2 none t1) fun t12=>
 pK (oA none t12 h5) fun t13=>
 pK (rA 2 none t4) fun t14=>
 pK (oA none t14 h5) fun t15=>
 pK (eA .sub t13 t15) fun t16=>
 C jH [t16] h5 fun t17 h18 y19=>
 K .ret ⟨[(4,t17)],h18,(y19++(y6++(y3++x)))⟩)
 (pK (rA 0 none t1) fun t20=>
 pK (oA none t20 h5) fun t21=>
 pK (rA 0 none t4) fun t22=>
 pK (oA none t22 h5) fun t23=>
 pK (eA .neq t21 t23) fun t24=>
 qA t24 (pK (rA 0 none t1) fun t25=>
 pK (oA none t25 h5) fun t26=>
 pK (rA 0 none t4) fun t27=>
 pK (oA none t27 h5) fun t28=>
 C rG [t26,t28] h5 fun t29 h30 y31=>
 K .ret ⟨[(4,t29)],h30,(y31++(y6++(y3++x)))⟩)
 (pK (rA 1 none t1) fun t32=>
 pK (oA none t32 h5) fun t33=>
 pK (rA 1 none t4) fun t34=>
 pK (oA none t34 h5) fun t35=>
 pK (eA .sub t33 t35) fun t36=>
 C jH [t36] h5 fun t37 h38 y39=>
 K .ret ⟨[(4,t37)],h38,(y39++(y6++(y3++x)))⟩))
theorem zch {C gl v0 v1 h x K}:NW C gl iR.body ⟨enter [v0,v1],h,x⟩ K=YG C gl v0 v1 h x K:=by kernel_rfl
def wP:ACode:=.pr [0] (.seq (rg [mV 15 0,
mV 4 15] [4])
.ret)
def jZ (C:Hd)(gl:GL)(v0:AV)(h:aA)(x:Esc)(K:KT):Prop:=
 K .ret ⟨[(4,v0)],h,x⟩
theorem zbE {C gl e h x K}:NW C gl wP ⟨e,h,x⟩ K=jZ C gl (bA e 0) h x K:=by kernel_rfl
def HW (q1:ACode):ACode:=(.seq (rg [mV 4 (cI 0)] [0,1])
(.seq (.seq (rg [mV 5 1,
bN 6 .lss 5 (cI 1)] [0,1,6])
(.cond 6 (.seq (rg [mV 4 (cI 0)] [4])
.ret)
.skip))
(.seq (rg [mV 7 0,
mV 8 1,
bN 9 .rem 7 8,
mV 0 9] [0,1])
(.seq (.seq (rg [mV 10 0,
bN 11 .lss 10 (cI 0)] [0,1,11])
(.cond 11 (rg [mV 12 0,
mV 13 1,
bN 14 .add 12 13,
mV 0 14] [0])
.skip))
q1))))
def TQ:AFun:=⟨2,[.t 4],HW wP,false,false⟩
def RN (C:Hd)(gl:GL)(q1:ACode)(v0 v1:AV)(h:aA)(x:Esc)(K:KT):Prop:=
 pK (eA .lss v1 (AI 1)) fun t1=>
 qA t1 (K .ret ⟨[(4,(AI 0))],h,x⟩)
 (pK (eA .rem v0 v1) fun t2=>
 pK (eA .lss t2 (AI 0)) fun t3=>
 qA t3 (pK (eA .add t2 v1) fun t4=>
 NW C gl q1 ⟨[(0,t4)],h,x⟩ K)
 (NW C gl q1 ⟨[(0,t2),(1,v1),(11,t3)],h,x⟩ K))
theorem z59 {C gl q1 v0 v1 h x K}:NW C gl (HW q1) ⟨enter [v0,v1],h,x⟩ K=RN C gl q1 v0 v1 h x K:=by kernel_rfl
theorem zbD {C gl v0 v1 h x K}:NW C gl TQ.body ⟨enter [v0,v1],h,x⟩ K=RN C gl wP v0 v1 h x K:=z59
def XJ:ACode:=.pr [5,6,7] (.seq (rg [bN 8 .lss 7 6] [5,6,7,8])
(.seq (.cond 8 .skip
(.exit 0))
(.seq (.block 1 (.seq (rg [iA 9 none 5 7,
lD 10 none 9,
mV 4 10] [4,5,6,7])
(.seq (rg [mV 11 4,
bN 12 .neq 11 (cI 0)] [4,5,6,7,12])
(.cond 12 (.seq (rg [mV 13 4,
mV 2 13] [2])
.ret)
.skip))))
(rg [bN 14 .add 7 (cI 1),
mV 7 14] [5,6,7]))))
def aZ (C:Hd)(gl:GL)(v5 v6 v7:AV)(h:aA)(x:Esc)(K:KT):Prop:=
 pK (eA .lss v7 v6) fun t1=>
 qA t1 (pK (uA none v5 v7 h) fun t2=>
 pK (oA none t2 h) fun t3=>
 pK (eA .neq t3 (AI 0)) fun t4=>
 qA t4 (K .ret ⟨[(2,t3)],h,x⟩)
 (pK (eA .add v7 (AI 1)) fun t5=>
 K .normal ⟨[(5,v5),(6,v6),(7,t5)],h,x⟩))
 (K (.exit 0) ⟨[(5,v5),(6,v6),(7,v7),(8,t1)],h,x⟩)
theorem zbq {C gl e h x K}:NW C gl XJ ⟨e,h,x⟩ K=aZ C gl (bA e 5) (bA e 6) (bA e 7) h x K:=by kernel_rfl
theorem zf9 {C gl e h x K}:NW C gl (.loop XJ) ⟨e,h,x⟩ K=YA C gl XJ K [(5,bA e 5),(6,bA e 6),(7,bA e 7)] h x:=RB
def pP:ACode:=.pr [] (.seq (rg [mV 2 (cI 0)] [2])
.ret)
def bZ (C:Hd)(gl:GL)(h:aA)(x:Esc)(K:KT):Prop:=
 K .ret ⟨[(2,(AI 0))],h,x⟩
theorem zbr {C gl e h x K}:NW C gl pP ⟨e,h,x⟩ K=bZ C gl h x K:=by kernel_rfl
def vW (q1 q2:ACode):ACode:=(.seq (rg [mV 2 (cI 0)] [0])
(.seq (.seq (rg [mV 5 0,
lN 6 5,
mV 7 (cI 0)] [5,6,7])
(.block 0 (.loop q1)))
q2))
def YM:AFun:=⟨1,[.t 2],vW XJ pP,false,false⟩
def MN (C:Hd)(gl:GL)(q1 q2:ACode)(v0:AV)(h:aA)(x:Esc)(K:KT):Prop:=
 pK (QA v0) fun t1=>
 NW C gl (.loop q1) ⟨[(5,v0),(6,t1),(7,(AI 0))],h,x⟩ (OA 0 (TA C gl q2 K))
theorem z5y {C gl q1 q2 v0 h x K}:NW C gl (vW q1 q2) ⟨enter [v0],h,x⟩ K=MN C gl q1 q2 v0 h x K:=by kernel_rfl
theorem zbp {C gl v0 h x K}:NW C gl YM.body ⟨enter [v0],h,x⟩ K=MN C gl XJ pP v0 h x K:=z5y
def mK:ACode:=.pr [0,3,9,10,11] (.seq (rg [bN 12 .lss 11 10] [0,3,9,10,11,12])
(.seq (.cond 12 .skip
(.exit 0))
(.seq (.block 1 (.seq (rg [iA 13 none 9 11,
lD 14 none 13,
mV 5 14] [0,3,5,9,10,11])
(.seq (rg [mV 15 3,
mV 16 5,
lN 17 16,
bN 18 .add 15 17,
mV 3 18] [0,3,9,10,11])
(.seq (rg [mV 19 3,
bN 20 .lss 19 (cI 0)] [0,3,9,10,11,20])
(.cond 20 .bad
.skip)))))
(rg [bN 22 .add 11 (cI 1),
mV 11 22] [0,3,9,10,11]))))
def IZ (C:Hd)(gl:GL)(v0 v3 v9 v10 v11:AV)(h:aA)(x:Esc)(K:KT):Prop:=
 pK (eA .lss v11 v10) fun t1=>
 qA t1 (pK (uA none v9 v11 h) fun t2=>
 pK (oA none t2 h) fun t3=>
 pK (QA t3) fun t4=>
 pK (eA .add v3 t4) fun t5=>
 pK (eA .lss t5 (AI 0)) fun t6=>
 qA t6 (False)
 (pK (eA .add v11 (AI 1)) fun t7=>
 K .normal ⟨[(0,v0),(3,t5),(9,v9),(10,v10),(11,t7)],h,x⟩))
 (K (.exit 0) ⟨[(0,v0),(3,v3),(9,v9),(10,v10),(11,v11),(12,t1)],h,x⟩)
theorem zcD {C gl e h x K}:NW C gl mK ⟨e,h,x⟩ K=IZ C gl (bA e 0) (bA e 3) (bA e 9) (bA e 10) (bA e 11) h x K:=by kernel_rfl
theorem zfO {C gl e h x K}:NW C gl (.loop mK) ⟨e,h,x⟩ K=YA C gl mK K [(0,bA e 0),(3,bA e 3),(9,bA e 9),(10,bA e 10),(11,bA e 11)] h x:=RB
def qM:ACode:=.pr [6,25,26,27] (.seq (rg [bN 28 .lss 27 26] [6,25,26,27,28])
(.seq (.cond 28 .skip
(.exit 2))
(.seq (.block 3 (.seq (rg [iA 29 none 25 27,
lD 30 none 29,
mV 8 30] [6,8,25,26,27])
(rg [mV 31 6,
mV 32 8,
uO 33 (.app (some 8) 31 32),
mV 6 33] [6,25,26,27])))
(rg [bN 34 .add 27 (cI 1),
mV 27 34] [6,25,26,27]))))
def JZ (C:Hd)(gl:GL)(v6 v25 v26 v27:AV)(h:aA)(x:Esc)(K:KT):Prop:=
 pK (eA .lss v27 v26) fun t1=>
 qA t1 (pK (uA none v25 v27 h) fun t2=>
 pK (oA none t2 h) fun t3=>
 wK (mF (some 8) v6 t3 h) fun t4 h5 y6=>
 pK (eA .add v27 (AI 1)) fun t7=>
 K .normal ⟨[(6,t4),(25,v25),(26,v26),(27,t7)],h5,(y6++x)⟩)
 (K (.exit 2) ⟨[(6,v6),(25,v25),(26,v26),(27,v27),(28,t1)],h,x⟩)
theorem zcE {C gl e h x K}:NW C gl qM ⟨e,h,x⟩ K=JZ C gl (bA e 6) (bA e 25) (bA e 26) (bA e 27) h x K:=by kernel_rfl
theorem zfP {C gl e h x K}:NW C gl (.loop (.scope qM)) ⟨e,h,x⟩ K=YA C gl (.scope qM) K [(6,bA e 6),(25,bA e 25),(26,bA e 26),(27,bA e 27)] h x:=gE
def MU:ACode:=.pr [6] (.seq (rg [mV 35 6,
mV 2 35] [2])
.ret)
def KZ (C:Hd)(gl:GL)(v6:AV)(h:aA)(x:Esc)(K:KT):Prop:=
 K .ret ⟨[(2,v6)],h,x⟩
theorem zcF {C gl e h x K}:NW C gl MU ⟨e,h,x⟩ K=KZ C gl (bA e 6) h x K:=by kernel_rfl
def jX (q2 q3:ACode):ACode:=.pr [0,3] (.seq (rg [mV 23 3,
cL 24 SL [(.c (.sl0 (some 8))),23],
mV 6 24] [0,6])
(.seq (.seq (rg [mV 25 0,
lN 26 25,
mV 27 (cI 0)] [6,25,26,27])
(.block 2 (.loop (.scope q2))))
q3))
def JP:ACode:=jX qM MU
def QS (C:Hd)(gl:GL)(q2 q3:ACode)(v0 v3:AV)(h:aA)(x:Esc)(K:KT):Prop:=
 C SL [(.sl0 (some 8)),v3] h fun t1 h2 y3=>
 pK (QA v0) fun t4=>
 NW C gl (.loop (.scope q2)) ⟨[(6,t1),(25,v0),(26,t4),(27,(AI 0))],h2,(y3++x)⟩ (OA 2 (TA C gl q3 K))
theorem z5Y {C gl q2 q3 e h x K}:NW C gl (jX q2 q3) ⟨e,h,x⟩ K=QS C gl q2 q3 (bA e 0) (bA e 3) h x K:=by kernel_rfl
theorem zcG {C gl e h x K}:NW C gl JP ⟨e,h,x⟩ K=QS C gl qM MU (bA e 0) (bA e 3) h x K:=z5Y
def iX (q1 q4:ACode):ACode:=(.seq (rg [mV 2 (.c (.p (.sl (some 8) [])))] [0])
(.seq (rg [mV 3 (cI 0)] [0,3])
(.seq (.seq (rg [mV 9 0,
lN 10 9,
mV 11 (cI 0)] [0,3,9,10,11])
(.block 0 (.loop q1)))
q4)))
def xR:AFun:=⟨1,[.t 2],iX mK JP,false,true⟩
def cO (C:Hd)(gl:GL)(q1 q4:ACode)(v0:AV)(h:aA)(x:Esc)(K:KT):Prop:=
 pK (QA v0) fun t1=>
 NW C gl (.loop q1) ⟨[(0,v0),(3,(AI 0)),(9,v0),(10,t1),(11,(AI 0))],h,x⟩ (OA 0 (TA C gl q4 K))
theorem z5X {C gl q1 q4 v0 h x K}:NW C gl (iX q1 q4) ⟨enter [v0],h,x⟩ K=cO C gl q1 q4 v0 h x K:=by kernel_rfl
theorem zcC {C gl v0 h x K}:NW C gl xR.body ⟨enter [v0],h,x⟩ K=cO C gl mK JP v0 h x K:=z5X
def z7m:ACode:=(.seq (rg [uO 2 (.box 0),
uO 3 (.box 1),
mV 4 (cI 0)] [2,3])
(.seq (dr [dF (fA 5 2 none 2) [2],
dF (lD 6 none 5) [5],
dF (fA 7 2 none 3) [3],
dF (lD 8 none 7) [7],
dT (cL 9 nG [6,8]) [6,8],
dF (fA 10 0 none 2) [2],
dA (lD 11 none 10) [10] false [4] [],
dF (fA 12 0 none 3) [3],
dA (lD 13 none 12) [12] false [4] [],
dT (cL 14 rG [11,13]) [11,13],
dF (fA 15 1 none 2) [2],
dA (lD 16 none 15) [15] false [4,9] [],
dF (fA 17 1 none 3) [3],
dA (lD 18 none 17) [17] false [4,9] [],
dT (cL 19 nG [16,18]) [16,18],
dF (uO 20 (.bsl false none 3 (.int .i64 0) [(0,9),(1,14),(2,19)])) [9,14,19],
dT (cL 21 lI [20]) [20],
dF (mV 4 21) [21]] [4])
.ret))
def nN:AFun:=⟨2,[.t 4],z7m,false,false⟩
def lT (C:Hd)(gl:GL)(v0 v1:AV)(h:aA)(x:Esc)(K:KT):Prop:=
 wK (jD v0 h) fun t1 h2 y3=>
 wK (jD v1 h2) fun t4 h5 y6=>
 pK (rA 2 none t1) fun t7=>
 pK (oA none t7 h5) fun t8=>
 pK (rA 2 none t4) fun t9=>
 pK (oA none t9 h5) fun t10=>
 BB C nG [t8,t10] h5 fun t11 h12 y13=>
 pK (rA 0 none t1) fun t14=>
 pK (oA none t14 h12) fun t15=>
 (pK (oA none t14 h5) fun v=>(fun u (g1:aA) (y1:Esc)=>u=t15∧g1=h5∧y1=[]) v h5 [])∧(pK (rA 0 none t4) fun t16=>
 pK (oA none t16 h12) fun t17=>
 (pK (oA none t16 h5) fun v=>(fun u (g1:aA) (y1:Esc)=>u=t17∧g1=h5∧y1=[]) v h5 [])∧(BB C rG [t15,t17] h12 fun t18 h19 y20=>
 pK (rA 1 none t1) fun t21=>
 pK (oA none t21 h19) fun t22=>
 (pK (oA none t21 h5) fun v=>(fun u (g1:aA) (y1:Esc)=>u=t22∧g1=h5∧y1=[]) v h5 [])∧((pK (oA none t21 h12) fun v=>(fun u (g1:aA) (y1:Esc)=>u=t22∧g1=h12∧y1=[]) v h12 [])∧(pK (rA 1 none t4) fun t23=>
 pK (oA none t23 h19) fun t24=>
 (pK (oA none t23 h5) fun v=>(fun u (g1:aA) (y1:Esc)=>u=t24∧g1=h5∧y1=[]) v h5 [])∧((pK (oA none t23 h12) fun v=>(fun u (g1:aA) (y1:Esc)=>u=t24∧g1=h12∧y1=[]) v h12 [])∧(BB C nG [t22,t24] h19 fun t25 h26 y27=>
 wK (ZA false none 3 (.int .i64 0) [(0,t11),(1,t18),(2,t25)] h26) fun t28 h29 y30=>
 (h29=h26∧y30=[])∧(BB C lI [t28] h29 fun t31 h32 y33=>
 K .ret ⟨[(4,t31)],h32,(y33++(y30++(y27++(y20++(y13++(y6++(y3++x)))))))⟩)))))))
theorem zdN {C gl v0 v1 h x K}:NW C gl nN.body ⟨enter [v0,v1],h,x⟩ K=lT C gl v0 v1 h x K:=by kernel_rfl
end Go.Am
end
