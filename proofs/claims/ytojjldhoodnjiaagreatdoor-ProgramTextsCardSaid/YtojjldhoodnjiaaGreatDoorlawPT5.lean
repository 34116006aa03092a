/- Texts of the proof, laid together: Am31, AmS, CodesA, CodesB. -/
import Derived.KernelRfl
import Derived.Test.YtojjldhoodnjiaaGreatDoorlawPT4
set_option linter.all false
section
/- The abstract machine,part 31: words in which a function's code is printed,and the rules of computing over them. -/
set_option linter.unusedSimpArgs false
set_option linter.unusedVariables false
namespace Go.Am
variable {C:Hd} {gl:Nat→Option PV} {e:List (Nat × AV)} {h:Heap} {x:Esc} {K:Ex→St→Prop} {s:St}
abbrev AI (n:Int):AV:=.p (.int .i64 n)
abbrev AB (b:Bool):AV:=.p (.bool b)
def seqN (C:Hd) (gl:Nat→Option PV) (b:ACode) (K:Ex→St→Prop) (e:Ex) (s:St):Prop:=match e with
 | .normal=>NW C gl b s K
 | .exit i=>K (.exit i) s
 | .ret=>K .ret s
def z0s (id:Nat) (K:Ex→St→Prop) (e:Ex) (s:St):Prop:=match e with
 | .normal=>K .normal s
 | .exit i=>bif Nat.beq i id then K .normal s else K (.exit i) s
 | .ret=>K .ret s
def nqK (sh:Option Sh) (l:List AV) (h:Heap) (k:AV→Heap→Esc→Prop):Prop:=match z7t h sh l with
 | some l=>l≠[]∧∀ y∈l,k y.1 y.2 []
 | none=>False
def gv (gl:Nat→Option PV) (n:Nat):AV:=match gl n with | some v=>.vp v | none=>.und
theorem z4b {b:ACode}:seqN C gl b K .normal s=NW C gl b s K:=(rfl)
theorem zfW {b:ACode} {i:Nat}:seqN C gl b K (.exit i) s=K (.exit i) s:=(rfl)
theorem ziU {b:ACode}:seqN C gl b K .ret s=K .ret s:=(rfl)
theorem z5U {i:Nat}:z0s i K .normal s=K .normal s:=(rfl)
theorem z3O {i:Nat}:z0s i K (.exit i) s=K .normal s:=by simp [z0s]
theorem zgw {i j:Nat}:z0s i K (.exit j) s=bif Nat.beq j i then K .normal s else K (.exit j) s:=(rfl)
theorem za6 {i:Nat}:z0s i K .ret s=K .ret s:=(rfl)
theorem zkr {b:ACode} {ex ex':Ex} {s s':St} (he:ex=ex') (hs:s=s'):seqN C gl b K ex s=seqN C gl b K ex' s':=by rw[he,hs]
theorem zdA {i:Nat} {ex ex':Ex} {s s':St} (he:ex=ex') (hs:s=s'):z0s i K ex s=z0s i K ex' s':=by rw[he,hs]
theorem zsZ {b:ACode}:NW C gl (.scope b) ⟨e,h,x⟩ K=NW C gl b ⟨e,h,[]⟩ (zfT h.length x K):=(rfl)
theorem zsY {c:ACode} {s s':St} (hs:s=s'):NW C gl c s K=NW C gl c s' K:=by rw[hs]
def z0Z (C:Hd) (gl:Nat→Option PV) (b:ACode) (K:Ex→St→Prop) (e:List (Nat × AV)) (h:Heap) (x:Esc):Prop:=ALoop (NW C gl b) K ⟨e,h,x⟩
theorem z0C {l:List Nat} {b:ACode}:NW C gl (.loop (.pr l b)) ⟨e,h,x⟩ K=z0Z C gl (.pr l b) K (z0L (some l) e) h x:=by
 show ALoop _ _ _=ALoop _ _ _
 exact z5e (funext fun R=>by show NW C gl b _ R=NW C gl b _ R;dsimp only;rw[z3X])
theorem z1F {l:List Nat} {b:ACode}:NW C gl (.loop (.scope (.pr l b))) ⟨e,h,x⟩ K=z0Z C gl (.scope (.pr l b)) K (z0L (some l) e) h x:=by
 show ALoop _ _ _=ALoop _ _ _
 exact z5e (funext fun R=>by show NW C gl b _ _=NW C gl b _ _;dsimp only;rw[z3X])
theorem zgp {b:ACode} {e e':List (Nat × AV)} {h h':Heap} {x x':Esc} (h1:e=e') (h2:h=h') (h3:x=x'):z0Z C gl b K e h x=z0Z C gl b K e' h' x':=by rw[h1,h2,h3]
theorem z0T {σ:Type} {b:ACode} (S:σ→St) (P:σ→Prop) (m:σ→Nat) (t0:σ) (hs:(⟨e,h,x⟩:St)=S t0) (h0:P t0) (hr:∀ t,P t→NW C gl b (S t) (zjY S P m K t)):z0Z C gl b K e h x:=by
 show ALoop (NW C gl b) K _
 rw[hs]
 have key:∀ n t,m t<n→P t→ALoop (NW C gl b) K (S t):=by
  intro n
  induction n with
  | zero=>intro t h;omega
  | succ n ih=>
   intro t hm hp
   refine .mk _ _ (hr t hp) (fun s' h'=>?_) (fun i s' h'=>h') (fun s' h'=>h')
   obtain⟨u,rfl,hu,hlt⟩:=h'
   exact ih u (by omega) hu
 exact key _ t0 (Nat.lt_succ_self _) h0
theorem z0g {X:Ctx} {f:Nat} {F:AFun} {a asv:List AV} {h h1:Heap} {P:Post} (hf:X.fn f=some F) (hr:F.byref=false) (hp:z0p h a=some (asv,h1)) (hl:asv.length=F.nparams) (hd:F.isDet=false:=by rfl) :
 z0c X f a h P=NW (z0c X) X.gl F.body ⟨enter asv,h1,[]⟩ (finR F.results F.keep h.length P):=by
 rw[zvp hf hr hp hl hd,z5R]
theorem z2L {X:Ctx} {f:Nat} {F:AFun} {a asv:List AV} {h h1:Heap} {P:Post} (hf:X.fn f=some F) (hr:F.byref=false) (hp:z0p h a=some (asv,h1)) (hl:asv.length=F.nparams) (hd:F.isDet=true:=by rfl) :
 z0c X f a h P = ∃ v h' x,P v h' x∧NW (z0c X) X.gl F.body ⟨enter asv,h1,[]⟩ (finR F.results F.keep h.length fun v1 h1 x1=>v1=v∧h1=h'∧x1=x):=by
 rw[zfZ hf hr hp hl hd]
 simp only[z5R]
theorem z8o {X:Ctx} {f:Nat} {F:AFun} {asv:List AV} {h:Heap} {P:Post} (hf:X.fn f=some F) (hr:F.byref=true) (hl:asv.length=F.nparams) (hd:F.isDet=false:=by rfl) :
 z0c X f asv h P=NW (z0c X) X.gl F.body ⟨enter asv,h,[]⟩ (finR F.results F.keep h.length P):=by
 rw[zvo hf hr hl hd,z5R]
theorem zr5 {v:AV} {k:AV→Prop}:pK (some v) k=k v:=(rfl)
theorem zr4 {k:AV→Prop}:pK none k=False:=(rfl)
theorem zsI {v:AV} {h:Heap} {x:Esc} {k:AV→Heap→Esc→Prop}:wK (some (v,h,x)) k=k v h x:=(rfl)
theorem zsH {k:AV→Heap→Esc→Prop}:wK none k=False:=(rfl)
theorem pK_ite {p:Prop} [Decidable p] {a b:Option AV} {k:AV→Prop}:pK (if p then a else b) k=if p then pK a k else pK b k:=by split <;> rfl
theorem wK_ite {p:Prop} [Decidable p] {a b:Option (AV × Heap × Esc)} {k:AV→Heap→Esc→Prop}:wK (if p then a else b) k=if p then wK a k else wK b k:=by split <;> rfl
theorem zuy {o o':Option AV} {k:AV→Prop} (h:o=o'):pK o k=pK o' k:=by rw[h]
theorem zv4 {o o':Option (AV × Heap × Esc)} {k:AV→Heap→Esc→Prop} (h:o=o'):wK o k=wK o' k:=by rw[h]
theorem ztU {v v':AV} {b:Bool} {h:Heap} {A:(AV→Heap→Esc→Prop)→Prop} {k:AV→Heap→Esc→Prop} (h1:v=v'):gV v b h A k=gV v' b h A k:=by rw[h1]
theorem ztT {v v':AV} {b:Bool} {o:Option AV} {h:Heap} {k:AV→Heap→Esc→Prop} (h1:v=v'):gP v b o h k=gP v' b o h k:=by rw[h1]
theorem ztS {v v':AV} {b:Bool} {u:AV} {h:Heap} {k:AV→Heap→Esc→Prop} (h1:v=v'):gM v b u h k=gM v' b u h k:=by rw[h1]
section
variable {A:(AV→Heap→Esc→Prop)→Prop} {o:Option AV} {u:AV} {k:AV→Heap→Esc→Prop} {t b:Bool}
theorem gV_tt:gV (.p (.bool true)) true h A k=A k:=(rfl)
theorem gV_ff:gV (.p (.bool false)) false h A k=A k:=(rfl)
theorem gV_tf:gV (.p (.bool true)) false h A k=k .skp h []:=(rfl)
theorem gV_ft:gV (.p (.bool false)) true h A k=k .skp h []:=(rfl)
theorem zwB:gV .skp b h A k=k .skp h []:=(rfl)
theorem gV_any:gV (.p (.bool t)) b h A k=z3b (.p (.bool t)) b (A k) (k .skp h []):=(rfl)
theorem gP_tt:gP (.p (.bool true)) true o h k=pK o fun v=>k v h []:=(rfl)
theorem gP_ff:gP (.p (.bool false)) false o h k=pK o fun v=>k v h []:=(rfl)
theorem gP_tf:gP (.p (.bool true)) false o h k=k .skp h []:=(rfl)
theorem gP_ft:gP (.p (.bool false)) true o h k=k .skp h []:=(rfl)
theorem zwA:gP .skp b o h k=k .skp h []:=(rfl)
theorem gP_any:gP (.p (.bool t)) b o h k=z3b (.p (.bool t)) b (pK o fun v=>k v h []) (k .skp h []):=(rfl)
theorem gM_tt:gM (.p (.bool true)) true u h k=k u h []:=(rfl)
theorem gM_ff:gM (.p (.bool false)) false u h k=k u h []:=(rfl)
theorem gM_tf:gM (.p (.bool true)) false u h k=k .skp h []:=(rfl)
theorem gM_ft:gM (.p (.bool false)) true u h k=k .skp h []:=(rfl)
theorem zw9:gM .skp b u h k=k .skp h []:=(rfl)
theorem gM_any:gM (.p (.bool t)) b u h k=z3b (.p (.bool t)) b (k u h []) (k .skp h []):=(rfl)
end
section
variable {k k':IntKind} {a b:Int} {sa sb:List UInt8}
theorem zxn:oBin .add (.p (.int k a)) (.p (.int k b))=some (.p (.int k (k.wrap (a+b)))):=by simp [oBin,abin,aint]
theorem zx0:oBin .sub (.p (.int k a)) (.p (.int k b))=some (.p (.int k (k.wrap (a-b)))):=by simp [oBin,abin,aint]
theorem zxu:oBin .mul (.p (.int k a)) (.p (.int k b))=some (.p (.int k (k.wrap (a*b)))):=by simp [oBin,abin,aint]
theorem zxw:oBin .quo (.p (.int k a)) (.p (.int k b))=if b=0 then none else some (.p (.int k (k.wrap (a.tdiv b)))):=by simp [oBin,abin,aint] <;> split <;> rfl
theorem zxx:oBin .rem (.p (.int k a)) (.p (.int k b))=if b=0 then none else some (.p (.int k (a.tmod b))):=by simp [oBin,abin,aint] <;> split <;> rfl
theorem zxo:oBin .and (.p (.int k a)) (.p (.int k b))=some (.p (.int k (iand k a b))):=by simp [oBin,abin,aint]
theorem bin_or:oBin .or (.p (.int k a)) (.p (.int k b))=some (.p (.int k (ior k a b))):=by simp [oBin,abin,aint]
theorem zx1:oBin .xor (.p (.int k a)) (.p (.int k b))=some (.p (.int k (ixor k a b))):=by simp [oBin,abin,aint]
theorem zj5:oBin .andNot (.p (.int k a)) (.p (.int k b))=some (.p (.int k (zjU k a b))):=by simp [oBin,abin,aint]
theorem zxp:oBin .eql (.p (.int k a)) (.p (.int k b))=some (.p (.bool (decide (a=b)))):=by simp [oBin,abin,aint]
theorem zxv:oBin .neq (.p (.int k a)) (.p (.int k b))=some (.p (.bool (!decide (a=b)))):=by simp [oBin,abin,aint]
theorem zxt:oBin .lss (.p (.int k a)) (.p (.int k b))=some (.p (.bool (decide (a<b)))):=by simp [oBin,abin,aint]
theorem zxs:oBin .leq (.p (.int k a)) (.p (.int k b))=some (.p (.bool (decide (a≤b)))):=by simp [oBin,abin,aint]
theorem zxr:oBin .gtr (.p (.int k a)) (.p (.int k b))=some (.p (.bool (decide (b<a)))):=by simp [oBin,abin,aint]
theorem zxq:oBin .geq (.p (.int k a)) (.p (.int k b))=some (.p (.bool (decide (b≤a)))):=by simp [oBin,abin,aint]
theorem zxy:oBin .shl (.p (.int k a)) (.p (.int k' b))=if b<0 then none else some (.p (.int k (ishl k a b))):=by simp [oBin,abin] <;> split <;> rfl
theorem zxz:oBin .shr (.p (.int k a)) (.p (.int k' b))=if b<0 then none else some (.p (.int k (ishr k a b))):=by simp [oBin,abin] <;> split <;> rfl
theorem zzk:oBin .add (.p (.str sa)) (.p (.str sb))=if sa.length+sb.length≤z0o then some (.p (.str (sa++sb))) else none:=by simp [oBin,abin,astr] <;> split <;> rfl
theorem zzl:oBin .eql (.p (.str sa)) (.p (.str sb))=some (.p (.bool (decide (sa=sb)))):=by simp [oBin,abin,astr]
theorem zzr:oBin .neq (.p (.str sa)) (.p (.str sb))=some (.p (.bool (!decide (sa=sb)))):=by simp [oBin,abin,astr]
theorem zzq:oBin .lss (.p (.str sa)) (.p (.str sb))=some (.p (.bool (Op.bytesLess sa sb))):=by simp [oBin,abin,astr]
theorem zzp:oBin .leq (.p (.str sa)) (.p (.str sb))=some (.p (.bool (Op.bytesLess sa sb||decide (sa=sb)))):=by simp [oBin,abin,astr]
theorem zzo:oBin .gtr (.p (.str sa)) (.p (.str sb))=some (.p (.bool (!(Op.bytesLess sa sb||decide (sa=sb))))):=by simp [oBin,abin,astr]
theorem zzm:oBin .geq (.p (.str sa)) (.p (.str sb))=some (.p (.bool (!Op.bytesLess sa sb))):=by simp [oBin,abin,astr]
theorem un_neg:oUn .neg (.p (.int k a))=some (.p (.int k (k.wrap (-a)))):=by simp [oUn,aun]
theorem un_not {t:Bool}:oUn .not (.p (.bool t))=some (.p (.bool !t)):=(rfl)
theorem convI {k':IntKind}:z1w k (.p (.int k' a))=some (.p (.int k (k.wrap a))):=(rfl)
theorem nilref {i j:Nat}:oNil (.ref i j)=some (.ref i j):=(rfl)
theorem zy2 {i j m n:Nat}:oNil (.rref i j m n)=some (.rref i j m n):=(rfl)
theorem nilvp {v:PV}:oNil (.vp v)=some (.vp v):=(rfl)
theorem nilfn {f:Nat} {cs:List AV}:oNil (.fn f cs)=some (.fn f cs):=(rfl)
theorem pick_b {t:Bool} {u v:AV}:z09 (.p (.bool t)) u v=some (bif t then u else v):=(rfl)
theorem len_sl {sh:Sh} {xs:List PV}:oLen (.p (.sl sh xs))=some (.p (.int .i64 xs.length)):=(rfl)
theorem zyn {sh:Sh}:oLen (.sl0 sh)=some (.p (.int .i64 0)):=(rfl)
theorem zym {i g o l:Nat}:oLen (.own i g o l)=some (.p (.int .i64 l)):=(rfl)
theorem lens_s:z06 (.p (.str sa))=some (.p (.int .i64 sa.length)):=(rfl)
theorem ext_t {vs:List AV} {i:Nat}:oExt (.tup vs) i=vs[i]?:=(rfl)
theorem zqe {off i j:Nat} {sh:Sh}:z0d off sh (.ref i j)=some (.ref i (j+off)):=(rfl)
theorem zjJ {off i j m n:Nat} {sh:Sh}:z0d off sh (.rref i j m n)=some (.rref i j m (n+off)):=(rfl)
theorem ztN {off:Nat} {sh:Sh} {v:PV}:z0d off sh (.vp v)=(cutP sh off v).map .vp:=(rfl)
theorem zxQ {off:Nat} {sh:Sh} {cs:List PV}:z96 off sh (.p (.agg cs))=(cutP sh off (.agg cs)).map .p:=(rfl)
theorem zxP {off:Nat} {sh:Sh} {cs:List AV}:z96 off sh (.agg cs)=cut sh off cs:=(rfl)
def ldB (sh:Sh) (off:Nat):Option Obj→Option AV
 | some (.box cs)=>cut sh off cs
 | _=>none
def ldR (sh:Sh) (g i off:Nat):Option Obj→Option AV
 | some (.row _ xs _)=>if g=xs.length then ((xs[i]?).bind (cutP sh off)).map .p else none
 | _=>none
theorem zum {sh:Sh} {i j:Nat}:z0e sh (.ref i j) h=ldB sh j h[i]?:=by unfold z0e ldB;rfl
theorem zrm {sh:Sh} {i g m n:Nat}:z0e sh (.rref i g m n) h=ldR sh g m n h[i]?:=by unfold z0e ldR;rfl
theorem zrn {sh:Sh} {v:PV}:z0e sh (.vp v) h=(cutP sh 0 v).map .p:=(rfl)
theorem zyi {sh:Sh} {off:Nat} {cs:List AV}:ldB sh off (some (.box cs))=cut sh off cs:=(rfl)
theorem zyj {sh sh':Sh} {g i off fz:Nat} {xs:List PV}:ldR sh g i off (some (.row sh' xs fz))=if g=xs.length then ((xs[i]?).bind (cutP sh off)).map .p else none:=(rfl)
def stB (sh:Sh) (id off:Nat) (v:AV) (h:Heap):Option Obj→Option (List AV)→Option (AV × Heap × Esc)
 | some (.box cs),some vs=>if vs.length=z0a sh∧off+vs.length≤cs.length then some (.und,h.set id (.box (splice cs off vs)),escS id cs v) else none
 | _,_=>none
theorem zs6 {sh:Sh} {i j:Nat} {v:AV}:z0k sh (.ref i j) v h=stB sh i j v h h[i]? v.cells:=by unfold z0k stB;rfl
theorem zzd {sh:Sh} {id off:Nat} {v:AV} {cs vs:List AV}:stB sh id off v h (some (.box cs)) (some vs)=if vs.length=z0a sh∧off+vs.length≤cs.length then some (.und,h.set id (.box (splice cs off vs)),escS id cs v) else none:=(rfl)
theorem escS_p {id:Nat} {cs:List AV} {v:PV}:escS id cs (.p v)=[]:=by
 unfold escS
 cases z7y cs&&decide (AV.top (.p v)≤AV.tops cs) <;> rfl
theorem ztH {id:Nat} {cs:List AV} {v:AV} (h:z7y cs=false):escS id cs v=z2J id v:=by
 unfold escS
 rw[h]
 rfl
theorem zye {a:AV} {v:PV}:z7y [a,.p v]=false:=(rfl)
theorem zq0 {a:AV} {s:Sh}:z7y [a,.sl0 s]=false:=(rfl)
theorem zqz {a:AV} {i j k l:Nat}:z7y [a,.own i j k l]=false:=(rfl)
theorem zjV {a:AV}:z7y [a,.nilp]=false:=(rfl)
theorem zyb:z7y []=false:=(rfl)
theorem zyc {a:AV}:z7y [a]=false:=(rfl)
theorem zyd {a b c:AV} {l:List AV}:z7y (a::b::c::l)=false:=by unfold z7y;split <;> first | rfl | (rename_i h;simp at h)
theorem zpZ {id t n m:Nat} {a:AV}:escS id [a,.bt 1 t (id+1) n] (.ref id m)=[]:=by
 unfold escS
 have e:decide (AV.top (.ref id m)≤AV.tops [a,.bt 1 t (id+1) n])=true:=by simp [AV.top,AV.tops];omega
 rw[e]
 rfl
theorem ztI {id t t' i n n':Nat} {a:AV}:escS id [a,.bt 1 t i n] (.bt 1 t' i n')=[]:=by
 unfold escS
 have e:decide (AV.top (.bt 1 t' i n')≤AV.tops [a,.bt 1 t i n])=true:=by simp [AV.top,AV.tops];omega
 rw[e]
 rfl
def stE (sh:Sh) (id i off fz:Nat) (rsh:Sh) (xs:List PV) (v:PV) (h1:Heap):Option PV→Option (AV × Heap × Esc)
 | some (.agg cs)=>if off+v.cells.length≤cs.length then some (.und,h1.set id (.row rsh (xs.set i (.agg (splice cs off v.cells))) fz),[]) else none
 | some _=>if off=0∧v.sc then some (.und,h1.set id (.row rsh (xs.set i v) fz),[]) else none
 | none=>none
def stO (sh:Sh) (id g i off:Nat) (v:PV) (h1:Heap):Option Obj→Option (AV × Heap × Esc)
 | some (.row rsh xs fz)=>if g=xs.length∧fz≤i∧v.cells.length=z0a sh∧v.cells.all PV.sc then stE sh id i off fz rsh xs v h1 xs[i]? else none
 | _=>none
def stR (sh:Sh) (id g i off:Nat):Option (PV × Heap)→Option (AV × Heap × Esc)
 | some y=>stO sh id g i off y.1 y.2 y.2[id]?
 | none=>none
theorem zkx {sh:Sh} {id g i off:Nat} {x:AV}:z0k sh (.rref id g i off) x h=stR sh id g i off (pur h x):=by
 unfold z0k stR
 cases pur h x with
 | none=>rfl
 | some y=>
  obtain⟨v,h1⟩:=y
  dsimp only
  unfold stO
  cases h1[id]? with
  | none=>rfl
  | some o=>cases o <;> rfl
theorem zvm {sh:Sh} {id g i off:Nat} {v:PV} {h1:Heap}:stR sh id g i off (some (v,h1))=stO sh id g i off v h1 h1[id]?:=(rfl)
theorem zzh {sh rsh:Sh} {id g i off fz:Nat} {v:PV} {h1:Heap} {xs:List PV}:stO sh id g i off v h1 (some (.row rsh xs fz))=if g=xs.length∧fz≤i∧v.cells.length=z0a sh∧v.cells.all PV.sc then stE sh id i off fz rsh xs v h1 xs[i]? else none:=(rfl)
theorem zze {sh rsh:Sh} {id i off fz:Nat} {v:PV} {h1:Heap} {xs cs:List PV}:stE sh id i off fz rsh xs v h1 (some (.agg cs))=if off+v.cells.length≤cs.length then some (.und,h1.set id (.row rsh (xs.set i (.agg (splice cs off v.cells))) fz),[]) else none:=(rfl)
theorem zzf {sh rsh:Sh} {id i off fz:Nat} {v:PV} {h1:Heap} {xs:List PV} {k:IntKind} {n:Int}:stE sh id i off fz rsh xs v h1 (some (.int k n))=if off=0∧v.sc then some (.und,h1.set id (.row rsh (xs.set i v) fz),[]) else none:=(rfl)
theorem zvk {sh rsh:Sh} {id i off fz:Nat} {v:PV} {h1:Heap} {xs:List PV} {t:Bool}:stE sh id i off fz rsh xs v h1 (some (.bool t))=if off=0∧v.sc then some (.und,h1.set id (.row rsh (xs.set i v) fz),[]) else none:=(rfl)
theorem zzg {sh rsh:Sh} {id i off fz:Nat} {v:PV} {h1:Heap} {xs:List PV} {s:List UInt8}:stE sh id i off fz rsh xs v h1 (some (.str s))=if off=0∧v.sc then some (.und,h1.set id (.row rsh (xs.set i v) fz),[]) else none:=(rfl)
theorem stE_sl {sh rsh:Sh} {id i off fz:Nat} {v:PV} {h1:Heap} {xs:List PV} {sh':Sh} {ys:List PV}:stE sh id i off fz rsh xs v h1 (some (.sl sh' ys))=if off=0∧v.sc then some (.und,h1.set id (.row rsh (xs.set i v) fz),[]) else none:=(rfl)
theorem zvl {sh rsh:Sh} {id i off fz:Nat} {v:PV} {h1:Heap} {xs:List PV}  : stE sh id i off fz rsh xs v h1 (some .nilp)=if off=0∧v.sc then some (.und,h1.set id (.row rsh (xs.set i v) fz),[]) else none:=(rfl)
theorem pur_p {v:PV}:pur h (.p v)=some (v,h):=(rfl)
def iaS (xs:List PV):Option Nat→Option AV
 | some k=>(xs[k]?).map .vp
 | none=>none
theorem zub {sh:Sh} {xs:List PV} {i:AV}:z0r sh (.p (.sl sh xs)) i h=iaS xs (z1k i):=by
 unfold z0r iaS;cases z1k i <;> simp
theorem ztY {xs:List PV} {n:Nat}:iaS xs (some n)=(xs[n]?).map .vp:=(rfl)
def iaO (sh:Sh) (id g off len:Nat):Option Obj→Option Nat→Option AV
 | some (.row rsh xs _),some k=>if rsh=sh∧g=xs.length∧off+len≤xs.length∧k<len then some (.rref id g (off+k) 0) else none
 | _,_=>none
theorem zqv {sh:Sh} {id g off len:Nat} {i:AV}:z0r sh (.own id g off len) i h=iaO sh id g off len h[id]? (z1k i):=by
 unfold z0r iaO
 cases z1k i with
 | none=>dsimp only;cases h[id]? with
  | none=>rfl
  | some o=>cases o <;> rfl
 | some k=>dsimp only;cases h[id]? with
  | none=>rfl
  | some o=>cases o <;> rfl
theorem zxU {sh rsh:Sh} {id g off len k fz:Nat} {xs:List PV}:iaO sh id g off len (some (.row rsh xs fz)) (some k)=if rsh=sh∧g=xs.length∧off+len≤xs.length∧k<len then some (.rref id g (off+k) 0) else none:=(rfl)
theorem idxs_s {i:AV}:z1I (.p (.str sa)) i=(z1k i).bind fun n=>(sa[n]?).map fun b=>.p (.int .u8 b.toNat):=by
 unfold z1I;cases z1k i <;> rfl
end
theorem zwm {z:List AV} {k:AV→Heap→Esc→Prop}:alK z h k=k (.ref h.length 0) (h++[.box z]) []:=(rfl)
theorem zwE {sh:Sh} {k:AV→Heap→Esc→Prop}:nwK sh h k=k (.own h.length 0 0 0) (h++[.row sh [] 0]) []:=(rfl)
theorem zwC {k:AV→Heap→Esc→Prop}:mmK h k=k (.mp h.length) (h++[.amap [] 0]) []:=(rfl)
theorem zjD {A B:Prop}:zny (.p (.bool true)) A B=A:=(rfl)
theorem zg4 {A B:Prop}:zny (.p (.bool false)) A B=B:=(rfl)
theorem znz {A B:Prop}:zny .anyb A B=(A∧B):=(rfl)
theorem zkj {h:Heap}:z0H [] h=([],h):=(rfl)
theorem zkk {h:Heap} {s:Sh} {r:List AV}:z0H (.sl0 s::r) h=(.own h.length 0 0 0::(z0H r (h++[.row s [] 0])).1,(z0H r (h++[.row s [] 0])).2):=(rfl)
theorem zuJ {h:Heap} {v:PV} {r:List AV}:z0H (.p v::r) h=(.p v::(z0H r h).1,(z0H r h).2):=(rfl)
attribute [go_sem] zkj zkk zuJ
theorem zrV {h:Heap}:z1h [] h=([],h):=(rfl)
theorem zrY {h:Heap} {s:Sh} {r:List AV}:z1h (.sl0 s::r) h=(.own h.length 0 0 0::(z1h r (h++[.row s [] 0])).1,(z1h r (h++[.row s [] 0])).2):=(rfl)
theorem zyM {h:Heap} {v:PV} {r:List AV}:z1h (.p v::r) h=(.p v::(z1h r h).1,(z1h r h).2):=(rfl)
theorem zrX {h:Heap} {i o:Nat} {r:List AV}:z1h (.ref i o::r) h=(.ref i o::(z1h r h).1,(z1h r h).2):=(rfl)
theorem zrW {h:Heap} {i o g l:Nat} {r:List AV}:z1h (.own i o g l::r) h=(.own i o g l::(z1h r h).1,(z1h r h).2):=(rfl)
theorem zuI {h:Heap} {i:Nat} {r:List AV}:z1h (.mp i::r) h=(.mp i::(z1h r h).1,(z1h r h).2):=(rfl)
attribute [go_sem] zrV zrY zyM zrX zrW zuI
def ldAr (sh:Sh) (off g:Nat):Option Obj→Option AV
 | some (.arow rsh cs)=>if g*z0a rsh=cs.length then cut sh off cs else none
 | _=>none
theorem zyq {sh:Sh} {off id g:Nat}:z0e sh (.bt 4 off id g) h=ldAr sh off g h[id]?:=by
 show ldA sh 4 off id g h=_
 unfold ldA ldAr
 rfl
theorem zrh {sh rsh:Sh} {off g:Nat} {cs:List AV}:ldAr sh off g (some (.arow rsh cs))=if g*z0a rsh=cs.length then cut sh off cs else none:=(rfl)
def stAr (sh:Sh) (off id g:Nat) (x:AV) (h:Heap):Option Obj→Option (List AV)→Option (AV × Heap × Esc)
 | some (.arow rsh cs),some vs=>if g*z0a rsh=cs.length∧vs.length=z0a sh∧off+vs.length≤cs.length then some (.und,h.set id (.arow rsh (splice cs off vs)),z2J id x) else none
 | _,_=>none
theorem zvq {sh:Sh} {off id g:Nat} {x:AV}:z0k sh (.bt 4 off id g) x h=stAr sh off id g x h h[id]? x.cells:=by
 show stA sh 4 off id g x h=_
 unfold stA stAr
 rfl
theorem zs2 {sh rsh:Sh} {off id g:Nat} {x:AV} {cs vs:List AV}:stAr sh off id g x h (some (.arow rsh cs)) (some vs)=if g*z0a rsh=cs.length∧vs.length=z0a sh∧off+vs.length≤cs.length then some (.und,h.set id (.arow rsh (splice cs off vs)),z2J id x) else none:=(rfl)
def iaAr (sh:Sh) (id g:Nat):Option Obj→Option Nat→Option AV
 | some (.arow rsh cs),some i=>if rsh=sh∧g*z0a rsh=cs.length∧i<g then some (.bt 4 (i*z0a sh) id g) else none
 | _,_=>none
theorem ztZ {sh:Sh} {t id g:Nat} {i:AV}:z0r sh (.bt 3 t id g) i h=iaAr sh id g h[id]? (z1k i):=by
 unfold z0r iaAr
 cases z1k i with
 | none=>cases h[id]? with
  | none=>rfl
  | some o=>cases o <;> rfl
 | some k=>
  show iaA sh 3 id g k h=_
  unfold iaA
  cases h[id]? with
  | none=>rfl
  | some o=>cases o <;> rfl
theorem zqu {sh rsh:Sh} {id g i:Nat} {cs:List AV}:iaAr sh id g (some (.arow rsh cs)) (some i)=if rsh=sh∧g*z0a rsh=cs.length∧i<g then some (.bt 4 (i*z0a sh) id g) else none:=(rfl)
theorem ztL {off o id g:Nat} {sh:Sh}:z0d off sh (.bt 4 o id g)=some (.bt 4 (o+off) id g):=(rfl)
theorem len_bt {t id g:Nat}:oLen (.bt 3 t id g)=some (.p (.int .i64 g)):=(rfl)
theorem nil_bt {o id g:Nat}:oNil (.bt 4 o id g)=some (.bt 4 o id g):=(rfl)
def apAr (sh:Sh) (h:Heap) (t id g g':Nat):Option Obj→Option Obj→Option (AV × Heap × Esc)
 | some (.arow rsh cs),some (.arow rsh' ds)=>if rsh=sh∧rsh'=sh∧g*z0a sh=cs.length∧g'*z0a sh=ds.length∧g+g'≤z0J then
  some (.bt 3 t id (g+g'),h.set id (.arow sh (cs++ds)),bif decide (id<AV.tops ds) then [(id,AV.tops ds)] else []) else none
 | _,_=>none
theorem apA_bt {sh:Sh} {t id g t' id' g':Nat}:apA sh h (.bt 3 t id g) (.bt 3 t' id' g')=apAr sh h t id g g' h[id]? h[id']?:=by
 show (match h[id]?,h[id']? with | _,_=>_)=_
 unfold apAr
 rfl
theorem zmZ {sh rsh rsh':Sh} {t id g g':Nat} {cs ds:List AV}:apAr sh h t id g g' (some (.arow rsh cs)) (some (.arow rsh' ds))=if rsh=sh∧rsh'=sh∧g*z0a sh=cs.length∧g'*z0a sh=ds.length∧g+g'≤z0J then
 some (.bt 3 t id (g+g'),h.set id (.arow sh (cs++ds)),bif decide (id<AV.tops ds) then [(id,AV.tops ds)] else []) else none:=(rfl)
theorem zrZ {h:Heap} {k t i g:Nat} {r:List AV}:z0H (.bt k t i g::r) h=(.bt 3 t h.length 0::(z0H r (h++[.arow (z2x t) []])).1,(z0H r (h++[.arow (z2x t) []])).2):=(rfl)
theorem zxB:z2x 0=none:=(rfl)
theorem zxC {n:Nat}:z2x (n+1)=some n:=(rfl)
attribute [go_sem] zyq zrh zvq zs2 ztZ zqu ztL len_bt nil_bt apA_bt zmZ zrZ zxB zxC
attribute [go_sem] z4b zfW ziU z5U z3O za6 zsZ zr5 zr4 zsI zsH pK_ite wK_ite gV_tt gV_ff gV_tf gV_ft zwB gP_tt gP_ff gP_tf gP_ft zwA gM_tt gM_ff gM_tf gM_ft zw9 zxn zx0 zxu zxw zxx zxo bin_or zx1 zj5 zxp zxv zxt zxs zxr zxq zxy zxz zzk zzl zzr zzq zzp zzo zzm un_neg un_not convI nilref zy2 nilvp nilfn pick_b len_sl zyn zym lens_s ext_t zqe zjJ ztN zxQ zxP zum zrm zrn zyi zyj zs6 zzd zkx zvm zzh zze zzf zvk zzg stE_sl zvl pur_p escS_p ztH zye zq0 zqz zjV zyb zyc zyd zpZ ztI zub ztY zqv zxU idxs_s zwm zwE zwC z1y zyU upcB neqB lenB n64 ztv strB appB rds rd oBox z0x zqf oBsl zqg oEqa z97 z8i zjD zg4 znz zrv oMkif okIn z95 zut bndV z1s zb7 z5J zc4 oApp oCopy oClr oMx oMn z8m zc7 oMent zry oMdel zy6 zc6 zc5
attribute [go_sem ↓] zr5 zr4 zsI zsH gV_tt gV_ff gV_tf gV_ft zwB gP_tt gP_ff gP_tf gP_ft zwA gM_tt gM_ff gM_tf gM_ft zw9 zaD z8L zjd zja zjc zjb zgg z4b zfW ziU z5U z3O za6 zwm zwE zwC z8h zb4 zf2 zfV z9u zia
attribute [go_sem low] gV_any gP_any gM_any zgw
attribute [congr] zkr zdA zsY zgp zuy zv4 ztU ztT ztS
end Go.Am
end
section
/- Short words for the printed code. -/
set_option linter.all false
namespace Go.Am
instance {n:Nat}:OfNat Opd n:=⟨.t n⟩
abbrev GL:=Nat→Option PV
abbrev KT:=Ex→St→Prop
def cI (n:Int):Opd:=.c (.p (.int .i64 n))
def cT:Opd:=.c (.p (.bool true))
def cF:Opd:=.c (.p (.bool false))
def cS (s:List UInt8):Opd:=.c (.p (.str s))
def uO (d:Nat) (o:AO):AOp:=⟨some d,none,o⟩
def wO (o:AO):AOp:=⟨none,none,o⟩
def gD (d g:Nat) (b:Bool) (o:AO):AOp:=⟨some d,some (g,b),o⟩
def mV (d:Nat) (x:Opd):AOp:=⟨some d,none,.mv x⟩
def bN (d:Nat) (b:BinOp) (x y:Opd):AOp:=⟨some d,none,.bin b x y⟩
def cL (d f:Nat) (l:List Opd):AOp:=⟨some d,none,.call f l⟩
def lD (d:Nat) (s:Sh) (x:Opd):AOp:=⟨some d,none,.load s x⟩
def iA (d:Nat) (s:Sh) (x y:Opd):AOp:=⟨some d,none,.iaddr s x y⟩
def fA (d o:Nat) (s:Sh) (x:Opd):AOp:=⟨some d,none,.faddr o s x⟩
def lN (d:Nat) (x:Opd):AOp:=⟨some d,none,.len x⟩
def eX (d:Nat) (x:Opd) (i:Nat):AOp:=⟨some d,none,.ext x i⟩
def dF (o:AOp) (l:List Nat):DOp:=⟨o,l,false,[],[]⟩
def dT (o:AOp) (l:List Nat):DOp:=⟨o,l,true,[],[]⟩
def dA (o:AOp) (l:List Nat) (e:Bool) (a b:List Nat):DOp:=⟨o,l,e,a,b⟩
def rg (l:List AOp) (k:List Nat):ACode:=.reg l (some k)
def dr (l:List DOp) (k:List Nat):ACode:=.draw l (some k)
end Go.Am
end
section
/- The functions asv abstract code,and asv formulas over their values: printed by program out of the translation. -/
set_option linter.unusedVariables false
set_option maxRecDepth 100000
namespace Go.Am
def z6y:ACode:=.pr [5,6,7,8,9] (.seq (rg [mV 37 5,
cL 38 zbp [37],
mV 36 38,
eX 39 36 0,
eX 40 36 1,
eX 41 36 2,
mV 10 39,
mV 11 40,
mV 12 41] [5,6,7,8,9,10,11,12])
(.seq (rg [mV 43 5,
cL 44 zaV [43],
mV 42 44,
eX 45 42 0,
eX 46 42 1,
eX 47 42 2,
mV 13 45,
mV 14 46,
mV 15 47] [6,7,8,9,10,11,12,13,14,15])
(.seq (rg [mV 48 7,
mV 49 8,
bN 50 .eql 48 49,
mV 51 50,
gD 52 51 true (.mv 6),
gD 53 51 true (.mv 9),
gD 54 51 true (.bin .eql 52 53),
uO 55 (.pick 51 54 cF),
mV 56 55,
gD 57 56 true (.mv 10),
gD 58 56 true (.mv 13),
gD 59 56 true (.call zbh [57,58]),
uO 60 (.pick 56 59 cF),
mV 61 60,
gD 62 61 true (.mv 11),
gD 63 61 true (.mv 14),
gD 64 61 true (.bin .eql 62 63),
uO 65 (.pick 61 64 cF),
mV 66 65,
gD 67 66 true (.mv 12),
gD 68 66 true (.mv 15),
gD 69 66 true (.bin .eql 67 68),
uO 70 (.pick 66 69 cF),
mV 71 70,
gD 72 71 true (.call zaO []),
uO 73 (.pick 71 72 cF),
mV 2 73] [2])
.ret)))
def z4x (C:Hd) (gl:GL) (v5 v6 v7 v8 v9:AV) (h:Heap) (x:Esc) (K:KT):Prop:=
 C zbp [v5] h fun t1 h2 y3=>
 pK (oExt t1 0) fun t4=>
 pK (oExt t1 1) fun t5=>
 pK (oExt t1 2) fun t6=>
 C zaV [v5] h2 fun t7 h8 y9=>
 pK (oExt t7 0) fun t10=>
 pK (oExt t7 1) fun t11=>
 pK (oExt t7 2) fun t12=>
 pK (oBin .eql v7 v8) fun t13=>
 gM t13 true v6 h8 fun t14 h15 y16=>
 gM t13 true v9 h15 fun t17 h18 y19=>
 gP t13 true (oBin .eql t14 t17) h18 fun t20 h21 y22=>
 pK (z09 t13 t20 (AB false)) fun t23=>
 gM t23 true t4 h21 fun t24 h25 y26=>
 gM t23 true t10 h25 fun t27 h28 y29=>
 gV t23 true h28 (C zbh [t24,t27] h28) fun t30 h31 y32=>
 pK (z09 t23 t30 (AB false)) fun t33=>
 gM t33 true t5 h31 fun t34 h35 y36=>
 gM t33 true t11 h35 fun t37 h38 y39=>
 gP t33 true (oBin .eql t34 t37) h38 fun t40 h41 y42=>
 pK (z09 t33 t40 (AB false)) fun t43=>
 gM t43 true t6 h41 fun t44 h45 y46=>
 gM t43 true t12 h45 fun t47 h48 y49=>
 gP t43 true (oBin .eql t44 t47) h48 fun t50 h51 y52=>
 pK (z09 t43 t50 (AB false)) fun t53=>
 gV t53 true h51 (C zaO [] h51) fun t54 h55 y56=>
 pK (z09 t53 t54 (AB false)) fun t57=>
 K .ret ⟨[(2,t57)],h55,(y56++(y52++(y49++(y46++(y42++(y39++(y36++(y32++(y29++(y26++(y22++(y19++(y16++(y9++(y3++x)))))))))))))))⟩
theorem z6g {C gl e h x K}:NW C gl z6y ⟨e,h,x⟩ K=z4x C gl (aget e 5) (aget e 6) (aget e 7) (aget e 8) (aget e 9) h x K:=by kernel_rfl
def zvD (q1:ACode):ACode:=(.seq (rg [mV 2 cF] [0])
(.seq (rg [mV 16 0,
uO 17 (.build [.sl0 none,.p (.int .i64 0)] [(0,1,16)]),
uO 18 (.box 17),
mV 3 18] [3])
(.seq (rg [mV 19 3,
mV 20 3,
cL 21 z3n [20,(cI 0),(cI 6)],
cL 22 z7R [19,21],
mV 23 3,
cL 24 zaR [23],
mV 4 22,
mV 5 24] [4,5])
(.seq (rg [mV 26 4,
cL 27 zbq [26],
mV 25 27,
eX 28 25 0,
eX 29 25 1,
mV 6 28,
mV 7 29] [4,5,6,7])
(.seq (rg [mV 30 4,
cL 31 z4k [30],
mV 8 31,
mV 9 (cS [])] [4,5,6,7,8,9])
(.seq (.seq (rg [mV 32 8,
bN 33 .eql 32 (cI 0)] [4,5,6,7,8,9,33])
(.cond 33 (rg [mV 34 4,
cL 35 z7T [34],
mV 9 35] [5,6,7,8,9])
.skip))
q1))))))
def zl8:AFun:=⟨1,[.t 2],zvD z6y,false,false⟩
def zdV (C:Hd) (gl:GL) (q1:ACode) (v0:AV) (h:Heap) (x:Esc) (K:KT):Prop:=
 pK (z0x [.sl0 none,.p (.int .i64 0)] [(0,1,v0)]) fun t1=>
 wK (oBox t1 h) fun t2 h3 y4=>
 C z3n [t2,(AI 0),(AI 6)] h3 fun t5 h6 y7=>
 C z7R [t2,t5] h6 fun t8 h9 y10=>
 C zaR [t2] h9 fun t11 h12 y13=>
 C zbq [t8] h12 fun t14 h15 y16=>
 pK (oExt t14 0) fun t17=>
 pK (oExt t14 1) fun t18=>
 C z4k [t8] h15 fun t19 h20 y21=>
 pK (oBin .eql t19 (AI 0)) fun t22=>
 z0i t22 (C z7T [t8] h20 fun t23 h24 y25=>
 NW C gl q1 ⟨[(5,t11),(6,t17),(7,t18),(8,t19),(9,t23)],h24,(y25++(y21++(y16++(y13++(y10++(y7++(y4++x)))))))⟩ K)
 (NW C gl q1 ⟨[(4,t8),(5,t11),(6,t17),(7,t18),(8,t19),(9,(.p (.str []))),(33,t22)],h20,(y21++(y16++(y13++(y10++(y7++(y4++x))))))⟩ K)
theorem E_q02i {C gl q1 v0 h x K}:NW C gl (zvD q1) ⟨enter [v0],h,x⟩ K=zdV C gl q1 v0 h x K:=by kernel_rfl
theorem e_q02i {C gl v0 h x K}:NW C gl zl8.body ⟨enter [v0],h,x⟩ K=zdV C gl z6y v0 h x K:=E_q02i
def z3v:ACode:=.pr [0,1,6] (.seq (rg [bN 7 .lss 6 (cI 6)] [0,1,6,7])
(.seq (.cond 7 .skip
(.exit 0))
(.seq (.block 1 (.seq (rg [mV 8 0,
mV 9 1,
cL 10 z7R [8,9],
mV 5 10] [0,1,5,6])
(.seq (rg [mV 11 5,
cL 12 z4k [11],
bN 13 .eql 12 (cI 0),
mV 14 13,
gD 15 14 true (.mv 5),
gD 16 14 true (.len 15),
gD 17 14 true (.mv 1),
gD 18 14 true (.bin .leq 16 17),
uO 19 (.pick 14 18 cF)] [0,1,5,6,19])
(.cond 19 (.seq (rg [mV 20 5,
mV 4 20] [4])
.ret)
.skip))))
(rg [bN 21 .add 6 (cI 1),
mV 6 21] [0,1,6]))))
def zef (C:Hd) (gl:GL) (v0 v1 v6:AV) (h:Heap) (x:Esc) (K:KT):Prop:=
 pK (oBin .lss v6 (AI 6)) fun t1=>
 z0i t1 (C z7R [v0,v1] h fun t2 h3 y4=>
 C z4k [t2] h3 fun t5 h6 y7=>
 pK (oBin .eql t5 (AI 0)) fun t8=>
 gM t8 true t2 h6 fun t9 h10 y11=>
 gP t8 true (oLen t9) h10 fun t12 h13 y14=>
 gM t8 true v1 h13 fun t15 h16 y17=>
 gP t8 true (oBin .leq t12 t15) h16 fun t18 h19 y20=>
 pK (z09 t8 t18 (AB false)) fun t21=>
 z0i t21 (K .ret ⟨[(4,t2)],h19,(y20++(y17++(y14++(y11++(y7++(y4++x))))))⟩)
 (pK (oBin .add v6 (AI 1)) fun t22=>
 K .normal ⟨[(0,v0),(1,v1),(6,t22)],h19,(y20++(y17++(y14++(y11++(y7++(y4++x))))))⟩))
 (K (.exit 0) ⟨[(0,v0),(1,v1),(6,v6),(7,t1)],h,x⟩)
theorem zoH {C gl e h x K}:NW C gl z3v ⟨e,h,x⟩ K=zef C gl (aget e 0) (aget e 1) (aget e 6) h x K:=by kernel_rfl
theorem zqF {C gl e h x K}:NW C gl (.loop z3v) ⟨e,h,x⟩ K=z0Z C gl z3v K [(0,aget e 0),(1,aget e 1),(6,aget e 6)] h x:=z0C
def z64:ACode:=.pr [] (.seq (rg [mV 4 (.c (.p (.sl (some 6) [])))] [4])
.ret)
def zeg (C:Hd) (gl:GL) (h:Heap) (x:Esc) (K:KT):Prop:=
 K .ret ⟨[(4,(.p (.sl (some 6) [])))],h,x⟩
theorem zoI {C gl e h x K}:NW C gl z64 ⟨e,h,x⟩ K=zeg C gl h x K:=by kernel_rfl
def zvI (q1 q2:ACode):ACode:=(.seq (rg [mV 4 (.c (.p (.sl (some 6) [])))] [0,1])
(.seq (.seq (rg [mV 6 (cI 0)] [0,1,6])
(.block 0 (.loop q1)))
q2))
def zlK:AFun:=⟨2,[.t 4],zvI z3v z64,false,false⟩
def zh3 (C:Hd) (gl:GL) (q1 q2:ACode) (v0 v1:AV) (h:Heap) (x:Esc) (K:KT):Prop:=
 NW C gl (.loop q1) ⟨[(0,v0),(1,v1),(6,(AI 0))],h,x⟩ (z0s 0 (seqN C gl q2 K))
theorem E_q02v {C gl q1 q2 v0 v1 h x K}:NW C gl (zvI q1 q2) ⟨enter [v0,v1],h,x⟩ K=zh3 C gl q1 q2 v0 v1 h x K:=by kernel_rfl
theorem e_q02v {C gl v0 v1 h x K}:NW C gl zlK.body ⟨enter [v0,v1],h,x⟩ K=zh3 C gl z3v z64 v0 v1 h x K:=E_q02v
def P_q02u:ACode:=(.seq (rg [mV 6 (cI 0)] [0,1,2])
(.seq (.seq (rg [mV 7 2,
mV 8 1,
bN 9 .lss 7 8] [0,1,2,9])
(.cond 9 (.seq (rg [mV 10 1,
mV 6 10] [6])
.ret)
.skip))
(.seq (rg [mV 11 1,
mV 12 0,
mV 13 2,
mV 14 1,
bN 15 .sub 13 14,
bN 16 .add 15 (cI 1),
cL 17 z12 [12,16],
bN 18 .add 11 17,
mV 6 18] [6])
.ret)))
def zlJ:AFun:=⟨3,[.t 6],P_q02u,false,false⟩
def znC (C:Hd) (gl:GL) (v0 v1 v2:AV) (h:Heap) (x:Esc) (K:KT):Prop:=
 pK (oBin .lss v2 v1) fun t1=>
 z0i t1 (K .ret ⟨[(6,v1)],h,x⟩)
 (pK (oBin .sub v2 v1) fun t2=>
 pK (oBin .add t2 (AI 1)) fun t3=>
 C z12 [v0,t3] h fun t4 h5 y6=>
 pK (oBin .add v1 t4) fun t7=>
 K .ret ⟨[(6,t7)],h5,(y6++x)⟩)
theorem e_q02u {C gl v0 v1 v2 h x K}:NW C gl zlJ.body ⟨enter [v0,v1,v2],h,x⟩ K=znC C gl v0 v1 v2 h x K:=by kernel_rfl
def z39:ACode:=.pr [0,1,12,13] (.seq (rg [bN 14 .lss 13 12] [0,1,12,13,14])
(.seq (.cond 14 .skip
(.exit 0))
(.seq (.block 1 (.seq (rg [mV 15 13,
mV 5 15] [0,1,5,12,13])
(.seq (dr [dF (mV 16 0) [0],
dF (mV 17 5) [5],
dF (iA 18 (some 6) 16 17) [16,17],
dF (lD 19 (some 6) 18) [18],
dF (mV 20 1) [1],
dF (mV 21 5) [5],
dF (iA 22 (some 6) 20 21) [20,21],
dF (lD 23 (some 6) 22) [22],
dF (uO 24 (.eqa [0,0,0,2,2,2] true 19 23)) [19,23]] [0,1,12,13,24])
(.cond 24 (.seq (rg [mV 4 cF] [4])
.ret)
.skip))))
(rg [bN 25 .add 13 (cI 1),
mV 13 25] [0,1,12,13]))))
def ze5 (C:Hd) (gl:GL) (v0 v1 v12 v13:AV) (h:Heap) (x:Esc) (K:KT):Prop:=
 pK (oBin .lss v13 v12) fun t1=>
 z0i t1 (pK (z0r (some 6) v0 v13 h) fun t2=>
 pK (z0e (some 6) t2 h) fun t3=>
 pK (z0r (some 6) v1 v13 h) fun t4=>
 pK (z0e (some 6) t4 h) fun t5=>
 pK (oEqa [0,0,0,2,2,2] true t3 t5) fun t6=>
 z0i t6 (K .ret ⟨[(4,(AB false))],h,x⟩)
 (pK (oBin .add v13 (AI 1)) fun t7=>
 K .normal ⟨[(0,v0),(1,v1),(12,v12),(13,t7)],h,x⟩))
 (K (.exit 0) ⟨[(0,v0),(1,v1),(12,v12),(13,v13),(14,t1)],h,x⟩)
theorem zpp {C gl e h x K}:NW C gl z39 ⟨e,h,x⟩ K=ze5 C gl (aget e 0) (aget e 1) (aget e 12) (aget e 13) h x K:=by kernel_rfl
theorem zqS {C gl e h x K}:NW C gl (.loop z39) ⟨e,h,x⟩ K=z0Z C gl z39 K [(0,aget e 0),(1,aget e 1),(12,aget e 12),(13,aget e 13)] h x:=z0C
def z6K:ACode:=.pr [] (.seq (rg [mV 4 cT] [4])
.ret)
def ze6 (C:Hd) (gl:GL) (h:Heap) (x:Esc) (K:KT):Prop:=
 K .ret ⟨[(4,(AB true))],h,x⟩
theorem zpq {C gl e h x K}:NW C gl z6K ⟨e,h,x⟩ K=ze6 C gl h x K:=by kernel_rfl
def zvX (q1 q2:ACode):ACode:=(.seq (rg [mV 4 cF] [0,1])
(.seq (.seq (rg [mV 6 0,
lN 7 6,
mV 8 1,
lN 9 8,
bN 10 .neq 7 9] [0,1,10])
(.cond 10 (.seq (rg [mV 4 cF] [4])
.ret)
.skip))
(.seq (.seq (rg [mV 11 0,
lN 12 11,
mV 13 (cI 0)] [0,1,12,13])
(.block 0 (.loop q1)))
q2)))
def zmo:AFun:=⟨2,[.t 4],zvX z39 z6K,false,false⟩
def ze4 (C:Hd) (gl:GL) (q1 q2:ACode) (v0 v1:AV) (h:Heap) (x:Esc) (K:KT):Prop:=
 pK (oLen v0) fun t1=>
 pK (oLen v1) fun t2=>
 pK (oBin .neq t1 t2) fun t3=>
 z0i t3 (K .ret ⟨[(4,(AB false))],h,x⟩)
 (pK (oLen v0) fun t4=>
 NW C gl (.loop q1) ⟨[(0,v0),(1,v1),(12,t4),(13,(AI 0))],h,x⟩ (z0s 0 (seqN C gl q2 K)))
theorem E_q03z {C gl q1 q2 v0 v1 h x K}:NW C gl (zvX q1 q2) ⟨enter [v0,v1],h,x⟩ K=ze4 C gl q1 q2 v0 v1 h x K:=by kernel_rfl
theorem e_q03z {C gl v0 v1 h x K}:NW C gl zmo.body ⟨enter [v0,v1],h,x⟩ K=ze4 C gl z39 z6K v0 v1 h x K:=E_q03z
def P_q063:ACode:=(.seq (rg [mV 2 (cI 0),
mV 3 (cI 0)] [0])
(.seq (.seq (rg [mV 5 0,
cL 6 z4n [5],
mV 4 6] [0,4])
(.seq (rg [mV 7 4,
bN 8 .neq 7 (cI 0)] [0,4,8])
(.cond 8 (.seq (rg [mV 9 4,
mV 2 (cI 0),
mV 3 9] [2,3])
.ret)
.skip)))
(.seq (rg [mV 10 0,
cL 11 z6k [10,(.c (.nilp))],
uO 12 (.nilchk 11),
fA 13 37 none 12,
lD 14 none 13,
mV 2 14,
mV 3 (cI 0)] [2,3])
.ret)))
def zm7:AFun:=⟨1,[.t 2,.t 3],P_q063,false,false⟩
def zhL (C:Hd) (gl:GL) (v0:AV) (h:Heap) (x:Esc) (K:KT):Prop:=
 C z4n [v0] h fun t1 h2 y3=>
 pK (oBin .neq t1 (AI 0)) fun t4=>
 z0i t4 (K .ret ⟨[(2,(AI 0)),(3,t1)],h2,(y3++x)⟩)
 (C z6k [v0,(.nilp)] h2 fun t5 h6 y7=>
 pK (oNil t5) fun t8=>
 pK (z0d 37 none t8) fun t9=>
 pK (z0e none t9 h6) fun t10=>
 K .ret ⟨[(2,t10),(3,(AI 0))],h6,(y7++(y3++x))⟩)
theorem e_q063 {C gl v0 h x K}:NW C gl zm7.body ⟨enter [v0],h,x⟩ K=zhL C gl v0 h x K:=by kernel_rfl
def z3y:ACode:=.pr [0,5,9,10,11] (.seq (rg [bN 12 .lss 11 10] [0,5,9,10,11,12])
(.seq (.cond 12 .skip
(.exit 0))
(.seq (.block 1 (.seq (rg [iA 13 none 9 11,
lD 14 none 13,
mV 7 14] [0,5,7,9,10,11])
(.seq (rg [mV 15 0,
mV 16 7,
bN 17 .sub 16 (.c (.p (.int .u8 48))),
uO 18 (.conv (.i .i64) 17),
cL 19 zaU [15,18],
mV 0 19] [0,5,9,10,11])
(rg [mV 20 5,
mV 21 0,
uO 22 (.bsl false none 1 (.int .i64 0) [(0,21)]),
uO 23 (.app none 20 22),
mV 5 23] [0,5,9,10,11]))))
(rg [bN 24 .add 11 (cI 1),
mV 11 24] [0,5,9,10,11]))))
def zem (C:Hd) (gl:GL) (v0 v5 v9 v10 v11:AV) (h:Heap) (x:Esc) (K:KT):Prop:=
 pK (oBin .lss v11 v10) fun t1=>
 z0i t1 (pK (z0r none v9 v11 h) fun t2=>
 pK (z0e none t2 h) fun t3=>
 pK (oBin .sub t3 (.p (.int .u8 48))) fun t4=>
 pK (z1w .i64 t4) fun t5=>
 C zaU [v0,t5] h fun t6 h7 y8=>
 wK (oBsl false none 1 (.int .i64 0) [(0,t6)] h7) fun t9 h10 y11=>
 wK (oApp none v5 t9 h10) fun t12 h13 y14=>
 pK (oBin .add v11 (AI 1)) fun t15=>
 K .normal ⟨[(0,t6),(5,t12),(9,v9),(10,v10),(11,t15)],h13,(y14++(y11++(y8++x)))⟩)
 (K (.exit 0) ⟨[(0,v0),(5,v5),(9,v9),(10,v10),(11,v11),(12,t1)],h,x⟩)
theorem zoQ {C gl e h x K}:NW C gl z3y ⟨e,h,x⟩ K=zem C gl (aget e 0) (aget e 5) (aget e 9) (aget e 10) (aget e 11) h x K:=by kernel_rfl
theorem zqJ {C gl e h x K}:NW C gl (.loop (.scope z3y)) ⟨e,h,x⟩ K=z0Z C gl (.scope z3y) K [(0,aget e 0),(5,aget e 5),(9,aget e 9),(10,aget e 10),(11,aget e 11)] h x:=z1F
def z66:ACode:=.pr [5] (.seq (rg [mV 25 5,
mV 4 25] [4])
.ret)
def zen (C:Hd) (gl:GL) (v5:AV) (h:Heap) (x:Esc) (K:KT):Prop:=
 K .ret ⟨[(4,v5)],h,x⟩
theorem zoR {C gl e h x K}:NW C gl z66 ⟨e,h,x⟩ K=zen C gl (aget e 5) h x K:=by kernel_rfl
def zvL (q1 q2:ACode):ACode:=(.seq (rg [mV 4 (.c (.p (.sl none [])))] [0,1])
(.seq (rg [uO 5 (.new0 none)] [0,1,5])
(.seq (.seq (rg [mV 8 1,
uO 9 (.conv .s2b 8),
lN 10 9,
mV 11 (cI 0)] [0,5,9,10,11])
(.block 0 (.loop (.scope q1))))
q2)))
def zlO:AFun:=⟨2,[.t 4],zvL z3y z66,false,false⟩
def zh6 (C:Hd) (gl:GL) (q1 q2:ACode) (v0 v1:AV) (h:Heap) (x:Esc) (K:KT):Prop:=
 nwK none h fun t1 h2 y3=>
 wK (z95 .s2b v1 h2) fun t4 h5 y6=>
 pK (oLen t4) fun t7=>
 NW C gl (.loop (.scope q1)) ⟨[(0,v0),(5,t1),(9,t4),(10,t7),(11,(AI 0))],h5,(y6++(y3++x))⟩ (z0s 0 (seqN C gl q2 K))
theorem E_q02z {C gl q1 q2 v0 v1 h x K}:NW C gl (zvL q1 q2) ⟨enter [v0,v1],h,x⟩ K=zh6 C gl q1 q2 v0 v1 h x K:=by kernel_rfl
theorem e_q02z {C gl v0 v1 h x K}:NW C gl zlO.body ⟨enter [v0,v1],h,x⟩ K=zh6 C gl z3y z66 v0 v1 h x K:=E_q02z
def z3u:ACode:=.pr [0,5,6,7] (.seq (rg [bN 8 .lss 7 6] [0,5,6,7,8])
(.seq (.cond 8 .skip
(.exit 0))
(.seq (.block 1 (rg [mV 9 5,
mV 10 0,
cL 11 zaP [10],
uO 12 (.bsl false (some 6) 1 (.agg [.int .i64 0,.int .i64 0,.int .i64 0,.str [],.str [],.str []]) [(0,11)]),
uO 13 (.app (some 6) 9 12),
mV 5 13] [0,5,6,7]))
(rg [bN 14 .add 7 (cI 1),
mV 7 14] [0,5,6,7]))))
def zeb (C:Hd) (gl:GL) (v0 v5 v6 v7:AV) (h:Heap) (x:Esc) (K:KT):Prop:=
 pK (oBin .lss v7 v6) fun t1=>
 z0i t1 (C zaP [v0] h fun t2 h3 y4=>
 wK (oBsl false (some 6) 1 (.agg [.int .i64 0,.int .i64 0,.int .i64 0,.str [],.str [],.str []]) [(0,t2)] h3) fun t5 h6 y7=>
 wK (oApp (some 6) v5 t5 h6) fun t8 h9 y10=>
 pK (oBin .add v7 (AI 1)) fun t11=>
 K .normal ⟨[(0,v0),(5,t8),(6,v6),(7,t11)],h9,(y10++(y7++(y4++x)))⟩)
 (K (.exit 0) ⟨[(0,v0),(5,v5),(6,v6),(7,v7),(8,t1)],h,x⟩)
theorem zoD {C gl e h x K}:NW C gl z3u ⟨e,h,x⟩ K=zeb C gl (aget e 0) (aget e 5) (aget e 6) (aget e 7) h x K:=by kernel_rfl
theorem zqD {C gl e h x K}:NW C gl (.loop (.scope z3u)) ⟨e,h,x⟩ K=z0Z C gl (.scope z3u) K [(0,aget e 0),(5,aget e 5),(6,aget e 6),(7,aget e 7)] h x:=z1F
def z4E:ACode:=.pr [0,5,17] (.seq (rg [bN 18 .lss 17 (cI 11)] [0,5,17,18])
(.seq (.cond 18 .skip
(.exit 2))
(.seq (.block 3 (rg [mV 19 5,
mV 20 0,
uO 21 (.bsl false none 3 (.int .i64 0) [(0,(cI 1800)),(1,(cI 1830)),(2,(cI 2000))]),
cL 22 z1p [20,21],
cL 23 z1q [(cS [49]),22],
uO 24 (.build [.p (.int .i64 0),.p (.int .i64 0),.p (.int .i64 0),.p (.str []),.p (.str []),.p (.str [])] [(0,1,(cI 8)),(3,1,23)]),
uO 25 (.bsl false (some 6) 1 (.agg [.int .i64 0,.int .i64 0,.int .i64 0,.str [],.str [],.str []]) [(0,24)]),
uO 26 (.app (some 6) 19 25),
mV 5 26] [0,5,17]))
(rg [bN 27 .add 17 (cI 1),
mV 17 27] [0,5,17]))))
def zec (C:Hd) (gl:GL) (v0 v5 v17:AV) (h:Heap) (x:Esc) (K:KT):Prop:=
 pK (oBin .lss v17 (AI 11)) fun t1=>
 z0i t1 (wK (oBsl false none 3 (.int .i64 0) [(0,(AI 1800)),(1,(AI 1830)),(2,(AI 2000))] h) fun t2 h3 y4=>
 C z1p [v0,t2] h3 fun t5 h6 y7=>
 C z1q [(.p (.str [49])),t5] h6 fun t8 h9 y10=>
 pK (z0x [.p (.int .i64 0),.p (.int .i64 0),.p (.int .i64 0),.p (.str []),.p (.str []),.p (.str [])] [(0,1,(AI 8)),(3,1,t8)]) fun t11=>
 wK (oBsl false (some 6) 1 (.agg [.int .i64 0,.int .i64 0,.int .i64 0,.str [],.str [],.str []]) [(0,t11)] h9) fun t12 h13 y14=>
 wK (oApp (some 6) v5 t12 h13) fun t15 h16 y17=>
 pK (oBin .add v17 (AI 1)) fun t18=>
 K .normal ⟨[(0,v0),(5,t15),(17,t18)],h16,(y17++(y14++(y10++(y7++(y4++x)))))⟩)
 (K (.exit 2) ⟨[(0,v0),(5,v5),(17,v17),(18,t1)],h,x⟩)
theorem zoE {C gl e h x K}:NW C gl z4E ⟨e,h,x⟩ K=zec C gl (aget e 0) (aget e 5) (aget e 17) h x K:=by kernel_rfl
theorem zqE {C gl e h x K}:NW C gl (.loop (.scope z4E)) ⟨e,h,x⟩ K=z0Z C gl (.scope z4E) K [(0,aget e 0),(5,aget e 5),(17,aget e 17)] h x:=z1F
def z9F:ACode:=.pr [5] (.seq (rg [mV 28 5,
mV 4 28] [4])
.ret)
def zee (C:Hd) (gl:GL) (v5:AV) (h:Heap) (x:Esc) (K:KT):Prop:=
 K .ret ⟨[(4,v5)],h,x⟩
theorem zoF {C gl e h x K}:NW C gl z9F ⟨e,h,x⟩ K=zee C gl (aget e 5) h x K:=by kernel_rfl
def zdn (q2 q3:ACode):ACode:=.pr [0,5] (.seq (.seq (rg [mV 15 0,
cL 16 z2z [15,(cI 80)]] [0,5,16])
(.cond 16 (.seq (rg [mV 17 (cI 0)] [0,5,17])
(.block 2 (.loop (.scope q2))))
.skip))
q3)
def z63:ACode:=zdn z4E z9F
def z8S (C:Hd) (gl:GL) (q2 q3:ACode) (v0 v5:AV) (h:Heap) (x:Esc) (K:KT):Prop:=
 C z2z [v0,(AI 80)] h fun t1 h2 y3=>
 z0i t1 (NW C gl (.loop (.scope q2)) ⟨[(0,v0),(5,v5),(17,(AI 0))],h2,(y3++x)⟩ (z0s 2 (seqN C gl q3 K)))
 (NW C gl q3 ⟨[(0,v0),(5,v5),(16,t1)],h2,(y3++x)⟩ K)
theorem zkY {C gl q2 q3 e h x K}:NW C gl (zdn q2 q3) ⟨e,h,x⟩ K=z8S C gl q2 q3 (aget e 0) (aget e 5) h x K:=by kernel_rfl
theorem zoG {C gl e h x K}:NW C gl z63 ⟨e,h,x⟩ K=z8S C gl z4E z9F (aget e 0) (aget e 5) h x K:=zkY
def zvH (q1 q4:ACode):ACode:=(.seq (rg [mV 4 (.c (.p (.sl (some 6) [])))] [0,1])
(.seq (rg [uO 5 (.new0 (some 6))] [0,1,5])
(.seq (.seq (rg [mV 6 1,
mV 7 (cI 0)] [0,5,6,7])
(.block 0 (.loop (.scope q1))))
q4)))
def zlE:AFun:=⟨2,[.t 4],zvH z3u z63,false,false⟩
def zh0 (C:Hd) (gl:GL) (q1 q4:ACode) (v0 v1:AV) (h:Heap) (x:Esc) (K:KT):Prop:=
 nwK (some 6) h fun t1 h2 y3=>
 NW C gl (.loop (.scope q1)) ⟨[(0,v0),(5,t1),(6,v1),(7,(AI 0))],h2,(y3++x)⟩ (z0s 0 (seqN C gl q4 K))
theorem E_q02p {C gl q1 q4 v0 v1 h x K}:NW C gl (zvH q1 q4) ⟨enter [v0,v1],h,x⟩ K=zh0 C gl q1 q4 v0 v1 h x K:=by kernel_rfl
theorem e_q02p {C gl v0 v1 h x K}:NW C gl zlE.body ⟨enter [v0,v1],h,x⟩ K=zh0 C gl z3u z63 v0 v1 h x K:=E_q02p
def z3t:ACode:=.pr [0,3,11,12] (.seq (rg [bN 13 .lss 12 11] [0,3,11,12,13])
(.seq (.cond 13 .skip
(.exit 0))
(.seq (.block 1 (rg [mV 14 0,
mV 15 3,
cL 16 zaQ [14,15,(cS [32,10,48,49,45,120,57,101,100,114])],
mV 3 16] [0,3,11,12]))
(rg [bN 17 .add 12 (cI 1),
mV 12 17] [0,3,11,12]))))
def zdZ (C:Hd) (gl:GL) (v0 v3 v11 v12:AV) (h:Heap) (x:Esc) (K:KT):Prop:=
 pK (oBin .lss v12 v11) fun t1=>
 z0i t1 (C zaQ [v0,v3,(.p (.str [32,10,48,49,45,120,57,101,100,114]))] h fun t2 h3 y4=>
 pK (oBin .add v12 (AI 1)) fun t5=>
 K .normal ⟨[(0,v0),(3,t2),(11,v11),(12,t5)],h3,(y4++x)⟩)
 (K (.exit 0) ⟨[(0,v0),(3,v3),(11,v11),(12,v12),(13,t1)],h,x⟩)
theorem zoB {C gl e h x K}:NW C gl z3t ⟨e,h,x⟩ K=zdZ C gl (aget e 0) (aget e 3) (aget e 11) (aget e 12) h x K:=by kernel_rfl
theorem zqC {C gl e h x K}:NW C gl (.loop z3t) ⟨e,h,x⟩ K=z0Z C gl z3t K [(0,aget e 0),(3,aget e 3),(11,aget e 11),(12,aget e 12)] h x:=z0C
def z62:ACode:=.pr [3] (.seq (rg [mV 18 3,
mV 2 18] [2])
.ret)
def zea (C:Hd) (gl:GL) (v3:AV) (h:Heap) (x:Esc) (K:KT):Prop:=
 K .ret ⟨[(2,v3)],h,x⟩
theorem zoC {C gl e h x K}:NW C gl z62 ⟨e,h,x⟩ K=zea C gl (aget e 3) h x K:=by kernel_rfl
def zvG (q1 q2:ACode):ACode:=(.seq (rg [mV 2 (cS [])] [0])
(.seq (rg [mV 4 0,
mV 5 0,
cL 6 z3n [5,(cI 0),(cI 5)],
cL 7 zaS [4,6],
cL 8 z7T [7],
mV 3 8] [0,3])
(.seq (.seq (rg [mV 9 0,
uO 10 (.bsl false none 4 (.int .i64 0) [(0,(cI 0)),(1,(cI 0)),(2,(cI 1)),(3,(cI 2))]),
cL 11 z1p [9,10],
mV 12 (cI 0)] [0,3,11,12])
(.block 0 (.loop q1)))
q2)))
def zlD:AFun:=⟨1,[.t 2],zvG z3t z62,false,false⟩
def zhz (C:Hd) (gl:GL) (q1 q2:ACode) (v0:AV) (h:Heap) (x:Esc) (K:KT):Prop:=
 C z3n [v0,(AI 0),(AI 5)] h fun t1 h2 y3=>
 C zaS [v0,t1] h2 fun t4 h5 y6=>
 C z7T [t4] h5 fun t7 h8 y9=>
 wK (oBsl false none 4 (.int .i64 0) [(0,(AI 0)),(1,(AI 0)),(2,(AI 1)),(3,(AI 2))] h8) fun t10 h11 y12=>
 C z1p [v0,t10] h11 fun t13 h14 y15=>
 NW C gl (.loop q1) ⟨[(0,v0),(3,t7),(11,t13),(12,(AI 0))],h14,(y15++(y12++(y9++(y6++(y3++x)))))⟩ (z0s 0 (seqN C gl q2 K))
theorem E_q02o {C gl q1 q2 v0 h x K}:NW C gl (zvG q1 q2) ⟨enter [v0],h,x⟩ K=zhz C gl q1 q2 v0 h x K:=by kernel_rfl
theorem e_q02o {C gl v0 h x K}:NW C gl zlD.body ⟨enter [v0],h,x⟩ K=zhz C gl z3t z62 v0 h x K:=E_q02o
def z26:ACode:=.pr [5,13,14,15] (.seq (rg [bN 16 .lss 15 14] [5,13,14,15,16])
(.seq (.cond 16 .skip
(.exit 0))
(.seq (.block 1 (.seq (rg [iA 17 (some 6) 13 15,
lD 18 (some 6) 17,
uO 7 (.alloc [.p (.int .i64 0),.p (.int .i64 0),.p (.int .i64 0),.p (.str []),.p (.str []),.p (.str [])]),
wO (.store (some 6) 7 18)] [5,7,13,14,15])
(rg [lD 19 (some 6) 7,
cL 20 zbu [19],
bN 21 .add 20 (cS [10]),
cL 22 z2n [5,21]] [5,13,14,15])))
(rg [bN 23 .add 15 (cI 1),
mV 15 23] [5,13,14,15]))))
def zeN (C:Hd) (gl:GL) (v5 v13 v14 v15:AV) (h:Heap) (x:Esc) (K:KT):Prop:=
 pK (oBin .lss v15 v14) fun t1=>
 z0i t1 (pK (z0r (some 6) v13 v15 h) fun t2=>
 pK (z0e (some 6) t2 h) fun t3=>
 alK [.p (.int .i64 0),.p (.int .i64 0),.p (.int .i64 0),.p (.str []),.p (.str []),.p (.str [])] h fun t4 h5 y6=>
 wK (z0k (some 6) t4 t3 h5) fun t7 h8 y9=>
 pK (z0e (some 6) t4 h8) fun t10=>
 C zbu [t10] h8 fun t11 h12 y13=>
 pK (oBin .add t11 (.p (.str [10]))) fun t14=>
 C z2n [v5,t14] h12 fun t15 h16 y17=>
 pK (oBin .add v15 (AI 1)) fun t18=>
 K .normal ⟨[(5,v5),(13,v13),(14,v14),(15,t18)],h16,(y17++(y13++(y9++(y6++x))))⟩)
 (K (.exit 0) ⟨[(5,v5),(13,v13),(14,v14),(15,v15),(16,t1)],h,x⟩)
theorem zp7 {C gl e h x K}:NW C gl z26 ⟨e,h,x⟩ K=zeN C gl (aget e 5) (aget e 13) (aget e 14) (aget e 15) h x K:=by kernel_rfl
theorem zra {C gl e h x K}:NW C gl (.loop (.scope z26)) ⟨e,h,x⟩ K=z0Z C gl (.scope z26) K [(5,aget e 5),(13,aget e 13),(14,aget e 14),(15,aget e 15)] h x:=z1F
def z6R:ACode:=.pr [5] (.seq (.seq (rg [cL 24 z9q [5],
bN 25 .gtr 24 (cI 200000)] [5,25])
(.cond 25 (.seq (rg [mV 2 (cS []),
mV 3 (cI 2)] [2,3])
.ret)
.skip))
(.seq (rg [cL 26 z4m [5],
mV 2 26,
mV 3 (cI 0)] [2,3])
.ret))
def zeO (C:Hd) (gl:GL) (v5:AV) (h:Heap) (x:Esc) (K:KT):Prop:=
 C z9q [v5] h fun t1 h2 y3=>
 pK (oBin .gtr t1 (AI 200000)) fun t4=>
 z0i t4 (K .ret ⟨[(2,(.p (.str []))),(3,(AI 2))],h2,(y3++x)⟩)
 (C z4m [v5] h2 fun t5 h6 y7=>
 K .ret ⟨[(2,t5),(3,(AI 0))],h6,(y7++(y3++x))⟩)
theorem zp8 {C gl e h x K}:NW C gl z6R ⟨e,h,x⟩ K=zeO C gl (aget e 5) h x K:=by kernel_rfl
def zwe (q1 q2:ACode):ACode:=(.seq (rg [mV 2 (cS []),
mV 3 (cI 0)] [0])
(.seq (.seq (rg [mV 8 0,
cL 9 z4n [8],
mV 4 9] [0,4])
(.seq (rg [mV 10 4,
bN 11 .neq 10 (cI 0)] [0,4,11])
(.cond 11 (.seq (rg [mV 12 4,
mV 2 (cS []),
mV 3 12] [2,3])
.ret)
.skip)))
(.seq (rg [uO 5 (.uns 0 106 [(cI 5)])] [0,5])
(.seq (.seq (rg [mV 13 0,
lN 14 13,
mV 15 (cI 0)] [5,13,14,15])
(.block 0 (.loop (.scope q1))))
q2))))
def zmA:AFun:=⟨1,[.t 2,.t 3],zwe z26 z6R,false,false⟩
def zeM (C:Hd) (gl:GL) (q1 q2:ACode) (v0:AV) (h:Heap) (x:Esc) (K:KT):Prop:=
 C z4n [v0] h fun t1 h2 y3=>
 pK (oBin .neq t1 (AI 0)) fun t4=>
 z0i t4 (K .ret ⟨[(2,(.p (.str []))),(3,t1)],h2,(y3++x)⟩)
 (wK (z1y 0 106 [(AI 5)] h2) fun t5 h6 y7=>
 pK (oLen v0) fun t8=>
 NW C gl (.loop (.scope q1)) ⟨[(5,t5),(13,v0),(14,t8),(15,(AI 0))],h6,(y7++(y3++x))⟩ (z0s 0 (seqN C gl q2 K)))
theorem E_q069 {C gl q1 q2 v0 h x K}:NW C gl (zwe q1 q2) ⟨enter [v0],h,x⟩ K=zeM C gl q1 q2 v0 h x K:=by kernel_rfl
theorem e_q069 {C gl v0 h x K}:NW C gl zmA.body ⟨enter [v0],h,x⟩ K=zeM C gl z26 z6R v0 h x K:=E_q069
def z30:ACode:=.pr [0,12,13,14] (.seq (rg [bN 15 .lss 14 13] [0,12,13,14,15])
(.seq (.cond 15 .skip
(.exit 0))
(.seq (.block 1 (.seq (rg [iA 16 (some 6) 12 14,
lD 17 (some 6) 16,
uO 4 (.alloc [.p (.int .i64 0),.p (.int .i64 0),.p (.int .i64 0),.p (.str []),.p (.str []),.p (.str [])]),
wO (.store (some 6) 4 17)] [0,4,12,13,14])
(.seq (rg [lD 18 (some 6) 4,
cL 19 zba [18],
mV 5 19] [0,5,12,13,14])
(.seq (rg [mV 20 5,
bN 21 .neq 20 (cI 0)] [0,5,12,13,14,21])
(.cond 21 (.seq (rg [mV 22 5,
mV 2 22] [2])
.ret)
.skip)))))
(rg [bN 23 .add 14 (cI 1),
mV 14 23] [0,12,13,14]))))
def zer (C:Hd) (gl:GL) (v0 v12 v13 v14:AV) (h:Heap) (x:Esc) (K:KT):Prop:=
 pK (oBin .lss v14 v13) fun t1=>
 z0i t1 (pK (z0r (some 6) v12 v14 h) fun t2=>
 pK (z0e (some 6) t2 h) fun t3=>
 alK [.p (.int .i64 0),.p (.int .i64 0),.p (.int .i64 0),.p (.str []),.p (.str []),.p (.str [])] h fun t4 h5 y6=>
 wK (z0k (some 6) t4 t3 h5) fun t7 h8 y9=>
 pK (z0e (some 6) t4 h8) fun t10=>
 C zba [t10] h8 fun t11 h12 y13=>
 pK (oBin .neq t11 (AI 0)) fun t14=>
 z0i t14 (K .ret ⟨[(2,t11)],h12,(y13++(y9++(y6++x)))⟩)
 (pK (oBin .add v14 (AI 1)) fun t15=>
 K .normal ⟨[(0,v0),(12,v12),(13,v13),(14,t15)],h12,(y13++(y9++(y6++x)))⟩))
 (K (.exit 0) ⟨[(0,v0),(12,v12),(13,v13),(14,v14),(15,t1)],h,x⟩)
theorem zoU {C gl e h x K}:NW C gl z30 ⟨e,h,x⟩ K=zer C gl (aget e 0) (aget e 12) (aget e 13) (aget e 14) h x K:=by kernel_rfl
theorem zqL {C gl e h x K}:NW C gl (.loop (.scope z30)) ⟨e,h,x⟩ K=z0Z C gl (.scope z30) K [(0,aget e 0),(12,aget e 12),(13,aget e 13),(14,aget e 14)] h x:=z1F
def z68:ACode:=.pr [0] (.seq (.seq (rg [mV 25 0,
cL 26 z9o [25],
mV 24 26,
eX 27 24 0,
eX 28 24 1,
eX 29 24 2,
mV 6 27,
mV 7 28,
mV 8 29] [6])
(.seq (rg [mV 30 6,
uO 31 (.lens 30),
bN 32 .gtr 31 (cI 20000)] [32])
(.cond 32 (.seq (rg [mV 2 (cI 2)] [2])
.ret)
.skip)))
(.seq (rg [mV 2 (cI 0)] [2])
.ret))
def zes (C:Hd) (gl:GL) (v0:AV) (h:Heap) (x:Esc) (K:KT):Prop:=
 C z9o [v0] h fun t1 h2 y3=>
 pK (oExt t1 0) fun t4=>
 pK (oExt t1 1) fun t5=>
 pK (oExt t1 2) fun t6=>
 pK (z06 t4) fun t7=>
 pK (oBin .gtr t7 (AI 20000)) fun t8=>
 z0i t8 (K .ret ⟨[(2,(AI 2))],h2,(y3++x)⟩)
 (K .ret ⟨[(2,(AI 0))],h2,(y3++x)⟩)
theorem zoV {C gl e h x K}:NW C gl z68 ⟨e,h,x⟩ K=zes C gl (aget e 0) h x K:=by kernel_rfl
def zvN (q1 q2:ACode):ACode:=(.seq (rg [mV 2 (cI 0)] [0])
(.seq (.seq (rg [mV 9 0,
lN 10 9,
bN 11 .gtr 10 (cI 1000)] [0,11])
(.cond 11 (.seq (rg [mV 2 (cI 2)] [2])
.ret)
.skip))
(.seq (.seq (rg [mV 12 0,
lN 13 12,
mV 14 (cI 0)] [0,12,13,14])
(.block 0 (.loop (.scope q1))))
q2)))
def zhd:AFun:=⟨1,[.t 2],zvN z30 z68,false,false⟩
def zeq (C:Hd) (gl:GL) (q1 q2:ACode) (v0:AV) (h:Heap) (x:Esc) (K:KT):Prop:=
 pK (oLen v0) fun t1=>
 pK (oBin .gtr t1 (AI 1000)) fun t2=>
 z0i t2 (K .ret ⟨[(2,(AI 2))],h,x⟩)
 (pK (oLen v0) fun t3=>
 NW C gl (.loop (.scope q1)) ⟨[(0,v0),(12,v0),(13,t3),(14,(AI 0))],h,x⟩ (z0s 0 (seqN C gl q2 K)))
theorem E_q033 {C gl q1 q2 v0 h x K}:NW C gl (zvN q1 q2) ⟨enter [v0],h,x⟩ K=zeq C gl q1 q2 v0 h x K:=by kernel_rfl
theorem e_q033 {C gl v0 h x K}:NW C gl zhd.body ⟨enter [v0],h,x⟩ K=zeq C gl z30 z68 v0 h x K:=E_q033
def z3z:ACode:=.pr [3,6,7,8] (.seq (rg [bN 9 .lss 8 7] [3,6,7,8,9])
(.seq (.cond 9 .skip
(.exit 0))
(.seq (.block 1 (.seq (rg [iA 10 (some 6) 6 8,
lD 11 (some 6) 10,
uO 5 (.alloc [.p (.int .i64 0),.p (.int .i64 0),.p (.int .i64 0),.p (.str []),.p (.str []),.p (.str [])]),
wO (.store (some 6) 5 11)] [3,5,6,7,8])
(rg [mV 12 3,
lD 13 (some 6) 5,
cL 14 zbc [13],
bN 15 .add 14 (cS [10]),
bN 16 .add 12 15,
mV 3 16] [3,6,7,8])))
(rg [bN 17 .add 8 (cI 1),
mV 8 17] [3,6,7,8]))))
def zeo (C:Hd) (gl:GL) (v3 v6 v7 v8:AV) (h:Heap) (x:Esc) (K:KT):Prop:=
 pK (oBin .lss v8 v7) fun t1=>
 z0i t1 (pK (z0r (some 6) v6 v8 h) fun t2=>
 pK (z0e (some 6) t2 h) fun t3=>
 alK [.p (.int .i64 0),.p (.int .i64 0),.p (.int .i64 0),.p (.str []),.p (.str []),.p (.str [])] h fun t4 h5 y6=>
 wK (z0k (some 6) t4 t3 h5) fun t7 h8 y9=>
 pK (z0e (some 6) t4 h8) fun t10=>
 C zbc [t10] h8 fun t11 h12 y13=>
 pK (oBin .add t11 (.p (.str [10]))) fun t14=>
 pK (oBin .add v3 t14) fun t15=>
 pK (oBin .add v8 (AI 1)) fun t16=>
 K .normal ⟨[(3,t15),(6,v6),(7,v7),(8,t16)],h12,(y13++(y9++(y6++x)))⟩)
 (K (.exit 0) ⟨[(3,v3),(6,v6),(7,v7),(8,v8),(9,t1)],h,x⟩)
theorem zoS {C gl e h x K}:NW C gl z3z ⟨e,h,x⟩ K=zeo C gl (aget e 3) (aget e 6) (aget e 7) (aget e 8) h x K:=by kernel_rfl
theorem zqK {C gl e h x K}:NW C gl (.loop (.scope z3z)) ⟨e,h,x⟩ K=z0Z C gl (.scope z3z) K [(3,aget e 3),(6,aget e 6),(7,aget e 7),(8,aget e 8)] h x:=z1F
def z67:ACode:=.pr [3] (.seq (rg [mV 18 3,
mV 2 18] [2])
.ret)
def zep (C:Hd) (gl:GL) (v3:AV) (h:Heap) (x:Esc) (K:KT):Prop:=
 K .ret ⟨[(2,v3)],h,x⟩
theorem zoT {C gl e h x K}:NW C gl z67 ⟨e,h,x⟩ K=zep C gl (aget e 3) h x K:=by kernel_rfl
def zvM (q1 q2:ACode):ACode:=(.seq (rg [mV 2 (cS [])] [0])
(.seq (rg [mV 3 (cS [])] [0,3])
(.seq (.seq (rg [mV 6 0,
lN 7 6,
mV 8 (cI 0)] [3,6,7,8])
(.block 0 (.loop (.scope q1))))
q2)))
def zlR:AFun:=⟨1,[.t 2],zvM z3z z67,false,false⟩
def zh7 (C:Hd) (gl:GL) (q1 q2:ACode) (v0:AV) (h:Heap) (x:Esc) (K:KT):Prop:=
 pK (oLen v0) fun t1=>
 NW C gl (.loop (.scope q1)) ⟨[(3,(.p (.str []))),(6,v0),(7,t1),(8,(AI 0))],h,x⟩ (z0s 0 (seqN C gl q2 K))
theorem E_q032 {C gl q1 q2 v0 h x K}:NW C gl (zvM q1 q2) ⟨enter [v0],h,x⟩ K=zh7 C gl q1 q2 v0 h x K:=by kernel_rfl
theorem e_q032 {C gl v0 h x K}:NW C gl zlR.body ⟨enter [v0],h,x⟩ K=zh7 C gl z3z z67 v0 h x K:=E_q032
def P_q064:ACode:=(.seq (rg [mV 2 (.c (.p (.sl (some 6) []))),
mV 3 (cI 0),
mV 4 (cI 0)] [0])
(.seq (.seq (rg [mV 9 0,
uO 10 (.lens 9),
bN 11 .gtr 10 (cI 200000)] [0,11])
(.cond 11 (.seq (rg [mV 2 (.c (.p (.sl (some 6) []))),
mV 3 (cI 0),
mV 4 (cI 2)] [2,3,4])
.ret)
.skip))
(.seq (rg [uO 5 (.uns 8 0 [(.c (.sl0 (some 6)))])] [0,5])
(.seq (rg [mV 13 0,
uO 14 (.mkfn z9t [5]),
cL 15 zaH [13,14],
mV 12 15,
eX 16 12 0,
eX 17 12 1,
mV 6 16,
mV 7 17] [5,6,7])
(.seq (.seq (rg [mV 18 7,
uO 19 (.un .not 18)] [5,6,19])
(.cond 19 (.seq (rg [mV 20 6,
mV 2 (.c (.p (.sl (some 6) []))),
mV 3 20,
mV 4 (cI 9)] [2,3,4])
.ret)
.skip))
(.seq (.seq (rg [lD 21 none 5,
cL 22 z4n [21],
mV 8 22] [5,8])
(.seq (rg [mV 23 8,
bN 24 .neq 23 (cI 0)] [5,8,24])
(.cond 24 (.seq (rg [mV 25 8,
mV 2 (.c (.p (.sl (some 6) []))),
mV 3 (cI 0),
mV 4 25] [2,3,4])
.ret)
.skip)))
(.seq (rg [lD 26 none 5,
mV 2 26,
mV 3 (cI 0),
mV 4 (cI 0)] [2,3,4])
.ret)))))))
def zm8:AFun:=⟨1,[.t 2,.t 3,.t 4],P_q064,false,false⟩
def zeL (C:Hd) (gl:GL) (v0:AV) (h:Heap) (x:Esc) (K:KT):Prop:=
 pK (z06 v0) fun t1=>
 pK (oBin .gtr t1 (AI 200000)) fun t2=>
 z0i t2 (K .ret ⟨[(2,(.p (.sl (some 6) []))),(3,(AI 0)),(4,(AI 2))],h,x⟩)
 (wK (z1y 8 0 [.sl0 (some 6)] h) fun t3 h4 y5=>
 C zaH [v0,(.fn z9t [t3])] h4 fun t6 h7 y8=>
 pK (oExt t6 0) fun t9=>
 pK (oExt t6 1) fun t10=>
 pK (oUn .not t10) fun t11=>
 z0i t11 (K .ret ⟨[(2,(.p (.sl (some 6) []))),(3,t9),(4,(AI 9))],h7,(y8++(y5++x))⟩)
 (pK (z0e none t3 h7) fun t12=>
 C z4n [t12] h7 fun t13 h14 y15=>
 pK (oBin .neq t13 (AI 0)) fun t16=>
 z0i t16 (K .ret ⟨[(2,(.p (.sl (some 6) []))),(3,(AI 0)),(4,t13)],h14,(y15++(y8++(y5++x)))⟩)
 (pK (z0e none t3 h14) fun t17=>
 K .ret ⟨[(2,t17),(3,(AI 0)),(4,(AI 0))],h14,(y15++(y8++(y5++x)))⟩)))
theorem e_q064 {C gl v0 h x K}:NW C gl zm8.body ⟨enter [v0],h,x⟩ K=zeL C gl v0 h x K:=by kernel_rfl
def P_q034:ACode:=(.seq (rg [mV 2 (.c (.p (.sl (some 6) []))),
mV 3 (cI 0),
mV 4 (cI 0)] [0])
(.seq (.seq (rg [mV 9 0,
uO 10 (.lens 9),
bN 11 .gtr 10 (cI 200000)] [0,11])
(.cond 11 (.seq (rg [mV 2 (.c (.p (.sl (some 6) []))),
mV 3 (cI 0),
mV 4 (cI 2)] [2,3,4])
.ret)
.skip))
(.seq (rg [uO 5 (.uns 8 0 [(.c (.sl0 (some 6)))])] [0,5])
(.seq (rg [mV 13 0,
uO 14 (.mkfn z9n [5]),
cL 15 zaW [13,14],
mV 12 15,
eX 16 12 0,
eX 17 12 1,
mV 6 16,
mV 7 17] [5,6,7])
(.seq (.seq (rg [mV 18 7,
uO 19 (.un .not 18)] [5,6,19])
(.cond 19 (.seq (rg [mV 20 6,
mV 2 (.c (.p (.sl (some 6) []))),
mV 3 20,
mV 4 (cI 9)] [2,3,4])
.ret)
.skip))
(.seq (.seq (rg [lD 21 none 5,
cL 22 z4k [21],
mV 8 22] [5,8])
(.seq (rg [mV 23 8,
bN 24 .neq 23 (cI 0)] [5,8,24])
(.cond 24 (.seq (rg [mV 25 8,
mV 2 (.c (.p (.sl (some 6) []))),
mV 3 (cI 0),
mV 4 25] [2,3,4])
.ret)
.skip)))
(.seq (rg [lD 26 none 5,
mV 2 26,
mV 3 (cI 0),
mV 4 (cI 0)] [2,3,4])
.ret)))))))
def zlS:AFun:=⟨1,[.t 2,.t 3,.t 4],P_q034,false,false⟩
def zet (C:Hd) (gl:GL) (v0:AV) (h:Heap) (x:Esc) (K:KT):Prop:=
 pK (z06 v0) fun t1=>
 pK (oBin .gtr t1 (AI 200000)) fun t2=>
 z0i t2 (K .ret ⟨[(2,(.p (.sl (some 6) []))),(3,(AI 0)),(4,(AI 2))],h,x⟩)
 (wK (z1y 8 0 [.sl0 (some 6)] h) fun t3 h4 y5=>
 C zaW [v0,(.fn z9n [t3])] h4 fun t6 h7 y8=>
 pK (oExt t6 0) fun t9=>
 pK (oExt t6 1) fun t10=>
 pK (oUn .not t10) fun t11=>
 z0i t11 (K .ret ⟨[(2,(.p (.sl (some 6) []))),(3,t9),(4,(AI 9))],h7,(y8++(y5++x))⟩)
 (pK (z0e none t3 h7) fun t12=>
 C z4k [t12] h7 fun t13 h14 y15=>
 pK (oBin .neq t13 (AI 0)) fun t16=>
 z0i t16 (K .ret ⟨[(2,(.p (.sl (some 6) []))),(3,(AI 0)),(4,t13)],h14,(y15++(y8++(y5++x)))⟩)
 (pK (z0e none t3 h14) fun t17=>
 K .ret ⟨[(2,t17),(3,(AI 0)),(4,(AI 0))],h14,(y15++(y8++(y5++x)))⟩)))
theorem e_q034 {C gl v0 h x K}:NW C gl zlS.body ⟨enter [v0],h,x⟩ K=zet C gl v0 h x K:=by kernel_rfl
def P_q02k:ACode:=(.seq (rg [mV 0 cF] [])
(.seq (rg [uO 4 (.build [.p (.int .i64 0),.p (.int .i64 0),.p (.int .i64 0),.p (.str []),.p (.str []),.p (.str [])] [(0,1,(cI 7)),(3,1,(cS [49,48]))]),
uO 5 (.bsl false (some 6) 1 (.agg [.int .i64 0,.int .i64 0,.int .i64 0,.str [],.str [],.str []]) [(0,4)]),
cL 6 zbo [5],
mV 3 6,
eX 7 3 0,
eX 8 3 1,
mV 1 7,
mV 2 8] [1,2])
(.seq (rg [mV 9 2,
bN 10 .eql 9 (cI 0),
mV 11 10,
gD 12 11 true (.mv 1),
gD 13 11 true (.bin .eql 12 (cI 9)),
uO 14 (.pick 11 13 cF),
mV 0 14] [0])
.ret)))
def zl9:AFun:=⟨0,[.t 0],P_q02k,false,false⟩
def zn9 (C:Hd) (gl:GL) (h:Heap) (x:Esc) (K:KT):Prop:=
 pK (z0x [.p (.int .i64 0),.p (.int .i64 0),.p (.int .i64 0),.p (.str []),.p (.str []),.p (.str [])] [(0,1,(AI 7)),(3,1,(.p (.str [49,48])))]) fun t1=>
 wK (oBsl false (some 6) 1 (.agg [.int .i64 0,.int .i64 0,.int .i64 0,.str [],.str [],.str []]) [(0,t1)] h) fun t2 h3 y4=>
 C zbo [t2] h3 fun t5 h6 y7=>
 pK (oExt t5 0) fun t8=>
 pK (oExt t5 1) fun t9=>
 pK (oBin .eql t9 (AI 0)) fun t10=>
 gM t10 true t8 h6 fun t11 h12 y13=>
 gP t10 true (oBin .eql t11 (AI 9)) h12 fun t14 h15 y16=>
 pK (z09 t10 t14 (AB false)) fun t17=>
 K .ret ⟨[(0,t17)],h15,(y16++(y13++(y7++(y4++x))))⟩
theorem e_q02k {C gl h x K}:NW C gl zl9.body ⟨enter [],h,x⟩ K=zn9 C gl h x K:=by kernel_rfl
def P_q02r:ACode:=(.seq (rg [mV 4 (cI 0)] [0,1])
(.seq (rg [mV 7 0,
uO 8 (.nilchk 7),
fA 9 1 none 8,
lD 10 none 9,
bN 11 .add 10 (cI 1),
uO 12 (.nilchk 7),
fA 13 1 none 12,
wO (.store none 13 11)] [0,1])
(.seq (.seq (rg [mV 14 0,
uO 15 (.nilchk 14),
fA 16 0 none 15,
lD 17 none 16,
lN 18 17,
bN 19 .eql 18 (cI 0)] [0,1,19])
(.cond 19 (.seq (rg [mV 20 0,
uO 21 (.nilchk 20),
fA 22 1 none 21,
lD 23 none 22,
bN 24 .mul 23 (cI 7919),
mV 25 1,
cL 26 z56 [24,25],
mV 4 26] [4])
.ret)
.skip))
(.seq (dr [dF (mV 27 0) [0],
dF (uO 28 (.nilchk 27)) [27],
dF (fA 29 1 none 28) [28],
dF (lD 30 none 29) [29],
dF (bN 31 .sub 30 (cI 1)) [30],
dF (mV 32 0) [0],
dF (uO 33 (.nilchk 32)) [32],
dF (fA 34 0 none 33) [33],
dF (lD 35 none 34) [34],
dF (lN 36 35) [35],
dF (bN 37 .rem 31 36) [31,36],
dF (mV 5 37) [37]] [0,1,5])
(.seq (dr [dF (mV 38 0) [0],
dF (uO 39 (.nilchk 38)) [38],
dF (fA 40 1 none 39) [39],
dF (lD 41 none 40) [40],
dF (bN 42 .sub 41 (cI 1)) [41],
dF (mV 43 0) [0],
dF (uO 44 (.nilchk 43)) [43],
dF (fA 45 0 none 44) [44],
dF (lD 46 none 45) [45],
dF (lN 47 46) [46],
dF (bN 48 .quo 42 47) [42,47],
dF (mV 6 48) [48]] [0,1,5,6])
(.seq (rg [mV 49 0,
uO 50 (.nilchk 49),
fA 51 0 none 50,
lD 52 none 51,
mV 53 5,
iA 54 none 52 53,
lD 55 none 54,
cL 56 z56 [55,(cI 1073741824)],
mV 57 6,
mV 58 5,
bN 59 .add (cI 7919) 58,
bN 60 .mul 57 59,
bN 61 .add 56 60,
mV 62 1,
cL 63 z56 [61,62],
mV 4 63] [4])
.ret))))))
def zlG:AFun:=⟨2,[.t 4],P_q02r,false,false⟩
def zh1 (C:Hd) (gl:GL) (v0 v1:AV) (h:Heap) (x:Esc) (K:KT):Prop:=
 pK (oNil v0) fun t1=>
 pK (z0d 1 none t1) fun t2=>
 pK (z0e none t2 h) fun t3=>
 pK (oBin .add t3 (AI 1)) fun t4=>
 pK (oNil v0) fun t5=>
 pK (z0d 1 none t5) fun t6=>
 wK (z0k none t6 t4 h) fun t7 h8 y9=>
 pK (oNil v0) fun t10=>
 pK (z0d 0 none t10) fun t11=>
 pK (z0e none t11 h8) fun t12=>
 pK (oLen t12) fun t13=>
 pK (oBin .eql t13 (AI 0)) fun t14=>
 z0i t14 (pK (oNil v0) fun t15=>
 pK (z0d 1 none t15) fun t16=>
 pK (z0e none t16 h8) fun t17=>
 pK (oBin .mul t17 (AI 7919)) fun t18=>
 C z56 [t18,v1] h8 fun t19 h20 y21=>
 K .ret ⟨[(4,t19)],h20,(y21++(y9++x))⟩)
 (pK (oNil v0) fun t22=>
 pK (z0d 1 none t22) fun t23=>
 pK (z0e none t23 h8) fun t24=>
 pK (oBin .sub t24 (AI 1)) fun t25=>
 pK (oNil v0) fun t26=>
 pK (z0d 0 none t26) fun t27=>
 pK (z0e none t27 h8) fun t28=>
 pK (oLen t28) fun t29=>
 pK (oBin .rem t25 t29) fun t30=>
 pK (oNil v0) fun t31=>
 pK (z0d 1 none t31) fun t32=>
 pK (z0e none t32 h8) fun t33=>
 pK (oBin .sub t33 (AI 1)) fun t34=>
 pK (oNil v0) fun t35=>
 pK (z0d 0 none t35) fun t36=>
 pK (z0e none t36 h8) fun t37=>
 pK (oLen t37) fun t38=>
 pK (oBin .quo t34 t38) fun t39=>
 pK (oNil v0) fun t40=>
 pK (z0d 0 none t40) fun t41=>
 pK (z0e none t41 h8) fun t42=>
 pK (z0r none t42 t30 h8) fun t43=>
 pK (z0e none t43 h8) fun t44=>
 C z56 [t44,(AI 1073741824)] h8 fun t45 h46 y47=>
 pK (oBin .add (AI 7919) t30) fun t48=>
 pK (oBin .mul t39 t48) fun t49=>
 pK (oBin .add t45 t49) fun t50=>
 C z56 [t50,v1] h46 fun t51 h52 y53=>
 K .ret ⟨[(4,t51)],h52,(y53++(y47++(y9++x)))⟩)
theorem e_q02r {C gl v0 v1 h x K}:NW C gl zlG.body ⟨enter [v0,v1],h,x⟩ K=zh1 C gl v0 v1 h x K:=by kernel_rfl
def z3D:ACode:=.pr [0,10,11,12] (.seq (rg [bN 13 .lss 12 11] [0,10,11,12,13])
(.seq (.cond 13 .skip
(.exit 0))
(.seq (.block 1 (.seq (rg [iA 14 (some 6) 10 12,
lD 15 (some 6) 14,
uO 4 (.alloc [.p (.int .i64 0),.p (.int .i64 0),.p (.int .i64 0),.p (.str []),.p (.str []),.p (.str [])]),
wO (.store (some 6) 4 15)] [0,4,10,11,12])
(.seq (.seq (rg [fA 16 0 none 4,
lD 17 none 16,
cL 18 z4h [17,(cI 1),(cI 10)]] [0,4,10,11,12,18])
(.cond 18 (.seq (rg [mV 2 (cI 4)] [2])
.ret)
.skip))
(.seq (rg [lD 20 (some 6) 4,
cL 21 zbs [20],
mV 19 21,
eX 22 19 0,
eX 23 19 1,
uO 5 (.alloc [.p (.int .i64 0),.p (.int .i64 0),.p (.int .i64 0),.p (.str []),.p (.str []),.p (.str [])]),
wO (.store (some 6) 5 22),
mV 6 23] [0,4,5,6,10,11,12])
(.block 2 (.seq (rg [mV 25 6,
bN 26 .neq 25 (cI 0),
mV 24 26] [0,4,5,6,10,11,12,24])
(.cond 24 (.seq (rg [mV 27 6,
mV 2 27] [2])
.ret)
(.seq (rg [lD 29 (some 6) 5,
fA 30 0 none 4,
lD 31 none 30,
uO 32 (.build [.p (.int .i64 0),.p (.int .i64 0),.p (.int .i64 0),.p (.str []),.p (.str []),.p (.str [])] [(0,1,31)]),
uO 33 (.eqa [0,0,0,2,2,2] true 29 32),
mV 28 33] [0,10,11,12,28])
(.cond 28 (.seq (rg [mV 2 (cI 3)] [2])
.ret)
.skip)))))))))
(rg [bN 34 .add 12 (cI 1),
mV 12 34] [0,10,11,12]))))
def zeJ (C:Hd) (gl:GL) (v0 v10 v11 v12:AV) (h:Heap) (x:Esc) (K:KT):Prop:=
 pK (oBin .lss v12 v11) fun t1=>
 z0i t1 (pK (z0r (some 6) v10 v12 h) fun t2=>
 pK (z0e (some 6) t2 h) fun t3=>
 alK [.p (.int .i64 0),.p (.int .i64 0),.p (.int .i64 0),.p (.str []),.p (.str []),.p (.str [])] h fun t4 h5 y6=>
 wK (z0k (some 6) t4 t3 h5) fun t7 h8 y9=>
 pK (z0d 0 none t4) fun t10=>
 pK (z0e none t10 h8) fun t11=>
 C z4h [t11,(AI 1),(AI 10)] h8 fun t12 h13 y14=>
 z0i t12 (K .ret ⟨[(2,(AI 4))],h13,(y14++(y9++(y6++x)))⟩)
 (pK (z0e (some 6) t4 h13) fun t15=>
 C zbs [t15] h13 fun t16 h17 y18=>
 pK (oExt t16 0) fun t19=>
 pK (oExt t16 1) fun t20=>
 alK [.p (.int .i64 0),.p (.int .i64 0),.p (.int .i64 0),.p (.str []),.p (.str []),.p (.str [])] h17 fun t21 h22 y23=>
 wK (z0k (some 6) t21 t19 h22) fun t24 h25 y26=>
 pK (oBin .neq t20 (AI 0)) fun t27=>
 z0i t27 (K .ret ⟨[(2,t20)],h25,(y26++(y23++(y18++(y14++(y9++(y6++x))))))⟩)
 (pK (z0e (some 6) t21 h25) fun t28=>
 pK (z0d 0 none t4) fun t29=>
 pK (z0e none t29 h25) fun t30=>
 pK (z0x [.p (.int .i64 0),.p (.int .i64 0),.p (.int .i64 0),.p (.str []),.p (.str []),.p (.str [])] [(0,1,t30)]) fun t31=>
 pK (oEqa [0,0,0,2,2,2] true t28 t31) fun t32=>
 z0i t32 (K .ret ⟨[(2,(AI 3))],h25,(y26++(y23++(y18++(y14++(y9++(y6++x))))))⟩)
 (pK (oBin .add v12 (AI 1)) fun t33=>
 K .normal ⟨[(0,v0),(10,v10),(11,v11),(12,t33)],h25,(y26++(y23++(y18++(y14++(y9++(y6++x))))))⟩))))
 (K (.exit 0) ⟨[(0,v0),(10,v10),(11,v11),(12,v12),(13,t1)],h,x⟩)
theorem zp5 {C gl e h x K}:NW C gl z3D ⟨e,h,x⟩ K=zeJ C gl (aget e 0) (aget e 10) (aget e 11) (aget e 12) h x K:=by kernel_rfl
theorem zqZ {C gl e h x K}:NW C gl (.loop (.scope z3D)) ⟨e,h,x⟩ K=z0Z C gl (.scope z3D) K [(0,aget e 0),(10,aget e 10),(11,aget e 11),(12,aget e 12)] h x:=z1F
def z6Q:ACode:=.pr [0] (.seq (.seq (rg [mV 35 0,
cL 36 z6k [35,(.c (.nilp))],
uO 37 (.nilchk 36),
fA 38 37 none 37,
lD 39 none 38,
bN 40 .gtr 39 (cI 20000)] [40])
(.cond 40 (.seq (rg [mV 2 (cI 2)] [2])
.ret)
.skip))
(.seq (rg [mV 2 (cI 0)] [2])
.ret))
def zeK (C:Hd) (gl:GL) (v0:AV) (h:Heap) (x:Esc) (K:KT):Prop:=
 C z6k [v0,(.nilp)] h fun t1 h2 y3=>
 pK (oNil t1) fun t4=>
 pK (z0d 37 none t4) fun t5=>
 pK (z0e none t5 h2) fun t6=>
 pK (oBin .gtr t6 (AI 20000)) fun t7=>
 z0i t7 (K .ret ⟨[(2,(AI 2))],h2,(y3++x)⟩)
 (K .ret ⟨[(2,(AI 0))],h2,(y3++x)⟩)
theorem zp6 {C gl e h x K}:NW C gl z6Q ⟨e,h,x⟩ K=zeK C gl (aget e 0) h x K:=by kernel_rfl
def zwd (q1 q2:ACode):ACode:=(.seq (rg [mV 2 (cI 0)] [0])
(.seq (.seq (rg [mV 7 0,
lN 8 7,
bN 9 .gtr 8 (cI 1000)] [0,9])
(.cond 9 (.seq (rg [mV 2 (cI 2)] [2])
.ret)
.skip))
(.seq (.seq (rg [mV 10 0,
lN 11 10,
mV 12 (cI 0)] [0,10,11,12])
(.block 0 (.loop (.scope q1))))
q2)))
def zhf:AFun:=⟨1,[.t 2],zwd z3D z6Q,false,false⟩
def zeI (C:Hd) (gl:GL) (q1 q2:ACode) (v0:AV) (h:Heap) (x:Esc) (K:KT):Prop:=
 pK (oLen v0) fun t1=>
 pK (oBin .gtr t1 (AI 1000)) fun t2=>
 z0i t2 (K .ret ⟨[(2,(AI 2))],h,x⟩)
 (pK (oLen v0) fun t3=>
 NW C gl (.loop (.scope q1)) ⟨[(0,v0),(10,v0),(11,t3),(12,(AI 0))],h,x⟩ (z0s 0 (seqN C gl q2 K)))
theorem E_q062 {C gl q1 q2 v0 h x K}:NW C gl (zwd q1 q2) ⟨enter [v0],h,x⟩ K=zeI C gl q1 q2 v0 h x K:=by kernel_rfl
theorem e_q062 {C gl v0 h x K}:NW C gl zhf.body ⟨enter [v0],h,x⟩ K=zeI C gl z3D z6Q v0 h x K:=E_q062
def z27:ACode:=.pr [5,13,14,15] (.seq (rg [bN 16 .lss 15 14] [5,13,14,15,16])
(.seq (.cond 16 .skip
(.exit 0))
(.seq (.block 1 (.seq (rg [iA 17 (some 6) 13 15,
lD 18 (some 6) 17,
uO 7 (.alloc [.p (.int .i64 0),.p (.int .i64 0),.p (.int .i64 0),.p (.str []),.p (.str []),.p (.str [])]),
wO (.store (some 6) 7 18)] [5,7,13,14,15])
(.seq (.seq (rg [mV 19 5,
uO 20 (.nilchk 19),
fA 21 37 none 20,
lD 22 none 21,
bN 23 .gtr 22 (cI 20000)] [5,7,13,14,15,23])
(.cond 23 (.exit 0)
.skip))
(rg [mV 24 5,
lD 25 (some 6) 7,
cL 26 zbw [24,25]] [5,13,14,15]))))
(rg [bN 27 .add 15 (cI 1),
mV 15 27] [5,13,14,15]))))
def zeV (C:Hd) (gl:GL) (v5 v13 v14 v15:AV) (h:Heap) (x:Esc) (K:KT):Prop:=
 pK (oBin .lss v15 v14) fun t1=>
 z0i t1 (pK (z0r (some 6) v13 v15 h) fun t2=>
 pK (z0e (some 6) t2 h) fun t3=>
 alK [.p (.int .i64 0),.p (.int .i64 0),.p (.int .i64 0),.p (.str []),.p (.str []),.p (.str [])] h fun t4 h5 y6=>
 wK (z0k (some 6) t4 t3 h5) fun t7 h8 y9=>
 pK (oNil v5) fun t10=>
 pK (z0d 37 none t10) fun t11=>
 pK (z0e none t11 h8) fun t12=>
 pK (oBin .gtr t12 (AI 20000)) fun t13=>
 z0i t13 (K (.exit 0) ⟨[(5,v5),(7,t4),(13,v13),(14,v14),(15,v15),(23,t13)],h8,(y9++(y6++x))⟩)
 (pK (z0e (some 6) t4 h8) fun t14=>
 C zbw [v5,t14] h8 fun t15 h16 y17=>
 pK (oBin .add v15 (AI 1)) fun t18=>
 K .normal ⟨[(5,v5),(13,v13),(14,v14),(15,t18)],h16,(y17++(y9++(y6++x)))⟩))
 (K (.exit 0) ⟨[(5,v5),(13,v13),(14,v14),(15,v15),(16,t1)],h,x⟩)
theorem zpC {C gl e h x K}:NW C gl z27 ⟨e,h,x⟩ K=zeV C gl (aget e 5) (aget e 13) (aget e 14) (aget e 15) h x K:=by kernel_rfl
theorem zrc {C gl e h x K}:NW C gl (.loop (.scope z27)) ⟨e,h,x⟩ K=z0Z C gl (.scope z27) K [(5,aget e 5),(13,aget e 13),(14,aget e 14),(15,aget e 15)] h x:=z1F
def z4J:ACode:=.pr [5] (.seq (rg [mV 28 5,
mV 4 28] [4])
.ret)
def zeW (C:Hd) (gl:GL) (v5:AV) (h:Heap) (x:Esc) (K:KT):Prop:=
 K .ret ⟨[(4,v5)],h,x⟩
theorem zpD {C gl e h x K}:NW C gl z4J ⟨e,h,x⟩ K=zeW C gl (aget e 5) h x K:=by kernel_rfl
def zwh (q1 q2:ACode):ACode:=(.seq (rg [mV 4 (.c (.nilp))] [0,1])
(.seq (rg [cL 8 zb0 [],
mV 9 1,
uO 10 (.isnil 0 true 9),
uO 11 (.build [.p (.int .i64 0),.p (.int .i64 0),.p (.int .i64 0),.p (.str []),.p (.str []),.p (.str []),.p (.int .i64 0),.p (.int .i64 0),.p (.int .i64 0),.p (.str []),.p (.str []),.p (.str []),.p (.int .i64 0),.p (.int .i64 0),.p (.int .i64 0),.p (.str []),.p (.str []),.p (.str []),.p (.int .i64 0),.p (.int .i64 0),.p (.int .i64 0),.p (.str []),.p (.str []),.p (.str []),.p (.int .i64 0),.p (.int .i64 0),.p (.int .i64 0),.p (.str []),.p (.str []),.p (.str []),.p (.int .i64 0),.p (.int .i64 0),.p (.int .i64 0),.p (.str []),.p (.str []),.p (.str []),.p (.int .i64 0),.p (.int .i64 0),.p (.int .i64 0),.p (.int .i64 0),.sl0 none,.sl0 none,.sl0 none,.sl0 none,.sl0 none,.p (.bool false)] [(0,36,8),(36,1,(cI 0)),(45,1,10)]),
uO 12 (.uns 12 0 [11]),
mV 5 12] [0,5])
(.seq (.seq (rg [mV 13 0,
lN 14 13,
mV 15 (cI 0)] [5,13,14,15])
(.block 0 (.loop (.scope q1))))
q2)))
def zmG:AFun:=⟨2,[.t 4],zwh z27 z4J,false,false⟩
def zeU (C:Hd) (gl:GL) (q1 q2:ACode) (v0 v1:AV) (h:Heap) (x:Esc) (K:KT):Prop:=
 C zb0 [] h fun t1 h2 y3=>
 pK (z97 0 true v1) fun t4=>
 pK (z0x [.p (.int .i64 0),.p (.int .i64 0),.p (.int .i64 0),.p (.str []),.p (.str []),.p (.str []),.p (.int .i64 0),.p (.int .i64 0),.p (.int .i64 0),.p (.str []),.p (.str []),.p (.str []),.p (.int .i64 0),.p (.int .i64 0),.p (.int .i64 0),.p (.str []),.p (.str []),.p (.str []),.p (.int .i64 0),.p (.int .i64 0),.p (.int .i64 0),.p (.str []),.p (.str []),.p (.str []),.p (.int .i64 0),.p (.int .i64 0),.p (.int .i64 0),.p (.str []),.p (.str []),.p (.str []),.p (.int .i64 0),.p (.int .i64 0),.p (.int .i64 0),.p (.str []),.p (.str []),.p (.str []),.p (.int .i64 0),.p (.int .i64 0),.p (.int .i64 0),.p (.int .i64 0),.sl0 none,.sl0 none,.sl0 none,.sl0 none,.sl0 none,.p (.bool false)] [(0,36,t1),(36,1,(AI 0)),(45,1,t4)]) fun t5=>
 wK (z1y 12 0 [t5] h2) fun t6 h7 y8=>
 pK (oLen v0) fun t9=>
 NW C gl (.loop (.scope q1)) ⟨[(5,t6),(13,v0),(14,t9),(15,(AI 0))],h7,(y8++(y3++x))⟩ (z0s 0 (seqN C gl q2 K))
theorem E_q06h {C gl q1 q2 v0 v1 h x K}:NW C gl (zwh q1 q2) ⟨enter [v0,v1],h,x⟩ K=zeU C gl q1 q2 v0 v1 h x K:=by kernel_rfl
theorem e_q06h {C gl v0 v1 h x K}:NW C gl zmG.body ⟨enter [v0,v1],h,x⟩ K=zeU C gl z27 z4J v0 v1 h x K:=E_q06h
def P_q06d:ACode:=(.seq (rg [mV 2 cF] [0])
(.seq (rg [mV 3 0,
cL 4 z4h [3,(cI 1),(cI 6)],
uO 5 (.un .not 4),
mV 2 5] [2])
.ret))
def zmC:AFun:=⟨1,[.t 2],P_q06d,false,false⟩
def zeQ (C:Hd) (gl:GL) (v0:AV) (h:Heap) (x:Esc) (K:KT):Prop:=
 C z4h [v0,(AI 1),(AI 6)] h fun t1 h2 y3=>
 pK (oUn .not t1) fun t4=>
 K .ret ⟨[(2,t4)],h2,(y3++x)⟩
theorem e_q06d {C gl v0 h x K}:NW C gl zmC.body ⟨enter [v0],h,x⟩ K=zeQ C gl v0 h x K:=by kernel_rfl
def P_q06o:ACode:=(.seq (rg [mV 4 (.c (.nilp))] [0,1])
(.seq (.seq (rg [mV 5 1] [0,5])
(.block 0 (.seq (rg [bN 7 .eql 5 (cI 1),
mV 6 7] [0,5,6])
(.cond 6 (.seq (rg [mV 8 0,
uO 9 (.nilchk 8),
fA 10 0 (some 6) 9,
mV 4 10] [4])
.ret)
(.seq (rg [bN 12 .eql 5 (cI 2),
mV 11 12] [0,5,11])
(.cond 11 (.seq (rg [mV 13 0,
uO 14 (.nilchk 13),
fA 15 6 (some 6) 14,
mV 4 15] [4])
.ret)
(.seq (rg [bN 17 .eql 5 (cI 3),
mV 16 17] [0,5,16])
(.cond 16 (.seq (rg [mV 18 0,
uO 19 (.nilchk 18),
fA 20 12 (some 6) 19,
mV 4 20] [4])
.ret)
(.seq (rg [bN 22 .eql 5 (cI 4),
mV 21 22] [0,5,21])
(.cond 21 (.seq (rg [mV 23 0,
uO 24 (.nilchk 23),
fA 25 18 (some 6) 24,
mV 4 25] [4])
.ret)
(.seq (rg [bN 27 .eql 5 (cI 5),
mV 26 27] [0,26])
(.cond 26 (.seq (rg [mV 28 0,
uO 29 (.nilchk 28),
fA 30 24 (some 6) 29,
mV 4 30] [4])
.ret)
.skip))))))))))))
(.seq (rg [mV 31 0,
uO 32 (.nilchk 31),
fA 33 30 (some 6) 32,
mV 4 33] [4])
.ret)))
def zmN:AFun:=⟨2,[.t 4],P_q06o,false,false⟩
def z7N (C:Hd) (gl:GL) (v0 v1:AV) (h:Heap) (x:Esc) (K:KT):Prop:=
 pK (oBin .eql v1 (AI 1)) fun t1=>
 z0i t1 (pK (oNil v0) fun t2=>
 pK (z0d 0 (some 6) t2) fun t3=>
 K .ret ⟨[(4,t3)],h,x⟩)
 (pK (oBin .eql v1 (AI 2)) fun t4=>
 z0i t4 (pK (oNil v0) fun t5=>
 pK (z0d 6 (some 6) t5) fun t6=>
 K .ret ⟨[(4,t6)],h,x⟩)
 (pK (oBin .eql v1 (AI 3)) fun t7=>
 z0i t7 (pK (oNil v0) fun t8=>
 pK (z0d 12 (some 6) t8) fun t9=>
 K .ret ⟨[(4,t9)],h,x⟩)
 (pK (oBin .eql v1 (AI 4)) fun t10=>
 z0i t10 (pK (oNil v0) fun t11=>
 pK (z0d 18 (some 6) t11) fun t12=>
 K .ret ⟨[(4,t12)],h,x⟩)
 (pK (oBin .eql v1 (AI 5)) fun t13=>
 z0i t13 (pK (oNil v0) fun t14=>
 pK (z0d 24 (some 6) t14) fun t15=>
 K .ret ⟨[(4,t15)],h,x⟩)
 (pK (oNil v0) fun t16=>
 pK (z0d 30 (some 6) t16) fun t17=>
 K .ret ⟨[(4,t17)],h,x⟩)))))
theorem e_q06o {C gl v0 v1 h x K}:NW C gl zmN.body ⟨enter [v0,v1],h,x⟩ K=z7N C gl v0 v1 h x K:=by kernel_rfl
def z29:ACode:=.pr [0,4,35,36] (.seq (rg [bN 37 .lss 36 35] [0,4,35,36,37])
(.seq (.cond 37 .skip
(.exit 1))
(.seq (.block 2 (rg [mV 38 0,
cL 39 z58 [38,(.c (.p (.int .u8 48))),(.c (.p (.int .u8 48))),(.c (.p (.int .u8 120)))]] [0,4,35,36]))
(rg [bN 40 .add 36 (cI 1),
mV 36 40] [0,4,35,36]))))
def zfc (C:Hd) (gl:GL) (v0 v4 v35 v36:AV) (h:Heap) (x:Esc) (K:KT):Prop:=
 pK (oBin .lss v36 v35) fun t1=>
 z0i t1 (C z58 [v0,(.p (.int .u8 48)),(.p (.int .u8 48)),(.p (.int .u8 120))] h fun t2 h3 y4=>
 pK (oBin .add v36 (AI 1)) fun t5=>
 K .normal ⟨[(0,v0),(4,v4),(35,v35),(36,t5)],h3,(y4++x)⟩)
 (K (.exit 1) ⟨[(0,v0),(4,v4),(35,v35),(36,v36),(37,t1)],h,x⟩)
theorem zpO {C gl e h x K}:NW C gl z29 ⟨e,h,x⟩ K=zfc C gl (aget e 0) (aget e 4) (aget e 35) (aget e 36) h x K:=by kernel_rfl
theorem zrf {C gl e h x K}:NW C gl (.loop z29) ⟨e,h,x⟩ K=z0Z C gl z29 K [(0,aget e 0),(4,aget e 4),(35,aget e 35),(36,aget e 36)] h x:=z0C
def z4N:ACode:=.pr [0,4] (.seq (dr [dF (mV 41 0) [0],
dF (mV 42 0) [0],
dF (uO 43 (.nilchk 42)) [42],
dF (fA 44 40 none 43) [43],
dF (lD 45 none 44) [44],
dF (mV 46 0) [0],
dF (uO 47 (.nilchk 46)) [46],
dF (fA 48 36 none 47) [47],
dF (lD 49 none 48) [48],
dF (uO 50 (.bsl false none 1 (.int .i64 0) [(0,49)])) [49],
dT (uO 51 (.app none 45 50)) [45,50],
dF (uO 52 (.nilchk 41)) [41],
dF (fA 53 40 none 52) [52],
dT (wO (.store none 53 51)) [53,51]] [0,4])
(rg [mV 54 0,
mV 55 0,
uO 56 (.nilchk 55),
fA 57 41 none 56,
lD 58 none 57,
mV 59 4,
uO 60 (.bsl false none 1 (.int .i64 0) [(0,59)]),
uO 61 (.app none 58 60),
uO 62 (.nilchk 54),
fA 63 41 none 62,
wO (.store none 63 61)] []))
def z4y (C:Hd) (gl:GL) (v0 v4:AV) (h:Heap) (x:Esc) (K:KT):Prop:=
 pK (oNil v0) fun t1=>
 pK (z0d 40 none t1) fun t2=>
 pK (z0e none t2 h) fun t3=>
 pK (oNil v0) fun t4=>
 pK (z0d 36 none t4) fun t5=>
 pK (z0e none t5 h) fun t6=>
 wK (oBsl false none 1 (.int .i64 0) [(0,t6)] h) fun t7 h8 y9=>
 (h8=h∧y9=[])∧(wK (oApp none t3 t7 h8) fun t10 h11 y12=>
 pK (oNil v0) fun t13=>
 pK (z0d 40 none t13) fun t14=>
 wK (z0k none t14 t10 h11) fun t15 h16 y17=>
 pK (oNil v0) fun t18=>
 pK (z0d 41 none t18) fun t19=>
 pK (z0e none t19 h16) fun t20=>
 wK (oBsl false none 1 (.int .i64 0) [(0,v4)] h16) fun t21 h22 y23=>
 wK (oApp none t20 t21 h22) fun t24 h25 y26=>
 pK (oNil v0) fun t27=>
 pK (z0d 41 none t27) fun t28=>
 wK (z0k none t28 t24 h25) fun t29 h30 y31=>
 K .normal ⟨[],h30,(y31++(y26++(y23++(y17++(y12++(y9++x))))))⟩)
theorem zpP {C gl e h x K}:NW C gl z4N ⟨e,h,x⟩ K=z4y C gl (aget e 0) (aget e 4) h x K:=by kernel_rfl
def zwk (q1 q2:ACode):ACode:=(.seq (rg [uO 3 (.box 1)] [0,3])
(.seq (rg [mV 4 (cI 0)] [0,3,4])
(.seq (.block 0 (.seq (rg [fA 10 0 none 3,
lD 11 none 10,
cL 12 zbr [11],
mV 9 12] [0,3,4,9])
(.cond 9 (dr [dF (mV 13 0) [0],
dF (uO 14 (.nilchk 13)) [13],
dF (fA 15 0 (some 36) 14) [14],
dF (fA 16 0 none 3) [3],
dF (lD 17 none 16) [16],
dT (cL 18 zby [15,17]) [15,17],
dA (lD 19 (some 6) 3) [3] false [5] [],
dF (uO 20 (.nilchk 18)) [18],
dT (wO (.store (some 6) 20 19)) [20,19]] [0,4])
(.seq (rg [fA 22 0 none 3,
lD 23 none 22,
cL 24 z2P [23],
mV 21 24] [0,3,4,21])
(.cond 21 (rg [mV 25 0,
lD 26 (some 6) 3,
cL 27 z8e [25,26],
mV 4 27] [0,4])
(.seq (rg [fA 29 0 none 3,
lD 30 none 29,
bN 31 .eql 30 (cI 9),
mV 28 31] [0,3,4,28])
(.cond 28 (.seq (rg [mV 32 0,
cL 33 z4o [32,(cI 1)]] [0,3,4])
(.seq (rg [fA 34 2 none 3,
lD 35 none 34,
mV 36 (cI 0)] [0,4,35,36])
(.block 1 (.loop q1))))
(rg [mV 5 0,
fA 6 1 none 3,
lD 7 none 6,
cL 8 z4o [5,7]] [0,4]))))))))
q2)))
def zmK:AFun:=⟨2,[],zwk z29 z4N,false,false⟩
def z3k (C:Hd) (gl:GL) (q1 q2:ACode) (v0 v1:AV) (h:Heap) (x:Esc) (K:KT):Prop:=
 wK (oBox v1 h) fun t1 h2 y3=>
 pK (z0d 0 none t1) fun t4=>
 pK (z0e none t4 h2) fun t5=>
 C zbr [t5] h2 fun t6 h7 y8=>
 z0i t6 (pK (oNil v0) fun t9=>
 pK (z0d 0 (some 36) t9) fun t10=>
 pK (z0d 0 none t1) fun t11=>
 pK (z0e none t11 h7) fun t12=>
 z1A C zby [t10,t12] h7 fun t13 h14 y15=>
 pK (z0e (some 6) t1 h14) fun t16=>
 (pK (z0e (some 6) t1 h7) fun v=>(fun u (g1:Heap) (y1:Esc)=>u=t16∧g1=h7∧y1=[]) v h7 [])∧(pK (oNil t13) fun t17=>
 wK (z0k (some 6) t17 t16 h14) fun t18 h19 y20=>
 NW C gl q2 ⟨[(0,v0),(4,(AI 0))],h19,(y20++(y15++(y8++(y3++x))))⟩ K))
 (pK (z0d 0 none t1) fun t21=>
 pK (z0e none t21 h7) fun t22=>
 C z2P [t22] h7 fun t23 h24 y25=>
 z0i t23 (pK (z0e (some 6) t1 h24) fun t26=>
 C z8e [v0,t26] h24 fun t27 h28 y29=>
 NW C gl q2 ⟨[(0,v0),(4,t27)],h28,(y29++(y25++(y8++(y3++x))))⟩ K)
 (pK (z0d 0 none t1) fun t30=>
 pK (z0e none t30 h24) fun t31=>
 pK (oBin .eql t31 (AI 9)) fun t32=>
 z0i t32 (C z4o [v0,(AI 1)] h24 fun t33 h34 y35=>
 pK (z0d 2 none t1) fun t36=>
 pK (z0e none t36 h34) fun t37=>
 NW C gl (.loop q1) ⟨[(0,v0),(4,(AI 0)),(35,t37),(36,(AI 0))],h34,(y35++(y25++(y8++(y3++x))))⟩ (z0s 1 (z0s 0 (seqN C gl q2 K))))
 (pK (z0d 1 none t1) fun t38=>
 pK (z0e none t38 h24) fun t39=>
 C z4o [v0,t39] h24 fun t40 h41 y42=>
 NW C gl q2 ⟨[(0,v0),(4,(AI 0))],h41,(y42++(y25++(y8++(y3++x))))⟩ K)))
theorem E_q06l {C gl q1 q2 v0 v1 h x K}:NW C gl (zwk q1 q2) ⟨enter [v0,v1],h,x⟩ K=z3k C gl q1 q2 v0 v1 h x K:=by kernel_rfl
theorem e_q06l {C gl v0 v1 h x K}:NW C gl zmK.body ⟨enter [v0,v1],h,x⟩ K=z3k C gl z29 z4N v0 v1 h x K:=E_q06l
def P_q030:ACode:=(.seq (rg [mV 4 (cI 0)] [0,1])
(.seq (rg [uO 5 (.build [.p (.int .i64 0),.p (.int .i64 0)] [(0,1,(cI 1)),(1,1,(cI 0))]),
uO 6 (.build [.p (.int .i64 0),.p (.int .i64 0)] [(0,1,(cI 1)),(1,1,(cI 2))]),
uO 7 (.build [.p (.int .i64 0),.p (.int .i64 0)] [(0,1,(cI 3)),(1,1,(cI 9))]),
uO 8 (.build [.p (.int .i64 0),.p (.int .i64 0)] [(0,1,(cI 4)),(1,1,(cI 5))]),
uO 9 (.build [.p (.int .i64 0),.p (.int .i64 0)] [(0,1,(cI 4)),(1,1,(cI 5))]),
uO 10 (.build [.p (.int .i64 0),.p (.int .i64 0)] [(0,1,(cI 6)),(1,1,(cI 8))]),
uO 11 (.build [.p (.int .i64 0),.p (.int .i64 0)] [(0,1,(cI 6)),(1,1,(cI 7))]),
uO 12 (.build [.p (.int .i64 0),.p (.int .i64 0)] [(0,1,(cI 4)),(1,1,(cI 8))]),
uO 13 (.build [.p (.int .i64 0),.p (.int .i64 0)] [(0,1,(cI 1)),(1,1,(cI 2))]),
uO 14 (.build [.p (.int .i64 0),.p (.int .i64 0)] [(0,1,(cI 10)),(1,1,(cI 0))]),
uO 15 (.build [.p (.int .i64 0),.p (.int .i64 0)] [(0,1,(cI 11)),(1,1,(cI 12))]),
uO 16 (.build [.p (.int .i64 0),.p (.int .i64 0)] [(0,1,(cI 11)),(1,1,(cI 12))]),
uO 17 (.build [.p (.int .i64 0),.p (.int .i64 0)] [(0,1,(cI 13)),(1,1,(cI 15))]),
uO 18 (.build [.p (.int .i64 0),.p (.int .i64 0)] [(0,1,(cI 13)),(1,1,(cI 14))]),
uO 19 (.build [.p (.int .i64 0),.p (.int .i64 0)] [(0,1,(cI 11)),(1,1,(cI 15))]),
uO 20 (.build [.p (.int .i64 0),.p (.int .i64 0)] [(0,1,(cI 1)),(1,1,(cI 2))]),
uO 21 (.build [.p (.int .i64 0),.p (.int .i64 0),.p (.int .i64 0),.p (.int .i64 0),.p (.int .i64 0),.p (.int .i64 0),.p (.int .i64 0),.p (.int .i64 0),.p (.int .i64 0),.p (.int .i64 0),.p (.int .i64 0),.p (.int .i64 0),.p (.int .i64 0),.p (.int .i64 0),.p (.int .i64 0),.p (.int .i64 0),.p (.int .i64 0),.p (.int .i64 0),.p (.int .i64 0),.p (.int .i64 0),.p (.int .i64 0),.p (.int .i64 0),.p (.int .i64 0),.p (.int .i64 0),.p (.int .i64 0),.p (.int .i64 0),.p (.int .i64 0),.p (.int .i64 0),.p (.int .i64 0),.p (.int .i64 0),.p (.int .i64 0),.p (.int .i64 0)] [(0,2,5),(2,2,6),(4,2,7),(6,2,8),(8,2,9),(10,2,10),(12,2,11),(14,2,12),(16,2,13),(18,2,14),(20,2,15),(22,2,16),(24,2,17),(26,2,18),(28,2,19),(30,2,20)]),
mV 22 0,
uO 23 (.idxa 16 (some 2) 21 22),
mV 24 1,
uO 25 (.idxa 2 none 23 24),
mV 4 25] [4])
.ret))
def zlP:AFun:=⟨2,[.t 4],P_q030,false,false⟩
def znE (C:Hd) (gl:GL) (v0 v1:AV) (h:Heap) (x:Esc) (K:KT):Prop:=
 pK (z0x [.p (.int .i64 0),.p (.int .i64 0)] [(0,1,(AI 1)),(1,1,(AI 0))]) fun t1=>
 pK (z0x [.p (.int .i64 0),.p (.int .i64 0)] [(0,1,(AI 1)),(1,1,(AI 2))]) fun t2=>
 pK (z0x [.p (.int .i64 0),.p (.int .i64 0)] [(0,1,(AI 3)),(1,1,(AI 9))]) fun t3=>
 pK (z0x [.p (.int .i64 0),.p (.int .i64 0)] [(0,1,(AI 4)),(1,1,(AI 5))]) fun t4=>
 pK (z0x [.p (.int .i64 0),.p (.int .i64 0)] [(0,1,(AI 4)),(1,1,(AI 5))]) fun t5=>
 pK (z0x [.p (.int .i64 0),.p (.int .i64 0)] [(0,1,(AI 6)),(1,1,(AI 8))]) fun t6=>
 pK (z0x [.p (.int .i64 0),.p (.int .i64 0)] [(0,1,(AI 6)),(1,1,(AI 7))]) fun t7=>
 pK (z0x [.p (.int .i64 0),.p (.int .i64 0)] [(0,1,(AI 4)),(1,1,(AI 8))]) fun t8=>
 pK (z0x [.p (.int .i64 0),.p (.int .i64 0)] [(0,1,(AI 1)),(1,1,(AI 2))]) fun t9=>
 pK (z0x [.p (.int .i64 0),.p (.int .i64 0)] [(0,1,(AI 10)),(1,1,(AI 0))]) fun t10=>
 pK (z0x [.p (.int .i64 0),.p (.int .i64 0)] [(0,1,(AI 11)),(1,1,(AI 12))]) fun t11=>
 pK (z0x [.p (.int .i64 0),.p (.int .i64 0)] [(0,1,(AI 11)),(1,1,(AI 12))]) fun t12=>
 pK (z0x [.p (.int .i64 0),.p (.int .i64 0)] [(0,1,(AI 13)),(1,1,(AI 15))]) fun t13=>
 pK (z0x [.p (.int .i64 0),.p (.int .i64 0)] [(0,1,(AI 13)),(1,1,(AI 14))]) fun t14=>
 pK (z0x [.p (.int .i64 0),.p (.int .i64 0)] [(0,1,(AI 11)),(1,1,(AI 15))]) fun t15=>
 pK (z0x [.p (.int .i64 0),.p (.int .i64 0)] [(0,1,(AI 1)),(1,1,(AI 2))]) fun t16=>
 pK (z0x [.p (.int .i64 0),.p (.int .i64 0),.p (.int .i64 0),.p (.int .i64 0),.p (.int .i64 0),.p (.int .i64 0),.p (.int .i64 0),.p (.int .i64 0),.p (.int .i64 0),.p (.int .i64 0),.p (.int .i64 0),.p (.int .i64 0),.p (.int .i64 0),.p (.int .i64 0),.p (.int .i64 0),.p (.int .i64 0),.p (.int .i64 0),.p (.int .i64 0),.p (.int .i64 0),.p (.int .i64 0),.p (.int .i64 0),.p (.int .i64 0),.p (.int .i64 0),.p (.int .i64 0),.p (.int .i64 0),.p (.int .i64 0),.p (.int .i64 0),.p (.int .i64 0),.p (.int .i64 0),.p (.int .i64 0),.p (.int .i64 0),.p (.int .i64 0)] [(0,2,t1),(2,2,t2),(4,2,t3),(6,2,t4),(8,2,t5),(10,2,t6),(12,2,t7),(14,2,t8),(16,2,t9),(18,2,t10),(20,2,t11),(22,2,t12),(24,2,t13),(26,2,t14),(28,2,t15),(30,2,t16)]) fun t17=>
 pK (zc4 16 (some 2) t17 v0) fun t18=>
 pK (zc4 2 none t18 v1) fun t19=>
 K .ret ⟨[(4,t19)],h,x⟩
theorem e_q030 {C gl v0 v1 h x K}:NW C gl zlP.body ⟨enter [v0,v1],h,x⟩ K=znE C gl v0 v1 h x K:=by kernel_rfl
def P_q057:ACode:=(.seq (rg [mV 4 (cI 0)] [0,1])
(.seq (rg [mV 5 0,
mV 6 1,
cL 7 z7Q [5,6],
mV 4 7] [4])
.ret))
def zmx:AFun:=⟨2,[.t 4],P_q057,false,false⟩
def znS (C:Hd) (gl:GL) (v0 v1:AV) (h:Heap) (x:Esc) (K:KT):Prop:=
 C z7Q [v0,v1] h fun t1 h2 y3=>
 K .ret ⟨[(4,t1)],h2,(y3++x)⟩
theorem e_q057 {C gl v0 v1 h x K}:NW C gl zmx.body ⟨enter [v0,v1],h,x⟩ K=znS C gl v0 v1 h x K:=by kernel_rfl
end Go.Am
end
section
/- The functions asv abstract code,and asv formulas over their values: printed by program out of the translation. -/
set_option linter.unusedVariables false
set_option maxRecDepth 100000
namespace Go.Am
def z9E:ACode:=.pr [0,2,3,30] (.cond 30 (.seq (rg [mV 33 0,
mV 34 0,
uO 35 (.bsl false none 5 (.int .i64 0) [(0,(cI 1)),(1,(cI 2)),(2,(cI 3)),(3,(cI 5)),(4,(cI 8))]),
cL 36 z1p [34,35],
cL 37 z4i [33,36],
fA 38 3 none 3,
wO (.store none 38 37)] [0,2,3])
(.seq (rg [mV 39 0,
cL 40 z2z [39,(cI 2)]] [0,2,3,40])
(.cond 40 (dr [dF (mV 41 0) [0],
dF (fA 42 3 none 3) [3],
dF (lD 43 none 42) [42],
dF (uO 44 (.lens 43)) [43],
dT (cL 45 z4i [41,44]) [41,44],
dF (mV 46 0) [0],
dF (fA 47 3 none 3) [3],
dA (lD 48 none 47) [47] false [4] [],
dF (uO 49 (.lens 48)) [48],
dT (cL 50 z4i [46,49]) [46,49],
dF (fA 51 4 none 3) [3],
dT (wO (.store none 51 45)) [51,45],
dF (fA 52 5 none 3) [3],
dT (wO (.store none 52 50)) [52,50]] [0,2,3])
.skip)))
(rg [mV 10 0,
mV 11 0,
uO 12 (.bsl false none 5 (.int .i64 0) [(0,(cI 0)),(1,(cI 0)),(2,(cI 1)),(3,(cI 2)),(4,(cI 3))]),
cL 13 z1p [11,12],
cL 14 z4i [10,13],
fA 15 3 none 3,
wO (.store none 15 14)] [0,2,3]))
def zdX (C:Hd) (gl:GL) (v0 v2 v3 v30:AV) (h:Heap) (x:Esc) (K:KT):Prop:=
 z0i v30 (wK (oBsl false none 5 (.int .i64 0) [(0,(AI 1)),(1,(AI 2)),(2,(AI 3)),(3,(AI 5)),(4,(AI 8))] h) fun t1 h2 y3=>
 C z1p [v0,t1] h2 fun t4 h5 y6=>
 C z4i [v0,t4] h5 fun t7 h8 y9=>
 pK (z0d 3 none v3) fun t10=>
 wK (z0k none t10 t7 h8) fun t11 h12 y13=>
 C z2z [v0,(AI 2)] h12 fun t14 h15 y16=>
 z0i t14 (pK (z0d 3 none v3) fun t17=>
 pK (z0e none t17 h15) fun t18=>
 pK (z06 t18) fun t19=>
 z1A C z4i [v0,t19] h15 fun t20 h21 y22=>
 pK (z0d 3 none v3) fun t23=>
 pK (z0e none t23 h21) fun t24=>
 (pK (z0e none t23 h15) fun v=>(fun u (g1:Heap) (y1:Esc)=>u=t24∧g1=h15∧y1=[]) v h15 [])∧(pK (z06 t24) fun t25=>
 z1A C z4i [v0,t25] h21 fun t26 h27 y28=>
 pK (z0d 4 none v3) fun t29=>
 wK (z0k none t29 t20 h27) fun t30 h31 y32=>
 pK (z0d 5 none v3) fun t33=>
 wK (z0k none t33 t26 h31) fun t34 h35 y36=>
 K .normal ⟨[(0,v0),(2,v2),(3,v3)],h35,(y36++(y32++(y28++(y22++(y16++(y13++(y9++(y6++(y3++x)))))))))⟩))
 (K .normal ⟨[(0,v0),(2,v2),(3,v3),(40,t14)],h15,(y16++(y13++(y9++(y6++(y3++x)))))⟩))
 (wK (oBsl false none 5 (.int .i64 0) [(0,(AI 0)),(1,(AI 0)),(2,(AI 1)),(3,(AI 2)),(4,(AI 3))] h) fun t37 h38 y39=>
 C z1p [v0,t37] h38 fun t40 h41 y42=>
 C z4i [v0,t40] h41 fun t43 h44 y45=>
 pK (z0d 3 none v3) fun t46=>
 wK (z0k none t46 t43 h44) fun t47 h48 y49=>
 K .normal ⟨[(0,v0),(2,v2),(3,v3)],h48,(y49++(y45++(y42++(y39++x))))⟩)
theorem zo7 {C gl e h x K}:NW C gl z9E ⟨e,h,x⟩ K=zdX C gl (aget e 0) (aget e 2) (aget e 3) (aget e 30) h x K:=by kernel_rfl
def zdl (q1:ACode):ACode:=.pr [0,2,3,9,16] (.cond 16 (rg [mV 20 0,
uO 21 (.bsl false none 5 (.int .i64 0) [(0,(cI 0)),(1,(cI 1)),(2,(cI 1)),(3,(cI 6)),(4,(cI 13))]),
cL 22 z1p [20,21],
fA 23 1 none 3,
wO (.store none 23 22)] [0,2,3])
(.seq (rg [bN 25 .eql 9 (cI 9),
mV 24 25] [0,2,3,9,24])
(.cond 24 (rg [mV 26 0,
uO 27 (.bsl false none 4 (.int .i64 0) [(0,(cI 0)),(1,(cI 0)),(2,(cI 1)),(3,(cI 3))]),
cL 28 z1p [26,27],
fA 29 2 none 3,
wO (.store none 29 28)] [0,2,3])
(.seq (.seq (rg [bN 31 .eql 9 (cI 7),
mV 30 31] [0,2,3,9,30])
(.cond 30 .skip
(rg [bN 32 .eql 9 (cI 8),
mV 30 32] [0,2,3,30])))
q1))))
def z60:ACode:=zdl z9E
def z8R (C:Hd) (gl:GL) (q1:ACode) (v0 v2 v3 v9 v16:AV) (h:Heap) (x:Esc) (K:KT):Prop:=
 z0i v16 (wK (oBsl false none 5 (.int .i64 0) [(0,(AI 0)),(1,(AI 1)),(2,(AI 1)),(3,(AI 6)),(4,(AI 13))] h) fun t1 h2 y3=>
 C z1p [v0,t1] h2 fun t4 h5 y6=>
 pK (z0d 1 none v3) fun t7=>
 wK (z0k none t7 t4 h5) fun t8 h9 y10=>
 K .normal ⟨[(0,v0),(2,v2),(3,v3)],h9,(y10++(y6++(y3++x)))⟩)
 (pK (oBin .eql v9 (AI 9)) fun t11=>
 z0i t11 (wK (oBsl false none 4 (.int .i64 0) [(0,(AI 0)),(1,(AI 0)),(2,(AI 1)),(3,(AI 3))] h) fun t12 h13 y14=>
 C z1p [v0,t12] h13 fun t15 h16 y17=>
 pK (z0d 2 none v3) fun t18=>
 wK (z0k none t18 t15 h16) fun t19 h20 y21=>
 K .normal ⟨[(0,v0),(2,v2),(3,v3)],h20,(y21++(y17++(y14++x)))⟩)
 (pK (oBin .eql v9 (AI 7)) fun t22=>
 z0i t22 (NW C gl q1 ⟨[(0,v0),(2,v2),(3,v3),(9,v9),(30,t22)],h,x⟩ K)
 (pK (oBin .eql v9 (AI 8)) fun t23=>
 NW C gl q1 ⟨[(0,v0),(2,v2),(3,v3),(30,t23)],h,x⟩ K)))
theorem zkW {C gl q1 e h x K}:NW C gl (zdl q1) ⟨e,h,x⟩ K=z8R C gl q1 (aget e 0) (aget e 2) (aget e 3) (aget e 9) (aget e 16) h x K:=by kernel_rfl
theorem zo8 {C gl e h x K}:NW C gl z60 ⟨e,h,x⟩ K=z8R C gl z9E (aget e 0) (aget e 2) (aget e 3) (aget e 9) (aget e 16) h x K:=zkW
def z4D:ACode:=.pr [2,3] (.seq (rg [lD 99 (some 6) 3,
wO (.store (some 6) 2 99)] [2])
.ret)
def zdY (C:Hd) (gl:GL) (v2 v3:AV) (h:Heap) (x:Esc) (K:KT):Prop:=
 pK (z0e (some 6) v3 h) fun t1=>
 wK (z0k (some 6) v2 t1 h) fun t2 h3 y4=>
 K .ret ⟨[(2,v2)],h3,(y4++x)⟩
theorem zo9 {C gl e h x K}:NW C gl z4D ⟨e,h,x⟩ K=zdY C gl (aget e 2) (aget e 3) h x K:=by kernel_rfl
def zdm (q3:ACode):ACode:=.pr [0,2,3] (.seq (.seq (rg [mV 53 0,
cL 54 z2z [53,(cI 60)]] [0,2,3,54])
(.cond 54 (.seq (rg [mV 55 0,
cL 56 z12 [55,(cI 4)]] [0,2,3,56])
(.block 1 (.seq (rg [bN 71 .eql 56 (cI 0),
mV 70 71] [0,2,3,56,70])
(.cond 70 (rg [mV 72 0,
cL 73 z7S [72,(cI 1),(cI 10)],
fA 74 0 none 3,
wO (.store none 74 73)] [2,3])
(.seq (rg [bN 76 .eql 56 (cI 1),
mV 75 76] [0,2,3,56,75])
(.cond 75 (rg [mV 77 0,
cL 78 z7S [77,(cI 0),(cI 15)],
mV 79 0,
uO 80 (.bsl false none 5 (.int .i64 0) [(0,(cI 0)),(1,(cI 1)),(2,(cI (-1))),(3,(cI 20000)),(4,(cI 20001))]),
cL 81 z1p [79,80],
fA 82 1 none 3,
wO (.store none 82 78),
fA 83 2 none 3,
wO (.store none 83 81)] [2,3])
(.seq (rg [bN 85 .eql 56 (cI 2),
mV 84 85] [0,2,3,84])
(.cond 84 (dr [dF (fA 86 3 none 3) [3],
dF (lD 87 none 86) [86],
dF (mV 88 0) [0],
dF (fA 89 3 none 3) [3],
dF (lD 90 none 89) [89],
dF (uO 91 (.lens 90)) [90],
dF (bN 92 .sub (cI 2000) 91) [91],
dA (cL 93 z1q [(cS [48]),92]) [92] true [] [1],
dA (cL 94 z1q [(cS [48]),(cI 2001)]) [] true [] [1],
dF (uO 95 (.bsl false none 4 (.str []) [(0,(cS [120])),(1,(cS [])),(2,93),(3,94)])) [93,94],
dA (cL 96 z22 [88,95]) [88,95] true [] [1],
dF (bN 97 .add 87 96) [87,96],
dF (fA 98 3 none 3) [3],
dT (wO (.store none 98 97)) [98,97]] [2,3])
(dr [dF (mV 57 0) [0],
dF (fA 58 4 none 3) [3],
dF (lD 59 none 58) [58],
dF (bN 60 .add 59 (cS [49])) [59],
dF (uO 61 (.bsl false none 3 (.str []) [(0,(cS [])),(1,(cS [48])),(2,60)])) [60],
dT (cL 62 z22 [57,61]) [57,61],
dF (mV 63 0) [0],
dF (fA 64 5 none 3) [3],
dA (lD 65 none 64) [64] false [5] [],
dA (uO 66 (.bsl false none 4 (.str []) [(0,(cS [])),(1,(cS [49])),(2,(cS [120])),(3,65)])) [65] false [5] [],
dT (cL 67 z22 [63,66]) [63,66],
dF (fA 68 4 none 3) [3],
dT (wO (.store none 68 62)) [68,62],
dF (fA 69 5 none 3) [3],
dT (wO (.store none 69 67)) [69,67]] [2,3])))))))))
.skip))
q3)
def z61:ACode:=zdm z4D
def z10 (C:Hd) (gl:GL) (q3:ACode) (v0 v2 v3:AV) (h:Heap) (x:Esc) (K:KT):Prop:=
 C z2z [v0,(AI 60)] h fun t1 h2 y3=>
 z0i t1 (C z12 [v0,(AI 4)] h2 fun t4 h5 y6=>
 pK (oBin .eql t4 (AI 0)) fun t7=>
 z0i t7 (C z7S [v0,(AI 1),(AI 10)] h5 fun t8 h9 y10=>
 pK (z0d 0 none v3) fun t11=>
 wK (z0k none t11 t8 h9) fun t12 h13 y14=>
 NW C gl q3 ⟨[(2,v2),(3,v3)],h13,(y14++(y10++(y6++(y3++x))))⟩ K)
 (pK (oBin .eql t4 (AI 1)) fun t15=>
 z0i t15 (C z7S [v0,(AI 0),(AI 15)] h5 fun t16 h17 y18=>
 wK (oBsl false none 5 (.int .i64 0) [(0,(AI 0)),(1,(AI 1)),(2,(AI (-1))),(3,(AI 20000)),(4,(AI 20001))] h17) fun t19 h20 y21=>
 C z1p [v0,t19] h20 fun t22 h23 y24=>
 pK (z0d 1 none v3) fun t25=>
 wK (z0k none t25 t16 h23) fun t26 h27 y28=>
 pK (z0d 2 none v3) fun t29=>
 wK (z0k none t29 t22 h27) fun t30 h31 y32=>
 NW C gl q3 ⟨[(2,v2),(3,v3)],h31,(y32++(y28++(y24++(y21++(y18++(y6++(y3++x)))))))⟩ K)
 (pK (oBin .eql t4 (AI 2)) fun t33=>
 z0i t33 (pK (z0d 3 none v3) fun t34=>
 pK (z0e none t34 h5) fun t35=>
 pK (z0d 3 none v3) fun t36=>
 pK (z0e none t36 h5) fun t37=>
 pK (z06 t37) fun t38=>
 pK (oBin .sub (AI 2000) t38) fun t39=>
 z1A C z1q [(.p (.str [48])),t39] h5 fun t40 h41 y42=>
 (pK (z0e none t34 h41) fun v=>(fun u (g1:Heap) (y1:Esc)=>u=t35∧g1=h41∧y1=[]) v h41 [])∧(z1A C z1q [(.p (.str [48])),(AI 2001)] h41 fun t43 h44 y45=>
 (pK (z0e none t34 h44) fun v=>(fun u (g1:Heap) (y1:Esc)=>u=t35∧g1=h44∧y1=[]) v h44 [])∧(wK (oBsl false none 4 (.str []) [(0,(.p (.str [120]))),(1,(.p (.str []))),(2,t40),(3,t43)] h44) fun t46 h47 y48=>
 (h47=h44∧y48=[])∧(z1A C z22 [v0,t46] h47 fun t49 h50 y51=>
 (pK (z0e none t34 h50) fun v=>(fun u (g1:Heap) (y1:Esc)=>u=t35∧g1=h50∧y1=[]) v h50 [])∧(pK (oBin .add t35 t49) fun t52=>
 pK (z0d 3 none v3) fun t53=>
 wK (z0k none t53 t52 h50) fun t54 h55 y56=>
 NW C gl q3 ⟨[(2,v2),(3,v3)],h55,(y56++(y51++(y48++(y45++(y42++(y6++(y3++x)))))))⟩ K)))))
 (pK (z0d 4 none v3) fun t57=>
 pK (z0e none t57 h5) fun t58=>
 pK (oBin .add t58 (.p (.str [49]))) fun t59=>
 wK (oBsl false none 3 (.str []) [(0,(.p (.str []))),(1,(.p (.str [48]))),(2,t59)] h5) fun t60 h61 y62=>
 (h61=h5∧y62=[])∧(z1A C z22 [v0,t60] h61 fun t63 h64 y65=>
 pK (z0d 5 none v3) fun t66=>
 pK (z0e none t66 h64) fun t67=>
 (pK (z0e none t66 h61) fun v=>(fun u (g1:Heap) (y1:Esc)=>u=t67∧g1=h61∧y1=[]) v h61 [])∧(wK (oBsl false none 4 (.str []) [(0,(.p (.str []))),(1,(.p (.str [49]))),(2,(.p (.str [120]))),(3,t67)] h64) fun t68 h69 y70=>
 (h69=h64∧y70=[])∧((wK (oBsl false none 4 (.str []) [(0,(.p (.str []))),(1,(.p (.str [49]))),(2,(.p (.str [120]))),(3,t67)] h61) (fun u (g1:Heap) (y1:Esc)=>u=t68∧g1=h61∧y1=[]))∧(z1A C z22 [v0,t68] h69 fun t71 h72 y73=>
 pK (z0d 4 none v3) fun t74=>
 wK (z0k none t74 t63 h72) fun t75 h76 y77=>
 pK (z0d 5 none v3) fun t78=>
 wK (z0k none t78 t71 h76) fun t79 h80 y81=>
 NW C gl q3 ⟨[(2,v2),(3,v3)],h80,(y81++(y77++(y73++(y70++(y65++(y62++(y6++(y3++x))))))))⟩ K))))))))
 (NW C gl q3 ⟨[(0,v0),(2,v2),(3,v3),(54,t1)],h2,(y3++x)⟩ K)
theorem zkX {C gl q3 e h x K}:NW C gl (zdm q3) ⟨e,h,x⟩ K=z10 C gl q3 (aget e 0) (aget e 2) (aget e 3) h x K:=by kernel_rfl
theorem zoA {C gl e h x K}:NW C gl z61 ⟨e,h,x⟩ K=z10 C gl z4D (aget e 0) (aget e 2) (aget e 3) h x K:=zkX
def zvF (q2 q4:ACode):ACode:=(.seq (rg [uO 2 (.alloc [.p (.int .i64 0),.p (.int .i64 0),.p (.int .i64 0),.p (.str []),.p (.str []),.p (.str [])])] [0,2])
(.seq (rg [mV 4 0,
uO 5 (.bsl false none 13 (.int .i64 0) [(0,(cI 7)),(1,(cI 7)),(2,(cI 8)),(3,(cI 8)),(4,(cI 8)),(5,(cI 1)),(6,(cI 2)),(7,(cI 3)),(8,(cI 4)),(9,(cI 5)),(10,(cI 6)),(11,(cI 9)),(12,(cI 10))]),
cL 6 z1p [4,5],
uO 7 (.build [.p (.int .i64 0),.p (.int .i64 0),.p (.int .i64 0),.p (.str []),.p (.str []),.p (.str [])] [(0,1,6)]),
uO 3 (.alloc [.p (.int .i64 0),.p (.int .i64 0),.p (.int .i64 0),.p (.str []),.p (.str []),.p (.str [])]),
wO (.store (some 6) 3 7)] [0,2,3])
(.seq (.seq (rg [fA 8 0 none 3,
lD 9 none 8] [0,2,3,9])
(.block 0 (.seq (.seq (rg [bN 17 .eql 9 (cI 1),
mV 16 17] [0,2,3,9,16])
(.cond 16 .skip
(.seq (rg [bN 18 .eql 9 (cI 2),
mV 16 18] [0,2,3,9,16])
(.cond 16 .skip
(rg [bN 19 .eql 9 (cI 10),
mV 16 19] [0,2,3,9,16])))))
q2)))
q4)))
def zlB:AFun:=⟨1,[.cell 2 (some 6)],zvF z60 z61,false,false⟩
def z4f (C:Hd) (gl:GL) (q2 q4:ACode) (v0:AV) (h:Heap) (x:Esc) (K:KT):Prop:=
 alK [.p (.int .i64 0),.p (.int .i64 0),.p (.int .i64 0),.p (.str []),.p (.str []),.p (.str [])] h fun t1 h2 y3=>
 wK (oBsl false none 13 (.int .i64 0) [(0,(AI 7)),(1,(AI 7)),(2,(AI 8)),(3,(AI 8)),(4,(AI 8)),(5,(AI 1)),(6,(AI 2)),(7,(AI 3)),(8,(AI 4)),(9,(AI 5)),(10,(AI 6)),(11,(AI 9)),(12,(AI 10))] h2) fun t4 h5 y6=>
 C z1p [v0,t4] h5 fun t7 h8 y9=>
 pK (z0x [.p (.int .i64 0),.p (.int .i64 0),.p (.int .i64 0),.p (.str []),.p (.str []),.p (.str [])] [(0,1,t7)]) fun t10=>
 alK [.p (.int .i64 0),.p (.int .i64 0),.p (.int .i64 0),.p (.str []),.p (.str []),.p (.str [])] h8 fun t11 h12 y13=>
 wK (z0k (some 6) t11 t10 h12) fun t14 h15 y16=>
 pK (z0d 0 none t11) fun t17=>
 pK (z0e none t17 h15) fun t18=>
 pK (oBin .eql t18 (AI 1)) fun t19=>
 z0i t19 (NW C gl q2 ⟨[(0,v0),(2,t1),(3,t11),(9,t18),(16,t19)],h15,(y16++(y13++(y9++(y6++(y3++x)))))⟩ (z0s 0 (seqN C gl q4 K)))
 (pK (oBin .eql t18 (AI 2)) fun t20=>
 z0i t20 (NW C gl q2 ⟨[(0,v0),(2,t1),(3,t11),(9,t18),(16,t20)],h15,(y16++(y13++(y9++(y6++(y3++x)))))⟩ (z0s 0 (seqN C gl q4 K)))
 (pK (oBin .eql t18 (AI 10)) fun t21=>
 NW C gl q2 ⟨[(0,v0),(2,t1),(3,t11),(9,t18),(16,t21)],h15,(y16++(y13++(y9++(y6++(y3++x)))))⟩ (z0s 0 (seqN C gl q4 K))))
theorem E_q02m {C gl q2 q4 v0 h x K}:NW C gl (zvF q2 q4) ⟨enter [v0],h,x⟩ K=z4f C gl q2 q4 v0 h x K:=by kernel_rfl
theorem e_q02m {C gl v0 h x K}:NW C gl zlB.body ⟨enter [v0],h,x⟩ K=z4f C gl z60 z61 v0 h x K:=E_q02m
def P_q02q:ACode:=(.seq (rg [mV 4 cF] [0,1])
(.seq (rg [mV 5 0,
mV 6 1,
cL 7 z12 [5,6],
bN 8 .eql 7 (cI 0),
mV 4 8] [4])
.ret))
def zlF:AFun:=⟨2,[.t 4],P_q02q,false,false⟩
def znA (C:Hd) (gl:GL) (v0 v1:AV) (h:Heap) (x:Esc) (K:KT):Prop:=
 C z12 [v0,v1] h fun t1 h2 y3=>
 pK (oBin .eql t1 (AI 0)) fun t4=>
 K .ret ⟨[(4,t4)],h2,(y3++x)⟩
theorem e_q02q {C gl v0 v1 h x K}:NW C gl zlF.body ⟨enter [v0,v1],h,x⟩ K=znA C gl v0 v1 h x K:=by kernel_rfl
def P_q02t:ACode:=(.seq (rg [mV 4 (cI 0)] [0,1])
(.seq (rg [mV 5 1,
mV 6 0,
mV 7 1,
lN 8 7,
cL 9 z12 [6,8],
iA 10 none 5 9,
lD 11 none 10,
mV 4 11] [4])
.ret))
def zlI:AFun:=⟨2,[.t 4],P_q02t,false,false⟩
def znB (C:Hd) (gl:GL) (v0 v1:AV) (h:Heap) (x:Esc) (K:KT):Prop:=
 pK (oLen v1) fun t1=>
 C z12 [v0,t1] h fun t2 h3 y4=>
 pK (z0r none v1 t2 h3) fun t5=>
 pK (z0e none t5 h3) fun t6=>
 K .ret ⟨[(4,t6)],h3,(y4++x)⟩
theorem e_q02t {C gl v0 v1 h x K}:NW C gl zlI.body ⟨enter [v0,v1],h,x⟩ K=znB C gl v0 v1 h x K:=by kernel_rfl
def P_q02n:ACode:=(.seq (rg [mV 6 (cS [])] [0,1,2])
(.seq (.seq (rg [mV 9 1,
bN 10 .eql 9 (cS []),
mV 11 10,
gD 12 11 false (.mv 2),
gD 13 11 false (.bin .eql 12 (cS [])),
uO 14 (.pick 11 cT 13)] [0,1,2,14])
(.cond 14 (.seq (rg [mV 15 2,
mV 6 15] [6])
.ret)
.skip))
(.seq (rg [mV 16 0,
mV 17 1,
uO 18 (.lens 17),
cL 19 z12 [16,18],
mV 7 19] [0,1,2,7])
(.seq (rg [mV 20 2,
mV 21 0,
mV 22 2,
uO 23 (.lens 22),
cL 24 z12 [21,23],
uO 25 (.idxs 20 24),
mV 8 25] [0,1,7,8])
(.seq (.seq (rg [mV 26 0,
cL 27 z12 [26,(cI 3)]] [1,7,8,27])
(.block 0 (.seq (rg [bN 29 .eql 27 (cI 0),
mV 28 29] [1,7,8,27,28])
(.cond 28 (.seq (dr [dF (mV 30 1) [1],
dF (mV 31 7) [7],
dF (uO 32 (.slstr 30 none (some 31))) [30,31],
dF (mV 33 8) [8],
dF (uO 34 (.conv (.i .i32) 33)) [33],
dF (uO 35 (.conv .r2s 34)) [34],
dF (bN 36 .add 32 35) [32,35],
dF (mV 37 1) [1],
dF (mV 38 7) [7],
dF (bN 39 .add 38 (cI 1)) [38],
dF (uO 40 (.slstr 37 (some 39) none)) [37,39],
dF (bN 41 .add 36 40) [36,40],
dF (mV 6 41) [41]] [6])
.ret)
(.seq (rg [bN 43 .eql 27 (cI 1),
mV 42 43] [1,7,8,42])
(.cond 42 (.seq (dr [dF (mV 44 1) [1],
dF (mV 45 7) [7],
dF (uO 46 (.slstr 44 none (some 45))) [44,45],
dF (mV 47 8) [8],
dF (uO 48 (.conv (.i .i32) 47)) [47],
dF (uO 49 (.conv .r2s 48)) [48],
dF (bN 50 .add 46 49) [46,49],
dF (mV 51 1) [1],
dF (mV 52 7) [7],
dF (uO 53 (.slstr 51 (some 52) none)) [51,52],
dF (bN 54 .add 50 53) [50,53],
dF (mV 6 54) [54]] [6])
.ret)
.skip))))))
(.seq (dr [dF (mV 55 1) [1],
dF (mV 56 7) [7],
dF (uO 57 (.slstr 55 none (some 56))) [55,56],
dF (mV 58 1) [1],
dF (mV 59 7) [7],
dF (bN 60 .add 59 (cI 1)) [59],
dF (uO 61 (.slstr 58 (some 60) none)) [58,60],
dF (bN 62 .add 57 61) [57,61],
dF (mV 6 62) [62]] [6])
.ret))))))
def zlC:AFun:=⟨3,[.t 6],P_q02n,false,false⟩
def zhy (C:Hd) (gl:GL) (v0 v1 v2:AV) (h:Heap) (x:Esc) (K:KT):Prop:=
 pK (oBin .eql v1 (.p (.str []))) fun t1=>
 gM t1 false v2 h fun t2 h3 y4=>
 gP t1 false (oBin .eql t2 (.p (.str []))) h3 fun t5 h6 y7=>
 pK (z09 t1 (AB true) t5) fun t8=>
 z0i t8 (K .ret ⟨[(6,v2)],h6,(y7++(y4++x))⟩)
 (pK (z06 v1) fun t9=>
 C z12 [v0,t9] h6 fun t10 h11 y12=>
 pK (z06 v2) fun t13=>
 C z12 [v0,t13] h11 fun t14 h15 y16=>
 pK (z1I v2 t14) fun t17=>
 C z12 [v0,(AI 3)] h15 fun t18 h19 y20=>
 pK (oBin .eql t18 (AI 0)) fun t21=>
 z0i t21 (pK (z1s v1 none (some t10)) fun t22=>
 pK (z1w .i32 t17) fun t23=>
 (h19=h19∧([]:Esc)=[])∧(wK (z95 .r2s t23 h19) fun t24 h25 y26=>
 (h25=h19∧y26=[])∧(pK (oBin .add t22 t24) fun t27=>
 pK (oBin .add t10 (AI 1)) fun t28=>
 pK (z1s v1 (some t28) none) fun t29=>
 pK (oBin .add t27 t29) fun t30=>
 K .ret ⟨[(6,t30)],h25,(y26++(y20++(y16++(y12++(y7++(y4++x))))))⟩)))
 (pK (oBin .eql t18 (AI 1)) fun t31=>
 z0i t31 (pK (z1s v1 none (some t10)) fun t32=>
 pK (z1w .i32 t17) fun t33=>
 (h19=h19∧([]:Esc)=[])∧(wK (z95 .r2s t33 h19) fun t34 h35 y36=>
 (h35=h19∧y36=[])∧(pK (oBin .add t32 t34) fun t37=>
 pK (z1s v1 (some t10) none) fun t38=>
 pK (oBin .add t37 t38) fun t39=>
 K .ret ⟨[(6,t39)],h35,(y36++(y20++(y16++(y12++(y7++(y4++x))))))⟩)))
 (pK (z1s v1 none (some t10)) fun t40=>
 pK (oBin .add t10 (AI 1)) fun t41=>
 pK (z1s v1 (some t41) none) fun t42=>
 pK (oBin .add t40 t42) fun t43=>
 K .ret ⟨[(6,t43)],h19,(y20++(y16++(y12++(y7++(y4++x)))))⟩)))
theorem e_q02n {C gl v0 v1 v2 h x K}:NW C gl zlC.body ⟨enter [v0,v1,v2],h,x⟩ K=zhy C gl v0 v1 v2 h x K:=by kernel_rfl
def P_q04y:ACode:=(.seq (rg [mV 4 (cI 0),
mV 5 (.c (.nili))] [0,1])
(.seq (rg [mV 6 0,
cL 7 zbi [6]] [0,1])
(.seq (rg [mV 8 0,
mV 9 0,
uO 10 (.nilchk 9),
fA 11 1 none 10,
lD 12 none 11,
mV 13 1,
uO 14 (.uns 3 5 [12,13]),
uO 15 (.nilchk 8),
fA 16 1 none 15,
wO (.store none 16 14)] [1])
(.seq (rg [mV 17 1,
uO 18 (.lens 17),
mV 4 18,
mV 5 (.c (.nili))] [4,5])
.ret))))
def zmt:AFun:=⟨2,[.t 4,.t 5],P_q04y,false,false⟩
def znQ (C:Hd) (gl:GL) (v0 v1:AV) (h:Heap) (x:Esc) (K:KT):Prop:=
 C zbi [v0] h fun t1 h2 y3=>
 pK (oNil v0) fun t4=>
 pK (z0d 1 none t4) fun t5=>
 pK (z0e none t5 h2) fun t6=>
 wK (z1y 3 5 [t6,v1] h2) fun t7 h8 y9=>
 pK (oNil v0) fun t10=>
 pK (z0d 1 none t10) fun t11=>
 wK (z0k none t11 t7 h8) fun t12 h13 y14=>
 pK (z06 v1) fun t15=>
 K .ret ⟨[(4,t15),(5,(.nili))],h13,(y14++(y9++(y3++x)))⟩
theorem e_q04y {C gl v0 v1 h x K}:NW C gl zmt.body ⟨enter [v0,v1],h,x⟩ K=znQ C gl v0 v1 h x K:=by kernel_rfl
def P_q06g:ACode:=(.seq (rg [uO 1 (.box 0),
mV 2 (cS [])] [1])
(.seq (rg [fA 4 0 none 1,
lD 5 none 4,
cL 6 z8g [5],
bN 7 .add 6 (cS [32]),
mV 3 7] [1,3])
(.seq (.block 0 (.seq (rg [fA 9 0 none 1,
lD 10 none 9,
bN 11 .eql 10 (cI 1),
mV 12 11,
gD 13 12 false (.faddr 0 none 1),
gD 14 12 false (.load none 13),
gD 15 12 false (.bin .eql 14 (cI 2)),
uO 16 (.pick 12 cT 15),
mV 17 16,
gD 18 17 false (.faddr 0 none 1),
gD 19 17 false (.load none 18),
gD 20 17 false (.bin .eql 19 (cI 10)),
uO 21 (.pick 17 cT 20),
mV 8 21] [1,3,8])
(.cond 8 (.seq (rg [mV 22 3,
fA 23 1 none 1,
lD 24 none 23,
cL 25 z8f [24],
bN 26 .add 22 25,
mV 2 26] [2])
.ret)
(.seq (rg [fA 28 0 none 1,
lD 29 none 28,
bN 30 .eql 29 (cI 9),
mV 27 30] [1,3,27])
(.cond 27 (.seq (rg [mV 31 3,
fA 32 2 none 1,
lD 33 none 32,
cL 34 z8a [33],
bN 35 .add 31 34,
mV 2 35] [2])
.ret)
(.seq (rg [fA 37 0 none 1,
lD 38 none 37,
cL 39 z2P [38],
mV 40 39,
gD 41 40 true (.faddr 4 none 1),
gD 42 40 true (.load none 41),
gD 43 40 true (.bin .neq 42 (cS [])),
uO 44 (.pick 40 43 cF),
mV 36 44] [1,3,36])
(.cond 36 (.seq (rg [mV 45 3,
fA 46 3 none 1,
lD 47 none 46,
bN 48 .add 45 47,
bN 49 .add 48 (cS [32]),
fA 50 4 none 1,
lD 51 none 50,
bN 52 .add 49 51,
bN 53 .add 52 (cS [32]),
fA 54 5 none 1,
lD 55 none 54,
bN 56 .add 53 55,
mV 2 56] [2])
.ret)
(.seq (rg [fA 58 3 none 1,
lD 59 none 58,
bN 60 .eql 59 (cS []),
mV 57 60] [1,3,57])
(.cond 57 (.seq (rg [mV 61 3,
bN 62 .add 61 (cS [45]),
mV 2 62] [2])
.ret)
.skip)))))))))
(.seq (rg [mV 63 3,
fA 64 3 none 1,
lD 65 none 64,
bN 66 .add 63 65,
mV 2 66] [2])
.ret))))
def zmF:AFun:=⟨1,[.t 2],P_q06g,false,false⟩
def z6c (C:Hd) (gl:GL) (v0:AV) (h:Heap) (x:Esc) (K:KT):Prop:=
 wK (oBox v0 h) fun t1 h2 y3=>
 pK (z0d 0 none t1) fun t4=>
 pK (z0e none t4 h2) fun t5=>
 C z8g [t5] h2 fun t6 h7 y8=>
 pK (oBin .add t6 (.p (.str [32]))) fun t9=>
 pK (z0d 0 none t1) fun t10=>
 pK (z0e none t10 h7) fun t11=>
 pK (oBin .eql t11 (AI 1)) fun t12=>
 gP t12 false (z0d 0 none t1) h7 fun t13 h14 y15=>
 gP t12 false (z0e none t13 h14) h14 fun t16 h17 y18=>
 gP t12 false (oBin .eql t16 (AI 2)) h17 fun t19 h20 y21=>
 pK (z09 t12 (AB true) t19) fun t22=>
 gP t22 false (z0d 0 none t1) h20 fun t23 h24 y25=>
 gP t22 false (z0e none t23 h24) h24 fun t26 h27 y28=>
 gP t22 false (oBin .eql t26 (AI 10)) h27 fun t29 h30 y31=>
 pK (z09 t22 (AB true) t29) fun t32=>
 z0i t32 (pK (z0d 1 none t1) fun t33=>
 pK (z0e none t33 h30) fun t34=>
 C z8f [t34] h30 fun t35 h36 y37=>
 pK (oBin .add t9 t35) fun t38=>
 K .ret ⟨[(2,t38)],h36,(y37++(y31++(y28++(y25++(y21++(y18++(y15++(y8++(y3++x)))))))))⟩)
 (pK (z0d 0 none t1) fun t39=>
 pK (z0e none t39 h30) fun t40=>
 pK (oBin .eql t40 (AI 9)) fun t41=>
 z0i t41 (pK (z0d 2 none t1) fun t42=>
 pK (z0e none t42 h30) fun t43=>
 C z8a [t43] h30 fun t44 h45 y46=>
 pK (oBin .add t9 t44) fun t47=>
 K .ret ⟨[(2,t47)],h45,(y46++(y31++(y28++(y25++(y21++(y18++(y15++(y8++(y3++x)))))))))⟩)
 (pK (z0d 0 none t1) fun t48=>
 pK (z0e none t48 h30) fun t49=>
 C z2P [t49] h30 fun t50 h51 y52=>
 gP t50 true (z0d 4 none t1) h51 fun t53 h54 y55=>
 gP t50 true (z0e none t53 h54) h54 fun t56 h57 y58=>
 gP t50 true (oBin .neq t56 (.p (.str []))) h57 fun t59 h60 y61=>
 pK (z09 t50 t59 (AB false)) fun t62=>
 z0i t62 (pK (z0d 3 none t1) fun t63=>
 pK (z0e none t63 h60) fun t64=>
 pK (oBin .add t9 t64) fun t65=>
 pK (oBin .add t65 (.p (.str [32]))) fun t66=>
 pK (z0d 4 none t1) fun t67=>
 pK (z0e none t67 h60) fun t68=>
 pK (oBin .add t66 t68) fun t69=>
 pK (oBin .add t69 (.p (.str [32]))) fun t70=>
 pK (z0d 5 none t1) fun t71=>
 pK (z0e none t71 h60) fun t72=>
 pK (oBin .add t70 t72) fun t73=>
 K .ret ⟨[(2,t73)],h60,(y61++(y58++(y55++(y52++(y31++(y28++(y25++(y21++(y18++(y15++(y8++(y3++x))))))))))))⟩)
 (pK (z0d 3 none t1) fun t74=>
 pK (z0e none t74 h60) fun t75=>
 pK (oBin .eql t75 (.p (.str []))) fun t76=>
 z0i t76 (pK (oBin .add t9 (.p (.str [45]))) fun t77=>
 K .ret ⟨[(2,t77)],h60,(y61++(y58++(y55++(y52++(y31++(y28++(y25++(y21++(y18++(y15++(y8++(y3++x))))))))))))⟩)
 (pK (z0d 3 none t1) fun t78=>
 pK (z0e none t78 h60) fun t79=>
 pK (oBin .add t9 t79) fun t80=>
 K .ret ⟨[(2,t80)],h60,(y61++(y58++(y55++(y52++(y31++(y28++(y25++(y21++(y18++(y15++(y8++(y3++x))))))))))))⟩))))
theorem e_q06g {C gl v0 h x K}:NW C gl zmF.body ⟨enter [v0],h,x⟩ K=z6c C gl v0 h x K:=by kernel_rfl
def P_q04w:ACode:=(.seq (rg [mV 2 (cI 0)] [0])
(.seq (rg [mV 3 0,
uO 4 (.nilchk 3),
fA 5 1 none 4,
lD 6 none 5,
uO 7 (.uns 4 0 [6]),
mV 2 7] [2])
.ret))
def zmr:AFun:=⟨1,[.t 2],P_q04w,false,false⟩
def znP (C:Hd) (gl:GL) (v0:AV) (h:Heap) (x:Esc) (K:KT):Prop:=
 pK (oNil v0) fun t1=>
 pK (z0d 1 none t1) fun t2=>
 pK (z0e none t2 h) fun t3=>
 wK (z1y 4 0 [t3] h) fun t4 h5 y6=>
 K .ret ⟨[(2,t4)],h5,(y6++x)⟩
theorem e_q04w {C gl v0 h x K}:NW C gl zmr.body ⟨enter [v0],h,x⟩ K=znP C gl v0 h x K:=by kernel_rfl
def P_q04x:ACode:=(.seq (rg [mV 2 (cS [])] [0])
(.seq (dr [dF (mV 3 0) [0],
dF (uO 4 (.nilchk 3)) [3],
dF (fA 5 1 none 4) [4],
dF (lD 6 none 5) [5],
dF (uO 7 (.uns 5 5 [6])) [6],
dF (mV 8 0) [0],
dF (uO 9 (.nilchk 8)) [8],
dF (fA 10 1 none 9) [9],
dF (lD 11 none 10) [10],
dF (uO 12 (.uns 4 0 [11])) [11],
dT (uO 13 (.uns 6 5 [7,12])) [7,12],
dF (mV 2 13) [13]] [2])
.ret))
def zms:AFun:=⟨1,[.t 2],P_q04x,false,false⟩
def zhG (C:Hd) (gl:GL) (v0:AV) (h:Heap) (x:Esc) (K:KT):Prop:=
 pK (oNil v0) fun t1=>
 pK (z0d 1 none t1) fun t2=>
 pK (z0e none t2 h) fun t3=>
 wK (z1y 5 5 [t3] h) fun t4 h5 y6=>
 (h5=h∧y6=[])∧(pK (oNil v0) fun t7=>
 pK (z0d 1 none t7) fun t8=>
 pK (z0e none t8 h5) fun t9=>
 wK (z1y 4 0 [t9] h5) fun t10 h11 y12=>
 (h11=h5∧y12=[])∧(wK (z1y 6 5 [t4,t10] h11) fun t13 h14 y15=>
 K .ret ⟨[(2,t13)],h14,(y15++(y12++(y6++x)))⟩))
theorem e_q04x {C gl v0 h x K}:NW C gl zms.body ⟨enter [v0],h,x⟩ K=zhG C gl v0 h x K:=by kernel_rfl
def z9J:ACode:=.pr [1,3,48] (.cond 48 (.seq (dr [dF (fA 51 3 none 1) [1],
dF (lD 52 none 51) [51],
dF (fA 53 4 none 1) [1],
dF (lD 54 none 53) [53],
dF (fA 55 5 none 1) [1],
dF (lD 56 none 55) [55],
dF (fA 57 3 none 3) [3],
dA (wO (.store none 57 52)) [57,52] true [] [3,5],
dF (fA 58 4 none 3) [3],
dA (wO (.store none 58 54)) [58,54] true [] [5],
dF (fA 59 5 none 3) [3],
dT (wO (.store none 59 56)) [59,56]] [1,3])
(.seq (rg [lD 60 (some 6) 1,
cL 61 zbf [60],
mV 4 61] [1,3,4])
(.seq (rg [mV 62 4,
bN 63 .neq 62 (cI 0)] [1,3,4,63])
(.cond 63 (.seq (rg [mV 64 4,
mV 2 64] [2])
.ret)
.skip))))
(.seq (rg [mV 2 (cI 4)] [2])
.ret))
def z2v (C:Hd) (gl:GL) (v1 v3 v48:AV) (h:Heap) (x:Esc) (K:KT):Prop:=
 z0i v48 (pK (z0d 3 none v1) fun t1=>
 pK (z0e none t1 h) fun t2=>
 pK (z0d 4 none v1) fun t3=>
 pK (z0e none t3 h) fun t4=>
 pK (z0d 5 none v1) fun t5=>
 pK (z0e none t5 h) fun t6=>
 pK (z0d 3 none v3) fun t7=>
 wK (z0k none t7 t2 h) fun t8 h9 y10=>
 (pK (z0e none t3 h9) fun v=>(fun u (g1:Heap) (y1:Esc)=>u=t4∧g1=h9∧y1=[]) v h9 [])∧((pK (z0e none t5 h9) fun v=>(fun u (g1:Heap) (y1:Esc)=>u=t6∧g1=h9∧y1=[]) v h9 [])∧(pK (z0d 4 none v3) fun t11=>
 wK (z0k none t11 t4 h9) fun t12 h13 y14=>
 (pK (z0e none t5 h13) fun v=>(fun u (g1:Heap) (y1:Esc)=>u=t6∧g1=h13∧y1=[]) v h13 [])∧(pK (z0d 5 none v3) fun t15=>
 wK (z0k none t15 t6 h13) fun t16 h17 y18=>
 pK (z0e (some 6) v1 h17) fun t19=>
 C zbf [t19] h17 fun t20 h21 y22=>
 pK (oBin .neq t20 (AI 0)) fun t23=>
 z0i t23 (K .ret ⟨[(2,t20)],h21,(y22++(y18++(y14++(y10++x))))⟩)
 (K .normal ⟨[(1,v1),(3,v3),(4,t20),(63,t23)],h21,(y22++(y18++(y14++(y10++x))))⟩)))))
 (K .ret ⟨[(2,(AI 4))],h,x⟩)
theorem zpa {C gl e h x K}:NW C gl z9J ⟨e,h,x⟩ K=z2v C gl (aget e 1) (aget e 3) (aget e 48) h x K:=by kernel_rfl
def zdq (q1:ACode):ACode:=.pr [1,3,9,30] (.cond 30 (.seq (rg [fA 35 3 none 1,
lD 36 none 35,
fA 37 3 none 3,
wO (.store none 37 36)] [1,3])
(.block 1 (.seq (rg [fA 39 3 none 1,
lD 40 none 39,
cL 41 z4j [40],
uO 42 (.un .not 41),
mV 38 42] [1,3,38])
(.cond 38 (.seq (rg [mV 2 (cI 9)] [2])
.ret)
(.seq (rg [fA 44 3 none 1,
lD 45 none 44,
uO 46 (.lens 45),
bN 47 .gtr 46 (cI 2000),
mV 43 47] [1,3,43])
(.cond 43 (.seq (rg [mV 2 (cI 2)] [2])
.ret)
.skip))))))
(.seq (.seq (rg [bN 49 .eql 9 (cI 7),
mV 48 49] [1,3,9,48])
(.cond 48 .skip
(rg [bN 50 .eql 9 (cI 8),
mV 48 50] [1,3,48])))
q1))
def z9K:ACode:=zdq z9J
def z11 (C:Hd) (gl:GL) (q1:ACode) (v1 v3 v9 v30:AV) (h:Heap) (x:Esc) (K:KT):Prop:=
 z0i v30 (pK (z0d 3 none v1) fun t1=>
 pK (z0e none t1 h) fun t2=>
 pK (z0d 3 none v3) fun t3=>
 wK (z0k none t3 t2 h) fun t4 h5 y6=>
 pK (z0d 3 none v1) fun t7=>
 pK (z0e none t7 h5) fun t8=>
 C z4j [t8] h5 fun t9 h10 y11=>
 pK (oUn .not t9) fun t12=>
 z0i t12 (K .ret ⟨[(2,(AI 9))],h10,(y11++(y6++x))⟩)
 (pK (z0d 3 none v1) fun t13=>
 pK (z0e none t13 h10) fun t14=>
 pK (z06 t14) fun t15=>
 pK (oBin .gtr t15 (AI 2000)) fun t16=>
 z0i t16 (K .ret ⟨[(2,(AI 2))],h10,(y11++(y6++x))⟩)
 (K .normal ⟨[(1,v1),(3,v3),(43,t16)],h10,(y11++(y6++x))⟩)))
 (pK (oBin .eql v9 (AI 7)) fun t17=>
 z0i t17 (NW C gl q1 ⟨[(1,v1),(3,v3),(9,v9),(48,t17)],h,x⟩ K)
 (pK (oBin .eql v9 (AI 8)) fun t18=>
 NW C gl q1 ⟨[(1,v1),(3,v3),(48,t18)],h,x⟩ K))
theorem zlb {C gl q1 e h x K}:NW C gl (zdq q1) ⟨e,h,x⟩ K=z11 C gl q1 (aget e 1) (aget e 3) (aget e 9) (aget e 30) h x K:=by kernel_rfl
theorem zpb {C gl e h x K}:NW C gl z9K ⟨e,h,x⟩ K=z11 C gl z9J (aget e 1) (aget e 3) (aget e 9) (aget e 30) h x K:=zlb
def zdr (q2:ACode):ACode:=.pr [1,3,9,10] (.cond 10 (.seq (rg [fA 14 1 none 1,
lD 15 none 14,
fA 16 1 none 3,
wO (.store none 16 15)] [1,3])
(.seq (rg [fA 17 1 none 1,
lD 18 none 17,
cL 19 zbg [18],
uO 20 (.un .not 19)] [1,3,20])
(.cond 20 (.seq (rg [mV 2 (cI 1)] [2])
.ret)
.skip)))
(.seq (rg [bN 22 .eql 9 (cI 9),
mV 21 22] [1,3,9,21])
(.cond 21 (.seq (rg [fA 23 2 none 1,
lD 24 none 23,
fA 25 2 none 3,
wO (.store none 25 24)] [1,3])
(.seq (rg [fA 26 2 none 1,
lD 27 none 26,
cL 28 z2O [27,(cI 0),(cI 20000)],
uO 29 (.un .not 28)] [1,3,29])
(.cond 29 (.seq (rg [mV 2 (cI 1)] [2])
.ret)
.skip)))
(.seq (.seq (rg [bN 31 .eql 9 (cI 3),
mV 30 31] [1,3,9,30])
(.cond 30 .skip
(.seq (rg [bN 32 .eql 9 (cI 4),
mV 30 32] [1,3,9,30])
(.cond 30 .skip
(.seq (rg [bN 33 .eql 9 (cI 5),
mV 30 33] [1,3,9,30])
(.cond 30 .skip
(rg [bN 34 .eql 9 (cI 6),
mV 30 34] [1,3,9,30])))))))
q2))))
def z6C:ACode:=zdr z9K
def z0Q (C:Hd) (gl:GL) (q2:ACode) (v1 v3 v9 v10:AV) (h:Heap) (x:Esc) (K:KT):Prop:=
 z0i v10 (pK (z0d 1 none v1) fun t1=>
 pK (z0e none t1 h) fun t2=>
 pK (z0d 1 none v3) fun t3=>
 wK (z0k none t3 t2 h) fun t4 h5 y6=>
 pK (z0d 1 none v1) fun t7=>
 pK (z0e none t7 h5) fun t8=>
 C zbg [t8] h5 fun t9 h10 y11=>
 pK (oUn .not t9) fun t12=>
 z0i t12 (K .ret ⟨[(2,(AI 1))],h10,(y11++(y6++x))⟩)
 (K .normal ⟨[(1,v1),(3,v3),(20,t12)],h10,(y11++(y6++x))⟩))
 (pK (oBin .eql v9 (AI 9)) fun t13=>
 z0i t13 (pK (z0d 2 none v1) fun t14=>
 pK (z0e none t14 h) fun t15=>
 pK (z0d 2 none v3) fun t16=>
 wK (z0k none t16 t15 h) fun t17 h18 y19=>
 pK (z0d 2 none v1) fun t20=>
 pK (z0e none t20 h18) fun t21=>
 C z2O [t21,(AI 0),(AI 20000)] h18 fun t22 h23 y24=>
 pK (oUn .not t22) fun t25=>
 z0i t25 (K .ret ⟨[(2,(AI 1))],h23,(y24++(y19++x))⟩)
 (K .normal ⟨[(1,v1),(3,v3),(29,t25)],h23,(y24++(y19++x))⟩))
 (pK (oBin .eql v9 (AI 3)) fun t26=>
 z0i t26 (NW C gl q2 ⟨[(1,v1),(3,v3),(9,v9),(30,t26)],h,x⟩ K)
 (pK (oBin .eql v9 (AI 4)) fun t27=>
 z0i t27 (NW C gl q2 ⟨[(1,v1),(3,v3),(9,v9),(30,t27)],h,x⟩ K)
 (pK (oBin .eql v9 (AI 5)) fun t28=>
 z0i t28 (NW C gl q2 ⟨[(1,v1),(3,v3),(9,v9),(30,t28)],h,x⟩ K)
 (pK (oBin .eql v9 (AI 6)) fun t29=>
 NW C gl q2 ⟨[(1,v1),(3,v3),(9,v9),(30,t29)],h,x⟩ K)))))
theorem zlc {C gl q2 e h x K}:NW C gl (zdr q2) ⟨e,h,x⟩ K=z0Q C gl q2 (aget e 1) (aget e 3) (aget e 9) (aget e 10) h x K:=by kernel_rfl
theorem zpc {C gl e h x K}:NW C gl z6C ⟨e,h,x⟩ K=z0Q C gl z9K (aget e 1) (aget e 3) (aget e 9) (aget e 10) h x K:=zlc
def z6D:ACode:=.pr [1,3] (.seq (.seq (rg [lD 65 (some 6) 1,
lD 66 (some 6) 3,
uO 67 (.eqa [0,0,0,2,2,2] true 65 66)] [67])
(.cond 67 (.seq (rg [mV 2 (cI 3)] [2])
.ret)
.skip))
(.seq (rg [mV 2 (cI 0)] [2])
.ret))
def z3h (C:Hd) (gl:GL) (v1 v3:AV) (h:Heap) (x:Esc) (K:KT):Prop:=
 pK (z0e (some 6) v1 h) fun t1=>
 pK (z0e (some 6) v3 h) fun t2=>
 pK (oEqa [0,0,0,2,2,2] true t1 t2) fun t3=>
 z0i t3 (K .ret ⟨[(2,(AI 3))],h,x⟩)
 (K .ret ⟨[(2,(AI 0))],h,x⟩)
theorem zpd {C gl e h x K}:NW C gl z6D ⟨e,h,x⟩ K=z3h C gl (aget e 1) (aget e 3) h x K:=by kernel_rfl
def zvR (q3 q4:ACode):ACode:=(.seq (rg [uO 1 (.box 0),
mV 2 (cI 0)] [1])
(.seq (rg [fA 5 0 none 1,
lD 6 none 5,
uO 7 (.build [.p (.int .i64 0),.p (.int .i64 0),.p (.int .i64 0),.p (.str []),.p (.str []),.p (.str [])] [(0,1,6)]),
uO 3 (.alloc [.p (.int .i64 0),.p (.int .i64 0),.p (.int .i64 0),.p (.str []),.p (.str []),.p (.str [])]),
wO (.store (some 6) 3 7)] [1,3])
(.seq (.seq (rg [fA 8 0 none 1,
lD 9 none 8] [1,3,9])
(.block 0 (.seq (.seq (rg [bN 11 .eql 9 (cI 1),
mV 10 11] [1,3,9,10])
(.cond 10 .skip
(.seq (rg [bN 12 .eql 9 (cI 2),
mV 10 12] [1,3,9,10])
(.cond 10 .skip
(rg [bN 13 .eql 9 (cI 10),
mV 10 13] [1,3,9,10])))))
q3)))
q4)))
def zlZ:AFun:=⟨1,[.t 2],zvR z6C z6D,false,false⟩
def z2l (C:Hd) (gl:GL) (q3 q4:ACode) (v0:AV) (h:Heap) (x:Esc) (K:KT):Prop:=
 wK (oBox v0 h) fun t1 h2 y3=>
 pK (z0d 0 none t1) fun t4=>
 pK (z0e none t4 h2) fun t5=>
 pK (z0x [.p (.int .i64 0),.p (.int .i64 0),.p (.int .i64 0),.p (.str []),.p (.str []),.p (.str [])] [(0,1,t5)]) fun t6=>
 alK [.p (.int .i64 0),.p (.int .i64 0),.p (.int .i64 0),.p (.str []),.p (.str []),.p (.str [])] h2 fun t7 h8 y9=>
 wK (z0k (some 6) t7 t6 h8) fun t10 h11 y12=>
 pK (z0d 0 none t1) fun t13=>
 pK (z0e none t13 h11) fun t14=>
 pK (oBin .eql t14 (AI 1)) fun t15=>
 z0i t15 (NW C gl q3 ⟨[(1,t1),(3,t7),(9,t14),(10,t15)],h11,(y12++(y9++(y3++x)))⟩ (z0s 0 (seqN C gl q4 K)))
 (pK (oBin .eql t14 (AI 2)) fun t16=>
 z0i t16 (NW C gl q3 ⟨[(1,t1),(3,t7),(9,t14),(10,t16)],h11,(y12++(y9++(y3++x)))⟩ (z0s 0 (seqN C gl q4 K)))
 (pK (oBin .eql t14 (AI 10)) fun t17=>
 NW C gl q3 ⟨[(1,t1),(3,t7),(9,t14),(10,t17)],h11,(y12++(y9++(y3++x)))⟩ (z0s 0 (seqN C gl q4 K))))
theorem E_q03d {C gl q3 q4 v0 h x K}:NW C gl (zvR q3 q4) ⟨enter [v0],h,x⟩ K=z2l C gl q3 q4 v0 h x K:=by kernel_rfl
theorem e_q03d {C gl v0 h x K}:NW C gl zlZ.body ⟨enter [v0],h,x⟩ K=z2l C gl z6C z6D v0 h x K:=E_q03d
def z34:ACode:=.pr [5,6,7,11,12,13] (.seq (rg [bN 14 .lss 13 12] [5,6,7,11,12,13,14])
(.seq (.cond 14 .skip
(.exit 0))
(.seq (.block 1 (.seq (rg [iA 15 (some 5) 11 13,
lD 16 (some 5) 15,
uO 9 (.alloc [.p (.str []),.p (.str []),.p (.str []),.p (.int .i64 0),.p (.int .i64 0)]),
wO (.store (some 5) 9 16)] [5,6,7,9,11,12,13])
(.seq (rg [fA 17 0 none 9,
lD 18 none 17,
cL 19 z2n [5,18]] [5,6,7,9,11,12,13])
(.seq (rg [fA 20 1 none 9,
lD 21 none 20,
cL 22 z2n [6,21]] [5,6,7,9,11,12,13])
(rg [fA 23 2 none 9,
lD 24 none 23,
cL 25 z2n [7,24]] [5,6,7,11,12,13])))))
(rg [bN 26 .add 13 (cI 1),
mV 13 26] [5,6,7,11,12,13]))))
def zew (C:Hd) (gl:GL) (v5 v6 v7 v11 v12 v13:AV) (h:Heap) (x:Esc) (K:KT):Prop:=
 pK (oBin .lss v13 v12) fun t1=>
 z0i t1 (pK (z0r (some 5) v11 v13 h) fun t2=>
 pK (z0e (some 5) t2 h) fun t3=>
 alK [.p (.str []),.p (.str []),.p (.str []),.p (.int .i64 0),.p (.int .i64 0)] h fun t4 h5 y6=>
 wK (z0k (some 5) t4 t3 h5) fun t7 h8 y9=>
 pK (z0d 0 none t4) fun t10=>
 pK (z0e none t10 h8) fun t11=>
 C z2n [v5,t11] h8 fun t12 h13 y14=>
 pK (z0d 1 none t4) fun t15=>
 pK (z0e none t15 h13) fun t16=>
 C z2n [v6,t16] h13 fun t17 h18 y19=>
 pK (z0d 2 none t4) fun t20=>
 pK (z0e none t20 h18) fun t21=>
 C z2n [v7,t21] h18 fun t22 h23 y24=>
 pK (oBin .add v13 (AI 1)) fun t25=>
 K .normal ⟨[(5,v5),(6,v6),(7,v7),(11,v11),(12,v12),(13,t25)],h23,(y24++(y19++(y14++(y9++(y6++x)))))⟩)
 (K (.exit 0) ⟨[(5,v5),(6,v6),(7,v7),(11,v11),(12,v12),(13,v13),(14,t1)],h,x⟩)
theorem zoY {C gl e h x K}:NW C gl z34 ⟨e,h,x⟩ K=zew C gl (aget e 5) (aget e 6) (aget e 7) (aget e 11) (aget e 12) (aget e 13) h x K:=by kernel_rfl
theorem zqO {C gl e h x K}:NW C gl (.loop (.scope z34)) ⟨e,h,x⟩ K=z0Z C gl (.scope z34) K [(5,aget e 5),(6,aget e 6),(7,aget e 7),(11,aget e 11),(12,aget e 12),(13,aget e 13)] h x:=z1F
def z6B:ACode:=.pr [5,6,7] (.seq (rg [cL 27 z4m [5],
cL 28 z4m [6],
cL 29 z4m [7],
mV 2 27,
mV 3 28,
mV 4 29] [2,3,4])
.ret)
def zex (C:Hd) (gl:GL) (v5 v6 v7:AV) (h:Heap) (x:Esc) (K:KT):Prop:=
 C z4m [v5] h fun t1 h2 y3=>
 C z4m [v6] h2 fun t4 h5 y6=>
 C z4m [v7] h5 fun t7 h8 y9=>
 K .ret ⟨[(2,t1),(3,t4),(4,t7)],h8,(y9++(y6++(y3++x)))⟩
theorem zoZ {C gl e h x K}:NW C gl z6B ⟨e,h,x⟩ K=zex C gl (aget e 5) (aget e 6) (aget e 7) h x K:=by kernel_rfl
def zvQ (q1 q2:ACode):ACode:=(.seq (rg [mV 2 (cS []),
mV 3 (cS []),
mV 4 (cS [])] [0])
(.seq (rg [uO 5 (.uns 0 106 [(cI 5)]),
uO 6 (.uns 0 106 [(cI 5)]),
uO 7 (.uns 0 106 [(cI 5)])] [0,5,6,7])
(.seq (.seq (rg [mV 10 0,
cL 11 zbe [10],
lN 12 11,
mV 13 (cI 0)] [5,6,7,11,12,13])
(.block 0 (.loop (.scope q1))))
q2)))
def zlX:AFun:=⟨1,[.t 2,.t 3,.t 4],zvQ z34 z6B,false,false⟩
def zhA (C:Hd) (gl:GL) (q1 q2:ACode) (v0:AV) (h:Heap) (x:Esc) (K:KT):Prop:=
 wK (z1y 0 106 [(AI 5)] h) fun t1 h2 y3=>
 wK (z1y 0 106 [(AI 5)] h2) fun t4 h5 y6=>
 wK (z1y 0 106 [(AI 5)] h5) fun t7 h8 y9=>
 C zbe [v0] h8 fun t10 h11 y12=>
 pK (oLen t10) fun t13=>
 NW C gl (.loop (.scope q1)) ⟨[(5,t1),(6,t4),(7,t7),(11,t10),(12,t13),(13,(AI 0))],h11,(y12++(y9++(y6++(y3++x))))⟩ (z0s 0 (seqN C gl q2 K))
theorem E_q03a {C gl q1 q2 v0 h x K}:NW C gl (zvQ q1 q2) ⟨enter [v0],h,x⟩ K=zhA C gl q1 q2 v0 h x K:=by kernel_rfl
theorem e_q03a {C gl v0 h x K}:NW C gl zlX.body ⟨enter [v0],h,x⟩ K=zhA C gl z34 z6B v0 h x K:=E_q03a
def P_q03f:ACode:=(.seq (rg [uO 1 (.box 0),
mV 2 (cS [])] [1])
(.seq (dr [dT (cL 6 z6j []) [],
dF (fA 7 0 none 1) [1],
dA (lD 8 none 7) [7] false [0] [],
dF (iA 9 none 6 8) [6,8],
dF (lD 10 none 9) [9],
dF (bN 11 .add 10 (cS [32])) [10],
dF (mV 3 11) [11]] [1,3])
(.seq (rg [cL 13 z7W [],
mV 12 13,
eX 14 12 0,
eX 15 12 1,
mV 4 14,
mV 5 15] [1,3,4,5])
(.seq (.block 0 (.seq (rg [lD 17 (some 6) 1,
cL 18 z4l [17],
mV 19 18,
gD 20 19 true (.faddr 4 none 1),
gD 21 19 true (.load none 20),
gD 22 19 true (.bin .neq 21 (cS [])),
uO 23 (.pick 19 22 cF),
mV 16 23] [1,3,4,5,16])
(.cond 16 (.seq (rg [mV 24 3,
fA 25 3 none 1,
lD 26 none 25,
bN 27 .add 24 26,
bN 28 .add 27 (cS [32]),
fA 29 4 none 1,
lD 30 none 29,
bN 31 .add 28 30,
bN 32 .add 31 (cS [32]),
fA 33 5 none 1,
lD 34 none 33,
bN 35 .add 32 34,
mV 2 35] [2])
.ret)
(.seq (rg [lD 37 (some 6) 1,
cL 38 z4l [37],
mV 36 38] [1,3,4,5,36])
(.cond 36 (.seq (rg [mV 39 3,
fA 40 3 none 1,
lD 41 none 40,
bN 42 .add 39 41,
mV 2 42] [2])
.ret)
(.seq (rg [fA 44 0 none 1,
lD 45 none 44,
bN 46 .eql 45 (cI 9),
mV 43 46] [1,3,4,5,43])
(.cond 43 (.seq (rg [mV 47 3,
fA 48 2 none 1,
lD 49 none 48,
uO 50 (.bsl false none 1 (.int .i64 0) [(0,49)]),
cL 51 zaY [50],
bN 52 .add 47 51,
mV 2 52] [2])
.ret)
(.seq (rg [fA 54 0 none 1,
lD 55 none 54,
cL 56 z2O [55,(cI 3),(cI 6)],
mV 57 56,
gD 58 57 true (.faddr 3 none 1),
gD 59 57 true (.load none 58),
gD 60 57 true (.bin .eql 59 (cS [])),
uO 61 (.pick 57 60 cF),
mV 53 61] [1,3,4,5,53])
(.cond 53 (.seq (rg [mV 62 3,
bN 63 .add 62 (cS [45]),
mV 2 63] [2])
.ret)
(.seq (rg [fA 65 0 none 1,
lD 66 none 65,
cL 67 z2O [66,(cI 3),(cI 6)],
mV 64 67] [1,3,4,5,64])
(.cond 64 (.seq (rg [mV 68 3,
fA 69 3 none 1,
lD 70 none 69,
bN 71 .add 68 70,
mV 2 71] [2])
.ret)
.skip)))))))))))
(.seq (rg [mV 72 3,
mV 73 5,
mV 74 4,
fA 75 1 none 1,
lD 76 none 75,
cL 77 z7Z [74,76],
iA 78 none 73 77,
lD 79 none 78,
bN 80 .add 72 79,
mV 2 80] [2])
.ret)))))
def zmb:AFun:=⟨1,[.t 2],P_q03f,false,false⟩
def z7L (C:Hd) (gl:GL) (v0:AV) (h:Heap) (x:Esc) (K:KT):Prop:=
 wK (oBox v0 h) fun t1 h2 y3=>
 z1A C z6j [] h2 fun t4 h5 y6=>
 pK (z0d 0 none t1) fun t7=>
 pK (z0e none t7 h5) fun t8=>
 (pK (z0e none t7 h2) fun v=>(fun u (g1:Heap) (y1:Esc)=>u=t8∧g1=h2∧y1=[]) v h2 [])∧(pK (z0r none t4 t8 h5) fun t9=>
 pK (z0e none t9 h5) fun t10=>
 pK (oBin .add t10 (.p (.str [32]))) fun t11=>
 C z7W [] h5 fun t12 h13 y14=>
 pK (oExt t12 0) fun t15=>
 pK (oExt t12 1) fun t16=>
 pK (z0e (some 6) t1 h13) fun t17=>
 C z4l [t17] h13 fun t18 h19 y20=>
 gP t18 true (z0d 4 none t1) h19 fun t21 h22 y23=>
 gP t18 true (z0e none t21 h22) h22 fun t24 h25 y26=>
 gP t18 true (oBin .neq t24 (.p (.str []))) h25 fun t27 h28 y29=>
 pK (z09 t18 t27 (AB false)) fun t30=>
 z0i t30 (pK (z0d 3 none t1) fun t31=>
 pK (z0e none t31 h28) fun t32=>
 pK (oBin .add t11 t32) fun t33=>
 pK (oBin .add t33 (.p (.str [32]))) fun t34=>
 pK (z0d 4 none t1) fun t35=>
 pK (z0e none t35 h28) fun t36=>
 pK (oBin .add t34 t36) fun t37=>
 pK (oBin .add t37 (.p (.str [32]))) fun t38=>
 pK (z0d 5 none t1) fun t39=>
 pK (z0e none t39 h28) fun t40=>
 pK (oBin .add t38 t40) fun t41=>
 K .ret ⟨[(2,t41)],h28,(y29++(y26++(y23++(y20++(y14++(y6++(y3++x)))))))⟩)
 (pK (z0e (some 6) t1 h28) fun t42=>
 C z4l [t42] h28 fun t43 h44 y45=>
 z0i t43 (pK (z0d 3 none t1) fun t46=>
 pK (z0e none t46 h44) fun t47=>
 pK (oBin .add t11 t47) fun t48=>
 K .ret ⟨[(2,t48)],h44,(y45++(y29++(y26++(y23++(y20++(y14++(y6++(y3++x))))))))⟩)
 (pK (z0d 0 none t1) fun t49=>
 pK (z0e none t49 h44) fun t50=>
 pK (oBin .eql t50 (AI 9)) fun t51=>
 z0i t51 (pK (z0d 2 none t1) fun t52=>
 pK (z0e none t52 h44) fun t53=>
 wK (oBsl false none 1 (.int .i64 0) [(0,t53)] h44) fun t54 h55 y56=>
 C zaY [t54] h55 fun t57 h58 y59=>
 pK (oBin .add t11 t57) fun t60=>
 K .ret ⟨[(2,t60)],h58,(y59++(y56++(y45++(y29++(y26++(y23++(y20++(y14++(y6++(y3++x))))))))))⟩)
 (pK (z0d 0 none t1) fun t61=>
 pK (z0e none t61 h44) fun t62=>
 C z2O [t62,(AI 3),(AI 6)] h44 fun t63 h64 y65=>
 gP t63 true (z0d 3 none t1) h64 fun t66 h67 y68=>
 gP t63 true (z0e none t66 h67) h67 fun t69 h70 y71=>
 gP t63 true (oBin .eql t69 (.p (.str []))) h70 fun t72 h73 y74=>
 pK (z09 t63 t72 (AB false)) fun t75=>
 z0i t75 (pK (oBin .add t11 (.p (.str [45]))) fun t76=>
 K .ret ⟨[(2,t76)],h73,(y74++(y71++(y68++(y65++(y45++(y29++(y26++(y23++(y20++(y14++(y6++(y3++x))))))))))))⟩)
 (pK (z0d 0 none t1) fun t77=>
 pK (z0e none t77 h73) fun t78=>
 C z2O [t78,(AI 3),(AI 6)] h73 fun t79 h80 y81=>
 z0i t79 (pK (z0d 3 none t1) fun t82=>
 pK (z0e none t82 h80) fun t83=>
 pK (oBin .add t11 t83) fun t84=>
 K .ret ⟨[(2,t84)],h80,(y81++(y74++(y71++(y68++(y65++(y45++(y29++(y26++(y23++(y20++(y14++(y6++(y3++x)))))))))))))⟩)
 (pK (z0d 1 none t1) fun t85=>
 pK (z0e none t85 h80) fun t86=>
 C z7Z [t15,t86] h80 fun t87 h88 y89=>
 pK (z0r none t16 t87 h88) fun t90=>
 pK (z0e none t90 h88) fun t91=>
 pK (oBin .add t11 t91) fun t92=>
 K .ret ⟨[(2,t92)],h88,(y89++(y81++(y74++(y71++(y68++(y65++(y45++(y29++(y26++(y23++(y20++(y14++(y6++(y3++x))))))))))))))⟩))))))
theorem e_q03f {C gl v0 h x K}:NW C gl zmb.body ⟨enter [v0],h,x⟩ K=z7L C gl v0 h x K:=by kernel_rfl
def z3p:ACode:=.pr [1,6,7,15,16,17] (.seq (rg [bN 18 .lss 17 16] [1,6,7,15,16,17,18])
(.seq (.cond 18 .skip
(.exit 0))
(.seq (.block 1 (.seq (rg [mV 19 17,
iA 20 none 15 17,
lD 21 none 20,
mV 8 19,
mV 9 21] [1,6,7,8,9,15,16,17])
(.seq (rg [mV 22 7,
uO 23 (.un .not 22),
mV 24 23,
gD 25 24 true (.mv 8),
gD 26 24 true (.mv 6),
gD 27 24 true (.len 26),
gD 28 24 true (.bin .sub 27 (cI 1)),
gD 29 24 true (.bin .eql 25 28),
uO 30 (.pick 24 29 cF),
mV 31 30,
gD 32 31 false (.mv 1),
gD 33 31 false (.mv 9),
gD 34 31 false (.callv 32 [33]),
gD 35 31 false (.un .not 34),
uO 36 (.pick 31 cT 35)] [1,6,7,8,15,16,17,36])
(.cond 36 (.seq (rg [mV 37 8,
mV 4 37,
mV 5 cF] [4,5])
.ret)
.skip))))
(rg [bN 38 .add 17 (cI 1),
mV 17 38] [1,6,7,15,16,17]))))
def zdK (C:Hd) (gl:GL) (v1 v6 v7 v15 v16 v17:AV) (h:Heap) (x:Esc) (K:KT):Prop:=
 pK (oBin .lss v17 v16) fun t1=>
 z0i t1 (pK (z0r none v15 v17 h) fun t2=>
 pK (z0e none t2 h) fun t3=>
 pK (oUn .not v7) fun t4=>
 gM t4 true v17 h fun t5 h6 y7=>
 gM t4 true v6 h6 fun t8 h9 y10=>
 gP t4 true (oLen t8) h9 fun t11 h12 y13=>
 gP t4 true (oBin .sub t11 (AI 1)) h12 fun t14 h15 y16=>
 gP t4 true (oBin .eql t5 t14) h15 fun t17 h18 y19=>
 pK (z09 t4 t17 (AB false)) fun t20=>
 gM t20 false v1 h18 fun t21 h22 y23=>
 gM t20 false t3 h22 fun t24 h25 y26=>
 gV t20 false h25 (z7J C t21 [t24] h25) fun t27 h28 y29=>
 gP t20 false (oUn .not t27) h28 fun t30 h31 y32=>
 pK (z09 t20 (AB true) t30) fun t33=>
 z0i t33 (K .ret ⟨[(4,v17),(5,(AB false))],h31,(y32++(y29++(y26++(y23++(y19++(y16++(y13++(y10++(y7++x)))))))))⟩)
 (pK (oBin .add v17 (AI 1)) fun t34=>
 K .normal ⟨[(1,v1),(6,v6),(7,v7),(15,v15),(16,v16),(17,t34)],h31,(y32++(y29++(y26++(y23++(y19++(y16++(y13++(y10++(y7++x)))))))))⟩))
 (K (.exit 0) ⟨[(1,v1),(6,v6),(7,v7),(15,v15),(16,v16),(17,v17),(18,t1)],h,x⟩)
theorem zor {C gl e h x K}:NW C gl z3p ⟨e,h,x⟩ K=zdK C gl (aget e 1) (aget e 6) (aget e 7) (aget e 15) (aget e 16) (aget e 17) h x K:=by kernel_rfl
theorem zq5 {C gl e h x K}:NW C gl (.loop z3p) ⟨e,h,x⟩ K=z0Z C gl z3p K [(1,aget e 1),(6,aget e 6),(7,aget e 7),(15,aget e 15),(16,aget e 16),(17,aget e 17)] h x:=z0C
def z6t:ACode:=.pr [] (.seq (rg [mV 4 (cI 0),
mV 5 cT] [4,5])
.ret)
def z8M (C:Hd) (gl:GL) (h:Heap) (x:Esc) (K:KT):Prop:=
 K .ret ⟨[(4,(AI 0)),(5,(AB true))],h,x⟩
theorem z9i {C gl e h x K}:NW C gl z6t ⟨e,h,x⟩ K=z8M C gl h x K:=by kernel_rfl
def zv8 (q1 q2:ACode):ACode:=(.seq (rg [mV 4 (cI 0),
mV 5 cF] [0,1])
(.seq (rg [mV 11 0,
cL 12 zaI [11],
mV 10 12,
eX 13 10 0,
eX 14 10 1,
mV 6 13,
mV 7 14] [1,6,7])
(.seq (.seq (rg [mV 15 6,
lN 16 15,
mV 17 (cI 0)] [1,6,7,15,16,17])
(.block 0 (.loop q1)))
q2)))
def zlu:AFun:=⟨2,[.t 4,.t 5],zv8 z3p z6t,false,false⟩
def zho (C:Hd) (gl:GL) (q1 q2:ACode) (v0 v1:AV) (h:Heap) (x:Esc) (K:KT):Prop:=
 C zaI [v0] h fun t1 h2 y3=>
 pK (oExt t1 0) fun t4=>
 pK (oExt t1 1) fun t5=>
 pK (oLen t4) fun t6=>
 NW C gl (.loop q1) ⟨[(1,v1),(6,t4),(7,t5),(15,t4),(16,t6),(17,(AI 0))],h2,(y3++x)⟩ (z0s 0 (seqN C gl q2 K))
theorem E_q001 {C gl q1 q2 v0 v1 h x K}:NW C gl (zv8 q1 q2) ⟨enter [v0,v1],h,x⟩ K=zho C gl q1 q2 v0 v1 h x K:=by kernel_rfl
theorem e_q001 {C gl v0 v1 h x K}:NW C gl zlu.body ⟨enter [v0,v1],h,x⟩ K=zho C gl z3p z6t v0 v1 h x K:=E_q001
def P_q065:ACode:=(.seq (rg [mV 3 cF] [0,1])
(.seq (rg [mV 7 0,
cL 8 zbv [7],
mV 6 8,
eX 9 6 0,
eX 10 6 1,
uO 4 (.alloc [.p (.int .i64 0),.p (.int .i64 0),.p (.int .i64 0),.p (.str []),.p (.str []),.p (.str [])]),
wO (.store (some 6) 4 9),
mV 5 10] [1,4,5])
(.seq (rg [lD 11 none 1,
lD 12 (some 6) 4,
uO 13 (.bsl false (some 6) 1 (.agg [.int .i64 0,.int .i64 0,.int .i64 0,.str [],.str [],.str []]) [(0,12)]),
uO 14 (.app (some 6) 11 13),
wO (.store none 1 14)] [5])
(.seq (rg [mV 15 5,
mV 3 15] [3])
.ret))))
def zm9:AFun:=⟨2,[.t 3],P_q065,false,false⟩
def znZ (C:Hd) (gl:GL) (v0 v1:AV) (h:Heap) (x:Esc) (K:KT):Prop:=
 C zbv [v0] h fun t1 h2 y3=>
 pK (oExt t1 0) fun t4=>
 pK (oExt t1 1) fun t5=>
 alK [.p (.int .i64 0),.p (.int .i64 0),.p (.int .i64 0),.p (.str []),.p (.str []),.p (.str [])] h2 fun t6 h7 y8=>
 wK (z0k (some 6) t6 t4 h7) fun t9 h10 y11=>
 pK (z0e none v1 h10) fun t12=>
 pK (z0e (some 6) t6 h10) fun t13=>
 wK (oBsl false (some 6) 1 (.agg [.int .i64 0,.int .i64 0,.int .i64 0,.str [],.str [],.str []]) [(0,t13)] h10) fun t14 h15 y16=>
 wK (oApp (some 6) t12 t14 h15) fun t17 h18 y19=>
 wK (z0k none v1 t17 h18) fun t20 h21 y22=>
 K .ret ⟨[(3,t5)],h21,(y22++(y19++(y16++(y11++(y8++(y3++x))))))⟩
theorem e_q065 {C gl v0 v1 h x K}:NW C gl zm9.body ⟨enter [v0,v1],h,x⟩ K=znZ C gl v0 v1 h x K:=by kernel_rfl
def z28:ACode:=.pr [2,4,5,64,65,66] (.seq (rg [bN 67 .lss 66 65] [2,4,5,64,65,66,67])
(.seq (.cond 67 .skip
(.exit 1))
(.seq (.block 2 (.seq (rg [iA 68 none 64 66,
lD 69 none 68,
mV 7 69] [2,4,5,7,64,65,66])
(.seq (dr [dF (mV 70 7) [7],
dT (cL 71 z8f [70]) [70],
dF (mV 72 4) [4],
dA (iA 73 none 72 (cI 1)) [72] false [1] [],
dA (lD 74 none 73) [73] false [1] [],
dF (bN 75 .eql 71 74) [71,74]] [2,4,5,7,64,65,66,75])
(.cond 75 (.seq (rg [mV 76 7,
fA 77 1 none 5,
wO (.store none 77 76)] [2,5])
(.seq (rg [lD 78 (some 6) 5,
wO (.store (some 6) 2 78),
mV 3 cT] [2,3])
.ret))
.skip))))
(rg [bN 79 .add 66 (cI 1),
mV 66 79] [2,4,5,64,65,66]))))
def zeX (C:Hd) (gl:GL) (v2 v4 v5 v64 v65 v66:AV) (h:Heap) (x:Esc) (K:KT):Prop:=
 pK (oBin .lss v66 v65) fun t1=>
 z0i t1 (pK (z0r none v64 v66 h) fun t2=>
 pK (z0e none t2 h) fun t3=>
 z1A C z8f [t3] h fun t4 h5 y6=>
 pK (z0r none v4 (AI 1) h5) fun t7=>
 (pK (z0r none v4 (AI 1) h) fun v=>(fun u (g1:Heap) (y1:Esc)=>u=t7∧g1=h∧y1=[]) v h [])∧(pK (z0e none t7 h5) fun t8=>
 (pK (z0e none t7 h) fun v=>(fun u (g1:Heap) (y1:Esc)=>u=t8∧g1=h∧y1=[]) v h [])∧(pK (oBin .eql t4 t8) fun t9=>
 z0i t9 (pK (z0d 1 none v5) fun t10=>
 wK (z0k none t10 t3 h5) fun t11 h12 y13=>
 pK (z0e (some 6) v5 h12) fun t14=>
 wK (z0k (some 6) v2 t14 h12) fun t15 h16 y17=>
 K .ret ⟨[(2,v2),(3,(AB true))],h16,(y17++(y13++(y6++x)))⟩)
 (pK (oBin .add v66 (AI 1)) fun t18=>
 K .normal ⟨[(2,v2),(4,v4),(5,v5),(64,v64),(65,v65),(66,t18)],h5,(y6++x)⟩))))
 (K (.exit 1) ⟨[(2,v2),(4,v4),(5,v5),(64,v64),(65,v65),(66,v66),(67,t1)],h,x⟩)
theorem zpE {C gl e h x K}:NW C gl z28 ⟨e,h,x⟩ K=zeX C gl (aget e 2) (aget e 4) (aget e 5) (aget e 64) (aget e 65) (aget e 66) h x K:=by kernel_rfl
theorem zrd {C gl e h x K}:NW C gl (.loop z28) ⟨e,h,x⟩ K=z0Z C gl z28 K [(2,aget e 2),(4,aget e 4),(5,aget e 5),(64,aget e 64),(65,aget e 65),(66,aget e 66)] h x:=z0C
def z4K:ACode:=.pr [2] (.seq (rg [uO 80 (.build [.p (.int .i64 0),.p (.int .i64 0),.p (.int .i64 0),.p (.str []),.p (.str []),.p (.str [])] []),
wO (.store (some 6) 2 80),
mV 3 cF] [2,3])
.ret)
def z6d (C:Hd) (gl:GL) (v2:AV) (h:Heap) (x:Esc) (K:KT):Prop:=
 pK (z0x [.p (.int .i64 0),.p (.int .i64 0),.p (.int .i64 0),.p (.str []),.p (.str []),.p (.str [])] []) fun t1=>
 wK (z0k (some 6) v2 t1 h) fun t2 h3 y4=>
 K .ret ⟨[(2,v2),(3,(AB false))],h3,(y4++x)⟩
theorem zpF {C gl e h x K}:NW C gl z4K ⟨e,h,x⟩ K=z6d C gl (aget e 2) h x K:=by kernel_rfl
def z4L:ACode:=.pr [2,5] (.seq (rg [lD 110 (some 6) 5,
wO (.store (some 6) 2 110),
mV 3 cT] [2,3])
.ret)
def z3j (C:Hd) (gl:GL) (v2 v5:AV) (h:Heap) (x:Esc) (K:KT):Prop:=
 pK (z0e (some 6) v5 h) fun t1=>
 wK (z0k (some 6) v2 t1 h) fun t2 h3 y4=>
 K .ret ⟨[(2,v2),(3,(AB true))],h3,(y4++x)⟩
theorem zpG {C gl e h x K}:NW C gl z4L ⟨e,h,x⟩ K=z3j C gl (aget e 2) (aget e 5) h x K:=by kernel_rfl
def zwi (q1 q2 q3:ACode):ACode:=(.seq (rg [uO 2 (.alloc [.p (.int .i64 0),.p (.int .i64 0),.p (.int .i64 0),.p (.str []),.p (.str []),.p (.str [])]),
mV 3 cF] [0,2])
(.seq (rg [mV 10 0,
cL 11 z57 [10,(cS [32])],
mV 4 11] [2,4])
(.seq (.seq (rg [mV 12 4,
cL 13 z7Y [12,(cS [])]] [2,4,13])
(.cond 13 (.seq (rg [uO 14 (.build [.p (.int .i64 0),.p (.int .i64 0),.p (.int .i64 0),.p (.str []),.p (.str []),.p (.str [])] []),
wO (.store (some 6) 2 14),
mV 3 cF] [2,3])
.ret)
.skip))
(.seq (rg [mV 15 4,
iA 16 none 15 (cI 0),
lD 17 none 16,
cL 18 zbt [17],
uO 19 (.build [.p (.int .i64 0),.p (.int .i64 0),.p (.int .i64 0),.p (.str []),.p (.str []),.p (.str [])] [(0,1,18)]),
uO 5 (.alloc [.p (.int .i64 0),.p (.int .i64 0),.p (.int .i64 0),.p (.str []),.p (.str []),.p (.str [])]),
wO (.store (some 6) 5 19)] [2,4,5])
(.seq (.seq (rg [fA 20 0 none 5,
lD 21 none 20,
cL 22 z2P [21],
mV 23 22,
gD 24 23 true (.mv 4),
gD 25 23 true (.len 24),
gD 26 23 true (.bin .eql 25 (cI 4)),
uO 27 (.pick 23 26 cF)] [2,4,5,27])
(.cond 27 (.seq (dr [dF (mV 28 4) [4],
dF (iA 29 none 28 (cI 1)) [28],
dF (lD 30 none 29) [29],
dF (mV 31 4) [4],
dF (iA 32 none 31 (cI 2)) [31],
dF (lD 33 none 32) [32],
dF (mV 34 4) [4],
dF (iA 35 none 34 (cI 3)) [34],
dF (lD 36 none 35) [35],
dF (fA 37 3 none 5) [5],
dA (wO (.store none 37 30)) [37,30] true [] [4,5,7,8],
dF (fA 38 4 none 5) [5],
dA (wO (.store none 38 33)) [38,33] true [] [7,8],
dF (fA 39 5 none 5) [5],
dT (wO (.store none 39 36)) [39,36]] [2,5])
(.seq (rg [lD 40 (some 6) 5,
wO (.store (some 6) 2 40),
mV 3 cT] [2,3])
.ret))
.skip))
(.seq (.seq (rg [fA 41 0 none 5,
lD 42 none 41,
bN 43 .eql 42 (cI 0),
mV 44 43,
gD 45 44 false (.mv 4),
gD 46 44 false (.len 45),
gD 47 44 false (.bin .neq 46 (cI 2)),
uO 48 (.pick 44 cT 47)] [2,4,5,48])
(.cond 48 (.seq (rg [uO 49 (.build [.p (.int .i64 0),.p (.int .i64 0),.p (.int .i64 0),.p (.str []),.p (.str []),.p (.str [])] []),
wO (.store (some 6) 2 49),
mV 3 cF] [2,3])
.ret)
.skip))
(.seq (.block 0 (.seq (rg [fA 51 0 none 5,
lD 52 none 51,
bN 53 .eql 52 (cI 1),
mV 54 53,
gD 55 54 false (.faddr 0 none 5),
gD 56 54 false (.load none 55),
gD 57 54 false (.bin .eql 56 (cI 2)),
uO 58 (.pick 54 cT 57),
mV 59 58,
gD 60 59 false (.faddr 0 none 5),
gD 61 59 false (.load none 60),
gD 62 59 false (.bin .eql 61 (cI 10)),
uO 63 (.pick 59 cT 62),
mV 50 63] [2,4,5,50])
(.cond 50 (.seq (.seq (rg [uO 64 (.bsl false none 4 (.int .i64 0) [(0,(cI 0)),(1,(cI 1)),(2,(cI 6)),(3,(cI 13))]),
lN 65 64,
mV 66 (cI 0)] [2,4,5,64,65,66])
(.block 1 (.loop q1)))
q2)
(.seq (rg [fA 82 0 none 5,
lD 83 none 82,
bN 84 .eql 83 (cI 9),
mV 81 84] [2,4,5,81])
(.cond 81 (.seq (rg [mV 86 4,
iA 87 none 86 (cI 1),
lD 88 none 87,
cL 89 zaJ [88,(cI 15)],
mV 85 89,
eX 90 85 0,
eX 91 85 1,
mV 8 90,
mV 9 91] [2,5,8,9])
(.seq (rg [mV 92 8,
fA 93 2 none 5,
wO (.store none 93 92)] [2,5,9])
(.seq (rg [lD 94 (some 6) 5,
mV 95 9,
wO (.store (some 6) 2 94),
mV 3 95] [2,3])
.ret)))
(.seq (rg [fA 97 0 none 5,
lD 98 none 97,
cL 99 z2P [98],
mV 100 99,
gD 101 100 false (.mv 4),
gD 102 100 false (.iaddr none 101 (cI 1)),
gD 103 100 false (.load none 102),
gD 104 100 false (.bin .neq 103 (cS [45])),
uO 105 (.pick 100 cT 104),
mV 96 105] [2,4,5,96])
(.cond 96 (rg [mV 106 4,
iA 107 none 106 (cI 1),
lD 108 none 107,
fA 109 3 none 5,
wO (.store none 109 108)] [2,5])
.skip)))))))
q3)))))))
def zmH:AFun:=⟨1,[.cell 2 (some 6),.t 3],zwi z28 z4K z4L,false,false⟩
def z2w (C:Hd) (gl:GL) (q1 q2 q3:ACode) (v0:AV) (h:Heap) (x:Esc) (K:KT):Prop:=
 alK [.p (.int .i64 0),.p (.int .i64 0),.p (.int .i64 0),.p (.str []),.p (.str []),.p (.str [])] h fun t1 h2 y3=>
 C z57 [v0,(.p (.str [32]))] h2 fun t4 h5 y6=>
 C z7Y [t4,(.p (.str []))] h5 fun t7 h8 y9=>
 z0i t7 (pK (z0x [.p (.int .i64 0),.p (.int .i64 0),.p (.int .i64 0),.p (.str []),.p (.str []),.p (.str [])] []) fun t10=>
 wK (z0k (some 6) t1 t10 h8) fun t11 h12 y13=>
 K .ret ⟨[(2,t1),(3,(AB false))],h12,(y13++(y9++(y6++(y3++x))))⟩)
 (pK (z0r none t4 (AI 0) h8) fun t14=>
 pK (z0e none t14 h8) fun t15=>
 C zbt [t15] h8 fun t16 h17 y18=>
 pK (z0x [.p (.int .i64 0),.p (.int .i64 0),.p (.int .i64 0),.p (.str []),.p (.str []),.p (.str [])] [(0,1,t16)]) fun t19=>
 alK [.p (.int .i64 0),.p (.int .i64 0),.p (.int .i64 0),.p (.str []),.p (.str []),.p (.str [])] h17 fun t20 h21 y22=>
 wK (z0k (some 6) t20 t19 h21) fun t23 h24 y25=>
 pK (z0d 0 none t20) fun t26=>
 pK (z0e none t26 h24) fun t27=>
 C z2P [t27] h24 fun t28 h29 y30=>
 gM t28 true t4 h29 fun t31 h32 y33=>
 gP t28 true (oLen t31) h32 fun t34 h35 y36=>
 gP t28 true (oBin .eql t34 (AI 4)) h35 fun t37 h38 y39=>
 pK (z09 t28 t37 (AB false)) fun t40=>
 z0i t40 (pK (z0r none t4 (AI 1) h38) fun t41=>
 pK (z0e none t41 h38) fun t42=>
 pK (z0r none t4 (AI 2) h38) fun t43=>
 pK (z0e none t43 h38) fun t44=>
 pK (z0r none t4 (AI 3) h38) fun t45=>
 pK (z0e none t45 h38) fun t46=>
 pK (z0d 3 none t20) fun t47=>
 wK (z0k none t47 t42 h38) fun t48 h49 y50=>
 (pK (z0r none t4 (AI 2) h49) fun v=>(fun u (g1:Heap) (y1:Esc)=>u=t43∧g1=h49∧y1=[]) v h49 [])∧((pK (z0e none t43 h49) fun v=>(fun u (g1:Heap) (y1:Esc)=>u=t44∧g1=h49∧y1=[]) v h49 [])∧((pK (z0r none t4 (AI 3) h49) fun v=>(fun u (g1:Heap) (y1:Esc)=>u=t45∧g1=h49∧y1=[]) v h49 [])∧((pK (z0e none t45 h49) fun v=>(fun u (g1:Heap) (y1:Esc)=>u=t46∧g1=h49∧y1=[]) v h49 [])∧(pK (z0d 4 none t20) fun t51=>
 wK (z0k none t51 t44 h49) fun t52 h53 y54=>
 (pK (z0r none t4 (AI 3) h53) fun v=>(fun u (g1:Heap) (y1:Esc)=>u=t45∧g1=h53∧y1=[]) v h53 [])∧((pK (z0e none t45 h53) fun v=>(fun u (g1:Heap) (y1:Esc)=>u=t46∧g1=h53∧y1=[]) v h53 [])∧(pK (z0d 5 none t20) fun t55=>
 wK (z0k none t55 t46 h53) fun t56 h57 y58=>
 pK (z0e (some 6) t20 h57) fun t59=>
 wK (z0k (some 6) t1 t59 h57) fun t60 h61 y62=>
 K .ret ⟨[(2,t1),(3,(AB true))],h61,(y62++(y58++(y54++(y50++(y39++(y36++(y33++(y30++(y25++(y22++(y18++(y9++(y6++(y3++x))))))))))))))⟩)))))))
 (pK (z0d 0 none t20) fun t63=>
 pK (z0e none t63 h38) fun t64=>
 pK (oBin .eql t64 (AI 0)) fun t65=>
 gM t65 false t4 h38 fun t66 h67 y68=>
 gP t65 false (oLen t66) h67 fun t69 h70 y71=>
 gP t65 false (oBin .neq t69 (AI 2)) h70 fun t72 h73 y74=>
 pK (z09 t65 (AB true) t72) fun t75=>
 z0i t75 (pK (z0x [.p (.int .i64 0),.p (.int .i64 0),.p (.int .i64 0),.p (.str []),.p (.str []),.p (.str [])] []) fun t76=>
 wK (z0k (some 6) t1 t76 h73) fun t77 h78 y79=>
 K .ret ⟨[(2,t1),(3,(AB false))],h78,(y79++(y74++(y71++(y68++(y39++(y36++(y33++(y30++(y25++(y22++(y18++(y9++(y6++(y3++x))))))))))))))⟩)
 (pK (z0d 0 none t20) fun t80=>
 pK (z0e none t80 h73) fun t81=>
 pK (oBin .eql t81 (AI 1)) fun t82=>
 gP t82 false (z0d 0 none t20) h73 fun t83 h84 y85=>
 gP t82 false (z0e none t83 h84) h84 fun t86 h87 y88=>
 gP t82 false (oBin .eql t86 (AI 2)) h87 fun t89 h90 y91=>
 pK (z09 t82 (AB true) t89) fun t92=>
 gP t92 false (z0d 0 none t20) h90 fun t93 h94 y95=>
 gP t92 false (z0e none t93 h94) h94 fun t96 h97 y98=>
 gP t92 false (oBin .eql t96 (AI 10)) h97 fun t99 h100 y101=>
 pK (z09 t92 (AB true) t99) fun t102=>
 z0i t102 (wK (oBsl false none 4 (.int .i64 0) [(0,(AI 0)),(1,(AI 1)),(2,(AI 6)),(3,(AI 13))] h100) fun t103 h104 y105=>
 pK (oLen t103) fun t106=>
 NW C gl (.loop q1) ⟨[(2,t1),(4,t4),(5,t20),(64,t103),(65,t106),(66,(AI 0))],h104,(y105++(y101++(y98++(y95++(y91++(y88++(y85++(y74++(y71++(y68++(y39++(y36++(y33++(y30++(y25++(y22++(y18++(y9++(y6++(y3++x))))))))))))))))))))⟩ (z0s 1 (seqN C gl q2 (z0s 0 (seqN C gl q3 K)))))
 (pK (z0d 0 none t20) fun t107=>
 pK (z0e none t107 h100) fun t108=>
 pK (oBin .eql t108 (AI 9)) fun t109=>
 z0i t109 (pK (z0r none t4 (AI 1) h100) fun t110=>
 pK (z0e none t110 h100) fun t111=>
 C zaJ [t111,(AI 15)] h100 fun t112 h113 y114=>
 pK (oExt t112 0) fun t115=>
 pK (oExt t112 1) fun t116=>
 pK (z0d 2 none t20) fun t117=>
 wK (z0k none t117 t115 h113) fun t118 h119 y120=>
 pK (z0e (some 6) t20 h119) fun t121=>
 wK (z0k (some 6) t1 t121 h119) fun t122 h123 y124=>
 K .ret ⟨[(2,t1),(3,t116)],h123,(y124++(y120++(y114++(y101++(y98++(y95++(y91++(y88++(y85++(y74++(y71++(y68++(y39++(y36++(y33++(y30++(y25++(y22++(y18++(y9++(y6++(y3++x))))))))))))))))))))))⟩)
 (pK (z0d 0 none t20) fun t125=>
 pK (z0e none t125 h100) fun t126=>
 C z2P [t126] h100 fun t127 h128 y129=>
 gM t127 false t4 h128 fun t130 h131 y132=>
 gP t127 false (z0r none t130 (AI 1) h131) h131 fun t133 h134 y135=>
 gP t127 false (z0e none t133 h134) h134 fun t136 h137 y138=>
 gP t127 false (oBin .neq t136 (.p (.str [45]))) h137 fun t139 h140 y141=>
 pK (z09 t127 (AB true) t139) fun t142=>
 z0i t142 (pK (z0r none t4 (AI 1) h140) fun t143=>
 pK (z0e none t143 h140) fun t144=>
 pK (z0d 3 none t20) fun t145=>
 wK (z0k none t145 t144 h140) fun t146 h147 y148=>
 NW C gl q3 ⟨[(2,t1),(5,t20)],h147,(y148++(y141++(y138++(y135++(y132++(y129++(y101++(y98++(y95++(y91++(y88++(y85++(y74++(y71++(y68++(y39++(y36++(y33++(y30++(y25++(y22++(y18++(y9++(y6++(y3++x)))))))))))))))))))))))))⟩ K)
 (NW C gl q3 ⟨[(2,t1),(4,t4),(5,t20),(96,t142)],h140,(y141++(y138++(y135++(y132++(y129++(y101++(y98++(y95++(y91++(y88++(y85++(y74++(y71++(y68++(y39++(y36++(y33++(y30++(y25++(y22++(y18++(y9++(y6++(y3++x))))))))))))))))))))))))⟩ K))))))
theorem E_q06i {C gl q1 q2 q3 v0 h x K}:NW C gl (zwi q1 q2 q3) ⟨enter [v0],h,x⟩ K=z2w C gl q1 q2 q3 v0 h x K:=by kernel_rfl
theorem e_q06i {C gl v0 h x K}:NW C gl zmH.body ⟨enter [v0],h,x⟩ K=z2w C gl z28 z4K z4L v0 h x K:=E_q06i
def z32:ACode:=.pr [0,1,6] (.seq (.seq (rg [mV 10 0,
bN 11 .neq 10 (cS [])] [0,1,6,11])
(.cond 11 .skip
(.exit 0)))
(.seq (.block 1 (.seq (rg [mV 15 0,
cL 16 z9r [15,(cS [10])],
mV 14 16,
eX 17 14 0,
eX 18 14 1,
eX 19 14 2,
mV 7 17,
mV 8 18,
mV 9 19] [1,6,7,8,9])
(.seq (.seq (rg [mV 20 9,
uO 21 (.un .not 20),
mV 22 21,
gD 23 22 false (.mv 1),
gD 24 22 false (.mv 7),
gD 25 22 false (.callv 23 [24]),
gD 26 22 false (.un .not 25),
uO 27 (.pick 22 cT 26)] [1,6,8,27])
(.cond 27 (.seq (rg [mV 28 6,
mV 4 28,
mV 5 cF] [4,5])
.ret)
.skip))
(rg [mV 29 8,
mV 0 29] [0,1,6]))))
(rg [mV 12 6,
bN 13 .add 12 (cI 1),
mV 6 13] [0,1,6])))
def zeu (C:Hd) (gl:GL) (v0 v1 v6:AV) (h:Heap) (x:Esc) (K:KT):Prop:=
 pK (oBin .neq v0 (.p (.str []))) fun t1=>
 z0i t1 (C z9r [v0,(.p (.str [10]))] h fun t2 h3 y4=>
 pK (oExt t2 0) fun t5=>
 pK (oExt t2 1) fun t6=>
 pK (oExt t2 2) fun t7=>
 pK (oUn .not t7) fun t8=>
 gM t8 false v1 h3 fun t9 h10 y11=>
 gM t8 false t5 h10 fun t12 h13 y14=>
 gV t8 false h13 (z7J C t9 [t12] h13) fun t15 h16 y17=>
 gP t8 false (oUn .not t15) h16 fun t18 h19 y20=>
 pK (z09 t8 (AB true) t18) fun t21=>
 z0i t21 (K .ret ⟨[(4,v6),(5,(AB false))],h19,(y20++(y17++(y14++(y11++(y4++x)))))⟩)
 (pK (oBin .add v6 (AI 1)) fun t22=>
 K .normal ⟨[(0,t6),(1,v1),(6,t22)],h19,(y20++(y17++(y14++(y11++(y4++x)))))⟩))
 (K (.exit 0) ⟨[(0,v0),(1,v1),(6,v6),(11,t1)],h,x⟩)
theorem zoW {C gl e h x K}:NW C gl z32 ⟨e,h,x⟩ K=zeu C gl (aget e 0) (aget e 1) (aget e 6) h x K:=by kernel_rfl
theorem zqM {C gl e h x K}:NW C gl (.loop z32) ⟨e,h,x⟩ K=z0Z C gl z32 K [(0,aget e 0),(1,aget e 1),(6,aget e 6)] h x:=z0C
def z69:ACode:=.pr [] (.seq (rg [mV 4 (cI 0),
mV 5 cT] [4,5])
.ret)
def z8V (C:Hd) (gl:GL) (h:Heap) (x:Esc) (K:KT):Prop:=
 K .ret ⟨[(4,(AI 0)),(5,(AB true))],h,x⟩
theorem z9j {C gl e h x K}:NW C gl z69 ⟨e,h,x⟩ K=z8V C gl h x K:=by kernel_rfl
def zvO (q1 q2:ACode):ACode:=(.seq (rg [mV 4 (cI 0),
mV 5 cF] [0,1])
(.seq (.seq (rg [mV 6 (cI 0)] [0,1,6])
(.block 0 (.loop q1)))
q2))
def zlU:AFun:=⟨2,[.t 4,.t 5],zvO z32 z69,false,false⟩
def zh8 (C:Hd) (gl:GL) (q1 q2:ACode) (v0 v1:AV) (h:Heap) (x:Esc) (K:KT):Prop:=
 NW C gl (.loop q1) ⟨[(0,v0),(1,v1),(6,(AI 0))],h,x⟩ (z0s 0 (seqN C gl q2 K))
theorem E_q036 {C gl q1 q2 v0 v1 h x K}:NW C gl (zvO q1 q2) ⟨enter [v0,v1],h,x⟩ K=zh8 C gl q1 q2 v0 v1 h x K:=by kernel_rfl
theorem e_q036 {C gl v0 v1 h x K}:NW C gl zlU.body ⟨enter [v0,v1],h,x⟩ K=zh8 C gl z32 z69 v0 v1 h x K:=E_q036
def P_q035:ACode:=(.seq (rg [mV 3 cF] [0,1])
(.seq (rg [mV 7 0,
cL 8 zbb [7],
mV 6 8,
eX 9 6 0,
eX 10 6 1,
uO 4 (.alloc [.p (.int .i64 0),.p (.int .i64 0),.p (.int .i64 0),.p (.str []),.p (.str []),.p (.str [])]),
wO (.store (some 6) 4 9),
mV 5 10] [1,4,5])
(.seq (rg [lD 11 none 1,
lD 12 (some 6) 4,
uO 13 (.bsl false (some 6) 1 (.agg [.int .i64 0,.int .i64 0,.int .i64 0,.str [],.str [],.str []]) [(0,12)]),
uO 14 (.app (some 6) 11 13),
wO (.store none 1 14)] [5])
(.seq (rg [mV 15 5,
mV 3 15] [3])
.ret))))
def zlT:AFun:=⟨2,[.t 3],P_q035,false,false⟩
def znG (C:Hd) (gl:GL) (v0 v1:AV) (h:Heap) (x:Esc) (K:KT):Prop:=
 C zbb [v0] h fun t1 h2 y3=>
 pK (oExt t1 0) fun t4=>
 pK (oExt t1 1) fun t5=>
 alK [.p (.int .i64 0),.p (.int .i64 0),.p (.int .i64 0),.p (.str []),.p (.str []),.p (.str [])] h2 fun t6 h7 y8=>
 wK (z0k (some 6) t6 t4 h7) fun t9 h10 y11=>
 pK (z0e none v1 h10) fun t12=>
 pK (z0e (some 6) t6 h10) fun t13=>
 wK (oBsl false (some 6) 1 (.agg [.int .i64 0,.int .i64 0,.int .i64 0,.str [],.str [],.str []]) [(0,t13)] h10) fun t14 h15 y16=>
 wK (oApp (some 6) t12 t14 h15) fun t17 h18 y19=>
 wK (z0k none v1 t17 h18) fun t20 h21 y22=>
 K .ret ⟨[(3,t5)],h21,(y22++(y19++(y16++(y11++(y8++(y3++x))))))⟩
theorem e_q035 {C gl v0 v1 h x K}:NW C gl zlT.body ⟨enter [v0,v1],h,x⟩ K=znG C gl v0 v1 h x K:=by kernel_rfl
end Go.Am
end
