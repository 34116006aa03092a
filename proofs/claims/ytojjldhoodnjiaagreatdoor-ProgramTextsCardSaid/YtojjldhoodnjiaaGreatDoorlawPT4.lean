/- Texts of the proof, laid together: Am24, Am25, AmX, PSplit, PTxt, AmL, PNum, PFltR, PWrit, PVTxt, Nums, Am26, Am27, Am28, Am29, Am30. -/
import Derived.Below
import Derived.ChangeSlices
import Derived.Carry
import GoSem.Extern.Table
import Derived.Laws.World
import Derived.Test.YtojjldhoodnjiaaGreatDoorlawPT3
set_option linter.all false
section
/- The abstract machine,part 24: rules by which its code is computed on what is only partly known. -/
set_option linter.unusedSimpArgs false
set_option linter.unusedVariables false
namespace Go.Am
def optK (o:Option (AV × Heap × Esc)) (f:AV→Heap→Esc→Prop):Prop:=match o with
 | some y=>f y.1 y.2.1 y.2.2
 | none=>False
def zny (v:AV) (A B:Prop):Prop:=match v with
 | .p (.bool t)=>match t with
  | true=>A
  | false=>B
 | .anyb=>A∧B
 | _=>False
def z0i (v:AV) (A B:Prop):Prop:=match v with
 | .p (.bool t)=>match t with
  | true=>A
  | false=>B
 | _=>False
def z3b (v:AV) (b:Bool) (A B:Prop):Prop:=match v with
 | .p (.bool c)=>match c==b with
  | true=>A
  | false=>B
 | .skp=>B
 | _=>False
def regK (keep:Option (List Nat)) (K:Ex→St→Prop) (e:List (Nat × AV)) (h:Heap) (x:Esc):Prop:=K .normal ⟨z0L keep e,h,x⟩
def seqK (C:Hd) (gl:Nat→Option PV) (b:ACode) (K:Ex→St→Prop) (e:Ex) (s:St):Prop:=match e with
 | .normal=>AW C gl b s K
 | .exit i=>K (.exit i) s
 | .ret=>K .ret s
def za5 (id:Nat) (K:Ex→St→Prop) (e:Ex) (s:St):Prop:=match e with
 | .normal=>K .normal s
 | .exit i=>if i=id then K .normal s else K (.exit i) s
 | .ret=>K .ret s
def finK (F:AFun) (b:Nat) (K:Post) (e:Ex) (s:St):Prop:=match e with
 | .exit _=>False
 | _=>fin F b s K
def zfT (n:Nat) (x:Esc) (K:Ex→St→Prop) (e:Ex) (s:St):Prop:=K e (zcY n x s)
def AO.plain:AO→Bool
 | .call _ _ | .callv _ _ | .mnext _ _=>false
 | .mv _=>true
 | .pick _ _ _=>true
 | .alloc _=>true
 | .box _=>true
 | .build _ _=>true
 | .bsl _ _ _ _ _=>true
 | .load _ _=>true
 | .store _ _ _=>true
 | .nilchk _=>true
 | .bin _ _ _=>true
 | .eqa _ _ _ _=>true
 | .isnil _ _ _=>true
 | .mkif _=>true
 | .un _ _=>true
 | .conv _ _=>true
 | .mkfn _ _=>true
 | .mkmap=>true
 | .mksl _ _ _ _=>true
 | .slice _ _ _ _ _=>true
 | .slstr _ _ _=>true
 | .faddr _ _ _=>true
 | .field _ _ _=>true
 | .iaddr _ _ _=>true
 | .iaddra _ _ _ _=>true
 | .idxa _ _ _ _=>true
 | .idxs _ _=>true
 | .look _ _ _ _ _=>true
 | .mupd _ _ _ _=>true
 | .ment _ _ _ _=>true
 | .estore _ _ _=>true
 | .mdel _ _ _=>true
 | .ext _ _=>true
 | .len _=>true
 | .lens _=>true
 | .lenm _=>true
 | .app _ _ _=>true
 | .copy _ _ _=>true
 | .uns _ _ _=>true
 | .clr _ _ _=>true
 | .mx _=>true
 | .mn _=>true
 | .mrange _=>true
 | .mentry _=>true
 | .new0 _=>true
variable {C:Hd} {gl:Nat→Option PV} {e:List (Nat × AV)} {h:Heap} {x:Esc} {K:Ex→St→Prop} {L:List (Nat × AV)→Heap→Esc→Prop} {s:St}
theorem zxc:AW C gl .skip s K=K .normal s:=(rfl)
theorem AW_ret:AW C gl .ret s K=K .ret s:=(rfl)
theorem zxb {i:Nat}:AW C gl (.exit i) s K=K (.exit i) s:=(rfl)
theorem AW_bad:AW C gl .bad s K=False:=(rfl)
theorem AW_reg {ops:List AOp} {keep:Option (List Nat)}:AW C gl (.reg ops keep) ⟨e,h,x⟩ K=AReg C gl ops e h x (regK keep K):=(rfl)
theorem AW_seq {a b:ACode}:AW C gl (.seq a b) s K=AW C gl a s (seqK C gl b K):=(rfl)
theorem zwZ {c:Opd} {a b:ACode}:AW C gl (.cond c a b) ⟨e,h,x⟩ K=z0i (Opd.ev gl e c) (AW C gl a ⟨e,h,x⟩ K) (AW C gl b ⟨e,h,x⟩ K):=(rfl)
theorem zsT {i:Nat} {b:ACode}:AW C gl (.block i b) s K=AW C gl b s (za5 i K):=(rfl)
theorem zsV {b:ACode}:AW C gl (.scope b) ⟨e,h,x⟩ K=AW C gl b ⟨e,h,[]⟩ (zfT h.length x K):=(rfl)
theorem AW_pr {l:List Nat} {b:ACode}:AW C gl (.pr l b) ⟨e,h,x⟩ K=AW C gl b ⟨z0L (some l) e,h,x⟩ K:=(rfl)
theorem zyG {keep:Option (List Nat)}:regK keep K e h x=K .normal ⟨z0L keep e,h,x⟩:=(rfl)
theorem zgS {b:ACode}:seqK C gl b K .normal s=AW C gl b s K:=(rfl)
theorem zst {b:ACode} {i:Nat}:seqK C gl b K (.exit i) s=K (.exit i) s:=(rfl)
theorem zve {b:ACode}:seqK C gl b K .ret s=K .ret s:=(rfl)
theorem zcf {i:Nat}:za5 i K .normal s=K .normal s:=(rfl)
theorem zgv {i j:Nat}:za5 i K (.exit j) s=if j=i then K .normal s else K (.exit j) s:=(rfl)
theorem zj8 {i:Nat}:za5 i K .ret s=K .ret s:=(rfl)
theorem zfV {n:Nat} {y:Esc} {ex:Ex}:zfT n y K ex s=K ex (zcY n y s):=(rfl)
def z0W (C:Hd) (gl:Nat→Option PV) (r:List AOp) (d:Option Nat) (e:List (Nat × AV)) (x:Esc) (L:List (Nat × AV)→Heap→Esc→Prop) (v:AV) (h':Heap) (x':Esc):Prop:=AReg C gl r (put d v e) h' (x'++x) L
theorem ztr {r:List AOp} {d:Option Nat} {v:AV} {h':Heap} {x':Esc}:z0W C gl r d e x L v h' x'=AReg C gl r (put d v e) h' (x'++x) L:=(rfl)
theorem zg5 {r:List AOp} {d:Option Nat} {v w:AV} {h' h'':Heap} {x' x'':Esc} (h1:v=w) (h2:h'=h'') (h3:x'=x''):z0W C gl r d e x L v h' x'=z0W C gl r d e x L w h'' x'':=by rw[h1,h2,h3]
theorem zsS:AReg C gl [] e h x L=L e h x:=(rfl)
theorem z0y {d:Option Nat} {op:AO} {r:List AOp} (hp:op.plain=true):AReg C gl (⟨d,none,op⟩::r) e h x L=optK (aop op (Opd.ev gl e) h) (z0W C gl r d e x L):=by
 cases op <;> first | (cases hp;done) | (simp only[AReg,wanted,optK,z0W];split <;> simp_all)
theorem zwW {d:Option Nat} {r:List AOp} {q0:Opd}:AReg C gl (⟨d,none,(.mv q0)⟩::r) e h x L=optK (aop (.mv q0) (Opd.ev gl e) h) (z0W C gl r d e x L):=z0y rfl
theorem zkO {d:Option Nat} {r:List AOp} {q0 q1 q2:Opd}:AReg C gl (⟨d,none,(.pick q0 q1 q2)⟩::r) e h x L=optK (aop (.pick q0 q1 q2) (Opd.ev gl e) h) (z0W C gl r d e x L):=z0y rfl
theorem zjm {d:Option Nat} {r:List AOp} {q0:List AV}:AReg C gl (⟨d,none,(.alloc q0)⟩::r) e h x L=optK (aop (.alloc q0) (Opd.ev gl e) h) (z0W C gl r d e x L):=z0y rfl
theorem zsN {d:Option Nat} {r:List AOp} {q0:Opd}:AReg C gl (⟨d,none,(.box q0)⟩::r) e h x L=optK (aop (.box q0) (Opd.ev gl e) h) (z0W C gl r d e x L):=z0y rfl
theorem zjn {d:Option Nat} {r:List AOp} {q0:List AV} {q1:List (Nat × Nat × Opd)}:AReg C gl (⟨d,none,(.build q0 q1)⟩::r) e h x L=optK (aop (.build q0 q1) (Opd.ev gl e) h) (z0W C gl r d e x L):=z0y rfl
theorem zsO {d:Option Nat} {r:List AOp} {q0:Bool} {q1:Sh} {q2:Nat} {q3:PV} {q4:List (Nat × Opd)}:AReg C gl (⟨d,none,(.bsl q0 q1 q2 q3 q4)⟩::r) e h x L=optK (aop (.bsl q0 q1 q2 q3 q4) (Opd.ev gl e) h) (z0W C gl r d e x L):=z0y rfl
theorem zkF {d:Option Nat} {r:List AOp} {q0:Sh} {q1:Opd}:AReg C gl (⟨d,none,(.load q0 q1)⟩::r) e h x L=optK (aop (.load q0 q1) (Opd.ev gl e) h) (z0W C gl r d e x L):=z0y rfl
theorem zjw {d:Option Nat} {r:List AOp} {q0:Sh} {q1 q2:Opd}:AReg C gl (⟨d,none,(.store q0 q1 q2)⟩::r) e h x L=optK (aop (.store q0 q1 q2) (Opd.ev gl e) h) (z0W C gl r d e x L):=z0y rfl
theorem zgo {d:Option Nat} {r:List AOp} {q0:Opd}:AReg C gl (⟨d,none,(.nilchk q0)⟩::r) e h x L=optK (aop (.nilchk q0) (Opd.ev gl e) h) (z0W C gl r d e x L):=z0y rfl
theorem zsM {d:Option Nat} {r:List AOp} {q0:BinOp} {q1 q2:Opd}:AReg C gl (⟨d,none,(.bin q0 q1 q2)⟩::r) e h x L=optK (aop (.bin q0 q1 q2) (Opd.ev gl e) h) (z0W C gl r d e x L):=z0y rfl
theorem zsP {d:Option Nat} {r:List AOp} {q0:List Nat} {q1:Bool} {q2 q3:Opd}:AReg C gl (⟨d,none,(.eqa q0 q1 q2 q3)⟩::r) e h x L=optK (aop (.eqa q0 q1 q2 q3) (Opd.ev gl e) h) (z0W C gl r d e x L):=z0y rfl
theorem zjs {d:Option Nat} {r:List AOp} {q0:Nat} {q1:Bool} {q2:Opd}:AReg C gl (⟨d,none,(.isnil q0 q1 q2)⟩::r) e h x L=optK (aop (.isnil q0 q1 q2) (Opd.ev gl e) h) (z0W C gl r d e x L):=z0y rfl
theorem zkK {d:Option Nat} {r:List AOp} {q0:Opd}:AReg C gl (⟨d,none,(.mkif q0)⟩::r) e h x L=optK (aop (.mkif q0) (Opd.ev gl e) h) (z0W C gl r d e x L):=z0y rfl
theorem zwY {d:Option Nat} {r:List AOp} {q0:UnOp} {q1:Opd}:AReg C gl (⟨d,none,(.un q0 q1)⟩::r) e h x L=optK (aop (.un q0 q1) (Opd.ev gl e) h) (z0W C gl r d e x L):=z0y rfl
theorem zk9 {d:Option Nat} {r:List AOp} {q0:Cv} {q1:Opd}:AReg C gl (⟨d,none,(.conv q0 q1)⟩::r) e h x L=optK (aop (.conv q0 q1) (Opd.ev gl e) h) (z0W C gl r d e x L):=z0y rfl
theorem zkJ {d:Option Nat} {r:List AOp} {q0:Nat} {q1:List Opd}:AReg C gl (⟨d,none,(.mkfn q0 q1)⟩::r) e h x L=optK (aop (.mkfn q0 q1) (Opd.ev gl e) h) (z0W C gl r d e x L):=z0y rfl
theorem zjt {d:Option Nat} {r:List AOp}  : AReg C gl (⟨d,none,.mkmap⟩::r) e h x L=optK (aop .mkmap (Opd.ev gl e) h) (z0W C gl r d e x L):=z0y rfl
theorem zkL {d:Option Nat} {r:List AOp} {q0:Sh} {q1:PV} {q2 q3:Opd}:AReg C gl (⟨d,none,(.mksl q0 q1 q2 q3)⟩::r) e h x L=optK (aop (.mksl q0 q1 q2 q3) (Opd.ev gl e) h) (z0W C gl r d e x L):=z0y rfl
theorem zju {d:Option Nat} {r:List AOp} {q0:Sh} {q1:Opd} {q2 q3 q4:Option Opd}:AReg C gl (⟨d,none,(.slice q0 q1 q2 q3 q4)⟩::r) e h x L=optK (aop (.slice q0 q1 q2 q3 q4) (Opd.ev gl e) h) (z0W C gl r d e x L):=z0y rfl
theorem zjv {d:Option Nat} {r:List AOp} {q0:Opd} {q1 q2:Option Opd}:AReg C gl (⟨d,none,(.slstr q0 q1 q2)⟩::r) e h x L=optK (aop (.slstr q0 q1 q2) (Opd.ev gl e) h) (z0W C gl r d e x L):=z0y rfl
theorem zjp {d:Option Nat} {r:List AOp} {q0:Nat} {q1:Sh} {q2:Opd}:AReg C gl (⟨d,none,(.faddr q0 q1 q2)⟩::r) e h x L=optK (aop (.faddr q0 q1 q2) (Opd.ev gl e) h) (z0W C gl r d e x L):=z0y rfl
theorem zjq {d:Option Nat} {r:List AOp} {q0:Nat} {q1:Sh} {q2:Opd}:AReg C gl (⟨d,none,(.field q0 q1 q2)⟩::r) e h x L=optK (aop (.field q0 q1 q2) (Opd.ev gl e) h) (z0W C gl r d e x L):=z0y rfl
theorem zjr {d:Option Nat} {r:List AOp} {q0:Sh} {q1 q2:Opd}:AReg C gl (⟨d,none,(.iaddr q0 q1 q2)⟩::r) e h x L=optK (aop (.iaddr q0 q1 q2) (Opd.ev gl e) h) (z0W C gl r d e x L):=z0y rfl
theorem zgl {d:Option Nat} {r:List AOp} {q0:Nat} {q1:Sh} {q2 q3:Opd}:AReg C gl (⟨d,none,(.iaddra q0 q1 q2 q3)⟩::r) e h x L=optK (aop (.iaddra q0 q1 q2 q3) (Opd.ev gl e) h) (z0W C gl r d e x L):=z0y rfl
theorem zkB {d:Option Nat} {r:List AOp} {q0:Nat} {q1:Sh} {q2 q3:Opd}:AReg C gl (⟨d,none,(.idxa q0 q1 q2 q3)⟩::r) e h x L=optK (aop (.idxa q0 q1 q2 q3) (Opd.ev gl e) h) (z0W C gl r d e x L):=z0y rfl
theorem zkC {d:Option Nat} {r:List AOp} {q0 q1:Opd}:AReg C gl (⟨d,none,(.idxs q0 q1)⟩::r) e h x L=optK (aop (.idxs q0 q1) (Opd.ev gl e) h) (z0W C gl r d e x L):=z0y rfl
theorem zkG {d:Option Nat} {r:List AOp} {kk:Sh × List Nat} {q0:Bool} {q1:AV} {q2 q3:Opd}:AReg C gl (⟨d,none,(.look kk q0 q1 q2 q3)⟩::r) e h x L=optK (aop (.look kk q0 q1 q2 q3) (Opd.ev gl e) h) (z0W C gl r d e x L):=z0y rfl
theorem zkM {d:Option Nat} {r:List AOp} {kk:Sh × List Nat} {q0 q1 q2:Opd}:AReg C gl (⟨d,none,(.mupd kk q0 q1 q2)⟩::r) e h x L=optK (aop (.mupd kk q0 q1 q2) (Opd.ev gl e) h) (z0W C gl r d e x L):=z0y rfl
theorem zkI {d:Option Nat} {r:List AOp} {kk:Sh × List Nat} {q0:AV} {q1 q2:Opd}:AReg C gl (⟨d,none,(.ment kk q0 q1 q2)⟩::r) e h x L=optK (aop (.ment kk q0 q1 q2) (Opd.ev gl e) h) (z0W C gl r d e x L):=z0y rfl
theorem zgk {d:Option Nat} {r:List AOp} {q0 q1 q2:Opd}:AReg C gl (⟨d,none,(.estore q0 q1 q2)⟩::r) e h x L=optK (aop (.estore q0 q1 q2) (Opd.ev gl e) h) (z0W C gl r d e x L):=z0y rfl
theorem zkH {d:Option Nat} {r:List AOp} {kk:Sh × List Nat} {q0 q1:Opd}:AReg C gl (⟨d,none,(.mdel kk q0 q1)⟩::r) e h x L=optK (aop (.mdel kk q0 q1) (Opd.ev gl e) h) (z0W C gl r d e x L):=z0y rfl
theorem zsQ {d:Option Nat} {r:List AOp} {q0:Opd} {q1:Nat}:AReg C gl (⟨d,none,(.ext q0 q1)⟩::r) e h x L=optK (aop (.ext q0 q1) (Opd.ev gl e) h) (z0W C gl r d e x L):=z0y rfl
theorem zsR {d:Option Nat} {r:List AOp} {q0:Opd}:AReg C gl (⟨d,none,(.len q0)⟩::r) e h x L=optK (aop (.len q0) (Opd.ev gl e) h) (z0W C gl r d e x L):=z0y rfl
theorem zkE {d:Option Nat} {r:List AOp} {q0:Opd}:AReg C gl (⟨d,none,(.lens q0)⟩::r) e h x L=optK (aop (.lens q0) (Opd.ev gl e) h) (z0W C gl r d e x L):=z0y rfl
theorem zkD {d:Option Nat} {r:List AOp} {q0:Opd}:AReg C gl (⟨d,none,(.lenm q0)⟩::r) e h x L=optK (aop (.lenm q0) (Opd.ev gl e) h) (z0W C gl r d e x L):=z0y rfl
theorem zsL {d:Option Nat} {r:List AOp} {q0:Sh} {q1 q2:Opd}:AReg C gl (⟨d,none,(.app q0 q1 q2)⟩::r) e h x L=optK (aop (.app q0 q1 q2) (Opd.ev gl e) h) (z0W C gl r d e x L):=z0y rfl
theorem zkA {d:Option Nat} {r:List AOp} {q0:Sh} {q1 q2:Opd}:AReg C gl (⟨d,none,(.copy q0 q1 q2)⟩::r) e h x L=optK (aop (.copy q0 q1 q2) (Opd.ev gl e) h) (z0W C gl r d e x L):=z0y rfl
theorem zwX {d:Option Nat} {r:List AOp} {q0:List Opd}:AReg C gl (⟨d,none,(.mx q0)⟩::r) e h x L=optK (aop (.mx q0) (Opd.ev gl e) h) (z0W C gl r d e x L):=z0y rfl
theorem zwV {d:Option Nat} {r:List AOp} {q0:List Opd}:AReg C gl (⟨d,none,(.mn q0)⟩::r) e h x L=optK (aop (.mn q0) (Opd.ev gl e) h) (z0W C gl r d e x L):=z0y rfl
theorem zgn {d:Option Nat} {r:List AOp} {q0:Opd}:AReg C gl (⟨d,none,(.mrange q0)⟩::r) e h x L=optK (aop (.mrange q0) (Opd.ev gl e) h) (z0W C gl r d e x L):=z0y rfl
theorem zgm {d:Option Nat} {r:List AOp} {q0:Opd}:AReg C gl (⟨d,none,(.mentry q0)⟩::r) e h x L=optK (aop (.mentry q0) (Opd.ev gl e) h) (z0W C gl r d e x L):=z0y rfl
theorem zkN {d:Option Nat} {r:List AOp} {q0:Sh}:AReg C gl (⟨d,none,(.new0 q0)⟩::r) e h x L=optK (aop (.new0 q0) (Opd.ev gl e) h) (z0W C gl r d e x L):=z0y rfl
theorem zde {d:Option Nat} {f:Nat} {args:List Opd} {r:List AOp}:AReg C gl (⟨d,none,.call f args⟩::r) e h x L=C f (args.map (Opd.ev gl e)) h (z0W C gl r d e x L):=(rfl)
theorem zkP {d:Option Nat} {g:Option (Nat × Bool)} {op:AO} {r:List AOp} (hw:wanted g e=some true):AReg C gl (⟨d,g,op⟩::r) e h x L=AReg C gl (⟨d,none,op⟩::r) e h x L:=by
 rw[AReg,AReg]
 have h2:wanted none e=some true:=(rfl)
 simp only[hw,h2]
theorem za2 {d:Option Nat} {g:Option (Nat × Bool)} {op:AO} {r:List AOp} (hw:wanted g e=some false):AReg C gl (⟨d,g,op⟩::r) e h x L=AReg C gl r (put d .skp e) h x L:=by
 rw[AReg]
 simp only[hw]
theorem zjx {d:Option Nat} {g:Option (Nat × Bool)} {op:AO} {r:List AOp} (hw:wanted g e=none):AReg C gl (⟨d,g,op⟩::r) e h x L=False:=by
 rw[AReg]
 simp only[hw]
theorem za3 {d:Option Nat} {t:Nat} {b:Bool} {op:AO} {r:List AOp}:AReg C gl (⟨d,some (t,b),op⟩::r) e h x L=z3b (aget e t) b (AReg C gl (⟨d,none,op⟩::r) e h x L) (AReg C gl r (put d .skp e) h x L):=by
 have key:∀ v,aget e t=v→AReg C gl (⟨d,some (t,b),op⟩::r) e h x L=z3b v b (AReg C gl (⟨d,none,op⟩::r) e h x L) (AReg C gl r (put d .skp e) h x L):=by
  intro v hv
  unfold z3b
  split
  ·rename_i c
   split
   ·rename_i hcb;exact zkP (by simp [wanted,hv,hcb])
   ·rename_i hcb;exact za2 (by simp [wanted,hv,hcb])
  ·exact za2 (by simp [wanted,hv])
  ·rename_i h1 h2
   refine zjx ?_
   simp only[wanted,hv]
 exact key _ rfl
theorem zr2 {v:AV} {h:Heap} {x:Esc} {f:AV→Heap→Esc→Prop}:optK (some (v,h,x)) f=f v h x:=(rfl)
theorem zr1 {f:AV→Heap→Esc→Prop}:optK none f=False:=(rfl)
theorem zuw {p:Prop} [Decidable p] {a b:Option (AV × Heap × Esc)} {f:AV→Heap→Esc→Prop}:optK (if p then a else b) f=if p then optK a f else optK b f:=by split <;> rfl
theorem zf6 {α:Type} {p:Prop} [Decidable p] {a b:Option α} {g:α→AV × Heap × Esc} {f:AV→Heap→Esc→Prop}:optK (Option.map g (if p then a else b)) f=if p then optK (a.map g) f else optK (b.map g) f:=by split <;> rfl
theorem zaC {t:Bool} {A B:Prop}:z0i (.p (.bool t)) A B=if t=true then A else B:=by cases t <;> simp [z0i]
theorem zaD {A B:Prop}:z0i (.p (.bool true)) A B=A:=(rfl)
theorem z8L {A B:Prop}:z0i (.p (.bool false)) A B=B:=(rfl)
theorem zgg {b:Bool} {A B:Prop}:z3b .skp b A B=B:=(rfl)
theorem zk1 {t:Bool} {A B:Prop}:z3b (.p (.bool t)) true A B=if t=true then A else B:=by cases t <;> simp [z3b]
theorem zgZ {t:Bool} {A B:Prop}:z3b (.p (.bool t)) false A B=if t=true then B else A:=by cases t <;> simp [z3b]
theorem zg3 {v v':AV} {A B:Prop} (hv:v=v'):z0i v A B=z0i v' A B:=by rw[hv]
theorem zgY {v v':AV} {b:Bool} {A B:Prop} (hv:v=v'):z3b v b A B=z3b v' b A B:=by rw[hv]
theorem zkc {o o':Option (AV × Heap × Esc)} {f:AV→Heap→Esc→Prop} (ho:o=o'):optK o f=optK o' f:=by rw[ho]
theorem zjo {ops:List AOp} {e e':List (Nat × AV)} {h h':Heap} {x x':Esc} (he:e=e') (hh:h=h') (hx:x=x'):AReg C gl ops e h x L=AReg C gl ops e' h' x' L:=by rw[he,hh,hx]
theorem zsU {c:ACode} {s s':St} (hs:s=s'):AW C gl c s K=AW C gl c s' K:=by rw[hs]
theorem zkg {keep:Option (List Nat)} {e e':List (Nat × AV)} {h h':Heap} {x x':Esc} (he:e=e') (hh:h=h') (hx:x=x'):regK keep K e h x=regK keep K e' h' x':=by rw[he,hh,hx]
theorem zkq {b:ACode} {ex ex':Ex} {s s':St} (he:ex=ex') (hs:s=s'):seqK C gl b K ex s=seqK C gl b K ex' s':=by rw[he,hs]
theorem zd9 {i:Nat} {ex ex':Ex} {s s':St} (he:ex=ex') (hs:s=s'):za5 i K ex s=za5 i K ex' s':=by rw[he,hs]
theorem zfU {n:Nat} {y:Esc} {ex ex':Ex} {s s':St} (he:ex=ex') (hs:s=s'):zfT n y K ex s=zfT n y K ex' s':=by rw[he,hs]
theorem zlq {X:Ctx} {f:Nat} {F:AFun} {a:List AV} {h:Heap} {P:Post} (hf:X.fn f=some F) (hd:F.isDet=false):z0c X f a h P=z3M (z0c X) X.gl F a h P:=by
 rw[propext zdc]
 unfold Step
 rw[hf]
 simp only[z6l,hd]
theorem zta {X:Ctx} {f:Nat} {F:AFun} {a:List AV} {h:Heap} {P:Post} (hf:X.fn f=some F) (hd:F.isDet=true):z0c X f a h P = ∃ v h' x,P v h' x∧z3M (z0c X) X.gl F a h fun v1 h1 x1=>v1=v∧h1=h'∧x1=x:=by
 rw[propext zdc]
 unfold Step
 rw[hf]
 simp only[z6l,hd]
theorem zqb {A B:AV→Heap→Esc→Prop} (h:∀ v h' x,A v h' x=B v h' x):(∃ v h' x,A v h' x) = ∃ v h' x,B v h' x:=by
 simp only[h]
theorem zd4 {F:AFun} {a asv:List AV} {h h1:Heap} {P:Post} (hr:F.byref=false) (hp:z0p h a=some (asv,h1)) (hl:asv.length=F.nparams) :
 z3M C gl F a h P=AW C gl F.body ⟨enter asv,h1,[]⟩ (finK F h.length P):=by
 unfold z3M
 rw[hr]
 simp only[Bool.false_eq_true,if_false,hp,hl,true_and]
 congr 1
theorem zmT {F:AFun} {asv:List AV} {h:Heap} {P:Post} (hr:F.byref=true) (hl:asv.length=F.nparams) :
 z3M C gl F asv h P=AW C gl F.body ⟨enter asv,h,[]⟩ (finK F h.length P):=by
 unfold z3M
 rw[hr]
 simp only[if_true,hl,true_and]
 congr 1
def doK (C:Hd) (gl:Nat→Option PV) (o:AOp) (e:List (Nat × AV)) (h:Heap) (R:AV→Heap→Esc→Prop):Prop:=∃ v h' y,ADo C gl o e h v h' y∧R v h' y
def z1A (C:Hd) (f:Nat) (a:List AV) (h:Heap) (R:AV→Heap→Esc→Prop):Prop:=∃ v h' y,C f a h (fun v1 h1 x1=>v1=v∧h1=h'∧x1=y)∧R v h' y
def ztE (C:Hd) (gl:Nat→Option PV) (o:DOp) (r:List DOp) (dn:Done) (hs:List Heap) (e:List (Nat × AV)) (h:Heap) (x:Esc) (L:List (Nat × AV)→Heap→Esc→Prop) (v:AV) (h':Heap) (y:Esc):Prop:=
 (o.eff=false→h'=h∧y=[])∧(∀ k∈o.early,∃ g,hs[k]?=some g∧ADo C gl o.op (z0L (some o.rd) e) g v g []) ∧
  (∀ j∈o.again,∃ q,dn[j]?=some q∧ADo C gl q.1 q.2.1 h' q.2.2 h' [])∧z2s C gl r (dn++[(o.op,z0L (some o.rd) e,v)]) (hs++[h]) (put o.op.dst v e) h' (y++x) L
theorem zxa {ds:List DOp} {keep:Option (List Nat)}:AW C gl (.draw ds keep) ⟨e,h,x⟩ K=z2s C gl ds [] [] e h x (regK keep K):=(rfl)
theorem zk7 {dn:Done} {hs:List Heap}:z2s C gl [] dn hs e h x L=L e h x:=(rfl)
theorem za0 {o:DOp} {r:List DOp} {dn:Done} {hs:List Heap}:z2s C gl (o::r) dn hs e h x L=doK C gl o.op (z0L (some o.rd) e) h (ztE C gl o r dn hs e h x L):=(rfl)
variable {R:AV→Heap→Esc→Prop}
theorem ex3 {v0:AV} {h0:Heap} {y0:Esc}:(∃ v h y,(v=v0∧h=h0∧y=y0)∧R v h y)=R v0 h0 y0:=
 propext ⟨fun ⟨_,_,_,⟨h1,h2,h3⟩,r⟩=>by subst h1;subst h2;subst h3;exact r,fun r=>⟨_,_,_,⟨rfl,rfl,rfl⟩,r⟩⟩
theorem ex3' {v0:AV} {h0:Heap} {y0:Esc}:(∃ v h y,(v0=v∧h0=h∧y0=y)∧R v h y)=R v0 h0 y0:=
 propext ⟨fun ⟨_,_,_,⟨h1,h2,h3⟩,r⟩=>by subst h1;subst h2;subst h3;exact r,fun r=>⟨_,_,_,⟨rfl,rfl,rfl⟩,r⟩⟩
theorem z0E {d:Option Nat} {op:AO} (hp:op.plain=true):doK C gl ⟨d,none,op⟩ e h R=optK (aop op (Opd.ev gl e) h) R:=by
 have key:∀ o:Option (AV × Heap × Esc),(∃ v h' y,o=some (v,h',y)∧R v h' y)=optK o R:=by
  intro o
  cases o with
  | none=>simp [optK]
  | some z=>obtain⟨v,h',y⟩:=z;simp only[Option.some.injEq,Prod.mk.injEq,ex3'];rfl
 rw[← key]
 unfold doK ADo
 cases op <;> first | (cases hp;done) | rfl
theorem zhP {d:Option Nat} {f:Nat} {args:List Opd}:doK C gl ⟨d,none,.call f args⟩ e h R=z1A C f (args.map (Opd.ev gl e)) h R:=(rfl)
theorem zfi {d:Option Nat} {t:Nat} {b:Bool} {op:AO}:doK C gl ⟨d,some (t,b),op⟩ e h R=z3b (aget e t) b (doK C gl ⟨d,none,op⟩ e h R) (R .skp h []):=by
 have h2:wanted none e=some true:=(rfl)
 have key:∀ v,aget e t=v→doK C gl ⟨d,some (t,b),op⟩ e h R=z3b v b (doK C gl ⟨d,none,op⟩ e h R) (R .skp h []):=by
  intro v hv
  unfold z3b
  split
  ·rename_i c
   split
   ·rename_i hcb
    have hw:wanted (some (t,b)) e=some true:=by simp [wanted,hv,hcb]
    unfold doK ADo
    simp only[hw,h2]
   ·rename_i hcb
    have hw:wanted (some (t,b)) e=some false:=by simp [wanted,hv,hcb]
    unfold doK ADo
    simp only[hw,ex3]
  ·have hw:wanted (some (t,b)) e=some false:=by simp [wanted,hv]
   unfold doK ADo
   simp only[hw,ex3]
  ·rename_i h3 h4
   have hw:wanted (some (t,b)) e=none:=by
    simp only[wanted,hv]
   unfold doK ADo
   simp only[hw]
   simp
 exact key _ rfl
theorem doK_mv {d:Option Nat} {q0:Opd}:doK C gl ⟨d,none,(.mv q0)⟩ e h R=optK (aop (.mv q0) (Opd.ev gl e) h) R:=z0E rfl
theorem ztD {d:Option Nat} {q0 q1 q2:Opd}:doK C gl ⟨d,none,(.pick q0 q1 q2)⟩ e h R=optK (aop (.pick q0 q1 q2) (Opd.ev gl e) h) R:=z0E rfl
theorem zof {d:Option Nat} {q0:List AV}:doK C gl ⟨d,none,(.alloc q0)⟩ e h R=optK (aop (.alloc q0) (Opd.ev gl e) h) R:=z0E rfl
theorem zxG {d:Option Nat} {q0:Opd}:doK C gl ⟨d,none,(.box q0)⟩ e h R=optK (aop (.box q0) (Opd.ev gl e) h) R:=z0E rfl
theorem zog {d:Option Nat} {q0:List AV} {q1:List (Nat × Nat × Opd)}:doK C gl ⟨d,none,(.build q0 q1)⟩ e h R=optK (aop (.build q0 q1) (Opd.ev gl e) h) R:=z0E rfl
theorem zxH {d:Option Nat} {q0:Bool} {q1:Sh} {q2:Nat} {q3:PV} {q4:List (Nat × Opd)}:doK C gl ⟨d,none,(.bsl q0 q1 q2 q3 q4)⟩ e h R=optK (aop (.bsl q0 q1 q2 q3 q4) (Opd.ev gl e) h) R:=z0E rfl
theorem zt4 {d:Option Nat} {q0:Sh} {q1:Opd}:doK C gl ⟨d,none,(.load q0 q1)⟩ e h R=optK (aop (.load q0 q1) (Opd.ev gl e) h) R:=z0E rfl
theorem zoq {d:Option Nat} {q0:Sh} {q1 q2:Opd}:doK C gl ⟨d,none,(.store q0 q1 q2)⟩ e h R=optK (aop (.store q0 q1 q2) (Opd.ev gl e) h) R:=z0E rfl
theorem zjI {d:Option Nat} {q0:Opd}:doK C gl ⟨d,none,(.nilchk q0)⟩ e h R=optK (aop (.nilchk q0) (Opd.ev gl e) h) R:=z0E rfl
theorem zxF {d:Option Nat} {q0:BinOp} {q1 q2:Opd}:doK C gl ⟨d,none,(.bin q0 q1 q2)⟩ e h R=optK (aop (.bin q0 q1 q2) (Opd.ev gl e) h) R:=z0E rfl
theorem zxI {d:Option Nat} {q0:List Nat} {q1:Bool} {q2 q3:Opd}:doK C gl ⟨d,none,(.eqa q0 q1 q2 q3)⟩ e h R=optK (aop (.eqa q0 q1 q2 q3) (Opd.ev gl e) h) R:=z0E rfl
theorem zol {d:Option Nat} {q0:Nat} {q1:Bool} {q2:Opd}:doK C gl ⟨d,none,(.isnil q0 q1 q2)⟩ e h R=optK (aop (.isnil q0 q1 q2) (Opd.ev gl e) h) R:=z0E rfl
theorem zt9 {d:Option Nat} {q0:Opd}:doK C gl ⟨d,none,(.mkif q0)⟩ e h R=optK (aop (.mkif q0) (Opd.ev gl e) h) R:=z0E rfl
theorem doK_un {d:Option Nat} {q0:UnOp} {q1:Opd}:doK C gl ⟨d,none,(.un q0 q1)⟩ e h R=optK (aop (.un q0 q1) (Opd.ev gl e) h) R:=z0E rfl
theorem zty {d:Option Nat} {q0:Cv} {q1:Opd}:doK C gl ⟨d,none,(.conv q0 q1)⟩ e h R=optK (aop (.conv q0 q1) (Opd.ev gl e) h) R:=z0E rfl
theorem zt8 {d:Option Nat} {q0:Nat} {q1:List Opd}:doK C gl ⟨d,none,(.mkfn q0 q1)⟩ e h R=optK (aop (.mkfn q0 q1) (Opd.ev gl e) h) R:=z0E rfl
theorem zom {d:Option Nat}  : doK C gl ⟨d,none,.mkmap⟩ e h R=optK (aop .mkmap (Opd.ev gl e) h) R:=z0E rfl
theorem ztA {d:Option Nat} {q0:Sh} {q1:PV} {q2 q3:Opd}:doK C gl ⟨d,none,(.mksl q0 q1 q2 q3)⟩ e h R=optK (aop (.mksl q0 q1 q2 q3) (Opd.ev gl e) h) R:=z0E rfl
theorem zon {d:Option Nat} {q0:Sh} {q1:Opd} {q2 q3 q4:Option Opd}:doK C gl ⟨d,none,(.slice q0 q1 q2 q3 q4)⟩ e h R=optK (aop (.slice q0 q1 q2 q3 q4) (Opd.ev gl e) h) R:=z0E rfl
theorem zoo {d:Option Nat} {q0:Opd} {q1 q2:Option Opd}:doK C gl ⟨d,none,(.slstr q0 q1 q2)⟩ e h R=optK (aop (.slstr q0 q1 q2) (Opd.ev gl e) h) R:=z0E rfl
theorem zoi {d:Option Nat} {q0:Nat} {q1:Sh} {q2:Opd}:doK C gl ⟨d,none,(.faddr q0 q1 q2)⟩ e h R=optK (aop (.faddr q0 q1 q2) (Opd.ev gl e) h) R:=z0E rfl
theorem zoj {d:Option Nat} {q0:Nat} {q1:Sh} {q2:Opd}:doK C gl ⟨d,none,(.field q0 q1 q2)⟩ e h R=optK (aop (.field q0 q1 q2) (Opd.ev gl e) h) R:=z0E rfl
theorem zok {d:Option Nat} {q0:Sh} {q1 q2:Opd}:doK C gl ⟨d,none,(.iaddr q0 q1 q2)⟩ e h R=optK (aop (.iaddr q0 q1 q2) (Opd.ev gl e) h) R:=z0E rfl
theorem zjF {d:Option Nat} {q0:Nat} {q1:Sh} {q2 q3:Opd}:doK C gl ⟨d,none,(.iaddra q0 q1 q2 q3)⟩ e h R=optK (aop (.iaddra q0 q1 q2 q3) (Opd.ev gl e) h) R:=z0E rfl
theorem zt0 {d:Option Nat} {q0:Nat} {q1:Sh} {q2 q3:Opd}:doK C gl ⟨d,none,(.idxa q0 q1 q2 q3)⟩ e h R=optK (aop (.idxa q0 q1 q2 q3) (Opd.ev gl e) h) R:=z0E rfl
theorem zt1 {d:Option Nat} {q0 q1:Opd}:doK C gl ⟨d,none,(.idxs q0 q1)⟩ e h R=optK (aop (.idxs q0 q1) (Opd.ev gl e) h) R:=z0E rfl
theorem zt5 {d:Option Nat} {kk:Sh × List Nat} {q0:Bool} {q1:AV} {q2 q3:Opd}:doK C gl ⟨d,none,(.look kk q0 q1 q2 q3)⟩ e h R=optK (aop (.look kk q0 q1 q2 q3) (Opd.ev gl e) h) R:=z0E rfl
theorem ztB {d:Option Nat} {kk:Sh × List Nat} {q0 q1 q2:Opd}:doK C gl ⟨d,none,(.mupd kk q0 q1 q2)⟩ e h R=optK (aop (.mupd kk q0 q1 q2) (Opd.ev gl e) h) R:=z0E rfl
theorem zt7 {d:Option Nat} {kk:Sh × List Nat} {q0:AV} {q1 q2:Opd}:doK C gl ⟨d,none,(.ment kk q0 q1 q2)⟩ e h R=optK (aop (.ment kk q0 q1 q2) (Opd.ev gl e) h) R:=z0E rfl
theorem zjE {d:Option Nat} {q0 q1 q2:Opd}:doK C gl ⟨d,none,(.estore q0 q1 q2)⟩ e h R=optK (aop (.estore q0 q1 q2) (Opd.ev gl e) h) R:=z0E rfl
theorem zt6 {d:Option Nat} {kk:Sh × List Nat} {q0 q1:Opd}:doK C gl ⟨d,none,(.mdel kk q0 q1)⟩ e h R=optK (aop (.mdel kk q0 q1) (Opd.ev gl e) h) R:=z0E rfl
theorem zxJ {d:Option Nat} {q0:Opd} {q1:Nat}:doK C gl ⟨d,none,(.ext q0 q1)⟩ e h R=optK (aop (.ext q0 q1) (Opd.ev gl e) h) R:=z0E rfl
theorem zxK {d:Option Nat} {q0:Opd}:doK C gl ⟨d,none,(.len q0)⟩ e h R=optK (aop (.len q0) (Opd.ev gl e) h) R:=z0E rfl
theorem zt3 {d:Option Nat} {q0:Opd}:doK C gl ⟨d,none,(.lens q0)⟩ e h R=optK (aop (.lens q0) (Opd.ev gl e) h) R:=z0E rfl
theorem zt2 {d:Option Nat} {q0:Opd}:doK C gl ⟨d,none,(.lenm q0)⟩ e h R=optK (aop (.lenm q0) (Opd.ev gl e) h) R:=z0E rfl
theorem zxE {d:Option Nat} {q0:Sh} {q1 q2:Opd}:doK C gl ⟨d,none,(.app q0 q1 q2)⟩ e h R=optK (aop (.app q0 q1 q2) (Opd.ev gl e) h) R:=z0E rfl
theorem ztz {d:Option Nat} {q0:Sh} {q1 q2:Opd}:doK C gl ⟨d,none,(.copy q0 q1 q2)⟩ e h R=optK (aop (.copy q0 q1 q2) (Opd.ev gl e) h) R:=z0E rfl
theorem doK_mx {d:Option Nat} {q0:List Opd}:doK C gl ⟨d,none,(.mx q0)⟩ e h R=optK (aop (.mx q0) (Opd.ev gl e) h) R:=z0E rfl
theorem doK_mn {d:Option Nat} {q0:List Opd}:doK C gl ⟨d,none,(.mn q0)⟩ e h R=optK (aop (.mn q0) (Opd.ev gl e) h) R:=z0E rfl
theorem zjH {d:Option Nat} {q0:Opd}:doK C gl ⟨d,none,(.mrange q0)⟩ e h R=optK (aop (.mrange q0) (Opd.ev gl e) h) R:=z0E rfl
theorem zjG {d:Option Nat} {q0:Opd}:doK C gl ⟨d,none,(.mentry q0)⟩ e h R=optK (aop (.mentry q0) (Opd.ev gl e) h) R:=z0E rfl
theorem ztC {d:Option Nat} {q0:Sh}:doK C gl ⟨d,none,(.new0 q0)⟩ e h R=optK (aop (.new0 q0) (Opd.ev gl e) h) R:=z0E rfl
theorem zoh {o:AOp} {e e':List (Nat × AV)} {h h':Heap} (he:e=e') (hh:h=h'):doK C gl o e h R=doK C gl o e' h' R:=by rw[he,hh]
theorem zgx {f:Nat} {a a':List AV} {h h':Heap} (ha:a=a') (hh:h=h'):z1A C f a h R=z1A C f a' h' R:=by rw[ha,hh]
theorem zgi {X:Ctx} {f:Nat} {a a':List AV} {h h':Heap} {K:Post} (ha:a=a') (hh:h=h'):z0c X f a h K=z0c X f a' h' K:=by rw[ha,hh]
theorem zgj {ds:List DOp} {dn dn':Done} {hs hs':List Heap} {e e':List (Nat × AV)} {h h':Heap} {x x':Esc} (hd:dn=dn') (hh:hs=hs') (he:e=e') (hhh:h=h') (hx:x=x'):z2s C gl ds dn hs e h x L=z2s C gl ds dn' hs' e' h' x' L:=by rw[hd,hh,he,hhh,hx]
theorem ztF {o:DOp} {r:List DOp} {dn:Done} {hs:List Heap} {v:AV} {h':Heap} {y:Esc}:ztE C gl o r dn hs e h x L v h' y=((o.eff=false→h'=h∧y=[])∧(∀ k∈o.early,∃ g,hs[k]?=some g∧ADo C gl o.op (z0L (some o.rd) e) g v g []) ∧
 (∀ j∈o.again,∃ q,dn[j]?=some q∧ADo C gl q.1 q.2.1 h' q.2.2 h' [])∧z2s C gl r (dn++[(o.op,z0L (some o.rd) e,v)]) (hs++[h]) (put o.op.dst v e) h' (y++x) L):=(rfl)
end Go.Am
end
section
/- The abstract machine,part 25: from a call that ends well here tov the model's call on a whole world. -/
set_option linter.unusedSimpArgs false
set_option linter.unusedVariables false
namespace Go.Am
variable {P:Program}
theorem ztW (W:World):HeapRel [] [] W:=⟨rfl,fun id o m h=>by simp at h,fun i j b n n' h=>by simp at h,fun i b n h=>by simp at h⟩
theorem zik {W:World} {b:Nat} {o:Go.Obj} (hb:W.heap[b]?=some o):(imm [] [] W).b b=some o:=z9x.2 ⟨fun ⟨id,n,h⟩=>by simp at h,hb⟩
theorem zfz {W:World} {b o:Nat} {v:Value} (hb:W.cell? ⟨b,o,none⟩=some v):(imm [] [] W).c b o=some v:=z1v.2 ⟨fun ⟨id,n,h,_⟩=>by simp at h,hb⟩
theorem ztj {W W':World} {h:Heap} {μ:Mu} (E:(imm [] [] W).le (imm h μ W')):RowKit.Below W.heap.size W W':=by
 have hz:zed W'=zed W:=Option.some.inj E.z
 have hb:∀ b,b<W.heap.size→W'.heap[b]?=W.heap[b]?:=fun b hb=>by
  have h1:=Array.getElem?_eq_getElem hb
  rw[h1]
  exact (z9x.1 (E.b b _ (zik h1))).2
 refine⟨(congrArg World.os hz:(zed W').os=(zed W).os),(congrArg World.tape hz:(zed W').tape=(zed W).tape),(congrArg World.output hz:(zed W').output=(zed W).output),?_,hb⟩
 rcases Nat.eq_zero_or_pos W.heap.size with h0 | h0
 ·omega
 ·have h1:=hb (W.heap.size-1) (by omega)
  rw[Array.getElem?_eq_getElem (show W.heap.size-1<W.heap.size by omega)] at h1
  have:=(Array.getElem?_eq_some_iff.1 h1).1
  omega
theorem zgy {X:Ctx} (HX:Fits P X) {f:Nat} {F:AFun} (hF:X.fn f=some F) (args:Array Value) (w:World):(callFunc f args).run P w = .ok (.enter f args) w:=by
 have hck:=HX.fn f F hF
 unfold znp at hck
 split at hck
 ·rename_i fn hfn
  split at hck
  ·rename_i c hb
   simp only[Bool.and_eq_true,bne_iff_ne,ne_eq] at hck
   exact zpX hfn hb hck.2 _ w
  ·cases hck
 ·cases hck
theorem zhj {X:Ctx} (HX:Fits P X) {f:Nat} {F:AFun} (hF:X.fn f=some F) {asv:List AV} {K:Post} (H:z0c X f asv [] K) {W:World} {vs:List Value} (hG:GInv X.gl (imm [] [] W)) (hl:asv.length=vs.length)
 (hr:∀ (j:Nat) (y:AV) (v:Value),asv[j]?=some y→vs[j]?=some v→RAV (imm [] [] W) [] [] y v) :
 Calls P f vs.toArray W fun
  | .returned r,W'=>(∃ v h x μ,K v h x∧RAV (imm h μ W') h μ v r)∧RowKit.Below W.heap.size W W'
  | _,_=>False:=by
 rcases zjA HX H [] W vs (ztW W) hG hl hr with ⟨_,q⟩ | ⟨r,w',_,_,_,_,q,_⟩
 case inr=>rw[zgy HX hF] at q;cases q
 refine q.mono fun e W' he=>?_
 cases e with
 | returned r=>
  obtain⟨v,h',x,μ',k1,k2,k3,k4,k5⟩:=he
  exact⟨⟨v,h',x,μ',k1,k2⟩,ztj k4.le⟩
 | panicked _=>exact he
 | outgrown=>exact he
def zu0 (zs:List Int):AV:=.p (.sl none (zs.map fun n=>.int .i64 n))
theorem ztn (W:World):RAV (imm [] [] W) [] [] (zu0 []) (.slice none 0 0):=.p _ _ (.nils _ _ _)
theorem znm {W:World} {a:Addr} {len cap:Nat} {zs:List Int} (hs:a.spot=none) (hl:len≤cap) (hz:len≤zs.length) (hc:∀ i,i<zs.length→W.cell? (a.add i)=some (.int .i64 (zs.getD i 0))) :
 RAV (imm [] [] W) [] [] (zu0 (zs.take len)) (.slice (some a) len cap):=by
 obtain⟨b,o,s⟩:=a
 simp only at hs
 subst hs
 refine .p _ _ ?_
 have hlen:((zs.take len).map fun n=>PV.int .i64 n).length=len:=by simp [hz]
 have hfl:((zs.take len).map fun n=>PV.int .i64 n).flatMap PV.cells=(zs.take len).map fun n=>PV.int .i64 n:=by
  generalize zs.take len=l
  induction l with
  | nil=>rfl
  | cons n r ih=>simp only[List.map_cons,List.flatMap_cons,ih];rfl
 by_cases h0:len=0
 ·subst h0
  simp
  exact .nils _ _ _
 ·have key:=RPV.sl (M:=imm [] [] W) none ((zs.take len).map fun n=>PV.int .i64 n) b o cap (fun j=>.int .i64 (zs.getD j 0)) (fun hh=>by rw[hh] at hlen;simp at hlen;omega) (by rw[hlen];exact hl)
   (fun x hx=>by obtain⟨n,_,rfl⟩:=List.mem_map.1 hx;rfl)
   (fun j y hy=>by
    rw[hfl] at hy
    have hj:j<len:=by have:=z0h hy;rw[hlen] at this;exact this
    have:=hc j (by omega)
    rw[z1z] at this
    exact zfz this)
   (fun j y hy=>by
    rw[hfl] at hy
    have hj:j<len:=by have:=z0h hy;rw[hlen] at this;exact this
    have hjz:j<zs.length:=by omega
    simp [List.getElem?_take,hj,hjz] at hy
    subst hy
    have:zs.getD j 0=zs[j]:=by simp [List.getD,hjz]
    rw[this]
    exact .int _ _)
  rwa [hlen] at key
end Go.Am
end
section
/- The abstract machine,part X: the library's functions that have no Go text: comparing strings,finding a byte. -/
set_option linter.unusedSimpArgs false
set_option linter.unusedVariables false
namespace Go.Am
variable {P:Program}
structure ExtRow (P:Program) (f:Nat) (e:Array Value→Sem Value):Prop where
 row:∃ fn,P.funcs[f]?=some fn∧fn.name ≠ "runtime.NumGoroutine" ∧ fn.body=none∧Extern.findNext fn=none∧Extern.find fn=some e
theorem ExtRow.run {f:Nat} {e:Array Value→Sem Value} (R:ExtRow P f e) {us:Array Value} {w w':World} {x:Value} (he:(e us).run P w = .ok x w'):(callFunc f us).run P w = .ok (.value x) w':=by
 obtain⟨fn,h1,h2,h3,h4,h5⟩:=R.row
 unfold callFunc
 simp [h1,h2,h3,h4,h5,he]
theorem extRow_of {f:Nat} {e:Array Value→Sem Value} (h:(match P.funcs[f]? with | some fn=>fn.name != "runtime.NumGoroutine" && fn.body.isNone&&(Extern.findNext fn).isNone | none=>false)=true) (h2:(P.funcs[f]?).bind Extern.find=some e):ExtRow P f e:=by
 cases hf:P.funcs[f]? with
 | none=>rw[hf] at h;cases h
 | some fn=>
  rw[hf] at h h2
  simp only[Bool.and_eq_true,bne_iff_ne,ne_eq,Option.isNone_iff_eq_none] at h
  exact⟨⟨fn,hf,h.1.1,h.1.2,h.2,h2⟩⟩
def idxB (s:List UInt8) (c:UInt8):Int:=if s.findIdx (· == c)<s.length then (s.findIdx (· == c):Int) else -1
def cmpL:List UInt8→List UInt8→Int
 | [],[]=>0
 | [],_::_=>-1
 | _::_,[]=>1
 | a::asv,b::bs=>if a<b then -1 else if b<a then 1 else cmpL asv bs
theorem zwo (s:List UInt8) (i:Nat):(⟨s.toArray⟩:ByteArray)[i]! = s.getD i 0:=by
 by_cases h:i<s.length
 ·rw[getElem!_pos (⟨s.toArray⟩:ByteArray) i h]
  show s.toArray[i]=_
  simp [h]
 ·rw[getElem!_neg (⟨s.toArray⟩:ByteArray) i h]
  simp [Nat.not_lt.1 h]
  rfl
theorem ztP (s:List UInt8) (c:UInt8):(match (List.range (⟨s.toArray⟩:ByteArray).size).find? fun i=>(⟨s.toArray⟩:ByteArray)[i]! == c with
 | some i=>(i:Int)
 | none=>-1)=idxB s c:=by
 have hsz:(⟨s.toArray⟩:ByteArray).size=s.length:=rfl
 have hget:∀ i,i<s.length→(⟨s.toArray⟩:ByteArray)[i]! = s.getD i 0:=by
  intro i hi
  exact zwo s i
 unfold idxB
 rw[hsz]
 by_cases h:s.findIdx (· == c)<s.length
 ·rw[if_pos h]
  have hf:(List.range s.length).find? (fun i=>(⟨s.toArray⟩:ByteArray)[i]! == c)=some (s.findIdx (· == c)):=by
   rw[List.find?_eq_some_iff_getElem]
   refine⟨?_,s.findIdx (· == c),by simpa using h,by simp,fun j hj=>?_⟩
   ·rw[hget _ h]
    have:=List.findIdx_getElem (w:=h)
    simpa [h] using this
   ·simp only[List.getElem_range]
    have hj':j<s.length:=by omega
    rw[hget _ hj']
    have:=List.not_of_lt_findIdx hj
    simpa [hj'] using this
  rw[hf]
 ·rw[if_neg h]
  have hf:(List.range s.length).find? (fun i=>(⟨s.toArray⟩:ByteArray)[i]! == c)=none:=by
   rw[List.find?_eq_none]
   intro i hi
   rw[List.mem_range] at hi
   rw[hget _ hi]
   intro hc
   exact h (List.findIdx_lt_length_of_exists ⟨s[i],List.getElem_mem hi,by simpa [hi] using hc⟩)
  rw[hf]
theorem ztq:∀ (a b:List UInt8),Extern.BytealgCompare.cmp ⟨a.toArray⟩ ⟨b.toArray⟩=cmpL a b:=by
 have key:∀ (a b:List UInt8),(match (List.range (min a.length b.length)).find? fun i=>a.getD i 0 != b.getD i 0 with
  | some i=>if a.getD i 0<b.getD i 0 then (-1:Int) else 1
  | none=>if a.length<b.length then -1 else if a.length>b.length then 1 else 0)=cmpL a b:=by
  intro a
  induction a with
  | nil=>intro b;cases b <;> simp [cmpL]
  | cons x a ih=>
   intro b
   cases b with
   | nil=>simp [cmpL]
   | cons y b=>
    have hm:min (x::a).length (y::b).length=min a.length b.length+1:=by simp only[List.length_cons];omega
    rw[hm,List.range_succ_eq_map,List.find?_cons]
    simp only[List.getD_cons_zero]
    by_cases hxy:x=y
    ·subst hxy
     have hlt:¬ x<x:=UInt8.lt_irrefl x
     simp only[bne_self_eq_false,List.find?_map,cmpL,hlt,if_false]
     rw[← ih b]
     have hc:((fun i=>(x::a).getD i 0 != (x::b).getD i 0) ∘ Nat.succ)=fun i=>a.getD i 0 != b.getD i 0:=by
      funext i;simp
     rw[hc]
     cases (List.range (min a.length b.length)).find? fun i=>a.getD i 0 != b.getD i 0 with
     | none=>simp
     | some i=>simp
    ·have:(x != y)=true:=by simpa using hxy
     rw[this]
     simp only[cmpL,List.getD_cons_zero]
     by_cases h1:x<y
     ·simp [h1]
     ·have h2:y<x:=by
       rcases UInt8.lt_or_lt_of_ne (a:=x) (b:=y) hxy with h | h
       ·exact absurd h h1
       ·exact h
      simp [h1,h2]
 intro a b
 rw[← key a b]
 unfold Extern.BytealgCompare.cmp
 have sa:(⟨a.toArray⟩:ByteArray).size=a.length:=rfl
 have sb:(⟨b.toArray⟩:ByteArray).size=b.length:=rfl
 simp only[sa,sb,zwo]
 generalize List.find? _ _=q
 cases q <;> rfl
def extF (fi fc:Nat) (f:Nat) (vs:List PV):Option PV:=
 bif Nat.beq f fi then (match vs with
  | [.str s,.int .u8 c]=>some (.int .i64 (idxB s (UInt8.ofNat c.toNat)))
  | _=>none)
 else bif Nat.beq f fc then (match vs with
  | [.str a,.str b]=>some (.int .i64 (cmpL a b))
  | _=>none)
 else none
theorem extF_ok {fi fc:Nat} (h1:ExtRow P fi Extern.BytealgIndexByte.indexByte) (h2:ExtRow P fc Extern.BytealgCompare.compare) {f:Nat} {vs:List PV} {r:PV} (h:extF fi fc f vs=some r):ExtOk P f vs r:=by
 intro M w us hM hl hr
 unfold extF at h
 cases e1:Nat.beq f fi with
 | true=>
  rw[e1] at h
  have e:=Nat.eq_of_beq_eq_true e1
  subst e
  simp only[cond_true] at h
  split at h
  ·rename_i s c
   injection h with h
   subst h
   match us,hl with
   | [u,v],_=>
    have q1:=hr 0 _ u rfl rfl
    have q2:=hr 1 _ v rfl rfl
    cases q1;cases q2
    refine⟨.int .i64 (idxB s (UInt8.ofNat c.toNat)),w,h1.run ?_,WExt.refl w,.int _ _⟩
    rw[← ztP]
    show (match (List.range (⟨s.toArray⟩:ByteArray).size).find? fun i=>(⟨s.toArray⟩:ByteArray)[i]! == UInt8.ofNat c.toNat with | some i=>(pure (goInt i):Sem Value) | none=>pure (goInt (-1))).run P w=_
    generalize List.find? _ _=q
    cases q <;> rfl
  ·cases h
 | false=>
  rw[e1] at h
  simp only[cond_false] at h
  cases e2:Nat.beq f fc with
  | true=>
   rw[e2] at h
   have e:=Nat.eq_of_beq_eq_true e2
   subst e
   simp only[cond_true] at h
   split at h
   ·rename_i a b
    injection h with h
    subst h
    match us,hl with
    | [u,v],_=>
     have q1:=hr 0 _ u rfl rfl
     have q2:=hr 1 _ v rfl rfl
     cases q1;cases q2
     refine⟨.int .i64 (cmpL a b),w,h2.run ?_,WExt.refl w,.int _ _⟩
     rw[← ztq]
     rfl
   ·cases h
  | false=>rw[e2] at h;cases h
theorem ztK {X:Ctx} {f:Nat} {asv:List AV} {vs:List PV} {h h1:Heap} {r:PV} {K:Post} (hf:X.fn f=none) (h2:X.ex2 f asv h=none) (hp:z0p h asv=some (vs.map .p,h1)) (hu:unp (vs.map AV.p)=some vs) (hx:X.ext f vs=some r):z0c X f asv h K=K (.p r) h1 []:=by
 refine propext (z0c.eq (z0c.fold ?_) K)
 unfold Step
 simp only[hf,h2,hp,hu,hx]
 exact⟨trivial,trivial,trivial⟩
structure GrowRow (P:Program) (f:Nat) (sh:Sh):Prop where
 enter:∀ us w,(callFunc f us).run P w = .ok (.enter f us) w
 room:∀ a w,Calls P f #[.slice a 0 0,.int .i64 0] w fun e w'=>e = .returned (.slice a 0 0)∧w'=w
 grow:∀ a (n:Nat) w,0<n→n≤1048576→Calls P f #[.slice a 0 0,.int .i64 n] w fun e w'=>∃ G cs E,e = .returned (.slice (some ⟨w.heap.size,0,none⟩) 0 G)∧cs.size=G*z0a sh∧w'=w.drew.alloc (.cells cs E)
def zjT:List (Nat × Sh)→Nat→List AV→Heap→Option (AV × Heap × Esc)
 | [],_,_,_=>none
 | (g,sh)::r,f,asv,h=>bif Nat.beq f g then (match asv with
  | [.sl0 _,.p (.int .i64 n)]=>bif decide (0≤n)&&decide (n≤1048576) then some (.own h.length 0 0 0,h++[.row sh [] 0],[]) else none
  | _=>none) else zjT r f asv h
theorem zij {gl:Nat→Option PV}:∀ (gs:List (Nat × Sh)),(∀ g sh,(g,sh)∈gs→GrowRow P g sh)→∀ {f:Nat} {asv:List AV} {h:Heap} {v:AV} {h':Heap} {x:Esc},zjT gs f asv h=some (v,h',x) →
 z1K P gl f asv h fun v1 h1 x1=>v1=v∧h1=h'∧x1=x
 | [],_,f,asv,h,v,h',x,H=>by cases H
 | (g,sh)::r,hg,f,asv,h,v,h',x,H=>by
  unfold zjT at H
  cases e1:Nat.beq f g with
  | false=>
   rw[e1] at H
   exact zij r (fun g sh hm=>hg g sh (by simp [hm])) H
  | true=>
   rw[e1] at H
   have e:=Nat.eq_of_beq_eq_true e1
   subst e
   have R:=hg f sh (by simp)
   simp only[cond_true] at H
   split at H
   ·rename_i sh' n
    cases hb:(decide (0≤n)&&decide (n≤1048576)) with
    | false=>rw[hb] at H;cases H
    | true=>
     rw[hb] at H
     simp only[cond_true,Option.some.injEq,Prod.mk.injEq] at H
     obtain⟨rfl,rfl,rfl⟩:=H
     simp only[Bool.and_eq_true,decide_eq_true_eq] at hb
     intro μ w vs Hh Hg hl hr
     match vs,hl with
     | [u1,u2],_=>
      have q1:=hr 0 _ u1 rfl rfl
      have q2:=(hr 1 _ u2 rfl rfl).p_inv
      cases q1
      cases q2
      obtain⟨m,hm⟩:=Int.eq_ofNat_of_zero_le hb.1
      subst hm
      refine .inl ⟨R.enter _,?_⟩
      rcases Nat.eq_zero_or_pos m with h0 | h0
      ·subst h0
       refine (R.room _ w).mono fun e w' he=>?_
       obtain⟨rfl,rfl⟩:=he
       obtain⟨n1,n2⟩:=zb6 Hh sh
       refine⟨_,_,_,_,⟨rfl,rfl,rfl⟩,?_,n1,n2,z0l.push (by simp [Obj.top])⟩
       exact .own h.length 0 0 0 _ 0 sh [] 0 none (Nat.le_refl _) (by simp) (by rw[← Hh.len];simp) (by simp) (by simp) (fun _=>rfl)
      ·refine (R.grow _ m w h0 (by omega)).mono fun e w' he=>?_
       obtain⟨G,cs,E,rfl,hcs,rfl⟩:=he
       have hw:WExt w (w.drew.alloc (.cells cs E)):=(WExt.drew w _).trans (WExt.push _ _)
       obtain⟨n1,n2⟩:=z5I (sh:=sh) (xs:=[]) Hh hw (b:=w.heap.size) (n:=cs.size) (Nat.le_refl _) (by show w.heap.size<(w.heap.push _).size;simp) (c:=cs) (z0Y.push (w:=w.drew) cs E) (by simp) (by simp) (by simp)
       refine⟨_,_,_,_,⟨rfl,rfl,rfl⟩,?_,n1,n2,z0l.push (by simp [Obj.top])⟩
       refine .own h.length 0 0 0 _ G sh [] 0 (some (w.heap.size,cs.size)) (Nat.zero_le _) (by simp) (by rw[← Hh.len];simp) (by simp) (by simp) (fun _=>?_)
       exact .inr ⟨by simp,by simp [hcs]⟩
   ·cases H
end Go.Am
end
section
/- A text split at a byte. -/
set_option linter.all false
namespace Go.Am
def z0m (c:UInt8):List UInt8→List (List UInt8)
 | []=>[[]]
 | b::r=>if b=c then []::z0m c r else match z0m c r with
  | []=>[[b]]
  | p::q=>(b::p)::q
theorem z4W (c:UInt8):∀ s,z0m c s≠[]
 | []=>by simp [z0m]
 | b::r=>by
  unfold z0m
  split
  ·simp
  ·split <;> simp
theorem z5O {c:UInt8}:∀ {s:List UInt8},c∉s→z0m c s=[s]
 | [],_=>rfl
 | b::r,h=>by
  simp only[List.mem_cons,not_or] at h
  unfold z0m
  rw[if_neg (fun e=>h.1 e.symm),z5O h.2]
theorem z5t {c:UInt8}:∀ {a b:List UInt8},c∉a→z0m c (a++c::b)=a::z0m c b
 | [],b,_=>by simp [z0m]
 | x::a,b,h=>by
  simp only[List.mem_cons,not_or] at h
  rw[List.cons_append,z0m.eq_2,if_neg (fun e=>h.1 e.symm),z5t h.2]
theorem z0O (c:UInt8):∀ s:List UInt8,(z0m c s).length=s.count c+1
 | []=>rfl
 | b::r=>by
  unfold z0m
  by_cases e:b=c
  ·subst e;rw[if_pos rfl,List.length_cons,z0O b r,List.count_cons_self]
  ·rw[if_neg e]
   have ih:=z0O c r
   rw[List.count_cons_of_ne e]
   split
   ·rename_i h;exact absurd h (z4W c r)
   ·rename_i p q h;rw[h] at ih;simpa using ih
theorem zn4 {c:UInt8} {s:List UInt8} (h:c∈s):∃ a b,s=a++c::b∧c∉a:=by
 induction s with
 | nil=>simp at h
 | cons x r ih=>
  by_cases e:x=c
  ·subst e;exact⟨[],r,rfl,by simp⟩
  ·rcases List.mem_cons.1 h with rfl | h
   ·exact absurd rfl e
   ·obtain⟨a,b,rfl,hb⟩:=ih h
    exact⟨x::a,b,rfl,by simp only[List.mem_cons,not_or];exact⟨fun q=>e q.symm,hb⟩⟩
def z16 (c:UInt8):Nat→List UInt8→List UInt8
 | 0,s=>s
 | k+1,s=>z16 c k ((s.dropWhile (· != c)).drop 1)
theorem zxL {c:UInt8} {a b:List UInt8} (h:c∉a):((a++c::b).dropWhile (· != c)).drop 1=b:=by
 induction a with
 | nil=>simp
 | cons x r ih=>
  simp only[List.mem_cons,not_or] at h
  rw[List.cons_append,List.dropWhile_cons,if_pos (by simp;exact fun e=>h.1 e.symm)]
  exact ih h.2
theorem z3G (c:UInt8):∀ (k:Nat) (s:List UInt8),k≤s.count c→z0m c (z16 c k s)=(z0m c s).drop k∧(z16 c k s).length≤s.length∧(z16 c k s).count c=s.count c-k
 | 0,s,_=>⟨rfl,Nat.le_refl _,rfl⟩
 | k+1,s,h=>by
  obtain⟨a,b,rfl,hb⟩:=zn4 (c:=c) (s:=s) (List.count_pos_iff.1 (by omega))
  have ha:a.count c=0:=List.count_eq_zero.2 hb
  have hc:(a++c::b).count c=b.count c+1:=by rw[List.count_append,List.count_cons_self,ha];omega
  obtain⟨h1,h2,h3⟩:=z3G c k b (by omega)
  unfold z16
  rw[zxL hb,z5t hb,List.drop_succ_cons,h1,h3,hc]
  exact⟨rfl,by simp;omega,by omega⟩
theorem z9Z (c:UInt8):∀ (k:Nat) (s:List UInt8),z16 c (k+1) s=((z16 c k s).dropWhile (· != c)).drop 1
 | 0,s=>rfl
 | k+1,s=>by
  show z16 c (k+1) _=_
  rw[z9Z c k]
  rfl
end Go.Am
end
section
/- A text read line by line. -/
set_option linter.all false
namespace Go.Am
def lnsD (s:List UInt8):List (List UInt8):=(z0m 10 s).dropLast
def lnsT (s:List UInt8):Bool:=!((z0m 10 s).getLast?.getD []).isEmpty
def lnsF {σ:Type} (take:σ→List UInt8→Bool × σ) (tail:Bool):Nat→List (List UInt8)→σ→(Nat × Bool) × σ
 | i,[],s=>bif tail then ((i,false),s) else ((0,true),s)
 | i,l::r,s=>bif (take s l).1 then lnsF take tail (i+1) r (take s l).2 else ((i,false),(take s l).2)
theorem z6s {σ:Type} {take:σ→List UInt8→Bool × σ} {tail:Bool} {i:Nat} {s:σ}:lnsF take tail i [] s=bif tail then ((i,false),s) else ((0,true),s):=rfl
theorem z48 {σ:Type} {take:σ→List UInt8→Bool × σ} {tail:Bool} {i:Nat} {l:List UInt8} {r:List (List UInt8)} {s:σ}:lnsF take tail i (l::r) s=bif (take s l).1 then lnsF take tail (i+1) r (take s l).2 else ((i,false),(take s l).2):=rfl
theorem zam {c:UInt8}:∀ {s:List UInt8},z0m c (s++[c])=z0m c s++[[]]
 | []=>by simp [z0m]
 | b::r=>by
  have ih:=zam (c:=c) (s:=r)
  rw[List.cons_append,z0m.eq_2,z0m.eq_2,ih]
  split
  ·rfl
  ·cases h:z0m c r with
   | nil=>exact absurd h (z4W c r)
   | cons p q=>rfl
theorem z7C {c:UInt8}:∀ {s:List UInt8},(z0m c s).getLast?=some []→s=[]∨s.getLast?=some c
 | [],_=>.inl rfl
 | b::r,h=>by
  right
  rw[z0m.eq_2] at h
  have hr:=z4W c r
  by_cases e:b=c
  ·subst e
   rw[if_pos rfl,List.getLast?_cons] at h
   cases hl:(z0m b r).getLast? with
   | none=>simp at hl;exact absurd hl hr
   | some p=>
    rw[hl] at h
    simp at h
    subst h
    rcases z7C hl with rfl | h2
    ·rfl
    ·rw[List.getLast?_cons,h2];rfl
  ·rw[if_neg e] at h
   cases hq:z0m c r with
   | nil=>exact absurd hq hr
   | cons p q=>
    rw[hq] at h
    cases q with
    | nil=>simp at h
    | cons p2 q2=>
     have:(z0m c r).getLast?=some []:=by rw[hq];simpa using h
     rcases z7C this with rfl | h2
     ·simp [z0m] at hq
     ·rw[List.getLast?_cons,h2];rfl
theorem zjX {s:List UInt8} (h:s.getLast?=some 10):z0m 10 s.dropLast=lnsD s∧lnsT s=false:=by
 rcases List.eq_nil_or_concat s with rfl | ⟨r,x,rfl⟩
 ·simp at h
 ·simp only[List.concat_eq_append] at *
  simp at h
  subst h
  have e:=zam (c:=10) (s:=r)
  unfold lnsD lnsT
  rw[e]
  simp
theorem zrl {s:List UInt8} (h0:s≠[]) (h:s.getLast?≠some 10):∃ t,z0m 10 s=lnsD s++[t]∧lnsT s=true:=by
 have hne:=z4W 10 s
 refine⟨(z0m 10 s).getLast hne,(List.dropLast_concat_getLast hne).symm,?_⟩
 unfold lnsT
 rw[List.getLast?_eq_getLast hne]
 simp only[Option.getD_some,Bool.not_eq_true',List.isEmpty_eq_false_iff]
 intro e
 rcases z7C (c:=10) (s:=s) (by rw[List.getLast?_eq_getLast hne,e]) with h1 | h1
 ·exact h0 h1
 ·exact h h1
end Go.Am
end
section
/- The abstract machine,part L: functions of the library that are met by the kit's contracts: plain values in,plain values out,new memory at most. -/
set_option linter.unusedSimpArgs false
set_option linter.unusedVariables false
namespace Go.Am
variable {P:Program} {gl:Nat→Option PV}
structure PureRow (P:Program) (gl:Nat→Option PV) (f:Nat) (spec:List PV→Option AV):Prop where
 enter:∀ us w,(callFunc f us).run P w = .ok (.enter f us) w
 run:∀ (M:Mem) (w:World) (vs:List PV) (r:AV) (us:List Value),(∀ b o v,M.c b o=some v→w.cell? ⟨b,o,none⟩=some v)→(∀ b o,M.b b=some o→w.heap[b]?=some o)→GInv gl M→vs.length=us.length →
  (∀ (j:Nat) (y:PV) (v:Value),vs[j]?=some y→us[j]?=some v→RPV M y v)→spec vs=some r →
  Calls P f us.toArray w fun e w'=>∃ x,e = .returned x∧WExt w w'∧RAV (ExtM M w w') [] [] r x
abbrev zau:=List (Nat × (List PV→Option AV))
def zcE:zau→Nat→List AV→Heap→Option (AV × Heap × Esc)
 | [],_,_,_=>none
 | (g,s)::r,f,asv,h=>bif Nat.beq f g then ((unp asv).bind s).map fun v=>(v,h,[]) else zcE r f asv h
theorem zcF:∀ (gs:zau),(∀ g s,(g,s)∈gs→PureRow P gl g s)→∀ {f:Nat} {asv:List AV} {h:Heap} {v:AV} {h':Heap} {x:Esc},zcE gs f asv h=some (v,h',x) →
 z1K P gl f asv h fun v1 h1 x1=>v1=v∧h1=h'∧x1=x
 | [],_,f,asv,h,v,h',x,H=>by cases H
 | (g,s)::r,hg,f,asv,h,v,h',x,H=>by
  unfold zcE at H
  cases e1:Nat.beq f g with
  | false=>
   rw[e1] at H
   exact zcF r (fun g sh hm=>hg g sh (by simp [hm])) H
  | true=>
   rw[e1] at H
   have e:=Nat.eq_of_beq_eq_true e1
   subst e
   have R:=hg f s (by simp)
   simp only[cond_true] at H
   obtain⟨y,hy,e2⟩:=Option.map_eq_some_iff.1 H
   simp only[Prod.mk.injEq] at e2
   obtain⟨rfl,rfl,rfl⟩:=e2
   obtain⟨ps,hps,hs⟩:=Option.bind_eq_some_iff.1 hy
   have hm:=z5v hps
   subst hm
   intro μ w vs Hh Hg hl hr
   refine .inl ⟨R.enter _,?_⟩
   refine (R.run (imm h μ w) w ps y vs (fun b o v hv=>(z1v.1 hv).2) (fun b o hv=>(z9x.1 hv).2) Hg (by simpa using hl) (fun j q v hq hv=>(hr j (.p q) v (by simp [hq]) hv).p_inv) hs).mono fun e w' he=>?_
   obtain⟨u,rfl,g1,g2⟩:=he
   obtain⟨n1,n2⟩:=Hh.ext g1
   have Lq:(ExtM (imm h μ w) w w').le (imm h μ w'):=by
    refine⟨fun b o v hv=>?_,fun b o hv=>?_,rfl,fun _ _ h=>by cases h⟩
    ·dsimp only[ExtM] at hv
     split at hv
     ·exact n2.le.c _ _ _ hv
     ·rename_i hb
      exact z1v.2 ⟨fun hO=>hb (zc8 Hh hO),hv⟩
    ·dsimp only[ExtM] at hv
     cases hv
   exact⟨_,_,_,μ,⟨rfl,rfl,rfl⟩,g2.evo ⟨Lq,Nat.zero_le _,fun id o m h1=>by simp at h1⟩,n1,n2,z0l.refl h []⟩
def libF (gs:List (Nat × Sh)) (ps:zau) (f:Nat) (asv:List AV) (h:Heap):Option (AV × Heap × Esc):=match zjT gs f asv h with
 | some y=>some y
 | none=>match zcE ps f asv h with
  | some y=>some y
  | none=>match z0p h asv with
   | some (asv',h1)=>zcE ps f asv' h1
   | none=>none
theorem zrA {ps:zau} (hp:∀ g s,(g,s)∈ps→PureRow P gl g s) {f:Nat} {asv asv':List AV} {h h1:Heap} {v:AV} {h':Heap} {x:Esc} (hq:z0p h asv=some (asv',h1)) (H:zcE ps f asv' h1=some (v,h',x)) :
 z1K P gl f asv h fun v1 h2 x1=>v1=v∧h2=h'∧x1=x:=by
 intro μ w vs Hh Hg hl hr
 obtain⟨q1,q2,q3⟩:=z8u asv Hh hl hr hq
 rcases zcF ps hp H μ w vs q1.1 (Hg.mono q1.2.1.le) q2 q3 with ⟨k1,k2⟩ | ⟨r,w',v2,h2,x2,μ',k1,k2,k3,k4,k5,k6⟩
 ·refine .inl ⟨k1,k2.mono fun e w' he=>?_⟩
  cases e with
  | returned r=>
   obtain⟨v2,h2,x2,μ',k2,k3,k4,k5,k6⟩:=he
   exact⟨v2,h2,x2,μ',k2,k3,k4,q1.2.1.trans k5,by simpa using q1.2.2.trans k6⟩
  | panicked _=>exact he
  | outgrown=>exact he
 ·exact .inr ⟨r,w',v2,h2,x2,μ',k1,k2,k3,k4,q1.2.1.trans k5,by simpa using q1.2.2.trans k6⟩
theorem libF_ok {gs:List (Nat × Sh)} {ps:zau} (hg:∀ g sh,(g,sh)∈gs→GrowRow P g sh) (hp:∀ g s,(g,s)∈ps→PureRow P gl g s) {f:Nat} {asv:List AV} {h:Heap} {v:AV} {h':Heap} {x:Esc} (H:libF gs ps f asv h=some (v,h',x)) :
 z1K P gl f asv h fun v1 h1 x1=>v1=v∧h1=h'∧x1=x:=by
 unfold libF at H
 split at H
 ·rename_i y hy
  cases H
  exact zij gs hg hy
 ·split at H
  ·rename_i y hy
   cases H
   exact zcF ps hp hy
  ·split at H
   ·rename_i asv' h1 hq
    exact zrA hp hq H
   ·cases H
theorem z3U {X:Ctx} {f:Nat} {asv:List AV} {h h':Heap} {v:AV} {x:Esc} {K:Post} (hf:X.fn f=none) (hx:X.ex2 f asv h=some (v,h',x)):z0c X f asv h K=K v h' x:=by
 refine propext (z0c.eq (z0c.fold ?_) K)
 unfold Step
 simp only[hf,hx]
 exact⟨trivial,trivial,trivial⟩
def zfy:List (Nat × Sh)→Nat→Option Sh
 | [],_=>none
 | (g,s)::r,f=>bif Nat.beq f g then some s else zfy r f
theorem z7x:∀ {gs:List (Nat × Sh)} {f:Nat} {asv:List AV} {h:Heap},zfy gs f=none→zjT gs f asv h=none
 | [],f,asv,h,_=>rfl
 | (g,s)::r,f,asv,h,hm=>by
  unfold zfy at hm
  unfold zjT
  cases hq:Nat.beq f g with
  | true=>rw[hq] at hm;cases hm
  | false=>rw[hq] at hm;exact z7x hm
def zfB:zau→Nat→Option (List PV→Option AV)
 | [],_=>none
 | (g,s)::r,f=>bif Nat.beq f g then some s else zfB r f
theorem z7b:∀ {gs:zau} {f:Nat} {s:List PV→Option AV} {asv:List AV} {h:Heap},zfB gs f=some s→zcE gs f asv h=((unp asv).bind s).map fun v=>(v,h,[])
 | [],f,s,asv,h,hm=>by cases hm
 | (g,s')::r,f,s,asv,h,hm=>by
  unfold zfB at hm
  unfold zcE
  cases hq:Nat.beq f g with
  | true=>rw[hq] at hm;cases hm;rfl
  | false=>rw[hq] at hm;exact z7b hm
theorem z3o {gs:List (Nat × Sh)} {ps:zau} {f:Nat} {s:List PV→Option AV} {asv:List AV} {vs:List PV} {v:AV} {h:Heap} (hg:zfy gs f=none) (hm:zfB ps f=some s) (hu:unp asv=some vs) (hv:s vs=some v):libF gs ps f asv h=some (v,h,[]):=by
 unfold libF;rw[z7x hg,z7b hm,hu];simp [hv]
theorem zui {gs:List (Nat × Sh)} {ps:zau} {f:Nat} {s:List PV→Option AV} {asv asv':List AV} {vs:List PV} {v:AV} {h h1:Heap} (hg:zfy gs f=none) (hm:zfB ps f=some s) (hn:unp asv=none) (hp:z0p h asv=some (asv',h1)) (hu:unp asv'=some vs) (hv:s vs=some v):libF gs ps f asv h=some (v,h1,[]):=by
 unfold libF
 rw[z7x hg,z7b hm,hn,hp]
 show zcE ps f asv' h1=_
 rw[z7b hm,hu]
 simp [hv]
def glOf:List (Nat × PV)→Nat→Option PV
 | [],_=>none
 | (g,v)::r,n=>bif Nat.beq n g then some v else glOf r n
theorem zz4 {f:Nat} (h:(match P.funcs[f]? with | some fn=>fn.body.isSome&&fn.name != "runtime.NumGoroutine" | none=>false)=true) (us:Array Value) (w:World):(callFunc f us).run P w = .ok (.enter f us) w:=by
 cases hf:P.funcs[f]? with
 | none=>rw[hf] at h;cases h
 | some fn=>
  rw[hf] at h
  simp only[Bool.and_eq_true,bne_iff_ne,ne_eq] at h
  cases hb:fn.body with
  | none=>rw[hb] at h;cases h.1
  | some c=>exact zpX hf hb h.2 us w
def digC (n:Nat):UInt8:=UInt8.ofNat (48+n)
def decN (n:Nat):List UInt8:=if n<10 then [digC n] else decN (n / 10)++[digC (n%10)]
termination_by n
decreasing_by omega
def itoa (n:Int):List UInt8:=if n<0 then 45::decN n.natAbs else decN n.natAbs
theorem z4z {n:Nat} (h:n<10):decN n=[digC n]:=by rw[decN,if_pos h]
theorem zg6 {n:Nat} (h:10≤n):decN n=decN (n / 10)++[digC (n%10)]:=by rw[decN,if_neg (by omega)]
def zq2:List PV→Option AV
 | [.int .i64 n]=>bif decide (-9223372036854775808≤n)&&decide (n≤9223372036854775807) then some (.p (.str (itoa n))) else none
 | _=>none
def zcC:PV:=.agg ((List.range 20).map fun i=>.int .u64 ((10^i:Nat):Int))
def digN:Nat→List UInt8→Option Nat
 | acc,[]=>some acc
 | acc,c::r=>if 48≤c.toNat∧c.toNat≤57 then digN (acc*10+(c.toNat-48)) r else none
def zj4:List PV→Option AV
 | [.str s]=>if 1≤s.length∧s.length≤18 then match digN 0 s with
  | some n=>some (.tup [.p (.int .i64 (n:Int)),.nili])
  | none=>if s.head?=some 45∧2≤s.length then (digN 0 s.tail).map fun (n:Nat)=>.tup [.p (.int .i64 (-(n:Int))),.nili] else none
  else none
 | _=>none
theorem zfg:∀ (a:List UInt8) (acc:Nat) (c:UInt8),digN acc (a++[c])=(digN acc a).bind fun n=>if 48≤c.toNat∧c.toNat≤57 then some (n*10+(c.toNat-48)) else none
 | [],acc,c=>by
  simp only[List.nil_append,digN,Option.bind_some]
 | d::a,acc,c=>by
  simp only[List.cons_append,digN]
  split
  ·exact zfg a _ c
  ·rfl
theorem ztx {n:Nat} (h:n<10):(digC n).toNat=48+n:=by
 simp only[digC,UInt8.toNat_ofNat']
 omega
theorem zcn:∀ (k n:Nat),n<10^(k+1)→1≤(decN n).length∧(decN n).length≤k+1
 | 0,n,h=>by rw[z4z (by simpa using h)];simp
 | k+1,n,h=>by
  rcases Nat.lt_or_ge n 10 with h1 | h1
  ·rw[z4z h1];simp
  ·have:=zcn k (n / 10) (by rw[Nat.div_lt_iff_lt_mul (by omega)];rw[Nat.pow_succ] at h;exact h)
   rw[zg6 h1]
   simp;omega
def repL (s:List UInt8):Nat→List UInt8
 | 0=>[]
 | c+1=>s++repL s c
def z9Y:List PV→Option AV
 | [.str s,.int .i64 c]=>if 0≤c∧s.length*c.toNat≤1000000∧c≤1000000 then some (.p (.str (repL s c.toNat))) else none
 | _=>none
def zv2 (s cs:List UInt8):List UInt8:=(s.reverse.dropWhile (cs.contains ·)).reverse.dropWhile (cs.contains ·)
def trimS:List PV→Option AV
 | [.str s,.str cs]=>if s.length≤1000000∧cs.length≤1000∧cs.all (fun b=>decide (b.toNat<128))=true then some (.p (.str (zv2 s cs))) else none
 | _=>none
def zhm:List PV→Option AV
 | [.str s,.str [c]]=>some (.p (.int .i64 (s.count c)))
 | _=>none
def z2X:List PV→Option (List (List UInt8))
 | []=>some []
 | .str s::r=>(z2X r).map (s :: ·)
 | _=>none
def zq3:List PV→Option AV
 | [.sl none xs,.str sep]=>(z2X xs).bind fun l=>if l.length≤1000000∧(sep.intercalate l).length≤1000000000 then some (.p (.str (sep.intercalate l))) else none
 | _=>none
theorem zky (l:List (List UInt8)):z2X (l.map PV.str)=some l:=by
 induction l with
 | nil=>rfl
 | cons a r ih=>rw[List.map_cons,z2X,ih];rfl
theorem zgc:∀ {xs:List PV} {l:List (List UInt8)},z2X xs=some l→xs=l.map PV.str
 | [],l,h=>by simp [z2X] at h;subst h;rfl
 | .str s::r,l,h=>by
  rw[z2X] at h
  obtain⟨q,hq,rfl⟩:=Option.map_eq_some_iff.1 h
  rw[zgc hq]
  rfl
 | .int _ _::_,l,h=>by simp [z2X] at h
 | .bool _::_,l,h=>by simp [z2X] at h
 | .sl _ _::_,l,h=>by simp [z2X] at h
 | .agg _::_,l,h=>by simp [z2X] at h
 | .nilp::_,l,h=>by simp [z2X] at h
 | .unk::_,l,h=>by simp [z2X] at h
def zgB:PV→Bool
 | .agg [.int .i64 _,.int .i64 _,.int .i64 _,.str _,.str _,.str _]=>true
 | _=>false
def zcl:PV→Int
 | .agg (.int _ k::_)=>k
 | _=>0
def zqx:PV:=.agg [.int .i64 0,.int .i64 1,.int .i64 0,.str [],.str [],.str []]
def z2R (l:List PV) (k:Int):PV:=(l.reverse.find? fun c=>zcl c==k).getD zqx
def z7k:List PV→Option AV
 | [.sl (some 6) xs,.int .i64 i,.int .i64 k]=>if 0≤i∧i≤(xs.length:Int)∧xs.length≤1000000∧xs.all zgB=true then some (.p (z2R (xs.take i.toNat) k)) else none
 | _=>none
end Go.Am
end
section
/- Numbers in texts. -/
set_option linter.all false
namespace Go.Am
def digB (c:UInt8):Bool:=decide (48≤c.toNat)&&decide (c.toNat≤57)
def z0G (s:List UInt8):List UInt8:=if s.take 1=[45] then s.drop 1 else s
def numF (digits:Nat) (s:List UInt8):Bool:=!(z0G s).isEmpty&&decide ((z0G s).length≤digits) && !(decide ((z0G s).head?=some 48)&&(decide (1<(z0G s).length)||decide ((z0G s).length<s.length)))&&(z0G s).all digB
def numV (s:List UInt8):Int:=if s.take 1=[45] then -(((digN 0 (z0G s)).getD 0:Nat):Int) else ((digN 0 (z0G s)).getD 0:Nat)
theorem z8s:∀ (s:List UInt8) (acc:Nat),s.all digB=true→∃ n,digN acc s=some n
 | [],acc,_=>⟨acc,rfl⟩
 | c::r,acc,h=>by
  simp only[List.all_cons,Bool.and_eq_true] at h
  obtain⟨n,hn⟩:=z8s r (acc*10+(c.toNat-48)) h.2
  refine⟨n,?_⟩
  have hc:48≤c.toNat∧c.toNat≤57:=by simpa [digB] using h.1
  unfold digN
  rw[if_pos hc,hn]
theorem zxD {r:List UInt8}:digN 0 (45::r)=none:=by
 unfold digN
 rw[if_neg]
 decide
theorem ztg {s:List UInt8} (h1:z0G s≠[]) (h2:(z0G s).length≤17) (h:(z0G s).all digB=true):zj4 [.str s]=some (.tup [.p (.int .i64 (numV s)),.nili]):=by
 obtain⟨n,hn⟩:=z8s (z0G s) 0 h
 unfold zj4 numV
 by_cases e:s.take 1=[45]
 ·have ed:z0G s=s.drop 1:=by unfold z0G;rw[if_pos e]
  cases s with
  | nil=>simp at e
  | cons c r=>
   simp at e
   subst e
   rw[ed] at h1 h2 hn
   simp only[List.drop_one,List.tail_cons] at h1 h2 hn
   have hr:1≤r.length:=by cases r with | nil=>exact absurd rfl h1 | cons _ _=>simp
   simp only[List.length_cons]
   rw[if_pos ⟨by omega,by omega⟩,zxD]
   simp only[List.head?_cons,List.tail_cons]
   rw[if_pos ⟨trivial,by omega⟩,hn,ed]
   simp [hn]
 ·have ed:z0G s=s:=by unfold z0G;rw[if_neg e]
  rw[ed] at h1 h2 hn
  have hr:1≤s.length:=by cases s with | nil=>exact absurd rfl h1 | cons _ _=>simp
  simp only
  rw[if_pos ⟨hr,by omega⟩,hn,if_neg e,ed,hn]
  rfl
theorem zod {c:UInt8} (h:digB c=true):digC (c.toNat-48)=c:=by
 have hc:48≤c.toNat∧c.toNat≤57:=by simpa [digB] using h
 unfold digC
 apply UInt8.toNat_inj.1
 rw[UInt8.toNat_ofNat']
 omega
theorem zff:∀ (n:Nat),(decN n).head?=some 48→n=0:=by
 intro n
 induction n using Nat.strongRecOn with
 | ind n ih=>
  intro h
  rcases Nat.lt_or_ge n 10 with h1 | h1
  ·rw[z4z h1] at h
   simp only[List.head?_cons,Option.some.injEq] at h
   have:=congrArg UInt8.toNat h
   rw[ztx h1] at this
   have e:(48:UInt8).toNat=48:=rfl
   omega
  ·rw[zg6 h1] at h
   have hl:=zcn (n / 10) (n / 10) (by have:=@Nat.lt_pow_self (n / 10+1) 10 (by omega);omega)
   have:(decN (n / 10)).head?=some 48:=by
    cases hq:decN (n / 10) with
    | nil=>rw[hq] at hl;simp at hl
    | cons a r=>rw[hq] at h;simpa using h
   have:=ih (n / 10) (by omega) this
   omega
theorem zoc (d:List UInt8):∀ n,d.all digB=true→d≠[]→(d.head?≠some 48∨d.length=1)→digN 0 d=some n→decN n=d:=by
 induction hr:d.length generalizing d with
 | zero=>intro n _ h;exact absurd (List.length_eq_zero_iff.1 hr) h
 | succ k ih=>
  intro n ha h0 hz hn
  rcases List.eq_nil_or_concat d with rfl | ⟨a,c,rfl⟩
  ·exact absurd rfl h0
  ·simp only[List.concat_eq_append] at *
   rw[List.all_append] at ha
   simp only[Bool.and_eq_true,List.all_cons,List.all_nil,Bool.and_true] at ha
   have hc:48≤c.toNat∧c.toNat≤57:=by simpa [digB] using ha.2
   rw[zfg] at hn
   obtain⟨m,hm,hn2⟩:=Option.bind_eq_some_iff.1 hn
   rw[if_pos hc] at hn2
   simp only[Option.some.injEq] at hn2
   cases a with
   | nil=>
    simp only[digN,Option.some.injEq] at hm
    subst hm
    rw[← hn2,Nat.zero_mul,Nat.zero_add,z4z (by omega),zod ha.2]
    rfl
   | cons x r=>
    simp only[List.cons_append,List.head?_cons,List.length_cons,List.length_append,List.length_nil] at hz hr
    have hx:x≠48:=by
     rcases hz with h | h
     ·exact fun e=>h (by rw[e])
     ·omega
    have q:=ih (x::r) (by simp;omega) m ha.1 (by simp) (by left;simpa using hx) hm
    have hm1:m≠0:=by
     intro e
     subst e
     rw[z4z (by omega)] at q
     injection q with q1 q2
     exact hx (q1.symm.trans rfl)
    rw[← hn2,zg6 (by omega),show (m*10+(c.toNat-48)) / 10=m by omega,show (m*10+(c.toNat-48))%10=c.toNat-48 by omega,q,zod ha.2]
theorem zuf {s:List UInt8} (h1:z0G s≠[]) (h:(z0G s).all digB=true):decide (itoa (numV s)=s) = !(decide ((z0G s).head?=some 48)&&(decide (1<(z0G s).length)||decide ((z0G s).length<s.length))):=by
 obtain⟨n,hn⟩:=z8s (z0G s) 0 h
 have key:decN n=z0G s↔¬ ((z0G s).head?=some 48∧1<(z0G s).length):=by
  constructor
  ·rintro e ⟨q1,q2⟩
   rw[← e] at q1 q2
   have:=zff n q1
   subst this
   rw[z4z (by omega)] at q2
   simp at q2
  ·intro q
   refine zoc _ n h h1 ?_ hn
   by_cases q1:(z0G s).head?=some 48
   ·right
    have:¬ 1<(z0G s).length:=fun q2=>q ⟨q1,q2⟩
    have:1≤(z0G s).length:=by cases hq:z0G s with | nil=>exact absurd hq h1 | cons _ _=>simp
    omega
   ·exact .inl q1
 unfold numV
 rw[hn]
 simp only[Option.getD_some]
 by_cases e:s.take 1=[45]
 ·have ed:z0G s=s.drop 1:=by unfold z0G;rw[if_pos e]
  rw[if_pos e]
  cases s with
  | nil=>simp at e
  | cons c r=>
   simp at e
   subst e
   rw[ed] at key hn h1 ⊢
   simp only[List.drop_one,List.tail_cons] at key hn h1 ⊢
   have hlt:decide (r.length<(45::r:List UInt8).length)=true:=by simp
   rw[hlt,Bool.or_true,Bool.and_true]
   by_cases h0:n=0
   ·subst h0
    have:decide (itoa (-((0:Nat):Int))=45::r)=false:=by
     simp [itoa,z4z,digC]
    rw[this]
    have hd0:r.head?=some 48:=by
     by_cases q:r.head?=some 48
     ·exact q
     ·have e:=zoc r 0 (by rw[ed] at h;exact h) h1 (.inl q) hn
      rw[z4z (by omega)] at e
      rw[← e]
      rfl
    simp [hd0]
   ·have:itoa (-(n:Int))=45::decN n:=by
     unfold itoa
     rw[if_pos (by omega)]
     simp
    rw[this]
    have k2:(45::decN n=45::r)↔¬ r.head?=some 48:=by
     constructor
     ·intro q q1
      injection q with _ q
      rw[← q] at q1
      exact h0 (zff n q1)
     ·intro q
      rw[key.2 (fun z=>q z.1)]
    by_cases q:r.head?=some 48
    ·simp [k2,q]
    ·simp [k2,q]
 ·have ed:z0G s=s:=by unfold z0G;rw[if_neg e]
  rw[if_neg e]
  rw[ed] at key ⊢
  have:itoa (n:Int)=decN n:=by
   unfold itoa
   rw[if_neg (by omega)]
   simp
  rw[this]
  by_cases q:decN n=s
  ·have:=key.1 q
   simp only[q,decide_true,Nat.lt_irrefl,decide_false,Bool.or_false]
   simp only[not_and] at this
   by_cases q1:s.head?=some 48
   ·simp [q1,this q1]
   ·simp [q1]
  ·have:=Classical.byContradiction fun z=>q (key.2 z)
   simp [q,this.1,this.2]
end Go.Am
end
section
/- Faults read: the program's line and the reference's line agree. -/
set_option linter.all false
namespace Go.Am
def numR (most:Nat) (s:List UInt8):Int:=if z0G s≠[]∧(z0G s).length≤most∧(z0G s).all digB=true then numV s else 0
def zwQ (s:List UInt8):Bool:=!((z0m 32 s).contains [])
theorem zy3 {d:Nat} {s:List UInt8} (h:numF d s=true):z0G s≠[]∧(z0G s).length≤d∧(z0G s).all digB=true:=by
 unfold numF at h
 simp only[Bool.and_eq_true,Bool.not_eq_true',decide_eq_true_eq,List.isEmpty_eq_false_iff] at h
 exact⟨h.1.1.1,h.1.1.2,h.2⟩
theorem numR_V {d:Nat} {s:List UInt8} (h:numF d s=true):numR d s=numV s:=by
 unfold numR
 rw[if_pos (zy3 h)]
theorem zio {σ τ:Type} {f:σ→List UInt8→Bool × σ} {g:τ→List UInt8→Bool × τ} (R:σ→τ→Prop) (hR:∀ s t l,R s t→(f s l).1=(g t l).1∧((f s l).1=true→R (f s l).2 (g t l).2)) (tail:Bool) :
 ∀ (ls:List (List UInt8)) (i:Nat) (s:σ) (t:τ),R s t→(lnsF f tail i ls s).1=(lnsF g tail i ls t).1∧((lnsF f tail i ls s).1.2=true→R (lnsF f tail i ls s).2 (lnsF g tail i ls t).2)
 | [],i,s,t,h=>by
  rw[z6s,z6s]
  cases tail with
  | true=>exact⟨rfl,fun e=>by cases e⟩
  | false=>exact⟨rfl,fun _=>h⟩
 | l::r,i,s,t,h=>by
  obtain⟨h1,h2⟩:=hR s t l h
  rw[z48,z48,← h1]
  cases hb:(f s l).1 with
  | true=>exact zio R hR tail r (i+1) _ _ (h2 hb)
  | false=>exact⟨rfl,fun e=>by cases e⟩
end Go.Am
end
section
/- What is written is read: numbers,words,lines. -/
set_option linter.all false
namespace Go.Am
def zrx (l:List Int):List UInt8:=([32]:List UInt8).intercalate (l.map itoa)
end Go.Am
end
section
/- Programs asv texts,plainly: written,read both ways. -/
set_option linter.all false
namespace Go.Am
def z3L:List (List UInt8):=[[],[101,110,100,105,114],[101,110,100,100,114],[104,101,97,100,105,114],[116,97,105,108,105,114],[104,101,97,100,100,114],[116,97,105,108,100,114],[115,99,97,110,105,114],[115,99,97,110,100,114],[105,100,108,101],[103,111]]
def z7n (k:Int):List UInt8:=(z3L[k.toNat]?).getD []
def z5d:List (List UInt8):=[[114,101,115,101,116],[105,100,108,101],[112,97,117,115,101,100,114],[112,97,117,115,101,105,114]]
def z1d:List Int:=[0,1,6,13]
def z2W (n:Int):List UInt8:=if n=0 then [114,101,115,101,116] else if n=1 then [105,100,108,101] else if n=6 then [112,97,117,115,101,100,114] else [112,97,117,115,101,105,114]
def z6p (c:Cmd):List UInt8:=
 z7n c.k++32::(if c.k=1∨c.k=2∨c.k=10 then z2W c.s else if c.k=9 then itoa c.cl else if (c.k=7∨c.k=8)∧c.w≠[] then c.b++32::(c.w++32::c.m) else if c.b=[] then [45] else c.b)
def z1C (l:List Cmd):List UInt8:=(l.map fun c=>z6p c++[10]).flatten
def kV (w:List UInt8):Nat:=z3L.findIdx fun y=>decide (y=w)
def tV (w:List UInt8):Nat:=z5d.findIdx fun y=>decide (y=w)
def cmd0:Cmd:=⟨0,0,0,[],[],[]⟩
def kP (w:List UInt8):Int:=if 1≤kV w∧kV w≤10 then (kV w:Int) else 0
def kQ (w:List UInt8):Int:=if kV w<11 then (kV w:Int) else -1
def wd (ws:List (List UInt8)) (i:Nat):List UInt8:=(ws[i]?).getD []
def stT (w:List UInt8):Int:=(z1d[tV w]?).getD 0
def rdPC (ws:List (List UInt8)):Cmd × Bool:=
 if ws.contains []=true then (cmd0,false)
 else if (kP (wd ws 0)=7∨kP (wd ws 0)=8)∧ws.length=4 then (⟨kP (wd ws 0),0,0,wd ws 1,wd ws 2,wd ws 3⟩,true)
 else if kP (wd ws 0)=0∨ws.length≠2 then (cmd0,false)
 else if kP (wd ws 0)=1∨kP (wd ws 0)=2∨kP (wd ws 0)=10 then (if tV (wd ws 1)<4 then (⟨kP (wd ws 0),stT (wd ws 1),0,[],[],[]⟩,true) else (cmd0,false))
 else if kP (wd ws 0)=9 then (⟨9,0,if numF 15 (wd ws 1)=true then numV (wd ws 1) else 0,[],[],[]⟩,numF 15 (wd ws 1))
 else if (kP (wd ws 0)=7∨kP (wd ws 0)=8)∨wd ws 1≠[45] then (⟨kP (wd ws 0),0,0,wd ws 1,[],[]⟩,true)
 else (⟨kP (wd ws 0),0,0,[],[],[]⟩,true)
def rdQC (ws:List (List UInt8)):Cmd × Bool:=
 if ws.contains []=true∨kQ (wd ws 0)<1 then (⟨kQ (wd ws 0),0,0,[],[],[]⟩,false)
 else if (kQ (wd ws 0)=7∨kQ (wd ws 0)=8)∧ws.length=4 then (⟨kQ (wd ws 0),0,0,wd ws 1,wd ws 2,wd ws 3⟩,true)
 else if ws.length≠2 then (⟨kQ (wd ws 0),0,0,[],[],[]⟩,false)
 else if kQ (wd ws 0)=7∨kQ (wd ws 0)=8 then (⟨kQ (wd ws 0),0,0,wd ws 1,[],[]⟩,true)
 else if kQ (wd ws 0)=9 then (⟨9,0,numR 15 (wd ws 1),[],[],[]⟩,numF 15 (wd ws 1))
 else if 3≤kQ (wd ws 0)∧kQ (wd ws 0)≤6 then (⟨kQ (wd ws 0),0,0,if wd ws 1=[45] then [] else wd ws 1,[],[]⟩,true)
 else if tV (wd ws 1)<4 then (⟨kQ (wd ws 0),stT (wd ws 1),0,[],[],[]⟩,true) else (⟨kQ (wd ws 0),0,0,[],[],[]⟩,false)
theorem kV_le (w:List UInt8):kV w≤11:=List.findIdx_le_length
theorem rdC_eq (ws:List (List UInt8)):(rdPC ws).2=(rdQC ws).2∧((rdPC ws).2=true→(rdPC ws).1=(rdQC ws).1):=by
 have hk:=kV_le (wd ws 0)
 have same:∀ {c d:Cmd} {b:Bool},(b=true→c=d)→rdPC ws=(c,b)→rdQC ws=(d,b)→(rdPC ws).2=(rdQC ws).2∧((rdPC ws).2=true→(rdPC ws).1=(rdQC ws).1):=fun h e1 e2=>by
  rw[e1,e2];exact⟨rfl,h⟩
 by_cases hc:ws.contains []=true
 ·exact same (c:=cmd0) (d:=⟨kQ (wd ws 0),0,0,[],[],[]⟩) (b:=false) (fun e=>by cases e) (by unfold rdPC;rw[if_pos hc]) (by unfold rdQC;rw[if_pos (.inl hc)])
 by_cases h0:1≤kV (wd ws 0)∧kV (wd ws 0)≤10
 ·have e1:kP (wd ws 0)=(kV (wd ws 0):Int):=by unfold kP;rw[if_pos h0]
  have e2:kQ (wd ws 0)=(kV (wd ws 0):Int):=by unfold kQ;rw[if_pos (by omega)]
  have nc:¬ (ws.contains []=true∨(kV (wd ws 0):Int)<1):=by
   rintro (h | h)
   ·exact hc h
   ·omega
  by_cases h1:((kV (wd ws 0):Int)=7∨(kV (wd ws 0):Int)=8)∧ws.length=4
  ·exact same (fun _=>rfl) (by unfold rdPC;rw[if_neg hc,e1,if_pos h1]) (by unfold rdQC;rw[e2,if_neg nc,if_pos h1])
  by_cases h2:ws.length≠2
  ·exact same (c:=cmd0) (d:=⟨(kV (wd ws 0):Int),0,0,[],[],[]⟩) (b:=false) (fun e=>by cases e) (by unfold rdPC;rw[if_neg hc,e1,if_neg h1,if_pos (.inr h2)]) (by unfold rdQC;rw[e2,if_neg nc,if_neg h1,if_pos h2])
  have n2:¬ ((kV (wd ws 0):Int)=0∨ws.length≠2):=by
   rintro (h | h)
   ·omega
   ·exact h2 h
  by_cases h3:(kV (wd ws 0):Int)=7∨(kV (wd ws 0):Int)=8
  ·exact same (fun _=>rfl) (by unfold rdPC;rw[if_neg hc,e1,if_neg h1,if_neg n2,if_neg (by omega),if_neg (by omega),if_pos (.inl h3)]) (by unfold rdQC;rw[e2,if_neg nc,if_neg h1,if_neg h2,if_pos h3])
  by_cases h9:(kV (wd ws 0):Int)=9
  ·exact same (c:=⟨9,0,if numF 15 (wd ws 1)=true then numV (wd ws 1) else 0,[],[],[]⟩) (d:=⟨9,0,numR 15 (wd ws 1),[],[],[]⟩) (b:=numF 15 (wd ws 1)) (fun e=>by rw[if_pos e,numR_V e])
    (by unfold rdPC;rw[if_neg hc,e1,if_neg h1,if_neg n2,if_neg (by omega),if_pos h9]) (by unfold rdQC;rw[e2,if_neg nc,if_neg h1,if_neg h2,if_neg h3,if_pos h9])
  by_cases h4:(kV (wd ws 0):Int)=1∨(kV (wd ws 0):Int)=2∨(kV (wd ws 0):Int)=10
  ·by_cases h5:tV (wd ws 1)<4
   ·exact same (fun _=>rfl) (by unfold rdPC;rw[if_neg hc,e1,if_neg h1,if_neg n2,if_pos h4,if_pos h5]) (by unfold rdQC;rw[e2,if_neg nc,if_neg h1,if_neg h2,if_neg h3,if_neg h9,if_neg (by omega),if_pos h5])
   ·exact same (c:=cmd0) (d:=⟨(kV (wd ws 0):Int),0,0,[],[],[]⟩) (b:=false) (fun e=>by cases e) (by unfold rdPC;rw[if_neg hc,e1,if_neg h1,if_neg n2,if_pos h4,if_neg h5]) (by unfold rdQC;rw[e2,if_neg nc,if_neg h1,if_neg h2,if_neg h3,if_neg h9,if_neg (by omega),if_neg h5])
  ·by_cases h5:wd ws 1=[45]
   ·have n5:¬ (((kV (wd ws 0):Int)=7∨(kV (wd ws 0):Int)=8)∨wd ws 1≠[45]):=by
     rintro (h | h)
     ·exact h3 h
     ·exact h h5
    exact same (fun _=>rfl) (by unfold rdPC;rw[if_neg hc,e1,if_neg h1,if_neg n2,if_neg h4,if_neg h9,if_neg n5]) (by unfold rdQC;rw[e2,if_neg nc,if_neg h1,if_neg h2,if_neg h3,if_neg h9,if_pos (by omega),if_pos h5])
   ·exact same (fun _=>rfl) (by unfold rdPC;rw[if_neg hc,e1,if_neg h1,if_neg n2,if_neg h4,if_neg h9,if_pos (.inr h5)]) (by unfold rdQC;rw[e2,if_neg nc,if_neg h1,if_neg h2,if_neg h3,if_neg h9,if_pos (by omega),if_neg h5])
 ·have e1:kP (wd ws 0)=0:=by unfold kP;rw[if_neg h0]
  have e2:kQ (wd ws 0)<1:=by unfold kQ;split <;> omega
  exact same (c:=cmd0) (d:=⟨kQ (wd ws 0),0,0,[],[],[]⟩) (b:=false) (fun e=>by cases e) (by unfold rdPC;rw[if_neg hc,e1,if_neg (by omega),if_pos (.inl rfl)]) (by unfold rdQC;rw[if_pos (.inr e2)])
def tkP (cs:List Cmd) (s:List UInt8):Bool × List Cmd:=((rdPC (z0m 32 s)).2,cs++[(rdPC (z0m 32 s)).1])
def tkQ (cs:List Cmd) (s:List UInt8):Bool × List Cmd:=((rdQC (z0m 32 s)).2,cs++[(rdQC (z0m 32 s)).1])
theorem tkPQ (tail:Bool) (ls:List (List UInt8)) (i:Nat) (cs:List Cmd):(lnsF tkP tail i ls cs).1=(lnsF tkQ tail i ls cs).1∧((lnsF tkP tail i ls cs).1.2=true→(lnsF tkP tail i ls cs).2=(lnsF tkQ tail i ls cs).2):=by
 refine zio (fun a b=>a=b) (fun s t l e=>?_) tail ls i cs cs rfl
 subst e
 obtain⟨h1,h2⟩:=rdC_eq (z0m 32 l)
 exact⟨h1,fun e=>by unfold tkP tkQ;rw[h2 e]⟩
theorem zyh {k:Int} (h1:1≤k) (h2:k≤10):(kV (z7n k):Int)=k∧z7n k≠[]:=by
 have:k=1∨k=2∨k=3∨k=4∨k=5∨k=6∨k=7∨k=8∨k=9∨k=10:=by omega
 rcases this with rfl | rfl | rfl | rfl | rfl | rfl | rfl | rfl | rfl | rfl <;> exact⟨by decide,by decide⟩
theorem zar (k:Int):(z7n k).length≤6:=by
 unfold z7n
 cases hw:z3L[k.toNat]? with
 | none=>simp
 | some w=>
  have:z3L.all (fun w=>decide (w.length≤6))=true:=by decide
  simpa using List.all_eq_true.1 this w (List.mem_of_getElem? hw)
theorem z7D (n:Int):(z2W n).length≤7:=by
 unfold z2W
 split
 ·decide
 split
 ·decide
 split <;> decide
end Go.Am
end
section
/- The numbers of the functions in this translation. -/
namespace Go.Am
abbrev z4g:Nat:=117
abbrev zaH:Nat:=59
abbrev zaI:Nat:=106
abbrev zaJ:Nat:=110
abbrev z4h:Nat:=66
abbrev z1a:Nat:=144
abbrev zfp:Nat:=138
abbrev z0n:Nat:=171
abbrev zfq:Nat:=139
abbrev z0D:Nat:=137
abbrev z0K:Nat:=237
abbrev zfr:Nat:=172
abbrev z9m:Nat:=154
abbrev zaK:Nat:=179
abbrev zaL:Nat:=142
abbrev zaM:Nat:=208
abbrev z7Q:Nat:=85
abbrev z42:Nat:=136
abbrev zaN:Nat:=181
abbrev zhT:Nat:=5
abbrev zaO:Nat:=27
abbrev z56:Nat:=65
abbrev zaP:Nat:=47
abbrev zaQ:Nat:=51
abbrev zaR:Nat:=21
abbrev z7R:Nat:=20
abbrev z2z:Nat:=48
abbrev z12:Nat:=28
abbrev z7S:Nat:=87
abbrev z1p:Nat:=50
abbrev z3n:Nat:=8
abbrev zaS:Nat:=7
abbrev z22:Nat:=88
abbrev z4i:Nat:=86
abbrev z2m:Nat:=176
abbrev zaT:Nat:=18
abbrev zaU:Nat:=43
abbrev z4j:Nat:=98
abbrev z7T:Nat:=24
abbrev z4k:Nat:=23
abbrev zaV:Nat:=26
abbrev z9n:Nat:=63
abbrev zaW:Nat:=62
abbrev zaX:Nat:=114
abbrev zaY:Nat:=104
abbrev z9o:Nat:=57
abbrev zaZ:Nat:=112
abbrev zba:Nat:=56
abbrev zbb:Nat:=64
abbrev zbc:Nat:=58
abbrev z6j:Nat:=101
abbrev zbd:Nat:=178
abbrev z2O:Nat:=97
abbrev z4l:Nat:=103
abbrev z7U:Nat:=147
abbrev z43:Nat:=148
abbrev zbe:Nat:=100
abbrev zbf:Nat:=99
abbrev z7V:Nat:=177
abbrev zbg:Nat:=96
abbrev z7W:Nat:=102
abbrev z7X:Nat:=146
abbrev z7Y:Nat:=108
abbrev zbh:Nat:=12
abbrev z7Z:Nat:=105
abbrev z44:Nat:=113
abbrev z9p:Nat:=153
abbrev z8a:Nat:=95
abbrev z9q:Nat:=54
abbrev z4m:Nat:=55
abbrev z2n:Nat:=52
abbrev zbi:Nat:=92
abbrev zhU:Nat:=19
abbrev z9r:Nat:=111
abbrev zbj:Nat:=150
abbrev zbk:Nat:=46
abbrev zbl:Nat:=175
abbrev zhV:Nat:=149
abbrev z1q:Nat:=49
abbrev z57:Nat:=107
abbrev zhW:Nat:=155
abbrev z8b:Nat:=152
abbrev zfs:Nat:=180
abbrev zbm:Nat:=151
abbrev zbn:Nat:=118
abbrev z8c:Nat:=156
abbrev z8d:Nat:=191
abbrev z9s:Nat:=157
abbrev zft:Nat:=209
abbrev zw6:Nat:=44
abbrev zfu:Nat:=229
abbrev z4n:Nat:=29
abbrev zbo:Nat:=14
abbrev zbp:Nat:=25
abbrev z9t:Nat:=60
abbrev zbq:Nat:=22
abbrev z2P:Nat:=69
abbrev zbr:Nat:=31
abbrev zbs:Nat:=67
abbrev zbt:Nat:=109
abbrev zbu:Nat:=53
abbrev z6k:Nat:=30
abbrev zbv:Nat:=61
abbrev z58:Nat:=73
abbrev z8e:Nat:=71
abbrev zbw:Nat:=34
abbrev z4o:Nat:=72
abbrev zbx:Nat:=116
abbrev zby:Nat:=33
abbrev zbz:Nat:=115
abbrev zb0:Nat:=68
abbrev z8f:Nat:=94
abbrev z8g:Nat:=93
def bldT:Nat:=106
def bldE:Nat:=5
end Go.Am
end
section
/- The abstract machine,part 26: z19 calls are computed. -/
set_option linter.unusedSimpArgs false
set_option linter.unusedVariables false
namespace Go.Am
mutual
def PV.same:PV→PV→Bool
 | .int k a,.int k' b=>decide (k=k')&&decide (a=b)
 | .bool a,.bool b=>decide (a=b)
 | .str a,.str b=>decide (a=b)
 | .sl s xs,.sl t ys=>decide (s=t)&&PV.sames xs ys
 | .agg xs,.agg ys=>PV.sames xs ys
 | .nilp,.nilp=>true
 | _,_=>false
def PV.sames:List PV→List PV→Bool
 | [],[]=>true
 | a::asv,b::bs=>PV.same a b&&PV.sames asv bs
 | _,_=>false
end
mutual
theorem PV.same_eq:∀ (a b:PV),PV.same a b=true→a=b
 | .int k a,b,h=>by
  cases b <;> simp [PV.same] at h
  obtain⟨h1,h2⟩:=h;subst h1;subst h2;rfl
 | .bool a,b,h=>by cases b <;> simp [PV.same] at h;subst h;rfl
 | .str a,b,h=>by cases b <;> simp [PV.same] at h;subst h;rfl
 | .sl s xs,b,h=>by
  cases b <;> simp [PV.same] at h
  obtain⟨h1,h2⟩:=h;subst h1;rw[PV.sames_eq _ _ h2]
 | .agg xs,b,h=>by
  cases b <;> simp [PV.same] at h
  rw[PV.sames_eq _ _ h]
 | .nilp,b,h=>by cases b <;> simp [PV.same] at h;rfl
theorem PV.sames_eq:∀ (a b:List PV),PV.sames a b=true→a=b
 | [],b,h=>by cases b <;> simp [PV.sames] at h;rfl
 | x::xs,b,h=>by
  cases b <;> simp [PV.sames] at h
  rw[PV.same_eq _ _ h.1,PV.sames_eq _ _ h.2]
end
mutual
def AV.same:AV→AV→Bool
 | .p a,.p b=>PV.same a b
 | .own a b c d,.own a' b' c' d'=>decide (a=a')&&decide (b=b')&&decide (c=c')&&decide (d=d')
 | .sl0 a,.sl0 b=>decide (a=b)
 | .ref a b,.ref a' b'=>decide (a=a')&&decide (b=b')
 | .rref a b c d,.rref a' b' c' d'=>decide (a=a')&&decide (b=b')&&decide (c=c')&&decide (d=d')
 | .vp a,.vp b=>PV.same a b
 | .nilp,.nilp=>true
 | .nilm,.nilm=>true
 | .nilf,.nilf=>true
 | .nili,.nili=>true
 | .ifc,.ifc=>true
 | .mp a,.mp b=>decide (a=b)
 | .it a,.it b=>decide (a=b)
 | .fn a b,.fn a' b'=>decide (a=a')&&AV.sames b b'
 | .agg a,.agg b=>AV.sames a b
 | .tup a,.tup b=>AV.sames a b
 | .anyb,.anyb=>true
 | .skp,.skp=>true
 | .und,.und=>true
 | .anyp,.anyp=>true
 | .bt a b c d,.bt a' b' c' d'=>decide (a=a')&&decide (b=b')&&decide (c=c')&&decide (d=d')
 | _,_=>false
def AV.sames:List AV→List AV→Bool
 | [],[]=>true
 | a::asv,b::bs=>AV.same a b&&AV.sames asv bs
 | _,_=>false
end
mutual
theorem AV.same_eq:∀ (a b:AV),AV.same a b=true→a=b
 | .p a,b,h=>by cases b <;> simp [AV.same] at h;rw[PV.same_eq _ _ h]
 | .own _ _ _ _,b,h=>by cases b <;> simp [AV.same] at h;simp [h]
 | .sl0 _,b,h=>by cases b <;> simp [AV.same] at h;simp [h]
 | .ref _ _,b,h=>by cases b <;> simp [AV.same] at h;simp [h]
 | .rref _ _ _ _,b,h=>by cases b <;> simp [AV.same] at h;simp [h]
 | .vp a,b,h=>by cases b <;> simp [AV.same] at h;rw[PV.same_eq _ _ h]
 | .nilp,b,h=>by cases b <;> simp [AV.same] at h;rfl
 | .nilm,b,h=>by cases b <;> simp [AV.same] at h;rfl
 | .nilf,b,h=>by cases b <;> simp [AV.same] at h;rfl
 | .nili,b,h=>by cases b <;> simp [AV.same] at h;rfl
 | .ifc,b,h=>by cases b <;> simp [AV.same] at h;rfl
 | .mp _,b,h=>by cases b <;> simp [AV.same] at h;simp [h]
 | .it _,b,h=>by cases b <;> simp [AV.same] at h;simp [h]
 | .fn _ cs,b,h=>by cases b <;> simp [AV.same] at h;rw[h.1,AV.sames_eq _ _ h.2]
 | .agg cs,b,h=>by cases b <;> simp [AV.same] at h;rw[AV.sames_eq _ _ h]
 | .tup cs,b,h=>by cases b <;> simp [AV.same] at h;rw[AV.sames_eq _ _ h]
 | .anyb,b,h=>by cases b <;> simp [AV.same] at h;rfl
 | .skp,b,h=>by cases b <;> simp [AV.same] at h;rfl
 | .und,b,h=>by cases b <;> simp [AV.same] at h;rfl
 | .anyp,b,h=>by cases b <;> simp [AV.same] at h;rfl
 | .bt _ _ _ _,b,h=>by cases b <;> simp [AV.same] at h;simp [h]
theorem AV.sames_eq:∀ (a b:List AV),AV.sames a b=true→a=b
 | [],b,h=>by cases b <;> simp [AV.sames] at h;rfl
 | x::xs,b,h=>by
  cases b <;> simp [AV.sames] at h
  rw[AV.same_eq _ _ h.1,AV.sames_eq _ _ h.2]
end
def AO.still:AO→Bool
 | .mv _ | .pick _ _ _ | .build _ _ | .load _ _ | .nilchk _ | .bin _ _ _ | .eqa _ _ _ _ | .isnil _ _ _ | .mkif _ | .un _ _ | .mkfn _ _ | .slice _ _ _ _ _ | .slstr _ _ _ | .faddr _ _ _ | .field _ _ _ | .iaddr _ _ _
 | .iaddra _ _ _ _ | .idxa _ _ _ _ | .idxs _ _ | .look _ _ _ _ _ | .ext _ _ | .len _ | .lens _ | .lenm _ | .mx _ | .mn _=>true
 | _=>false
def AO.still2:AO→Bool
 | .conv (.i _) _=>true
 | o=>o.still
def ME.same (a b:ME):Bool:=PV.same a.key b.key&&AV.same a.val b.val&&decide (a.born=b.born)
def MEs.same:List ME→List ME→Bool
 | [],[]=>true
 | a::asv,b::bs=>ME.same a b&&MEs.same asv bs
 | _,_=>false
def Obj.same:Obj→Obj→Bool
 | .box a,.box b=>AV.sames a b
 | .row a b c,.row a' b' c'=>decide (a=a')&&PV.sames b b'&&decide (c=c')
 | .amap a b,.amap a' b'=>MEs.same a a'&&decide (b=b')
 | .iter a b c d,.iter a' b' c' d'=>decide (a=a')&&decide (b=b')&&decide (c=c')&&decide (d=d')
 | _,_=>false
def Heap.same:List Obj→List Obj→Bool
 | [],[]=>true
 | a::asv,b::bs=>Obj.same a b&&Heap.same asv bs
 | _,_=>false
variable {C:Hd} {gl:Nat→Option PV}
theorem zmY {o:AO} (hs:o.still=true) {ev:Opd→AV} {h h':Heap} {v:AV} {x:Esc} (H:aop o ev h=some (v,h',x)):h'=h∧x=[]:=by
 cases o <;> first | (cases hs;done) | skip
 all_goals
  unfold aop at H
  dsimp only at H
  repeat' split at H
  all_goals first
   | (cases H;done)
   | (simp only[Option.some.injEq,Prod.mk.injEq] at H;obtain⟨_,rfl,rfl⟩:=H;exact⟨rfl,rfl⟩)
   | (simp only[Option.map_eq_some_iff,Prod.mk.injEq] at H;obtain⟨_,_,_,rfl,rfl⟩:=H;exact⟨rfl,rfl⟩)
   | (have H2:=nilc (g:=[]) H;rename_i k neg p;cases hb:z8i k (ev p) <;> rw[hb] at H <;> simp only[cond_true,cond_false,Option.map_eq_some_iff,Option.some.injEq,Prod.mk.injEq] at H <;> first | (obtain⟨_,rfl,rfl⟩:=H;exact⟨rfl,rfl⟩) | (obtain⟨_,_,_,rfl,rfl⟩:=H;exact⟨rfl,rfl⟩))
theorem zj2 {o:AO} (hs:o.still2=true) {ev:Opd→AV} {h h':Heap} {v:AV} {x:Esc} (H:aop o ev h=some (v,h',x)):h'=h∧x=[]:=by
 unfold AO.still2 at hs
 split at hs
 ·simp only[aop,zav] at H
  split at H
  ·simp at H;exact⟨H.2.1.symm,H.2.2⟩
  ·simp at H
 ·exact zmY hs H
theorem zjk {o:AOp} (hs:o.op.still2=true) {e:List (Nat × AV)} {h h':Heap} {v:AV} {x:Esc} (H:ADo C gl o e h v h' x):h'=h∧x=[]:=by
 unfold ADo at H
 split at H
 ·obtain⟨dst,guard,op⟩:=o
  cases op <;> first | (cases hs;done) | exact zj2 hs H
 ·exact H.2
 ·exact H.elim
theorem zs4 {o:AO} (h:o.still=true):o.still2=true:=by
 cases o <;> first | exact h | (cases h;done)
theorem zk6 {o:AOp} (hs:o.op.still=true) {e:List (Nat × AV)} {h h':Heap} {v:AV} {x:Esc} (H:ADo C gl o e h v h' x):h'=h∧x=[]:=zjk (zs4 hs) H
end Go.Am
end
section
/- The abstract machine,part 27: loops,and the rules of computing asv one set. -/
set_option linter.unusedSimpArgs false
set_option linter.unusedVariables false
namespace Go.Am
variable {C:Hd} {gl:Nat→Option PV} {e:List (Nat × AV)} {h:Heap} {x:Esc} {K:Ex→St→Prop} {s:St}
def zjY {σ:Type} (S:σ→St) (P:σ→Prop) (m:σ→Nat) (K:Ex→St→Prop) (s:σ) (e:Ex) (s':St):Prop:=match e with
 | .normal=>∃ t,s'=S t∧P t∧m t<m s
 | .exit i=>K (.exit i) s'
 | .ret=>K .ret s'
theorem z8h {σ:Type} {S:σ→St} {P:σ→Prop} {m:σ→Nat} {K:Ex→St→Prop} {t:σ} {s':St}:zjY S P m K t .normal s' = ∃ u,s'=S u∧P u∧m u<m t:=(rfl)
theorem zb4 {σ:Type} {S:σ→St} {P:σ→Prop} {m:σ→Nat} {K:Ex→St→Prop} {t:σ} {s':St} {i:Nat}:zjY S P m K t (.exit i) s'=K (.exit i) s':=(rfl)
theorem zf2 {σ:Type} {S:σ→St} {P:σ→Prop} {m:σ→Nat} {K:Ex→St→Prop} {t:σ} {s':St}:zjY S P m K t .ret s'=K .ret s':=(rfl)
theorem zgE {σ:Type} {S:σ→St} {P:σ→Prop} {m:σ→Nat} {K:Ex→St→Prop} {t:σ} {ex ex':Ex} {s s':St} (he:ex=ex') (hs:s=s'):zjY S P m K t ex s=zjY S P m K t ex' s':=by rw[he,hs]
theorem z5e {T:St→(Ex→St→Prop)→Prop} {K:Ex→St→Prop} {s s':St} (h:T s=T s'):ALoop T K s=ALoop T K s':=by
 refine propext ⟨fun H=>?_,fun H=>?_⟩
 ·cases H with | mk _ R a b c d=>exact .mk _ R (h ▸ a) b c d
 ·cases H with | mk _ R a b c d=>exact .mk _ R (h.symm ▸ a) b c d
theorem zaw {l:List Nat} {e:List (Nat × AV)} {t:Nat} (ht:t∈l):aget (z0L (some l) e) t=aget e t:=by
 simp only[z0L]
 induction l with
 | nil=>cases ht
 | cons k r ih=>
  simp only[List.map_cons,aget]
  split
  ·rename_i hk;rw[hk]
  ·rename_i hk
   rcases List.mem_cons.1 ht with h1 | h1
   ·exact absurd h1.symm hk
   ·exact ih h1
theorem z3X {l:List Nat} {e:List (Nat × AV)}:z0L (some l) (z0L (some l) e)=z0L (some l) e:=by
 show l.map _=l.map _
 exact List.map_congr_left fun t ht=>by rw[zaw ht]
def LoopP (C:Hd) (gl:Nat→Option PV) (l:List Nat) (b:ACode) (K:Ex→St→Prop) (e:List (Nat × AV)) (h:Heap) (x:Esc):Prop:=AW C gl (.loop (.pr l b)) ⟨e,h,x⟩ K
def LoopS (C:Hd) (gl:Nat→Option PV) (l:List Nat) (b:ACode) (K:Ex→St→Prop) (e:List (Nat × AV)) (h:Heap) (x:Esc):Prop:=AW C gl (.loop (.scope (.pr l b))) ⟨e,h,x⟩ K
theorem zsW {l:List Nat} {b:ACode}:AW C gl (.loop (.pr l b)) ⟨e,h,x⟩ K=LoopP C gl l b K (z0L (some l) e) h x:=by
 show ALoop _ _ _=ALoop _ _ _
 exact z5e (funext fun R=>by show AW C gl b _ R=AW C gl b _ R;dsimp only;rw[z3X])
theorem zsX {l:List Nat} {b:ACode}:AW C gl (.loop (.scope (.pr l b))) ⟨e,h,x⟩ K=LoopS C gl l b K (z0L (some l) e) h x:=by
 show ALoop _ _ _=ALoop _ _ _
 exact z5e (funext fun R=>by show AW C gl b _ _=AW C gl b _ _;dsimp only;rw[z3X])
theorem z3N {α:Type} (h l:List α) (n:Nat):(h++l)[h.length+n]?=l[n]?:=by
 rw[List.getElem?_append_right (by omega)];congr 1;omega
theorem zhh {α:Type} (h l:List α):(h++l)[h.length]?=l[0]?:=by
 rw[List.getElem?_append_right (by omega)];congr 1;omega
theorem z86 {α:Type} (h l:List α) (n:Nat) (o:α):(h++l).set (h.length+n) o=h++l.set n o:=by
 rw[List.set_append_right _ _ (by omega)];congr 2;omega
theorem ztf {α:Type} (h l:List α) (o:α):(h++l).set h.length o=h++l.set 0 o:=by
 rw[List.set_append_right _ _ (by omega)];congr 2;omega
theorem zcd {α:Type} (h l:List α) (n:Nat):(h++l).take (h.length+n)=h++l.take n:=List.take_length_add_append ..
theorem z87 {α:Type} (h l:List α):(h++l).take h.length=h:=List.take_left ..
theorem zgt (h l:Heap) (n k:Nat):frz (h++l) (h.length+n) k=h++frz l n k:=by
 unfold frz
 rw[z3N]
 cases l[n]? with
 | none=>rfl
 | some o=>cases o <;> first | rfl | simp only[z86]
theorem zte (h l:Heap) (k:Nat):frz (h++l) h.length k=h++frz l 0 k:=zgt h l 0 k
theorem z0j (n:Int) (h1 : -9223372036854775808≤n) (h2:n≤9223372036854775807):IntKind.i64.wrap n=n:=by
 simp [IntKind.wrap,IntKind.bits,IntKind.signed];omega
def finR (rs:List ARes) (kp:Bool) (b:Nat) (P:Post) (e:Ex) (s:St):Prop:=match e with
 | .exit _=>False
 | _=>match z2i s rs with
  | some vs=>match kp with
   | true=>
    let n:=z2I s.esc.length s.esc (max b (z1l vs).top)
    if z19 s.esc n then P (z1l vs) (s.h.take n) (s.esc.filter fun y=>decide (y.1<n)) else P (z1l vs) s.h s.esc
   | false=>match reif b s.h (z1l vs) with
    | some v0=>
     let n:=z2I s.esc.length s.esc (max b v0.top)
     if z19 s.esc n then match reif n s.h (z1l vs) with
      | some v=>v.top≤n∧P v (s.h.take n) (s.esc.filter fun y=>decide (y.1<n))
      | none=>False
     else P (z1l vs) s.h s.esc
    | none=>False
  | none=>False
theorem zqh {F:AFun} {b:Nat} {P:Post}:finK F b P=finR F.results F.keep b P:=by
 funext e s;cases e <;> rfl
theorem zqi {rs:List ARes} {kp:Bool} {b:Nat} {P:Post} {i:Nat} {s:St}:finR rs kp b P (.exit i) s=False:=(rfl)
def retK (kp:Bool) (b:Nat) (P:Post) (o:Option (List AV)) (h:Heap) (x:Esc):Prop:=match o with
 | some vs=>match kp with
  | true=>
   let n:=z2I x.length x (max b (z1l vs).top)
   if z19 x n then P (z1l vs) (h.take n) (x.filter fun y=>decide (y.1<n)) else P (z1l vs) h x
  | false=>match reif b h (z1l vs) with
   | some v0=>
    let n:=z2I x.length x (max b v0.top)
    if z19 x n then match reif n h (z1l vs) with
     | some v=>v.top≤n∧P v (h.take n) (x.filter fun y=>decide (y.1<n))
     | none=>False
    else P (z1l vs) h x
   | none=>False
 | none=>False
theorem z9u {rs:List ARes} {kp:Bool} {b:Nat} {P:Post} {e:List (Nat × AV)} {h:Heap} {x:Esc}:finR rs kp b P .normal ⟨e,h,x⟩=retK kp b P (z2i ⟨e,h,x⟩ rs) h x:=(rfl)
theorem zia {rs:List ARes} {kp:Bool} {b:Nat} {P:Post} {e:List (Nat × AV)} {h:Heap} {x:Esc}:finR rs kp b P .ret ⟨e,h,x⟩=retK kp b P (z2i ⟨e,h,x⟩ rs) h x:=(rfl)
theorem zjN {rs:List ARes} {kp:Bool} {b:Nat} {P:Post} {ex ex':Ex} {s s':St} (he:ex=ex') (hs:s=s'):finR rs kp b P ex s=finR rs kp b P ex' s':=by rw[he,hs]
theorem z4Q {b:Nat} {P:Post} {vs:List AV} {h:Heap} (ht:(z1l vs).top≤b) (hr:∀ b,reif b h (z1l vs)=some (z1l vs)):retK false b P (some vs) h []=P (z1l vs) (h.take b) []:=by
 simp only[retK,hr,z2I,List.length_nil,z19,List.all_nil,if_true,List.filter_nil,Nat.max_eq_left ht,ht,true_and]
theorem reif_p {b:Nat} {h:Heap} {v:PV}:reif b h (.p v)=some (.p v):=(rfl)
theorem zrO {b:Nat} {h:Heap}:z7z b h []=some []:=(rfl)
theorem retK_1 {b:Nat} {P:Post} {v:PV} {h:Heap}:retK false b P (some [.p v]) h []=P (.p v) (h.take b) []:=z4Q (Nat.zero_le _) (fun _=>rfl)
theorem retK_2 {b:Nat} {P:Post} {v u:PV} {h:Heap}:retK false b P (some [.p v,.p u]) h []=P (.tup [.p v,.p u]) (h.take b) []:=z4Q (by simp [z1l,AV.top,AV.tops]) (fun _=>rfl)
theorem retK_3 {b:Nat} {P:Post} {v u w:PV} {h:Heap}:retK false b P (some [.p v,.p u,.p w]) h []=P (.tup [.p v,.p u,.p w]) (h.take b) []:=z4Q (by simp [z1l,AV.top,AV.tops]) (fun _=>rfl)
theorem retK_4 {b:Nat} {P:Post} {v u w z:PV} {h:Heap}:retK false b P (some [.p v,.p u,.p w,.p z]) h []=P (.tup [.p v,.p u,.p w,.p z]) (h.take b) []:=z4Q (by simp [z1l,AV.top,AV.tops]) (fun _=>rfl)
theorem retK_0 {b:Nat} {P:Post} {h:Heap}:retK false b P (some []) h []=P (.tup []) (h.take b) []:=z4Q (by simp [z1l,AV.top,AV.tops]) (fun _=>rfl)
theorem zvu {h:Heap}:h.take h.length=h:=List.take_length
theorem zyA {v:AV}:z1l [v]=v:=(rfl)
theorem zvp {X:Ctx} {f:Nat} {F:AFun} {a asv:List AV} {h h1:Heap} {P:Post} (hf:X.fn f=some F) (hr:F.byref=false) (hp:z0p h a=some (asv,h1)) (hl:asv.length=F.nparams) (hd:F.isDet=false) :
 z0c X f a h P=AW (z0c X) X.gl F.body ⟨enter asv,h1,[]⟩ (finR F.results F.keep h.length P):=by
 rw[zlq hf hd,zd4 hr hp hl,zqh]
theorem zvo {X:Ctx} {f:Nat} {F:AFun} {asv:List AV} {h:Heap} {P:Post} (hf:X.fn f=some F) (hr:F.byref=true) (hl:asv.length=F.nparams) (hd:F.isDet=false) :
 z0c X f asv h P=AW (z0c X) X.gl F.body ⟨enter asv,h,[]⟩ (finR F.results F.keep h.length P):=by
 rw[zlq hf hd,zmT hr hl,zqh]
theorem zfZ {X:Ctx} {f:Nat} {F:AFun} {a asv:List AV} {h h1:Heap} {P:Post} (hf:X.fn f=some F) (hr:F.byref=false) (hp:z0p h a=some (asv,h1)) (hl:asv.length=F.nparams) (hd:F.isDet=true) :
 z0c X f a h P = ∃ v h' x,P v h' x∧AW (z0c X) X.gl F.body ⟨enter asv,h1,[]⟩ (finR F.results F.keep h.length fun v1 h1 x1=>v1=v∧h1=h'∧x1=x):=by
 rw[zta hf hd]
 simp only[zd4 hr hp hl,zqh]
theorem rule {X:Ctx} {f:Nat} {a:List AV} {h:Heap} {v:AV} {h':Heap} {x:Esc} {K:Post} (H:z0c X f a h fun v1 h1 x1=>v1=v∧h1=h'∧x1=x):z0c X f a h K=K v h' x:=propext (z0c.eq H K)
theorem zf3 {k:IntKind} {n:Nat}:z1k (.p (.int k (n:Int)))=some n:=by simp [z1k]
theorem zrs {k:IntKind} {n:Nat}:z1k (.p (.int k (no_index (OfNat.ofNat n:Int))))=some (OfNat.ofNat n:Nat):=zf3 (n:=n)
theorem zyz {k:IntKind}:z1k (.p (.int k 0))=some 0:=(rfl)
theorem zy0 {k:IntKind}:z1k (.p (.int k 1))=some 1:=(rfl)
theorem z94 {k:IntKind} {n:Int} (h:0≤n):z1k (.p (.int k n))=some n.toNat:=by simp [z1k,h]
theorem z1B {α β:Type} (f:α→β) {l:List α} {k:Nat} (h:k<l.length):(l.map f)[k]?=some (f l[k]):=by simp [h]
attribute [go_sem] eqs PV.eq1 PV.kind ne_eq not_false_eq_true not_true_eq_false Bool.and_self Bool.or_self Bool.not_eq_true
attribute [go_sem] Nat.max_le Nat.add_le_add_iff_left Option.isSome_none Option.isSome_some false_and and_false List.length_range Nat.sub_zero Nat.le_add_right
attribute [go_sem] zf3 zyz zy0 zrs Int.ofNat_lt Int.ofNat_le List.length_map
attribute [go_sem] zqi z9u zia retK_0 retK_1 retK_2 retK_3 retK_4 zvu List.zipIdx_cons List.zipIdx_nil List.map_cons List.map_nil Nat.reduceAdd Nat.reduceEqDiff if_true if_false Option.map_some Option.map_none List.append_nil List.nil_append decide_eq_true_eq
def doS (C:Hd) (gl:Nat→Option PV) (q:AOp × List (Nat × AV) × AV) (h:Heap):Prop:=ADo C gl q.1 q.2.1 h q.2.2 h []
def agK (C:Hd) (gl:Nat→Option PV) (h:Heap) (dn:Done):List Nat→Prop
 | []=>True
 | j::r=>(match dn[j]? with | some q=>doS C gl q h | none=>False)∧agK C gl h dn r
def eaK (C:Hd) (gl:Nat→Option PV) (o:AOp) (e:List (Nat × AV)) (v:AV) (hs:List Heap):List Nat→Prop
 | []=>True
 | k::r=>(match hs[k]? with | some g=>doS C gl (o,e,v) g | none=>False)∧eaK C gl o e v hs r
theorem zmU {C:Hd} {gl:Nat→Option PV} {h:Heap} {dn:Done}:∀ {l:List Nat},agK C gl h dn l↔∀ j∈l,∃ q,dn[j]?=some q∧ADo C gl q.1 q.2.1 h q.2.2 h []
 | []=>by simp [agK]
 | j::r=>by
  simp only[agK,List.mem_cons,forall_eq_or_imp]
  rw[zmU (l:=r)]
  refine and_congr_left (fun _=>?_)
  cases hd:dn[j]? with
  | none=>simp
  | some q=>simp [doS]
theorem zpS {C:Hd} {gl:Nat→Option PV} {o:AOp} {e:List (Nat × AV)} {v:AV} {hs:List Heap}:∀ {l:List Nat},eaK C gl o e v hs l↔∀ k∈l,∃ g,hs[k]?=some g∧ADo C gl o e g v g []
 | []=>by simp [eaK]
 | j::r=>by
  simp only[eaK,List.mem_cons,forall_eq_or_imp]
  rw[zpS (l:=r)]
  refine and_congr_left (fun _=>?_)
  cases hd:hs[j]? with
  | none=>simp
  | some q=>simp [doS]
def effK (b:Bool) (h h':Heap) (y:Esc):Prop:=match b with
 | true=>True
 | false=>h'=h∧y=[]
theorem zfj {C:Hd} {gl:Nat→Option PV} {e:List (Nat × AV)} {h:Heap} {x:Esc} {L:List (Nat × AV)→Heap→Esc→Prop} {op:AOp} {rd early again:List Nat} {eff:Bool} {r:List DOp} {dn:Done} {hs:List Heap} {v:AV} {h':Heap} {y:Esc} :
 ztE C gl ⟨op,rd,eff,early,again⟩ r dn hs e h x L v h' y=(effK eff h h' y∧eaK C gl op (z0L (some rd) e) v hs early∧agK C gl h' dn again∧z2s C gl r (dn++[(op,z0L (some rd) e,v)]) (hs++[h]) (put op.dst v e) h' (y++x) L):=by
 rw[ztF,← propext zpS,← propext zmU]
 cases eff <;> simp [effK]
theorem zpU {h h':Heap} {y:Esc}:effK true h h' y=True:=(rfl)
theorem zpT {h:Heap}:effK false h h []=True:=by simp [effK]
theorem zxe {C:Hd} {gl:Nat→Option PV} {h:Heap} {dn:Done}:agK C gl h dn []=True:=(rfl)
theorem ztb {C:Hd} {gl:Nat→Option PV} {h:Heap} {dn:Done} {j:Nat} {r:List Nat}:agK C gl h dn (j::r)=((match dn[j]? with | some q=>doS C gl q h | none=>False)∧agK C gl h dn r):=(rfl)
theorem zxM {C:Hd} {gl:Nat→Option PV} {o:AOp} {e:List (Nat × AV)} {v:AV} {hs:List Heap}:eaK C gl o e v hs []=True:=(rfl)
theorem ztG {C:Hd} {gl:Nat→Option PV} {o:AOp} {e:List (Nat × AV)} {v:AV} {hs:List Heap} {j:Nat} {r:List Nat}:eaK C gl o e v hs (j::r)=((match hs[j]? with | some g=>doS C gl (o,e,v) g | none=>False)∧eaK C gl o e v hs r):=(rfl)
theorem zw2 {C:Hd} {gl:Nat→Option PV} {d:Option Nat} {g:Option (Nat × Bool)} {op:AO} {e:List (Nat × AV)} {v:AV} {h:Heap}:doS C gl (⟨d,g,op⟩,e,v) h=doK C gl ⟨d,g,op⟩ e h (fun v1 h1 x1=>v1=v∧h1=h∧x1=[]):=by
 unfold doS doK
 refine propext ⟨fun H=>⟨_,_,_,H,rfl,rfl,rfl⟩,fun ⟨v1,h1,x1,H,a,b,c⟩=>by subst a;subst b;subst c;exact H⟩
theorem znx {p:Prop} [Decidable p] {A B:Prop}:z0i (.p (.bool (decide p))) A B=if p then A else B:=by rw[zaC];simp
def z7J (C:Hd) (v:AV) (asv:List AV) (h:Heap) (L:Post):Prop:=match v with
 | .fn g caps=>C g (asv++caps) h L
 | _=>False
theorem z8z {C:Hd} {gl:Nat→Option PV} {e:List (Nat × AV)} {h:Heap} {x:Esc} {L:List (Nat × AV)→Heap→Esc→Prop} {d:Option Nat} {f:Opd} {args:List Opd} {r:List AOp} :
 AReg C gl (⟨d,none,.callv f args⟩::r) e h x L=z7J C (Opd.ev gl e f) (args.map (Opd.ev gl e)) h (z0W C gl r d e x L):=by
 have h2:wanted none e=some true:=(rfl)
 rw[AReg]
 simp only[h2]
 unfold z7J
 split <;> simp_all <;> rfl
def za8 (C:Hd) (v:AV) (asv:List AV) (h:Heap) (R:AV→Heap→Esc→Prop):Prop:=match v with
 | .fn g caps=>z1A C g (asv++caps) h R
 | _=>False
theorem zaG {C:Hd} {gl:Nat→Option PV} {e:List (Nat × AV)} {h:Heap} {R:AV→Heap→Esc→Prop} {d:Option Nat} {f:Opd} {args:List Opd} :
 doK C gl ⟨d,none,.callv f args⟩ e h R=za8 C (Opd.ev gl e f) (args.map (Opd.ev gl e)) h R:=by
 have h2:wanted none e=some true:=(rfl)
 unfold doK ADo
 simp only[h2]
 unfold za8 z1A
 split <;> simp_all
theorem znl {C:Hd} {g:Nat} {caps asv:List AV} {h:Heap} {L:Post}:z7J C (.fn g caps) asv h L=C g (asv++caps) h L:=(rfl)
theorem znk {C:Hd} {g:Nat} {caps asv:List AV} {h:Heap} {R:AV→Heap→Esc→Prop}:za8 C (.fn g caps) asv h R=z1A C g (asv++caps) h R:=(rfl)
theorem zdD {C:Hd} {v v':AV} {asv asv':List AV} {h h':Heap} {L:Post} (h1:v=v') (h2:asv=asv') (h3:h=h'):z7J C v asv h L=z7J C v' asv' h' L:=by rw[h1,h2,h3]
theorem zdC {C:Hd} {v v':AV} {asv asv':List AV} {h h':Heap} {R:AV→Heap→Esc→Prop} (h1:v=v') (h2:asv=asv') (h3:h=h'):za8 C v asv h R=za8 C v' asv' h' R:=by rw[h1,h2,h3]
attribute [go_sem] z8z zaG znl znk
attribute [congr] zdD zdC
theorem ztt {k:IntKind} {n:Int}:cutP none 0 (.int k n)=some (.int k n):=(rfl)
theorem zn1 {b:Bool}:cutP none 0 (.bool b)=some (.bool b):=(rfl)
theorem ztu {s:List UInt8}:cutP none 0 (.str s)=some (.str s):=(rfl)
theorem zxA {sh:Sh} {xs:List PV}:cutP none 0 (.sl sh xs)=some (.sl sh xs):=(rfl)
theorem zn3:cutP none 0 .nilp=some .nilp:=(rfl)
theorem zn2 {off:Nat} {cs:List PV}:cutP none off (.agg cs)=(cs[off]?).bind fun x=>if x.sc then some x else none:=(rfl)
theorem zts {n off:Nat} {cs:List PV}:cutP (some n) off (.agg cs)=if off+n≤cs.length then some (.agg ((cs.drop off).take n)) else none:=(rfl)
theorem zx9 {v:PV} (h:v.sc=true):cutP none 0 v=some v:=by cases v <;> first | rfl | cases h
attribute [go_sem] ztt zn1 ztu zxA zn3 zn2 zts
theorem zxN {id:Nat} {v:PV}:z2J id (.p v)=[]:=(rfl)
attribute [go_sem] List.take_succ_cons List.take_zero List.take_nil List.drop_succ_cons List.drop_zero List.drop_nil List.length_cons List.length_nil Nat.reduceLeDiff Nat.reduceLT Int.reduceLT Int.reduceLE Int.reduceAdd Int.reduceSub Int.reduceMul Int.reduceNeg Int.reduceEq Nat.reduceSub Nat.reduceMul Nat.le_refl List.append_assoc
theorem zsB {b:Nat} {x0:Esc} {e:List (Nat × AV)} {h:Heap}:zcY b x0 ⟨e,h,[]⟩=⟨zdF b e,h.take b,x0⟩:=(rfl)
theorem znu {n:Nat}:zdF n []=[]:=(rfl)
theorem zjC {n k:Nat} {v:AV} {r:List (Nat × AV)}:zdF n ((k,v)::r)=(k,if v.top≤n then v else .und)::zdF n r:=(rfl)
theorem top_p {v:PV}:AV.top (.p v)=0:=(rfl)
theorem zgX {id g o l:Nat}:AV.top (.own id g o l)=id+1:=by simp [AV.top]
theorem zzv {id o:Nat}:AV.top (.ref id o)=id+1:=by simp [AV.top]
theorem zv0 {id g i o:Nat}:AV.top (.rref id g i o)=id+1:=by simp [AV.top]
theorem top_mp {id:Nat}:AV.top (.mp id)=id+1:=by simp [AV.top]
theorem top_it {id:Nat}:AV.top (.it id)=id+1:=by simp [AV.top]
theorem top_fn {f:Nat} {cs:List AV}:AV.top (.fn f cs)=AV.tops cs:=by simp [AV.top]
theorem zzt {cs:List AV}:AV.top (.agg cs)=AV.tops cs:=by simp [AV.top]
theorem zzy {cs:List AV}:AV.top (.tup cs)=AV.tops cs:=by simp [AV.top]
theorem top_vp {v:PV}:AV.top (.vp v)=0:=(rfl)
theorem zzz:AV.top .und=0:=(rfl)
theorem zzw:AV.top .skp=0:=(rfl)
theorem zvv:AV.top .anyp=0:=(rfl)
theorem top_bt {k t id g:Nat}:AV.top (.bt k t id g)=id+1:=by simp [AV.top]
theorem zzx {sh:Sh}:AV.top (.sl0 sh)=0:=(rfl)
theorem zvz:AV.top .nilp=0:=(rfl)
theorem zvy:AV.top .nilm=0:=(rfl)
theorem zvw:AV.top .nilf=0:=(rfl)
theorem zvx:AV.top .nili=0:=(rfl)
theorem zzu:AV.top .ifc=0:=(rfl)
theorem zv1:AV.tops []=0:=(rfl)
theorem zs7 {v:AV} {r:List AV}:AV.tops (v::r)=max v.top (AV.tops r):=by simp [AV.tops]
theorem zuG {b:Nat} {P:Post} {vs:List AV} {h:Heap}:retK false b P (some vs) h []=match reif b h (z1l vs) with
 | some v0=>match reif (max b v0.top) h (z1l vs) with
  | some v=>v.top≤max b v0.top∧P v (h.take (max b v0.top)) []
  | none=>False
 | none=>False:=by
 simp only[retK,z2I,List.length_nil,z19,List.all_nil,if_true,List.filter_nil]
theorem zuB {b:Nat} {h:Heap} {id g off len:Nat}:reif b h (.own id g off len)=if b≤id then (rd h (.own id g off len)).map fun y=>.p (.sl y.1 y.2) else some (.own id g off len):=by simp only[reif]
theorem zuD {b:Nat} {h:Heap} {sh:Sh}:reif b h (.sl0 sh)=some (.p (.sl sh [])):=by simp only[reif]
theorem zuA {b:Nat} {h:Heap} {cs:List AV}:reif b h (.agg cs)=(z7z b h cs).map mkA:=by simp only[reif]
theorem zuE {b:Nat} {h:Heap} {cs:List AV}:reif b h (.tup cs)=(z7z b h cs).map .tup:=by simp only[reif]
theorem zuC {b:Nat} {h:Heap} {id o:Nat}:reif b h (.ref id o)=some (.ref id o):=by simp only[reif]
theorem zyI {b:Nat} {h:Heap} {id:Nat}:reif b h (.mp id)=some (.mp id):=by simp only[reif]
theorem zyH {b f:Nat} {h:Heap} {cs:List AV}:reif b h (.fn f cs)=some (.fn f cs):=by simp only[reif]
theorem zkh {b:Nat} {h:Heap} {v:AV} {r:List AV}:z7z b h (v::r)=(match reif b h v with | some x=>(z7z b h r).map (x :: ·) | none=>none):=by rw[z7z];cases reif b h v <;> rfl
theorem zyB {v u:AV} {r:List AV}:z1l (v::u::r) = .tup (v::u::r):=(rfl)
theorem zy9:z1l [] = .tup []:=(rfl)
theorem zsv {h l:Heap} {id:Nat} {o:Obj} (hid:id<h.length):(h++l).set id o=h.set id o++l:=List.set_append_left _ _ hid
theorem zqt {h l:Heap} {id:Nat} (hid:id<h.length):(h++l)[id]?=h[id]?:=List.getElem?_append_left hid
theorem ziP {h l:Heap} {i n:Nat} {o:Obj}:(h.set i o++l)[h.length+n]?=l[n]?:=by
 have:=z3N (h.set i o) l n;rwa [List.length_set] at this
theorem zso {h l:Heap} {i:Nat} {o:Obj}:(h.set i o++l)[h.length]?=l[0]?:=ziP (n:=0)
theorem ziQ {h l:Heap} {i n:Nat} {o q:Obj}:(h.set i o++l).set (h.length+n) q=h.set i o++l.set n q:=by
 have:=z86 (h.set i o) l n q;rwa [List.length_set] at this
theorem zsp {h l:Heap} {i:Nat} {o q:Obj}:(h.set i o++l).set h.length q=h.set i o++l.set 0 q:=ziQ (n:=0)
theorem zsq {h l:Heap} {i n:Nat} {o:Obj}:(h.set i o++l).take (h.length+n)=h.set i o++l.take n:=by
 have:=zcd (h.set i o) l n;rwa [List.length_set] at this
theorem zkp {h l:Heap} {i:Nat} {o:Obj}:(h.set i o++l).take h.length=h.set i o:=by
 have:=z87 (h.set i o) l;rwa [List.length_set] at this
theorem ziO {h l:Heap} {i n k:Nat} {o:Obj}:frz (h.set i o++l) (h.length+n) k=h.set i o++frz l n k:=by
 have:=zgt (h.set i o) l n k;rwa [List.length_set] at this
theorem zsn {h l:Heap} {i k:Nat} {o:Obj}:frz (h.set i o++l) h.length k=h.set i o++frz l 0 k:=ziO (n:=0)
theorem zda {α:Type} {l:List α} {n:Nat} (h:l.length=n):win l 0 n=l:=by subst h;simp [win]
theorem zz3 {α:Type} (l:List α):win l 0 l.length=l:=by simp [win]
attribute [go_sem] zsB znu zjC top_p zgX zzv zv0 top_mp top_it top_fn zzt zzy top_vp zzz zzw zzx zvz zvy zvw zvx zzu zvv top_bt zv1 zs7 Nat.max_zero Nat.zero_max Nat.zero_le reif_p zuB zuD zuA zuE zuC zyI zyH zrO zkh zyB zy9 z3N zhh z86 ztf zcd z87 zgt zte ziP zso ziQ zsp zsq zkp ziO zsn List.length_append zz3 Nat.add_le_add_iff_right Nat.zero_add Nat.add_zero
attribute [go_sem] zcw PV.shp List.reduceReplicate cond_true cond_false Bool.not_true Bool.not_false Bool.false_eq_true Bool.true_and Bool.and_true Bool.false_and Bool.and_false Bool.true_or Bool.or_true Bool.false_or Bool.or_false beq_self_eq_true List.all_cons List.all_nil
attribute [go_sem low] zuG
theorem zgd {h:Heap} {id:Nat} {o:Obj}:(h.set id o).take h.length=h.set id o:=List.take_of_length_le (by simp)
attribute [go_sem] zgd Int.natCast_zero Int.natCast_one Int.cast_ofNat_Int
attribute [go_sem] aun zav zmW zmX List.foldlM_cons List.foldlM_nil Option.bind_some Option.pure_def Option.bind_eq_bind List.cons_append List.nil_append Int.zero_sub List.length_singleton
attribute [go_sem] ztr z0a zxN
attribute [congr] zg5
attribute [go_sem] zxa zk7 za0 doK_mv ztD zof zxG zog zxH zt4 zoq zjI zxF zxI zol zt9 doK_un zty zt8 zom ztA zon zoo zoi zoj zok zjF zt0 zt1 zt5 ztB zt7 zjE zt6 zxJ zxK zt3 zt2 zxE ztz doK_mx doK_mn zjH zjG ztC zhP zfi z1A ex3' zfj zpU zpT zxe ztb zxM ztG zw2 List.not_mem_nil List.mem_cons List.mem_singleton forall_eq_or_imp forall_eq false_implies true_implies implies_true forall_const and_true true_and List.cons_append and_self reduceCtorEq List.getElem?_cons_zero List.getElem?_cons_succ Option.some.injEq exists_eq_left' List.set_cons_zero List.set_cons_succ List.set_set List.length_set
attribute [congr] zoh zgx zgj zgi
attribute [congr] zjN
attribute [go_sem] zsW zsX
attribute [go_sem] zxc AW_ret zxb AW_bad AW_reg AW_seq zwZ zsT zsV AW_pr zyG zgS zst zve zcf zgv zj8 zfV zsS zwW zkO zjm zsN zjn zsO zkF zjw zgo zsM zsP zjs zkK zwY zk9 zkJ zjt zkL zju zjv zjp zjq zjr zgl zkB zkC zkG zkM zkI zgk zkH zsQ zsR zkE zkD zsL zkA zwX zwV zgn zgm zkN za3 zde zr2 zr1 zuw zf6 zaD z8L znx zgg decide_true decide_false z8h zb4 zf2 aop Opd.ev aget put z0L abin aint astr z2i ares zyA enter rd rds pur purs z0p mkA unp cut AV.cells PV.cells PV.sc AV.sc splice pint pbool zcv
attribute [go_sem low] zaC zk1 zgZ
theorem zjd {A B:Prop}:z3b (.p (.bool true)) true A B=A:=(rfl)
theorem zja {A B:Prop}:z3b (.p (.bool false)) false A B=A:=(rfl)
theorem zjc {A B:Prop}:z3b (.p (.bool true)) false A B=B:=(rfl)
theorem zjb {A B:Prop}:z3b (.p (.bool false)) true A B=B:=(rfl)
attribute [go_sem] zjd zja zjc zjb
attribute [congr] zg3 zgY zkc zjo zsU zkg zkq zd9 zfU zgE
end Go.Am
end
section
/- The abstract machine,part 28: where no map is ranged over,a call that ends well ends in one way. -/
set_option linter.unusedSimpArgs false
set_option linter.unusedVariables false
namespace Go.Am
def AO.noNext:AO→Bool
 | .mnext _ _=>false
 | _=>true
def ACode.noNext:ACode→Bool
 | .reg ops _=>ops.all fun o=>o.op.noNext
 | .seq a b=>a.noNext&&b.noNext
 | .cond _ a b=>a.noNext&&b.noNext
 | .condu _ _ _=>false
 | .det _=>false
 | .block _ b=>b.noNext
 | .loop b=>b.noNext
 | .scope b=>b.noNext
 | .pr _ b=>b.noNext
 | _=>true
def Dt (C D:Hd):Prop:=∀ f a h K,C f a h K→∃ v h' x,K v h' x∧D f a h fun v1 h1 x1=>v1=v∧h1=h'∧x1=x
variable {C D:Hd} {gl:Nat→Option PV}
theorem z5P (hD:D.Mono) (hC:Dt C D):∀ (ops:List AOp) e h x K,(ops.all fun o=>o.op.noNext)=true→AReg C gl ops e h x K→∃ e' h' x',K e' h' x'∧AReg D gl ops e h x fun e1 h1 x1=>e1=e'∧h1=h'∧x1=x'
 | [],e,h,x,K,_,H=>⟨e,h,x,H,rfl,rfl,rfl⟩
 | o::r,e,h,x,K,hn,H=>by
  obtain⟨dst,guard,op⟩:=o
  simp only[List.all_cons,Bool.and_eq_true] at hn
  obtain⟨hn1,hn2⟩:=hn
  unfold AReg at H
  dsimp only at H
  split at H
  ·rename_i hw
   cases op
   case call f args=>
    obtain⟨v,h',x',H',G'⟩:=hC _ _ _ _ H
    obtain⟨e2,h2,x2,k2,g2⟩:=z5P hD hC r _ _ _ K hn2 H'
    refine⟨e2,h2,x2,k2,?_⟩
    unfold AReg;simp only[hw]
    exact hD _ _ _ _ _ (fun v1 h1 x1 ⟨a1,a2,a3⟩=>by subst a1;subst a2;subst a3;exact g2) G'
   case callv f args=>
    dsimp only at H
    split at H
    ·rename_i hf
     obtain⟨v,h',x',H',G'⟩:=hC _ _ _ _ H
     obtain⟨e2,h2,x2,k2,g2⟩:=z5P hD hC r _ _ _ K hn2 H'
     refine⟨e2,h2,x2,k2,?_⟩
     unfold AReg;simp only[hw,hf]
     exact hD _ _ _ _ _ (fun v1 h1 x1 ⟨a1,a2,a3⟩=>by subst a1;subst a2;subst a3;exact g2) G'
    ·exact H.elim
   case mnext sh xs=>simp [AO.noNext] at hn1
   all_goals
    dsimp only at H
    split at H
    ·rename_i ha
     obtain⟨e2,h2,x2,k2,g2⟩:=z5P hD hC r _ _ _ K hn2 H
     refine⟨e2,h2,x2,k2,?_⟩
     unfold AReg;simp only[hw,ha]
     exact g2
    ·exact H.elim
  ·rename_i hw
   obtain⟨e2,h2,x2,k2,g2⟩:=z5P hD hC r _ _ _ K hn2 H
   refine⟨e2,h2,x2,k2,?_⟩
   unfold AReg;simp only[hw]
   exact g2
  ·exact H.elim
theorem z7o (hD:D.Mono) (hC:Dt C D) {o:AOp} {e:List (Nat × AV)} {h h':Heap} {v:AV} {x:Esc} (H:ADo C gl o e h v h' x):ADo D gl o e h v h' x:=by
 have key:∀ f a h,C f a h (fun v1 h1 x1=>v1=v∧h1=h'∧x1=x)→D f a h (fun v1 h1 x1=>v1=v∧h1=h'∧x1=x):=fun f a h hc=>by
  obtain⟨v2,h2,x2,⟨e1,e2,e3⟩,hd⟩:=hC _ _ _ _ hc
  subst e1;subst e2;subst e3
  exact hd
 unfold ADo at H ⊢
 split at H
 ·split at H
  ·exact key _ _ _ H
  ·split at H
   ·exact key _ _ _ H
   ·exact H.elim
  ·exact H.elim
  ·exact H
 ·exact H
 ·exact H.elim
theorem zdd (hD:D.Mono) (hC:Dt C D):∀ (ds:List DOp) dn hs e h x K,z2s C gl ds dn hs e h x K→∃ e' h' x',K e' h' x'∧z2s D gl ds dn hs e h x fun e1 h1 x1=>e1=e'∧h1=h'∧x1=x'
 | [],dn,hs,e,h,x,K,H=>⟨e,h,x,H,rfl,rfl,rfl⟩
 | o::r,dn,hs,e,h,x,K,H=>by
  obtain⟨v,h',y,h1,h2,h3,h4,h5⟩:=H
  obtain⟨e2,q2,x2,k2,g2⟩:=zdd hD hC r _ _ _ _ _ K h5
  exact⟨e2,q2,x2,k2,v,h',y,z7o hD hC h1,h2,fun k hk=>by obtain⟨g,a1,a2⟩:=h3 k hk;exact⟨g,a1,z7o hD hC a2⟩,
   fun j hj=>by obtain⟨q,a1,a2⟩:=h4 j hj;exact⟨q,a1,z7o hD hC a2⟩,g2⟩
theorem zk8 {T U:St→(Ex→St→Prop)→Prop} (hT:∀ s K,T s K→∃ e s',K e s'∧U s fun e1 s1=>e1=e∧s1=s') {K:Ex→St→Prop} {s:St} (H:ALoop T K s):∃ e s',K e s'∧ALoop U (fun e1 s1=>e1=e∧s1=s') s:=by
 induction H with
 | mk s R h hn he hr ih=>
  obtain⟨e,s',hR,hU⟩:=hT _ _ h
  cases e with
  | normal=>
   obtain⟨e2,s2,k2,g2⟩:=ih s' hR
   exact⟨e2,s2,k2,.mk _ _ hU (fun s1 ⟨_,h1⟩=>by subst h1;exact g2) (fun i s1 ⟨h1,_⟩=>by cases h1) (fun s1 ⟨h1,_⟩=>by cases h1)⟩
  | exit i=>exact⟨_,_,he i s' hR,.mk _ _ hU (fun s1 ⟨h1,_⟩=>by cases h1) (fun j s1 h1=>h1) (fun s1 ⟨h1,_⟩=>by cases h1)⟩
  | ret=>exact⟨_,_,hr s' hR,.mk _ _ hU (fun s1 ⟨h1,_⟩=>by cases h1) (fun j s1 ⟨h1,_⟩=>by cases h1) (fun s1 h1=>h1)⟩
theorem z5Q (hD:D.Mono) (hC:Dt C D):∀ (c:ACode),c.noNext=true→∀ s K,AW C gl c s K→∃ e s',K e s'∧AW D gl c s fun e1 s1=>e1=e∧s1=s'
 | .skip,_,s,K,H=>⟨_,_,H,rfl,rfl⟩
 | .reg ops keep,hn,s,K,H=>by
  obtain⟨e,h,x,h1,h2⟩:=z5P hD hC ops _ _ _ _ hn H
  refine⟨_,_,h1,?_⟩
  show AReg D gl ops s.env s.h s.esc fun e1 h1 x1=>_
  exact z2t (C:=D) (C':=D) (fun f a h K K' hK h=>hD _ _ _ _ _ hK h) ops _ _ _ _ _ (fun e1 h1 x1 ⟨a1,a2,a3⟩=>by subst a1;subst a2;subst a3;exact⟨rfl,rfl⟩) h2
 | .draw ds keep,_,s,K,H=>by
  obtain⟨e,h,x,h1,h2⟩:=zdd hD hC ds _ _ _ _ _ _ H
  refine⟨_,_,h1,?_⟩
  show z2s D gl ds [] [] s.env s.h s.esc fun e1 h1 x1=>_
  exact z7p (C:=D) (C':=D) (fun f a h K K' hK h=>hD _ _ _ _ _ hK h) ds _ _ _ _ _ _ _ (fun e1 h1 x1 ⟨a1,a2,a3⟩=>by subst a1;subst a2;subst a3;exact⟨rfl,rfl⟩) h2
 | .seq a b,hn,s,K,H=>by
  simp only[ACode.noNext,Bool.and_eq_true] at hn
  obtain⟨e,s',h1,h2⟩:=z5Q hD hC a hn.1 _ _ H
  have mono:=fun (K K':Ex→St→Prop) (hK:∀ e s,K e s→K' e s)=>z1u (C:=D) (C':=D) (gl:=gl) (fun f a h K K' hK h=>hD _ _ _ _ _ hK h) a s K K' hK
  cases e with
  | normal=>
   obtain⟨e2,s2,k2,g2⟩:=z5Q hD hC b hn.2 _ _ h1
   refine⟨e2,s2,k2,mono _ _ (fun e1 s1 ⟨a1,a2⟩=>?_) h2⟩
   subst a1;subst a2;exact g2
  | exit i=>exact⟨_,_,h1,mono _ _ (fun e1 s1 ⟨a1,a2⟩=>by subst a1;subst a2;exact⟨rfl,rfl⟩) h2⟩
  | ret=>exact⟨_,_,h1,mono _ _ (fun e1 s1 ⟨a1,a2⟩=>by subst a1;subst a2;exact⟨rfl,rfl⟩) h2⟩
 | .condu c a b,hn,s,K,H=>by cases hn
 | .det b,hn,s,K,H=>by cases hn
 | .cond c a b,hn,s,K,H=>by
  simp only[ACode.noNext,Bool.and_eq_true] at hn
  unfold AW at H
  split at H
  ·rename_i t ht
   split at H
   ·obtain⟨e,s',h1,h2⟩:=z5Q hD hC a hn.1 _ _ H
    refine⟨e,s',h1,?_⟩
    unfold AW;simp only[ht];exact h2
   ·obtain⟨e,s',h1,h2⟩:=z5Q hD hC b hn.2 _ _ H
    refine⟨e,s',h1,?_⟩
    unfold AW;simp only[ht];exact h2
  ·exact H.elim
 | .block id b,hn,s,K,H=>by
  obtain⟨e,s',h1,h2⟩:=z5Q hD hC b hn _ _ H
  have mono:=fun (K K':Ex→St→Prop) (hK:∀ e s,K e s→K' e s)=>z1u (C:=D) (C':=D) (gl:=gl) (fun f a h K K' hK h=>hD _ _ _ _ _ hK h) b s K K' hK
  cases e with
  | normal=>exact⟨_,_,h1,mono _ _ (fun e1 s1 ⟨a1,a2⟩=>by subst a1;subst a2;exact⟨rfl,rfl⟩) h2⟩
  | exit i=>
   dsimp only at h1
   split at h1
   ·rename_i hi
    exact⟨_,_,h1,mono _ _ (fun e1 s1 ⟨a1,a2⟩=>by subst a1;subst a2;dsimp only;rw[if_pos hi];exact⟨rfl,rfl⟩) h2⟩
   ·rename_i hi
    exact⟨_,_,h1,mono _ _ (fun e1 s1 ⟨a1,a2⟩=>by subst a1;subst a2;dsimp only;rw[if_neg hi];exact⟨rfl,rfl⟩) h2⟩
  | ret=>exact⟨_,_,h1,mono _ _ (fun e1 s1 ⟨a1,a2⟩=>by subst a1;subst a2;exact⟨rfl,rfl⟩) h2⟩
 | .loop b,hn,s,K,H=>zk8 (fun s K h=>z5Q hD hC b hn s K h) H
 | .scope b,hn,s,K,H=>by
  obtain⟨e,s',h1,h2⟩:=z5Q hD hC b hn _ _ H
  exact⟨_,_,h1,z1u (C:=D) (C':=D) (gl:=gl) (fun f a h K K' hK h=>hD _ _ _ _ _ hK h) b _ _ _ (fun e1 s1 ⟨a1,a2⟩=>by subst a1;subst a2;exact⟨rfl,rfl⟩) h2⟩
 | .pr l b,hn,s,K,H=>z5Q hD hC b hn _ K H
 | .exit id,_,s,K,H=>⟨_,_,H,rfl,rfl⟩
 | .ret,_,s,K,H=>⟨_,_,H,rfl,rfl⟩
 | .bad,_,s,K,H=>H.elim
theorem zqj {F:AFun} {b:Nat} {s:St} {K:Post} (H:fin F b s K):∃ v h x,K v h x∧fin F b s fun v1 h1 x1=>v1=v∧h1=h∧x1=x:=by
 unfold fin at H
 cases h1:z2i s F.results with
 | none=>rw[h1] at H;exact H.elim
 | some vs=>
  rw[h1] at H
  dsimp only at H
  cases h2:F.keep with
  | true=>
   rw[h2] at H
   dsimp only at H
   by_cases h3:z19 s.esc (z2I (List.length s.esc) s.esc (max b (z1l vs).top))=true
   ·rw[if_pos h3] at H
    exact⟨_,_,_,H,by unfold fin;rw[h1];dsimp only;rw[h2];dsimp only;rw[if_pos h3];exact⟨rfl,rfl,rfl⟩⟩
   ·rw[if_neg h3] at H
    exact⟨_,_,_,H,by unfold fin;rw[h1];dsimp only;rw[h2];dsimp only;rw[if_neg h3];exact⟨rfl,rfl,rfl⟩⟩
  | false=>
   rw[h2] at H
   dsimp only at H
   cases h4:reif b s.h (z1l vs) with
   | none=>rw[h4] at H;exact H.elim
   | some v0=>
    rw[h4] at H
    dsimp only at H
    by_cases h3:z19 s.esc (z2I (List.length s.esc) s.esc (max b v0.top))=true
    ·rw[if_pos h3] at H
     cases h5:reif (z2I (List.length s.esc) s.esc (max b v0.top)) s.h (z1l vs) with
     | none=>rw[h5] at H;exact H.elim
     | some v=>
      rw[h5] at H
      exact⟨_,_,_,H.2,by unfold fin;rw[h1];dsimp only;rw[h2];dsimp only;rw[h4];dsimp only;rw[if_pos h3,h5];exact⟨H.1,rfl,rfl,rfl⟩⟩
    ·rw[if_neg h3] at H
     exact⟨_,_,_,H,by unfold fin;rw[h1];dsimp only;rw[h2];dsimp only;rw[h4];dsimp only;rw[if_neg h3];exact⟨rfl,rfl,rfl⟩⟩
def Ctx.NoNext (X:Ctx):Prop:=∀ f F,X.fn f=some F→(F.isDet||F.body.noNext)=true
theorem zmS (hD:D.Mono) (hC:Dt C D) {F:AFun} {a:List AV} {h:Heap} {K:Post} (hb:F.body.noNext=true) (H:z3M C gl F a h K):∃ v h' x,K v h' x∧z3M D gl F a h fun v1 h1 x1=>v1=v∧h1=h'∧x1=x:=by
 unfold z3M at H ⊢
 cases hp:(if F.byref then some (a,h) else z0p h a) with
 | none=>rw[hp] at H;exact H.elim
 | some q=>
  obtain⟨asv,h1⟩:=q
  rw[hp] at H
  obtain⟨hl,H⟩:=H
  obtain⟨e,s',k1,g1⟩:=z5Q hD hC _ hb _ _ H
  have mono:=fun (K K':Ex→St→Prop) (hK:∀ e s,K e s→K' e s)=>z1u (C:=D) (C':=D) (gl:=gl) (fun f a h K K' hK h=>hD _ _ _ _ _ hK h) F.body ⟨enter asv,h1,[]⟩ K K' hK
  cases e with
  | exit i=>exact k1.elim
  | normal=>
   obtain⟨v,h',x,k2,g2⟩:=zqj k1
   exact⟨v,h',x,k2,hl,mono _ _ (fun e1 s1 ⟨a1,a2⟩=>by subst a1;subst a2;exact g2) g1⟩
  | ret=>
   obtain⟨v,h',x,k2,g2⟩:=zqj k1
   exact⟨v,h',x,k2,hl,mono _ _ (fun e1 s1 ⟨a1,a2⟩=>by subst a1;subst a2;exact g2) g1⟩
theorem zk4 {X:Ctx} (hX:X.NoNext):Dt (z0c X) (z0c X):=by
 intro f a h K H
 refine H (fun f a h K=>∃ v h' x,K v h' x∧z0c X f a h fun v1 h1 x1=>v1=v∧h1=h'∧x1=x) ?_ ?_
 ·intro f a h K K' hK ⟨v,h',x,k,g⟩
  exact⟨v,h',x,hK _ _ _ k,g⟩
 ·intro f a h K H
  have hC:Dt (fun f a h K=>∃ v h' x,K v h' x∧z0c X f a h fun v1 h1 x1=>v1=v∧h1=h'∧x1=x) (z0c X):=fun f a h K H=>H
  have hD:=z0c.mono X
  unfold Step at H
  split at H
  ·rename_i F hF
   unfold z6l at H
   cases hd:F.isDet with
   | true=>
    rw[hd] at H
    obtain⟨v,h',x,k,H⟩:=H
    refine⟨v,h',x,k,z0c.fold ?_⟩
    unfold Step
    simp only[hF,z6l,hd]
    exact⟨v,h',x,⟨rfl,rfl,rfl⟩,z5f (fun f a h K K' hK ⟨v2,h2,x2,k2,g2⟩=>hD _ _ _ _ _ (fun v1 h1 x1 hv=>by obtain⟨rfl,rfl,rfl⟩:=hv;exact hK _ _ _ k2) g2) (fun _ _ _ h=>h) H⟩
   | false=>
    rw[hd] at H
    obtain⟨v,h',x,k1,g1⟩:=zmS hD hC (by have:=hX f F hF;rw[hd] at this;simpa using this) H
    refine⟨v,h',x,k1,z0c.fold ?_⟩
    unfold Step;simp only[hF,z6l,hd]
    exact g1
  ·rename_i hF
   split at H
   ·rename_i hx2
    refine⟨_,_,_,H,z0c.fold ?_⟩
    unfold Step;simp only[hF,hx2]
    exact⟨trivial,trivial,trivial⟩
   ·rename_i hx2
    split at H
    ·rename_i hp
     split at H
     ·rename_i hu
      split at H
      ·rename_i hx
       refine⟨_,_,_,H,z0c.fold ?_⟩
       unfold Step;simp only[hF,hx2,hp,hu,hx]
       exact⟨trivial,trivial,trivial⟩
      ·exact H.elim
     ·exact H.elim
    ·exact H.elim
theorem z0c.one {X:Ctx} (hX:X.NoNext) {f:Nat} {a:List AV} {h:Heap} {Q:Post} (H:z0c X f a h Q):∃ v h' x,Q v h' x∧∀ K:Post,z0c X f a h K=K v h' x:=by
 obtain⟨v,h',x,k,g⟩:=zk4 hX _ _ _ _ H
 exact⟨v,h',x,k,fun K=>rule g⟩
end Go.Am
end
section
/- The abstract machine,part 29: its meaning once more,spelt so that a function's code can be printed asv a formula over its values (shallow),equal tov the deep one by computing. -/
set_option linter.unusedSimpArgs false
set_option linter.unusedVariables false
namespace Go.Am
def pK (o:Option AV) (k:AV→Prop):Prop:=match o with
 | some v=>k v
 | none=>False
def wK (o:Option (AV × Heap × Esc)) (k:AV→Heap→Esc→Prop):Prop:=match o with
 | some y=>k y.1 y.2.1 y.2.2
 | none=>False
def z09 (c a b:AV):Option AV:=match c with
 | .p (.bool t)=>some (bif t then a else b)
 | _=>none
def oBox (x:AV) (h:Heap):Option (AV × Heap × Esc):=match x.cells with
 | some cs=>some (.ref h.length 0,h++[.box cs],[])
 | none=>none
def zqf:List (Nat × Nat × AV)→List AV→Option (List AV)
 | [],cs=>some cs
 | (off,n,x)::r,cs=>match x.cells with
  | some vs=>if vs.length=n∧off+n≤cs.length then zqf r (splice cs off vs) else none
  | none=>none
def z0x (z:List AV) (ps:List (Nat × Nat × AV)):Option AV:=(zqf ps z).map mkA
def zqg (sh:Sh):List (Nat × AV)→Heap→List PV→Option (List PV × Heap)
 | [],h,xs=>some (xs,h)
 | (i,x)::r,h,xs=>match pur h x with
  | some (v,h')=>if v.shp sh∧i<xs.length then zqg sh r h' (xs.set i v) else none
  | none=>none
def oBsl (own:Bool) (sh:Sh) (n:Nat) (z:PV) (ps:List (Nat × AV)) (h:Heap):Option (AV × Heap × Esc):=match zqg sh ps h (List.replicate n z) with
 | some (xs,h')=>if !z.shp sh then none else some (bif own then (.own h'.length n 0 n,h'++[.row sh xs 0],[]) else (.p (.sl sh xs),h',[]))
 | none=>none
def z0e (sh:Sh) (a:AV) (h:Heap):Option AV:=match a with
 | .ref id off=>match h[id]? with
  | some (.box cs)=>cut sh off cs
  | _=>none
 | .rref id g i off=>match h[id]? with
  | some (.row _ xs _)=>if g=xs.length then ((xs[i]?).bind (cutP sh off)).map .p else none
  | _=>none
 | .vp v=>(cutP sh 0 v).map .p
 | .bt k off id g=>ldA sh k off id g h
 | _=>none
def z0k (sh:Sh) (a x:AV) (h:Heap):Option (AV × Heap × Esc):=match a with
 | .ref id off=>match h[id]?,x.cells with
  | some (.box cs),some vs=>if vs.length=z0a sh∧off+vs.length≤cs.length then some (.und,h.set id (.box (splice cs off vs)),escS id cs x) else none
  | _,_=>none
 | .rref id g i off=>match pur h x with
  | some (v,h1)=>match h1[id]? with
   | some (.row rsh xs fz)=>if g=xs.length∧fz≤i∧v.cells.length=z0a sh∧v.cells.all PV.sc then match xs[i]? with
    | some (.agg cs)=>if off+v.cells.length≤cs.length then some (.und,h1.set id (.row rsh (xs.set i (.agg (splice cs off v.cells))) fz),[]) else none
    | some _=>if off=0∧v.sc then some (.und,h1.set id (.row rsh (xs.set i v) fz),[]) else none
    | none=>none
    else none
   | _=>none
  | none=>none
 | .bt k off id g=>stA sh k off id g x h
 | _=>none
def oNil (x:AV):Option AV:=match x with
 | .ref _ _ | .rref _ _ _ _ | .vp _ | .fn _ _=>some x
 | .bt k _ _ _=>nlA k x
 | _=>none
def oBin (op:BinOp) (x y:AV):Option AV:=match x,y with
 | .p a,.p b=>(abin op a b).map .p
 | _,_=>none
def oEqa (ks:List Nat) (neg:Bool) (x y:AV):Option AV:=match x,y with
 | .p (.agg asv),.p (.agg bs)=>if asv.map PV.kind=ks∧bs.map PV.kind=ks∧ks≠[] then (eqs asv bs).map fun t=>pbool (bif neg then !t else t) else none
 | .p (.bool a),.p (.bool b)=>if ks=[] then some (pbool (bif neg then !decide (a=b) else decide (a=b))) else none
 | _,_=>none
def z97 (k:Nat) (neg:Bool) (x:AV):Option AV:=bif z8i k x then some .anyb else (zrv k x).map fun r=>pbool (bif neg then !r else r)
def oMkif (x:AV):Option AV:=if okIn x then some .ifc else none
def oUn (op:UnOp) (x:AV):Option AV:=match x with
 | .p a=>(aun op a).map .p
 | _=>none
def z95 (c:Cv) (x:AV) (h:Heap):Option (AV × Heap × Esc):=(zav h c x).map fun y=>(y.1,y.2,[])
def z1w (k:IntKind) (x:AV):Option AV:=match x with
 | .p (.int _ n)=>some (.p (.int k (k.wrap n)))
 | _=>none
def zut (sh:Sh) (z:PV) (len cap:AV) (h:Heap):Option (AV × Heap × Esc):=match z1k len,z1k cap with
 | some n,some m=>if n≤m∧m≤z0J∧z.shp sh then some (.own h.length n 0 n,h++[.row sh (List.replicate n z) 0],[]) else none
 | _,_=>none
def bndV (d:Nat):Option AV→Option Nat
 | none=>some d
 | some x=>z1k x
def z1s (x:AV) (lo hi:Option AV):Option AV:=match x with
 | .p (.str s)=>match bndV 0 lo,bndV s.length hi with
  | some l,some r=>if l≤r∧r≤s.length then some (.p (.str (win s l (r-l)))) else none
  | _,_=>none
 | _=>none
def zb7 (sh:Sh) (x:AV) (lo hi mx:Option AV) (h:Heap):Option AV:=match x with
 | .p (.sl sh' xs)=>match bndV 0 lo,bndV xs.length hi,bndV xs.length mx with
  | some l,some r,some m=>if sh'=sh∧l≤r∧r≤m∧m≤xs.length then some (if mx.isSome∧m=l then .sl0 sh else .p (.sl sh (win xs l (r-l)))) else none
  | _,_,_=>none
 | .sl0 sh'=>match bndV 0 lo,bndV 0 hi,bndV 0 mx with
  | some l,some r,some m=>if l=0∧r=0∧m=0 then some (.sl0 sh') else none
  | _,_,_=>none
 | .own id g off len=>match h[id]? with
  | some (.row rsh xs _)=>match bndV 0 lo,bndV len hi,bndV len mx with
   | some l,some r,some m=>if rsh=sh∧g=xs.length∧off+len≤xs.length∧l≤r∧r≤m∧m≤len then some (if mx.isSome∧m=l then .sl0 sh else .own id g (off+l) (r-l)) else none
   | _,_,_=>none
  | _=>none
 | _=>none
def z0d (off:Nat) (sh:Sh) (x:AV):Option AV:=match x with
 | .ref id o=>some (.ref id (o+off))
 | .rref id g i o=>some (.rref id g i (o+off))
 | .vp v=>(cutP sh off v).map .vp
 | .bt k o id g=>faA k off o id g
 | _=>none
def z96 (off:Nat) (sh:Sh) (x:AV):Option AV:=match x with
 | .p v=>match v with
  | .agg _=>(cutP sh off v).map .p
  | _=>none
 | .agg cs=>cut sh off cs
 | _=>none
def z0r (sh:Sh) (x i:AV) (h:Heap):Option AV:=match x,z1k i with
 | .p (.sl sh' xs),some k=>if sh'=sh then (xs[k]?).map .vp else none
 | .own id g off len,some k=>match h[id]? with
  | some (.row rsh xs _)=>if rsh=sh∧g=xs.length∧off+len≤xs.length∧k<len then some (.rref id g (off+k) 0) else none
  | _=>none
 | .bt kk _ id g,some k=>iaA sh kk id g k h
 | _,_=>none
def z5J (n:Nat) (sh:Sh) (x i:AV):Option AV:=match x,z1k i with
 | .ref id o,some k=>if k<n then some (.ref id (o+k*z0a sh)) else none
 | .rref id g j o,some k=>if k<n then some (.rref id g j (o+k*z0a sh)) else none
 | .vp v,some k=>if k<n then (cutP sh (k*z0a sh) v).map .vp else none
 | _,_=>none
def zc4 (n:Nat) (sh:Sh) (x i:AV):Option AV:=match x,z1k i with
 | .p (.agg cs),some k=>if k<n then (cutP sh (k*z0a sh) (.agg cs)).map .p else none
 | _,_=>none
def z1I (x i:AV):Option AV:=match x,z1k i with
 | .p (.str s),some k=>(s[k]?).map fun b=>.p (.int .u8 b.toNat)
 | _,_=>none
def oExt (x:AV) (i:Nat):Option AV:=match x with
 | .tup vs=>vs[i]?
 | _=>none
def oLen (x:AV):Option AV:=match x with
 | .p (.sl _ xs)=>some (pint xs.length)
 | .sl0 _=>some (pint 0)
 | .own _ _ _ len=>some (pint len)
 | .bt k _ _ g=>lnA k g
 | _=>none
def z06 (x:AV):Option AV:=match x with
 | .p (.str s)=>some (pint s.length)
 | _=>none
def oApp (sh:Sh) (s x:AV) (h:Heap):Option (AV × Heap × Esc):=match rds h x with
 | some (sh',ys)=>if sh'=sh then match s with
  | .sl0 _=>if ys.length≤z0J then some (.own h.length ys.length 0 ys.length,h++[.row sh ys 0],[]) else none
  | .own id g off len=>match h[id]? with
   | some (.row rsh xs fz)=>if rsh=sh∧g=xs.length∧off=0∧len=xs.length∧len+ys.length≤z0J∧fz≤xs.length then some (.own id (g+ys.length) off (len+ys.length),h.set id (.row sh (xs++ys) fz),[])
    else if rsh=sh∧g=xs.length∧off+len+ys.length≤xs.length∧fz≤off+len∧1≤ys.length∧len+ys.length≤z0J∧sh=none∧xs.all PV.intP=true∧ys.all PV.intP=true then
     some (.p (.sl sh (win xs off len++ys)),h.set id (.row sh (splice xs (off+len) (List.replicate ys.length .unk)) (off+len+ys.length)),[])
    else none
   | _=>none
  | _=>none
  else none
 | none=>none
def oCopy (sh:Sh) (d s:AV) (h:Heap):Option (AV × Heap × Esc):=match d,rds h s with
 | .own id g off len,some (sh',ys)=>match h[id]? with
  | some (.row rsh xs fz)=>if rsh=sh∧sh'=sh∧g=xs.length∧off+len≤xs.length∧fz≤off then
   some (pint (min ys.length len),h.set id (.row sh (splice xs off (ys.take (min ys.length len))) fz),[])
   else none
  | _=>none
 | _,_=>none
def oClr (sh:Sh) (z:PV) (x:AV) (h:Heap):Option (AV × Heap × Esc):=match x with
 | .sl0 _=>some (.tup [],h,[])
 | .own id g off len=>match h[id]? with
  | some (.row rsh xs fz)=>if rsh=sh∧g=xs.length∧off+len≤xs.length∧fz≤off then
   some (.tup [],h.set id (.row sh (splice xs off (List.replicate len z)) fz),[])
   else none
  | _=>none
 | _=>none
def oMx (xs:List AV):Option AV:=match xs with
 | .p a::r=>((unp r).bind fun l=>l.foldlM zmW a).map .p
 | _=>none
def oMn (xs:List AV):Option AV:=match xs with
 | .p a::r=>((unp r).bind fun l=>l.foldlM zmX a).map .p
 | _=>none
def z8m (kk:Sh × List Nat) (ok:Bool) (z x k:AV) (h:Heap):Option AV:=match z5x kk k with
 | some key=>match (match x with | .nilm=>some [] | m=>(mget h m).map fun y=>y.2.1) with
  | some es=>match z24 key es with
   | some r=>
    let v:=((r.bind (es[·]?)).map ME.val)
    some (bif ok then .tup [v.getD z,pbool v.isSome] else v.getD z)
   | none=>none
  | none=>none
 | none=>none
def zc7 (kk:Sh × List Nat) (m k x:AV) (h:Heap):Option (AV × Heap × Esc):=match z5x kk k,mget h m,okIn x with
 | some key,some (id,es,c),true=>match z24 key es with
  | some (some i)=>some (.und,h.set id (.amap (es.modify i fun e=>{ e with val:=x }) c),z2J id x)
  | some none=>some (.und,h.set id (.amap (es++[⟨key,x,c⟩]) (c+1)),z2J id x)
  | none=>none
 | _,_,_=>none
def oMent (kk:Sh × List Nat) (z m k:AV) (h:Heap):Option (AV × Heap × Esc):=match z5x kk k,mget h m with
 | some key,some (id,es,c)=>match z24 key es with
  | some (some i)=>(es[i]?).map fun e=>(.tup [e.val,pint e.born],h,[])
  | some none=>some (.tup [z,pint c],h.set id (.amap (es++[⟨key,z,c⟩]) (c+1)),[])
  | none=>none
 | _,_=>none
def zry (m s x:AV) (h:Heap):Option (AV × Heap × Esc):=match mget h m,z1k s,okIn x with
 | some (id,es,c),some b,true=>match es.findIdx? (fun e=>e.born==b) with
  | some i=>some (.und,h.set id (.amap (es.modify i fun e=>{ e with val:=x }) c),z2J id x)
  | none=>none
 | _,_,_=>none
def oMdel (kk:Sh × List Nat) (m k:AV) (h:Heap):Option (AV × Heap × Esc):=match z5x kk k,mget h m with
 | some key,some (id,es,c)=>match z24 key es with
  | some (some i)=>some (.und,h.set id (.amap (es.eraseIdx i) c),[])
  | some none=>some (.und,h,[])
  | none=>none
 | _,_=>none
def zy6 (x:AV) (h:Heap):Option AV:=match x with
 | .nilm=>some (pint 0)
 | .mp id=>(mget h (.mp id)).map fun y=>pint y.2.1.length
 | _=>none
def zc6 (x:AV) (h:Heap):Option (AV × Heap × Esc):=match mget h x with
 | some (id,_,c)=>some (.it h.length,h++[.iter (some id) c [] c],[])
 | none=>match x with
  | .nilm=>some (.it h.length,h++[.iter none 0 [] 0],[])
  | _=>none
def zc5 (i:AV) (h:Heap):Option (AV × Heap × Esc):=match i with
 | .it id=>match h[id]? with
  | some (.iter (some m) _ seen last)=>match mget h (.mp m),seen.getLast? with
   | some (_,es,c),some b=>if c=last then (es.find? (fun e=>e.born==b)).map fun e=>(.tup [.p e.key,e.val],h,[]) else none
   | _,_=>none
  | _=>none
 | _=>none
def alK (z:List AV) (h:Heap) (k:AV→Heap→Esc→Prop):Prop:=k (.ref h.length 0) (h++[.box z]) []
def nwK (sh:Sh) (h:Heap) (k:AV→Heap→Esc→Prop):Prop:=k (.own h.length 0 0 0) (h++[.row sh [] 0]) []
def mmK (h:Heap) (k:AV→Heap→Esc→Prop):Prop:=k (.mp h.length) (h++[.amap [] 0]) []
def ev3 (ev:Opd→AV):List (Nat × Nat × Opd)→List (Nat × Nat × AV)
 | []=>[]
 | (a,b,x)::r=>(a,b,ev x)::ev3 ev r
def ev2 (ev:Opd→AV):List (Nat × Opd)→List (Nat × AV)
 | []=>[]
 | (a,x)::r=>(a,ev x)::ev2 ev r
def evO (ev:Opd→AV):Option Opd→Option AV
 | none=>none
 | some x=>some (ev x)
def ev1 (ev:Opd→AV):List Opd→List AV
 | []=>[]
 | x::r=>ev x::ev1 ev r
def opN (o:AO) (ev:Opd→AV) (h:Heap) (k:AV→Heap→Esc→Prop):Prop:=match o with
 | .mv x=>k (ev x) h []
 | .pick c a b=>pK (z09 (ev c) (ev a) (ev b)) fun v=>k v h []
 | .alloc z=>alK z h k
 | .box x=>wK (oBox (ev x) h) k
 | .build z ps=>pK (z0x z (ev3 ev ps)) fun v=>k v h []
 | .bsl own sh n z ps=>wK (oBsl own sh n z (ev2 ev ps) h) k
 | .load sh a=>pK (z0e sh (ev a) h) fun v=>k v h []
 | .store sh a x=>wK (z0k sh (ev a) (ev x) h) k
 | .nilchk x=>pK (oNil (ev x)) fun v=>k v h []
 | .bin op x y=>pK (oBin op (ev x) (ev y)) fun v=>k v h []
 | .eqa ks neg x y=>pK (oEqa ks neg (ev x) (ev y)) fun v=>k v h []
 | .isnil n neg x=>pK (z97 n neg (ev x)) fun v=>k v h []
 | .mkif x=>pK (oMkif (ev x)) fun v=>k v h []
 | .un op x=>pK (oUn op (ev x)) fun v=>k v h []
 | .conv (.i c) x=>pK (z1w c (ev x)) fun v=>k v h []
 | .mkfn f caps=>k (.fn f (ev1 ev caps)) h []
 | .slice sh x lo hi mx=>pK (zb7 sh (ev x) (evO ev lo) (evO ev hi) (evO ev mx) h) fun v=>k v h []
 | .slstr x lo hi=>pK (z1s (ev x) (evO ev lo) (evO ev hi)) fun v=>k v h []
 | .mksl sh z len cap=>wK (zut sh z (ev len) (ev cap) h) k
 | .faddr off sh x=>pK (z0d off sh (ev x)) fun v=>k v h []
 | .field off sh x=>pK (z96 off sh (ev x)) fun v=>k v h []
 | .iaddr sh x i=>pK (z0r sh (ev x) (ev i) h) fun v=>k v h []
 | .iaddra n sh x i=>pK (z5J n sh (ev x) (ev i)) fun v=>k v h []
 | .idxa n sh x i=>pK (zc4 n sh (ev x) (ev i)) fun v=>k v h []
 | .idxs x i=>pK (z1I (ev x) (ev i)) fun v=>k v h []
 | .ext x i=>pK (oExt (ev x) i) fun v=>k v h []
 | .len x=>pK (oLen (ev x)) fun v=>k v h []
 | .lens x=>pK (z06 (ev x)) fun v=>k v h []
 | .app sh s x=>wK (oApp sh (ev s) (ev x) h) k
 | .copy sh d s=>wK (oCopy sh (ev d) (ev s) h) k
 | .uns m t xs=>wK (z1y m t (ev1 ev xs) h) k
 | .clr sh z x=>wK (oClr sh z (ev x) h) k
 | .mx xs=>pK (oMx (ev1 ev xs)) fun v=>k v h []
 | .mn xs=>pK (oMn (ev1 ev xs)) fun v=>k v h []
 | .new0 sh=>nwK sh h k
 | .conv .s2b x=>wK (z95 .s2b (ev x) h) k
 | .conv .b2s x=>wK (z95 .b2s (ev x) h) k
 | .conv .r2s x=>wK (z95 .r2s (ev x) h) k
 | .conv .same x=>wK (z95 .same (ev x) h) k
 | .mkmap=>mmK h k
 | .look kk ok z x key=>pK (z8m kk ok z (ev x) (ev key) h) fun v=>k v h []
 | .mupd kk m key x=>wK (zc7 kk (ev m) (ev key) (ev x) h) k
 | .ment kk z m key=>wK (oMent kk z (ev m) (ev key) h) k
 | .estore m s x=>wK (zry (ev m) (ev s) (ev x) h) k
 | .mdel kk m key=>wK (oMdel kk (ev m) (ev key) h) k
 | .lenm x=>pK (zy6 (ev x) h) fun v=>k v h []
 | .mrange x=>wK (zc6 (ev x) h) k
 | .mentry i=>wK (zc5 (ev i) h) k
 | .call _ _ | .callv _ _ | .mnext _ _=>False
theorem zwP {o:Option (AV × Heap × Esc)} {k:AV→Heap→Esc→Prop}:optK o k=wK o k:=rfl
theorem z59 {o:Option AV} {h:Heap} {k:AV→Heap→Esc→Prop}:wK (o.map fun v=>(v,h,[])) k=pK o fun v=>k v h []:=by cases o <;> rfl
theorem zhX (ev:Opd→AV):∀ (ps:List (Nat × Nat × Opd)) (z:List AV),zcv ev ps z=zqf (ev3 ev ps) z
 | [],z=>rfl
 | (off,n,x)::r,z=>by
  simp only[zcv,ev3,zqf]
  cases (ev x).cells with
  | none=>rfl
  | some vs=>simp only[zhX ev r]
theorem zhY (ev:Opd→AV) (sh:Sh):∀ (ps:List (Nat × Opd)) (h:Heap) (z:List PV),zcw ev sh ps h z=zqg sh (ev2 ev ps) h z
 | [],h,z=>rfl
 | (i,x)::r,h,z=>by
  simp only[zcw,ev2,zqg]
  cases pur h (ev x) with
  | none=>rfl
  | some y=>simp only[zhY ev sh r]
theorem zwq (ev:Opd→AV) (d:Nat) (o:Option Opd):bnd ev d o=bndV d (evO ev o):=by cases o <;> rfl
theorem ztJ (ev:Opd→AV) (o:Option Opd):(evO ev o).isSome=o.isSome:=by cases o <;> rfl
theorem z6i (ev:Opd→AV) (l:List Opd):l.map ev=ev1 ev l:=by
 induction l with
 | nil=>rfl
 | cons x r ih=>simp only[List.map_cons,ev1,ih]
theorem asl_eq (sh:Sh) (ev:Opd→AV) (h:Heap) (x:AV) (lo hi mx:Option Opd):asl sh ev h x lo hi mx=zb7 sh x (evO ev lo) (evO ev hi) (evO ev mx) h:=by
 unfold asl zb7
 simp only[zwq,ztJ]
 rfl
theorem z7F {p:Prop} [Decidable p] {a:AV} {h:Heap} {k:AV→Heap→Esc→Prop}:wK (if p then some (a,h,[]) else none) k=pK (if p then some a else none) fun v=>k v h []:=by split <;> rfl
theorem z2H {α:Type} {o:Option α} {f:α→AV} {h:Heap} {k:AV→Heap→Esc→Prop}:wK (o.map fun v=>(f v,h,[])) k=pK (o.map f) fun v=>k v h []:=by cases o <;> rfl
theorem z2G {α:Type} {p:Prop} [Decidable p] {o:Option α} {f:α→AV} {h:Heap} {k:AV→Heap→Esc→Prop}:wK (if p then o.map (fun v=>(f v,h,[])) else none) k=pK (if p then o.map f else none) fun v=>k v h []:=by
 split
 ·exact z2H
 ·rfl
theorem zr0 {o:AO} (hp:o.plain=true) {ev:Opd→AV} {h:Heap} {k:AV→Heap→Esc→Prop}:optK (aop o ev h) k=opN o ev h k:=by
 rw[zwP]
 cases o <;> first | (cases hp;done) | skip
 case mv=>rfl
 case pick c a b=>
  simp only[aop,opN,z09]
  generalize ev c=v
  cases v <;> try rfl
  rename_i p;cases p <;> rfl
 case alloc=>rfl
 case box=>rfl
 case build z ps=>simp only[aop,opN];rw[← z59,z0x,zhX,Option.map_map];rfl
 case bsl=>simp only[aop,opN,oBsl,zhY];rfl
 case load sh a=>
  simp only[aop,opN,z0e]
  generalize ev a=v
  cases v with
  | ref id off=>dsimp only;cases h[id]? with
   | none=>rfl
   | some o=>cases o <;> first | rfl | exact z59
  | rref id g i off=>dsimp only;cases h[id]? with
   | none=>rfl
   | some o=>cases o <;> first | rfl | exact z2G
  | vp v=>exact z2H
  | p v=>cases v <;> rfl
  | bt _ _ _ _=>exact z59
  | _=>rfl
 case store=>simp only[aop,opN];rfl
 case nilchk x=>
  simp only[aop,opN,oNil]
  generalize ev x=v
  cases v <;> try rfl
  exact z59
 case bin op x y=>
  simp only[aop,opN,oBin]
  generalize ev x=v
  generalize ev y=u
  cases v <;> try rfl
  cases u <;> try rfl
  exact z2H
 case eqa ks neg x y=>
  simp only[aop,opN,oEqa]
  generalize ev x=v
  generalize ev y=u
  cases v <;> try rfl
  rename_i p
  cases p <;> try rfl
  all_goals (cases u <;> try rfl)
  all_goals (rename_i q;cases q <;> try rfl)
  ·exact z7F
  ·exact z2G
 case isnil k neg p=>
  simp only[aop,opN,z97]
  cases z8i k (ev p) with
  | true=>rfl
  | false=>exact z2H
 case mkif=>exact z7F
 case un op x=>
  simp only[aop,opN,oUn]
  generalize ev x=v
  cases v <;> try rfl
  exact z2H
 case conv c x=>
  cases c
  case i k'=>
   simp only[aop,opN,z1w,zav]
   generalize ev x=v
   cases v <;> try rfl
   rename_i p;cases p <;> rfl
  all_goals rfl
 case mkfn f caps=>simp only[aop,opN,z6i];rfl
 case slice=>simp only[aop,opN,asl_eq];exact z59
 case slstr x lo hi=>
  simp only[aop,opN,z1s,zwq]
  generalize ev x=v
  cases v <;> try rfl
  rename_i p;cases p <;> try rfl
  rename_i s
  dsimp only
  generalize bndV 0 _=o1
  generalize bndV s.length _=o2
  cases o1 <;> try rfl
  cases o2 <;> try rfl
  exact z7F
 case mksl=>simp only[aop,opN];rfl
 case faddr off sh x=>
  simp only[aop,opN,z0d]
  generalize ev x=v
  cases v <;> try rfl
  ·exact z2H
  ·exact z59
 case field off sh x=>
  simp only[aop,opN,z96]
  generalize ev x=v
  cases v <;> try rfl
  ·rename_i p;cases p <;> try rfl
   exact z2H
  ·exact z59
 case iaddr sh x i=>
  simp only[aop,opN,z0r]
  generalize ev x=v
  generalize z1k (ev i)=n
  cases v <;> try rfl
  ·rename_i p;cases p <;> try rfl
   cases n <;> try rfl
   exact z2G
  ·cases n <;> try rfl
   rename_i id g off len k
   dsimp only
   cases h[id]? with
   | none=>rfl
   | some o=>cases o <;> first | rfl | exact z7F
  ·cases n <;> try rfl
   exact z59
 case iaddra m sh x i=>
  simp only[aop,opN,z5J]
  generalize ev x=v
  generalize z1k (ev i)=n
  cases v <;> try rfl
  all_goals (cases n <;> try rfl)
  ·exact z7F
  ·exact z7F
  ·exact z2G
 case idxa m sh x i=>
  simp only[aop,opN,zc4]
  generalize ev x=v
  generalize z1k (ev i)=n
  cases v <;> try rfl
  rename_i p;cases p <;> try rfl
  cases n <;> try rfl
  exact z2G
 case idxs x i=>
  simp only[aop,opN,z1I]
  generalize ev x=v
  generalize z1k (ev i)=n
  cases v <;> try rfl
  rename_i p;cases p <;> try rfl
  cases n <;> try rfl
  exact z2H
 case ext x i=>
  simp only[aop,opN,oExt]
  generalize ev x=v
  cases v <;> try rfl
  exact z59
 case len x=>
  simp only[aop,opN,oLen]
  generalize ev x=v
  cases v <;> try rfl
  ·rename_i p;cases p <;> rfl
  ·exact z59
 case lens x=>
  simp only[aop,opN,z06]
  generalize ev x=v
  cases v <;> try rfl
  rename_i p;cases p <;> rfl
 case app=>simp only[aop,opN];rfl
 case copy=>simp only[aop,opN];rfl
 case uns=>simp only[aop,opN,z6i,zwP]
 case clr=>simp only[aop,opN];rfl
 case mx xs=>
  simp only[aop,opN,z6i,oMx]
  generalize ev1 ev xs=l
  cases l <;> try rfl
  rename_i v r
  cases v <;> try rfl
  exact z2H
 case mn xs=>
  simp only[aop,opN,z6i,oMn]
  generalize ev1 ev xs=l
  cases l <;> try rfl
  rename_i v r
  cases v <;> try rfl
  exact z2H
 case new0=>rfl
 case look kk ok z x key=>
  simp only[aop,opN,z8m]
  cases z5x kk (ev key) <;> try rfl
  rename_i kk
  generalize ev x=v
  cases v <;> try rfl
  rename_i id
  dsimp only
  cases mget h (.mp id) <;> try rfl
  rename_i y
  dsimp only[Option.map_some]
  cases z24 kk y.2.1 <;> rfl
 case lenm x=>
  simp only[aop,opN,zy6]
  generalize ev x=v
  cases v <;> try rfl
  exact z2H
 all_goals rfl
end Go.Am
end
section
/- The abstract machine,part 30: the meaning of code in the new spelling,and that it is the old one. -/
set_option linter.unusedSimpArgs false
set_option linter.unusedVariables false
namespace Go.Am
def gV (v:AV) (b:Bool) (h:Heap) (A:(AV→Heap→Esc→Prop)→Prop) (k:AV→Heap→Esc→Prop):Prop:=z3b v b (A k) (k .skp h [])
def gP (v:AV) (b:Bool) (o:Option AV) (h:Heap) (k:AV→Heap→Esc→Prop):Prop:=gV v b h (fun k=>pK o fun u=>k u h []) k
def gM (v:AV) (b:Bool) (u:AV) (h:Heap) (k:AV→Heap→Esc→Prop):Prop:=gV v b h (fun k=>k u h []) k
def upB (b:Bool):Bool:=(fun (_:AV→Bool→Option AV→Heap→(AV→Heap→Esc→Prop)→Prop)=>b) gP
def gK (g:Option (Nat × Bool)) (e:List (Nat × AV)) (h:Heap) (A:(AV→Heap→Esc→Prop)→Prop) (k:AV→Heap→Esc→Prop):Prop:=match g with
 | none=>A k
 | some (t,b)=>gV (aget e t) b h A k
def opC (C:Hd) (o:AO) (ev:Opd→AV) (h:Heap) (k:AV→Heap→Esc→Prop):Prop:=match o with
 | .call f args=>C f (ev1 ev args) h k
 | .callv f args=>z7J C (ev f) (ev1 ev args) h k
 | .mnext sh xs=>match z7t h sh (ev1 ev xs) with
  | some l=>l≠[]∧∀ y∈l,k y.1 y.2 []
  | none=>False
 | o=>opN o ev h k
def NReg (C:Hd) (gl:Nat→Option PV):List AOp→List (Nat × AV)→Heap→Esc→(List (Nat × AV)→Heap→Esc→Prop)→Prop
 | [],e,h,x,L=>L e h x
 | o::r,e,h,x,L=>gK o.guard e h (opC C o.op (Opd.ev gl e) h) fun v h' x'=>NReg C gl r (put o.dst v e) h' (x'++x) L
variable {C:Hd} {gl:Nat→Option PV}
theorem ziw {o:AO} {d:Option Nat} {r:List AOp} {e:List (Nat × AV)} {h:Heap} {x:Esc} {L:List (Nat × AV)→Heap→Esc→Prop} :
 AReg C gl (⟨d,none,o⟩::r) e h x L=opC C o (Opd.ev gl e) h (z0W C gl r d e x L):=by
 cases hp:o.plain with
 | true=>
  rw[z0y hp,zr0 hp]
  cases o <;> first | rfl | cases hp
 | false=>
  cases o <;> first | (cases hp;done) | skip
  all_goals first
   | (rw[zde,z6i];rfl)
   | (rw[z8z,z6i];rfl)
   | (unfold AReg opC;simp only[wanted,z6i];rfl)
theorem zlp:∀ (ops:List AOp) (e:List (Nat × AV)) (h:Heap) (x:Esc) (L:List (Nat × AV)→Heap→Esc→Prop),AReg C gl ops e h x L=NReg C gl ops e h x L
 | [],e,h,x,L=>rfl
 | ⟨d,g,o⟩::r,e,h,x,L=>by
  have ih:(fun (v:AV) (h':Heap) (x':Esc)=>NReg C gl r (put d v e) h' (x'++x) L)=z0W C gl r d e x L:=by
   funext v h' x';rw[← zlp r];rfl
  show _=gK g e h (opC C o (Opd.ev gl e) h) fun v h' x'=>NReg C gl r (put d v e) h' (x'++x) L
  rw[ih]
  cases g with
  | none=>exact ziw
  | some tb=>
   obtain⟨t,b⟩:=tb
   rw[za3,ziw];rfl
def opE (C:Hd) (o:AO) (ev:Opd→AV) (h:Heap) (k:AV→Heap→Esc→Prop):Prop:=match o with
 | .call f args=>z1A C f (ev1 ev args) h k
 | .callv f args=>za8 C (ev f) (ev1 ev args) h k
 | .mnext _ _=>False
 | o=>opN o ev h k
def effN (still eff:Bool) (h h':Heap) (y:Esc) (Q:Prop):Prop:=match upB eff with
 | true=>Q
 | false=>match still with
  | true=>Q
  | false=>(h'=h∧y=[])∧Q
def zyV (C:Hd) (gl:Nat→Option PV) (q:AOp × List (Nat × AV) × AV) (g:Heap):Prop:=
 gK q.1.guard q.2.1 g (opE C q.1.op (Opd.ev gl q.2.1) g) fun v1 h1 x1=>v1=q.2.2∧h1=g∧x1=[]
def z7G (C:Hd) (gl:Nat→Option PV) (h:Heap) (dn:Done) (Q:Prop):List Nat→Prop
 | []=>Q
 | j::r=>(match dn[j]? with | some q=>zyV C gl q h | none=>False)∧z7G C gl h dn Q r
def z7O (C:Hd) (gl:Nat→Option PV) (o:AOp) (e:List (Nat × AV)) (v:AV) (hs:List Heap) (Q:Prop):List Nat→Prop
 | []=>Q
 | k::r=>(match hs[k]? with | some g=>zyV C gl (o,e,v) g | none=>False)∧z7O C gl o e v hs Q r
def zjy (C:Hd) (gl:Nat→Option PV):List DOp→Done→List Heap→List (Nat × AV)→Heap→Esc→(List (Nat × AV)→Heap→Esc→Prop)→Prop
 | [],_,_,e,h,x,L=>L e h x
 | o::r,dn,hs,e,h,x,L=>gK o.op.guard (z0L (some o.rd) e) h (opE C o.op.op (Opd.ev gl (z0L (some o.rd) e)) h) fun v h' y=>
  effN o.op.op.still o.eff h h' y (z7O C gl o.op (z0L (some o.rd) e) v hs (z7G C gl h' dn (zjy C gl r (dn++[(o.op,z0L (some o.rd) e,v)]) (hs++[h]) (put o.op.dst v e) h' (y++x) L) o.again) o.early)
theorem zrz {o:AO} {d:Option Nat} {e:List (Nat × AV)} {h:Heap} {R:AV→Heap→Esc→Prop}:doK C gl ⟨d,none,o⟩ e h R=opE C o (Opd.ev gl e) h R:=by
 cases hp:o.plain with
 | true=>
  rw[z0E hp,zr0 hp]
  cases o <;> first | rfl | cases hp
 | false=>
  cases o <;> first | (cases hp;done) | skip
  all_goals first
   | (rw[zhP,z6i];rfl)
   | (rw[zaG,z6i];rfl)
   | (unfold doK ADo opE;simp [wanted])
theorem zw8 {o:AOp} {e:List (Nat × AV)} {h:Heap} {R:AV→Heap→Esc→Prop}:doK C gl o e h R=gK o.guard e h (opE C o.op (Opd.ev gl e) h) R:=by
 obtain⟨d,g,op⟩:=o
 cases g with
 | none=>exact zrz
 | some tb=>
  obtain⟨t,b⟩:=tb
  rw[zfi,zrz];rfl
theorem ziN {q:AOp × List (Nat × AV) × AV} {g:Heap}:doS C gl q g=zyV C gl q g:=by
 obtain⟨⟨d,gd,op⟩,e,v⟩:=q
 rw[zw2,zw8];rfl
theorem zd5 {h:Heap} {dn:Done} {Q:Prop}:∀ {l:List Nat},z7G C gl h dn Q l=(agK C gl h dn l∧Q)
 | []=>by simp [z7G,agK]
 | j::r=>by
  unfold z7G agK
  rw[zd5 (l:=r)]
  cases dn[j]? with
  | none=>simp
  | some q=>simp only[ziN,and_assoc]
theorem zfk {o:AOp} {e:List (Nat × AV)} {v:AV} {hs:List Heap} {Q:Prop}:∀ {l:List Nat},z7O C gl o e v hs Q l=(eaK C gl o e v hs l∧Q)
 | []=>by simp [z7O,eaK]
 | j::r=>by
  unfold z7O eaK
  rw[zfk (l:=r)]
  cases hs[j]? with
  | none=>simp
  | some q=>simp only[ziN,and_assoc]
theorem zop {o:AOp} (hs:o.op.still=true) {e:List (Nat × AV)} {h:Heap} {R:AV→Heap→Esc→Prop}:doK C gl o e h (fun v h' y=>(h'=h∧y=[])∧R v h' y)=doK C gl o e h R:=by
 unfold doK
 refine propext ⟨fun ⟨v,h',y,H,_,r⟩=>⟨v,h',y,H,r⟩,fun ⟨v,h',y,H,r⟩=>⟨v,h',y,H,zk6 hs H,r⟩⟩
theorem zhb:∀ (ds:List DOp) (dn:Done) (hs:List Heap) (e:List (Nat × AV)) (h:Heap) (x:Esc) (L:List (Nat × AV)→Heap→Esc→Prop),z2s C gl ds dn hs e h x L=zjy C gl ds dn hs e h x L
 | [],dn,hs,e,h,x,L=>rfl
 | ⟨o,rd,eff,early,again⟩::r,dn,hs,e,h,x,L=>by
  rw[za0]
  show _=gK o.guard (z0L (some rd) e) h (opE C o.op (Opd.ev gl (z0L (some rd) e)) h) fun v h' y=>
   effN o.op.still eff h h' y (z7O C gl o (z0L (some rd) e) v hs (z7G C gl h' dn (zjy C gl r (dn++[(o,z0L (some rd) e,v)]) (hs++[h]) (put o.dst v e) h' (y++x) L) again) early)
  rw[← zw8]
  have e1:ztE C gl ⟨o,rd,eff,early,again⟩ r dn hs e h x L=fun v h' y=>(effK eff h h' y∧z7O C gl o (z0L (some rd) e) v hs (z7G C gl h' dn (zjy C gl r (dn++[(o,z0L (some rd) e,v)]) (hs++[h]) (put o.dst v e) h' (y++x) L) again) early):=by
   funext v h' y
   rw[zfj,zfk,zd5,← zhb r]
  rw[e1]
  cases eff with
  | true=>
   congr 1;funext v h' y
   simp [effK,effN,upB]
  | false=>
   cases hs':o.op.still with
   | true=>
    have:=zop (C:=C) (gl:=gl) (o:=o) hs' (e:=z0L (some rd) e) (h:=h) (R:=fun v h' y=>z7O C gl o (z0L (some rd) e) v hs (z7G C gl h' dn (zjy C gl r (dn++[(o,z0L (some rd) e,v)]) (hs++[h]) (put o.dst v e) h' (y++x) L) again) early)
    exact this
   | false=>rfl
def NW (C:Hd) (gl:Nat→Option PV):ACode→St→(Ex→St→Prop)→Prop
 | .skip,s,K=>K .normal s
 | .reg ops keep,s,K=>NReg C gl ops s.env s.h s.esc fun e h x=>K .normal ⟨z0L keep e,h,x⟩
 | .draw ds keep,s,K=>zjy C gl ds [] [] s.env s.h s.esc fun e h x=>K .normal ⟨z0L keep e,h,x⟩
 | .seq a b,s,K=>NW C gl a s fun e s'=>match e with
  | .normal=>NW C gl b s' K
  | .exit i=>K (.exit i) s'
  | .ret=>K .ret s'
 | .cond c a b,s,K=>z0i (Opd.ev gl s.env c) (NW C gl a s K) (NW C gl b s K)
 | .condu c a b,s,K=>zny (Opd.ev gl s.env c) (NW C gl a s K) (NW C gl b s K)
 | .det b,s,K=>NW C gl b s K
 | .block id b,s,K=>NW C gl b s fun e s'=>match e with
  | .normal=>K .normal s'
  | .exit i=>bif Nat.beq i id then K .normal s' else K (.exit i) s'
  | .ret=>K .ret s'
 | .loop b,s,K=>ALoop (NW C gl b) K s
 | .scope b,s,K=>NW C gl b ⟨s.env,s.h,[]⟩ fun e s'=>K e (zcY s.h.length s.esc s')
 | .pr l b,s,K=>NW C gl b ⟨z0L (some l) s.env,s.h,s.esc⟩ K
 | .exit id,s,K=>K (.exit id) s
 | .ret,s,K=>K .ret s
 | .bad,_,_=>False
theorem z5R:∀ (c:ACode) (s:St) (K:Ex→St→Prop),AW C gl c s K=NW C gl c s K
 | .skip,s,K=>rfl
 | .reg ops keep,s,K=>zlp _ _ _ _ _
 | .draw ds keep,s,K=>zhb _ _ _ _ _ _ _
 | .seq a b,s,K=>by
  unfold AW NW
  rw[z5R a]
  congr 1;funext e s'
  cases e with
  | normal=>exact z5R b s' K
  | _=>rfl
 | .cond c a b,s,K=>by
  unfold AW NW z0i
  rw[← z5R a,← z5R b]
  rfl
 | .condu c a b,s,K=>by
  unfold AW NW zny
  rw[← z5R a,← z5R b]
  rfl
 | .det b,s,K=>z5R b s K
 | .block id b,s,K=>by
  unfold AW NW
  rw[z5R b]
  congr 1;funext e s'
  cases e with
  | exit i=>
   dsimp only
   by_cases hi:i=id
   ·subst hi;simp
   ·rw[if_neg hi]
    have:Nat.beq i id=false:=by cases h:Nat.beq i id with | false=>rfl | true=>exact absurd (Nat.eq_of_beq_eq_true h) hi
    rw[this];rfl
  | _=>rfl
 | .loop b,s,K=>by
  show ALoop (AW C gl b) K s=ALoop (NW C gl b) K s
  rw[show AW C gl b=NW C gl b from funext fun s=>funext fun K=>z5R b s K]
 | .scope b,s,K=>z5R b _ _
 | .pr l b,s,K=>z5R b _ _
 | .exit id,s,K=>rfl
 | .ret,s,K=>rfl
 | .bad,s,K=>rfl
end Go.Am
end
