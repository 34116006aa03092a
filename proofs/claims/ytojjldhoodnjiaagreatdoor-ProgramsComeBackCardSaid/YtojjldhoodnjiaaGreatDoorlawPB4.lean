/- Texts of the proof, laid together: Am24, Am25, AmX, PSplit, PTxt, AmL, PNum, PFltR, PWrit, PVTxt, Nums, Am26, Am27, Am28. -/
import Derived.Below
import Derived.ChangeSlices
import Derived.Carry
import GoSem.Extern.Table
import Derived.Laws.World
import Derived.Test.YtojjldhoodnjiaaGreatDoorlawPB3
set_option linter.all false
section
/- The abstract machine,part 24: rules by which its code is computed on what is only partly known. -/
set_option linter.unusedSimpArgs false
set_option linter.unusedVariables false
namespace Go.Am
def optK (o:Option (AV × Heap × Esc)) (f:AV→Heap→Esc→Prop):Prop:=match o with
 | some y=>f y.1 y.2.1 y.2.2
 | none=>False
def zmU (v:AV) (A B:Prop):Prop:=match v with
 | .p (.bool t)=>match t with
  | true=>A
  | false=>B
 | .anyb=>A∧B
 | _=>False
def z0i (v:AV) (A B:Prop):Prop:=match v with
 | .p (.bool t)=>match t with
  | true=>A
  | false=>B
 | _=>False
def z3e (v:AV) (b:Bool) (A B:Prop):Prop:=match v with
 | .p (.bool c)=>match c==b with
  | true=>A
  | false=>B
 | .skp=>B
 | _=>False
def regK (keep:Option (List Nat)) (K:Ex→St→Prop) (e:List (Nat × AV)) (h:Heap) (x:Esc):Prop:=K .normal ⟨z0E keep e,h,x⟩
def seqK (C:Hd) (gl:Nat→Option PV) (b:ACode) (K:Ex→St→Prop) (e:Ex) (s:St):Prop:=match e with
 | .normal=>AW C gl b s K
 | .exit i=>K (.exit i) s
 | .ret=>K .ret s
def zaf (id:Nat) (K:Ex→St→Prop) (e:Ex) (s:St):Prop:=match e with
 | .normal=>K .normal s
 | .exit i=>if i=id then K .normal s else K (.exit i) s
 | .ret=>K .ret s
def finK (F:AFun) (b:Nat) (K:Post) (e:Ex) (s:St):Prop:=match e with
 | .exit _=>False
 | _=>fin F b s K
def zfv (n:Nat) (x:Esc) (K:Ex→St→Prop) (e:Ex) (s:St):Prop:=K e (z9X n x s)
def AO.plain:AO→Bool
 | .call _ _ | .callv _ _ | .mnext _ _=>false
 | .mv _=>true
 | .pick _ _ _=>true
 | .alloc _=>true
 | .box _=>true
 | .build _ _=>true
 | .bsl _ _ _ _ _=>true
 | .load _ _=>true
 | .store _ _ _=>true
 | .nilchk _=>true
 | .bin _ _ _=>true
 | .eqa _ _ _ _=>true
 | .isnil _ _ _=>true
 | .mkif _=>true
 | .un _ _=>true
 | .conv _ _=>true
 | .mkfn _ _=>true
 | .mkmap=>true
 | .mksl _ _ _ _=>true
 | .slice _ _ _ _ _=>true
 | .slstr _ _ _=>true
 | .faddr _ _ _=>true
 | .field _ _ _=>true
 | .iaddr _ _ _=>true
 | .iaddra _ _ _ _=>true
 | .idxa _ _ _ _=>true
 | .idxs _ _=>true
 | .look _ _ _ _ _=>true
 | .mupd _ _ _ _=>true
 | .ment _ _ _ _=>true
 | .estore _ _ _=>true
 | .mdel _ _ _=>true
 | .ext _ _=>true
 | .len _=>true
 | .lens _=>true
 | .lenm _=>true
 | .app _ _ _=>true
 | .copy _ _ _=>true
 | .uns _ _ _=>true
 | .clr _ _ _=>true
 | .mx _=>true
 | .mn _=>true
 | .mrange _=>true
 | .mentry _=>true
 | .new0 _=>true
variable {C:Hd} {gl:Nat→Option PV} {e:List (Nat × AV)} {h:Heap} {x:Esc} {K:Ex→St→Prop} {L:List (Nat × AV)→Heap→Esc→Prop} {s:St}
theorem zyL:AW C gl .skip s K=K .normal s:=(rfl)
theorem AW_ret:AW C gl .ret s K=K .ret s:=(rfl)
theorem zyK {i:Nat}:AW C gl (.exit i) s K=K (.exit i) s:=(rfl)
theorem AW_bad:AW C gl .bad s K=False:=(rfl)
theorem AW_reg {ops:List AOp} {keep:Option (List Nat)}:AW C gl (.reg ops keep) ⟨e,h,x⟩ K=AReg C gl ops e h x (regK keep K):=(rfl)
theorem AW_seq {a b:ACode}:AW C gl (.seq a b) s K=AW C gl a s (seqK C gl b K):=(rfl)
theorem zyI {c:Opd} {a b:ACode}:AW C gl (.cond c a b) ⟨e,h,x⟩ K=z0i (Opd.ev gl e c) (AW C gl a ⟨e,h,x⟩ K) (AW C gl b ⟨e,h,x⟩ K):=(rfl)
theorem zub {i:Nat} {b:ACode}:AW C gl (.block i b) s K=AW C gl b s (zaf i K):=(rfl)
theorem zud {b:ACode}:AW C gl (.scope b) ⟨e,h,x⟩ K=AW C gl b ⟨e,h,[]⟩ (zfv h.length x K):=(rfl)
theorem AW_pr {l:List Nat} {b:ACode}:AW C gl (.pr l b) ⟨e,h,x⟩ K=AW C gl b ⟨z0E (some l) e,h,x⟩ K:=(rfl)
theorem y0w {keep:Option (List Nat)}:regK keep K e h x=K .normal ⟨z0E keep e,h,x⟩:=(rfl)
theorem zgs {b:ACode}:seqK C gl b K .normal s=AW C gl b s K:=(rfl)
theorem zt0 {b:ACode} {i:Nat}:seqK C gl b K (.exit i) s=K (.exit i) s:=(rfl)
theorem zwf {b:ACode}:seqK C gl b K .ret s=K .ret s:=(rfl)
theorem zb9 {i:Nat}:zaf i K .normal s=K .normal s:=(rfl)
theorem zfN {i j:Nat}:zaf i K (.exit j) s=if j=i then K .normal s else K (.exit j) s:=(rfl)
theorem zjs {i:Nat}:zaf i K .ret s=K .ret s:=(rfl)
theorem zfx {n:Nat} {y:Esc} {ex:Ex}:zfv n y K ex s=K ex (z9X n y s):=(rfl)
def z0U (C:Hd) (gl:Nat→Option PV) (r:List AOp) (d:Option Nat) (e:List (Nat × AV)) (x:Esc) (L:List (Nat × AV)→Heap→Esc→Prop) (v:AV) (h':Heap) (x':Esc):Prop:=AReg C gl r (put d v e) h' (x'++x) L
theorem zuz {r:List AOp} {d:Option Nat} {v:AV} {h':Heap} {x':Esc}:z0U C gl r d e x L v h' x'=AReg C gl r (put d v e) h' (x'++x) L:=(rfl)
theorem zfX {r:List AOp} {d:Option Nat} {v w:AV} {h' h'':Heap} {x' x'':Esc} (h1:v=w) (h2:h'=h'') (h3:x'=x''):z0U C gl r d e x L v h' x'=z0U C gl r d e x L w h'' x'':=by rw[h1,h2,h3]
theorem zua:AReg C gl [] e h x L=L e h x:=(rfl)
theorem z0x {d:Option Nat} {op:AO} {r:List AOp} (hp:op.plain=true):AReg C gl (⟨d,none,op⟩::r) e h x L=optK (aop op (Opd.ev gl e) h) (z0U C gl r d e x L):=by
 cases op <;> first | (cases hp;done) | (simp only[AReg,wanted,optK,z0U];split <;> simp_all)
theorem zyF {d:Option Nat} {r:List AOp} {q0:Opd}:AReg C gl (⟨d,none,(.mv q0)⟩::r) e h x L=optK (aop (.mv q0) (Opd.ev gl e) h) (z0U C gl r d e x L):=z0x rfl
theorem zkA {d:Option Nat} {r:List AOp} {q0 q1 q2:Opd}:AReg C gl (⟨d,none,(.pick q0 q1 q2)⟩::r) e h x L=optK (aop (.pick q0 q1 q2) (Opd.ev gl e) h) (z0U C gl r d e x L):=z0x rfl
theorem ziW {d:Option Nat} {r:List AOp} {q0:List AV}:AReg C gl (⟨d,none,(.alloc q0)⟩::r) e h x L=optK (aop (.alloc q0) (Opd.ev gl e) h) (z0U C gl r d e x L):=z0x rfl
theorem ztV {d:Option Nat} {r:List AOp} {q0:Opd}:AReg C gl (⟨d,none,(.box q0)⟩::r) e h x L=optK (aop (.box q0) (Opd.ev gl e) h) (z0U C gl r d e x L):=z0x rfl
theorem ziX {d:Option Nat} {r:List AOp} {q0:List AV} {q1:List (Nat × Nat × Opd)}:AReg C gl (⟨d,none,(.build q0 q1)⟩::r) e h x L=optK (aop (.build q0 q1) (Opd.ev gl e) h) (z0U C gl r d e x L):=z0x rfl
theorem ztW {d:Option Nat} {r:List AOp} {q0:Bool} {q1:Sh} {q2:Nat} {q3:PV} {q4:List (Nat × Opd)}:AReg C gl (⟨d,none,(.bsl q0 q1 q2 q3 q4)⟩::r) e h x L=optK (aop (.bsl q0 q1 q2 q3 q4) (Opd.ev gl e) h) (z0U C gl r d e x L):=z0x rfl
theorem zk1 {d:Option Nat} {r:List AOp} {q0:Sh} {q1:Opd}:AReg C gl (⟨d,none,(.load q0 q1)⟩::r) e h x L=optK (aop (.load q0 q1) (Opd.ev gl e) h) (z0U C gl r d e x L):=z0x rfl
theorem zjg {d:Option Nat} {r:List AOp} {q0:Sh} {q1 q2:Opd}:AReg C gl (⟨d,none,(.store q0 q1 q2)⟩::r) e h x L=optK (aop (.store q0 q1 q2) (Opd.ev gl e) h) (z0U C gl r d e x L):=z0x rfl
theorem zfG {d:Option Nat} {r:List AOp} {q0:Opd}:AReg C gl (⟨d,none,(.nilchk q0)⟩::r) e h x L=optK (aop (.nilchk q0) (Opd.ev gl e) h) (z0U C gl r d e x L):=z0x rfl
theorem ztU {d:Option Nat} {r:List AOp} {q0:BinOp} {q1 q2:Opd}:AReg C gl (⟨d,none,(.bin q0 q1 q2)⟩::r) e h x L=optK (aop (.bin q0 q1 q2) (Opd.ev gl e) h) (z0U C gl r d e x L):=z0x rfl
theorem ztX {d:Option Nat} {r:List AOp} {q0:List Nat} {q1:Bool} {q2 q3:Opd}:AReg C gl (⟨d,none,(.eqa q0 q1 q2 q3)⟩::r) e h x L=optK (aop (.eqa q0 q1 q2 q3) (Opd.ev gl e) h) (z0U C gl r d e x L):=z0x rfl
theorem zjc {d:Option Nat} {r:List AOp} {q0:Nat} {q1:Bool} {q2:Opd}:AReg C gl (⟨d,none,(.isnil q0 q1 q2)⟩::r) e h x L=optK (aop (.isnil q0 q1 q2) (Opd.ev gl e) h) (z0U C gl r d e x L):=z0x rfl
theorem zk6 {d:Option Nat} {r:List AOp} {q0:Opd}:AReg C gl (⟨d,none,(.mkif q0)⟩::r) e h x L=optK (aop (.mkif q0) (Opd.ev gl e) h) (z0U C gl r d e x L):=z0x rfl
theorem zyH {d:Option Nat} {r:List AOp} {q0:UnOp} {q1:Opd}:AReg C gl (⟨d,none,(.un q0 q1)⟩::r) e h x L=optK (aop (.un q0 q1) (Opd.ev gl e) h) (z0U C gl r d e x L):=z0x rfl
theorem zkv {d:Option Nat} {r:List AOp} {q0:Cv} {q1:Opd}:AReg C gl (⟨d,none,(.conv q0 q1)⟩::r) e h x L=optK (aop (.conv q0 q1) (Opd.ev gl e) h) (z0U C gl r d e x L):=z0x rfl
theorem zk5 {d:Option Nat} {r:List AOp} {q0:Nat} {q1:List Opd}:AReg C gl (⟨d,none,(.mkfn q0 q1)⟩::r) e h x L=optK (aop (.mkfn q0 q1) (Opd.ev gl e) h) (z0U C gl r d e x L):=z0x rfl
theorem zjd {d:Option Nat} {r:List AOp}  : AReg C gl (⟨d,none,.mkmap⟩::r) e h x L=optK (aop .mkmap (Opd.ev gl e) h) (z0U C gl r d e x L):=z0x rfl
theorem zk7 {d:Option Nat} {r:List AOp} {q0:Sh} {q1:PV} {q2 q3:Opd}:AReg C gl (⟨d,none,(.mksl q0 q1 q2 q3)⟩::r) e h x L=optK (aop (.mksl q0 q1 q2 q3) (Opd.ev gl e) h) (z0U C gl r d e x L):=z0x rfl
theorem zje {d:Option Nat} {r:List AOp} {q0:Sh} {q1:Opd} {q2 q3 q4:Option Opd}:AReg C gl (⟨d,none,(.slice q0 q1 q2 q3 q4)⟩::r) e h x L=optK (aop (.slice q0 q1 q2 q3 q4) (Opd.ev gl e) h) (z0U C gl r d e x L):=z0x rfl
theorem zjf {d:Option Nat} {r:List AOp} {q0:Opd} {q1 q2:Option Opd}:AReg C gl (⟨d,none,(.slstr q0 q1 q2)⟩::r) e h x L=optK (aop (.slstr q0 q1 q2) (Opd.ev gl e) h) (z0U C gl r d e x L):=z0x rfl
theorem ziZ {d:Option Nat} {r:List AOp} {q0:Nat} {q1:Sh} {q2:Opd}:AReg C gl (⟨d,none,(.faddr q0 q1 q2)⟩::r) e h x L=optK (aop (.faddr q0 q1 q2) (Opd.ev gl e) h) (z0U C gl r d e x L):=z0x rfl
theorem zja {d:Option Nat} {r:List AOp} {q0:Nat} {q1:Sh} {q2:Opd}:AReg C gl (⟨d,none,(.field q0 q1 q2)⟩::r) e h x L=optK (aop (.field q0 q1 q2) (Opd.ev gl e) h) (z0U C gl r d e x L):=z0x rfl
theorem zjb {d:Option Nat} {r:List AOp} {q0:Sh} {q1 q2:Opd}:AReg C gl (⟨d,none,(.iaddr q0 q1 q2)⟩::r) e h x L=optK (aop (.iaddr q0 q1 q2) (Opd.ev gl e) h) (z0U C gl r d e x L):=z0x rfl
theorem zfD {d:Option Nat} {r:List AOp} {q0:Nat} {q1:Sh} {q2 q3:Opd}:AReg C gl (⟨d,none,(.iaddra q0 q1 q2 q3)⟩::r) e h x L=optK (aop (.iaddra q0 q1 q2 q3) (Opd.ev gl e) h) (z0U C gl r d e x L):=z0x rfl
theorem zkx {d:Option Nat} {r:List AOp} {q0:Nat} {q1:Sh} {q2 q3:Opd}:AReg C gl (⟨d,none,(.idxa q0 q1 q2 q3)⟩::r) e h x L=optK (aop (.idxa q0 q1 q2 q3) (Opd.ev gl e) h) (z0U C gl r d e x L):=z0x rfl
theorem zky {d:Option Nat} {r:List AOp} {q0 q1:Opd}:AReg C gl (⟨d,none,(.idxs q0 q1)⟩::r) e h x L=optK (aop (.idxs q0 q1) (Opd.ev gl e) h) (z0U C gl r d e x L):=z0x rfl
theorem zk2 {d:Option Nat} {r:List AOp} {kk:Sh × List Nat} {q0:Bool} {q1:AV} {q2 q3:Opd}:AReg C gl (⟨d,none,(.look kk q0 q1 q2 q3)⟩::r) e h x L=optK (aop (.look kk q0 q1 q2 q3) (Opd.ev gl e) h) (z0U C gl r d e x L):=z0x rfl
theorem zk8 {d:Option Nat} {r:List AOp} {kk:Sh × List Nat} {q0 q1 q2:Opd}:AReg C gl (⟨d,none,(.mupd kk q0 q1 q2)⟩::r) e h x L=optK (aop (.mupd kk q0 q1 q2) (Opd.ev gl e) h) (z0U C gl r d e x L):=z0x rfl
theorem zk4 {d:Option Nat} {r:List AOp} {kk:Sh × List Nat} {q0:AV} {q1 q2:Opd}:AReg C gl (⟨d,none,(.ment kk q0 q1 q2)⟩::r) e h x L=optK (aop (.ment kk q0 q1 q2) (Opd.ev gl e) h) (z0U C gl r d e x L):=z0x rfl
theorem zfC {d:Option Nat} {r:List AOp} {q0 q1 q2:Opd}:AReg C gl (⟨d,none,(.estore q0 q1 q2)⟩::r) e h x L=optK (aop (.estore q0 q1 q2) (Opd.ev gl e) h) (z0U C gl r d e x L):=z0x rfl
theorem zk3 {d:Option Nat} {r:List AOp} {kk:Sh × List Nat} {q0 q1:Opd}:AReg C gl (⟨d,none,(.mdel kk q0 q1)⟩::r) e h x L=optK (aop (.mdel kk q0 q1) (Opd.ev gl e) h) (z0U C gl r d e x L):=z0x rfl
theorem ztY {d:Option Nat} {r:List AOp} {q0:Opd} {q1:Nat}:AReg C gl (⟨d,none,(.ext q0 q1)⟩::r) e h x L=optK (aop (.ext q0 q1) (Opd.ev gl e) h) (z0U C gl r d e x L):=z0x rfl
theorem ztZ {d:Option Nat} {r:List AOp} {q0:Opd}:AReg C gl (⟨d,none,(.len q0)⟩::r) e h x L=optK (aop (.len q0) (Opd.ev gl e) h) (z0U C gl r d e x L):=z0x rfl
theorem zk0 {d:Option Nat} {r:List AOp} {q0:Opd}:AReg C gl (⟨d,none,(.lens q0)⟩::r) e h x L=optK (aop (.lens q0) (Opd.ev gl e) h) (z0U C gl r d e x L):=z0x rfl
theorem zkz {d:Option Nat} {r:List AOp} {q0:Opd}:AReg C gl (⟨d,none,(.lenm q0)⟩::r) e h x L=optK (aop (.lenm q0) (Opd.ev gl e) h) (z0U C gl r d e x L):=z0x rfl
theorem ztT {d:Option Nat} {r:List AOp} {q0:Sh} {q1 q2:Opd}:AReg C gl (⟨d,none,(.app q0 q1 q2)⟩::r) e h x L=optK (aop (.app q0 q1 q2) (Opd.ev gl e) h) (z0U C gl r d e x L):=z0x rfl
theorem zkw {d:Option Nat} {r:List AOp} {q0:Sh} {q1 q2:Opd}:AReg C gl (⟨d,none,(.copy q0 q1 q2)⟩::r) e h x L=optK (aop (.copy q0 q1 q2) (Opd.ev gl e) h) (z0U C gl r d e x L):=z0x rfl
theorem zyG {d:Option Nat} {r:List AOp} {q0:List Opd}:AReg C gl (⟨d,none,(.mx q0)⟩::r) e h x L=optK (aop (.mx q0) (Opd.ev gl e) h) (z0U C gl r d e x L):=z0x rfl
theorem zyE {d:Option Nat} {r:List AOp} {q0:List Opd}:AReg C gl (⟨d,none,(.mn q0)⟩::r) e h x L=optK (aop (.mn q0) (Opd.ev gl e) h) (z0U C gl r d e x L):=z0x rfl
theorem zfF {d:Option Nat} {r:List AOp} {q0:Opd}:AReg C gl (⟨d,none,(.mrange q0)⟩::r) e h x L=optK (aop (.mrange q0) (Opd.ev gl e) h) (z0U C gl r d e x L):=z0x rfl
theorem zfE {d:Option Nat} {r:List AOp} {q0:Opd}:AReg C gl (⟨d,none,(.mentry q0)⟩::r) e h x L=optK (aop (.mentry q0) (Opd.ev gl e) h) (z0U C gl r d e x L):=z0x rfl
theorem zk9 {d:Option Nat} {r:List AOp} {q0:Sh}:AReg C gl (⟨d,none,(.new0 q0)⟩::r) e h x L=optK (aop (.new0 q0) (Opd.ev gl e) h) (z0U C gl r d e x L):=z0x rfl
theorem zc5 {d:Option Nat} {f:Nat} {args:List Opd} {r:List AOp}:AReg C gl (⟨d,none,.call f args⟩::r) e h x L=C f (args.map (Opd.ev gl e)) h (z0U C gl r d e x L):=(rfl)
theorem zkB {d:Option Nat} {g:Option (Nat × Bool)} {op:AO} {r:List AOp} (hw:wanted g e=some true):AReg C gl (⟨d,g,op⟩::r) e h x L=AReg C gl (⟨d,none,op⟩::r) e h x L:=by
 rw[AReg,AReg]
 have h2:wanted none e=some true:=(rfl)
 simp only[hw,h2]
theorem zaa {d:Option Nat} {g:Option (Nat × Bool)} {op:AO} {r:List AOp} (hw:wanted g e=some false):AReg C gl (⟨d,g,op⟩::r) e h x L=AReg C gl r (put d .skp e) h x L:=by
 rw[AReg]
 simp only[hw]
theorem zjh {d:Option Nat} {g:Option (Nat × Bool)} {op:AO} {r:List AOp} (hw:wanted g e=none):AReg C gl (⟨d,g,op⟩::r) e h x L=False:=by
 rw[AReg]
 simp only[hw]
theorem zab {d:Option Nat} {t:Nat} {b:Bool} {op:AO} {r:List AOp}:AReg C gl (⟨d,some (t,b),op⟩::r) e h x L=z3e (aget e t) b (AReg C gl (⟨d,none,op⟩::r) e h x L) (AReg C gl r (put d .skp e) h x L):=by
 have key:∀ v,aget e t=v→AReg C gl (⟨d,some (t,b),op⟩::r) e h x L=z3e v b (AReg C gl (⟨d,none,op⟩::r) e h x L) (AReg C gl r (put d .skp e) h x L):=by
  intro v hv
  unfold z3e
  split
  ·rename_i c
   split
   ·rename_i hcb;exact zkB (by simp [wanted,hv,hcb])
   ·rename_i hcb;exact zaa (by simp [wanted,hv,hcb])
  ·exact zaa (by simp [wanted,hv])
  ·rename_i h1 h2
   refine zjh ?_
   simp only[wanted,hv]
 exact key _ rfl
theorem zqR {v:AV} {h:Heap} {x:Esc} {f:AV→Heap→Esc→Prop}:optK (some (v,h,x)) f=f v h x:=(rfl)
theorem zqQ {f:AV→Heap→Esc→Prop}:optK none f=False:=(rfl)
theorem zv1 {p:Prop} [Decidable p] {a b:Option (AV × Heap × Esc)} {f:AV→Heap→Esc→Prop}:optK (if p then a else b) f=if p then optK a f else optK b f:=by split <;> rfl
theorem zeY {α:Type} {p:Prop} [Decidable p] {a b:Option α} {g:α→AV × Heap × Esc} {f:AV→Heap→Esc→Prop}:optK (Option.map g (if p then a else b)) f=if p then optK (a.map g) f else optK (b.map g) f:=by split <;> rfl
theorem zan {t:Bool} {A B:Prop}:z0i (.p (.bool t)) A B=if t=true then A else B:=by cases t <;> simp [z0i]
theorem zao {A B:Prop}:z0i (.p (.bool true)) A B=A:=(rfl)
theorem z8q {A B:Prop}:z0i (.p (.bool false)) A B=B:=(rfl)
theorem zf7 {b:Bool} {A B:Prop}:z3e .skp b A B=B:=(rfl)
theorem zkn {t:Bool} {A B:Prop}:z3e (.p (.bool t)) true A B=if t=true then A else B:=by cases t <;> simp [z3e]
theorem zgz {t:Bool} {A B:Prop}:z3e (.p (.bool t)) false A B=if t=true then B else A:=by cases t <;> simp [z3e]
theorem zfV {v v':AV} {A B:Prop} (hv:v=v'):z0i v A B=z0i v' A B:=by rw[hv]
theorem zgy {v v':AV} {b:Bool} {A B:Prop} (hv:v=v'):z3e v b A B=z3e v' b A B:=by rw[hv]
theorem zjP {o o':Option (AV × Heap × Esc)} {f:AV→Heap→Esc→Prop} (ho:o=o'):optK o f=optK o' f:=by rw[ho]
theorem ziY {ops:List AOp} {e e':List (Nat × AV)} {h h':Heap} {x x':Esc} (he:e=e') (hh:h=h') (hx:x=x'):AReg C gl ops e h x L=AReg C gl ops e' h' x' L:=by rw[he,hh,hx]
theorem zuc {c:ACode} {s s':St} (hs:s=s'):AW C gl c s K=AW C gl c s' K:=by rw[hs]
theorem zjT {keep:Option (List Nat)} {e e':List (Nat × AV)} {h h':Heap} {x x':Esc} (he:e=e') (hh:h=h') (hx:x=x'):regK keep K e h x=regK keep K e' h' x':=by rw[he,hh,hx]
theorem zkd {b:ACode} {ex ex':Ex} {s s':St} (he:ex=ex') (hs:s=s'):seqK C gl b K ex s=seqK C gl b K ex' s':=by rw[he,hs]
theorem zcY {i:Nat} {ex ex':Ex} {s s':St} (he:ex=ex') (hs:s=s'):zaf i K ex s=zaf i K ex' s':=by rw[he,hs]
theorem zfw {n:Nat} {y:Esc} {ex ex':Ex} {s s':St} (he:ex=ex') (hs:s=s'):zfv n y K ex s=zfv n y K ex' s':=by rw[he,hs]
theorem zly {X:Ctx} {f:Nat} {F:AFun} {a:List AV} {h:Heap} {P:Post} (hf:X.fn f=some F) (hd:F.isDet=false):z0c X f a h P=z2Z (z0c X) X.gl F a h P:=by
 rw[propext zc3]
 unfold Step
 rw[hf]
 simp only[z56,hd]
theorem zui {X:Ctx} {f:Nat} {F:AFun} {a:List AV} {h:Heap} {P:Post} (hf:X.fn f=some F) (hd:F.isDet=true):z0c X f a h P = ∃ v h' x,P v h' x∧z2Z (z0c X) X.gl F a h fun v1 h1 x1=>v1=v∧h1=h'∧x1=x:=by
 rw[propext zc3]
 unfold Step
 rw[hf]
 simp only[z56,hd]
theorem zpw {A B:AV→Heap→Esc→Prop} (h:∀ v h' x,A v h' x=B v h' x):(∃ v h' x,A v h' x) = ∃ v h' x,B v h' x:=by
 simp only[h]
theorem zcT {F:AFun} {a asv:List AV} {h h1:Heap} {P:Post} (hr:F.byref=false) (hp:z0p h a=some (asv,h1)) (hl:asv.length=F.nparams) :
 z2Z C gl F a h P=AW C gl F.body ⟨enter asv,h1,[]⟩ (finK F h.length P):=by
 unfold z2Z
 rw[hr]
 simp only[Bool.false_eq_true,if_false,hp,hl,true_and]
 congr 1
theorem zmz {F:AFun} {asv:List AV} {h:Heap} {P:Post} (hr:F.byref=true) (hl:asv.length=F.nparams) :
 z2Z C gl F asv h P=AW C gl F.body ⟨enter asv,h,[]⟩ (finK F h.length P):=by
 unfold z2Z
 rw[hr]
 simp only[if_true,hl,true_and]
 congr 1
def doK (C:Hd) (gl:Nat→Option PV) (o:AOp) (e:List (Nat × AV)) (h:Heap) (R:AV→Heap→Esc→Prop):Prop:=∃ v h' y,ADo C gl o e h v h' y∧R v h' y
def z1Q (C:Hd) (f:Nat) (a:List AV) (h:Heap) (R:AV→Heap→Esc→Prop):Prop:=∃ v h' y,C f a h (fun v1 h1 x1=>v1=v∧h1=h'∧x1=y)∧R v h' y
def zuM (C:Hd) (gl:Nat→Option PV) (o:DOp) (r:List DOp) (dn:Done) (hs:List Heap) (e:List (Nat × AV)) (h:Heap) (x:Esc) (L:List (Nat × AV)→Heap→Esc→Prop) (v:AV) (h':Heap) (y:Esc):Prop:=
 (o.eff=false→h'=h∧y=[])∧(∀ k∈o.early,∃ g,hs[k]?=some g∧ADo C gl o.op (z0E (some o.rd) e) g v g []) ∧
  (∀ j∈o.again,∃ q,dn[j]?=some q∧ADo C gl q.1 q.2.1 h' q.2.2 h' [])∧z2s C gl r (dn++[(o.op,z0E (some o.rd) e,v)]) (hs++[h]) (put o.op.dst v e) h' (y++x) L
theorem zyJ {ds:List DOp} {keep:Option (List Nat)}:AW C gl (.draw ds keep) ⟨e,h,x⟩ K=z2s C gl ds [] [] e h x (regK keep K):=(rfl)
theorem zkt {dn:Done} {hs:List Heap}:z2s C gl [] dn hs e h x L=L e h x:=(rfl)
theorem z9Y {o:DOp} {r:List DOp} {dn:Done} {hs:List Heap}:z2s C gl (o::r) dn hs e h x L=doK C gl o.op (z0E (some o.rd) e) h (zuM C gl o r dn hs e h x L):=(rfl)
variable {R:AV→Heap→Esc→Prop}
theorem ex3 {v0:AV} {h0:Heap} {y0:Esc}:(∃ v h y,(v=v0∧h=h0∧y=y0)∧R v h y)=R v0 h0 y0:=
 propext ⟨fun ⟨_,_,_,⟨h1,h2,h3⟩,r⟩=>by subst h1;subst h2;subst h3;exact r,fun r=>⟨_,_,_,⟨rfl,rfl,rfl⟩,r⟩⟩
theorem ex3' {v0:AV} {h0:Heap} {y0:Esc}:(∃ v h y,(v0=v∧h0=h∧y0=y)∧R v h y)=R v0 h0 y0:=
 propext ⟨fun ⟨_,_,_,⟨h1,h2,h3⟩,r⟩=>by subst h1;subst h2;subst h3;exact r,fun r=>⟨_,_,_,⟨rfl,rfl,rfl⟩,r⟩⟩
theorem z0D {d:Option Nat} {op:AO} (hp:op.plain=true):doK C gl ⟨d,none,op⟩ e h R=optK (aop op (Opd.ev gl e) h) R:=by
 have key:∀ o:Option (AV × Heap × Esc),(∃ v h' y,o=some (v,h',y)∧R v h' y)=optK o R:=by
  intro o
  cases o with
  | none=>simp [optK]
  | some z=>obtain⟨v,h',y⟩:=z;simp only[Option.some.injEq,Prod.mk.injEq,ex3'];rfl
 rw[← key]
 unfold doK ADo
 cases op <;> first | (cases hp;done) | rfl
theorem zh3 {d:Option Nat} {f:Nat} {args:List Opd}:doK C gl ⟨d,none,.call f args⟩ e h R=z1Q C f (args.map (Opd.ev gl e)) h R:=(rfl)
theorem ze1 {d:Option Nat} {t:Nat} {b:Bool} {op:AO}:doK C gl ⟨d,some (t,b),op⟩ e h R=z3e (aget e t) b (doK C gl ⟨d,none,op⟩ e h R) (R .skp h []):=by
 have h2:wanted none e=some true:=(rfl)
 have key:∀ v,aget e t=v→doK C gl ⟨d,some (t,b),op⟩ e h R=z3e v b (doK C gl ⟨d,none,op⟩ e h R) (R .skp h []):=by
  intro v hv
  unfold z3e
  split
  ·rename_i c
   split
   ·rename_i hcb
    have hw:wanted (some (t,b)) e=some true:=by simp [wanted,hv,hcb]
    unfold doK ADo
    simp only[hw,h2]
   ·rename_i hcb
    have hw:wanted (some (t,b)) e=some false:=by simp [wanted,hv,hcb]
    unfold doK ADo
    simp only[hw,ex3]
  ·have hw:wanted (some (t,b)) e=some false:=by simp [wanted,hv]
   unfold doK ADo
   simp only[hw,ex3]
  ·rename_i h3 h4
   have hw:wanted (some (t,b)) e=none:=by
    simp only[wanted,hv]
   unfold doK ADo
   simp only[hw]
   simp
 exact key _ rfl
theorem doK_mv {d:Option Nat} {q0:Opd}:doK C gl ⟨d,none,(.mv q0)⟩ e h R=optK (aop (.mv q0) (Opd.ev gl e) h) R:=z0D rfl
theorem zuL {d:Option Nat} {q0 q1 q2:Opd}:doK C gl ⟨d,none,(.pick q0 q1 q2)⟩ e h R=optK (aop (.pick q0 q1 q2) (Opd.ev gl e) h) R:=z0D rfl
theorem zn3 {d:Option Nat} {q0:List AV}:doK C gl ⟨d,none,(.alloc q0)⟩ e h R=optK (aop (.alloc q0) (Opd.ev gl e) h) R:=z0D rfl
theorem zzz {d:Option Nat} {q0:Opd}:doK C gl ⟨d,none,(.box q0)⟩ e h R=optK (aop (.box q0) (Opd.ev gl e) h) R:=z0D rfl
theorem zn4 {d:Option Nat} {q0:List AV} {q1:List (Nat × Nat × Opd)}:doK C gl ⟨d,none,(.build q0 q1)⟩ e h R=optK (aop (.build q0 q1) (Opd.ev gl e) h) R:=z0D rfl
theorem zz0 {d:Option Nat} {q0:Bool} {q1:Sh} {q2:Nat} {q3:PV} {q4:List (Nat × Opd)}:doK C gl ⟨d,none,(.bsl q0 q1 q2 q3 q4)⟩ e h R=optK (aop (.bsl q0 q1 q2 q3 q4) (Opd.ev gl e) h) R:=z0D rfl
theorem zuC {d:Option Nat} {q0:Sh} {q1:Opd}:doK C gl ⟨d,none,(.load q0 q1)⟩ e h R=optK (aop (.load q0 q1) (Opd.ev gl e) h) R:=z0D rfl
theorem znE {d:Option Nat} {q0:Sh} {q1 q2:Opd}:doK C gl ⟨d,none,(.store q0 q1 q2)⟩ e h R=optK (aop (.store q0 q1 q2) (Opd.ev gl e) h) R:=z0D rfl
theorem zj1 {d:Option Nat} {q0:Opd}:doK C gl ⟨d,none,(.nilchk q0)⟩ e h R=optK (aop (.nilchk q0) (Opd.ev gl e) h) R:=z0D rfl
theorem zzy {d:Option Nat} {q0:BinOp} {q1 q2:Opd}:doK C gl ⟨d,none,(.bin q0 q1 q2)⟩ e h R=optK (aop (.bin q0 q1 q2) (Opd.ev gl e) h) R:=z0D rfl
theorem zz1 {d:Option Nat} {q0:List Nat} {q1:Bool} {q2 q3:Opd}:doK C gl ⟨d,none,(.eqa q0 q1 q2 q3)⟩ e h R=optK (aop (.eqa q0 q1 q2 q3) (Opd.ev gl e) h) R:=z0D rfl
theorem zn9 {d:Option Nat} {q0:Nat} {q1:Bool} {q2:Opd}:doK C gl ⟨d,none,(.isnil q0 q1 q2)⟩ e h R=optK (aop (.isnil q0 q1 q2) (Opd.ev gl e) h) R:=z0D rfl
theorem zuH {d:Option Nat} {q0:Opd}:doK C gl ⟨d,none,(.mkif q0)⟩ e h R=optK (aop (.mkif q0) (Opd.ev gl e) h) R:=z0D rfl
theorem doK_un {d:Option Nat} {q0:UnOp} {q1:Opd}:doK C gl ⟨d,none,(.un q0 q1)⟩ e h R=optK (aop (.un q0 q1) (Opd.ev gl e) h) R:=z0D rfl
theorem zu6 {d:Option Nat} {q0:Cv} {q1:Opd}:doK C gl ⟨d,none,(.conv q0 q1)⟩ e h R=optK (aop (.conv q0 q1) (Opd.ev gl e) h) R:=z0D rfl
theorem zuG {d:Option Nat} {q0:Nat} {q1:List Opd}:doK C gl ⟨d,none,(.mkfn q0 q1)⟩ e h R=optK (aop (.mkfn q0 q1) (Opd.ev gl e) h) R:=z0D rfl
theorem znA {d:Option Nat}  : doK C gl ⟨d,none,.mkmap⟩ e h R=optK (aop .mkmap (Opd.ev gl e) h) R:=z0D rfl
theorem zuI {d:Option Nat} {q0:Sh} {q1:PV} {q2 q3:Opd}:doK C gl ⟨d,none,(.mksl q0 q1 q2 q3)⟩ e h R=optK (aop (.mksl q0 q1 q2 q3) (Opd.ev gl e) h) R:=z0D rfl
theorem znB {d:Option Nat} {q0:Sh} {q1:Opd} {q2 q3 q4:Option Opd}:doK C gl ⟨d,none,(.slice q0 q1 q2 q3 q4)⟩ e h R=optK (aop (.slice q0 q1 q2 q3 q4) (Opd.ev gl e) h) R:=z0D rfl
theorem znC {d:Option Nat} {q0:Opd} {q1 q2:Option Opd}:doK C gl ⟨d,none,(.slstr q0 q1 q2)⟩ e h R=optK (aop (.slstr q0 q1 q2) (Opd.ev gl e) h) R:=z0D rfl
theorem zn6 {d:Option Nat} {q0:Nat} {q1:Sh} {q2:Opd}:doK C gl ⟨d,none,(.faddr q0 q1 q2)⟩ e h R=optK (aop (.faddr q0 q1 q2) (Opd.ev gl e) h) R:=z0D rfl
theorem zn7 {d:Option Nat} {q0:Nat} {q1:Sh} {q2:Opd}:doK C gl ⟨d,none,(.field q0 q1 q2)⟩ e h R=optK (aop (.field q0 q1 q2) (Opd.ev gl e) h) R:=z0D rfl
theorem zn8 {d:Option Nat} {q0:Sh} {q1 q2:Opd}:doK C gl ⟨d,none,(.iaddr q0 q1 q2)⟩ e h R=optK (aop (.iaddr q0 q1 q2) (Opd.ev gl e) h) R:=z0D rfl
theorem zjy {d:Option Nat} {q0:Nat} {q1:Sh} {q2 q3:Opd}:doK C gl ⟨d,none,(.iaddra q0 q1 q2 q3)⟩ e h R=optK (aop (.iaddra q0 q1 q2 q3) (Opd.ev gl e) h) R:=z0D rfl
theorem zu8 {d:Option Nat} {q0:Nat} {q1:Sh} {q2 q3:Opd}:doK C gl ⟨d,none,(.idxa q0 q1 q2 q3)⟩ e h R=optK (aop (.idxa q0 q1 q2 q3) (Opd.ev gl e) h) R:=z0D rfl
theorem zu9 {d:Option Nat} {q0 q1:Opd}:doK C gl ⟨d,none,(.idxs q0 q1)⟩ e h R=optK (aop (.idxs q0 q1) (Opd.ev gl e) h) R:=z0D rfl
theorem zuD {d:Option Nat} {kk:Sh × List Nat} {q0:Bool} {q1:AV} {q2 q3:Opd}:doK C gl ⟨d,none,(.look kk q0 q1 q2 q3)⟩ e h R=optK (aop (.look kk q0 q1 q2 q3) (Opd.ev gl e) h) R:=z0D rfl
theorem zuJ {d:Option Nat} {kk:Sh × List Nat} {q0 q1 q2:Opd}:doK C gl ⟨d,none,(.mupd kk q0 q1 q2)⟩ e h R=optK (aop (.mupd kk q0 q1 q2) (Opd.ev gl e) h) R:=z0D rfl
theorem zuF {d:Option Nat} {kk:Sh × List Nat} {q0:AV} {q1 q2:Opd}:doK C gl ⟨d,none,(.ment kk q0 q1 q2)⟩ e h R=optK (aop (.ment kk q0 q1 q2) (Opd.ev gl e) h) R:=z0D rfl
theorem zjx {d:Option Nat} {q0 q1 q2:Opd}:doK C gl ⟨d,none,(.estore q0 q1 q2)⟩ e h R=optK (aop (.estore q0 q1 q2) (Opd.ev gl e) h) R:=z0D rfl
theorem zuE {d:Option Nat} {kk:Sh × List Nat} {q0 q1:Opd}:doK C gl ⟨d,none,(.mdel kk q0 q1)⟩ e h R=optK (aop (.mdel kk q0 q1) (Opd.ev gl e) h) R:=z0D rfl
theorem zz2 {d:Option Nat} {q0:Opd} {q1:Nat}:doK C gl ⟨d,none,(.ext q0 q1)⟩ e h R=optK (aop (.ext q0 q1) (Opd.ev gl e) h) R:=z0D rfl
theorem zz3 {d:Option Nat} {q0:Opd}:doK C gl ⟨d,none,(.len q0)⟩ e h R=optK (aop (.len q0) (Opd.ev gl e) h) R:=z0D rfl
theorem zuB {d:Option Nat} {q0:Opd}:doK C gl ⟨d,none,(.lens q0)⟩ e h R=optK (aop (.lens q0) (Opd.ev gl e) h) R:=z0D rfl
theorem zuA {d:Option Nat} {q0:Opd}:doK C gl ⟨d,none,(.lenm q0)⟩ e h R=optK (aop (.lenm q0) (Opd.ev gl e) h) R:=z0D rfl
theorem zzx {d:Option Nat} {q0:Sh} {q1 q2:Opd}:doK C gl ⟨d,none,(.app q0 q1 q2)⟩ e h R=optK (aop (.app q0 q1 q2) (Opd.ev gl e) h) R:=z0D rfl
theorem zu7 {d:Option Nat} {q0:Sh} {q1 q2:Opd}:doK C gl ⟨d,none,(.copy q0 q1 q2)⟩ e h R=optK (aop (.copy q0 q1 q2) (Opd.ev gl e) h) R:=z0D rfl
theorem doK_mx {d:Option Nat} {q0:List Opd}:doK C gl ⟨d,none,(.mx q0)⟩ e h R=optK (aop (.mx q0) (Opd.ev gl e) h) R:=z0D rfl
theorem doK_mn {d:Option Nat} {q0:List Opd}:doK C gl ⟨d,none,(.mn q0)⟩ e h R=optK (aop (.mn q0) (Opd.ev gl e) h) R:=z0D rfl
theorem zj0 {d:Option Nat} {q0:Opd}:doK C gl ⟨d,none,(.mrange q0)⟩ e h R=optK (aop (.mrange q0) (Opd.ev gl e) h) R:=z0D rfl
theorem zjz {d:Option Nat} {q0:Opd}:doK C gl ⟨d,none,(.mentry q0)⟩ e h R=optK (aop (.mentry q0) (Opd.ev gl e) h) R:=z0D rfl
theorem zuK {d:Option Nat} {q0:Sh}:doK C gl ⟨d,none,(.new0 q0)⟩ e h R=optK (aop (.new0 q0) (Opd.ev gl e) h) R:=z0D rfl
theorem zn5 {o:AOp} {e e':List (Nat × AV)} {h h':Heap} (he:e=e') (hh:h=h'):doK C gl o e h R=doK C gl o e' h' R:=by rw[he,hh]
theorem zfP {f:Nat} {a a':List AV} {h h':Heap} (ha:a=a') (hh:h=h'):z1Q C f a h R=z1Q C f a' h' R:=by rw[ha,hh]
theorem zfA {X:Ctx} {f:Nat} {a a':List AV} {h h':Heap} {K:Post} (ha:a=a') (hh:h=h'):z0c X f a h K=z0c X f a' h' K:=by rw[ha,hh]
theorem zfB {ds:List DOp} {dn dn':Done} {hs hs':List Heap} {e e':List (Nat × AV)} {h h':Heap} {x x':Esc} (hd:dn=dn') (hh:hs=hs') (he:e=e') (hhh:h=h') (hx:x=x'):z2s C gl ds dn hs e h x L=z2s C gl ds dn' hs' e' h' x' L:=by rw[hd,hh,he,hhh,hx]
theorem zuN {o:DOp} {r:List DOp} {dn:Done} {hs:List Heap} {v:AV} {h':Heap} {y:Esc}:zuM C gl o r dn hs e h x L v h' y=((o.eff=false→h'=h∧y=[])∧(∀ k∈o.early,∃ g,hs[k]?=some g∧ADo C gl o.op (z0E (some o.rd) e) g v g []) ∧
 (∀ j∈o.again,∃ q,dn[j]?=some q∧ADo C gl q.1 q.2.1 h' q.2.2 h' [])∧z2s C gl r (dn++[(o.op,z0E (some o.rd) e,v)]) (hs++[h]) (put o.op.dst v e) h' (y++x) L):=(rfl)
end Go.Am
end
section
/- The abstract machine,part 25: from a call that ends well here tov the model's call on a whole world. -/
set_option linter.unusedSimpArgs false
set_option linter.unusedVariables false
namespace Go.Am
variable {P:Program}
theorem zve (W:World):HeapRel [] [] W:=⟨rfl,fun id o m h=>by simp at h,fun i j b n n' h=>by simp at h,fun i b n h=>by simp at h⟩
theorem zhQ {W:World} {b:Nat} {o:Go.Obj} (hb:W.heap[b]?=some o):(imm [] [] W).b b=some o:=z4w.2 ⟨fun ⟨id,n,h⟩=>by simp at h,hb⟩
theorem zeP {W:World} {b o:Nat} {v:Value} (hb:W.cell? ⟨b,o,none⟩=some v):(imm [] [] W).c b o=some v:=z1m.2 ⟨fun ⟨id,n,h,_⟩=>by simp at h,hb⟩
theorem zur {W W':World} {h:Heap} {μ:Mu} (E:(imm [] [] W).le (imm h μ W')):RowKit.Below W.heap.size W W':=by
 have hz:zed W'=zed W:=Option.some.inj E.z
 have hb:∀ b,b<W.heap.size→W'.heap[b]?=W.heap[b]?:=fun b hb=>by
  have h1:=Array.getElem?_eq_getElem hb
  rw[h1]
  exact (z4w.1 (E.b b _ (zhQ h1))).2
 refine⟨(congrArg World.os hz:(zed W').os=(zed W).os),(congrArg World.tape hz:(zed W').tape=(zed W).tape),(congrArg World.output hz:(zed W').output=(zed W).output),?_,hb⟩
 rcases Nat.eq_zero_or_pos W.heap.size with h0 | h0
 ·omega
 ·have h1:=hb (W.heap.size-1) (by omega)
  rw[Array.getElem?_eq_getElem (show W.heap.size-1<W.heap.size by omega)] at h1
  have:=(Array.getElem?_eq_some_iff.1 h1).1
  omega
theorem zfQ {X:Ctx} (HX:Fits P X) {f:Nat} {F:AFun} (hF:X.fn f=some F) (args:Array Value) (w:World):(callFunc f args).run P w = .ok (.enter f args) w:=by
 have hck:=HX.fn f F hF
 unfold zmL at hck
 split at hck
 ·rename_i fn hfn
  split at hck
  ·rename_i c hb
   simp only[Bool.and_eq_true,bne_iff_ne,ne_eq] at hck
   exact zpq hfn hb hck.2 _ w
  ·cases hck
 ·cases hck
theorem zgT {X:Ctx} (HX:Fits P X) {f:Nat} {F:AFun} (hF:X.fn f=some F) {asv:List AV} {K:Post} (H:z0c X f asv [] K) {W:World} {vs:List Value} (hG:GInv X.gl (imm [] [] W)) (hl:asv.length=vs.length)
 (hr:∀ (j:Nat) (y:AV) (v:Value),asv[j]?=some y→vs[j]?=some v→RAV (imm [] [] W) [] [] y v) :
 Calls P f vs.toArray W fun
  | .returned r,W'=>(∃ v h x μ,K v h x∧RAV (imm h μ W') h μ v r)∧RowKit.Below W.heap.size W W'
  | _,_=>False:=by
 rcases zai HX H [] W vs (zve W) hG hl hr with ⟨_,q⟩ | ⟨r,w',_,_,_,_,q,_⟩
 case inr=>rw[zfQ HX hF] at q;cases q
 refine q.mono fun e W' he=>?_
 cases e with
 | returned r=>
  obtain⟨v,h',x,μ',k1,k2,k3,k4,k5⟩:=he
  exact⟨⟨v,h',x,μ',k1,k2⟩,zur k4.le⟩
 | panicked _=>exact he
 | outgrown=>exact he
def zv6 (zs:List Int):AV:=.p (.sl none (zs.map fun n=>.int .i64 n))
theorem zuv (W:World):RAV (imm [] [] W) [] [] (zv6 []) (.slice none 0 0):=.p _ _ (.nils _ _ _)
theorem zmI {W:World} {a:Addr} {len cap:Nat} {zs:List Int} (hs:a.spot=none) (hl:len≤cap) (hz:len≤zs.length) (hc:∀ i,i<zs.length→W.cell? (a.add i)=some (.int .i64 (zs.getD i 0))) :
 RAV (imm [] [] W) [] [] (zv6 (zs.take len)) (.slice (some a) len cap):=by
 obtain⟨b,o,s⟩:=a
 simp only at hs
 subst hs
 refine .p _ _ ?_
 have hlen:((zs.take len).map fun n=>PV.int .i64 n).length=len:=by simp [hz]
 have hfl:((zs.take len).map fun n=>PV.int .i64 n).flatMap PV.cells=(zs.take len).map fun n=>PV.int .i64 n:=by
  generalize zs.take len=l
  induction l with
  | nil=>rfl
  | cons n r ih=>simp only[List.map_cons,List.flatMap_cons,ih];rfl
 by_cases h0:len=0
 ·subst h0
  simp
  exact .nils _ _ _
 ·have key:=RPV.sl (M:=imm [] [] W) none ((zs.take len).map fun n=>PV.int .i64 n) b o cap (fun j=>.int .i64 (zs.getD j 0)) (fun hh=>by rw[hh] at hlen;simp at hlen;omega) (by rw[hlen];exact hl)
   (fun x hx=>by obtain⟨n,_,rfl⟩:=List.mem_map.1 hx;rfl)
   (fun j y hy=>by
    rw[hfl] at hy
    have hj:j<len:=by have:=z0g hy;rw[hlen] at this;exact this
    have:=hc j (by omega)
    rw[z1w] at this
    exact zeP this)
   (fun j y hy=>by
    rw[hfl] at hy
    have hj:j<len:=by have:=z0g hy;rw[hlen] at this;exact this
    have hjz:j<zs.length:=by omega
    simp [List.getElem?_take,hj,hjz] at hy
    subst hy
    have:zs.getD j 0=zs[j]:=by simp [List.getD,hjz]
    rw[this]
    exact .int _ _)
  rwa [hlen] at key
end Go.Am
end
section
/- The abstract machine,part X: the library's functions that have no Go text: comparing strings,finding a byte. -/
set_option linter.unusedSimpArgs false
set_option linter.unusedVariables false
namespace Go.Am
variable {P:Program}
structure ExtRow (P:Program) (f:Nat) (e:Array Value→Sem Value):Prop where
 row:∃ fn,P.funcs[f]?=some fn∧fn.name ≠ "runtime.NumGoroutine" ∧ fn.body=none∧Extern.findNext fn=none∧Extern.find fn=some e
theorem ExtRow.run {f:Nat} {e:Array Value→Sem Value} (R:ExtRow P f e) {us:Array Value} {w w':World} {x:Value} (he:(e us).run P w = .ok x w'):(callFunc f us).run P w = .ok (.value x) w':=by
 obtain⟨fn,h1,h2,h3,h4,h5⟩:=R.row
 unfold callFunc
 simp [h1,h2,h3,h4,h5,he]
theorem extRow_of {f:Nat} {e:Array Value→Sem Value} (h:(match P.funcs[f]? with | some fn=>fn.name != "runtime.NumGoroutine" && fn.body.isNone&&(Extern.findNext fn).isNone | none=>false)=true) (h2:(P.funcs[f]?).bind Extern.find=some e):ExtRow P f e:=by
 cases hf:P.funcs[f]? with
 | none=>rw[hf] at h;cases h
 | some fn=>
  rw[hf] at h h2
  simp only[Bool.and_eq_true,bne_iff_ne,ne_eq,Option.isNone_iff_eq_none] at h
  exact⟨⟨fn,hf,h.1.1,h.1.2,h.2,h2⟩⟩
def idxB (s:List UInt8) (c:UInt8):Int:=if s.findIdx (· == c)<s.length then (s.findIdx (· == c):Int) else -1
def cmpL:List UInt8→List UInt8→Int
 | [],[]=>0
 | [],_::_=>-1
 | _::_,[]=>1
 | a::asv,b::bs=>if a<b then -1 else if b<a then 1 else cmpL asv bs
theorem zxh (s:List UInt8) (i:Nat):(⟨s.toArray⟩:ByteArray)[i]! = s.getD i 0:=by
 by_cases h:i<s.length
 ·rw[getElem!_pos (⟨s.toArray⟩:ByteArray) i h]
  show s.toArray[i]=_
  simp [h]
 ·rw[getElem!_neg (⟨s.toArray⟩:ByteArray) i h]
  simp [Nat.not_lt.1 h]
  rfl
theorem zuX (s:List UInt8) (c:UInt8):(match (List.range (⟨s.toArray⟩:ByteArray).size).find? fun i=>(⟨s.toArray⟩:ByteArray)[i]! == c with
 | some i=>(i:Int)
 | none=>-1)=idxB s c:=by
 have hsz:(⟨s.toArray⟩:ByteArray).size=s.length:=rfl
 have hget:∀ i,i<s.length→(⟨s.toArray⟩:ByteArray)[i]! = s.getD i 0:=by
  intro i hi
  exact zxh s i
 unfold idxB
 rw[hsz]
 by_cases h:s.findIdx (· == c)<s.length
 ·rw[if_pos h]
  have hf:(List.range s.length).find? (fun i=>(⟨s.toArray⟩:ByteArray)[i]! == c)=some (s.findIdx (· == c)):=by
   rw[List.find?_eq_some_iff_getElem]
   refine⟨?_,s.findIdx (· == c),by simpa using h,by simp,fun j hj=>?_⟩
   ·rw[hget _ h]
    have:=List.findIdx_getElem (w:=h)
    simpa [h] using this
   ·simp only[List.getElem_range]
    have hj':j<s.length:=by omega
    rw[hget _ hj']
    have:=List.not_of_lt_findIdx hj
    simpa [hj'] using this
  rw[hf]
 ·rw[if_neg h]
  have hf:(List.range s.length).find? (fun i=>(⟨s.toArray⟩:ByteArray)[i]! == c)=none:=by
   rw[List.find?_eq_none]
   intro i hi
   rw[List.mem_range] at hi
   rw[hget _ hi]
   intro hc
   exact h (List.findIdx_lt_length_of_exists ⟨s[i],List.getElem_mem hi,by simpa [hi] using hc⟩)
  rw[hf]
theorem zuy:∀ (a b:List UInt8),Extern.BytealgCompare.cmp ⟨a.toArray⟩ ⟨b.toArray⟩=cmpL a b:=by
 have key:∀ (a b:List UInt8),(match (List.range (min a.length b.length)).find? fun i=>a.getD i 0 != b.getD i 0 with
  | some i=>if a.getD i 0<b.getD i 0 then (-1:Int) else 1
  | none=>if a.length<b.length then -1 else if a.length>b.length then 1 else 0)=cmpL a b:=by
  intro a
  induction a with
  | nil=>intro b;cases b <;> simp [cmpL]
  | cons x a ih=>
   intro b
   cases b with
   | nil=>simp [cmpL]
   | cons y b=>
    have hm:min (x::a).length (y::b).length=min a.length b.length+1:=by simp only[List.length_cons];omega
    rw[hm,List.range_succ_eq_map,List.find?_cons]
    simp only[List.getD_cons_zero]
    by_cases hxy:x=y
    ·subst hxy
     have hlt:¬ x<x:=UInt8.lt_irrefl x
     simp only[bne_self_eq_false,List.find?_map,cmpL,hlt,if_false]
     rw[← ih b]
     have hc:((fun i=>(x::a).getD i 0 != (x::b).getD i 0) ∘ Nat.succ)=fun i=>a.getD i 0 != b.getD i 0:=by
      funext i;simp
     rw[hc]
     cases (List.range (min a.length b.length)).find? fun i=>a.getD i 0 != b.getD i 0 with
     | none=>simp
     | some i=>simp
    ·have:(x != y)=true:=by simpa using hxy
     rw[this]
     simp only[cmpL,List.getD_cons_zero]
     by_cases h1:x<y
     ·simp [h1]
     ·have h2:y<x:=by
       rcases UInt8.lt_or_lt_of_ne (a:=x) (b:=y) hxy with h | h
       ·exact absurd h h1
       ·exact h
      simp [h1,h2]
 intro a b
 rw[← key a b]
 unfold Extern.BytealgCompare.cmp
 have sa:(⟨a.toArray⟩:ByteArray).size=a.length:=rfl
 have sb:(⟨b.toArray⟩:ByteArray).size=b.length:=rfl
 simp only[sa,sb,zxh]
 generalize List.find? _ _=q
 cases q <;> rfl
def extF (fi fc:Nat) (f:Nat) (vs:List PV):Option PV:=
 bif Nat.beq f fi then (match vs with
  | [.str s,.int .u8 c]=>some (.int .i64 (idxB s (UInt8.ofNat c.toNat)))
  | _=>none)
 else bif Nat.beq f fc then (match vs with
  | [.str a,.str b]=>some (.int .i64 (cmpL a b))
  | _=>none)
 else none
theorem extF_ok {fi fc:Nat} (h1:ExtRow P fi Extern.BytealgIndexByte.indexByte) (h2:ExtRow P fc Extern.BytealgCompare.compare) {f:Nat} {vs:List PV} {r:PV} (h:extF fi fc f vs=some r):ExtOk P f vs r:=by
 intro M w us hM hl hr
 unfold extF at h
 cases e1:Nat.beq f fi with
 | true=>
  rw[e1] at h
  have e:=Nat.eq_of_beq_eq_true e1
  subst e
  simp only[cond_true] at h
  split at h
  ·rename_i s c
   injection h with h
   subst h
   match us,hl with
   | [u,v],_=>
    have q1:=hr 0 _ u rfl rfl
    have q2:=hr 1 _ v rfl rfl
    cases q1;cases q2
    refine⟨.int .i64 (idxB s (UInt8.ofNat c.toNat)),w,h1.run ?_,WExt.refl w,.int _ _⟩
    rw[← zuX]
    show (match (List.range (⟨s.toArray⟩:ByteArray).size).find? fun i=>(⟨s.toArray⟩:ByteArray)[i]! == UInt8.ofNat c.toNat with | some i=>(pure (goInt i):Sem Value) | none=>pure (goInt (-1))).run P w=_
    generalize List.find? _ _=q
    cases q <;> rfl
  ·cases h
 | false=>
  rw[e1] at h
  simp only[cond_false] at h
  cases e2:Nat.beq f fc with
  | true=>
   rw[e2] at h
   have e:=Nat.eq_of_beq_eq_true e2
   subst e
   simp only[cond_true] at h
   split at h
   ·rename_i a b
    injection h with h
    subst h
    match us,hl with
    | [u,v],_=>
     have q1:=hr 0 _ u rfl rfl
     have q2:=hr 1 _ v rfl rfl
     cases q1;cases q2
     refine⟨.int .i64 (cmpL a b),w,h2.run ?_,WExt.refl w,.int _ _⟩
     rw[← zuy]
     rfl
   ·cases h
  | false=>rw[e2] at h;cases h
theorem zuS {X:Ctx} {f:Nat} {asv:List AV} {vs:List PV} {h h1:Heap} {r:PV} {K:Post} (hf:X.fn f=none) (h2:X.ex2 f asv h=none) (hp:z0p h asv=some (vs.map .p,h1)) (hu:unp (vs.map AV.p)=some vs) (hx:X.ext f vs=some r):z0c X f asv h K=K (.p r) h1 []:=by
 refine propext (z0c.eq (z0c.fold ?_) K)
 unfold Step
 simp only[hf,h2,hp,hu,hx]
 exact⟨trivial,trivial,trivial⟩
structure GrowRow (P:Program) (f:Nat) (sh:Sh):Prop where
 enter:∀ us w,(callFunc f us).run P w = .ok (.enter f us) w
 room:∀ a w,Calls P f #[.slice a 0 0,.int .i64 0] w fun e w'=>e = .returned (.slice a 0 0)∧w'=w
 grow:∀ a (n:Nat) w,0<n→n≤1048576→Calls P f #[.slice a 0 0,.int .i64 n] w fun e w'=>∃ G cs E,e = .returned (.slice (some ⟨w.heap.size,0,none⟩) 0 G)∧cs.size=G*z0a sh∧w'=w.drew.alloc (.cells cs E)
def zjE:List (Nat × Sh)→Nat→List AV→Heap→Option (AV × Heap × Esc)
 | [],_,_,_=>none
 | (g,sh)::r,f,asv,h=>bif Nat.beq f g then (match asv with
  | [.sl0 _,.p (.int .i64 n)]=>bif decide (0≤n)&&decide (n≤1048576) then some (.own h.length 0 0 0,h++[.row sh [] 0],[]) else none
  | _=>none) else zjE r f asv h
theorem zhO {gl:Nat→Option PV}:∀ (gs:List (Nat × Sh)),(∀ g sh,(g,sh)∈gs→GrowRow P g sh)→∀ {f:Nat} {asv:List AV} {h:Heap} {v:AV} {h':Heap} {x:Esc},zjE gs f asv h=some (v,h',x) →
 z1H P gl f asv h fun v1 h1 x1=>v1=v∧h1=h'∧x1=x
 | [],_,f,asv,h,v,h',x,H=>by cases H
 | (g,sh)::r,hg,f,asv,h,v,h',x,H=>by
  unfold zjE at H
  cases e1:Nat.beq f g with
  | false=>
   rw[e1] at H
   exact zhO r (fun g sh hm=>hg g sh (by simp [hm])) H
  | true=>
   rw[e1] at H
   have e:=Nat.eq_of_beq_eq_true e1
   subst e
   have R:=hg f sh (by simp)
   simp only[cond_true] at H
   split at H
   ·rename_i sh' n
    cases hb:(decide (0≤n)&&decide (n≤1048576)) with
    | false=>rw[hb] at H;cases H
    | true=>
     rw[hb] at H
     simp only[cond_true,Option.some.injEq,Prod.mk.injEq] at H
     obtain⟨rfl,rfl,rfl⟩:=H
     simp only[Bool.and_eq_true,decide_eq_true_eq] at hb
     intro μ w vs Hh Hg hl hr
     match vs,hl with
     | [u1,u2],_=>
      have q1:=hr 0 _ u1 rfl rfl
      have q2:=(hr 1 _ u2 rfl rfl).p_inv
      cases q1
      cases q2
      obtain⟨m,hm⟩:=Int.eq_ofNat_of_zero_le hb.1
      subst hm
      refine .inl ⟨R.enter _,?_⟩
      rcases Nat.eq_zero_or_pos m with h0 | h0
      ·subst h0
       refine (R.room _ w).mono fun e w' he=>?_
       obtain⟨rfl,rfl⟩:=he
       obtain⟨n1,n2⟩:=zaV Hh sh
       refine⟨_,_,_,_,⟨rfl,rfl,rfl⟩,?_,n1,n2,z0k.push (by simp [Obj.top])⟩
       exact .own h.length 0 0 0 _ 0 sh [] 0 none (Nat.le_refl _) (by simp) (by rw[← Hh.len];simp) (by simp) (by simp) (fun _=>rfl)
      ·refine (R.grow _ m w h0 (by omega)).mono fun e w' he=>?_
       obtain⟨G,cs,E,rfl,hcs,rfl⟩:=he
       have hw:WExt w (w.drew.alloc (.cells cs E)):=(WExt.drew w _).trans (WExt.push _ _)
       obtain⟨n1,n2⟩:=z57 (sh:=sh) (xs:=[]) Hh hw (b:=w.heap.size) (n:=cs.size) (Nat.le_refl _) (by show w.heap.size<(w.heap.push _).size;simp) (c:=cs) (z0V.push (w:=w.drew) cs E) (by simp) (by simp) (by simp)
       refine⟨_,_,_,_,⟨rfl,rfl,rfl⟩,?_,n1,n2,z0k.push (by simp [Obj.top])⟩
       refine .own h.length 0 0 0 _ G sh [] 0 (some (w.heap.size,cs.size)) (Nat.zero_le _) (by simp) (by rw[← Hh.len];simp) (by simp) (by simp) (fun _=>?_)
       exact .inr ⟨by simp,by simp [hcs]⟩
   ·cases H
end Go.Am
end
section
/- A text split at a byte. -/
set_option linter.all false
namespace Go.Am
def z0q (c:UInt8):List UInt8→List (List UInt8)
 | []=>[[]]
 | b::r=>if b=c then []::z0q c r else match z0q c r with
  | []=>[[b]]
  | p::q=>(b::p)::q
theorem z4K (c:UInt8):∀ s,z0q c s≠[]
 | []=>by simp [z0q]
 | b::r=>by
  unfold z0q
  split
  ·simp
  ·split <;> simp
theorem z12 {c:UInt8}:∀ {s:List UInt8},c∉s→z0q c s=[s]
 | [],_=>rfl
 | b::r,h=>by
  simp only[List.mem_cons,not_or] at h
  unfold z0q
  rw[if_neg (fun e=>h.1 e.symm),z12 h.2]
theorem z1Y {c:UInt8}:∀ {a b:List UInt8},c∉a→z0q c (a++c::b)=a::z0q c b
 | [],b,_=>by simp [z0q]
 | x::a,b,h=>by
  simp only[List.mem_cons,not_or] at h
  rw[List.cons_append,z0q.eq_2,if_neg (fun e=>h.1 e.symm),z1Y h.2]
theorem z1t (c:UInt8):∀ s:List UInt8,(z0q c s).length=s.count c+1
 | []=>rfl
 | b::r=>by
  unfold z0q
  by_cases e:b=c
  ·subst e;rw[if_pos rfl,List.length_cons,z1t b r,List.count_cons_self]
  ·rw[if_neg e]
   have ih:=z1t c r
   rw[List.count_cons_of_ne e]
   split
   ·rename_i h;exact absurd h (z4K c r)
   ·rename_i p q h;rw[h] at ih;simpa using ih
theorem zxq {c:UInt8} {s:List UInt8} (h:c∈s):∃ a b,s=a++c::b∧c∉a:=by
 induction s with
 | nil=>simp at h
 | cons x r ih=>
  by_cases e:x=c
  ·subst e;exact⟨[],r,rfl,by simp⟩
  ·rcases List.mem_cons.1 h with rfl | h
   ·exact absurd rfl e
   ·obtain⟨a,b,rfl,hb⟩:=ih h
    exact⟨x::a,b,rfl,by simp only[List.mem_cons,not_or];exact⟨fun q=>e q.symm,hb⟩⟩
def z2P (c:UInt8):Nat→List UInt8→List UInt8
 | 0,s=>s
 | k+1,s=>z2P c k ((s.dropWhile (· != c)).drop 1)
theorem dropW {c:UInt8} {a b:List UInt8} (h:c∉a):((a++c::b).dropWhile (· != c)).drop 1=b:=by
 induction a with
 | nil=>simp
 | cons x r ih=>
  simp only[List.mem_cons,not_or] at h
  rw[List.cons_append,List.dropWhile_cons,if_pos (by simp;exact fun e=>h.1 e.symm)]
  exact ih h.2
theorem zbc (c:UInt8):∀ (k:Nat) (s:List UInt8),k≤s.count c→z0q c (z2P c k s)=(z0q c s).drop k∧(z2P c k s).length≤s.length∧(z2P c k s).count c=s.count c-k
 | 0,s,_=>⟨rfl,Nat.le_refl _,rfl⟩
 | k+1,s,h=>by
  obtain⟨a,b,rfl,hb⟩:=zxq (c:=c) (s:=s) (List.count_pos_iff.1 (by omega))
  have ha:a.count c=0:=List.count_eq_zero.2 hb
  have hc:(a++c::b).count c=b.count c+1:=by rw[List.count_append,List.count_cons_self,ha];omega
  obtain⟨h1,h2,h3⟩:=zbc c k b (by omega)
  unfold z2P
  rw[dropW hb,z1Y hb,List.drop_succ_cons,h1,h3,hc]
  exact⟨rfl,by simp;omega,by omega⟩
theorem zfg (c:UInt8):∀ (k:Nat) (s:List UInt8),z2P c (k+1) s=((z2P c k s).dropWhile (· != c)).drop 1
 | 0,s=>rfl
 | k+1,s=>by
  show z2P c (k+1) _=_
  rw[zfg c k]
  rfl
end Go.Am
end
section
/- A text read line by line. -/
set_option linter.all false
namespace Go.Am
def lnsD (s:List UInt8):List (List UInt8):=(z0q 10 s).dropLast
def lnsT (s:List UInt8):Bool:=!((z0q 10 s).getLast?.getD []).isEmpty
def lnsF {σ:Type} (take:σ→List UInt8→Bool × σ) (tail:Bool):Nat→List (List UInt8)→σ→(Nat × Bool) × σ
 | i,[],s=>bif tail then ((i,false),s) else ((0,true),s)
 | i,l::r,s=>bif (take s l).1 then lnsF take tail (i+1) r (take s l).2 else ((i,false),(take s l).2)
theorem zbZ {σ:Type} {take:σ→List UInt8→Bool × σ} {tail:Bool} {i:Nat} {s:σ}:lnsF take tail i [] s=bif tail then ((i,false),s) else ((0,true),s):=rfl
theorem z8Z {σ:Type} {take:σ→List UInt8→Bool × σ} {tail:Bool} {i:Nat} {l:List UInt8} {r:List (List UInt8)} {s:σ}:lnsF take tail i (l::r) s=bif (take s l).1 then lnsF take tail (i+1) r (take s l).2 else ((i,false),(take s l).2):=rfl
theorem z9L {c:UInt8}:∀ {s:List UInt8},z0q c (s++[c])=z0q c s++[[]]
 | []=>by simp [z0q]
 | b::r=>by
  have ih:=z9L (c:=c) (s:=r)
  rw[List.cons_append,z0q.eq_2,z0q.eq_2,ih]
  split
  ·rfl
  ·cases h:z0q c r with
   | nil=>exact absurd h (z4K c r)
   | cons p q=>rfl
theorem z7p {c:UInt8}:∀ {s:List UInt8},(z0q c s).getLast?=some []→s=[]∨s.getLast?=some c
 | [],_=>.inl rfl
 | b::r,h=>by
  right
  rw[z0q.eq_2] at h
  have hr:=z4K c r
  by_cases e:b=c
  ·subst e
   rw[if_pos rfl,List.getLast?_cons] at h
   cases hl:(z0q b r).getLast? with
   | none=>simp at hl;exact absurd hl hr
   | some p=>
    rw[hl] at h
    simp at h
    subst h
    rcases z7p hl with rfl | h2
    ·rfl
    ·rw[List.getLast?_cons,h2];rfl
  ·rw[if_neg e] at h
   cases hq:z0q c r with
   | nil=>exact absurd hq hr
   | cons p q=>
    rw[hq] at h
    cases q with
    | nil=>simp at h
    | cons p2 q2=>
     have:(z0q c r).getLast?=some []:=by rw[hq];simpa using h
     rcases z7p this with rfl | h2
     ·simp [z0q] at hq
     ·rw[List.getLast?_cons,h2];rfl
theorem zjK {s:List UInt8} (h:s.getLast?=some 10):z0q 10 s.dropLast=lnsD s∧lnsT s=false:=by
 rcases List.eq_nil_or_concat s with rfl | ⟨r,x,rfl⟩
 ·simp at h
 ·simp only[List.concat_eq_append] at *
  simp at h
  subst h
  have e:=z9L (c:=10) (s:=r)
  unfold lnsD lnsT
  rw[e]
  simp
theorem zq8 {s:List UInt8} (h0:s≠[]) (h:s.getLast?≠some 10):∃ t,z0q 10 s=lnsD s++[t]∧lnsT s=true:=by
 have hne:=z4K 10 s
 refine⟨(z0q 10 s).getLast hne,(List.dropLast_concat_getLast hne).symm,?_⟩
 unfold lnsT
 rw[List.getLast?_eq_getLast hne]
 simp only[Option.getD_some,Bool.not_eq_true',List.isEmpty_eq_false_iff]
 intro e
 rcases z7p (c:=10) (s:=s) (by rw[List.getLast?_eq_getLast hne,e]) with h1 | h1
 ·exact h0 h1
 ·exact h h1
end Go.Am
end
section
/- The abstract machine,part L: functions of the library that are met by the kit's contracts: plain values in,plain values out,new memory at most. -/
set_option linter.unusedSimpArgs false
set_option linter.unusedVariables false
namespace Go.Am
variable {P:Program} {gl:Nat→Option PV}
structure PureRow (P:Program) (gl:Nat→Option PV) (f:Nat) (spec:List PV→Option AV):Prop where
 enter:∀ us w,(callFunc f us).run P w = .ok (.enter f us) w
 run:∀ (M:Mem) (w:World) (vs:List PV) (r:AV) (us:List Value),(∀ b o v,M.c b o=some v→w.cell? ⟨b,o,none⟩=some v)→(∀ b o,M.b b=some o→w.heap[b]?=some o)→GInv gl M→vs.length=us.length →
  (∀ (j:Nat) (y:PV) (v:Value),vs[j]?=some y→us[j]?=some v→RPV M y v)→spec vs=some r →
  Calls P f us.toArray w fun e w'=>∃ x,e = .returned x∧WExt w w'∧RAV (ExtM M w w') [] [] r x
abbrev z9S:=List (Nat × (List PV→Option AV))
def zfd:z9S→Nat→List AV→Heap→Option (AV × Heap × Esc)
 | [],_,_,_=>none
 | (g,s)::r,f,asv,h=>bif Nat.beq f g then ((unp asv).bind s).map fun v=>(v,h,[]) else zfd r f asv h
theorem zcl:∀ (gs:z9S),(∀ g s,(g,s)∈gs→PureRow P gl g s)→∀ {f:Nat} {asv:List AV} {h:Heap} {v:AV} {h':Heap} {x:Esc},zfd gs f asv h=some (v,h',x) →
 z1H P gl f asv h fun v1 h1 x1=>v1=v∧h1=h'∧x1=x
 | [],_,f,asv,h,v,h',x,H=>by cases H
 | (g,s)::r,hg,f,asv,h,v,h',x,H=>by
  unfold zfd at H
  cases e1:Nat.beq f g with
  | false=>
   rw[e1] at H
   exact zcl r (fun g sh hm=>hg g sh (by simp [hm])) H
  | true=>
   rw[e1] at H
   have e:=Nat.eq_of_beq_eq_true e1
   subst e
   have R:=hg f s (by simp)
   simp only[cond_true] at H
   obtain⟨y,hy,e2⟩:=Option.map_eq_some_iff.1 H
   simp only[Prod.mk.injEq] at e2
   obtain⟨rfl,rfl,rfl⟩:=e2
   obtain⟨ps,hps,hs⟩:=Option.bind_eq_some_iff.1 hy
   have hm:=z5i hps
   subst hm
   intro μ w vs Hh Hg hl hr
   refine .inl ⟨R.enter _,?_⟩
   refine (R.run (imm h μ w) w ps y vs (fun b o v hv=>(z1m.1 hv).2) (fun b o hv=>(z4w.1 hv).2) Hg (by simpa using hl) (fun j q v hq hv=>(hr j (.p q) v (by simp [hq]) hv).p_inv) hs).mono fun e w' he=>?_
   obtain⟨u,rfl,g1,g2⟩:=he
   obtain⟨n1,n2⟩:=Hh.ext g1
   have Lq:(ExtM (imm h μ w) w w').le (imm h μ w'):=by
    refine⟨fun b o v hv=>?_,fun b o hv=>?_,rfl,fun _ _ h=>by cases h⟩
    ·dsimp only[ExtM] at hv
     split at hv
     ·exact n2.le.c _ _ _ hv
     ·rename_i hb
      exact z1m.2 ⟨fun hO=>hb (zcg Hh hO),hv⟩
    ·dsimp only[ExtM] at hv
     cases hv
   exact⟨_,_,_,μ,⟨rfl,rfl,rfl⟩,g2.evo ⟨Lq,Nat.zero_le _,fun id o m h1=>by simp at h1⟩,n1,n2,z0k.refl h []⟩
def libF (gs:List (Nat × Sh)) (ps:z9S) (f:Nat) (asv:List AV) (h:Heap):Option (AV × Heap × Esc):=match zjE gs f asv h with
 | some y=>some y
 | none=>match zfd ps f asv h with
  | some y=>some y
  | none=>match z0p h asv with
   | some (asv',h1)=>zfd ps f asv' h1
   | none=>none
theorem zsH {ps:z9S} (hp:∀ g s,(g,s)∈ps→PureRow P gl g s) {f:Nat} {asv asv':List AV} {h h1:Heap} {v:AV} {h':Heap} {x:Esc} (hq:z0p h asv=some (asv',h1)) (H:zfd ps f asv' h1=some (v,h',x)) :
 z1H P gl f asv h fun v1 h2 x1=>v1=v∧h2=h'∧x1=x:=by
 intro μ w vs Hh Hg hl hr
 obtain⟨q1,q2,q3⟩:=z7O asv Hh hl hr hq
 rcases zcl ps hp H μ w vs q1.1 (Hg.mono q1.2.1.le) q2 q3 with ⟨k1,k2⟩ | ⟨r,w',v2,h2,x2,μ',k1,k2,k3,k4,k5,k6⟩
 ·refine .inl ⟨k1,k2.mono fun e w' he=>?_⟩
  cases e with
  | returned r=>
   obtain⟨v2,h2,x2,μ',k2,k3,k4,k5,k6⟩:=he
   exact⟨v2,h2,x2,μ',k2,k3,k4,q1.2.1.trans k5,by simpa using q1.2.2.trans k6⟩
  | panicked _=>exact he
  | outgrown=>exact he
 ·exact .inr ⟨r,w',v2,h2,x2,μ',k1,k2,k3,k4,q1.2.1.trans k5,by simpa using q1.2.2.trans k6⟩
theorem libF_ok {gs:List (Nat × Sh)} {ps:z9S} (hg:∀ g sh,(g,sh)∈gs→GrowRow P g sh) (hp:∀ g s,(g,s)∈ps→PureRow P gl g s) {f:Nat} {asv:List AV} {h:Heap} {v:AV} {h':Heap} {x:Esc} (H:libF gs ps f asv h=some (v,h',x)) :
 z1H P gl f asv h fun v1 h1 x1=>v1=v∧h1=h'∧x1=x:=by
 unfold libF at H
 split at H
 ·rename_i y hy
  cases H
  exact zhO gs hg hy
 ·split at H
  ·rename_i y hy
   cases H
   exact zcl ps hp hy
  ·split at H
   ·rename_i asv' h1 hq
    exact zsH hp hq H
   ·cases H
theorem z3P {X:Ctx} {f:Nat} {asv:List AV} {h h':Heap} {v:AV} {x:Esc} {K:Post} (hf:X.fn f=none) (hx:X.ex2 f asv h=some (v,h',x)):z0c X f asv h K=K v h' x:=by
 refine propext (z0c.eq (z0c.fold ?_) K)
 unfold Step
 simp only[hf,hx]
 exact⟨trivial,trivial,trivial⟩
def zhP:List (Nat × Sh)→Nat→Option Sh
 | [],_=>none
 | (g,s)::r,f=>bif Nat.beq f g then some s else zhP r f
theorem zaR:∀ {gs:List (Nat × Sh)} {f:Nat} {asv:List AV} {h:Heap},zhP gs f=none→zjE gs f asv h=none
 | [],f,asv,h,_=>rfl
 | (g,s)::r,f,asv,h,hm=>by
  unfold zhP at hm
  unfold zjE
  cases hq:Nat.beq f g with
  | true=>rw[hq] at hm;cases hm
  | false=>rw[hq] at hm;exact zaR hm
def zim:z9S→Nat→Option (List PV→Option AV)
 | [],_=>none
 | (g,s)::r,f=>bif Nat.beq f g then some s else zim r f
theorem zfe:∀ {gs:z9S} {f:Nat} {s:List PV→Option AV} {asv:List AV} {h:Heap},zim gs f=some s→zfd gs f asv h=((unp asv).bind s).map fun v=>(v,h,[])
 | [],f,s,asv,h,hm=>by cases hm
 | (g,s')::r,f,s,asv,h,hm=>by
  unfold zim at hm
  unfold zfd
  cases hq:Nat.beq f g with
  | true=>rw[hq] at hm;cases hm;rfl
  | false=>rw[hq] at hm;exact zfe hm
theorem z3q {gs:List (Nat × Sh)} {ps:z9S} {f:Nat} {s:List PV→Option AV} {asv:List AV} {vs:List PV} {v:AV} {h:Heap} (hg:zhP gs f=none) (hm:zim ps f=some s) (hu:unp asv=some vs) (hv:s vs=some v):libF gs ps f asv h=some (v,h,[]):=by
 unfold libF;rw[zaR hg,zfe hm,hu];simp [hv]
def glOf:List (Nat × PV)→Nat→Option PV
 | [],_=>none
 | (g,v)::r,n=>bif Nat.beq n g then some v else glOf r n
theorem y1m {f:Nat} (h:(match P.funcs[f]? with | some fn=>fn.body.isSome&&fn.name != "runtime.NumGoroutine" | none=>false)=true) (us:Array Value) (w:World):(callFunc f us).run P w = .ok (.enter f us) w:=by
 cases hf:P.funcs[f]? with
 | none=>rw[hf] at h;cases h
 | some fn=>
  rw[hf] at h
  simp only[Bool.and_eq_true,bne_iff_ne,ne_eq] at h
  cases hb:fn.body with
  | none=>rw[hb] at h;cases h.1
  | some c=>exact zpq hf hb h.2 us w
def digC (n:Nat):UInt8:=UInt8.ofNat (48+n)
def decN (n:Nat):List UInt8:=if n<10 then [digC n] else decN (n / 10)++[digC (n%10)]
termination_by n
decreasing_by omega
def itoa (n:Int):List UInt8:=if n<0 then 45::decN n.natAbs else decN n.natAbs
theorem z6Y {n:Nat} (h:n<10):decN n=[digC n]:=by rw[decN,if_pos h]
theorem zbH {n:Nat} (h:10≤n):decN n=decN (n / 10)++[digC (n%10)]:=by rw[decN,if_neg (by omega)]
def zjH:List PV→Option AV
 | [.int .i64 n]=>bif decide (-9223372036854775808≤n)&&decide (n≤9223372036854775807) then some (.p (.str (itoa n))) else none
 | _=>none
def zck:PV:=.agg ((List.range 20).map fun i=>.int .u64 ((10^i:Nat):Int))
def digN:Nat→List UInt8→Option Nat
 | acc,[]=>some acc
 | acc,c::r=>if 48≤c.toNat∧c.toNat≤57 then digN (acc*10+(c.toNat-48)) r else none
def zfL:List PV→Option AV
 | [.str s]=>if 1≤s.length∧s.length≤18 then match digN 0 s with
  | some n=>some (.tup [.p (.int .i64 (n:Int)),.nili])
  | none=>if s.head?=some 45∧2≤s.length then (digN 0 s.tail).map fun (n:Nat)=>.tup [.p (.int .i64 (-(n:Int))),.nili] else none
  else none
 | _=>none
theorem ze0:∀ (a:List UInt8) (acc:Nat) (c:UInt8),digN acc (a++[c])=(digN acc a).bind fun n=>if 48≤c.toNat∧c.toNat≤57 then some (n*10+(c.toNat-48)) else none
 | [],acc,c=>by
  simp only[List.nil_append,digN,Option.bind_some]
 | d::a,acc,c=>by
  simp only[List.cons_append,digN]
  split
  ·exact ze0 a _ c
  ·rfl
theorem z7M {n:Nat} (h:n<10):(digC n).toNat=48+n:=by
 simp only[digC,UInt8.toNat_ofNat']
 omega
theorem zu5:∀ (n:Nat),digN 0 (decN n)=some n:=by
 intro n
 induction n using Nat.strongRecOn with
 | _ n ih=>
  rcases Nat.lt_or_ge n 10 with h | h
  ·rw[z6Y h]
   simp only[digN,z7M h]
   rw[if_pos (by omega)]
   congr 1
   omega
  ·rw[zbH h,ze0,ih (n / 10) (by omega)]
   have h2:=z7M (show n%10<10 by omega)
   simp only[Option.bind_some,h2]
   rw[if_pos (by omega)]
   congr 1
   omega
theorem z5U:∀ (k n:Nat),n<10^(k+1)→1≤(decN n).length∧(decN n).length≤k+1
 | 0,n,h=>by rw[z6Y (by simpa using h)];simp
 | k+1,n,h=>by
  rcases Nat.lt_or_ge n 10 with h1 | h1
  ·rw[z6Y h1];simp
  ·have:=z5U k (n / 10) (by rw[Nat.div_lt_iff_lt_mul (by omega)];rw[Nat.pow_succ] at h;exact h)
   rw[zbH h1]
   simp;omega
def repL (s:List UInt8):Nat→List UInt8
 | 0=>[]
 | c+1=>s++repL s c
def z7h:List PV→Option AV
 | [.str s,.int .i64 c]=>if 0≤c∧s.length*c.toNat≤1000000∧c≤1000000 then some (.p (.str (repL s c.toNat))) else none
 | _=>none
def zw2 (s cs:List UInt8):List UInt8:=(s.reverse.dropWhile (cs.contains ·)).reverse.dropWhile (cs.contains ·)
def trimS:List PV→Option AV
 | [.str s,.str cs]=>if s.length≤1000000∧cs.length≤1000∧cs.all (fun b=>decide (b.toNat<128))=true then some (.p (.str (zw2 s cs))) else none
 | _=>none
def zdj:List PV→Option AV
 | [.str s,.str [c]]=>some (.p (.int .i64 (s.count c)))
 | _=>none
def zgd:PV→Bool
 | .agg [.int .i64 _,.int .i64 _,.int .i64 _,.str _,.str _,.str _]=>true
 | _=>false
def zbF:PV→Int
 | .agg (.int _ k::_)=>k
 | _=>0
def zpN:PV:=.agg [.int .i64 0,.int .i64 1,.int .i64 0,.str [],.str [],.str []]
def z2U (l:List PV) (k:Int):PV:=(l.reverse.find? fun c=>zbF c==k).getD zpN
def z5g:List PV→Option AV
 | [.sl (some 6) xs,.int .i64 i,.int .i64 k]=>if 0≤i∧i≤(xs.length:Int)∧xs.length≤1000000∧xs.all zgd=true then some (.p (z2U (xs.take i.toNat) k)) else none
 | _=>none
end Go.Am
end
section
/- Numbers in texts. -/
set_option linter.all false
namespace Go.Am
def digB (c:UInt8):Bool:=decide (48≤c.toNat)&&decide (c.toNat≤57)
def z1U (s:List UInt8):List UInt8:=if s.take 1=[45] then s.drop 1 else s
def numF (digits:Nat) (s:List UInt8):Bool:=!(z1U s).isEmpty&&decide ((z1U s).length≤digits) && !(decide ((z1U s).head?=some 48)&&(decide (1<(z1U s).length)||decide ((z1U s).length<s.length)))&&(z1U s).all digB
def numV (s:List UInt8):Int:=if s.take 1=[45] then -(((digN 0 (z1U s)).getD 0:Nat):Int) else ((digN 0 (z1U s)).getD 0:Nat)
theorem zh2:∀ (s:List UInt8) (acc:Nat),s.all digB=true→∃ n,digN acc s=some n
 | [],acc,_=>⟨acc,rfl⟩
 | c::r,acc,h=>by
  simp only[List.all_cons,Bool.and_eq_true] at h
  obtain⟨n,hn⟩:=zh2 r (acc*10+(c.toNat-48)) h.2
  refine⟨n,?_⟩
  have hc:48≤c.toNat∧c.toNat≤57:=by simpa [digB] using h.1
  unfold digN
  rw[if_pos hc,hn]
theorem zzw {r:List UInt8}:digN 0 (45::r)=none:=by
 unfold digN
 rw[if_neg]
 decide
theorem zuo {s:List UInt8} (h1:z1U s≠[]) (h2:(z1U s).length≤17) (h:(z1U s).all digB=true):zfL [.str s]=some (.tup [.p (.int .i64 (numV s)),.nili]):=by
 obtain⟨n,hn⟩:=zh2 (z1U s) 0 h
 unfold zfL numV
 by_cases e:s.take 1=[45]
 ·have ed:z1U s=s.drop 1:=by unfold z1U;rw[if_pos e]
  cases s with
  | nil=>simp at e
  | cons c r=>
   simp at e
   subst e
   rw[ed] at h1 h2 hn
   simp only[List.drop_one,List.tail_cons] at h1 h2 hn
   have hr:1≤r.length:=by cases r with | nil=>exact absurd rfl h1 | cons _ _=>simp
   simp only[List.length_cons]
   rw[if_pos ⟨by omega,by omega⟩,zzw]
   simp only[List.head?_cons,List.tail_cons]
   rw[if_pos ⟨trivial,by omega⟩,hn,ed]
   simp [hn]
 ·have ed:z1U s=s:=by unfold z1U;rw[if_neg e]
  rw[ed] at h1 h2 hn
  have hr:1≤s.length:=by cases s with | nil=>exact absurd rfl h1 | cons _ _=>simp
  simp only
  rw[if_pos ⟨hr,by omega⟩,hn,if_neg e,ed,hn]
  rfl
theorem zn2:∀ (n:Nat),(decN n).head?=some 48→n=0:=by
 intro n
 induction n using Nat.strongRecOn with
 | ind n ih=>
  intro h
  rcases Nat.lt_or_ge n 10 with h1 | h1
  ·rw[z6Y h1] at h
   simp only[List.head?_cons,Option.some.injEq] at h
   have:=congrArg UInt8.toNat h
   rw[z7M h1] at this
   have e:(48:UInt8).toNat=48:=rfl
   omega
  ·rw[zbH h1] at h
   have hl:=z5U (n / 10) (n / 10) (by have:=@Nat.lt_pow_self (n / 10+1) 10 (by omega);omega)
   have:(decN (n / 10)).head?=some 48:=by
    cases hq:decN (n / 10) with
    | nil=>rw[hq] at hl;simp at hl
    | cons a r=>rw[hq] at h;simpa using h
   have:=ih (n / 10) (by omega) this
   omega
end Go.Am
end
section
/- Faults read: the program's line and the reference's line agree. -/
set_option linter.all false
namespace Go.Am
end Go.Am
end
section
/- What is written is read: numbers,words,lines. -/
set_option linter.all false
namespace Go.Am
theorem zbJ:∀ n,decN n≠[]:=fun n h=>by
 have:=z5U n n (by have:=@Nat.lt_pow_self (n+1) 10 (by omega);omega)
 rw[h] at this
 simp at this
theorem zez {n:Nat} (h:n<10):digB (digC n)=true:=by
 unfold digB
 rw[z7M h]
 simp
 omega
theorem zh1:∀ (n:Nat),(decN n).all digB=true:=by
 intro n
 induction n using Nat.strongRecOn with
 | ind n ih=>
  rcases Nat.lt_or_ge n 10 with h1 | h1
  ·rw[z6Y h1]
   simp [zez h1]
  ·rw[zbH h1,List.all_append,ih (n / 10) (by omega)]
   simp [zez (show n%10<10 by omega)]
theorem zbI {n:Nat} {c:UInt8} (h:c∈decN n):48≤c.toNat∧c.toNat≤57:=by
 have:=List.all_eq_true.1 (zh1 n) c h
 simpa [digB] using this
theorem zeW (n:Nat):z1U (decN n)=decN n:=by
 unfold z1U
 rw[if_neg]
 intro h
 cases hq:decN n with
 | nil=>exact zbJ n hq
 | cons a r=>
  rw[hq] at h
  simp at h
  have:=zbI (n:=n) (c:=a) (by rw[hq];simp)
  rw[h] at this
  have e:(45:UInt8).toNat=45:=rfl
  omega
theorem zaW (n:Int):z1U (itoa n)=decN n.natAbs:=by
 unfold itoa
 split
 ·simp [z1U]
 ·exact zeW _
theorem zqM (n:Int):numV (itoa n)=n:=by
 unfold numV
 rw[zaW,zu5]
 simp only[Option.getD_some]
 unfold itoa
 by_cases h:n<0
 ·rw[if_pos h]
  simp
  omega
 ·rw[if_neg h]
  have:=zeW n.natAbs
  have hne:¬ (decN n.natAbs).take 1=[45]:=by
   intro q
   unfold z1U at this
   rw[if_pos q] at this
   have hl:=congrArg List.length this
   rw[List.length_drop] at hl
   have:=zbJ n.natAbs
   have:0<(decN n.natAbs).length:=List.length_pos_iff.2 this
   omega
  rw[if_neg hne]
  omega
theorem zqL {d:Nat} {n:Int} (h:n.natAbs<10^d) (hd:0<d):numF d (itoa n)=true:=by
 obtain⟨k,rfl⟩:∃ k,d=k+1:=⟨d-1,by omega⟩
 have hl:=z5U k n.natAbs h
 have ha:=zh1 n.natAbs
 have hne:=zbJ n.natAbs
 have hh:decide ((decN n.natAbs).head?=some 48)=true→n.natAbs=0:=fun e=>zn2 _ (of_decide_eq_true e)
 unfold numF
 rw[zaW]
 have e1:(decN n.natAbs).isEmpty=false:=by cases hq:decN n.natAbs with | nil=>exact absurd hq hne | cons _ _=>rfl
 have e2:decide ((decN n.natAbs).length≤k+1)=true:=by simpa using hl.2
 rw[e1,e2,ha]
 cases hz:decide ((decN n.natAbs).head?=some 48) with
 | false=>rfl
 | true=>
  have h0:n=0:=by have:=hh hz;omega
  subst h0
  have e0:decN (Int.natAbs 0)=[48]:=by rw[show Int.natAbs 0=0 from rfl,z6Y (by omega)];rfl
  have e9:itoa 0=[48]:=by unfold itoa;rw[if_neg (by omega)];exact e0
  rw[e0,e9]
  rfl
theorem zhT {n:Int} {c:UInt8} (h:c∈itoa n):c.toNat=45∨48≤c.toNat∧c.toNat≤57:=by
 unfold itoa at h
 split at h
 ·rcases List.mem_cons.1 h with rfl | h
  ·exact .inl rfl
  ·exact .inr (zbI h)
 ·exact .inr (zbI h)
theorem z7D {c:UInt8}:∀ (ls:List (List UInt8)),(∀ l∈ls,c∉l)→z0q c (ls.map fun l=>l++[c]).flatten=ls++[[]]
 | [],_=>by simp [z0q]
 | l::r,h=>by
  have ih:=z7D r (fun x hx=>h x (by simp [hx]))
  have e:((l::r).map fun l=>l++[c]).flatten=l++c::(r.map fun l=>l++[c]).flatten:=by simp
  rw[e,z1Y (h l (by simp)),ih]
  rfl
theorem zq9 {ls:List (List UInt8)} (h:∀ l∈ls,(10:UInt8)∉l):lnsD (ls.map fun l=>l++[10]).flatten=ls∧lnsT (ls.map fun l=>l++[10]).flatten=false:=by
 unfold lnsD lnsT
 rw[z7D ls h]
 simp
theorem zpS (n:Int):(32:UInt8)∉itoa n:=fun h=>by
 have:=zhT h
 have e:(32:UInt8).toNat=32:=rfl
 omega
end Go.Am
end
section
/- Programs asv texts,plainly: written,read both ways. -/
set_option linter.all false
namespace Go.Am
def z7E:List (List UInt8):=[[],[101,110,100,105,114],[101,110,100,100,114],[104,101,97,100,105,114],[116,97,105,108,105,114],[104,101,97,100,100,114],[116,97,105,108,100,114],[115,99,97,110,105,114],[115,99,97,110,100,114],[105,100,108,101],[103,111]]
def z1A (k:Int):List UInt8:=(z7E[k.toNat]?).getD []
def z5x:List (List UInt8):=[[114,101,115,101,116],[105,100,108,101],[112,97,117,115,101,100,114],[112,97,117,115,101,105,114]]
def z1Z:List Int:=[0,1,6,13]
def z1I (n:Int):List UInt8:=if n=0 then [114,101,115,101,116] else if n=1 then [105,100,108,101] else if n=6 then [112,97,117,115,101,100,114] else [112,97,117,115,101,105,114]
def z1R (c:Cmd):List UInt8:=
 z1A c.k++32::(if c.k=1∨c.k=2∨c.k=10 then z1I c.s else if c.k=9 then itoa c.cl else if (c.k=7∨c.k=8)∧c.w≠[] then c.b++32::(c.w++32::c.m) else if c.b=[] then [45] else c.b)
def z1g (l:List Cmd):List UInt8:=(l.map fun c=>z1R c++[10]).flatten
def kV (w:List UInt8):Nat:=z7E.findIdx fun y=>decide (y=w)
def tV (w:List UInt8):Nat:=z5x.findIdx fun y=>decide (y=w)
def cmd0:Cmd:=⟨0,0,0,[],[],[]⟩
def kP (w:List UInt8):Int:=if 1≤kV w∧kV w≤10 then (kV w:Int) else 0
def wd (ws:List (List UInt8)) (i:Nat):List UInt8:=(ws[i]?).getD []
def stT (w:List UInt8):Int:=(z1Z[tV w]?).getD 0
def rdPC (ws:List (List UInt8)):Cmd × Bool:=
 if ws.contains []=true then (cmd0,false)
 else if (kP (wd ws 0)=7∨kP (wd ws 0)=8)∧ws.length=4 then (⟨kP (wd ws 0),0,0,wd ws 1,wd ws 2,wd ws 3⟩,true)
 else if kP (wd ws 0)=0∨ws.length≠2 then (cmd0,false)
 else if kP (wd ws 0)=1∨kP (wd ws 0)=2∨kP (wd ws 0)=10 then (if tV (wd ws 1)<4 then (⟨kP (wd ws 0),stT (wd ws 1),0,[],[],[]⟩,true) else (cmd0,false))
 else if kP (wd ws 0)=9 then (⟨9,0,if numF 15 (wd ws 1)=true then numV (wd ws 1) else 0,[],[],[]⟩,numF 15 (wd ws 1))
 else if (kP (wd ws 0)=7∨kP (wd ws 0)=8)∨wd ws 1≠[45] then (⟨kP (wd ws 0),0,0,wd ws 1,[],[]⟩,true)
 else (⟨kP (wd ws 0),0,0,[],[],[]⟩,true)
def tkP (cs:List Cmd) (s:List UInt8):Bool × List Cmd:=((rdPC (z0q 32 s)).2,cs++[(rdPC (z0q 32 s)).1])
theorem ziR {c:UInt8} (hc:c.toNat<48) (k:Int):c∉z1A k:=by
 intro h
 unfold z1A at h
 cases hw:z7E[k.toNat]? with
 | none=>rw[hw] at h;simp at h
 | some w=>
  rw[hw] at h
  simp only[Option.getD_some] at h
  have:z7E.all (fun w=>w.all fun b=>decide (48≤b.toNat))=true:=by decide
  have:=List.all_eq_true.1 (List.all_eq_true.1 this w (List.mem_of_getElem? hw)) c h
  simp at this
  omega
theorem z6P {c:UInt8} (hc:c.toNat<48) (n:Int):c∉z1I n:=by
 intro h
 have key:∀ w∈z5x,c∈w→False:=fun w hw hcw=>by
  have:z5x.all (fun w=>w.all fun b=>decide (48≤b.toNat))=true:=by decide
  have:=List.all_eq_true.1 (List.all_eq_true.1 this w hw) c hcw
  simp at this
  omega
 unfold z1I at h
 split at h
 ·exact key _ (by simp [z5x]) h
 split at h
 ·exact key _ (by simp [z5x]) h
 split at h
 ·exact key _ (by simp [z5x]) h
 ·exact key _ (by simp [z5x]) h
theorem z3a {c:UInt8} (hc:c.toNat<48) {s:List UInt8} (h:z0Q s=true):c∉s:=fun hm=>by
 rcases zae h hm with e | e <;> subst e <;> exact absurd hc (by decide)
theorem zpT {k:Int} (h1:1≤k) (h2:k≤10):(kV (z1A k):Int)=k∧z1A k≠[]:=by
 have:k=1∨k=2∨k=3∨k=4∨k=5∨k=6∨k=7∨k=8∨k=9∨k=10:=by omega
 rcases this with rfl | rfl | rfl | rfl | rfl | rfl | rfl | rfl | rfl | rfl <;> exact⟨by decide,by decide⟩
theorem ziF {n:Int} (h:z08 n=true):tV (z1I n)<4∧stT (z1I n)=n∧z1I n≠[]:=by
 unfold z08 at h
 simp only[Bool.or_eq_true,beq_iff_eq] at h
 rcases h with ((rfl | rfl) | rfl) | rfl <;> exact⟨by decide,by decide,by decide⟩
def z4h (c:Cmd):List (List UInt8):=
 if c.k=1∨c.k=2∨c.k=10 then [z1A c.k,z1I c.s] else if c.k=9 then [z1A c.k,itoa c.cl] else if (c.k=7∨c.k=8)∧c.w≠[] then [z1A c.k,c.b,c.w,c.m] else if c.b=[] then [z1A c.k,[45]] else [z1A c.k,c.b]
theorem zpR (n:Int) {c:UInt8} (hc:c.toNat<45):c∉itoa n:=fun h=>by
 have:=zhT h
 omega
theorem z7e {c:Cmd} (hc:cmdF c=0):z0q 32 (z1R c)=z4h c∧(10:UInt8)∉z1R c:=by
 have n32:(32:UInt8).toNat<48:=by decide
 have n10:(10:UInt8).toNat<48:=by decide
 have W:(32:UInt8)∉z1A c.k:=ziR n32 _
 have W10:(10:UInt8)∉z1A c.k:=ziR n10 _
 have fin:∀ (x:List UInt8) (y:List (List UInt8)),z1R c=z1A c.k++32::x→z4h c=z1A c.k::y→z0q 32 x=y→(10:UInt8)∉x→z0q 32 (z1R c)=z4h c∧(10:UInt8)∉z1R c:=fun x y e1 e2 e3 e4=>by
  rw[e1,e2,z1Y W,e3]
  exact⟨rfl,by simp [W10,e4]⟩
 cases z0S hc with
 | set h hs e=>exact fin (z1I c.s) _ (by unfold z1R;rw[if_pos (by omega)]) (by unfold z4h;rw[if_pos (by omega)]) (z12 (z6P n32 _)) (z6P n10 _)
 | go h hs e=>exact fin (z1I c.s) _ (by unfold z1R;rw[if_pos (by omega)]) (by unfold z4h;rw[if_pos (by omega)]) (z12 (z6P n32 _)) (z6P n10 _)
 | idle h h0 h1 e=>exact fin (itoa c.cl) _ (by unfold z1R;rw[if_neg (by omega),if_pos h]) (by unfold z4h;rw[if_neg (by omega),if_pos h]) (z12 (zpS _)) (zpR _ (by decide))
 | pad h0 h1 hb hl e=>
  have n7:¬ ((c.k=7∨c.k=8)∧c.w≠[]):=by rintro⟨h,_⟩;omega
  by_cases hbe:c.b=[]
  ·exact fin [45] _ (by unfold z1R;rw[if_neg (by omega),if_neg (by omega),if_neg n7,if_pos hbe]) (by unfold z4h;rw[if_neg (by omega),if_neg (by omega),if_neg n7,if_pos hbe]) (by decide) (by decide)
  ·exact fin c.b _ (by unfold z1R;rw[if_neg (by omega),if_neg (by omega),if_neg n7,if_neg hbe]) (by unfold z4h;rw[if_neg (by omega),if_neg (by omega),if_neg n7,if_neg hbe]) (z12 (z3a n32 hb)) (z3a n10 hb)
 | scan h hs e=>
  obtain⟨q1,q2,q3,q4,q5,q6⟩:=z1B hs
  by_cases hw:c.w=[]
  ·have n7:¬ ((c.k=7∨c.k=8)∧c.w≠[]):=by rintro⟨_,h⟩;exact h hw
   exact fin c.b _ (by unfold z1R;rw[if_neg (by omega),if_neg (by omega),if_neg n7,if_neg q1]) (by unfold z4h;rw[if_neg (by omega),if_neg (by omega),if_neg n7,if_neg q1]) (z12 (z3a n32 q2)) (z3a n10 q2)
  ·exact fin (c.b++32::(c.w++32::c.m)) _ (by unfold z1R;rw[if_neg (by omega),if_neg (by omega),if_pos ⟨h,hw⟩]) (by unfold z4h;rw[if_neg (by omega),if_neg (by omega),if_pos ⟨h,hw⟩]) (by rw[z1Y (z3a n32 q2),z1Y (z3a n32 q4),z12 (z3a n32 q5)]) (by simp [z3a n10 q2,z3a n10 q4,z3a n10 q5])
theorem zsR {c:Cmd} (hc:cmdF c=0):rdPC (z4h c)=(c,true):=by
 have hk:1≤c.k∧c.k≤10:=by cases z0S hc <;> omega
 obtain⟨k1,k2⟩:=zpT hk.1 hk.2
 have kp:kP (z1A c.k)=c.k:=by unfold kP;rw[if_pos (by omega),k1]
 have nc:∀ a:List UInt8,a≠[]→([z1A c.k,a]:List (List UInt8)).contains []=false:=fun a ha=>by
  rw[← Bool.not_eq_true,List.contains_iff_mem]
  simp only[List.mem_cons,List.not_mem_nil,or_false,not_or]
  exact⟨fun e=>k2 e.symm,fun e=>ha e.symm⟩
 have two:∀ a:List UInt8,a≠[]→rdPC [z1A c.k,a]=(if c.k=1∨c.k=2∨c.k=10 then (if tV a<4 then (⟨c.k,stT a,0,[],[],[]⟩,true) else (cmd0,false))
  else if c.k=9 then (⟨9,0,if numF 15 a=true then numV a else 0,[],[],[]⟩,numF 15 a)
  else if (c.k=7∨c.k=8)∨a≠[45] then (⟨c.k,0,0,a,[],[]⟩,true) else (⟨c.k,0,0,[],[],[]⟩,true)):=fun a ha=>by
  have w0:wd [z1A c.k,a] 0=z1A c.k:=rfl
  have w1:wd [z1A c.k,a] 1=a:=rfl
  unfold rdPC
  rw[if_neg (by rw[nc a ha];simp),w0,w1,kp,if_neg (by rintro⟨_,h⟩;simp at h),if_neg (by rintro (h | h);omega;simp at h)]
 unfold z4h
 cases z0S hc with
 | set h hs e=>
  obtain⟨t1,t2,t3⟩:=ziF hs
  rw[if_pos (by omega),two _ t3,if_pos (by omega),if_pos t1,t2,← e]
 | go h hs e=>
  obtain⟨t1,t2,t3⟩:=ziF hs
  rw[if_pos (by omega),two _ t3,if_pos (by omega),if_pos t1,t2,← e]
 | idle h h0 h1 e=>
  have ni:itoa c.cl≠[]:=by
   unfold itoa
   split
   ·simp
   ·exact zbJ _
  have nf:numF 15 (itoa c.cl)=true:=zqL (by omega) (by omega)
  rw[if_neg (by omega),if_pos h,two _ ni,if_neg (by omega),if_pos h,nf,if_pos rfl,zqM,← h,← e]
 | pad h0 h1 hb hl e=>
  rw[if_neg (by omega),if_neg (by omega),if_neg (by rintro⟨h,_⟩;omega)]
  by_cases hbe:c.b=[]
  ·rw[if_pos hbe,two _ (by decide),if_neg (by omega),if_neg (by omega),if_neg (by rintro (h | h);omega;exact h rfl)]
   rw[hbe] at e;rw[← e]
  ·rw[if_neg hbe,two _ hbe,if_neg (by omega),if_neg (by omega),if_pos (.inr fun h=>by rw[h] at hb;exact absurd hb (by decide)),← e]
 | scan h hs e=>
  obtain⟨q1,q2,q3,q4,q5,q6⟩:=z1B hs
  rw[if_neg (by omega),if_neg (by omega)]
  by_cases hw:c.w=[]
  ·have hm:c.m=[]:=by rcases q6 with ⟨_,h⟩ | ⟨h,h'⟩;exact h;rw[hw] at h;exact absurd (List.length_eq_zero_iff.1 h.symm) q1
   rw[if_neg (by rintro⟨_,h⟩;exact h hw),if_neg q1,two _ q1,if_neg (by omega),if_neg (by omega),if_pos (.inl h)]
   rw[hw,hm] at e;rw[← e]
  ·have hm:c.m≠[]:=by rcases q6 with ⟨h,_⟩ | ⟨h,h'⟩;exact absurd h hw;intro hm;rw[hm] at h';exact q1 (List.length_eq_zero_iff.1 h'.symm)
   rw[if_pos ⟨h,hw⟩]
   unfold rdPC
   have n4:([z1A c.k,c.b,c.w,c.m]:List (List UInt8)).contains []=false:=by
    rw[← Bool.not_eq_true,List.contains_iff_mem]
    simp only[List.mem_cons,List.not_mem_nil,or_false,not_or]
    exact⟨fun e=>k2 e.symm,fun e=>q1 e.symm,fun e=>hw e.symm,fun e=>hm e.symm⟩
   have w0:wd [z1A c.k,c.b,c.w,c.m] 0=z1A c.k:=rfl
   rw[if_neg (by rw[n4];simp),w0,kp,if_pos ⟨h,rfl⟩]
   show ((⟨c.k,0,0,c.b,c.w,c.m⟩:Cmd),true)=_
   rw[← e]
theorem zff:∀ (l:List Cmd) (i:Nat) (acc:List Cmd),(∀ c∈l,cmdF c=0)→lnsF tkP false i (l.map z1R) acc=((0,true),acc++l)
 | [],i,acc,_=>by rw[List.map_nil,zbZ];simp
 | c::l,i,acc,h=>by
  have h0:=h c (List.mem_cons_self ..)
  have e:tkP acc (z1R c)=(true,acc++[c]):=by unfold tkP;rw[(z7e h0).1,zsR h0]
  rw[List.map_cons,z8Z,e]
  show lnsF tkP false (i+1) (l.map z1R) (acc++[c])=_
  rw[zff l (i+1) (acc++[c]) (fun d hd=>h d (List.mem_cons_of_mem c hd))]
  simp
theorem zjJ {l:List Cmd} (h:∀ c∈l,cmdF c=0):lnsF tkP (lnsT (z1g l)) 0 (lnsD (z1g l)) []=((0,true),l):=by
 have e:z1g l=((l.map z1R).map fun s=>s++[10]).flatten:=by unfold z1g;rw[List.map_map];rfl
 obtain⟨a,b⟩:=zq9 (ls:=l.map z1R) (fun s hs=>by
  obtain⟨c,hc,rfl⟩:=List.mem_map.1 hs
  exact (z7e (h c hc)).2)
 rw[e,a,b,zff l 0 [] h,List.nil_append]
theorem zfY {l:List Cmd} (h:∀ c∈l,cmdF c=0):(z1g l).count 10=l.length:=by
 induction l with
 | nil=>rfl
 | cons c l ih=>
  have e:z1g (c::l)=z1R c++[10]++z1g l:=rfl
  rw[e,List.count_append,List.count_append,ih (fun d hd=>h d (List.mem_cons_of_mem c hd)),List.count_eq_zero.2 (z7e (h c (List.mem_cons_self ..))).2,List.length_cons]
  simp;omega
theorem zf9 (k:Int):(z1A k).length≤6:=by
 unfold z1A
 cases hw:z7E[k.toNat]? with
 | none=>simp
 | some w=>
  have:z7E.all (fun w=>decide (w.length≤6))=true:=by decide
  simpa using List.all_eq_true.1 this w (List.mem_of_getElem? hw)
theorem zbx (n:Int):(z1I n).length≤7:=by
 unfold z1I
 split
 ·decide
 split
 ·decide
 split <;> decide
end Go.Am
end
section
/- The numbers of the functions in this translation. -/
namespace Go.Am
abbrev z26:Nat:=117
abbrev zar:Nat:=59
abbrev zxz:Nat:=35
abbrev zpz:Nat:=80
abbrev zx0:Nat:=130
abbrev z5r:Nat:=82
abbrev zas:Nat:=106
abbrev zp0:Nat:=167
abbrev zat:Nat:=110
abbrev z1i:Nat:=66
abbrev zx1:Nat:=74
abbrev zx2:Nat:=119
abbrev zx3:Nat:=38
abbrev zx4:Nat:=197
abbrev zx5:Nat:=192
abbrev zx6:Nat:=120
abbrev zx7:Nat:=158
abbrev zx8:Nat:=195
abbrev zx9:Nat:=219
abbrev zxA:Nat:=236
abbrev zeD:Nat:=193
abbrev zxB:Nat:=159
abbrev zxC:Nat:=75
abbrev zhA:Nat:=76
abbrev zxD:Nat:=160
abbrev zxE:Nat:=196
abbrev zxF:Nat:=220
abbrev zp1:Nat:=200
abbrev zp2:Nat:=199
abbrev zp3:Nat:=221
abbrev zxG:Nat:=162
abbrev zxH:Nat:=161
abbrev zxI:Nat:=77
abbrev zxJ:Nat:=40
abbrev zxK:Nat:=122
abbrev zxL:Nat:=198
abbrev zxM:Nat:=123
abbrev zxN:Nat:=126
abbrev zxO:Nat:=125
abbrev zxP:Nat:=124
abbrev z0W:Nat:=144
abbrev zxQ:Nat:=222
abbrev zeE:Nat:=138
abbrev z0l:Nat:=171
abbrev zeF:Nat:=139
abbrev z0B:Nat:=137
abbrev z0s:Nat:=237
abbrev zeG:Nat:=172
abbrev zau:Nat:=179
abbrev zav:Nat:=142
abbrev zaw:Nat:=208
abbrev zax:Nat:=85
abbrev z4q:Nat:=136
abbrev zay:Nat:=181
abbrev zxR:Nat:=41
abbrev zxS:Nat:=129
abbrev zxT:Nat:=79
abbrev zxU:Nat:=78
abbrev zxV:Nat:=128
abbrev zhB:Nat:=6
abbrev z71:Nat:=11
abbrev z8G:Nat:=13
abbrev zxW:Nat:=39
abbrev z5s:Nat:=65
abbrev zaz:Nat:=47
abbrev za0:Nat:=20
abbrev z27:Nat:=48
abbrev z2i:Nat:=28
abbrev z73:Nat:=87
abbrev z1z:Nat:=50
abbrev z4r:Nat:=8
abbrev za1:Nat:=7
abbrev z28:Nat:=88
abbrev z4b:Nat:=86
abbrev z2q:Nat:=176
abbrev za2:Nat:=18
abbrev za3:Nat:=43
abbrev z4c:Nat:=98
abbrev z8H:Nat:=23
abbrev z8I:Nat:=57
abbrev za4:Nat:=56
abbrev za5:Nat:=178
abbrev za6:Nat:=97
abbrev za7:Nat:=147
abbrev z4s:Nat:=148
abbrev za8:Nat:=100
abbrev za9:Nat:=99
abbrev z5Y:Nat:=177
abbrev zaA:Nat:=96
abbrev zxX:Nat:=235
abbrev zxY:Nat:=121
abbrev zp4:Nat:=194
abbrev zxZ:Nat:=127
abbrev z5t:Nat:=146
abbrev z5Z:Nat:=108
abbrev zaB:Nat:=12
abbrev zya:Nat:=218
abbrev zyb:Nat:=163
abbrev z8J:Nat:=105
abbrev z74:Nat:=113
abbrev zyc:Nat:=132
abbrev zyd:Nat:=131
abbrev zye:Nat:=42
abbrev zyf:Nat:=165
abbrev zyg:Nat:=134
abbrev zyh:Nat:=164
abbrev zyi:Nat:=81
abbrev zyj:Nat:=202
abbrev zyk:Nat:=169
abbrev zp5:Nat:=170
abbrev zyl:Nat:=168
abbrev zym:Nat:=135
abbrev zyn:Nat:=83
abbrev zyo:Nat:=133
abbrev zyp:Nat:=166
abbrev zyq:Nat:=84
abbrev zaC:Nat:=153
abbrev zeH:Nat:=95
abbrev z8K:Nat:=54
abbrev z4d:Nat:=55
abbrev z2r:Nat:=52
abbrev zaD:Nat:=92
abbrev zaE:Nat:=201
abbrev z8L:Nat:=19
abbrev zaF:Nat:=150
abbrev zaG:Nat:=46
abbrev zaH:Nat:=175
abbrev z1l:Nat:=49
abbrev z77:Nat:=107
abbrev zeI:Nat:=155
abbrev zaI:Nat:=152
abbrev zeJ:Nat:=180
abbrev zaJ:Nat:=151
abbrev z8M:Nat:=118
abbrev z6a:Nat:=156
abbrev z5u:Nat:=191
abbrev z4t:Nat:=157
abbrev zeK:Nat:=209
abbrev zyr:Nat:=44
abbrev zeL:Nat:=229
abbrev z4e:Nat:=29
abbrev zys:Nat:=14
abbrev zaK:Nat:=25
abbrev z8N:Nat:=60
abbrev zaL:Nat:=22
abbrev z29:Nat:=69
abbrev z8O:Nat:=31
abbrev z8P:Nat:=67
abbrev zaM:Nat:=109
abbrev zaN:Nat:=53
abbrev z6b:Nat:=30
abbrev zaO:Nat:=61
abbrev z4u:Nat:=73
abbrev z6c:Nat:=71
abbrev z8Q:Nat:=34
abbrev z3p:Nat:=72
abbrev z8R:Nat:=116
abbrev z8S:Nat:=33
abbrev z8T:Nat:=115
abbrev z8U:Nat:=68
abbrev z78:Nat:=94
abbrev z79:Nat:=93
def bldT:Nat:=106
def bldE:Nat:=5
end Go.Am
end
section
/- The abstract machine,part 26: z1p calls are computed. -/
set_option linter.unusedSimpArgs false
set_option linter.unusedVariables false
namespace Go.Am
mutual
def PV.same:PV→PV→Bool
 | .int k a,.int k' b=>decide (k=k')&&decide (a=b)
 | .bool a,.bool b=>decide (a=b)
 | .str a,.str b=>decide (a=b)
 | .sl s xs,.sl t ys=>decide (s=t)&&PV.sames xs ys
 | .agg xs,.agg ys=>PV.sames xs ys
 | .nilp,.nilp=>true
 | _,_=>false
def PV.sames:List PV→List PV→Bool
 | [],[]=>true
 | a::asv,b::bs=>PV.same a b&&PV.sames asv bs
 | _,_=>false
end
mutual
theorem PV.same_eq:∀ (a b:PV),PV.same a b=true→a=b
 | .int k a,b,h=>by
  cases b <;> simp [PV.same] at h
  obtain⟨h1,h2⟩:=h;subst h1;subst h2;rfl
 | .bool a,b,h=>by cases b <;> simp [PV.same] at h;subst h;rfl
 | .str a,b,h=>by cases b <;> simp [PV.same] at h;subst h;rfl
 | .sl s xs,b,h=>by
  cases b <;> simp [PV.same] at h
  obtain⟨h1,h2⟩:=h;subst h1;rw[PV.sames_eq _ _ h2]
 | .agg xs,b,h=>by
  cases b <;> simp [PV.same] at h
  rw[PV.sames_eq _ _ h]
 | .nilp,b,h=>by cases b <;> simp [PV.same] at h;rfl
theorem PV.sames_eq:∀ (a b:List PV),PV.sames a b=true→a=b
 | [],b,h=>by cases b <;> simp [PV.sames] at h;rfl
 | x::xs,b,h=>by
  cases b <;> simp [PV.sames] at h
  rw[PV.same_eq _ _ h.1,PV.sames_eq _ _ h.2]
end
mutual
def AV.same:AV→AV→Bool
 | .p a,.p b=>PV.same a b
 | .own a b c d,.own a' b' c' d'=>decide (a=a')&&decide (b=b')&&decide (c=c')&&decide (d=d')
 | .sl0 a,.sl0 b=>decide (a=b)
 | .ref a b,.ref a' b'=>decide (a=a')&&decide (b=b')
 | .rref a b c d,.rref a' b' c' d'=>decide (a=a')&&decide (b=b')&&decide (c=c')&&decide (d=d')
 | .vp a,.vp b=>PV.same a b
 | .nilp,.nilp=>true
 | .nilm,.nilm=>true
 | .nilf,.nilf=>true
 | .nili,.nili=>true
 | .ifc,.ifc=>true
 | .mp a,.mp b=>decide (a=b)
 | .it a,.it b=>decide (a=b)
 | .fn a b,.fn a' b'=>decide (a=a')&&AV.sames b b'
 | .agg a,.agg b=>AV.sames a b
 | .tup a,.tup b=>AV.sames a b
 | .anyb,.anyb=>true
 | .skp,.skp=>true
 | .und,.und=>true
 | .anyp,.anyp=>true
 | .bt a b c d,.bt a' b' c' d'=>decide (a=a')&&decide (b=b')&&decide (c=c')&&decide (d=d')
 | _,_=>false
def AV.sames:List AV→List AV→Bool
 | [],[]=>true
 | a::asv,b::bs=>AV.same a b&&AV.sames asv bs
 | _,_=>false
end
mutual
theorem AV.same_eq:∀ (a b:AV),AV.same a b=true→a=b
 | .p a,b,h=>by cases b <;> simp [AV.same] at h;rw[PV.same_eq _ _ h]
 | .own _ _ _ _,b,h=>by cases b <;> simp [AV.same] at h;simp [h]
 | .sl0 _,b,h=>by cases b <;> simp [AV.same] at h;simp [h]
 | .ref _ _,b,h=>by cases b <;> simp [AV.same] at h;simp [h]
 | .rref _ _ _ _,b,h=>by cases b <;> simp [AV.same] at h;simp [h]
 | .vp a,b,h=>by cases b <;> simp [AV.same] at h;rw[PV.same_eq _ _ h]
 | .nilp,b,h=>by cases b <;> simp [AV.same] at h;rfl
 | .nilm,b,h=>by cases b <;> simp [AV.same] at h;rfl
 | .nilf,b,h=>by cases b <;> simp [AV.same] at h;rfl
 | .nili,b,h=>by cases b <;> simp [AV.same] at h;rfl
 | .ifc,b,h=>by cases b <;> simp [AV.same] at h;rfl
 | .mp _,b,h=>by cases b <;> simp [AV.same] at h;simp [h]
 | .it _,b,h=>by cases b <;> simp [AV.same] at h;simp [h]
 | .fn _ cs,b,h=>by cases b <;> simp [AV.same] at h;rw[h.1,AV.sames_eq _ _ h.2]
 | .agg cs,b,h=>by cases b <;> simp [AV.same] at h;rw[AV.sames_eq _ _ h]
 | .tup cs,b,h=>by cases b <;> simp [AV.same] at h;rw[AV.sames_eq _ _ h]
 | .anyb,b,h=>by cases b <;> simp [AV.same] at h;rfl
 | .skp,b,h=>by cases b <;> simp [AV.same] at h;rfl
 | .und,b,h=>by cases b <;> simp [AV.same] at h;rfl
 | .anyp,b,h=>by cases b <;> simp [AV.same] at h;rfl
 | .bt _ _ _ _,b,h=>by cases b <;> simp [AV.same] at h;simp [h]
theorem AV.sames_eq:∀ (a b:List AV),AV.sames a b=true→a=b
 | [],b,h=>by cases b <;> simp [AV.sames] at h;rfl
 | x::xs,b,h=>by
  cases b <;> simp [AV.sames] at h
  rw[AV.same_eq _ _ h.1,AV.sames_eq _ _ h.2]
end
abbrev EvC:=Nat→List AV→Heap→Option (AV × Heap × Esc)
def evDo (C:EvC) (gl:Nat→Option PV) (o:AOp) (e:List (Nat × AV)) (h:Heap):Option (AV × Heap × Esc):=match wanted o.guard e with
 | some true=>match o.op with
  | .call f args=>C f (args.map (Opd.ev gl e)) h
  | .callv f args=>match Opd.ev gl e f with
   | .fn g caps=>C g (args.map (Opd.ev gl e)++caps) h
   | _=>none
  | .mnext _ _=>none
  | op=>aop op (Opd.ev gl e) h
 | some false=>some (.skp,h,[])
 | none=>none
def zxy (gl:Nat→Option PV) (o:AOp) (e:List (Nat × AV)) (h:Heap):Option (AV × Heap):=match o.op with
 | .mnext sh xs=>match wanted o.guard e with
  | some true=>match z52 h sh (xs.map (Opd.ev gl e)) with
   | some [y]=>some y
   | _=>none
  | _=>none
 | _=>none
def zj2 (C:EvC) (gl:Nat→Option PV):List AOp→List (Nat × AV)→Heap→Esc→Option (List (Nat × AV) × Heap × Esc)
 | [],e,h,x=>some (e,h,x)
 | o::r,e,h,x=>match evDo C gl o e h with
  | some (v,h',x')=>zj2 C gl r (put o.dst v e) h' (x'++x)
  | none=>match zxy gl o e h with
   | some (v,h')=>zj2 C gl r (put o.dst v e) h' x
   | none=>none
def AO.still:AO→Bool
 | .mv _ | .pick _ _ _ | .build _ _ | .load _ _ | .nilchk _ | .bin _ _ _ | .eqa _ _ _ _ | .isnil _ _ _ | .mkif _ | .un _ _ | .mkfn _ _ | .slice _ _ _ _ _ | .slstr _ _ _ | .faddr _ _ _ | .field _ _ _ | .iaddr _ _ _
 | .iaddra _ _ _ _ | .idxa _ _ _ _ | .idxs _ _ | .look _ _ _ _ _ | .ext _ _ | .len _ | .lens _ | .lenm _ | .mx _ | .mn _=>true
 | _=>false
def AO.still2:AO→Bool
 | .conv (.i _) _=>true
 | o=>o.still
def ME.same (a b:ME):Bool:=PV.same a.key b.key&&AV.same a.val b.val&&decide (a.born=b.born)
def MEs.same:List ME→List ME→Bool
 | [],[]=>true
 | a::asv,b::bs=>ME.same a b&&MEs.same asv bs
 | _,_=>false
def Obj.same:Obj→Obj→Bool
 | .box a,.box b=>AV.sames a b
 | .row a b c,.row a' b' c'=>decide (a=a')&&PV.sames b b'&&decide (c=c')
 | .amap a b,.amap a' b'=>MEs.same a a'&&decide (b=b')
 | .iter a b c d,.iter a' b' c' d'=>decide (a=a')&&decide (b=b')&&decide (c=c')&&decide (d=d')
 | _,_=>false
def Heap.same:List Obj→List Obj→Bool
 | [],[]=>true
 | a::asv,b::bs=>Obj.same a b&&Heap.same asv bs
 | _,_=>false
theorem ME.same_eq {a b:ME} (h:ME.same a b=true):a=b:=by
 cases a;cases b
 simp only[ME.same,Bool.and_eq_true,decide_eq_true_eq] at h
 obtain⟨⟨h1,h2⟩,h3⟩:=h
 rw[PV.same_eq _ _ h1,AV.same_eq _ _ h2,h3]
theorem MEs.same_eq:∀ {a b:List ME},MEs.same a b=true→a=b
 | [],[],_=>rfl
 | [],_::_,h=>by simp [MEs.same] at h
 | _::_,[],h=>by simp [MEs.same] at h
 | a::asv,b::bs,h=>by
  simp only[MEs.same,Bool.and_eq_true] at h
  rw[ME.same_eq h.1,MEs.same_eq h.2]
theorem Obj.same_eq {a b:Obj} (h:Obj.same a b=true):a=b:=by
 cases a <;> cases b <;> simp only[Obj.same,Bool.and_eq_true,decide_eq_true_eq] at h <;> first
  | (cases h;done)
  | (rw[AV.sames_eq _ _ h])
  | (obtain⟨⟨h1,h2⟩,h3⟩:=h;rw[h1,PV.sames_eq _ _ h2,h3])
  | (obtain⟨h1,h2⟩:=h;rw[MEs.same_eq h1,h2])
  | (obtain⟨⟨⟨h1,h2⟩,h3⟩,h4⟩:=h;rw[h1,h2,h3,h4])
theorem Heap.same_eq:∀ {a b:List Obj},Heap.same a b=true→a=b
 | [],[],_=>rfl
 | [],_::_,h=>by simp [Heap.same] at h
 | _::_,[],h=>by simp [Heap.same] at h
 | a::asv,b::bs,h=>by
  simp only[Heap.same,Bool.and_eq_true] at h
  rw[Obj.same_eq h.1,Heap.same_eq h.2]
def zh9 (C:EvC) (gl:Nat→Option PV) (o:AOp) (e:List (Nat × AV)) (g:Heap) (v:AV):Bool:=match evDo C gl o e g with
 | some (v',g',y)=>AV.same v' v&&y.isEmpty&&(o.op.still2||Heap.same g' g)
 | none=>false
def ze8 (C:EvC) (gl:Nat→Option PV):List DOp→Done→List Heap→List (Nat × AV)→Heap→Esc→Option (List (Nat × AV) × Heap × Esc)
 | [],_,_,e,h,x=>some (e,h,x)
 | o::r,dn,hs,e,h,x=>match evDo C gl o.op (z0E (some o.rd) e) h with
  | some (v,h',y)=>
   if (o.eff||o.op.op.still2||y.isEmpty&&Heap.same h' h)&&(o.early.all fun k=>match hs[k]? with | some g=>zh9 C gl o.op (z0E (some o.rd) e) g v | none=>false)
    && (o.again.all fun j=>match dn[j]? with | some q=>zh9 C gl q.1 q.2.1 h' q.2.2 | none=>false) then
    ze8 C gl r (dn++[(o.op,z0E (some o.rd) e,v)]) (hs++[h]) (put o.op.dst v e) h' (y++x)
   else none
  | none=>none
def zh8 (T:St→Option (Ex × St)):Nat→St→Option (Ex × St)
 | 0,_=>none
 | n+1,s=>match T s with
  | some (.normal,s')=>zh8 T n s'
  | r=>r
def z1f (C:EvC) (gl:Nat→Option PV) (n:Nat):ACode→St→Option (Ex × St)
 | .skip,s=>some (.normal,s)
 | .reg ops keep,s=>match zj2 C gl ops s.env s.h s.esc with
  | some (e,h,x)=>some (.normal,⟨z0E keep e,h,x⟩)
  | none=>none
 | .draw ds keep,s=>match ze8 C gl ds [] [] s.env s.h s.esc with
  | some (e,h,x)=>some (.normal,⟨z0E keep e,h,x⟩)
  | none=>none
 | .seq a b,s=>match z1f C gl n a s with
  | some (.normal,s')=>z1f C gl n b s'
  | r=>r
 | .cond c a b,s=>match Opd.ev gl s.env c with
  | .p (.bool t)=>match t with
   | true=>z1f C gl n a s
   | false=>z1f C gl n b s
  | _=>none
 | .det b,s=>z1f C gl n b s
 | .condu c a b,s=>match Opd.ev gl s.env c with
  | .p (.bool t)=>match t with
   | true=>z1f C gl n a s
   | false=>z1f C gl n b s
  | _=>none
 | .block id b,s=>match z1f C gl n b s with
  | some (.exit i,s')=>if i=id then some (.normal,s') else some (.exit i,s')
  | r=>r
 | .loop b,s=>zh8 (z1f C gl n b) n s
 | .scope b,s=>match z1f C gl n b ⟨s.env,s.h,[]⟩ with
  | some (e,s')=>some (e,z9X s.h.length s.esc s')
  | none=>none
 | .pr l b,s=>z1f C gl n b ⟨z0E (some l) s.env,s.h,s.esc⟩
 | .exit id,s=>some (.exit id,s)
 | .ret,s=>some (.ret,s)
 | .bad,_=>none
def zz6 (F:AFun) (b:Nat) (s:St):Option (AV × Heap × Esc):=match z1T s F.results with
 | some vs=>match F.keep with
  | true=>
   let n:=z2t s.esc.length s.esc (max b (z1b vs).top)
   if z1p s.esc n then some (z1b vs,s.h.take n,s.esc.filter fun y=>decide (y.1<n)) else some (z1b vs,s.h,s.esc)
  | false=>match reif b s.h (z1b vs) with
   | some v0=>
    let n:=z2t s.esc.length s.esc (max b v0.top)
    if z1p s.esc n then match reif n s.h (z1b vs) with
     | some v=>if v.top≤n then some (v,s.h.take n,s.esc.filter fun y=>decide (y.1<n)) else none
     | none=>none
    else some (z1b vs,s.h,s.esc)
   | none=>none
 | none=>none
def zpu (C:EvC) (gl:Nat→Option PV) (n:Nat) (F:AFun) (args:List AV) (h:Heap):Option (AV × Heap × Esc):=
 match (if F.byref then some (args,h) else z0p h args) with
 | some (asv,h1)=>if asv.length=F.nparams then match z1f C gl n F.body ⟨enter asv,h1,[]⟩ with
  | some (.exit _,_)=>none
  | some (_,s)=>zz6 F h.length s
  | none=>none
  else none
 | none=>none
def EvOk (C':EvC) (C:Hd):Prop:=∀ f a h v h' x (K:Post),C' f a h=some (v,h',x)→K v h' x→C f a h K
variable {C':EvC} {C:Hd} {gl:Nat→Option PV}
theorem zpv (hC:EvOk C' C) {o:AOp} {e:List (Nat × AV)} {h h':Heap} {v:AV} {x:Esc} (H:evDo C' gl o e h=some (v,h',x)):ADo C gl o e h v h' x:=by
 unfold evDo at H
 unfold ADo
 split at H
 ·rename_i hw
  simp only[hw]
  obtain⟨dst,guard,op⟩:=o
  cases op
  case call f args=>exact hC _ _ _ _ _ _ _ H ⟨rfl,rfl,rfl⟩
  case callv f args=>
   dsimp only at H ⊢
   split at H
   ·rename_i hf
    simp only[hf]
    exact hC _ _ _ _ _ _ _ H ⟨rfl,rfl,rfl⟩
   ·cases H
  case mnext sh xs=>cases H
  all_goals exact H
 ·rename_i hw
  simp only[hw]
  injection H with H
  injection H with h1 H
  injection H with h2 h3
  exact⟨h1.symm,h2.symm,h3.symm⟩
 ·cases H
theorem zbP (hC:EvOk C' C):∀ (ops:List AOp) e h x e' h' x' (K:List (Nat × AV)→Heap→Esc→Prop),zj2 C' gl ops e h x=some (e',h',x')→K e' h' x'→AReg C gl ops e h x K
 | [],e,h,x,e',h',x',K,H,hK=>by
  simp only[zj2,Option.some.injEq,Prod.mk.injEq] at H
  obtain⟨rfl,rfl,rfl⟩:=H
  exact hK
 | o::r,e,h,x,e',h',x',K,H,hK=>by
  unfold zj2 at H
  split at H
  ·rename_i v h1 x1 hd
   have ih:=zbP hC r _ _ _ _ _ _ K H hK
   unfold evDo at hd
   unfold AReg
   split at hd
   ·rename_i hw
    simp only[hw]
    obtain⟨dst,guard,op⟩:=o
    cases op
    case call f args=>exact hC _ _ _ _ _ _ _ hd ih
    case callv f args=>
     dsimp only at hd ⊢
     split at hd
     ·rename_i hf
      simp only[hf]
      exact hC _ _ _ _ _ _ _ hd ih
     ·cases hd
    case mnext sh xs=>cases hd
    all_goals
     dsimp only at hd ⊢
     rw[hd]
     exact ih
   ·rename_i hw
    simp only[hw]
    injection hd with hd
    injection hd with h1 hd
    injection hd with h2 h3
    subst h1;subst h2;subst h3
    exact ih
   ·cases hd
  ·split at H
   ·rename_i v h1 hd
    have ih:=zbP hC r _ _ _ _ _ _ K H hK
    unfold zxy at hd
    unfold AReg
    split at hd
    ·rename_i sh xs hop
     split at hd
     ·rename_i hw
      simp only[hw,hop]
      split at hd
      ·rename_i y hm
       injection hd with hd
       subst hd
       simp only[hm]
       refine⟨by simp,fun z hz=>?_⟩
       rw[List.mem_singleton] at hz
       subst hz
       exact ih
      ·cases hd
     ·cases hd
    ·cases hd
   ·cases H
theorem zm4 {o:AO} (hs:o.still=true) {ev:Opd→AV} {h h':Heap} {v:AV} {x:Esc} (H:aop o ev h=some (v,h',x)):h'=h∧x=[]:=by
 cases o <;> first | (cases hs;done) | skip
 all_goals
  unfold aop at H
  dsimp only at H
  repeat' split at H
  all_goals first
   | (cases H;done)
   | (simp only[Option.some.injEq,Prod.mk.injEq] at H;obtain⟨_,rfl,rfl⟩:=H;exact⟨rfl,rfl⟩)
   | (simp only[Option.map_eq_some_iff,Prod.mk.injEq] at H;obtain⟨_,_,_,rfl,rfl⟩:=H;exact⟨rfl,rfl⟩)
   | (have H2:=nilc (g:=[]) H;rename_i k neg p;cases hb:z7B k (ev p) <;> rw[hb] at H <;> simp only[cond_true,cond_false,Option.map_eq_some_iff,Option.some.injEq,Prod.mk.injEq] at H <;> first | (obtain⟨_,rfl,rfl⟩:=H;exact⟨rfl,rfl⟩) | (obtain⟨_,_,_,rfl,rfl⟩:=H;exact⟨rfl,rfl⟩))
theorem zjo {o:AO} (hs:o.still2=true) {ev:Opd→AV} {h h':Heap} {v:AV} {x:Esc} (H:aop o ev h=some (v,h',x)):h'=h∧x=[]:=by
 unfold AO.still2 at hs
 split at hs
 ·simp only[aop,z9T] at H
  split at H
  ·simp at H;exact⟨H.2.1.symm,H.2.2⟩
  ·simp at H
 ·exact zm4 hs H
theorem z6T {o:AOp} (hs:o.op.still2=true) {e:List (Nat × AV)} {h h':Heap} {v:AV} {x:Esc} (H:ADo C gl o e h v h' x):h'=h∧x=[]:=by
 unfold ADo at H
 split at H
 ·obtain⟨dst,guard,op⟩:=o
  cases op <;> first | (cases hs;done) | exact zjo hs H
 ·exact H.2
 ·exact H.elim
theorem ztA {o:AO} (h:o.still=true):o.still2=true:=by
 cases o <;> first | exact h | (cases h;done)
theorem zks {o:AOp} (hs:o.op.still=true) {e:List (Nat × AV)} {h h':Heap} {v:AV} {x:Esc} (H:ADo C gl o e h v h' x):h'=h∧x=[]:=z6T (ztA hs) H
theorem zeB (hC:EvOk C' C) {o:AOp} {e:List (Nat × AV)} {g:Heap} {v:AV} (H:zh9 C' gl o e g v=true):ADo C gl o e g v g []:=by
 unfold zh9 at H
 split at H
 ·rename_i v' g' y hd
  simp only[Bool.and_eq_true,Bool.or_eq_true,List.isEmpty_iff] at H
  obtain⟨⟨h1,h2⟩,h3⟩:=H
  have h1:=AV.same_eq _ _ h1
  have:=zpv (C:=C) hC hd
  rcases h3 with hs | hs
  ·obtain⟨e1,e2⟩:=z6T hs this
   subst e1;subst e2;subst h1
   exact this
  ·have e1:=Heap.same_eq hs
   subst e1;subst h2;subst h1
   exact this
 ·cases H
theorem ze9 (hC:EvOk C' C):∀ (ds:List DOp) dn hs e h x e' h' x' (K:List (Nat × AV)→Heap→Esc→Prop),ze8 C' gl ds dn hs e h x=some (e',h',x')→K e' h' x'→z2s C gl ds dn hs e h x K
 | [],dn,hs,e,h,x,e',h',x',K,H,hK=>by
  simp only[ze8,Option.some.injEq,Prod.mk.injEq] at H
  obtain⟨rfl,rfl,rfl⟩:=H
  exact hK
 | o::r,dn,hs,e,h,x,e',h',x',K,H,hK=>by
  unfold ze8 at H
  split at H
  ·rename_i v h1 y hd
   split at H
   ·rename_i hc
    simp only[Bool.and_eq_true,Bool.or_eq_true,List.all_eq_true] at hc
    obtain⟨⟨c1,c2⟩,c3⟩:=hc
    have hdo:=zpv (C:=C) hC hd
    refine⟨v,h1,y,hdo,fun he=>?_,fun k hk=>?_,fun j hj=>?_,ze9 hC r _ _ _ _ _ _ _ _ K H hK⟩
    ·rcases c1 with (c1 | c1) | ⟨c1,c4⟩
     ·rw[c1] at he;cases he
     ·exact z6T c1 hdo
     ·rw[List.isEmpty_iff] at c1
      exact⟨Heap.same_eq c4,c1⟩
    ·have:=c2 k hk
     split at this
     ·rename_i g hg
      exact⟨g,hg,zeB hC this⟩
     ·cases this
    ·have:=c3 j hj
     split at this
     ·rename_i q hq
      exact⟨q,hq,zeB hC this⟩
     ·cases this
   ·cases H
  ·cases H
theorem zeA {T':St→Option (Ex × St)} {T:St→(Ex→St→Prop)→Prop} (hT:∀ s e s' K,T' s=some (e,s')→K e s'→T s K):∀ n s e s' K,zh8 T' n s=some (e,s')→K e s'→ALoop T K s
 | 0,s,e,s',K,H,hK=>by cases H
 | n+1,s,e,s',K,H,hK=>by
  unfold zh8 at H
  split at H
  ·rename_i s1 h1
   refine .mk s (fun e2 s2=>e2 = .normal∧s2=s1) (hT _ _ _ _ h1 ⟨rfl,rfl⟩) (fun s2 ⟨_,h2⟩=>?_) (fun i s2 ⟨h2,_⟩=>by cases h2) (fun s2 ⟨h2,_⟩=>by cases h2)
   subst h2
   exact zeA hT n _ _ _ K H hK
  ·rename_i hne
   have hne':e ≠ .normal:=fun he=>by subst he;exact hne _ H
   refine .mk s (fun e2 s2=>e2=e∧s2=s') (hT _ _ _ _ H ⟨rfl,rfl⟩) (fun s2 ⟨h2,_⟩=>(hne' h2.symm).elim) (fun i s2 ⟨h2,h3⟩=>by subst h3;rw[h2];exact hK) (fun s2 ⟨h2,h3⟩=>by subst h3;rw[h2];exact hK)
theorem z1d (hC:EvOk C' C) (n:Nat):∀ (c:ACode) s e s' (K:Ex→St→Prop),z1f C' gl n c s=some (e,s')→K e s'→AW C gl c s K
 | .skip,s,e,s',K,H,hK=>by
  simp only[z1f,Option.some.injEq,Prod.mk.injEq] at H
  obtain⟨rfl,rfl⟩:=H;exact hK
 | .reg ops keep,s,e,s',K,H,hK=>by
  unfold z1f at H
  split at H
  ·rename_i h1
   simp only[Option.some.injEq,Prod.mk.injEq] at H
   obtain⟨rfl,rfl⟩:=H
   exact zbP hC _ _ _ _ _ _ _ _ h1 hK
  ·cases H
 | .draw ds keep,s,e,s',K,H,hK=>by
  unfold z1f at H
  split at H
  ·rename_i h1
   simp only[Option.some.injEq,Prod.mk.injEq] at H
   obtain⟨rfl,rfl⟩:=H
   exact ze9 hC _ _ _ _ _ _ _ _ _ _ h1 hK
  ·cases H
 | .seq a b,s,e,s',K,H,hK=>by
  unfold z1f at H
  unfold AW
  split at H
  ·rename_i s1 h1
   exact z1d hC n a s _ _ _ h1 (z1d hC n b _ _ _ K H hK)
  ·rename_i hne
   have hne':e ≠ .normal:=fun he=>by subst he;exact hne _ H
   refine z1d hC n a s _ _ _ H ?_
   cases e with
   | normal=>exact (hne' rfl).elim
   | exit i=>exact hK
   | ret=>exact hK
 | .det b,s,e,s',K,H,hK=>by
  unfold z1f at H
  exact z1d hC n b s _ _ K H hK
 | .condu c a b,s,e,s',K,H,hK=>by
  unfold z1f at H
  unfold AW
  split at H
  ·rename_i t ht
   simp only[ht]
   split at H
   ·exact z1d hC n a s _ _ _ H hK
   ·exact z1d hC n b s _ _ _ H hK
  ·cases H
 | .cond c a b,s,e,s',K,H,hK=>by
  unfold z1f at H
  unfold AW
  split at H
  ·rename_i t ht
   simp only[ht]
   split at H
   ·exact z1d hC n a s _ _ _ H hK
   ·exact z1d hC n b s _ _ _ H hK
  ·cases H
 | .block id b,s,e,s',K,H,hK=>by
  unfold z1f at H
  unfold AW
  split at H
  ·rename_i i s1 h1
   refine z1d hC n b s _ _ _ h1 ?_
   dsimp only
   split at H
   ·rw[if_pos ‹_›]
    simp only[Option.some.injEq,Prod.mk.injEq] at H
    obtain⟨rfl,rfl⟩:=H;exact hK
   ·rw[if_neg ‹_›]
    simp only[Option.some.injEq,Prod.mk.injEq] at H
    obtain⟨rfl,rfl⟩:=H;exact hK
  ·rename_i hne
   refine z1d hC n b s _ _ _ H ?_
   cases e with
   | normal=>exact hK
   | exit i=>exact (hne _ _ H).elim
   | ret=>exact hK
 | .loop b,s,e,s',K,H,hK=>by
  unfold z1f at H
  unfold AW
  exact zeA (fun s e s' K h k=>z1d hC n b s e s' K h k) n s e s' K H hK
 | .scope b,s,e,s',K,H,hK=>by
  unfold z1f at H
  unfold AW
  split at H
  ·rename_i e1 s1 h1
   simp only[Option.some.injEq,Prod.mk.injEq] at H
   obtain⟨rfl,rfl⟩:=H
   exact z1d hC n b _ _ _ _ h1 hK
  ·cases H
 | .pr l b,s,e,s',K,H,hK=>by
  unfold z1f at H
  unfold AW
  exact z1d hC n b _ _ _ K H hK
 | .exit id,s,e,s',K,H,hK=>by
  simp only[z1f,Option.some.injEq,Prod.mk.injEq] at H
  obtain⟨rfl,rfl⟩:=H;exact hK
 | .ret,s,e,s',K,H,hK=>by
  simp only[z1f,Option.some.injEq,Prod.mk.injEq] at H
  obtain⟨rfl,rfl⟩:=H;exact hK
 | .bad,s,e,s',K,H,hK=>by simp only[z1f] at H;cases H
theorem zh7 {F:AFun} {b:Nat} {s:St} {v:AV} {h:Heap} {x:Esc} {K:Post} (H:zz6 F b s=some (v,h,x)) (hK:K v h x):fin F b s K:=by
 unfold zz6 at H
 unfold fin
 split at H
 ·rename_i h1
  simp only[h1]
  split at H
  ·rename_i h2
   simp only[h2]
   dsimp only at H ⊢
   split at H
   ·rw[if_pos ‹_›];simp only[Option.some.injEq,Prod.mk.injEq] at H;obtain⟨rfl,rfl,rfl⟩:=H;exact hK
   ·rw[if_neg ‹_›];simp only[Option.some.injEq,Prod.mk.injEq] at H;obtain⟨rfl,rfl,rfl⟩:=H;exact hK
  ·rename_i h2
   simp only[h2]
   split at H
   ·rename_i h3
    simp only[h3]
    dsimp only at H ⊢
    split at H
    ·rw[if_pos ‹_›]
     split at H
     ·rename_i h4
      simp only[h4]
      split at H
      ·simp only[Option.some.injEq,Prod.mk.injEq] at H;obtain⟨rfl,rfl,rfl⟩:=H;exact⟨‹_›,hK⟩
      ·cases H
     ·cases H
    ·rw[if_neg ‹_›];simp only[Option.some.injEq,Prod.mk.injEq] at H;obtain⟨rfl,rfl,rfl⟩:=H;exact hK
   ·cases H
 ·cases H
theorem ze7 (hC:EvOk C' C) {n:Nat} {F:AFun} {a:List AV} {h:Heap} {v:AV} {h':Heap} {x:Esc} {K:Post} (H:zpu C' gl n F a h=some (v,h',x)) (hK:K v h' x):z2Z C gl F a h K:=by
 unfold zpu at H
 unfold z2Z
 split at H
 ·rename_i asv h1 hp
  simp only[hp]
  split at H
  ·rename_i hl
   refine⟨hl,?_⟩
   cases he:z1f C' gl n F.body ⟨enter asv,h1,[]⟩ with
   | none=>rw[he] at H;cases H
   | some y=>
    obtain⟨e,s⟩:=y
    rw[he] at H
    refine z1d hC n _ _ _ _ _ he ?_
    cases e with
    | exit i=>cases H
    | normal=>exact zh7 H hK
    | ret=>exact zh7 H hK
  ·cases H
 ·cases H
def z8F (X:Ctx) (o:Nat→List AV→Option AV) (n:Nat):Nat→EvC
 | 0,_,_,_=>none
 | d+1,f,a,h=>match o f a with
  | some v=>some (v,h,[])
  | none=>match X.fn f with
   | some F=>zpu (z8F X o n d) X.gl n F a h
   | none=>match X.ex2 f a h with
    | some r=>some r
    | none=>match z0p h a with
     | some (asv,h1)=>match unp asv with
      | some vs=>match X.ext f vs with
       | some r=>some (.p r,h1,[])
       | none=>none
      | none=>none
     | none=>none
theorem z7b (X:Ctx) (o:Nat→List AV→Option AV) (ho:∀ f a v,o f a=some v→∀ h (K:Post),K v h []→z0c X f a h K) (n:Nat):∀ d,EvOk (z8F X o n d) (z0c X)
 | 0,f,a,h,v,h',x,K,H,hK=>by cases H
 | d+1,f,a,h,v,h',x,K,H,hK=>by
  unfold z8F at H
  split at H
  ·rename_i v1 hv
   simp only[Option.some.injEq,Prod.mk.injEq] at H
   obtain⟨rfl,rfl,rfl⟩:=H
   exact ho _ _ _ hv _ _ hK
  refine z0c.fold ?_
  unfold Step
  split at H
  ·rename_i F hF
   simp only[hF]
   unfold z56
   cases hd:F.isDet with
   | true=>exact⟨v,h',x,hK,ze7 (z7b X o ho n d) H ⟨rfl,rfl,rfl⟩⟩
   | false=>exact ze7 (z7b X o ho n d) H hK
  ·rename_i hF
   simp only[hF]
   split at H
   ·rename_i hx2
    simp only[hx2]
    simp only[Option.some.injEq] at H
    subst H;exact hK
   ·rename_i hx2
    simp only[hx2]
    split at H
    ·rename_i hp
     simp only[hp]
     split at H
     ·rename_i hu
      simp only[hu]
      split at H
      ·rename_i hx
       simp only[hx]
       simp only[Option.some.injEq,Prod.mk.injEq] at H
       obtain⟨rfl,rfl,rfl⟩:=H;exact hK
      ·cases H
     ·cases H
    ·cases H
theorem zkq {X:Ctx} {f:Nat} {a:List AV} {h:Heap} {v:AV} {h':Heap} {x:Esc} {o:Nat→List AV→Option AV} (ho:∀ f a v,o f a=some v→∀ h (K:Post),K v h []→z0c X f a h K) (n d:Nat) (H:z8F X o n d f a h=some (v,h',x)) (K:Post):z0c X f a h K↔K v h' x:=
 z0c.eq (z7b X o ho n d _ _ _ _ _ _ _ H ⟨rfl,rfl,rfl⟩) K
end Go.Am
end
section
/- The abstract machine,part 27: loops,and the rules of computing asv one set. -/
set_option linter.unusedSimpArgs false
set_option linter.unusedVariables false
namespace Go.Am
variable {C:Hd} {gl:Nat→Option PV} {e:List (Nat × AV)} {h:Heap} {x:Esc} {K:Ex→St→Prop} {s:St}
def zjL {σ:Type} (S:σ→St) (P:σ→Prop) (m:σ→Nat) (K:Ex→St→Prop) (s:σ) (e:Ex) (s':St):Prop:=match e with
 | .normal=>∃ t,s'=S t∧P t∧m t<m s
 | .exit i=>K (.exit i) s'
 | .ret=>K .ret s'
theorem z7A {σ:Type} {S:σ→St} {P:σ→Prop} {m:σ→Nat} {K:Ex→St→Prop} {t:σ} {s':St}:zjL S P m K t .normal s' = ∃ u,s'=S u∧P u∧m u<m t:=(rfl)
theorem zaT {σ:Type} {S:σ→St} {P:σ→Prop} {m:σ→Nat} {K:Ex→St→Prop} {t:σ} {s':St} {i:Nat}:zjL S P m K t (.exit i) s'=K (.exit i) s':=(rfl)
theorem zeT {σ:Type} {S:σ→St} {P:σ→Prop} {m:σ→Nat} {K:Ex→St→Prop} {t:σ} {s':St}:zjL S P m K t .ret s'=K .ret s':=(rfl)
theorem zgh {σ:Type} {S:σ→St} {P:σ→Prop} {m:σ→Nat} {K:Ex→St→Prop} {t:σ} {ex ex':Ex} {s s':St} (he:ex=ex') (hs:s=s'):zjL S P m K t ex s=zjL S P m K t ex' s':=by rw[he,hs]
theorem z4R {T:St→(Ex→St→Prop)→Prop} {K:Ex→St→Prop} {s s':St} (h:T s=T s'):ALoop T K s=ALoop T K s':=by
 refine propext ⟨fun H=>?_,fun H=>?_⟩
 ·cases H with | mk _ R a b c d=>exact .mk _ R (h ▸ a) b c d
 ·cases H with | mk _ R a b c d=>exact .mk _ R (h.symm ▸ a) b c d
theorem z9U {l:List Nat} {e:List (Nat × AV)} {t:Nat} (ht:t∈l):aget (z0E (some l) e) t=aget e t:=by
 simp only[z0E]
 induction l with
 | nil=>cases ht
 | cons k r ih=>
  simp only[List.map_cons,aget]
  split
  ·rename_i hk;rw[hk]
  ·rename_i hk
   rcases List.mem_cons.1 ht with h1 | h1
   ·exact absurd h1.symm hk
   ·exact ih h1
theorem z3S {l:List Nat} {e:List (Nat × AV)}:z0E (some l) (z0E (some l) e)=z0E (some l) e:=by
 show l.map _=l.map _
 exact List.map_congr_left fun t ht=>by rw[z9U ht]
def LoopP (C:Hd) (gl:Nat→Option PV) (l:List Nat) (b:ACode) (K:Ex→St→Prop) (e:List (Nat × AV)) (h:Heap) (x:Esc):Prop:=AW C gl (.loop (.pr l b)) ⟨e,h,x⟩ K
def LoopS (C:Hd) (gl:Nat→Option PV) (l:List Nat) (b:ACode) (K:Ex→St→Prop) (e:List (Nat × AV)) (h:Heap) (x:Esc):Prop:=AW C gl (.loop (.scope (.pr l b))) ⟨e,h,x⟩ K
theorem zue {l:List Nat} {b:ACode}:AW C gl (.loop (.pr l b)) ⟨e,h,x⟩ K=LoopP C gl l b K (z0E (some l) e) h x:=by
 show ALoop _ _ _=ALoop _ _ _
 exact z4R (funext fun R=>by show AW C gl b _ R=AW C gl b _ R;dsimp only;rw[z3S])
theorem zuf {l:List Nat} {b:ACode}:AW C gl (.loop (.scope (.pr l b))) ⟨e,h,x⟩ K=LoopS C gl l b K (z0E (some l) e) h x:=by
 show ALoop _ _ _=ALoop _ _ _
 exact z4R (funext fun R=>by show AW C gl b _ _=AW C gl b _ _;dsimp only;rw[z3S])
theorem z3I {α:Type} (h l:List α) (n:Nat):(h++l)[h.length+n]?=l[n]?:=by
 rw[List.getElem?_append_right (by omega)];congr 1;omega
theorem zgR {α:Type} (h l:List α):(h++l)[h.length]?=l[0]?:=by
 rw[List.getElem?_append_right (by omega)];congr 1;omega
theorem z7Z {α:Type} (h l:List α) (n:Nat) (o:α):(h++l).set (h.length+n) o=h++l.set n o:=by
 rw[List.set_append_right _ _ (by omega)];congr 2;omega
theorem zun {α:Type} (h l:List α) (o:α):(h++l).set h.length o=h++l.set 0 o:=by
 rw[List.set_append_right _ _ (by omega)];congr 2;omega
theorem zb7 {α:Type} (h l:List α) (n:Nat):(h++l).take (h.length+n)=h++l.take n:=List.take_length_add_append ..
theorem z8a {α:Type} (h l:List α):(h++l).take h.length=h:=List.take_left ..
theorem zfK (h l:Heap) (n k:Nat):frz (h++l) (h.length+n) k=h++frz l n k:=by
 unfold frz
 rw[z3I]
 cases l[n]? with
 | none=>rfl
 | some o=>cases o <;> first | rfl | simp only[z7Z]
theorem zum (h l:Heap) (k:Nat):frz (h++l) h.length k=h++frz l 0 k:=zfK h l 0 k
theorem z0j (n:Int) (h1 : -9223372036854775808≤n) (h2:n≤9223372036854775807):IntKind.i64.wrap n=n:=by
 simp [IntKind.wrap,IntKind.bits,IntKind.signed];omega
def finR (rs:List ARes) (kp:Bool) (b:Nat) (P:Post) (e:Ex) (s:St):Prop:=match e with
 | .exit _=>False
 | _=>match z1T s rs with
  | some vs=>match kp with
   | true=>
    let n:=z2t s.esc.length s.esc (max b (z1b vs).top)
    if z1p s.esc n then P (z1b vs) (s.h.take n) (s.esc.filter fun y=>decide (y.1<n)) else P (z1b vs) s.h s.esc
   | false=>match reif b s.h (z1b vs) with
    | some v0=>
     let n:=z2t s.esc.length s.esc (max b v0.top)
     if z1p s.esc n then match reif n s.h (z1b vs) with
      | some v=>v.top≤n∧P v (s.h.take n) (s.esc.filter fun y=>decide (y.1<n))
      | none=>False
     else P (z1b vs) s.h s.esc
    | none=>False
  | none=>False
theorem zp9 {F:AFun} {b:Nat} {P:Post}:finK F b P=finR F.results F.keep b P:=by
 funext e s;cases e <;> rfl
theorem zpA {rs:List ARes} {kp:Bool} {b:Nat} {P:Post} {i:Nat} {s:St}:finR rs kp b P (.exit i) s=False:=(rfl)
def retK (kp:Bool) (b:Nat) (P:Post) (o:Option (List AV)) (h:Heap) (x:Esc):Prop:=match o with
 | some vs=>match kp with
  | true=>
   let n:=z2t x.length x (max b (z1b vs).top)
   if z1p x n then P (z1b vs) (h.take n) (x.filter fun y=>decide (y.1<n)) else P (z1b vs) h x
  | false=>match reif b h (z1b vs) with
   | some v0=>
    let n:=z2t x.length x (max b v0.top)
    if z1p x n then match reif n h (z1b vs) with
     | some v=>v.top≤n∧P v (h.take n) (x.filter fun y=>decide (y.1<n))
     | none=>False
    else P (z1b vs) h x
   | none=>False
 | none=>False
theorem z8V {rs:List ARes} {kp:Bool} {b:Nat} {P:Post} {e:List (Nat × AV)} {h:Heap} {x:Esc}:finR rs kp b P .normal ⟨e,h,x⟩=retK kp b P (z1T ⟨e,h,x⟩ rs) h x:=(rfl)
theorem zhF {rs:List ARes} {kp:Bool} {b:Nat} {P:Post} {e:List (Nat × AV)} {h:Heap} {x:Esc}:finR rs kp b P .ret ⟨e,h,x⟩=retK kp b P (z1T ⟨e,h,x⟩ rs) h x:=(rfl)
theorem zj7 {rs:List ARes} {kp:Bool} {b:Nat} {P:Post} {ex ex':Ex} {s s':St} (he:ex=ex') (hs:s=s'):finR rs kp b P ex s=finR rs kp b P ex' s':=by rw[he,hs]
theorem z4G {b:Nat} {P:Post} {vs:List AV} {h:Heap} (ht:(z1b vs).top≤b) (hr:∀ b,reif b h (z1b vs)=some (z1b vs)):retK false b P (some vs) h []=P (z1b vs) (h.take b) []:=by
 simp only[retK,hr,z2t,List.length_nil,z1p,List.all_nil,if_true,List.filter_nil,Nat.max_eq_left ht,ht,true_and]
theorem reif_p {b:Nat} {h:Heap} {v:PV}:reif b h (.p v)=some (.p v):=(rfl)
theorem zsV {b:Nat} {h:Heap}:z7g b h []=some []:=(rfl)
theorem retK_1 {b:Nat} {P:Post} {v:PV} {h:Heap}:retK false b P (some [.p v]) h []=P (.p v) (h.take b) []:=z4G (Nat.zero_le _) (fun _=>rfl)
theorem retK_2 {b:Nat} {P:Post} {v u:PV} {h:Heap}:retK false b P (some [.p v,.p u]) h []=P (.tup [.p v,.p u]) (h.take b) []:=z4G (by simp [z1b,AV.top,AV.tops]) (fun _=>rfl)
theorem retK_3 {b:Nat} {P:Post} {v u w:PV} {h:Heap}:retK false b P (some [.p v,.p u,.p w]) h []=P (.tup [.p v,.p u,.p w]) (h.take b) []:=z4G (by simp [z1b,AV.top,AV.tops]) (fun _=>rfl)
theorem retK_4 {b:Nat} {P:Post} {v u w z:PV} {h:Heap}:retK false b P (some [.p v,.p u,.p w,.p z]) h []=P (.tup [.p v,.p u,.p w,.p z]) (h.take b) []:=z4G (by simp [z1b,AV.top,AV.tops]) (fun _=>rfl)
theorem retK_0 {b:Nat} {P:Post} {h:Heap}:retK false b P (some []) h []=P (.tup []) (h.take b) []:=z4G (by simp [z1b,AV.top,AV.tops]) (fun _=>rfl)
theorem zwu {h:Heap}:h.take h.length=h:=List.take_length
theorem y0q {v:AV}:z1b [v]=v:=(rfl)
theorem zwp {X:Ctx} {f:Nat} {F:AFun} {a asv:List AV} {h h1:Heap} {P:Post} (hf:X.fn f=some F) (hr:F.byref=false) (hp:z0p h a=some (asv,h1)) (hl:asv.length=F.nparams) (hd:F.isDet=false) :
 z0c X f a h P=AW (z0c X) X.gl F.body ⟨enter asv,h1,[]⟩ (finR F.results F.keep h.length P):=by
 rw[zly hf hd,zcT hr hp hl,zp9]
theorem zwo {X:Ctx} {f:Nat} {F:AFun} {asv:List AV} {h:Heap} {P:Post} (hf:X.fn f=some F) (hr:F.byref=true) (hl:asv.length=F.nparams) (hd:F.isDet=false) :
 z0c X f asv h P=AW (z0c X) X.gl F.body ⟨enter asv,h,[]⟩ (finR F.results F.keep h.length P):=by
 rw[zly hf hd,zmz hr hl,zp9]
theorem zf1 {X:Ctx} {f:Nat} {F:AFun} {a asv:List AV} {h h1:Heap} {P:Post} (hf:X.fn f=some F) (hr:F.byref=false) (hp:z0p h a=some (asv,h1)) (hl:asv.length=F.nparams) (hd:F.isDet=true) :
 z0c X f a h P = ∃ v h' x,P v h' x∧AW (z0c X) X.gl F.body ⟨enter asv,h1,[]⟩ (finR F.results F.keep h.length fun v1 h1 x1=>v1=v∧h1=h'∧x1=x):=by
 rw[zui hf hd]
 simp only[zcT hr hp hl,zp9]
theorem rule {X:Ctx} {f:Nat} {a:List AV} {h:Heap} {v:AV} {h':Heap} {x:Esc} {K:Post} (H:z0c X f a h fun v1 h1 x1=>v1=v∧h1=h'∧x1=x):z0c X f a h K=K v h' x:=propext (z0c.eq H K)
theorem zeU {k:IntKind} {n:Nat}:z1k (.p (.int k (n:Int)))=some n:=by simp [z1k]
theorem zqG {k:IntKind} {n:Nat}:z1k (.p (.int k (no_index (OfNat.ofNat n:Int))))=some (OfNat.ofNat n:Nat):=zeU (n:=n)
theorem y0h {k:IntKind}:z1k (.p (.int k 0))=some 0:=(rfl)
theorem y0i {k:IntKind}:z1k (.p (.int k 1))=some 1:=(rfl)
theorem z9d {k:IntKind} {n:Int} (h:0≤n):z1k (.p (.int k n))=some n.toNat:=by simp [z1k,h]
theorem z1E {α β:Type} (f:α→β) {l:List α} {k:Nat} (h:k<l.length):(l.map f)[k]?=some (f l[k]):=by simp [h]
attribute [go_sem] eqs PV.eq1 PV.kind ne_eq not_false_eq_true not_true_eq_false Bool.and_self Bool.or_self Bool.not_eq_true
attribute [go_sem] Nat.max_le Nat.add_le_add_iff_left Option.isSome_none Option.isSome_some false_and and_false List.length_range Nat.sub_zero Nat.le_add_right
attribute [go_sem] zeU y0h y0i zqG Int.ofNat_lt Int.ofNat_le List.length_map
attribute [go_sem] zpA z8V zhF retK_0 retK_1 retK_2 retK_3 retK_4 zwu List.zipIdx_cons List.zipIdx_nil List.map_cons List.map_nil Nat.reduceAdd Nat.reduceEqDiff if_true if_false Option.map_some Option.map_none List.append_nil List.nil_append decide_eq_true_eq
def doS (C:Hd) (gl:Nat→Option PV) (q:AOp × List (Nat × AV) × AV) (h:Heap):Prop:=ADo C gl q.1 q.2.1 h q.2.2 h []
def agK (C:Hd) (gl:Nat→Option PV) (h:Heap) (dn:Done):List Nat→Prop
 | []=>True
 | j::r=>(match dn[j]? with | some q=>doS C gl q h | none=>False)∧agK C gl h dn r
def eaK (C:Hd) (gl:Nat→Option PV) (o:AOp) (e:List (Nat × AV)) (v:AV) (hs:List Heap):List Nat→Prop
 | []=>True
 | k::r=>(match hs[k]? with | some g=>doS C gl (o,e,v) g | none=>False)∧eaK C gl o e v hs r
theorem zm0 {C:Hd} {gl:Nat→Option PV} {h:Heap} {dn:Done}:∀ {l:List Nat},agK C gl h dn l↔∀ j∈l,∃ q,dn[j]?=some q∧ADo C gl q.1 q.2.1 h q.2.2 h []
 | []=>by simp [agK]
 | j::r=>by
  simp only[agK,List.mem_cons,forall_eq_or_imp]
  rw[zm0 (l:=r)]
  refine and_congr_left (fun _=>?_)
  cases hd:dn[j]? with
  | none=>simp
  | some q=>simp [doS]
theorem zpl {C:Hd} {gl:Nat→Option PV} {o:AOp} {e:List (Nat × AV)} {v:AV} {hs:List Heap}:∀ {l:List Nat},eaK C gl o e v hs l↔∀ k∈l,∃ g,hs[k]?=some g∧ADo C gl o e g v g []
 | []=>by simp [eaK]
 | j::r=>by
  simp only[eaK,List.mem_cons,forall_eq_or_imp]
  rw[zpl (l:=r)]
  refine and_congr_left (fun _=>?_)
  cases hd:hs[j]? with
  | none=>simp
  | some q=>simp [doS]
def effK (b:Bool) (h h':Heap) (y:Esc):Prop:=match b with
 | true=>True
 | false=>h'=h∧y=[]
theorem ze2 {C:Hd} {gl:Nat→Option PV} {e:List (Nat × AV)} {h:Heap} {x:Esc} {L:List (Nat × AV)→Heap→Esc→Prop} {op:AOp} {rd early again:List Nat} {eff:Bool} {r:List DOp} {dn:Done} {hs:List Heap} {v:AV} {h':Heap} {y:Esc} :
 zuM C gl ⟨op,rd,eff,early,again⟩ r dn hs e h x L v h' y=(effK eff h h' y∧eaK C gl op (z0E (some rd) e) v hs early∧agK C gl h' dn again∧z2s C gl r (dn++[(op,z0E (some rd) e,v)]) (hs++[h]) (put op.dst v e) h' (y++x) L):=by
 rw[zuN,← propext zpl,← propext zm0]
 cases eff <;> simp [effK]
theorem zpn {h h':Heap} {y:Esc}:effK true h h' y=True:=(rfl)
theorem zpm {h:Heap}:effK false h h []=True:=by simp [effK]
theorem zyN {C:Hd} {gl:Nat→Option PV} {h:Heap} {dn:Done}:agK C gl h dn []=True:=(rfl)
theorem zuj {C:Hd} {gl:Nat→Option PV} {h:Heap} {dn:Done} {j:Nat} {r:List Nat}:agK C gl h dn (j::r)=((match dn[j]? with | some q=>doS C gl q h | none=>False)∧agK C gl h dn r):=(rfl)
theorem zz4 {C:Hd} {gl:Nat→Option PV} {o:AOp} {e:List (Nat × AV)} {v:AV} {hs:List Heap}:eaK C gl o e v hs []=True:=(rfl)
theorem zuO {C:Hd} {gl:Nat→Option PV} {o:AOp} {e:List (Nat × AV)} {v:AV} {hs:List Heap} {j:Nat} {r:List Nat}:eaK C gl o e v hs (j::r)=((match hs[j]? with | some g=>doS C gl (o,e,v) g | none=>False)∧eaK C gl o e v hs r):=(rfl)
theorem zxu {C:Hd} {gl:Nat→Option PV} {d:Option Nat} {g:Option (Nat × Bool)} {op:AO} {e:List (Nat × AV)} {v:AV} {h:Heap}:doS C gl (⟨d,g,op⟩,e,v) h=doK C gl ⟨d,g,op⟩ e h (fun v1 h1 x1=>v1=v∧h1=h∧x1=[]):=by
 unfold doS doK
 refine propext ⟨fun H=>⟨_,_,_,H,rfl,rfl,rfl⟩,fun ⟨v1,h1,x1,H,a,b,c⟩=>by subst a;subst b;subst c;exact H⟩
theorem zmT {p:Prop} [Decidable p] {A B:Prop}:z0i (.p (.bool (decide p))) A B=if p then A else B:=by rw[zan];simp
def z8c (C:Hd) (v:AV) (asv:List AV) (h:Heap) (L:Post):Prop:=match v with
 | .fn g caps=>C g (asv++caps) h L
 | _=>False
theorem z7T {C:Hd} {gl:Nat→Option PV} {e:List (Nat × AV)} {h:Heap} {x:Esc} {L:List (Nat × AV)→Heap→Esc→Prop} {d:Option Nat} {f:Opd} {args:List Opd} {r:List AOp} :
 AReg C gl (⟨d,none,.callv f args⟩::r) e h x L=z8c C (Opd.ev gl e f) (args.map (Opd.ev gl e)) h (z0U C gl r d e x L):=by
 have h2:wanted none e=some true:=(rfl)
 rw[AReg]
 simp only[h2]
 unfold z8c
 split <;> simp_all <;> rfl
def zaj (C:Hd) (v:AV) (asv:List AV) (h:Heap) (R:AV→Heap→Esc→Prop):Prop:=match v with
 | .fn g caps=>z1Q C g (asv++caps) h R
 | _=>False
theorem zaq {C:Hd} {gl:Nat→Option PV} {e:List (Nat × AV)} {h:Heap} {R:AV→Heap→Esc→Prop} {d:Option Nat} {f:Opd} {args:List Opd} :
 doK C gl ⟨d,none,.callv f args⟩ e h R=zaj C (Opd.ev gl e f) (args.map (Opd.ev gl e)) h R:=by
 have h2:wanted none e=some true:=(rfl)
 unfold doK ADo
 simp only[h2]
 unfold zaj z1Q
 split <;> simp_all
theorem zmH {C:Hd} {g:Nat} {caps asv:List AV} {h:Heap} {L:Post}:z8c C (.fn g caps) asv h L=C g (asv++caps) h L:=(rfl)
theorem zmG {C:Hd} {g:Nat} {caps asv:List AV} {h:Heap} {R:AV→Heap→Esc→Prop}:zaj C (.fn g caps) asv h R=z1Q C g (asv++caps) h R:=(rfl)
theorem zdc {C:Hd} {v v':AV} {asv asv':List AV} {h h':Heap} {L:Post} (h1:v=v') (h2:asv=asv') (h3:h=h'):z8c C v asv h L=z8c C v' asv' h' L:=by rw[h1,h2,h3]
theorem zdb {C:Hd} {v v':AV} {asv asv':List AV} {h h':Heap} {R:AV→Heap→Esc→Prop} (h1:v=v') (h2:asv=asv') (h3:h=h'):zaj C v asv h R=zaj C v' asv' h' R:=by rw[h1,h2,h3]
attribute [go_sem] z7T zaq zmH zmG
attribute [congr] zdc zdb
theorem zu1 {k:IntKind} {n:Int}:cutP none 0 (.int k n)=some (.int k n):=(rfl)
theorem zmX {b:Bool}:cutP none 0 (.bool b)=some (.bool b):=(rfl)
theorem zu2 {s:List UInt8}:cutP none 0 (.str s)=some (.str s):=(rfl)
theorem zzt {sh:Sh} {xs:List PV}:cutP none 0 (.sl sh xs)=some (.sl sh xs):=(rfl)
theorem zmZ:cutP none 0 .nilp=some .nilp:=(rfl)
theorem zmY {off:Nat} {cs:List PV}:cutP none off (.agg cs)=(cs[off]?).bind fun x=>if x.sc then some x else none:=(rfl)
theorem zu0 {n off:Nat} {cs:List PV}:cutP (some n) off (.agg cs)=if off+n≤cs.length then some (.agg ((cs.drop off).take n)) else none:=(rfl)
theorem zzs {v:PV} (h:v.sc=true):cutP none 0 v=some v:=by cases v <;> first | rfl | cases h
attribute [go_sem] zu1 zmX zu2 zzt zmZ zmY zu0
theorem zz5 {id:Nat} {v:PV}:z3c id (.p v)=[]:=(rfl)
attribute [go_sem] List.take_succ_cons List.take_zero List.take_nil List.drop_succ_cons List.drop_zero List.drop_nil List.length_cons List.length_nil Nat.reduceLeDiff Nat.reduceLT Int.reduceLT Int.reduceLE Int.reduceAdd Int.reduceSub Int.reduceMul Int.reduceNeg Int.reduceEq Nat.reduceSub Nat.reduceMul Nat.le_refl List.append_assoc
theorem ztI {b:Nat} {x0:Esc} {e:List (Nat × AV)} {h:Heap}:z9X b x0 ⟨e,h,[]⟩=⟨zde b e,h.take b,x0⟩:=(rfl)
theorem zmQ {n:Nat}:zde n []=[]:=(rfl)
theorem zjv {n k:Nat} {v:AV} {r:List (Nat × AV)}:zde n ((k,v)::r)=(k,if v.top≤n then v else .und)::zde n r:=(rfl)
theorem top_p {v:PV}:AV.top (.p v)=0:=(rfl)
theorem zgx {id g o l:Nat}:AV.top (.own id g o l)=id+1:=by simp [AV.top]
theorem y1c {id o:Nat}:AV.top (.ref id o)=id+1:=by simp [AV.top]
theorem zw0 {id g i o:Nat}:AV.top (.rref id g i o)=id+1:=by simp [AV.top]
theorem top_mp {id:Nat}:AV.top (.mp id)=id+1:=by simp [AV.top]
theorem top_it {id:Nat}:AV.top (.it id)=id+1:=by simp [AV.top]
theorem top_fn {f:Nat} {cs:List AV}:AV.top (.fn f cs)=AV.tops cs:=by simp [AV.top]
theorem y1a {cs:List AV}:AV.top (.agg cs)=AV.tops cs:=by simp [AV.top]
theorem y1f {cs:List AV}:AV.top (.tup cs)=AV.tops cs:=by simp [AV.top]
theorem top_vp {v:PV}:AV.top (.vp v)=0:=(rfl)
theorem y1g:AV.top .und=0:=(rfl)
theorem y1d:AV.top .skp=0:=(rfl)
theorem zwv:AV.top .anyp=0:=(rfl)
theorem top_bt {k t id g:Nat}:AV.top (.bt k t id g)=id+1:=by simp [AV.top]
theorem y1e {sh:Sh}:AV.top (.sl0 sh)=0:=(rfl)
theorem zwz:AV.top .nilp=0:=(rfl)
theorem zwy:AV.top .nilm=0:=(rfl)
theorem zww:AV.top .nilf=0:=(rfl)
theorem zwx:AV.top .nili=0:=(rfl)
theorem y1b:AV.top .ifc=0:=(rfl)
theorem zw1:AV.tops []=0:=(rfl)
theorem ztE {v:AV} {r:List AV}:AV.tops (v::r)=max v.top (AV.tops r):=by simp [AV.tops]
theorem zvM {b:Nat} {P:Post} {vs:List AV} {h:Heap}:retK false b P (some vs) h []=match reif b h (z1b vs) with
 | some v0=>match reif (max b v0.top) h (z1b vs) with
  | some v=>v.top≤max b v0.top∧P v (h.take (max b v0.top)) []
  | none=>False
 | none=>False:=by
 simp only[retK,z2t,List.length_nil,z1p,List.all_nil,if_true,List.filter_nil]
theorem zvI {b:Nat} {h:Heap} {id g off len:Nat}:reif b h (.own id g off len)=if b≤id then (rd h (.own id g off len)).map fun y=>.p (.sl y.1 y.2) else some (.own id g off len):=by simp only[reif]
theorem zvK {b:Nat} {h:Heap} {sh:Sh}:reif b h (.sl0 sh)=some (.p (.sl sh [])):=by simp only[reif]
theorem zvH {b:Nat} {h:Heap} {cs:List AV}:reif b h (.agg cs)=(z7g b h cs).map mkA:=by simp only[reif]
theorem zvL {b:Nat} {h:Heap} {cs:List AV}:reif b h (.tup cs)=(z7g b h cs).map .tup:=by simp only[reif]
theorem zvJ {b:Nat} {h:Heap} {id o:Nat}:reif b h (.ref id o)=some (.ref id o):=by simp only[reif]
theorem y0y {b:Nat} {h:Heap} {id:Nat}:reif b h (.mp id)=some (.mp id):=by simp only[reif]
theorem y0x {b f:Nat} {h:Heap} {cs:List AV}:reif b h (.fn f cs)=some (.fn f cs):=by simp only[reif]
theorem zjU {b:Nat} {h:Heap} {v:AV} {r:List AV}:z7g b h (v::r)=(match reif b h v with | some x=>(z7g b h r).map (x :: ·) | none=>none):=by rw[z7g];cases reif b h v <;> rfl
theorem y0r {v u:AV} {r:List AV}:z1b (v::u::r) = .tup (v::u::r):=(rfl)
theorem y0p:z1b [] = .tup []:=(rfl)
theorem zt2 {h l:Heap} {id:Nat} {o:Obj} (hid:id<h.length):(h++l).set id o=h.set id o++l:=List.set_append_left _ _ hid
theorem zpJ {h l:Heap} {id:Nat} (hid:id<h.length):(h++l)[id]?=h[id]?:=List.getElem?_append_left hid
theorem zi6 {h l:Heap} {i n:Nat} {o:Obj}:(h.set i o++l)[h.length+n]?=l[n]?:=by
 have:=z3I (h.set i o) l n;rwa [List.length_set] at this
theorem ztv {h l:Heap} {i:Nat} {o:Obj}:(h.set i o++l)[h.length]?=l[0]?:=zi6 (n:=0)
theorem zi7 {h l:Heap} {i n:Nat} {o q:Obj}:(h.set i o++l).set (h.length+n) q=h.set i o++l.set n q:=by
 have:=z7Z (h.set i o) l n q;rwa [List.length_set] at this
theorem ztw {h l:Heap} {i:Nat} {o q:Obj}:(h.set i o++l).set h.length q=h.set i o++l.set 0 q:=zi7 (n:=0)
theorem ztx {h l:Heap} {i n:Nat} {o:Obj}:(h.set i o++l).take (h.length+n)=h.set i o++l.take n:=by
 have:=zb7 (h.set i o) l n;rwa [List.length_set] at this
theorem zkc {h l:Heap} {i:Nat} {o:Obj}:(h.set i o++l).take h.length=h.set i o:=by
 have:=z8a (h.set i o) l;rwa [List.length_set] at this
theorem zi5 {h l:Heap} {i n k:Nat} {o:Obj}:frz (h.set i o++l) (h.length+n) k=h.set i o++frz l n k:=by
 have:=zfK (h.set i o) l n k;rwa [List.length_set] at this
theorem ztu {h l:Heap} {i k:Nat} {o:Obj}:frz (h.set i o++l) h.length k=h.set i o++frz l 0 k:=zi5 (n:=0)
theorem ziQ {α:Type} {l:List α} {n:Nat} (h:l.length=n):win l 0 n=l:=by subst h;simp [win]
theorem y1l {α:Type} (l:List α):win l 0 l.length=l:=by simp [win]
attribute [go_sem] ztI zmQ zjv top_p zgx y1c zw0 top_mp top_it top_fn y1a y1f top_vp y1g y1d y1e zwz zwy zww zwx y1b zwv top_bt zw1 ztE Nat.max_zero Nat.zero_max Nat.zero_le reif_p zvI zvK zvH zvL zvJ y0y y0x zsV zjU y0r y0p z3I zgR z7Z zun zb7 z8a zfK zum zi6 ztv zi7 ztw ztx zkc zi5 ztu List.length_append y1l Nat.add_le_add_iff_right Nat.zero_add Nat.add_zero
attribute [go_sem] zbT PV.shp List.reduceReplicate cond_true cond_false Bool.not_true Bool.not_false Bool.false_eq_true Bool.true_and Bool.and_true Bool.false_and Bool.and_false Bool.true_or Bool.or_true Bool.false_or Bool.or_false beq_self_eq_true List.all_cons List.all_nil
attribute [go_sem low] zvM
theorem zf4 {h:Heap} {id:Nat} {o:Obj}:(h.set id o).take h.length=h.set id o:=List.take_of_length_le (by simp)
attribute [go_sem] zf4 Int.natCast_zero Int.natCast_one Int.cast_ofNat_Int
attribute [go_sem] aun z9T zm2 zm3 List.foldlM_cons List.foldlM_nil Option.bind_some Option.pure_def Option.bind_eq_bind List.cons_append List.nil_append Int.zero_sub List.length_singleton
attribute [go_sem] zuz z0a zz5
attribute [congr] zfX
attribute [go_sem] zyJ zkt z9Y doK_mv zuL zn3 zzz zn4 zz0 zuC znE zj1 zzy zz1 zn9 zuH doK_un zu6 zuG znA zuI znB znC zn6 zn7 zn8 zjy zu8 zu9 zuD zuJ zuF zjx zuE zz2 zz3 zuB zuA zzx zu7 doK_mx doK_mn zj0 zjz zuK zh3 ze1 z1Q ex3' ze2 zpn zpm zyN zuj zz4 zuO zxu List.not_mem_nil List.mem_cons List.mem_singleton forall_eq_or_imp forall_eq false_implies true_implies implies_true forall_const and_true true_and List.cons_append and_self reduceCtorEq List.getElem?_cons_zero List.getElem?_cons_succ Option.some.injEq exists_eq_left' List.set_cons_zero List.set_cons_succ List.set_set List.length_set
attribute [congr] zn5 zfP zfB zfA
attribute [congr] zj7
attribute [go_sem] zue zuf
attribute [go_sem] zyL AW_ret zyK AW_bad AW_reg AW_seq zyI zub zud AW_pr y0w zgs zt0 zwf zb9 zfN zjs zfx zua zyF zkA ziW ztV ziX ztW zk1 zjg zfG ztU ztX zjc zk6 zyH zkv zk5 zjd zk7 zje zjf ziZ zja zjb zfD zkx zky zk2 zk8 zk4 zfC zk3 ztY ztZ zk0 zkz ztT zkw zyG zyE zfF zfE zk9 zab zc5 zqR zqQ zv1 zeY zao z8q zmT zf7 decide_true decide_false z7A zaT zeT aop Opd.ev aget put z0E abin aint astr z1T ares y0q enter rd rds pur purs z0p mkA unp cut AV.cells PV.cells PV.sc AV.sc splice pint pbool zbS
attribute [go_sem low] zan zkn zgz
theorem ziM {A B:Prop}:z3e (.p (.bool true)) true A B=A:=(rfl)
theorem ziJ {A B:Prop}:z3e (.p (.bool false)) false A B=A:=(rfl)
theorem ziL {A B:Prop}:z3e (.p (.bool true)) false A B=B:=(rfl)
theorem ziK {A B:Prop}:z3e (.p (.bool false)) true A B=B:=(rfl)
attribute [go_sem] ziM ziJ ziL ziK
attribute [congr] zfV zgy zjP ziY zuc zjT zkd zcY zfw zgh
end Go.Am
end
section
/- The abstract machine,part 28: where no map is ranged over,a call that ends well ends in one way. -/
set_option linter.unusedSimpArgs false
set_option linter.unusedVariables false
namespace Go.Am
def AO.noNext:AO→Bool
 | .mnext _ _=>false
 | _=>true
def ACode.noNext:ACode→Bool
 | .reg ops _=>ops.all fun o=>o.op.noNext
 | .seq a b=>a.noNext&&b.noNext
 | .cond _ a b=>a.noNext&&b.noNext
 | .condu _ _ _=>false
 | .det _=>false
 | .block _ b=>b.noNext
 | .loop b=>b.noNext
 | .scope b=>b.noNext
 | .pr _ b=>b.noNext
 | _=>true
def Dt (C D:Hd):Prop:=∀ f a h K,C f a h K→∃ v h' x,K v h' x∧D f a h fun v1 h1 x1=>v1=v∧h1=h'∧x1=x
variable {C D:Hd} {gl:Nat→Option PV}
theorem z5D (hD:D.Mono) (hC:Dt C D):∀ (ops:List AOp) e h x K,(ops.all fun o=>o.op.noNext)=true→AReg C gl ops e h x K→∃ e' h' x',K e' h' x'∧AReg D gl ops e h x fun e1 h1 x1=>e1=e'∧h1=h'∧x1=x'
 | [],e,h,x,K,_,H=>⟨e,h,x,H,rfl,rfl,rfl⟩
 | o::r,e,h,x,K,hn,H=>by
  obtain⟨dst,guard,op⟩:=o
  simp only[List.all_cons,Bool.and_eq_true] at hn
  obtain⟨hn1,hn2⟩:=hn
  unfold AReg at H
  dsimp only at H
  split at H
  ·rename_i hw
   cases op
   case call f args=>
    obtain⟨v,h',x',H',G'⟩:=hC _ _ _ _ H
    obtain⟨e2,h2,x2,k2,g2⟩:=z5D hD hC r _ _ _ K hn2 H'
    refine⟨e2,h2,x2,k2,?_⟩
    unfold AReg;simp only[hw]
    exact hD _ _ _ _ _ (fun v1 h1 x1 ⟨a1,a2,a3⟩=>by subst a1;subst a2;subst a3;exact g2) G'
   case callv f args=>
    dsimp only at H
    split at H
    ·rename_i hf
     obtain⟨v,h',x',H',G'⟩:=hC _ _ _ _ H
     obtain⟨e2,h2,x2,k2,g2⟩:=z5D hD hC r _ _ _ K hn2 H'
     refine⟨e2,h2,x2,k2,?_⟩
     unfold AReg;simp only[hw,hf]
     exact hD _ _ _ _ _ (fun v1 h1 x1 ⟨a1,a2,a3⟩=>by subst a1;subst a2;subst a3;exact g2) G'
    ·exact H.elim
   case mnext sh xs=>simp [AO.noNext] at hn1
   all_goals
    dsimp only at H
    split at H
    ·rename_i ha
     obtain⟨e2,h2,x2,k2,g2⟩:=z5D hD hC r _ _ _ K hn2 H
     refine⟨e2,h2,x2,k2,?_⟩
     unfold AReg;simp only[hw,ha]
     exact g2
    ·exact H.elim
  ·rename_i hw
   obtain⟨e2,h2,x2,k2,g2⟩:=z5D hD hC r _ _ _ K hn2 H
   refine⟨e2,h2,x2,k2,?_⟩
   unfold AReg;simp only[hw]
   exact g2
  ·exact H.elim
theorem z6S (hD:D.Mono) (hC:Dt C D) {o:AOp} {e:List (Nat × AV)} {h h':Heap} {v:AV} {x:Esc} (H:ADo C gl o e h v h' x):ADo D gl o e h v h' x:=by
 have key:∀ f a h,C f a h (fun v1 h1 x1=>v1=v∧h1=h'∧x1=x)→D f a h (fun v1 h1 x1=>v1=v∧h1=h'∧x1=x):=fun f a h hc=>by
  obtain⟨v2,h2,x2,⟨e1,e2,e3⟩,hd⟩:=hC _ _ _ _ hc
  subst e1;subst e2;subst e3
  exact hd
 unfold ADo at H ⊢
 split at H
 ·split at H
  ·exact key _ _ _ H
  ·split at H
   ·exact key _ _ _ H
   ·exact H.elim
  ·exact H.elim
  ·exact H
 ·exact H
 ·exact H.elim
theorem zc4 (hD:D.Mono) (hC:Dt C D):∀ (ds:List DOp) dn hs e h x K,z2s C gl ds dn hs e h x K→∃ e' h' x',K e' h' x'∧z2s D gl ds dn hs e h x fun e1 h1 x1=>e1=e'∧h1=h'∧x1=x'
 | [],dn,hs,e,h,x,K,H=>⟨e,h,x,H,rfl,rfl,rfl⟩
 | o::r,dn,hs,e,h,x,K,H=>by
  obtain⟨v,h',y,h1,h2,h3,h4,h5⟩:=H
  obtain⟨e2,q2,x2,k2,g2⟩:=zc4 hD hC r _ _ _ _ _ K h5
  exact⟨e2,q2,x2,k2,v,h',y,z6S hD hC h1,h2,fun k hk=>by obtain⟨g,a1,a2⟩:=h3 k hk;exact⟨g,a1,z6S hD hC a2⟩,
   fun j hj=>by obtain⟨q,a1,a2⟩:=h4 j hj;exact⟨q,a1,z6S hD hC a2⟩,g2⟩
theorem zku {T U:St→(Ex→St→Prop)→Prop} (hT:∀ s K,T s K→∃ e s',K e s'∧U s fun e1 s1=>e1=e∧s1=s') {K:Ex→St→Prop} {s:St} (H:ALoop T K s):∃ e s',K e s'∧ALoop U (fun e1 s1=>e1=e∧s1=s') s:=by
 induction H with
 | mk s R h hn he hr ih=>
  obtain⟨e,s',hR,hU⟩:=hT _ _ h
  cases e with
  | normal=>
   obtain⟨e2,s2,k2,g2⟩:=ih s' hR
   exact⟨e2,s2,k2,.mk _ _ hU (fun s1 ⟨_,h1⟩=>by subst h1;exact g2) (fun i s1 ⟨h1,_⟩=>by cases h1) (fun s1 ⟨h1,_⟩=>by cases h1)⟩
  | exit i=>exact⟨_,_,he i s' hR,.mk _ _ hU (fun s1 ⟨h1,_⟩=>by cases h1) (fun j s1 h1=>h1) (fun s1 ⟨h1,_⟩=>by cases h1)⟩
  | ret=>exact⟨_,_,hr s' hR,.mk _ _ hU (fun s1 ⟨h1,_⟩=>by cases h1) (fun j s1 ⟨h1,_⟩=>by cases h1) (fun s1 h1=>h1)⟩
theorem z5E (hD:D.Mono) (hC:Dt C D):∀ (c:ACode),c.noNext=true→∀ s K,AW C gl c s K→∃ e s',K e s'∧AW D gl c s fun e1 s1=>e1=e∧s1=s'
 | .skip,_,s,K,H=>⟨_,_,H,rfl,rfl⟩
 | .reg ops keep,hn,s,K,H=>by
  obtain⟨e,h,x,h1,h2⟩:=z5D hD hC ops _ _ _ _ hn H
  refine⟨_,_,h1,?_⟩
  show AReg D gl ops s.env s.h s.esc fun e1 h1 x1=>_
  exact z2y (C:=D) (C':=D) (fun f a h K K' hK h=>hD _ _ _ _ _ hK h) ops _ _ _ _ _ (fun e1 h1 x1 ⟨a1,a2,a3⟩=>by subst a1;subst a2;subst a3;exact⟨rfl,rfl⟩) h2
 | .draw ds keep,_,s,K,H=>by
  obtain⟨e,h,x,h1,h2⟩:=zc4 hD hC ds _ _ _ _ _ _ H
  refine⟨_,_,h1,?_⟩
  show z2s D gl ds [] [] s.env s.h s.esc fun e1 h1 x1=>_
  exact z6U (C:=D) (C':=D) (fun f a h K K' hK h=>hD _ _ _ _ _ hK h) ds _ _ _ _ _ _ _ (fun e1 h1 x1 ⟨a1,a2,a3⟩=>by subst a1;subst a2;subst a3;exact⟨rfl,rfl⟩) h2
 | .seq a b,hn,s,K,H=>by
  simp only[ACode.noNext,Bool.and_eq_true] at hn
  obtain⟨e,s',h1,h2⟩:=z5E hD hC a hn.1 _ _ H
  have mono:=fun (K K':Ex→St→Prop) (hK:∀ e s,K e s→K' e s)=>z1u (C:=D) (C':=D) (gl:=gl) (fun f a h K K' hK h=>hD _ _ _ _ _ hK h) a s K K' hK
  cases e with
  | normal=>
   obtain⟨e2,s2,k2,g2⟩:=z5E hD hC b hn.2 _ _ h1
   refine⟨e2,s2,k2,mono _ _ (fun e1 s1 ⟨a1,a2⟩=>?_) h2⟩
   subst a1;subst a2;exact g2
  | exit i=>exact⟨_,_,h1,mono _ _ (fun e1 s1 ⟨a1,a2⟩=>by subst a1;subst a2;exact⟨rfl,rfl⟩) h2⟩
  | ret=>exact⟨_,_,h1,mono _ _ (fun e1 s1 ⟨a1,a2⟩=>by subst a1;subst a2;exact⟨rfl,rfl⟩) h2⟩
 | .condu c a b,hn,s,K,H=>by cases hn
 | .det b,hn,s,K,H=>by cases hn
 | .cond c a b,hn,s,K,H=>by
  simp only[ACode.noNext,Bool.and_eq_true] at hn
  unfold AW at H
  split at H
  ·rename_i t ht
   split at H
   ·obtain⟨e,s',h1,h2⟩:=z5E hD hC a hn.1 _ _ H
    refine⟨e,s',h1,?_⟩
    unfold AW;simp only[ht];exact h2
   ·obtain⟨e,s',h1,h2⟩:=z5E hD hC b hn.2 _ _ H
    refine⟨e,s',h1,?_⟩
    unfold AW;simp only[ht];exact h2
  ·exact H.elim
 | .block id b,hn,s,K,H=>by
  obtain⟨e,s',h1,h2⟩:=z5E hD hC b hn _ _ H
  have mono:=fun (K K':Ex→St→Prop) (hK:∀ e s,K e s→K' e s)=>z1u (C:=D) (C':=D) (gl:=gl) (fun f a h K K' hK h=>hD _ _ _ _ _ hK h) b s K K' hK
  cases e with
  | normal=>exact⟨_,_,h1,mono _ _ (fun e1 s1 ⟨a1,a2⟩=>by subst a1;subst a2;exact⟨rfl,rfl⟩) h2⟩
  | exit i=>
   dsimp only at h1
   split at h1
   ·rename_i hi
    exact⟨_,_,h1,mono _ _ (fun e1 s1 ⟨a1,a2⟩=>by subst a1;subst a2;dsimp only;rw[if_pos hi];exact⟨rfl,rfl⟩) h2⟩
   ·rename_i hi
    exact⟨_,_,h1,mono _ _ (fun e1 s1 ⟨a1,a2⟩=>by subst a1;subst a2;dsimp only;rw[if_neg hi];exact⟨rfl,rfl⟩) h2⟩
  | ret=>exact⟨_,_,h1,mono _ _ (fun e1 s1 ⟨a1,a2⟩=>by subst a1;subst a2;exact⟨rfl,rfl⟩) h2⟩
 | .loop b,hn,s,K,H=>zku (fun s K h=>z5E hD hC b hn s K h) H
 | .scope b,hn,s,K,H=>by
  obtain⟨e,s',h1,h2⟩:=z5E hD hC b hn _ _ H
  exact⟨_,_,h1,z1u (C:=D) (C':=D) (gl:=gl) (fun f a h K K' hK h=>hD _ _ _ _ _ hK h) b _ _ _ (fun e1 s1 ⟨a1,a2⟩=>by subst a1;subst a2;exact⟨rfl,rfl⟩) h2⟩
 | .pr l b,hn,s,K,H=>z5E hD hC b hn _ K H
 | .exit id,_,s,K,H=>⟨_,_,H,rfl,rfl⟩
 | .ret,_,s,K,H=>⟨_,_,H,rfl,rfl⟩
 | .bad,_,s,K,H=>H.elim
theorem zpB {F:AFun} {b:Nat} {s:St} {K:Post} (H:fin F b s K):∃ v h x,K v h x∧fin F b s fun v1 h1 x1=>v1=v∧h1=h∧x1=x:=by
 unfold fin at H
 cases h1:z1T s F.results with
 | none=>rw[h1] at H;exact H.elim
 | some vs=>
  rw[h1] at H
  dsimp only at H
  cases h2:F.keep with
  | true=>
   rw[h2] at H
   dsimp only at H
   by_cases h3:z1p s.esc (z2t (List.length s.esc) s.esc (max b (z1b vs).top))=true
   ·rw[if_pos h3] at H
    exact⟨_,_,_,H,by unfold fin;rw[h1];dsimp only;rw[h2];dsimp only;rw[if_pos h3];exact⟨rfl,rfl,rfl⟩⟩
   ·rw[if_neg h3] at H
    exact⟨_,_,_,H,by unfold fin;rw[h1];dsimp only;rw[h2];dsimp only;rw[if_neg h3];exact⟨rfl,rfl,rfl⟩⟩
  | false=>
   rw[h2] at H
   dsimp only at H
   cases h4:reif b s.h (z1b vs) with
   | none=>rw[h4] at H;exact H.elim
   | some v0=>
    rw[h4] at H
    dsimp only at H
    by_cases h3:z1p s.esc (z2t (List.length s.esc) s.esc (max b v0.top))=true
    ·rw[if_pos h3] at H
     cases h5:reif (z2t (List.length s.esc) s.esc (max b v0.top)) s.h (z1b vs) with
     | none=>rw[h5] at H;exact H.elim
     | some v=>
      rw[h5] at H
      exact⟨_,_,_,H.2,by unfold fin;rw[h1];dsimp only;rw[h2];dsimp only;rw[h4];dsimp only;rw[if_pos h3,h5];exact⟨H.1,rfl,rfl,rfl⟩⟩
    ·rw[if_neg h3] at H
     exact⟨_,_,_,H,by unfold fin;rw[h1];dsimp only;rw[h2];dsimp only;rw[h4];dsimp only;rw[if_neg h3];exact⟨rfl,rfl,rfl⟩⟩
def Ctx.NoNext (X:Ctx):Prop:=∀ f F,X.fn f=some F→(F.isDet||F.body.noNext)=true
theorem zmy (hD:D.Mono) (hC:Dt C D) {F:AFun} {a:List AV} {h:Heap} {K:Post} (hb:F.body.noNext=true) (H:z2Z C gl F a h K):∃ v h' x,K v h' x∧z2Z D gl F a h fun v1 h1 x1=>v1=v∧h1=h'∧x1=x:=by
 unfold z2Z at H ⊢
 cases hp:(if F.byref then some (a,h) else z0p h a) with
 | none=>rw[hp] at H;exact H.elim
 | some q=>
  obtain⟨asv,h1⟩:=q
  rw[hp] at H
  obtain⟨hl,H⟩:=H
  obtain⟨e,s',k1,g1⟩:=z5E hD hC _ hb _ _ H
  have mono:=fun (K K':Ex→St→Prop) (hK:∀ e s,K e s→K' e s)=>z1u (C:=D) (C':=D) (gl:=gl) (fun f a h K K' hK h=>hD _ _ _ _ _ hK h) F.body ⟨enter asv,h1,[]⟩ K K' hK
  cases e with
  | exit i=>exact k1.elim
  | normal=>
   obtain⟨v,h',x,k2,g2⟩:=zpB k1
   exact⟨v,h',x,k2,hl,mono _ _ (fun e1 s1 ⟨a1,a2⟩=>by subst a1;subst a2;exact g2) g1⟩
  | ret=>
   obtain⟨v,h',x,k2,g2⟩:=zpB k1
   exact⟨v,h',x,k2,hl,mono _ _ (fun e1 s1 ⟨a1,a2⟩=>by subst a1;subst a2;exact g2) g1⟩
theorem zkp {X:Ctx} (hX:X.NoNext):Dt (z0c X) (z0c X):=by
 intro f a h K H
 refine H (fun f a h K=>∃ v h' x,K v h' x∧z0c X f a h fun v1 h1 x1=>v1=v∧h1=h'∧x1=x) ?_ ?_
 ·intro f a h K K' hK ⟨v,h',x,k,g⟩
  exact⟨v,h',x,hK _ _ _ k,g⟩
 ·intro f a h K H
  have hC:Dt (fun f a h K=>∃ v h' x,K v h' x∧z0c X f a h fun v1 h1 x1=>v1=v∧h1=h'∧x1=x) (z0c X):=fun f a h K H=>H
  have hD:=z0c.mono X
  unfold Step at H
  split at H
  ·rename_i F hF
   unfold z56 at H
   cases hd:F.isDet with
   | true=>
    rw[hd] at H
    obtain⟨v,h',x,k,H⟩:=H
    refine⟨v,h',x,k,z0c.fold ?_⟩
    unfold Step
    simp only[hF,z56,hd]
    exact⟨v,h',x,⟨rfl,rfl,rfl⟩,z4S (fun f a h K K' hK ⟨v2,h2,x2,k2,g2⟩=>hD _ _ _ _ _ (fun v1 h1 x1 hv=>by obtain⟨rfl,rfl,rfl⟩:=hv;exact hK _ _ _ k2) g2) (fun _ _ _ h=>h) H⟩
   | false=>
    rw[hd] at H
    obtain⟨v,h',x,k1,g1⟩:=zmy hD hC (by have:=hX f F hF;rw[hd] at this;simpa using this) H
    refine⟨v,h',x,k1,z0c.fold ?_⟩
    unfold Step;simp only[hF,z56,hd]
    exact g1
  ·rename_i hF
   split at H
   ·rename_i hx2
    refine⟨_,_,_,H,z0c.fold ?_⟩
    unfold Step;simp only[hF,hx2]
    exact⟨trivial,trivial,trivial⟩
   ·rename_i hx2
    split at H
    ·rename_i hp
     split at H
     ·rename_i hu
      split at H
      ·rename_i hx
       refine⟨_,_,_,H,z0c.fold ?_⟩
       unfold Step;simp only[hF,hx2,hp,hu,hx]
       exact⟨trivial,trivial,trivial⟩
      ·exact H.elim
     ·exact H.elim
    ·exact H.elim
theorem z0c.one {X:Ctx} (hX:X.NoNext) {f:Nat} {a:List AV} {h:Heap} {Q:Post} (H:z0c X f a h Q):∃ v h' x,Q v h' x∧∀ K:Post,z0c X f a h K=K v h' x:=by
 obtain⟨v,h',x,k,g⟩:=zkp hX _ _ _ _ H
 exact⟨v,h',x,k,fun K=>rule g⟩
end Go.Am
end
