/- Texts of the proof, laid together: Am24, Am25, AmX, PSplit, PTxt, AmL, PNum, PSort, PFlt, PFltR, PWrit, Nums, Am26, Am27, Am28. -/
import Derived.Below
import Derived.ChangeSlices
import Derived.Carry
import GoSem.Extern.Table
import Derived.Laws.World
import Derived.Test.YtanoolccohkfmaaGreatDoorlawAF3
set_option linter.all false
section
/- The abstract machine,part 24: rules by which its code is computed on what is only partly known. -/
set_option linter.unusedSimpArgs false
set_option linter.unusedVariables false
namespace Go.Am
def optK (o : Option (AV × Heap × Esc)) (f : AV → Heap → Esc → Prop) : Prop:=match o with
  | some y=>f y.1 y.2.1 y.2.2
  | none=>False
def condU (v : AV) (A B : Prop) : Prop:=match v with
  | .p (.bool t)=>match t with
    | true=>A
    | false=>B
  | .anyb=>A ∧ B
  | _=>False
def condB (v : AV) (A B : Prop) : Prop:=match v with
  | .p (.bool t)=>match t with
    | true=>A
    | false=>B
  | _=>False
def wantK (v : AV) (b : Bool) (A B : Prop) : Prop:=match v with
  | .p (.bool c)=>match c == b with
    | true=>A
    | false=>B
  | .skp=>B
  | _=>False
def regK (keep : Option (List Nat)) (K : Ex → St → Prop) (e : List (Nat × AV)) (h : Heap) (x : Esc) : Prop:=K .normal ⟨prune keep e,h,x⟩
def seqK (C : Hd) (gl : Nat → Option PV) (b : ACode) (K : Ex → St → Prop) (e : Ex) (s : St) : Prop:=match e with
  | .normal=>AW C gl b s K
  | .exit i=>K (.exit i) s
  | .ret=>K .ret s
def blockK (id : Nat) (K : Ex → St → Prop) (e : Ex) (s : St) : Prop:=match e with
  | .normal=>K .normal s
  | .exit i=>if i = id then K .normal s else K (.exit i) s
  | .ret=>K .ret s
def finK (F : AFun) (b : Nat) (K : Post) (e : Ex) (s : St) : Prop:=match e with
  | .exit _=>False
  | _=>fin F b s K
def scopeK (n : Nat) (x : Esc) (K : Ex → St → Prop) (e : Ex) (s : St) : Prop:=K e (trunc n x s)
def AO.plain : AO → Bool
  | .call _ _ | .callv _ _ | .mnext _ _=>false
  | .mv _=>true
  | .pick _ _ _=>true
  | .alloc _=>true
  | .box _=>true
  | .build _ _=>true
  | .bsl _ _ _ _ _=>true
  | .load _ _=>true
  | .store _ _ _=>true
  | .nilchk _=>true
  | .bin _ _ _=>true
  | .eqa _ _ _ _=>true
  | .isnil _ _ _=>true
  | .mkif _=>true
  | .un _ _=>true
  | .conv _ _=>true
  | .mkfn _ _=>true
  | .mkmap=>true
  | .mksl _ _ _ _=>true
  | .slice _ _ _ _ _=>true
  | .slstr _ _ _=>true
  | .faddr _ _ _=>true
  | .field _ _ _=>true
  | .iaddr _ _ _=>true
  | .iaddra _ _ _ _=>true
  | .idxa _ _ _ _=>true
  | .idxs _ _=>true
  | .look _ _ _ _ _=>true
  | .mupd _ _ _ _=>true
  | .ment _ _ _ _=>true
  | .estore _ _ _=>true
  | .mdel _ _ _=>true
  | .ext _ _=>true
  | .len _=>true
  | .lens _=>true
  | .lenm _=>true
  | .app _ _ _=>true
  | .copy _ _ _=>true
  | .uns _ _ _=>true
  | .clr _ _ _=>true
  | .mx _=>true
  | .mn _=>true
  | .mrange _=>true
  | .mentry _=>true
  | .new0 _=>true
variable {C : Hd} {gl : Nat → Option PV} {e : List (Nat × AV)} {h : Heap} {x : Esc} {K : Ex → St → Prop} {L : List (Nat × AV) → Heap → Esc → Prop} {s : St}
theorem AW_skip : AW C gl .skip s K = K .normal s:=(rfl)
theorem AW_ret : AW C gl .ret s K = K .ret s:=(rfl)
theorem AW_exit {i : Nat} : AW C gl (.exit i) s K = K (.exit i) s:=(rfl)
theorem AW_bad : AW C gl .bad s K = False:=(rfl)
theorem AW_reg {ops : List AOp} {keep : Option (List Nat)} : AW C gl (.reg ops keep) ⟨e,h,x⟩ K = AReg C gl ops e h x (regK keep K):=(rfl)
theorem AW_seq {a b : ACode} : AW C gl (.seq a b) s K = AW C gl a s (seqK C gl b K):=(rfl)
theorem AW_cond {c : Opd} {a b : ACode} : AW C gl (.cond c a b) ⟨e,h,x⟩ K = condB (Opd.ev gl e c) (AW C gl a ⟨e,h,x⟩ K) (AW C gl b ⟨e,h,x⟩ K):=(rfl)
theorem AW_block {i : Nat} {b : ACode} : AW C gl (.block i b) s K = AW C gl b s (blockK i K):=(rfl)
theorem AW_scope {b : ACode} : AW C gl (.scope b) ⟨e,h,x⟩ K = AW C gl b ⟨e,h,[]⟩ (scopeK h.length x K):=(rfl)
theorem AW_pr {l : List Nat} {b : ACode} : AW C gl (.pr l b) ⟨e,h,x⟩ K = AW C gl b ⟨prune (some l) e,h,x⟩ K:=(rfl)
theorem regK_eq {keep : Option (List Nat)} : regK keep K e h x = K .normal ⟨prune keep e,h,x⟩:=(rfl)
theorem seqK_normal {b : ACode} : seqK C gl b K .normal s = AW C gl b s K:=(rfl)
theorem seqK_exit {b : ACode} {i : Nat} : seqK C gl b K (.exit i) s = K (.exit i) s:=(rfl)
theorem seqK_ret {b : ACode} : seqK C gl b K .ret s = K .ret s:=(rfl)
theorem blockK_normal {i : Nat} : blockK i K .normal s = K .normal s:=(rfl)
theorem blockK_exit {i j : Nat} : blockK i K (.exit j) s = if j = i then K .normal s else K (.exit j) s:=(rfl)
theorem blockK_ret {i : Nat} : blockK i K .ret s = K .ret s:=(rfl)
theorem scopeK_eq {n : Nat} {y : Esc} {ex : Ex} : scopeK n y K ex s = K ex (trunc n y s):=(rfl)
def contR (C : Hd) (gl : Nat → Option PV) (r : List AOp) (d : Option Nat) (e : List (Nat × AV)) (x : Esc) (L : List (Nat × AV) → Heap → Esc → Prop) (v : AV) (h' : Heap) (x' : Esc) : Prop:=AReg C gl r (put d v e) h' (x' ++ x) L
theorem contR_eq {r : List AOp} {d : Option Nat} {v : AV} {h' : Heap} {x' : Esc} : contR C gl r d e x L v h' x' = AReg C gl r (put d v e) h' (x' ++ x) L:=(rfl)
theorem contR_congr {r : List AOp} {d : Option Nat} {v w : AV} {h' h'' : Heap} {x' x'' : Esc} (h1 : v = w) (h2 : h' = h'') (h3 : x' = x'') : contR C gl r d e x L v h' x' = contR C gl r d e x L w h'' x'':=by rw [h1,h2,h3]
theorem AReg_nil : AReg C gl [] e h x L = L e h x:=(rfl)
theorem AReg_op {d : Option Nat} {op : AO} {r : List AOp} (hp : op.plain = true) : AReg C gl (⟨d,none,op⟩ :: r) e h x L = optK (aop op (Opd.ev gl e) h) (contR C gl r d e x L):=by
  cases op <;> first | (cases hp; done) | (simp only [AReg,wanted,optK,contR]; split <;> simp_all)
theorem AReg_mv {d : Option Nat} {r : List AOp} {q0 : Opd} : AReg C gl (⟨d,none,(.mv q0)⟩ :: r) e h x L = optK (aop (.mv q0) (Opd.ev gl e) h) (contR C gl r d e x L):=AReg_op rfl
theorem AReg_pick {d : Option Nat} {r : List AOp} {q0 q1 q2 : Opd} : AReg C gl (⟨d,none,(.pick q0 q1 q2)⟩ :: r) e h x L = optK (aop (.pick q0 q1 q2) (Opd.ev gl e) h) (contR C gl r d e x L):=AReg_op rfl
theorem AReg_alloc {d : Option Nat} {r : List AOp} {q0 : List AV} : AReg C gl (⟨d,none,(.alloc q0)⟩ :: r) e h x L = optK (aop (.alloc q0) (Opd.ev gl e) h) (contR C gl r d e x L):=AReg_op rfl
theorem AReg_box {d : Option Nat} {r : List AOp} {q0 : Opd} : AReg C gl (⟨d,none,(.box q0)⟩ :: r) e h x L = optK (aop (.box q0) (Opd.ev gl e) h) (contR C gl r d e x L):=AReg_op rfl
theorem AReg_build {d : Option Nat} {r : List AOp} {q0 : List AV} {q1 : List (Nat × Nat × Opd)} : AReg C gl (⟨d,none,(.build q0 q1)⟩ :: r) e h x L = optK (aop (.build q0 q1) (Opd.ev gl e) h) (contR C gl r d e x L):=AReg_op rfl
theorem AReg_bsl {d : Option Nat} {r : List AOp} {q0 : Bool} {q1 : Sh} {q2 : Nat} {q3 : PV} {q4 : List (Nat × Opd)} : AReg C gl (⟨d,none,(.bsl q0 q1 q2 q3 q4)⟩ :: r) e h x L = optK (aop (.bsl q0 q1 q2 q3 q4) (Opd.ev gl e) h) (contR C gl r d e x L):=AReg_op rfl
theorem AReg_load {d : Option Nat} {r : List AOp} {q0 : Sh} {q1 : Opd} : AReg C gl (⟨d,none,(.load q0 q1)⟩ :: r) e h x L = optK (aop (.load q0 q1) (Opd.ev gl e) h) (contR C gl r d e x L):=AReg_op rfl
theorem AReg_store {d : Option Nat} {r : List AOp} {q0 : Sh} {q1 q2 : Opd} : AReg C gl (⟨d,none,(.store q0 q1 q2)⟩ :: r) e h x L = optK (aop (.store q0 q1 q2) (Opd.ev gl e) h) (contR C gl r d e x L):=AReg_op rfl
theorem AReg_nilchk {d : Option Nat} {r : List AOp} {q0 : Opd} : AReg C gl (⟨d,none,(.nilchk q0)⟩ :: r) e h x L = optK (aop (.nilchk q0) (Opd.ev gl e) h) (contR C gl r d e x L):=AReg_op rfl
theorem AReg_bin {d : Option Nat} {r : List AOp} {q0 : BinOp} {q1 q2 : Opd} : AReg C gl (⟨d,none,(.bin q0 q1 q2)⟩ :: r) e h x L = optK (aop (.bin q0 q1 q2) (Opd.ev gl e) h) (contR C gl r d e x L):=AReg_op rfl
theorem AReg_eqa {d : Option Nat} {r : List AOp} {q0 : List Nat} {q1 : Bool} {q2 q3 : Opd} : AReg C gl (⟨d,none,(.eqa q0 q1 q2 q3)⟩ :: r) e h x L = optK (aop (.eqa q0 q1 q2 q3) (Opd.ev gl e) h) (contR C gl r d e x L):=AReg_op rfl
theorem AReg_isnil {d : Option Nat} {r : List AOp} {q0 : Nat} {q1 : Bool} {q2 : Opd} : AReg C gl (⟨d,none,(.isnil q0 q1 q2)⟩ :: r) e h x L = optK (aop (.isnil q0 q1 q2) (Opd.ev gl e) h) (contR C gl r d e x L):=AReg_op rfl
theorem AReg_mkif {d : Option Nat} {r : List AOp} {q0 : Opd} : AReg C gl (⟨d,none,(.mkif q0)⟩ :: r) e h x L = optK (aop (.mkif q0) (Opd.ev gl e) h) (contR C gl r d e x L):=AReg_op rfl
theorem AReg_un {d : Option Nat} {r : List AOp} {q0 : UnOp} {q1 : Opd} : AReg C gl (⟨d,none,(.un q0 q1)⟩ :: r) e h x L = optK (aop (.un q0 q1) (Opd.ev gl e) h) (contR C gl r d e x L):=AReg_op rfl
theorem AReg_conv {d : Option Nat} {r : List AOp} {q0 : Cv} {q1 : Opd} : AReg C gl (⟨d,none,(.conv q0 q1)⟩ :: r) e h x L = optK (aop (.conv q0 q1) (Opd.ev gl e) h) (contR C gl r d e x L):=AReg_op rfl
theorem AReg_mkfn {d : Option Nat} {r : List AOp} {q0 : Nat} {q1 : List Opd} : AReg C gl (⟨d,none,(.mkfn q0 q1)⟩ :: r) e h x L = optK (aop (.mkfn q0 q1) (Opd.ev gl e) h) (contR C gl r d e x L):=AReg_op rfl
theorem AReg_mkmap {d : Option Nat} {r : List AOp}  : AReg C gl (⟨d,none,.mkmap⟩ :: r) e h x L = optK (aop .mkmap (Opd.ev gl e) h) (contR C gl r d e x L):=AReg_op rfl
theorem AReg_mksl {d : Option Nat} {r : List AOp} {q0 : Sh} {q1 : PV} {q2 q3 : Opd} : AReg C gl (⟨d,none,(.mksl q0 q1 q2 q3)⟩ :: r) e h x L = optK (aop (.mksl q0 q1 q2 q3) (Opd.ev gl e) h) (contR C gl r d e x L):=AReg_op rfl
theorem AReg_slice {d : Option Nat} {r : List AOp} {q0 : Sh} {q1 : Opd} {q2 q3 q4 : Option Opd} : AReg C gl (⟨d,none,(.slice q0 q1 q2 q3 q4)⟩ :: r) e h x L = optK (aop (.slice q0 q1 q2 q3 q4) (Opd.ev gl e) h) (contR C gl r d e x L):=AReg_op rfl
theorem AReg_slstr {d : Option Nat} {r : List AOp} {q0 : Opd} {q1 q2 : Option Opd} : AReg C gl (⟨d,none,(.slstr q0 q1 q2)⟩ :: r) e h x L = optK (aop (.slstr q0 q1 q2) (Opd.ev gl e) h) (contR C gl r d e x L):=AReg_op rfl
theorem AReg_faddr {d : Option Nat} {r : List AOp} {q0 : Nat} {q1 : Sh} {q2 : Opd} : AReg C gl (⟨d,none,(.faddr q0 q1 q2)⟩ :: r) e h x L = optK (aop (.faddr q0 q1 q2) (Opd.ev gl e) h) (contR C gl r d e x L):=AReg_op rfl
theorem AReg_field {d : Option Nat} {r : List AOp} {q0 : Nat} {q1 : Sh} {q2 : Opd} : AReg C gl (⟨d,none,(.field q0 q1 q2)⟩ :: r) e h x L = optK (aop (.field q0 q1 q2) (Opd.ev gl e) h) (contR C gl r d e x L):=AReg_op rfl
theorem AReg_iaddr {d : Option Nat} {r : List AOp} {q0 : Sh} {q1 q2 : Opd} : AReg C gl (⟨d,none,(.iaddr q0 q1 q2)⟩ :: r) e h x L = optK (aop (.iaddr q0 q1 q2) (Opd.ev gl e) h) (contR C gl r d e x L):=AReg_op rfl
theorem AReg_iaddra {d : Option Nat} {r : List AOp} {q0 : Nat} {q1 : Sh} {q2 q3 : Opd} : AReg C gl (⟨d,none,(.iaddra q0 q1 q2 q3)⟩ :: r) e h x L = optK (aop (.iaddra q0 q1 q2 q3) (Opd.ev gl e) h) (contR C gl r d e x L):=AReg_op rfl
theorem AReg_idxa {d : Option Nat} {r : List AOp} {q0 : Nat} {q1 : Sh} {q2 q3 : Opd} : AReg C gl (⟨d,none,(.idxa q0 q1 q2 q3)⟩ :: r) e h x L = optK (aop (.idxa q0 q1 q2 q3) (Opd.ev gl e) h) (contR C gl r d e x L):=AReg_op rfl
theorem AReg_idxs {d : Option Nat} {r : List AOp} {q0 q1 : Opd} : AReg C gl (⟨d,none,(.idxs q0 q1)⟩ :: r) e h x L = optK (aop (.idxs q0 q1) (Opd.ev gl e) h) (contR C gl r d e x L):=AReg_op rfl
theorem AReg_look {d : Option Nat} {r : List AOp} {kk : Sh × List Nat} {q0 : Bool} {q1 : AV} {q2 q3 : Opd} : AReg C gl (⟨d,none,(.look kk q0 q1 q2 q3)⟩ :: r) e h x L = optK (aop (.look kk q0 q1 q2 q3) (Opd.ev gl e) h) (contR C gl r d e x L):=AReg_op rfl
theorem AReg_mupd {d : Option Nat} {r : List AOp} {kk : Sh × List Nat} {q0 q1 q2 : Opd} : AReg C gl (⟨d,none,(.mupd kk q0 q1 q2)⟩ :: r) e h x L = optK (aop (.mupd kk q0 q1 q2) (Opd.ev gl e) h) (contR C gl r d e x L):=AReg_op rfl
theorem AReg_ment {d : Option Nat} {r : List AOp} {kk : Sh × List Nat} {q0 : AV} {q1 q2 : Opd} : AReg C gl (⟨d,none,(.ment kk q0 q1 q2)⟩ :: r) e h x L = optK (aop (.ment kk q0 q1 q2) (Opd.ev gl e) h) (contR C gl r d e x L):=AReg_op rfl
theorem AReg_estore {d : Option Nat} {r : List AOp} {q0 q1 q2 : Opd} : AReg C gl (⟨d,none,(.estore q0 q1 q2)⟩ :: r) e h x L = optK (aop (.estore q0 q1 q2) (Opd.ev gl e) h) (contR C gl r d e x L):=AReg_op rfl
theorem AReg_mdel {d : Option Nat} {r : List AOp} {kk : Sh × List Nat} {q0 q1 : Opd} : AReg C gl (⟨d,none,(.mdel kk q0 q1)⟩ :: r) e h x L = optK (aop (.mdel kk q0 q1) (Opd.ev gl e) h) (contR C gl r d e x L):=AReg_op rfl
theorem AReg_ext {d : Option Nat} {r : List AOp} {q0 : Opd} {q1 : Nat} : AReg C gl (⟨d,none,(.ext q0 q1)⟩ :: r) e h x L = optK (aop (.ext q0 q1) (Opd.ev gl e) h) (contR C gl r d e x L):=AReg_op rfl
theorem AReg_len {d : Option Nat} {r : List AOp} {q0 : Opd} : AReg C gl (⟨d,none,(.len q0)⟩ :: r) e h x L = optK (aop (.len q0) (Opd.ev gl e) h) (contR C gl r d e x L):=AReg_op rfl
theorem AReg_lens {d : Option Nat} {r : List AOp} {q0 : Opd} : AReg C gl (⟨d,none,(.lens q0)⟩ :: r) e h x L = optK (aop (.lens q0) (Opd.ev gl e) h) (contR C gl r d e x L):=AReg_op rfl
theorem AReg_lenm {d : Option Nat} {r : List AOp} {q0 : Opd} : AReg C gl (⟨d,none,(.lenm q0)⟩ :: r) e h x L = optK (aop (.lenm q0) (Opd.ev gl e) h) (contR C gl r d e x L):=AReg_op rfl
theorem AReg_app {d : Option Nat} {r : List AOp} {q0 : Sh} {q1 q2 : Opd} : AReg C gl (⟨d,none,(.app q0 q1 q2)⟩ :: r) e h x L = optK (aop (.app q0 q1 q2) (Opd.ev gl e) h) (contR C gl r d e x L):=AReg_op rfl
theorem AReg_copy {d : Option Nat} {r : List AOp} {q0 : Sh} {q1 q2 : Opd} : AReg C gl (⟨d,none,(.copy q0 q1 q2)⟩ :: r) e h x L = optK (aop (.copy q0 q1 q2) (Opd.ev gl e) h) (contR C gl r d e x L):=AReg_op rfl
theorem AReg_mx {d : Option Nat} {r : List AOp} {q0 : List Opd} : AReg C gl (⟨d,none,(.mx q0)⟩ :: r) e h x L = optK (aop (.mx q0) (Opd.ev gl e) h) (contR C gl r d e x L):=AReg_op rfl
theorem AReg_mn {d : Option Nat} {r : List AOp} {q0 : List Opd} : AReg C gl (⟨d,none,(.mn q0)⟩ :: r) e h x L = optK (aop (.mn q0) (Opd.ev gl e) h) (contR C gl r d e x L):=AReg_op rfl
theorem AReg_mrange {d : Option Nat} {r : List AOp} {q0 : Opd} : AReg C gl (⟨d,none,(.mrange q0)⟩ :: r) e h x L = optK (aop (.mrange q0) (Opd.ev gl e) h) (contR C gl r d e x L):=AReg_op rfl
theorem AReg_mentry {d : Option Nat} {r : List AOp} {q0 : Opd} : AReg C gl (⟨d,none,(.mentry q0)⟩ :: r) e h x L = optK (aop (.mentry q0) (Opd.ev gl e) h) (contR C gl r d e x L):=AReg_op rfl
theorem AReg_new0 {d : Option Nat} {r : List AOp} {q0 : Sh} : AReg C gl (⟨d,none,(.new0 q0)⟩ :: r) e h x L = optK (aop (.new0 q0) (Opd.ev gl e) h) (contR C gl r d e x L):=AReg_op rfl
theorem AReg_call {d : Option Nat} {f : Nat} {args : List Opd} {r : List AOp} : AReg C gl (⟨d,none,.call f args⟩ :: r) e h x L = C f (args.map (Opd.ev gl e)) h (contR C gl r d e x L):=(rfl)
theorem AReg_true {d : Option Nat} {g : Option (Nat × Bool)} {op : AO} {r : List AOp} (hw : wanted g e = some true) : AReg C gl (⟨d,g,op⟩ :: r) e h x L = AReg C gl (⟨d,none,op⟩ :: r) e h x L:=by
  rw [AReg,AReg]
  have h2 : wanted none e = some true:=(rfl)
  simp only [hw,h2]
theorem AReg_false {d : Option Nat} {g : Option (Nat × Bool)} {op : AO} {r : List AOp} (hw : wanted g e = some false) : AReg C gl (⟨d,g,op⟩ :: r) e h x L = AReg C gl r (put d .skp e) h x L:=by
  rw [AReg]
  simp only [hw]
theorem AReg_stuck {d : Option Nat} {g : Option (Nat × Bool)} {op : AO} {r : List AOp} (hw : wanted g e = none) : AReg C gl (⟨d,g,op⟩ :: r) e h x L = False:=by
  rw [AReg]
  simp only [hw]
theorem AReg_guard {d : Option Nat} {t : Nat} {b : Bool} {op : AO} {r : List AOp} : AReg C gl (⟨d,some (t,b),op⟩ :: r) e h x L = wantK (aget e t) b (AReg C gl (⟨d,none,op⟩ :: r) e h x L) (AReg C gl r (put d .skp e) h x L):=by
  have key : ∀ v,aget e t = v → AReg C gl (⟨d,some (t,b),op⟩ :: r) e h x L = wantK v b (AReg C gl (⟨d,none,op⟩ :: r) e h x L) (AReg C gl r (put d .skp e) h x L):=by
    intro v hv
    unfold wantK
    split
    · rename_i c
      split
      · rename_i hcb; exact AReg_true (by simp [wanted,hv,hcb])
      · rename_i hcb; exact AReg_false (by simp [wanted,hv,hcb])
    · exact AReg_false (by simp [wanted,hv])
    · rename_i h1 h2
      refine AReg_stuck ?_
      simp only [wanted,hv]
  exact key _ rfl
theorem optK_some {v : AV} {h : Heap} {x : Esc} {f : AV → Heap → Esc → Prop} : optK (some (v,h,x)) f = f v h x:=(rfl)
theorem optK_none {f : AV → Heap → Esc → Prop} : optK none f = False:=(rfl)
theorem optK_ite {p : Prop} [Decidable p] {a b : Option (AV × Heap × Esc)} {f : AV → Heap → Esc → Prop} : optK (if p then a else b) f = if p then optK a f else optK b f:=by split <;> rfl
theorem optK_map_ite {α : Type} {p : Prop} [Decidable p] {a b : Option α} {g : α → AV × Heap × Esc} {f : AV → Heap → Esc → Prop} : optK (Option.map g (if p then a else b)) f = if p then optK (a.map g) f else optK (b.map g) f:=by split <;> rfl
theorem condB_bool {t : Bool} {A B : Prop} : condB (.p (.bool t)) A B = if t = true then A else B:=by cases t <;> simp [condB]
theorem condB_true {A B : Prop} : condB (.p (.bool true)) A B = A:=(rfl)
theorem condB_false {A B : Prop} : condB (.p (.bool false)) A B = B:=(rfl)
theorem wantK_skp {b : Bool} {A B : Prop} : wantK .skp b A B = B:=(rfl)
theorem wantK_true {t : Bool} {A B : Prop} : wantK (.p (.bool t)) true A B = if t = true then A else B:=by cases t <;> simp [wantK]
theorem wantK_false {t : Bool} {A B : Prop} : wantK (.p (.bool t)) false A B = if t = true then B else A:=by cases t <;> simp [wantK]
theorem condB_congr {v v' : AV} {A B : Prop} (hv : v = v') : condB v A B = condB v' A B:=by rw [hv]
theorem wantK_congr {v v' : AV} {b : Bool} {A B : Prop} (hv : v = v') : wantK v b A B = wantK v' b A B:=by rw [hv]
theorem optK_congr {o o' : Option (AV × Heap × Esc)} {f : AV → Heap → Esc → Prop} (ho : o = o') : optK o f = optK o' f:=by rw [ho]
theorem AReg_congr {ops : List AOp} {e e' : List (Nat × AV)} {h h' : Heap} {x x' : Esc} (he : e = e') (hh : h = h') (hx : x = x') : AReg C gl ops e h x L = AReg C gl ops e' h' x' L:=by rw [he,hh,hx]
theorem AW_congr {c : ACode} {s s' : St} (hs : s = s') : AW C gl c s K = AW C gl c s' K:=by rw [hs]
theorem regK_congr {keep : Option (List Nat)} {e e' : List (Nat × AV)} {h h' : Heap} {x x' : Esc} (he : e = e') (hh : h = h') (hx : x = x') : regK keep K e h x = regK keep K e' h' x':=by rw [he,hh,hx]
theorem seqK_congr {b : ACode} {ex ex' : Ex} {s s' : St} (he : ex = ex') (hs : s = s') : seqK C gl b K ex s = seqK C gl b K ex' s':=by rw [he,hs]
theorem blockK_congr {i : Nat} {ex ex' : Ex} {s s' : St} (he : ex = ex') (hs : s = s') : blockK i K ex s = blockK i K ex' s':=by rw [he,hs]
theorem scopeK_congr {n : Nat} {y : Esc} {ex ex' : Ex} {s s' : St} (he : ex = ex') (hs : s = s') : scopeK n y K ex s = scopeK n y K ex' s':=by rw [he,hs]
theorem Step_fn {X : Ctx} {f : Nat} {F : AFun} {a : List AV} {h : Heap} {P : Post} (hf : X.fn f = some F) (hd : F.isDet = false) : ACall X f a h P = abody (ACall X) X.gl F a h P:=by
  rw [propext ACall_iff]
  unfold Step
  rw [hf]
  simp only [fbody,hd]
theorem Step_det {X : Ctx} {f : Nat} {F : AFun} {a : List AV} {h : Heap} {P : Post} (hf : X.fn f = some F) (hd : F.isDet = true) : ACall X f a h P = ∃ v h' x,P v h' x ∧ abody (ACall X) X.gl F a h fun v1 h1 x1=>v1 = v ∧ h1 = h' ∧ x1 = x:=by
  rw [propext ACall_iff]
  unfold Step
  rw [hf]
  simp only [fbody,hd]
theorem abody_val {F : AFun} {a asv : List AV} {h h1 : Heap} {P : Post} (hr : F.byref = false) (hp : puras h a = some (asv,h1)) (hl : asv.length = F.nparams) :
    abody C gl F a h P = AW C gl F.body ⟨enter asv,h1,[]⟩ (finK F h.length P):=by
  unfold abody
  rw [hr]
  simp only [Bool.false_eq_true,if_false,hp,hl,true_and]
  congr 1
theorem abody_ref {F : AFun} {asv : List AV} {h : Heap} {P : Post} (hr : F.byref = true) (hl : asv.length = F.nparams) :
    abody C gl F asv h P = AW C gl F.body ⟨enter asv,h,[]⟩ (finK F h.length P):=by
  unfold abody
  rw [hr]
  simp only [if_true,hl,true_and]
  congr 1
def doK (C : Hd) (gl : Nat → Option PV) (o : AOp) (e : List (Nat × AV)) (h : Heap) (R : AV → Heap → Esc → Prop) : Prop:=∃ v h' y,ADo C gl o e h v h' y ∧ R v h' y
def callE (C : Hd) (f : Nat) (a : List AV) (h : Heap) (R : AV → Heap → Esc → Prop) : Prop:=∃ v h' y,C f a h (fun v1 h1 x1=>v1 = v ∧ h1 = h' ∧ x1 = y) ∧ R v h' y
def drawK (C : Hd) (gl : Nat → Option PV) (o : DOp) (r : List DOp) (dn : Done) (hs : List Heap) (e : List (Nat × AV)) (h : Heap) (x : Esc) (L : List (Nat × AV) → Heap → Esc → Prop) (v : AV) (h' : Heap) (y : Esc) : Prop:=
  (o.eff = false → h' = h ∧ y = []) ∧ (∀ k ∈ o.early,∃ g,hs[k]? = some g ∧ ADo C gl o.op (prune (some o.rd) e) g v g []) ∧
    (∀ j ∈ o.again,∃ q,dn[j]? = some q ∧ ADo C gl q.1 q.2.1 h' q.2.2 h' []) ∧ ADraw C gl r (dn ++ [(o.op,prune (some o.rd) e,v)]) (hs ++ [h]) (put o.op.dst v e) h' (y ++ x) L
theorem AW_draw {ds : List DOp} {keep : Option (List Nat)} : AW C gl (.draw ds keep) ⟨e,h,x⟩ K = ADraw C gl ds [] [] e h x (regK keep K):=(rfl)
theorem ADraw_nil {dn : Done} {hs : List Heap} : ADraw C gl [] dn hs e h x L = L e h x:=(rfl)
theorem ADraw_cons {o : DOp} {r : List DOp} {dn : Done} {hs : List Heap} : ADraw C gl (o :: r) dn hs e h x L = doK C gl o.op (prune (some o.rd) e) h (drawK C gl o r dn hs e h x L):=(rfl)
variable {R : AV → Heap → Esc → Prop}
theorem ex3 {v0 : AV} {h0 : Heap} {y0 : Esc} : (∃ v h y,(v = v0 ∧ h = h0 ∧ y = y0) ∧ R v h y) = R v0 h0 y0:=
  propext ⟨fun ⟨_,_,_,⟨h1,h2,h3⟩,r⟩=>by subst h1; subst h2; subst h3; exact r,fun r=>⟨_,_,_,⟨rfl,rfl,rfl⟩,r⟩⟩
theorem ex3' {v0 : AV} {h0 : Heap} {y0 : Esc} : (∃ v h y,(v0 = v ∧ h0 = h ∧ y0 = y) ∧ R v h y) = R v0 h0 y0:=
  propext ⟨fun ⟨_,_,_,⟨h1,h2,h3⟩,r⟩=>by subst h1; subst h2; subst h3; exact r,fun r=>⟨_,_,_,⟨rfl,rfl,rfl⟩,r⟩⟩
theorem doK_op {d : Option Nat} {op : AO} (hp : op.plain = true) : doK C gl ⟨d,none,op⟩ e h R = optK (aop op (Opd.ev gl e) h) R:=by
  have key : ∀ o : Option (AV × Heap × Esc),(∃ v h' y,o = some (v,h',y) ∧ R v h' y) = optK o R:=by
    intro o
    cases o with
    | none=>simp [optK]
    | some z=>obtain ⟨v,h',y⟩:=z; simp only [Option.some.injEq,Prod.mk.injEq,ex3']; rfl
  rw [← key]
  unfold doK ADo
  cases op <;> first | (cases hp; done) | rfl
theorem doK_call {d : Option Nat} {f : Nat} {args : List Opd} : doK C gl ⟨d,none,.call f args⟩ e h R = callE C f (args.map (Opd.ev gl e)) h R:=(rfl)
theorem doK_guard {d : Option Nat} {t : Nat} {b : Bool} {op : AO} : doK C gl ⟨d,some (t,b),op⟩ e h R = wantK (aget e t) b (doK C gl ⟨d,none,op⟩ e h R) (R .skp h []):=by
  have h2 : wanted none e = some true:=(rfl)
  have key : ∀ v,aget e t = v → doK C gl ⟨d,some (t,b),op⟩ e h R = wantK v b (doK C gl ⟨d,none,op⟩ e h R) (R .skp h []):=by
    intro v hv
    unfold wantK
    split
    · rename_i c
      split
      · rename_i hcb
        have hw : wanted (some (t,b)) e = some true:=by simp [wanted,hv,hcb]
        unfold doK ADo
        simp only [hw,h2]
      · rename_i hcb
        have hw : wanted (some (t,b)) e = some false:=by simp [wanted,hv,hcb]
        unfold doK ADo
        simp only [hw,ex3]
    · have hw : wanted (some (t, b)) e = some false := by simp [wanted, hv]
      unfold doK ADo
      simp only [hw,ex3]
    · rename_i h3 h4
      have hw : wanted (some (t,b)) e = none:=by
        simp only [wanted,hv]
      unfold doK ADo
      simp only [hw]
      simp
  exact key _ rfl
theorem doK_mv {d : Option Nat} {q0 : Opd} : doK C gl ⟨d,none,(.mv q0)⟩ e h R = optK (aop (.mv q0) (Opd.ev gl e) h) R:=doK_op rfl
theorem doK_pick {d : Option Nat} {q0 q1 q2 : Opd} : doK C gl ⟨d,none,(.pick q0 q1 q2)⟩ e h R = optK (aop (.pick q0 q1 q2) (Opd.ev gl e) h) R:=doK_op rfl
theorem doK_alloc {d : Option Nat} {q0 : List AV} : doK C gl ⟨d,none,(.alloc q0)⟩ e h R = optK (aop (.alloc q0) (Opd.ev gl e) h) R:=doK_op rfl
theorem doK_box {d : Option Nat} {q0 : Opd} : doK C gl ⟨d,none,(.box q0)⟩ e h R = optK (aop (.box q0) (Opd.ev gl e) h) R:=doK_op rfl
theorem doK_build {d : Option Nat} {q0 : List AV} {q1 : List (Nat × Nat × Opd)} : doK C gl ⟨d,none,(.build q0 q1)⟩ e h R = optK (aop (.build q0 q1) (Opd.ev gl e) h) R:=doK_op rfl
theorem doK_bsl {d : Option Nat} {q0 : Bool} {q1 : Sh} {q2 : Nat} {q3 : PV} {q4 : List (Nat × Opd)} : doK C gl ⟨d,none,(.bsl q0 q1 q2 q3 q4)⟩ e h R = optK (aop (.bsl q0 q1 q2 q3 q4) (Opd.ev gl e) h) R:=doK_op rfl
theorem doK_load {d : Option Nat} {q0 : Sh} {q1 : Opd} : doK C gl ⟨d,none,(.load q0 q1)⟩ e h R = optK (aop (.load q0 q1) (Opd.ev gl e) h) R:=doK_op rfl
theorem doK_store {d : Option Nat} {q0 : Sh} {q1 q2 : Opd} : doK C gl ⟨d,none,(.store q0 q1 q2)⟩ e h R = optK (aop (.store q0 q1 q2) (Opd.ev gl e) h) R:=doK_op rfl
theorem doK_nilchk {d : Option Nat} {q0 : Opd} : doK C gl ⟨d,none,(.nilchk q0)⟩ e h R = optK (aop (.nilchk q0) (Opd.ev gl e) h) R:=doK_op rfl
theorem doK_bin {d : Option Nat} {q0 : BinOp} {q1 q2 : Opd} : doK C gl ⟨d,none,(.bin q0 q1 q2)⟩ e h R = optK (aop (.bin q0 q1 q2) (Opd.ev gl e) h) R:=doK_op rfl
theorem doK_eqa {d : Option Nat} {q0 : List Nat} {q1 : Bool} {q2 q3 : Opd} : doK C gl ⟨d,none,(.eqa q0 q1 q2 q3)⟩ e h R = optK (aop (.eqa q0 q1 q2 q3) (Opd.ev gl e) h) R:=doK_op rfl
theorem doK_isnil {d : Option Nat} {q0 : Nat} {q1 : Bool} {q2 : Opd} : doK C gl ⟨d,none,(.isnil q0 q1 q2)⟩ e h R = optK (aop (.isnil q0 q1 q2) (Opd.ev gl e) h) R:=doK_op rfl
theorem doK_mkif {d : Option Nat} {q0 : Opd} : doK C gl ⟨d,none,(.mkif q0)⟩ e h R = optK (aop (.mkif q0) (Opd.ev gl e) h) R:=doK_op rfl
theorem doK_un {d : Option Nat} {q0 : UnOp} {q1 : Opd} : doK C gl ⟨d,none,(.un q0 q1)⟩ e h R = optK (aop (.un q0 q1) (Opd.ev gl e) h) R:=doK_op rfl
theorem doK_conv {d : Option Nat} {q0 : Cv} {q1 : Opd} : doK C gl ⟨d,none,(.conv q0 q1)⟩ e h R = optK (aop (.conv q0 q1) (Opd.ev gl e) h) R:=doK_op rfl
theorem doK_mkfn {d : Option Nat} {q0 : Nat} {q1 : List Opd} : doK C gl ⟨d,none,(.mkfn q0 q1)⟩ e h R = optK (aop (.mkfn q0 q1) (Opd.ev gl e) h) R:=doK_op rfl
theorem doK_mkmap {d : Option Nat}  : doK C gl ⟨d,none,.mkmap⟩ e h R = optK (aop .mkmap (Opd.ev gl e) h) R:=doK_op rfl
theorem doK_mksl {d : Option Nat} {q0 : Sh} {q1 : PV} {q2 q3 : Opd} : doK C gl ⟨d,none,(.mksl q0 q1 q2 q3)⟩ e h R = optK (aop (.mksl q0 q1 q2 q3) (Opd.ev gl e) h) R:=doK_op rfl
theorem doK_slice {d : Option Nat} {q0 : Sh} {q1 : Opd} {q2 q3 q4 : Option Opd} : doK C gl ⟨d,none,(.slice q0 q1 q2 q3 q4)⟩ e h R = optK (aop (.slice q0 q1 q2 q3 q4) (Opd.ev gl e) h) R:=doK_op rfl
theorem doK_slstr {d : Option Nat} {q0 : Opd} {q1 q2 : Option Opd} : doK C gl ⟨d,none,(.slstr q0 q1 q2)⟩ e h R = optK (aop (.slstr q0 q1 q2) (Opd.ev gl e) h) R:=doK_op rfl
theorem doK_faddr {d : Option Nat} {q0 : Nat} {q1 : Sh} {q2 : Opd} : doK C gl ⟨d,none,(.faddr q0 q1 q2)⟩ e h R = optK (aop (.faddr q0 q1 q2) (Opd.ev gl e) h) R:=doK_op rfl
theorem doK_field {d : Option Nat} {q0 : Nat} {q1 : Sh} {q2 : Opd} : doK C gl ⟨d,none,(.field q0 q1 q2)⟩ e h R = optK (aop (.field q0 q1 q2) (Opd.ev gl e) h) R:=doK_op rfl
theorem doK_iaddr {d : Option Nat} {q0 : Sh} {q1 q2 : Opd} : doK C gl ⟨d,none,(.iaddr q0 q1 q2)⟩ e h R = optK (aop (.iaddr q0 q1 q2) (Opd.ev gl e) h) R:=doK_op rfl
theorem doK_iaddra {d : Option Nat} {q0 : Nat} {q1 : Sh} {q2 q3 : Opd} : doK C gl ⟨d,none,(.iaddra q0 q1 q2 q3)⟩ e h R = optK (aop (.iaddra q0 q1 q2 q3) (Opd.ev gl e) h) R:=doK_op rfl
theorem doK_idxa {d : Option Nat} {q0 : Nat} {q1 : Sh} {q2 q3 : Opd} : doK C gl ⟨d,none,(.idxa q0 q1 q2 q3)⟩ e h R = optK (aop (.idxa q0 q1 q2 q3) (Opd.ev gl e) h) R:=doK_op rfl
theorem doK_idxs {d : Option Nat} {q0 q1 : Opd} : doK C gl ⟨d,none,(.idxs q0 q1)⟩ e h R = optK (aop (.idxs q0 q1) (Opd.ev gl e) h) R:=doK_op rfl
theorem doK_look {d : Option Nat} {kk : Sh × List Nat} {q0 : Bool} {q1 : AV} {q2 q3 : Opd} : doK C gl ⟨d,none,(.look kk q0 q1 q2 q3)⟩ e h R = optK (aop (.look kk q0 q1 q2 q3) (Opd.ev gl e) h) R:=doK_op rfl
theorem doK_mupd {d : Option Nat} {kk : Sh × List Nat} {q0 q1 q2 : Opd} : doK C gl ⟨d,none,(.mupd kk q0 q1 q2)⟩ e h R = optK (aop (.mupd kk q0 q1 q2) (Opd.ev gl e) h) R:=doK_op rfl
theorem doK_ment {d : Option Nat} {kk : Sh × List Nat} {q0 : AV} {q1 q2 : Opd} : doK C gl ⟨d,none,(.ment kk q0 q1 q2)⟩ e h R = optK (aop (.ment kk q0 q1 q2) (Opd.ev gl e) h) R:=doK_op rfl
theorem doK_estore {d : Option Nat} {q0 q1 q2 : Opd} : doK C gl ⟨d,none,(.estore q0 q1 q2)⟩ e h R = optK (aop (.estore q0 q1 q2) (Opd.ev gl e) h) R:=doK_op rfl
theorem doK_mdel {d : Option Nat} {kk : Sh × List Nat} {q0 q1 : Opd} : doK C gl ⟨d,none,(.mdel kk q0 q1)⟩ e h R = optK (aop (.mdel kk q0 q1) (Opd.ev gl e) h) R:=doK_op rfl
theorem doK_ext {d : Option Nat} {q0 : Opd} {q1 : Nat} : doK C gl ⟨d,none,(.ext q0 q1)⟩ e h R = optK (aop (.ext q0 q1) (Opd.ev gl e) h) R:=doK_op rfl
theorem doK_len {d : Option Nat} {q0 : Opd} : doK C gl ⟨d,none,(.len q0)⟩ e h R = optK (aop (.len q0) (Opd.ev gl e) h) R:=doK_op rfl
theorem doK_lens {d : Option Nat} {q0 : Opd} : doK C gl ⟨d,none,(.lens q0)⟩ e h R = optK (aop (.lens q0) (Opd.ev gl e) h) R:=doK_op rfl
theorem doK_lenm {d : Option Nat} {q0 : Opd} : doK C gl ⟨d,none,(.lenm q0)⟩ e h R = optK (aop (.lenm q0) (Opd.ev gl e) h) R:=doK_op rfl
theorem doK_app {d : Option Nat} {q0 : Sh} {q1 q2 : Opd} : doK C gl ⟨d,none,(.app q0 q1 q2)⟩ e h R = optK (aop (.app q0 q1 q2) (Opd.ev gl e) h) R:=doK_op rfl
theorem doK_copy {d : Option Nat} {q0 : Sh} {q1 q2 : Opd} : doK C gl ⟨d,none,(.copy q0 q1 q2)⟩ e h R = optK (aop (.copy q0 q1 q2) (Opd.ev gl e) h) R:=doK_op rfl
theorem doK_mx {d : Option Nat} {q0 : List Opd} : doK C gl ⟨d,none,(.mx q0)⟩ e h R = optK (aop (.mx q0) (Opd.ev gl e) h) R:=doK_op rfl
theorem doK_mn {d : Option Nat} {q0 : List Opd} : doK C gl ⟨d,none,(.mn q0)⟩ e h R = optK (aop (.mn q0) (Opd.ev gl e) h) R:=doK_op rfl
theorem doK_mrange {d : Option Nat} {q0 : Opd} : doK C gl ⟨d,none,(.mrange q0)⟩ e h R = optK (aop (.mrange q0) (Opd.ev gl e) h) R:=doK_op rfl
theorem doK_mentry {d : Option Nat} {q0 : Opd} : doK C gl ⟨d,none,(.mentry q0)⟩ e h R = optK (aop (.mentry q0) (Opd.ev gl e) h) R:=doK_op rfl
theorem doK_new0 {d : Option Nat} {q0 : Sh} : doK C gl ⟨d,none,(.new0 q0)⟩ e h R = optK (aop (.new0 q0) (Opd.ev gl e) h) R:=doK_op rfl
theorem doK_congr {o : AOp} {e e' : List (Nat × AV)} {h h' : Heap} (he : e = e') (hh : h = h') : doK C gl o e h R = doK C gl o e' h' R:=by rw [he,hh]
theorem callE_congr {f : Nat} {a a' : List AV} {h h' : Heap} (ha : a = a') (hh : h = h') : callE C f a h R = callE C f a' h' R:=by rw [ha,hh]
theorem ACall_congr {X : Ctx} {f : Nat} {a a' : List AV} {h h' : Heap} {K : Post} (ha : a = a') (hh : h = h') : ACall X f a h K = ACall X f a' h' K:=by rw [ha,hh]
theorem ADraw_congr {ds : List DOp} {dn dn' : Done} {hs hs' : List Heap} {e e' : List (Nat × AV)} {h h' : Heap} {x x' : Esc} (hd : dn = dn') (hh : hs = hs') (he : e = e') (hhh : h = h') (hx : x = x') : ADraw C gl ds dn hs e h x L = ADraw C gl ds dn' hs' e' h' x' L:=by rw [hd,hh,he,hhh,hx]
theorem drawK_eq {o : DOp} {r : List DOp} {dn : Done} {hs : List Heap} {v : AV} {h' : Heap} {y : Esc} : drawK C gl o r dn hs e h x L v h' y = ((o.eff = false → h' = h ∧ y = []) ∧ (∀ k ∈ o.early,∃ g,hs[k]? = some g ∧ ADo C gl o.op (prune (some o.rd) e) g v g []) ∧
    (∀ j ∈ o.again,∃ q,dn[j]? = some q ∧ ADo C gl q.1 q.2.1 h' q.2.2 h' []) ∧ ADraw C gl r (dn ++ [(o.op,prune (some o.rd) e,v)]) (hs ++ [h]) (put o.op.dst v e) h' (y ++ x) L):=(rfl)
end Go.Am
end
section
/- The abstract machine,part 25: from a call that ends well here to the model's call on a whole world. -/
set_option linter.unusedSimpArgs false
set_option linter.unusedVariables false
namespace Go.Am
variable {P : Program}
theorem heapRel0 (W : World) : HeapRel [] [] W:=⟨rfl,fun id o m h=>by simp at h,fun i j b n n' h=>by simp at h,fun i b n h=>by simp at h⟩
theorem imm0_blk {W : World} {b : Nat} {o : Go.Obj} (hb : W.heap[b]? = some o) : (imm [] [] W).b b = some o:=imm_blk.2 ⟨fun ⟨id,n,h⟩=>by simp at h,hb⟩
theorem imm0_cell {W : World} {b o : Nat} {v : Value} (hb : W.cell? ⟨b,o,none⟩ = some v) : (imm [] [] W).c b o = some v:=imm_some.2 ⟨fun ⟨id,n,h,_⟩=>by simp at h,hb⟩
theorem below_of {W W' : World} {h : Heap} {μ : Mu} (E : (imm [] [] W).le (imm h μ W')) : RowKit.Below W.heap.size W W':=by
  have hz : zed W' = zed W:=Option.some.inj E.z
  have hb : ∀ b,b < W.heap.size → W'.heap[b]? = W.heap[b]?:=fun b hb=>by
    have h1:=Array.getElem?_eq_getElem hb
    rw [h1]
    exact (imm_blk.1 (E.b b _ (imm0_blk h1))).2
  refine ⟨(congrArg World.os hz : (zed W').os = (zed W).os),(congrArg World.tape hz : (zed W').tape = (zed W).tape),(congrArg World.output hz : (zed W').output = (zed W).output),?_,hb⟩
  rcases Nat.eq_zero_or_pos W.heap.size with h0 | h0
  · omega
  · have h1 := hb (W.heap.size - 1) (by omega)
    rw [Array.getElem?_eq_getElem (show W.heap.size - 1 < W.heap.size by omega)] at h1
    have:=(Array.getElem?_eq_some_iff.1 h1).1
    omega
theorem call_enters {X : Ctx} (HX : Fits P X) {f : Nat} {F : AFun} (hF : X.fn f = some F) (args : Array Value) (w : World) : (callFunc f args).run P w = .ok (.enter f args) w:=by
  have hck:=HX.fn f F hF
  unfold chkFun at hck
  split at hck
  · rename_i fn hfn
    split at hck
    · rename_i c hb
      simp only [Bool.and_eq_true,bne_iff_ne,ne_eq] at hck
      exact enters hfn hb hck.2 _ w
    · cases hck
  · cases hck
theorem calls_of {X : Ctx} (HX : Fits P X) {f : Nat} {F : AFun} (hF : X.fn f = some F) {asv : List AV} {K : Post} (H : ACall X f asv [] K) {W : World} {vs : List Value} (hG : GInv X.gl (imm [] [] W)) (hl : asv.length = vs.length)
    (hr : ∀ (j : Nat) (y : AV) (v : Value),asv[j]? = some y → vs[j]? = some v → RAV (imm [] [] W) [] [] y v) :
    Calls P f vs.toArray W fun
      | .returned r,W'=>(∃ v h x μ,K v h x ∧ RAV (imm h μ W') h μ v r) ∧ RowKit.Below W.heap.size W W'
      | _,_=>False:=by
  rcases call_sound HX H [] W vs (heapRel0 W) hG hl hr with ⟨_,q⟩ | ⟨r,w',_,_,_,_,q,_⟩
  case inr=>rw [call_enters HX hF] at q; cases q
  refine q.mono fun e W' he=>?_
  cases e with
  | returned r=>
    obtain ⟨v,h',x,μ',k1,k2,k3,k4,k5⟩:=he
    exact ⟨⟨v,h',x,μ',k1,k2⟩,below_of k4.le⟩
  | panicked _=>exact he
  | outgrown=>exact he
def pints (zs : List Int) : AV:=.p (.sl none (zs.map fun n=>.int .i64 n))
theorem came_nil (W : World) : RAV (imm [] [] W) [] [] (pints []) (.slice none 0 0):=.p _ _ (.nils _ _ _)
theorem came_ints {W : World} {a : Addr} {len cap : Nat} {zs : List Int} (hs : a.spot = none) (hl : len ≤ cap) (hz : len ≤ zs.length) (hc : ∀ i,i < zs.length → W.cell? (a.add i) = some (.int .i64 (zs.getD i 0))) :
    RAV (imm [] [] W) [] [] (pints (zs.take len)) (.slice (some a) len cap):=by
  obtain ⟨b,o,s⟩:=a
  simp only at hs
  subst hs
  refine .p _ _ ?_
  have hlen : ((zs.take len).map fun n=>PV.int .i64 n).length = len:=by simp [hz]
  have hfl : ((zs.take len).map fun n=>PV.int .i64 n).flatMap PV.cells = (zs.take len).map fun n=>PV.int .i64 n:=by
    generalize zs.take len = l
    induction l with
    | nil=>rfl
    | cons n r ih=>simp only [List.map_cons,List.flatMap_cons,ih]; rfl
  by_cases h0 : len = 0
  · subst h0
    simp
    exact .nils _ _ _
  · have key:=RPV.sl (M:=imm [] [] W) none ((zs.take len).map fun n=>PV.int .i64 n) b o cap (fun j=>.int .i64 (zs.getD j 0)) (fun hh=>by rw [hh] at hlen; simp at hlen; omega) (by rw [hlen]; exact hl)
      (fun x hx=>by obtain ⟨n,_,rfl⟩:=List.mem_map.1 hx; rfl)
      (fun j y hy=>by
        rw [hfl] at hy
        have hj : j < len:=by have:=lt_of_get hy; rw [hlen] at this; exact this
        have:=hc j (by omega)
        rw [add_at] at this
        exact imm0_cell this)
      (fun j y hy=>by
        rw [hfl] at hy
        have hj : j < len:=by have:=lt_of_get hy; rw [hlen] at this; exact this
        have hjz : j < zs.length:=by omega
        simp [List.getElem?_take,hj,hjz] at hy
        subst hy
        have : zs.getD j 0 = zs[j]:=by simp [List.getD,hjz]
        rw [this]
        exact .int _ _)
    rwa [hlen] at key
end Go.Am
end
section
/- The abstract machine,part X: the library's functions that have no Go text: comparing strings,finding a byte. -/
set_option linter.unusedSimpArgs false
set_option linter.unusedVariables false
namespace Go.Am
variable {P : Program}
structure ExtRow (P : Program) (f : Nat) (e : Array Value → Sem Value) : Prop where
  row : ∃ fn,P.funcs[f]? = some fn ∧ fn.name ≠ "runtime.NumGoroutine" ∧ fn.body = none ∧ Extern.findNext fn = none ∧ Extern.find fn = some e
theorem ExtRow.run {f : Nat} {e : Array Value → Sem Value} (R : ExtRow P f e) {us : Array Value} {w w' : World} {x : Value} (he : (e us).run P w = .ok x w') : (callFunc f us).run P w = .ok (.value x) w':=by
  obtain ⟨fn,h1,h2,h3,h4,h5⟩:=R.row
  unfold callFunc
  simp [h1,h2,h3,h4,h5,he]
theorem extRow_of {f : Nat} {e : Array Value → Sem Value} (h : (match P.funcs[f]? with | some fn=>fn.name != "runtime.NumGoroutine" && fn.body.isNone && (Extern.findNext fn).isNone | none=>false) = true) (h2 : (P.funcs[f]?).bind Extern.find = some e) : ExtRow P f e:=by
  cases hf : P.funcs[f]? with
  | none=>rw [hf] at h; cases h
  | some fn=>
    rw [hf] at h h2
    simp only [Bool.and_eq_true,bne_iff_ne,ne_eq,Option.isNone_iff_eq_none] at h
    exact ⟨⟨fn,hf,h.1.1,h.1.2,h.2,h2⟩⟩
def idxB (s : List UInt8) (c : UInt8) : Int:=if s.findIdx (· == c) < s.length then (s.findIdx (· == c) : Int) else -1
def cmpL : List UInt8 → List UInt8 → Int
  | [],[]=>0
  | [],_ :: _=>-1
  | _ :: _,[]=>1
  | a :: asv,b :: bs=>if a < b then -1 else if b < a then 1 else cmpL asv bs
theorem ba_get (s : List UInt8) (i : Nat) : (⟨s.toArray⟩ : ByteArray)[i]! = s.getD i 0:=by
  by_cases h : i < s.length
  · rw [getElem!_pos (⟨s.toArray⟩ : ByteArray) i h]
    show s.toArray[i] = _
    simp [h]
  · rw [getElem!_neg (⟨s.toArray⟩ : ByteArray) i h]
    simp [Nat.not_lt.1 h]
    rfl
theorem find_idx (s : List UInt8) (c : UInt8) : (match (List.range (⟨s.toArray⟩ : ByteArray).size).find? fun i=>(⟨s.toArray⟩ : ByteArray)[i]! == c with
    | some i=>(i : Int)
    | none=>-1) = idxB s c:=by
  have hsz : (⟨s.toArray⟩ : ByteArray).size = s.length:=rfl
  have hget : ∀ i,i < s.length → (⟨s.toArray⟩ : ByteArray)[i]! = s.getD i 0:=by
    intro i hi
    exact ba_get s i
  unfold idxB
  rw [hsz]
  by_cases h : s.findIdx (· == c) < s.length
  · rw [if_pos h]
    have hf : (List.range s.length).find? (fun i=>(⟨s.toArray⟩ : ByteArray)[i]! == c) = some (s.findIdx (· == c)):=by
      rw [List.find?_eq_some_iff_getElem]
      refine ⟨?_,s.findIdx (· == c),by simpa using h,by simp,fun j hj=>?_⟩
      · rw [hget _ h]
        have:=List.findIdx_getElem (w:=h)
        simpa [h] using this
      · simp only [List.getElem_range]
        have hj' : j < s.length:=by omega
        rw [hget _ hj']
        have:=List.not_of_lt_findIdx hj
        simpa [hj'] using this
    rw [hf]
  · rw [if_neg h]
    have hf : (List.range s.length).find? (fun i=>(⟨s.toArray⟩ : ByteArray)[i]! == c) = none:=by
      rw [List.find?_eq_none]
      intro i hi
      rw [List.mem_range] at hi
      rw [hget _ hi]
      intro hc
      exact h (List.findIdx_lt_length_of_exists ⟨s[i],List.getElem_mem hi,by simpa [hi] using hc⟩)
    rw [hf]
theorem cmp_cmpL : ∀ (a b : List UInt8),Extern.BytealgCompare.cmp ⟨a.toArray⟩ ⟨b.toArray⟩ = cmpL a b:=by
  have key : ∀ (a b : List UInt8),(match (List.range (min a.length b.length)).find? fun i=>a.getD i 0 != b.getD i 0 with
      | some i=>if a.getD i 0 < b.getD i 0 then (-1 : Int) else 1
      | none=>if a.length < b.length then -1 else if a.length > b.length then 1 else 0) = cmpL a b:=by
    intro a
    induction a with
    | nil=>intro b; cases b <;> simp [cmpL]
    | cons x a ih=>
      intro b
      cases b with
      | nil=>simp [cmpL]
      | cons y b=>
        have hm : min (x :: a).length (y :: b).length = min a.length b.length + 1:=by simp only [List.length_cons]; omega
        rw [hm,List.range_succ_eq_map,List.find?_cons]
        simp only [List.getD_cons_zero]
        by_cases hxy : x = y
        · subst hxy
          have hlt : ¬ x < x:=UInt8.lt_irrefl x
          simp only [bne_self_eq_false,List.find?_map,cmpL,hlt,if_false]
          rw [← ih b]
          have hc : ((fun i=>(x :: a).getD i 0 != (x :: b).getD i 0) ∘ Nat.succ) = fun i=>a.getD i 0 != b.getD i 0:=by
            funext i; simp
          rw [hc]
          cases (List.range (min a.length b.length)).find? fun i=>a.getD i 0 != b.getD i 0 with
          | none=>simp
          | some i=>simp
        · have : (x != y) = true := by simpa using hxy
          rw [this]
          simp only [cmpL,List.getD_cons_zero]
          by_cases h1 : x < y
          · simp [h1]
          · have h2 : y < x:=by
              rcases UInt8.lt_or_lt_of_ne (a:=x) (b:=y) hxy with h | h
              · exact absurd h h1
              · exact h
            simp [h1,h2]
  intro a b
  rw [← key a b]
  unfold Extern.BytealgCompare.cmp
  have sa : (⟨a.toArray⟩ : ByteArray).size = a.length:=rfl
  have sb : (⟨b.toArray⟩ : ByteArray).size = b.length:=rfl
  simp only [sa,sb,ba_get]
  generalize List.find? _ _ = q
  cases q <;> rfl
def extF (fi fc : Nat) (f : Nat) (vs : List PV) : Option PV:=
  bif Nat.beq f fi then (match vs with
    | [.str s,.int .u8 c]=>some (.int .i64 (idxB s (UInt8.ofNat c.toNat)))
    | _=>none)
  else bif Nat.beq f fc then (match vs with
    | [.str a,.str b]=>some (.int .i64 (cmpL a b))
    | _=>none)
  else none
theorem extF_ok {fi fc : Nat} (h1 : ExtRow P fi Extern.BytealgIndexByte.indexByte) (h2 : ExtRow P fc Extern.BytealgCompare.compare) {f : Nat} {vs : List PV} {r : PV} (h : extF fi fc f vs = some r) : ExtOk P f vs r:=by
  intro M w us hM hl hr
  unfold extF at h
  cases e1 : Nat.beq f fi with
  | true=>
    rw [e1] at h
    have e:=Nat.eq_of_beq_eq_true e1
    subst e
    simp only [cond_true] at h
    split at h
    · rename_i s c
      injection h with h
      subst h
      match us,hl with
      | [u,v],_=>
        have q1:=hr 0 _ u rfl rfl
        have q2:=hr 1 _ v rfl rfl
        cases q1; cases q2
        refine ⟨.int .i64 (idxB s (UInt8.ofNat c.toNat)),w,h1.run ?_,WExt.refl w,.int _ _⟩
        rw [← find_idx]
        show (match (List.range (⟨s.toArray⟩ : ByteArray).size).find? fun i=>(⟨s.toArray⟩ : ByteArray)[i]! == UInt8.ofNat c.toNat with | some i=>(pure (goInt i) : Sem Value) | none=>pure (goInt (-1))).run P w = _
        generalize List.find? _ _ = q
        cases q <;> rfl
    · cases h
  | false=>
    rw [e1] at h
    simp only [cond_false] at h
    cases e2 : Nat.beq f fc with
    | true=>
      rw [e2] at h
      have e:=Nat.eq_of_beq_eq_true e2
      subst e
      simp only [cond_true] at h
      split at h
      · rename_i a b
        injection h with h
        subst h
        match us,hl with
        | [u,v],_=>
          have q1:=hr 0 _ u rfl rfl
          have q2:=hr 1 _ v rfl rfl
          cases q1; cases q2
          refine ⟨.int .i64 (cmpL a b),w,h2.run ?_,WExt.refl w,.int _ _⟩
          rw [← cmp_cmpL]
          rfl
      · cases h
    | false=>rw [e2] at h; cases h
theorem ext_call {X : Ctx} {f : Nat} {asv : List AV} {vs : List PV} {h h1 : Heap} {r : PV} {K : Post} (hf : X.fn f = none) (h2 : X.ex2 f asv h = none) (hp : puras h asv = some (vs.map .p,h1)) (hu : unp (vs.map AV.p) = some vs) (hx : X.ext f vs = some r) : ACall X f asv h K = K (.p r) h1 []:=by
  refine propext (ACall.eq (ACall.fold ?_) K)
  unfold Step
  simp only [hf,h2,hp,hu,hx]
  exact ⟨trivial,trivial,trivial⟩
structure GrowRow (P : Program) (f : Nat) (sh : Sh) : Prop where
  enter : ∀ us w,(callFunc f us).run P w = .ok (.enter f us) w
  room : ∀ a w,Calls P f #[.slice a 0 0,.int .i64 0] w fun e w'=>e = .returned (.slice a 0 0) ∧ w' = w
  grow : ∀ a (n : Nat) w,0 < n → n ≤ 1048576 → Calls P f #[.slice a 0 0,.int .i64 n] w fun e w'=>∃ G cs E,e = .returned (.slice (some ⟨w.heap.size,0,none⟩) 0 G) ∧ cs.size = G * shSize sh ∧ w' = w.drew.alloc (.cells cs E)
def growF : List (Nat × Sh) → Nat → List AV → Heap → Option (AV × Heap × Esc)
  | [],_,_,_=>none
  | (g,sh) :: r,f,asv,h=>bif Nat.beq f g then (match asv with
    | [.sl0 _,.p (.int .i64 n)]=>bif decide (0 ≤ n) && decide (n ≤ 1048576) then some (.own h.length 0 0 0,h ++ [.row sh [] 0],[]) else none
    | _=>none) else growF r f asv h
theorem growF_ok {gl : Nat → Option PV} : ∀ (gs : List (Nat × Sh)),(∀ g sh,(g,sh) ∈ gs → GrowRow P g sh) → ∀ {f : Nat} {asv : List AV} {h : Heap} {v : AV} {h' : Heap} {x : Esc},growF gs f asv h = some (v,h',x) →
    CallOk P gl f asv h fun v1 h1 x1=>v1 = v ∧ h1 = h' ∧ x1 = x
  | [],_,f,asv,h,v,h',x,H=>by cases H
  | (g,sh) :: r,hg,f,asv,h,v,h',x,H=>by
    unfold growF at H
    cases e1 : Nat.beq f g with
    | false=>
      rw [e1] at H
      exact growF_ok r (fun g sh hm=>hg g sh (by simp [hm])) H
    | true=>
      rw [e1] at H
      have e:=Nat.eq_of_beq_eq_true e1
      subst e
      have R:=hg f sh (by simp)
      simp only [cond_true] at H
      split at H
      · rename_i sh' n
        cases hb : (decide (0 ≤ n) && decide (n ≤ 1048576)) with
        | false=>rw [hb] at H; cases H
        | true=>
          rw [hb] at H
          simp only [cond_true,Option.some.injEq,Prod.mk.injEq] at H
          obtain ⟨rfl,rfl,rfl⟩:=H
          simp only [Bool.and_eq_true,decide_eq_true_eq] at hb
          intro μ w vs Hh Hg hl hr
          match vs,hl with
          | [u1,u2],_=>
            have q1:=hr 0 _ u1 rfl rfl
            have q2:=(hr 1 _ u2 rfl rfl).p_inv
            cases q1
            cases q2
            obtain ⟨m,hm⟩:=Int.eq_ofNat_of_zero_le hb.1
            subst hm
            refine .inl ⟨R.enter _,?_⟩
            rcases Nat.eq_zero_or_pos m with h0 | h0
            · subst h0
              refine (R.room _ w).mono fun e w' he=>?_
              obtain ⟨rfl,rfl⟩:=he
              obtain ⟨n1,n2⟩:=newNil Hh sh
              refine ⟨_,_,_,_,⟨rfl,rfl,rfl⟩,?_,n1,n2,EscInv.push (by simp [Obj.top])⟩
              exact .own h.length 0 0 0 _ 0 sh [] 0 none (Nat.le_refl _) (by simp) (by rw [← Hh.len]; simp) (by simp) (by simp) (fun _=>rfl)
            · refine (R.grow _ m w h0 (by omega)).mono fun e w' he => ?_
              obtain ⟨G,cs,E,rfl,hcs,rfl⟩:=he
              have hw : WExt w (w.drew.alloc (.cells cs E)):=(WExt.drew w _).trans (WExt.push _ _)
              obtain ⟨n1,n2⟩:=newRow' (sh:=sh) (xs:=[]) Hh hw (b:=w.heap.size) (n:=cs.size) (Nat.le_refl _) (by show w.heap.size < (w.heap.push _).size; simp) (c:=cs) (Block.push (w:=w.drew) cs E) (by simp) (by simp) (by simp)
              refine ⟨_,_,_,_,⟨rfl,rfl,rfl⟩,?_,n1,n2,EscInv.push (by simp [Obj.top])⟩
              refine .own h.length 0 0 0 _ G sh [] 0 (some (w.heap.size,cs.size)) (Nat.zero_le _) (by simp) (by rw [← Hh.len]; simp) (by simp) (by simp) (fun _=>?_)
              exact .inr ⟨by simp,by simp [hcs]⟩
      · cases H
end Go.Am
end
section
/- A text split at a byte. -/
set_option linter.all false
namespace Go.Am
def splitC (c : UInt8) : List UInt8 → List (List UInt8)
  | []=>[[]]
  | b :: r=>if b = c then [] :: splitC c r else match splitC c r with
    | []=>[[b]]
    | p :: q=>(b :: p) :: q
theorem splitC_ne (c : UInt8) : ∀ s,splitC c s ≠ []
  | []=>by simp [splitC]
  | b :: r=>by
    unfold splitC
    split
    · simp
    · split <;> simp
theorem splitC_none {c : UInt8} : ∀ {s : List UInt8},c ∉ s → splitC c s = [s]
  | [],_=>rfl
  | b :: r,h=>by
    simp only [List.mem_cons,not_or] at h
    unfold splitC
    rw [if_neg (fun e=>h.1 e.symm),splitC_none h.2]
theorem splitC_cut {c : UInt8} : ∀ {a b : List UInt8},c ∉ a → splitC c (a ++ c :: b) = a :: splitC c b
  | [],b,_=>by simp [splitC]
  | x :: a,b,h=>by
    simp only [List.mem_cons,not_or] at h
    rw [List.cons_append,splitC.eq_2,if_neg (fun e=>h.1 e.symm),splitC_cut h.2]
theorem splitC_len (c : UInt8) : ∀ s : List UInt8,(splitC c s).length = s.count c + 1
  | []=>rfl
  | b :: r=>by
    unfold splitC
    by_cases e : b = c
    · subst e; rw [if_pos rfl,List.length_cons,splitC_len b r,List.count_cons_self]
    · rw [if_neg e]
      have ih:=splitC_len c r
      rw [List.count_cons_of_ne e]
      split
      · rename_i h; exact absurd h (splitC_ne c r)
      · rename_i p q h; rw [h] at ih; simpa using ih
theorem cut_at {c : UInt8} {s : List UInt8} (h : c ∈ s) : ∃ a b,s = a ++ c :: b ∧ c ∉ a:=by
  induction s with
  | nil=>simp at h
  | cons x r ih=>
    by_cases e : x = c
    · subst e; exact ⟨[],r,rfl,by simp⟩
    · rcases List.mem_cons.1 h with rfl | h
      · exact absurd rfl e
      · obtain ⟨a, b, rfl, hb⟩ := ih h
        exact ⟨x :: a,b,rfl,by simp only [List.mem_cons,not_or]; exact ⟨fun q=>e q.symm,hb⟩⟩
def restC (c : UInt8) : Nat → List UInt8 → List UInt8
  | 0,s=>s
  | k + 1,s=>restC c k ((s.dropWhile (· != c)).drop 1)
theorem dropW {c : UInt8} {a b : List UInt8} (h : c ∉ a) : ((a ++ c :: b).dropWhile (· != c)).drop 1 = b:=by
  induction a with
  | nil=>simp
  | cons x r ih=>
    simp only [List.mem_cons,not_or] at h
    rw [List.cons_append,List.dropWhile_cons,if_pos (by simp; exact fun e=>h.1 e.symm)]
    exact ih h.2
theorem rest_split (c : UInt8) : ∀ (k : Nat) (s : List UInt8),k ≤ s.count c → splitC c (restC c k s) = (splitC c s).drop k ∧ (restC c k s).length ≤ s.length ∧ (restC c k s).count c = s.count c - k
  | 0,s,_=>⟨rfl,Nat.le_refl _,rfl⟩
  | k + 1,s,h=>by
    obtain ⟨a,b,rfl,hb⟩:=cut_at (c:=c) (s:=s) (List.count_pos_iff.1 (by omega))
    have ha : a.count c = 0:=List.count_eq_zero.2 hb
    have hc : (a ++ c :: b).count c = b.count c + 1:=by rw [List.count_append,List.count_cons_self,ha]; omega
    obtain ⟨h1,h2,h3⟩:=rest_split c k b (by omega)
    unfold restC
    rw [dropW hb,splitC_cut hb,List.drop_succ_cons,h1,h3,hc]
    exact ⟨rfl,by simp; omega,by omega⟩
theorem rest_succ (c : UInt8) : ∀ (k : Nat) (s : List UInt8),restC c (k + 1) s = ((restC c k s).dropWhile (· != c)).drop 1
  | 0,s=>rfl
  | k + 1,s=>by
    show restC c (k + 1) _ = _
    rw [rest_succ c k]
    rfl
end Go.Am
end
section
/- A text read line by line. -/
set_option linter.all false
namespace Go.Am
def lnsD (s : List UInt8) : List (List UInt8):=(splitC 10 s).dropLast
def lnsT (s : List UInt8) : Bool:=!((splitC 10 s).getLast?.getD []).isEmpty
def lnsF {σ : Type} (take : σ → List UInt8 → Bool × σ) (tail : Bool) : Nat → List (List UInt8) → σ → (Nat × Bool) × σ
  | i,[],s=>bif tail then ((i,false),s) else ((0,true),s)
  | i,l :: r,s=>bif (take s l).1 then lnsF take tail (i + 1) r (take s l).2 else ((i,false),(take s l).2)
theorem lnsF_nil {σ : Type} {take : σ → List UInt8 → Bool × σ} {tail : Bool} {i : Nat} {s : σ} : lnsF take tail i [] s = bif tail then ((i,false),s) else ((0,true),s):=rfl
theorem lnsF_cons {σ : Type} {take : σ → List UInt8 → Bool × σ} {tail : Bool} {i : Nat} {l : List UInt8} {r : List (List UInt8)} {s : σ} : lnsF take tail i (l :: r) s = bif (take s l).1 then lnsF take tail (i + 1) r (take s l).2 else ((i,false),(take s l).2):=rfl
theorem splitC_last {c : UInt8} : ∀ {s : List UInt8},splitC c (s ++ [c]) = splitC c s ++ [[]]
  | []=>by simp [splitC]
  | b :: r=>by
    have ih:=splitC_last (c:=c) (s:=r)
    rw [List.cons_append,splitC.eq_2,splitC.eq_2,ih]
    split
    · rfl
    · cases h : splitC c r with
      | nil=>exact absurd h (splitC_ne c r)
      | cons p q=>rfl
theorem splitC_end {c : UInt8} : ∀ {s : List UInt8},(splitC c s).getLast? = some [] → s = [] ∨ s.getLast? = some c
  | [],_=>.inl rfl
  | b :: r,h=>by
    right
    rw [splitC.eq_2] at h
    have hr:=splitC_ne c r
    by_cases e : b = c
    · subst e
      rw [if_pos rfl,List.getLast?_cons] at h
      cases hl : (splitC b r).getLast? with
      | none=>simp at hl; exact absurd hl hr
      | some p=>
        rw [hl] at h
        simp at h
        subst h
        rcases splitC_end hl with rfl | h2
        · rfl
        · rw [List.getLast?_cons,h2]; rfl
    · rw [if_neg e] at h
      cases hq : splitC c r with
      | nil=>exact absurd hq hr
      | cons p q=>
        rw [hq] at h
        cases q with
        | nil=>simp at h
        | cons p2 q2=>
          have : (splitC c r).getLast? = some []:=by rw [hq]; simpa using h
          rcases splitC_end this with rfl | h2
          · simp [splitC] at hq
          · rw [List.getLast?_cons,h2]; rfl
theorem lnsD_ended {s : List UInt8} (h : s.getLast? = some 10) : splitC 10 s.dropLast = lnsD s ∧ lnsT s = false:=by
  rcases List.eq_nil_or_concat s with rfl | ⟨r,x,rfl⟩
  · simp at h
  · simp only [List.concat_eq_append] at *
    simp at h
    subst h
    have e:=splitC_last (c:=10) (s:=r)
    unfold lnsD lnsT
    rw [e]
    simp
theorem lnsD_tail {s : List UInt8} (h0 : s ≠ []) (h : s.getLast? ≠ some 10) : ∃ t,splitC 10 s = lnsD s ++ [t] ∧ lnsT s = true:=by
  have hne:=splitC_ne 10 s
  refine ⟨(splitC 10 s).getLast hne,(List.dropLast_concat_getLast hne).symm,?_⟩
  unfold lnsT
  rw [List.getLast?_eq_getLast hne]
  simp only [Option.getD_some,Bool.not_eq_true',List.isEmpty_eq_false_iff]
  intro e
  rcases splitC_end (c:=10) (s:=s) (by rw [List.getLast?_eq_getLast hne,e]) with h1 | h1
  · exact h0 h1
  · exact h h1
end Go.Am
end
section
/- The abstract machine,part L: functions of the library that are met by the kit's contracts: plain values in,plain values out,new memory at most. -/
set_option linter.unusedSimpArgs false
set_option linter.unusedVariables false
namespace Go.Am
variable {P : Program} {gl : Nat → Option PV}
structure PureRow (P : Program) (gl : Nat → Option PV) (f : Nat) (spec : List PV → Option AV) : Prop where
  enter : ∀ us w,(callFunc f us).run P w = .ok (.enter f us) w
  run : ∀ (M : Mem) (w : World) (vs : List PV) (r : AV) (us : List Value),(∀ b o v,M.c b o = some v → w.cell? ⟨b,o,none⟩ = some v) → (∀ b o,M.b b = some o → w.heap[b]? = some o) → GInv gl M → vs.length = us.length →
    (∀ (j : Nat) (y : PV) (v : Value),vs[j]? = some y → us[j]? = some v → RPV M y v) → spec vs = some r →
    Calls P f us.toArray w fun e w'=>∃ x,e = .returned x ∧ WExt w w' ∧ RAV (ExtM M w w') [] [] r x
abbrev PureT:=List (Nat × (List PV → Option AV))
def pureF : PureT → Nat → List AV → Heap → Option (AV × Heap × Esc)
  | [],_,_,_=>none
  | (g,s) :: r,f,asv,h=>bif Nat.beq f g then ((unp asv).bind s).map fun v=>(v,h,[]) else pureF r f asv h
theorem pureF_ok : ∀ (gs : PureT),(∀ g s,(g,s) ∈ gs → PureRow P gl g s) → ∀ {f : Nat} {asv : List AV} {h : Heap} {v : AV} {h' : Heap} {x : Esc},pureF gs f asv h = some (v,h',x) →
    CallOk P gl f asv h fun v1 h1 x1=>v1 = v ∧ h1 = h' ∧ x1 = x
  | [],_,f,asv,h,v,h',x,H=>by cases H
  | (g,s) :: r,hg,f,asv,h,v,h',x,H=>by
    unfold pureF at H
    cases e1 : Nat.beq f g with
    | false=>
      rw [e1] at H
      exact pureF_ok r (fun g sh hm=>hg g sh (by simp [hm])) H
    | true=>
      rw [e1] at H
      have e:=Nat.eq_of_beq_eq_true e1
      subst e
      have R:=hg f s (by simp)
      simp only [cond_true] at H
      obtain ⟨y,hy,e2⟩:=Option.map_eq_some_iff.1 H
      simp only [Prod.mk.injEq] at e2
      obtain ⟨rfl,rfl,rfl⟩:=e2
      obtain ⟨ps,hps,hs⟩:=Option.bind_eq_some_iff.1 hy
      have hm:=unp_spec hps
      subst hm
      intro μ w vs Hh Hg hl hr
      refine .inl ⟨R.enter _,?_⟩
      refine (R.run (imm h μ w) w ps y vs (fun b o v hv=>(imm_some.1 hv).2) (fun b o hv=>(imm_blk.1 hv).2) Hg (by simpa using hl) (fun j q v hq hv=>(hr j (.p q) v (by simp [hq]) hv).p_inv) hs).mono fun e w' he=>?_
      obtain ⟨u,rfl,g1,g2⟩:=he
      obtain ⟨n1,n2⟩:=Hh.ext g1
      have Lq : (ExtM (imm h μ w) w w').le (imm h μ w'):=by
        refine ⟨fun b o v hv=>?_,fun b o hv=>?_,rfl,fun _ _ h=>by cases h⟩
        · dsimp only [ExtM] at hv
          split at hv
          · exact n2.le.c _ _ _ hv
          · rename_i hb
            exact imm_some.2 ⟨fun hO=>hb (owned_lt Hh hO),hv⟩
        · dsimp only [ExtM] at hv
          cases hv
      exact ⟨_,_,_,μ,⟨rfl,rfl,rfl⟩,g2.evo ⟨Lq,Nat.zero_le _,fun id o m h1=>by simp at h1⟩,n1,n2,EscInv.refl h []⟩
def libF (gs : List (Nat × Sh)) (ps : PureT) (f : Nat) (asv : List AV) (h : Heap) : Option (AV × Heap × Esc):=match growF gs f asv h with
  | some y=>some y
  | none=>match pureF ps f asv h with
    | some y=>some y
    | none=>match puras h asv with
      | some (asv',h1)=>pureF ps f asv' h1
      | none=>none
theorem pureF_own {ps : PureT} (hp : ∀ g s,(g,s) ∈ ps → PureRow P gl g s) {f : Nat} {asv asv' : List AV} {h h1 : Heap} {v : AV} {h' : Heap} {x : Esc} (hq : puras h asv = some (asv',h1)) (H : pureF ps f asv' h1 = some (v,h',x)) :
    CallOk P gl f asv h fun v1 h2 x1=>v1 = v ∧ h2 = h' ∧ x1 = x:=by
  intro μ w vs Hh Hg hl hr
  obtain ⟨q1,q2,q3⟩:=puras_ok asv Hh hl hr hq
  rcases pureF_ok ps hp H μ w vs q1.1 (Hg.mono q1.2.1.le) q2 q3 with ⟨k1,k2⟩ | ⟨r,w',v2,h2,x2,μ',k1,k2,k3,k4,k5,k6⟩
  · refine .inl ⟨k1, k2.mono fun e w' he => ?_⟩
    cases e with
    | returned r=>
      obtain ⟨v2,h2,x2,μ',k2,k3,k4,k5,k6⟩:=he
      exact ⟨v2,h2,x2,μ',k2,k3,k4,q1.2.1.trans k5,by simpa using q1.2.2.trans k6⟩
    | panicked _=>exact he
    | outgrown=>exact he
  · exact .inr ⟨r,w',v2,h2,x2,μ',k1,k2,k3,k4,q1.2.1.trans k5,by simpa using q1.2.2.trans k6⟩
theorem libF_ok {gs : List (Nat × Sh)} {ps : PureT} (hg : ∀ g sh,(g,sh) ∈ gs → GrowRow P g sh) (hp : ∀ g s,(g,s) ∈ ps → PureRow P gl g s) {f : Nat} {asv : List AV} {h : Heap} {v : AV} {h' : Heap} {x : Esc} (H : libF gs ps f asv h = some (v,h',x)) :
    CallOk P gl f asv h fun v1 h1 x1=>v1 = v ∧ h1 = h' ∧ x1 = x:=by
  unfold libF at H
  split at H
  · rename_i y hy
    cases H
    exact growF_ok gs hg hy
  · split at H
    · rename_i y hy
      cases H
      exact pureF_ok ps hp hy
    · split at H
      · rename_i asv' h1 hq
        exact pureF_own hp hq H
      · cases H
theorem lib_call {X : Ctx} {f : Nat} {asv : List AV} {h h' : Heap} {v : AV} {x : Esc} {K : Post} (hf : X.fn f = none) (hx : X.ex2 f asv h = some (v,h',x)) : ACall X f asv h K = K v h' x:=by
  refine propext (ACall.eq (ACall.fold ?_) K)
  unfold Step
  simp only [hf,hx]
  exact ⟨trivial,trivial,trivial⟩
def growSh : List (Nat × Sh) → Nat → Option Sh
  | [],_=>none
  | (g,s) :: r,f=>bif Nat.beq f g then some s else growSh r f
theorem growF_miss : ∀ {gs : List (Nat × Sh)} {f : Nat} {asv : List AV} {h : Heap},growSh gs f = none → growF gs f asv h = none
  | [],f,asv,h,_=>rfl
  | (g,s) :: r,f,asv,h,hm=>by
    unfold growSh at hm
    unfold growF
    cases hq : Nat.beq f g with
    | true=>rw [hq] at hm; cases hm
    | false=>rw [hq] at hm; exact growF_miss hm
def pureSp : PureT → Nat → Option (List PV → Option AV)
  | [],_=>none
  | (g,s) :: r,f=>bif Nat.beq f g then some s else pureSp r f
theorem pureF_hit : ∀ {gs : PureT} {f : Nat} {s : List PV → Option AV} {asv : List AV} {h : Heap},pureSp gs f = some s → pureF gs f asv h = ((unp asv).bind s).map fun v=>(v,h,[])
  | [],f,s,asv,h,hm=>by cases hm
  | (g,s') :: r,f,s,asv,h,hm=>by
    unfold pureSp at hm
    unfold pureF
    cases hq : Nat.beq f g with
    | true=>rw [hq] at hm; cases hm; rfl
    | false=>rw [hq] at hm; exact pureF_hit hm
theorem libF_pure {gs : List (Nat × Sh)} {ps : PureT} {f : Nat} {s : List PV → Option AV} {asv : List AV} {vs : List PV} {v : AV} {h : Heap} (hg : growSh gs f = none) (hm : pureSp ps f = some s) (hu : unp asv = some vs) (hv : s vs = some v) : libF gs ps f asv h = some (v,h,[]):=by
  unfold libF; rw [growF_miss hg,pureF_hit hm,hu]; simp [hv]
def glOf : List (Nat × PV) → Nat → Option PV
  | [],_=>none
  | (g,v) :: r,n=>bif Nat.beq n g then some v else glOf r n
theorem enters_chk {f : Nat} (h : (match P.funcs[f]? with | some fn=>fn.body.isSome && fn.name != "runtime.NumGoroutine" | none=>false) = true) (us : Array Value) (w : World) : (callFunc f us).run P w = .ok (.enter f us) w:=by
  cases hf : P.funcs[f]? with
  | none=>rw [hf] at h; cases h
  | some fn=>
    rw [hf] at h
    simp only [Bool.and_eq_true,bne_iff_ne,ne_eq] at h
    cases hb : fn.body with
    | none=>rw [hb] at h; cases h.1
    | some c=>exact enters hf hb h.2 us w
def digC (n : Nat) : UInt8:=UInt8.ofNat (48 + n)
def decN (n : Nat) : List UInt8:=if n < 10 then [digC n] else decN (n / 10) ++ [digC (n % 10)]
termination_by n
decreasing_by omega
def itoa (n : Int) : List UInt8:=if n < 0 then 45 :: decN n.natAbs else decN n.natAbs
theorem decN_lt {n : Nat} (h : n < 10) : decN n = [digC n]:=by rw [decN,if_pos h]
theorem decN_ge {n : Nat} (h : 10 ≤ n) : decN n = decN (n / 10) ++ [digC (n % 10)]:=by rw [decN,if_neg (by omega)]
def itoaS : List PV → Option AV
  | [.int .i64 n]=>bif decide (-9223372036854775808 ≤ n) && decide (n ≤ 9223372036854775807) then some (.p (.str (itoa n))) else none
  | _=>none
def pow10PV : PV:=.agg ((List.range 20).map fun i=>.int .u64 ((10 ^ i : Nat) : Int))
def digN : Nat → List UInt8 → Option Nat
  | acc,[]=>some acc
  | acc,c :: r=>if 48 ≤ c.toNat ∧ c.toNat ≤ 57 then digN (acc * 10 + (c.toNat - 48)) r else none
def atoiS : List PV → Option AV
  | [.str s]=>if 1 ≤ s.length ∧ s.length ≤ 18 then match digN 0 s with
    | some n=>some (.tup [.p (.int .i64 (n : Int)),.nili])
    | none=>if s.head? = some 45 ∧ 2 ≤ s.length then (digN 0 s.tail).map fun (n : Nat)=>.tup [.p (.int .i64 (-(n : Int))),.nili] else none
    else none
  | _=>none
theorem digN_snoc : ∀ (a : List UInt8) (acc : Nat) (c : UInt8),digN acc (a ++ [c]) = (digN acc a).bind fun n=>if 48 ≤ c.toNat ∧ c.toNat ≤ 57 then some (n * 10 + (c.toNat - 48)) else none
  | [],acc,c=>by
    simp only [List.nil_append,digN,Option.bind_some]
  | d :: a,acc,c=>by
    simp only [List.cons_append,digN]
    split
    · exact digN_snoc a _ c
    · rfl
theorem digC_nat {n : Nat} (h : n < 10) : (digC n).toNat = 48 + n:=by
  simp only [digC,UInt8.toNat_ofNat']
  omega
theorem digN_dec : ∀ (n : Nat),digN 0 (decN n) = some n:=by
  intro n
  induction n using Nat.strongRecOn with
  | _ n ih=>
    rcases Nat.lt_or_ge n 10 with h | h
    · rw [decN_lt h]
      simp only [digN,digC_nat h]
      rw [if_pos (by omega)]
      congr 1
      omega
    · rw [decN_ge h, digN_snoc, ih (n / 10) (by omega)]
      have h2:=digC_nat (show n % 10 < 10 by omega)
      simp only [Option.bind_some,h2]
      rw [if_pos (by omega)]
      congr 1
      omega
theorem decN_len : ∀ (k n : Nat),n < 10 ^ (k + 1) → 1 ≤ (decN n).length ∧ (decN n).length ≤ k + 1
  | 0,n,h=>by rw [decN_lt (by simpa using h)]; simp
  | k + 1,n,h=>by
    rcases Nat.lt_or_ge n 10 with h1 | h1
    · rw [decN_lt h1]; simp
    · have := decN_len k (n / 10) (by rw [Nat.div_lt_iff_lt_mul (by omega)]; rw [Nat.pow_succ] at h; exact h)
      rw [decN_ge h1]
      simp; omega
def trimL (s cs : List UInt8) : List UInt8:=(s.reverse.dropWhile (cs.contains ·)).reverse.dropWhile (cs.contains ·)
def trimS : List PV → Option AV
  | [.str s,.str cs]=>if s.length ≤ 1000000 ∧ cs.length ≤ 1000 ∧ cs.all (fun b=>decide (b.toNat < 128)) = true then some (.p (.str (trimL s cs))) else none
  | _=>none
def countS : List PV → Option AV
  | [.str s,.str [c]]=>some (.p (.int .i64 (s.count c)))
  | _=>none
end Go.Am
end
section
/- Numbers in texts. -/
set_option linter.all false
namespace Go.Am
def digB (c : UInt8) : Bool:=decide (48 ≤ c.toNat) && decide (c.toNat ≤ 57)
def noMin (s : List UInt8) : List UInt8:=if s.take 1 = [45] then s.drop 1 else s
def numF (digits : Nat) (s : List UInt8) : Bool:=!(noMin s).isEmpty && decide ((noMin s).length ≤ digits) && !(decide ((noMin s).head? = some 48) && (decide (1 < (noMin s).length) || decide ((noMin s).length < s.length))) && (noMin s).all digB
def numV (s : List UInt8) : Int:=if s.take 1 = [45] then -(((digN 0 (noMin s)).getD 0 : Nat) : Int) else ((digN 0 (noMin s)).getD 0 : Nat)
theorem digN_all : ∀ (s : List UInt8) (acc : Nat),s.all digB = true → ∃ n,digN acc s = some n
  | [],acc,_=>⟨acc,rfl⟩
  | c :: r,acc,h=>by
    simp only [List.all_cons,Bool.and_eq_true] at h
    obtain ⟨n,hn⟩:=digN_all r (acc * 10 + (c.toNat - 48)) h.2
    refine ⟨n,?_⟩
    have hc : 48 ≤ c.toNat ∧ c.toNat ≤ 57:=by simpa [digB] using h.1
    unfold digN
    rw [if_pos hc,hn]
theorem digN_45 {r : List UInt8} : digN 0 (45 :: r) = none:=by
  unfold digN
  rw [if_neg]
  decide
theorem atoi_num {s : List UInt8} (h1 : noMin s ≠ []) (h2 : (noMin s).length ≤ 17) (h : (noMin s).all digB = true) : atoiS [.str s] = some (.tup [.p (.int .i64 (numV s)),.nili]):=by
  obtain ⟨n,hn⟩:=digN_all (noMin s) 0 h
  unfold atoiS numV
  by_cases e : s.take 1 = [45]
  · have ed : noMin s = s.drop 1 := by unfold noMin; rw [if_pos e]
    cases s with
    | nil=>simp at e
    | cons c r=>
      simp at e
      subst e
      rw [ed] at h1 h2 hn
      simp only [List.drop_one,List.tail_cons] at h1 h2 hn
      have hr : 1 ≤ r.length:=by cases r with | nil=>exact absurd rfl h1 | cons _ _=>simp
      simp only [List.length_cons]
      rw [if_pos ⟨by omega,by omega⟩,digN_45]
      simp only [List.head?_cons,List.tail_cons]
      rw [if_pos ⟨trivial,by omega⟩,hn,ed]
      simp [hn]
  · have ed : noMin s = s := by unfold noMin; rw [if_neg e]
    rw [ed] at h1 h2 hn
    have hr : 1 ≤ s.length:=by cases s with | nil=>exact absurd rfl h1 | cons _ _=>simp
    simp only
    rw [if_pos ⟨hr,by omega⟩,hn,if_neg e,ed,hn]
    rfl
theorem decN_head : ∀ (n : Nat),(decN n).head? = some 48 → n = 0:=by
  intro n
  induction n using Nat.strongRecOn with
  | ind n ih=>
    intro h
    rcases Nat.lt_or_ge n 10 with h1 | h1
    · rw [decN_lt h1] at h
      simp only [List.head?_cons,Option.some.injEq] at h
      have:=congrArg UInt8.toNat h
      rw [digC_nat h1] at this
      have e : (48 : UInt8).toNat = 48:=rfl
      omega
    · rw [decN_ge h1] at h
      have hl:=decN_len (n / 10) (n / 10) (by have:=@Nat.lt_pow_self (n / 10 + 1) 10 (by omega); omega)
      have : (decN (n / 10)).head? = some 48:=by
        cases hq : decN (n / 10) with
        | nil=>rw [hq] at hl; simp at hl
        | cons a r=>rw [hq] at h; simpa using h
      have:=ih (n / 10) (by omega) this
      omega
end Go.Am
end
section
/- Plain lists: insertion sort asv Go's package slices does it on short lists; deleting; compacting. -/
namespace Go.Am
variable {α : Type}
end Go.Am
namespace Go.Am
variable {α : Type}
end Go.Am
end
section
/- Faults of nets: what the words mean,in plain Lean. -/
set_option linter.all false
namespace Go.Am
structure Flt where
  kind : Int
  nets : List Int
  deriving DecidableEq
def outN (n : Int) (x : Int) : Bool:=decide (x < 0) || decide (n - 1 < x)
def shortK (k : Int) : Bool:=decide (3 ≤ k) && decide (k ≤ 5)
def risL : List Int → Bool
  | a :: b :: r=>decide (a < b) && risL (b :: r)
  | _=>true
def fltF (n : Int) (f : Flt) : Int:=
  if n < 1 ∨ 100 < n then 1 else if f.kind < 1 ∨ 6 < f.kind then 4 else if f.nets.length = 0 then 8 else if 6 < f.nets.length then 2
  else if f.nets.any (outN n) = true then 1 else if shortK f.kind ≠ decide (1 < f.nets.length) then 3
  else if risL (if f.kind = 5 then f.nets.drop 1 else f.nets) = false then 7
  else if f.kind = 5 ∧ (f.nets.drop 1).contains (f.nets.headD 0) = true then 6 else 0
def fltsF (n : Int) : List Flt → Int
  | []=>0
  | f :: r=>if fltF n f ≠ 0 then fltF n f else fltsF n r
theorem risL_take (l : List Int) (k : Nat) (hk : k + 1 < l.length) : risL (l.drop k) = (decide (l[k] < l[k + 1]) && risL (l.drop (k + 1))):=by
  rw [List.drop_eq_getElem_cons (show k < l.length by omega),List.drop_eq_getElem_cons hk]
  rfl
theorem risL_end (l : List Int) (k : Nat) (hk : l.length ≤ k + 1) : risL (l.drop k) = true:=by
  have : (l.drop k).length ≤ 1:=by simp; omega
  match l.drop k,this with
  | [],_=>rfl
  | [a],_=>rfl
  | _ :: _ :: _,h=>simp at h
end Go.Am
end
section
/- Faults read: the program's line and the reference's line agree. -/
set_option linter.all false
namespace Go.Am
def wordsK : List (List UInt8):=[[],[115,116,117,99,107,48],[115,116,117,99,107,49],[97,110,100],[111,114],[102,105,114,115,116],[111,112,101,110]]
def kW (w : List UInt8) : Nat:=wordsK.findIdx fun y=>decide (y = w)
def readP (line : List UInt8) : Bool × Flt:=
  if ((splitC 32 line).tail.all (numF 15) && !(splitC 32 line).tail.isEmpty && (decide (1 ≤ kW ((splitC 32 line).headD [])) && decide (kW ((splitC 32 line).headD []) ≤ 6))) = true
  then (true,⟨(kW ((splitC 32 line).headD []) : Nat),(splitC 32 line).tail.map numV⟩) else (false,⟨0,[]⟩)
theorem kW_get {w : List UInt8} (h : kW w < 7) : wordsK[kW w]? = some w:=by
  have hl : kW w < wordsK.length:=h
  have:=List.findIdx_getElem (w:=hl)
  rw [List.getElem?_eq_getElem hl]
  have e:=of_decide_eq_true this
  exact congrArg some e
def rdP (w : List UInt8) (r : List (List UInt8)) : Bool × Flt:=if (r.all (numF 15) && !r.isEmpty && (decide (1 ≤ kW w) && decide (kW w ≤ 6))) = true then (true,⟨(kW w : Nat),r.map numV⟩) else (false,⟨0,[]⟩)
def takeP (fs : List Flt) (line : List UInt8) : Bool × List Flt:=((readP line).1,fs ++ [(readP line).2])
end Go.Am
end
section
/- What is written is read: numbers,words,lines. -/
set_option linter.all false
namespace Go.Am
theorem decN_ne : ∀ n,decN n ≠ []:=fun n h=>by
  have:=decN_len n n (by have:=@Nat.lt_pow_self (n + 1) 10 (by omega); omega)
  rw [h] at this
  simp at this
theorem digB_digC {n : Nat} (h : n < 10) : digB (digC n) = true:=by
  unfold digB
  rw [digC_nat h]
  simp
  omega
theorem decN_all : ∀ (n : Nat),(decN n).all digB = true:=by
  intro n
  induction n using Nat.strongRecOn with
  | ind n ih=>
    rcases Nat.lt_or_ge n 10 with h1 | h1
    · rw [decN_lt h1]
      simp [digB_digC h1]
    · rw [decN_ge h1, List.all_append, ih (n / 10) (by omega)]
      simp [digB_digC (show n % 10 < 10 by omega)]
theorem decN_mem {n : Nat} {c : UInt8} (h : c ∈ decN n) : 48 ≤ c.toNat ∧ c.toNat ≤ 57:=by
  have:=List.all_eq_true.1 (decN_all n) c h
  simpa [digB] using this
theorem noMin_dec (n : Nat) : noMin (decN n) = decN n:=by
  unfold noMin
  rw [if_neg]
  intro h
  cases hq : decN n with
  | nil=>exact decN_ne n hq
  | cons a r=>
    rw [hq] at h
    simp at h
    have:=decN_mem (n:=n) (c:=a) (by rw [hq]; simp)
    rw [h] at this
    have e : (45 : UInt8).toNat = 45:=rfl
    omega
theorem noMin_itoa (n : Int) : noMin (itoa n) = decN n.natAbs:=by
  unfold itoa
  split
  · simp [noMin]
  · exact noMin_dec _
theorem numV_itoa (n : Int) : numV (itoa n) = n:=by
  unfold numV
  rw [noMin_itoa,digN_dec]
  simp only [Option.getD_some]
  unfold itoa
  by_cases h : n < 0
  · rw [if_pos h]
    simp
    omega
  · rw [if_neg h]
    have:=noMin_dec n.natAbs
    have hne : ¬ (decN n.natAbs).take 1 = [45]:=by
      intro q
      unfold noMin at this
      rw [if_pos q] at this
      have hl:=congrArg List.length this
      rw [List.length_drop] at hl
      have:=decN_ne n.natAbs
      have : 0 < (decN n.natAbs).length:=List.length_pos_iff.2 this
      omega
    rw [if_neg hne]
    omega
theorem numF_itoa {d : Nat} {n : Int} (h : n.natAbs < 10 ^ d) (hd : 0 < d) : numF d (itoa n) = true:=by
  obtain ⟨k,rfl⟩ : ∃ k,d = k + 1:=⟨d - 1,by omega⟩
  have hl:=decN_len k n.natAbs h
  have ha:=decN_all n.natAbs
  have hne:=decN_ne n.natAbs
  have hh : decide ((decN n.natAbs).head? = some 48) = true → n.natAbs = 0:=fun e=>decN_head _ (of_decide_eq_true e)
  unfold numF
  rw [noMin_itoa]
  have e1 : (decN n.natAbs).isEmpty = false:=by cases hq : decN n.natAbs with | nil=>exact absurd hq hne | cons _ _=>rfl
  have e2 : decide ((decN n.natAbs).length ≤ k + 1) = true:=by simpa using hl.2
  rw [e1,e2,ha]
  cases hz : decide ((decN n.natAbs).head? = some 48) with
  | false=>rfl
  | true=>
    have h0 : n = 0:=by have:=hh hz; omega
    subst h0
    have e0 : decN (Int.natAbs 0) = [48]:=by rw [show Int.natAbs 0 = 0 from rfl,decN_lt (by omega)]; rfl
    have e9 : itoa 0 = [48]:=by unfold itoa; rw [if_neg (by omega)]; exact e0
    rw [e0,e9]
    rfl
theorem itoa_mem {n : Int} {c : UInt8} (h : c ∈ itoa n) : c.toNat = 45 ∨ 48 ≤ c.toNat ∧ c.toNat ≤ 57:=by
  unfold itoa at h
  split at h
  · rcases List.mem_cons.1 h with rfl | h
    · exact .inl rfl
    · exact .inr (decN_mem h)
  · exact .inr (decN_mem h)
theorem splitC_inter {c : UInt8} : ∀ (ws : List (List UInt8)),ws ≠ [] → (∀ w ∈ ws,c ∉ w) → splitC c (([c] : List UInt8).intercalate ws) = ws
  | [],h,_=>absurd rfl h
  | [w],_,h=>by
    have : ([c] : List UInt8).intercalate [w] = w:=by simp [List.intercalate]
    rw [this,splitC_none (h w (by simp))]
  | w :: v :: r,_,h=>by
    have ih:=splitC_inter (v :: r) (by simp) (fun x hx=>h x (by simp [hx]))
    have e : ([c] : List UInt8).intercalate (w :: v :: r) = w ++ c :: ([c] : List UInt8).intercalate (v :: r):=by
      simp [List.intercalate,List.intersperse]
    rw [e,splitC_cut (h w (by simp)),ih]
theorem splitC_lines {c : UInt8} : ∀ (ls : List (List UInt8)),(∀ l ∈ ls,c ∉ l) → splitC c (ls.map fun l=>l ++ [c]).flatten = ls ++ [[]]
  | [],_=>by simp [splitC]
  | l :: r,h=>by
    have ih:=splitC_lines r (fun x hx=>h x (by simp [hx]))
    have e : ((l :: r).map fun l=>l ++ [c]).flatten = l ++ c :: (r.map fun l=>l ++ [c]).flatten:=by simp
    rw [e,splitC_cut (h l (by simp)),ih]
    rfl
theorem lns_lines {ls : List (List UInt8)} (h : ∀ l ∈ ls,(10 : UInt8) ∉ l) : lnsD (ls.map fun l=>l ++ [10]).flatten = ls ∧ lnsT (ls.map fun l=>l ++ [10]).flatten = false:=by
  unfold lnsD lnsT
  rw [splitC_lines ls h]
  simp
def wordK (k : Int) : List UInt8:=(wordsK[k.toNat]?).getD []
def numsL (l : List Int) : List UInt8:=([32] : List UInt8).intercalate (l.map itoa)
def faultLine0 (f : Flt) : List UInt8:=wordK f.kind ++ 32 :: numsL f.nets
theorem wordK_no {c : UInt8} (hc : c.toNat < 48) (k : Int) : c ∉ wordK k:=by
  intro h
  unfold wordK at h
  cases hq : wordsK[k.toNat]? with
  | none=>rw [hq] at h; simp at h
  | some w=>
    rw [hq] at h
    have hw : w ∈ wordsK:=List.mem_of_getElem? hq
    have : ∀ w ∈ wordsK,∀ x ∈ w,48 ≤ x.toNat:=by decide
    have:=this w hw c h
    omega
theorem kW_wordK {k : Int} (h1 : 1 ≤ k) (h2 : k ≤ 6) : (kW (wordK k) : Int) = k:=by
  obtain ⟨n,rfl⟩:=Int.eq_ofNat_of_zero_le (show 0 ≤ k by omega)
  have : n = 1 ∨ n = 2 ∨ n = 3 ∨ n = 4 ∨ n = 5 ∨ n = 6:=by omega
  rcases this with rfl | rfl | rfl | rfl | rfl | rfl <;> decide
theorem numsL_no {c : UInt8} (hc : c.toNat < 45) (h32 : c ≠ 32) : ∀ (l : List Int),c ∉ numsL l
  | []=>by simp [numsL,List.intercalate]
  | [x]=>by
    intro h
    have e : numsL [x] = itoa x:=by simp [numsL,List.intercalate]
    rw [e] at h
    have:=itoa_mem h
    omega
  | x :: y :: r=>by
    intro h
    have e : numsL (x :: y :: r) = itoa x ++ 32 :: numsL (y :: r):=by
      unfold numsL
      simp [List.intercalate,List.intersperse]
    rw [e] at h
    rcases List.mem_append.1 h with h | h
    · have:=itoa_mem h; omega
    · rcases List.mem_cons.1 h with h | h
      · exact h32 h
      · exact numsL_no hc h32 (y :: r) h
theorem itoa_no32 (n : Int) : (32 : UInt8) ∉ itoa n:=fun h=>by
  have:=itoa_mem h
  have e : (32 : UInt8).toNat = 32:=rfl
  omega
theorem split_faultLine (f : Flt) (h : f.nets ≠ []) : splitC 32 (faultLine0 f) = wordK f.kind :: f.nets.map itoa:=by
  unfold faultLine0
  rw [splitC_cut (wordK_no (by decide) _)]
  congr 1
  exact splitC_inter _ (by simpa using h) (fun w hw=>by obtain ⟨n,_,rfl⟩:=List.mem_map.1 hw; exact itoa_no32 n)
theorem readP_line (f : Flt) (h : f.nets ≠ []) (h1 : 1 ≤ f.kind) (h2 : f.kind ≤ 6) (hb : ∀ n ∈ f.nets,n.natAbs < 10 ^ 15) : readP (faultLine0 f) = (true,f):=by
  have hk:=kW_wordK h1 h2
  have ha : (f.nets.map itoa).all (numF 15) = true:=by
    rw [List.all_map,List.all_eq_true]
    exact fun n hn=>numF_itoa (hb n hn) (by omega)
  have hm : (f.nets.map itoa).map numV = f.nets:=by
    rw [List.map_map]
    exact (List.map_congr_left fun n _=>numV_itoa n).trans (List.map_id _)
  have hne : (f.nets.map itoa).isEmpty = false:=by cases hq : f.nets with | nil=>exact absurd hq h | cons _ _=>rfl
  unfold readP
  rw [split_faultLine f h]
  show rdP (wordK f.kind) (f.nets.map itoa) = _
  unfold rdP
  rw [if_pos,hm,hk]
  rw [ha,hne]
  simp
  omega
theorem faultLine_no10 (f : Flt) : (10 : UInt8) ∉ faultLine0 f:=by
  unfold faultLine0
  rw [List.mem_append,List.mem_cons,not_or,not_or]
  exact ⟨wordK_no (by decide) _,by decide,numsL_no (by decide) (by decide) _⟩
theorem read_lines : ∀ (fs : List Flt) (i : Nat) (acc : List Flt),(∀ f ∈ fs,readP (faultLine0 f) = (true,f)) → lnsF takeP false i (fs.map faultLine0) acc = ((0,true),acc ++ fs)
  | [],i,acc,_=>by simp [lnsF_nil]
  | f :: r,i,acc,h=>by
    rw [List.map_cons,lnsF_cons]
    have e : takeP acc (faultLine0 f) = (true,acc ++ [f]):=by unfold takeP; rw [h f (by simp)]
    rw [e]
    simp only [cond_true]
    rw [read_lines r (i + 1) (acc ++ [f]) (fun x hx=>h x (by simp [hx]))]
    simp
end Go.Am
end
section
/- The numbers of the functions in this translation. -/
namespace Go.Am
abbrev f_q000 : Nat:=190
abbrev f_q001 : Nat:=106
abbrev f_q002 : Nat:=214
abbrev f_q003 : Nat:=87
abbrev f_q004 : Nat:=150
abbrev f_q005 : Nat:=172
abbrev f_q006 : Nat:=158
abbrev f_q007 : Nat:=263
abbrev f_q008 : Nat:=202
abbrev f_q009 : Nat:=160
abbrev f_q00a : Nat:=105
abbrev f_q00c : Nat:=164
abbrev f_q00d : Nat:=206
abbrev f_q00g : Nat:=116
abbrev f_q00h : Nat:=301
abbrev f_q00i : Nat:=296
abbrev f_q00j : Nat:=207
abbrev f_q00k : Nat:=249
abbrev f_q00l : Nat:=299
abbrev f_q00m : Nat:=319
abbrev f_q00n : Nat:=329
abbrev f_q00o : Nat:=297
abbrev f_q00p : Nat:=250
abbrev f_q00q : Nat:=165
abbrev f_q00r : Nat:=166
abbrev f_q00s : Nat:=251
abbrev f_q00t : Nat:=300
abbrev f_q00u : Nat:=320
abbrev f_q00v : Nat:=149
abbrev f_q00y : Nat:=303
abbrev f_q00z : Nat:=175
abbrev f_q012 : Nat:=26
abbrev f_q013 : Nat:=59
abbrev f_q014 : Nat:=136
abbrev f_q015 : Nat:=53
abbrev f_q01a : Nat:=46
abbrev f_q01b : Nat:=107
abbrev f_q01e : Nat:=83
abbrev f_q01g : Nat:=43
abbrev f_q01l : Nat:=122
abbrev f_q01n : Nat:=86
abbrev f_q01o : Nat:=85
abbrev f_q01r : Nat:=108
abbrev f_q01t : Nat:=123
abbrev f_q01u : Nat:=125
abbrev f_q01v : Nat:=70
abbrev f_q01w : Nat:=124
abbrev f_q01x : Nat:=97
abbrev f_internal_abi_NoEscape : Nat:=198
abbrev f_q021 : Nat:=323
abbrev f_q022 : Nat:=289
abbrev f_internal_bytealg_IndexByteString : Nat:=310
abbrev f_q023 : Nat:=290
abbrev f_internal_bytealg_IndexString : Nat:=288
abbrev f_internal_bytealg_abigen_runtime_cmpstring : Nat:=331
abbrev f_q024 : Nat:=314
abbrev f_q02m : Nat:=241
abbrev f_q02n : Nat:=188
abbrev f_q02o : Nat:=284
abbrev f_q02p : Nat:=245
abbrev f_q02q : Nat:=279
abbrev f_q02r : Nat:=246
abbrev f_q02s : Nat:=119
abbrev f_q02t : Nat:=213
abbrev f_q02u : Nat:=170
abbrev f_q02v : Nat:=169
abbrev f_q02w : Nat:=212
abbrev f_q039 : Nat:=9
abbrev f_q03a : Nat:=61
abbrev f_q03e : Nat:=51
abbrev f_q03f : Nat:=50
abbrev f_q03i : Nat:=117
abbrev f_q03o : Nat:=131
abbrev f_q03u : Nat:=24
abbrev f_q03w : Nat:=63
abbrev f_q040 : Nat:=25
abbrev f_q04s : Nat:=40
abbrev f_q05c : Nat:=328
abbrev f_q05h : Nat:=208
abbrev f_q05m : Nat:=298
abbrev f_q05n : Nat:=60
abbrev f_q05o : Nat:=147
abbrev f_q05q : Nat:=52
abbrev f_q05r : Nat:=162
abbrev f_q05w : Nat:=39
abbrev f_q05x : Nat:=19
abbrev f_q061 : Nat:=318
abbrev f_q062 : Nat:=130
abbrev f_q063 : Nat:=144
abbrev f_q066 : Nat:=121
abbrev f_q067 : Nat:=113
abbrev f_q076 : Nat:=216
abbrev f_q077 : Nat:=215
abbrev f_q078 : Nat:=120
abbrev f_q079 : Nat:=261
abbrev f_q07a : Nat:=218
abbrev f_q07b : Nat:=260
abbrev f_q07c : Nat:=171
abbrev f_q07d : Nat:=305
abbrev f_q07e : Nat:=265
abbrev f_q07f : Nat:=266
abbrev f_q07g : Nat:=264
abbrev f_q07h : Nat:=219
abbrev f_q07i : Nat:=173
abbrev f_q07j : Nat:=217
abbrev f_q07k : Nat:=262
abbrev f_q07l : Nat:=174
abbrev f_q07p : Nat:=205
abbrev f_q07q : Nat:=98
abbrev f_q07x : Nat:=100
abbrev f_q07y : Nat:=101
abbrev f_q07z : Nat:=99
abbrev f_q080 : Nat:=96
abbrev f_q081 : Nat:=155
abbrev f_q083 : Nat:=304
abbrev f_q085 : Nat:=243
abbrev f_q087 : Nat:=200
abbrev f_q089 : Nat:=244
abbrev f_q08e : Nat:=159
abbrev f_q08f : Nat:=226
abbrev f_q08g : Nat:=204
abbrev f_q08i : Nat:=242
abbrev f_q08j : Nat:=201
abbrev f_q08r : Nat:=302
abbrev f_q08s : Nat:=321
abbrev f_q08t : Nat:=330
abbrev f_q08u : Nat:=322
abbrev f_q08y : Nat:=286
abbrev f_q08z : Nat:=285
abbrev f_q092 : Nat:=313
abbrev f_q093 : Nat:=167
abbrev f_q094 : Nat:=118
abbrev f_q095 : Nat:=253
abbrev f_q096 : Nat:=255
abbrev f_q097 : Nat:=209
abbrev f_q098 : Nat:=168
abbrev f_q099 : Nat:=259
abbrev f_q09a : Nat:=257
abbrev f_q09b : Nat:=211
abbrev f_q09c : Nat:=258
abbrev f_q09d : Nat:=254
abbrev f_q09e : Nat:=256
abbrev f_q09f : Nat:=252
abbrev f_q09g : Nat:=210
def bldT : Nat:=111
def bldE : Nat:=5
end Go.Am
end
section
/- The abstract machine,part 26: closed calls are computed. -/
set_option linter.unusedSimpArgs false
set_option linter.unusedVariables false
namespace Go.Am
mutual
def PV.same : PV → PV → Bool
  | .int k a,.int k' b=>decide (k = k') && decide (a = b)
  | .bool a,.bool b=>decide (a = b)
  | .str a,.str b=>decide (a = b)
  | .sl s xs,.sl t ys=>decide (s = t) && PV.sames xs ys
  | .agg xs,.agg ys=>PV.sames xs ys
  | .nilp,.nilp=>true
  | _,_=>false
def PV.sames : List PV → List PV → Bool
  | [],[]=>true
  | a :: asv,b :: bs=>PV.same a b && PV.sames asv bs
  | _,_=>false
end
mutual
theorem PV.same_eq : ∀ (a b : PV),PV.same a b = true → a = b
  | .int k a,b,h=>by
    cases b <;> simp [PV.same] at h
    obtain ⟨h1,h2⟩:=h; subst h1; subst h2; rfl
  | .bool a,b,h=>by cases b <;> simp [PV.same] at h; subst h; rfl
  | .str a,b,h=>by cases b <;> simp [PV.same] at h; subst h; rfl
  | .sl s xs,b,h=>by
    cases b <;> simp [PV.same] at h
    obtain ⟨h1,h2⟩:=h; subst h1; rw [PV.sames_eq _ _ h2]
  | .agg xs,b,h=>by
    cases b <;> simp [PV.same] at h
    rw [PV.sames_eq _ _ h]
  | .nilp,b,h=>by cases b <;> simp [PV.same] at h; rfl
theorem PV.sames_eq : ∀ (a b : List PV),PV.sames a b = true → a = b
  | [],b,h=>by cases b <;> simp [PV.sames] at h; rfl
  | x :: xs,b,h=>by
    cases b <;> simp [PV.sames] at h
    rw [PV.same_eq _ _ h.1,PV.sames_eq _ _ h.2]
end
mutual
def AV.same : AV → AV → Bool
  | .p a,.p b=>PV.same a b
  | .own a b c d,.own a' b' c' d'=>decide (a = a') && decide (b = b') && decide (c = c') && decide (d = d')
  | .sl0 a,.sl0 b=>decide (a = b)
  | .ref a b,.ref a' b'=>decide (a = a') && decide (b = b')
  | .rref a b c d,.rref a' b' c' d'=>decide (a = a') && decide (b = b') && decide (c = c') && decide (d = d')
  | .vp a,.vp b=>PV.same a b
  | .nilp,.nilp=>true
  | .nilm,.nilm=>true
  | .nilf,.nilf=>true
  | .nili,.nili=>true
  | .ifc,.ifc=>true
  | .mp a,.mp b=>decide (a = b)
  | .it a,.it b=>decide (a = b)
  | .fn a b,.fn a' b'=>decide (a = a') && AV.sames b b'
  | .agg a,.agg b=>AV.sames a b
  | .tup a,.tup b=>AV.sames a b
  | .anyb,.anyb=>true
  | .skp,.skp=>true
  | .und,.und=>true
  | .anyp,.anyp=>true
  | .bt a b c d,.bt a' b' c' d'=>decide (a = a') && decide (b = b') && decide (c = c') && decide (d = d')
  | _,_=>false
def AV.sames : List AV → List AV → Bool
  | [],[]=>true
  | a :: asv,b :: bs=>AV.same a b && AV.sames asv bs
  | _,_=>false
end
mutual
theorem AV.same_eq : ∀ (a b : AV),AV.same a b = true → a = b
  | .p a,b,h=>by cases b <;> simp [AV.same] at h; rw [PV.same_eq _ _ h]
  | .own _ _ _ _,b,h=>by cases b <;> simp [AV.same] at h; simp [h]
  | .sl0 _,b,h=>by cases b <;> simp [AV.same] at h; simp [h]
  | .ref _ _,b,h=>by cases b <;> simp [AV.same] at h; simp [h]
  | .rref _ _ _ _,b,h=>by cases b <;> simp [AV.same] at h; simp [h]
  | .vp a,b,h=>by cases b <;> simp [AV.same] at h; rw [PV.same_eq _ _ h]
  | .nilp,b,h=>by cases b <;> simp [AV.same] at h; rfl
  | .nilm,b,h=>by cases b <;> simp [AV.same] at h; rfl
  | .nilf,b,h=>by cases b <;> simp [AV.same] at h; rfl
  | .nili,b,h=>by cases b <;> simp [AV.same] at h; rfl
  | .ifc,b,h=>by cases b <;> simp [AV.same] at h; rfl
  | .mp _,b,h=>by cases b <;> simp [AV.same] at h; simp [h]
  | .it _,b,h=>by cases b <;> simp [AV.same] at h; simp [h]
  | .fn _ cs,b,h=>by cases b <;> simp [AV.same] at h; rw [h.1,AV.sames_eq _ _ h.2]
  | .agg cs,b,h=>by cases b <;> simp [AV.same] at h; rw [AV.sames_eq _ _ h]
  | .tup cs,b,h=>by cases b <;> simp [AV.same] at h; rw [AV.sames_eq _ _ h]
  | .anyb,b,h=>by cases b <;> simp [AV.same] at h; rfl
  | .skp,b,h=>by cases b <;> simp [AV.same] at h; rfl
  | .und,b,h=>by cases b <;> simp [AV.same] at h; rfl
  | .anyp,b,h=>by cases b <;> simp [AV.same] at h; rfl
  | .bt _ _ _ _,b,h=>by cases b <;> simp [AV.same] at h; simp [h]
theorem AV.sames_eq : ∀ (a b : List AV),AV.sames a b = true → a = b
  | [],b,h=>by cases b <;> simp [AV.sames] at h; rfl
  | x :: xs,b,h=>by
    cases b <;> simp [AV.sames] at h
    rw [AV.same_eq _ _ h.1,AV.sames_eq _ _ h.2]
end
abbrev EvC:=Nat → List AV → Heap → Option (AV × Heap × Esc)
def evDo (C : EvC) (gl : Nat → Option PV) (o : AOp) (e : List (Nat × AV)) (h : Heap) : Option (AV × Heap × Esc):=match wanted o.guard e with
  | some true=>match o.op with
    | .call f args=>C f (args.map (Opd.ev gl e)) h
    | .callv f args=>match Opd.ev gl e f with
      | .fn g caps=>C g (args.map (Opd.ev gl e) ++ caps) h
      | _=>none
    | .mnext _ _=>none
    | op=>aop op (Opd.ev gl e) h
  | some false=>some (.skp,h,[])
  | none=>none
def evNext (gl : Nat → Option PV) (o : AOp) (e : List (Nat × AV)) (h : Heap) : Option (AV × Heap):=match o.op with
  | .mnext sh xs=>match wanted o.guard e with
    | some true=>match choices h sh (xs.map (Opd.ev gl e)) with
      | some [y]=>some y
      | _=>none
    | _=>none
  | _=>none
def evReg (C : EvC) (gl : Nat → Option PV) : List AOp → List (Nat × AV) → Heap → Esc → Option (List (Nat × AV) × Heap × Esc)
  | [],e,h,x=>some (e,h,x)
  | o :: r,e,h,x=>match evDo C gl o e h with
    | some (v,h',x')=>evReg C gl r (put o.dst v e) h' (x' ++ x)
    | none=>match evNext gl o e h with
      | some (v,h')=>evReg C gl r (put o.dst v e) h' x
      | none=>none
def AO.still : AO → Bool
  | .mv _ | .pick _ _ _ | .build _ _ | .load _ _ | .nilchk _ | .bin _ _ _ | .eqa _ _ _ _ | .isnil _ _ _ | .mkif _ | .un _ _ | .mkfn _ _ | .slice _ _ _ _ _ | .slstr _ _ _ | .faddr _ _ _ | .field _ _ _ | .iaddr _ _ _
  | .iaddra _ _ _ _ | .idxa _ _ _ _ | .idxs _ _ | .look _ _ _ _ _ | .ext _ _ | .len _ | .lens _ | .lenm _ | .mx _ | .mn _=>true
  | _=>false
def AO.still2 : AO → Bool
  | .conv (.i _) _=>true
  | o=>o.still
def ME.same (a b : ME) : Bool:=PV.same a.key b.key && AV.same a.val b.val && decide (a.born = b.born)
def MEs.same : List ME → List ME → Bool
  | [],[]=>true
  | a :: asv,b :: bs=>ME.same a b && MEs.same asv bs
  | _,_=>false
def Obj.same : Obj → Obj → Bool
  | .box a,.box b=>AV.sames a b
  | .row a b c,.row a' b' c'=>decide (a = a') && PV.sames b b' && decide (c = c')
  | .amap a b,.amap a' b'=>MEs.same a a' && decide (b = b')
  | .iter a b c d,.iter a' b' c' d'=>decide (a = a') && decide (b = b') && decide (c = c') && decide (d = d')
  | _,_=>false
def Heap.same : List Obj → List Obj → Bool
  | [],[]=>true
  | a :: asv,b :: bs=>Obj.same a b && Heap.same asv bs
  | _,_=>false
theorem ME.same_eq {a b : ME} (h : ME.same a b = true) : a = b:=by
  cases a; cases b
  simp only [ME.same,Bool.and_eq_true,decide_eq_true_eq] at h
  obtain ⟨⟨h1,h2⟩,h3⟩:=h
  rw [PV.same_eq _ _ h1,AV.same_eq _ _ h2,h3]
theorem MEs.same_eq : ∀ {a b : List ME},MEs.same a b = true → a = b
  | [],[],_=>rfl
  | [],_ :: _,h=>by simp [MEs.same] at h
  | _ :: _,[],h=>by simp [MEs.same] at h
  | a :: asv,b :: bs,h=>by
    simp only [MEs.same,Bool.and_eq_true] at h
    rw [ME.same_eq h.1,MEs.same_eq h.2]
theorem Obj.same_eq {a b : Obj} (h : Obj.same a b = true) : a = b:=by
  cases a <;> cases b <;> simp only [Obj.same,Bool.and_eq_true,decide_eq_true_eq] at h <;> first
    | (cases h; done)
    | (rw [AV.sames_eq _ _ h])
    | (obtain ⟨⟨h1,h2⟩,h3⟩:=h; rw [h1,PV.sames_eq _ _ h2,h3])
    | (obtain ⟨h1,h2⟩:=h; rw [MEs.same_eq h1,h2])
    | (obtain ⟨⟨⟨h1,h2⟩,h3⟩,h4⟩:=h; rw [h1,h2,h3,h4])
theorem Heap.same_eq : ∀ {a b : List Obj},Heap.same a b = true → a = b
  | [],[],_=>rfl
  | [],_ :: _,h=>by simp [Heap.same] at h
  | _ :: _,[],h=>by simp [Heap.same] at h
  | a :: asv,b :: bs,h=>by
    simp only [Heap.same,Bool.and_eq_true] at h
    rw [Obj.same_eq h.1,Heap.same_eq h.2]
def evSame (C : EvC) (gl : Nat → Option PV) (o : AOp) (e : List (Nat × AV)) (g : Heap) (v : AV) : Bool:=match evDo C gl o e g with
  | some (v',g',y)=>AV.same v' v && y.isEmpty && (o.op.still2 || Heap.same g' g)
  | none=>false
def evDraw (C : EvC) (gl : Nat → Option PV) : List DOp → Done → List Heap → List (Nat × AV) → Heap → Esc → Option (List (Nat × AV) × Heap × Esc)
  | [],_,_,e,h,x=>some (e,h,x)
  | o :: r,dn,hs,e,h,x=>match evDo C gl o.op (prune (some o.rd) e) h with
    | some (v,h',y)=>
      if (o.eff || o.op.op.still2 || y.isEmpty && Heap.same h' h) && (o.early.all fun k=>match hs[k]? with | some g=>evSame C gl o.op (prune (some o.rd) e) g v | none=>false)
        && (o.again.all fun j=>match dn[j]? with | some q=>evSame C gl q.1 q.2.1 h' q.2.2 | none=>false) then
        evDraw C gl r (dn ++ [(o.op,prune (some o.rd) e,v)]) (hs ++ [h]) (put o.op.dst v e) h' (y ++ x)
      else none
    | none=>none
def evLoop (T : St → Option (Ex × St)) : Nat → St → Option (Ex × St)
  | 0,_=>none
  | n + 1,s=>match T s with
    | some (.normal,s')=>evLoop T n s'
    | r=>r
def evCode (C : EvC) (gl : Nat → Option PV) (n : Nat) : ACode → St → Option (Ex × St)
  | .skip,s=>some (.normal,s)
  | .reg ops keep,s=>match evReg C gl ops s.env s.h s.esc with
    | some (e,h,x)=>some (.normal,⟨prune keep e,h,x⟩)
    | none=>none
  | .draw ds keep,s=>match evDraw C gl ds [] [] s.env s.h s.esc with
    | some (e,h,x)=>some (.normal,⟨prune keep e,h,x⟩)
    | none=>none
  | .seq a b,s=>match evCode C gl n a s with
    | some (.normal,s')=>evCode C gl n b s'
    | r=>r
  | .cond c a b,s=>match Opd.ev gl s.env c with
    | .p (.bool t)=>match t with
      | true=>evCode C gl n a s
      | false=>evCode C gl n b s
    | _=>none
  | .det b,s=>evCode C gl n b s
  | .condu c a b,s=>match Opd.ev gl s.env c with
    | .p (.bool t)=>match t with
      | true=>evCode C gl n a s
      | false=>evCode C gl n b s
    | _=>none
  | .block id b,s=>match evCode C gl n b s with
    | some (.exit i,s')=>if i = id then some (.normal,s') else some (.exit i,s')
    | r=>r
  | .loop b,s=>evLoop (evCode C gl n b) n s
  | .scope b,s=>match evCode C gl n b ⟨s.env,s.h,[]⟩ with
    | some (e,s')=>some (e,trunc s.h.length s.esc s')
    | none=>none
  | .pr l b,s=>evCode C gl n b ⟨prune (some l) s.env,s.h,s.esc⟩
  | .exit id,s=>some (.exit id,s)
  | .ret,s=>some (.ret,s)
  | .bad,_=>none
def evFin (F : AFun) (b : Nat) (s : St) : Option (AV × Heap × Esc):=match aresAll s F.results with
  | some vs=>match F.keep with
    | true=>
      let n:=close s.esc.length s.esc (max b (oneOf vs).top)
      if closed s.esc n then some (oneOf vs,s.h.take n,s.esc.filter fun y=>decide (y.1 < n)) else some (oneOf vs,s.h,s.esc)
    | false=>match reif b s.h (oneOf vs) with
      | some v0=>
        let n:=close s.esc.length s.esc (max b v0.top)
        if closed s.esc n then match reif n s.h (oneOf vs) with
          | some v=>if v.top ≤ n then some (v,s.h.take n,s.esc.filter fun y=>decide (y.1 < n)) else none
          | none=>none
        else some (oneOf vs,s.h,s.esc)
      | none=>none
  | none=>none
def evBody (C : EvC) (gl : Nat → Option PV) (n : Nat) (F : AFun) (args : List AV) (h : Heap) : Option (AV × Heap × Esc):=
  match (if F.byref then some (args,h) else puras h args) with
  | some (asv,h1)=>if asv.length = F.nparams then match evCode C gl n F.body ⟨enter asv,h1,[]⟩ with
    | some (.exit _,_)=>none
    | some (_,s)=>evFin F h.length s
    | none=>none
    else none
  | none=>none
def EvOk (C' : EvC) (C : Hd) : Prop:=∀ f a h v h' x (K : Post),C' f a h = some (v,h',x) → K v h' x → C f a h K
variable {C' : EvC} {C : Hd} {gl : Nat → Option PV}
theorem evDo_ok (hC : EvOk C' C) {o : AOp} {e : List (Nat × AV)} {h h' : Heap} {v : AV} {x : Esc} (H : evDo C' gl o e h = some (v,h',x)) : ADo C gl o e h v h' x:=by
  unfold evDo at H
  unfold ADo
  split at H
  · rename_i hw
    simp only [hw]
    obtain ⟨dst,guard,op⟩:=o
    cases op
    case call f args=>exact hC _ _ _ _ _ _ _ H ⟨rfl,rfl,rfl⟩
    case callv f args=>
      dsimp only at H ⊢
      split at H
      · rename_i hf
        simp only [hf]
        exact hC _ _ _ _ _ _ _ H ⟨rfl,rfl,rfl⟩
      · cases H
    case mnext sh xs=>cases H
    all_goals exact H
  · rename_i hw
    simp only [hw]
    injection H with H
    injection H with h1 H
    injection H with h2 h3
    exact ⟨h1.symm,h2.symm,h3.symm⟩
  · cases H
theorem evReg_ok (hC : EvOk C' C) : ∀ (ops : List AOp) e h x e' h' x' (K : List (Nat × AV) → Heap → Esc → Prop),evReg C' gl ops e h x = some (e',h',x') → K e' h' x' → AReg C gl ops e h x K
  | [],e,h,x,e',h',x',K,H,hK=>by
    simp only [evReg,Option.some.injEq,Prod.mk.injEq] at H
    obtain ⟨rfl,rfl,rfl⟩:=H
    exact hK
  | o :: r,e,h,x,e',h',x',K,H,hK=>by
    unfold evReg at H
    split at H
    · rename_i v h1 x1 hd
      have ih:=evReg_ok hC r _ _ _ _ _ _ K H hK
      unfold evDo at hd
      unfold AReg
      split at hd
      · rename_i hw
        simp only [hw]
        obtain ⟨dst,guard,op⟩:=o
        cases op
        case call f args=>exact hC _ _ _ _ _ _ _ hd ih
        case callv f args=>
          dsimp only at hd ⊢
          split at hd
          · rename_i hf
            simp only [hf]
            exact hC _ _ _ _ _ _ _ hd ih
          · cases hd
        case mnext sh xs=>cases hd
        all_goals
          dsimp only at hd ⊢
          rw [hd]
          exact ih
      · rename_i hw
        simp only [hw]
        injection hd with hd
        injection hd with h1 hd
        injection hd with h2 h3
        subst h1; subst h2; subst h3
        exact ih
      · cases hd
    · split at H
      · rename_i v h1 hd
        have ih:=evReg_ok hC r _ _ _ _ _ _ K H hK
        unfold evNext at hd
        unfold AReg
        split at hd
        · rename_i sh xs hop
          split at hd
          · rename_i hw
            simp only [hw,hop]
            split at hd
            · rename_i y hm
              injection hd with hd
              subst hd
              simp only [hm]
              refine ⟨by simp,fun z hz=>?_⟩
              rw [List.mem_singleton] at hz
              subst hz
              exact ih
            · cases hd
          · cases hd
        · cases hd
      · cases H
theorem aop_still {o : AO} (hs : o.still = true) {ev : Opd → AV} {h h' : Heap} {v : AV} {x : Esc} (H : aop o ev h = some (v,h',x)) : h' = h ∧ x = []:=by
  cases o <;> first | (cases hs; done) | skip
  all_goals
    unfold aop at H
    dsimp only at H
    repeat' split at H
    all_goals first
      | (cases H; done)
      | (simp only [Option.some.injEq,Prod.mk.injEq] at H; obtain ⟨_,rfl,rfl⟩:=H; exact ⟨rfl,rfl⟩)
      | (simp only [Option.map_eq_some_iff,Prod.mk.injEq] at H; obtain ⟨_,_,_,rfl,rfl⟩:=H; exact ⟨rfl,rfl⟩)
      | (have H2:=nilc (g:=[]) H; rename_i k neg p; cases hb : nilAny k (ev p) <;> rw [hb] at H <;> simp only [cond_true,cond_false,Option.map_eq_some_iff,Option.some.injEq,Prod.mk.injEq] at H <;> first | (obtain ⟨_,rfl,rfl⟩:=H; exact ⟨rfl,rfl⟩) | (obtain ⟨_,_,_,rfl,rfl⟩:=H; exact ⟨rfl,rfl⟩))
theorem aop_still2 {o : AO} (hs : o.still2 = true) {ev : Opd → AV} {h h' : Heap} {v : AV} {x : Esc} (H : aop o ev h = some (v,h',x)) : h' = h ∧ x = []:=by
  unfold AO.still2 at hs
  split at hs
  · simp only [aop, aconv] at H
    split at H
    · simp at H; exact ⟨H.2.1.symm,H.2.2⟩
    · simp at H
  · exact aop_still hs H
theorem ADo_still2 {o : AOp} (hs : o.op.still2 = true) {e : List (Nat × AV)} {h h' : Heap} {v : AV} {x : Esc} (H : ADo C gl o e h v h' x) : h' = h ∧ x = []:=by
  unfold ADo at H
  split at H
  · obtain ⟨dst, guard, op⟩ := o
    cases op <;> first | (cases hs; done) | exact aop_still2 hs H
  · exact H.2
  · exact H.elim
theorem still2_of {o : AO} (h : o.still = true) : o.still2 = true:=by
  cases o <;> first | exact h | (cases h; done)
theorem ADo_still {o : AOp} (hs : o.op.still = true) {e : List (Nat × AV)} {h h' : Heap} {v : AV} {x : Esc} (H : ADo C gl o e h v h' x) : h' = h ∧ x = []:=ADo_still2 (still2_of hs) H
theorem evSame_ok (hC : EvOk C' C) {o : AOp} {e : List (Nat × AV)} {g : Heap} {v : AV} (H : evSame C' gl o e g v = true) : ADo C gl o e g v g []:=by
  unfold evSame at H
  split at H
  · rename_i v' g' y hd
    simp only [Bool.and_eq_true,Bool.or_eq_true,List.isEmpty_iff] at H
    obtain ⟨⟨h1,h2⟩,h3⟩:=H
    have h1:=AV.same_eq _ _ h1
    have:=evDo_ok (C:=C) hC hd
    rcases h3 with hs | hs
    · obtain ⟨e1, e2⟩ := ADo_still2 hs this
      subst e1; subst e2; subst h1
      exact this
    · have e1 := Heap.same_eq hs
      subst e1; subst h2; subst h1
      exact this
  · cases H
theorem evDraw_ok (hC : EvOk C' C) : ∀ (ds : List DOp) dn hs e h x e' h' x' (K : List (Nat × AV) → Heap → Esc → Prop),evDraw C' gl ds dn hs e h x = some (e',h',x') → K e' h' x' → ADraw C gl ds dn hs e h x K
  | [],dn,hs,e,h,x,e',h',x',K,H,hK=>by
    simp only [evDraw,Option.some.injEq,Prod.mk.injEq] at H
    obtain ⟨rfl,rfl,rfl⟩:=H
    exact hK
  | o :: r,dn,hs,e,h,x,e',h',x',K,H,hK=>by
    unfold evDraw at H
    split at H
    · rename_i v h1 y hd
      split at H
      · rename_i hc
        simp only [Bool.and_eq_true,Bool.or_eq_true,List.all_eq_true] at hc
        obtain ⟨⟨c1,c2⟩,c3⟩:=hc
        have hdo:=evDo_ok (C:=C) hC hd
        refine ⟨v,h1,y,hdo,fun he=>?_,fun k hk=>?_,fun j hj=>?_,evDraw_ok hC r _ _ _ _ _ _ _ _ K H hK⟩
        · rcases c1 with (c1 | c1) | ⟨c1, c4⟩
          · rw [c1] at he; cases he
          · exact ADo_still2 c1 hdo
          · rw [List.isEmpty_iff] at c1
            exact ⟨Heap.same_eq c4,c1⟩
        · have := c2 k hk
          split at this
          · rename_i g hg
            exact ⟨g,hg,evSame_ok hC this⟩
          · cases this
        · have := c3 j hj
          split at this
          · rename_i q hq
            exact ⟨q,hq,evSame_ok hC this⟩
          · cases this
      · cases H
    · cases H
theorem evLoop_ok {T' : St → Option (Ex × St)} {T : St → (Ex → St → Prop) → Prop} (hT : ∀ s e s' K,T' s = some (e,s') → K e s' → T s K) : ∀ n s e s' K,evLoop T' n s = some (e,s') → K e s' → ALoop T K s
  | 0,s,e,s',K,H,hK=>by cases H
  | n + 1,s,e,s',K,H,hK=>by
    unfold evLoop at H
    split at H
    · rename_i s1 h1
      refine .mk s (fun e2 s2=>e2 = .normal ∧ s2 = s1) (hT _ _ _ _ h1 ⟨rfl,rfl⟩) (fun s2 ⟨_,h2⟩=>?_) (fun i s2 ⟨h2,_⟩=>by cases h2) (fun s2 ⟨h2,_⟩=>by cases h2)
      subst h2
      exact evLoop_ok hT n _ _ _ K H hK
    · rename_i hne
      have hne' : e ≠ .normal:=fun he=>by subst he; exact hne _ H
      refine .mk s (fun e2 s2=>e2 = e ∧ s2 = s') (hT _ _ _ _ H ⟨rfl,rfl⟩) (fun s2 ⟨h2,_⟩=>(hne' h2.symm).elim) (fun i s2 ⟨h2,h3⟩=>by subst h3; rw [h2]; exact hK) (fun s2 ⟨h2,h3⟩=>by subst h3; rw [h2]; exact hK)
theorem evCode_ok (hC : EvOk C' C) (n : Nat) : ∀ (c : ACode) s e s' (K : Ex → St → Prop),evCode C' gl n c s = some (e,s') → K e s' → AW C gl c s K
  | .skip,s,e,s',K,H,hK=>by
    simp only [evCode,Option.some.injEq,Prod.mk.injEq] at H
    obtain ⟨rfl,rfl⟩:=H; exact hK
  | .reg ops keep,s,e,s',K,H,hK=>by
    unfold evCode at H
    split at H
    · rename_i h1
      simp only [Option.some.injEq,Prod.mk.injEq] at H
      obtain ⟨rfl,rfl⟩:=H
      exact evReg_ok hC _ _ _ _ _ _ _ _ h1 hK
    · cases H
  | .draw ds keep,s,e,s',K,H,hK=>by
    unfold evCode at H
    split at H
    · rename_i h1
      simp only [Option.some.injEq,Prod.mk.injEq] at H
      obtain ⟨rfl,rfl⟩:=H
      exact evDraw_ok hC _ _ _ _ _ _ _ _ _ _ h1 hK
    · cases H
  | .seq a b,s,e,s',K,H,hK=>by
    unfold evCode at H
    unfold AW
    split at H
    · rename_i s1 h1
      exact evCode_ok hC n a s _ _ _ h1 (evCode_ok hC n b _ _ _ K H hK)
    · rename_i hne
      have hne' : e ≠ .normal:=fun he=>by subst he; exact hne _ H
      refine evCode_ok hC n a s _ _ _ H ?_
      cases e with
      | normal=>exact (hne' rfl).elim
      | exit i=>exact hK
      | ret=>exact hK
  | .det b,s,e,s',K,H,hK=>by
    unfold evCode at H
    exact evCode_ok hC n b s _ _ K H hK
  | .condu c a b,s,e,s',K,H,hK=>by
    unfold evCode at H
    unfold AW
    split at H
    · rename_i t ht
      simp only [ht]
      split at H
      · exact evCode_ok hC n a s _ _ _ H hK
      · exact evCode_ok hC n b s _ _ _ H hK
    · cases H
  | .cond c a b,s,e,s',K,H,hK=>by
    unfold evCode at H
    unfold AW
    split at H
    · rename_i t ht
      simp only [ht]
      split at H
      · exact evCode_ok hC n a s _ _ _ H hK
      · exact evCode_ok hC n b s _ _ _ H hK
    · cases H
  | .block id b,s,e,s',K,H,hK=>by
    unfold evCode at H
    unfold AW
    split at H
    · rename_i i s1 h1
      refine evCode_ok hC n b s _ _ _ h1 ?_
      dsimp only
      split at H
      · rw [if_pos ‹_›]
        simp only [Option.some.injEq,Prod.mk.injEq] at H
        obtain ⟨rfl,rfl⟩:=H; exact hK
      · rw [if_neg ‹_›]
        simp only [Option.some.injEq,Prod.mk.injEq] at H
        obtain ⟨rfl,rfl⟩:=H; exact hK
    · rename_i hne
      refine evCode_ok hC n b s _ _ _ H ?_
      cases e with
      | normal=>exact hK
      | exit i=>exact (hne _ _ H).elim
      | ret=>exact hK
  | .loop b,s,e,s',K,H,hK=>by
    unfold evCode at H
    unfold AW
    exact evLoop_ok (fun s e s' K h k=>evCode_ok hC n b s e s' K h k) n s e s' K H hK
  | .scope b,s,e,s',K,H,hK=>by
    unfold evCode at H
    unfold AW
    split at H
    · rename_i e1 s1 h1
      simp only [Option.some.injEq,Prod.mk.injEq] at H
      obtain ⟨rfl,rfl⟩:=H
      exact evCode_ok hC n b _ _ _ _ h1 hK
    · cases H
  | .pr l b,s,e,s',K,H,hK=>by
    unfold evCode at H
    unfold AW
    exact evCode_ok hC n b _ _ _ K H hK
  | .exit id,s,e,s',K,H,hK=>by
    simp only [evCode,Option.some.injEq,Prod.mk.injEq] at H
    obtain ⟨rfl,rfl⟩:=H; exact hK
  | .ret,s,e,s',K,H,hK=>by
    simp only [evCode,Option.some.injEq,Prod.mk.injEq] at H
    obtain ⟨rfl,rfl⟩:=H; exact hK
  | .bad,s,e,s',K,H,hK=>by simp only [evCode] at H; cases H
theorem evFin_ok {F : AFun} {b : Nat} {s : St} {v : AV} {h : Heap} {x : Esc} {K : Post} (H : evFin F b s = some (v,h,x)) (hK : K v h x) : fin F b s K:=by
  unfold evFin at H
  unfold fin
  split at H
  · rename_i h1
    simp only [h1]
    split at H
    · rename_i h2
      simp only [h2]
      dsimp only at H ⊢
      split at H
      · rw [if_pos ‹_›]; simp only [Option.some.injEq,Prod.mk.injEq] at H; obtain ⟨rfl,rfl,rfl⟩:=H; exact hK
      · rw [if_neg ‹_›]; simp only [Option.some.injEq,Prod.mk.injEq] at H; obtain ⟨rfl,rfl,rfl⟩:=H; exact hK
    · rename_i h2
      simp only [h2]
      split at H
      · rename_i h3
        simp only [h3]
        dsimp only at H ⊢
        split at H
        · rw [if_pos ‹_›]
          split at H
          · rename_i h4
            simp only [h4]
            split at H
            · simp only [Option.some.injEq,Prod.mk.injEq] at H; obtain ⟨rfl,rfl,rfl⟩:=H; exact ⟨‹_›,hK⟩
            · cases H
          · cases H
        · rw [if_neg ‹_›]; simp only [Option.some.injEq,Prod.mk.injEq] at H; obtain ⟨rfl,rfl,rfl⟩:=H; exact hK
      · cases H
  · cases H
theorem evBody_ok (hC : EvOk C' C) {n : Nat} {F : AFun} {a : List AV} {h : Heap} {v : AV} {h' : Heap} {x : Esc} {K : Post} (H : evBody C' gl n F a h = some (v,h',x)) (hK : K v h' x) : abody C gl F a h K:=by
  unfold evBody at H
  unfold abody
  split at H
  · rename_i asv h1 hp
    simp only [hp]
    split at H
    · rename_i hl
      refine ⟨hl,?_⟩
      cases he : evCode C' gl n F.body ⟨enter asv,h1,[]⟩ with
      | none=>rw [he] at H; cases H
      | some y=>
        obtain ⟨e,s⟩:=y
        rw [he] at H
        refine evCode_ok hC n _ _ _ _ _ he ?_
        cases e with
        | exit i=>cases H
        | normal=>exact evFin_ok H hK
        | ret=>exact evFin_ok H hK
    · cases H
  · cases H
def evCallO (X : Ctx) (o : Nat → List AV → Option AV) (n : Nat) : Nat → EvC
  | 0,_,_,_=>none
  | d + 1,f,a,h=>match o f a with
    | some v=>some (v,h,[])
    | none=>match X.fn f with
      | some F=>evBody (evCallO X o n d) X.gl n F a h
      | none=>match X.ex2 f a h with
        | some r=>some r
        | none=>match puras h a with
          | some (asv,h1)=>match unp asv with
            | some vs=>match X.ext f vs with
              | some r=>some (.p r,h1,[])
              | none=>none
            | none=>none
          | none=>none
theorem evCallO_ok (X : Ctx) (o : Nat → List AV → Option AV) (ho : ∀ f a v,o f a = some v → ∀ h (K : Post),K v h [] → ACall X f a h K) (n : Nat) : ∀ d,EvOk (evCallO X o n d) (ACall X)
  | 0,f,a,h,v,h',x,K,H,hK=>by cases H
  | d + 1,f,a,h,v,h',x,K,H,hK=>by
    unfold evCallO at H
    split at H
    · rename_i v1 hv
      simp only [Option.some.injEq,Prod.mk.injEq] at H
      obtain ⟨rfl,rfl,rfl⟩:=H
      exact ho _ _ _ hv _ _ hK
    refine ACall.fold ?_
    unfold Step
    split at H
    · rename_i F hF
      simp only [hF]
      unfold fbody
      cases hd : F.isDet with
      | true=>exact ⟨v,h',x,hK,evBody_ok (evCallO_ok X o ho n d) H ⟨rfl,rfl,rfl⟩⟩
      | false=>exact evBody_ok (evCallO_ok X o ho n d) H hK
    · rename_i hF
      simp only [hF]
      split at H
      · rename_i hx2
        simp only [hx2]
        simp only [Option.some.injEq] at H
        subst H; exact hK
      · rename_i hx2
        simp only [hx2]
        split at H
        · rename_i hp
          simp only [hp]
          split at H
          · rename_i hu
            simp only [hu]
            split at H
            · rename_i hx
              simp only [hx]
              simp only [Option.some.injEq,Prod.mk.injEq] at H
              obtain ⟨rfl,rfl,rfl⟩:=H; exact hK
            · cases H
          · cases H
        · cases H
theorem ACall_evO {X : Ctx} {f : Nat} {a : List AV} {h : Heap} {v : AV} {h' : Heap} {x : Esc} {o : Nat → List AV → Option AV} (ho : ∀ f a v,o f a = some v → ∀ h (K : Post),K v h [] → ACall X f a h K) (n d : Nat) (H : evCallO X o n d f a h = some (v,h',x)) (K : Post) : ACall X f a h K ↔ K v h' x:=
  ACall.eq (evCallO_ok X o ho n d _ _ _ _ _ _ _ H ⟨rfl,rfl,rfl⟩) K
end Go.Am
end
section
/- The abstract machine,part 27: loops,and the rules of computing asv one set. -/
set_option linter.unusedSimpArgs false
set_option linter.unusedVariables false
namespace Go.Am
variable {C : Hd} {gl : Nat → Option PV} {e : List (Nat × AV)} {h : Heap} {x : Esc} {K : Ex → St → Prop} {s : St}
def loopK {σ : Type} (S : σ → St) (P : σ → Prop) (m : σ → Nat) (K : Ex → St → Prop) (s : σ) (e : Ex) (s' : St) : Prop:=match e with
  | .normal=>∃ t,s' = S t ∧ P t ∧ m t < m s
  | .exit i=>K (.exit i) s'
  | .ret=>K .ret s'
theorem loopK_normal {σ : Type} {S : σ → St} {P : σ → Prop} {m : σ → Nat} {K : Ex → St → Prop} {t : σ} {s' : St} : loopK S P m K t .normal s' = ∃ u,s' = S u ∧ P u ∧ m u < m t:=(rfl)
theorem loopK_exit {σ : Type} {S : σ → St} {P : σ → Prop} {m : σ → Nat} {K : Ex → St → Prop} {t : σ} {s' : St} {i : Nat} : loopK S P m K t (.exit i) s' = K (.exit i) s':=(rfl)
theorem loopK_ret {σ : Type} {S : σ → St} {P : σ → Prop} {m : σ → Nat} {K : Ex → St → Prop} {t : σ} {s' : St} : loopK S P m K t .ret s' = K .ret s':=(rfl)
theorem loopK_congr {σ : Type} {S : σ → St} {P : σ → Prop} {m : σ → Nat} {K : Ex → St → Prop} {t : σ} {ex ex' : Ex} {s s' : St} (he : ex = ex') (hs : s = s') : loopK S P m K t ex s = loopK S P m K t ex' s':=by rw [he,hs]
theorem ALoop_same {T : St → (Ex → St → Prop) → Prop} {K : Ex → St → Prop} {s s' : St} (h : T s = T s') : ALoop T K s = ALoop T K s':=by
  refine propext ⟨fun H=>?_,fun H=>?_⟩
  · cases H with | mk _ R a b c d=>exact .mk _ R (h ▸ a) b c d
  · cases H with | mk _ R a b c d=>exact .mk _ R (h.symm ▸ a) b c d
theorem aget_prune_mem {l : List Nat} {e : List (Nat × AV)} {t : Nat} (ht : t ∈ l) : aget (prune (some l) e) t = aget e t:=by
  simp only [prune]
  induction l with
  | nil=>cases ht
  | cons k r ih=>
    simp only [List.map_cons,aget]
    split
    · rename_i hk; rw [hk]
    · rename_i hk
      rcases List.mem_cons.1 ht with h1 | h1
      · exact absurd h1.symm hk
      · exact ih h1
theorem prune_prune {l : List Nat} {e : List (Nat × AV)} : prune (some l) (prune (some l) e) = prune (some l) e:=by
  show l.map _ = l.map _
  exact List.map_congr_left fun t ht=>by rw [aget_prune_mem ht]
def LoopP (C : Hd) (gl : Nat → Option PV) (l : List Nat) (b : ACode) (K : Ex → St → Prop) (e : List (Nat × AV)) (h : Heap) (x : Esc) : Prop:=AW C gl (.loop (.pr l b)) ⟨e,h,x⟩ K
def LoopS (C : Hd) (gl : Nat → Option PV) (l : List Nat) (b : ACode) (K : Ex → St → Prop) (e : List (Nat × AV)) (h : Heap) (x : Esc) : Prop:=AW C gl (.loop (.scope (.pr l b))) ⟨e,h,x⟩ K
theorem LoopP_eq {l : List Nat} {b : ACode} : AW C gl (.loop (.pr l b)) ⟨e,h,x⟩ K = LoopP C gl l b K (prune (some l) e) h x:=by
  show ALoop _ _ _ = ALoop _ _ _
  exact ALoop_same (funext fun R=>by show AW C gl b _ R = AW C gl b _ R; dsimp only; rw [prune_prune])
theorem LoopS_eq {l : List Nat} {b : ACode} : AW C gl (.loop (.scope (.pr l b))) ⟨e,h,x⟩ K = LoopS C gl l b K (prune (some l) e) h x:=by
  show ALoop _ _ _ = ALoop _ _ _
  exact ALoop_same (funext fun R=>by show AW C gl b _ _ = AW C gl b _ _; dsimp only; rw [prune_prune])
theorem app_get {α : Type} (h l : List α) (n : Nat) : (h ++ l)[h.length + n]? = l[n]?:=by
  rw [List.getElem?_append_right (by omega)]; congr 1; omega
theorem app_get0 {α : Type} (h l : List α) : (h ++ l)[h.length]? = l[0]?:=by
  rw [List.getElem?_append_right (by omega)]; congr 1; omega
theorem app_set {α : Type} (h l : List α) (n : Nat) (o : α) : (h ++ l).set (h.length + n) o = h ++ l.set n o:=by
  rw [List.set_append_right _ _ (by omega)]; congr 2; omega
theorem app_set0 {α : Type} (h l : List α) (o : α) : (h ++ l).set h.length o = h ++ l.set 0 o:=by
  rw [List.set_append_right _ _ (by omega)]; congr 2; omega
theorem app_take {α : Type} (h l : List α) (n : Nat) : (h ++ l).take (h.length + n) = h ++ l.take n:=List.take_length_add_append ..
theorem app_take0 {α : Type} (h l : List α) : (h ++ l).take h.length = h:=List.take_left ..
theorem app_frz (h l : Heap) (n k : Nat) : frz (h ++ l) (h.length + n) k = h ++ frz l n k:=by
  unfold frz
  rw [app_get]
  cases l[n]? with
  | none=>rfl
  | some o=>cases o <;> first | rfl | simp only [app_set]
theorem app_frz0 (h l : Heap) (k : Nat) : frz (h ++ l) h.length k = h ++ frz l 0 k:=app_frz h l 0 k
theorem i64_wrap (n : Int) (h1 : -9223372036854775808 ≤ n) (h2 : n ≤ 9223372036854775807) : IntKind.i64.wrap n = n:=by
  simp [IntKind.wrap,IntKind.bits,IntKind.signed]; omega
def finR (rs : List ARes) (kp : Bool) (b : Nat) (P : Post) (e : Ex) (s : St) : Prop:=match e with
  | .exit _=>False
  | _=>match aresAll s rs with
    | some vs=>match kp with
      | true=>
        let n:=close s.esc.length s.esc (max b (oneOf vs).top)
        if closed s.esc n then P (oneOf vs) (s.h.take n) (s.esc.filter fun y=>decide (y.1 < n)) else P (oneOf vs) s.h s.esc
      | false=>match reif b s.h (oneOf vs) with
        | some v0=>
          let n:=close s.esc.length s.esc (max b v0.top)
          if closed s.esc n then match reif n s.h (oneOf vs) with
            | some v=>v.top ≤ n ∧ P v (s.h.take n) (s.esc.filter fun y=>decide (y.1 < n))
            | none=>False
          else P (oneOf vs) s.h s.esc
        | none=>False
    | none=>False
theorem finK_R {F : AFun} {b : Nat} {P : Post} : finK F b P = finR F.results F.keep b P:=by
  funext e s; cases e <;> rfl
theorem finR_exit {rs : List ARes} {kp : Bool} {b : Nat} {P : Post} {i : Nat} {s : St} : finR rs kp b P (.exit i) s = False:=(rfl)
def retK (kp : Bool) (b : Nat) (P : Post) (o : Option (List AV)) (h : Heap) (x : Esc) : Prop:=match o with
  | some vs=>match kp with
    | true=>
      let n:=close x.length x (max b (oneOf vs).top)
      if closed x n then P (oneOf vs) (h.take n) (x.filter fun y=>decide (y.1 < n)) else P (oneOf vs) h x
    | false=>match reif b h (oneOf vs) with
      | some v0=>
        let n:=close x.length x (max b v0.top)
        if closed x n then match reif n h (oneOf vs) with
          | some v=>v.top ≤ n ∧ P v (h.take n) (x.filter fun y=>decide (y.1 < n))
          | none=>False
        else P (oneOf vs) h x
      | none=>False
  | none=>False
theorem finR_normal {rs : List ARes} {kp : Bool} {b : Nat} {P : Post} {e : List (Nat × AV)} {h : Heap} {x : Esc} : finR rs kp b P .normal ⟨e,h,x⟩ = retK kp b P (aresAll ⟨e,h,x⟩ rs) h x:=(rfl)
theorem finR_ret {rs : List ARes} {kp : Bool} {b : Nat} {P : Post} {e : List (Nat × AV)} {h : Heap} {x : Esc} : finR rs kp b P .ret ⟨e,h,x⟩ = retK kp b P (aresAll ⟨e,h,x⟩ rs) h x:=(rfl)
theorem finR_congr {rs : List ARes} {kp : Bool} {b : Nat} {P : Post} {ex ex' : Ex} {s s' : St} (he : ex = ex') (hs : s = s') : finR rs kp b P ex s = finR rs kp b P ex' s':=by rw [he,hs]
theorem retK_pure {b : Nat} {P : Post} {vs : List AV} {h : Heap} (ht : (oneOf vs).top ≤ b) (hr : ∀ b,reif b h (oneOf vs) = some (oneOf vs)) : retK false b P (some vs) h [] = P (oneOf vs) (h.take b) []:=by
  simp only [retK,hr,close,List.length_nil,closed,List.all_nil,if_true,List.filter_nil,Nat.max_eq_left ht,ht,true_and]
theorem reif_p {b : Nat} {h : Heap} {v : PV} : reif b h (.p v) = some (.p v):=(rfl)
theorem reifs_nil {b : Nat} {h : Heap} : reifs b h [] = some []:=(rfl)
theorem retK_1 {b : Nat} {P : Post} {v : PV} {h : Heap} : retK false b P (some [.p v]) h [] = P (.p v) (h.take b) []:=retK_pure (Nat.zero_le _) (fun _=>rfl)
theorem retK_2 {b : Nat} {P : Post} {v u : PV} {h : Heap} : retK false b P (some [.p v,.p u]) h [] = P (.tup [.p v,.p u]) (h.take b) []:=retK_pure (by simp [oneOf,AV.top,AV.tops]) (fun _=>rfl)
theorem retK_3 {b : Nat} {P : Post} {v u w : PV} {h : Heap} : retK false b P (some [.p v,.p u,.p w]) h [] = P (.tup [.p v,.p u,.p w]) (h.take b) []:=retK_pure (by simp [oneOf,AV.top,AV.tops]) (fun _=>rfl)
theorem retK_4 {b : Nat} {P : Post} {v u w z : PV} {h : Heap} : retK false b P (some [.p v,.p u,.p w,.p z]) h [] = P (.tup [.p v,.p u,.p w,.p z]) (h.take b) []:=retK_pure (by simp [oneOf,AV.top,AV.tops]) (fun _=>rfl)
theorem retK_0 {b : Nat} {P : Post} {h : Heap} : retK false b P (some []) h [] = P (.tup []) (h.take b) []:=retK_pure (by simp [oneOf,AV.top,AV.tops]) (fun _=>rfl)
theorem take_len {h : Heap} : h.take h.length = h:=List.take_length
theorem oneOf_1 {v : AV} : oneOf [v] = v:=(rfl)
theorem step_val {X : Ctx} {f : Nat} {F : AFun} {a asv : List AV} {h h1 : Heap} {P : Post} (hf : X.fn f = some F) (hr : F.byref = false) (hp : puras h a = some (asv,h1)) (hl : asv.length = F.nparams) (hd : F.isDet = false) :
    ACall X f a h P = AW (ACall X) X.gl F.body ⟨enter asv,h1,[]⟩ (finR F.results F.keep h.length P):=by
  rw [Step_fn hf hd,abody_val hr hp hl,finK_R]
theorem step_ref {X : Ctx} {f : Nat} {F : AFun} {asv : List AV} {h : Heap} {P : Post} (hf : X.fn f = some F) (hr : F.byref = true) (hl : asv.length = F.nparams) (hd : F.isDet = false) :
    ACall X f asv h P = AW (ACall X) X.gl F.body ⟨enter asv,h,[]⟩ (finR F.results F.keep h.length P):=by
  rw [Step_fn hf hd,abody_ref hr hl,finK_R]
theorem step_val_det {X : Ctx} {f : Nat} {F : AFun} {a asv : List AV} {h h1 : Heap} {P : Post} (hf : X.fn f = some F) (hr : F.byref = false) (hp : puras h a = some (asv,h1)) (hl : asv.length = F.nparams) (hd : F.isDet = true) :
    ACall X f a h P = ∃ v h' x,P v h' x ∧ AW (ACall X) X.gl F.body ⟨enter asv,h1,[]⟩ (finR F.results F.keep h.length fun v1 h1 x1=>v1 = v ∧ h1 = h' ∧ x1 = x):=by
  rw [Step_det hf hd]
  simp only [abody_val hr hp hl,finK_R]
theorem rule {X : Ctx} {f : Nat} {a : List AV} {h : Heap} {v : AV} {h' : Heap} {x : Esc} {K : Post} (H : ACall X f a h fun v1 h1 x1=>v1 = v ∧ h1 = h' ∧ x1 = x) : ACall X f a h K = K v h' x:=propext (ACall.eq H K)
theorem natOf_nat {k : IntKind} {n : Nat} : natOf (.p (.int k (n : Int))) = some n:=by simp [natOf]
theorem natOf_lit {k : IntKind} {n : Nat} : natOf (.p (.int k (no_index (OfNat.ofNat n : Int)))) = some (OfNat.ofNat n : Nat):=natOf_nat (n:=n)
theorem natOf_0 {k : IntKind} : natOf (.p (.int k 0)) = some 0:=(rfl)
theorem natOf_1 {k : IntKind} : natOf (.p (.int k 1)) = some 1:=(rfl)
theorem natOf_int {k : IntKind} {n : Int} (h : 0 ≤ n) : natOf (.p (.int k n)) = some n.toNat:=by simp [natOf,h]
theorem map_get {α β : Type} (f : α → β) {l : List α} {k : Nat} (h : k < l.length) : (l.map f)[k]? = some (f l[k]):=by simp [h]
theorem win_map {α β : Type} (f : α → β) (l : List α) (a b : Nat) : win (l.map f) a b = (win l a b).map f:=by simp [win,List.map_drop,List.map_take]
attribute [go_sem] eqs PV.eq1 PV.kind ne_eq not_false_eq_true not_true_eq_false Bool.and_self Bool.or_self Bool.not_eq_true
attribute [go_sem] Nat.max_le Nat.add_le_add_iff_left Option.isSome_none Option.isSome_some false_and and_false List.length_range Nat.sub_zero Nat.le_add_right
attribute [go_sem] natOf_nat natOf_0 natOf_1 natOf_lit Int.ofNat_lt Int.ofNat_le List.length_map
attribute [go_sem] finR_exit finR_normal finR_ret retK_0 retK_1 retK_2 retK_3 retK_4 take_len List.zipIdx_cons List.zipIdx_nil List.map_cons List.map_nil Nat.reduceAdd Nat.reduceEqDiff if_true if_false Option.map_some Option.map_none List.append_nil List.nil_append decide_eq_true_eq
def doS (C : Hd) (gl : Nat → Option PV) (q : AOp × List (Nat × AV) × AV) (h : Heap) : Prop:=ADo C gl q.1 q.2.1 h q.2.2 h []
def agK (C : Hd) (gl : Nat → Option PV) (h : Heap) (dn : Done) : List Nat → Prop
  | []=>True
  | j :: r=>(match dn[j]? with | some q=>doS C gl q h | none=>False) ∧ agK C gl h dn r
def eaK (C : Hd) (gl : Nat → Option PV) (o : AOp) (e : List (Nat × AV)) (v : AV) (hs : List Heap) : List Nat → Prop
  | []=>True
  | k :: r=>(match hs[k]? with | some g=>doS C gl (o,e,v) g | none=>False) ∧ eaK C gl o e v hs r
theorem agK_iff {C : Hd} {gl : Nat → Option PV} {h : Heap} {dn : Done} : ∀ {l : List Nat},agK C gl h dn l ↔ ∀ j ∈ l,∃ q,dn[j]? = some q ∧ ADo C gl q.1 q.2.1 h q.2.2 h []
  | []=>by simp [agK]
  | j :: r=>by
    simp only [agK,List.mem_cons,forall_eq_or_imp]
    rw [agK_iff (l:=r)]
    refine and_congr_left (fun _=>?_)
    cases hd : dn[j]? with
    | none=>simp
    | some q=>simp [doS]
theorem eaK_iff {C : Hd} {gl : Nat → Option PV} {o : AOp} {e : List (Nat × AV)} {v : AV} {hs : List Heap} : ∀ {l : List Nat},eaK C gl o e v hs l ↔ ∀ k ∈ l,∃ g,hs[k]? = some g ∧ ADo C gl o e g v g []
  | []=>by simp [eaK]
  | j :: r=>by
    simp only [eaK,List.mem_cons,forall_eq_or_imp]
    rw [eaK_iff (l:=r)]
    refine and_congr_left (fun _=>?_)
    cases hd : hs[j]? with
    | none=>simp
    | some q=>simp [doS]
def effK (b : Bool) (h h' : Heap) (y : Esc) : Prop:=match b with
  | true=>True
  | false=>h' = h ∧ y = []
theorem drawK_all {C : Hd} {gl : Nat → Option PV} {e : List (Nat × AV)} {h : Heap} {x : Esc} {L : List (Nat × AV) → Heap → Esc → Prop} {op : AOp} {rd early again : List Nat} {eff : Bool} {r : List DOp} {dn : Done} {hs : List Heap} {v : AV} {h' : Heap} {y : Esc} :
    drawK C gl ⟨op,rd,eff,early,again⟩ r dn hs e h x L v h' y = (effK eff h h' y ∧ eaK C gl op (prune (some rd) e) v hs early ∧ agK C gl h' dn again ∧ ADraw C gl r (dn ++ [(op,prune (some rd) e,v)]) (hs ++ [h]) (put op.dst v e) h' (y ++ x) L):=by
  rw [drawK_eq,← propext eaK_iff,← propext agK_iff]
  cases eff <;> simp [effK]
theorem effK_true {h h' : Heap} {y : Esc} : effK true h h' y = True:=(rfl)
theorem effK_same {h : Heap} : effK false h h [] = True:=by simp [effK]
theorem agK_nil {C : Hd} {gl : Nat → Option PV} {h : Heap} {dn : Done} : agK C gl h dn [] = True:=(rfl)
theorem agK_cons {C : Hd} {gl : Nat → Option PV} {h : Heap} {dn : Done} {j : Nat} {r : List Nat} : agK C gl h dn (j :: r) = ((match dn[j]? with | some q=>doS C gl q h | none=>False) ∧ agK C gl h dn r):=(rfl)
theorem eaK_nil {C : Hd} {gl : Nat → Option PV} {o : AOp} {e : List (Nat × AV)} {v : AV} {hs : List Heap} : eaK C gl o e v hs [] = True:=(rfl)
theorem eaK_cons {C : Hd} {gl : Nat → Option PV} {o : AOp} {e : List (Nat × AV)} {v : AV} {hs : List Heap} {j : Nat} {r : List Nat} : eaK C gl o e v hs (j :: r) = ((match hs[j]? with | some g=>doS C gl (o,e,v) g | none=>False) ∧ eaK C gl o e v hs r):=(rfl)
theorem doS_mk {C : Hd} {gl : Nat → Option PV} {d : Option Nat} {g : Option (Nat × Bool)} {op : AO} {e : List (Nat × AV)} {v : AV} {h : Heap} : doS C gl (⟨d,g,op⟩,e,v) h = doK C gl ⟨d,g,op⟩ e h (fun v1 h1 x1=>v1 = v ∧ h1 = h ∧ x1 = []):=by
  unfold doS doK
  refine propext ⟨fun H=>⟨_,_,_,H,rfl,rfl,rfl⟩,fun ⟨v1,h1,x1,H,a,b,c⟩=>by subst a; subst b; subst c; exact H⟩
theorem condB_dec {p : Prop} [Decidable p] {A B : Prop} : condB (.p (.bool (decide p))) A B = if p then A else B:=by rw [condB_bool]; simp
def callvK (C : Hd) (v : AV) (asv : List AV) (h : Heap) (L : Post) : Prop:=match v with
  | .fn g caps=>C g (asv ++ caps) h L
  | _=>False
theorem AReg_callvK {C : Hd} {gl : Nat → Option PV} {e : List (Nat × AV)} {h : Heap} {x : Esc} {L : List (Nat × AV) → Heap → Esc → Prop} {d : Option Nat} {f : Opd} {args : List Opd} {r : List AOp} :
    AReg C gl (⟨d,none,.callv f args⟩ :: r) e h x L = callvK C (Opd.ev gl e f) (args.map (Opd.ev gl e)) h (contR C gl r d e x L):=by
  have h2 : wanted none e = some true:=(rfl)
  rw [AReg]
  simp only [h2]
  unfold callvK
  split <;> simp_all <;> rfl
def callvE (C : Hd) (v : AV) (asv : List AV) (h : Heap) (R : AV → Heap → Esc → Prop) : Prop:=match v with
  | .fn g caps=>callE C g (asv ++ caps) h R
  | _=>False
theorem doK_callvK {C : Hd} {gl : Nat → Option PV} {e : List (Nat × AV)} {h : Heap} {R : AV → Heap → Esc → Prop} {d : Option Nat} {f : Opd} {args : List Opd} :
    doK C gl ⟨d,none,.callv f args⟩ e h R = callvE C (Opd.ev gl e f) (args.map (Opd.ev gl e)) h R:=by
  have h2 : wanted none e = some true:=(rfl)
  unfold doK ADo
  simp only [h2]
  unfold callvE callE
  split <;> simp_all
theorem callvK_fn {C : Hd} {g : Nat} {caps asv : List AV} {h : Heap} {L : Post} : callvK C (.fn g caps) asv h L = C g (asv ++ caps) h L:=(rfl)
theorem callvE_fn {C : Hd} {g : Nat} {caps asv : List AV} {h : Heap} {R : AV → Heap → Esc → Prop} : callvE C (.fn g caps) asv h R = callE C g (asv ++ caps) h R:=(rfl)
theorem callvK_congr {C : Hd} {v v' : AV} {asv asv' : List AV} {h h' : Heap} {L : Post} (h1 : v = v') (h2 : asv = asv') (h3 : h = h') : callvK C v asv h L = callvK C v' asv' h' L:=by rw [h1,h2,h3]
theorem callvE_congr {C : Hd} {v v' : AV} {asv asv' : List AV} {h h' : Heap} {R : AV → Heap → Esc → Prop} (h1 : v = v') (h2 : asv = asv') (h3 : h = h') : callvE C v asv h R = callvE C v' asv' h' R:=by rw [h1,h2,h3]
attribute [go_sem] AReg_callvK doK_callvK callvK_fn callvE_fn
attribute [congr] callvK_congr callvE_congr
theorem cutP_int {k : IntKind} {n : Int} : cutP none 0 (.int k n) = some (.int k n):=(rfl)
theorem cutP_bool {b : Bool} : cutP none 0 (.bool b) = some (.bool b):=(rfl)
theorem cutP_str {s : List UInt8} : cutP none 0 (.str s) = some (.str s):=(rfl)
theorem cutP_sl {sh : Sh} {xs : List PV} : cutP none 0 (.sl sh xs) = some (.sl sh xs):=(rfl)
theorem cutP_nilp : cutP none 0 .nilp = some .nilp:=(rfl)
theorem cutP_cell {off : Nat} {cs : List PV} : cutP none off (.agg cs) = (cs[off]?).bind fun x=>if x.sc then some x else none:=(rfl)
theorem cutP_agg {n off : Nat} {cs : List PV} : cutP (some n) off (.agg cs) = if off + n ≤ cs.length then some (.agg ((cs.drop off).take n)) else none:=(rfl)
theorem cutP_sc {v : PV} (h : v.sc = true) : cutP none 0 v = some v:=by cases v <;> first | rfl | cases h
attribute [go_sem] cutP_int cutP_bool cutP_str cutP_sl cutP_nilp cutP_cell cutP_agg
theorem escOf_p {id : Nat} {v : PV} : escOf id (.p v) = []:=(rfl)
attribute [go_sem] List.take_succ_cons List.take_zero List.take_nil List.drop_succ_cons List.drop_zero List.drop_nil List.length_cons List.length_nil Nat.reduceLeDiff Nat.reduceLT Int.reduceLT Int.reduceLE Int.reduceAdd Int.reduceSub Int.reduceMul Int.reduceNeg Int.reduceEq Nat.reduceSub Nat.reduceMul Nat.le_refl List.append_assoc
theorem trunc_nil {b : Nat} {x0 : Esc} {e : List (Nat × AV)} {h : Heap} : trunc b x0 ⟨e,h,[]⟩ = ⟨clean b e,h.take b,x0⟩:=(rfl)
theorem clean_nil {n : Nat} : clean n [] = []:=(rfl)
theorem clean_cons {n k : Nat} {v : AV} {r : List (Nat × AV)} : clean n ((k,v) :: r) = (k,if v.top ≤ n then v else .und) :: clean n r:=(rfl)
theorem top_p {v : PV} : AV.top (.p v) = 0:=(rfl)
theorem top_own {id g o l : Nat} : AV.top (.own id g o l) = id + 1:=by simp [AV.top]
theorem top_ref {id o : Nat} : AV.top (.ref id o) = id + 1:=by simp [AV.top]
theorem top_rref {id g i o : Nat} : AV.top (.rref id g i o) = id + 1:=by simp [AV.top]
theorem top_mp {id : Nat} : AV.top (.mp id) = id + 1:=by simp [AV.top]
theorem top_it {id : Nat} : AV.top (.it id) = id + 1:=by simp [AV.top]
theorem top_fn {f : Nat} {cs : List AV} : AV.top (.fn f cs) = AV.tops cs:=by simp [AV.top]
theorem top_agg {cs : List AV} : AV.top (.agg cs) = AV.tops cs:=by simp [AV.top]
theorem top_tup {cs : List AV} : AV.top (.tup cs) = AV.tops cs:=by simp [AV.top]
theorem top_vp {v : PV} : AV.top (.vp v) = 0:=(rfl)
theorem top_und : AV.top .und = 0:=(rfl)
theorem top_skp : AV.top .skp = 0:=(rfl)
theorem top_anyp : AV.top .anyp = 0:=(rfl)
theorem top_bt {k t id g : Nat} : AV.top (.bt k t id g) = id + 1:=by simp [AV.top]
theorem top_sl0 {sh : Sh} : AV.top (.sl0 sh) = 0:=(rfl)
theorem top_nilp : AV.top .nilp = 0:=(rfl)
theorem top_nilm : AV.top .nilm = 0:=(rfl)
theorem top_nilf : AV.top .nilf = 0:=(rfl)
theorem top_nili : AV.top .nili = 0:=(rfl)
theorem top_ifc : AV.top .ifc = 0:=(rfl)
theorem tops_nil : AV.tops [] = 0:=(rfl)
theorem tops_cons {v : AV} {r : List AV} : AV.tops (v :: r) = max v.top (AV.tops r):=by simp [AV.tops]
theorem retK_any {b : Nat} {P : Post} {vs : List AV} {h : Heap} : retK false b P (some vs) h [] = match reif b h (oneOf vs) with
    | some v0=>match reif (max b v0.top) h (oneOf vs) with
      | some v=>v.top ≤ max b v0.top ∧ P v (h.take (max b v0.top)) []
      | none=>False
    | none=>False:=by
  simp only [retK,close,List.length_nil,closed,List.all_nil,if_true,List.filter_nil]
theorem reif_own {b : Nat} {h : Heap} {id g off len : Nat} : reif b h (.own id g off len) = if b ≤ id then (rd h (.own id g off len)).map fun y=>.p (.sl y.1 y.2) else some (.own id g off len):=by simp only [reif]
theorem reif_sl0 {b : Nat} {h : Heap} {sh : Sh} : reif b h (.sl0 sh) = some (.p (.sl sh [])):=by simp only [reif]
theorem reif_agg {b : Nat} {h : Heap} {cs : List AV} : reif b h (.agg cs) = (reifs b h cs).map mkA:=by simp only [reif]
theorem reif_tup {b : Nat} {h : Heap} {cs : List AV} : reif b h (.tup cs) = (reifs b h cs).map .tup:=by simp only [reif]
theorem reif_ref {b : Nat} {h : Heap} {id o : Nat} : reif b h (.ref id o) = some (.ref id o):=by simp only [reif]
theorem reif_mp {b : Nat} {h : Heap} {id : Nat} : reif b h (.mp id) = some (.mp id):=by simp only [reif]
theorem reif_fn {b f : Nat} {h : Heap} {cs : List AV} : reif b h (.fn f cs) = some (.fn f cs):=by simp only [reif]
theorem reifs_cons {b : Nat} {h : Heap} {v : AV} {r : List AV} : reifs b h (v :: r) = (match reif b h v with | some x=>(reifs b h r).map (x :: ·) | none=>none):=by rw [reifs]; cases reif b h v <;> rfl
theorem oneOf_2 {v u : AV} {r : List AV} : oneOf (v :: u :: r) = .tup (v :: u :: r):=(rfl)
theorem oneOf_0 : oneOf [] = .tup []:=(rfl)
theorem set_app {h l : Heap} {id : Nat} {o : Obj} (hid : id < h.length) : (h ++ l).set id o = h.set id o ++ l:=List.set_append_left _ _ hid
theorem get_app {h l : Heap} {id : Nat} (hid : id < h.length) : (h ++ l)[id]? = h[id]?:=List.getElem?_append_left hid
theorem sapp_get {h l : Heap} {i n : Nat} {o : Obj} : (h.set i o ++ l)[h.length + n]? = l[n]?:=by
  have:=app_get (h.set i o) l n; rwa [List.length_set] at this
theorem sapp_get0 {h l : Heap} {i : Nat} {o : Obj} : (h.set i o ++ l)[h.length]? = l[0]?:=sapp_get (n:=0)
theorem sapp_set {h l : Heap} {i n : Nat} {o q : Obj} : (h.set i o ++ l).set (h.length + n) q = h.set i o ++ l.set n q:=by
  have:=app_set (h.set i o) l n q; rwa [List.length_set] at this
theorem sapp_set0 {h l : Heap} {i : Nat} {o q : Obj} : (h.set i o ++ l).set h.length q = h.set i o ++ l.set 0 q:=sapp_set (n:=0)
theorem sapp_take {h l : Heap} {i n : Nat} {o : Obj} : (h.set i o ++ l).take (h.length + n) = h.set i o ++ l.take n:=by
  have:=app_take (h.set i o) l n; rwa [List.length_set] at this
theorem sapp_take0 {h l : Heap} {i : Nat} {o : Obj} : (h.set i o ++ l).take h.length = h.set i o:=by
  have:=app_take0 (h.set i o) l; rwa [List.length_set] at this
theorem sapp_frz {h l : Heap} {i n k : Nat} {o : Obj} : frz (h.set i o ++ l) (h.length + n) k = h.set i o ++ frz l n k:=by
  have:=app_frz (h.set i o) l n k; rwa [List.length_set] at this
theorem sapp_frz0 {h l : Heap} {i k : Nat} {o : Obj} : frz (h.set i o ++ l) h.length k = h.set i o ++ frz l 0 k:=sapp_frz (n:=0)
theorem win_full {α : Type} {l : List α} {n : Nat} (h : l.length = n) : win l 0 n = l:=by subst h; simp [win]
theorem win_all {α : Type} (l : List α) : win l 0 l.length = l:=by simp [win]
attribute [go_sem] trunc_nil clean_nil clean_cons top_p top_own top_ref top_rref top_mp top_it top_fn top_agg top_tup top_vp top_und top_skp top_sl0 top_nilp top_nilm top_nilf top_nili top_ifc top_anyp top_bt tops_nil tops_cons Nat.max_zero Nat.zero_max Nat.zero_le reif_p reif_own reif_sl0 reif_agg reif_tup reif_ref reif_mp reif_fn reifs_nil reifs_cons oneOf_2 oneOf_0 app_get app_get0 app_set app_set0 app_take app_take0 app_frz app_frz0 sapp_get sapp_get0 sapp_set sapp_set0 sapp_take sapp_take0 sapp_frz sapp_frz0 List.length_append win_all Nat.add_le_add_iff_right Nat.zero_add Nat.add_zero
attribute [go_sem] fillP PV.shp List.reduceReplicate cond_true cond_false Bool.not_true Bool.not_false Bool.false_eq_true Bool.true_and Bool.and_true Bool.false_and Bool.and_false Bool.true_or Bool.or_true Bool.false_or Bool.or_false beq_self_eq_true List.all_cons List.all_nil
attribute [go_sem low] retK_any
theorem take_set_len {h : Heap} {id : Nat} {o : Obj} : (h.set id o).take h.length = h.set id o:=List.take_of_length_le (by simp)
attribute [go_sem] take_set_len Int.natCast_zero Int.natCast_one Int.cast_ofNat_Int
attribute [go_sem] aun aconv amax2 amin2 List.foldlM_cons List.foldlM_nil Option.bind_some Option.pure_def Option.bind_eq_bind List.cons_append List.nil_append Int.zero_sub List.length_singleton
attribute [go_sem] contR_eq shSize escOf_p
attribute [congr] contR_congr
attribute [go_sem] AW_draw ADraw_nil ADraw_cons doK_mv doK_pick doK_alloc doK_box doK_build doK_bsl doK_load doK_store doK_nilchk doK_bin doK_eqa doK_isnil doK_mkif doK_un doK_conv doK_mkfn doK_mkmap doK_mksl doK_slice doK_slstr doK_faddr doK_field doK_iaddr doK_iaddra doK_idxa doK_idxs doK_look doK_mupd doK_ment doK_estore doK_mdel doK_ext doK_len doK_lens doK_lenm doK_app doK_copy doK_mx doK_mn doK_mrange doK_mentry doK_new0 doK_call doK_guard callE ex3' drawK_all effK_true effK_same agK_nil agK_cons eaK_nil eaK_cons doS_mk List.not_mem_nil List.mem_cons List.mem_singleton forall_eq_or_imp forall_eq false_implies true_implies implies_true forall_const and_true true_and List.cons_append and_self reduceCtorEq List.getElem?_cons_zero List.getElem?_cons_succ Option.some.injEq exists_eq_left' List.set_cons_zero List.set_cons_succ List.set_set List.length_set
attribute [congr] doK_congr callE_congr ADraw_congr ACall_congr
attribute [congr] finR_congr
attribute [go_sem] LoopP_eq LoopS_eq
attribute [go_sem] AW_skip AW_ret AW_exit AW_bad AW_reg AW_seq AW_cond AW_block AW_scope AW_pr regK_eq seqK_normal seqK_exit seqK_ret blockK_normal blockK_exit blockK_ret scopeK_eq AReg_nil AReg_mv AReg_pick AReg_alloc AReg_box AReg_build AReg_bsl AReg_load AReg_store AReg_nilchk AReg_bin AReg_eqa AReg_isnil AReg_mkif AReg_un AReg_conv AReg_mkfn AReg_mkmap AReg_mksl AReg_slice AReg_slstr AReg_faddr AReg_field AReg_iaddr AReg_iaddra AReg_idxa AReg_idxs AReg_look AReg_mupd AReg_ment AReg_estore AReg_mdel AReg_ext AReg_len AReg_lens AReg_lenm AReg_app AReg_copy AReg_mx AReg_mn AReg_mrange AReg_mentry AReg_new0 AReg_guard AReg_call optK_some optK_none optK_ite optK_map_ite condB_true condB_false condB_dec wantK_skp decide_true decide_false loopK_normal loopK_exit loopK_ret aop Opd.ev aget put prune abin aint astr aresAll ares oneOf_1 enter rd rds pur purs puras mkA unp cut AV.cells PV.cells PV.sc AV.sc splice pint pbool fillA
attribute [go_sem low] condB_bool wantK_true wantK_false
theorem wantK_tt {A B : Prop} : wantK (.p (.bool true)) true A B = A:=(rfl)
theorem wantK_ff {A B : Prop} : wantK (.p (.bool false)) false A B = A:=(rfl)
theorem wantK_tf {A B : Prop} : wantK (.p (.bool true)) false A B = B:=(rfl)
theorem wantK_ft {A B : Prop} : wantK (.p (.bool false)) true A B = B:=(rfl)
attribute [go_sem] wantK_tt wantK_ff wantK_tf wantK_ft
attribute [congr] condB_congr wantK_congr optK_congr AReg_congr AW_congr regK_congr seqK_congr blockK_congr scopeK_congr loopK_congr
end Go.Am
end
section
/- The abstract machine,part 28: where no map is ranged over,a call that ends well ends in one way. -/
set_option linter.unusedSimpArgs false
set_option linter.unusedVariables false
namespace Go.Am
def AO.noNext : AO → Bool
  | .mnext _ _=>false
  | _=>true
def ACode.noNext : ACode → Bool
  | .reg ops _=>ops.all fun o=>o.op.noNext
  | .seq a b=>a.noNext && b.noNext
  | .cond _ a b=>a.noNext && b.noNext
  | .condu _ _ _=>false
  | .det _=>false
  | .block _ b=>b.noNext
  | .loop b=>b.noNext
  | .scope b=>b.noNext
  | .pr _ b=>b.noNext
  | _=>true
def Dt (C D : Hd) : Prop:=∀ f a h K,C f a h K → ∃ v h' x,K v h' x ∧ D f a h fun v1 h1 x1=>v1 = v ∧ h1 = h' ∧ x1 = x
variable {C D : Hd} {gl : Nat → Option PV}
theorem AReg_det (hD : D.Mono) (hC : Dt C D) : ∀ (ops : List AOp) e h x K,(ops.all fun o=>o.op.noNext) = true → AReg C gl ops e h x K → ∃ e' h' x',K e' h' x' ∧ AReg D gl ops e h x fun e1 h1 x1=>e1 = e' ∧ h1 = h' ∧ x1 = x'
  | [],e,h,x,K,_,H=>⟨e,h,x,H,rfl,rfl,rfl⟩
  | o :: r,e,h,x,K,hn,H=>by
    obtain ⟨dst,guard,op⟩:=o
    simp only [List.all_cons,Bool.and_eq_true] at hn
    obtain ⟨hn1,hn2⟩:=hn
    unfold AReg at H
    dsimp only at H
    split at H
    · rename_i hw
      cases op
      case call f args=>
        obtain ⟨v,h',x',H',G'⟩:=hC _ _ _ _ H
        obtain ⟨e2,h2,x2,k2,g2⟩:=AReg_det hD hC r _ _ _ K hn2 H'
        refine ⟨e2,h2,x2,k2,?_⟩
        unfold AReg; simp only [hw]
        exact hD _ _ _ _ _ (fun v1 h1 x1 ⟨a1,a2,a3⟩=>by subst a1; subst a2; subst a3; exact g2) G'
      case callv f args=>
        dsimp only at H
        split at H
        · rename_i hf
          obtain ⟨v,h',x',H',G'⟩:=hC _ _ _ _ H
          obtain ⟨e2,h2,x2,k2,g2⟩:=AReg_det hD hC r _ _ _ K hn2 H'
          refine ⟨e2,h2,x2,k2,?_⟩
          unfold AReg; simp only [hw,hf]
          exact hD _ _ _ _ _ (fun v1 h1 x1 ⟨a1,a2,a3⟩=>by subst a1; subst a2; subst a3; exact g2) G'
        · exact H.elim
      case mnext sh xs=>simp [AO.noNext] at hn1
      all_goals
        dsimp only at H
        split at H
        · rename_i ha
          obtain ⟨e2,h2,x2,k2,g2⟩:=AReg_det hD hC r _ _ _ K hn2 H
          refine ⟨e2,h2,x2,k2,?_⟩
          unfold AReg; simp only [hw,ha]
          exact g2
        · exact H.elim
    · rename_i hw
      obtain ⟨e2,h2,x2,k2,g2⟩:=AReg_det hD hC r _ _ _ K hn2 H
      refine ⟨e2,h2,x2,k2,?_⟩
      unfold AReg; simp only [hw]
      exact g2
    · exact H.elim
theorem ADo_of_det (hD : D.Mono) (hC : Dt C D) {o : AOp} {e : List (Nat × AV)} {h h' : Heap} {v : AV} {x : Esc} (H : ADo C gl o e h v h' x) : ADo D gl o e h v h' x:=by
  have key : ∀ f a h,C f a h (fun v1 h1 x1=>v1 = v ∧ h1 = h' ∧ x1 = x) → D f a h (fun v1 h1 x1=>v1 = v ∧ h1 = h' ∧ x1 = x):=fun f a h hc=>by
    obtain ⟨v2,h2,x2,⟨e1,e2,e3⟩,hd⟩:=hC _ _ _ _ hc
    subst e1; subst e2; subst e3
    exact hd
  unfold ADo at H ⊢
  split at H
  · split at H
    · exact key _ _ _ H
    · split at H
      · exact key _ _ _ H
      · exact H.elim
    · exact H.elim
    · exact H
  · exact H
  · exact H.elim
theorem ADraw_det (hD : D.Mono) (hC : Dt C D) : ∀ (ds : List DOp) dn hs e h x K,ADraw C gl ds dn hs e h x K → ∃ e' h' x',K e' h' x' ∧ ADraw D gl ds dn hs e h x fun e1 h1 x1=>e1 = e' ∧ h1 = h' ∧ x1 = x'
  | [],dn,hs,e,h,x,K,H=>⟨e,h,x,H,rfl,rfl,rfl⟩
  | o :: r,dn,hs,e,h,x,K,H=>by
    obtain ⟨v,h',y,h1,h2,h3,h4,h5⟩:=H
    obtain ⟨e2,q2,x2,k2,g2⟩:=ADraw_det hD hC r _ _ _ _ _ K h5
    exact ⟨e2,q2,x2,k2,v,h',y,ADo_of_det hD hC h1,h2,fun k hk=>by obtain ⟨g,a1,a2⟩:=h3 k hk; exact ⟨g,a1,ADo_of_det hD hC a2⟩,
      fun j hj=>by obtain ⟨q,a1,a2⟩:=h4 j hj; exact ⟨q,a1,ADo_of_det hD hC a2⟩,g2⟩
theorem ALoop_det {T U : St → (Ex → St → Prop) → Prop} (hT : ∀ s K,T s K → ∃ e s',K e s' ∧ U s fun e1 s1=>e1 = e ∧ s1 = s') {K : Ex → St → Prop} {s : St} (H : ALoop T K s) : ∃ e s',K e s' ∧ ALoop U (fun e1 s1=>e1 = e ∧ s1 = s') s:=by
  induction H with
  | mk s R h hn he hr ih=>
    obtain ⟨e,s',hR,hU⟩:=hT _ _ h
    cases e with
    | normal=>
      obtain ⟨e2,s2,k2,g2⟩:=ih s' hR
      exact ⟨e2,s2,k2,.mk _ _ hU (fun s1 ⟨_,h1⟩=>by subst h1; exact g2) (fun i s1 ⟨h1,_⟩=>by cases h1) (fun s1 ⟨h1,_⟩=>by cases h1)⟩
    | exit i=>exact ⟨_,_,he i s' hR,.mk _ _ hU (fun s1 ⟨h1,_⟩=>by cases h1) (fun j s1 h1=>h1) (fun s1 ⟨h1,_⟩=>by cases h1)⟩
    | ret=>exact ⟨_,_,hr s' hR,.mk _ _ hU (fun s1 ⟨h1,_⟩=>by cases h1) (fun j s1 ⟨h1,_⟩=>by cases h1) (fun s1 h1=>h1)⟩
theorem AW_det (hD : D.Mono) (hC : Dt C D) : ∀ (c : ACode),c.noNext = true → ∀ s K,AW C gl c s K → ∃ e s',K e s' ∧ AW D gl c s fun e1 s1=>e1 = e ∧ s1 = s'
  | .skip,_,s,K,H=>⟨_,_,H,rfl,rfl⟩
  | .reg ops keep,hn,s,K,H=>by
    obtain ⟨e,h,x,h1,h2⟩:=AReg_det hD hC ops _ _ _ _ hn H
    refine ⟨_,_,h1,?_⟩
    show AReg D gl ops s.env s.h s.esc fun e1 h1 x1=>_
    exact AReg_mono (C:=D) (C':=D) (fun f a h K K' hK h=>hD _ _ _ _ _ hK h) ops _ _ _ _ _ (fun e1 h1 x1 ⟨a1,a2,a3⟩=>by subst a1; subst a2; subst a3; exact ⟨rfl,rfl⟩) h2
  | .draw ds keep,_,s,K,H=>by
    obtain ⟨e,h,x,h1,h2⟩:=ADraw_det hD hC ds _ _ _ _ _ _ H
    refine ⟨_,_,h1,?_⟩
    show ADraw D gl ds [] [] s.env s.h s.esc fun e1 h1 x1=>_
    exact ADraw_mono (C:=D) (C':=D) (fun f a h K K' hK h=>hD _ _ _ _ _ hK h) ds _ _ _ _ _ _ _ (fun e1 h1 x1 ⟨a1,a2,a3⟩=>by subst a1; subst a2; subst a3; exact ⟨rfl,rfl⟩) h2
  | .seq a b,hn,s,K,H=>by
    simp only [ACode.noNext,Bool.and_eq_true] at hn
    obtain ⟨e,s',h1,h2⟩:=AW_det hD hC a hn.1 _ _ H
    have mono:=fun (K K' : Ex → St → Prop) (hK : ∀ e s,K e s → K' e s)=>AW_mono (C:=D) (C':=D) (gl:=gl) (fun f a h K K' hK h=>hD _ _ _ _ _ hK h) a s K K' hK
    cases e with
    | normal=>
      obtain ⟨e2,s2,k2,g2⟩:=AW_det hD hC b hn.2 _ _ h1
      refine ⟨e2,s2,k2,mono _ _ (fun e1 s1 ⟨a1,a2⟩=>?_) h2⟩
      subst a1; subst a2; exact g2
    | exit i=>exact ⟨_,_,h1,mono _ _ (fun e1 s1 ⟨a1,a2⟩=>by subst a1; subst a2; exact ⟨rfl,rfl⟩) h2⟩
    | ret=>exact ⟨_,_,h1,mono _ _ (fun e1 s1 ⟨a1,a2⟩=>by subst a1; subst a2; exact ⟨rfl,rfl⟩) h2⟩
  | .condu c a b,hn,s,K,H=>by cases hn
  | .det b,hn,s,K,H=>by cases hn
  | .cond c a b,hn,s,K,H=>by
    simp only [ACode.noNext,Bool.and_eq_true] at hn
    unfold AW at H
    split at H
    · rename_i t ht
      split at H
      · obtain ⟨e, s', h1, h2⟩ := AW_det hD hC a hn.1 _ _ H
        refine ⟨e,s',h1,?_⟩
        unfold AW; simp only [ht]; exact h2
      · obtain ⟨e, s', h1, h2⟩ := AW_det hD hC b hn.2 _ _ H
        refine ⟨e,s',h1,?_⟩
        unfold AW; simp only [ht]; exact h2
    · exact H.elim
  | .block id b,hn,s,K,H=>by
    obtain ⟨e,s',h1,h2⟩:=AW_det hD hC b hn _ _ H
    have mono:=fun (K K' : Ex → St → Prop) (hK : ∀ e s,K e s → K' e s)=>AW_mono (C:=D) (C':=D) (gl:=gl) (fun f a h K K' hK h=>hD _ _ _ _ _ hK h) b s K K' hK
    cases e with
    | normal=>exact ⟨_,_,h1,mono _ _ (fun e1 s1 ⟨a1,a2⟩=>by subst a1; subst a2; exact ⟨rfl,rfl⟩) h2⟩
    | exit i=>
      dsimp only at h1
      split at h1
      · rename_i hi
        exact ⟨_,_,h1,mono _ _ (fun e1 s1 ⟨a1,a2⟩=>by subst a1; subst a2; dsimp only; rw [if_pos hi]; exact ⟨rfl,rfl⟩) h2⟩
      · rename_i hi
        exact ⟨_,_,h1,mono _ _ (fun e1 s1 ⟨a1,a2⟩=>by subst a1; subst a2; dsimp only; rw [if_neg hi]; exact ⟨rfl,rfl⟩) h2⟩
    | ret=>exact ⟨_,_,h1,mono _ _ (fun e1 s1 ⟨a1,a2⟩=>by subst a1; subst a2; exact ⟨rfl,rfl⟩) h2⟩
  | .loop b,hn,s,K,H=>ALoop_det (fun s K h=>AW_det hD hC b hn s K h) H
  | .scope b,hn,s,K,H=>by
    obtain ⟨e,s',h1,h2⟩:=AW_det hD hC b hn _ _ H
    exact ⟨_,_,h1,AW_mono (C:=D) (C':=D) (gl:=gl) (fun f a h K K' hK h=>hD _ _ _ _ _ hK h) b _ _ _ (fun e1 s1 ⟨a1,a2⟩=>by subst a1; subst a2; exact ⟨rfl,rfl⟩) h2⟩
  | .pr l b,hn,s,K,H=>AW_det hD hC b hn _ K H
  | .exit id,_,s,K,H=>⟨_,_,H,rfl,rfl⟩
  | .ret,_,s,K,H=>⟨_,_,H,rfl,rfl⟩
  | .bad,_,s,K,H=>H.elim
theorem fin_det {F : AFun} {b : Nat} {s : St} {K : Post} (H : fin F b s K) : ∃ v h x,K v h x ∧ fin F b s fun v1 h1 x1=>v1 = v ∧ h1 = h ∧ x1 = x:=by
  unfold fin at H
  cases h1 : aresAll s F.results with
  | none=>rw [h1] at H; exact H.elim
  | some vs=>
    rw [h1] at H
    dsimp only at H
    cases h2 : F.keep with
    | true=>
      rw [h2] at H
      dsimp only at H
      by_cases h3 : closed s.esc (close (List.length s.esc) s.esc (max b (oneOf vs).top)) = true
      · rw [if_pos h3] at H
        exact ⟨_,_,_,H,by unfold fin; rw [h1]; dsimp only; rw [h2]; dsimp only; rw [if_pos h3]; exact ⟨rfl,rfl,rfl⟩⟩
      · rw [if_neg h3] at H
        exact ⟨_,_,_,H,by unfold fin; rw [h1]; dsimp only; rw [h2]; dsimp only; rw [if_neg h3]; exact ⟨rfl,rfl,rfl⟩⟩
    | false=>
      rw [h2] at H
      dsimp only at H
      cases h4 : reif b s.h (oneOf vs) with
      | none=>rw [h4] at H; exact H.elim
      | some v0=>
        rw [h4] at H
        dsimp only at H
        by_cases h3 : closed s.esc (close (List.length s.esc) s.esc (max b v0.top)) = true
        · rw [if_pos h3] at H
          cases h5 : reif (close (List.length s.esc) s.esc (max b v0.top)) s.h (oneOf vs) with
          | none=>rw [h5] at H; exact H.elim
          | some v=>
            rw [h5] at H
            exact ⟨_,_,_,H.2,by unfold fin; rw [h1]; dsimp only; rw [h2]; dsimp only; rw [h4]; dsimp only; rw [if_pos h3,h5]; exact ⟨H.1,rfl,rfl,rfl⟩⟩
        · rw [if_neg h3] at H
          exact ⟨_,_,_,H,by unfold fin; rw [h1]; dsimp only; rw [h2]; dsimp only; rw [h4]; dsimp only; rw [if_neg h3]; exact ⟨rfl,rfl,rfl⟩⟩
def Ctx.NoNext (X : Ctx) : Prop:=∀ f F,X.fn f = some F → (F.isDet || F.body.noNext) = true
theorem abody_det (hD : D.Mono) (hC : Dt C D) {F : AFun} {a : List AV} {h : Heap} {K : Post} (hb : F.body.noNext = true) (H : abody C gl F a h K) : ∃ v h' x,K v h' x ∧ abody D gl F a h fun v1 h1 x1=>v1 = v ∧ h1 = h' ∧ x1 = x:=by
  unfold abody at H ⊢
  cases hp : (if F.byref then some (a,h) else puras h a) with
  | none=>rw [hp] at H; exact H.elim
  | some q=>
    obtain ⟨asv,h1⟩:=q
    rw [hp] at H
    obtain ⟨hl,H⟩:=H
    obtain ⟨e,s',k1,g1⟩:=AW_det hD hC _ hb _ _ H
    have mono:=fun (K K' : Ex → St → Prop) (hK : ∀ e s,K e s → K' e s)=>AW_mono (C:=D) (C':=D) (gl:=gl) (fun f a h K K' hK h=>hD _ _ _ _ _ hK h) F.body ⟨enter asv,h1,[]⟩ K K' hK
    cases e with
    | exit i=>exact k1.elim
    | normal=>
      obtain ⟨v,h',x,k2,g2⟩:=fin_det k1
      exact ⟨v,h',x,k2,hl,mono _ _ (fun e1 s1 ⟨a1,a2⟩=>by subst a1; subst a2; exact g2) g1⟩
    | ret=>
      obtain ⟨v,h',x,k2,g2⟩:=fin_det k1
      exact ⟨v,h',x,k2,hl,mono _ _ (fun e1 s1 ⟨a1,a2⟩=>by subst a1; subst a2; exact g2) g1⟩
theorem ACall_det {X : Ctx} (hX : X.NoNext) : Dt (ACall X) (ACall X):=by
  intro f a h K H
  refine H (fun f a h K=>∃ v h' x,K v h' x ∧ ACall X f a h fun v1 h1 x1=>v1 = v ∧ h1 = h' ∧ x1 = x) ?_ ?_
  · intro f a h K K' hK ⟨v, h', x, k, g⟩
    exact ⟨v,h',x,hK _ _ _ k,g⟩
  · intro f a h K H
    have hC : Dt (fun f a h K=>∃ v h' x,K v h' x ∧ ACall X f a h fun v1 h1 x1=>v1 = v ∧ h1 = h' ∧ x1 = x) (ACall X):=fun f a h K H=>H
    have hD:=ACall.mono X
    unfold Step at H
    split at H
    · rename_i F hF
      unfold fbody at H
      cases hd : F.isDet with
      | true=>
        rw [hd] at H
        obtain ⟨v,h',x,k,H⟩:=H
        refine ⟨v,h',x,k,ACall.fold ?_⟩
        unfold Step
        simp only [hF,fbody,hd]
        exact ⟨v,h',x,⟨rfl,rfl,rfl⟩,abody_mono (fun f a h K K' hK ⟨v2,h2,x2,k2,g2⟩=>hD _ _ _ _ _ (fun v1 h1 x1 hv=>by obtain ⟨rfl,rfl,rfl⟩:=hv; exact hK _ _ _ k2) g2) (fun _ _ _ h=>h) H⟩
      | false=>
        rw [hd] at H
        obtain ⟨v,h',x,k1,g1⟩:=abody_det hD hC (by have:=hX f F hF; rw [hd] at this; simpa using this) H
        refine ⟨v,h',x,k1,ACall.fold ?_⟩
        unfold Step; simp only [hF,fbody,hd]
        exact g1
    · rename_i hF
      split at H
      · rename_i hx2
        refine ⟨_,_,_,H,ACall.fold ?_⟩
        unfold Step; simp only [hF,hx2]
        exact ⟨trivial,trivial,trivial⟩
      · rename_i hx2
        split at H
        · rename_i hp
          split at H
          · rename_i hu
            split at H
            · rename_i hx
              refine ⟨_,_,_,H,ACall.fold ?_⟩
              unfold Step; simp only [hF,hx2,hp,hu,hx]
              exact ⟨trivial,trivial,trivial⟩
            · exact H.elim
          · exact H.elim
        · exact H.elim
theorem ACall.one {X : Ctx} (hX : X.NoNext) {f : Nat} {a : List AV} {h : Heap} {Q : Post} (H : ACall X f a h Q) : ∃ v h' x,Q v h' x ∧ ∀ K : Post,ACall X f a h K = K v h' x:=by
  obtain ⟨v,h',x,k,g⟩:=ACall_det hX _ _ _ _ H
  exact ⟨v,h',x,k,fun K=>rule g⟩
end Go.Am
end
