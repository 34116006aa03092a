/- The abstract machine, part 24: rules by which its code is computed on what is only partly known. -/
import Derived.Test.YtajhbehiecgflaaAm23
set_option linter.unusedSimpArgs false
set_option linter.unusedVariables false
namespace Go.Am

def optK (o : Option (AV × Heap × Esc)) (f : AV → Heap → Esc → Prop) : Prop := match o with
  | some y => f y.1 y.2.1 y.2.2
  | none => False

def condB (v : AV) (A B : Prop) : Prop := match v with
  | .p (.bool t) => match t with
    | true => A
    | false => B
  | _ => False

def wantK (v : AV) (b : Bool) (A B : Prop) : Prop := match v with
  | .p (.bool c) => match c == b with
    | true => A
    | false => B
  | .skp => B
  | _ => False

def regK (keep : Option (List Nat)) (K : Ex → St → Prop) (e : List (Nat × AV)) (h : Heap) (x : Esc) : Prop := K .normal ⟨prune keep e, h, x⟩
def seqK (C : Hd) (gl : Nat → Option PV) (b : ACode) (K : Ex → St → Prop) (e : Ex) (s : St) : Prop := match e with
  | .normal => AW C gl b s K
  | .exit i => K (.exit i) s
  | .ret => K .ret s
def blockK (id : Nat) (K : Ex → St → Prop) (e : Ex) (s : St) : Prop := match e with
  | .normal => K .normal s
  | .exit i => if i = id then K .normal s else K (.exit i) s
  | .ret => K .ret s
def finK (F : AFun) (b : Nat) (K : Post) (e : Ex) (s : St) : Prop := match e with
  | .exit _ => False
  | _ => fin F b s K
def scopeK (n : Nat) (x : Esc) (K : Ex → St → Prop) (e : Ex) (s : St) : Prop := K e (trunc n x s)

def AO.plain : AO → Bool
  | .call _ _ | .callv _ _ | .mnext _ => false
  | .mv _ => true
  | .pick _ _ _ => true
  | .alloc _ => true
  | .box _ => true
  | .build _ _ => true
  | .bsl _ _ _ _ _ => true
  | .load _ _ => true
  | .store _ _ _ => true
  | .nilchk _ => true
  | .bin _ _ _ => true
  | .eqa _ _ _ _ => true
  | .isnil _ _ _ => true
  | .mkif _ => true
  | .un _ _ => true
  | .conv _ _ => true
  | .mkfn _ _ => true
  | .mkmap => true
  | .mksl _ _ _ _ => true
  | .slice _ _ _ _ _ => true
  | .slstr _ _ _ => true
  | .faddr _ _ _ => true
  | .field _ _ _ => true
  | .iaddr _ _ _ => true
  | .iaddra _ _ _ _ => true
  | .idxa _ _ _ _ => true
  | .idxs _ _ => true
  | .look _ _ _ _ => true
  | .mupd _ _ _ => true
  | .ment _ _ _ => true
  | .estore _ _ _ => true
  | .mdel _ _ => true
  | .ext _ _ => true
  | .len _ => true
  | .lens _ => true
  | .lenm _ => true
  | .app _ _ _ => true
  | .copy _ _ _ => true
  | .mx _ => true
  | .mn _ => true
  | .mrange _ => true
  | .mentry _ => true
  | .new0 _ => true

variable {C : Hd} {gl : Nat → Option PV} {e : List (Nat × AV)} {h : Heap} {x : Esc} {K : Ex → St → Prop} {L : List (Nat × AV) → Heap → Esc → Prop} {s : St}

theorem AW_skip : AW C gl .skip s K = K .normal s := (rfl)
theorem AW_ret : AW C gl .ret s K = K .ret s := (rfl)
theorem AW_exit {i : Nat} : AW C gl (.exit i) s K = K (.exit i) s := (rfl)
theorem AW_bad : AW C gl .bad s K = False := (rfl)
theorem AW_reg {ops : List AOp} {keep : Option (List Nat)} : AW C gl (.reg ops keep) ⟨e, h, x⟩ K = AReg C gl ops e h x (regK keep K) := (rfl)
theorem AW_seq {a b : ACode} : AW C gl (.seq a b) s K = AW C gl a s (seqK C gl b K) := (rfl)
theorem AW_cond {c : Opd} {a b : ACode} : AW C gl (.cond c a b) ⟨e, h, x⟩ K = condB (Opd.ev gl e c) (AW C gl a ⟨e, h, x⟩ K) (AW C gl b ⟨e, h, x⟩ K) := (rfl)
theorem AW_block {i : Nat} {b : ACode} : AW C gl (.block i b) s K = AW C gl b s (blockK i K) := (rfl)
theorem AW_scope {b : ACode} : AW C gl (.scope b) ⟨e, h, x⟩ K = AW C gl b ⟨e, h, []⟩ (scopeK h.length x K) := (rfl)
theorem AW_pr {l : List Nat} {b : ACode} : AW C gl (.pr l b) ⟨e, h, x⟩ K = AW C gl b ⟨prune (some l) e, h, x⟩ K := (rfl)
theorem regK_eq {keep : Option (List Nat)} : regK keep K e h x = K .normal ⟨prune keep e, h, x⟩ := (rfl)
theorem seqK_normal {b : ACode} : seqK C gl b K .normal s = AW C gl b s K := (rfl)
theorem seqK_exit {b : ACode} {i : Nat} : seqK C gl b K (.exit i) s = K (.exit i) s := (rfl)
theorem seqK_ret {b : ACode} : seqK C gl b K .ret s = K .ret s := (rfl)
theorem blockK_normal {i : Nat} : blockK i K .normal s = K .normal s := (rfl)
theorem blockK_exit {i j : Nat} : blockK i K (.exit j) s = if j = i then K .normal s else K (.exit j) s := (rfl)
theorem blockK_ret {i : Nat} : blockK i K .ret s = K .ret s := (rfl)
theorem finK_normal {F : AFun} {b : Nat} {P : Post} : finK F b P .normal s = fin F b s P := (rfl)
theorem finK_ret {F : AFun} {b : Nat} {P : Post} : finK F b P .ret s = fin F b s P := (rfl)
theorem scopeK_eq {n : Nat} {y : Esc} {ex : Ex} : scopeK n y K ex s = K ex (trunc n y s) := (rfl)

/-- What follows an operation. -/
def contR (C : Hd) (gl : Nat → Option PV) (r : List AOp) (d : Option Nat) (e : List (Nat × AV)) (x : Esc) (L : List (Nat × AV) → Heap → Esc → Prop) (v : AV) (h' : Heap) (x' : Esc) : Prop := AReg C gl r (put d v e) h' (x' ++ x) L
theorem contR_eq {r : List AOp} {d : Option Nat} {v : AV} {h' : Heap} {x' : Esc} : contR C gl r d e x L v h' x' = AReg C gl r (put d v e) h' (x' ++ x) L := (rfl)
theorem contR_congr {r : List AOp} {d : Option Nat} {v w : AV} {h' h'' : Heap} {x' x'' : Esc} (h1 : v = w) (h2 : h' = h'') (h3 : x' = x'') : contR C gl r d e x L v h' x' = contR C gl r d e x L w h'' x'' := by rw [h1, h2, h3]
theorem AReg_nil : AReg C gl [] e h x L = L e h x := (rfl)
theorem AReg_op {d : Option Nat} {op : AO} {r : List AOp} (hp : op.plain = true) : AReg C gl (⟨d, none, op⟩ :: r) e h x L = optK (aop op (Opd.ev gl e) h) (contR C gl r d e x L) := by
  cases op <;> first | (cases hp; done) | (simp only [AReg, wanted, optK, contR]; split <;> simp_all)
/-! one rule for each operation -/
theorem AReg_mv {d : Option Nat} {r : List AOp} {q0 : Opd} : AReg C gl (⟨d, none, (.mv q0)⟩ :: r) e h x L = optK (aop (.mv q0) (Opd.ev gl e) h) (contR C gl r d e x L) := AReg_op rfl
theorem AReg_pick {d : Option Nat} {r : List AOp} {q0 q1 q2 : Opd} : AReg C gl (⟨d, none, (.pick q0 q1 q2)⟩ :: r) e h x L = optK (aop (.pick q0 q1 q2) (Opd.ev gl e) h) (contR C gl r d e x L) := AReg_op rfl
theorem AReg_alloc {d : Option Nat} {r : List AOp} {q0 : List AV} : AReg C gl (⟨d, none, (.alloc q0)⟩ :: r) e h x L = optK (aop (.alloc q0) (Opd.ev gl e) h) (contR C gl r d e x L) := AReg_op rfl
theorem AReg_box {d : Option Nat} {r : List AOp} {q0 : Opd} : AReg C gl (⟨d, none, (.box q0)⟩ :: r) e h x L = optK (aop (.box q0) (Opd.ev gl e) h) (contR C gl r d e x L) := AReg_op rfl
theorem AReg_build {d : Option Nat} {r : List AOp} {q0 : List AV} {q1 : List (Nat × Nat × Opd)} : AReg C gl (⟨d, none, (.build q0 q1)⟩ :: r) e h x L = optK (aop (.build q0 q1) (Opd.ev gl e) h) (contR C gl r d e x L) := AReg_op rfl
theorem AReg_bsl {d : Option Nat} {r : List AOp} {q0 : Bool} {q1 : Sh} {q2 : Nat} {q3 : PV} {q4 : List (Nat × Opd)} : AReg C gl (⟨d, none, (.bsl q0 q1 q2 q3 q4)⟩ :: r) e h x L = optK (aop (.bsl q0 q1 q2 q3 q4) (Opd.ev gl e) h) (contR C gl r d e x L) := AReg_op rfl
theorem AReg_load {d : Option Nat} {r : List AOp} {q0 : Sh} {q1 : Opd} : AReg C gl (⟨d, none, (.load q0 q1)⟩ :: r) e h x L = optK (aop (.load q0 q1) (Opd.ev gl e) h) (contR C gl r d e x L) := AReg_op rfl
theorem AReg_store {d : Option Nat} {r : List AOp} {q0 : Sh} {q1 q2 : Opd} : AReg C gl (⟨d, none, (.store q0 q1 q2)⟩ :: r) e h x L = optK (aop (.store q0 q1 q2) (Opd.ev gl e) h) (contR C gl r d e x L) := AReg_op rfl
theorem AReg_nilchk {d : Option Nat} {r : List AOp} {q0 : Opd} : AReg C gl (⟨d, none, (.nilchk q0)⟩ :: r) e h x L = optK (aop (.nilchk q0) (Opd.ev gl e) h) (contR C gl r d e x L) := AReg_op rfl
theorem AReg_bin {d : Option Nat} {r : List AOp} {q0 : BinOp} {q1 q2 : Opd} : AReg C gl (⟨d, none, (.bin q0 q1 q2)⟩ :: r) e h x L = optK (aop (.bin q0 q1 q2) (Opd.ev gl e) h) (contR C gl r d e x L) := AReg_op rfl
theorem AReg_eqa {d : Option Nat} {r : List AOp} {q0 : List Nat} {q1 : Bool} {q2 q3 : Opd} : AReg C gl (⟨d, none, (.eqa q0 q1 q2 q3)⟩ :: r) e h x L = optK (aop (.eqa q0 q1 q2 q3) (Opd.ev gl e) h) (contR C gl r d e x L) := AReg_op rfl
theorem AReg_isnil {d : Option Nat} {r : List AOp} {q0 : Nat} {q1 : Bool} {q2 : Opd} : AReg C gl (⟨d, none, (.isnil q0 q1 q2)⟩ :: r) e h x L = optK (aop (.isnil q0 q1 q2) (Opd.ev gl e) h) (contR C gl r d e x L) := AReg_op rfl
theorem AReg_mkif {d : Option Nat} {r : List AOp} {q0 : Opd} : AReg C gl (⟨d, none, (.mkif q0)⟩ :: r) e h x L = optK (aop (.mkif q0) (Opd.ev gl e) h) (contR C gl r d e x L) := AReg_op rfl
theorem AReg_un {d : Option Nat} {r : List AOp} {q0 : UnOp} {q1 : Opd} : AReg C gl (⟨d, none, (.un q0 q1)⟩ :: r) e h x L = optK (aop (.un q0 q1) (Opd.ev gl e) h) (contR C gl r d e x L) := AReg_op rfl
theorem AReg_conv {d : Option Nat} {r : List AOp} {q0 : Cv} {q1 : Opd} : AReg C gl (⟨d, none, (.conv q0 q1)⟩ :: r) e h x L = optK (aop (.conv q0 q1) (Opd.ev gl e) h) (contR C gl r d e x L) := AReg_op rfl
theorem AReg_mkfn {d : Option Nat} {r : List AOp} {q0 : Nat} {q1 : List Opd} : AReg C gl (⟨d, none, (.mkfn q0 q1)⟩ :: r) e h x L = optK (aop (.mkfn q0 q1) (Opd.ev gl e) h) (contR C gl r d e x L) := AReg_op rfl
theorem AReg_mkmap {d : Option Nat} {r : List AOp}  : AReg C gl (⟨d, none, .mkmap⟩ :: r) e h x L = optK (aop .mkmap (Opd.ev gl e) h) (contR C gl r d e x L) := AReg_op rfl
theorem AReg_mksl {d : Option Nat} {r : List AOp} {q0 : Sh} {q1 : PV} {q2 q3 : Opd} : AReg C gl (⟨d, none, (.mksl q0 q1 q2 q3)⟩ :: r) e h x L = optK (aop (.mksl q0 q1 q2 q3) (Opd.ev gl e) h) (contR C gl r d e x L) := AReg_op rfl
theorem AReg_slice {d : Option Nat} {r : List AOp} {q0 : Sh} {q1 : Opd} {q2 q3 q4 : Option Opd} : AReg C gl (⟨d, none, (.slice q0 q1 q2 q3 q4)⟩ :: r) e h x L = optK (aop (.slice q0 q1 q2 q3 q4) (Opd.ev gl e) h) (contR C gl r d e x L) := AReg_op rfl
theorem AReg_slstr {d : Option Nat} {r : List AOp} {q0 : Opd} {q1 q2 : Option Opd} : AReg C gl (⟨d, none, (.slstr q0 q1 q2)⟩ :: r) e h x L = optK (aop (.slstr q0 q1 q2) (Opd.ev gl e) h) (contR C gl r d e x L) := AReg_op rfl
theorem AReg_faddr {d : Option Nat} {r : List AOp} {q0 : Nat} {q1 : Sh} {q2 : Opd} : AReg C gl (⟨d, none, (.faddr q0 q1 q2)⟩ :: r) e h x L = optK (aop (.faddr q0 q1 q2) (Opd.ev gl e) h) (contR C gl r d e x L) := AReg_op rfl
theorem AReg_field {d : Option Nat} {r : List AOp} {q0 : Nat} {q1 : Sh} {q2 : Opd} : AReg C gl (⟨d, none, (.field q0 q1 q2)⟩ :: r) e h x L = optK (aop (.field q0 q1 q2) (Opd.ev gl e) h) (contR C gl r d e x L) := AReg_op rfl
theorem AReg_iaddr {d : Option Nat} {r : List AOp} {q0 : Sh} {q1 q2 : Opd} : AReg C gl (⟨d, none, (.iaddr q0 q1 q2)⟩ :: r) e h x L = optK (aop (.iaddr q0 q1 q2) (Opd.ev gl e) h) (contR C gl r d e x L) := AReg_op rfl
theorem AReg_iaddra {d : Option Nat} {r : List AOp} {q0 : Nat} {q1 : Sh} {q2 q3 : Opd} : AReg C gl (⟨d, none, (.iaddra q0 q1 q2 q3)⟩ :: r) e h x L = optK (aop (.iaddra q0 q1 q2 q3) (Opd.ev gl e) h) (contR C gl r d e x L) := AReg_op rfl
theorem AReg_idxa {d : Option Nat} {r : List AOp} {q0 : Nat} {q1 : Sh} {q2 q3 : Opd} : AReg C gl (⟨d, none, (.idxa q0 q1 q2 q3)⟩ :: r) e h x L = optK (aop (.idxa q0 q1 q2 q3) (Opd.ev gl e) h) (contR C gl r d e x L) := AReg_op rfl
theorem AReg_idxs {d : Option Nat} {r : List AOp} {q0 q1 : Opd} : AReg C gl (⟨d, none, (.idxs q0 q1)⟩ :: r) e h x L = optK (aop (.idxs q0 q1) (Opd.ev gl e) h) (contR C gl r d e x L) := AReg_op rfl
theorem AReg_look {d : Option Nat} {r : List AOp} {q0 : Bool} {q1 : AV} {q2 q3 : Opd} : AReg C gl (⟨d, none, (.look q0 q1 q2 q3)⟩ :: r) e h x L = optK (aop (.look q0 q1 q2 q3) (Opd.ev gl e) h) (contR C gl r d e x L) := AReg_op rfl
theorem AReg_mupd {d : Option Nat} {r : List AOp} {q0 q1 q2 : Opd} : AReg C gl (⟨d, none, (.mupd q0 q1 q2)⟩ :: r) e h x L = optK (aop (.mupd q0 q1 q2) (Opd.ev gl e) h) (contR C gl r d e x L) := AReg_op rfl
theorem AReg_ment {d : Option Nat} {r : List AOp} {q0 : AV} {q1 q2 : Opd} : AReg C gl (⟨d, none, (.ment q0 q1 q2)⟩ :: r) e h x L = optK (aop (.ment q0 q1 q2) (Opd.ev gl e) h) (contR C gl r d e x L) := AReg_op rfl
theorem AReg_estore {d : Option Nat} {r : List AOp} {q0 q1 q2 : Opd} : AReg C gl (⟨d, none, (.estore q0 q1 q2)⟩ :: r) e h x L = optK (aop (.estore q0 q1 q2) (Opd.ev gl e) h) (contR C gl r d e x L) := AReg_op rfl
theorem AReg_mdel {d : Option Nat} {r : List AOp} {q0 q1 : Opd} : AReg C gl (⟨d, none, (.mdel q0 q1)⟩ :: r) e h x L = optK (aop (.mdel q0 q1) (Opd.ev gl e) h) (contR C gl r d e x L) := AReg_op rfl
theorem AReg_ext {d : Option Nat} {r : List AOp} {q0 : Opd} {q1 : Nat} : AReg C gl (⟨d, none, (.ext q0 q1)⟩ :: r) e h x L = optK (aop (.ext q0 q1) (Opd.ev gl e) h) (contR C gl r d e x L) := AReg_op rfl
theorem AReg_len {d : Option Nat} {r : List AOp} {q0 : Opd} : AReg C gl (⟨d, none, (.len q0)⟩ :: r) e h x L = optK (aop (.len q0) (Opd.ev gl e) h) (contR C gl r d e x L) := AReg_op rfl
theorem AReg_lens {d : Option Nat} {r : List AOp} {q0 : Opd} : AReg C gl (⟨d, none, (.lens q0)⟩ :: r) e h x L = optK (aop (.lens q0) (Opd.ev gl e) h) (contR C gl r d e x L) := AReg_op rfl
theorem AReg_lenm {d : Option Nat} {r : List AOp} {q0 : Opd} : AReg C gl (⟨d, none, (.lenm q0)⟩ :: r) e h x L = optK (aop (.lenm q0) (Opd.ev gl e) h) (contR C gl r d e x L) := AReg_op rfl
theorem AReg_app {d : Option Nat} {r : List AOp} {q0 : Sh} {q1 q2 : Opd} : AReg C gl (⟨d, none, (.app q0 q1 q2)⟩ :: r) e h x L = optK (aop (.app q0 q1 q2) (Opd.ev gl e) h) (contR C gl r d e x L) := AReg_op rfl
theorem AReg_copy {d : Option Nat} {r : List AOp} {q0 : Sh} {q1 q2 : Opd} : AReg C gl (⟨d, none, (.copy q0 q1 q2)⟩ :: r) e h x L = optK (aop (.copy q0 q1 q2) (Opd.ev gl e) h) (contR C gl r d e x L) := AReg_op rfl
theorem AReg_mx {d : Option Nat} {r : List AOp} {q0 : List Opd} : AReg C gl (⟨d, none, (.mx q0)⟩ :: r) e h x L = optK (aop (.mx q0) (Opd.ev gl e) h) (contR C gl r d e x L) := AReg_op rfl
theorem AReg_mn {d : Option Nat} {r : List AOp} {q0 : List Opd} : AReg C gl (⟨d, none, (.mn q0)⟩ :: r) e h x L = optK (aop (.mn q0) (Opd.ev gl e) h) (contR C gl r d e x L) := AReg_op rfl
theorem AReg_mrange {d : Option Nat} {r : List AOp} {q0 : Opd} : AReg C gl (⟨d, none, (.mrange q0)⟩ :: r) e h x L = optK (aop (.mrange q0) (Opd.ev gl e) h) (contR C gl r d e x L) := AReg_op rfl
theorem AReg_mentry {d : Option Nat} {r : List AOp} {q0 : Opd} : AReg C gl (⟨d, none, (.mentry q0)⟩ :: r) e h x L = optK (aop (.mentry q0) (Opd.ev gl e) h) (contR C gl r d e x L) := AReg_op rfl
theorem AReg_new0 {d : Option Nat} {r : List AOp} {q0 : Sh} : AReg C gl (⟨d, none, (.new0 q0)⟩ :: r) e h x L = optK (aop (.new0 q0) (Opd.ev gl e) h) (contR C gl r d e x L) := AReg_op rfl
theorem AReg_call {d : Option Nat} {f : Nat} {args : List Opd} {r : List AOp} : AReg C gl (⟨d, none, .call f args⟩ :: r) e h x L = C f (args.map (Opd.ev gl e)) h (contR C gl r d e x L) := (rfl)
theorem AReg_callv {d : Option Nat} {f : Opd} {args : List Opd} {r : List AOp} {g : Nat} {caps : List AV} (hf : Opd.ev gl e f = .fn g caps) :
    AReg C gl (⟨d, none, .callv f args⟩ :: r) e h x L = C g (args.map (Opd.ev gl e) ++ caps) h (contR C gl r d e x L) := by
  simp only [AReg, wanted, hf]
  rfl
theorem AReg_true {d : Option Nat} {g : Option (Nat × Bool)} {op : AO} {r : List AOp} (hw : wanted g e = some true) : AReg C gl (⟨d, g, op⟩ :: r) e h x L = AReg C gl (⟨d, none, op⟩ :: r) e h x L := by
  rw [AReg, AReg]
  have h2 : wanted none e = some true := (rfl)
  simp only [hw, h2]
theorem AReg_false {d : Option Nat} {g : Option (Nat × Bool)} {op : AO} {r : List AOp} (hw : wanted g e = some false) : AReg C gl (⟨d, g, op⟩ :: r) e h x L = AReg C gl r (put d .skp e) h x L := by
  rw [AReg]
  simp only [hw]
theorem AReg_stuck {d : Option Nat} {g : Option (Nat × Bool)} {op : AO} {r : List AOp} (hw : wanted g e = none) : AReg C gl (⟨d, g, op⟩ :: r) e h x L = False := by
  rw [AReg]
  simp only [hw]
theorem AReg_guard {d : Option Nat} {t : Nat} {b : Bool} {op : AO} {r : List AOp} : AReg C gl (⟨d, some (t, b), op⟩ :: r) e h x L = wantK (aget e t) b (AReg C gl (⟨d, none, op⟩ :: r) e h x L) (AReg C gl r (put d .skp e) h x L) := by
  have key : ∀ v, aget e t = v → AReg C gl (⟨d, some (t, b), op⟩ :: r) e h x L = wantK v b (AReg C gl (⟨d, none, op⟩ :: r) e h x L) (AReg C gl r (put d .skp e) h x L) := by
    intro v hv
    unfold wantK
    split
    · rename_i c
      split
      · rename_i hcb; exact AReg_true (by simp [wanted, hv, hcb])
      · rename_i hcb; exact AReg_false (by simp [wanted, hv, hcb])
    · exact AReg_false (by simp [wanted, hv])
    · rename_i h1 h2
      refine AReg_stuck ?_
      simp only [wanted, hv]
  exact key _ rfl

theorem optK_some {v : AV} {h : Heap} {x : Esc} {f : AV → Heap → Esc → Prop} : optK (some (v, h, x)) f = f v h x := (rfl)
theorem optK_none {f : AV → Heap → Esc → Prop} : optK none f = False := (rfl)
theorem optK_ite {p : Prop} [Decidable p] {a b : Option (AV × Heap × Esc)} {f : AV → Heap → Esc → Prop} : optK (if p then a else b) f = if p then optK a f else optK b f := by split <;> rfl
theorem optK_map_ite {α : Type} {p : Prop} [Decidable p] {a b : Option α} {g : α → AV × Heap × Esc} {f : AV → Heap → Esc → Prop} : optK (Option.map g (if p then a else b)) f = if p then optK (a.map g) f else optK (b.map g) f := by split <;> rfl
theorem condB_bool {t : Bool} {A B : Prop} : condB (.p (.bool t)) A B = if t = true then A else B := by cases t <;> simp [condB]
theorem condB_true {A B : Prop} : condB (.p (.bool true)) A B = A := (rfl)
theorem condB_false {A B : Prop} : condB (.p (.bool false)) A B = B := (rfl)
theorem wantK_skp {b : Bool} {A B : Prop} : wantK .skp b A B = B := (rfl)
theorem wantK_true {t : Bool} {A B : Prop} : wantK (.p (.bool t)) true A B = if t = true then A else B := by cases t <;> simp [wantK]
theorem wantK_false {t : Bool} {A B : Prop} : wantK (.p (.bool t)) false A B = if t = true then B else A := by cases t <;> simp [wantK]

/-- Only the value is computed before it is known which way it goes. -/
theorem condB_congr {v v' : AV} {A B : Prop} (hv : v = v') : condB v A B = condB v' A B := by rw [hv]
theorem wantK_congr {v v' : AV} {b : Bool} {A B : Prop} (hv : v = v') : wantK v b A B = wantK v' b A B := by rw [hv]
theorem optK_congr {o o' : Option (AV × Heap × Esc)} {f : AV → Heap → Esc → Prop} (ho : o = o') : optK o f = optK o' f := by rw [ho]
theorem AReg_congr {ops : List AOp} {e e' : List (Nat × AV)} {h h' : Heap} {x x' : Esc} (he : e = e') (hh : h = h') (hx : x = x') : AReg C gl ops e h x L = AReg C gl ops e' h' x' L := by rw [he, hh, hx]
theorem AW_congr {c : ACode} {s s' : St} (hs : s = s') : AW C gl c s K = AW C gl c s' K := by rw [hs]
theorem regK_congr {keep : Option (List Nat)} {e e' : List (Nat × AV)} {h h' : Heap} {x x' : Esc} (he : e = e') (hh : h = h') (hx : x = x') : regK keep K e h x = regK keep K e' h' x' := by rw [he, hh, hx]
theorem seqK_congr {b : ACode} {ex ex' : Ex} {s s' : St} (he : ex = ex') (hs : s = s') : seqK C gl b K ex s = seqK C gl b K ex' s' := by rw [he, hs]
theorem blockK_congr {i : Nat} {ex ex' : Ex} {s s' : St} (he : ex = ex') (hs : s = s') : blockK i K ex s = blockK i K ex' s' := by rw [he, hs]
theorem finK_congr {F : AFun} {b : Nat} {P : Post} {ex ex' : Ex} {s s' : St} (he : ex = ex') (hs : s = s') : finK F b P ex s = finK F b P ex' s' := by rw [he, hs]
theorem scopeK_congr {n : Nat} {y : Esc} {ex ex' : Ex} {s s' : St} (he : ex = ex') (hs : s = s') : scopeK n y K ex s = scopeK n y K ex' s' := by rw [he, hs]

theorem Step_fn {X : Ctx} {f : Nat} {F : AFun} {a : List AV} {h : Heap} {P : Post} (hf : X.fn f = some F) : ACall X f a h P = abody (ACall X) X.gl F a h P := by
  rw [propext ACall_iff]
  unfold Step
  rw [hf]

theorem abody_val {F : AFun} {a as : List AV} {h h1 : Heap} {P : Post} (hr : F.byref = false) (hp : puras h a = some (as, h1)) (hl : as.length = F.nparams) :
    abody C gl F a h P = AW C gl F.body ⟨enter as, h1, []⟩ (finK F h.length P) := by
  unfold abody
  rw [hr]
  simp only [Bool.false_eq_true, if_false, hp, hl, true_and]
  congr 1

theorem abody_ref {F : AFun} {as : List AV} {h : Heap} {P : Post} (hr : F.byref = true) (hl : as.length = F.nparams) :
    abody C gl F as h P = AW C gl F.body ⟨enter as, h, []⟩ (finK F h.length P) := by
  unfold abody
  rw [hr]
  simp only [if_true, hl, true_and]
  congr 1

/-! ### drawn regions -/

def doK (C : Hd) (gl : Nat → Option PV) (o : AOp) (e : List (Nat × AV)) (h : Heap) (R : AV → Heap → Esc → Prop) : Prop := ∃ v h' y, ADo C gl o e h v h' y ∧ R v h' y
def callE (C : Hd) (f : Nat) (a : List AV) (h : Heap) (R : AV → Heap → Esc → Prop) : Prop := ∃ v h' y, C f a h (fun v1 h1 x1 => v1 = v ∧ h1 = h' ∧ x1 = y) ∧ R v h' y
def drawK (C : Hd) (gl : Nat → Option PV) (o : DOp) (r : List DOp) (dn : Done) (hs : List Heap) (e : List (Nat × AV)) (h : Heap) (x : Esc) (L : List (Nat × AV) → Heap → Esc → Prop) (v : AV) (h' : Heap) (y : Esc) : Prop :=
  (o.eff = false → h' = h ∧ y = []) ∧ (∀ k ∈ o.early, ∃ g, hs[k]? = some g ∧ ADo C gl o.op (prune (some o.rd) e) g v g []) ∧
    (∀ j ∈ o.again, ∃ q, dn[j]? = some q ∧ ADo C gl q.1 q.2.1 h' q.2.2 h' []) ∧ ADraw C gl r (dn ++ [(o.op, prune (some o.rd) e, v)]) (hs ++ [h]) (put o.op.dst v e) h' (y ++ x) L

theorem AW_draw {ds : List DOp} {keep : Option (List Nat)} : AW C gl (.draw ds keep) ⟨e, h, x⟩ K = ADraw C gl ds [] [] e h x (regK keep K) := (rfl)
theorem ADraw_nil {dn : Done} {hs : List Heap} : ADraw C gl [] dn hs e h x L = L e h x := (rfl)
theorem ADraw_cons {o : DOp} {r : List DOp} {dn : Done} {hs : List Heap} : ADraw C gl (o :: r) dn hs e h x L = doK C gl o.op (prune (some o.rd) e) h (drawK C gl o r dn hs e h x L) := (rfl)

variable {R : AV → Heap → Esc → Prop}
theorem ex3 {v0 : AV} {h0 : Heap} {y0 : Esc} : (∃ v h y, (v = v0 ∧ h = h0 ∧ y = y0) ∧ R v h y) = R v0 h0 y0 :=
  propext ⟨fun ⟨_, _, _, ⟨h1, h2, h3⟩, r⟩ => by subst h1; subst h2; subst h3; exact r, fun r => ⟨_, _, _, ⟨rfl, rfl, rfl⟩, r⟩⟩
theorem ex3' {v0 : AV} {h0 : Heap} {y0 : Esc} : (∃ v h y, (v0 = v ∧ h0 = h ∧ y0 = y) ∧ R v h y) = R v0 h0 y0 :=
  propext ⟨fun ⟨_, _, _, ⟨h1, h2, h3⟩, r⟩ => by subst h1; subst h2; subst h3; exact r, fun r => ⟨_, _, _, ⟨rfl, rfl, rfl⟩, r⟩⟩
theorem doK_op {d : Option Nat} {op : AO} (hp : op.plain = true) : doK C gl ⟨d, none, op⟩ e h R = optK (aop op (Opd.ev gl e) h) R := by
  have key : ∀ o : Option (AV × Heap × Esc), (∃ v h' y, o = some (v, h', y) ∧ R v h' y) = optK o R := by
    intro o
    cases o with
    | none => simp [optK]
    | some z => obtain ⟨v, h', y⟩ := z; simp only [Option.some.injEq, Prod.mk.injEq, ex3']; rfl
  rw [← key]
  unfold doK ADo
  cases op <;> first | (cases hp; done) | rfl
theorem doK_call {d : Option Nat} {f : Nat} {args : List Opd} : doK C gl ⟨d, none, .call f args⟩ e h R = callE C f (args.map (Opd.ev gl e)) h R := (rfl)
theorem doK_callv {d : Option Nat} {f : Opd} {args : List Opd} {g : Nat} {caps : List AV} (hf : Opd.ev gl e f = .fn g caps) : doK C gl ⟨d, none, .callv f args⟩ e h R = callE C g (args.map (Opd.ev gl e) ++ caps) h R := by
  unfold doK ADo callE
  simp only [wanted, hf]
theorem doK_guard {d : Option Nat} {t : Nat} {b : Bool} {op : AO} : doK C gl ⟨d, some (t, b), op⟩ e h R = wantK (aget e t) b (doK C gl ⟨d, none, op⟩ e h R) (R .skp h []) := by
  have h2 : wanted none e = some true := (rfl)
  have key : ∀ v, aget e t = v → doK C gl ⟨d, some (t, b), op⟩ e h R = wantK v b (doK C gl ⟨d, none, op⟩ e h R) (R .skp h []) := by
    intro v hv
    unfold wantK
    split
    · rename_i c
      split
      · rename_i hcb
        have hw : wanted (some (t, b)) e = some true := by simp [wanted, hv, hcb]
        unfold doK ADo
        simp only [hw, h2]
      · rename_i hcb
        have hw : wanted (some (t, b)) e = some false := by simp [wanted, hv, hcb]
        unfold doK ADo
        simp only [hw, ex3]
    · have hw : wanted (some (t, b)) e = some false := by simp [wanted, hv]
      unfold doK ADo
      simp only [hw, ex3]
    · rename_i h3 h4
      have hw : wanted (some (t, b)) e = none := by
        simp only [wanted, hv]
      unfold doK ADo
      simp only [hw]
      simp
  exact key _ rfl
theorem doK_mv {d : Option Nat} {q0 : Opd} : doK C gl ⟨d, none, (.mv q0)⟩ e h R = optK (aop (.mv q0) (Opd.ev gl e) h) R := doK_op rfl
theorem doK_pick {d : Option Nat} {q0 q1 q2 : Opd} : doK C gl ⟨d, none, (.pick q0 q1 q2)⟩ e h R = optK (aop (.pick q0 q1 q2) (Opd.ev gl e) h) R := doK_op rfl
theorem doK_alloc {d : Option Nat} {q0 : List AV} : doK C gl ⟨d, none, (.alloc q0)⟩ e h R = optK (aop (.alloc q0) (Opd.ev gl e) h) R := doK_op rfl
theorem doK_box {d : Option Nat} {q0 : Opd} : doK C gl ⟨d, none, (.box q0)⟩ e h R = optK (aop (.box q0) (Opd.ev gl e) h) R := doK_op rfl
theorem doK_build {d : Option Nat} {q0 : List AV} {q1 : List (Nat × Nat × Opd)} : doK C gl ⟨d, none, (.build q0 q1)⟩ e h R = optK (aop (.build q0 q1) (Opd.ev gl e) h) R := doK_op rfl
theorem doK_bsl {d : Option Nat} {q0 : Bool} {q1 : Sh} {q2 : Nat} {q3 : PV} {q4 : List (Nat × Opd)} : doK C gl ⟨d, none, (.bsl q0 q1 q2 q3 q4)⟩ e h R = optK (aop (.bsl q0 q1 q2 q3 q4) (Opd.ev gl e) h) R := doK_op rfl
theorem doK_load {d : Option Nat} {q0 : Sh} {q1 : Opd} : doK C gl ⟨d, none, (.load q0 q1)⟩ e h R = optK (aop (.load q0 q1) (Opd.ev gl e) h) R := doK_op rfl
theorem doK_store {d : Option Nat} {q0 : Sh} {q1 q2 : Opd} : doK C gl ⟨d, none, (.store q0 q1 q2)⟩ e h R = optK (aop (.store q0 q1 q2) (Opd.ev gl e) h) R := doK_op rfl
theorem doK_nilchk {d : Option Nat} {q0 : Opd} : doK C gl ⟨d, none, (.nilchk q0)⟩ e h R = optK (aop (.nilchk q0) (Opd.ev gl e) h) R := doK_op rfl
theorem doK_bin {d : Option Nat} {q0 : BinOp} {q1 q2 : Opd} : doK C gl ⟨d, none, (.bin q0 q1 q2)⟩ e h R = optK (aop (.bin q0 q1 q2) (Opd.ev gl e) h) R := doK_op rfl
theorem doK_eqa {d : Option Nat} {q0 : List Nat} {q1 : Bool} {q2 q3 : Opd} : doK C gl ⟨d, none, (.eqa q0 q1 q2 q3)⟩ e h R = optK (aop (.eqa q0 q1 q2 q3) (Opd.ev gl e) h) R := doK_op rfl
theorem doK_isnil {d : Option Nat} {q0 : Nat} {q1 : Bool} {q2 : Opd} : doK C gl ⟨d, none, (.isnil q0 q1 q2)⟩ e h R = optK (aop (.isnil q0 q1 q2) (Opd.ev gl e) h) R := doK_op rfl
theorem doK_mkif {d : Option Nat} {q0 : Opd} : doK C gl ⟨d, none, (.mkif q0)⟩ e h R = optK (aop (.mkif q0) (Opd.ev gl e) h) R := doK_op rfl
theorem doK_un {d : Option Nat} {q0 : UnOp} {q1 : Opd} : doK C gl ⟨d, none, (.un q0 q1)⟩ e h R = optK (aop (.un q0 q1) (Opd.ev gl e) h) R := doK_op rfl
theorem doK_conv {d : Option Nat} {q0 : Cv} {q1 : Opd} : doK C gl ⟨d, none, (.conv q0 q1)⟩ e h R = optK (aop (.conv q0 q1) (Opd.ev gl e) h) R := doK_op rfl
theorem doK_mkfn {d : Option Nat} {q0 : Nat} {q1 : List Opd} : doK C gl ⟨d, none, (.mkfn q0 q1)⟩ e h R = optK (aop (.mkfn q0 q1) (Opd.ev gl e) h) R := doK_op rfl
theorem doK_mkmap {d : Option Nat}  : doK C gl ⟨d, none, .mkmap⟩ e h R = optK (aop .mkmap (Opd.ev gl e) h) R := doK_op rfl
theorem doK_mksl {d : Option Nat} {q0 : Sh} {q1 : PV} {q2 q3 : Opd} : doK C gl ⟨d, none, (.mksl q0 q1 q2 q3)⟩ e h R = optK (aop (.mksl q0 q1 q2 q3) (Opd.ev gl e) h) R := doK_op rfl
theorem doK_slice {d : Option Nat} {q0 : Sh} {q1 : Opd} {q2 q3 q4 : Option Opd} : doK C gl ⟨d, none, (.slice q0 q1 q2 q3 q4)⟩ e h R = optK (aop (.slice q0 q1 q2 q3 q4) (Opd.ev gl e) h) R := doK_op rfl
theorem doK_slstr {d : Option Nat} {q0 : Opd} {q1 q2 : Option Opd} : doK C gl ⟨d, none, (.slstr q0 q1 q2)⟩ e h R = optK (aop (.slstr q0 q1 q2) (Opd.ev gl e) h) R := doK_op rfl
theorem doK_faddr {d : Option Nat} {q0 : Nat} {q1 : Sh} {q2 : Opd} : doK C gl ⟨d, none, (.faddr q0 q1 q2)⟩ e h R = optK (aop (.faddr q0 q1 q2) (Opd.ev gl e) h) R := doK_op rfl
theorem doK_field {d : Option Nat} {q0 : Nat} {q1 : Sh} {q2 : Opd} : doK C gl ⟨d, none, (.field q0 q1 q2)⟩ e h R = optK (aop (.field q0 q1 q2) (Opd.ev gl e) h) R := doK_op rfl
theorem doK_iaddr {d : Option Nat} {q0 : Sh} {q1 q2 : Opd} : doK C gl ⟨d, none, (.iaddr q0 q1 q2)⟩ e h R = optK (aop (.iaddr q0 q1 q2) (Opd.ev gl e) h) R := doK_op rfl
theorem doK_iaddra {d : Option Nat} {q0 : Nat} {q1 : Sh} {q2 q3 : Opd} : doK C gl ⟨d, none, (.iaddra q0 q1 q2 q3)⟩ e h R = optK (aop (.iaddra q0 q1 q2 q3) (Opd.ev gl e) h) R := doK_op rfl
theorem doK_idxa {d : Option Nat} {q0 : Nat} {q1 : Sh} {q2 q3 : Opd} : doK C gl ⟨d, none, (.idxa q0 q1 q2 q3)⟩ e h R = optK (aop (.idxa q0 q1 q2 q3) (Opd.ev gl e) h) R := doK_op rfl
theorem doK_idxs {d : Option Nat} {q0 q1 : Opd} : doK C gl ⟨d, none, (.idxs q0 q1)⟩ e h R = optK (aop (.idxs q0 q1) (Opd.ev gl e) h) R := doK_op rfl
theorem doK_look {d : Option Nat} {q0 : Bool} {q1 : AV} {q2 q3 : Opd} : doK C gl ⟨d, none, (.look q0 q1 q2 q3)⟩ e h R = optK (aop (.look q0 q1 q2 q3) (Opd.ev gl e) h) R := doK_op rfl
theorem doK_mupd {d : Option Nat} {q0 q1 q2 : Opd} : doK C gl ⟨d, none, (.mupd q0 q1 q2)⟩ e h R = optK (aop (.mupd q0 q1 q2) (Opd.ev gl e) h) R := doK_op rfl
theorem doK_ment {d : Option Nat} {q0 : AV} {q1 q2 : Opd} : doK C gl ⟨d, none, (.ment q0 q1 q2)⟩ e h R = optK (aop (.ment q0 q1 q2) (Opd.ev gl e) h) R := doK_op rfl
theorem doK_estore {d : Option Nat} {q0 q1 q2 : Opd} : doK C gl ⟨d, none, (.estore q0 q1 q2)⟩ e h R = optK (aop (.estore q0 q1 q2) (Opd.ev gl e) h) R := doK_op rfl
theorem doK_mdel {d : Option Nat} {q0 q1 : Opd} : doK C gl ⟨d, none, (.mdel q0 q1)⟩ e h R = optK (aop (.mdel q0 q1) (Opd.ev gl e) h) R := doK_op rfl
theorem doK_ext {d : Option Nat} {q0 : Opd} {q1 : Nat} : doK C gl ⟨d, none, (.ext q0 q1)⟩ e h R = optK (aop (.ext q0 q1) (Opd.ev gl e) h) R := doK_op rfl
theorem doK_len {d : Option Nat} {q0 : Opd} : doK C gl ⟨d, none, (.len q0)⟩ e h R = optK (aop (.len q0) (Opd.ev gl e) h) R := doK_op rfl
theorem doK_lens {d : Option Nat} {q0 : Opd} : doK C gl ⟨d, none, (.lens q0)⟩ e h R = optK (aop (.lens q0) (Opd.ev gl e) h) R := doK_op rfl
theorem doK_lenm {d : Option Nat} {q0 : Opd} : doK C gl ⟨d, none, (.lenm q0)⟩ e h R = optK (aop (.lenm q0) (Opd.ev gl e) h) R := doK_op rfl
theorem doK_app {d : Option Nat} {q0 : Sh} {q1 q2 : Opd} : doK C gl ⟨d, none, (.app q0 q1 q2)⟩ e h R = optK (aop (.app q0 q1 q2) (Opd.ev gl e) h) R := doK_op rfl
theorem doK_copy {d : Option Nat} {q0 : Sh} {q1 q2 : Opd} : doK C gl ⟨d, none, (.copy q0 q1 q2)⟩ e h R = optK (aop (.copy q0 q1 q2) (Opd.ev gl e) h) R := doK_op rfl
theorem doK_mx {d : Option Nat} {q0 : List Opd} : doK C gl ⟨d, none, (.mx q0)⟩ e h R = optK (aop (.mx q0) (Opd.ev gl e) h) R := doK_op rfl
theorem doK_mn {d : Option Nat} {q0 : List Opd} : doK C gl ⟨d, none, (.mn q0)⟩ e h R = optK (aop (.mn q0) (Opd.ev gl e) h) R := doK_op rfl
theorem doK_mrange {d : Option Nat} {q0 : Opd} : doK C gl ⟨d, none, (.mrange q0)⟩ e h R = optK (aop (.mrange q0) (Opd.ev gl e) h) R := doK_op rfl
theorem doK_mentry {d : Option Nat} {q0 : Opd} : doK C gl ⟨d, none, (.mentry q0)⟩ e h R = optK (aop (.mentry q0) (Opd.ev gl e) h) R := doK_op rfl
theorem doK_new0 {d : Option Nat} {q0 : Sh} : doK C gl ⟨d, none, (.new0 q0)⟩ e h R = optK (aop (.new0 q0) (Opd.ev gl e) h) R := doK_op rfl

theorem callE_of {X : Ctx} {f : Nat} {a : List AV} {v : AV} {h' : Heap} {y : Esc} (H : ∀ K : Post, ACall X f a h K = K v h' y) : callE (ACall X) f a h R = R v h' y := by
  unfold callE
  simp only [H, ex3']

theorem doK_congr {o : AOp} {e e' : List (Nat × AV)} {h h' : Heap} (he : e = e') (hh : h = h') : doK C gl o e h R = doK C gl o e' h' R := by rw [he, hh]
theorem callE_congr {f : Nat} {a a' : List AV} {h h' : Heap} (ha : a = a') (hh : h = h') : callE C f a h R = callE C f a' h' R := by rw [ha, hh]
theorem ACall_congr {X : Ctx} {f : Nat} {a a' : List AV} {h h' : Heap} {K : Post} (ha : a = a') (hh : h = h') : ACall X f a h K = ACall X f a' h' K := by rw [ha, hh]
theorem ADraw_congr {ds : List DOp} {dn dn' : Done} {hs hs' : List Heap} {e e' : List (Nat × AV)} {h h' : Heap} {x x' : Esc} (hd : dn = dn') (hh : hs = hs') (he : e = e') (hhh : h = h') (hx : x = x') : ADraw C gl ds dn hs e h x L = ADraw C gl ds dn' hs' e' h' x' L := by rw [hd, hh, he, hhh, hx]
theorem drawK_eq {o : DOp} {r : List DOp} {dn : Done} {hs : List Heap} {v : AV} {h' : Heap} {y : Esc} : drawK C gl o r dn hs e h x L v h' y = ((o.eff = false → h' = h ∧ y = []) ∧ (∀ k ∈ o.early, ∃ g, hs[k]? = some g ∧ ADo C gl o.op (prune (some o.rd) e) g v g []) ∧
    (∀ j ∈ o.again, ∃ q, dn[j]? = some q ∧ ADo C gl q.1 q.2.1 h' q.2.2 h' []) ∧ ADraw C gl r (dn ++ [(o.op, prune (some o.rd) e, v)]) (hs ++ [h]) (put o.op.dst v e) h' (y ++ x) L) := (rfl)

end Go.Am
