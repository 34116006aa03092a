/- Texts of the proof, laid together: AmL, AmC, Ctx, SpStream, MathFrac, SpBase, SpList, PSort, SpShp, SpStr, SpFind, SpLimD, SpLim, SpLotA, SpRecD, SpGenA, SpGenL, SpRec, SpSortRec. -/
import Derived.Test.YtdjkfcdognndjaaGreatDoorlawFA7
set_option linter.all false
section
/- The abstract machine,part L: functions of the library that are met by the kit's contracts: plain values in,plain values out,new memory at most. -/
set_option linter.unusedSimpArgs false
set_option linter.unusedVariables false
namespace Go.Am
variable {P : Program} {gl : Nat → Option PV}
structure PureRow (P : Program) (gl : Nat → Option PV) (f : Nat) (spec : List PV → Option AV) : Prop where
  enter : ∀ us w,(callFunc f us).run P w = .ok (.enter f us) w
  run : ∀ (M : Mem) (w : World) (vs : List PV) (r : AV) (us : List Value),(∀ b o v,M.c b o = some v → w.cell? ⟨b,o,none⟩ = some v) → (∀ b o,M.b b = some o → w.heap[b]? = some o) → GInv gl M → vs.length = us.length →
    (∀ (j : Nat) (y : PV) (v : Value),vs[j]? = some y → us[j]? = some v → RPV M y v) → spec vs = some r →
    Calls P f us.toArray w fun e w'=>∃ x,e = .returned x ∧ WExt w w' ∧ RAV (ExtM M w w') [] [] r x
abbrev PureT:=List (Nat × (List PV → Option AV))
def pureF : PureT → Nat → List AV → Heap → Option (AV × Heap × Esc)
  | [],_,_,_=>none
  | (g,s) :: r,f,asv,h=>bif Nat.beq f g then ((unp asv).bind s).map fun v=>(v,h,[]) else pureF r f asv h
theorem pureF_ok : ∀ (gs : PureT),(∀ g s,(g,s) ∈ gs → PureRow P gl g s) → ∀ {f : Nat} {asv : List AV} {h : Heap} {v : AV} {h' : Heap} {x : Esc},pureF gs f asv h = some (v,h',x) →
    CallOk P gl f asv h fun v1 h1 x1=>v1 = v ∧ h1 = h' ∧ x1 = x
  | [],_,f,asv,h,v,h',x,H=>by cases H
  | (g,s) :: r,hg,f,asv,h,v,h',x,H=>by
    unfold pureF at H
    cases e1 : Nat.beq f g with
    | false=>
      rw [e1] at H
      exact pureF_ok r (fun g sh hm=>hg g sh (by simp [hm])) H
    | true=>
      rw [e1] at H
      have e:=Nat.eq_of_beq_eq_true e1
      subst e
      have R:=hg f s (by simp)
      simp only [cond_true] at H
      obtain ⟨y,hy,e2⟩:=Option.map_eq_some_iff.1 H
      simp only [Prod.mk.injEq] at e2
      obtain ⟨rfl,rfl,rfl⟩:=e2
      obtain ⟨ps,hps,hs⟩:=Option.bind_eq_some_iff.1 hy
      have hm:=unp_spec hps
      subst hm
      intro μ w vs Hh Hg hl hr
      refine .inl ⟨R.enter _,?_⟩
      refine (R.run (imm h μ w) w ps y vs (fun b o v hv=>(imm_some.1 hv).2) (fun b o hv=>(imm_blk.1 hv).2) Hg (by simpa using hl) (fun j q v hq hv=>(hr j (.p q) v (by simp [hq]) hv).p_inv) hs).mono fun e w' he=>?_
      obtain ⟨u,rfl,g1,g2⟩:=he
      obtain ⟨n1,n2⟩:=Hh.ext g1
      have Lq : (ExtM (imm h μ w) w w').le (imm h μ w'):=by
        refine ⟨fun b o v hv=>?_,fun b o hv=>?_,rfl⟩
        · dsimp only [ExtM] at hv
          split at hv
          · exact n2.le.c _ _ _ hv
          · rename_i hb
            exact imm_some.2 ⟨fun hO=>hb (owned_lt Hh hO),hv⟩
        · dsimp only [ExtM] at hv
          cases hv
      exact ⟨_,_,_,μ,⟨rfl,rfl,rfl⟩,g2.evo ⟨Lq,Nat.zero_le _,fun id o m h1=>by simp at h1⟩,n1,n2,EscInv.refl h []⟩
def libF (gs : List (Nat × Sh)) (ps : PureT) (f : Nat) (asv : List AV) (h : Heap) : Option (AV × Heap × Esc):=match growF gs f asv h with
  | some y=>some y
  | none=>pureF ps f asv h
theorem libF_ok {gs : List (Nat × Sh)} {ps : PureT} (hg : ∀ g sh,(g,sh) ∈ gs → GrowRow P g sh) (hp : ∀ g s,(g,s) ∈ ps → PureRow P gl g s) {f : Nat} {asv : List AV} {h : Heap} {v : AV} {h' : Heap} {x : Esc} (H : libF gs ps f asv h = some (v,h',x)) :
    CallOk P gl f asv h fun v1 h1 x1=>v1 = v ∧ h1 = h' ∧ x1 = x:=by
  unfold libF at H
  split at H
  · rename_i y hy
    cases H
    exact growF_ok gs hg hy
  · exact pureF_ok ps hp H
theorem lib_call {X : Ctx} {f : Nat} {asv : List AV} {h h' : Heap} {v : AV} {x : Esc} {K : Post} (hf : X.fn f = none) (hx : X.ex2 f asv h = some (v,h',x)) : ACall X f asv h K = K v h' x:=by
  refine propext (ACall.eq (ACall.fold ?_) K)
  unfold Step
  simp only [hf,hx]
  exact ⟨trivial,trivial,trivial⟩
def growSh : List (Nat × Sh) → Nat → Option Sh
  | [],_=>none
  | (g,s) :: r,f=>bif Nat.beq f g then some s else growSh r f
theorem growF_miss : ∀ {gs : List (Nat × Sh)} {f : Nat} {asv : List AV} {h : Heap},growSh gs f = none → growF gs f asv h = none
  | [],f,asv,h,_=>rfl
  | (g,s) :: r,f,asv,h,hm=>by
    unfold growSh at hm
    unfold growF
    cases hq : Nat.beq f g with
    | true=>rw [hq] at hm; cases hm
    | false=>rw [hq] at hm; exact growF_miss hm
def pureSp : PureT → Nat → Option (List PV → Option AV)
  | [],_=>none
  | (g,s) :: r,f=>bif Nat.beq f g then some s else pureSp r f
theorem pureF_hit : ∀ {gs : PureT} {f : Nat} {s : List PV → Option AV} {asv : List AV} {h : Heap},pureSp gs f = some s → pureF gs f asv h = ((unp asv).bind s).map fun v=>(v,h,[])
  | [],f,s,asv,h,hm=>by cases hm
  | (g,s') :: r,f,s,asv,h,hm=>by
    unfold pureSp at hm
    unfold pureF
    cases hq : Nat.beq f g with
    | true=>rw [hq] at hm; cases hm; rfl
    | false=>rw [hq] at hm; exact pureF_hit hm
theorem libF_pure {gs : List (Nat × Sh)} {ps : PureT} {f : Nat} {s : List PV → Option AV} {asv : List AV} {vs : List PV} {v : AV} {h : Heap} (hg : growSh gs f = none) (hm : pureSp ps f = some s) (hu : unp asv = some vs) (hv : s vs = some v) : libF gs ps f asv h = some (v,h,[]):=by
  unfold libF; rw [growF_miss hg,pureF_hit hm,hu]; simp [hv]
def glOf : List (Nat × PV) → Nat → Option PV
  | [],_=>none
  | (g,v) :: r,n=>bif Nat.beq n g then some v else glOf r n
theorem enters_chk {f : Nat} (h : (match P.funcs[f]? with | some fn=>fn.body.isSome && fn.name != "runtime.NumGoroutine" | none=>false) = true) (us : Array Value) (w : World) : (callFunc f us).run P w = .ok (.enter f us) w:=by
  cases hf : P.funcs[f]? with
  | none=>rw [hf] at h; cases h
  | some fn=>
    rw [hf] at h
    simp only [Bool.and_eq_true,bne_iff_ne,ne_eq] at h
    cases hb : fn.body with
    | none=>rw [hb] at h; cases h.1
    | some c=>exact enters hf hb h.2 us w
def digC (n : Nat) : UInt8:=UInt8.ofNat (48 + n)
def decN (n : Nat) : List UInt8:=if n < 10 then [digC n] else decN (n / 10) ++ [digC (n % 10)]
termination_by n
decreasing_by omega
def itoa (n : Int) : List UInt8:=if n < 0 then 45 :: decN n.natAbs else decN n.natAbs
theorem decN_lt {n : Nat} (h : n < 10) : decN n = [digC n]:=by rw [decN,if_pos h]
theorem decN_ge {n : Nat} (h : 10 ≤ n) : decN n = decN (n / 10) ++ [digC (n % 10)]:=by rw [decN,if_neg (by omega)]
def itoaS : List PV → Option AV
  | [.int .i64 n]=>bif decide (-9223372036854775808 ≤ n) && decide (n ≤ 9223372036854775807) then some (.p (.str (itoa n))) else none
  | _=>none
def pow10PV : PV:=.agg ((List.range 20).map fun i=>.int .u64 ((10 ^ i : Nat) : Int))
def digN : Nat → List UInt8 → Option Nat
  | acc,[]=>some acc
  | acc,c :: r=>if 48 ≤ c.toNat ∧ c.toNat ≤ 57 then digN (acc * 10 + (c.toNat - 48)) r else none
def atoiS : List PV → Option AV
  | [.str s]=>if 1 ≤ s.length ∧ s.length ≤ 18 then (digN 0 s).map fun (n : Nat)=>.tup [.p (.int .i64 (n : Int)),.nili] else none
  | _=>none
theorem digN_snoc : ∀ (a : List UInt8) (acc : Nat) (c : UInt8),digN acc (a ++ [c]) = (digN acc a).bind fun n=>if 48 ≤ c.toNat ∧ c.toNat ≤ 57 then some (n * 10 + (c.toNat - 48)) else none
  | [],acc,c=>by
    simp only [List.nil_append,digN,Option.bind_some]
  | d :: a,acc,c=>by
    simp only [List.cons_append,digN]
    split
    · exact digN_snoc a _ c
    · rfl
theorem digC_nat {n : Nat} (h : n < 10) : (digC n).toNat = 48 + n:=by
  simp only [digC,UInt8.toNat_ofNat']
  omega
theorem digN_dec : ∀ (n : Nat),digN 0 (decN n) = some n:=by
  intro n
  induction n using Nat.strongRecOn with
  | _ n ih=>
    rcases Nat.lt_or_ge n 10 with h | h
    · rw [decN_lt h]
      simp only [digN,digC_nat h]
      rw [if_pos (by omega)]
      congr 1
      omega
    · rw [decN_ge h, digN_snoc, ih (n / 10) (by omega)]
      have h2:=digC_nat (show n % 10 < 10 by omega)
      simp only [Option.bind_some,h2]
      rw [if_pos (by omega)]
      congr 1
      omega
theorem decN_len : ∀ (k n : Nat),n < 10 ^ (k + 1) → 1 ≤ (decN n).length ∧ (decN n).length ≤ k + 1
  | 0,n,h=>by rw [decN_lt (by simpa using h)]; simp
  | k + 1,n,h=>by
    rcases Nat.lt_or_ge n 10 with h1 | h1
    · rw [decN_lt h1]; simp
    · have := decN_len k (n / 10) (by rw [Nat.div_lt_iff_lt_mul (by omega)]; rw [Nat.pow_succ] at h; exact h)
      rw [decN_ge h1]
      simp; omega
theorem atoi_itoa {n : Nat} (h : n < 1000000000000000000) : atoiS [.str (itoa n)] = some (.tup [.p (.int .i64 n),.nili]):=by
  have h1:=decN_len 17 n (by simpa using h)
  have e : itoa (n : Int) = decN n:=by unfold itoa; rw [if_neg (by omega)]; simp
  unfold atoiS
  rw [e]
  simp only
  rw [if_pos (by omega),digN_dec]
  rfl
end Go.Am
end
section
/- The abstract machine,part C: closed calls that say true,asv contracts. -/
set_option linter.all false
namespace Go.Am
variable {P : Program} {gl : Nat → Option PV}
def trueS : List PV → Option AV
  | []=>some (AB true)
  | _=>none
theorem RPV.mono' {M M' : Mem} (hM : ∀ b o v,M.c b o = some v → M'.c b o = some v) {v : PV} {x : Value} (H : RPV M v x) : RPV M' v x:=by
  induction H with
  | int k n=>exact .int k n
  | bool b=>exact .bool b
  | str s=>exact .str s
  | nilp=>exact .nilp
  | nils sh a cap=>exact .nils sh a cap
  | sl sh xs b o cap f hne hc he hm hr ih=>exact .sl sh xs b o cap f hne hc he (fun j y hy=>hM _ _ _ (hm j y hy)) ih
  | agg cs vs hl hr ih=>exact .agg cs vs hl ih
theorem GInv.mono' {M M' : Mem} (hc : ∀ b o v,M.c b o = some v → M'.c b o = some v) (hb : ∀ b o,M.b b = some o → M'.b b = some o) (H : GInv gl M) : GInv gl M':=fun n v hv=>by
  obtain ⟨h1,cs,t,x,h2,h3⟩:=H n v hv
  refine ⟨?_,cs,t,x,hb _ _ h2,h3⟩
  cases h1 with | vp _ _ _ f hm hr=>exact .vp v n 0 f (fun j y hy=>hc _ _ _ (hm j y hy)) (fun j y hy=>(hr j y hy).mono' hc)
theorem pureRow_closed {X : Ctx} (HX : Fits P X) {f : Nat} (H : ACall X f [] [] fun v h x=>v = AB true ∧ h = [] ∧ x = []) (he : ∀ us w,(callFunc f us).run P w = .ok (.enter f us) w) : PureRow P X.gl f trueS:=by
  refine ⟨he,fun M w vs r us hc hb hG hl hr hs=>?_⟩
  cases vs with
  | cons a l=>cases hs
  | nil=>
    have hu : us = []:=List.length_eq_zero_iff.1 (by simpa using hl.symm)
    subst hu
    simp only [trueS,Option.some.injEq] at hs
    subst hs
    have hno : ∀ b o,¬ Owned ([] : Heap) ([] : Mu) b o:=fun b o ⟨id,n,h1,_⟩=>by simp at h1
    have hnt : ∀ b,¬ Taken ([] : Mu) b:=fun b ⟨id,n,h1⟩=>by simp at h1
    have hG' : GInv X.gl (imm [] [] w):=hG.mono' (fun b o v h=>imm_some.2 ⟨hno b o,hc b o v h⟩) (fun b o h=>imm_blk.2 ⟨hnt b,hb b o h⟩)
    have hR : HeapRel [] [] w:=⟨rfl,fun id o m h1=>by simp at h1,fun i j b n n' h1=>by simp at h1,fun i b n h1=>by simp at h1⟩
    rcases call_sound HX H [] w [] hR hG' rfl (fun j y v h1=>by simp at h1) with ⟨_,q⟩ | ⟨r,w',v,h',x,μ',q,_⟩
    · refine q.mono fun e w' h => ?_
      cases e with
      | panicked _=>exact h.elim
      | outgrown=>exact h.elim
      | returned r=>
        obtain ⟨v,h',x,μ',⟨rfl,rfl,rfl⟩,h1,h2,h3,h4⟩:=h
        have hm : μ' = []:=List.length_eq_zero_iff.1 (by simpa using h2.len)
        subst hm
        have hbl : ∀ b o,w.heap[b]? = some o → w'.heap[b]? = some o:=fun b o h=>(imm_blk.1 (h3.le.b b o (imm_blk.2 ⟨hnt b,h⟩))).2
        refine ⟨r,rfl,⟨?_,fun b hb=>?_,?_⟩,?_⟩
        · rcases Nat.lt_or_ge w'.heap.size w.heap.size with q | q
          · have := hbl w'.heap.size _ (Array.getElem?_eq_getElem q)
            simp at this
          · exact q
        · rw [hbl b _ (Array.getElem?_eq_getElem hb),Array.getElem?_eq_getElem hb]
        · have := h3.le.z
          simpa [imm] using this
        · have := h1.p_bool
          rw [this]
          exact .p _ _ (.bool true)
    · rw [he] at q
      cases q
end Go.Am
end
section
/- The functions together. -/
set_option linter.unusedVariables false
set_option maxRecDepth 100000
namespace Go.Am
def fns : List (Nat × AFun):=[(f_q03l,a_q03l),(f_q04a,a_q04a),(f_q03q,a_q03q),(f_q04e,a_q04e),(f_q04f,a_q04f),(f_q025,a_q025),(f_q028,a_q028),(f_q02a,a_q02a),(f_q021,a_q021),(f_q08w,a_q08w),(f_q05x,a_q05x),(f_q047,a_q047),(f_q046,a_q046),(f_q04q,a_q04q),(f_q04b,a_q04b),(f_q04t,a_q04t),(f_q024,a_q024),(f_q06h,a_q06h),(f_q02j,a_q02j),(f_q05s,a_q05s),(f_q031,a_q031),(f_q02q,a_q02q),(f_q02i,a_q02i),(f_q02x,a_q02x),(f_q02p,a_q02p),(f_q06i,a_q06i),(f_q029,a_q029),(f_q00s,a_q00s),(f_q06k,a_q06k),(f_q01w,a_q01w),(f_q06b,a_q06b),(f_q042,a_q042),(f_q02s,a_q02s),(f_q008,a_q008),(f_q02u,a_q02u),(f_q06a,a_q06a),(f_q05w,a_q05w),(f_q02w,a_q02w),(f_q006,a_q006),(f_q049,a_q049),(f_q045,a_q045),(f_q04g,a_q04g),(f_q048,a_q048),(f_q04p,a_q04p),(f_q04z,a_q04z),(f_q05a,a_q05a),(f_q04c,a_q04c),(f_q00v,a_q00v),(f_q08u,a_q08u),(f_q04d,a_q04d),(f_q05f,a_q05f),(f_q05h,a_q05h),(f_q023,a_q023),(f_q030,a_q030),(f_q07s,a_q07s),(f_q06g,a_q06g),(f_q02r,a_q02r),(f_q07t,a_q07t),(f_q00w,a_q00w),(f_q07j,a_q07j),(f_q03a,a_q03a),(f_q01y,a_q01y),(f_q068,a_q068),(f_q02t,a_q02t),(f_q05b,a_q05b),(f_q050,a_q050),(f_q01d,a_q01d),(f_q04s,a_q04s),(f_q05g,a_q05g),(f_q059,a_q059),(f_q05k,a_q05k),(f_q02y,a_q02y),(f_q06u,a_q06u),(f_q07h,a_q07h),(f_q06v,a_q06v),(f_q06x,a_q06x),(f_q00u,a_q00u),(f_q03c,a_q03c),(f_q01z,a_q01z),(f_q01e,a_q01e),(f_q01f,a_q01f),(f_q007,a_q007),(f_q08y,a_q08y),(f_q02z,a_q02z),(f_q02m,a_q02m),(f_q00x,a_q00x),(f_q01g,a_q01g)]
def GRL : List (Nat × Sh):=[]
def PRL : PureT:=[(f_q08h,atoiS),(f_q08i,itoaS),(f_q03s,trueS)]
def GLL : List (Nat × PV):=[(3,pow10PV)]
def fnOf : List (Nat × AFun) → Nat → Option AFun
  | [],_=>none
  | (k,F) :: r,n=>bif Nat.beq k n then some F else fnOf r n
def X : Ctx:=⟨fnOf fns,glOf GLL,extF f_internal_bytealg_IndexByteString f_internal_bytealg_abigen_runtime_cmpstring,libF GRL PRL⟩
theorem fnOf_all {p : Nat → AFun → Bool} : ∀ (l : List (Nat × AFun)),(l.all fun y=>p y.1 y.2) = true → ∀ n F,fnOf l n = some F → p n F = true
  | [],_,n,F,h=>by cases h
  | (k,G) :: r,ha,n,F,h=>by
    simp only [List.all_cons,Bool.and_eq_true] at ha
    simp only [fnOf] at h
    cases hk : Nat.beq k n with
    | true=>
      rw [hk] at h
      have:=Nat.eq_of_beq_eq_true hk
      simp only [cond_true,Option.some.injEq] at h
      subst this; subst h; exact ha.1
    | false=>
      rw [hk] at h
      exact fnOf_all r ha.2 n F h
def fns0 : List (Nat × AFun):=[(f_q02c,a_q02c),(f_q03q,a_q03q),(f_q03s,a_q03s),(f_q036,a_q036),(f_q033,a_q033),(f_q004,a_q004),(f_q00d,a_q00d),(f_q03w,a_q03w),(f_q012,a_q012),(f_q09n,a_q09n),(f_q081,a_q081),(f_q003,a_q003),(f_q00s,a_q00s),(f_q008,a_q008),(f_q06a,a_q06a),(f_q05w,a_q05w),(f_q037,a_q037),(f_q02w,a_q02w),(f_q005,a_q005),(f_q00b,a_q00b),(f_q00n,a_q00n),(f_q00o,a_q00o),(f_q011,a_q011),(f_q09m,a_q09m),(f_q09t,a_q09t),(f_q085,a_q085),(f_q006,a_q006),(f_q08b,a_q08b),(f_q08e,a_q08e),(f_q00v,a_q00v),(f_q08u,a_q08u),(f_q00w,a_q00w),(f_q00c,a_q00c),(f_q000,a_q000),(f_q00g,a_q00g),(f_q05t,a_q05t),(f_q013,a_q013),(f_q015,a_q015),(f_q018,a_q018),(f_q017,a_q017),(f_q016,a_q016),(f_q09s,a_q09s),(f_q0a2,a_q0a2),(f_q09w,a_q09w),(f_q080,a_q080),(f_q07z,a_q07z),(f_q08c,a_q08c),(f_q083,a_q083),(f_q08a,a_q08a),(f_q01d,a_q01d),(f_q01z,a_q01z),(f_q00h,a_q00h),(f_q00m,a_q00m),(f_q05z,a_q05z),(f_q091,a_q091),(f_q00p,a_q00p),(f_q010,a_q010),(f_q00z,a_q00z),(f_q0a1,a_q0a1),(f_q09q,a_q09q),(f_q09y,a_q09y),(f_q09r,a_q09r),(f_q09z,a_q09z),(f_q09v,a_q09v),(f_q09x,a_q09x),(f_q09u,a_q09u),(f_q084,a_q084),(f_q082,a_q082),(f_q08d,a_q08d),(f_q007,a_q007),(f_q089,a_q089),(f_q087,a_q087),(f_q088,a_q088),(f_q08y,a_q08y),(f_q00f,a_q00f),(f_q00l,a_q00l),(f_q05v,a_q05v),(f_q00i,a_q00i),(f_q00q,a_q00q),(f_q00e,a_q00e),(f_q06d,a_q06d),(f_q095,a_q095),(f_q098,a_q098),(f_q093,a_q093),(f_q094,a_q094),(f_q097,a_q097),(f_q096,a_q096),(f_q099,a_q099),(f_q014,a_q014),(f_q05y,a_q05y),(f_q09a,a_q09a),(f_q086,a_q086),(f_q067,a_q067),(f_q00j,a_q00j),(f_q00r,a_q00r),(f_q092,a_q092),(f_q09h,a_q09h),(f_q08v,a_q08v),(f_q09g,a_q09g),(f_q06c,a_q06c),(f_q09b,a_q09b),(f_q09d,a_q09d),(f_q05p,a_q05p),(f_q00k,a_q00k),(f_q09k,a_q09k),(f_q09i,a_q09i),(f_q09c,a_q09c),(f_q09j,a_q09j)]
def PRL0 : PureT:=[(f_q08h,atoiS),(f_q08i,itoaS)]
def X0 : Ctx:=⟨fnOf fns0,glOf GLL,extF f_internal_bytealg_IndexByteString f_internal_bytealg_abigen_runtime_cmpstring,libF GRL PRL0⟩
theorem x0_tap_path : X0.fn f_q09d = some a_q09d:=by kernel_rfl
theorem x0_tap_next : X0.fn f_q09c = some a_q09c:=by kernel_rfl
theorem X_noNext : X.NoNext:=fun f F h=>fnOf_all (p:=fun _ F=>F.isDet || F.body.noNext) fns (by kernel_rfl) f F h
theorem x_q03l : X.fn f_q03l = some a_q03l:=by kernel_rfl
theorem c_q03l {u0 v0 : AV} {h h1 : Heap} {P : Post} (hp : puras h [u0] = some ([v0],h1)) : ACall X f_q03l [u0] h P = d_q03l (ACall X) X.gl p_q03l_k2 p_q03l_k9 v0 h1 [] (finR [.t 2] false h.length P):=by rw [call_val x_q03l rfl hp rfl]; exact e_q03l
theorem x_q04a : X.fn f_q04a = some a_q04a:=by kernel_rfl
theorem c_q04a {u0 u1 u2 v0 v1 v2 : AV} {h h1 : Heap} {P : Post} (hp : puras h [u0,u1,u2] = some ([v0,v1,v2],h1)) : ACall X f_q04a [u0,u1,u2] h P = d_q04a (ACall X) X.gl v0 v1 v2 h1 [] (finR [.t 6] false h.length P):=by rw [call_val x_q04a rfl hp rfl]; exact e_q04a
theorem x_q03q : X.fn f_q03q = some a_q03q:=by kernel_rfl
theorem c_q03q {u0 v0 : AV} {h h1 : Heap} {P : Post} (hp : puras h [u0] = some ([v0],h1)) : ACall X f_q03q [u0] h P = d_q03q (ACall X) X.gl p_q03q_k1 p_q03q_k2 v0 h1 [] (finR [.t 2] false h.length P):=by rw [call_val x_q03q rfl hp rfl]; exact e_q03q
theorem x_q04e : X.fn f_q04e = some a_q04e:=by kernel_rfl
theorem c_q04e {u0 v0 : AV} {h h1 : Heap} {P : Post} (hp : puras h [u0] = some ([v0],h1)) : ACall X f_q04e [u0] h P = d_q04e (ACall X) X.gl p_q04e_k1 p_q04e_k2 v0 h1 [] (finR [.t 2] false h.length P):=by rw [call_val x_q04e rfl hp rfl]; exact e_q04e
theorem x_q04f : X.fn f_q04f = some a_q04f:=by kernel_rfl
theorem c_q04f {u0 u1 u2 v0 v1 v2 : AV} {h h1 : Heap} {P : Post} (hp : puras h [u0,u1,u2] = some ([v0,v1,v2],h1)) : ACall X f_q04f [u0,u1,u2] h P = d_q04f (ACall X) X.gl p_q04f_k1 p_q04f_k2 v0 v1 v2 h1 [] (finR [.t 6] false h.length P):=by rw [call_val x_q04f rfl hp rfl]; exact e_q04f
theorem x_q025 : X.fn f_q025 = some a_q025:=by kernel_rfl
theorem c_q025 {u0 u1 u2 v0 v1 v2 : AV} {h h1 : Heap} {P : Post} (hp : puras h [u0,u1,u2] = some ([v0,v1,v2],h1)) : ACall X f_q025 [u0,u1,u2] h P = d_q025 (ACall X) X.gl p_q025_k1 p_q025_k2 v0 v1 v2 h1 [] (finR [.t 6,.t 7] false h.length P):=by rw [call_val x_q025 rfl hp rfl]; exact e_q025
theorem x_q028 : X.fn f_q028 = some a_q028:=by kernel_rfl
theorem c_q028 {u0 u1 u2 v0 v1 v2 : AV} {h h1 : Heap} {P : Post} (hp : puras h [u0,u1,u2] = some ([v0,v1,v2],h1)) : ACall X f_q028 [u0,u1,u2] h P = d_q028 (ACall X) X.gl p_q028_k2 p_q028_k8 v0 v1 v2 h1 [] (finR [.t 6,.t 7] false h.length P):=by rw [call_val x_q028 rfl hp rfl]; exact e_q028
theorem x_q02a : X.fn f_q02a = some a_q02a:=by kernel_rfl
theorem c_q02a {u0 u1 v0 v1 : AV} {h h1 : Heap} {P : Post} (hp : puras h [u0,u1] = some ([v0,v1],h1)) : ACall X f_q02a [u0,u1] h P = ∃ v h' x,P v h' x ∧ d_q02a (ACall X) X.gl p_q02a_k3 p_q02a_k6 v0 v1 h1 [] (finR [.t 4,.t 5] false h.length fun v1 h1 x1=>v1 = v ∧ h1 = h' ∧ x1 = x):=by rw [call_val_det x_q02a rfl hp rfl]; exact ex3_congr fun v h' x=>congrArg (And (P v h' x)) e_q02a
theorem x_q021 : X.fn f_q021 = some a_q021:=by kernel_rfl
theorem c_q021 {u0 u1 v0 v1 : AV} {h h1 : Heap} {P : Post} (hp : puras h [u0,u1] = some ([v0,v1],h1)) : ACall X f_q021 [u0,u1] h P = d_q021 (ACall X) X.gl p_q021_k3 p_q021_k6 v0 v1 h1 [] (finR [.t 4,.t 5] false h.length P):=by rw [call_val x_q021 rfl hp rfl]; exact e_q021
theorem x_q08w : X.fn f_q08w = some a_q08w:=by kernel_rfl
theorem c_q08w {u0 u1 v0 v1 : AV} {h h1 : Heap} {P : Post} (hp : puras h [u0,u1] = some ([v0,v1],h1)) : ACall X f_q08w [u0,u1] h P = d_q08w (ACall X) X.gl v0 v1 h1 [] (finR [.t 4,.t 5,.t 6] false h.length P):=by rw [call_val x_q08w rfl hp rfl]; exact e_q08w
theorem x_q05x : X.fn f_q05x = some a_q05x:=by kernel_rfl
theorem c_q05x {u0 u1 h P} : ACall X f_q05x [u0,u1] h P = d_q05x (ACall X) X.gl u0 u1 h [] (finR [.t 4] false h.length P):=by rw [call_ref x_q05x rfl rfl]; exact e_q05x
theorem x_q047 : X.fn f_q047 = some a_q047:=by kernel_rfl
theorem c_q047 {u0 u1 v0 v1 : AV} {h h1 : Heap} {P : Post} (hp : puras h [u0,u1] = some ([v0,v1],h1)) : ACall X f_q047 [u0,u1] h P = d_q047 (ACall X) X.gl v0 v1 h1 [] (finR [.t 4] false h.length P):=by rw [call_val x_q047 rfl hp rfl]; exact e_q047
theorem x_q046 : X.fn f_q046 = some a_q046:=by kernel_rfl
theorem c_q046 {u0 v0 : AV} {h h1 : Heap} {P : Post} (hp : puras h [u0] = some ([v0],h1)) : ACall X f_q046 [u0] h P = d_q046 (ACall X) X.gl p_q046_k1 v0 h1 [] (finR [.t 2] false h.length P):=by rw [call_val x_q046 rfl hp rfl]; exact e_q046
theorem x_q04q : X.fn f_q04q = some a_q04q:=by kernel_rfl
theorem c_q04q {u0 v0 : AV} {h h1 : Heap} {P : Post} (hp : puras h [u0] = some ([v0],h1)) : ACall X f_q04q [u0] h P = d_q04q (ACall X) X.gl p_q04q_k1 p_q04q_k2 v0 h1 [] (finR [.t 2] false h.length P):=by rw [call_val x_q04q rfl hp rfl]; exact e_q04q
theorem x_q04b : X.fn f_q04b = some a_q04b:=by kernel_rfl
theorem c_q04b {u0 u1 u2 v0 v1 v2 : AV} {h h1 : Heap} {P : Post} (hp : puras h [u0,u1,u2] = some ([v0,v1,v2],h1)) : ACall X f_q04b [u0,u1,u2] h P = d_q04b (ACall X) X.gl p_q04b_k7 p_q04b_k8 v0 v1 v2 h1 [] (finR [.t 6] false h.length P):=by rw [call_val x_q04b rfl hp rfl]; exact e_q04b
theorem x_q04t : X.fn f_q04t = some a_q04t:=by kernel_rfl
theorem c_q04t {u0 u1 v0 v1 : AV} {h h1 : Heap} {P : Post} (hp : puras h [u0,u1] = some ([v0,v1],h1)) : ACall X f_q04t [u0,u1] h P = d_q04t (ACall X) X.gl p_q04t_k1 p_q04t_k2 v0 v1 h1 [] (finR [.t 4] false h.length P):=by rw [call_val x_q04t rfl hp rfl]; exact e_q04t
theorem x_q024 : X.fn f_q024 = some a_q024:=by kernel_rfl
theorem c_q024 {u0 u1 v0 v1 : AV} {h h1 : Heap} {P : Post} (hp : puras h [u0,u1] = some ([v0,v1],h1)) : ACall X f_q024 [u0,u1] h P = d_q024 (ACall X) X.gl v0 v1 h1 [] (finR [.t 4] false h.length P):=by rw [call_val x_q024 rfl hp rfl]; exact e_q024
theorem x_q06h : X.fn f_q06h = some a_q06h:=by kernel_rfl
theorem c_q06h {u0 u1 h P} : ACall X f_q06h [u0,u1] h P = d_q06h (ACall X) X.gl u0 u1 h [] (finR [] false h.length P):=by rw [call_ref x_q06h rfl rfl]; exact e_q06h
theorem x_q02j : X.fn f_q02j = some a_q02j:=by kernel_rfl
theorem c_q02j {u0 u1 v0 v1 : AV} {h h1 : Heap} {P : Post} (hp : puras h [u0,u1] = some ([v0,v1],h1)) : ACall X f_q02j [u0,u1] h P = d_q02j (ACall X) X.gl v0 v1 h1 [] (finR [.t 4] false h.length P):=by rw [call_val x_q02j rfl hp rfl]; exact e_q02j
theorem x_q05s : X.fn f_q05s = some a_q05s:=by kernel_rfl
theorem c_q05s {u0 u1 h P} : ACall X f_q05s [u0,u1] h P = d_q05s (ACall X) X.gl p_q05s_k5 p_q05s_k6 u0 u1 h [] (finR [.t 4] false h.length P):=by rw [call_ref x_q05s rfl rfl]; exact e_q05s
theorem x_q031 : X.fn f_q031 = some a_q031:=by kernel_rfl
theorem c_q031 {u0 u1 u2 v0 v1 v2 : AV} {h h1 : Heap} {P : Post} (hp : puras h [u0,u1,u2] = some ([v0,v1,v2],h1)) : ACall X f_q031 [u0,u1,u2] h P = d_q031 (ACall X) X.gl p_q031_k1 v0 v1 v2 h1 [] (finR [.t 6] false h.length P):=by rw [call_val x_q031 rfl hp rfl]; exact e_q031
theorem x_q02q : X.fn f_q02q = some a_q02q:=by kernel_rfl
theorem c_q02q {u0 u1 u2 v0 v1 v2 : AV} {h h1 : Heap} {P : Post} (hp : puras h [u0,u1,u2] = some ([v0,v1,v2],h1)) : ACall X f_q02q [u0,u1,u2] h P = d_q02q (ACall X) X.gl p_q02q_k2 p_q02q_k3 v0 v1 v2 h1 [] (finR [.t 6] false h.length P):=by rw [call_val x_q02q rfl hp rfl]; exact e_q02q
theorem x_q02i : X.fn f_q02i = some a_q02i:=by kernel_rfl
theorem c_q02i {u0 u1 v0 v1 : AV} {h h1 : Heap} {P : Post} (hp : puras h [u0,u1] = some ([v0,v1],h1)) : ACall X f_q02i [u0,u1] h P = d_q02i (ACall X) X.gl v0 v1 h1 [] (finR [.t 4] false h.length P):=by rw [call_val x_q02i rfl hp rfl]; exact e_q02i
theorem x_q02x : X.fn f_q02x = some a_q02x:=by kernel_rfl
theorem c_q02x {u0 u1 v0 v1 : AV} {h h1 : Heap} {P : Post} (hp : puras h [u0,u1] = some ([v0,v1],h1)) : ACall X f_q02x [u0,u1] h P = d_q02x (ACall X) X.gl v0 v1 h1 [] (finR [.cell 4 (some 2)] false h.length P):=by rw [call_val x_q02x rfl hp rfl]; exact e_q02x
theorem x_q02p : X.fn f_q02p = some a_q02p:=by kernel_rfl
theorem c_q02p {u0 u1 v0 v1 : AV} {h h1 : Heap} {P : Post} (hp : puras h [u0,u1] = some ([v0,v1],h1)) : ACall X f_q02p [u0,u1] h P = d_q02p (ACall X) X.gl v0 v1 h1 [] (finR [.t 4] false h.length P):=by rw [call_val x_q02p rfl hp rfl]; exact e_q02p
theorem x_q06i : X.fn f_q06i = some a_q06i:=by kernel_rfl
theorem c_q06i {u0 u1 h P} : ACall X f_q06i [u0,u1] h P = d_q06i (ACall X) X.gl u0 u1 h [] (finR [] false h.length P):=by rw [call_ref x_q06i rfl rfl]; exact e_q06i
theorem x_q029 : X.fn f_q029 = some a_q029:=by kernel_rfl
theorem c_q029 {u0 u1 u2 v0 v1 v2 : AV} {h h1 : Heap} {P : Post} (hp : puras h [u0,u1,u2] = some ([v0,v1,v2],h1)) : ACall X f_q029 [u0,u1,u2] h P = d_q029 (ACall X) X.gl v0 v1 v2 h1 [] (finR [.t 5] false h.length P):=by rw [call_val x_q029 rfl hp rfl]; exact e_q029
theorem x_q00s : X.fn f_q00s = some a_q00s:=by kernel_rfl
theorem c_q00s {u0 u1 v0 v1 : AV} {h h1 : Heap} {P : Post} (hp : puras h [u0,u1] = some ([v0,v1],h1)) : ACall X f_q00s [u0,u1] h P = d_q00s (ACall X) X.gl v0 v1 h1 [] (finR [.t 4] false h.length P):=by rw [call_val x_q00s rfl hp rfl]; exact e_q00s
theorem x_q06k : X.fn f_q06k = some a_q06k:=by kernel_rfl
theorem c_q06k {u0 h P} : ACall X f_q06k [u0] h P = d_q06k (ACall X) X.gl u0 h [] (finR [] false h.length P):=by rw [call_ref x_q06k rfl rfl]; exact e_q06k
theorem x_q01w : X.fn f_q01w = some a_q01w:=by kernel_rfl
theorem c_q01w {u0 u1 v0 v1 : AV} {h h1 : Heap} {P : Post} (hp : puras h [u0,u1] = some ([v0,v1],h1)) : ACall X f_q01w [u0,u1] h P = d_q01w (ACall X) X.gl v0 v1 h1 [] (finR [.t 4,.t 5,.t 6] false h.length P):=by rw [call_val x_q01w rfl hp rfl]; exact e_q01w
theorem x_q06b : X.fn f_q06b = some a_q06b:=by kernel_rfl
theorem c_q06b {u0 u1 h P} : ACall X f_q06b [u0,u1] h P = d_q06b (ACall X) X.gl p_q06b_k1 p_q06b_k2 u0 u1 h [] (finR [.t 4] false h.length P):=by rw [call_ref x_q06b rfl rfl]; exact e_q06b
theorem x_q042 : X.fn f_q042 = some a_q042:=by kernel_rfl
theorem c_q042 {u0 u1 v0 v1 : AV} {h h1 : Heap} {P : Post} (hp : puras h [u0,u1] = some ([v0,v1],h1)) : ACall X f_q042 [u0,u1] h P = d_q042 (ACall X) X.gl p_q042_k1 v0 v1 h1 [] (finR [.t 4] false h.length P):=by rw [call_val x_q042 rfl hp rfl]; exact e_q042
theorem x_q02s : X.fn f_q02s = some a_q02s:=by kernel_rfl
theorem c_q02s {u0 u1 v0 v1 : AV} {h h1 : Heap} {P : Post} (hp : puras h [u0,u1] = some ([v0,v1],h1)) : ACall X f_q02s [u0,u1] h P = d_q02s (ACall X) X.gl v0 v1 h1 [] (finR [.t 4] false h.length P):=by rw [call_val x_q02s rfl hp rfl]; exact e_q02s
theorem x_q008 : X.fn f_q008 = some a_q008:=by kernel_rfl
theorem c_q008 {u0 u1 u2 v0 v1 v2 : AV} {h h1 : Heap} {P : Post} (hp : puras h [u0,u1,u2] = some ([v0,v1,v2],h1)) : ACall X f_q008 [u0,u1,u2] h P = d_q008 (ACall X) X.gl v0 v1 v2 h1 [] (finR [.t 6] false h.length P):=by rw [call_val x_q008 rfl hp rfl]; exact e_q008
theorem x_q02u : X.fn f_q02u = some a_q02u:=by kernel_rfl
theorem c_q02u {u0 u1 v0 v1 : AV} {h h1 : Heap} {P : Post} (hp : puras h [u0,u1] = some ([v0,v1],h1)) : ACall X f_q02u [u0,u1] h P = d_q02u (ACall X) X.gl v0 v1 h1 [] (finR [.t 4] false h.length P):=by rw [call_val x_q02u rfl hp rfl]; exact e_q02u
theorem x_q06a : X.fn f_q06a = some a_q06a:=by kernel_rfl
theorem c_q06a {u0 u1 h P} : ACall X f_q06a [u0,u1] h P = d_q06a (ACall X) X.gl p_q06a_k1 p_q06a_k2 u0 u1 h [] (finR [.t 4] false h.length P):=by rw [call_ref x_q06a rfl rfl]; exact e_q06a
theorem x_q05w : X.fn f_q05w = some a_q05w:=by kernel_rfl
theorem c_q05w {u0 u1 h P} : ACall X f_q05w [u0,u1] h P = d_q05w (ACall X) X.gl u0 u1 h [] (finR [.t 4] false h.length P):=by rw [call_ref x_q05w rfl rfl]; exact e_q05w
theorem x_q02w : X.fn f_q02w = some a_q02w:=by kernel_rfl
theorem c_q02w {u0 v0 : AV} {h h1 : Heap} {P : Post} (hp : puras h [u0] = some ([v0],h1)) : ACall X f_q02w [u0] h P = d_q02w (ACall X) X.gl v0 h1 [] (finR [.t 2] false h.length P):=by rw [call_val x_q02w rfl hp rfl]; exact e_q02w
theorem x_q006 : X.fn f_q006 = some a_q006:=by kernel_rfl
theorem c_q006 {u0 v0 : AV} {h h1 : Heap} {P : Post} (hp : puras h [u0] = some ([v0],h1)) : ACall X f_q006 [u0] h P = d_q006 (ACall X) X.gl p_q006_k1 p_q006_k2 v0 h1 [] (finR [.t 2] false h.length P):=by rw [call_val x_q006 rfl hp rfl]; exact e_q006
theorem x_q049 : X.fn f_q049 = some a_q049:=by kernel_rfl
theorem c_q049 {u0 u1 v0 v1 : AV} {h h1 : Heap} {P : Post} (hp : puras h [u0,u1] = some ([v0,v1],h1)) : ACall X f_q049 [u0,u1] h P = d_q049 (ACall X) X.gl v0 v1 h1 [] (finR [.t 4] false h.length P):=by rw [call_val x_q049 rfl hp rfl]; exact e_q049
theorem x_q045 : X.fn f_q045 = some a_q045:=by kernel_rfl
theorem c_q045 {u0 u1 v0 v1 : AV} {h h1 : Heap} {P : Post} (hp : puras h [u0,u1] = some ([v0,v1],h1)) : ACall X f_q045 [u0,u1] h P = d_q045 (ACall X) X.gl v0 v1 h1 [] (finR [.t 4] false h.length P):=by rw [call_val x_q045 rfl hp rfl]; exact e_q045
theorem x_q04g : X.fn f_q04g = some a_q04g:=by kernel_rfl
theorem c_q04g {u0 u1 v0 v1 : AV} {h h1 : Heap} {P : Post} (hp : puras h [u0,u1] = some ([v0,v1],h1)) : ACall X f_q04g [u0,u1] h P = d_q04g (ACall X) X.gl v0 v1 h1 [] (finR [.t 4] false h.length P):=by rw [call_val x_q04g rfl hp rfl]; exact e_q04g
theorem x_q048 : X.fn f_q048 = some a_q048:=by kernel_rfl
theorem c_q048 {u0 u1 u2 v0 v1 v2 : AV} {h h1 : Heap} {P : Post} (hp : puras h [u0,u1,u2] = some ([v0,v1,v2],h1)) : ACall X f_q048 [u0,u1,u2] h P = d_q048 (ACall X) X.gl v0 v1 v2 h1 [] (finR [.t 6] false h.length P):=by rw [call_val x_q048 rfl hp rfl]; exact e_q048
theorem x_q04p : X.fn f_q04p = some a_q04p:=by kernel_rfl
theorem c_q04p {u0 v0 : AV} {h h1 : Heap} {P : Post} (hp : puras h [u0] = some ([v0],h1)) : ACall X f_q04p [u0] h P = d_q04p (ACall X) X.gl v0 h1 [] (finR [.t 2] false h.length P):=by rw [call_val x_q04p rfl hp rfl]; exact e_q04p
theorem x_q04z : X.fn f_q04z = some a_q04z:=by kernel_rfl
theorem c_q04z {u0 u1 v0 v1 : AV} {h h1 : Heap} {P : Post} (hp : puras h [u0,u1] = some ([v0,v1],h1)) : ACall X f_q04z [u0,u1] h P = d_q04z (ACall X) X.gl v0 v1 h1 [] (finR [.t 4] false h.length P):=by rw [call_val x_q04z rfl hp rfl]; exact e_q04z
theorem x_q05a : X.fn f_q05a = some a_q05a:=by kernel_rfl
theorem c_q05a {u0 u1 u2 v0 v1 v2 : AV} {h h1 : Heap} {P : Post} (hp : puras h [u0,u1,u2] = some ([v0,v1,v2],h1)) : ACall X f_q05a [u0,u1,u2] h P = d_q05a (ACall X) X.gl v0 v1 v2 h1 [] (finR [.t 6] false h.length P):=by rw [call_val x_q05a rfl hp rfl]; exact e_q05a
theorem x_q04c : X.fn f_q04c = some a_q04c:=by kernel_rfl
theorem c_q04c {u0 u1 v0 v1 : AV} {h h1 : Heap} {P : Post} (hp : puras h [u0,u1] = some ([v0,v1],h1)) : ACall X f_q04c [u0,u1] h P = d_q04c (ACall X) X.gl v0 v1 h1 [] (finR [.t 4] false h.length P):=by rw [call_val x_q04c rfl hp rfl]; exact e_q04c
theorem x_q00v : X.fn f_q00v = some a_q00v:=by kernel_rfl
theorem c_q00v {u0 v0 : AV} {h h1 : Heap} {P : Post} (hp : puras h [u0] = some ([v0],h1)) : ACall X f_q00v [u0] h P = d_q00v (ACall X) X.gl p_q00v_k1 p_q00v_k2 v0 h1 [] (finR [.t 2] false h.length P):=by rw [call_val x_q00v rfl hp rfl]; exact e_q00v
theorem x_q08u : X.fn f_q08u = some a_q08u:=by kernel_rfl
theorem c_q08u {u0 u1 v0 v1 : AV} {h h1 : Heap} {P : Post} (hp : puras h [u0,u1] = some ([v0,v1],h1)) : ACall X f_q08u [u0,u1] h P = d_q08u (ACall X) X.gl v0 v1 h1 [] (finR [.t 4] false h.length P):=by rw [call_val x_q08u rfl hp rfl]; exact e_q08u
theorem x_q04d : X.fn f_q04d = some a_q04d:=by kernel_rfl
theorem c_q04d {u0 u1 v0 v1 : AV} {h h1 : Heap} {P : Post} (hp : puras h [u0,u1] = some ([v0,v1],h1)) : ACall X f_q04d [u0,u1] h P = d_q04d (ACall X) X.gl v0 v1 h1 [] (finR [.t 4] false h.length P):=by rw [call_val x_q04d rfl hp rfl]; exact e_q04d
theorem x_q05f : X.fn f_q05f = some a_q05f:=by kernel_rfl
theorem c_q05f {u0 u1 v0 v1 : AV} {h h1 : Heap} {P : Post} (hp : puras h [u0,u1] = some ([v0,v1],h1)) : ACall X f_q05f [u0,u1] h P = d_q05f (ACall X) X.gl v0 v1 h1 [] (finR [.t 4] false h.length P):=by rw [call_val x_q05f rfl hp rfl]; exact e_q05f
theorem x_q05h : X.fn f_q05h = some a_q05h:=by kernel_rfl
theorem c_q05h {u0 u1 v0 v1 : AV} {h h1 : Heap} {P : Post} (hp : puras h [u0,u1] = some ([v0,v1],h1)) : ACall X f_q05h [u0,u1] h P = d_q05h (ACall X) X.gl v0 v1 h1 [] (finR [.t 4] false h.length P):=by rw [call_val x_q05h rfl hp rfl]; exact e_q05h
theorem x_q023 : X.fn f_q023 = some a_q023:=by kernel_rfl
theorem c_q023 {u0 v0 : AV} {h h1 : Heap} {P : Post} (hp : puras h [u0] = some ([v0],h1)) : ACall X f_q023 [u0] h P = d_q023 (ACall X) X.gl p_q023_k1 p_q023_k2 v0 h1 [] (finR [.t 2] false h.length P):=by rw [call_val x_q023 rfl hp rfl]; exact e_q023
theorem x_q030 : X.fn f_q030 = some a_q030:=by kernel_rfl
theorem c_q030 {u0 u1 v0 v1 : AV} {h h1 : Heap} {P : Post} (hp : puras h [u0,u1] = some ([v0,v1],h1)) : ACall X f_q030 [u0,u1] h P = d_q030 (ACall X) X.gl p_q030_k1 p_q030_k2 v0 v1 h1 [] (finR [.t 4] false h.length P):=by rw [call_val x_q030 rfl hp rfl]; exact e_q030
theorem x_q07s : X.fn f_q07s = some a_q07s:=by kernel_rfl
theorem c_q07s {u0 u1 u2 h P} : ACall X f_q07s [u0,u1,u2] h P = d_q07s (ACall X) X.gl p_q07s_k1 p_q07s_k6 u0 u1 u2 h [] (finR [] false h.length P):=by rw [call_ref x_q07s rfl rfl]; exact e_q07s
theorem x_q06g : X.fn f_q06g = some a_q06g:=by kernel_rfl
theorem c_q06g {u0 u1 h P} : ACall X f_q06g [u0,u1] h P = d_q06g (ACall X) X.gl u0 u1 h [] (finR [] false h.length P):=by rw [call_ref x_q06g rfl rfl]; exact e_q06g
theorem x_q02r : X.fn f_q02r = some a_q02r:=by kernel_rfl
theorem c_q02r {u0 u1 v0 v1 : AV} {h h1 : Heap} {P : Post} (hp : puras h [u0,u1] = some ([v0,v1],h1)) : ACall X f_q02r [u0,u1] h P = d_q02r (ACall X) X.gl v0 v1 h1 [] (finR [.t 4] false h.length P):=by rw [call_val x_q02r rfl hp rfl]; exact e_q02r
theorem x_q07t : X.fn f_q07t = some a_q07t:=by kernel_rfl
theorem c_q07t {u0 u1 u2 h P} : ACall X f_q07t [u0,u1,u2] h P = d_q07t (ACall X) X.gl p_q07t_k1 p_q07t_k6 u0 u1 u2 h [] (finR [] false h.length P):=by rw [call_ref x_q07t rfl rfl]; exact e_q07t
theorem x_q00w : X.fn f_q00w = some a_q00w:=by kernel_rfl
theorem c_q00w {u0 v0 : AV} {h h1 : Heap} {P : Post} (hp : puras h [u0] = some ([v0],h1)) : ACall X f_q00w [u0] h P = d_q00w (ACall X) X.gl v0 h1 [] (finR [.t 2] false h.length P):=by rw [call_val x_q00w rfl hp rfl]; exact e_q00w
theorem x_q07j : X.fn f_q07j = some a_q07j:=by kernel_rfl
theorem c_q07j {u0 u1 u2 u3 h P} : ACall X f_q07j [u0,u1,u2,u3] h P = d_q07j (ACall X) X.gl p_q07j_k4 u0 u1 u2 u3 h [] (finR [] false h.length P):=by rw [call_ref x_q07j rfl rfl]; exact e_q07j
theorem x_q03a : X.fn f_q03a = some a_q03a:=by kernel_rfl
theorem c_q03a {u0 v0 : AV} {h h1 : Heap} {P : Post} (hp : puras h [u0] = some ([v0],h1)) : ACall X f_q03a [u0] h P = d_q03a (ACall X) X.gl v0 h1 [] (finR [.t 2] false h.length P):=by rw [call_val x_q03a rfl hp rfl]; exact e_q03a
theorem x_q01y : X.fn f_q01y = some a_q01y:=by kernel_rfl
theorem c_q01y {u0 u1 v0 v1 : AV} {h h1 : Heap} {P : Post} (hp : puras h [u0,u1] = some ([v0,v1],h1)) : ACall X f_q01y [u0,u1] h P = d_q01y (ACall X) X.gl p_q01y_k2 p_q01y_k3 v0 v1 h1 [] (finR [.t 4] false h.length P):=by rw [call_val x_q01y rfl hp rfl]; exact e_q01y
theorem x_q068 : X.fn f_q068 = some a_q068:=by kernel_rfl
theorem c_q068 {u0 u1 h P} : ACall X f_q068 [u0,u1] h P = d_q068 (ACall X) X.gl p_q068_k1 p_q068_k2 u0 u1 h [] (finR [.t 4] false h.length P):=by rw [call_ref x_q068 rfl rfl]; exact e_q068
theorem x_q02t : X.fn f_q02t = some a_q02t:=by kernel_rfl
theorem c_q02t {u0 u1 v0 v1 : AV} {h h1 : Heap} {P : Post} (hp : puras h [u0,u1] = some ([v0,v1],h1)) : ACall X f_q02t [u0,u1] h P = d_q02t (ACall X) X.gl v0 v1 h1 [] (finR [.t 3] false h.length P):=by rw [call_val x_q02t rfl hp rfl]; exact e_q02t
theorem x_q05b : X.fn f_q05b = some a_q05b:=by kernel_rfl
theorem c_q05b {u0 u1 v0 v1 : AV} {h h1 : Heap} {P : Post} (hp : puras h [u0,u1] = some ([v0,v1],h1)) : ACall X f_q05b [u0,u1] h P = d_q05b (ACall X) X.gl p_q05b_k1 p_q05b_k2 v0 v1 h1 [] (finR [.t 4] false h.length P):=by rw [call_val x_q05b rfl hp rfl]; exact e_q05b
theorem x_q050 : X.fn f_q050 = some a_q050:=by kernel_rfl
theorem c_q050 {u0 u1 v0 v1 : AV} {h h1 : Heap} {P : Post} (hp : puras h [u0,u1] = some ([v0,v1],h1)) : ACall X f_q050 [u0,u1] h P = d_q050 (ACall X) X.gl v0 v1 h1 [] (finR [.t 3] false h.length P):=by rw [call_val x_q050 rfl hp rfl]; exact e_q050
theorem x_q01d : X.fn f_q01d = some a_q01d:=by kernel_rfl
theorem c_q01d {u0 u1 v0 v1 : AV} {h h1 : Heap} {P : Post} (hp : puras h [u0,u1] = some ([v0,v1],h1)) : ACall X f_q01d [u0,u1] h P = d_q01d (ACall X) X.gl v0 v1 h1 [] (finR [.t 4] false h.length P):=by rw [call_val x_q01d rfl hp rfl]; exact e_q01d
theorem x_q04s : X.fn f_q04s = some a_q04s:=by kernel_rfl
theorem c_q04s {u0 v0 : AV} {h h1 : Heap} {P : Post} (hp : puras h [u0] = some ([v0],h1)) : ACall X f_q04s [u0] h P = d_q04s (ACall X) X.gl v0 h1 [] (finR [.t 2] false h.length P):=by rw [call_val x_q04s rfl hp rfl]; exact e_q04s
theorem x_q05g : X.fn f_q05g = some a_q05g:=by kernel_rfl
theorem c_q05g {u0 v0 : AV} {h h1 : Heap} {P : Post} (hp : puras h [u0] = some ([v0],h1)) : ACall X f_q05g [u0] h P = d_q05g (ACall X) X.gl v0 h1 [] (finR [.t 2] false h.length P):=by rw [call_val x_q05g rfl hp rfl]; exact e_q05g
theorem x_q059 : X.fn f_q059 = some a_q059:=by kernel_rfl
theorem c_q059 {u0 u1 v0 v1 : AV} {h h1 : Heap} {P : Post} (hp : puras h [u0,u1] = some ([v0,v1],h1)) : ACall X f_q059 [u0,u1] h P = d_q059 (ACall X) X.gl p_q059_k1 p_q059_k2 v0 v1 h1 [] (finR [.t 4] false h.length P):=by rw [call_val x_q059 rfl hp rfl]; exact e_q059
theorem x_q05k : X.fn f_q05k = some a_q05k:=by kernel_rfl
theorem c_q05k {u0 v0 : AV} {h h1 : Heap} {P : Post} (hp : puras h [u0] = some ([v0],h1)) : ACall X f_q05k [u0] h P = d_q05k (ACall X) X.gl v0 h1 [] (finR [.t 2] false h.length P):=by rw [call_val x_q05k rfl hp rfl]; exact e_q05k
theorem x_q02y : X.fn f_q02y = some a_q02y:=by kernel_rfl
theorem c_q02y {u0 u1 v0 v1 : AV} {h h1 : Heap} {P : Post} (hp : puras h [u0,u1] = some ([v0,v1],h1)) : ACall X f_q02y [u0,u1] h P = d_q02y (ACall X) X.gl v0 v1 h1 [] (finR [.t 4] false h.length P):=by rw [call_val x_q02y rfl hp rfl]; exact e_q02y
theorem x_q06u : X.fn f_q06u = some a_q06u:=by kernel_rfl
theorem c_q06u {u0 u1 u2 u3 h P} : ACall X f_q06u [u0,u1,u2,u3] h P = d_q06u (ACall X) X.gl p_q06u_k3 u0 u1 u2 u3 h [] (finR [] false h.length P):=by rw [call_ref x_q06u rfl rfl]; exact e_q06u
theorem x_q07h : X.fn f_q07h = some a_q07h:=by kernel_rfl
theorem c_q07h {u0 u1 u2 u3 u4 h P} : ACall X f_q07h [u0,u1,u2,u3,u4] h P = d_q07h (ACall X) X.gl p_q07h_k4 u0 u1 u2 u3 u4 h [] (finR [] false h.length P):=by rw [call_ref x_q07h rfl rfl]; exact e_q07h
theorem x_q06v : X.fn f_q06v = some a_q06v:=by kernel_rfl
theorem c_q06v {u0 u1 u2 u3 h P} : ACall X f_q06v [u0,u1,u2,u3] h P = d_q06v (ACall X) X.gl p_q06v_k3 u0 u1 u2 u3 h [] (finR [] false h.length P):=by rw [call_ref x_q06v rfl rfl]; exact e_q06v
theorem x_q06x : X.fn f_q06x = some a_q06x:=by kernel_rfl
theorem c_q06x {u0 u1 u2 h P} : ACall X f_q06x [u0,u1,u2] h P = d_q06x (ACall X) X.gl p_q06x_k3 u0 u1 u2 h [] (finR [] false h.length P):=by rw [call_ref x_q06x rfl rfl]; exact e_q06x
theorem x_q00u : X.fn f_q00u = some a_q00u:=by kernel_rfl
theorem c_q00u {u0 u1 v0 v1 : AV} {h h1 : Heap} {P : Post} (hp : puras h [u0,u1] = some ([v0,v1],h1)) : ACall X f_q00u [u0,u1] h P = d_q00u (ACall X) X.gl v0 v1 h1 [] (finR [.t 4] false h.length P):=by rw [call_val x_q00u rfl hp rfl]; exact e_q00u
theorem x_q03c : X.fn f_q03c = some a_q03c:=by kernel_rfl
theorem c_q03c {u0 v0 : AV} {h h1 : Heap} {P : Post} (hp : puras h [u0] = some ([v0],h1)) : ACall X f_q03c [u0] h P = d_q03c (ACall X) X.gl p_q03c_k3 v0 h1 [] (finR [.t 2] false h.length P):=by rw [call_val x_q03c rfl hp rfl]; exact e_q03c
theorem x_q01z : X.fn f_q01z = some a_q01z:=by kernel_rfl
theorem c_q01z {u0 u1 v0 v1 : AV} {h h1 : Heap} {P : Post} (hp : puras h [u0,u1] = some ([v0,v1],h1)) : ACall X f_q01z [u0,u1] h P = d_q01z (ACall X) X.gl v0 v1 h1 [] (finR [.t 4] false h.length P):=by rw [call_val x_q01z rfl hp rfl]; exact e_q01z
theorem x_q01e : X.fn f_q01e = some a_q01e:=by kernel_rfl
theorem c_q01e {u0 v0 : AV} {h h1 : Heap} {P : Post} (hp : puras h [u0] = some ([v0],h1)) : ACall X f_q01e [u0] h P = d_q01e (ACall X) X.gl v0 h1 [] (finR [.t 2] false h.length P):=by rw [call_val x_q01e rfl hp rfl]; exact e_q01e
theorem x_q01f : X.fn f_q01f = some a_q01f:=by kernel_rfl
theorem c_q01f {u0 u1 v0 v1 : AV} {h h1 : Heap} {P : Post} (hp : puras h [u0,u1] = some ([v0,v1],h1)) : ACall X f_q01f [u0,u1] h P = d_q01f (ACall X) X.gl p_q01f_k1 p_q01f_k4 v0 v1 h1 [] (finR [.t 4] false h.length P):=by rw [call_val x_q01f rfl hp rfl]; exact e_q01f
theorem x_q007 : X.fn f_q007 = some a_q007:=by kernel_rfl
theorem c_q007 {u0 v0 : AV} {h h1 : Heap} {P : Post} (hp : puras h [u0] = some ([v0],h1)) : ACall X f_q007 [u0] h P = d_q007 (ACall X) X.gl v0 h1 [] (finR [.t 2] false h.length P):=by rw [call_val x_q007 rfl hp rfl]; exact e_q007
theorem x_q08y : X.fn f_q08y = some a_q08y:=by kernel_rfl
theorem c_q08y {u0 u1 v0 v1 : AV} {h h1 : Heap} {P : Post} (hp : puras h [u0,u1] = some ([v0,v1],h1)) : ACall X f_q08y [u0,u1] h P = d_q08y (ACall X) X.gl v0 v1 h1 [] (finR [.t 4] false h.length P):=by rw [call_val x_q08y rfl hp rfl]; exact e_q08y
theorem x_q02z : X.fn f_q02z = some a_q02z:=by kernel_rfl
theorem c_q02z {u0 v0 : AV} {h h1 : Heap} {P : Post} (hp : puras h [u0] = some ([v0],h1)) : ACall X f_q02z [u0] h P = d_q02z (ACall X) X.gl v0 h1 [] (finR [.t 2] false h.length P):=by rw [call_val x_q02z rfl hp rfl]; exact e_q02z
theorem x_q02m : X.fn f_q02m = some a_q02m:=by kernel_rfl
theorem c_q02m {u0 u1 v0 v1 : AV} {h h1 : Heap} {P : Post} (hp : puras h [u0,u1] = some ([v0,v1],h1)) : ACall X f_q02m [u0,u1] h P = d_q02m (ACall X) X.gl p_q02m_k1 p_q02m_k2 v0 v1 h1 [] (finR [.t 4] false h.length P):=by rw [call_val x_q02m rfl hp rfl]; exact e_q02m
theorem x_q00x : X.fn f_q00x = some a_q00x:=by kernel_rfl
theorem c_q00x {u0 v0 : AV} {h h1 : Heap} {P : Post} (hp : puras h [u0] = some ([v0],h1)) : ACall X f_q00x [u0] h P = d_q00x (ACall X) X.gl v0 h1 [] (finR [.t 2] false h.length P):=by rw [call_val x_q00x rfl hp rfl]; exact e_q00x
theorem x_q01g : X.fn f_q01g = some a_q01g:=by kernel_rfl
theorem c_q01g {u0 v0 : AV} {h h1 : Heap} {P : Post} (hp : puras h [u0] = some ([v0],h1)) : ACall X f_q01g [u0] h P = d_q01g (ACall X) X.gl p_q01g_k1 p_q01g_k6 v0 h1 [] (finR [.t 2,.t 3] false h.length P):=by rw [call_val x_q01g rfl hp rfl]; exact e_q01g
attribute [go_sem] e_q03l_k1 e_q03l_k2 e_q03l_k3 e_q03l_k4 e_q03l_k5 e_q03l_k6 e_q03l_k7 e_q03l_k8 e_q03l_k9 l_q03l_k2 l_q03l_k3 l_q03l_k4 l_q03l_k5 d_q03l_k1 d_q03l_k2 d_q03l_k3 d_q03l_k4 d_q03l_k5 d_q03l_k6 d_q03l_k7 d_q03l_k8 d_q03l_k9 e_q03q_k1 e_q03q_k2 l_q03q_k1 d_q03q_k1 d_q03q_k2 e_q04e_k1 e_q04e_k2 l_q04e_k1 d_q04e_k1 d_q04e_k2 e_q04f_k1 e_q04f_k2 l_q04f_k1 d_q04f_k1 d_q04f_k2 e_q025_k1 e_q025_k2 l_q025_k1
attribute [go_sem] d_q025_k1 d_q025_k2 e_q028_k1 e_q028_k2 e_q028_k3 e_q028_k4 e_q028_k5 e_q028_k6 e_q028_k7 e_q028_k8 l_q028_k2 l_q028_k4 l_q028_k5 d_q028_k1 d_q028_k2 d_q028_k3 d_q028_k4 d_q028_k5 d_q028_k6 d_q028_k7 d_q028_k8 e_q02a_k1 e_q02a_k2 e_q02a_k3 e_q02a_k4 e_q02a_k5 e_q02a_k6 l_q02a_k3 l_q02a_k4 d_q02a_k1 d_q02a_k2 d_q02a_k3 d_q02a_k4 d_q02a_k5 d_q02a_k6 e_q021_k1 e_q021_k2 e_q021_k3 e_q021_k4 e_q021_k5
attribute [go_sem] e_q021_k6 l_q021_k3 l_q021_k4 d_q021_k1 d_q021_k2 d_q021_k3 d_q021_k4 d_q021_k5 d_q021_k6 e_q046_k1 d_q046_k1 e_q04q_k1 e_q04q_k2 l_q04q_k1 d_q04q_k1 d_q04q_k2 e_q04b_k1 e_q04b_k2 e_q04b_k3 e_q04b_k4 e_q04b_k5 e_q04b_k6 e_q04b_k7 e_q04b_k8 l_q04b_k3 l_q04b_k7 d_q04b_k1 d_q04b_k2 d_q04b_k3 d_q04b_k4 d_q04b_k5 d_q04b_k6 d_q04b_k7 d_q04b_k8 e_q04t_k1 e_q04t_k2 l_q04t_k1 d_q04t_k1 d_q04t_k2 e_q05s_k1
attribute [go_sem] e_q05s_k2 e_q05s_k3 e_q05s_k4 e_q05s_k5 e_q05s_k6 l_q05s_k2 l_q05s_k5 d_q05s_k1 d_q05s_k2 d_q05s_k3 d_q05s_k4 d_q05s_k5 d_q05s_k6 e_q031_k1 d_q031_k1 e_q02q_k1 e_q02q_k2 e_q02q_k3 l_q02q_k2 d_q02q_k1 d_q02q_k2 d_q02q_k3 e_q06b_k1 e_q06b_k2 l_q06b_k1 d_q06b_k1 d_q06b_k2 e_q042_k1 d_q042_k1 e_q06a_k1 e_q06a_k2 l_q06a_k1 d_q06a_k1 d_q06a_k2 e_q006_k1 e_q006_k2 l_q006_k1 d_q006_k1 d_q006_k2 e_q00v_k1
attribute [go_sem] e_q00v_k2 l_q00v_k1 d_q00v_k1 d_q00v_k2 e_q023_k1 e_q023_k2 l_q023_k1 d_q023_k1 d_q023_k2 e_q030_k1 e_q030_k2 l_q030_k1 d_q030_k1 d_q030_k2 e_q07s_k1 e_q07s_k2 e_q07s_k3 e_q07s_k4 e_q07s_k5 e_q07s_k6 l_q07s_k1 l_q07s_k2 l_q07s_k5 d_q07s_k1 d_q07s_k2 d_q07s_k3 d_q07s_k4 d_q07s_k5 d_q07s_k6 e_q07t_k1 e_q07t_k2 e_q07t_k3 e_q07t_k4 e_q07t_k5 e_q07t_k6 l_q07t_k1 l_q07t_k2 l_q07t_k5 d_q07t_k1 d_q07t_k2
attribute [go_sem] d_q07t_k3 d_q07t_k4 d_q07t_k5 d_q07t_k6 e_q07j_k1 e_q07j_k2 e_q07j_k3 e_q07j_k4 l_q07j_k4 d_q07j_k1 d_q07j_k2 d_q07j_k3 d_q07j_k4 e_q01y_k1 e_q01y_k2 e_q01y_k3 l_q01y_k2 d_q01y_k1 d_q01y_k2 d_q01y_k3 e_q068_k1 e_q068_k2 l_q068_k1 d_q068_k1 d_q068_k2 e_q05b_k1 e_q05b_k2 l_q05b_k1 d_q05b_k1 d_q05b_k2 e_q059_k1 e_q059_k2 l_q059_k1 d_q059_k1 d_q059_k2 e_q06u_k1 e_q06u_k2 e_q06u_k3 l_q06u_k1 l_q06u_k3
attribute [go_sem] d_q06u_k1 d_q06u_k2 d_q06u_k3 e_q07h_k1 e_q07h_k2 e_q07h_k3 e_q07h_k4 l_q07h_k4 d_q07h_k1 d_q07h_k2 d_q07h_k3 d_q07h_k4 e_q06v_k1 e_q06v_k2 e_q06v_k3 l_q06v_k1 l_q06v_k3 d_q06v_k1 d_q06v_k2 d_q06v_k3 e_q06x_k1 e_q06x_k2 e_q06x_k3 l_q06x_k1 l_q06x_k3 d_q06x_k1 d_q06x_k2 d_q06x_k3 e_q03c_k1 e_q03c_k2 e_q03c_k3 d_q03c_k1 d_q03c_k2 d_q03c_k3 e_q01f_k1 e_q01f_k2 e_q01f_k3 e_q01f_k4 l_q01f_k1 l_q01f_k2
attribute [go_sem] d_q01f_k1 d_q01f_k2 d_q01f_k3 d_q01f_k4 e_q02m_k1 e_q02m_k2 l_q02m_k1 d_q02m_k1 d_q02m_k2 e_q01g_k1 e_q01g_k2 e_q01g_k3 e_q01g_k4 e_q01g_k5 e_q01g_k6 l_q01g_k1 l_q01g_k4 d_q01g_k1 d_q01g_k2 d_q01g_k3 d_q01g_k4 d_q01g_k5 d_q01g_k6 e_q09d_k1 e_q09d_k2 e_q09d_k3 e_q09d_k4 l_q09d_k2 l_q09d_k3 d_q09d_k1 d_q09d_k2 d_q09d_k3 d_q09d_k4
end Go.Am
end
section
/- The stream of numbers out of which the laws draw. -/
open Go
namespace Go.Am
abbrev eI (n : Int) : PV:=.int .i64 n
abbrev AL (l : List Int) : AV:=.p (.sl none (l.map eI))
abbrev strm (L : List Int) (a : Int) : Obj:=.box [AL L,AI a]
def below (x n : Int) : Int:=if n < 1 then 0 else if x.tmod n < 0 then IntKind.i64.wrap (x.tmod n + n) else x.tmod n
theorem s_Below (x n : Int) (h : Heap) (K : Post) : ACall X f_q042 [AI x,AI n] h K = K (AI (below x n)) h []:=by
  refine rule ?_
  rw [c_q042 rfl]
  simp only [d_q042,go_sem]
  unfold below
  by_cases h1 : n < 1
  · simp only [h1,if_true]
  · simp only [h1, if_false, show ¬ n = 0 by omega]
    split <;> rfl
theorem below_bd (x n : Int) (h1 : 1 ≤ n) (h2 : n ≤ 4611686018427387904) : 0 ≤ below x n ∧ below x n < n:=by
  unfold below
  rw [if_neg (by omega)]
  have:=Int.tmod_lt_of_pos x (show 0 < n by omega)
  have h3 : -n < x.tmod n:=by
    have:=Int.lt_tmod_of_pos x (show 0 < n by omega)
    exact this
  split
  · rw [i64_wrap _ (by omega) (by omega)]; omega
  · omega
def nextV (L : List Int) (a n : Int) : Int:=
  if L.length = 0 then below (IntKind.i64.wrap ((a + 1) * 7919)) n
  else below (IntKind.i64.wrap (below (L.getD (a.tmod L.length).toNat 0) 1073741824 + IntKind.i64.wrap (IntKind.i64.wrap (a.tdiv L.length) * IntKind.i64.wrap (7919 + a.tmod L.length)))) n
theorem nextV_bd (L : List Int) (a n : Int) (h1 : 1 ≤ n) (h2 : n ≤ 4611686018427387904) : 0 ≤ nextV L a n ∧ nextV L a n < n:=by
  unfold nextV
  split <;> exact below_bd _ _ h1 h2
theorem set_get' {h : Heap} {id : Nat} {o' : Obj} (hid : id < h.length) : (h.set id o')[id]? = some o':=by simp [hid]
theorem get_lt {h : Heap} {id : Nat} {o : Obj} (hh : h[id]? = some o) : id < h.length:=(List.getElem?_eq_some_iff.1 hh).1
def posN (n : Nat) (a : Int) : Prop:=0 ≤ a ∧ a + n < 4611686018427387904
theorem posN_le {n m : Nat} {a b : Int} (H : posN m a) (h : a ≤ b) (hn : b + n ≤ a + m) : posN n b:=by unfold posN at *; omega
theorem posAll {a : Int} (H : posN 14 a) : posN 0 (a) ∧ posN 0 (a + 1) ∧ posN 0 (a + 1 + 1) ∧ posN 0 (a + 1 + 1 + 1) ∧ posN 0 (a + 1 + 1 + 1 + 1) ∧ posN 0 (a + 1 + 1 + 1 + 1 + 1) ∧ posN 0 (a + 1 + 1 + 1 + 1 + 1 + 1) ∧ posN 0 (a + 1 + 1 + 1 + 1 + 1 + 1 + 1) ∧ posN 0 (a + 1 + 1 + 1 + 1 + 1 + 1 + 1 + 1) ∧ posN 0 (a + 1 + 1 + 1 + 1 + 1 + 1 + 1 + 1 + 1) ∧ posN 0 (a + 1 + 1 + 1 + 1 + 1 + 1 + 1 + 1 + 1 + 1) ∧ posN 0 (a + 1 + 1 + 1 + 1 + 1 + 1 + 1 + 1 + 1 + 1 + 1) ∧ posN 0 (a + 1 + 1 + 1 + 1 + 1 + 1 + 1 + 1 + 1 + 1 + 1 + 1) ∧ posN 0 (a + 1 + 1 + 1 + 1 + 1 + 1 + 1 + 1 + 1 + 1 + 1 + 1 + 1) ∧ posN 0 (a + 1 + 1 + 1 + 1 + 1 + 1 + 1 + 1 + 1 + 1 + 1 + 1 + 1 + 1):=by
  unfold posN at *; omega
def Gen (f : Nat) (args : List AV) (L : List Int) (a a2 : Int) (v : AV) : Prop:=∀ (h : Heap) (id : Nat) (K : Post),h[id]? = some (strm L a) → ACall X f (.ref id 0 :: args) h K = K v (h.set id (strm L a2)) []
section
variable {f : Nat} {args : List AV} {L : List Int} {a a2 : Int} {v : AV} {h l : Heap} {id : Nat} {K : Post}
theorem Gen.set (g : Gen f args L a a2 v) (hid : id < h.length) : ACall X f (.ref id 0 :: args) (h.set id (strm L a)) K = K v (h.set id (strm L a2)) []:=by
  rw [g _ _ _ (set_get' hid),List.set_set]
theorem Gen.app (g : Gen f args L a a2 v) (hid : id < h.length) : ACall X f (.ref id 0 :: args) (h.set id (strm L a) ++ l) K = K v (h.set id (strm L a2) ++ l) []:=by
  rw [g _ _ _ (by rw [get_app (by simpa using hid)]; exact set_get' hid),set_app (by simpa using hid),List.set_set]
theorem Gen.hd (g : Gen f args L a a2 v) : ACall X f (.ref 0 0 :: args) (strm L a :: l) K = K v (strm L a2 :: l) []:=by
  rw [g _ _ _ rfl]; rfl
theorem Gen.of (H : ∀ (h : Heap) (id : Nat),id < h.length → ACall X f (.ref id 0 :: args) (h.set id (strm L a)) fun v1 h1 x1=>v1 = v ∧ h1 = h.set id (strm L a2) ∧ x1 = []) : Gen f args L a a2 v:=by
  intro h id K hh
  have hid:=get_lt hh
  have : h.set id (strm L a) = h:=by
    apply List.ext_getElem?
    intro i
    rw [List.getElem?_set]
    split
    · rename_i e; subst e; rw [hh]
    · rfl
  have k:=H h id hid
  rw [this] at k
  exact rule k
end
def GenE (f : Nat) (args : List AV) (L : List Int) (a : Int) (Q : AV → Int → Prop) : Prop:=∀ (h : Heap) (id : Nat),h[id]? = some (strm L a) → ∃ v a2,Q v a2 ∧ ∀ K : Post,ACall X f (.ref id 0 :: args) h K = K v (h.set id (strm L a2)) []
section
variable {f : Nat} {args : List AV} {L : List Int} {a : Int} {Q : AV → Int → Prop}
theorem GenE.set (g : GenE f args L a Q) {h : Heap} {id : Nat} (hid : id < h.length) : ∃ v a2,Q v a2 ∧ ∀ K : Post,ACall X f (.ref id 0 :: args) (h.set id (strm L a)) K = K v (h.set id (strm L a2)) []:=by
  obtain ⟨v,a2,q,r⟩:=g _ _ (set_get' hid)
  exact ⟨v,a2,q,fun K=>by rw [r,List.set_set]⟩
theorem GenE.app (g : GenE f args L a Q) {h l : Heap} {id : Nat} (hid : id < h.length) : ∃ v a2,Q v a2 ∧ ∀ K : Post,ACall X f (.ref id 0 :: args) (h.set id (strm L a) ++ l) K = K v (h.set id (strm L a2) ++ l) []:=by
  obtain ⟨v,a2,q,r⟩:=g (h.set id (strm L a) ++ l) id (by rw [get_app (by simpa using hid)]; exact set_get' hid)
  exact ⟨v,a2,q,fun K=>by rw [r,set_app (by simpa using hid),List.set_set]⟩
theorem GenE.hd (g : GenE f args L a Q) {l : Heap} : ∃ v a2,Q v a2 ∧ ∀ K : Post,ACall X f (.ref 0 0 :: args) (strm L a :: l) K = K v (strm L a2 :: l) []:=g (strm L a :: l) 0 rfl
theorem GenE.of (H : ∀ (h : Heap) (id : Nat),id < h.length → ACall X f (.ref id 0 :: args) (h.set id (strm L a)) fun v1 h1 x1=>∃ a2,Q v1 a2 ∧ h1 = h.set id (strm L a2) ∧ x1 = []) : GenE f args L a Q:=by
  intro h id hh
  have hid:=get_lt hh
  have : h.set id (strm L a) = h:=by
    apply List.ext_getElem?
    intro i
    rw [List.getElem?_set]
    split
    · rename_i e; subst e; rw [hh]
    · rfl
  have k:=H h id hid
  rw [this] at k
  obtain ⟨v,h',x,⟨a2,q,e1,e2⟩,r⟩:=ACall.one X_noNext k
  subst e1; subst e2
  exact ⟨v,a2,q,r⟩
end
def pickV (l : List Int) (L : List Int) (a : Int) : Int:=l.getD (nextV L a l.length).toNat 0
theorem pickV_mem {l L : List Int} {a : Int} (hl : 0 < l.length) (hl2 : l.length < 4611686018427387904) : pickV l L a ∈ l:=by
  obtain ⟨b1,b2⟩:=nextV_bd L a l.length (by omega) (by omega)
  unfold pickV
  have : (nextV L a l.length).toNat < l.length:=by omega
  simp only [List.getD,List.getElem?_eq_getElem this,Option.getD_some]
  exact List.getElem_mem _
def isI : PV → Bool
  | .int .i64 _=>true
  | _=>false
def unI : PV → Int
  | .int _ n=>n
  | _=>0
theorem unI_map {xs : List PV} (h : xs.all isI = true) : xs = (xs.map unI).map eI:=by
  induction xs with
  | nil=>rfl
  | cons x r ih=>
    simp only [List.all_cons,Bool.and_eq_true] at h
    simp only [List.map_cons]
    rw [← ih h.2]
    cases x with
    | int k n=>cases k <;> first | rfl | cases h.1
    | _=>cases h.1
set_option maxHeartbeats 400000 in
theorem g_Next (L : List Int) (a n : Int) (hp : posN 0 a) : Gen f_q047 [AI n] L a (a + 1) (AI (nextV L a n)):=by
  refine Gen.of fun h id hid=>?_
  rw [c_q047 rfl]
  obtain ⟨h0,h1⟩:=hp
  have w1 : IntKind.i64.wrap (a + 1) = a + 1:=i64_wrap _ (by omega) (by omega)
  have w2 : IntKind.i64.wrap (a + 1 - 1) = a:=by rw [i64_wrap _ (by omega) (by omega)]; omega
  have hs : ∀ o',(h.set id o')[id]? = some o':=fun o'=>set_get' hid
  rcases Nat.eq_zero_or_pos L.length with hl | hl
  · simp only [d_q047, go_sem, hs, s_Below, hl, w1]
    simp only [nextV,hl,if_true]
  · have e1 : ((L.length : Int) = 0) = False := by simp only [eq_iff_iff, iff_false]; omega
    have e2 : 0 ≤ a.tmod L.length:=Int.tmod_nonneg _ h0
    have e3 : a.tmod L.length < L.length:=Int.tmod_lt_of_pos _ (by omega)
    have e4:=natOf_int (k:=.i64) e2
    have e5 : (L.map eI)[(a.tmod L.length).toNat]? = some (eI (L.getD (a.tmod L.length).toNat 0)):=by
      rw [map_get eI (show (a.tmod L.length).toNat < L.length by omega)]
      simp [List.getD,show (a.tmod L.length).toNat < L.length by omega]
    simp only [d_q047,go_sem,hs,s_Below,e1,w1,w2,e4,e5]
    simp only [nextV,show ¬ L.length = 0 by omega,if_false]
section
variable {L : List Int} {a : Int} {h l : Heap} {id : Nat} {K : Post}
theorem s_Next_set (hid : id < h.length) (hp : posN 0 a) (n : Int) : ACall X f_q047 [.ref id 0,AI n] (h.set id (strm L a)) K = K (AI (nextV L a n)) (h.set id (strm L (a + 1))) []:=(g_Next L a n hp).set hid
theorem s_Next_app (hid : id < h.length) (hp : posN 0 a) (n : Int) : ACall X f_q047 [.ref id 0,AI n] (h.set id (strm L a) ++ l) K = K (AI (nextV L a n)) (h.set id (strm L (a + 1)) ++ l) []:=(g_Next L a n hp).app hid
theorem s_Next_hd (hp : posN 0 a) (n : Int) : ACall X f_q047 [.ref 0 0,AI n] (strm L a :: l) K = K (AI (nextV L a n)) (strm L (a + 1) :: l) []:=(g_Next L a n hp).hd
theorem g_Flip (hp : posN 0 a) (n : Int) : Gen f_q045 [AI n] L a (a + 1) (AB (decide (nextV L a n = 0))):=by
  refine Gen.of fun h id hid=>?_
  rw [c_q045 rfl]
  simp only [d_q045,go_sem,s_Next_set hid hp]
theorem s_Flip_set (hid : id < h.length) (hp : posN 0 a) (n : Int) : ACall X f_q045 [.ref id 0,AI n] (h.set id (strm L a)) K = K (AB (decide (nextV L a n = 0))) (h.set id (strm L (a + 1))) []:=(g_Flip hp n).set hid
theorem s_Flip_app (hid : id < h.length) (hp : posN 0 a) (n : Int) : ACall X f_q045 [.ref id 0,AI n] (h.set id (strm L a) ++ l) K = K (AB (decide (nextV L a n = 0))) (h.set id (strm L (a + 1)) ++ l) []:=(g_Flip hp n).app hid
theorem s_Flip_hd (hp : posN 0 a) (n : Int) : ACall X f_q045 [.ref 0 0,AI n] (strm L a :: l) K = K (AB (decide (nextV L a n = 0))) (strm L (a + 1) :: l) []:=(g_Flip hp n).hd
theorem g_Pick (hp : posN 0 a) (xs : List PV) (hx : xs.all isI = true) (hl : 0 < xs.length) (hl2 : xs.length < 4611686018427387904) :
    Gen f_q049 [.p (.sl none xs)] L a (a + 1) (AI (pickV (xs.map unI) L a)):=by
  refine Gen.of fun h id hid=>?_
  rw [c_q049 rfl]
  obtain ⟨b1,b2⟩:=nextV_bd L a xs.length (by omega) (by omega)
  have e4:=natOf_int (k:=.i64) b1
  have e5 : xs[(nextV L a xs.length).toNat]? = some (eI (pickV (xs.map unI) L a)):=by
      have hm:=unI_map hx
      generalize hq : xs.map unI = q at *
      subst hm
      simp only [List.length_map] at *
      rw [map_get eI (show (nextV L a q.length).toNat < q.length by omega)]
      simp [pickV,List.getD,show (nextV L a q.length).toNat < q.length by omega]
  simp only [d_q049,go_sem,s_Next_set hid hp,e4,e5]
theorem s_Pick_set (hid : id < h.length) (hp : posN 0 a) {xs : List PV} (hx : xs.all isI = true) (hl : 0 < xs.length) (hl2 : xs.length < 4611686018427387904) :
    ACall X f_q049 [.ref id 0,.p (.sl none xs)] (h.set id (strm L a)) K = K (AI (pickV (xs.map unI) L a)) (h.set id (strm L (a + 1))) []:=(g_Pick hp xs hx hl hl2).set hid
theorem s_Pick_app (hid : id < h.length) (hp : posN 0 a) {xs : List PV} (hx : xs.all isI = true) (hl : 0 < xs.length) (hl2 : xs.length < 4611686018427387904) :
    ACall X f_q049 [.ref id 0,.p (.sl none xs)] (h.set id (strm L a) ++ l) K = K (AI (pickV (xs.map unI) L a)) (h.set id (strm L (a + 1)) ++ l) []:=(g_Pick hp xs hx hl hl2).app hid
theorem s_Pick_hd (hp : posN 0 a) {xs : List PV} (hx : xs.all isI = true) (hl : 0 < xs.length) (hl2 : xs.length < 4611686018427387904) :
    ACall X f_q049 [.ref 0 0,.p (.sl none xs)] (strm L a :: l) K = K (AI (pickV (xs.map unI) L a)) (strm L (a + 1) :: l) []:=(g_Pick hp xs hx hl hl2).hd
def rangeV (u v : Int) (L : List Int) (a : Int) : Int:=u + nextV L a (v - u + 1)
theorem rangeV_bd {u v : Int} (L : List Int) (a : Int) (h1 : u ≤ v) (h2 : v ≤ u + 4611686018427387900) : u ≤ rangeV u v L a ∧ rangeV u v L a ≤ v:=by
  have:=nextV_bd L a (v - u + 1) (by omega) (by omega)
  unfold rangeV; omega
theorem g_Range (hp : posN 0 a) (u v : Int) (huv : u ≤ v) (hu : -1152921504606846976 ≤ u) (hv : v ≤ 1152921504606846976) :
    Gen f_q04a [AI u,AI v] L a (a + 1) (AI (rangeV u v L a)):=by
  refine Gen.of fun h id hid=>?_
  rw [c_q04a rfl]
  obtain ⟨b1,b2⟩:=rangeV_bd L a huv (by omega)
  have w1 : IntKind.i64.wrap (v - u) = v - u:=i64_wrap _ (by omega) (by omega)
  have w2 : IntKind.i64.wrap (v - u + 1) = v - u + 1:=i64_wrap _ (by omega) (by omega)
  have w3 : IntKind.i64.wrap (u + nextV L a (v - u + 1)) = rangeV u v L a:=i64_wrap (rangeV u v L a) (by omega) (by omega)
  simp only [d_q04a,go_sem,show ¬ v < u by omega,w1,w2,s_Next_set hid hp,w3]
theorem s_Range_set (hid : id < h.length) (hp : posN 0 a) {u v : Int} (huv : u ≤ v) (hu : -1152921504606846976 ≤ u) (hv : v ≤ 1152921504606846976) :
    ACall X f_q04a [.ref id 0,AI u,AI v] (h.set id (strm L a)) K = K (AI (rangeV u v L a)) (h.set id (strm L (a + 1))) []:=(g_Range hp u v huv hu hv).set hid
theorem s_Range_app (hid : id < h.length) (hp : posN 0 a) {u v : Int} (huv : u ≤ v) (hu : -1152921504606846976 ≤ u) (hv : v ≤ 1152921504606846976) :
    ACall X f_q04a [.ref id 0,AI u,AI v] (h.set id (strm L a) ++ l) K = K (AI (rangeV u v L a)) (h.set id (strm L (a + 1)) ++ l) []:=(g_Range hp u v huv hu hv).app hid
theorem s_Range_hd (hp : posN 0 a) {u v : Int} (huv : u ≤ v) (hu : -1152921504606846976 ≤ u) (hv : v ≤ 1152921504606846976) :
    ACall X f_q04a [.ref 0 0,AI u,AI v] (strm L a :: l) K = K (AI (rangeV u v L a)) (strm L (a + 1) :: l) []:=(g_Range hp u v huv hu hv).hd
end
attribute [go_sem ↓] s_Next_set s_Next_app s_Next_hd s_Flip_set s_Flip_app s_Flip_hd s_Pick_set s_Pick_app s_Pick_hd s_Range_set s_Range_app s_Range_hd
attribute [go_sem] s_Next_set s_Next_app s_Next_hd s_Flip_set s_Flip_app s_Flip_hd s_Pick_set s_Pick_app s_Pick_hd s_Range_set s_Range_app s_Range_hd isI unI
end Go.Am
end
section
/- Plain laws of fractions in lowest terms. -/
namespace Go.Am
end Go.Am
end
section
/- Small functions of numbers and of lists of numbers. -/
open Go
namespace Go.Am
variable {h : Heap} {K : Post}
theorem s_Out (n a b : Int) : ACall X f_q008 [AI n,AI a,AI b] h K = K (AB (decide (n < a) || decide (b < n))) h []:=by
  refine rule ?_
  rw [c_q008 rfl]
  by_cases h1 : n < a <;> simp only [d_q008,go_sem,h1]
theorem s_in (n a b : Int) : ACall X f_q05a [AI n,AI a,AI b] h K = K (AB (decide (a ≤ n) && decide (n ≤ b))) h []:=by
  refine rule ?_
  rw [c_q05a rfl]
  by_cases h1 : a ≤ n <;> simp only [d_q05a,go_sem,h1]
theorem out_eq (n a b : Int) : (decide (n < a) || decide (b < n)) = !(decide (a ≤ n) && decide (n ≤ b)):=by
  rw [Bool.eq_iff_iff]; simp
theorem s_sign (n : Int) : ACall X f_q05k [AI n] h K = K (AI n.sign) h []:=by
  refine rule ?_
  rw [c_q05k rfl]
  rcases Int.lt_trichotomy n 0 with h1 | h1 | h1
  · simp only [d_q05k,go_sem,h1,Int.sign_eq_neg_one_of_neg h1]
  · subst h1; simp only [d_q05k,go_sem,Int.sign_zero]
  · simp only [d_q05k,go_sem,show ¬ n < 0 by omega,h1,Int.sign_eq_one_of_pos h1]
theorem u64_wrap (n : Int) (h1 : 0 ≤ n) (h2 : n < 18446744073709551616) : IntKind.u64.wrap n = n:=by
  simp [IntKind.wrap,IntKind.bits,IntKind.signed]; omega
abbrev AU (n : Int) : AV:=.p (.int .u64 n)
def cmp3 (x y : Int) : Int:=if x < y then -1 else if x = y then 0 else 1
theorem cmp3_sign (x y : Int) : cmp3 x y = (x - y).sign:=by
  unfold cmp3
  rcases Int.lt_trichotomy x y with h | h | h
  · rw [if_pos h,Int.sign_eq_neg_one_of_neg (by omega)]
  · rw [if_neg (by omega),if_pos h,h]; simp
  · rw [if_neg (by omega),if_neg (by omega),Int.sign_eq_one_of_pos (by omega)]
end Go.Am
end
section
/- Functions of lists. -/
open Go
namespace Go.Am
variable {h : Heap} {K : Post}
theorem s_isNaN (a : Int) : ACall X f_q00w [AI a] h K = K (AB false) h []:=by
  refine rule ?_
  rw [c_q00w rfl]
  simp only [d_q00w,go_sem]
theorem s_cmpCompare (a b : Int) : ACall X f_q00s [AI a,AI b] h K = K (AI (cmp3 a b)) h []:=by
  refine rule ?_
  rw [c_q00s rfl]
  unfold cmp3
  by_cases h1 : a < b
  · simp only [d_q00s,go_sem,s_isNaN,h1]
  · by_cases h2 : b < a
    · simp only [d_q00s,go_sem,s_isNaN,h1,h2,show ¬ a = b by omega]
    · simp only [d_q00s,go_sem,s_isNaN,h1,h2,show a = b by omega,Int.lt_irrefl]
theorem sum_bd (l : List Int) (a b : Int) (hv : ∀ n ∈ l,a ≤ n ∧ n ≤ b) : (l.length : Int) * a ≤ l.sum ∧ l.sum ≤ (l.length : Int) * b:=by
  induction l with
  | nil=>simp
  | cons x r ih=>
    obtain ⟨i1,i2⟩:=ih (fun n hn=>hv n (by simp [hn]))
    obtain ⟨x1,x2⟩:=hv x (by simp)
    simp only [List.length_cons,List.sum_cons,Int.natCast_add,Int.add_mul]
    omega
theorem sum_bd' {l : List Int} {B : Int} (hv : ∀ n ∈ l,-B ≤ n ∧ n ≤ B) {N : Nat} (hl : l.length ≤ N) (hB : 0 ≤ B) : -(N * B) ≤ l.sum ∧ l.sum ≤ N * B:=by
  obtain ⟨h1,h2⟩:=sum_bd l (-B) B hv
  have : (l.length : Int) * B ≤ N * B:=Int.mul_le_mul_of_nonneg_right (by omega) hB
  rw [Int.mul_neg] at h1
  omega
theorem sum_bd_take {l : List Int} {B : Int} (hv : ∀ n ∈ l,-B ≤ n ∧ n ≤ B) {N : Nat} (hl : l.length ≤ N) (hB : 0 ≤ B) (k : Nat) : -(N * B) ≤ (l.take k).sum ∧ (l.take k).sum ≤ N * B:=
  sum_bd' (fun n hn=>hv n (List.mem_of_mem_take hn)) (by simp; omega) hB
def Tells (g : Nat) (caps : List AV) (p : PV → Bool) (xs : List PV) (h : Heap) : Prop:=∀ x ∈ xs,∀ K : Post,ACall X g (.p x :: caps) h K = K (AB (p x)) h []
def idxP (p : PV → Bool) (xs : List PV) : Int:=if xs.findIdx p < xs.length then (xs.findIdx p : Int) else -1
theorem idxP_any (p : PV → Bool) (xs : List PV) : decide (0 ≤ idxP p xs) = xs.any p:=by
  unfold idxP
  rw [Bool.eq_iff_iff]
  by_cases h : xs.findIdx p < xs.length
  · rw [if_pos h]; simp only [decide_eq_true_eq, List.any_eq_true]
    exact ⟨fun _=>⟨_,List.getElem_mem h,List.findIdx_getElem⟩,fun _=>by omega⟩
  · rw [if_neg h]; simp only [decide_eq_true_eq, List.any_eq_true]
    refine ⟨fun h=>by omega,fun ⟨x,hx,hp⟩=>absurd (List.findIdx_lt_length_of_exists ⟨x,hx,hp⟩) h⟩
def firstErr : List Int → Int
  | []=>0
  | e :: r=>if e = 0 then firstErr r else e
end Go.Am
end
section
/- Plain lists: insertion sort asv Go's package slices does it on short lists; deleting; compacting. -/
namespace Go.Am
variable {α : Type}
def insR (lt : α → α → Bool) (x : α) : List α → List α
  | []=>[x]
  | y :: r=>bif lt x y then y :: insR lt x r else x :: y :: r
def isortR (lt : α → α → Bool) (l : List α) : List α:=l.foldl (fun r x=>insR lt x r) []
def isort (lt : α → α → Bool) (l : List α) : List α:=(isortR lt l).reverse
theorem insR_perm (lt : α → α → Bool) (x : α) : ∀ r : List α,(insR lt x r).Perm (x :: r)
  | []=>.refl _
  | y :: r=>by
    unfold insR
    cases lt x y with
    | true=>exact ((insR_perm lt x r).cons y).trans (.swap _ _ _)
    | false=>exact .refl _
theorem isortR_perm_aux (lt : α → α → Bool) : ∀ (l r : List α),(l.foldl (fun r x=>insR lt x r) r).Perm (l ++ r)
  | [],r=>.refl _
  | x :: l,r=>by
    simp only [List.foldl_cons,List.cons_append]
    refine (isortR_perm_aux lt l _).trans ?_
    exact ((insR_perm lt x r).append_left l).trans (List.perm_middle)
theorem isortR_perm (lt : α → α → Bool) (l : List α) : (isortR lt l).Perm l:=by
  have:=isortR_perm_aux lt l []
  rwa [List.append_nil] at this
theorem isort_perm (lt : α → α → Bool) (l : List α) : (isort lt l).Perm l:=(List.reverse_perm _).trans (isortR_perm lt l)
theorem isort_len (lt : α → α → Bool) (l : List α) : (isort lt l).length = l.length:=(isort_perm lt l).length_eq
theorem isort_mem {lt : α → α → Bool} {l : List α} {x : α} : x ∈ isort lt l ↔ x ∈ l:=(isort_perm lt l).mem_iff
theorem isortR_len (lt : α → α → Bool) (l : List α) : (isortR lt l).length = l.length:=(isortR_perm lt l).length_eq
structure Weak (lt : α → α → Bool) : Prop where
  asym : ∀ a b,lt a b = true → lt b a = false
  ntrans : ∀ a b c,lt b a = false → lt c b = false → lt c a = false
theorem insR_sorted {lt : α → α → Bool} (w : Weak lt) (x : α) : ∀ r : List α,r.Pairwise (fun a b=>lt a b = false) → (insR lt x r).Pairwise (fun a b=>lt a b = false)
  | [],_=>by simp [insR]
  | y :: r,h=>by
    unfold insR
    rw [List.pairwise_cons] at h
    cases hxy : lt x y with
    | true=>
      rw [cond_true,List.pairwise_cons]
      refine ⟨fun z hz=>?_,insR_sorted w x r h.2⟩
      rcases List.mem_cons.1 ((insR_perm lt x r).mem_iff.1 hz) with rfl | hz
      · exact w.asym _ _ hxy
      · exact h.1 z hz
    | false=>
      rw [cond_false,List.pairwise_cons,List.pairwise_cons]
      refine ⟨fun z hz=>?_,h⟩
      rcases List.mem_cons.1 hz with rfl | hz
      · exact hxy
      · exact w.ntrans _ _ _ (h.1 z hz) hxy
theorem isortR_sorted_aux {lt : α → α → Bool} (w : Weak lt) : ∀ (l r : List α),r.Pairwise (fun a b=>lt a b = false) → (l.foldl (fun r x=>insR lt x r) r).Pairwise (fun a b=>lt a b = false)
  | [],r,h=>h
  | x :: l,r,h=>isortR_sorted_aux w l _ (insR_sorted w x r h)
theorem isort_sorted {lt : α → α → Bool} (w : Weak lt) (l : List α) : (isort lt l).Pairwise (fun a b=>lt b a = false):=by
  unfold isort
  rw [List.pairwise_reverse]
  exact isortR_sorted_aux w l [] .nil
theorem isortR_take_succ (lt : α → α → Bool) (l : List α) (k : Nat) (hk : k < l.length) : isortR lt (l.take (k + 1)) = insR lt l[k] (isortR lt (l.take k)):=by
  rw [List.take_succ_eq_append_getElem hk]; unfold isortR; rw [List.foldl_append]; rfl
theorem map_insR {β : Type} (f : α → β) {lt : α → α → Bool} {lt' : β → β → Bool} (h : ∀ a b,lt' (f a) (f b) = lt a b) (x : α) : ∀ r : List α,insR lt' (f x) (r.map f) = (insR lt x r).map f
  | []=>rfl
  | y :: r=>by
    simp only [List.map_cons,insR,h]
    cases lt x y with
    | true=>simp only [cond_true,List.map_cons,map_insR f h x r]
    | false=>rfl
theorem insR_split (lt : α → α → Bool) (x : α) (A : List α) : ∀ B : List α,(∀ b ∈ B,lt x b = true) → insR lt x (B ++ A) = B ++ insR lt x A
  | [],_=>rfl
  | b :: B,h=>by
    simp only [List.cons_append,insR,h b (by simp),cond_true]
    rw [insR_split lt x A B (fun b hb=>h b (by simp [hb]))]
theorem ins_get (A C : List α) (x : α) : (A.reverse ++ x :: C)[A.length]? = some x:=by
  rw [List.getElem?_append_right (by simp)]; simp
theorem ins_get1 (A C : List α) (x y : α) : ((y :: A).reverse ++ x :: C)[A.length]? = some y:=by
  rw [List.getElem?_append_left (by simp)]; simp
theorem ins_swap (A C : List α) (x y : α) : (((y :: A).reverse ++ x :: C).set (A.length + 1) y).set A.length x = A.reverse ++ x :: y :: C:=by
  have e : (y :: A).reverse ++ x :: C = A.reverse ++ y :: x :: C:=by simp
  rw [e,List.set_append_right _ _ (by simp),List.length_reverse,Nat.add_sub_cancel_left,List.set_append_right _ _ (by simp),List.length_reverse,Nat.sub_self]
  rfl
theorem ins_done (lt : α → α → Bool) (x : α) (A B : List α) (hB : ∀ b ∈ B,lt x b = true) (hA : ∀ y r,A = y :: r → lt x y = false) : insR lt x (B ++ A) = B ++ x :: A:=by
  rw [insR_split lt x A B hB]
  cases A with
  | nil=>rfl
  | cons y r=>simp only [insR,hA y r rfl,cond_false]
theorem isort_map {β : Type} (f : α → β) {lt : α → α → Bool} {lt' : β → β → Bool} (h : ∀ a b,lt' (f a) (f b) = lt a b) (l : List α) : isort lt' (l.map f) = (isort lt l).map f:=by
  have key : ∀ (l r : List α),(l.map f).foldl (fun r x=>insR lt' x r) (r.map f) = (l.foldl (fun r x=>insR lt x r) r).map f:=by
    intro l
    induction l with
    | nil=>intro r; rfl
    | cons x l ih=>intro r; simp only [List.map_cons,List.foldl_cons,map_insR f h,ih]
  unfold isort isortR
  have:=key l []
  simp only [List.map_nil] at this
  rw [this,List.map_reverse]
end Go.Am
namespace Go.Am
variable {α : Type}
def cmpctFrom (q : α → α → Bool) (prev : α) : List α → List α
  | []=>[]
  | x :: r=>bif q x prev then cmpctFrom q x r else x :: cmpctFrom q x r
def compactL (q : α → α → Bool) : List α → List α
  | []=>[]
  | x :: r=>x :: cmpctFrom q x r
theorem cmpctFrom_len (q : α → α → Bool) : ∀ (l : List α) (p : α),(cmpctFrom q p l).length ≤ l.length
  | [],_=>Nat.le_refl _
  | x :: r,p=>by
    unfold cmpctFrom
    have:=cmpctFrom_len q r x
    cases q x p with
    | true=>simp only [cond_true,List.length_cons]; omega
    | false=>simp only [cond_false,List.length_cons]; omega
theorem compactL_len (q : α → α → Bool) (l : List α) : (compactL q l).length ≤ l.length:=by
  cases l with
  | nil=>exact Nat.le_refl _
  | cons x r=>have:=cmpctFrom_len q r x; simp only [compactL,List.length_cons]; omega
theorem cmpctFrom_mem (q : α → α → Bool) : ∀ (l : List α) (p : α),∀ x ∈ cmpctFrom q p l,x ∈ l
  | [],_,x,h=>h
  | y :: r,p,x,h=>by
    unfold cmpctFrom at h
    cases hq : q y p with
    | true=>rw [hq] at h; exact List.mem_cons_of_mem _ (cmpctFrom_mem q r y x h)
    | false=>
      rw [hq] at h
      rcases List.mem_cons.1 h with rfl | h
      · simp
      · exact List.mem_cons_of_mem _ (cmpctFrom_mem q r y x h)
theorem compactL_mem {q : α → α → Bool} {l : List α} {x : α} (h : x ∈ compactL q l) : x ∈ l:=by
  cases l with
  | nil=>exact h
  | cons y r=>
    rcases List.mem_cons.1 h with rfl | h
    · simp
    · exact List.mem_cons_of_mem _ (cmpctFrom_mem q r y x h)
theorem cmpctFrom_snoc (q : α → α → Bool) (z : α) : ∀ (l : List α) (p : α),cmpctFrom q p (l ++ [z]) = cmpctFrom q p l ++ (bif q z ((p :: l).getLast (by simp)) then [] else [z])
  | [],p=>by simp only [List.nil_append,cmpctFrom,List.getLast_singleton]
  | x :: r,p=>by
    simp only [List.cons_append,cmpctFrom,cmpctFrom_snoc q z r x]
    have e : (p :: x :: r).getLast (by simp) = (x :: r).getLast (by simp):=List.getLast_cons (by simp)
    rw [e]
    cases q x p <;> rfl
theorem compactL_take_succ (q : α → α → Bool) (l : List α) (k : Nat) (hk : k + 1 < l.length) : compactL q (l.take (k + 1 + 1)) = compactL q (l.take (k + 1)) ++ (bif q l[k + 1] l[k] then [] else [l[k + 1]]):=by
  rw [List.take_succ_eq_append_getElem hk]
  cases l with
  | nil=>simp at hk
  | cons x r=>
    simp only [List.take_succ_cons,List.cons_append,compactL,cmpctFrom_snoc]
    have e : (x :: r.take k).getLast (by simp) = (x :: r)[k]:=by
      have : x :: r.take k = (x :: r).take (k + 1):=rfl
      simp only [this]
      rw [List.getLast_eq_getElem]
      simp only [List.getElem_take]
      congr 1
      simp only [List.length_take,List.length_cons] at hk ⊢
      omega
    rw [e]
end Go.Am
end
section
/- Values of a shape: loads and stores in rows. -/
open Go
namespace Go.Am
variable {h : Heap} {K : Post}
theorem shp_cut {sh : Sh} {x : PV} (hx : x.shp sh = true) : cutP sh 0 x = some x:=by
  cases sh with
  | none=>exact cutP_sc hx
  | some n=>
    cases x with
    | agg cs=>
      simp only [PV.shp,Bool.and_eq_true,beq_iff_eq] at hx
      simp [cutP,hx.1]
      exact List.take_of_length_le (by omega)
    | _=>cases hx
theorem shp_len {sh : Sh} {x : PV} (hx : x.shp sh = true) : x.cells.length = shSize sh:=by
  cases sh with
  | none=>cases x <;> first | rfl | cases hx
  | some n=>
    cases x with
    | agg cs=>simp only [PV.shp,Bool.and_eq_true,beq_iff_eq] at hx; exact hx.1
    | _=>cases hx
theorem shp_all {sh : Sh} {x : PV} (hx : x.shp sh = true) : x.cells.all PV.sc = true:=by
  cases sh with
  | none=>cases x <;> first | rfl | cases hx
  | some n=>
    cases x with
    | agg cs=>simp only [PV.shp,Bool.and_eq_true,beq_iff_eq] at hx; exact hx.2
    | _=>cases hx
theorem shp_st {sh : Sh} {x y : PV} (hx : x.shp sh = true) (hy : y.shp sh = true) (id i fz : Nat) (xs : List PV) (h1 : Heap) : stE sh id i 0 fz sh xs x h1 (some y) = some (.und,h1.set id (.row sh (xs.set i x) fz),[]):=by
  cases sh with
  | none=>
    cases y with
    | agg cs=>cases hy
    | _=>simp only [PV.shp] at hx; simp [stE,hx]
  | some n=>
    cases y with
    | agg cs=>
      cases x with
      | agg ds=>
        simp only [PV.shp,Bool.and_eq_true,beq_iff_eq] at hx hy
        simp [stE,PV.cells,splice,hx.1,hy.1,show cs.drop n = [] from List.drop_of_length_le (by omega)]
      | _=>cases hx
    | _=>cases hy
def shps (sh : Sh) (xs : List PV) : Prop:=∀ x ∈ xs,x.shp sh = true
theorem shps_get {sh : Sh} {xs : List PV} (hx : shps sh xs) {i : Nat} (hi : i < xs.length) : xs[i].shp sh = true:=hx _ (List.getElem_mem hi)
theorem set_self {h : Heap} {id : Nat} {o : Obj} (hh : h[id]? = some o) : h.set id o = h:=by
  apply List.ext_getElem?
  intro i
  rw [List.getElem?_set]
  split
  · rename_i e; subst e; rw [hh]; simp [get_lt hh]
  · rfl
def Cmps (g : Nat) (caps : List AV) (c : PV → PV → Int) (xs : List PV) (id : Nat) (h : Heap) : Prop:=∀ (o : Obj) (x : PV),x ∈ xs → ∀ y,y ∈ xs → ∀ K : Post,ACall X g (.p x :: .p y :: caps) (h.set id o) K = K (AI (c x y)) (h.set id o) []
def ltC (c : PV → PV → Int) (a b : PV) : Bool:=decide (c a b < 0)
structure Shows (sh : Sh) (v : AV) (xs : List PV) (h : Heap) : Prop where
  len : oLen v = some (AI xs.length)
  get : ∀ (k : Nat) (hk : k < xs.length),∃ a,oIaddr sh v (AI k) h = some a ∧ oLoad sh a h = some (.p xs[k])
theorem shows_sl {sh : Sh} {xs : List PV} (hs : shps sh xs) : Shows sh (.p (.sl sh xs)) xs h:=by
  refine ⟨rfl,fun k hk=>⟨.vp xs[k],?_,?_⟩⟩
  · simp [oIaddr,natOf,hk]
  · simp only [load_vp,shp_cut (shps_get hs hk)]; rfl
def Alikes (g : Nat) (caps : List AV) (q : PV → PV → Bool) (xs : List PV) (id : Nat) (h : Heap) : Prop:=∀ (o : Obj) (x : PV),x ∈ xs → ∀ y,y ∈ xs → ∀ K : Post,ACall X g (.p x :: .p y :: caps) (h.set id o) K = K (AB (q x y)) (h.set id o) []
end Go.Am
end
section
/- Strings: keys,the library's functions without text. -/
open Go
set_option linter.unusedSimpArgs false
namespace Go.Am
variable {h : Heap} {K : Post}
abbrev AS (s : List UInt8) : AV:=.p (.str s)
theorem X_ext : X.ext = extF f_internal_bytealg_IndexByteString f_internal_bytealg_abigen_runtime_cmpstring:=rfl
theorem s_idxExt (s : List UInt8) (c : UInt8) : ACall X f_internal_bytealg_IndexByteString [AS s,.p (.int .u8 c.toNat)] h K = K (AI (idxB s c)) h []:=by
  have:=ext_call (X:=X) (f:=f_internal_bytealg_IndexByteString) (asv:=[AS s,.p (.int .u8 c.toNat)]) (vs:=[.str s,.int .u8 c.toNat]) (h:=h) (h1:=h) (r:=.int .i64 (idxB s c)) (K:=K) (by kernel_rfl) rfl rfl rfl ?_
  · exact this
  · rw [X_ext]
    unfold extF
    rw [show Nat.beq f_internal_bytealg_IndexByteString f_internal_bytealg_IndexByteString = true from by kernel_rfl]
    simp
theorem s_cmpExt (a b : List UInt8) : ACall X f_internal_bytealg_abigen_runtime_cmpstring [AS a,AS b] h K = K (AI (cmpL a b)) h []:=by
  have:=ext_call (X:=X) (f:=f_internal_bytealg_abigen_runtime_cmpstring) (asv:=[AS a,AS b]) (vs:=[.str a,.str b]) (h:=h) (h1:=h) (r:=.int .i64 (cmpL a b)) (K:=K) (by kernel_rfl) rfl rfl rfl ?_
  · exact this
  · rw [X_ext]
    unfold extF
    rw [show Nat.beq f_internal_bytealg_abigen_runtime_cmpstring f_internal_bytealg_IndexByteString = false from by kernel_rfl,show Nat.beq f_internal_bytealg_abigen_runtime_cmpstring f_internal_bytealg_abigen_runtime_cmpstring = true from by kernel_rfl]
    rfl
theorem s_strCompare (a b : List UInt8) : ACall X f_q08u [AS a,AS b] h K = K (AI (cmpL a b)) h []:=by
  have key : ∀ (h : Heap) (K : Post),ACall X f_q01d [AS a,AS b] h K = K (AI (cmpL a b)) h []:=by
    intro h K
    refine rule ?_
    rw [c_q01d rfl]
    simp only [d_q01d,go_sem,s_cmpExt]
  refine rule ?_
  rw [c_q08u rfl]
  simp only [d_q08u,go_sem,key]
theorem s_IndexByte (s : List UInt8) (c : UInt8) : ACall X f_q08y [AS s,.p (.int .u8 c.toNat)] h K = K (AI (idxB s c)) h []:=by
  have key : ∀ (h : Heap) (K : Post),ACall X f_q01z [AS s,.p (.int .u8 c.toNat)] h K = K (AI (idxB s c)) h []:=by
    intro h K
    refine rule ?_
    rw [c_q01z rfl]
    simp only [d_q01z,go_sem,s_idxExt]
  refine rule ?_
  rw [c_q08y rfl]
  simp only [d_q08y,go_sem,key]
theorem cmpL_eq : ∀ {a b : List UInt8},cmpL a b = 0 → a = b
  | [],[],_=>rfl
  | [],_ :: _,h=>by simp [cmpL] at h
  | _ :: _,[],h=>by simp [cmpL] at h
  | x :: a,y :: b,h=>by
    simp only [cmpL] at h
    split at h
    · cases h
    · split at h
      · cases h
      · rename_i h1 h2
        have : x = y:=UInt8.le_antisymm (UInt8.not_lt.1 h2) (UInt8.not_lt.1 h1)
        rw [this,cmpL_eq h]
theorem cmpL_neg : ∀ a b,cmpL b a = - cmpL a b
  | [],[]=>rfl
  | [],_ :: _=>rfl
  | _ :: _,[]=>rfl
  | x :: a,y :: b=>by
    simp only [cmpL]
    by_cases h1 : x < y
    · have h2 : ¬ y < x := UInt8.lt_asymm h1
      simp [h1,h2]
    · by_cases h2 : y < x
      · simp [h1,h2]
      · simp [h1,h2,cmpL_neg a b]
theorem cmpL_trans : ∀ {a b c : List UInt8},cmpL a b < 0 → cmpL b c < 0 → cmpL a c < 0
  | [],[],_,h,_=>by simp [cmpL] at h
  | [],_ :: _,[],_,h=>by simp [cmpL] at h
  | [],_ :: _,_ :: _,_,_=>by simp [cmpL]
  | _ :: _,[],_,h,_=>by simp [cmpL] at h
  | _ :: _,_ :: _,[],_,h=>by simp [cmpL] at h
  | x :: a,y :: b,z :: c,h1,h2=>by
    simp only [cmpL] at h1 h2 ⊢
    by_cases hxy : x < y
    · by_cases hyz : y < z
      · simp [UInt8.lt_trans hxy hyz]
      · by_cases hzy : z < y
        · simp [hyz,hzy] at h2
        · have : y = z := UInt8.le_antisymm (UInt8.not_lt.1 hzy) (UInt8.not_lt.1 hyz)
          subst this; simp [hxy]
    · by_cases hyx : y < x
      · simp [hxy,hyx] at h1
      · have : x = y := UInt8.le_antisymm (UInt8.not_lt.1 hyx) (UInt8.not_lt.1 hxy)
        subst this
        simp only [UInt8.lt_irrefl,if_false] at h1
        by_cases hyz : x < z
        · simp [hyz]
        · by_cases hzy : z < x
          · simp [hyz,hzy] at h2
          · simp only [hyz, hzy, if_false] at h2 ⊢
            exact cmpL_trans h1 h2
def keyCh (c : UInt8) : Bool:=decide ((97 : Int) ≤ c.toNat) && decide ((c.toNat : Int) ≤ 122) || decide ((48 : Int) ≤ c.toNat) && decide ((c.toNat : Int) ≤ 57) || decide ((c.toNat : Int) = 45) || decide ((c.toNat : Int) = 95)
def keyB (s : List UInt8) : Bool:=match s with
  | []=>false
  | c :: r=>decide (r.length < 40) && (decide ((97 : Int) ≤ c.toNat) && decide ((c.toNat : Int) ≤ 122)) && (c :: r).all keyCh
theorem s_Key (s : List UInt8) (hl : s.length ≤ 1000000000) : ACall X f_q006 [AS s] h K = K (AB (keyB s)) h []:=by
  refine rule ?_
  rw [c_q006 rfl]
  cases s with
  | nil=>simp only [d_q006,go_sem,keyB]
  | cons c r=>
    have n0 : ((c :: r) = []) = False:=by simp
    have e1 : (((r.length + 1 : Nat) : Int) ≤ 40) = (r.length < 40):=by simp only [eq_iff_iff]; omega
    by_cases h1 : (40 : Int) < ((r.length + 1 : Nat) : Int)
    · have : ¬ r.length < 40 := by omega
      simp only [d_q006,go_sem,n0,h1,keyB,this]
    have h1' : r.length < 40:=by omega
    by_cases h2 : (c.toNat : Int) < 97
    · have : ¬ (97 : Int) ≤ c.toNat := by omega
      simp only [d_q006,go_sem,n0,h1,h2,keyB,this,h1']
    have h2' : (97 : Int) ≤ c.toNat:=by omega
    by_cases h3 : (122 : Int) < c.toNat
    · have : ¬ (c.toNat : Int) ≤ 122 := by omega
      simp only [d_q006,go_sem,n0,h1,h2,h3,keyB,this,h1',h2']
    have h3' : (c.toNat : Int) ≤ 122:=by omega
    have ek : keyB (c :: r) = (c :: r).all keyCh:=by simp [keyB,h1',h2',h3']
    rw [ek]
    generalize hB : (c :: r).all keyCh = B
    simp only [d_q006,go_sem,n0,h1,h2,h3]
    have hlen : (c :: r).length = r.length + 1:=rfl
    rw [← hlen]
    generalize c :: r = s at *
    refine N_loop (fun k : Nat=>⟨[(0,AS s),(23,AI s.length),(24,AI k)],h,[]⟩) (fun k=>k ≤ s.length ∧ (s.take k).all keyCh = true) (fun k=>s.length - k) 0 rfl ⟨by omega,rfl⟩ ?_
    rintro k ⟨hk,hp⟩
    rcases Nat.lt_or_ge k s.length with hlt | hge
    · have hg : s[k]? = some s[k] := List.getElem?_eq_getElem hlt
      have w2 : IntKind.i64.wrap ((k : Int) + 1) = ((k + 1 : Nat) : Int):=i64_wrap _ (by omega) (by omega)
      generalize hc : s[k] = c at *
      have key : (decide ((97 : Int) ≤ c.toNat) && decide ((c.toNat : Int) ≤ 122) || decide ((48 : Int) ≤ c.toNat) && decide ((c.toNat : Int) ≤ 57) || decide ((c.toNat : Int) = 45) || decide ((c.toNat : Int) = 95)) = keyCh c:=rfl
      cases hkc : keyCh c with
      | true=>
        rw [hkc] at key
        have hn : (s.take (k + 1)).all keyCh = true:=by rw [List.take_succ_eq_append_getElem hlt,List.all_append,hp,hc]; simp [hkc]
        by_cases b1 : (97 : Int) ≤ c.toNat <;> by_cases b2 : (c.toNat : Int) ≤ 122 <;> by_cases b3 : (48 : Int) ≤ c.toNat <;> by_cases b4 : (c.toNat : Int) ≤ 57 <;> by_cases b5 : (c.toNat : Int) = 45 <;> by_cases b6 : (c.toNat : Int) = 95
        all_goals first
          | (simp only [b1,b2,b3,b4,b5,b6,decide_true,decide_false,Bool.and_self,Bool.and_true,Bool.and_false,Bool.or_self,Bool.or_true,Bool.or_false,Bool.true_or,Bool.false_or,Bool.false_and,reduceCtorEq] at key; done)
          | (exfalso; omega)
          | (simp only [go_sem,hlt,hg,w2,b1,b2,b3,b4,b5,b6]
             exact ⟨k + 1,rfl,⟨by omega,hn⟩,by omega⟩)
      | false=>
        rw [hkc] at key
        have hn : s.all keyCh = false:=by rw [List.all_eq_false]; exact ⟨_,List.getElem_mem hlt,by rw [hc,hkc]; simp⟩
        rw [hn] at hB
        subst hB
        by_cases b1 : (97 : Int) ≤ c.toNat <;> by_cases b2 : (c.toNat : Int) ≤ 122 <;> by_cases b3 : (48 : Int) ≤ c.toNat <;> by_cases b4 : (c.toNat : Int) ≤ 57 <;> by_cases b5 : (c.toNat : Int) = 45 <;> by_cases b6 : (c.toNat : Int) = 95
        all_goals first
          | (simp only [b1,b2,b3,b4,b5,b6,decide_true,decide_false,Bool.and_self,Bool.and_true,Bool.and_false,Bool.or_self,Bool.or_true,Bool.or_false,Bool.true_or,Bool.false_or,Bool.false_and,reduceCtorEq] at key; done)
          | (exfalso; omega)
          | (simp only [go_sem,hlt,hg,b1,b2,b3,b4,b5,b6])
    · have ek : k = s.length := by omega
      subst ek
      rw [List.take_length,hB] at hp
      subst hp
      simp only [go_sem,Nat.lt_irrefl]
theorem idxB_neg (s : List UInt8) (c : UInt8) : decide (idxB s c < 0) = !s.contains c:=by
  unfold idxB
  rw [Bool.eq_iff_iff]
  by_cases hf : s.findIdx (· == c) < s.length
  · rw [if_pos hf]
    have:=List.findIdx_getElem (w:=hf)
    simp only [beq_iff_eq] at this
    have hm : c ∈ s:=by rw [← this]; exact List.getElem_mem hf
    simp [hm]
  · rw [if_neg hf]
    have hm : ¬ c ∈ s:=fun hm=>hf (List.findIdx_lt_length_of_exists ⟨c,hm,by simp⟩)
    simp [hm]
theorem s_only (s t : List UInt8) (hl : s.length ≤ 1000000000) : ACall X f_q05b [AS s,AS t] h K = K (AB (s.all fun c=>t.contains c)) h []:=by
  refine rule ?_
  rw [c_q05b rfl]
  simp only [d_q05b,go_sem]
  refine N_loop (fun k : Nat=>⟨[(0,AS s),(1,AS t),(7,AI s.length),(8,AI k)],h,[]⟩) (fun k=>k ≤ s.length ∧ (s.take k).all (fun c=>t.contains c) = true) (fun k=>s.length - k) 0 rfl ⟨by omega,rfl⟩ ?_
  rintro k ⟨hk,hp⟩
  rcases Nat.lt_or_ge k s.length with hlt | hge
  · have hg : s[k]? = some s[k] := List.getElem?_eq_getElem hlt
    have w2 : IntKind.i64.wrap ((k : Int) + 1) = ((k + 1 : Nat) : Int):=i64_wrap _ (by omega) (by omega)
    have hi:=idxB_neg t s[k]
    by_cases hc : idxB t s[k] < 0
    · have : s.all (fun c=>t.contains c) = false:=by
        rw [List.all_eq_false]
        refine ⟨_,List.getElem_mem hlt,?_⟩
        rw [decide_eq_true hc] at hi
        cases hq : t.contains s[k] with
        | true=>rw [hq] at hi; cases hi
        | false=>simp
      simp only [go_sem,hlt,hg,s_IndexByte,hc,this]
    · rw [decide_eq_false hc] at hi
      have hq : t.contains s[k] = true:=by cases hq : t.contains s[k] with | true=>rfl | false=>rw [hq] at hi; cases hi
      simp only [go_sem,hlt,hg,s_IndexByte,hc,w2]
      exact ⟨k + 1,rfl,⟨by omega,by rw [List.take_succ_eq_append_getElem hlt,List.all_append,hp]; simp only [List.all_cons,List.all_nil,hq]; rfl⟩,by omega⟩
  · have ek : k = s.length := by omega
    subst ek
    rw [List.take_length] at hp
    simp only [go_sem,Nat.lt_irrefl,hp]
def smallsL : List UInt8:=[97,98,99,100,101,102,103,104,105,106,107,108,109,110,111,112,113,114,115,116,117,118,119,120,121,122]
def keysL : List UInt8:=[97,98,99,100,101,102,103,104,105,106,107,108,109,110,111,112,113,114,115,116,117,118,119,120,121,122,48,49,50,51,52,53,54,55,56,57,45,95]
theorem u8_all {p : UInt8 → Bool} (h : ((List.range 256).all fun n=>p (UInt8.ofNat n)) = true) (c : UInt8) : p c = true:=by
  have:=List.all_eq_true.1 h c.toNat (by simp; exact c.toNat_lt)
  rwa [UInt8.ofNat_toNat] at this
theorem smalls_iff (c : UInt8) : smallsL.contains c = (decide ((97 : Int) ≤ c.toNat) && decide ((c.toNat : Int) ≤ 122)):=by
  have:=u8_all (p:=fun c=>smallsL.contains c == (decide ((97 : Int) ≤ c.toNat) && decide ((c.toNat : Int) ≤ 122))) (by kernel_rfl) c
  simpa using this
theorem keys_iff (c : UInt8) : keysL.contains c = keyCh c:=by
  have:=u8_all (p:=fun c=>keysL.contains c == keyCh c) (by kernel_rfl) c
  simpa using this
theorem s_refKey (s : List UInt8) (hl : s.length ≤ 1000000000) : ACall X f_q04p [AS s] h K = K (AB (keyB s)) h []:=by
  refine rule ?_
  rw [c_q04p rfl]
  have o1:=fun h K=>s_only (h:=h) (K:=K) s keysL hl
  have e2 : (s.all fun c=>keysL.contains c) = s.all keyCh:=by congr 1; funext c; exact keys_iff c
  rw [e2] at o1
  unfold keysL at o1
  cases s with
  | nil=>simp only [d_q04p,go_sem,s_in,keyB]
  | cons c r=>
    have o2:=fun h K=>s_only (h:=h) (K:=K) [c] smallsL (by simp)
    have e3 : ([c].all fun c=>smallsL.contains c) = (decide ((97 : Int) ≤ c.toNat) && decide ((c.toNat : Int) ≤ 122)):=by simp only [List.all_cons,List.all_nil,Bool.and_true]; exact smalls_iff c
    rw [e3] at o2
    unfold smallsL at o2
    have q1 : (1 : Int) ≤ ((r.length + 1 : Nat) : Int):=by omega
    have q2 : 1 ≤ r.length + 1:=by omega
    by_cases h1 : r.length < 40
    · have h1' : ((r.length + 1 : Nat) : Int) ≤ 40 := by omega
      cases h2 : (decide ((97 : Int) ≤ c.toNat) && decide ((c.toNat : Int) ≤ 122)) with
      | true=>
        have ek : keyB (c :: r) = (c :: r).all keyCh:=by
          simp only [keyB,h1,decide_true,Bool.true_and,h2]
        rw [ek]
        simp only [d_q04p,go_sem,s_in,h1',q1,q2,win,↓o2,o2,h2,↓o1,o1]
      | false=>
        have ek : keyB (c :: r) = false:=by simp only [keyB,h1,decide_true,Bool.true_and,h2,Bool.false_and]
        rw [ek]
        simp only [d_q04p,go_sem,s_in,h1',q1,q2,win,↓o2,o2,h2]
    · have h1' : ¬ ((r.length + 1 : Nat) : Int) ≤ 40 := by omega
      have ek : keyB (c :: r) = false:=by simp only [keyB,h1,decide_false,Bool.false_and]
      rw [ek]
      simp only [d_q04p,go_sem,s_in,h1',q1]
end Go.Am
end
section
/- Finding values in lists: printed by program. -/
open Go
set_option linter.unusedSimpArgs false
namespace Go.Am
attribute [-go_sem] PV.cells
variable {h : Heap} {K : Post}
theorem IndexFunc_int {v : AV} {g : Nat} {caps : List AV} {p : PV → Bool} {xs : List PV} (hv : Shows none v xs h) (hp : Tells g caps p xs h) (hl : xs.length ≤ 1000000000) :
    ACall X f_q06a [v,.fn g caps] h K = K (AI (idxP p xs)) h []:=by
  refine rule ?_
  rw [c_q06a]
  have vl:=hv.len
  simp only [d_q06a,go_sem,vl]
  refine N_loop (fun k : Nat=>⟨[(0,v),(1,.fn g caps),(7,AI xs.length),(8,AI k)],h,[]⟩) (fun k=>k ≤ xs.length ∧ ∀ x ∈ xs.take k,p x = false) (fun k=>xs.length - k) 0 rfl (by simp) ?_
  rintro k ⟨hk,hn⟩
  rcases Nat.lt_or_ge k xs.length with hlt | hge
  · obtain ⟨a, ha, hb⟩ := hv.get k hlt
    have w2 : IntKind.i64.wrap ((k : Int) + 1) = ((k + 1 : Nat) : Int):=i64_wrap _ (by omega) (by omega)
    have ht:=hp _ (List.getElem_mem hlt)
    cases hpk : p xs[k] with
    | true=>
      have hf : xs.findIdx p = k:=by
        rw [List.findIdx_eq hlt]
        refine ⟨hpk,fun j hj=>?_⟩
        have:=hn xs[j] (by rw [List.mem_take_iff_getElem]; exact ⟨j,by omega,rfl⟩)
        simpa using this
      simp only [go_sem,hlt,ha,hb,ht,hpk,w2]
      simp only [idxP,hf,hlt,if_true]
    | false=>
      simp only [go_sem,hlt,ha,hb,ht,hpk,w2]
      refine ⟨k + 1,rfl,⟨by omega,fun x hx=>?_⟩,by omega⟩
      rw [List.take_succ_eq_append_getElem hlt,List.mem_append,List.mem_singleton] at hx
      rcases hx with hx | hx
      · exact hn x hx
      · rw [hx]; exact hpk
  · have e1 : k = xs.length := by omega
    subst e1
    simp only [go_sem,Nat.lt_irrefl]
    rw [List.take_length] at hn
    have : ¬ xs.findIdx p < xs.length:=by
      rw [Nat.not_lt,Nat.le_iff_lt_or_eq]; right
      exact (List.findIdx_eq_length.2 (fun x hx=>by simp [hn x hx])).symm
    simp [idxP,this]
theorem IndexFunc_Limit {v : AV} {g : Nat} {caps : List AV} {p : PV → Bool} {xs : List PV} (hv : Shows (some 4) v xs h) (hp : Tells g caps p xs h) (hl : xs.length ≤ 1000000000) :
    ACall X f_q068 [v,.fn g caps] h K = K (AI (idxP p xs)) h []:=by
  refine rule ?_
  rw [c_q068]
  have vl:=hv.len
  simp only [d_q068,go_sem,vl]
  refine N_loop (fun k : Nat=>⟨[(0,v),(1,.fn g caps),(7,AI xs.length),(8,AI k)],h,[]⟩) (fun k=>k ≤ xs.length ∧ ∀ x ∈ xs.take k,p x = false) (fun k=>xs.length - k) 0 rfl (by simp) ?_
  rintro k ⟨hk,hn⟩
  rcases Nat.lt_or_ge k xs.length with hlt | hge
  · obtain ⟨a, ha, hb⟩ := hv.get k hlt
    have w2 : IntKind.i64.wrap ((k : Int) + 1) = ((k + 1 : Nat) : Int):=i64_wrap _ (by omega) (by omega)
    have ht:=hp _ (List.getElem_mem hlt)
    cases hpk : p xs[k] with
    | true=>
      have hf : xs.findIdx p = k:=by
        rw [List.findIdx_eq hlt]
        refine ⟨hpk,fun j hj=>?_⟩
        have:=hn xs[j] (by rw [List.mem_take_iff_getElem]; exact ⟨j,by omega,rfl⟩)
        simpa using this
      simp only [go_sem,hlt,ha,hb,ht,hpk,w2]
      simp only [idxP,hf,hlt,if_true]
    | false=>
      simp only [go_sem,hlt,ha,hb,ht,hpk,w2]
      refine ⟨k + 1,rfl,⟨by omega,fun x hx=>?_⟩,by omega⟩
      rw [List.take_succ_eq_append_getElem hlt,List.mem_append,List.mem_singleton] at hx
      rcases hx with hx | hx
      · exact hn x hx
      · rw [hx]; exact hpk
  · have e1 : k = xs.length := by omega
    subst e1
    simp only [go_sem,Nat.lt_irrefl]
    rw [List.take_length] at hn
    have : ¬ xs.findIdx p < xs.length:=by
      rw [Nat.not_lt,Nat.le_iff_lt_or_eq]; right
      exact (List.findIdx_eq_length.2 (fun x hx=>by simp [hn x hx])).symm
    simp [idxP,this]
theorem ContainsFunc_int {g : Nat} {caps : List AV} {p : PV → Bool} {xs : List PV} (hp : Tells g caps p xs h) (hs : shps none xs) (hl : xs.length ≤ 1000000000) :
    ACall X f_q05w [.p (.sl none xs),.fn g caps] h K = K (AB (xs.any p)) h []:=by
  refine rule ?_
  rw [c_q05w]
  have vi:=fun K=>IndexFunc_int (h:=h) (K:=K) (shows_sl hs) hp hl
  simp only [d_q05w,go_sem,vi,idxP_any]
end Go.Am
end
section
/- Limits: what they are,what is wrong with them. -/
open Go
namespace Go.Am
variable {h : Heap} {K : Post}
structure Lim where
  key : List UInt8
  lo : Int
  hi : Int
  bin : Int
def Lim.pv (x : Lim) : PV:=.agg [.str x.key,eI x.lo,eI x.hi,eI x.bin]
abbrev ALim (l : List Lim) : AV:=.p (.sl (some 4) (l.map Lim.pv))
theorem lim_shps {l : List Lim} : shps (some 4) (l.map Lim.pv):=fun x hx=>by obtain ⟨n,_,rfl⟩:=List.mem_map.1 hx; rfl
def keyIs (key : List UInt8) : PV → Bool
  | .agg (.str k :: _)=>decide (k = key)
  | _=>false
def findK (l : List Lim) (key : List UInt8) : Int:=idxP (keyIs key) (l.map Lim.pv)
def inB (a n b : Int) : Bool:=decide (a ≤ n) && decide (n ≤ b)
theorem s_OutB (n a b : Int) : ACall X f_q008 [AI n,AI a,AI b] h K = K (AB (!inB a n b)) h []:=by rw [s_Out,out_eq]; rfl
theorem s_inB (n a b : Int) : ACall X f_q05a [AI n,AI a,AI b] h K = K (AB (inB a n b)) h []:=s_in n a b
def limBad (x : Lim) : Bool:=!inB (-100000) x.lo x.hi || decide (100000 < x.hi) || !inB 2 x.bin 100
def limsFaultFrom (pre : List Lim) : List Lim → Int
  | []=>0
  | x :: r=>if keyB x.key = false then 5 else if 0 ≤ findK pre x.key then 6 else if limBad x then 1 else limsFaultFrom (pre ++ [x]) r
def limsFault (l : List Lim) : Int:=if l.length = 0 then 8 else if (100 : Int) < l.length then 2 else limsFaultFrom [] l
end Go.Am
end
section
/- What is wrong with limits,both ways: printed by program. -/
open Go
set_option linter.unusedSimpArgs false
namespace Go.Am
variable {h : Heap} {K : Post}
theorem s_find1 (x : Lim) (key : List UInt8) (id : Nat) (hh : h[id]? = some (.box [AS key])) : ACall X f_q02t [.p x.pv,.ref id 0] h K = K (AB (decide (x.key = key))) h []:=by
  refine rule ?_
  rw [c_q02t rfl]
  have hg : ∀ l,(h ++ l)[id]? = some (.box [AS key]):=fun l=>by rw [get_app (get_lt hh),hh]
  simp only [d_q02t,Lim.pv,go_sem,hg]
theorem s_find (l : List Lim) (key : List UInt8) (hl : l.length ≤ 1000000) : ACall X f_q02s [ALim l,AS key] h K = K (AI (findK l key)) h []:=by
  refine rule ?_
  rw [c_q02s rfl]
  have hi:=fun K=>IndexFunc_Limit (h:=h ++ [.box [AS key]]) (K:=K) (g:=f_q02t) (caps:=[.ref h.length 0]) (p:=keyIs key) (xs:=l.map Lim.pv) (shows_sl lim_shps)
    (fun y hy K=>by obtain ⟨x,_,rfl⟩:=List.mem_map.1 hy; exact s_find1 x key _ (by simp)) (by simpa using (by omega : l.length ≤ 1000000000))
  simp only [d_q02s,go_sem,hi]
  rfl
set_option maxHeartbeats 1000000 in
theorem s_CheckLimits (l : List Lim) (hk : ∀ x ∈ l,x.key.length ≤ 1000) (hl : l.length ≤ 1000000) : ACall X f_q023 [ALim l] h K = K (AI (limsFault l)) h []:=by
  refine rule ?_
  rw [c_q023 rfl]
  unfold limsFault
  by_cases h0 : l.length = 0
  · have h0' : (l.length : Int) = 0 := by omega
    simp only [d_q023,go_sem,h0',h0]
  have h0' : ¬ (l.length : Int) = 0:=by omega
  by_cases h1 : (100 : Int) < l.length
  · simp only [d_q023,go_sem,h0',h0,h1]
  simp only [d_q023,go_sem,h0',h0,h1]
  refine N_loop (fun k : Nat=>⟨[(0,ALim l),(13,ALim l),(14,AI l.length),(15,AI k)],h,[]⟩) (fun k=>k ≤ l.length ∧ limsFaultFrom (l.take k) (l.drop k) = limsFaultFrom [] l) (fun k=>l.length - k) 0 rfl ⟨by omega,rfl⟩ ?_
  rintro k ⟨hkl,hp⟩
  rcases Nat.lt_or_ge k l.length with hlt | hge
  · have hg := map_get Lim.pv hlt
    have w2 : IntKind.i64.wrap ((k : Int) + 1) = ((k + 1 : Nat) : Int):=i64_wrap _ (by omega) (by omega)
    have hkx:=hk _ (List.getElem_mem hlt)
    rw [List.drop_eq_getElem_cons hlt,limsFaultFrom,← List.take_succ_eq_append_getElem hlt] at hp
    have ewin : win (l.map Lim.pv) 0 k = (l.take k).map Lim.pv:=by simp [win,List.map_take]
    have fnd:=fun h K=>s_find (h:=h) (K:=K) (l.take k) l[k].key (by simp; omega)
    generalize l[k] = x at *
    have ky:=fun h K=>s_Key (h:=h) (K:=K) x.key (by omega)
    generalize hw : findK (l.take k) x.key = w at *
    cases h2 : keyB x.key with
    | false=>
      rw [h2] at hp
      simp only [if_true] at hp
      simp only [go_sem,Lim.pv,hlt,hg,ky,h2]
      rw [← hp]
    | true=>
      rw [h2] at hp
      simp only [reduceCtorEq,if_false] at hp
      by_cases h3 : 0 ≤ w
      · rw [if_pos h3] at hp
        simp only [go_sem,Lim.pv,hlt,hg,ky,h2,hkl,ewin,fnd,h3]
        rw [← hp]
      · rw [if_neg h3] at hp
        unfold limBad at hp
        cases h4 : inB (-100000) x.lo x.hi with
        | false=>
          simp only [h4,Bool.not_false,Bool.true_or,if_true] at hp
          simp only [go_sem,Lim.pv,hlt,hg,ky,h2,hkl,ewin,fnd,h3,s_OutB,h4]
          rw [← hp]
        | true=>
          by_cases h5 : 100000 < x.hi
          · simp only [h4, h5, Bool.not_true, Bool.false_or, decide_true, Bool.true_or, if_true] at hp
            simp only [go_sem,Lim.pv,hlt,hg,ky,h2,hkl,ewin,fnd,h3,s_OutB,h4,h5]
            rw [← hp]
          · cases h6 : inB 2 x.bin 100 with
            | false=>
              simp only [h4,h5,h6,Bool.not_true,Bool.false_or,decide_false,Bool.not_false,if_true] at hp
              simp only [go_sem,Lim.pv,hlt,hg,ky,h2,hkl,ewin,fnd,h3,s_OutB,h4,h5,h6]
              rw [← hp]
            | true=>
              simp only [h4,h5,h6,Bool.not_true,Bool.false_or,decide_false,Bool.or_self,reduceCtorEq,if_false] at hp
              simp only [go_sem,Lim.pv,hlt,hg,ky,h2,hkl,ewin,fnd,h3,s_OutB,h4,h5,h6,w2]
              exact ⟨k + 1,rfl,⟨by omega,hp⟩,by omega⟩
  · have ek : k = l.length := by omega
    subst ek
    rw [List.drop_length] at hp
    simp only [go_sem,Nat.lt_irrefl]
    rw [← hp]; rfl
theorem s_TestAt1 (x : Lim) (key : List UInt8) (id : Nat) (hh : h[id]? = some (.box [AS key])) : ACall X f_q050 [.p x.pv,.ref id 0] h K = K (AB (decide (x.key = key))) h []:=by
  refine rule ?_
  rw [c_q050 rfl]
  have hg : ∀ l,(h ++ l)[id]? = some (.box [AS key]):=fun l=>by rw [get_app (get_lt hh),hh]
  simp only [d_q050,Lim.pv,go_sem,hg]
theorem s_TestAt (l : List Lim) (key : List UInt8) (hl : l.length ≤ 1000000) : ACall X f_q04z [ALim l,AS key] h K = K (AI (findK l key)) h []:=by
  refine rule ?_
  rw [c_q04z rfl]
  have hi:=fun K=>IndexFunc_Limit (h:=h ++ [.box [AS key]]) (K:=K) (g:=f_q050) (caps:=[.ref h.length 0]) (p:=keyIs key) (xs:=l.map Lim.pv) (shows_sl lim_shps)
    (fun y hy K=>by obtain ⟨x,_,rfl⟩:=List.mem_map.1 hy; exact s_TestAt1 x key _ (by simp)) (by simpa using (by omega : l.length ≤ 1000000000))
  simp only [d_q04z,go_sem,hi]
  rfl
set_option maxHeartbeats 1000000 in
theorem s_LimitsFault (l : List Lim) (hk : ∀ x ∈ l,x.key.length ≤ 1000) (hl : l.length ≤ 1000000) : ACall X f_q04q [ALim l] h K = K (AI (limsFault l)) h []:=by
  refine rule ?_
  rw [c_q04q rfl]
  unfold limsFault
  by_cases h0 : l.length = 0
  · have h0' : (l.length : Int) = 0 := by omega
    simp only [d_q04q,go_sem,h0',h0]
  have h0' : ¬ (l.length : Int) = 0:=by omega
  by_cases h1 : (100 : Int) < l.length
  · simp only [d_q04q,go_sem,h0',h0,h1]
  simp only [d_q04q,go_sem,h0',h0,h1]
  refine N_loop (fun k : Nat=>⟨[(0,ALim l),(13,ALim l),(14,AI l.length),(15,AI k)],h,[]⟩) (fun k=>k ≤ l.length ∧ limsFaultFrom (l.take k) (l.drop k) = limsFaultFrom [] l) (fun k=>l.length - k) 0 rfl ⟨by omega,rfl⟩ ?_
  rintro k ⟨hkl,hp⟩
  rcases Nat.lt_or_ge k l.length with hlt | hge
  · have hg := map_get Lim.pv hlt
    have w2 : IntKind.i64.wrap ((k : Int) + 1) = ((k + 1 : Nat) : Int):=i64_wrap _ (by omega) (by omega)
    have hkx:=hk _ (List.getElem_mem hlt)
    rw [List.drop_eq_getElem_cons hlt,limsFaultFrom,← List.take_succ_eq_append_getElem hlt] at hp
    have ewin : win (l.map Lim.pv) 0 k = (l.take k).map Lim.pv:=by simp [win,List.map_take]
    have fnd:=fun h K=>s_TestAt (h:=h) (K:=K) (l.take k) l[k].key (by simp; omega)
    generalize l[k] = x at *
    have ky:=fun h K=>s_refKey (h:=h) (K:=K) x.key (by omega)
    generalize hw : findK (l.take k) x.key = w at *
    cases h2 : keyB x.key with
    | false=>
      rw [h2] at hp
      simp only [if_true] at hp
      simp only [go_sem,Lim.pv,hlt,hg,ky,h2]
      rw [← hp]
    | true=>
      rw [h2] at hp
      simp only [reduceCtorEq,if_false] at hp
      by_cases h3 : 0 ≤ w
      · rw [if_pos h3] at hp
        simp only [go_sem,Lim.pv,hlt,hg,ky,h2,hkl,ewin,fnd,h3]
        rw [← hp]
      · rw [if_neg h3] at hp
        unfold limBad at hp
        cases h4 : inB (-100000) x.lo x.hi with
        | false=>
          simp only [h4,Bool.not_false,Bool.true_or,if_true] at hp
          simp only [go_sem,Lim.pv,hlt,hg,ky,h2,hkl,ewin,fnd,h3,s_inB,h4]
          rw [← hp]
        | true=>
          by_cases h5 : 100000 < x.hi
          · simp only [h4, h5, Bool.not_true, Bool.false_or, decide_true, Bool.true_or, if_true] at hp
            simp only [go_sem,Lim.pv,hlt,hg,ky,h2,hkl,ewin,fnd,h3,s_inB,h4,h5]
            rw [← hp]
          · cases h6 : inB 2 x.bin 100 with
            | false=>
              simp only [h4,h5,h6,Bool.not_true,Bool.false_or,decide_false,Bool.not_false,if_true] at hp
              simp only [go_sem,Lim.pv,hlt,hg,ky,h2,hkl,ewin,fnd,h3,s_inB,h4,h5,h6]
              rw [← hp]
            | true=>
              simp only [h4,h5,h6,Bool.not_true,Bool.false_or,decide_false,Bool.or_self,reduceCtorEq,if_false] at hp
              simp only [go_sem,Lim.pv,hlt,hg,ky,h2,hkl,ewin,fnd,h3,s_inB,h4,h5,h6,w2]
              exact ⟨k + 1,rfl,⟨by omega,hp⟩,by omega⟩
  · have ek : k = l.length := by omega
    subst ek
    rw [List.drop_length] at hp
    simp only [go_sem,Nat.lt_irrefl]
    rw [← hp]; rfl
end Go.Am
end
section
/- Package lot on measured values,and what the reference says of them. -/
open Go
namespace Go.Am
variable {h : Heap} {K : Post}
def isM (n : Int) : Bool:=decide (-100000 ≤ n) && decide (n ≤ 100000)
theorem all_eI' {l : List Int} : shps none (l.map eI):=fun x hx=>by obtain ⟨n,_,rfl⟩:=List.mem_map.1 hx; rfl
theorem s_isMeasure (n : Int) : ACall X f_q02w [AI n] h K = K (AB (isM n)) h []:=by
  refine rule ?_
  rw [c_q02w rfl]
  simp only [d_q02w,go_sem,s_Out,out_eq,Bool.not_not]
  rfl
def noM : PV → Bool:=fun x=>match x with | .int _ n=>!isM n | _=>false
theorem any_noM (l : List Int) : (l.map eI).any noM = !l.all isM:=by
  induction l with
  | nil=>rfl
  | cons x r ih=>simp only [List.map_cons,List.any_cons,List.all_cons,ih,Bool.not_and]; rfl
structure Meas (l : List Int) : Prop where
  len : l.length ≤ 5000
  bd : ∀ n ∈ l,-100000 ≤ n ∧ n ≤ 100000
theorem Meas.sum {l : List Int} (hm : Meas l) (k : Nat) : -500000000 ≤ (l.take k).sum ∧ (l.take k).sum ≤ 500000000:=by
  have:=sum_bd_take hm.bd hm.len (by omega) k
  omega
end Go.Am
end
section
/- Records: what they are,what is wrong with them. -/
open Go
set_option linter.unusedSimpArgs false
namespace Go.Am
variable {h : Heap} {K : Post}
theorem retK_keep {b : Nat} {P : Post} {vs : List AV} {h : Heap} : retK true b P (some vs) h [] = P (oneOf vs) (h.take (max b (oneOf vs).top)) []:=by
  simp [retK,close,closed]
attribute [go_sem] retK_keep
structure Rec where
  unit : List UInt8
  time : Int
  site : List UInt8
  res : List Int
def Rec.pv (r : Rec) : PV:=.agg [.str r.unit,eI r.time,.str r.site,.sl none (r.res.map eI)]
abbrev ARec (l : List Rec) : AV:=.p (.sl (some 4) (l.map Rec.pv))
theorem rec_shps {l : List Rec} : shps (some 4) (l.map Rec.pv):=fun x hx=>by obtain ⟨n,_,rfl⟩:=List.mem_map.1 hx; rfl
structure RecOk (r : Rec) : Prop where
  u : r.unit.length ≤ 1000
  s : r.site.length ≤ 1000
  n : r.res.length ≤ 1000
structure LimOk (l : List Lim) : Prop where
  n : l.length ≤ 1000
  k : ∀ x ∈ l,x.key.length ≤ 1000
def good (x : Lim) (n : Int) : Bool:=inB x.lo n x.hi
def goods (l : List Lim) (res : List Int) : List Bool:=List.zipWith good l res
def failIdx (l : List Lim) (res : List Int) : Int:=if (goods l res).findIdx (fun b=>!b) < (goods l res).length then ((goods l res).findIdx (fun b=>!b) : Int) else -1
def formB (l : List Lim) (res : List Int) : Bool:=inB 1 res.length l.length && !(decide (0 ≤ failIdx l res) && decide (failIdx l res ≠ (res.length : Int) - 1)) && !(decide (failIdx l res < 0) && decide ((res.length : Int) ≠ l.length))
def momentB (n : Int) : Bool:=inB 0 n 345686399999
def recFault (l : List Lim) (r : Rec) : Int:=if (keyB r.unit && keyB r.site) = false then 5 else if momentB r.time = false then 1 else if r.res.all isM = false then 1 else if formB l r.res = false then 3 else 0
def recCmp (a b : Rec) : Int:=if cmp3 a.time b.time ≠ 0 then cmp3 a.time b.time else cmpL a.unit b.unit
def recsFaultFrom (l : List Lim) : Option Rec → List Rec → Int
  | _,[]=>0
  | p,x :: r=>if recFault l x ≠ 0 then recFault l x else if (match p with | some q=>decide (recCmp x q ≤ 0) | none=>false) = true then 7 else recsFaultFrom l (some x) r
def recsFault0 (l : List Lim) (r : List Rec) : Int:=if (5000 : Int) < r.length then 2 else recsFaultFrom l none r
def recsFault (l : List Lim) (r : List Rec) : Int:=if limsFault l ≠ 0 then limsFault l else recsFault0 l r
theorem cmp3_neg (x y : Int) : cmp3 y x = - cmp3 x y:=by
  unfold cmp3; split <;> split <;> (try split) <;> (try split) <;> omega
theorem recCmp_neg (a b : Rec) : recCmp b a = - recCmp a b:=by
  unfold recCmp
  rw [cmp3_neg a.time b.time,cmpL_neg a.unit b.unit]
  by_cases hc : cmp3 a.time b.time = 0
  · simp [hc]
  · rw [if_pos (by omega),if_pos hc]
theorem s_good (x : Lim) (n : Int) : ACall X f_q02u [.p x.pv,AI n] h K = K (AB (good x n)) h []:=by
  refine rule ?_
  rw [c_q02u rfl]
  simp only [d_q02u,Lim.pv,go_sem,s_OutB,Bool.not_not]
  rfl
theorem s_Moment (n : Int) : ACall X f_q007 [AI n] h K = K (AB (momentB n)) h []:=by
  refine rule ?_
  rw [c_q007 rfl]
  simp only [d_q007,go_sem,s_OutB,Bool.not_not]
  rfl
theorem s_refMoment (n : Int) : ACall X f_q04s [AI n] h K = K (AB (momentB n)) h []:=by
  refine rule ?_
  rw [c_q04s rfl]
  simp only [d_q04s,go_sem,s_inB]
  rfl
theorem goods_len {l : List Lim} {res : List Int} (h : res.length ≤ l.length) : (goods l res).length = res.length:=by simp [goods]; omega
theorem goods_get {l : List Lim} {res : List Int} {i : Nat} (h1 : i < l.length) (h2 : i < res.length) : (goods l res)[i]? = some (good l[i] res[i]):=by
  unfold goods; rw [List.getElem?_zipWith]; simp [h1,h2]
def okTo (l : List Lim) (res : List Int) (k : Nat) : Prop:=∀ i,i < k → (goods l res)[i]? ≠ some false
theorem failIdx_of {l : List Lim} {res : List Int} {k : Nat} (h1 : okTo l res k) (h2 : (goods l res)[k]? = some false) : failIdx l res = k:=by
  obtain ⟨hk,e⟩:=List.getElem?_eq_some_iff.1 h2
  have : (goods l res).findIdx (fun b=>!b) = k:=by
    rw [List.findIdx_eq hk]
    refine ⟨by simp [e],fun j hj=>?_⟩
    have:=h1 j hj
    rw [List.getElem?_eq_getElem (by omega)] at this
    cases hq : (goods l res)[j] with
    | true=>rfl
    | false=>rw [hq] at this; exact absurd rfl this
  unfold failIdx
  rw [this,if_pos hk]
theorem failIdx_none {l : List Lim} {res : List Int} (h1 : okTo l res (goods l res).length) : failIdx l res = -1:=by
  unfold failIdx
  rw [if_neg]
  intro h
  have:=List.findIdx_getElem (w:=h)
  have h2:=h1 _ h
  rw [List.getElem?_eq_getElem h] at h2
  simp at this
  rw [this] at h2
  exact h2 rfl
theorem s_fails (l : List Lim) (r : Rec) (h1 : 1 ≤ r.res.length) (h2 : r.res.length ≤ l.length) (hn : l.length ≤ 1000) :
    ACall X f_q02p [ALim l,.p r.pv] h K = K (AI (if good l[r.res.length - 1] r.res[r.res.length - 1] then -1 else (r.res.length : Int) - 1)) h []:=by
  refine rule ?_
  rw [c_q02p rfl]
  have w : IntKind.i64.wrap ((r.res.length : Int) - 1) = ((r.res.length - 1 : Nat) : Int):=by rw [i64_wrap _ (by omega) (by omega)]; omega
  have g1:=map_get Lim.pv (show r.res.length - 1 < l.length by omega)
  have g2:=map_get eI (show r.res.length - 1 < r.res.length by omega)
  have e : (r.res.length : Int) - 1 = ((r.res.length - 1 : Nat) : Int):=by omega
  have cx : cutP (some 4) 0 (l[r.res.length - 1].pv) = some l[r.res.length - 1].pv:=rfl
  rw [e]
  cases hg : good l[r.res.length - 1] r.res[r.res.length - 1] with
  | true=>simp only [d_q02p,Rec.pv,go_sem,w,g1,g2,cx,s_good,hg]
  | false=>simp only [d_q02p,Rec.pv,go_sem,w,g1,g2,cx,s_good,hg]
theorem s_complete (l : List Lim) (r : Rec) (hl : l.length ≤ 1000) (hr : r.res.length ≤ 1000) : ACall X f_q02m [ALim l,.p r.pv] h K = K (AB (formB l r.res)) h []:=by
  refine rule ?_
  rw [c_q02m rfl]
  by_cases h1 : r.res.length = 0
  · have h1' : (r.res.length : Int) = 0 := by omega
    have : formB l r.res = false:=by simp [formB,inB,h1]
    simp only [d_q02m,Rec.pv,go_sem,h1',this]
  have h1' : ¬ (r.res.length : Int) = 0:=by omega
  by_cases h2 : (l.length : Int) < r.res.length
  · have : formB l r.res = false := by simp [formB, inB]; intro; omega
    simp only [d_q02m,Rec.pv,go_sem,h1',h2,this]
  have hle : r.res.length ≤ l.length:=by omega
  have w : IntKind.i64.wrap ((r.res.length : Int) - 1) = ((r.res.length - 1 : Nat) : Int):=by rw [i64_wrap _ (by omega) (by omega)]; omega
  have hn1 : r.res.length - 1 ≤ r.res.length:=by omega
  have ewin : win (r.res.map eI) 0 (r.res.length - 1) = (r.res.take (r.res.length - 1)).map eI:=by simp [win,List.map_take]
  have hfm : inB 1 r.res.length l.length = true:=by simp [inB]; omega
  simp only [d_q02m,Rec.pv,go_sem,h1',h2,w,hn1,ewin]
  have etl : min (r.res.length - 1) r.res.length = r.res.length - 1:=by omega
  refine N_loop (fun k : Nat=>⟨[(0,ALim l),(3,.ref h.length 0),(5,AI r.res.length),(23,AL (r.res.take (r.res.length - 1))),(24,AI ((r.res.length - 1 : Nat) : Int)),(25,AI k)],h ++ [.box [AS r.unit,AI r.time,AS r.site,AL r.res]],[]⟩) (fun k=>k ≤ r.res.length - 1 ∧ okTo l r.res k) (fun k=>r.res.length - k) 0 ?_ ⟨by omega,fun i hi=>by omega⟩ ?_
  · simp [etl]
  rintro k ⟨hk,hok⟩
  rcases Nat.lt_or_ge k (r.res.length - 1) with hlt | hge
  · have g1 := map_get Lim.pv (show k < l.length by omega)
    have g2 : ((r.res.take (r.res.length - 1)).map eI)[k]? = some (eI r.res[k]):=by simp [List.getElem?_take,hlt,show k < r.res.length by omega]
    have cx : cutP (some 4) 0 (l[k].pv) = some l[k].pv:=rfl
    have gg:=goods_get (l:=l) (res:=r.res) (show k < l.length by omega) (show k < r.res.length by omega)
    have w2 : IntKind.i64.wrap ((k : Int) + 1) = ((k + 1 : Nat) : Int):=i64_wrap _ (by omega) (by omega)
    have hlt' : k < r.res.length - 1:=hlt
    cases hg : good l[k] r.res[k] with
    | false=>
      rw [hg] at gg
      have hf:=failIdx_of hok gg
      have : formB l r.res = false:=by
        unfold formB
        rw [hf]
        have q1 : decide ((0 : Int) ≤ (k : Int)) = true:=by simp
        have q2 : decide ((k : Int) ≠ (r.res.length : Int) - 1) = true:=by simp; omega
        rw [q1,q2]; simp
      simp only [go_sem,hlt',g1,g2,cx,s_good,hg,this]
    | true=>
      simp only [go_sem,hlt',g1,g2,cx,s_good,hg,w2]
      refine ⟨k + 1,rfl,⟨by omega,fun i hi=>?_⟩,by omega⟩
      rcases Nat.lt_or_ge i k with h3 | h3
      · exact hok i h3
      · have : i = k := by omega
        subst this; rw [gg,hg]; simp
  · have ek : k = r.res.length - 1 := by omega
    subst ek
    have hb : ¬ (r.res.length - 1 < r.res.length - 1):=by omega
    have gg:=goods_get (l:=l) (res:=r.res) (show r.res.length - 1 < l.length by omega) (show r.res.length - 1 < r.res.length by omega)
    have cx : cutP (some 4) 0 (PV.agg [.str r.unit,eI r.time,.str r.site,.sl none (r.res.map eI)]) = some r.pv:=rfl
    have fl:=fun h K=>s_fails (h:=h) (K:=K) l r (by omega) hle hl
    have hF : formB l r.res = (decide ((r.res.length : Int) = l.length) || !good l[r.res.length - 1] r.res[r.res.length - 1]):=by
      unfold formB
      rw [hfm]
      cases hg : good l[r.res.length - 1] r.res[r.res.length - 1] with
      | false=>
        rw [hg] at gg
        rw [failIdx_of hok gg]
        have q1 : decide (((r.res.length - 1 : Nat) : Int) ≠ (r.res.length : Int) - 1) = false:=by simp; omega
        have q2 : decide (((r.res.length - 1 : Nat) : Int) < 0) = false:=by simp
        rw [q1,q2]; simp
      | true=>
        have hokn : okTo l r.res (goods l r.res).length:=by
          rw [goods_len hle]
          intro i hi
          rcases Nat.lt_or_ge i (r.res.length - 1) with h3 | h3
          · exact hok i h3
          · have : i = r.res.length - 1 := by omega
            subst this; rw [gg,hg]; simp
        rw [failIdx_none hokn]
        simp
    rw [hF]
    by_cases he : (r.res.length : Int) = l.length
    · simp only [go_sem,hb,he]
    · cases hg : good l[r.res.length - 1] r.res[r.res.length - 1] with
      | true=>
        have fl':=fun h K=>fl h K
        simp only [hg,if_true,Rec.pv] at fl'
        simp only [go_sem,hb,he,fl',Rec.pv]
      | false=>
        have fl':=fun h K=>fl h K
        have hz : (0 : Int) ≤ (r.res.length : Int) - 1:=by omega
        simp only [hg,Rec.pv,reduceCtorEq,if_false] at fl'
        simp only [go_sem,hb,he,fl',Rec.pv,hz]
end Go.Am
end
section
/- What is drawn: numbers,measured values. -/
open Go
namespace Go.Am
variable {L : List Int} {a : Int}
theorem g_Odd (hp : posN 14 a) (u v : Int) (huv : u ≤ v) (hu : -1000000000000 ≤ u) (hv : v ≤ 1000000000000) : ∃ k a2 : Int,a ≤ a2 ∧ a2 ≤ a + 2 ∧ -1099511627776 ≤ k ∧ k ≤ 1099511627776 ∧
    Gen f_q048 [AI u,AI v] L a a2 (AI k):=by
  have w1 : IntKind.i64.wrap (u - 1) = u - 1:=i64_wrap _ (by omega) (by omega)
  have w2 : IntKind.i64.wrap (v + 1) = v + 1:=i64_wrap _ (by omega) (by omega)
  by_cases hf : nextV L a 12 = 0
  · have hm := pickV_mem (L := L) (a := a + 1) (l := [u - 1, v + 1, u, v, -1099511627776, 1099511627776]) (by simp) (by simp)
    simp only [List.mem_cons,List.not_mem_nil,or_false] at hm
    refine ⟨pickV [u - 1,v + 1,u,v,-1099511627776,1099511627776] L (a + 1),a + 1 + 1,by omega,by omega,by omega,by omega,Gen.of fun h id hid=>?_⟩
    rw [c_q048 rfl]
    simp only [d_q048,go_sem,hid,posAll hp,hf,w1,w2]
  · have hm := rangeV_bd L (a + 1) huv (by omega)
    refine ⟨rangeV u v L (a + 1),a + 1 + 1,by omega,by omega,by omega,by omega,Gen.of fun h id hid=>?_⟩
    rw [c_q048 rfl]
    simp only [d_q048,go_sem,hid,posAll hp,hf,w1,w2,huv,show -1152921504606846976 ≤ u by omega,show v ≤ 1152921504606846976 by omega]
end Go.Am
end
section
/- What is drawn: strings,limits. -/
open Go
set_option linter.unusedSimpArgs false
namespace Go.Am
variable {L : List Int} {a : Int} {h l : Heap} {id : Nat} {K : Post}
def isS : PV → Bool
  | .str _=>true
  | _=>false
def unS : PV → List UInt8
  | .str s=>s
  | _=>[]
def pickS (l : List (List UInt8)) (L : List Int) (a : Int) : List UInt8:=l.getD (nextV L a l.length).toNat []
theorem pickS_mem {l : List (List UInt8)} {L : List Int} {a : Int} (hl : 0 < l.length) (hl2 : l.length < 4611686018427387904) : pickS l L a ∈ l:=by
  obtain ⟨b1,b2⟩:=nextV_bd L a l.length (by omega) (by omega)
  unfold pickS
  have : (nextV L a l.length).toNat < l.length:=by omega
  simp only [List.getD,List.getElem?_eq_getElem this,Option.getD_some]
  exact List.getElem_mem _
theorem unS_map {xs : List PV} (h : xs.all isS = true) : xs = (xs.map unS).map PV.str:=by
  induction xs with
  | nil=>rfl
  | cons x r ih=>
    simp only [List.all_cons,Bool.and_eq_true] at h
    simp only [List.map_cons]
    rw [← ih h.2]
    cases x <;> first | rfl | cases h.1
theorem g_Some (hp : posN 0 a) (xs : List PV) (hx : xs.all isS = true) (hl : 0 < xs.length) (hl2 : xs.length < 4611686018427387904) :
    Gen f_q04g [.p (.sl none xs)] L a (a + 1) (AS (pickS (xs.map unS) L a)):=by
  refine Gen.of fun h id hid=>?_
  rw [c_q04g rfl]
  obtain ⟨b1,b2⟩:=nextV_bd L a xs.length (by omega) (by omega)
  have e4:=natOf_int (k:=.i64) b1
  have e5 : xs[(nextV L a xs.length).toNat]? = some (.str (pickS (xs.map unS) L a)):=by
      have hm:=unS_map hx
      generalize hq : xs.map unS = q at *
      subst hm
      simp only [List.length_map] at *
      rw [map_get PV.str (show (nextV L a q.length).toNat < q.length by omega)]
      simp [pickS,List.getD,show (nextV L a q.length).toNat < q.length by omega]
  simp only [d_q04g,go_sem,s_Next_set hid hp,e4,e5]
theorem s_Some_set (hid : id < h.length) (hp : posN 0 a) {xs : List PV} (hx : xs.all isS = true) (hl : 0 < xs.length) (hl2 : xs.length < 4611686018427387904) :
    ACall X f_q04g [.ref id 0,.p (.sl none xs)] (h.set id (strm L a)) K = K (AS (pickS (xs.map unS) L a)) (h.set id (strm L (a + 1))) []:=(g_Some hp xs hx hl hl2).set hid
theorem s_Some_app (hid : id < h.length) (hp : posN 0 a) {xs : List PV} (hx : xs.all isS = true) (hl : 0 < xs.length) (hl2 : xs.length < 4611686018427387904) :
    ACall X f_q04g [.ref id 0,.p (.sl none xs)] (h.set id (strm L a) ++ l) K = K (AS (pickS (xs.map unS) L a)) (h.set id (strm L (a + 1)) ++ l) []:=(g_Some hp xs hx hl hl2).app hid
theorem s_Some_hd (hp : posN 0 a) {xs : List PV} (hx : xs.all isS = true) (hl : 0 < xs.length) (hl2 : xs.length < 4611686018427387904) :
    ACall X f_q04g [.ref 0 0,.p (.sl none xs)] (strm L a :: l) K = K (AS (pickS (xs.map unS) L a)) (strm L (a + 1) :: l) []:=(g_Some hp xs hx hl hl2).hd
attribute [go_sem ↓] s_Some_set s_Some_app s_Some_hd
attribute [go_sem] s_Some_set s_Some_app s_Some_hd isS unS
structure LimBd (x : Lim) : Prop where
  k : x.key.length ≤ 1000
  lo : -200000 ≤ x.lo ∧ x.lo ≤ 200000
  hi : -200000 ≤ x.hi ∧ x.hi ≤ 200000
theorem g_LimitList (hp : posN 60 a) : GenE f_q046 [] L a (fun v a2=>a ≤ a2 ∧ a2 ≤ a + 12 ∧ ∃ l : List Lim,1 ≤ l.length ∧ l.length ≤ 3 ∧ (∀ x ∈ l,LimBd x) ∧ v = ALim l):=by
  refine GenE.of fun h id hid=>?_
  rw [c_q046 rfl]
  have P:=posAll (posN_le hp (Int.le_refl a) (by omega))
  obtain ⟨n1,n2⟩:=rangeV_bd (u:=1) (v:=3) L (a + 1) (by omega) (by omega)
  obtain ⟨n,hn⟩:=Int.eq_ofNat_of_zero_le (show 0 ≤ rangeV 1 3 L (a + 1) by omega)
  have hn3 : n ≤ 3:=by omega
  have l1 : LimBd ⟨[118,111,108,116],0,10,5⟩:=⟨by simp,by simp,by simp⟩
  have l2 : LimBd ⟨[97,109,112],-5,5,pickV [5,6,2] L a⟩:=⟨by simp,by simp,by simp⟩
  have l3 : LimBd ⟨[104,122],3,8,9⟩:=⟨by simp,by simp,by simp⟩
  have hb : h.length ≤ h.length:=Nat.le_refl _
  by_cases hf : nextV L (a + 1 + 1) 15 = 0
  · obtain ⟨m1, m2⟩ := nextV_bd L (a + 1 + 1 + 1) n (by omega) (by omega)
    obtain ⟨m,hm⟩:=Int.eq_ofNat_of_zero_le m1
    have hmn : m < n:=by omega
    have hm3 : m < 3:=by omega
    obtain ⟨kv,a3,c1,c2,_,_,O⟩:=g_Odd (L:=L) (a:=a + 1 + 1 + 1 + 1 + 1 + 1 + 1) (posN_le hp (by omega) (by omega)) 2 100 (by omega) (by omega) (by omega)
    have O':=fun l K=>O.app (h:=h) (id:=id) (l:=l) (K:=K) hid
    have p1:=pickS_mem (l:=[[118,111,108,116],[],[122]]) (L:=L) (a:=a + 1 + 1 + 1 + 1) (by simp) (by simp)
    have p2:=pickV_mem (l:=[0,-100000,-100001,20]) (L:=L) (a:=a + 1 + 1 + 1 + 1 + 1) (by simp) (by simp)
    have p3:=pickV_mem (l:=[10,100000,100001]) (L:=L) (a:=a + 1 + 1 + 1 + 1 + 1 + 1) (by simp) (by simp)
    simp only [List.mem_cons,List.not_mem_nil,or_false] at p1 p2 p3
    have l4 : LimBd ⟨pickS [[118,111,108,116],[],[122]] L (a + 1 + 1 + 1 + 1),pickV [0,-100000,-100001,20] L (a + 1 + 1 + 1 + 1 + 1),pickV [10,100000,100001] L (a + 1 + 1 + 1 + 1 + 1 + 1),kv⟩:=
      ⟨by rcases p1 with p1 | p1 | p1 <;> simp [p1],by dsimp only; omega,by dsimp only; omega⟩
    have hw : ∃ y,[PV.agg [.str [118,111,108,116],eI 0,eI 10,eI 5],.agg [.str [97,109,112],eI (-5),eI 5,eI (pickV [5,6,2] L a)],.agg [.str [104,122],eI 3,eI 8,eI 9]][m]? = some (.agg y) ∧ y.length = 4:=by
      rcases m with _ | _ | _ | m
      · exact ⟨_,rfl,rfl⟩
      · exact ⟨_,rfl,rfl⟩
      · exact ⟨_,rfl,rfl⟩
      · omega
    obtain ⟨y,hy,hyl⟩:=hw
    simp only [d_q046,go_sem,hid,P,hn,hn3,hf,hm,hmn,hm3,↓O',O',hy,hyl]
    have ed : List.drop 4 y = []:=List.drop_of_length_le (by omega)
    refine ⟨a3,⟨by omega,by omega,win ([⟨[118,111,108,116],0,10,5⟩,⟨[97,109,112],-5,5,pickV [5,6,2] L a⟩,⟨[104,122],3,8,9⟩].set m ⟨pickS [[118,111,108,116],[],[122]] L (a + 1 + 1 + 1 + 1),pickV [0,-100000,-100001,20] L (a + 1 + 1 + 1 + 1 + 1),pickV [10,100000,100001] L (a + 1 + 1 + 1 + 1 + 1 + 1),kv⟩) 0 n,by simp [win]; omega,by simp [win]; omega,fun x hx=>?_,?_⟩,rfl⟩
    · have hx2 := List.mem_of_mem_drop (List.mem_of_mem_take hx)
      rcases List.mem_or_eq_of_mem_set hx2 with hx3 | rfl
      · simp only [List.mem_cons, List.not_mem_nil, or_false] at hx3
        rcases hx3 with rfl | rfl | rfl
        · exact l1
        · exact l2
        · exact l3
      · exact l4
    · rw [ed]
      show _ = AV.p (.sl (some 4) ((win _ 0 n).map Lim.pv))
      rw [← win_map,List.map_set]; rfl
  · simp only [d_q046, go_sem, hid, P, hn, hn3, hf]
    refine ⟨a + 1 + 1 + 1,⟨by omega,by omega,win [⟨[118,111,108,116],0,10,5⟩,⟨[97,109,112],-5,5,pickV [5,6,2] L a⟩,⟨[104,122],3,8,9⟩] 0 n,by simp [win]; omega,by simp [win]; omega,fun x hx=>?_,?_⟩,rfl⟩
    · have hx3 := List.mem_of_mem_drop (List.mem_of_mem_take hx)
      simp only [List.mem_cons,List.not_mem_nil,or_false] at hx3
      rcases hx3 with rfl | rfl | rfl
      · exact l1
      · exact l2
      · exact l3
    · show _ = AV.p (.sl (some 4) ((win _ 0 n).map Lim.pv))
      rw [← win_map]; rfl
end Go.Am
end
section
/- Records: what is wrong with them,both ways. -/
open Go
set_option linter.unusedSimpArgs false
namespace Go.Am
variable {h : Heap} {K : Post}
theorem s_rf1 (n : Int) : ACall X f_q02z [AI n] h K = K (AB (!isM n)) h []:=by
  refine rule ?_
  rw [c_q02z rfl]
  simp only [d_q02z,go_sem,s_isMeasure]
theorem s_rrf1 (n : Int) : ACall X f_q05g [AI n] h K = K (AB (!isM n)) h []:=by
  refine rule ?_
  rw [c_q05g rfl]
  simp only [d_q05g,go_sem,s_in]
  rfl
theorem s_recordFault (l : List Lim) (r : Rec) (hl : LimOk l) (hr : RecOk r) : ACall X f_q02y [ALim l,.p r.pv] h K = K (AI (recFault l r)) h []:=by
  refine rule ?_
  rw [c_q02y rfl]
  have ku:=fun h K=>s_Key (h:=h) (K:=K) r.unit (by have:=hr.u; omega)
  have ks:=fun h K=>s_Key (h:=h) (K:=K) r.site (by have:=hr.s; omega)
  have cf:=fun h K=>ContainsFunc_int (h:=h) (K:=K) (g:=f_q02z) (caps:=[]) (p:=noM) (xs:=r.res.map eI) (fun x hx K=>by obtain ⟨n,_,rfl⟩:=List.mem_map.1 hx; exact s_rf1 n) all_eI' (by have:=hr.n; simp; omega)
  have cp:=fun h K=>s_complete (h:=h) (K:=K) l r hl.n hr.n
  rw [any_noM] at cf
  simp only [Rec.pv] at cp
  unfold recFault
  cases h1 : keyB r.unit with
  | false=>simp only [d_q02y,Rec.pv,go_sem,↓ku,ku,h1]
  | true=>
    cases h2 : keyB r.site with
    | false=>simp only [d_q02y,Rec.pv,go_sem,↓ku,ku,↓ks,ks,h1,h2]
    | true=>
      cases h3 : momentB r.time with
      | false=>simp only [d_q02y,Rec.pv,go_sem,↓ku,ku,↓ks,ks,h1,h2,s_Moment,h3]
      | true=>
        cases h4 : r.res.all isM with
        | false=>simp only [d_q02y,Rec.pv,go_sem,↓ku,ku,↓ks,ks,h1,h2,s_Moment,h3,↓cf,cf,h4]
        | true=>
          cases h5 : formB l r.res with
          | false=>simp only [d_q02y,Rec.pv,go_sem,↓ku,ku,↓ks,ks,h1,h2,s_Moment,h3,↓cf,cf,h4,↓cp,cp,h5]
          | true=>simp only [d_q02y,Rec.pv,go_sem,↓ku,ku,↓ks,ks,h1,h2,s_Moment,h3,↓cf,cf,h4,↓cp,cp,h5]
theorem s_refFails (l : List Lim) (res : List Int) (hl : l.length ≤ 1000) (hr : res.length ≤ 1000) : ACall X f_q059 [ALim l,AL res] h K = K (AI (failIdx l res)) h []:=by
  refine rule ?_
  rw [c_q059 rfl]
  simp only [d_q059,go_sem]
  refine N_loop (fun k : Nat=>⟨[(0,ALim l),(7,AL res),(8,AI res.length),(9,AI k)],h,[]⟩) (fun k=>k ≤ res.length ∧ okTo l res k) (fun k=>res.length - k) 0 rfl ⟨by omega,fun i hi=>by omega⟩ ?_
  rintro k ⟨hk,hok⟩
  rcases Nat.lt_or_ge k res.length with hlt | hge
  · have g2 := map_get eI hlt
    have w2 : IntKind.i64.wrap ((k : Int) + 1) = ((k + 1 : Nat) : Int):=i64_wrap _ (by omega) (by omega)
    rcases Nat.lt_or_ge k l.length with hkl | hkl
    · have g1 := map_get Lim.pv hkl
      have gg:=goods_get (l:=l) (res:=res) hkl hlt
      unfold good at gg
      cases hg : inB l[k].lo res[k] l[k].hi with
      | false=>
        rw [hg] at gg
        simp only [go_sem,hlt,hkl,g1,g2,Lim.pv,s_inB,hg]
        rw [failIdx_of hok gg]
      | true=>
        simp only [go_sem,hlt,hkl,g1,g2,Lim.pv,s_inB,hg,w2]
        refine ⟨k + 1,rfl,⟨by omega,fun i hi=>?_⟩,by omega⟩
        rcases Nat.lt_or_ge i k with h3 | h3
        · exact hok i h3
        · have : i = k := by omega
          subst this; rw [gg,hg]; simp
    · have hkl' : ¬ k < l.length := by omega
      simp only [go_sem,hlt,hkl',g2,w2]
      refine ⟨k + 1,rfl,⟨by omega,fun i hi=>?_⟩,by omega⟩
      rcases Nat.lt_or_ge i k with h3 | h3
      · exact hok i h3
      · have : (goods l res)[i]? = none := List.getElem?_eq_none (by simp [goods]; omega)
        rw [this]; simp
  · have ek : k = res.length := by omega
    subst ek
    have : okTo l res (goods l res).length:=fun i hi=>hok i (by simp [goods] at hi; omega)
    simp only [go_sem,Nat.lt_irrefl]
    rw [failIdx_none this]
set_option maxHeartbeats 1000000 in
theorem s_refRecordFault (l : List Lim) (r : Rec) (hl : LimOk l) (hr : RecOk r) : ACall X f_q05f [ALim l,.p r.pv] h K = K (AI (recFault l r)) h []:=by
  refine rule ?_
  rw [c_q05f rfl]
  have ku:=fun h K=>s_refKey (h:=h) (K:=K) r.unit (by have:=hr.u; omega)
  have ks:=fun h K=>s_refKey (h:=h) (K:=K) r.site (by have:=hr.s; omega)
  have cf:=fun h K=>ContainsFunc_int (h:=h) (K:=K) (g:=f_q05g) (caps:=[]) (p:=noM) (xs:=r.res.map eI) (fun x hx K=>by obtain ⟨n,_,rfl⟩:=List.mem_map.1 hx; exact s_rrf1 n) all_eI' (by have:=hr.n; simp; omega)
  have fl:=fun h K=>s_refFails (h:=h) (K:=K) l r.res hl.n hr.n
  rw [any_noM] at cf
  have hw : IntKind.i64.wrap ((r.res.length : Int) - 1) = (r.res.length : Int) - 1:=i64_wrap _ (by omega) (by have:=hr.n; omega)
  unfold recFault
  cases h1 : keyB r.unit with
  | false=>simp only [d_q05f,Rec.pv,go_sem,↓ku,ku,h1]
  | true=>
    cases h2 : keyB r.site with
    | false=>simp only [d_q05f,Rec.pv,go_sem,↓ku,ku,↓ks,ks,h1,h2]
    | true=>
      cases h3 : momentB r.time with
      | false=>simp only [d_q05f,Rec.pv,go_sem,↓ku,ku,↓ks,ks,h1,h2,s_refMoment,h3]
      | true=>
        cases h4 : r.res.all isM with
        | false=>simp only [d_q05f,Rec.pv,go_sem,↓ku,ku,↓ks,ks,h1,h2,s_refMoment,h3,↓cf,cf,h4]
        | true=>
          unfold formB
          generalize failIdx l r.res = w at *
          cases h5 : inB 1 r.res.length l.length with
          | false=>simp only [d_q05f,Rec.pv,go_sem,↓ku,ku,↓ks,ks,h1,h2,s_refMoment,h3,↓cf,cf,h4,↓fl,fl,s_inB,h5]
          | true=>
            by_cases h6 : 0 ≤ w
            · have h6' : ¬ w < 0 := by omega
              by_cases h7 : w = (r.res.length : Int) - 1
              · simp only [d_q05f,Rec.pv,go_sem,↓ku,ku,↓ks,ks,h1,h2,s_refMoment,h3,↓cf,cf,h4,↓fl,fl,s_inB,h5,h6,h6',hw,eq_true h7]
              · simp only [d_q05f,Rec.pv,go_sem,↓ku,ku,↓ks,ks,h1,h2,s_refMoment,h3,↓cf,cf,h4,↓fl,fl,s_inB,h5,h6,h6',hw,h7]
            · have h6' : w < 0 := by omega
              by_cases h7 : (r.res.length : Int) = l.length
              · simp only [d_q05f,Rec.pv,go_sem,↓ku,ku,↓ks,ks,h1,h2,s_refMoment,h3,↓cf,cf,h4,↓fl,fl,s_inB,h5,h6,h6',eq_true h7]
              · simp only [d_q05f,Rec.pv,go_sem,↓ku,ku,↓ks,ks,h1,h2,s_refMoment,h3,↓cf,cf,h4,↓fl,fl,s_inB,h5,h6,h6',h7]
def orL : List Int → Int
  | []=>0
  | x :: r=>if x ≠ 0 then x else orL r
theorem s_cmpOr (l : List Int) (hl : l.length ≤ 1000) : ACall X f_q00v [AL l] h K = K (AI (orL l)) h []:=by
  refine rule ?_
  rw [c_q00v rfl]
  simp only [d_q00v,go_sem]
  refine N_loop (fun k : Nat=>⟨[(3,AI 0),(6,AL l),(7,AI l.length),(8,AI k)],h,[]⟩) (fun k=>k ≤ l.length ∧ orL (l.drop k) = orL l) (fun k=>l.length - k) 0 rfl ⟨by omega,rfl⟩ ?_
  rintro k ⟨hk,hp⟩
  rcases Nat.lt_or_ge k l.length with hlt | hge
  · have g2 := map_get eI hlt
    have w2 : IntKind.i64.wrap ((k : Int) + 1) = ((k + 1 : Nat) : Int):=i64_wrap _ (by omega) (by omega)
    rw [List.drop_eq_getElem_cons hlt,orL] at hp
    by_cases hz : l[k] = 0
    · rw [if_neg (by simp [hz])] at hp
      simp only [go_sem,hlt,g2,hz,w2]
      exact ⟨k + 1,rfl,⟨by omega,hp⟩,by omega⟩
    · rw [if_pos hz] at hp
      simp only [go_sem,hlt,g2,hz]
      rw [hp]
  · have ek : k = l.length := by omega
    subst ek
    rw [List.drop_length] at hp
    simp only [go_sem,Nat.lt_irrefl]
    rw [← hp]; rfl
theorem s_byTime (a b : Rec) : ACall X f_q02j [.p a.pv,.p b.pv] h K = K (AI (recCmp a b)) h []:=by
  refine rule ?_
  rw [c_q02j rfl]
  have o:=fun h K=>s_cmpOr (h:=h) (K:=K) [cmp3 a.time b.time,cmpL a.unit b.unit] (by simp)
  simp only [AL,List.map_cons,List.map_nil] at o
  have e : orL [cmp3 a.time b.time,cmpL a.unit b.unit] = recCmp a b:=by
    unfold recCmp orL
    split
    · rfl
    · unfold orL
      split
      · rfl
      · rename_i h; simp only [ne_eq,Decidable.not_not] at h; rw [h]; rfl
  rw [e] at o
  simp only [d_q02j,Rec.pv,go_sem,s_cmpCompare,s_strCompare,o]
theorem s_recordOrder (a b : Rec) (ha : -1000000000000000000 ≤ a.time ∧ a.time ≤ 1000000000000000000) (hb : -1000000000000000000 ≤ b.time ∧ b.time ≤ 1000000000000000000) : ACall X f_q05h [.p a.pv,.p b.pv] h K = K (AI (recCmp a b)) h []:=by
  refine rule ?_
  rw [c_q05h rfl]
  have w : IntKind.i64.wrap (a.time - b.time) = a.time - b.time:=i64_wrap _ (by omega) (by omega)
  unfold recCmp
  by_cases he : a.time = b.time
  · have : cmp3 a.time b.time = 0 := by rw [he]; unfold cmp3; simp
    rw [if_neg (by simp [this])]
    simp only [d_q05h,Rec.pv,go_sem,he,s_strCompare]
  · have hc : cmp3 a.time b.time ≠ 0 := by unfold cmp3; split <;> (try split) <;> omega
    rw [if_pos hc]
    rw [cmp3_sign]
    simp only [d_q05h,Rec.pv,go_sem,he,w,s_sign]
theorem recsFaultFrom_cons {l : List Lim} {p : Option Rec} {x : Rec} {r : List Rec} : recsFaultFrom l p (x :: r) = if recFault l x ≠ 0 then recFault l x else if (match p with | some q=>decide (recCmp x q ≤ 0) | none=>false) = true then 7 else recsFaultFrom l (some x) r:=rfl
theorem recFault_time {l : List Lim} {r : Rec} (hf : recFault l r = 0) : 0 ≤ r.time ∧ r.time ≤ 345686399999:=by
  unfold recFault at hf
  split at hf
  · cases hf
  · split at hf
    · cases hf
    · rename_i h
      simp [momentB,inB] at h
      exact h
theorem s_recordsFault (l : List Lim) (r : List Rec) (hl : LimOk l) (hr : ∀ x ∈ r,RecOk x) (hn : r.length ≤ 1000000) : ACall X f_q030 [ALim l,ARec r] h K = K (AI (recsFault0 l r)) h []:=by
  refine rule ?_
  rw [c_q030 rfl]
  unfold recsFault0
  by_cases h1 : (5000 : Int) < r.length
  · simp only [d_q030,go_sem,h1]
  simp only [d_q030,go_sem,h1]
  refine N_loop (fun k : Nat=>⟨[(0,ALim l),(1,ARec r),(11,ARec r),(12,AI r.length),(13,AI k)],h,[]⟩) (fun k=>k ≤ r.length ∧ recsFaultFrom l (r.take k).getLast? (r.drop k) = recsFaultFrom l none r) (fun k=>r.length - k) 0 rfl ⟨by omega,rfl⟩ ?_
  rintro k ⟨hkl,hp⟩
  rcases Nat.lt_or_ge k r.length with hlt | hge
  · have hg := map_get Rec.pv hlt
    have w2 : IntKind.i64.wrap ((k : Int) + 1) = ((k + 1 : Nat) : Int):=i64_wrap _ (by omega) (by omega)
    have hx:=hr _ (List.getElem_mem hlt)
    have hlast : (r.take (k + 1)).getLast? = some r[k]:=by rw [List.take_succ_eq_append_getElem hlt]; exact List.getLast?_concat
    rw [List.drop_eq_getElem_cons hlt,recsFaultFrom_cons] at hp
    have cx : cutP (some 4) 0 (r[k].pv) = some r[k].pv:=rfl
    have rf:=fun h K=>s_recordFault (h:=h) (K:=K) l r[k] hl hx
    simp only [Rec.pv] at rf
    by_cases h2 : recFault l r[k] = 0
    · rw [if_neg (by simp [h2])] at hp
      cases k with
      | zero=>
        simp only [List.take_zero,List.getLast?_nil,reduceCtorEq,if_false] at hp
        have hlt0 : (0 : Int) < r.length:=by omega
        simp only [go_sem,hlt0,hg,cx,Rec.pv,rf,h2,Int.lt_irrefl,show IntKind.i64.wrap 1 = 1 from rfl]
        exact ⟨0 + 1,rfl,⟨by omega,by rw [hlast]; exact hp⟩,by omega⟩
      | succ j=>
        have hj : j < r.length:=by omega
        have hgj:=map_get Rec.pv hj
        have cj : cutP (some 4) 0 (r[j].pv) = some r[j].pv:=rfl
        have hlj : (r.take (j + 1)).getLast? = some r[j]:=by rw [List.take_succ_eq_append_getElem hj]; exact List.getLast?_concat
        have w3 : IntKind.i64.wrap (((j + 1 : Nat) : Int) - 1) = (j : Int):=by rw [i64_wrap _ (by omega) (by omega)]; omega
        have p1 : (0 : Int) < ((j + 1 : Nat) : Int):=by omega
        have bt:=fun h K=>s_byTime (h:=h) (K:=K) r[j + 1] r[j]
        simp only [Rec.pv] at bt
        rw [hlj] at hp
        by_cases h3 : recCmp r[j + 1] r[j] ≤ 0
        · simp only [h3, decide_true, if_true] at hp
          simp only [go_sem,hlt,hj,hg,hgj,cx,cj,Rec.pv,rf,h2,p1,w3,bt,h3]
          rw [← hp]
        · simp only [h3, decide_false, reduceCtorEq, if_false] at hp
          simp only [go_sem,hlt,hj,hg,hgj,cx,cj,Rec.pv,rf,h2,p1,w3,bt,h3,w2]
          exact ⟨j + 1 + 1,rfl,⟨by omega,by rw [hlast]; exact hp⟩,by omega⟩
    · rw [if_pos h2] at hp
      simp only [go_sem,hlt,hg,cx,Rec.pv,rf,h2]
      rw [← hp]
  · have ek : k = r.length := by omega
    subst ek
    rw [List.drop_length] at hp
    simp only [go_sem,Nat.lt_irrefl]
    rw [← hp]
    cases (r.take r.length).getLast? <;> rfl
theorem s_CheckRecords (l : List Lim) (r : List Rec) (hl : LimOk l) (hr : ∀ x ∈ r,RecOk x) (hn : r.length ≤ 1000000) : ACall X f_q024 [ALim l,ARec r] h K = K (AI (recsFault l r)) h []:=by
  refine rule ?_
  rw [c_q024 rfl]
  have cl:=fun h K=>s_CheckLimits (h:=h) (K:=K) l hl.k (by have:=hl.n; omega)
  have cr:=fun h K=>s_recordsFault (h:=h) (K:=K) l r hl hr hn
  unfold recsFault
  by_cases h1 : limsFault l = 0
  · simp only [d_q024,go_sem,cl,cr,h1]
  · simp only [d_q024,go_sem,cl,cr,h1]
theorem s_RecordsFault (l : List Lim) (r : List Rec) (hl : LimOk l) (hr : ∀ x ∈ r,RecOk x) (hn : r.length ≤ 1000000) : ACall X f_q04t [ALim l,ARec r] h K = K (AI (recsFault l r)) h []:=by
  refine rule ?_
  rw [c_q04t rfl]
  have cl:=fun h K=>s_LimitsFault (h:=h) (K:=K) l hl.k (by have:=hl.n; omega)
  unfold recsFault recsFault0
  by_cases h0 : limsFault l = 0
  case neg=>simp only [d_q04t,go_sem,cl,h0]
  by_cases h1 : (5000 : Int) < r.length
  · simp only [d_q04t,go_sem,cl,h0,h1]
  simp only [d_q04t,go_sem,cl,h0,h1]
  refine N_loop (fun k : Nat=>⟨[(0,ALim l),(1,ARec r),(17,ARec r),(18,AI r.length),(19,AI k)],h,[]⟩) (fun k=>k ≤ r.length ∧ recsFaultFrom l (r.take k).getLast? (r.drop k) = recsFaultFrom l none r ∧ ∀ x ∈ r.take k,recFault l x = 0) (fun k=>r.length - k) 0 rfl ⟨by omega,rfl,by simp⟩ ?_
  rintro k ⟨hkl,hp,hz⟩
  rcases Nat.lt_or_ge k r.length with hlt | hge
  · have hg := map_get Rec.pv hlt
    have w2 : IntKind.i64.wrap ((k : Int) + 1) = ((k + 1 : Nat) : Int):=i64_wrap _ (by omega) (by omega)
    have hx:=hr _ (List.getElem_mem hlt)
    have hlast : (r.take (k + 1)).getLast? = some r[k]:=by rw [List.take_succ_eq_append_getElem hlt]; exact List.getLast?_concat
    rw [List.drop_eq_getElem_cons hlt,recsFaultFrom_cons] at hp
    have cx : cutP (some 4) 0 (r[k].pv) = some r[k].pv:=rfl
    have rf:=fun h K=>s_refRecordFault (h:=h) (K:=K) l r[k] hl hx
    simp only [Rec.pv] at rf
    by_cases h2 : recFault l r[k] = 0
    · rw [if_neg (by simp [h2])] at hp
      have hz' : ∀ x ∈ r.take (k + 1),recFault l x = 0:=fun x hx=>by
        rw [List.take_succ_eq_append_getElem hlt,List.mem_append,List.mem_singleton] at hx
        rcases hx with hx | rfl
        · exact hz x hx
        · exact h2
      cases k with
      | zero=>
        simp only [List.take_zero,List.getLast?_nil,reduceCtorEq,if_false] at hp
        have hlt0 : (0 : Int) < r.length:=by omega
        simp only [go_sem,hlt0,hg,cx,Rec.pv,rf,h2,Int.lt_irrefl,show IntKind.i64.wrap 1 = 1 from rfl]
        exact ⟨0 + 1,rfl,⟨by omega,by rw [hlast]; exact hp,hz'⟩,by omega⟩
      | succ j=>
        have hj : j < r.length:=by omega
        have hgj:=map_get Rec.pv hj
        have cj : cutP (some 4) 0 (r[j].pv) = some r[j].pv:=rfl
        have hlj : (r.take (j + 1)).getLast? = some r[j]:=by rw [List.take_succ_eq_append_getElem hj]; exact List.getLast?_concat
        have w3 : IntKind.i64.wrap (((j + 1 : Nat) : Int) - 1) = (j : Int):=by rw [i64_wrap _ (by omega) (by omega)]; omega
        have p1 : (0 : Int) < ((j + 1 : Nat) : Int):=by omega
        have t1:=recFault_time h2
        have t2:=recFault_time (hz r[j] (by rw [List.mem_take_iff_getElem]; exact ⟨j,by omega,rfl⟩))
        have bt:=fun h K=>s_recordOrder (h:=h) (K:=K) r[j] r[j + 1] (by omega) (by omega)
        simp only [Rec.pv] at bt
        rw [hlj] at hp
        have hneg:=recCmp_neg r[j + 1] r[j]
        by_cases h3 : recCmp r[j + 1] r[j] ≤ 0
        · have h3' : 0 ≤ recCmp r[j] r[j + 1] := by omega
          simp only [h3,decide_true,if_true] at hp
          simp only [go_sem,hlt,hj,hg,hgj,cx,cj,Rec.pv,rf,h2,p1,w3,bt,h3']
          rw [← hp]
        · have h3' : ¬ 0 ≤ recCmp r[j] r[j + 1] := by omega
          simp only [h3,decide_false,reduceCtorEq,if_false] at hp
          simp only [go_sem,hlt,hj,hg,hgj,cx,cj,Rec.pv,rf,h2,p1,w3,bt,h3',w2]
          exact ⟨j + 1 + 1,rfl,⟨by omega,by rw [hlast]; exact hp,hz'⟩,by omega⟩
    · rw [if_pos h2] at hp
      simp only [go_sem,hlt,hg,cx,Rec.pv,rf,h2]
      rw [← hp]
  · have ek : k = r.length := by omega
    subst ek
    rw [List.drop_length] at hp
    simp only [go_sem,Nat.lt_irrefl]
    rw [← hp]
    cases (r.take r.length).getLast? <;> rfl
end Go.Am
end
section
/- Sorting records: printed by program. -/
open Go
set_option linter.unusedSimpArgs false
namespace Go.Am
attribute [-go_sem] PV.cells splice
variable {h : Heap} {K : Post}
theorem insCmp_api_Record (id n : Nat) (l tl : List PV) (hn : n = l.length + tl.length) (hs : shps (some 4) l) (hl : l.length ≤ 1000) (hh : h[id]? = some (.row (some 4) (l ++ tl) 0)) {g : Nat} {caps : List AV} {c : PV → PV → Int} (hc : Cmps g caps c l id h) :
    ACall X f_q06u [.own id n 0 l.length,AI 0,AI l.length,.fn g caps] h K = K (.tup []) (h.set id (.row (some 4) (isort (ltC c) l ++ tl) 0)) []:=by
  refine rule ?_
  rw [c_q06u]
  have hid:=get_lt hh
  have hst : ∀ o,(h.set id o)[id]? = some o:=fun o=>set_get' hid
  simp only [d_q06u,go_sem,show IntKind.i64.wrap 1 = 1 from rfl]
  refine N_loop (fun i : Nat=>⟨[(0,.own id n 0 l.length),(1,AI 0),(2,AI l.length),(3,.fn g caps),(8,AI i)],h.set id (.row (some 4) ((isortR (ltC c) (l.take i)).reverse ++ (l.drop i ++ tl)) 0),[]⟩) (fun i=>1 ≤ i ∧ (i ≤ l.length ∨ i = 1)) (fun i=>l.length - i) 1 ?_ (by simp) ?_
  · have : (isortR (ltC c) (l.take 1)).reverse ++ (l.drop 1 ++ tl) = l ++ tl := by cases l <;> rfl
    rw [this,set_self hh]; rfl
  rintro i ⟨hi1,hi2⟩
  rcases Nat.lt_or_ge i l.length with hlt | hge
  · simp only [go_sem, hlt]
    have hxl : l[i] ∈ l:=List.getElem_mem hlt
    generalize hx : l[i] = x at *
    generalize hR : isortR (ltC c) (l.take i) = R
    have hRl : R.length = i:=by rw [← hR,isortR_len]; simp; omega
    have hRm : ∀ z ∈ R,z ∈ l:=fun z hz=>List.mem_of_mem_take ((isortR_perm (ltC c) (l.take i)).mem_iff.1 (by rw [hR]; exact hz))
    have hdrop : l.drop i = x :: l.drop (i + 1):=by rw [← hx]; exact List.drop_eq_getElem_cons hlt
    have hnext : isortR (ltC c) (l.take (i + 1)) = insR (ltC c) x R:=by rw [isortR_take_succ _ _ _ hlt,hR,hx]
    refine N_loop (fun t : List PV × List PV=>⟨[(0,.own id n 0 l.length),(1,AI 0),(2,AI l.length),(3,.fn g caps),(8,AI i),(9,AI t.1.length)],h.set id (.row (some 4) (t.1.reverse ++ x :: t.2) 0),[]⟩)
      (fun t=>∃ B,R = B ++ t.1 ∧ t.2 = B.reverse ++ (l.drop (i + 1) ++ tl) ∧ ∀ b ∈ B,ltC c x b = true) (fun t=>t.1.length) (R,l.drop (i + 1) ++ tl) (by rw [hdrop,hRl]; rfl) ⟨[],rfl,rfl,by simp⟩ ?_
    rintro ⟨A,C⟩ ⟨B,q1,q2,q3⟩
    dsimp only at q1 q2 q3
    have hlen : (A.reverse ++ x :: C).length = n:=by
      have : R.length = B.length + A.length:=by rw [q1]; simp
      rw [q2]; simp; omega
    have hBA : B.length + A.length < l.length:=by
      have : R.length = B.length + A.length:=by rw [q1]; simp
      omega
    have hln : l.length ≤ n:=by omega
    have w1 : IntKind.i64.wrap ((i : Int) + 1) = ((i + 1 : Nat) : Int):=i64_wrap _ (by omega) (by omega)
    cases A with
    | nil=>
      have hd : insR (ltC c) x R = B ++ [x]:=by rw [q1]; exact ins_done (ltC c) x [] B q3 (fun y r h=>by cases h)
      simp only [go_sem,Int.lt_irrefl,w1]
      refine ⟨i + 1,?_,by omega,by omega⟩
      simp only [hnext,hd,q2,List.reverse_append,List.reverse_nil,List.nil_append,List.reverse_cons,List.append_assoc,List.cons_append]
    | cons y A=>
      have hyl : y ∈ l:=hRm y (by rw [q1]; simp)
      have g1:=ins_get (y :: A) C x
      have g2:=ins_get1 A C x y
      have sw:=ins_swap A C x y
      simp only [List.length_cons] at hBA
      generalize hrow : (y :: A).reverse ++ x :: C = row at *
      simp only [List.length_cons] at g1
      have w2 : IntKind.i64.wrap (((A.length + 1 : Nat) : Int) - 1) = (A.length : Int):=by rw [i64_wrap _ (by omega) (by omega)]; omega
      have p1 : (0 : Int) < ((A.length + 1 : Nat) : Int):=by omega
      have b1 : A.length + 1 < l.length:=by omega
      have b2 : A.length < l.length:=by omega
      have cx:=shp_cut (hs x hxl)
      have cy:=shp_cut (hs y hyl)
      have hcc:=fun o K=>hc o x hxl y hyl K
      by_cases hxy : c x y < 0
      · have g3 : (row.set (A.length + 1) y)[A.length]? = some y := by rw [List.getElem?_set_ne (by omega), g2]
        have lx:=shp_len (hs x hxl)
        have ly:=shp_len (hs y hyl)
        have sx:=shp_all (hs x hxl)
        have sy:=shp_all (hs y hyl)
        simp only [shSize] at lx ly
        have t1:=fun i xs h1=>shp_st (hs x hxl) (hs y hyl) id i 0 xs h1
        have t2:=fun i xs h1=>shp_st (hs y hyl) (hs x hxl) id i 0 xs h1
        simp only [go_sem,hst,p1,hlen,g1,g2,g3,w2,b1,b2,hln,cx,cy,hcc,hxy,lx,ly,sx,sy,t1,t2,sw]
        refine ⟨(A,y :: C),rfl,⟨B ++ [y],by simp [q1],by simp [q2],fun b hb=>?_⟩,by simp⟩
        rw [List.mem_append,List.mem_singleton] at hb
        rcases hb with hb | rfl
        · exact q3 b hb
        · simpa [ltC] using hxy
      · have hd : insR (ltC c) x R = B ++ x :: y :: A := by rw [q1]; exact ins_done (ltC c) x (y :: A) B q3 (fun z r h => by cases h; simpa [ltC] using hxy)
        simp only [go_sem,hst,p1,hlen,g1,g2,w2,b1,b2,hln,cx,cy,hcc,hxy,w1]
        refine ⟨i + 1,?_,by omega,by omega⟩
        simp only [hnext,hd,← hrow,q2,List.reverse_append,List.reverse_cons,List.append_assoc,List.cons_append,List.nil_append]
  · have hge' : ¬ i < l.length := by omega
    have e1 : l.take i = l:=List.take_of_length_le hge
    have e2 : l.drop i = []:=List.drop_of_length_le hge
    simp only [go_sem,hge',e1,e2]
    rfl
theorem stable_api_Record (id : Nat) (l : List PV) (hs : shps (some 4) l) (hl : l.length ≤ 19) (hh : h[id]? = some (.row (some 4) l 0)) {g : Nat} {caps : List AV} {c : PV → PV → Int} (hc : Cmps g caps c l id h) :
    ACall X f_q06h [.own id l.length 0 l.length,.fn g caps] h K = K (.tup []) (h.set id (.row (some 4) (isort (ltC c) l) 0)) []:=by
  refine rule ?_
  rw [c_q06h]
  have key : ∀ K : Post,ACall X f_q07s [.own id l.length 0 l.length,AI l.length,.fn g caps] h K = K (.tup []) (h.set id (.row (some 4) (isort (ltC c) l) 0)) []:=by
    intro K
    refine rule ?_
    rw [c_q07s]
    have is:=fun K=>insCmp_api_Record (h:=h) (K:=K) id l.length l [] rfl hs (by omega) (by rw [List.append_nil]; exact hh) hc
    simp only [List.append_nil] at is
    have b1 : ¬ ((20 : Int) ≤ (l.length : Int)):=by omega
    have b2 : ¬ ((20 : Int) < (l.length : Int)):=by omega
    simp only [d_q07s,go_sem]
    refine N_loop (fun _ : Unit=>⟨[(0,.own id l.length 0 l.length),(1,AI l.length),(2,.fn g caps),(6,AI 20),(7,AI 0),(8,AI 20)],h,[]⟩) (fun _=>True) (fun _=>0) () rfl trivial ?_
    intro _ _
    simp only [go_sem,b1,is]
    refine N_loop (fun _ : Unit=>⟨[(0,.own id l.length 0 l.length),(1,AI l.length),(2,.fn g caps),(6,AI 20)],h.set id (.row (some 4) (isort (ltC c) l) 0),[]⟩) (fun _=>True) (fun _=>0) () rfl trivial ?_
    intro _ _
    simp only [go_sem,b2]
  simp only [d_q06h,go_sem,key]
end Go.Am
end
