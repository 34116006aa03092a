/- Texts of the proof, laid together: AmL, AmC, Ctx, SpStream, SpMap, SpPath, SpReady, MathFrac, SpBase, SpList, PSort, SpShp, SpArg, SpKeep, SpFind, SpLotA, SpLotB, SpLotC, SpLotD, SpLotE, SpLotG, SpLotF, SpGenA, SpBin, SpLawPW, PMove, SpLawCM, Bridge, AmL2. -/
import Derived.KernelRfl
import Derived.ProofKit
import Derived.Shelf.Strconv.Itoa3
import Derived.Lib.LaidTab
import Derived.Test.YtdjkfcdognndjaaGreatDoorlawCM5
set_option linter.all false
section
/- The abstract machine,part L: functions of the library that are met by the kit's contracts: plain values in,plain values out,new memory at most. -/
set_option linter.unusedSimpArgs false
set_option linter.unusedVariables false
namespace Go.Am
variable {P : Program} {gl : Nat → Option PV}
structure PureRow (P : Program) (gl : Nat → Option PV) (f : Nat) (spec : List PV → Option AV) : Prop where
  enter : ∀ us w,(callFunc f us).run P w = .ok (.enter f us) w
  run : ∀ (M : Mem) (w : World) (vs : List PV) (r : AV) (us : List Value),(∀ b o v,M.c b o = some v → w.cell? ⟨b,o,none⟩ = some v) → (∀ b o,M.b b = some o → w.heap[b]? = some o) → GInv gl M → vs.length = us.length →
    (∀ (j : Nat) (y : PV) (v : Value),vs[j]? = some y → us[j]? = some v → RPV M y v) → spec vs = some r →
    Calls P f us.toArray w fun e w'=>∃ x,e = .returned x ∧ WExt w w' ∧ RAV (ExtM M w w') [] [] r x
abbrev PureT:=List (Nat × (List PV → Option AV))
def pureF : PureT → Nat → List AV → Heap → Option (AV × Heap × Esc)
  | [],_,_,_=>none
  | (g,s) :: r,f,asv,h=>bif Nat.beq f g then ((unp asv).bind s).map fun v=>(v,h,[]) else pureF r f asv h
theorem pureF_ok : ∀ (gs : PureT),(∀ g s,(g,s) ∈ gs → PureRow P gl g s) → ∀ {f : Nat} {asv : List AV} {h : Heap} {v : AV} {h' : Heap} {x : Esc},pureF gs f asv h = some (v,h',x) →
    CallOk P gl f asv h fun v1 h1 x1=>v1 = v ∧ h1 = h' ∧ x1 = x
  | [],_,f,asv,h,v,h',x,H=>by cases H
  | (g,s) :: r,hg,f,asv,h,v,h',x,H=>by
    unfold pureF at H
    cases e1 : Nat.beq f g with
    | false=>
      rw [e1] at H
      exact pureF_ok r (fun g sh hm=>hg g sh (by simp [hm])) H
    | true=>
      rw [e1] at H
      have e:=Nat.eq_of_beq_eq_true e1
      subst e
      have R:=hg f s (by simp)
      simp only [cond_true] at H
      obtain ⟨y,hy,e2⟩:=Option.map_eq_some_iff.1 H
      simp only [Prod.mk.injEq] at e2
      obtain ⟨rfl,rfl,rfl⟩:=e2
      obtain ⟨ps,hps,hs⟩:=Option.bind_eq_some_iff.1 hy
      have hm:=unp_spec hps
      subst hm
      intro μ w vs Hh Hg hl hr
      refine .inl ⟨R.enter _,?_⟩
      refine (R.run (imm h μ w) w ps y vs (fun b o v hv=>(imm_some.1 hv).2) (fun b o hv=>(imm_blk.1 hv).2) Hg (by simpa using hl) (fun j q v hq hv=>(hr j (.p q) v (by simp [hq]) hv).p_inv) hs).mono fun e w' he=>?_
      obtain ⟨u,rfl,g1,g2⟩:=he
      obtain ⟨n1,n2⟩:=Hh.ext g1
      have Lq : (ExtM (imm h μ w) w w').le (imm h μ w'):=by
        refine ⟨fun b o v hv=>?_,fun b o hv=>?_,rfl⟩
        · dsimp only [ExtM] at hv
          split at hv
          · exact n2.le.c _ _ _ hv
          · rename_i hb
            exact imm_some.2 ⟨fun hO=>hb (owned_lt Hh hO),hv⟩
        · dsimp only [ExtM] at hv
          cases hv
      exact ⟨_,_,_,μ,⟨rfl,rfl,rfl⟩,g2.evo ⟨Lq,Nat.zero_le _,fun id o m h1=>by simp at h1⟩,n1,n2,EscInv.refl h []⟩
def libF (gs : List (Nat × Sh)) (ps : PureT) (f : Nat) (asv : List AV) (h : Heap) : Option (AV × Heap × Esc):=match growF gs f asv h with
  | some y=>some y
  | none=>pureF ps f asv h
theorem libF_ok {gs : List (Nat × Sh)} {ps : PureT} (hg : ∀ g sh,(g,sh) ∈ gs → GrowRow P g sh) (hp : ∀ g s,(g,s) ∈ ps → PureRow P gl g s) {f : Nat} {asv : List AV} {h : Heap} {v : AV} {h' : Heap} {x : Esc} (H : libF gs ps f asv h = some (v,h',x)) :
    CallOk P gl f asv h fun v1 h1 x1=>v1 = v ∧ h1 = h' ∧ x1 = x:=by
  unfold libF at H
  split at H
  · rename_i y hy
    cases H
    exact growF_ok gs hg hy
  · exact pureF_ok ps hp H
theorem lib_call {X : Ctx} {f : Nat} {asv : List AV} {h h' : Heap} {v : AV} {x : Esc} {K : Post} (hf : X.fn f = none) (hx : X.ex2 f asv h = some (v,h',x)) : ACall X f asv h K = K v h' x:=by
  refine propext (ACall.eq (ACall.fold ?_) K)
  unfold Step
  simp only [hf,hx]
  exact ⟨trivial,trivial,trivial⟩
def glOf : List (Nat × PV) → Nat → Option PV
  | [],_=>none
  | (g,v) :: r,n=>bif Nat.beq n g then some v else glOf r n
theorem enters_chk {f : Nat} (h : (match P.funcs[f]? with | some fn=>fn.body.isSome && fn.name != "runtime.NumGoroutine" | none=>false) = true) (us : Array Value) (w : World) : (callFunc f us).run P w = .ok (.enter f us) w:=by
  cases hf : P.funcs[f]? with
  | none=>rw [hf] at h; cases h
  | some fn=>
    rw [hf] at h
    simp only [Bool.and_eq_true,bne_iff_ne,ne_eq] at h
    cases hb : fn.body with
    | none=>rw [hb] at h; cases h.1
    | some c=>exact enters hf hb h.2 us w
theorem ginv_none {M : Mem} : GInv (glOf []) M:=fun n v hv=>by cases hv
end Go.Am
end
section
/- The abstract machine,part C: closed calls that say true,asv contracts. -/
set_option linter.all false
namespace Go.Am
variable {P : Program} {gl : Nat → Option PV}
def trueS : List PV → Option AV
  | []=>some (AB true)
  | _=>none
theorem RPV.mono' {M M' : Mem} (hM : ∀ b o v,M.c b o = some v → M'.c b o = some v) {v : PV} {x : Value} (H : RPV M v x) : RPV M' v x:=by
  induction H with
  | int k n=>exact .int k n
  | bool b=>exact .bool b
  | str s=>exact .str s
  | nilp=>exact .nilp
  | nils sh a cap=>exact .nils sh a cap
  | sl sh xs b o cap f hne hc he hm hr ih=>exact .sl sh xs b o cap f hne hc he (fun j y hy=>hM _ _ _ (hm j y hy)) ih
  | agg cs vs hl hr ih=>exact .agg cs vs hl ih
theorem GInv.mono' {M M' : Mem} (hc : ∀ b o v,M.c b o = some v → M'.c b o = some v) (hb : ∀ b o,M.b b = some o → M'.b b = some o) (H : GInv gl M) : GInv gl M':=fun n v hv=>by
  obtain ⟨h1,cs,t,x,h2,h3⟩:=H n v hv
  refine ⟨?_,cs,t,x,hb _ _ h2,h3⟩
  cases h1 with | vp _ _ _ f hm hr=>exact .vp v n 0 f (fun j y hy=>hc _ _ _ (hm j y hy)) (fun j y hy=>(hr j y hy).mono' hc)
theorem pureRow_closed {X : Ctx} (HX : Fits P X) {f : Nat} (H : ACall X f [] [] fun v h x=>v = AB true ∧ h = [] ∧ x = []) (he : ∀ us w,(callFunc f us).run P w = .ok (.enter f us) w) : PureRow P X.gl f trueS:=by
  refine ⟨he,fun M w vs r us hc hb hG hl hr hs=>?_⟩
  cases vs with
  | cons a l=>cases hs
  | nil=>
    have hu : us = []:=List.length_eq_zero_iff.1 (by simpa using hl.symm)
    subst hu
    simp only [trueS,Option.some.injEq] at hs
    subst hs
    have hno : ∀ b o,¬ Owned ([] : Heap) ([] : Mu) b o:=fun b o ⟨id,n,h1,_⟩=>by simp at h1
    have hnt : ∀ b,¬ Taken ([] : Mu) b:=fun b ⟨id,n,h1⟩=>by simp at h1
    have hG' : GInv X.gl (imm [] [] w):=hG.mono' (fun b o v h=>imm_some.2 ⟨hno b o,hc b o v h⟩) (fun b o h=>imm_blk.2 ⟨hnt b,hb b o h⟩)
    have hR : HeapRel [] [] w:=⟨rfl,fun id o m h1=>by simp at h1,fun i j b n n' h1=>by simp at h1,fun i b n h1=>by simp at h1⟩
    rcases call_sound HX H [] w [] hR hG' rfl (fun j y v h1=>by simp at h1) with ⟨_,q⟩ | ⟨r,w',v,h',x,μ',q,_⟩
    · refine q.mono fun e w' h => ?_
      cases e with
      | panicked _=>exact h.elim
      | outgrown=>exact h.elim
      | returned r=>
        obtain ⟨v,h',x,μ',⟨rfl,rfl,rfl⟩,h1,h2,h3,h4⟩:=h
        have hm : μ' = []:=List.length_eq_zero_iff.1 (by simpa using h2.len)
        subst hm
        have hbl : ∀ b o,w.heap[b]? = some o → w'.heap[b]? = some o:=fun b o h=>(imm_blk.1 (h3.le.b b o (imm_blk.2 ⟨hnt b,h⟩))).2
        refine ⟨r,rfl,⟨?_,fun b hb=>?_,?_⟩,?_⟩
        · rcases Nat.lt_or_ge w'.heap.size w.heap.size with q | q
          · have := hbl w'.heap.size _ (Array.getElem?_eq_getElem q)
            simp at this
          · exact q
        · rw [hbl b _ (Array.getElem?_eq_getElem hb),Array.getElem?_eq_getElem hb]
        · have := h3.le.z
          simpa [imm] using this
        · have := h1.p_bool
          rw [this]
          exact .p _ _ (.bool true)
    · rw [he] at q
      cases q
end Go.Am
end
section
/- The functions together. -/
set_option linter.unusedVariables false
set_option maxRecDepth 100000
namespace Go.Am
def fns : List (Nat × AFun):=[(f_q03g,a_q03g),(f_q043,a_q043),(f_q021,a_q021),(f_q02a,a_q02a),(f_q02b,a_q02b),(f_q03h,a_q03h),(f_q03n,a_q03n),(f_q05g,a_q05g),(f_q040,a_q040),(f_q05q,a_q05q),(f_q05p,a_q05p),(f_q02k,a_q02k),(f_q02j,a_q02j),(f_q02u,a_q02u),(f_q001,a_q001),(f_q035,a_q035),(f_q032,a_q032),(f_q004,a_q004),(f_q00s,a_q00s),(f_q03x,a_q03x),(f_q008,a_q008),(f_q05l,a_q05l),(f_q033,a_q033),(f_q02n,a_q02n),(f_q002,a_q002),(f_q057,a_q057),(f_q036,a_q036),(f_q02v,a_q02v),(f_q005,a_q005),(f_q00w,a_q00w),(f_q03c,a_q03c)]
def GRL : List (Nat × Sh):=[]
def PRL : PureT:=[(f_q03p,trueS)]
def GLL : List (Nat × PV):=[]
def fnOf : List (Nat × AFun) → Nat → Option AFun
  | [],_=>none
  | (k,F) :: r,n=>bif Nat.beq k n then some F else fnOf r n
def X : Ctx:=⟨fnOf fns,glOf GLL,extF f_internal_bytealg_IndexByteString f_internal_bytealg_abigen_runtime_cmpstring,libF GRL PRL⟩
theorem fnOf_all {p : Nat → AFun → Bool} : ∀ (l : List (Nat × AFun)),(l.all fun y=>p y.1 y.2) = true → ∀ n F,fnOf l n = some F → p n F = true
  | [],_,n,F,h=>by cases h
  | (k,G) :: r,ha,n,F,h=>by
    simp only [List.all_cons,Bool.and_eq_true] at ha
    simp only [fnOf] at h
    cases hk : Nat.beq k n with
    | true=>
      rw [hk] at h
      have:=Nat.eq_of_beq_eq_true hk
      simp only [cond_true,Option.some.injEq] at h
      subst this; subst h; exact ha.1
    | false=>
      rw [hk] at h
      exact fnOf_all r ha.2 n F h
def fns0 : List (Nat × AFun):=[(f_q02b,a_q02b),(f_q03n,a_q03n),(f_q03p,a_q03p),(f_q035,a_q035),(f_q032,a_q032),(f_q004,a_q004),(f_q00d,a_q00d),(f_q03t,a_q03t),(f_q012,a_q012),(f_q08p,a_q08p),(f_q07c,a_q07c),(f_q003,a_q003),(f_q00s,a_q00s),(f_q008,a_q008),(f_q05l,a_q05l),(f_q057,a_q057),(f_q036,a_q036),(f_q02v,a_q02v),(f_q005,a_q005),(f_q00b,a_q00b),(f_q00n,a_q00n),(f_q00o,a_q00o),(f_q011,a_q011),(f_q08o,a_q08o),(f_q08t,a_q08t),(f_q07g,a_q07g),(f_q006,a_q006),(f_q07m,a_q07m),(f_q07p,a_q07p),(f_q00v,a_q00v),(f_q07z,a_q07z),(f_q00w,a_q00w),(f_q00c,a_q00c),(f_q000,a_q000),(f_q00g,a_q00g),(f_q054,a_q054),(f_q013,a_q013),(f_q015,a_q015),(f_q018,a_q018),(f_q017,a_q017),(f_q016,a_q016),(f_q08s,a_q08s),(f_q091,a_q091),(f_q08w,a_q08w),(f_q07b,a_q07b),(f_q07a,a_q07a),(f_q07n,a_q07n),(f_q07e,a_q07e),(f_q07l,a_q07l),(f_q01d,a_q01d),(f_q01y,a_q01y),(f_q00h,a_q00h),(f_q00m,a_q00m),(f_q05a,a_q05a),(f_q084,a_q084),(f_q00p,a_q00p),(f_q010,a_q010),(f_q00z,a_q00z),(f_q090,a_q090),(f_q08q,a_q08q),(f_q08y,a_q08y),(f_q08r,a_q08r),(f_q08z,a_q08z),(f_q08v,a_q08v),(f_q08x,a_q08x),(f_q08u,a_q08u),(f_q07f,a_q07f),(f_q07d,a_q07d),(f_q07o,a_q07o),(f_q007,a_q007),(f_q07k,a_q07k),(f_q07i,a_q07i),(f_q07j,a_q07j),(f_q082,a_q082),(f_q00f,a_q00f),(f_q00l,a_q00l),(f_q056,a_q056),(f_q00i,a_q00i),(f_q00q,a_q00q),(f_q00e,a_q00e),(f_q05o,a_q05o),(f_q088,a_q088),(f_q08b,a_q08b),(f_q086,a_q086),(f_q087,a_q087),(f_q08a,a_q08a),(f_q089,a_q089),(f_q08c,a_q08c),(f_q014,a_q014),(f_q059,a_q059),(f_q08d,a_q08d),(f_q07h,a_q07h),(f_q05i,a_q05i),(f_q00j,a_q00j),(f_q00r,a_q00r),(f_q085,a_q085),(f_q08k,a_q08k),(f_q080,a_q080),(f_q08j,a_q08j),(f_q05n,a_q05n),(f_q08e,a_q08e),(f_q08g,a_q08g),(f_q050,a_q050),(f_q00k,a_q00k),(f_q08n,a_q08n),(f_q08l,a_q08l),(f_q08f,a_q08f),(f_q08m,a_q08m)]
def PRL0 : PureT:=[]
def X0 : Ctx:=⟨fnOf fns0,glOf GLL,extF f_internal_bytealg_IndexByteString f_internal_bytealg_abigen_runtime_cmpstring,libF GRL PRL0⟩
theorem x0_tap_path : X0.fn f_q08g = some a_q08g:=by kernel_rfl
theorem x0_tap_next : X0.fn f_q08f = some a_q08f:=by kernel_rfl
theorem X_noNext : X.NoNext:=fun f F h=>fnOf_all (p:=fun _ F=>F.isDet || F.body.noNext) fns (by kernel_rfl) f F h
theorem x_q03g : X.fn f_q03g = some a_q03g:=by kernel_rfl
theorem c_q03g {u0 v0 : AV} {h h1 : Heap} {P : Post} (hp : puras h [u0] = some ([v0],h1)) : ACall X f_q03g [u0] h P = d_q03g (ACall X) X.gl p_q03g_k1 p_q03g_k2 v0 h1 [] (finR [.t 2] false h.length P):=by rw [call_val x_q03g rfl hp rfl]; exact e_q03g
theorem x_q043 : X.fn f_q043 = some a_q043:=by kernel_rfl
theorem c_q043 {u0 u1 u2 v0 v1 v2 : AV} {h h1 : Heap} {P : Post} (hp : puras h [u0,u1,u2] = some ([v0,v1,v2],h1)) : ACall X f_q043 [u0,u1,u2] h P = d_q043 (ACall X) X.gl v0 v1 v2 h1 [] (finR [.t 6] false h.length P):=by rw [call_val x_q043 rfl hp rfl]; exact e_q043
theorem x_q021 : X.fn f_q021 = some a_q021:=by kernel_rfl
theorem c_q021 {u0 u1 v0 v1 : AV} {h h1 : Heap} {P : Post} (hp : puras h [u0,u1] = some ([v0,v1],h1)) : ACall X f_q021 [u0,u1] h P = d_q021 (ACall X) X.gl v0 v1 h1 [] (finR [.cell 4 (some 8),.t 5] false h.length P):=by rw [call_val x_q021 rfl hp rfl]; exact e_q021
theorem x_q02a : X.fn f_q02a = some a_q02a:=by kernel_rfl
theorem c_q02a {u0 u1 v0 v1 : AV} {h h1 : Heap} {P : Post} (hp : puras h [u0,u1] = some ([v0,v1],h1)) : ACall X f_q02a [u0,u1] h P = d_q02a (ACall X) X.gl p_q02a_k3 p_q02a_k4 v0 v1 h1 [] (finR [.t 4,.t 5] false h.length P):=by rw [call_val x_q02a rfl hp rfl]; exact e_q02a
theorem x_q02b : X.fn f_q02b = some a_q02b:=by kernel_rfl
theorem c_q02b {u0 v0 : AV} {h h1 : Heap} {P : Post} (hp : puras h [u0] = some ([v0],h1)) : ACall X f_q02b [u0] h P = d_q02b (ACall X) X.gl v0 h1 [] (finR [.cell 2 (some 2),.cell 3 (some 2),.t 4] false h.length P):=by rw [call_val x_q02b rfl hp rfl]; exact e_q02b
theorem x_q03h : X.fn f_q03h = some a_q03h:=by kernel_rfl
theorem c_q03h {u0 u1 u2 v0 v1 v2 : AV} {h h1 : Heap} {P : Post} (hp : puras h [u0,u1,u2] = some ([v0,v1,v2],h1)) : ACall X f_q03h [u0,u1,u2] h P = d_q03h (ACall X) X.gl v0 v1 v2 h1 [] (finR [.t 5] false h.length P):=by rw [call_val x_q03h rfl hp rfl]; exact e_q03h
theorem x_q03n : X.fn f_q03n = some a_q03n:=by kernel_rfl
theorem c_q03n {u0 v0 : AV} {h h1 : Heap} {P : Post} (hp : puras h [u0] = some ([v0],h1)) : ACall X f_q03n [u0] h P = d_q03n (ACall X) X.gl p_q03n_k1 p_q03n_k2 v0 h1 [] (finR [.t 2] false h.length P):=by rw [call_val x_q03n rfl hp rfl]; exact e_q03n
theorem x_q05g : X.fn f_q05g = some a_q05g:=by kernel_rfl
theorem c_q05g {u0 u1 v0 v1 : AV} {h h1 : Heap} {P : Post} (hp : puras h [u0,u1] = some ([v0,v1],h1)) : ACall X f_q05g [u0,u1] h P = d_q05g (ACall X) X.gl p_q05g_k1 p_q05g_k2 v0 v1 h1 [] (finR [.t 4] false h.length P):=by rw [call_val x_q05g rfl hp rfl]; exact e_q05g
theorem x_q040 : X.fn f_q040 = some a_q040:=by kernel_rfl
theorem c_q040 {u0 u1 v0 v1 : AV} {h h1 : Heap} {P : Post} (hp : puras h [u0,u1] = some ([v0,v1],h1)) : ACall X f_q040 [u0,u1] h P = d_q040 (ACall X) X.gl v0 v1 h1 [] (finR [.t 4] false h.length P):=by rw [call_val x_q040 rfl hp rfl]; exact e_q040
theorem x_q05q : X.fn f_q05q = some a_q05q:=by kernel_rfl
theorem c_q05q {u0 v0 : AV} {h h1 : Heap} {P : Post} (hp : puras h [u0] = some ([v0],h1)) : ACall X f_q05q [u0] h P = d_q05q (ACall X) X.gl p_q05q_k1 p_q05q_k2 v0 h1 [] (finR [.t 2] false h.length P):=by rw [call_val x_q05q rfl hp rfl]; exact e_q05q
theorem x_q05p : X.fn f_q05p = some a_q05p:=by kernel_rfl
theorem c_q05p {u0 v0 : AV} {h h1 : Heap} {P : Post} (hp : puras h [u0] = some ([v0],h1)) : ACall X f_q05p [u0] h P = d_q05p (ACall X) X.gl p_q05p_k1 p_q05p_k2 v0 h1 [] (finR [.t 2] false h.length P):=by rw [call_val x_q05p rfl hp rfl]; exact e_q05p
theorem x_q02k : X.fn f_q02k = some a_q02k:=by kernel_rfl
theorem c_q02k {u0 u1 v0 v1 : AV} {h h1 : Heap} {P : Post} (hp : puras h [u0,u1] = some ([v0,v1],h1)) : ACall X f_q02k [u0,u1] h P = d_q02k (ACall X) X.gl v0 v1 h1 [] (finR [.t 4] false h.length P):=by rw [call_val x_q02k rfl hp rfl]; exact e_q02k
theorem x_q02j : X.fn f_q02j = some a_q02j:=by kernel_rfl
theorem c_q02j {u0 u1 v0 v1 : AV} {h h1 : Heap} {P : Post} (hp : puras h [u0,u1] = some ([v0,v1],h1)) : ACall X f_q02j [u0,u1] h P = d_q02j (ACall X) X.gl v0 v1 h1 [] (finR [.cell 4 (some 8)] false h.length P):=by rw [call_val x_q02j rfl hp rfl]; exact e_q02j
theorem x_q02u : X.fn f_q02u = some a_q02u:=by kernel_rfl
theorem c_q02u {u0 u1 v0 v1 : AV} {h h1 : Heap} {P : Post} (hp : puras h [u0,u1] = some ([v0,v1],h1)) : ACall X f_q02u [u0,u1] h P = d_q02u (ACall X) X.gl p_q02u_k3 p_q02u_k4 v0 v1 h1 [] (finR [.t 4,.t 5] false h.length P):=by rw [call_val x_q02u rfl hp rfl]; exact e_q02u
theorem x_q001 : X.fn f_q001 = some a_q001:=by kernel_rfl
theorem c_q001 {u0 u1 v0 v1 : AV} {h h1 : Heap} {P : Post} (hp : puras h [u0,u1] = some ([v0,v1],h1)) : ACall X f_q001 [u0,u1] h P = d_q001 (ACall X) X.gl v0 v1 h1 [] (finR [.t 4] false h.length P):=by rw [call_val x_q001 rfl hp rfl]; exact e_q001
theorem x_q035 : X.fn f_q035 = some a_q035:=by kernel_rfl
theorem c_q035 {u0 u1 v0 v1 : AV} {h h1 : Heap} {P : Post} (hp : puras h [u0,u1] = some ([v0,v1],h1)) : ACall X f_q035 [u0,u1] h P = d_q035 (ACall X) X.gl v0 v1 h1 [] (finR [.t 4] false h.length P):=by rw [call_val x_q035 rfl hp rfl]; exact e_q035
theorem x_q032 : X.fn f_q032 = some a_q032:=by kernel_rfl
theorem c_q032 {u0 v0 : AV} {h h1 : Heap} {P : Post} (hp : puras h [u0] = some ([v0],h1)) : ACall X f_q032 [u0] h P = d_q032 (ACall X) X.gl p_q032_k1 p_q032_k2 v0 h1 [] (finR [.t 2,.t 3] false h.length P):=by rw [call_val x_q032 rfl hp rfl]; exact e_q032
theorem x_q004 : X.fn f_q004 = some a_q004:=by kernel_rfl
theorem c_q004 {u0 u1 v0 v1 : AV} {h h1 : Heap} {P : Post} (hp : puras h [u0,u1] = some ([v0,v1],h1)) : ACall X f_q004 [u0,u1] h P = d_q004 (ACall X) X.gl v0 v1 h1 [] (finR [.cell 4 (some 2)] false h.length P):=by rw [call_val x_q004 rfl hp rfl]; exact e_q004
theorem x_q00s : X.fn f_q00s = some a_q00s:=by kernel_rfl
theorem c_q00s {u0 u1 v0 v1 : AV} {h h1 : Heap} {P : Post} (hp : puras h [u0,u1] = some ([v0,v1],h1)) : ACall X f_q00s [u0,u1] h P = d_q00s (ACall X) X.gl v0 v1 h1 [] (finR [.t 4] false h.length P):=by rw [call_val x_q00s rfl hp rfl]; exact e_q00s
theorem x_q03x : X.fn f_q03x = some a_q03x:=by kernel_rfl
theorem c_q03x {u0 u1 v0 v1 : AV} {h h1 : Heap} {P : Post} (hp : puras h [u0,u1] = some ([v0,v1],h1)) : ACall X f_q03x [u0,u1] h P = d_q03x (ACall X) X.gl p_q03x_k1 v0 v1 h1 [] (finR [.t 4] false h.length P):=by rw [call_val x_q03x rfl hp rfl]; exact e_q03x
theorem x_q008 : X.fn f_q008 = some a_q008:=by kernel_rfl
theorem c_q008 {u0 u1 u2 v0 v1 v2 : AV} {h h1 : Heap} {P : Post} (hp : puras h [u0,u1,u2] = some ([v0,v1,v2],h1)) : ACall X f_q008 [u0,u1,u2] h P = d_q008 (ACall X) X.gl v0 v1 v2 h1 [] (finR [.t 6] false h.length P):=by rw [call_val x_q008 rfl hp rfl]; exact e_q008
theorem x_q05l : X.fn f_q05l = some a_q05l:=by kernel_rfl
theorem c_q05l {u0 u1 h P} : ACall X f_q05l [u0,u1] h P = d_q05l (ACall X) X.gl p_q05l_k1 p_q05l_k2 u0 u1 h [] (finR [.t 4] false h.length P):=by rw [call_ref x_q05l rfl rfl]; exact e_q05l
theorem x_q033 : X.fn f_q033 = some a_q033:=by kernel_rfl
theorem c_q033 {u0 v0 : AV} {h h1 : Heap} {P : Post} (hp : puras h [u0] = some ([v0],h1)) : ACall X f_q033 [u0] h P = d_q033 (ACall X) X.gl p_q033_k1 p_q033_k2 v0 h1 [] (finR [.t 2] false h.length P):=by rw [call_val x_q033 rfl hp rfl]; exact e_q033
theorem x_q02n : X.fn f_q02n = some a_q02n:=by kernel_rfl
theorem c_q02n {u0 v0 : AV} {h h1 : Heap} {P : Post} (hp : puras h [u0] = some ([v0],h1)) : ACall X f_q02n [u0] h P = d_q02n (ACall X) X.gl v0 h1 [] (finR [.t 2] false h.length P):=by rw [call_val x_q02n rfl hp rfl]; exact e_q02n
theorem x_q002 : X.fn f_q002 = some a_q002:=by kernel_rfl
theorem c_q002 {u0 u1 u2 u3 v0 v1 v2 v3 : AV} {h h1 : Heap} {P : Post} (hp : puras h [u0,u1,u2,u3] = some ([v0,v1,v2,v3],h1)) : ACall X f_q002 [u0,u1,u2,u3] h P = d_q002 (ACall X) X.gl p_q002_k1 p_q002_k2 v0 v1 v2 v3 h1 [] (finR [.t 8] false h.length P):=by rw [call_val x_q002 rfl hp rfl]; exact e_q002
theorem x_q057 : X.fn f_q057 = some a_q057:=by kernel_rfl
theorem c_q057 {u0 u1 h P} : ACall X f_q057 [u0,u1] h P = d_q057 (ACall X) X.gl u0 u1 h [] (finR [.t 4] false h.length P):=by rw [call_ref x_q057 rfl rfl]; exact e_q057
theorem x_q036 : X.fn f_q036 = some a_q036:=by kernel_rfl
theorem c_q036 {u0 v0 : AV} {h h1 : Heap} {P : Post} (hp : puras h [u0] = some ([v0],h1)) : ACall X f_q036 [u0] h P = d_q036 (ACall X) X.gl v0 h1 [] (finR [.t 2] false h.length P):=by rw [call_val x_q036 rfl hp rfl]; exact e_q036
theorem x_q02v : X.fn f_q02v = some a_q02v:=by kernel_rfl
theorem c_q02v {u0 v0 : AV} {h h1 : Heap} {P : Post} (hp : puras h [u0] = some ([v0],h1)) : ACall X f_q02v [u0] h P = d_q02v (ACall X) X.gl v0 h1 [] (finR [.t 2] false h.length P):=by rw [call_val x_q02v rfl hp rfl]; exact e_q02v
theorem x_q005 : X.fn f_q005 = some a_q005:=by kernel_rfl
theorem c_q005 {u0 u1 v0 v1 : AV} {h h1 : Heap} {P : Post} (hp : puras h [u0,u1] = some ([v0,v1],h1)) : ACall X f_q005 [u0,u1] h P = d_q005 (ACall X) X.gl p_q005_k1 p_q005_k2 v0 v1 h1 [] (finR [.t 4] false h.length P):=by rw [call_val x_q005 rfl hp rfl]; exact e_q005
theorem x_q00w : X.fn f_q00w = some a_q00w:=by kernel_rfl
theorem c_q00w {u0 v0 : AV} {h h1 : Heap} {P : Post} (hp : puras h [u0] = some ([v0],h1)) : ACall X f_q00w [u0] h P = d_q00w (ACall X) X.gl v0 h1 [] (finR [.t 2] false h.length P):=by rw [call_val x_q00w rfl hp rfl]; exact e_q00w
theorem x_q03c : X.fn f_q03c = some a_q03c:=by kernel_rfl
theorem c_q03c {u0 u1 v0 v1 : AV} {h h1 : Heap} {P : Post} (hp : puras h [u0,u1] = some ([v0,v1],h1)) : ACall X f_q03c [u0,u1] h P = d_q03c (ACall X) X.gl v0 v1 h1 [] (finR [.t 4,.t 5] false h.length P):=by rw [call_val x_q03c rfl hp rfl]; exact e_q03c
attribute [go_sem] e_q03g_k1 e_q03g_k2 l_q03g_k1 d_q03g_k1 d_q03g_k2 e_q02a_k1 e_q02a_k2 e_q02a_k3 e_q02a_k4 l_q02a_k3 d_q02a_k1 d_q02a_k2 d_q02a_k3 d_q02a_k4 e_q03n_k1 e_q03n_k2 l_q03n_k1 d_q03n_k1 d_q03n_k2 e_q05g_k1 e_q05g_k2 l_q05g_k1 d_q05g_k1 d_q05g_k2 e_q05q_k1 e_q05q_k2 l_q05q_k1 d_q05q_k1 d_q05q_k2 e_q05p_k1 e_q05p_k2 l_q05p_k1 d_q05p_k1 d_q05p_k2 e_q02u_k1 e_q02u_k2 e_q02u_k3 e_q02u_k4 l_q02u_k1 l_q02u_k3
attribute [go_sem] d_q02u_k1 d_q02u_k2 d_q02u_k3 d_q02u_k4 e_q032_k1 e_q032_k2 l_q032_k1 d_q032_k1 d_q032_k2 e_q03x_k1 d_q03x_k1 e_q05l_k1 e_q05l_k2 l_q05l_k1 d_q05l_k1 d_q05l_k2 e_q033_k1 e_q033_k2 l_q033_k1 d_q033_k1 d_q033_k2 e_q002_k1 e_q002_k2 d_q002_k1 d_q002_k2 e_q005_k1 e_q005_k2 l_q005_k1 d_q005_k1 d_q005_k2 e_q08g_k1 e_q08g_k2 e_q08g_k3 e_q08g_k4 l_q08g_k2 l_q08g_k3 d_q08g_k1 d_q08g_k2 d_q08g_k3 d_q08g_k4
end Go.Am
end
section
/- The stream of numbers out of which the laws draw. -/
open Go
namespace Go.Am
abbrev eI (n : Int) : PV:=.int .i64 n
abbrev AL (l : List Int) : AV:=.p (.sl none (l.map eI))
abbrev strm (L : List Int) (a : Int) : Obj:=.box [AL L,AI a]
def below (x n : Int) : Int:=if n < 1 then 0 else if x.tmod n < 0 then IntKind.i64.wrap (x.tmod n + n) else x.tmod n
theorem s_Below (x n : Int) (h : Heap) (K : Post) : ACall X f_q03x [AI x,AI n] h K = K (AI (below x n)) h []:=by
  refine rule ?_
  rw [c_q03x rfl]
  simp only [d_q03x,go_sem]
  unfold below
  by_cases h1 : n < 1
  · simp only [h1,if_true]
  · simp only [h1, if_false, show ¬ n = 0 by omega]
    split <;> rfl
theorem below_bd (x n : Int) (h1 : 1 ≤ n) (h2 : n ≤ 4611686018427387904) : 0 ≤ below x n ∧ below x n < n:=by
  unfold below
  rw [if_neg (by omega)]
  have:=Int.tmod_lt_of_pos x (show 0 < n by omega)
  have h3 : -n < x.tmod n:=by
    have:=Int.lt_tmod_of_pos x (show 0 < n by omega)
    exact this
  split
  · rw [i64_wrap _ (by omega) (by omega)]; omega
  · omega
def nextV (L : List Int) (a n : Int) : Int:=
  if L.length = 0 then below (IntKind.i64.wrap ((a + 1) * 7919)) n
  else below (IntKind.i64.wrap (below (L.getD (a.tmod L.length).toNat 0) 1073741824 + IntKind.i64.wrap (IntKind.i64.wrap (a.tdiv L.length) * IntKind.i64.wrap (7919 + a.tmod L.length)))) n
theorem nextV_bd (L : List Int) (a n : Int) (h1 : 1 ≤ n) (h2 : n ≤ 4611686018427387904) : 0 ≤ nextV L a n ∧ nextV L a n < n:=by
  unfold nextV
  split <;> exact below_bd _ _ h1 h2
theorem set_get' {h : Heap} {id : Nat} {o' : Obj} (hid : id < h.length) : (h.set id o')[id]? = some o':=by simp [hid]
theorem get_lt {h : Heap} {id : Nat} {o : Obj} (hh : h[id]? = some o) : id < h.length:=(List.getElem?_eq_some_iff.1 hh).1
def posN (n : Nat) (a : Int) : Prop:=0 ≤ a ∧ a + n < 4611686018427387904
def Gen (f : Nat) (args : List AV) (L : List Int) (a a2 : Int) (v : AV) : Prop:=∀ (h : Heap) (id : Nat) (K : Post),h[id]? = some (strm L a) → ACall X f (.ref id 0 :: args) h K = K v (h.set id (strm L a2)) []
section
variable {f : Nat} {args : List AV} {L : List Int} {a a2 : Int} {v : AV} {h l : Heap} {id : Nat} {K : Post}
theorem Gen.set (g : Gen f args L a a2 v) (hid : id < h.length) : ACall X f (.ref id 0 :: args) (h.set id (strm L a)) K = K v (h.set id (strm L a2)) []:=by
  rw [g _ _ _ (set_get' hid),List.set_set]
theorem Gen.app (g : Gen f args L a a2 v) (hid : id < h.length) : ACall X f (.ref id 0 :: args) (h.set id (strm L a) ++ l) K = K v (h.set id (strm L a2) ++ l) []:=by
  rw [g _ _ _ (by rw [get_app (by simpa using hid)]; exact set_get' hid),set_app (by simpa using hid),List.set_set]
theorem Gen.hd (g : Gen f args L a a2 v) : ACall X f (.ref 0 0 :: args) (strm L a :: l) K = K v (strm L a2 :: l) []:=by
  rw [g _ _ _ rfl]; rfl
theorem Gen.of (H : ∀ (h : Heap) (id : Nat),id < h.length → ACall X f (.ref id 0 :: args) (h.set id (strm L a)) fun v1 h1 x1=>v1 = v ∧ h1 = h.set id (strm L a2) ∧ x1 = []) : Gen f args L a a2 v:=by
  intro h id K hh
  have hid:=get_lt hh
  have : h.set id (strm L a) = h:=by
    apply List.ext_getElem?
    intro i
    rw [List.getElem?_set]
    split
    · rename_i e; subst e; rw [hh]
    · rfl
  have k:=H h id hid
  rw [this] at k
  exact rule k
end
def GenE (f : Nat) (args : List AV) (L : List Int) (a : Int) (Q : AV → Int → Prop) : Prop:=∀ (h : Heap) (id : Nat),h[id]? = some (strm L a) → ∃ v a2,Q v a2 ∧ ∀ K : Post,ACall X f (.ref id 0 :: args) h K = K v (h.set id (strm L a2)) []
section
variable {f : Nat} {args : List AV} {L : List Int} {a : Int} {Q : AV → Int → Prop}
theorem GenE.set (g : GenE f args L a Q) {h : Heap} {id : Nat} (hid : id < h.length) : ∃ v a2,Q v a2 ∧ ∀ K : Post,ACall X f (.ref id 0 :: args) (h.set id (strm L a)) K = K v (h.set id (strm L a2)) []:=by
  obtain ⟨v,a2,q,r⟩:=g _ _ (set_get' hid)
  exact ⟨v,a2,q,fun K=>by rw [r,List.set_set]⟩
theorem GenE.app (g : GenE f args L a Q) {h l : Heap} {id : Nat} (hid : id < h.length) : ∃ v a2,Q v a2 ∧ ∀ K : Post,ACall X f (.ref id 0 :: args) (h.set id (strm L a) ++ l) K = K v (h.set id (strm L a2) ++ l) []:=by
  obtain ⟨v,a2,q,r⟩:=g (h.set id (strm L a) ++ l) id (by rw [get_app (by simpa using hid)]; exact set_get' hid)
  exact ⟨v,a2,q,fun K=>by rw [r,set_app (by simpa using hid),List.set_set]⟩
theorem GenE.hd (g : GenE f args L a Q) {l : Heap} : ∃ v a2,Q v a2 ∧ ∀ K : Post,ACall X f (.ref 0 0 :: args) (strm L a :: l) K = K v (strm L a2 :: l) []:=g (strm L a :: l) 0 rfl
theorem GenE.of (H : ∀ (h : Heap) (id : Nat),id < h.length → ACall X f (.ref id 0 :: args) (h.set id (strm L a)) fun v1 h1 x1=>∃ a2,Q v1 a2 ∧ h1 = h.set id (strm L a2) ∧ x1 = []) : GenE f args L a Q:=by
  intro h id hh
  have hid:=get_lt hh
  have : h.set id (strm L a) = h:=by
    apply List.ext_getElem?
    intro i
    rw [List.getElem?_set]
    split
    · rename_i e; subst e; rw [hh]
    · rfl
  have k:=H h id hid
  rw [this] at k
  obtain ⟨v,h',x,⟨a2,q,e1,e2⟩,r⟩:=ACall.one X_noNext k
  subst e1; subst e2
  exact ⟨v,a2,q,r⟩
end
def isI : PV → Bool
  | .int .i64 _=>true
  | _=>false
def unI : PV → Int
  | .int _ n=>n
  | _=>0
set_option maxHeartbeats 400000 in
theorem g_Next (L : List Int) (a n : Int) (hp : posN 0 a) : Gen f_q040 [AI n] L a (a + 1) (AI (nextV L a n)):=by
  refine Gen.of fun h id hid=>?_
  rw [c_q040 rfl]
  obtain ⟨h0,h1⟩:=hp
  have w1 : IntKind.i64.wrap (a + 1) = a + 1:=i64_wrap _ (by omega) (by omega)
  have w2 : IntKind.i64.wrap (a + 1 - 1) = a:=by rw [i64_wrap _ (by omega) (by omega)]; omega
  have hs : ∀ o',(h.set id o')[id]? = some o':=fun o'=>set_get' hid
  rcases Nat.eq_zero_or_pos L.length with hl | hl
  · simp only [d_q040, go_sem, hs, s_Below, hl, w1]
    simp only [nextV,hl,if_true]
  · have e1 : ((L.length : Int) = 0) = False := by simp only [eq_iff_iff, iff_false]; omega
    have e2 : 0 ≤ a.tmod L.length:=Int.tmod_nonneg _ h0
    have e3 : a.tmod L.length < L.length:=Int.tmod_lt_of_pos _ (by omega)
    have e4:=natOf_int (k:=.i64) e2
    have e5 : (L.map eI)[(a.tmod L.length).toNat]? = some (eI (L.getD (a.tmod L.length).toNat 0)):=by
      rw [map_get eI (show (a.tmod L.length).toNat < L.length by omega)]
      simp [List.getD,show (a.tmod L.length).toNat < L.length by omega]
    simp only [d_q040,go_sem,hs,s_Below,e1,w1,w2,e4,e5]
    simp only [nextV,show ¬ L.length = 0 by omega,if_false]
section
variable {L : List Int} {a : Int} {h l : Heap} {id : Nat} {K : Post}
theorem s_Next_set (hid : id < h.length) (hp : posN 0 a) (n : Int) : ACall X f_q040 [.ref id 0,AI n] (h.set id (strm L a)) K = K (AI (nextV L a n)) (h.set id (strm L (a + 1))) []:=(g_Next L a n hp).set hid
theorem s_Next_app (hid : id < h.length) (hp : posN 0 a) (n : Int) : ACall X f_q040 [.ref id 0,AI n] (h.set id (strm L a) ++ l) K = K (AI (nextV L a n)) (h.set id (strm L (a + 1)) ++ l) []:=(g_Next L a n hp).app hid
theorem s_Next_hd (hp : posN 0 a) (n : Int) : ACall X f_q040 [.ref 0 0,AI n] (strm L a :: l) K = K (AI (nextV L a n)) (strm L (a + 1) :: l) []:=(g_Next L a n hp).hd
def rangeV (u v : Int) (L : List Int) (a : Int) : Int:=u + nextV L a (v - u + 1)
theorem rangeV_bd {u v : Int} (L : List Int) (a : Int) (h1 : u ≤ v) (h2 : v ≤ u + 4611686018427387900) : u ≤ rangeV u v L a ∧ rangeV u v L a ≤ v:=by
  have:=nextV_bd L a (v - u + 1) (by omega) (by omega)
  unfold rangeV; omega
theorem g_Range (hp : posN 0 a) (u v : Int) (huv : u ≤ v) (hu : -1152921504606846976 ≤ u) (hv : v ≤ 1152921504606846976) :
    Gen f_q043 [AI u,AI v] L a (a + 1) (AI (rangeV u v L a)):=by
  refine Gen.of fun h id hid=>?_
  rw [c_q043 rfl]
  obtain ⟨b1,b2⟩:=rangeV_bd L a huv (by omega)
  have w1 : IntKind.i64.wrap (v - u) = v - u:=i64_wrap _ (by omega) (by omega)
  have w2 : IntKind.i64.wrap (v - u + 1) = v - u + 1:=i64_wrap _ (by omega) (by omega)
  have w3 : IntKind.i64.wrap (u + nextV L a (v - u + 1)) = rangeV u v L a:=i64_wrap (rangeV u v L a) (by omega) (by omega)
  simp only [d_q043,go_sem,show ¬ v < u by omega,w1,w2,s_Next_set hid hp,w3]
theorem s_Range_set (hid : id < h.length) (hp : posN 0 a) {u v : Int} (huv : u ≤ v) (hu : -1152921504606846976 ≤ u) (hv : v ≤ 1152921504606846976) :
    ACall X f_q043 [.ref id 0,AI u,AI v] (h.set id (strm L a)) K = K (AI (rangeV u v L a)) (h.set id (strm L (a + 1))) []:=(g_Range hp u v huv hu hv).set hid
theorem s_Range_app (hid : id < h.length) (hp : posN 0 a) {u v : Int} (huv : u ≤ v) (hu : -1152921504606846976 ≤ u) (hv : v ≤ 1152921504606846976) :
    ACall X f_q043 [.ref id 0,AI u,AI v] (h.set id (strm L a) ++ l) K = K (AI (rangeV u v L a)) (h.set id (strm L (a + 1)) ++ l) []:=(g_Range hp u v huv hu hv).app hid
theorem s_Range_hd (hp : posN 0 a) {u v : Int} (huv : u ≤ v) (hu : -1152921504606846976 ≤ u) (hv : v ≤ 1152921504606846976) :
    ACall X f_q043 [.ref 0 0,AI u,AI v] (strm L a :: l) K = K (AI (rangeV u v L a)) (strm L (a + 1) :: l) []:=(g_Range hp u v huv hu hv).hd
end
attribute [go_sem ↓] s_Next_set s_Next_app s_Next_hd s_Range_set s_Range_app s_Range_hd
attribute [go_sem] s_Next_set s_Next_app s_Next_hd s_Range_set s_Range_app s_Range_hd isI unI
end Go.Am
end
section
/- Maps,asv lists of keys with values. -/
open Go
set_option linter.all false
namespace Go.Am
section
variable {α β : Type} [DecidableEq α]
def mesF (key : α → PV) (val : β → AV) : Nat → List (α × β) → List ME
  | _,[]=>[]
  | n,e :: r=>⟨key e.1,val e.2,n⟩ :: mesF key val (n + 1) r
def mobj (key : α → PV) (val : β → AV) (l : List (α × β)) : Obj:=.amap (mesF key val 0 l) l.length
def whereM (k : α) : List (α × β) → Option Nat
  | []=>none
  | e :: r=>if k = e.1 then some 0 else (whereM k r).map (· + 1)
def getM (k : α) : List (α × β) → Option β
  | []=>none
  | e :: r=>if k = e.1 then some e.2 else getM k r
def updM (k : α) (v : β) : List (α × β) → List (α × β)
  | []=>[(k,v)]
  | e :: r=>if k = e.1 then (k,v) :: r else e :: updM k v r
def KeyI (key : α → PV) : Prop:=∀ a b,PV.eqv (key a) (key b) = some (decide (a = b))
theorem keyI_int : KeyI (fun n : Int=>PV.int .i64 n):=fun a b=>by simp [PV.eqv,PV.eq1]
theorem keyOf_int {n : Int} {k : IntKind} : keyOf (none,[0]) (.p (.int k n)) = some (.int k n):=by simp [keyOf,PV.key,PV.shp,PV.sc,PV.cells,PV.kind]
variable {key : α → PV} {val : β → AV}
theorem mfind_mes (hk : KeyI key) (k : α) : ∀ (l : List (α × β)) (n : Nat),mfind (key k) (mesF key val n l) = some (whereM k l)
  | [],n=>rfl
  | e :: r,n=>by
    simp only [mesF,mfind,hk k e.1,whereM]
    by_cases h : k = e.1
    · simp [h]
    · simp [h,mfind_mes hk k r (n + 1)]
theorem mes_get : ∀ (l : List (α × β)) (n i : Nat),(mesF key val n l)[i]? = (l[i]?).map fun e=>⟨key e.1,val e.2,n + i⟩
  | [],n,i=>rfl
  | e :: r,n,0=>rfl
  | e :: r,n,i + 1=>by simp only [mesF,List.getElem?_cons_succ,mes_get r (n + 1) i]; rw [show n + 1 + i = n + (i + 1) by omega]
theorem where_lt {k : α} : ∀ {l : List (α × β)} {i : Nat},whereM k l = some i → i < l.length
  | [],i,h=>by cases h
  | e :: r,i,h=>by
    unfold whereM at h
    split at h
    · cases h; simp
    · obtain ⟨j, hj, e2⟩ := Option.map_eq_some_iff.1 h
      have:=where_lt hj
      simp; omega
theorem where_get {k : α} : ∀ {l : List (α × β)} {i : Nat},whereM k l = some i → l[i]? = (getM k l).map fun v=>(k,v)
  | [],i,h=>by cases h
  | e :: r,i,h=>by
    unfold whereM at h
    unfold getM
    split at h
    · rename_i hk; cases h; simp [hk]
    · rename_i hk
      obtain ⟨j,hj,e2⟩:=Option.map_eq_some_iff.1 h
      subst e2
      rw [if_neg hk,List.getElem?_cons_succ]
      exact where_get hj
theorem where_none {k : α} : ∀ {l : List (α × β)},whereM k l = none → getM k l = none
  | [],h=>rfl
  | e :: r,h=>by
    unfold whereM at h
    unfold getM
    split at h
    · cases h
    · rename_i hk
      rw [if_neg hk]
      exact where_none (by simpa using h)
theorem where_some {k : α} : ∀ {l : List (α × β)} {i : Nat},whereM k l = some i → (getM k l).isSome = true
  | [],i,h=>by cases h
  | e :: r,i,h=>by
    unfold whereM at h
    unfold getM
    split at h
    · rename_i hk; simp [hk]
    · rename_i hk
      obtain ⟨j,hj,e2⟩:=Option.map_eq_some_iff.1 h
      rw [if_neg hk]
      exact where_some hj
theorem look_val {k : α} {l : List (α × β)} {n : Nat} : ((whereM k l).bind fun i=>(mesF key val n l)[i]?).map ME.val = (getM k l).map val:=by
  cases h : whereM k l with
  | none=>rw [where_none h]; rfl
  | some i=>
    simp only [Option.bind_some,mes_get,where_get h]
    cases getM k l <;> rfl
theorem upd_none {k : α} {v : β} : ∀ {l : List (α × β)},whereM k l = none → updM k v l = l ++ [(k,v)]
  | [],h=>rfl
  | e :: r,h=>by
    unfold whereM at h
    unfold updM
    split at h
    · cases h
    · rename_i hk
      rw [if_neg hk,upd_none (by simpa using h)]; rfl
theorem upd_some {k : α} {v : β} : ∀ {l : List (α × β)} {i : Nat},whereM k l = some i → updM k v l = l.set i (k,v)
  | [],i,h=>by cases h
  | e :: r,i,h=>by
    unfold whereM at h
    unfold updM
    split at h
    · rename_i hk; cases h; simp [hk]
    · rename_i hk
      obtain ⟨j,hj,e2⟩:=Option.map_eq_some_iff.1 h
      subst e2
      rw [if_neg hk,upd_some hj]; rfl
theorem mes_snoc (k : α) (v : β) : ∀ (l : List (α × β)) (n : Nat),mesF key val n (l ++ [(k,v)]) = mesF key val n l ++ [⟨key k,val v,n + l.length⟩]
  | [],n=>rfl
  | e :: r,n=>by simp only [List.cons_append,mesF,mes_snoc k v r (n + 1),List.length_cons]; rw [show n + 1 + r.length = n + (r.length + 1) by omega]
theorem mes_modify {k : α} {v : β} {l : List (α × β)} {i n : Nat} (h : whereM k l = some i) : (mesF key val n l).modify i (fun e=>{ e with val:=val v }) = mesF key val n (l.set i (k,v)):=by
  apply List.ext_getElem?
  intro j
  rw [List.getElem?_modify,mes_get,mes_get,List.getElem?_set]
  have hi:=where_lt h
  have hg:=where_get h
  by_cases hij : i = j
  · subst hij
    rw [hg]
    simp only [if_true,hi]
    obtain ⟨w,hw⟩:=Option.isSome_iff_exists.1 (where_some h)
    rw [hw]; rfl
  · simp [hij]
variable {h : Heap} {id : Nat} {l : List (α × β)} {kk : Sh × List Nat} {k : α}
theorem mget_mes (hh : h[id]? = some (mobj key val l)) : mget h (.mp id) = some (id,mesF key val 0 l,l.length):=by
  simp only [mget,hh,mobj]
theorem look_mes (hk : KeyI key) (hh : h[id]? = some (mobj key val l)) (hq : keyOf kk (.p (key k)) = some (key k)) {ok : Bool} {z : AV} :
    oLook kk ok z (.mp id) (.p (key k)) h = some (bif ok then .tup [((getM k l).map val).getD z,AV.p (.bool (getM k l).isSome)] else ((getM k l).map val).getD z):=by
  simp only [oLook,hq,mget_mes hh,Option.map_some,mfind_mes hk,look_val,Option.isSome_map]
  rfl
theorem mupd_mes (hk : KeyI key) (hh : h[id]? = some (mobj key val l)) (hq : keyOf kk (.p (key k)) = some (key k)) {v : β} (hv : okIn (val v) = true) :
    oMupd kk (.mp id) (.p (key k)) (val v) h = some (.und,h.set id (mobj key val (updM k v l)),escOf id (val v)):=by
  simp only [oMupd,hq,mget_mes hh,hv,mfind_mes hk]
  cases hw : whereM k l with
  | none=>
    simp only [mobj,upd_none hw,mes_snoc,List.length_append,List.length_cons,List.length_nil,Nat.zero_add]
  | some i=>
    simp only [mobj,upd_some hw,mes_modify hw,List.length_set]
end
end Go.Am
end
section
/- The shortest way between two states of a test access port: a search over a queue. -/
open Go
set_option linter.all false
namespace Go.Am
variable {h : Heap} {K : Post}
attribute [-go_sem] oLook oMupd oMentry oMrange
def nxtT : List (List Nat):=[[1,0],[1,2],[3,9],[4,5],[4,5],[6,8],[6,7],[4,8],[1,2],[10,0],[11,12],[11,12],[13,15],[13,14],[11,15],[1,2]]
def nxt (s t : Nat) : Nat:=(nxtT.getD s []).getD t 0
theorem nxt_get {s t : Nat} (hs : s < 16) (ht : t < 2) : ([AI 1,AI 0,AI 1,AI 2,AI 3,AI 9,AI 4,AI 5,AI 4,AI 5,AI 6,AI 8,AI 6,AI 7,AI 4,AI 8,AI 1,AI 2,AI 10,AI 0,AI 11,AI 12,AI 11,AI 12,AI 13,AI 15,AI 13,AI 14,AI 11,AI 15,AI 1,AI 2] : List AV)[s * 2 + t * 1]? = some (AI (nxt s t)):=by
  have hs' : s = 0 ∨ s = 1 ∨ s = 2 ∨ s = 3 ∨ s = 4 ∨ s = 5 ∨ s = 6 ∨ s = 7 ∨ s = 8 ∨ s = 9 ∨ s = 10 ∨ s = 11 ∨ s = 12 ∨ s = 13 ∨ s = 14 ∨ s = 15:=by omega
  have ht' : t = 0 ∨ t = 1:=by omega
  rcases hs' with rfl | rfl | rfl | rfl | rfl | rfl | rfl | rfl | rfl | rfl | rfl | rfl | rfl | rfl | rfl | rfl <;> rcases ht' with rfl | rfl <;> rfl
theorem g_tapnext {Y : Ctx} (hY : Y.fn f_q08f = some a_q08f) (s t : Nat) (hs : s < 16) (ht : t < 2) : ACall Y f_q08f [AI s,AI t] h K = K (AI (nxt s t)) h []:=by
  refine rule ?_
  rw [call_val hY rfl (show puras h [AI s,AI t] = some ([AI s,AI t],h) from rfl) rfl,e_q08f]
  show d_q08f _ _ _ _ _ _ (finR [.t 4] false _ _)
  have g:=nxt_get hs ht
  simp only [d_q08f,go_sem,hs,ht,g]
abbrev Ways:=List (Int × List UInt8)
def keyP (n : Int) : PV:=.int .i64 n
def valP (s : List UInt8) : AV:=.p (.str s)
def bit1 (t : Nat) : List UInt8:=[UInt8.ofNat (48 + t)]
def visit (at_ t : Nat) (s : Ways × List Nat) : Ways × List Nat:=
  if (getM (nxt at_ t : Int) s.1).isSome then s else (updM (nxt at_ t : Int) ((getM (at_ : Int) s.1).getD [] ++ bit1 t) s.1,s.2 ++ [nxt at_ t])
def visits (at_ : Nat) : Nat → Ways × List Nat → Ways × List Nat
  | 0,s=>s
  | t + 1,s=>visit at_ t (visits at_ t s)
def popS (s : Ways × List Nat) : Ways × List Nat:=match s.2 with
  | []=>s
  | a :: r=>visits a 2 (s.1,r)
def bfs (a : Nat) : Nat → Ways × List Nat
  | 0=>([((a : Int),[])],[a])
  | k + 1=>popS (bfs a k)
def pathV (a b : Nat) : List UInt8:=(getM (b : Int) (bfs a 16).1).getD []
def fineS (s : Ways × List Nat) : Bool:=decide (s.1.length ≤ 16) && decide (s.2.length ≤ 16) && s.2.all (fun x=>decide (x < 16)) && s.1.all (fun e=>decide (e.2.length ≤ 16))
theorem bfs_all : (List.range 16).all (fun a=>(List.range 16).all (fun k=>fineS (bfs a k) && !(bfs a k).2.isEmpty) && fineS (bfs a 16) && (bfs a 16).2.isEmpty) = true:=by kernel_rfl
theorem bfs_fine {a k : Nat} (ha : a < 16) (hk : k < 16) : fineS (bfs a k) = true ∧ (bfs a k).2 ≠ []:=by
  have h1:=List.all_eq_true.1 bfs_all a (List.mem_range.2 ha)
  simp only [Bool.and_eq_true] at h1
  have h2:=List.all_eq_true.1 h1.1.1 k (List.mem_range.2 hk)
  simp only [Bool.and_eq_true,Bool.not_eq_true',List.isEmpty_eq_false_iff] at h2
  exact h2
theorem bfs_end {a : Nat} (ha : a < 16) : fineS (bfs a 16) = true ∧ (bfs a 16).2 = []:=by
  have h1:=List.all_eq_true.1 bfs_all a (List.mem_range.2 ha)
  simp only [Bool.and_eq_true,List.isEmpty_iff] at h1
  exact ⟨h1.1.2,h1.2⟩
theorem fine_inv {s : Ways × List Nat} (hf : fineS s = true) : s.1.length ≤ 16 ∧ s.2.length ≤ 16 ∧ (∀ x ∈ s.2,x < 16) ∧ ∀ e ∈ s.1,e.2.length ≤ 16:=by
  unfold fineS at hf
  simp only [Bool.and_eq_true,decide_eq_true_eq,List.all_eq_true] at hf
  exact ⟨hf.1.1.1,hf.1.1.2,hf.1.2,hf.2⟩
theorem lookP {hp : Heap} {id : Nat} {m : Ways} {b : Int} (hh : hp[id]? = some (mobj keyP valP m)) : oLook (none,[0]) false (.p (.str [])) (.mp id) (AI b) hp = some (.p (.str ((getM b m).getD []))):=by
  have:=look_mes (key:=keyP) (val:=valP) (fun a b=>keyI_int a b) hh (kk:=(none,[0])) (k:=b) keyOf_int (ok:=false) (z:=.p (.str []))
  rw [cond_false] at this
  refine this.trans ?_
  cases getM b m <;> rfl
theorem lookQ {hp : Heap} {id : Nat} {m : Ways} {b : Int} (hh : hp[id]? = some (mobj keyP valP m)) : oLook (none,[0]) true (.p (.str [])) (.mp id) (AI b) hp = some (.tup [.p (.str ((getM b m).getD [])),AB (getM b m).isSome]):=by
  have:=look_mes (key:=keyP) (val:=valP) (fun a b=>keyI_int a b) hh (kk:=(none,[0])) (k:=b) keyOf_int (ok:=true) (z:=.p (.str []))
  rw [cond_true] at this
  refine this.trans ?_
  cases getM b m <;> rfl
theorem updP {hp : Heap} {id : Nat} {m : Ways} {b : Int} {v : List UInt8} (hh : hp[id]? = some (mobj keyP valP m)) : oMupd (none,[0]) (.mp id) (AI b) (.p (.str v)) hp = some (.und,hp.set id (mobj keyP valP (updM b v m)),[]):=
  mupd_mes (key:=keyP) (val:=valP) (fun a b=>keyI_int a b) hh (kk:=(none,[0])) (k:=b) keyOf_int (v:=v) rfl
structure Que (R : Heap) (i : Nat) (xs : List Nat) (off : Nat) (q : List Nat) : Prop where
  get : R[i]? = some (.row none (xs.map fun n : Nat=>eI n) 0)
  le : off ≤ xs.length
  eq : xs.drop off = q
theorem nq_one {hp : Heap} {id : Nat} {xs : List Nat} {off : Nat} {n : Int} {k : AV → Heap → Esc → Prop} (hh : hp[id]? = some (.row none (xs.map fun n : Nat=>eI n) 0)) (ho : off ≤ xs.length) (hm : xs.length ≤ 1000000)
    (k1 : k (.own id (xs.length + 1) off (xs.length - off + 1)) (hp.set id (.row none (xs.map (fun n : Nat=>eI n) ++ [eI n]) 0)) [])
    (k2 : k (.own hp.length (xs.length - off + 1) 0 (xs.length - off + 1)) (hp ++ [.row none ((xs.drop off).map (fun n : Nat=>eI n) ++ [eI n]) 0]) []) :
    nqK (some none) [.own id xs.length off (xs.length - off),.p (.sl none [eI n])] hp k:=by
  have hx : xs.length - off + 1 ≤ maxSl:=by unfold maxSl; omega
  have hr : rds hp (.p (.sl none [eI n])) = some (none,[eI n]):=rfl
  have hw : win (xs.map fun n : Nat=>eI n) off (xs.length - off) = (xs.drop off).map fun n : Nat=>eI n:=by
    unfold win
    rw [← List.map_drop]
    exact List.take_of_length_le (by simp)
  unfold nqK choices appq
  simp only [hr,if_true,hh,List.length_map,List.length_cons,List.length_nil,Nat.zero_add]
  rw [if_pos ⟨trivial,trivial,by omega,hx⟩,hw]
  refine ⟨by simp,fun y hy=>?_⟩
  simp only [List.mem_cons,List.not_mem_nil,or_false] at hy
  rcases hy with rfl | rfl
  · exact k1
  · exact k2
theorem mem_updM {α β : Type} [DecidableEq α] {k : α} {v : β} : ∀ {l : List (α × β)} {e : α × β},e ∈ updM k v l → e ∈ l ∨ e = (k,v)
  | [],e,h=>by simp [updM] at h; exact .inr h
  | x :: r,e,h=>by
    unfold updM at h
    split at h
    · rcases List.mem_cons.1 h with h | h
      · exact .inr h
      · exact .inl (List.mem_cons_of_mem _ h)
    · rcases List.mem_cons.1 h with h | h
      · exact .inl (h ▸ List.mem_cons_self)
      · rcases mem_updM h with h | h
        · exact .inl (List.mem_cons_of_mem _ h)
        · exact .inr h
theorem getM_mem {α β : Type} [DecidableEq α] {k : α} {v : β} : ∀ {l : List (α × β)},getM k l = some v → (k,v) ∈ l
  | [],h=>by cases h
  | x :: r,h=>by
    unfold getM at h
    split at h
    · rename_i he; cases h; subst he; simp
    · exact List.mem_cons_of_mem _ (getM_mem h)
theorem ways_len {n : Nat} {w : Ways} (hw : ∀ e ∈ w,e.2.length ≤ n) (k : Int) : ((getM k w).getD []).length ≤ n:=by
  cases hg : getM k w with
  | none=>simp
  | some v=>exact hw _ (getM_mem hg)
theorem visit_len {n at_ t : Nat} {s : Ways × List Nat} (hw : ∀ e ∈ s.1,e.2.length ≤ n) : ∀ e ∈ (visit at_ t s).1,e.2.length ≤ n + 1:=by
  unfold visit
  split
  · intro e he; have:=hw e he; omega
  · intro e he
    rcases mem_updM he with h | h
    · have:=hw e h; omega
    · subst h
      have:=ways_len hw (at_ : Int)
      simp [bit1]; omega
theorem visits_len {n at_ : Nat} {s : Ways × List Nat} (hw : ∀ e ∈ s.1,e.2.length ≤ n) : ∀ (t : Nat),∀ e ∈ (visits at_ t s).1,e.2.length ≤ n + t
  | 0=>hw
  | t + 1=>visit_len (visits_len hw t)
set_option maxHeartbeats 1000000 in
theorem g_path {Y : Ctx} (hY1 : Y.fn f_q08g = some a_q08g) (hY2 : Y.fn f_q08f = some a_q08f) (a b : Nat) (ha : a < 16) (hb : b < 16) : ACall Y f_q08g [AI a,AI b] h K = K (.p (.str (pathV a b))) h []:=by
  refine rule ?_
  rw [call_val_det hY1 rfl (show puras h [AI a,AI b] = some ([AI a,AI b],h) from rfl) rfl]
  simp only [e_q08g]
  show ∃ v h' x,_ ∧ d_q08g _ _ _ _ _ _ _ _ (finR [.t 4] false _ _)
  simp only [d_q08g]
  refine ⟨_,_,_,⟨rfl,rfl,rfl⟩,?_⟩
  have em : mobj keyP valP [((a : Int),([] : List UInt8))] = .amap [⟨.int .i64 a,.p (.str []),0⟩] 1:=rfl
  have u0:=fun (hp : Heap) (hh : hp[h.length]? = some (mobj keyP valP []))=>updP (b:=(a : Int)) (v:=[]) hh
  have e0 : updM (a : Int) [] ([] : Ways) = [((a : Int),[])]:=rfl
  have em0 : mobj keyP valP ([] : Ways) = .amap [] 0:=rfl
  rw [e0] at u0
  simp only [em0] at u0
  simp only [go_sem,u0]
  refine N_loop (fun t : Nat × Heap × Nat × List Nat × Nat × Option Nat=>⟨[(1,AI b),(5,.mp h.length),(6,.own (h.length + (t.2.2.1 + 1)) t.2.2.2.1.length t.2.2.2.2.1 (t.2.2.2.1.length - t.2.2.2.2.1))] ++ (match t.2.2.2.2.2 with | none=>[] | some q=>[(7,AI q),(25,AI 2),(26,AB false)]),h ++ mobj keyP valP (bfs a t.1).1 :: t.2.1,[]⟩)
    (fun t=>t.1 ≤ 16 ∧ Que t.2.1 t.2.2.1 t.2.2.2.1 t.2.2.2.2.1 (bfs a t.1).2 ∧ t.2.2.2.1.length ≤ 1 + 2 * t.1) (fun t=>16 - t.1) (0,[.row none [eI a] 0],0,[a],0,none) (by simp [bfs]) ⟨by simp,⟨rfl,by simp,rfl⟩,by simp⟩ ?_
  rintro ⟨k,R,i,xs,off,oq⟩ ⟨h1,hq,h2⟩
  dsimp only at h1 hq h2 ⊢
  have hqg:=hq.get
  have hle:=hq.le
  have heq:=hq.eq
  have hln : xs.length - off = (bfs a k).2.length:=by rw [← heq]; simp
  by_cases hk : k < 16
  · obtain ⟨hf, hne⟩ := bfs_fine ha hk
    obtain ⟨f1,f2,f3,f4⟩:=fine_inv hf
    have hpos : 0 < xs.length - off:=by rw [hln]; exact List.length_pos_iff.2 hne
    have hoff : off < xs.length:=by omega
    obtain ⟨q0,qr,hqe⟩ : ∃ q0 qr,(bfs a k).2 = q0 :: qr:=by
      cases hb2 : (bfs a k).2 with
      | nil=>exact absurd hb2 hne
      | cons x y=>exact ⟨x,y,rfl⟩
    have hx0 : xs[off]? = some q0:=by
      have : (xs.drop off)[0]? = some q0:=by rw [heq,hqe]; rfl
      rwa [List.getElem?_drop,Nat.add_zero] at this
    have hdr : xs.drop (off + 1) = qr:=by
      rw [← List.drop_drop,heq,hqe]; rfl
    have hq0 : q0 < 16:=f3 q0 (by rw [hqe]; simp)
    have hgq : (xs.map fun n : Nat=>eI n)[off]? = some (eI q0):=by rw [List.getElem?_map,hx0]; rfl
    have hpi : (0 : Int) < ((xs.length - off : Nat) : Int):=by omega
    have hl1 : 1 ≤ xs.length - off:=by omega
    have hbn : bfs a (k + 1) = visits q0 2 ((bfs a k).1,qr):=by show popS _ = _; unfold popS; rw [hqe]
    have e3 : xs.length - off - 1 = xs.length - (off + 1):=by omega
    have hcond : off + (xs.length - off) ≤ xs.length:=by omega
    have hNL : ∀ (e : List (Nat × AV)),prune (some [1,5,6,7,25]) e = prune (some [1,5,6,7,25]) e:=fun _=>rfl
    rcases oq with _ | oq
    all_goals
    simp only [List.append_nil,List.cons_append,List.nil_append,go_sem,List.getElem?_cons_succ,hqg,hpi,hpos,hgq,hl1,hcond]
    all_goals
    clear u0 em em0 e0
    generalize hw0 : ((bfs a k).1,qr) = s0 at *
    have es1 : (bfs a k).1 = s0.1:=by rw [← hw0]
    have es2 : qr = s0.2:=by rw [← hw0]
    rw [es1,e3]
    refine N_loop (fun t : Nat × Heap × Nat × List Nat × Nat=>⟨[(1,AI b),(5,.mp h.length),(6,.own (h.length + (t.2.2.1 + 1)) t.2.2.2.1.length t.2.2.2.2 (t.2.2.2.1.length - t.2.2.2.2)),(7,AI q0),(25,AI t.1)],h ++ mobj keyP valP (visits q0 t.1 s0).1 :: t.2.1,[]⟩)
      (fun t=>t.1 ≤ 2 ∧ Que t.2.1 t.2.2.1 t.2.2.2.1 t.2.2.2.2 (visits q0 t.1 s0).2 ∧ t.2.2.2.1.length ≤ 1 + 2 * k + t.1) (fun t=>2 - t.1) (0,R,i,xs,off + 1) rfl ⟨by simp,⟨hqg,hoff,by rw [hdr,es2]; rfl⟩,by simp; omega⟩ ?_
    rintro ⟨j,R',i',ys,of'⟩ ⟨j1,jq,j2⟩
    dsimp only at j1 jq j2 ⊢
    have jg:=jq.get
    have jle:=jq.le
    have jeq:=jq.eq
    by_cases hj : j < 2
    · have hji : (j : Int) < 2 := by omega
      have qn:=fun h K=>g_tapnext (h:=h) (K:=K) hY2 q0 j hq0 hj
      have hvis : visits q0 (j + 1) s0 = visit q0 j (visits q0 j s0):=rfl
      generalize hsj : visits q0 j s0 = s at *
      have lq:=fun (hp : Heap) (hh : hp[h.length]? = some (mobj keyP valP s.1))=>lookQ (b:=(nxt q0 j : Int)) hh
      have lp:=fun (hp : Heap) (hh : hp[h.length]? = some (mobj keyP valP s.1))=>lookP (b:=(q0 : Int)) hh
      have up:=fun (hp : Heap) (v : List UInt8) (hh : hp[h.length]? = some (mobj keyP valP s.1))=>updP (b:=(nxt q0 j : Int)) (v:=v) hh
      have w1 : IntKind.i64.wrap ((j : Int) + 1) = ((j + 1 : Nat) : Int):=i64_wrap _ (by omega) (by omega)
      cases hs : (getM (nxt q0 j : Int) s.1).isSome with
      | true=>
        have hv : visit q0 j s = s:=by unfold visit; rw [if_pos hs]
        rw [hv] at hvis
        simp only [go_sem,hji,↓qn,qn,lq,hs,w1]
        exact ⟨(j + 1,R',i',ys,of'),by dsimp only; rw [hvis],⟨by dsimp only; omega,by dsimp only; rw [hvis]; exact jq,by dsimp only; omega⟩,by dsimp only; omega⟩
      | false=>
        have hv : visit q0 j s = (updM (nxt q0 j : Int) ((getM (q0 : Int) s.1).getD [] ++ bit1 j) s.1,s.2 ++ [nxt q0 j]):=by unfold visit; rw [hs]; rfl
        rw [hv] at hvis
        have w2 : IntKind.i64.wrap (48 + (j : Int)) = ((48 + j : Nat) : Int):=i64_wrap _ (by omega) (by omega)
        have w3 : IntKind.i32.wrap ((48 + j : Nat) : Int) = ((48 + j : Nat) : Int):=by
          have : j = 0 ∨ j = 1:=by omega
          rcases this with rfl | rfl <;> rfl
        have w4 : (0 : Int) ≤ ((48 + j : Nat) : Int) ∧ ((48 + j : Nat) : Int) < 128:=by omega
        have hln2:=ways_len (visits_len (n:=16) (at_:=q0) (s:=s0) (by rw [← es1]; exact f4) j) (q0 : Int)
        rw [hsj] at hln2
        have w5 : ((getM (q0 : Int) s.1).getD []).length + (bit1 j).length ≤ maxStr:=by have : (bit1 j).length = 1:=rfl; unfold maxStr; omega
        have w6 : [UInt8.ofNat ((48 + j : Nat) : Int).toNat] = bit1 j:=rfl
        simp only [go_sem,hji,↓qn,qn,lq,hs,lp,up,w1,w2,w3,w4,w5,w6]
        have hh1 : (h ++ mobj keyP valP (updM (nxt q0 j : Int) ((getM (q0 : Int) s.1).getD [] ++ bit1 j) s.1) :: R')[h.length + (i' + 1)]? = some (.row none (ys.map fun n : Nat=>eI n) 0):=by
          rw [List.getElem?_append_right (by omega)]; simpa using jg
        have hi' : i' < R'.length:=lt_of_get jg
        refine nq_one hh1 jle (by omega) ?_ ?_
        · refine ⟨(j + 1, R'.set i' (.row none (ys.map (fun n : Nat => eI n) ++ [eI (nxt q0 j)]) 0), i', ys ++ [nxt q0 j], of'), ?_, ⟨by dsimp only; omega, ⟨?_, ?_, ?_⟩, ?_⟩, by dsimp only; omega⟩
          · dsimp only
            rw [hvis,List.set_append_right _ _ (by omega)]
            simp only [List.length_append,List.length_cons,List.length_nil,Nat.add_sub_cancel_left,List.set_cons_succ]
            rw [show ys.length + 1 - of' = ys.length - of' + 1 by omega]
          · dsimp only
            rw [List.getElem?_set_self hi']; simp
          · simp; omega
          · dsimp only
            rw [hvis,List.drop_append_of_le_length jle,jeq]
          · simp; omega
        · refine ⟨(j + 1, R' ++ [.row none ((ys.drop of').map (fun n : Nat => eI n) ++ [eI (nxt q0 j)]) 0], R'.length, ys.drop of' ++ [nxt q0 j], 0), ?_, ⟨by dsimp only; omega, ⟨?_, ?_, ?_⟩, ?_⟩, by dsimp only; omega⟩
          · dsimp only
            rw [hvis]
            simp
          · simp
          · simp
          · dsimp only
            rw [hvis,jeq,List.drop_zero]
          · simp; omega
    · have hj2 : j = 2 := by omega
      subst hj2
      simp only [go_sem]
      refine ⟨(k + 1,R',i',ys,of',some q0),?_,⟨by dsimp only; omega,by dsimp only; rw [hbn]; exact jq,by dsimp only; omega⟩,by dsimp only; omega⟩
      dsimp only
      rw [hbn]
  · have hk16 : k = 16 := by omega
    subst hk16
    obtain ⟨_,hne⟩:=bfs_end ha
    have hz : xs.length - off = 0:=by rw [hln,hne]; rfl
    have lk:=fun (hp : Heap) (hh : hp[h.length]? = some (mobj keyP valP (bfs a 16).1))=>lookP (b:=(b : Int)) hh
    have hpv : (getM (b : Int) (bfs a 16).1).getD [] = pathV a b:=rfl
    rcases oq with _ | oq <;> simp only [List.append_nil,List.cons_append,List.nil_append,go_sem,hz,lk,hpv]
end Go.Am
end
section
/- ready: a closed call,computed. -/
open Go
set_option linter.all false
namespace Go.Am
def orcP (f : Nat) (a : List AV) : Option AV:=bif Nat.beq f f_q08g then match a with
  | [.p (.int .i64 x),.p (.int .i64 y)]=>bif decide (0 ≤ x) && decide (x < 16) && decide (0 ≤ y) && decide (y < 16) then some (.p (.str (pathV x.toNat y.toNat))) else none
  | _=>none else none
theorem orcP_ok : ∀ f a v,orcP f a = some v → ∀ h (K : Post),K v h [] → ACall X0 f a h K:=by
  intro f a v hv h K hK
  unfold orcP at hv
  cases hf : Nat.beq f f_q08g with
  | false=>rw [hf] at hv; cases hv
  | true=>
    have hf':=Nat.eq_of_beq_eq_true hf
    rw [hf] at hv
    subst hf'
    simp only [cond_true] at hv
    split at hv
    · rename_i x y
      cases hc : (decide (0 ≤ x) && decide (x < 16) && decide (0 ≤ y) && decide (y < 16)) with
      | false=>rw [hc] at hv; cases hv
      | true=>
        rw [hc] at hv
        simp only [cond_true,Option.some.injEq] at hv
        simp only [Bool.and_eq_true,decide_eq_true_eq] at hc
        obtain ⟨a,rfl⟩:=Int.eq_ofNat_of_zero_le hc.1.1.1
        obtain ⟨b,rfl⟩:=Int.eq_ofNat_of_zero_le hc.1.2
        have:=g_path (h:=h) (K:=K) x0_tap_path x0_tap_next a b (by omega) (by omega)
        rw [this]
        subst hv
        exact hK
    · cases hv
theorem ready_ev : evCallO X0 orcP 1000 60 f_q03p [] [] = some (AB true,[],[]):=by kernel_rfl
theorem ready_true : ACall X0 f_q03p [] [] fun v h x=>v = AB true ∧ h = [] ∧ x = []:=(ACall_evO orcP_ok 1000 60 ready_ev _).2 ⟨rfl,rfl,rfl⟩
theorem s_ready {h : Heap} {K : Post} : ACall X f_q03p [] h K = K (AB true) h []:=lib_call (by kernel_rfl) rfl
end Go.Am
end
section
/- Plain laws of fractions in lowest terms. -/
namespace Go.Am
def low (a b : Int) : Int × Int:=(a.tdiv (Int.gcd a b),b.tdiv (Int.gcd a b))
theorem gcd_pos (a b : Int) (hb : 0 < b) : 0 < (Int.gcd a b : Int):=by
  have : Int.gcd a b ≠ 0:=by
    intro h
    have:=(Int.gcd_eq_zero_iff.1 h).2
    omega
  omega
theorem low_num (a b : Int) : (low a b).1 * (Int.gcd a b : Int) = a:=by
  unfold low
  exact Int.tdiv_mul_cancel (Int.gcd_dvd_left ..)
theorem low_den (a b : Int) : (low a b).2 * (Int.gcd a b : Int) = b:=by
  unfold low
  exact Int.tdiv_mul_cancel (Int.gcd_dvd_right ..)
theorem low_den_pos (a b : Int) (hb : 0 < b) : 0 < (low a b).2:=by
  have h1:=low_den a b
  have h2:=gcd_pos a b hb
  rcases Int.lt_trichotomy (low a b).2 0 with h | h | h
  · have:=Int.mul_neg_of_neg_of_pos h h2; omega
  · rw [h] at h1; omega
  · exact h
theorem low_den_le (a b : Int) (hb : 0 < b) : (low a b).2 ≤ b:=by
  have h1:=low_den a b
  have h2:=gcd_pos a b hb
  have h3:=low_den_pos a b hb
  have : (low a b).2 * 1 ≤ (low a b).2 * (Int.gcd a b : Int):=Int.mul_le_mul_of_nonneg_left (by omega) (by omega)
  omega
theorem sign_mul_pos (x c : Int) (hc : 0 < c) : (x * c).sign = x.sign:=by
  rw [Int.sign_mul,Int.sign_eq_one_of_pos hc,Int.mul_one]
theorem sign_low (s z a b : Int) (hb : 0 < b) : (s * (low a b).2 - (low a b).1 * z).sign = (s * b - a * z).sign:=by
  have h1:=low_num a b
  have h2:=low_den a b
  have h3:=gcd_pos a b hb
  rw [← sign_mul_pos (s * (low a b).2 - (low a b).1 * z) (Int.gcd a b : Int) h3]
  congr 1
  rw [Int.sub_mul,Int.mul_assoc,h2,Int.mul_assoc,Int.mul_comm z,← Int.mul_assoc,h1]
theorem low_abs (a b : Int) (hb : 0 < b) : (low a b).1.natAbs ≤ a.natAbs:=by
  have h1:=low_num a b
  have h2:=gcd_pos a b hb
  have h3 : ((low a b).1 * (Int.gcd a b : Int)).natAbs = a.natAbs:=by rw [h1]
  rw [Int.natAbs_mul] at h3
  rw [← h3]
  exact Nat.le_mul_of_pos_right _ (by omega)
end Go.Am
end
section
/- Small functions of numbers and of lists of numbers. -/
open Go
namespace Go.Am
variable {h : Heap} {K : Post}
theorem s_Out (n a b : Int) : ACall X f_q008 [AI n,AI a,AI b] h K = K (AB (decide (n < a) || decide (b < n))) h []:=by
  refine rule ?_
  rw [c_q008 rfl]
  by_cases h1 : n < a <;> simp only [d_q008,go_sem,h1]
theorem out_eq (n a b : Int) : (decide (n < a) || decide (b < n)) = !(decide (a ≤ n) && decide (n ≤ b)):=by
  rw [Bool.eq_iff_iff]; simp
theorem gcd_step (a b : Int) : Int.gcd b (a.tmod b) = Int.gcd a b:=by
  unfold Int.gcd
  rw [Int.natAbs_tmod,Nat.gcd_comm,← Nat.gcd_rec,Nat.gcd_comm]
theorem s_Gcd (a b : Int) (ha : 0 ≤ a) (hb : 0 ≤ b) : ACall X f_q005 [AI a,AI b] h K = K (AI (Int.gcd a b)) h []:=by
  refine rule ?_
  rw [c_q005 rfl]
  simp only [d_q005,go_sem]
  refine N_loop (fun t : Int × Int=>⟨[(0,AI t.1),(1,AI t.2)],h,[]⟩) (fun t=>0 ≤ t.1 ∧ 0 ≤ t.2 ∧ Int.gcd t.1 t.2 = Int.gcd a b) (fun t=>t.2.toNat) (a,b) rfl ⟨ha,hb,rfl⟩ ?_
  rintro ⟨u,v⟩ ⟨h1,h2,h3⟩
  dsimp only at h1 h2 h3
  by_cases hv : v = 0
  · subst hv
    simp only [go_sem]
    rw [← h3]; simp; omega
  · simp only [go_sem, hv]
    exact ⟨(v,u.tmod v),rfl,⟨h2,Int.tmod_nonneg _ h1,by rw [gcd_step]; exact h3⟩,by have:=Int.tmod_lt_of_pos u (show 0 < v by omega); dsimp only; omega⟩
theorem s_Fraction (a b : Int) (ha : -9223372036854775807 ≤ a ∧ a ≤ 9223372036854775807) (hb : 0 < b ∧ b ≤ 9223372036854775807) : ACall X f_q004 [AI a,AI b] h K = K (.p (.agg [eI (low a b).1,eI (low a b).2])) h []:=by
  refine rule ?_
  rw [c_q004 rfl]
  have w : IntKind.i64.wrap (-a) = -a:=i64_wrap _ (by omega) (by omega)
  have e : Int.gcd (max a (-a)) b = Int.gcd a b:=by
    rcases Int.le_total 0 a with h | h
    · rw [show max a (-a) = a by omega]
    · rw [show max a (-a) = -a by omega,Int.neg_gcd]
  have hg:=gcd_pos a b hb.1
  have hd:=low_den_le a b hb.1
  have hp:=low_den_pos a b hb.1
  have hn:=low_abs a b hb.1
  have w1 : IntKind.i64.wrap (a.tdiv (Int.gcd a b)) = (low a b).1:=i64_wrap (low a b).1 (by omega) (by omega)
  have w2 : IntKind.i64.wrap (b.tdiv (Int.gcd a b)) = (low a b).2:=i64_wrap (low a b).2 (by omega) (by omega)
  have e0 : ((Int.gcd a b : Int) = 0) = False:=by simp only [eq_iff_iff,iff_false]; omega
  simp only [d_q004,go_sem,w,s_Gcd (max a (-a)) b (by omega) (by omega),e,e0,w1,w2]
theorem u64_wrap (n : Int) (h1 : 0 ≤ n) (h2 : n < 18446744073709551616) : IntKind.u64.wrap n = n:=by
  simp [IntKind.wrap,IntKind.bits,IntKind.signed]; omega
theorem u64_mod (n : Int) : IntKind.u64.wrap n = n % 18446744073709551616:=by
  simp [IntKind.wrap,IntKind.bits,IntKind.signed]
theorem u64_lo (a : Int) (h1 : 0 ≤ a) (h2 : a < 18446744073709551616) : iand .u64 a 4294967295 = a % 4294967296:=by
  obtain ⟨n,rfl⟩:=Int.eq_ofNat_of_zero_le h1
  have e : (BitVec.ofInt IntKind.u64.bits (n : Int) &&& BitVec.ofInt IntKind.u64.bits 4294967295).toNat = n % 4294967296:=by
    rw [BitVec.toNat_and]
    have e1 : (BitVec.ofInt IntKind.u64.bits (n : Int)).toNat = n:=by
      show (BitVec.ofInt 64 (n : Int)).toNat = n
      rw [BitVec.toNat_ofInt]; omega
    have e2 : (BitVec.ofInt IntKind.u64.bits (4294967295 : Int)).toNat = 2 ^ 32 - 1:=by decide
    rw [e1,e2,Nat.and_two_pow_sub_one_eq_mod]
  unfold iand
  rw [e,u64_wrap _ (by omega) (by omega)]
  omega
theorem u64_hi (a : Int) : ishr .u64 a 32 = a / 4294967296:=by
  unfold ishr
  rw [show (2 : Int) ^ (min (32 : Int).toNat IntKind.u64.bits) = 4294967296 by decide,Int.fdiv_eq_ediv_of_nonneg _ (by omega)]
abbrev AU (n : Int) : AV:=.p (.int .u64 n)
theorem mul_bd {a b A B : Int} (h1 : 0 ≤ a) (h2 : a ≤ A) (h3 : 0 ≤ b) (h4 : b ≤ B) : 0 ≤ a * b ∧ a * b ≤ A * B:=
  ⟨Int.mul_nonneg h1 h3,Int.mul_le_mul h2 h4 h3 (by omega)⟩
theorem s_Mul64 (x y : Int) (hx : 0 ≤ x) (hx2 : x < 18446744073709551616) (hy : 0 ≤ y) (hy2 : y < 18446744073709551616) : ACall X f_q03c [AU x,AU y] h K = K (.tup [AU (x * y / 18446744073709551616),AU (x * y % 18446744073709551616)]) h []:=by
  refine rule ?_
  rw [c_q03c rfl]
  have b1:=mul_bd (show 0 ≤ x % 4294967296 by omega) (show x % 4294967296 ≤ 4294967295 by omega) (show 0 ≤ y % 4294967296 by omega) (show y % 4294967296 ≤ 4294967295 by omega)
  have b2:=mul_bd (show 0 ≤ x / 4294967296 by omega) (show x / 4294967296 ≤ 4294967295 by omega) (show 0 ≤ y % 4294967296 by omega) (show y % 4294967296 ≤ 4294967295 by omega)
  have b3:=mul_bd (show 0 ≤ x % 4294967296 by omega) (show x % 4294967296 ≤ 4294967295 by omega) (show 0 ≤ y / 4294967296 by omega) (show y / 4294967296 ≤ 4294967295 by omega)
  have b4:=mul_bd (show 0 ≤ x / 4294967296 by omega) (show x / 4294967296 ≤ 4294967295 by omega) (show 0 ≤ y / 4294967296 by omega) (show y / 4294967296 ≤ 4294967295 by omega)
  have e : x * y = (x / 4294967296 * (y / 4294967296)) * 18446744073709551616 + (x / 4294967296 * (y % 4294967296) + x % 4294967296 * (y / 4294967296)) * 4294967296 + x % 4294967296 * (y % 4294967296):=by
    have hx':=Int.mul_ediv_add_emod x 4294967296
    have hy':=Int.mul_ediv_add_emod y 4294967296
    generalize x / 4294967296 = x1 at *
    generalize y / 4294967296 = y1 at *
    generalize x % 4294967296 = x0 at *
    generalize y % 4294967296 = y0 at *
    subst hx'; subst hy'
    simp only [Int.add_mul,Int.mul_add]
    have q1 : 4294967296 * x1 * (4294967296 * y1) = x1 * y1 * 18446744073709551616:=by rw [Int.mul_assoc,Int.mul_left_comm x1,← Int.mul_assoc,Int.mul_comm]; simp only [Int.reduceMul]
    have q2 : 4294967296 * x1 * y0 = x1 * y0 * 4294967296:=by rw [Int.mul_assoc,Int.mul_comm]
    have q3 : x0 * (4294967296 * y1) = x0 * y1 * 4294967296:=by rw [← Int.mul_assoc,Int.mul_comm x0,Int.mul_assoc,Int.mul_comm]
    rw [q1,q2,q3]
    omega
  simp only [d_q03c,go_sem,u64_hi]
  rw [u64_lo x hx hx2,u64_lo y hy hy2]
  generalize x / 4294967296 = x1 at *
  generalize y / 4294967296 = y1 at *
  generalize x % 4294967296 = x0 at *
  generalize y % 4294967296 = y0 at *
  generalize x0 * y0 = p00 at *
  generalize x1 * y0 = p10 at *
  generalize x0 * y1 = p01 at *
  generalize x1 * y1 = p11 at *
  rw [u64_wrap p00 (by omega) (by omega),u64_wrap p10 (by omega) (by omega),u64_wrap p01 (by omega) (by omega),u64_wrap p11 (by omega) (by omega),
    u64_wrap (p10 + p00 / 4294967296) (by omega) (by omega),u64_lo (p10 + p00 / 4294967296) (by omega) (by omega),u64_wrap ((p10 + p00 / 4294967296) % 4294967296 + p01) (by omega) (by omega),
    u64_wrap (p11 + (p10 + p00 / 4294967296) / 4294967296) (by omega) (by omega),u64_wrap (p11 + (p10 + p00 / 4294967296) / 4294967296 + ((p10 + p00 / 4294967296) % 4294967296 + p01) / 4294967296) (by omega) (by omega),u64_mod]
  simp only [AV.tup.injEq,List.cons.injEq,AV.p.injEq,PV.int.injEq,and_true,true_and]
  omega
def cmp3 (x y : Int) : Int:=if x < y then -1 else if x = y then 0 else 1
theorem cmp3_sign (x y : Int) : cmp3 x y = (x - y).sign:=by
  unfold cmp3
  rcases Int.lt_trichotomy x y with h | h | h
  · rw [if_pos h,Int.sign_eq_neg_one_of_neg (by omega)]
  · rw [if_neg (by omega),if_pos h,h]; simp
  · rw [if_neg (by omega),if_neg (by omega),Int.sign_eq_one_of_pos (by omega)]
theorem s_CompareProducts (a b c d : Int) : ACall X f_q002 [AI a,AI b,AI c,AI d] h K = K (AI (cmp3 ((a % 18446744073709551616) * (b % 18446744073709551616)) ((c % 18446744073709551616) * (d % 18446744073709551616)))) h []:=by
  refine rule ?_
  rw [c_q002 rfl]
  have m1:=fun h K=>s_Mul64 (h:=h) (K:=K) (a % 18446744073709551616) (b % 18446744073709551616) (by omega) (by omega) (by omega) (by omega)
  have m2:=fun h K=>s_Mul64 (h:=h) (K:=K) (c % 18446744073709551616) (d % 18446744073709551616) (by omega) (by omega) (by omega) (by omega)
  generalize (a % 18446744073709551616) * (b % 18446744073709551616) = p at *
  generalize (c % 18446744073709551616) * (d % 18446744073709551616) = q at *
  have hp:=Int.mul_ediv_add_emod p 18446744073709551616
  have hq:=Int.mul_ediv_add_emod q 18446744073709551616
  by_cases h1 : p / 18446744073709551616 = q / 18446744073709551616
  · by_cases h2 : p % 18446744073709551616 < q % 18446744073709551616
    · simp only [d_q002, go_sem, u64_mod, m1, m2, h1, h2]
      unfold cmp3; rw [if_pos (by omega)]
    · by_cases h3 : p % 18446744073709551616 = q % 18446744073709551616
      · simp only [d_q002, go_sem, u64_mod, m1, m2, h1, h3, Int.lt_irrefl]
        unfold cmp3; rw [if_neg (by omega),if_pos (by omega)]
      · simp only [d_q002, go_sem, u64_mod, m1, m2, h1, h2, h3]
        unfold cmp3; rw [if_neg (by omega),if_neg (by omega)]
  · by_cases h2 : p / 18446744073709551616 < q / 18446744073709551616
    · simp only [d_q002, go_sem, u64_mod, m1, m2, h1, h2]
      unfold cmp3; rw [if_pos (by omega)]
    · simp only [d_q002, go_sem, u64_mod, m1, m2, h1, h2]
      unfold cmp3; rw [if_neg (by omega),if_neg (by omega)]
end Go.Am
end
section
/- Functions of lists. -/
open Go
namespace Go.Am
variable {h : Heap} {K : Post}
theorem s_isNaN (a : Int) : ACall X f_q00w [AI a] h K = K (AB false) h []:=by
  refine rule ?_
  rw [c_q00w rfl]
  simp only [d_q00w,go_sem]
theorem s_cmpCompare (a b : Int) : ACall X f_q00s [AI a,AI b] h K = K (AI (cmp3 a b)) h []:=by
  refine rule ?_
  rw [c_q00s rfl]
  unfold cmp3
  by_cases h1 : a < b
  · simp only [d_q00s,go_sem,s_isNaN,h1]
  · by_cases h2 : b < a
    · simp only [d_q00s,go_sem,s_isNaN,h1,h2,show ¬ a = b by omega]
    · simp only [d_q00s,go_sem,s_isNaN,h1,h2,show a = b by omega,Int.lt_irrefl]
theorem s_Compare0 (a b c d : Int) (ha : -9223372036854775808 < a ∧ a ≤ 9223372036854775807) (hb : 0 < b ∧ b ≤ 9223372036854775807) (hc : -9223372036854775808 < c ∧ c ≤ 9223372036854775807) (hd : 0 < d ∧ d ≤ 9223372036854775807) (hn : ¬ (a < 0 ∧ c < 0)) :
    ACall X f_q001 [.p (.agg [eI a,eI b]),.p (.agg [eI c,eI d])] h K = K (AI (cmp3 (a * d) (c * b))) h []:=by
  refine rule ?_
  rw [c_q001 rfl]
  by_cases h1 : a < 0
  · have h2 : ¬ c < 0 := by omega
    have e : cmp3 a c = cmp3 (a * d) (c * b):=by
      have q1 : a * d < 0:=Int.mul_neg_of_neg_of_pos h1 hd.1
      have q2 : 0 ≤ c * b:=Int.mul_nonneg (by omega) (by omega)
      unfold cmp3; rw [if_pos (by omega),if_pos (by omega)]
    simp only [d_q001,go_sem,h1,h2,s_cmpCompare,e]
  · by_cases h2 : c < 0
    · have e : cmp3 a c = cmp3 (a * d) (c * b):=by
        have q1 : c * b < 0:=Int.mul_neg_of_neg_of_pos h2 hb.1
        have q2 : 0 ≤ a * d:=Int.mul_nonneg (by omega) (by omega)
        unfold cmp3; rw [if_neg (by omega),if_neg (by omega),if_neg (by omega),if_neg (by omega)]
      simp only [d_q001,go_sem,h1,h2,s_cmpCompare,e]
    · have e1 : a % 18446744073709551616 = a := by omega
      have e2 : b % 18446744073709551616 = b:=by omega
      have e3 : c % 18446744073709551616 = c:=by omega
      have e4 : d % 18446744073709551616 = d:=by omega
      simp only [d_q001,go_sem,h1,h2,s_CompareProducts,e1,e2,e3,e4]
theorem s_Compare (a b c d : Int) (ha : -9223372036854775808 < a ∧ a ≤ 9223372036854775807) (hb : 0 < b ∧ b ≤ 9223372036854775807) (hc : -9223372036854775808 < c ∧ c ≤ 9223372036854775807) (hd : 0 < d ∧ d ≤ 9223372036854775807) :
    ACall X f_q001 [.p (.agg [eI a,eI b]),.p (.agg [eI c,eI d])] h K = K (AI (a * d - c * b).sign) h []:=by
  rw [← cmp3_sign]
  by_cases hn : a < 0 ∧ c < 0
  · refine rule ?_
    rw [c_q001 rfl]
    have w1 : IntKind.i64.wrap (-a) = -a:=i64_wrap _ (by omega) (by omega)
    have w2 : IntKind.i64.wrap (-c) = -c:=i64_wrap _ (by omega) (by omega)
    have e : cmp3 (-c * b) (-a * d) = cmp3 (a * d) (c * b):=by
      rw [Int.neg_mul,Int.neg_mul]; unfold cmp3
      rcases Int.lt_trichotomy (a * d) (c * b) with h | h | h
      · rw [if_pos (by omega),if_pos (by omega)]
      · rw [if_neg (by omega),if_pos (by omega),if_neg (by omega),if_pos (by omega)]
      · rw [if_neg (by omega),if_neg (by omega),if_neg (by omega),if_neg (by omega)]
    simp only [d_q001,go_sem,hn.1,hn.2,w1,w2,s_Compare0 (-c) d (-a) b (by omega) hd (by omega) hb (by omega),e]
  · exact s_Compare0 a b c d ha hb hc hd hn
theorem sum_take_succ (l : List Int) (k : Nat) (hk : k < l.length) : (l.take (k + 1)).sum = (l.take k).sum + l[k]:=by
  rw [List.take_succ_eq_append_getElem hk,List.sum_append]; simp
theorem sum_bd (l : List Int) (a b : Int) (hv : ∀ n ∈ l,a ≤ n ∧ n ≤ b) : (l.length : Int) * a ≤ l.sum ∧ l.sum ≤ (l.length : Int) * b:=by
  induction l with
  | nil=>simp
  | cons x r ih=>
    obtain ⟨i1,i2⟩:=ih (fun n hn=>hv n (by simp [hn]))
    obtain ⟨x1,x2⟩:=hv x (by simp)
    simp only [List.length_cons,List.sum_cons,Int.natCast_add,Int.add_mul]
    omega
theorem sum_bd' {l : List Int} {B : Int} (hv : ∀ n ∈ l,-B ≤ n ∧ n ≤ B) {N : Nat} (hl : l.length ≤ N) (hB : 0 ≤ B) : -(N * B) ≤ l.sum ∧ l.sum ≤ N * B:=by
  obtain ⟨h1,h2⟩:=sum_bd l (-B) B hv
  have : (l.length : Int) * B ≤ N * B:=Int.mul_le_mul_of_nonneg_right (by omega) hB
  rw [Int.mul_neg] at h1
  omega
theorem sum_bd_take {l : List Int} {B : Int} (hv : ∀ n ∈ l,-B ≤ n ∧ n ≤ B) {N : Nat} (hl : l.length ≤ N) (hB : 0 ≤ B) (k : Nat) : -(N * B) ≤ (l.take k).sum ∧ (l.take k).sum ≤ N * B:=
  sum_bd' (fun n hn=>hv n (List.mem_of_mem_take hn)) (by simp; omega) hB
theorem total_of {f : Nat} (hf : X.fn f = some a_q033) (l : List Int) (hl : l.length ≤ 1000000) (hv : ∀ n ∈ l,-1000000000000 ≤ n ∧ n ≤ 1000000000000) : ACall X f [AL l] h K = K (AI l.sum) h []:=by
  refine rule ?_
  rw [call_val (F:=a_q033) hf rfl rfl rfl]
  show NW _ _ a_q033.body ⟨enter [AL l],h,[]⟩ (finR [.t 2] false h.length _)
  rw [e_q033]
  simp only [d_q033,go_sem]
  refine N_loop (fun k : Nat=>⟨[(3,AI (l.take k).sum),(6,AL l),(7,AI l.length),(8,AI k)],h,[]⟩) (fun k=>k ≤ l.length) (fun k=>l.length - k) 0 rfl (by simp) ?_
  intro k hk
  rcases Nat.lt_or_ge k l.length with hlt | hge
  · have b := sum_bd_take hv hl (by omega) (k + 1)
    have e:=sum_take_succ l k hlt
    have hg:=map_get eI hlt
    have w1 : IntKind.i64.wrap ((l.take k).sum + l[k]) = (l.take (k + 1)).sum:=by rw [← e]; exact i64_wrap _ (by omega) (by omega)
    have w2 : IntKind.i64.wrap ((k : Int) + 1) = ((k + 1 : Nat) : Int):=i64_wrap _ (by omega) (by omega)
    simp only [go_sem,hlt,hg,w1,w2]
    exact ⟨k + 1,rfl,by omega,by omega⟩
  · have : k = l.length := by omega
    subst this
    simp only [go_sem,Nat.lt_irrefl,List.take_length]
theorem s_total (l : List Int) (hl : l.length ≤ 1000000) (hv : ∀ n ∈ l,-1000000000000 ≤ n ∧ n ≤ 1000000000000) : ACall X f_q033 [AL l] h K = K (AI l.sum) h []:=total_of (by kernel_rfl) l hl hv
def maxL (l : List Int) : Int:=l.tail.foldl max (l.headD 0)
def minL (l : List Int) : Int:=l.tail.foldl min (l.headD 0)
theorem foldl_bd {f : Int → Int → Int} (hf : ∀ a b,f a b = a ∨ f a b = b) : ∀ (l : List Int) (x : Int),l.foldl f x = x ∨ l.foldl f x ∈ l
  | [],x=>.inl rfl
  | y :: r,x=>by
    simp only [List.foldl_cons,List.mem_cons]
    rcases foldl_bd hf r (f x y) with h | h
    · rcases hf x y with h2 | h2
      · rw [h2] at h ⊢; exact .inl h
      · rw [h2] at h ⊢; exact .inr (.inl h)
    · exact .inr (.inr h)
theorem maxL_mem {l : List Int} (hl : l ≠ []) : maxL l ∈ l:=by
  cases l with
  | nil=>exact absurd rfl hl
  | cons x r=>
    unfold maxL
    rcases foldl_bd (f:=max) (fun a b=>by omega) r x with h | h
    · simp only [List.tail_cons,List.headD_cons]; rw [h]; simp
    · simp only [List.tail_cons,List.headD_cons]; exact List.mem_cons_of_mem _ h
theorem minL_mem {l : List Int} (hl : l ≠ []) : minL l ∈ l:=by
  cases l with
  | nil=>exact absurd rfl hl
  | cons x r=>
    unfold minL
    rcases foldl_bd (f:=min) (fun a b=>by omega) r x with h | h
    · simp only [List.tail_cons,List.headD_cons]; rw [h]; simp
    · simp only [List.tail_cons,List.headD_cons]; exact List.mem_cons_of_mem _ h
theorem s_Max (l : List Int) (hl : 1 ≤ l.length) (hl2 : l.length ≤ 1000000000) : ACall X f_q05p [AL l] h K = K (AI (maxL l)) h []:=by
  refine rule ?_
  rw [c_q05p rfl]
  have h1 : ((l.length : Int) < 1) = False:=by simp only [eq_iff_iff,iff_false]; omega
  have h2:=map_get eI (show 0 < l.length by omega)
  simp only [d_q05p,go_sem,h1,h2]
  refine N_loop (fun k : Nat=>⟨[(0,AL l),(3,AI ((l.take (k + 1)).tail.foldl max (l.headD 0))),(4,AI ((k + 1 : Nat) : Int))],h,[]⟩) (fun k=>k + 1 ≤ l.length) (fun k=>l.length - (k + 1)) 0 ?_ (by omega) ?_
  · cases l with
    | nil=>simp at hl
    | cons x r=>simp
  intro k hk
  rcases Nat.lt_or_ge (k + 1) l.length with hlt | hge
  · have e : (l.take (k + 1 + 1)).tail.foldl max (l.headD 0) = max ((l.take (k + 1)).tail.foldl max (l.headD 0)) l[k + 1]:=by
      cases l with
      | nil=>simp at hlt
      | cons x r=>
        simp only [List.take_succ_cons,List.tail_cons,List.headD_cons,List.getElem_cons_succ]
        rw [List.take_succ_eq_append_getElem (by simpa using hlt),List.foldl_append]; rfl
    have hg:=map_get eI hlt
    have w2 : IntKind.i64.wrap (((k + 1 : Nat) : Int) + 1) = ((k + 1 + 1 : Nat) : Int):=i64_wrap _ (by omega) (by omega)
    simp only [go_sem,hlt,hg,w2]
    exact ⟨k + 1,by rw [e],by omega,by omega⟩
  · have : k + 1 = l.length := by omega
    rw [this]
    simp only [go_sem,Nat.lt_irrefl,List.take_length]
    rfl
theorem s_Min (l : List Int) (hl : 1 ≤ l.length) (hl2 : l.length ≤ 1000000000) : ACall X f_q05q [AL l] h K = K (AI (minL l)) h []:=by
  refine rule ?_
  rw [c_q05q rfl]
  have h1 : ((l.length : Int) < 1) = False:=by simp only [eq_iff_iff,iff_false]; omega
  have h2:=map_get eI (show 0 < l.length by omega)
  simp only [d_q05q,go_sem,h1,h2]
  refine N_loop (fun k : Nat=>⟨[(0,AL l),(3,AI ((l.take (k + 1)).tail.foldl min (l.headD 0))),(4,AI ((k + 1 : Nat) : Int))],h,[]⟩) (fun k=>k + 1 ≤ l.length) (fun k=>l.length - (k + 1)) 0 ?_ (by omega) ?_
  · cases l with
    | nil=>simp at hl
    | cons x r=>simp
  intro k hk
  rcases Nat.lt_or_ge (k + 1) l.length with hlt | hge
  · have e : (l.take (k + 1 + 1)).tail.foldl min (l.headD 0) = min ((l.take (k + 1)).tail.foldl min (l.headD 0)) l[k + 1]:=by
      cases l with
      | nil=>simp at hlt
      | cons x r=>
        simp only [List.take_succ_cons,List.tail_cons,List.headD_cons,List.getElem_cons_succ]
        rw [List.take_succ_eq_append_getElem (by simpa using hlt),List.foldl_append]; rfl
    have hg:=map_get eI hlt
    have w2 : IntKind.i64.wrap (((k + 1 : Nat) : Int) + 1) = ((k + 1 + 1 : Nat) : Int):=i64_wrap _ (by omega) (by omega)
    simp only [go_sem,hlt,hg,w2]
    exact ⟨k + 1,by rw [e],by omega,by omega⟩
  · have : k + 1 = l.length := by omega
    rw [this]
    simp only [go_sem,Nat.lt_irrefl,List.take_length]
    rfl
theorem s_EqualI (l m : List Int) (hl : l.length ≤ 1000000000) : ACall X f_q05g [AL l,AL m] h K = K (AB (decide (l = m))) h []:=by
  refine rule ?_
  rw [c_q05g rfl]
  by_cases hlen : l.length = m.length
  · simp only [d_q05g, go_sem, hlen]
    refine N_loop (fun k : Nat=>⟨[(0,AL l),(1,AL m),(12,AI m.length),(13,AI k)],h,[]⟩) (fun k=>k ≤ m.length ∧ l.take k = m.take k) (fun k=>m.length - k) 0 rfl (by simp) ?_
    rintro k ⟨hk,hp⟩
    rcases Nat.lt_or_ge k m.length with hlt | hge
    · have hg1 := map_get eI (show k < l.length by omega)
      have hg2:=map_get eI hlt
      have w2 : IntKind.i64.wrap ((k : Int) + 1) = ((k + 1 : Nat) : Int):=i64_wrap _ (by omega) (by omega)
      by_cases he : l[k] = m[k]
      · simp only [go_sem, hlt, hg1, hg2, w2, he]
        exact ⟨k + 1,rfl,⟨by omega,by rw [List.take_succ_eq_append_getElem (by omega),List.take_succ_eq_append_getElem hlt,hp,he]⟩,by omega⟩
      · simp only [go_sem, hlt, hg1, hg2, w2, he]
        have : ¬ l = m:=fun h=>he (by simp only [h])
        simp [this]
    · have e1 : k = m.length := by omega
      have e2 : l = m:=by rw [← List.take_length (l:=l),← List.take_length (l:=m),hlen,← e1,hp]
      subst e1
      simp only [go_sem,Nat.lt_irrefl]
      simp [e2]
  · have e1 : ((l.length : Int) = m.length) = False := by simp only [eq_iff_iff, iff_false]; omega
    simp only [d_q05g,go_sem,e1]
    have : ¬ l = m:=fun h=>hlen (by rw [h])
    simp [this]
def Tells (g : Nat) (caps : List AV) (p : PV → Bool) (xs : List PV) (h : Heap) : Prop:=∀ x ∈ xs,∀ K : Post,ACall X g (.p x :: caps) h K = K (AB (p x)) h []
def idxP (p : PV → Bool) (xs : List PV) : Int:=if xs.findIdx p < xs.length then (xs.findIdx p : Int) else -1
theorem idxP_any (p : PV → Bool) (xs : List PV) : decide (0 ≤ idxP p xs) = xs.any p:=by
  unfold idxP
  rw [Bool.eq_iff_iff]
  by_cases h : xs.findIdx p < xs.length
  · rw [if_pos h]; simp only [decide_eq_true_eq, List.any_eq_true]
    exact ⟨fun _=>⟨_,List.getElem_mem h,List.findIdx_getElem⟩,fun _=>by omega⟩
  · rw [if_neg h]; simp only [decide_eq_true_eq, List.any_eq_true]
    refine ⟨fun h=>by omega,fun ⟨x,hx,hp⟩=>absurd (List.findIdx_lt_length_of_exists ⟨x,hx,hp⟩) h⟩
def firstErr : List Int → Int
  | []=>0
  | e :: r=>if e = 0 then firstErr r else e
end Go.Am
end
section
/- Plain lists: insertion sort asv Go's package slices does it on short lists; deleting; compacting. -/
namespace Go.Am
variable {α : Type}
end Go.Am
namespace Go.Am
variable {α : Type}
end Go.Am
end
section
/- Values of a shape: loads and stores in rows. -/
open Go
namespace Go.Am
variable {h : Heap} {K : Post}
theorem shp_cut {sh : Sh} {x : PV} (hx : x.shp sh = true) : cutP sh 0 x = some x:=by
  cases sh with
  | none=>exact cutP_sc hx
  | some n=>
    cases x with
    | agg cs=>
      simp only [PV.shp,Bool.and_eq_true,beq_iff_eq] at hx
      simp [cutP,hx.1]
      exact List.take_of_length_le (by omega)
    | _=>cases hx
def shps (sh : Sh) (xs : List PV) : Prop:=∀ x ∈ xs,x.shp sh = true
theorem shps_get {sh : Sh} {xs : List PV} (hx : shps sh xs) {i : Nat} (hi : i < xs.length) : xs[i].shp sh = true:=hx _ (List.getElem_mem hi)
structure Shows (sh : Sh) (v : AV) (xs : List PV) (h : Heap) : Prop where
  len : oLen v = some (AI xs.length)
  get : ∀ (k : Nat) (hk : k < xs.length),∃ a,oIaddr sh v (AI k) h = some a ∧ oLoad sh a h = some (.p xs[k])
theorem shows_sl {sh : Sh} {xs : List PV} (hs : shps sh xs) : Shows sh (.p (.sl sh xs)) xs h:=by
  refine ⟨rfl,fun k hk=>⟨.vp xs[k],?_,?_⟩⟩
  · simp [oIaddr,natOf,hk]
  · simp only [load_vp,shp_cut (shps_get hs hk)]; rfl
end Go.Am
end
section
/- Rows that are handed to a function: it sees their values. -/
open Go
namespace Go.Am
theorem arg_pur {X : Ctx} {f : Nat} {F : AFun} {a : List AV} {vs : List PV} {h h1 : Heap} {P : Post} (hf : X.fn f = some F) (hr : F.byref = false) (hp : puras h a = some (vs.map .p,h1)) (hq : puras h1 (vs.map .p) = some (vs.map .p,h1)) (hl : vs.length = F.nparams) (hlen : h1.length = h.length) : ACall X f a h P = ACall X f (vs.map .p) h1 P:=by
  cases hd : F.isDet with
  | false=>rw [call_val hf hr hp (by simpa using hl) hd,call_val hf hr hq (by simpa using hl) hd,hlen]
  | true=>rw [call_val_det hf hr hp (by simpa using hl) hd,call_val_det hf hr hq (by simpa using hl) hd,hlen]
theorem frz_len {h : Heap} {id k : Nat} : (frz h id k).length = h.length:=by
  unfold frz
  split <;> simp
end Go.Am
end
section
/- What all laws of the keep package use. -/
open Go
set_option linter.all false
namespace Go.Am
variable {h : Heap} {K : Post}
theorem s_errsK (l : List Int) (hl : l.length ≤ 1000) : ACall X f_q03n [AL l] h K = K (AI (firstErr l)) h []:=by
  refine rule ?_
  rw [c_q03n rfl]
  simp only [d_q03n,go_sem]
  refine N_loop (fun k : Nat=>⟨[(5,AL l),(6,AI l.length),(7,AI k)],h,[]⟩) (fun k=>k ≤ l.length ∧ firstErr (l.drop k) = firstErr l) (fun k=>l.length - k) 0 rfl (by simp) ?_
  rintro k ⟨hk,hp⟩
  rcases Nat.lt_or_ge k l.length with hlt | hge
  · have hg := map_get eI hlt
    have w2 : IntKind.i64.wrap ((k : Int) + 1) = ((k + 1 : Nat) : Int):=i64_wrap _ (by omega) (by omega)
    rw [List.drop_eq_getElem_cons hlt,firstErr] at hp
    by_cases he : l[k] = 0
    · rw [if_pos he] at hp
      simp only [go_sem,hlt,hg,w2,he]
      exact ⟨k + 1,rfl,⟨by omega,hp⟩,by omega⟩
    · rw [if_neg he] at hp
      simp only [go_sem,hlt,hg,w2,he]
      rw [hp]
  · have e1 : k = l.length := by omega
    subst e1
    simp only [go_sem,Nat.lt_irrefl]
    rw [List.drop_length] at hp
    rw [← hp]; rfl
end Go.Am
end
section
/- Finding values in lists: printed by program. -/
open Go
set_option linter.unusedSimpArgs false
namespace Go.Am
attribute [-go_sem] PV.cells
variable {h : Heap} {K : Post}
theorem IndexFunc_int {v : AV} {g : Nat} {caps : List AV} {p : PV → Bool} {xs : List PV} (hv : Shows none v xs h) (hp : Tells g caps p xs h) (hl : xs.length ≤ 1000000000) :
    ACall X f_q05l [v,.fn g caps] h K = K (AI (idxP p xs)) h []:=by
  refine rule ?_
  rw [c_q05l]
  have vl:=hv.len
  simp only [d_q05l,go_sem,vl]
  refine N_loop (fun k : Nat=>⟨[(0,v),(1,.fn g caps),(7,AI xs.length),(8,AI k)],h,[]⟩) (fun k=>k ≤ xs.length ∧ ∀ x ∈ xs.take k,p x = false) (fun k=>xs.length - k) 0 rfl (by simp) ?_
  rintro k ⟨hk,hn⟩
  rcases Nat.lt_or_ge k xs.length with hlt | hge
  · obtain ⟨a, ha, hb⟩ := hv.get k hlt
    have w2 : IntKind.i64.wrap ((k : Int) + 1) = ((k + 1 : Nat) : Int):=i64_wrap _ (by omega) (by omega)
    have ht:=hp _ (List.getElem_mem hlt)
    cases hpk : p xs[k] with
    | true=>
      have hf : xs.findIdx p = k:=by
        rw [List.findIdx_eq hlt]
        refine ⟨hpk,fun j hj=>?_⟩
        have:=hn xs[j] (by rw [List.mem_take_iff_getElem]; exact ⟨j,by omega,rfl⟩)
        simpa using this
      simp only [go_sem,hlt,ha,hb,ht,hpk,w2]
      simp only [idxP,hf,hlt,if_true]
    | false=>
      simp only [go_sem,hlt,ha,hb,ht,hpk,w2]
      refine ⟨k + 1,rfl,⟨by omega,fun x hx=>?_⟩,by omega⟩
      rw [List.take_succ_eq_append_getElem hlt,List.mem_append,List.mem_singleton] at hx
      rcases hx with hx | hx
      · exact hn x hx
      · rw [hx]; exact hpk
  · have e1 : k = xs.length := by omega
    subst e1
    simp only [go_sem,Nat.lt_irrefl]
    rw [List.take_length] at hn
    have : ¬ xs.findIdx p < xs.length:=by
      rw [Nat.not_lt,Nat.le_iff_lt_or_eq]; right
      exact (List.findIdx_eq_length.2 (fun x hx=>by simp [hn x hx])).symm
    simp [idxP,this]
theorem ContainsFunc_int {g : Nat} {caps : List AV} {p : PV → Bool} {xs : List PV} (hp : Tells g caps p xs h) (hs : shps none xs) (hl : xs.length ≤ 1000000000) :
    ACall X f_q057 [.p (.sl none xs),.fn g caps] h K = K (AB (xs.any p)) h []:=by
  refine rule ?_
  rw [c_q057]
  have vi:=fun K=>IndexFunc_int (h:=h) (K:=K) (shows_sl hs) hp hl
  simp only [d_q057,go_sem,vi,idxP_any]
end Go.Am
end
section
/- Package lot on measured values,and what the reference says of them. -/
open Go
namespace Go.Am
variable {h : Heap} {K : Post}
def isM (n : Int) : Bool:=decide (-100000 ≤ n) && decide (n ≤ 100000)
def measFault (l : List Int) (least : Int) : Int:=if (l.length : Int) < least then 8 else if 5000 < (l.length : Int) then 2 else if l.all isM then 0 else 1
theorem all_eI' {l : List Int} : shps none (l.map eI):=fun x hx=>by obtain ⟨n,_,rfl⟩:=List.mem_map.1 hx; rfl
theorem s_isMeasure (n : Int) : ACall X f_q02v [AI n] h K = K (AB (isM n)) h []:=by
  refine rule ?_
  rw [c_q02v rfl]
  simp only [d_q02v,go_sem,s_Out,out_eq,Bool.not_not]
  rfl
theorem s_vf1 (n : Int) : ACall X f_q036 [AI n] h K = K (AB (!isM n)) h []:=by
  refine rule ?_
  rw [c_q036 rfl]
  simp only [d_q036,go_sem,s_isMeasure]
def noM : PV → Bool:=fun x=>match x with | .int _ n=>!isM n | _=>false
theorem any_noM (l : List Int) : (l.map eI).any noM = !l.all isM:=by
  induction l with
  | nil=>rfl
  | cons x r ih=>simp only [List.map_cons,List.any_cons,List.all_cons,ih,Bool.not_and]; rfl
theorem s_valuesFault (l : List Int) (n : Int) (hl : l.length ≤ 1000000000) : ACall X f_q035 [AL l,AI n] h K = K (AI (measFault l n)) h []:=by
  refine rule ?_
  rw [c_q035 rfl]
  have c:=fun K=>ContainsFunc_int (h:=h) (K:=K) (g:=f_q036) (caps:=[]) (p:=noM) (xs:=l.map eI) (fun x hx K=>by obtain ⟨n,_,rfl⟩:=List.mem_map.1 hx; exact s_vf1 n) all_eI' (by simpa using hl)
  rw [any_noM] at c
  unfold measFault
  by_cases h1 : (l.length : Int) < n
  · simp only [d_q035,go_sem,h1]
  · by_cases h2 : (5000 : Int) < l.length
    · simp only [d_q035,go_sem,h1,h2]
    · cases h3 : l.all isM <;> simp only [d_q035,go_sem,h1,h2,c,h3]
structure Meas (l : List Int) : Prop where
  len : l.length ≤ 5000
  bd : ∀ n ∈ l,-100000 ≤ n ∧ n ≤ 100000
theorem measFault_ok {l : List Int} {n : Int} (h : measFault l n = 0) : Meas l ∧ n ≤ l.length:=by
  unfold measFault at h
  split at h
  · cases h
  · split at h
    · cases h
    · split at h
      · rename_i h1 h2 h3
        refine ⟨⟨by omega,fun x hx=>?_⟩,by omega⟩
        have:=List.all_eq_true.1 h3 x hx
        simpa [isM] using this
      · cases h
def sqs (l : List Int) : Int:=(l.map fun n=>n * n).sum
theorem sqs_take_succ (l : List Int) (k : Nat) (hk : k < l.length) : sqs (l.take (k + 1)) = sqs (l.take k) + l[k] * l[k]:=by
  unfold sqs; rw [List.take_succ_eq_append_getElem hk,List.map_append,List.sum_append]; simp
theorem sq_bd {n B : Int} (h : -B ≤ n ∧ n ≤ B) : 0 ≤ n * n ∧ n * n ≤ B * B:=by
  have h1 : n.natAbs * n.natAbs ≤ B.natAbs * B.natAbs:=Nat.mul_le_mul (by omega) (by omega)
  have e1:=Int.natAbs_mul_self (a:=n)
  have e2:=Int.natAbs_mul_self (a:=B)
  have h2 : ((n.natAbs * n.natAbs : Nat) : Int) ≤ ((B.natAbs * B.natAbs : Nat) : Int):=by exact_mod_cast h1
  exact ⟨by rw [← e1]; omega,by rw [← e1,← e2]; exact h2⟩
theorem sqs_bd {l : List Int} (hm : Meas l) (k : Nat) : 0 ≤ sqs (l.take k) ∧ sqs (l.take k) ≤ 50000000000000:=by
  have h1 : ∀ n ∈ (l.take k).map (fun n=>n * n),0 ≤ n ∧ n ≤ 10000000000:=by
    intro n hn
    obtain ⟨x,hx,rfl⟩:=List.mem_map.1 hn
    have:=sq_bd (hm.bd x (List.mem_of_mem_take hx))
    omega
  have h2:=sum_bd _ _ _ h1
  have h3:=hm.len
  simp only [List.length_map,List.length_take] at h2
  unfold sqs
  omega
theorem Meas.sum {l : List Int} (hm : Meas l) (k : Nat) : -500000000 ≤ (l.take k).sum ∧ (l.take k).sum ≤ 500000000:=by
  have:=sum_bd_take hm.bd hm.len (by omega) k
  omega
def spreadN (l : List Int) : Int:=l.length * sqs l - l.sum * l.sum
theorem spread_bds {l : List Int} (hm : Meas l) : (0 ≤ l.length * sqs l ∧ l.length * sqs l ≤ 250000000000000000) ∧ (0 ≤ l.sum * l.sum ∧ l.sum * l.sum ≤ 250000000000000000):=by
  have h1:=sqs_bd hm l.length
  have h2:=hm.sum l.length
  rw [List.take_length] at h1 h2
  have h3:=hm.len
  exact ⟨mul_bd (by omega) (show (l.length : Int) ≤ 5000 by omega) h1.1 h1.2,sq_bd h2⟩
theorem s_sums (l : List Int) (hm : Meas l) : ACall X f_q032 [AL l] h K = K (.tup [AI l.sum,AI (spreadN l)]) h []:=by
  refine rule ?_
  rw [c_q032 rfl]
  simp only [d_q032,go_sem]
  refine N_loop (fun k : Nat=>⟨[(0,AL l),(2,AI (l.take k).sum),(4,AI (sqs (l.take k))),(7,AL l),(8,AI l.length),(9,AI k)],h,[]⟩) (fun k=>k ≤ l.length) (fun k=>l.length - k) 0 rfl (by simp) ?_
  intro k hk
  have h3:=hm.len
  rcases Nat.lt_or_ge k l.length with hlt | hge
  · have hg := map_get eI hlt
    have e1:=sum_take_succ l k hlt
    have e2:=sqs_take_succ l k hlt
    have b1:=hm.sum (k + 1)
    have b2:=sqs_bd hm (k + 1)
    have b3:=sq_bd (hm.bd _ (List.getElem_mem hlt))
    have w1 : IntKind.i64.wrap ((l.take k).sum + l[k]) = (l.take (k + 1)).sum:=by rw [← e1]; exact i64_wrap _ (by omega) (by omega)
    have w2 : IntKind.i64.wrap (l[k] * l[k]) = l[k] * l[k]:=i64_wrap _ (by omega) (by omega)
    have w3 : IntKind.i64.wrap (sqs (l.take k) + l[k] * l[k]) = sqs (l.take (k + 1)):=by rw [← e2]; exact i64_wrap _ (by omega) (by omega)
    have w4 : IntKind.i64.wrap ((k : Int) + 1) = ((k + 1 : Nat) : Int):=i64_wrap _ (by omega) (by omega)
    simp only [go_sem,hlt,hg,w1,w2,w3,w4]
    exact ⟨k + 1,rfl,by omega,by omega⟩
  · have : k = l.length := by omega
    subst this
    obtain ⟨⟨b1,b2⟩,b3,b4⟩:=spread_bds hm
    have w1 : IntKind.i64.wrap (l.length * sqs l) = l.length * sqs l:=i64_wrap _ (by omega) (by omega)
    have w2 : IntKind.i64.wrap (l.sum * l.sum) = l.sum * l.sum:=i64_wrap _ (by omega) (by omega)
    have w3 : IntKind.i64.wrap (l.length * sqs l - l.sum * l.sum) = spreadN l:=i64_wrap _ (by omega) (by omega)
    simp only [go_sem,Nat.lt_irrefl,List.take_length,w1,w2,w3]
def fracP (x : Int × Int) : PV:=.agg [eI x.1,eI x.2]
theorem spreadN_bd {l : List Int} (hm : Meas l) : -250000000000000000 ≤ spreadN l ∧ spreadN l ≤ 250000000000000000:=by
  obtain ⟨⟨b1,b2⟩,b3,b4⟩:=spread_bds hm
  unfold spreadN; omega
def spreadV (l : List Int) : AV:=if measFault l 1 = 0 then .tup [.p (fracP (low l.sum l.length)),.p (fracP (low (spreadN l) (l.length * l.length))),AI 0] else .tup [.p (fracP (0,0)),.p (fracP (0,0)),AI (measFault l 1)]
theorem s_Spread (l : List Int) (hl : l.length ≤ 1000000000) : ACall X f_q02b [AL l] h K = K (spreadV l) h []:=by
  refine rule ?_
  rw [c_q02b rfl]
  have vf:=fun h K=>s_valuesFault (h:=h) (K:=K) l 1 hl
  unfold spreadV
  by_cases hf : measFault l 1 = 0
  · obtain ⟨hm, hn⟩ := measFault_ok hf
    have h3:=hm.len
    have b1:=hm.sum l.length
    rw [List.take_length] at b1
    have b2:=spreadN_bd hm
    have b3:=mul_bd (show 0 ≤ (l.length : Int) by omega) (show (l.length : Int) ≤ 5000 by omega) (show 0 ≤ (l.length : Int) by omega) (show (l.length : Int) ≤ 5000 by omega)
    have b4 : 0 < (l.length : Int) * l.length:=Int.mul_pos (by omega) (by omega)
    have w : IntKind.i64.wrap (l.length * l.length) = l.length * l.length:=i64_wrap _ (by omega) (by omega)
    rw [hf] at vf
    simp only [d_q02b,go_sem,vf,hf,s_sums l hm,s_Fraction l.sum l.length (by omega) (by omega),w,s_Fraction (spreadN l) (l.length * l.length) (by omega) (by omega)]
    rfl
  · simp only [d_q02b, go_sem, vf, hf]
    rfl
end Go.Am
end
section
/- Package lot: is a process able? Spreads of the reference. -/
open Go
namespace Go.Am
variable {h : Heap} {K : Post}
end Go.Am
end
section
/- The reference on able; charts. -/
open Go
namespace Go.Am
variable {h : Heap} {K : Post}
def factors : List Int:=[188,102,73,58,48,42,37,34,31]
def factorV (size : Int) : Int:=factors.getD (size - 2).toNat 0
theorem factorV_bd {size : Int} (h : 2 ≤ size ∧ size ≤ 10) : 0 ≤ factorV size ∧ factorV size ≤ 188:=by
  have : size = 2 ∨ size = 3 ∨ size = 4 ∨ size = 5 ∨ size = 6 ∨ size = 7 ∨ size = 8 ∨ size = 9 ∨ size = 10:=by omega
  rcases this with rfl | rfl | rfl | rfl | rfl | rfl | rfl | rfl | rfl <;> decide
theorem s_factor (size : Int) (hs : 2 ≤ size ∧ size ≤ 10) : ACall X f_q02n [AI size] h K = K (AI (factorV size)) h []:=by
  refine rule ?_
  rw [c_q02n rfl]
  have : size = 2 ∨ size = 3 ∨ size = 4 ∨ size = 5 ∨ size = 6 ∨ size = 7 ∨ size = 8 ∨ size = 9 ∨ size = 10:=by omega
  rcases this with rfl | rfl | rfl | rfl | rfl | rfl | rfl | rfl | rfl
  all_goals
    simp only [d_q02n,go_sem,i64_wrap]
    rfl
end Go.Am
end
section
/- Subgroups: their sums and ranges. -/
open Go
namespace Go.Am
variable {h : Heap} {K : Post}
def ch (l : List Int) (n k : Nat) : List Int:=(l.drop (k * n)).take n
def sumAt (l : List Int) (n k : Nat) : Int:=(ch l n k).sum
def rngAt (l : List Int) (n k : Nat) : Int:=maxL (ch l n k) - minL (ch l n k)
def sumsL (l : List Int) (n k : Nat) : List Int:=(List.range k).map (sumAt l n)
def rngsL (l : List Int) (n k : Nat) : List Int:=(List.range k).map (rngAt l n)
theorem ch_1 (l : List Int) (n k : Nat) : win (l.drop (k * n)) 0 n = ch l n k:=by simp [win,ch]
theorem ch_len {l : List Int} {n k : Nat} (h : k * n + n ≤ l.length) : (ch l n k).length = n:=by simp [ch]; omega
theorem ch_mem {l : List Int} {n k : Nat} {x : Int} (h : x ∈ ch l n k) : x ∈ l:=List.mem_of_mem_drop (List.mem_of_mem_take h)
theorem sumsL_succ (l : List Int) (n k : Nat) : sumsL l n (k + 1) = sumsL l n k ++ [sumAt l n k]:=by simp [sumsL,List.range_succ]
theorem rngsL_succ (l : List Int) (n k : Nat) : rngsL l n (k + 1) = rngsL l n k ++ [rngAt l n k]:=by simp [rngsL,List.range_succ]
theorem sumsL_len (l : List Int) (n k : Nat) : (sumsL l n k).length = k:=by simp [sumsL]
theorem rngsL_len (l : List Int) (n k : Nat) : (rngsL l n k).length = k:=by simp [rngsL]
theorem rng_bd {l : List Int} (hm : Meas l) {n k : Nat} (hn : 1 ≤ n) (h : k * n + n ≤ l.length) : (-100000 ≤ maxL (ch l n k) ∧ maxL (ch l n k) ≤ 100000) ∧ (-100000 ≤ minL (ch l n k) ∧ minL (ch l n k) ≤ 100000):=by
  have hne : ch l n k ≠ []:=by intro e; have:=ch_len h; rw [e] at this; simp at this; omega
  exact ⟨hm.bd _ (ch_mem (maxL_mem hne)),hm.bd _ (ch_mem (minL_mem hne))⟩
theorem ch_meas {l : List Int} (hm : Meas l) (n k : Nat) : Meas (ch l n k):=⟨by have:=hm.len; simp [ch]; omega,fun x hx=>hm.bd x (ch_mem hx)⟩
theorem div_le {a n k : Nat} (hn : 1 ≤ n) : k * n + n ≤ a ↔ k < a / n:=by
  rw [Nat.lt_iff_add_one_le,Nat.le_div_iff_mul_le (by omega),Nat.add_mul,Nat.one_mul]
theorem groups_ok (l : List Int) (hm : Meas l) (n : Nat) (hn : 2 ≤ n) : ACall X f_q02u [AL l,AI n] h K = K (.tup [AL (sumsL l n (l.length / n)),AL (rngsL l n (l.length / n))]) h []:=by
  refine rule ?_
  rw [c_q02u rfl]
  simp only [d_q02u,go_sem]
  have h3:=hm.len
  refine N_loop (fun k : Nat=>⟨[(0,AL (l.drop (k * n))),(1,AI n),(4,.own h.length k 0 k),(5,.own (h.length + 1) k 0 k)],h ++ [.row none ((sumsL l n k).map eI) 0,.row none ((rngsL l n k).map eI) 0],[]⟩) (fun k=>k * n ≤ l.length) (fun k=>l.length - k * n) 0 (by simp [sumsL,rngsL]) (by simp) ?_
  intro k hk
  have hdl : (l.drop (k * n)).length = l.length - k * n:=by simp
  by_cases hlt : k * n + n ≤ l.length
  · have c1 := ch_1 l n k
    have hcl:=ch_len hlt
    have hcm:=ch_meas hm n k
    have hle : n ≤ l.length - k * n:=by omega
    have hmx : k + 1 ≤ maxSl:=by
      have : k ≤ k * n:=Nat.le_mul_of_pos_right k (by omega)
      unfold maxSl; omega
    have hwd : win (l.drop (k * n)) n (l.length - k * n - n) = l.drop ((k + 1) * n):=by
      simp only [win,List.drop_drop]
      rw [show k * n + n = (k + 1) * n by rw [Nat.add_mul]; omega,List.take_of_length_le]
      simp only [List.length_drop,Nat.add_mul]; omega
    simp only [go_sem,hdl,hle,win_map,c1]
    refine N_loop (fun j : Nat=>⟨[(0,AL (l.drop (k * n))),(1,AI n),(4,.own h.length k 0 k),(5,.own (h.length + 1) k 0 k),(6,AI ((ch l n k).take j).sum),(15,AL (ch l n k)),(16,AI (ch l n k).length),(17,AI j)],h ++ [.row none ((sumsL l n k).map eI) 0,.row none ((rngsL l n k).map eI) 0],[]⟩) (fun j=>j ≤ (ch l n k).length) (fun j=>(ch l n k).length - j) 0 rfl (by simp) ?_
    intro j hj
    rcases Nat.lt_or_ge j (ch l n k).length with hjl | hjg
    · have hg := map_get eI hjl
      have e1:=sum_take_succ _ j hjl
      have b1:=hcm.sum (j + 1)
      have hl5:=hcm.len
      have w1 : IntKind.i64.wrap (((ch l n k).take j).sum + (ch l n k)[j]) = ((ch l n k).take (j + 1)).sum:=by rw [← e1]; exact i64_wrap _ (by omega) (by omega)
      have w4 : IntKind.i64.wrap ((j : Int) + 1) = ((j + 1 : Nat) : Int):=i64_wrap _ (by omega) (by omega)
      simp only [go_sem,hjl,hg,w1,w4]
      exact ⟨j + 1,rfl,by omega,by omega⟩
    · have : j = (ch l n k).length := by omega
      subst this
      have r:=rng_bd hm (by omega) hlt
      have w1 : IntKind.i64.wrap (maxL (ch l n k) - minL (ch l n k)) = rngAt l n k:=i64_wrap _ (by omega) (by omega)
      have sM:=fun h K=>s_Max (h:=h) (K:=K) (ch l n k) (by omega) (by omega)
      have sm:=fun h K=>s_Min (h:=h) (K:=K) (ch l n k) (by omega) (by omega)
      simp only [go_sem,Nat.lt_irrefl,List.take_length,hdl,hle,win_map,c1,hmx,sumsL_len,rngsL_len,sM,sm,w1,hwd]
      refine ⟨k + 1,?_,?_,?_⟩
      · simp only [sumsL_succ, rngsL_succ, List.map_append, List.map_cons, List.map_nil]
        rfl
      · rw [Nat.add_mul]; omega
      · rw [Nat.add_mul]; omega
  · have e1 : ((n : Int) ≤ ((l.length - k * n : Nat) : Int)) = False := by simp only [eq_iff_iff, iff_false]; omega
    have e2 : k = l.length / n:=by
      have h1:=div_le (a:=l.length) (k:=k) (show 1 ≤ n by omega)
      have h2 : k ≤ l.length / n:=(Nat.le_div_iff_mul_le (by omega)).2 hk
      omega
    have hle : ¬ n ≤ l.length - k * n:=by omega
    simp only [go_sem,hdl,hle,sumsL_len,rngsL_len]
    rw [win_full (by simp [sumsL_len]),win_full (by simp [rngsL_len]),e2]
end Go.Am
end
section
/- Charts: both ways. -/
open Go
namespace Go.Am
variable {h : Heap} {K : Post}
section
variable (l : List Int) (n : Nat)
def kN : Nat:=l.length / n
def totS : Int:=(sumsL l n (kN l n)).sum
def totR : Int:=(rngsL l n (kN l n)).sum
def farB : Int:=totR l n * factorV n * n
def chartP : PV:=.agg [eI (low (totS l n) (kN l n * n)).1,eI (low (totS l n) (kN l n * n)).2,eI (low (totR l n) (kN l n)).1,eI (low (totR l n) (kN l n)).2,
  eI (low (totS l n * 100 - farB l n) (kN l n * n * 100)).1,eI (low (totS l n * 100 - farB l n) (kN l n * n * 100)).2,eI (low (totS l n * 100 + farB l n) (kN l n * n * 100)).1,eI (low (totS l n * 100 + farB l n) (kN l n * n * 100)).2]
end
theorem sumsL_mem {l : List Int} (hm : Meas l) {n k : Nat} (hn2 : n ≤ 10) : ∀ x ∈ sumsL l n k,-1000000 ≤ x ∧ x ≤ 1000000:=by
  intro x hx
  obtain ⟨i,_,rfl⟩:=List.mem_map.1 hx
  have h1:=sum_bd' (N:=10) (B:=100000) (ch_meas hm n i).bd (by simp [ch]; omega) (by omega)
  unfold sumAt; omega
theorem rngsL_mem {l : List Int} (hm : Meas l) {n k : Nat} (hn : 1 ≤ n) (hk : k ≤ l.length / n) : ∀ x ∈ rngsL l n k,-200000 ≤ x ∧ x ≤ 200000:=by
  intro x hx
  obtain ⟨i,hi,rfl⟩:=List.mem_map.1 hx
  simp only [List.mem_range] at hi
  have:=rng_bd hm hn ((div_le hn).2 (show i < l.length / n by omega))
  unfold rngAt; omega
structure ChartBd (l : List Int) (n : Nat) : Prop where
  k : 1 ≤ kN l n ∧ kN l n ≤ 2500
  kn : 1 ≤ kN l n * n ∧ kN l n * n ≤ 5000
  s : -5000000000 ≤ totS l n ∧ totS l n ≤ 5000000000
  r : -500000000 ≤ totR l n ∧ totR l n ≤ 500000000
  f : 0 ≤ factorV n ∧ factorV n ≤ 188
  rf : -94000000000 ≤ totR l n * factorV n ∧ totR l n * factorV n ≤ 94000000000
  b : -940000000000 ≤ farB l n ∧ farB l n ≤ 940000000000
theorem abs_bd {a b A B : Int} (h1 : -A ≤ a ∧ a ≤ A) (h2 : 0 ≤ b ∧ b ≤ B) : -(A * B) ≤ a * b ∧ a * b ≤ A * B:=by
  have q1 : a * b ≤ A * b:=Int.mul_le_mul_of_nonneg_right h1.2 h2.1
  have q2 : -A * b ≤ a * b:=Int.mul_le_mul_of_nonneg_right h1.1 h2.1
  have q3 : A * b ≤ A * B:=Int.mul_le_mul_of_nonneg_left h2.2 (by omega)
  rw [Int.neg_mul] at q2
  omega
theorem chart_bd {l : List Int} (hm : Meas l) {n : Nat} (hn : 2 ≤ n) (hn2 : n ≤ 10) (hl : n ≤ l.length) : ChartBd l n:=by
  have h3:=hm.len
  have k1 : 1 ≤ kN l n:=(Nat.le_div_iff_mul_le (by omega)).2 (by omega)
  have k2 : kN l n * n ≤ l.length:=Nat.div_mul_le_self _ _
  have k3 : kN l n * 2 ≤ kN l n * n:=Nat.mul_le_mul_left _ hn
  have s1:=sum_bd' (N:=2500) (B:=1000000) (sumsL_mem hm (k:=kN l n) hn2) (by rw [sumsL_len]; omega) (by omega)
  have r1:=sum_bd' (N:=2500) (B:=200000) (rngsL_mem hm (k:=kN l n) (show 1 ≤ n by omega) (Nat.le_refl _)) (by rw [rngsL_len]; omega) (by omega)
  have f1:=factorV_bd (size:=n) (by omega)
  have r2 : -500000000 ≤ totR l n ∧ totR l n ≤ 500000000:=by unfold totR; omega
  have rf:=abs_bd (A:=500000000) (B:=188) (by omega) f1 (a:=totR l n)
  have bb:=abs_bd (A:=94000000000) (B:=10) (a:=totR l n * factorV n) (b:=n) (by omega) (by omega)
  exact ⟨by omega,by omega,by unfold totS; omega,r2,f1,by omega,by unfold farB; omega⟩
set_option maxHeartbeats 1000000 in
theorem chart_ok (l : List Int) (hm : Meas l) (n : Nat) (hn : 2 ≤ n) (hn2 : n ≤ 10) (hl : n ≤ l.length) : ACall X f_q02j [AL l,AI n] h K = K (.p (chartP l n)) h []:=by
  refine rule ?_
  rw [c_q02j rfl]
  have B:=chart_bd hm hn hn2 hl
  obtain ⟨bk,bkn,bs,br,bf,brf,bb⟩:=B
  have g:=fun h K=>groups_ok (h:=h) (K:=K) l hm n hn
  have t1:=fun h K=>s_total (h:=h) (K:=K) (sumsL l n (l.length / n)) (by rw [sumsL_len]; show kN l n ≤ _; omega) (fun x hx=>by have:=sumsL_mem hm hn2 x hx; omega)
  have t2:=fun h K=>s_total (h:=h) (K:=K) (rngsL l n (l.length / n)) (by rw [rngsL_len]; show kN l n ≤ _; omega) (fun x hx=>by have:=rngsL_mem hm (show 1 ≤ n by omega) (Nat.le_refl _) x hx; omega)
  have f1:=fun h K=>s_factor (h:=h) (K:=K) n (by omega)
  rw [show l.length / n = kN l n from rfl] at g t1 t2
  rw [show (sumsL l n (kN l n)).sum = totS l n from rfl] at t1
  rw [show (rngsL l n (kN l n)).sum = totR l n from rfl] at t2
  have w1 : IntKind.i64.wrap (totR l n * factorV n) = totR l n * factorV n:=i64_wrap _ (by omega) (by omega)
  have w2 : IntKind.i64.wrap ((kN l n : Int) * n) = kN l n * n:=i64_wrap _ (by omega) (by omega)
  have w3 : IntKind.i64.wrap ((kN l n : Int) * n * 100) = kN l n * n * 100:=i64_wrap _ (by omega) (by omega)
  have w4 : IntKind.i64.wrap (totS l n * 100) = totS l n * 100:=i64_wrap _ (by omega) (by omega)
  have w5 : IntKind.i64.wrap (totR l n * factorV n * n) = farB l n:=i64_wrap (farB l n) (by omega) (by omega)
  have w6 : IntKind.i64.wrap (totS l n * 100 - farB l n) = totS l n * 100 - farB l n:=i64_wrap _ (by omega) (by omega)
  have w7 : IntKind.i64.wrap (totS l n * 100 + farB l n) = totS l n * 100 + farB l n:=i64_wrap _ (by omega) (by omega)
  have F1:=fun h K=>s_Fraction (h:=h) (K:=K) (totS l n) (kN l n * n) (by omega) (by omega)
  have F2:=fun h K=>s_Fraction (h:=h) (K:=K) (totR l n) (kN l n) (by omega) (by omega)
  have F3:=fun h K=>s_Fraction (h:=h) (K:=K) (totS l n * 100 - farB l n) (kN l n * n * 100) (by omega) (by omega)
  have F4:=fun h K=>s_Fraction (h:=h) (K:=K) (totS l n * 100 + farB l n) (kN l n * n * 100) (by omega) (by omega)
  simp only [d_q02j,go_sem,g,t1,t2,f1,sumsL_len,w1,w2,w3,w4,w5,w6,w7,F1,F2,F3,F4]
  rfl
def chartFault (l : List Int) (size : Int) : Int:=if 2 ≤ size ∧ size ≤ 10 then measFault l size else 1
theorem chartFault_ok {l : List Int} {size : Int} (h : chartFault l size = 0) : Meas l ∧ ∃ n : Nat,size = n ∧ 2 ≤ n ∧ n ≤ 10 ∧ n ≤ l.length:=by
  unfold chartFault at h
  split at h
  · obtain ⟨hm, h2⟩ := measFault_ok h
    exact ⟨hm,size.toNat,by omega,by omega,by omega,by omega⟩
  · cases h
theorem s_chartFault (l : List Int) (size : Int) (hl : l.length ≤ 1000000000) : ACall X f_q02k [AL l,AI size] h K = K (AI (chartFault l size)) h []:=by
  refine rule ?_
  rw [c_q02k rfl]
  have vf:=fun h K=>s_valuesFault (h:=h) (K:=K) l size hl
  unfold chartFault
  by_cases h1 : 2 ≤ size ∧ size ≤ 10
  · have e : (decide (size < 2) || decide (10 < size)) = false := by simp; omega
    simp only [d_q02k,go_sem,s_Out,e,vf,h1]
  · have e : (decide (size < 2) || decide (10 < size)) = true := by simp; omega
    simp only [d_q02k,go_sem,s_Out,e,h1]
def noChart : PV:=.agg [eI 0,eI 0,eI 0,eI 0,eI 0,eI 0,eI 0,eI 0]
def chartV (l : List Int) (size : Int) : AV:=if chartFault l size = 0 then .tup [.p (chartP l size.toNat),AI 0] else .tup [.p noChart,AI (chartFault l size)]
theorem s_Chart (l : List Int) (size : Int) (hl : l.length ≤ 1000000000) : ACall X f_q021 [AL l,AI size] h K = K (chartV l size) h []:=by
  refine rule ?_
  rw [c_q021 rfl]
  have vf:=fun h K=>s_chartFault (h:=h) (K:=K) l size hl
  unfold chartV
  by_cases hf : chartFault l size = 0
  · obtain ⟨hm, n, rfl, a1, a2, a3⟩ := chartFault_ok hf
    rw [hf] at vf
    have c:=fun h K=>chart_ok (h:=h) (K:=K) l hm n a1 a2 a3
    simp only [chartP] at c
    simp only [d_q021,go_sem,vf,hf,c]
    rfl
  · simp only [d_q021, go_sem, vf, hf]
    rfl
section
variable (l : List Int) (n : Nat)
def sideAt (i : Nat) : Int:=(sumAt l n i * kN l n - totS l n).sign
def farAt (i : Nat) : Int:=100 * (sumAt l n i * kN l n - totS l n)
def outAt (i : Nat) : Bool:=decide (farB l n < max (farAt l n i) (-(farAt l n i)))
def rowAt (i : Nat) : Bool:=decide (7 ≤ i) && !decide (sideAt l n i = 0) && (List.range i).all fun j=>decide (j + 7 < i) || decide (sideAt l n j = sideAt l n i)
def sigs (m : Nat) : List Int:=((List.range m).filter fun i=>outAt l n i || rowAt l n i).map fun (i : Nat)=>(i : Int)
end
theorem sigs_succ (l : List Int) (n m : Nat) : sigs l n (m + 1) = sigs l n m ++ if outAt l n m || rowAt l n m then [(m : Int)] else []:=by
  simp only [sigs,List.range_succ,List.filter_append,List.map_append]
  congr 1
  cases h : (outAt l n m || rowAt l n m) <;> simp [List.filter_cons,h]
theorem sigs_len (l : List Int) (n m : Nat) : (sigs l n m).length ≤ m:=by
  simp only [sigs,List.length_map]
  have:=List.length_filter_le (fun i=>outAt l n i || rowAt l n i) (List.range m)
  simpa using this
def runAt (s : Nat → Int) : Nat → Nat
  | 0=>1
  | i + 1=>if s (i + 1) = s i then runAt s i + 1 else 1
theorem runAt_ge (s : Nat → Int) : ∀ (i m : Nat),m + 1 ≤ runAt s i ↔ m ≤ i ∧ ∀ j,i < j + m + 1 → j < i → s j = s i
  | 0,m=>by
    simp only [runAt]
    exact ⟨fun h=>⟨by omega,fun j _ h2=>by omega⟩,fun h=>by omega⟩
  | i + 1,m=>by
    simp only [runAt]
    split
    · rename_i he
      cases m with
      | zero=>exact ⟨fun _=>⟨by omega,fun j h1 h2=>by omega⟩,fun _=>by omega⟩
      | succ m=>
        have ih:=runAt_ge s i m
        constructor
        · intro h
          obtain ⟨a,b⟩:=ih.1 (by omega)
          refine ⟨by omega,fun j h1 h2=>?_⟩
          rw [he]
          rcases Nat.lt_or_ge j i with h3 | h3
          · exact b j (by omega) h3
          · rw [show j = i by omega]
        · rintro ⟨a, b⟩
          have:=ih.2 ⟨by omega,fun j h1 h2=>by rw [← he]; exact b j (by omega) (by omega)⟩
          omega
    · rename_i he
      constructor
      · intro h
        exact ⟨by omega,fun j h1 h2=>by omega⟩
      · rintro ⟨a, b⟩
        rcases Nat.eq_zero_or_pos m with h | h
        · omega
        · exact absurd (b i (by omega) (by omega)).symm he
theorem rowAt_run (l : List Int) (n i : Nat) : rowAt l n i = (!decide (sideAt l n i = 0) && decide (8 ≤ runAt (sideAt l n) i)):=by
  have h:=runAt_ge (sideAt l n) i 7
  unfold rowAt
  rw [Bool.eq_iff_iff]
  simp only [Bool.and_eq_true,decide_eq_true_eq,List.all_eq_true,List.mem_range,Bool.or_eq_true,Bool.not_eq_true']
  constructor
  · rintro ⟨⟨a, b⟩, c⟩
    exact ⟨b,h.2 ⟨a,fun j h1 h2=>by rcases c j h2 with h3 | h3 <;> first | omega | exact h3⟩⟩
  · rintro ⟨a, b⟩
    obtain ⟨c,d⟩:=h.1 (by omega)
    exact ⟨⟨c,a⟩,fun j hj=>by
      by_cases h3 : j + 7 < i
      · exact .inl h3
      · exact .inr (d j (by omega) hj)⟩
end Go.Am
end
section
/- Signals: the reference. -/
open Go
namespace Go.Am
variable {h : Heap} {K : Post}
end Go.Am
end
section
/- Signals: the package. -/
open Go
namespace Go.Am
variable {h : Heap} {K : Post}
def prevS (s : Nat → Int) : Nat → Int
  | 0=>0
  | i + 1=>s i
def prevM (s : Nat → Int) : Nat → Nat
  | 0=>0
  | i + 1=>runAt s i
theorem run_prev (s : Nat → Int) (k : Nat) : runAt s k = if s k = prevS s k then prevM s k + 1 else 1:=by
  cases k with
  | zero=>simp [runAt,prevM]
  | succ i=>rfl
theorem runAt_le (s : Nat → Int) : ∀ k,runAt s k ≤ k + 1
  | 0=>Nat.le_refl _
  | k + 1=>by have:=runAt_le s k; simp only [runAt]; split <;> omega
theorem sign_mul_n (x : Int) {n : Int} (hn : 0 < n) : (x * n).sign = x.sign:=sign_mul_pos x n hn
theorem sign_lt {x : Int} : x.sign < 0 ↔ x < 0:=Int.sign_neg_iff
theorem sign_gt {x : Int} : 0 < x.sign ↔ 0 < x:=Int.sign_pos_iff
theorem sumAt_bd {l : List Int} (hm : Meas l) {n : Nat} (hn2 : n ≤ 10) (k : Nat) : -1000000 ≤ sumAt l n k ∧ sumAt l n k ≤ 1000000:=by
  have h1:=sum_bd' (N:=10) (B:=100000) (ch_meas hm n k).bd (by simp [ch]; omega) (by omega)
  unfold sumAt; omega
theorem lines {l : List Int} (hm : Meas l) {n : Nat} (hn : 2 ≤ n) (hn2 : n ≤ 10) (hl : n ≤ l.length) (k : Nat) :
    (∀ h K,ACall X f_q001 [.p (.agg [eI (sumAt l n k),eI n]),.p (.agg [eI (low (totS l n) (kN l n * n)).1,eI (low (totS l n) (kN l n * n)).2])] h K = K (AI (sideAt l n k)) h []) ∧
    (∃ a : Int,(a < 0 ↔ farAt l n k < -(farB l n)) ∧ ∀ h K,ACall X f_q001 [.p (.agg [eI (sumAt l n k),eI n]),.p (.agg [eI (low (totS l n * 100 - farB l n) (kN l n * n * 100)).1,eI (low (totS l n * 100 - farB l n) (kN l n * n * 100)).2])] h K = K (AI a) h []) ∧
    (∃ a : Int,(0 < a ↔ farB l n < farAt l n k) ∧ ∀ h K,ACall X f_q001 [.p (.agg [eI (sumAt l n k),eI n]),.p (.agg [eI (low (totS l n * 100 + farB l n) (kN l n * n * 100)).1,eI (low (totS l n * 100 + farB l n) (kN l n * n * 100)).2])] h K = K (AI a) h []):=by
  obtain ⟨bk,bkn,bs,br,bf,brf,bb⟩:=chart_bd hm hn hn2 hl
  have sb:=sumAt_bd hm hn2 k
  have hp1 : (0 : Int) < kN l n * n:=by omega
  have hp2 : (0 : Int) < kN l n * n * 100:=by omega
  have c0 : ∀ a b : Int,0 < b → b ≤ 1000000 → -10000000000000 ≤ a → a ≤ 10000000000000 → ∀ h K,ACall X f_q001 [.p (.agg [eI (sumAt l n k),eI n]),.p (.agg [eI (low a b).1,eI (low a b).2])] h K = K (AI (sumAt l n k * b - a * n).sign) h []:=by
    intro a b hb hb2 ha ha2 h K
    have d1:=low_den_pos a b hb
    have d2:=low_den_le a b hb
    have d3:=low_abs a b hb
    rw [s_Compare _ _ _ _ (by omega) (by omega) (by omega) (by omega),sign_low _ _ _ _ hb]
  have e1 : sumAt l n k * (kN l n * n) - totS l n * n = (sumAt l n k * kN l n - totS l n) * n:=by rw [Int.sub_mul,Int.mul_assoc]
  have e2 : ∀ B : Int,sumAt l n k * (kN l n * n * 100) - (totS l n * 100 + B) * n = (farAt l n k - B) * n:=by
    intro B
    unfold farAt
    simp only [Int.sub_mul,Int.add_mul,Int.mul_sub]
    have q1 : sumAt l n k * (kN l n * n * 100) = 100 * (sumAt l n k * kN l n) * n:=by
      rw [Int.mul_comm (kN l n * n : Int) 100,Int.mul_left_comm,← Int.mul_assoc (sumAt l n k),Int.mul_assoc 100]
    have q2 : totS l n * 100 * n = 100 * totS l n * n:=by rw [Int.mul_comm (totS l n) 100]
    rw [q1,q2]; omega
  have hnp : (0 : Int) < n:=by omega
  refine ⟨fun h K=>?_,⟨_,?_,c0 _ _ hp2 (by omega) (by omega) (by omega)⟩,⟨_,?_,c0 _ _ hp2 (by omega) (by omega) (by omega)⟩⟩
  · rw [c0 _ _ hp1 (by omega) (by omega) (by omega),e1,sign_mul_n _ hnp]; rfl
  · rw [show totS l n * 100 - farB l n = totS l n * 100 + -(farB l n) by omega,e2,sign_mul_n _ hnp,sign_lt]; omega
  · rw [e2,sign_mul_n _ hnp,sign_gt]; omega
theorem sums_get {l : List Int} {n k m : Nat} (h : k < m) : ((sumsL l n m).map eI)[k]? = some (eI (sumAt l n k)):=by
  simp [sumsL,h]
set_option maxHeartbeats 2000000 in
theorem Signals_ok (l : List Int) (hm : Meas l) (n : Nat) (hn : 2 ≤ n) (hn2 : n ≤ 10) (hl : n ≤ l.length) (hf : chartFault l n = 0) : ACall X f_q02a [AL l,AI n] h K = K (.tup [AL (sigs l n (kN l n)),AI 0]) h []:=by
  refine rule ?_
  rw [c_q02a rfl]
  have h3:=hm.len
  have vf:=fun h K=>s_chartFault (h:=h) (K:=K) l n (by omega)
  rw [hf] at vf
  have c:=fun h K=>chart_ok (h:=h) (K:=K) l hm n hn hn2 hl
  simp only [chartP] at c
  have g:=fun h K=>groups_ok (h:=h) (K:=K) l hm n hn
  rw [show l.length / n = kN l n from rfl] at g
  obtain ⟨bk,bkn,bs,br,bf,brf,bb⟩:=chart_bd hm hn hn2 hl
  simp only [d_q02a,go_sem,vf,c,g,sumsL_len]
  refine N_loop (fun k : Nat=>⟨[(1,AI n),(7,.ref h.length 0),(10,AI (prevS (sideAt l n) k)),(11,AI (prevM (sideAt l n) k)),(12,.own (h.length + 1) (sigs l n k).length 0 (sigs l n k).length),(32,AL (sumsL l n (kN l n))),(33,AI (kN l n)),(34,AI k)],
    h ++ [.box [AI (low (totS l n) (kN l n * n)).1,AI (low (totS l n) (kN l n * n)).2,AI (low (totR l n) (kN l n)).1,AI (low (totR l n) (kN l n)).2,AI (low (totS l n * 100 - farB l n) (kN l n * n * 100)).1,AI (low (totS l n * 100 - farB l n) (kN l n * n * 100)).2,
      AI (low (totS l n * 100 + farB l n) (kN l n * n * 100)).1,AI (low (totS l n * 100 + farB l n) (kN l n * n * 100)).2],.row none ((sigs l n k).map eI) 0],[]⟩) (fun k=>k ≤ kN l n) (fun k=>kN l n - k) 0 rfl (by simp) ?_
  intro k hk
  rcases Nat.lt_or_ge k (kN l n) with hlt | hge
  · obtain ⟨L1, ⟨a2, b2, L2⟩, ⟨a3, b3, L3⟩⟩ := lines hm hn hn2 hl k
    have hg:=sums_get (l:=l) (n:=n) hlt
    have hrun:=run_prev (sideAt l n) k
    have hrl:=runAt_le (sideAt l n) k
    have hsl:=sigs_len l n k
    have hmx : (sigs l n k).length + 1 ≤ maxSl:=by unfold maxSl; omega
    have wk : IntKind.i64.wrap ((k : Int) + 1) = ((k + 1 : Nat) : Int):=i64_wrap _ (by omega) (by omega)
    have hrow:=rowAt_run l n k
    have hout : outAt l n k = (decide (a2 < 0) || decide (0 < a3)):=by
      unfold outAt; rw [Bool.eq_iff_iff]; simp only [decide_eq_true_eq,Bool.or_eq_true,b2,b3]; omega
    have hss:=sigs_succ l n k
    have nextS : prevS (sideAt l n) (k + 1) = sideAt l n k:=rfl
    have nextM : prevM (sideAt l n) (k + 1) = runAt (sideAt l n) k:=rfl
    by_cases he : sideAt l n k = prevS (sideAt l n) k
    · rw [if_pos he] at hrun
      have w1 : IntKind.i64.wrap ((prevM (sideAt l n) k : Int) + 1) = ((runAt (sideAt l n) k : Nat) : Int):=by rw [hrun]; exact i64_wrap _ (by omega) (by omega)
      rw [← he]
      by_cases c1 : a2 < 0
      · skip
        have hor : (outAt l n k || rowAt l n k) = true:=by rw [hout,hrow]; simp [c1]
        rw [hor] at hss
        have hs1 : sigs l n (k + 1) = sigs l n k ++ [(k : Int)]:=by rw [hss]; simp
        simp only [go_sem,hlt,hg,L1,L2,L3,w1,wk,hmx,c1]
        exact ⟨k + 1,by simp only [nextS,nextM,hs1,List.length_append,List.length_singleton,List.map_append,List.map_cons,List.map_nil],by omega,by omega⟩
      by_cases c2 : 0 < a3
      · skip
        have hor : (outAt l n k || rowAt l n k) = true:=by rw [hout,hrow]; simp [c1,c2]
        rw [hor] at hss
        have hs1 : sigs l n (k + 1) = sigs l n k ++ [(k : Int)]:=by rw [hss]; simp
        simp only [go_sem,hlt,hg,L1,L2,L3,w1,wk,hmx,c1,c2]
        exact ⟨k + 1,by simp only [nextS,nextM,hs1,List.length_append,List.length_singleton,List.map_append,List.map_cons,List.map_nil],by omega,by omega⟩
      by_cases c3 : sideAt l n k = 0
      · have c3t := eq_true c3
        have hor : (outAt l n k || rowAt l n k) = false:=by rw [hout,hrow]; simp [c1,c2,c3]
        rw [hor] at hss
        have hs1 : sigs l n (k + 1) = sigs l n k:=by rw [hss]; simp
        simp only [go_sem,hlt,hg,L1,L2,L3,w1,wk,hmx,c1,c2,c3t]
        exact ⟨k + 1,by simp only [nextS,nextM,hs1,List.length_append,List.length_singleton,List.map_append,List.map_cons,List.map_nil],by omega,by omega⟩
      by_cases c4 : (8 : Int) ≤ (runAt (sideAt l n) k : Int)
      · have c4' : 8 ≤ runAt (sideAt l n) k := by omega
        have hor : (outAt l n k || rowAt l n k) = true:=by rw [hout,hrow]; simp [c1,c2,c3,c4']
        rw [hor] at hss
        have hs1 : sigs l n (k + 1) = sigs l n k ++ [(k : Int)]:=by rw [hss]; simp
        simp only [go_sem,hlt,hg,L1,L2,L3,w1,wk,hmx,c1,c2,c3,c4]
        exact ⟨k + 1,by simp only [nextS,nextM,hs1,List.length_append,List.length_singleton,List.map_append,List.map_cons,List.map_nil],by omega,by omega⟩
      · have c4' : ¬ 8 ≤ runAt (sideAt l n) k := by omega
        have hor : (outAt l n k || rowAt l n k) = false:=by rw [hout,hrow]; simp [c1,c2,c3,c4']
        rw [hor] at hss
        have hs1 : sigs l n (k + 1) = sigs l n k:=by rw [hss]; simp
        simp only [go_sem,hlt,hg,L1,L2,L3,w1,wk,hmx,c1,c2,c3,c4]
        exact ⟨k + 1,by simp only [nextS,nextM,hs1,List.length_append,List.length_singleton,List.map_append,List.map_cons,List.map_nil],by omega,by omega⟩
    · rw [if_neg he] at hrun
      have w1 : IntKind.i64.wrap (0 + 1) = ((runAt (sideAt l n) k : Nat) : Int):=by rw [hrun]; exact i64_wrap _ (by omega) (by omega)
      simp only [Int.zero_add] at w1
      by_cases c1 : a2 < 0
      · skip
        have hor : (outAt l n k || rowAt l n k) = true:=by rw [hout,hrow]; simp [c1]
        rw [hor] at hss
        have hs1 : sigs l n (k + 1) = sigs l n k ++ [(k : Int)]:=by rw [hss]; simp
        simp only [go_sem,hlt,hg,L1,L2,L3,he,w1,Int.zero_add,wk,hmx,c1]
        exact ⟨k + 1,by simp only [nextS,nextM,hs1,List.length_append,List.length_singleton,List.map_append,List.map_cons,List.map_nil],by omega,by omega⟩
      by_cases c2 : 0 < a3
      · skip
        have hor : (outAt l n k || rowAt l n k) = true:=by rw [hout,hrow]; simp [c1,c2]
        rw [hor] at hss
        have hs1 : sigs l n (k + 1) = sigs l n k ++ [(k : Int)]:=by rw [hss]; simp
        simp only [go_sem,hlt,hg,L1,L2,L3,he,w1,Int.zero_add,wk,hmx,c1,c2]
        exact ⟨k + 1,by simp only [nextS,nextM,hs1,List.length_append,List.length_singleton,List.map_append,List.map_cons,List.map_nil],by omega,by omega⟩
      by_cases c3 : sideAt l n k = 0
      · have c3t := eq_true c3
        have hor : (outAt l n k || rowAt l n k) = false:=by rw [hout,hrow]; simp [c1,c2,c3]
        rw [hor] at hss
        have hs1 : sigs l n (k + 1) = sigs l n k:=by rw [hss]; simp
        simp only [go_sem,hlt,hg,L1,L2,L3,he,w1,Int.zero_add,wk,hmx,c1,c2,c3t]
        exact ⟨k + 1,by simp only [nextS,nextM,hs1,List.length_append,List.length_singleton,List.map_append,List.map_cons,List.map_nil],by omega,by omega⟩
      by_cases c4 : (8 : Int) ≤ (runAt (sideAt l n) k : Int)
      · have c4' : 8 ≤ runAt (sideAt l n) k := by omega
        have hor : (outAt l n k || rowAt l n k) = true:=by rw [hout,hrow]; simp [c1,c2,c3,c4']
        rw [hor] at hss
        have hs1 : sigs l n (k + 1) = sigs l n k ++ [(k : Int)]:=by rw [hss]; simp
        simp only [go_sem,hlt,hg,L1,L2,L3,he,w1,Int.zero_add,wk,hmx,c1,c2,c3,c4]
        exact ⟨k + 1,by simp only [nextS,nextM,hs1,List.length_append,List.length_singleton,List.map_append,List.map_cons,List.map_nil],by omega,by omega⟩
      · have c4' : ¬ 8 ≤ runAt (sideAt l n) k := by omega
        have hor : (outAt l n k || rowAt l n k) = false:=by rw [hout,hrow]; simp [c1,c2,c3,c4']
        rw [hor] at hss
        have hs1 : sigs l n (k + 1) = sigs l n k:=by rw [hss]; simp
        simp only [go_sem,hlt,hg,L1,L2,L3,he,w1,Int.zero_add,wk,hmx,c1,c2,c3,c4]
        exact ⟨k + 1,by simp only [nextS,nextM,hs1,List.length_append,List.length_singleton,List.map_append,List.map_cons,List.map_nil],by omega,by omega⟩
  · have e2 : k = kN l n := by omega
    subst e2
    simp only [go_sem,Nat.lt_irrefl]
    rw [win_full (by simp)]
end Go.Am
end
section
/- What is drawn: numbers,measured values. -/
open Go
namespace Go.Am
variable {L : List Int} {a : Int}
end Go.Am
end
section
/- Package lot computes spreads. -/
open Go
set_option linter.unusedSimpArgs false
namespace Go.Am
variable {h : Heap} {K : Post}
end Go.Am
end
section
/- ProcessesWatched returns true. -/
open Go
set_option linter.unusedSimpArgs false
namespace Go.Am
variable {h : Heap} {K : Post}
def signalsV (l : List Int) (size : Int) : AV:=if chartFault l size = 0 then .tup [AL (sigs l size.toNat (kN l size.toNat)),AI 0] else .tup [AL [],AI (chartFault l size)]
theorem s_Signals (l : List Int) (size : Int) (hl : l.length ≤ 1000000000) : ACall X f_q02a [AL l,AI size] h K = K (signalsV l size) h []:=by
  unfold signalsV
  by_cases hf : chartFault l size = 0
  · obtain ⟨hm, n, rfl, a1, a2, a3⟩ := chartFault_ok hf
    rw [if_pos hf]
    exact Signals_ok l hm n a1 a2 a3 hf
  · rw [if_neg hf]
    refine rule ?_
    rw [c_q02a rfl]
    have vf:=fun h K=>s_chartFault (h:=h) (K:=K) l size hl
    simp only [d_q02a,go_sem,↓vf,vf,hf]
    rfl
end Go.Am
end
section
/- Values that are all greater by something: sums,ranges,charts. -/
open Go
set_option linter.all false
namespace Go.Am
def mvL (b : Int) (l : List Int) : List Int:=l.map fun n=>n + b
theorem mv_len (b : Int) (l : List Int) : (mvL b l).length = l.length:=by unfold mvL; simp
theorem mv_sum (b : Int) : ∀ l : List Int,(mvL b l).sum = l.sum + l.length * b
  | []=>by simp [mvL]
  | x :: l=>by
    have:=mv_sum b l
    unfold mvL at this ⊢
    simp only [List.map_cons,List.sum_cons,this,List.length_cons,Int.natCast_add,Int.add_mul]
    omega
theorem mv_sqs (b : Int) : ∀ l : List Int,sqs (mvL b l) = sqs l + 2 * b * l.sum + l.length * (b * b)
  | []=>by simp [mvL,sqs]
  | x :: l=>by
    have:=mv_sqs b l
    unfold mvL sqs at this ⊢
    simp only [List.map_cons,List.sum_cons,this,List.length_cons,Int.natCast_add,Int.add_mul,Int.mul_add,Int.one_mul]
    have h1 : b * x = x * b:=Int.mul_comm _ _
    have h2 : 2 * b * x = x * b + x * b:=by rw [Int.mul_assoc,h1]; omega
    have : ((1 : Nat) : Int) = 1:=rfl
    rw [this]
    omega
theorem mv_spread (b : Int) (l : List Int) : spreadN (mvL b l) = spreadN l:=by
  unfold spreadN
  rw [mv_len,mv_sum,mv_sqs]
  generalize (l.length : Int) = n
  generalize l.sum = s
  generalize sqs l = q
  have e1 : n * (q + 2 * b * s + n * (b * b)) = n * q + 2 * (n * b * s) + n * b * (n * b):=by
    rw [Int.mul_add,Int.mul_add]
    congr 1
    · congr 1
      rw [show (2 * (n * b * s) : Int) = n * (2 * b * s) by
        rw [Int.mul_assoc n b s,Int.mul_assoc 2 b s,← Int.mul_assoc 2 n,Int.mul_comm 2 n,Int.mul_assoc]]
    · rw [Int.mul_assoc n b (n * b),← Int.mul_assoc b n b,Int.mul_comm b n,Int.mul_assoc n b b]
  have e2 : (s + n * b) * (s + n * b) = s * s + 2 * (n * b * s) + n * b * (n * b):=by
    rw [Int.add_mul,Int.mul_add,Int.mul_add,Int.mul_comm s (n * b)]
    omega
  rw [e1,e2]
  omega
theorem mv_ch (b : Int) (l : List Int) (n k : Nat) : ch (mvL b l) n k = mvL b (ch l n k):=by
  unfold ch mvL
  rw [← List.map_drop,← List.map_take]
theorem mv_foldmax (b : Int) : ∀ (l : List Int) (x : Int),(mvL b l).foldl max (x + b) = l.foldl max x + b
  | [],x=>rfl
  | y :: l,x=>by
    unfold mvL
    simp only [List.map_cons,List.foldl_cons]
    rw [show max (x + b) (y + b) = max x y + b by omega]
    exact mv_foldmax b l (max x y)
theorem mv_foldmin (b : Int) : ∀ (l : List Int) (x : Int),(mvL b l).foldl min (x + b) = l.foldl min x + b
  | [],x=>rfl
  | y :: l,x=>by
    unfold mvL
    simp only [List.map_cons,List.foldl_cons]
    rw [show min (x + b) (y + b) = min x y + b by omega]
    exact mv_foldmin b l (min x y)
theorem mv_rng (b : Int) (l : List Int) : maxL (mvL b l) - minL (mvL b l) = maxL l - minL l:=by
  cases l with
  | nil=>rfl
  | cons x l=>
    have h1:=mv_foldmax b l x
    have h2:=mv_foldmin b l x
    unfold maxL minL
    unfold mvL at h1 h2 ⊢
    simp only [List.map_cons,List.tail_cons,List.headD_cons]
    rw [h1,h2]
    omega
section
variable (b : Int) (l : List Int) (n : Nat)
theorem mv_kN : kN (mvL b l) n = kN l n:=by unfold kN; rw [mv_len]
theorem mv_sumAt {k : Nat} (hk : k * n + n ≤ l.length) : sumAt (mvL b l) n k = sumAt l n k + n * b:=by
  unfold sumAt
  rw [mv_ch,mv_sum,ch_len hk]
theorem mv_rngAt (k : Nat) : rngAt (mvL b l) n k = rngAt l n k:=by
  unfold rngAt
  rw [mv_ch,mv_rng]
theorem mv_rngsL (k : Nat) : rngsL (mvL b l) n k = rngsL l n k:=by
  unfold rngsL
  exact List.map_congr_left fun i _=>mv_rngAt b l n i
theorem mv_sumsL : ∀ (k : Nat),k * n ≤ l.length → (sumsL (mvL b l) n k).sum = (sumsL l n k).sum + k * (n * b)
  | 0,_=>by simp [sumsL]
  | k + 1,hk=>by
    have hk2 : k * n + n ≤ l.length:=by rw [Nat.add_mul,Nat.one_mul] at hk; exact hk
    rw [sumsL_succ,sumsL_succ,List.sum_append,List.sum_append,mv_sumsL k (by omega),List.sum_singleton,List.sum_singleton,mv_sumAt b l n hk2]
    simp only [Int.natCast_add,Int.add_mul]
    have : ((1 : Nat) : Int) * ((n : Int) * b) = n * b:=by simp
    omega
theorem mv_totS : totS (mvL b l) n = totS l n + kN l n * (n * b):=by
  unfold totS
  rw [mv_kN]
  exact mv_sumsL b l n _ (Nat.div_mul_le_self _ _)
theorem mv_totR : totR (mvL b l) n = totR l n:=by unfold totR; rw [mv_kN,mv_rngsL]
theorem mv_farB : farB (mvL b l) n = farB l n:=by unfold farB; rw [mv_totR]
theorem mv_dev {i : Nat} (hi : i * n + n ≤ l.length) : sumAt (mvL b l) n i * kN (mvL b l) n - totS (mvL b l) n = sumAt l n i * kN l n - totS l n:=by
  rw [mv_kN,mv_totS,mv_sumAt b l n hi,Int.add_mul,Int.mul_comm ((n : Int) * b)]
  omega
theorem mv_sigs : ∀ (m : Nat),m * n ≤ l.length → 1 ≤ n → sigs (mvL b l) n m = sigs l n m
  | 0,_,_=>rfl
  | m + 1,hm,hn=>by
    have hm2 : m * n + n ≤ l.length:=by rw [Nat.add_mul,Nat.one_mul] at hm; exact hm
    have hj : ∀ j,j ≤ m → j * n + n ≤ l.length:=fun j hj=>by
      have : j * n ≤ m * n:=Nat.mul_le_mul_right _ hj
      omega
    have hs : ∀ j,j ≤ m → sideAt (mvL b l) n j = sideAt l n j:=fun j h=>by unfold sideAt; rw [mv_dev b l n (hj j h)]
    have ho : outAt (mvL b l) n m = outAt l n m:=by unfold outAt farAt; rw [mv_dev b l n hm2,mv_farB]
    have hr : rowAt (mvL b l) n m = rowAt l n m:=by
      unfold rowAt
      rw [hs m (Nat.le_refl _)]
      congr 1
      apply Bool.eq_iff_iff.2
      simp only [List.all_eq_true]
      constructor
      · intro h j hj2
        have:=h j hj2
        have hjm : j ≤ m:=by have:=List.mem_range.1 hj2; omega
        rw [hs j hjm] at this
        exact this
      · intro h j hj2
        have:=h j hj2
        have hjm : j ≤ m:=by have:=List.mem_range.1 hj2; omega
        rw [hs j hjm]
        exact this
    rw [sigs_succ,sigs_succ,mv_sigs m (by omega) hn,ho,hr]
end
theorem moved_low (b S D : Int) (hD : 0 < D) : ((low S D).1 + b * (low S D).2) * (low (S + b * D) D).2 = (low (S + b * D) D).1 * (low S D).2:=by
  have h1:=low_num S D
  have h2:=low_den S D
  have h3:=low_num (S + b * D) D
  have h4:=low_den (S + b * D) D
  have p1:=gcd_pos S D hD
  have p2:=gcd_pos (S + b * D) D hD
  generalize (low S D).1 = a1 at *
  generalize (low S D).2 = a2 at *
  generalize (low (S + b * D) D).1 = c1 at *
  generalize (low (S + b * D) D).2 = c2 at *
  generalize (Int.gcd S D : Int) = g at *
  generalize (Int.gcd (S + b * D) D : Int) = g' at *
  have e1 : (a1 + b * a2) * c2 * (g * g') = (S + b * D) * D:=by
    have q1 : (a1 + b * a2) * c2 * (g * g') = ((a1 + b * a2) * g) * (c2 * g'):=by simp only [Int.mul_assoc,Int.mul_left_comm,Int.mul_comm]
    rw [q1,Int.add_mul,Int.mul_assoc b,h1,h2,h4]
  have e2 : c1 * a2 * (g * g') = (S + b * D) * D:=by
    rw [show c1 * a2 * (g * g') = (c1 * g') * (a2 * g) by simp only [Int.mul_assoc,Int.mul_left_comm,Int.mul_comm],h3,h2]
  have hp : 0 < g * g':=Int.mul_pos p1 p2
  exact Int.eq_of_mul_eq_mul_right (by omega) (e1.trans e2.symm)
end Go.Am
end
section
/- ChartsMove returns true. -/
open Go
set_option linter.all false
namespace Go.Am
variable {h : Heap} {K : Post}
theorem s_ChartOwn (l : List Int) (size : Int) (id fz : Nat) (hl : l.length ≤ 1000000000) (hh : h[id]? = some (.row none (l.map eI) fz)) : ACall X f_q021 [.own id l.length 0 l.length,AI size] h K = K (chartV l size) (frz h id l.length) []:=by
  have e:=arg_pur (X:=X) (f:=f_q021) (F:=a_q021) (a:=[.own id l.length 0 l.length,AI size]) (vs:=[.sl none (l.map eI),.int .i64 size]) (h:=h) (h1:=frz h id l.length) (P:=K) x_q021 rfl
    (by
      have : win (l.map eI) 0 l.length = l.map eI:=win_full (by simp)
      simp [puras,pur,rd,hh,this]) rfl rfl frz_len
  rw [e]
  exact s_Chart l size hl
theorem s_SignalsOwn (l : List Int) (size : Int) (id fz : Nat) (hl : l.length ≤ 1000000000) (hh : h[id]? = some (.row none (l.map eI) fz)) : ACall X f_q02a [.own id l.length 0 l.length,AI size] h K = K (signalsV l size) (frz h id l.length) []:=by
  have e:=arg_pur (X:=X) (f:=f_q02a) (F:=a_q02a) (a:=[.own id l.length 0 l.length,AI size]) (vs:=[.sl none (l.map eI),.int .i64 size]) (h:=h) (h1:=frz h id l.length) (P:=K) x_q02a rfl
    (by
      have : win (l.map eI) 0 l.length = l.map eI:=win_full (by simp)
      simp [puras,pur,rd,hh,this]) rfl rfl frz_len
  rw [e]
  exact s_Signals l size hl
theorem s_SpreadOwn (l : List Int) (id fz : Nat) (hl : l.length ≤ 1000000000) (hh : h[id]? = some (.row none (l.map eI) fz)) : ACall X f_q02b [.own id l.length 0 l.length] h K = K (spreadV l) (frz h id l.length) []:=by
  have e:=arg_pur (X:=X) (f:=f_q02b) (F:=a_q02b) (a:=[.own id l.length 0 l.length]) (vs:=[.sl none (l.map eI)]) (h:=h) (h1:=frz h id l.length) (P:=K) x_q02b rfl
    (by
      have : win (l.map eI) 0 l.length = l.map eI:=win_full (by simp)
      simp [puras,pur,rd,hh,this]) rfl rfl frz_len
  rw [e]
  exact s_Spread l hl
theorem frzA {o0 o1 : Obj} {t : Heap} {sh : Sh} {xs : List PV} {fz k : Nat} : frz (o0 :: o1 :: .row sh xs fz :: t) 2 k = o0 :: o1 :: .row sh xs (max fz k) :: t:=rfl
theorem frzB {o0 o1 o2 : Obj} {t : Heap} {sh : Sh} {xs : List PV} {fz k : Nat} : frz (o0 :: o1 :: o2 :: .row sh xs fz :: t) 3 k = o0 :: o1 :: o2 :: .row sh xs (max fz k) :: t:=rfl
theorem mulS {x y A B : Int} (h1 : -A ≤ x) (h2 : x ≤ A) (h3 : 0 ≤ y) (h4 : y ≤ B) (hA : 0 ≤ A) : -(A * B) ≤ x * y ∧ x * y ≤ A * B:=by
  have e1 : x * y ≤ A * y:=Int.mul_le_mul_of_nonneg_right h2 h3
  have e2 : A * y ≤ A * B:=Int.mul_le_mul_of_nonneg_left h4 hA
  have e3 : -A * y ≤ x * y:=Int.mul_le_mul_of_nonneg_right h1 h3
  rw [Int.neg_mul] at e3
  omega
theorem s_moved (a1 a2 c1 c2 b : Int) (id : Nat) (hh : h[id]? = some (.box [AI b])) (ha : 0 < a2) (hc : 0 < c2) (he : (a1 + b * a2) * c2 = c1 * a2)
    (b1 : -1000000000 ≤ a1 ∧ a1 ≤ 1000000000) (b2 : a2 ≤ 1000000) (b3 : -1000000000 ≤ c1 ∧ c1 ≤ 1000000000) (b4 : c2 ≤ 1000000) (b5 : -1000 ≤ b ∧ b ≤ 1000) :
    ACall X f_q03h [.p (.agg [.int .i64 a1,.int .i64 a2]),.p (.agg [.int .i64 c1,.int .i64 c2]),.ref id 0] h K = K (AB true) h []:=by
  refine rule ?_
  rw [c_q03h rfl]
  have m1:=mulS (show -1000 ≤ b by omega) (show b ≤ 1000 by omega) (show 0 ≤ a2 by omega) b2 (by omega)
  have m2:=mulS (show -2000000000 ≤ a1 + b * a2 by omega) (show a1 + b * a2 ≤ 2000000000 by omega) (show 0 ≤ c2 by omega) b4 (by omega)
  have w1 : IntKind.i64.wrap (b * a2) = b * a2:=i64_wrap _ (by omega) (by omega)
  have w2 : IntKind.i64.wrap (a1 + b * a2) = a1 + b * a2:=i64_wrap _ (by omega) (by omega)
  have w3 : IntKind.i64.wrap ((a1 + b * a2) * c2) = (a1 + b * a2) * c2:=i64_wrap _ (by omega) (by omega)
  have w4 : IntKind.i64.wrap (c1 * a2) = (a1 + b * a2) * c2:=by rw [← he,w3]
  have hid:=lt_of_get hh
  have hg : ∀ t : Heap,(h ++ t)[id]? = some (.box [AI b]):=fun t=>by rw [List.getElem?_append_left hid,hh]
  simp only [d_q03h,go_sem,ha,hc,hg,w1,w2,w3,w4]
attribute [-go_sem] e_q03g_k2 d_q03g_k2
theorem meas0 {l : List Int} {n : Nat} (hn : n ≤ l.length) (hl : l.length ≤ 30) (hb : ∀ x ∈ l,-100 ≤ x ∧ x ≤ 100) : measFault l n = 0:=by
  unfold measFault
  rw [if_neg (by omega),if_neg (by omega),if_pos]
  rw [List.all_eq_true]
  intro x hx
  have:=hb x hx
  unfold isM
  simp; omega
theorem low_bd {S D : Int} (hD : 0 < D) (hS : -1000000000 ≤ S ∧ S ≤ 1000000000) (hD2 : D ≤ 1000000) : 0 < (low S D).2 ∧ (low S D).2 ≤ 1000000 ∧ -1000000000 ≤ (low S D).1 ∧ (low S D).1 ≤ 1000000000:=by
  have h1:=low_den_pos S D hD
  have h2:=low_den_le S D hD
  have h3:=low_abs S D hD
  omega
theorem s_mv (S D b : Int) (id : Nat) (hh : h[id]? = some (.box [AI b])) (hD : 0 < D) (hD2 : D ≤ 1000000) (hS : -1000000000 ≤ S ∧ S ≤ 1000000000) (hT : -1000000000 ≤ S + b * D ∧ S + b * D ≤ 1000000000) (b5 : -1000 ≤ b ∧ b ≤ 1000) :
    ACall X f_q03h [.p (.agg [.int .i64 (low S D).1,.int .i64 (low S D).2]),.p (.agg [.int .i64 (low (S + b * D) D).1,.int .i64 (low (S + b * D) D).2]),.ref id 0] h K = K (AB true) h []:=by
  obtain ⟨p1,p2,p3,p4⟩:=low_bd hD hS hD2
  obtain ⟨q1,q2,q3,q4⟩:=low_bd hD hT hD2
  exact s_moved _ _ _ _ b id hh p1 q1 (moved_low b S D hD) ⟨p3,p4⟩ p2 ⟨q3,q4⟩ q2 b5
theorem cm_bd {vs : List Int} {n : Nat} (hn : 2 ≤ n ∧ n ≤ 4) (hl2 : vs.length ≤ 30) (hv : ∀ x ∈ vs,0 ≤ x ∧ x ≤ 20) : (-1200 ≤ totS vs n ∧ totS vs n ≤ 1200) ∧ (-300 ≤ totR vs n ∧ totR vs n ≤ 300) ∧ (-225600 ≤ farB vs n ∧ farB vs n ≤ 225600):=by
  have hk15 : kN vs n ≤ 15:=by
    have h1 : kN vs n * n ≤ vs.length:=Nat.div_mul_le_self _ _
    have h2 : kN vs n * 2 ≤ kN vs n * n:=Nat.mul_le_mul_left _ hn.1
    omega
  have a1 : -1200 ≤ totS vs n ∧ totS vs n ≤ 1200:=by
    have:=sum_bd' (l:=sumsL vs n (kN vs n)) (B:=80) (N:=15) (fun x hx=>by
      obtain ⟨i,_,rfl⟩:=List.mem_map.1 hx
      have:=sum_bd' (l:=ch vs n i) (B:=20) (N:=4) (fun y hy=>by have:=hv y (ch_mem hy); omega) (by simp [ch]; omega) (by omega)
      unfold sumAt; omega) (by rw [sumsL_len]; exact hk15) (by omega)
    unfold totS; omega
  have a2 : -300 ≤ totR vs n ∧ totR vs n ≤ 300:=by
    have:=sum_bd' (l:=rngsL vs n (kN vs n)) (B:=20) (N:=15) (fun x hx=>by
      obtain ⟨i,hi,rfl⟩:=List.mem_map.1 hx
      simp only [List.mem_range] at hi
      have hlen:=ch_len ((div_le (show 1 ≤ n by omega)).2 (show i < vs.length / n from hi))
      have hne : ch vs n i ≠ []:=by intro e; rw [e] at hlen; simp at hlen; omega
      have h1:=hv _ (ch_mem (maxL_mem hne))
      have h2:=hv _ (ch_mem (minL_mem hne))
      unfold rngAt; omega) (by rw [rngsL_len]; exact hk15) (by omega)
    unfold totR; omega
  refine ⟨a1,a2,?_⟩
  have f1:=factorV_bd (size:=n) (by omega)
  have b1:=mulS (x:=totR vs n) (y:=factorV n) (A:=300) (B:=188) (by omega) (by omega) (by omega) (by omega) (by omega)
  have b2:=mulS (x:=totR vs n * factorV n) (y:=n) (A:=56400) (B:=4) (by omega) (by omega) (by omega) (by omega) (by omega)
  unfold farB; omega
theorem cm_k2 (vs : List Int) (n : Nat) (b : Int) (o : Obj) (hn : 2 ≤ n ∧ n ≤ 4) (hb : -50 ≤ b ∧ b ≤ 50) (hl : n ≤ vs.length) (hl2 : vs.length ≤ 30) (hv : ∀ x ∈ vs,0 ≤ x ∧ x ≤ 20) (K : Ex → St → Prop) (hK : ∀ h x,x = [] → K .ret ⟨[(2,AB true)],h,x⟩) :
    d_q03g_k2 (ACall X) X.gl (AI n) (.ref 1 0) (.own 2 vs.length 0 vs.length) (.own 3 vs.length 0 vs.length) [o,.box [AI b],.row none (vs.map eI) 0,.row none ((mvL b vs).map eI) 0] [] K:=by
  have hm1 : measFault vs n = 0:=meas0 hl hl2 fun x hx=>by have:=hv x hx; omega
  have hm2 : measFault (mvL b vs) n = 0:=meas0 (by rw [mv_len]; exact hl) (by rw [mv_len]; exact hl2) fun x hx=>by
    obtain ⟨y,hy,rfl⟩:=List.mem_map.1 hx
    have:=hv y hy; omega
  have hc1 : chartFault vs n = 0:=by unfold chartFault; rw [if_pos (by omega),hm1]
  have hc2 : chartFault (mvL b vs) n = 0:=by unfold chartFault; rw [if_pos (by omega),hm2]
  have hs1 : measFault vs 1 = 0:=meas0 (n:=1) (by omega) hl2 fun x hx=>by have:=hv x hx; omega
  have hs2 : measFault (mvL b vs) 1 = 0:=meas0 (n:=1) (by rw [mv_len]; omega) (by rw [mv_len]; exact hl2) fun x hx=>by
    obtain ⟨y,hy,rfl⟩:=List.mem_map.1 hx
    have:=hv y hy; omega
  have C1:=fun (o0 o1 : Obj) (t : Heap) (fz : Nat) (K : Post)=>s_ChartOwn (h:=o0 :: o1 :: .row none (vs.map eI) fz :: t) (K:=K) vs n 2 fz (by omega) rfl
  have C2:=fun (o0 o1 o2 : Obj) (t : Heap) (fz : Nat) (K : Post)=>s_ChartOwn (h:=o0 :: o1 :: o2 :: .row none ((mvL b vs).map eI) fz :: t) (K:=K) (mvL b vs) n 3 fz (by rw [mv_len]; omega) rfl
  have G1:=fun (o0 o1 : Obj) (t : Heap) (fz : Nat) (K : Post)=>s_SignalsOwn (h:=o0 :: o1 :: .row none (vs.map eI) fz :: t) (K:=K) vs n 2 fz (by omega) rfl
  have G2:=fun (o0 o1 o2 : Obj) (t : Heap) (fz : Nat) (K : Post)=>s_SignalsOwn (h:=o0 :: o1 :: o2 :: .row none ((mvL b vs).map eI) fz :: t) (K:=K) (mvL b vs) n 3 fz (by rw [mv_len]; omega) rfl
  have P1:=fun (o0 o1 : Obj) (t : Heap) (fz : Nat) (K : Post)=>s_SpreadOwn (h:=o0 :: o1 :: .row none (vs.map eI) fz :: t) (K:=K) vs 2 fz (by omega) rfl
  have P2:=fun (o0 o1 o2 : Obj) (t : Heap) (fz : Nat) (K : Post)=>s_SpreadOwn (h:=o0 :: o1 :: o2 :: .row none ((mvL b vs).map eI) fz :: t) (K:=K) (mvL b vs) 3 fz (by rw [mv_len]; omega) rfl
  unfold chartV at C1 C2
  unfold signalsV at G1 G2
  unfold spreadV at P1 P2
  have hkn : kN vs n * n ≤ vs.length:=Nat.div_mul_le_self _ _
  have hk1 : 1 ≤ kN vs n:=(Nat.le_div_iff_mul_le (by omega)).2 (by omega)
  have hsg : sigs (mvL b vs) n (kN vs n) = sigs vs n (kN vs n):=mv_sigs b vs n _ hkn (by omega)
  simp only [hc1,if_true,Int.toNat_natCast] at C1 G1
  simp only [hc2,if_true,Int.toNat_natCast,mv_len,mv_kN,hsg] at C2 G2
  simp only [hs1,if_true,fracP] at P1
  simp only [hs2,if_true,fracP,mv_len,mv_sum,mv_spread] at P2
  simp only [chartP] at C1 C2
  simp only [mv_kN,mv_totS,mv_totR,mv_farB] at C2
  have E6:=fun h K=>s_errsK (h:=h) (K:=K) [0,0,0,0,0,0] (by simp)
  have e6 : firstErr [0,0,0,0,0,0] = 0:=rfl
  simp only [AL,List.map_cons,List.map_nil,e6] at E6
  obtain ⟨a1,a2,a3⟩:=cm_bd hn hl2 hv
  have hD : (0 : Int) < (kN vs n : Int) * n:=Int.mul_pos (by omega) (by omega)
  have hD2 : (kN vs n : Int) * n ≤ 30 := by have : ((kN vs n * n : Nat) : Int) ≤ 30 := by omega
                                            simpa using this
  have hbD:=mulS (x:=b) (y:=(kN vs n : Int) * n) (A:=50) (B:=30) (by omega) (by omega) (by omega) hD2 (by omega)
  have hsum:=sum_bd' (l:=vs) (B:=20) (N:=30) (fun y hy=>by have:=hv y hy; omega) hl2 (by omega)
  have hbL:=mulS (x:=b) (y:=(vs.length : Int)) (A:=50) (B:=30) (by omega) (by omega) (by omega) (by omega) (by omega)
  have x1 : totS vs n + kN vs n * (n * b) = totS vs n + b * ((kN vs n : Int) * n):=by rw [← Int.mul_assoc,Int.mul_comm b]
  have x5 : b * ((kN vs n : Int) * n * 100) = b * ((kN vs n : Int) * n) * 100:=(Int.mul_assoc b ((kN vs n : Int) * n) 100).symm
  have x2 : (totS vs n + b * ((kN vs n : Int) * n)) * 100 - farB vs n = (totS vs n * 100 - farB vs n) + b * ((kN vs n : Int) * n * 100):=by rw [x5]; omega
  have x3 : (totS vs n + b * ((kN vs n : Int) * n)) * 100 + farB vs n = (totS vs n * 100 + farB vs n) + b * ((kN vs n : Int) * n * 100):=by rw [x5]; omega
  have x4 : vs.sum + (vs.length : Int) * b = vs.sum + b * (vs.length : Int):=by rw [Int.mul_comm]
  rw [x1,x2,x3] at C2
  rw [x4] at P2
  have M1:=fun (o0 : Obj) (t : Heap) (K : Post)=>s_mv (h:=o0 :: .box [AI b] :: t) (K:=K) (totS vs n) ((kN vs n : Int) * n) b 1 rfl hD (by omega) (by omega) (by omega) (by omega)
  have M2:=fun (o0 : Obj) (t : Heap) (K : Post)=>s_mv (h:=o0 :: .box [AI b] :: t) (K:=K) (totS vs n * 100 - farB vs n) ((kN vs n : Int) * n * 100) b 1 rfl (by omega) (by omega) (by omega) (by rw [x5]; omega) (by omega)
  have M3:=fun (o0 : Obj) (t : Heap) (K : Post)=>s_mv (h:=o0 :: .box [AI b] :: t) (K:=K) (totS vs n * 100 + farB vs n) ((kN vs n : Int) * n * 100) b 1 rfl (by omega) (by omega) (by omega) (by rw [x5]; omega) (by omega)
  have M4:=fun (o0 : Obj) (t : Heap) (K : Post)=>s_mv (h:=o0 :: .box [AI b] :: t) (K:=K) vs.sum (vs.length : Int) b 1 rfl (by omega) (by omega) (by omega) (by omega) (by omega)
  generalize low (totS vs n + b * ((kN vs n : Int) * n)) ((kN vs n : Int) * n) = F1 at *
  generalize low (totS vs n * 100 - farB vs n + b * ((kN vs n : Int) * n * 100)) ((kN vs n : Int) * n * 100) = F2 at *
  generalize low (totS vs n * 100 + farB vs n + b * ((kN vs n : Int) * n * 100)) ((kN vs n : Int) * n * 100) = F3 at *
  generalize low (vs.sum + b * (vs.length : Int)) (vs.length : Int) = F4 at *
  generalize low (totS vs n) ((kN vs n : Int) * n) = B1 at *
  generalize low (totS vs n * 100 - farB vs n) ((kN vs n : Int) * n * 100) = B2 at *
  generalize low (totS vs n * 100 + farB vs n) ((kN vs n : Int) * n * 100) = B3 at *
  generalize low vs.sum (vs.length : Int) = B4 at *
  generalize low (totR vs n) (kN vs n : Int) = R1 at *
  generalize low (spreadN vs) ((vs.length : Int) * (vs.length : Int)) = R2 at *
  have Q:=fun h K=>s_EqualI (h:=h) (K:=K) (sigs vs n (kN vs n)) (sigs vs n (kN vs n)) (by have:=sigs_len vs n (kN vs n); have : kN vs n ≤ kN vs n * n:=Nat.le_mul_of_pos_right _ (by omega); omega)
  simp only [decide_true] at Q
  generalize sigs vs n (kN vs n) = sg at *
  simp only [d_q03g_k2,go_sem,↓C1,C1,↓C2,C2,↓G1,G1,↓G2,G2,↓P1,P1,↓P2,P2,frzA,frzB,↓E6,E6,↓M1,M1,↓M2,M2,↓M3,M3,↓M4,M4,↓Q,Q,s_ready]
  exact hK _ _ rfl
theorem law_CM (L : List Int) {K : Post} : ACall X f_q03g [AL L] [] K = K (AB true) [] []:=by
  refine rule ?_
  rw [c_q03g rfl]
  have p0 : posN 0 0:=by unfold posN; omega
  have p1 : posN 0 1:=by unfold posN; omega
  have p2 : posN 0 2:=by unfold posN; omega
  obtain ⟨n1,n2⟩:=rangeV_bd (u:=2) (v:=4) L 0 (by omega) (by omega)
  obtain ⟨n,hn⟩:=Int.eq_ofNat_of_zero_le (show 0 ≤ rangeV 2 4 L 0 by omega)
  obtain ⟨b1,b2⟩:=rangeV_bd (u:=-50) (v:=50) L 1 (by omega) (by omega)
  obtain ⟨m1,m2⟩:=rangeV_bd (u:=n) (v:=30) L 2 (by omega) (by omega)
  obtain ⟨m,hm⟩:=Int.eq_ofNat_of_zero_le (show 0 ≤ rangeV n 30 L 2 by omega)
  have hn30 : (n : Int) ≤ 30:=by omega
  have hn0 : (-1152921504606846976 : Int) ≤ n:=by omega
  have e2:=@e_q03g_k2
  simp only [d_q03g,go_sem,p0,p1,p2,hn,hn30,hn0,hm]
  generalize rangeV (-50) 50 L 1 = b at *
  refine N_loop (fun vs : List Int=>⟨[(3,.ref 0 0),(4,AI n),(5,.ref 1 0),(6,.own 2 vs.length 0 vs.length),(7,.own 3 vs.length 0 vs.length),(32,AI m),(33,AI vs.length)],[strm L (3 + (vs.length : Int)),.box [AI b],.row none (vs.map eI) 0,.row none ((mvL b vs).map eI) 0],[]⟩)
    (fun vs=>vs.length ≤ m ∧ ∀ x ∈ vs,0 ≤ x ∧ x ≤ 20) (fun vs=>m - vs.length) [] rfl ⟨by simp,by simp⟩ ?_
  rintro vs ⟨h1,h2⟩
  rcases Nat.lt_or_ge vs.length m with hlt | hge
  · have hp : posN 0 (3 + (vs.length : Int)) := by unfold posN; omega
    obtain ⟨q1,q2⟩:=rangeV_bd (u:=0) (v:=20) L (3 + (vs.length : Int)) (by omega) (by omega)
    generalize hx : rangeV 0 20 L (3 + (vs.length : Int)) = x at *
    have w1 : IntKind.i64.wrap ((vs.length : Int) + 1) = ((vs.length + 1 : Nat) : Int):=i64_wrap _ (by omega) (by omega)
    have w2 : IntKind.i64.wrap (((vs.length + 1 : Nat) : Int) - 1) = ((vs.length : Nat) : Int):=by rw [i64_wrap _ (by omega) (by omega)]; omega
    have w3 : IntKind.i64.wrap (x + b) = x + b:=i64_wrap _ (by omega) (by omega)
    have hmx : vs.length + 1 ≤ maxSl:=by unfold maxSl; omega
    have hg : (vs.map eI ++ [PV.int .i64 x])[vs.length]? = some (.int .i64 x):=by
      rw [List.getElem?_append_right (by simp)]; simp
    have hlt1 : vs.length < vs.length + 1:=Nat.lt_succ_self _
    simp only [go_sem,hlt,hp,hx,w1,w2,w3,hmx,mv_len,hlt1,hg]
    refine ⟨vs ++ [x],?_,⟨by simp; omega,fun y hy=>?_⟩,by simp; omega⟩
    · simp only [List.length_append, List.length_cons, List.length_nil, List.map_append, List.map_cons, List.map_nil, mvL]
      rw [show (3 : Int) + ((vs.length + (0 + 1) : Nat) : Int) = 3 + (vs.length : Int) + 1 by omega]
    · rcases List.mem_append.1 hy with hy | hy
      · exact h2 y hy
      · rw [List.mem_singleton] at hy; subst hy; exact ⟨q1,q2⟩
  · have hl : vs.length = m := by omega
    simp only [go_sem,hl,Nat.lt_irrefl]
    rw [e2]
    simp only [aget,Nat.reduceEqDiff,if_true,if_false]
    have:=cm_k2 vs n b (strm L (3 + (vs.length : Int))) (by omega) (by omega) (by omega) (by omega) h2
    rw [hl] at this
    refine this _ fun h x hx=>?_
    subst hx
    simp only [go_sem]
end Go.Am
end
section
/- From a law that is true here to the model's calls at what came in. -/
open Go
namespace Go.Am
variable {P : Program}
theorem law_nil {X : Ctx} (HX : Fits P X) {f : Nat} {F : AFun} (hF : X.fn f = some F) (H : ∀ L : List Int,ACall X f [pints L] [] fun v _ _=>v = .p (.bool true)) (W : World) (hG : GInv X.gl (imm [] [] W)) :
    Calls P f #[.slice none 0 0] W fun e W'=>e = .returned (.bool true) ∧ RowKit.Below W.heap.size W W':=by
  refine (calls_of HX hF (H []) (W:=W) (vs:=[.slice none 0 0]) hG rfl (fun j y v hy hv=>?_)).mono fun e W' he=>?_
  · cases j with
    | zero=>cases hy; cases hv; exact came_nil W
    | succ j=>cases hy
  · cases e with
    | returned r=>
      obtain ⟨⟨v,h,x,μ,hk,hr⟩,hb⟩:=he
      subst hk
      exact ⟨by rw [hr.p_bool],hb⟩
    | panicked _=>exact he.elim
    | outgrown=>exact he.elim
theorem law_ints {X : Ctx} (HX : Fits P X) {f : Nat} {F : AFun} (hF : X.fn f = some F) (H : ∀ L : List Int,ACall X f [pints L] [] fun v _ _=>v = .p (.bool true)) {W : World} (hG : GInv X.gl (imm [] [] W)) {a : Addr} {len cap : Nat} {zs : List Int}
    (hl : len ≤ cap) (hz : len ≤ zs.length) (hc : ∀ i,i < zs.length → W.cell? (a.add i) = some (.int .i64 (zs.getD i 0))) :
    Calls P f #[.slice (some a) len cap] W fun e W'=>e = .returned (.bool true) ∧ RowKit.Below W.heap.size W W':=by
  refine (calls_of HX hF (H (zs.take len)) (W:=W) (vs:=[.slice (some a) len cap]) hG rfl (fun j y v hy hv=>?_)).mono fun e W' he=>?_
  · cases j with
    | zero=>
      cases hy; cases hv
      rcases Nat.eq_zero_or_pos len with h0 | h0
      · subst h0
        exact .p _ _ (.nils _ _ _)
      · exact came_ints (by simpa [Addr.add] using World.cell?_spot (hc 0 (by omega))) hl hz hc
    | succ j=>cases hy
  · cases e with
    | returned r=>
      obtain ⟨⟨v,h,x,μ,hk,hr⟩,hb⟩:=he
      subst hk
      exact ⟨by rw [hr.p_bool],hb⟩
    | panicked _=>exact he.elim
    | outgrown=>exact he.elim
end Go.Am
namespace Go.ChangeShapes
open Go.RowKit Go.WideShapes
section
variable {H : Type} {enc : TypeId × Value → H} {P : Program}
end
end Go.ChangeShapes
end
section
/- The abstract machine,part L2: the kit's contracts asv rows. -/
set_option linter.unusedSimpArgs false
set_option linter.unusedVariables false
namespace Go.Am
variable {P : Program} {gl : Nat → Option PV}
open Go.Shelf
end Go.Am
end
