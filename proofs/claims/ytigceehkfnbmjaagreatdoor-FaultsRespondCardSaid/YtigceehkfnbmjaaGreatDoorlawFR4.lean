/- Texts of the proof, laid together: Am27, Am28, Am29, Am30, Am31, AmS. -/
import Derived.Test.YtigceehkfnbmjaaGreatDoorlawFR3
set_option linter.all false
section
/- The abstract machine,part 27: loops,and the rules of computing asv one set. -/
set_option linter.unusedSimpArgs false
set_option linter.unusedVariables false
namespace Go.Am
variable {C : Hd} {gl : Nat → Option PV} {e : List (Nat × AV)} {h : Heap} {x : Esc} {K : Ex → St → Prop} {s : St}
def loopK {σ : Type} (S : σ → St) (P : σ → Prop) (m : σ → Nat) (K : Ex → St → Prop) (s : σ) (e : Ex) (s' : St) : Prop:=match e with
  | .normal=>∃ t,s' = S t ∧ P t ∧ m t < m s
  | .exit i=>K (.exit i) s'
  | .ret=>K .ret s'
theorem loopK_normal {σ : Type} {S : σ → St} {P : σ → Prop} {m : σ → Nat} {K : Ex → St → Prop} {t : σ} {s' : St} : loopK S P m K t .normal s' = ∃ u,s' = S u ∧ P u ∧ m u < m t:=(rfl)
theorem loopK_exit {σ : Type} {S : σ → St} {P : σ → Prop} {m : σ → Nat} {K : Ex → St → Prop} {t : σ} {s' : St} {i : Nat} : loopK S P m K t (.exit i) s' = K (.exit i) s':=(rfl)
theorem loopK_ret {σ : Type} {S : σ → St} {P : σ → Prop} {m : σ → Nat} {K : Ex → St → Prop} {t : σ} {s' : St} : loopK S P m K t .ret s' = K .ret s':=(rfl)
theorem loopK_congr {σ : Type} {S : σ → St} {P : σ → Prop} {m : σ → Nat} {K : Ex → St → Prop} {t : σ} {ex ex' : Ex} {s s' : St} (he : ex = ex') (hs : s = s') : loopK S P m K t ex s = loopK S P m K t ex' s':=by rw [he,hs]
theorem ALoop_same {T : St → (Ex → St → Prop) → Prop} {K : Ex → St → Prop} {s s' : St} (h : T s = T s') : ALoop T K s = ALoop T K s':=by
  refine propext ⟨fun H=>?_,fun H=>?_⟩
  · cases H with | mk _ R a b c d=>exact .mk _ R (h ▸ a) b c d
  · cases H with | mk _ R a b c d=>exact .mk _ R (h.symm ▸ a) b c d
theorem aget_prune_mem {l : List Nat} {e : List (Nat × AV)} {t : Nat} (ht : t ∈ l) : aget (prune (some l) e) t = aget e t:=by
  simp only [prune]
  induction l with
  | nil=>cases ht
  | cons k r ih=>
    simp only [List.map_cons,aget]
    split
    · rename_i hk; rw [hk]
    · rename_i hk
      rcases List.mem_cons.1 ht with h1 | h1
      · exact absurd h1.symm hk
      · exact ih h1
theorem prune_prune {l : List Nat} {e : List (Nat × AV)} : prune (some l) (prune (some l) e) = prune (some l) e:=by
  show l.map _ = l.map _
  exact List.map_congr_left fun t ht=>by rw [aget_prune_mem ht]
def LoopP (C : Hd) (gl : Nat → Option PV) (l : List Nat) (b : ACode) (K : Ex → St → Prop) (e : List (Nat × AV)) (h : Heap) (x : Esc) : Prop:=AW C gl (.loop (.pr l b)) ⟨e,h,x⟩ K
def LoopS (C : Hd) (gl : Nat → Option PV) (l : List Nat) (b : ACode) (K : Ex → St → Prop) (e : List (Nat × AV)) (h : Heap) (x : Esc) : Prop:=AW C gl (.loop (.scope (.pr l b))) ⟨e,h,x⟩ K
theorem LoopP_eq {l : List Nat} {b : ACode} : AW C gl (.loop (.pr l b)) ⟨e,h,x⟩ K = LoopP C gl l b K (prune (some l) e) h x:=by
  show ALoop _ _ _ = ALoop _ _ _
  exact ALoop_same (funext fun R=>by show AW C gl b _ R = AW C gl b _ R; dsimp only; rw [prune_prune])
theorem LoopS_eq {l : List Nat} {b : ACode} : AW C gl (.loop (.scope (.pr l b))) ⟨e,h,x⟩ K = LoopS C gl l b K (prune (some l) e) h x:=by
  show ALoop _ _ _ = ALoop _ _ _
  exact ALoop_same (funext fun R=>by show AW C gl b _ _ = AW C gl b _ _; dsimp only; rw [prune_prune])
theorem app_get {α : Type} (h l : List α) (n : Nat) : (h ++ l)[h.length + n]? = l[n]?:=by
  rw [List.getElem?_append_right (by omega)]; congr 1; omega
theorem app_get0 {α : Type} (h l : List α) : (h ++ l)[h.length]? = l[0]?:=by
  rw [List.getElem?_append_right (by omega)]; congr 1; omega
theorem app_set {α : Type} (h l : List α) (n : Nat) (o : α) : (h ++ l).set (h.length + n) o = h ++ l.set n o:=by
  rw [List.set_append_right _ _ (by omega)]; congr 2; omega
theorem app_set0 {α : Type} (h l : List α) (o : α) : (h ++ l).set h.length o = h ++ l.set 0 o:=by
  rw [List.set_append_right _ _ (by omega)]; congr 2; omega
theorem app_take {α : Type} (h l : List α) (n : Nat) : (h ++ l).take (h.length + n) = h ++ l.take n:=List.take_length_add_append ..
theorem app_take0 {α : Type} (h l : List α) : (h ++ l).take h.length = h:=List.take_left ..
theorem app_frz (h l : Heap) (n k : Nat) : frz (h ++ l) (h.length + n) k = h ++ frz l n k:=by
  unfold frz
  rw [app_get]
  cases l[n]? with
  | none=>rfl
  | some o=>cases o <;> first | rfl | simp only [app_set]
theorem app_frz0 (h l : Heap) (k : Nat) : frz (h ++ l) h.length k = h ++ frz l 0 k:=app_frz h l 0 k
theorem i64_wrap (n : Int) (h1 : -9223372036854775808 ≤ n) (h2 : n ≤ 9223372036854775807) : IntKind.i64.wrap n = n:=by
  simp [IntKind.wrap,IntKind.bits,IntKind.signed]; omega
def finR (rs : List ARes) (kp : Bool) (b : Nat) (P : Post) (e : Ex) (s : St) : Prop:=match e with
  | .exit _=>False
  | _=>match aresAll s rs with
    | some vs=>match kp with
      | true=>
        let n:=close s.esc.length s.esc (max b (oneOf vs).top)
        if closed s.esc n then P (oneOf vs) (s.h.take n) (s.esc.filter fun y=>decide (y.1 < n)) else P (oneOf vs) s.h s.esc
      | false=>match reif b s.h (oneOf vs) with
        | some v0=>
          let n:=close s.esc.length s.esc (max b v0.top)
          if closed s.esc n then match reif n s.h (oneOf vs) with
            | some v=>v.top ≤ n ∧ P v (s.h.take n) (s.esc.filter fun y=>decide (y.1 < n))
            | none=>False
          else P (oneOf vs) s.h s.esc
        | none=>False
    | none=>False
theorem finK_R {F : AFun} {b : Nat} {P : Post} : finK F b P = finR F.results F.keep b P:=by
  funext e s; cases e <;> rfl
theorem finR_exit {rs : List ARes} {kp : Bool} {b : Nat} {P : Post} {i : Nat} {s : St} : finR rs kp b P (.exit i) s = False:=(rfl)
def retK (kp : Bool) (b : Nat) (P : Post) (o : Option (List AV)) (h : Heap) (x : Esc) : Prop:=match o with
  | some vs=>match kp with
    | true=>
      let n:=close x.length x (max b (oneOf vs).top)
      if closed x n then P (oneOf vs) (h.take n) (x.filter fun y=>decide (y.1 < n)) else P (oneOf vs) h x
    | false=>match reif b h (oneOf vs) with
      | some v0=>
        let n:=close x.length x (max b v0.top)
        if closed x n then match reif n h (oneOf vs) with
          | some v=>v.top ≤ n ∧ P v (h.take n) (x.filter fun y=>decide (y.1 < n))
          | none=>False
        else P (oneOf vs) h x
      | none=>False
  | none=>False
theorem finR_normal {rs : List ARes} {kp : Bool} {b : Nat} {P : Post} {e : List (Nat × AV)} {h : Heap} {x : Esc} : finR rs kp b P .normal ⟨e,h,x⟩ = retK kp b P (aresAll ⟨e,h,x⟩ rs) h x:=(rfl)
theorem finR_ret {rs : List ARes} {kp : Bool} {b : Nat} {P : Post} {e : List (Nat × AV)} {h : Heap} {x : Esc} : finR rs kp b P .ret ⟨e,h,x⟩ = retK kp b P (aresAll ⟨e,h,x⟩ rs) h x:=(rfl)
theorem finR_congr {rs : List ARes} {kp : Bool} {b : Nat} {P : Post} {ex ex' : Ex} {s s' : St} (he : ex = ex') (hs : s = s') : finR rs kp b P ex s = finR rs kp b P ex' s':=by rw [he,hs]
theorem retK_pure {b : Nat} {P : Post} {vs : List AV} {h : Heap} (ht : (oneOf vs).top ≤ b) (hr : ∀ b,reif b h (oneOf vs) = some (oneOf vs)) : retK false b P (some vs) h [] = P (oneOf vs) (h.take b) []:=by
  simp only [retK,hr,close,List.length_nil,closed,List.all_nil,if_true,List.filter_nil,Nat.max_eq_left ht,ht,true_and]
theorem reif_p {b : Nat} {h : Heap} {v : PV} : reif b h (.p v) = some (.p v):=(rfl)
theorem reifs_nil {b : Nat} {h : Heap} : reifs b h [] = some []:=(rfl)
theorem retK_1 {b : Nat} {P : Post} {v : PV} {h : Heap} : retK false b P (some [.p v]) h [] = P (.p v) (h.take b) []:=retK_pure (Nat.zero_le _) (fun _=>rfl)
theorem retK_2 {b : Nat} {P : Post} {v u : PV} {h : Heap} : retK false b P (some [.p v,.p u]) h [] = P (.tup [.p v,.p u]) (h.take b) []:=retK_pure (by simp [oneOf,AV.top,AV.tops]) (fun _=>rfl)
theorem retK_3 {b : Nat} {P : Post} {v u w : PV} {h : Heap} : retK false b P (some [.p v,.p u,.p w]) h [] = P (.tup [.p v,.p u,.p w]) (h.take b) []:=retK_pure (by simp [oneOf,AV.top,AV.tops]) (fun _=>rfl)
theorem retK_4 {b : Nat} {P : Post} {v u w z : PV} {h : Heap} : retK false b P (some [.p v,.p u,.p w,.p z]) h [] = P (.tup [.p v,.p u,.p w,.p z]) (h.take b) []:=retK_pure (by simp [oneOf,AV.top,AV.tops]) (fun _=>rfl)
theorem retK_0 {b : Nat} {P : Post} {h : Heap} : retK false b P (some []) h [] = P (.tup []) (h.take b) []:=retK_pure (by simp [oneOf,AV.top,AV.tops]) (fun _=>rfl)
theorem take_len {h : Heap} : h.take h.length = h:=List.take_length
theorem oneOf_1 {v : AV} : oneOf [v] = v:=(rfl)
theorem step_val {X : Ctx} {f : Nat} {F : AFun} {a asv : List AV} {h h1 : Heap} {P : Post} (hf : X.fn f = some F) (hr : F.byref = false) (hp : puras h a = some (asv,h1)) (hl : asv.length = F.nparams) (hd : F.isDet = false) :
    ACall X f a h P = AW (ACall X) X.gl F.body ⟨enter asv,h1,[]⟩ (finR F.results F.keep h.length P):=by
  rw [Step_fn hf hd,abody_val hr hp hl,finK_R]
theorem step_ref {X : Ctx} {f : Nat} {F : AFun} {asv : List AV} {h : Heap} {P : Post} (hf : X.fn f = some F) (hr : F.byref = true) (hl : asv.length = F.nparams) (hd : F.isDet = false) :
    ACall X f asv h P = AW (ACall X) X.gl F.body ⟨enter asv,h,[]⟩ (finR F.results F.keep h.length P):=by
  rw [Step_fn hf hd,abody_ref hr hl,finK_R]
theorem step_val_det {X : Ctx} {f : Nat} {F : AFun} {a asv : List AV} {h h1 : Heap} {P : Post} (hf : X.fn f = some F) (hr : F.byref = false) (hp : puras h a = some (asv,h1)) (hl : asv.length = F.nparams) (hd : F.isDet = true) :
    ACall X f a h P = ∃ v h' x,P v h' x ∧ AW (ACall X) X.gl F.body ⟨enter asv,h1,[]⟩ (finR F.results F.keep h.length fun v1 h1 x1=>v1 = v ∧ h1 = h' ∧ x1 = x):=by
  rw [Step_det hf hd]
  simp only [abody_val hr hp hl,finK_R]
theorem rule {X : Ctx} {f : Nat} {a : List AV} {h : Heap} {v : AV} {h' : Heap} {x : Esc} {K : Post} (H : ACall X f a h fun v1 h1 x1=>v1 = v ∧ h1 = h' ∧ x1 = x) : ACall X f a h K = K v h' x:=propext (ACall.eq H K)
theorem natOf_nat {k : IntKind} {n : Nat} : natOf (.p (.int k (n : Int))) = some n:=by simp [natOf]
theorem natOf_lit {k : IntKind} {n : Nat} : natOf (.p (.int k (no_index (OfNat.ofNat n : Int)))) = some (OfNat.ofNat n : Nat):=natOf_nat (n:=n)
theorem natOf_0 {k : IntKind} : natOf (.p (.int k 0)) = some 0:=(rfl)
theorem natOf_1 {k : IntKind} : natOf (.p (.int k 1)) = some 1:=(rfl)
theorem natOf_int {k : IntKind} {n : Int} (h : 0 ≤ n) : natOf (.p (.int k n)) = some n.toNat:=by simp [natOf,h]
theorem map_get {α β : Type} (f : α → β) {l : List α} {k : Nat} (h : k < l.length) : (l.map f)[k]? = some (f l[k]):=by simp [h]
theorem win_map {α β : Type} (f : α → β) (l : List α) (a b : Nat) : win (l.map f) a b = (win l a b).map f:=by simp [win,List.map_drop,List.map_take]
attribute [go_sem] eqs PV.eq1 PV.kind ne_eq not_false_eq_true not_true_eq_false Bool.and_self Bool.or_self Bool.not_eq_true
attribute [go_sem] Nat.max_le Nat.add_le_add_iff_left Option.isSome_none Option.isSome_some false_and and_false List.length_range Nat.sub_zero Nat.le_add_right
attribute [go_sem] natOf_nat natOf_0 natOf_1 natOf_lit Int.ofNat_lt Int.ofNat_le List.length_map
attribute [go_sem] finR_exit finR_normal finR_ret retK_0 retK_1 retK_2 retK_3 retK_4 take_len List.zipIdx_cons List.zipIdx_nil List.map_cons List.map_nil Nat.reduceAdd Nat.reduceEqDiff if_true if_false Option.map_some Option.map_none List.append_nil List.nil_append decide_eq_true_eq
def doS (C : Hd) (gl : Nat → Option PV) (q : AOp × List (Nat × AV) × AV) (h : Heap) : Prop:=ADo C gl q.1 q.2.1 h q.2.2 h []
def agK (C : Hd) (gl : Nat → Option PV) (h : Heap) (dn : Done) : List Nat → Prop
  | []=>True
  | j :: r=>(match dn[j]? with | some q=>doS C gl q h | none=>False) ∧ agK C gl h dn r
def eaK (C : Hd) (gl : Nat → Option PV) (o : AOp) (e : List (Nat × AV)) (v : AV) (hs : List Heap) : List Nat → Prop
  | []=>True
  | k :: r=>(match hs[k]? with | some g=>doS C gl (o,e,v) g | none=>False) ∧ eaK C gl o e v hs r
theorem agK_iff {C : Hd} {gl : Nat → Option PV} {h : Heap} {dn : Done} : ∀ {l : List Nat},agK C gl h dn l ↔ ∀ j ∈ l,∃ q,dn[j]? = some q ∧ ADo C gl q.1 q.2.1 h q.2.2 h []
  | []=>by simp [agK]
  | j :: r=>by
    simp only [agK,List.mem_cons,forall_eq_or_imp]
    rw [agK_iff (l:=r)]
    refine and_congr_left (fun _=>?_)
    cases hd : dn[j]? with
    | none=>simp
    | some q=>simp [doS]
theorem eaK_iff {C : Hd} {gl : Nat → Option PV} {o : AOp} {e : List (Nat × AV)} {v : AV} {hs : List Heap} : ∀ {l : List Nat},eaK C gl o e v hs l ↔ ∀ k ∈ l,∃ g,hs[k]? = some g ∧ ADo C gl o e g v g []
  | []=>by simp [eaK]
  | j :: r=>by
    simp only [eaK,List.mem_cons,forall_eq_or_imp]
    rw [eaK_iff (l:=r)]
    refine and_congr_left (fun _=>?_)
    cases hd : hs[j]? with
    | none=>simp
    | some q=>simp [doS]
def effK (b : Bool) (h h' : Heap) (y : Esc) : Prop:=match b with
  | true=>True
  | false=>h' = h ∧ y = []
theorem drawK_all {C : Hd} {gl : Nat → Option PV} {e : List (Nat × AV)} {h : Heap} {x : Esc} {L : List (Nat × AV) → Heap → Esc → Prop} {op : AOp} {rd early again : List Nat} {eff : Bool} {r : List DOp} {dn : Done} {hs : List Heap} {v : AV} {h' : Heap} {y : Esc} :
    drawK C gl ⟨op,rd,eff,early,again⟩ r dn hs e h x L v h' y = (effK eff h h' y ∧ eaK C gl op (prune (some rd) e) v hs early ∧ agK C gl h' dn again ∧ ADraw C gl r (dn ++ [(op,prune (some rd) e,v)]) (hs ++ [h]) (put op.dst v e) h' (y ++ x) L):=by
  rw [drawK_eq,← propext eaK_iff,← propext agK_iff]
  cases eff <;> simp [effK]
theorem effK_true {h h' : Heap} {y : Esc} : effK true h h' y = True:=(rfl)
theorem effK_same {h : Heap} : effK false h h [] = True:=by simp [effK]
theorem agK_nil {C : Hd} {gl : Nat → Option PV} {h : Heap} {dn : Done} : agK C gl h dn [] = True:=(rfl)
theorem agK_cons {C : Hd} {gl : Nat → Option PV} {h : Heap} {dn : Done} {j : Nat} {r : List Nat} : agK C gl h dn (j :: r) = ((match dn[j]? with | some q=>doS C gl q h | none=>False) ∧ agK C gl h dn r):=(rfl)
theorem eaK_nil {C : Hd} {gl : Nat → Option PV} {o : AOp} {e : List (Nat × AV)} {v : AV} {hs : List Heap} : eaK C gl o e v hs [] = True:=(rfl)
theorem eaK_cons {C : Hd} {gl : Nat → Option PV} {o : AOp} {e : List (Nat × AV)} {v : AV} {hs : List Heap} {j : Nat} {r : List Nat} : eaK C gl o e v hs (j :: r) = ((match hs[j]? with | some g=>doS C gl (o,e,v) g | none=>False) ∧ eaK C gl o e v hs r):=(rfl)
theorem doS_mk {C : Hd} {gl : Nat → Option PV} {d : Option Nat} {g : Option (Nat × Bool)} {op : AO} {e : List (Nat × AV)} {v : AV} {h : Heap} : doS C gl (⟨d,g,op⟩,e,v) h = doK C gl ⟨d,g,op⟩ e h (fun v1 h1 x1=>v1 = v ∧ h1 = h ∧ x1 = []):=by
  unfold doS doK
  refine propext ⟨fun H=>⟨_,_,_,H,rfl,rfl,rfl⟩,fun ⟨v1,h1,x1,H,a,b,c⟩=>by subst a; subst b; subst c; exact H⟩
theorem condB_dec {p : Prop} [Decidable p] {A B : Prop} : condB (.p (.bool (decide p))) A B = if p then A else B:=by rw [condB_bool]; simp
def callvK (C : Hd) (v : AV) (asv : List AV) (h : Heap) (L : Post) : Prop:=match v with
  | .fn g caps=>C g (asv ++ caps) h L
  | _=>False
theorem AReg_callvK {C : Hd} {gl : Nat → Option PV} {e : List (Nat × AV)} {h : Heap} {x : Esc} {L : List (Nat × AV) → Heap → Esc → Prop} {d : Option Nat} {f : Opd} {args : List Opd} {r : List AOp} :
    AReg C gl (⟨d,none,.callv f args⟩ :: r) e h x L = callvK C (Opd.ev gl e f) (args.map (Opd.ev gl e)) h (contR C gl r d e x L):=by
  have h2 : wanted none e = some true:=(rfl)
  rw [AReg]
  simp only [h2]
  unfold callvK
  split <;> simp_all <;> rfl
def callvE (C : Hd) (v : AV) (asv : List AV) (h : Heap) (R : AV → Heap → Esc → Prop) : Prop:=match v with
  | .fn g caps=>callE C g (asv ++ caps) h R
  | _=>False
theorem doK_callvK {C : Hd} {gl : Nat → Option PV} {e : List (Nat × AV)} {h : Heap} {R : AV → Heap → Esc → Prop} {d : Option Nat} {f : Opd} {args : List Opd} :
    doK C gl ⟨d,none,.callv f args⟩ e h R = callvE C (Opd.ev gl e f) (args.map (Opd.ev gl e)) h R:=by
  have h2 : wanted none e = some true:=(rfl)
  unfold doK ADo
  simp only [h2]
  unfold callvE callE
  split <;> simp_all
theorem callvK_fn {C : Hd} {g : Nat} {caps asv : List AV} {h : Heap} {L : Post} : callvK C (.fn g caps) asv h L = C g (asv ++ caps) h L:=(rfl)
theorem callvE_fn {C : Hd} {g : Nat} {caps asv : List AV} {h : Heap} {R : AV → Heap → Esc → Prop} : callvE C (.fn g caps) asv h R = callE C g (asv ++ caps) h R:=(rfl)
theorem callvK_congr {C : Hd} {v v' : AV} {asv asv' : List AV} {h h' : Heap} {L : Post} (h1 : v = v') (h2 : asv = asv') (h3 : h = h') : callvK C v asv h L = callvK C v' asv' h' L:=by rw [h1,h2,h3]
theorem callvE_congr {C : Hd} {v v' : AV} {asv asv' : List AV} {h h' : Heap} {R : AV → Heap → Esc → Prop} (h1 : v = v') (h2 : asv = asv') (h3 : h = h') : callvE C v asv h R = callvE C v' asv' h' R:=by rw [h1,h2,h3]
attribute [go_sem] AReg_callvK doK_callvK callvK_fn callvE_fn
attribute [congr] callvK_congr callvE_congr
theorem cutP_int {k : IntKind} {n : Int} : cutP none 0 (.int k n) = some (.int k n):=(rfl)
theorem cutP_bool {b : Bool} : cutP none 0 (.bool b) = some (.bool b):=(rfl)
theorem cutP_str {s : List UInt8} : cutP none 0 (.str s) = some (.str s):=(rfl)
theorem cutP_sl {sh : Sh} {xs : List PV} : cutP none 0 (.sl sh xs) = some (.sl sh xs):=(rfl)
theorem cutP_nilp : cutP none 0 .nilp = some .nilp:=(rfl)
theorem cutP_cell {off : Nat} {cs : List PV} : cutP none off (.agg cs) = (cs[off]?).bind fun x=>if x.sc then some x else none:=(rfl)
theorem cutP_agg {n off : Nat} {cs : List PV} : cutP (some n) off (.agg cs) = if off + n ≤ cs.length then some (.agg ((cs.drop off).take n)) else none:=(rfl)
theorem cutP_sc {v : PV} (h : v.sc = true) : cutP none 0 v = some v:=by cases v <;> first | rfl | cases h
attribute [go_sem] cutP_int cutP_bool cutP_str cutP_sl cutP_nilp cutP_cell cutP_agg
theorem escOf_p {id : Nat} {v : PV} : escOf id (.p v) = []:=(rfl)
attribute [go_sem] List.take_succ_cons List.take_zero List.take_nil List.drop_succ_cons List.drop_zero List.drop_nil List.length_cons List.length_nil Nat.reduceLeDiff Nat.reduceLT Int.reduceLT Int.reduceLE Int.reduceAdd Int.reduceSub Int.reduceMul Int.reduceNeg Int.reduceEq Nat.reduceSub Nat.reduceMul Nat.le_refl List.append_assoc
theorem trunc_nil {b : Nat} {x0 : Esc} {e : List (Nat × AV)} {h : Heap} : trunc b x0 ⟨e,h,[]⟩ = ⟨clean b e,h.take b,x0⟩:=(rfl)
theorem clean_nil {n : Nat} : clean n [] = []:=(rfl)
theorem clean_cons {n k : Nat} {v : AV} {r : List (Nat × AV)} : clean n ((k,v) :: r) = (k,if v.top ≤ n then v else .und) :: clean n r:=(rfl)
theorem top_p {v : PV} : AV.top (.p v) = 0:=(rfl)
theorem top_own {id g o l : Nat} : AV.top (.own id g o l) = id + 1:=by simp [AV.top]
theorem top_ref {id o : Nat} : AV.top (.ref id o) = id + 1:=by simp [AV.top]
theorem top_rref {id g i o : Nat} : AV.top (.rref id g i o) = id + 1:=by simp [AV.top]
theorem top_mp {id : Nat} : AV.top (.mp id) = id + 1:=by simp [AV.top]
theorem top_it {id : Nat} : AV.top (.it id) = id + 1:=by simp [AV.top]
theorem top_fn {f : Nat} {cs : List AV} : AV.top (.fn f cs) = AV.tops cs:=by simp [AV.top]
theorem top_agg {cs : List AV} : AV.top (.agg cs) = AV.tops cs:=by simp [AV.top]
theorem top_tup {cs : List AV} : AV.top (.tup cs) = AV.tops cs:=by simp [AV.top]
theorem top_vp {v : PV} : AV.top (.vp v) = 0:=(rfl)
theorem top_und : AV.top .und = 0:=(rfl)
theorem top_skp : AV.top .skp = 0:=(rfl)
theorem top_sl0 {sh : Sh} : AV.top (.sl0 sh) = 0:=(rfl)
theorem top_nilp : AV.top .nilp = 0:=(rfl)
theorem top_nilm : AV.top .nilm = 0:=(rfl)
theorem top_nilf : AV.top .nilf = 0:=(rfl)
theorem top_nili : AV.top .nili = 0:=(rfl)
theorem top_ifc : AV.top .ifc = 0:=(rfl)
theorem tops_nil : AV.tops [] = 0:=(rfl)
theorem tops_cons {v : AV} {r : List AV} : AV.tops (v :: r) = max v.top (AV.tops r):=by simp [AV.tops]
theorem retK_any {b : Nat} {P : Post} {vs : List AV} {h : Heap} : retK false b P (some vs) h [] = match reif b h (oneOf vs) with
    | some v0=>match reif (max b v0.top) h (oneOf vs) with
      | some v=>v.top ≤ max b v0.top ∧ P v (h.take (max b v0.top)) []
      | none=>False
    | none=>False:=by
  simp only [retK,close,List.length_nil,closed,List.all_nil,if_true,List.filter_nil]
theorem reif_own {b : Nat} {h : Heap} {id g off len : Nat} : reif b h (.own id g off len) = if b ≤ id then (rd h (.own id g off len)).map fun y=>.p (.sl y.1 y.2) else some (.own id g off len):=by simp only [reif]
theorem reif_sl0 {b : Nat} {h : Heap} {sh : Sh} : reif b h (.sl0 sh) = some (.p (.sl sh [])):=by simp only [reif]
theorem reif_agg {b : Nat} {h : Heap} {cs : List AV} : reif b h (.agg cs) = (reifs b h cs).map mkA:=by simp only [reif]
theorem reif_tup {b : Nat} {h : Heap} {cs : List AV} : reif b h (.tup cs) = (reifs b h cs).map .tup:=by simp only [reif]
theorem reif_ref {b : Nat} {h : Heap} {id o : Nat} : reif b h (.ref id o) = some (.ref id o):=by simp only [reif]
theorem reif_mp {b : Nat} {h : Heap} {id : Nat} : reif b h (.mp id) = some (.mp id):=by simp only [reif]
theorem reif_fn {b f : Nat} {h : Heap} {cs : List AV} : reif b h (.fn f cs) = some (.fn f cs):=by simp only [reif]
theorem reifs_cons {b : Nat} {h : Heap} {v : AV} {r : List AV} : reifs b h (v :: r) = (match reif b h v with | some x=>(reifs b h r).map (x :: ·) | none=>none):=by rw [reifs]; cases reif b h v <;> rfl
theorem oneOf_2 {v u : AV} {r : List AV} : oneOf (v :: u :: r) = .tup (v :: u :: r):=(rfl)
theorem oneOf_0 : oneOf [] = .tup []:=(rfl)
theorem set_app {h l : Heap} {id : Nat} {o : Obj} (hid : id < h.length) : (h ++ l).set id o = h.set id o ++ l:=List.set_append_left _ _ hid
theorem get_app {h l : Heap} {id : Nat} (hid : id < h.length) : (h ++ l)[id]? = h[id]?:=List.getElem?_append_left hid
theorem sapp_get {h l : Heap} {i n : Nat} {o : Obj} : (h.set i o ++ l)[h.length + n]? = l[n]?:=by
  have:=app_get (h.set i o) l n; rwa [List.length_set] at this
theorem sapp_get0 {h l : Heap} {i : Nat} {o : Obj} : (h.set i o ++ l)[h.length]? = l[0]?:=sapp_get (n:=0)
theorem sapp_set {h l : Heap} {i n : Nat} {o q : Obj} : (h.set i o ++ l).set (h.length + n) q = h.set i o ++ l.set n q:=by
  have:=app_set (h.set i o) l n q; rwa [List.length_set] at this
theorem sapp_set0 {h l : Heap} {i : Nat} {o q : Obj} : (h.set i o ++ l).set h.length q = h.set i o ++ l.set 0 q:=sapp_set (n:=0)
theorem sapp_take {h l : Heap} {i n : Nat} {o : Obj} : (h.set i o ++ l).take (h.length + n) = h.set i o ++ l.take n:=by
  have:=app_take (h.set i o) l n; rwa [List.length_set] at this
theorem sapp_take0 {h l : Heap} {i : Nat} {o : Obj} : (h.set i o ++ l).take h.length = h.set i o:=by
  have:=app_take0 (h.set i o) l; rwa [List.length_set] at this
theorem sapp_frz {h l : Heap} {i n k : Nat} {o : Obj} : frz (h.set i o ++ l) (h.length + n) k = h.set i o ++ frz l n k:=by
  have:=app_frz (h.set i o) l n k; rwa [List.length_set] at this
theorem sapp_frz0 {h l : Heap} {i k : Nat} {o : Obj} : frz (h.set i o ++ l) h.length k = h.set i o ++ frz l 0 k:=sapp_frz (n:=0)
theorem win_full {α : Type} {l : List α} {n : Nat} (h : l.length = n) : win l 0 n = l:=by subst h; simp [win]
theorem win_all {α : Type} (l : List α) : win l 0 l.length = l:=by simp [win]
attribute [go_sem] trunc_nil clean_nil clean_cons top_p top_own top_ref top_rref top_mp top_it top_fn top_agg top_tup top_vp top_und top_skp top_sl0 top_nilp top_nilm top_nilf top_nili top_ifc tops_nil tops_cons Nat.max_zero Nat.zero_max Nat.zero_le reif_p reif_own reif_sl0 reif_agg reif_tup reif_ref reif_mp reif_fn reifs_nil reifs_cons oneOf_2 oneOf_0 app_get app_get0 app_set app_set0 app_take app_take0 app_frz app_frz0 sapp_get sapp_get0 sapp_set sapp_set0 sapp_take sapp_take0 sapp_frz sapp_frz0 List.length_append win_all Nat.add_le_add_iff_right Nat.zero_add Nat.add_zero
attribute [go_sem] fillP PV.shp List.reduceReplicate cond_true cond_false Bool.not_true Bool.not_false Bool.false_eq_true Bool.true_and Bool.and_true Bool.false_and Bool.and_false Bool.true_or Bool.or_true Bool.false_or Bool.or_false beq_self_eq_true List.all_cons List.all_nil
attribute [go_sem low] retK_any
theorem take_set_len {h : Heap} {id : Nat} {o : Obj} : (h.set id o).take h.length = h.set id o:=List.take_of_length_le (by simp)
attribute [go_sem] take_set_len Int.natCast_zero Int.natCast_one Int.cast_ofNat_Int
attribute [go_sem] aun aconv amax2 amin2 List.foldlM_cons List.foldlM_nil Option.bind_some Option.pure_def Option.bind_eq_bind List.cons_append List.nil_append Int.zero_sub List.length_singleton
attribute [go_sem] contR_eq shSize escOf_p
attribute [congr] contR_congr
attribute [go_sem] AW_draw ADraw_nil ADraw_cons doK_mv doK_pick doK_alloc doK_box doK_build doK_bsl doK_load doK_store doK_nilchk doK_bin doK_eqa doK_isnil doK_mkif doK_un doK_conv doK_mkfn doK_mkmap doK_mksl doK_slice doK_slstr doK_faddr doK_field doK_iaddr doK_iaddra doK_idxa doK_idxs doK_look doK_mupd doK_ment doK_estore doK_mdel doK_ext doK_len doK_lens doK_lenm doK_app doK_copy doK_mx doK_mn doK_mrange doK_mentry doK_new0 doK_call doK_guard callE ex3' drawK_all effK_true effK_same agK_nil agK_cons eaK_nil eaK_cons doS_mk List.not_mem_nil List.mem_cons List.mem_singleton forall_eq_or_imp forall_eq false_implies true_implies implies_true forall_const and_true true_and List.cons_append and_self reduceCtorEq List.getElem?_cons_zero List.getElem?_cons_succ Option.some.injEq exists_eq_left' List.set_cons_zero List.set_cons_succ List.set_set List.length_set
attribute [congr] doK_congr callE_congr ADraw_congr ACall_congr
attribute [congr] finR_congr
attribute [go_sem] LoopP_eq LoopS_eq
attribute [go_sem] AW_skip AW_ret AW_exit AW_bad AW_reg AW_seq AW_cond AW_block AW_scope AW_pr regK_eq seqK_normal seqK_exit seqK_ret blockK_normal blockK_exit blockK_ret scopeK_eq AReg_nil AReg_mv AReg_pick AReg_alloc AReg_box AReg_build AReg_bsl AReg_load AReg_store AReg_nilchk AReg_bin AReg_eqa AReg_isnil AReg_mkif AReg_un AReg_conv AReg_mkfn AReg_mkmap AReg_mksl AReg_slice AReg_slstr AReg_faddr AReg_field AReg_iaddr AReg_iaddra AReg_idxa AReg_idxs AReg_look AReg_mupd AReg_ment AReg_estore AReg_mdel AReg_ext AReg_len AReg_lens AReg_lenm AReg_app AReg_copy AReg_mx AReg_mn AReg_mrange AReg_mentry AReg_new0 AReg_guard AReg_call optK_some optK_none optK_ite optK_map_ite condB_true condB_false condB_dec wantK_skp decide_true decide_false loopK_normal loopK_exit loopK_ret aop Opd.ev aget put prune abin aint astr aresAll ares oneOf_1 enter rd rds pur purs puras mkA unp cut AV.cells PV.cells PV.sc AV.sc splice pint pbool fillA
attribute [go_sem low] condB_bool wantK_true wantK_false
theorem wantK_tt {A B : Prop} : wantK (.p (.bool true)) true A B = A:=(rfl)
theorem wantK_ff {A B : Prop} : wantK (.p (.bool false)) false A B = A:=(rfl)
theorem wantK_tf {A B : Prop} : wantK (.p (.bool true)) false A B = B:=(rfl)
theorem wantK_ft {A B : Prop} : wantK (.p (.bool false)) true A B = B:=(rfl)
attribute [go_sem] wantK_tt wantK_ff wantK_tf wantK_ft
attribute [congr] condB_congr wantK_congr optK_congr AReg_congr AW_congr regK_congr seqK_congr blockK_congr scopeK_congr loopK_congr
end Go.Am
end
section
/- The abstract machine,part 28: where no map is ranged over,a call that ends well ends in one way. -/
set_option linter.unusedSimpArgs false
set_option linter.unusedVariables false
namespace Go.Am
def AO.noNext : AO → Bool
  | .mnext _ _=>false
  | _=>true
def ACode.noNext : ACode → Bool
  | .reg ops _=>ops.all fun o=>o.op.noNext
  | .seq a b=>a.noNext && b.noNext
  | .cond _ a b=>a.noNext && b.noNext
  | .condu _ _ _=>false
  | .det _=>false
  | .block _ b=>b.noNext
  | .loop b=>b.noNext
  | .scope b=>b.noNext
  | .pr _ b=>b.noNext
  | _=>true
def Dt (C D : Hd) : Prop:=∀ f a h K,C f a h K → ∃ v h' x,K v h' x ∧ D f a h fun v1 h1 x1=>v1 = v ∧ h1 = h' ∧ x1 = x
variable {C D : Hd} {gl : Nat → Option PV}
theorem AReg_det (hD : D.Mono) (hC : Dt C D) : ∀ (ops : List AOp) e h x K,(ops.all fun o=>o.op.noNext) = true → AReg C gl ops e h x K → ∃ e' h' x',K e' h' x' ∧ AReg D gl ops e h x fun e1 h1 x1=>e1 = e' ∧ h1 = h' ∧ x1 = x'
  | [],e,h,x,K,_,H=>⟨e,h,x,H,rfl,rfl,rfl⟩
  | o :: r,e,h,x,K,hn,H=>by
    obtain ⟨dst,guard,op⟩:=o
    simp only [List.all_cons,Bool.and_eq_true] at hn
    obtain ⟨hn1,hn2⟩:=hn
    unfold AReg at H
    dsimp only at H
    split at H
    · rename_i hw
      cases op
      case call f args=>
        obtain ⟨v,h',x',H',G'⟩:=hC _ _ _ _ H
        obtain ⟨e2,h2,x2,k2,g2⟩:=AReg_det hD hC r _ _ _ K hn2 H'
        refine ⟨e2,h2,x2,k2,?_⟩
        unfold AReg; simp only [hw]
        exact hD _ _ _ _ _ (fun v1 h1 x1 ⟨a1,a2,a3⟩=>by subst a1; subst a2; subst a3; exact g2) G'
      case callv f args=>
        dsimp only at H
        split at H
        · rename_i hf
          obtain ⟨v,h',x',H',G'⟩:=hC _ _ _ _ H
          obtain ⟨e2,h2,x2,k2,g2⟩:=AReg_det hD hC r _ _ _ K hn2 H'
          refine ⟨e2,h2,x2,k2,?_⟩
          unfold AReg; simp only [hw,hf]
          exact hD _ _ _ _ _ (fun v1 h1 x1 ⟨a1,a2,a3⟩=>by subst a1; subst a2; subst a3; exact g2) G'
        · exact H.elim
      case mnext sh xs=>simp [AO.noNext] at hn1
      all_goals
        dsimp only at H
        split at H
        · rename_i ha
          obtain ⟨e2,h2,x2,k2,g2⟩:=AReg_det hD hC r _ _ _ K hn2 H
          refine ⟨e2,h2,x2,k2,?_⟩
          unfold AReg; simp only [hw,ha]
          exact g2
        · exact H.elim
    · rename_i hw
      obtain ⟨e2,h2,x2,k2,g2⟩:=AReg_det hD hC r _ _ _ K hn2 H
      refine ⟨e2,h2,x2,k2,?_⟩
      unfold AReg; simp only [hw]
      exact g2
    · exact H.elim
theorem ADo_of_det (hD : D.Mono) (hC : Dt C D) {o : AOp} {e : List (Nat × AV)} {h h' : Heap} {v : AV} {x : Esc} (H : ADo C gl o e h v h' x) : ADo D gl o e h v h' x:=by
  have key : ∀ f a h,C f a h (fun v1 h1 x1=>v1 = v ∧ h1 = h' ∧ x1 = x) → D f a h (fun v1 h1 x1=>v1 = v ∧ h1 = h' ∧ x1 = x):=fun f a h hc=>by
    obtain ⟨v2,h2,x2,⟨e1,e2,e3⟩,hd⟩:=hC _ _ _ _ hc
    subst e1; subst e2; subst e3
    exact hd
  unfold ADo at H ⊢
  split at H
  · split at H
    · exact key _ _ _ H
    · split at H
      · exact key _ _ _ H
      · exact H.elim
    · exact H.elim
    · exact H
  · exact H
  · exact H.elim
theorem ADraw_det (hD : D.Mono) (hC : Dt C D) : ∀ (ds : List DOp) dn hs e h x K,ADraw C gl ds dn hs e h x K → ∃ e' h' x',K e' h' x' ∧ ADraw D gl ds dn hs e h x fun e1 h1 x1=>e1 = e' ∧ h1 = h' ∧ x1 = x'
  | [],dn,hs,e,h,x,K,H=>⟨e,h,x,H,rfl,rfl,rfl⟩
  | o :: r,dn,hs,e,h,x,K,H=>by
    obtain ⟨v,h',y,h1,h2,h3,h4,h5⟩:=H
    obtain ⟨e2,q2,x2,k2,g2⟩:=ADraw_det hD hC r _ _ _ _ _ K h5
    exact ⟨e2,q2,x2,k2,v,h',y,ADo_of_det hD hC h1,h2,fun k hk=>by obtain ⟨g,a1,a2⟩:=h3 k hk; exact ⟨g,a1,ADo_of_det hD hC a2⟩,
      fun j hj=>by obtain ⟨q,a1,a2⟩:=h4 j hj; exact ⟨q,a1,ADo_of_det hD hC a2⟩,g2⟩
theorem ALoop_det {T U : St → (Ex → St → Prop) → Prop} (hT : ∀ s K,T s K → ∃ e s',K e s' ∧ U s fun e1 s1=>e1 = e ∧ s1 = s') {K : Ex → St → Prop} {s : St} (H : ALoop T K s) : ∃ e s',K e s' ∧ ALoop U (fun e1 s1=>e1 = e ∧ s1 = s') s:=by
  induction H with
  | mk s R h hn he hr ih=>
    obtain ⟨e,s',hR,hU⟩:=hT _ _ h
    cases e with
    | normal=>
      obtain ⟨e2,s2,k2,g2⟩:=ih s' hR
      exact ⟨e2,s2,k2,.mk _ _ hU (fun s1 ⟨_,h1⟩=>by subst h1; exact g2) (fun i s1 ⟨h1,_⟩=>by cases h1) (fun s1 ⟨h1,_⟩=>by cases h1)⟩
    | exit i=>exact ⟨_,_,he i s' hR,.mk _ _ hU (fun s1 ⟨h1,_⟩=>by cases h1) (fun j s1 h1=>h1) (fun s1 ⟨h1,_⟩=>by cases h1)⟩
    | ret=>exact ⟨_,_,hr s' hR,.mk _ _ hU (fun s1 ⟨h1,_⟩=>by cases h1) (fun j s1 ⟨h1,_⟩=>by cases h1) (fun s1 h1=>h1)⟩
theorem AW_det (hD : D.Mono) (hC : Dt C D) : ∀ (c : ACode),c.noNext = true → ∀ s K,AW C gl c s K → ∃ e s',K e s' ∧ AW D gl c s fun e1 s1=>e1 = e ∧ s1 = s'
  | .skip,_,s,K,H=>⟨_,_,H,rfl,rfl⟩
  | .reg ops keep,hn,s,K,H=>by
    obtain ⟨e,h,x,h1,h2⟩:=AReg_det hD hC ops _ _ _ _ hn H
    refine ⟨_,_,h1,?_⟩
    show AReg D gl ops s.env s.h s.esc fun e1 h1 x1=>_
    exact AReg_mono (C:=D) (C':=D) (fun f a h K K' hK h=>hD _ _ _ _ _ hK h) ops _ _ _ _ _ (fun e1 h1 x1 ⟨a1,a2,a3⟩=>by subst a1; subst a2; subst a3; exact ⟨rfl,rfl⟩) h2
  | .draw ds keep,_,s,K,H=>by
    obtain ⟨e,h,x,h1,h2⟩:=ADraw_det hD hC ds _ _ _ _ _ _ H
    refine ⟨_,_,h1,?_⟩
    show ADraw D gl ds [] [] s.env s.h s.esc fun e1 h1 x1=>_
    exact ADraw_mono (C:=D) (C':=D) (fun f a h K K' hK h=>hD _ _ _ _ _ hK h) ds _ _ _ _ _ _ _ (fun e1 h1 x1 ⟨a1,a2,a3⟩=>by subst a1; subst a2; subst a3; exact ⟨rfl,rfl⟩) h2
  | .seq a b,hn,s,K,H=>by
    simp only [ACode.noNext,Bool.and_eq_true] at hn
    obtain ⟨e,s',h1,h2⟩:=AW_det hD hC a hn.1 _ _ H
    have mono:=fun (K K' : Ex → St → Prop) (hK : ∀ e s,K e s → K' e s)=>AW_mono (C:=D) (C':=D) (gl:=gl) (fun f a h K K' hK h=>hD _ _ _ _ _ hK h) a s K K' hK
    cases e with
    | normal=>
      obtain ⟨e2,s2,k2,g2⟩:=AW_det hD hC b hn.2 _ _ h1
      refine ⟨e2,s2,k2,mono _ _ (fun e1 s1 ⟨a1,a2⟩=>?_) h2⟩
      subst a1; subst a2; exact g2
    | exit i=>exact ⟨_,_,h1,mono _ _ (fun e1 s1 ⟨a1,a2⟩=>by subst a1; subst a2; exact ⟨rfl,rfl⟩) h2⟩
    | ret=>exact ⟨_,_,h1,mono _ _ (fun e1 s1 ⟨a1,a2⟩=>by subst a1; subst a2; exact ⟨rfl,rfl⟩) h2⟩
  | .condu c a b,hn,s,K,H=>by cases hn
  | .det b,hn,s,K,H=>by cases hn
  | .cond c a b,hn,s,K,H=>by
    simp only [ACode.noNext,Bool.and_eq_true] at hn
    unfold AW at H
    split at H
    · rename_i t ht
      split at H
      · obtain ⟨e, s', h1, h2⟩ := AW_det hD hC a hn.1 _ _ H
        refine ⟨e,s',h1,?_⟩
        unfold AW; simp only [ht]; exact h2
      · obtain ⟨e, s', h1, h2⟩ := AW_det hD hC b hn.2 _ _ H
        refine ⟨e,s',h1,?_⟩
        unfold AW; simp only [ht]; exact h2
    · exact H.elim
  | .block id b,hn,s,K,H=>by
    obtain ⟨e,s',h1,h2⟩:=AW_det hD hC b hn _ _ H
    have mono:=fun (K K' : Ex → St → Prop) (hK : ∀ e s,K e s → K' e s)=>AW_mono (C:=D) (C':=D) (gl:=gl) (fun f a h K K' hK h=>hD _ _ _ _ _ hK h) b s K K' hK
    cases e with
    | normal=>exact ⟨_,_,h1,mono _ _ (fun e1 s1 ⟨a1,a2⟩=>by subst a1; subst a2; exact ⟨rfl,rfl⟩) h2⟩
    | exit i=>
      dsimp only at h1
      split at h1
      · rename_i hi
        exact ⟨_,_,h1,mono _ _ (fun e1 s1 ⟨a1,a2⟩=>by subst a1; subst a2; dsimp only; rw [if_pos hi]; exact ⟨rfl,rfl⟩) h2⟩
      · rename_i hi
        exact ⟨_,_,h1,mono _ _ (fun e1 s1 ⟨a1,a2⟩=>by subst a1; subst a2; dsimp only; rw [if_neg hi]; exact ⟨rfl,rfl⟩) h2⟩
    | ret=>exact ⟨_,_,h1,mono _ _ (fun e1 s1 ⟨a1,a2⟩=>by subst a1; subst a2; exact ⟨rfl,rfl⟩) h2⟩
  | .loop b,hn,s,K,H=>ALoop_det (fun s K h=>AW_det hD hC b hn s K h) H
  | .scope b,hn,s,K,H=>by
    obtain ⟨e,s',h1,h2⟩:=AW_det hD hC b hn _ _ H
    exact ⟨_,_,h1,AW_mono (C:=D) (C':=D) (gl:=gl) (fun f a h K K' hK h=>hD _ _ _ _ _ hK h) b _ _ _ (fun e1 s1 ⟨a1,a2⟩=>by subst a1; subst a2; exact ⟨rfl,rfl⟩) h2⟩
  | .pr l b,hn,s,K,H=>AW_det hD hC b hn _ K H
  | .exit id,_,s,K,H=>⟨_,_,H,rfl,rfl⟩
  | .ret,_,s,K,H=>⟨_,_,H,rfl,rfl⟩
  | .bad,_,s,K,H=>H.elim
theorem fin_det {F : AFun} {b : Nat} {s : St} {K : Post} (H : fin F b s K) : ∃ v h x,K v h x ∧ fin F b s fun v1 h1 x1=>v1 = v ∧ h1 = h ∧ x1 = x:=by
  unfold fin at H
  cases h1 : aresAll s F.results with
  | none=>rw [h1] at H; exact H.elim
  | some vs=>
    rw [h1] at H
    dsimp only at H
    cases h2 : F.keep with
    | true=>
      rw [h2] at H
      dsimp only at H
      by_cases h3 : closed s.esc (close (List.length s.esc) s.esc (max b (oneOf vs).top)) = true
      · rw [if_pos h3] at H
        exact ⟨_,_,_,H,by unfold fin; rw [h1]; dsimp only; rw [h2]; dsimp only; rw [if_pos h3]; exact ⟨rfl,rfl,rfl⟩⟩
      · rw [if_neg h3] at H
        exact ⟨_,_,_,H,by unfold fin; rw [h1]; dsimp only; rw [h2]; dsimp only; rw [if_neg h3]; exact ⟨rfl,rfl,rfl⟩⟩
    | false=>
      rw [h2] at H
      dsimp only at H
      cases h4 : reif b s.h (oneOf vs) with
      | none=>rw [h4] at H; exact H.elim
      | some v0=>
        rw [h4] at H
        dsimp only at H
        by_cases h3 : closed s.esc (close (List.length s.esc) s.esc (max b v0.top)) = true
        · rw [if_pos h3] at H
          cases h5 : reif (close (List.length s.esc) s.esc (max b v0.top)) s.h (oneOf vs) with
          | none=>rw [h5] at H; exact H.elim
          | some v=>
            rw [h5] at H
            exact ⟨_,_,_,H.2,by unfold fin; rw [h1]; dsimp only; rw [h2]; dsimp only; rw [h4]; dsimp only; rw [if_pos h3,h5]; exact ⟨H.1,rfl,rfl,rfl⟩⟩
        · rw [if_neg h3] at H
          exact ⟨_,_,_,H,by unfold fin; rw [h1]; dsimp only; rw [h2]; dsimp only; rw [h4]; dsimp only; rw [if_neg h3]; exact ⟨rfl,rfl,rfl⟩⟩
def Ctx.NoNext (X : Ctx) : Prop:=∀ f F,X.fn f = some F → (F.isDet || F.body.noNext) = true
theorem abody_det (hD : D.Mono) (hC : Dt C D) {F : AFun} {a : List AV} {h : Heap} {K : Post} (hb : F.body.noNext = true) (H : abody C gl F a h K) : ∃ v h' x,K v h' x ∧ abody D gl F a h fun v1 h1 x1=>v1 = v ∧ h1 = h' ∧ x1 = x:=by
  unfold abody at H ⊢
  cases hp : (if F.byref then some (a,h) else puras h a) with
  | none=>rw [hp] at H; exact H.elim
  | some q=>
    obtain ⟨asv,h1⟩:=q
    rw [hp] at H
    obtain ⟨hl,H⟩:=H
    obtain ⟨e,s',k1,g1⟩:=AW_det hD hC _ hb _ _ H
    have mono:=fun (K K' : Ex → St → Prop) (hK : ∀ e s,K e s → K' e s)=>AW_mono (C:=D) (C':=D) (gl:=gl) (fun f a h K K' hK h=>hD _ _ _ _ _ hK h) F.body ⟨enter asv,h1,[]⟩ K K' hK
    cases e with
    | exit i=>exact k1.elim
    | normal=>
      obtain ⟨v,h',x,k2,g2⟩:=fin_det k1
      exact ⟨v,h',x,k2,hl,mono _ _ (fun e1 s1 ⟨a1,a2⟩=>by subst a1; subst a2; exact g2) g1⟩
    | ret=>
      obtain ⟨v,h',x,k2,g2⟩:=fin_det k1
      exact ⟨v,h',x,k2,hl,mono _ _ (fun e1 s1 ⟨a1,a2⟩=>by subst a1; subst a2; exact g2) g1⟩
theorem ACall_det {X : Ctx} (hX : X.NoNext) : Dt (ACall X) (ACall X):=by
  intro f a h K H
  refine H (fun f a h K=>∃ v h' x,K v h' x ∧ ACall X f a h fun v1 h1 x1=>v1 = v ∧ h1 = h' ∧ x1 = x) ?_ ?_
  · intro f a h K K' hK ⟨v, h', x, k, g⟩
    exact ⟨v,h',x,hK _ _ _ k,g⟩
  · intro f a h K H
    have hC : Dt (fun f a h K=>∃ v h' x,K v h' x ∧ ACall X f a h fun v1 h1 x1=>v1 = v ∧ h1 = h' ∧ x1 = x) (ACall X):=fun f a h K H=>H
    have hD:=ACall.mono X
    unfold Step at H
    split at H
    · rename_i F hF
      unfold fbody at H
      cases hd : F.isDet with
      | true=>
        rw [hd] at H
        obtain ⟨v,h',x,k,H⟩:=H
        refine ⟨v,h',x,k,ACall.fold ?_⟩
        unfold Step
        simp only [hF,fbody,hd]
        exact ⟨v,h',x,⟨rfl,rfl,rfl⟩,abody_mono (fun f a h K K' hK ⟨v2,h2,x2,k2,g2⟩=>hD _ _ _ _ _ (fun v1 h1 x1 hv=>by obtain ⟨rfl,rfl,rfl⟩:=hv; exact hK _ _ _ k2) g2) (fun _ _ _ h=>h) H⟩
      | false=>
        rw [hd] at H
        obtain ⟨v,h',x,k1,g1⟩:=abody_det hD hC (by have:=hX f F hF; rw [hd] at this; simpa using this) H
        refine ⟨v,h',x,k1,ACall.fold ?_⟩
        unfold Step; simp only [hF,fbody,hd]
        exact g1
    · rename_i hF
      split at H
      · rename_i hx2
        refine ⟨_,_,_,H,ACall.fold ?_⟩
        unfold Step; simp only [hF,hx2]
        exact ⟨trivial,trivial,trivial⟩
      · rename_i hx2
        split at H
        · rename_i hp
          split at H
          · rename_i hu
            split at H
            · rename_i hx
              refine ⟨_,_,_,H,ACall.fold ?_⟩
              unfold Step; simp only [hF,hx2,hp,hu,hx]
              exact ⟨trivial,trivial,trivial⟩
            · exact H.elim
          · exact H.elim
        · exact H.elim
theorem ACall.one {X : Ctx} (hX : X.NoNext) {f : Nat} {a : List AV} {h : Heap} {Q : Post} (H : ACall X f a h Q) : ∃ v h' x,Q v h' x ∧ ∀ K : Post,ACall X f a h K = K v h' x:=by
  obtain ⟨v,h',x,k,g⟩:=ACall_det hX _ _ _ _ H
  exact ⟨v,h',x,k,fun K=>rule g⟩
end Go.Am
end
section
/- The abstract machine,part 29: its meaning once more,spelt so that a function's code can be printed asv a formula over its values (shallow),equal to the deep one by computing. -/
set_option linter.unusedSimpArgs false
set_option linter.unusedVariables false
namespace Go.Am
def pK (o : Option AV) (k : AV → Prop) : Prop:=match o with
  | some v=>k v
  | none=>False
def wK (o : Option (AV × Heap × Esc)) (k : AV → Heap → Esc → Prop) : Prop:=match o with
  | some y=>k y.1 y.2.1 y.2.2
  | none=>False
def oPick (c a b : AV) : Option AV:=match c with
  | .p (.bool t)=>some (bif t then a else b)
  | _=>none
def oBox (x : AV) (h : Heap) : Option (AV × Heap × Esc):=match x.cells with
  | some cs=>some (.ref h.length 0,h ++ [.box cs],[])
  | none=>none
def fillV : List (Nat × Nat × AV) → List AV → Option (List AV)
  | [],cs=>some cs
  | (off,n,x) :: r,cs=>match x.cells with
    | some vs=>if vs.length = n ∧ off + n ≤ cs.length then fillV r (splice cs off vs) else none
    | none=>none
def oBuild (z : List AV) (ps : List (Nat × Nat × AV)) : Option AV:=(fillV ps z).map mkA
def fillW (sh : Sh) : List (Nat × AV) → Heap → List PV → Option (List PV × Heap)
  | [],h,xs=>some (xs,h)
  | (i,x) :: r,h,xs=>match pur h x with
    | some (v,h')=>if v.shp sh ∧ i < xs.length then fillW sh r h' (xs.set i v) else none
    | none=>none
def oBsl (own : Bool) (sh : Sh) (n : Nat) (z : PV) (ps : List (Nat × AV)) (h : Heap) : Option (AV × Heap × Esc):=match fillW sh ps h (List.replicate n z) with
  | some (xs,h')=>if !z.shp sh then none else some (bif own then (.own h'.length n 0 n,h' ++ [.row sh xs 0],[]) else (.p (.sl sh xs),h',[]))
  | none=>none
def oLoad (sh : Sh) (a : AV) (h : Heap) : Option AV:=match a with
  | .ref id off=>match h[id]? with
    | some (.box cs)=>cut sh off cs
    | _=>none
  | .rref id g i off=>match h[id]? with
    | some (.row _ xs _)=>if g = xs.length then ((xs[i]?).bind (cutP sh off)).map .p else none
    | _=>none
  | .vp v=>(cutP sh 0 v).map .p
  | _=>none
def oStore (sh : Sh) (a x : AV) (h : Heap) : Option (AV × Heap × Esc):=match a with
  | .ref id off=>match h[id]?,x.cells with
    | some (.box cs),some vs=>if vs.length = shSize sh ∧ off + vs.length ≤ cs.length then some (.und,h.set id (.box (splice cs off vs)),escOf id x) else none
    | _,_=>none
  | .rref id g i off=>match pur h x with
    | some (v,h1)=>match h1[id]? with
      | some (.row rsh xs fz)=>if g = xs.length ∧ fz ≤ i ∧ v.cells.length = shSize sh ∧ v.cells.all PV.sc then match xs[i]? with
        | some (.agg cs)=>if off + v.cells.length ≤ cs.length then some (.und,h1.set id (.row rsh (xs.set i (.agg (splice cs off v.cells))) fz),[]) else none
        | some _=>if off = 0 ∧ v.sc then some (.und,h1.set id (.row rsh (xs.set i v) fz),[]) else none
        | none=>none
        else none
      | _=>none
    | none=>none
  | _=>none
def oNil (x : AV) : Option AV:=match x with
  | .ref _ _ | .rref _ _ _ _ | .vp _ | .fn _ _=>some x
  | _=>none
def oBin (op : BinOp) (x y : AV) : Option AV:=match x,y with
  | .p a,.p b=>(abin op a b).map .p
  | _,_=>none
def oEqa (ks : List Nat) (neg : Bool) (x y : AV) : Option AV:=match x,y with
  | .p (.agg asv),.p (.agg bs)=>if asv.map PV.kind = ks ∧ bs.map PV.kind = ks ∧ ks ≠ [] then (eqs asv bs).map fun t=>pbool (bif neg then !t else t) else none
  | .p (.bool a),.p (.bool b)=>if ks = [] then some (pbool (bif neg then !decide (a = b) else decide (a = b))) else none
  | _,_=>none
def oIsnil (k : Nat) (neg : Bool) (x : AV) : Option AV:=bif nilAny k x then some .anyb else (nilOf k x).map fun r=>pbool (bif neg then !r else r)
def oMkif (x : AV) : Option AV:=if okIn x then some .ifc else none
def oUn (op : UnOp) (x : AV) : Option AV:=match x with
  | .p a=>(aun op a).map .p
  | _=>none
def oConv (c : Cv) (x : AV) (h : Heap) : Option (AV × Heap × Esc):=(aconv h c x).map fun y=>(y.1,y.2,[])
def oConvI (k : IntKind) (x : AV) : Option AV:=match x with
  | .p (.int _ n)=>some (.p (.int k (k.wrap n)))
  | _=>none
def oMksl (sh : Sh) (z : PV) (len cap : AV) (h : Heap) : Option (AV × Heap × Esc):=match natOf len,natOf cap with
  | some n,some m=>if n ≤ m ∧ m ≤ maxSl ∧ z.shp sh then some (.own h.length n 0 n,h ++ [.row sh (List.replicate n z) 0],[]) else none
  | _,_=>none
def bndV (d : Nat) : Option AV → Option Nat
  | none=>some d
  | some x=>natOf x
def oSlstr (x : AV) (lo hi : Option AV) : Option AV:=match x with
  | .p (.str s)=>match bndV 0 lo,bndV s.length hi with
    | some l,some r=>if l ≤ r ∧ r ≤ s.length then some (.p (.str (win s l (r - l)))) else none
    | _,_=>none
  | _=>none
def oSlice (sh : Sh) (x : AV) (lo hi mx : Option AV) (h : Heap) : Option AV:=match x with
  | .p (.sl sh' xs)=>match bndV 0 lo,bndV xs.length hi,bndV xs.length mx with
    | some l,some r,some m=>if sh' = sh ∧ l ≤ r ∧ r ≤ m ∧ m ≤ xs.length then some (if mx.isSome ∧ m = l then .sl0 sh else .p (.sl sh (win xs l (r - l)))) else none
    | _,_,_=>none
  | .sl0 sh'=>match bndV 0 lo,bndV 0 hi,bndV 0 mx with
    | some l,some r,some m=>if l = 0 ∧ r = 0 ∧ m = 0 then some (.sl0 sh') else none
    | _,_,_=>none
  | .own id g off len=>match h[id]? with
    | some (.row rsh xs _)=>match bndV 0 lo,bndV len hi,bndV len mx with
      | some l,some r,some m=>if rsh = sh ∧ g = xs.length ∧ off + len ≤ xs.length ∧ l ≤ r ∧ r ≤ m ∧ m ≤ len then some (if mx.isSome ∧ m = l then .sl0 sh else .own id g (off + l) (r - l)) else none
      | _,_,_=>none
    | _=>none
  | _=>none
def oFaddr (off : Nat) (sh : Sh) (x : AV) : Option AV:=match x with
  | .ref id o=>some (.ref id (o + off))
  | .rref id g i o=>some (.rref id g i (o + off))
  | .vp v=>(cutP sh off v).map .vp
  | _=>none
def oField (off : Nat) (sh : Sh) (x : AV) : Option AV:=match x with
  | .p v=>match v with
    | .agg _=>(cutP sh off v).map .p
    | _=>none
  | .agg cs=>cut sh off cs
  | _=>none
def oIaddr (sh : Sh) (x i : AV) (h : Heap) : Option AV:=match x,natOf i with
  | .p (.sl sh' xs),some k=>if sh' = sh then (xs[k]?).map .vp else none
  | .own id g off len,some k=>match h[id]? with
    | some (.row rsh xs _)=>if rsh = sh ∧ g = xs.length ∧ off + len ≤ xs.length ∧ k < len then some (.rref id g (off + k) 0) else none
    | _=>none
  | _,_=>none
def oIaddra (n : Nat) (sh : Sh) (x i : AV) : Option AV:=match x,natOf i with
  | .ref id o,some k=>if k < n then some (.ref id (o + k * shSize sh)) else none
  | .rref id g j o,some k=>if k < n then some (.rref id g j (o + k * shSize sh)) else none
  | .vp v,some k=>if k < n then (cutP sh (k * shSize sh) v).map .vp else none
  | _,_=>none
def oIdxa (n : Nat) (sh : Sh) (x i : AV) : Option AV:=match x,natOf i with
  | .p (.agg cs),some k=>if k < n then (cutP sh (k * shSize sh) (.agg cs)).map .p else none
  | _,_=>none
def oIdxs (x i : AV) : Option AV:=match x,natOf i with
  | .p (.str s),some k=>(s[k]?).map fun b=>.p (.int .u8 b.toNat)
  | _,_=>none
def oExt (x : AV) (i : Nat) : Option AV:=match x with
  | .tup vs=>vs[i]?
  | _=>none
def oLen (x : AV) : Option AV:=match x with
  | .p (.sl _ xs)=>some (pint xs.length)
  | .sl0 _=>some (pint 0)
  | .own _ _ _ len=>some (pint len)
  | _=>none
def oLens (x : AV) : Option AV:=match x with
  | .p (.str s)=>some (pint s.length)
  | _=>none
def oApp (sh : Sh) (s x : AV) (h : Heap) : Option (AV × Heap × Esc):=match rds h x with
  | some (sh',ys)=>if sh' = sh then match s with
    | .sl0 _=>if ys.length ≤ maxSl then some (.own h.length ys.length 0 ys.length,h ++ [.row sh ys 0],[]) else none
    | .own id g off len=>match h[id]? with
      | some (.row rsh xs fz)=>if rsh = sh ∧ g = xs.length ∧ off = 0 ∧ len = xs.length ∧ len + ys.length ≤ maxSl then some (.own id (g + ys.length) off (len + ys.length),h.set id (.row sh (xs ++ ys) fz),[])
          else if rsh = sh ∧ g = xs.length ∧ off + len + ys.length ≤ xs.length ∧ fz ≤ off + len ∧ 1 ≤ ys.length ∧ len + ys.length ≤ maxSl ∧ sh = none ∧ xs.all PV.intP = true ∧ ys.all PV.intP = true then
            some (.p (.sl sh (win xs off len ++ ys)),h.set id (.row sh (splice xs (off + len) (List.replicate ys.length .unk)) (off + len + ys.length)),[])
          else none
      | _=>none
    | _=>none
    else none
  | none=>none
def oCopy (sh : Sh) (d s : AV) (h : Heap) : Option (AV × Heap × Esc):=match d,rds h s with
  | .own id g off len,some (sh',ys)=>match h[id]? with
    | some (.row rsh xs fz)=>if rsh = sh ∧ sh' = sh ∧ g = xs.length ∧ off + len ≤ xs.length ∧ fz ≤ off then
        some (pint (min ys.length len),h.set id (.row sh (splice xs off (ys.take (min ys.length len))) fz),[])
      else none
    | _=>none
  | _,_=>none
def oClr (sh : Sh) (z : PV) (x : AV) (h : Heap) : Option (AV × Heap × Esc):=match x with
  | .sl0 _=>some (.tup [],h,[])
  | .own id g off len=>match h[id]? with
    | some (.row rsh xs fz)=>if rsh = sh ∧ g = xs.length ∧ off + len ≤ xs.length ∧ fz ≤ off then
        some (.tup [],h.set id (.row sh (splice xs off (List.replicate len z)) fz),[])
      else none
    | _=>none
  | _=>none
def oMx (xs : List AV) : Option AV:=match xs with
  | .p a :: r=>((unp r).bind fun l=>l.foldlM amax2 a).map .p
  | _=>none
def oMn (xs : List AV) : Option AV:=match xs with
  | .p a :: r=>((unp r).bind fun l=>l.foldlM amin2 a).map .p
  | _=>none
def oLook (kk : Sh × List Nat) (ok : Bool) (z x k : AV) (h : Heap) : Option AV:=match keyOf kk k with
  | some key=>match (match x with | .nilm=>some [] | m=>(mget h m).map fun y=>y.2.1) with
    | some es=>match mfind key es with
      | some r=>
        let v:=((r.bind (es[·]?)).map ME.val)
        some (bif ok then .tup [v.getD z,pbool v.isSome] else v.getD z)
      | none=>none
    | none=>none
  | none=>none
def oMupd (kk : Sh × List Nat) (m k x : AV) (h : Heap) : Option (AV × Heap × Esc):=match keyOf kk k,mget h m,okIn x with
  | some key,some (id,es,c),true=>match mfind key es with
    | some (some i)=>some (.und,h.set id (.amap (es.modify i fun e=>{ e with val:=x }) c),escOf id x)
    | some none=>some (.und,h.set id (.amap (es ++ [⟨key,x,c⟩]) (c + 1)),escOf id x)
    | none=>none
  | _,_,_=>none
def oMent (kk : Sh × List Nat) (z m k : AV) (h : Heap) : Option (AV × Heap × Esc):=match keyOf kk k,mget h m with
  | some key,some (id,es,c)=>match mfind key es with
    | some (some i)=>(es[i]?).map fun e=>(.tup [e.val,pint e.born],h,[])
    | some none=>some (.tup [z,pint c],h.set id (.amap (es ++ [⟨key,z,c⟩]) (c + 1)),[])
    | none=>none
  | _,_=>none
def oEstore (m s x : AV) (h : Heap) : Option (AV × Heap × Esc):=match mget h m,natOf s,okIn x with
  | some (id,es,c),some b,true=>match es.findIdx? (fun e=>e.born == b) with
    | some i=>some (.und,h.set id (.amap (es.modify i fun e=>{ e with val:=x }) c),escOf id x)
    | none=>none
  | _,_,_=>none
def oMdel (kk : Sh × List Nat) (m k : AV) (h : Heap) : Option (AV × Heap × Esc):=match keyOf kk k,mget h m with
  | some key,some (id,es,c)=>match mfind key es with
    | some (some i)=>some (.und,h.set id (.amap (es.eraseIdx i) c),[])
    | some none=>some (.und,h,[])
    | none=>none
  | _,_=>none
def oLenm (x : AV) (h : Heap) : Option AV:=match x with
  | .nilm=>some (pint 0)
  | .mp id=>(mget h (.mp id)).map fun y=>pint y.2.1.length
  | _=>none
def oMrange (x : AV) (h : Heap) : Option (AV × Heap × Esc):=match mget h x with
  | some (id,_,c)=>some (.it h.length,h ++ [.iter (some id) c [] c],[])
  | none=>match x with
    | .nilm=>some (.it h.length,h ++ [.iter none 0 [] 0],[])
    | _=>none
def oMentry (i : AV) (h : Heap) : Option (AV × Heap × Esc):=match i with
  | .it id=>match h[id]? with
    | some (.iter (some m) _ seen last)=>match mget h (.mp m),seen.getLast? with
      | some (_,es,c),some b=>if c = last then (es.find? (fun e=>e.born == b)).map fun e=>(.tup [.p e.key,e.val],h,[]) else none
      | _,_=>none
    | _=>none
  | _=>none
def alK (z : List AV) (h : Heap) (k : AV → Heap → Esc → Prop) : Prop:=k (.ref h.length 0) (h ++ [.box z]) []
def nwK (sh : Sh) (h : Heap) (k : AV → Heap → Esc → Prop) : Prop:=k (.own h.length 0 0 0) (h ++ [.row sh [] 0]) []
def mmK (h : Heap) (k : AV → Heap → Esc → Prop) : Prop:=k (.mp h.length) (h ++ [.amap [] 0]) []
def ev3 (ev : Opd → AV) : List (Nat × Nat × Opd) → List (Nat × Nat × AV)
  | []=>[]
  | (a,b,x) :: r=>(a,b,ev x) :: ev3 ev r
def ev2 (ev : Opd → AV) : List (Nat × Opd) → List (Nat × AV)
  | []=>[]
  | (a,x) :: r=>(a,ev x) :: ev2 ev r
def evO (ev : Opd → AV) : Option Opd → Option AV
  | none=>none
  | some x=>some (ev x)
def ev1 (ev : Opd → AV) : List Opd → List AV
  | []=>[]
  | x :: r=>ev x :: ev1 ev r
def opN (o : AO) (ev : Opd → AV) (h : Heap) (k : AV → Heap → Esc → Prop) : Prop:=match o with
  | .mv x=>k (ev x) h []
  | .pick c a b=>pK (oPick (ev c) (ev a) (ev b)) fun v=>k v h []
  | .alloc z=>alK z h k
  | .box x=>wK (oBox (ev x) h) k
  | .build z ps=>pK (oBuild z (ev3 ev ps)) fun v=>k v h []
  | .bsl own sh n z ps=>wK (oBsl own sh n z (ev2 ev ps) h) k
  | .load sh a=>pK (oLoad sh (ev a) h) fun v=>k v h []
  | .store sh a x=>wK (oStore sh (ev a) (ev x) h) k
  | .nilchk x=>pK (oNil (ev x)) fun v=>k v h []
  | .bin op x y=>pK (oBin op (ev x) (ev y)) fun v=>k v h []
  | .eqa ks neg x y=>pK (oEqa ks neg (ev x) (ev y)) fun v=>k v h []
  | .isnil n neg x=>pK (oIsnil n neg (ev x)) fun v=>k v h []
  | .mkif x=>pK (oMkif (ev x)) fun v=>k v h []
  | .un op x=>pK (oUn op (ev x)) fun v=>k v h []
  | .conv (.i c) x=>pK (oConvI c (ev x)) fun v=>k v h []
  | .mkfn f caps=>k (.fn f (ev1 ev caps)) h []
  | .slice sh x lo hi mx=>pK (oSlice sh (ev x) (evO ev lo) (evO ev hi) (evO ev mx) h) fun v=>k v h []
  | .slstr x lo hi=>pK (oSlstr (ev x) (evO ev lo) (evO ev hi)) fun v=>k v h []
  | .mksl sh z len cap=>wK (oMksl sh z (ev len) (ev cap) h) k
  | .faddr off sh x=>pK (oFaddr off sh (ev x)) fun v=>k v h []
  | .field off sh x=>pK (oField off sh (ev x)) fun v=>k v h []
  | .iaddr sh x i=>pK (oIaddr sh (ev x) (ev i) h) fun v=>k v h []
  | .iaddra n sh x i=>pK (oIaddra n sh (ev x) (ev i)) fun v=>k v h []
  | .idxa n sh x i=>pK (oIdxa n sh (ev x) (ev i)) fun v=>k v h []
  | .idxs x i=>pK (oIdxs (ev x) (ev i)) fun v=>k v h []
  | .ext x i=>pK (oExt (ev x) i) fun v=>k v h []
  | .len x=>pK (oLen (ev x)) fun v=>k v h []
  | .lens x=>pK (oLens (ev x)) fun v=>k v h []
  | .app sh s x=>wK (oApp sh (ev s) (ev x) h) k
  | .copy sh d s=>wK (oCopy sh (ev d) (ev s) h) k
  | .clr sh z x=>wK (oClr sh z (ev x) h) k
  | .mx xs=>pK (oMx (ev1 ev xs)) fun v=>k v h []
  | .mn xs=>pK (oMn (ev1 ev xs)) fun v=>k v h []
  | .new0 sh=>nwK sh h k
  | .conv .s2b x=>wK (oConv .s2b (ev x) h) k
  | .conv .b2s x=>wK (oConv .b2s (ev x) h) k
  | .conv .r2s x=>wK (oConv .r2s (ev x) h) k
  | .conv .same x=>wK (oConv .same (ev x) h) k
  | .mkmap=>mmK h k
  | .look kk ok z x key=>pK (oLook kk ok z (ev x) (ev key) h) fun v=>k v h []
  | .mupd kk m key x=>wK (oMupd kk (ev m) (ev key) (ev x) h) k
  | .ment kk z m key=>wK (oMent kk z (ev m) (ev key) h) k
  | .estore m s x=>wK (oEstore (ev m) (ev s) (ev x) h) k
  | .mdel kk m key=>wK (oMdel kk (ev m) (ev key) h) k
  | .lenm x=>pK (oLenm (ev x) h) fun v=>k v h []
  | .mrange x=>wK (oMrange (ev x) h) k
  | .mentry i=>wK (oMentry (ev i) h) k
  | .call _ _ | .callv _ _ | .mnext _ _=>False
theorem wK_opt {o : Option (AV × Heap × Esc)} {k : AV → Heap → Esc → Prop} : optK o k = wK o k:=rfl
theorem pK_map {o : Option AV} {h : Heap} {k : AV → Heap → Esc → Prop} : wK (o.map fun v=>(v,h,[])) k = pK o fun v=>k v h []:=by cases o <;> rfl
theorem fillA_eq (ev : Opd → AV) : ∀ (ps : List (Nat × Nat × Opd)) (z : List AV),fillA ev ps z = fillV (ev3 ev ps) z
  | [],z=>rfl
  | (off,n,x) :: r,z=>by
    simp only [fillA,ev3,fillV]
    cases (ev x).cells with
    | none=>rfl
    | some vs=>simp only [fillA_eq ev r]
theorem fillP_eq (ev : Opd → AV) (sh : Sh) : ∀ (ps : List (Nat × Opd)) (h : Heap) (z : List PV),fillP ev sh ps h z = fillW sh (ev2 ev ps) h z
  | [],h,z=>rfl
  | (i,x) :: r,h,z=>by
    simp only [fillP,ev2,fillW]
    cases pur h (ev x) with
    | none=>rfl
    | some y=>simp only [fillP_eq ev sh r]
theorem bnd_eq (ev : Opd → AV) (d : Nat) (o : Option Opd) : bnd ev d o = bndV d (evO ev o):=by cases o <;> rfl
theorem evO_some (ev : Opd → AV) (o : Option Opd) : (evO ev o).isSome = o.isSome:=by cases o <;> rfl
theorem ev1_eq (ev : Opd → AV) (l : List Opd) : l.map ev = ev1 ev l:=by
  induction l with
  | nil=>rfl
  | cons x r ih=>simp only [List.map_cons,ev1,ih]
theorem asl_eq (sh : Sh) (ev : Opd → AV) (h : Heap) (x : AV) (lo hi mx : Option Opd) : asl sh ev h x lo hi mx = oSlice sh x (evO ev lo) (evO ev hi) (evO ev mx) h:=by
  unfold asl oSlice
  simp only [bnd_eq,evO_some]
  rfl
theorem wpK_ite {p : Prop} [Decidable p] {a : AV} {h : Heap} {k : AV → Heap → Esc → Prop} : wK (if p then some (a,h,[]) else none) k = pK (if p then some a else none) fun v=>k v h []:=by split <;> rfl
theorem wpK_map {α : Type} {o : Option α} {f : α → AV} {h : Heap} {k : AV → Heap → Esc → Prop} : wK (o.map fun v=>(f v,h,[])) k = pK (o.map f) fun v=>k v h []:=by cases o <;> rfl
theorem wpK_ite_map {α : Type} {p : Prop} [Decidable p] {o : Option α} {f : α → AV} {h : Heap} {k : AV → Heap → Esc → Prop} : wK (if p then o.map (fun v=>(f v,h,[])) else none) k = pK (if p then o.map f else none) fun v=>k v h []:=by
  split
  · exact wpK_map
  · rfl
theorem opN_aop {o : AO} (hp : o.plain = true) {ev : Opd → AV} {h : Heap} {k : AV → Heap → Esc → Prop} : optK (aop o ev h) k = opN o ev h k:=by
  rw [wK_opt]
  cases o <;> first | (cases hp; done) | skip
  case mv=>rfl
  case pick c a b=>
    simp only [aop,opN,oPick]
    generalize ev c = v
    cases v <;> try rfl
    rename_i p; cases p <;> rfl
  case alloc=>rfl
  case box=>rfl
  case build z ps=>simp only [aop,opN]; rw [← pK_map,oBuild,fillA_eq,Option.map_map]; rfl
  case bsl=>simp only [aop,opN,oBsl,fillP_eq]; rfl
  case load sh a=>
    simp only [aop,opN,oLoad]
    generalize ev a = v
    cases v with
    | ref id off=>dsimp only; cases h[id]? with
      | none=>rfl
      | some o=>cases o <;> first | rfl | exact pK_map
    | rref id g i off=>dsimp only; cases h[id]? with
      | none=>rfl
      | some o=>cases o <;> first | rfl | exact wpK_ite_map
    | vp v=>exact wpK_map
    | p v=>cases v <;> rfl
    | _=>rfl
  case store=>simp only [aop,opN]; rfl
  case nilchk x=>
    simp only [aop,opN,oNil]
    generalize ev x = v
    cases v <;> rfl
  case bin op x y=>
    simp only [aop,opN,oBin]
    generalize ev x = v
    generalize ev y = u
    cases v <;> try rfl
    cases u <;> try rfl
    exact wpK_map
  case eqa ks neg x y=>
    simp only [aop,opN,oEqa]
    generalize ev x = v
    generalize ev y = u
    cases v <;> try rfl
    rename_i p
    cases p <;> try rfl
    all_goals (cases u <;> try rfl)
    all_goals (rename_i q; cases q <;> try rfl)
    · exact wpK_ite
    · exact wpK_ite_map
  case isnil k neg p=>
    simp only [aop,opN,oIsnil]
    cases nilAny k (ev p) with
    | true=>rfl
    | false=>exact wpK_map
  case mkif=>exact wpK_ite
  case un op x=>
    simp only [aop,opN,oUn]
    generalize ev x = v
    cases v <;> try rfl
    exact wpK_map
  case conv c x=>
    cases c
    case i k'=>
      simp only [aop,opN,oConvI,aconv]
      generalize ev x = v
      cases v <;> try rfl
      rename_i p; cases p <;> rfl
    all_goals rfl
  case mkfn f caps=>simp only [aop,opN,ev1_eq]; rfl
  case slice=>simp only [aop,opN,asl_eq]; exact pK_map
  case slstr x lo hi=>
    simp only [aop,opN,oSlstr,bnd_eq]
    generalize ev x = v
    cases v <;> try rfl
    rename_i p; cases p <;> try rfl
    rename_i s
    dsimp only
    generalize bndV 0 _ = o1
    generalize bndV s.length _ = o2
    cases o1 <;> try rfl
    cases o2 <;> try rfl
    exact wpK_ite
  case mksl=>simp only [aop,opN]; rfl
  case faddr off sh x=>
    simp only [aop,opN,oFaddr]
    generalize ev x = v
    cases v <;> try rfl
    exact wpK_map
  case field off sh x=>
    simp only [aop,opN,oField]
    generalize ev x = v
    cases v <;> try rfl
    · rename_i p; cases p <;> try rfl
      exact wpK_map
    · exact pK_map
  case iaddr sh x i=>
    simp only [aop,opN,oIaddr]
    generalize ev x = v
    generalize natOf (ev i) = n
    cases v <;> try rfl
    · rename_i p; cases p <;> try rfl
      cases n <;> try rfl
      exact wpK_ite_map
    · cases n <;> try rfl
      rename_i id g off len k
      dsimp only
      cases h[id]? with
      | none=>rfl
      | some o=>cases o <;> first | rfl | exact wpK_ite
  case iaddra m sh x i=>
    simp only [aop,opN,oIaddra]
    generalize ev x = v
    generalize natOf (ev i) = n
    cases v <;> try rfl
    all_goals (cases n <;> try rfl)
    · exact wpK_ite
    · exact wpK_ite
    · exact wpK_ite_map
  case idxa m sh x i=>
    simp only [aop,opN,oIdxa]
    generalize ev x = v
    generalize natOf (ev i) = n
    cases v <;> try rfl
    rename_i p; cases p <;> try rfl
    cases n <;> try rfl
    exact wpK_ite_map
  case idxs x i=>
    simp only [aop,opN,oIdxs]
    generalize ev x = v
    generalize natOf (ev i) = n
    cases v <;> try rfl
    rename_i p; cases p <;> try rfl
    cases n <;> try rfl
    exact wpK_map
  case ext x i=>
    simp only [aop,opN,oExt]
    generalize ev x = v
    cases v <;> try rfl
    exact pK_map
  case len x=>
    simp only [aop,opN,oLen]
    generalize ev x = v
    cases v <;> try rfl
    rename_i p; cases p <;> rfl
  case lens x=>
    simp only [aop,opN,oLens]
    generalize ev x = v
    cases v <;> try rfl
    rename_i p; cases p <;> rfl
  case app=>simp only [aop,opN]; rfl
  case copy=>simp only [aop,opN]; rfl
  case clr=>simp only [aop,opN]; rfl
  case mx xs=>
    simp only [aop,opN,ev1_eq,oMx]
    generalize ev1 ev xs = l
    cases l <;> try rfl
    rename_i v r
    cases v <;> try rfl
    exact wpK_map
  case mn xs=>
    simp only [aop,opN,ev1_eq,oMn]
    generalize ev1 ev xs = l
    cases l <;> try rfl
    rename_i v r
    cases v <;> try rfl
    exact wpK_map
  case new0=>rfl
  case look kk ok z x key=>
    simp only [aop,opN,oLook]
    cases keyOf kk (ev key) <;> try rfl
    rename_i kk
    generalize ev x = v
    cases v <;> try rfl
    rename_i id
    dsimp only
    cases mget h (.mp id) <;> try rfl
    rename_i y
    dsimp only [Option.map_some]
    cases mfind kk y.2.1 <;> rfl
  case lenm x=>
    simp only [aop,opN,oLenm]
    generalize ev x = v
    cases v <;> try rfl
    exact wpK_map
  all_goals rfl
end Go.Am
end
section
/- The abstract machine,part 30: the meaning of code in the new spelling,and that it is the old one. -/
set_option linter.unusedSimpArgs false
set_option linter.unusedVariables false
namespace Go.Am
def gV (v : AV) (b : Bool) (h : Heap) (A : (AV → Heap → Esc → Prop) → Prop) (k : AV → Heap → Esc → Prop) : Prop:=wantK v b (A k) (k .skp h [])
def gP (v : AV) (b : Bool) (o : Option AV) (h : Heap) (k : AV → Heap → Esc → Prop) : Prop:=gV v b h (fun k=>pK o fun u=>k u h []) k
def gM (v : AV) (b : Bool) (u : AV) (h : Heap) (k : AV → Heap → Esc → Prop) : Prop:=gV v b h (fun k=>k u h []) k
def upB (b : Bool) : Bool:=(fun (_ : AV → Bool → Option AV → Heap → (AV → Heap → Esc → Prop) → Prop)=>b) gP
def gK (g : Option (Nat × Bool)) (e : List (Nat × AV)) (h : Heap) (A : (AV → Heap → Esc → Prop) → Prop) (k : AV → Heap → Esc → Prop) : Prop:=match g with
  | none=>A k
  | some (t,b)=>gV (aget e t) b h A k
def opC (C : Hd) (o : AO) (ev : Opd → AV) (h : Heap) (k : AV → Heap → Esc → Prop) : Prop:=match o with
  | .call f args=>C f (ev1 ev args) h k
  | .callv f args=>callvK C (ev f) (ev1 ev args) h k
  | .mnext sh xs=>match choices h sh (ev1 ev xs) with
    | some l=>l ≠ [] ∧ ∀ y ∈ l,k y.1 y.2 []
    | none=>False
  | o=>opN o ev h k
def NReg (C : Hd) (gl : Nat → Option PV) : List AOp → List (Nat × AV) → Heap → Esc → (List (Nat × AV) → Heap → Esc → Prop) → Prop
  | [],e,h,x,L=>L e h x
  | o :: r,e,h,x,L=>gK o.guard e h (opC C o.op (Opd.ev gl e) h) fun v h' x'=>NReg C gl r (put o.dst v e) h' (x' ++ x) L
variable {C : Hd} {gl : Nat → Option PV}
theorem opC_AReg {o : AO} {d : Option Nat} {r : List AOp} {e : List (Nat × AV)} {h : Heap} {x : Esc} {L : List (Nat × AV) → Heap → Esc → Prop} :
    AReg C gl (⟨d,none,o⟩ :: r) e h x L = opC C o (Opd.ev gl e) h (contR C gl r d e x L):=by
  cases hp : o.plain with
  | true=>
    rw [AReg_op hp,opN_aop hp]
    cases o <;> first | rfl | cases hp
  | false=>
    cases o <;> first | (cases hp; done) | skip
    all_goals first
      | (rw [AReg_call,ev1_eq]; rfl)
      | (rw [AReg_callvK,ev1_eq]; rfl)
      | (unfold AReg opC; simp only [wanted,ev1_eq]; rfl)
theorem NReg_eq : ∀ (ops : List AOp) (e : List (Nat × AV)) (h : Heap) (x : Esc) (L : List (Nat × AV) → Heap → Esc → Prop),AReg C gl ops e h x L = NReg C gl ops e h x L
  | [],e,h,x,L=>rfl
  | ⟨d,g,o⟩ :: r,e,h,x,L=>by
    have ih : (fun (v : AV) (h' : Heap) (x' : Esc)=>NReg C gl r (put d v e) h' (x' ++ x) L) = contR C gl r d e x L:=by
      funext v h' x'; rw [← NReg_eq r]; rfl
    show _ = gK g e h (opC C o (Opd.ev gl e) h) fun v h' x'=>NReg C gl r (put d v e) h' (x' ++ x) L
    rw [ih]
    cases g with
    | none=>exact opC_AReg
    | some tb=>
      obtain ⟨t,b⟩:=tb
      rw [AReg_guard,opC_AReg]; rfl
def opE (C : Hd) (o : AO) (ev : Opd → AV) (h : Heap) (k : AV → Heap → Esc → Prop) : Prop:=match o with
  | .call f args=>callE C f (ev1 ev args) h k
  | .callv f args=>callvE C (ev f) (ev1 ev args) h k
  | .mnext _ _=>False
  | o=>opN o ev h k
def effN (still eff : Bool) (h h' : Heap) (y : Esc) (Q : Prop) : Prop:=match upB eff with
  | true=>Q
  | false=>match still with
    | true=>Q
    | false=>(h' = h ∧ y = []) ∧ Q
def sameN (C : Hd) (gl : Nat → Option PV) (q : AOp × List (Nat × AV) × AV) (g : Heap) : Prop:=
  gK q.1.guard q.2.1 g (opE C q.1.op (Opd.ev gl q.2.1) g) fun v1 h1 x1=>v1 = q.2.2 ∧ h1 = g ∧ x1 = []
def againN (C : Hd) (gl : Nat → Option PV) (h : Heap) (dn : Done) (Q : Prop) : List Nat → Prop
  | []=>Q
  | j :: r=>(match dn[j]? with | some q=>sameN C gl q h | none=>False) ∧ againN C gl h dn Q r
def earlyN (C : Hd) (gl : Nat → Option PV) (o : AOp) (e : List (Nat × AV)) (v : AV) (hs : List Heap) (Q : Prop) : List Nat → Prop
  | []=>Q
  | k :: r=>(match hs[k]? with | some g=>sameN C gl (o,e,v) g | none=>False) ∧ earlyN C gl o e v hs Q r
def NDraw (C : Hd) (gl : Nat → Option PV) : List DOp → Done → List Heap → List (Nat × AV) → Heap → Esc → (List (Nat × AV) → Heap → Esc → Prop) → Prop
  | [],_,_,e,h,x,L=>L e h x
  | o :: r,dn,hs,e,h,x,L=>gK o.op.guard (prune (some o.rd) e) h (opE C o.op.op (Opd.ev gl (prune (some o.rd) e)) h) fun v h' y=>
      effN o.op.op.still o.eff h h' y (earlyN C gl o.op (prune (some o.rd) e) v hs (againN C gl h' dn (NDraw C gl r (dn ++ [(o.op,prune (some o.rd) e,v)]) (hs ++ [h]) (put o.op.dst v e) h' (y ++ x) L) o.again) o.early)
theorem opE_doK {o : AO} {d : Option Nat} {e : List (Nat × AV)} {h : Heap} {R : AV → Heap → Esc → Prop} : doK C gl ⟨d,none,o⟩ e h R = opE C o (Opd.ev gl e) h R:=by
  cases hp : o.plain with
  | true=>
    rw [doK_op hp,opN_aop hp]
    cases o <;> first | rfl | cases hp
  | false=>
    cases o <;> first | (cases hp; done) | skip
    all_goals first
      | (rw [doK_call,ev1_eq]; rfl)
      | (rw [doK_callvK,ev1_eq]; rfl)
      | (unfold doK ADo opE; simp [wanted])
theorem gK_doK {o : AOp} {e : List (Nat × AV)} {h : Heap} {R : AV → Heap → Esc → Prop} : doK C gl o e h R = gK o.guard e h (opE C o.op (Opd.ev gl e) h) R:=by
  obtain ⟨d,g,op⟩:=o
  cases g with
  | none=>exact opE_doK
  | some tb=>
    obtain ⟨t,b⟩:=tb
    rw [doK_guard,opE_doK]; rfl
theorem sameN_eq {q : AOp × List (Nat × AV) × AV} {g : Heap} : doS C gl q g = sameN C gl q g:=by
  obtain ⟨⟨d,gd,op⟩,e,v⟩:=q
  rw [doS_mk,gK_doK]; rfl
theorem againN_eq {h : Heap} {dn : Done} {Q : Prop} : ∀ {l : List Nat},againN C gl h dn Q l = (agK C gl h dn l ∧ Q)
  | []=>by simp [againN,agK]
  | j :: r=>by
    unfold againN agK
    rw [againN_eq (l:=r)]
    cases dn[j]? with
    | none=>simp
    | some q=>simp only [sameN_eq,and_assoc]
theorem earlyN_eq {o : AOp} {e : List (Nat × AV)} {v : AV} {hs : List Heap} {Q : Prop} : ∀ {l : List Nat},earlyN C gl o e v hs Q l = (eaK C gl o e v hs l ∧ Q)
  | []=>by simp [earlyN,eaK]
  | j :: r=>by
    unfold earlyN eaK
    rw [earlyN_eq (l:=r)]
    cases hs[j]? with
    | none=>simp
    | some q=>simp only [sameN_eq,and_assoc]
theorem doK_still {o : AOp} (hs : o.op.still = true) {e : List (Nat × AV)} {h : Heap} {R : AV → Heap → Esc → Prop} : doK C gl o e h (fun v h' y=>(h' = h ∧ y = []) ∧ R v h' y) = doK C gl o e h R:=by
  unfold doK
  refine propext ⟨fun ⟨v,h',y,H,_,r⟩=>⟨v,h',y,H,r⟩,fun ⟨v,h',y,H,r⟩=>⟨v,h',y,H,ADo_still hs H,r⟩⟩
theorem NDraw_eq : ∀ (ds : List DOp) (dn : Done) (hs : List Heap) (e : List (Nat × AV)) (h : Heap) (x : Esc) (L : List (Nat × AV) → Heap → Esc → Prop),ADraw C gl ds dn hs e h x L = NDraw C gl ds dn hs e h x L
  | [],dn,hs,e,h,x,L=>rfl
  | ⟨o,rd,eff,early,again⟩ :: r,dn,hs,e,h,x,L=>by
    rw [ADraw_cons]
    show _ = gK o.guard (prune (some rd) e) h (opE C o.op (Opd.ev gl (prune (some rd) e)) h) fun v h' y=>
      effN o.op.still eff h h' y (earlyN C gl o (prune (some rd) e) v hs (againN C gl h' dn (NDraw C gl r (dn ++ [(o,prune (some rd) e,v)]) (hs ++ [h]) (put o.dst v e) h' (y ++ x) L) again) early)
    rw [← gK_doK]
    have e1 : drawK C gl ⟨o,rd,eff,early,again⟩ r dn hs e h x L = fun v h' y=>(effK eff h h' y ∧ earlyN C gl o (prune (some rd) e) v hs (againN C gl h' dn (NDraw C gl r (dn ++ [(o,prune (some rd) e,v)]) (hs ++ [h]) (put o.dst v e) h' (y ++ x) L) again) early):=by
      funext v h' y
      rw [drawK_all,earlyN_eq,againN_eq,← NDraw_eq r]
    rw [e1]
    cases eff with
    | true=>
      congr 1; funext v h' y
      simp [effK,effN,upB]
    | false=>
      cases hs' : o.op.still with
      | true=>
        have:=doK_still (C:=C) (gl:=gl) (o:=o) hs' (e:=prune (some rd) e) (h:=h) (R:=fun v h' y=>earlyN C gl o (prune (some rd) e) v hs (againN C gl h' dn (NDraw C gl r (dn ++ [(o,prune (some rd) e,v)]) (hs ++ [h]) (put o.dst v e) h' (y ++ x) L) again) early)
        exact this
      | false=>rfl
def NW (C : Hd) (gl : Nat → Option PV) : ACode → St → (Ex → St → Prop) → Prop
  | .skip,s,K=>K .normal s
  | .reg ops keep,s,K=>NReg C gl ops s.env s.h s.esc fun e h x=>K .normal ⟨prune keep e,h,x⟩
  | .draw ds keep,s,K=>NDraw C gl ds [] [] s.env s.h s.esc fun e h x=>K .normal ⟨prune keep e,h,x⟩
  | .seq a b,s,K=>NW C gl a s fun e s'=>match e with
    | .normal=>NW C gl b s' K
    | .exit i=>K (.exit i) s'
    | .ret=>K .ret s'
  | .cond c a b,s,K=>condB (Opd.ev gl s.env c) (NW C gl a s K) (NW C gl b s K)
  | .condu c a b,s,K=>condU (Opd.ev gl s.env c) (NW C gl a s K) (NW C gl b s K)
  | .det b,s,K=>NW C gl b s K
  | .block id b,s,K=>NW C gl b s fun e s'=>match e with
    | .normal=>K .normal s'
    | .exit i=>bif Nat.beq i id then K .normal s' else K (.exit i) s'
    | .ret=>K .ret s'
  | .loop b,s,K=>ALoop (NW C gl b) K s
  | .scope b,s,K=>NW C gl b ⟨s.env,s.h,[]⟩ fun e s'=>K e (trunc s.h.length s.esc s')
  | .pr l b,s,K=>NW C gl b ⟨prune (some l) s.env,s.h,s.esc⟩ K
  | .exit id,s,K=>K (.exit id) s
  | .ret,s,K=>K .ret s
  | .bad,_,_=>False
theorem NW_eq : ∀ (c : ACode) (s : St) (K : Ex → St → Prop),AW C gl c s K = NW C gl c s K
  | .skip,s,K=>rfl
  | .reg ops keep,s,K=>NReg_eq _ _ _ _ _
  | .draw ds keep,s,K=>NDraw_eq _ _ _ _ _ _ _
  | .seq a b,s,K=>by
    unfold AW NW
    rw [NW_eq a]
    congr 1; funext e s'
    cases e with
    | normal=>exact NW_eq b s' K
    | _=>rfl
  | .cond c a b,s,K=>by
    unfold AW NW condB
    rw [← NW_eq a,← NW_eq b]
    rfl
  | .condu c a b,s,K=>by
    unfold AW NW condU
    rw [← NW_eq a,← NW_eq b]
    rfl
  | .det b,s,K=>NW_eq b s K
  | .block id b,s,K=>by
    unfold AW NW
    rw [NW_eq b]
    congr 1; funext e s'
    cases e with
    | exit i=>
      dsimp only
      by_cases hi : i = id
      · subst hi; simp
      · rw [if_neg hi]
        have : Nat.beq i id = false:=by cases h : Nat.beq i id with | false=>rfl | true=>exact absurd (Nat.eq_of_beq_eq_true h) hi
        rw [this]; rfl
    | _=>rfl
  | .loop b,s,K=>by
    show ALoop (AW C gl b) K s = ALoop (NW C gl b) K s
    rw [show AW C gl b = NW C gl b from funext fun s=>funext fun K=>NW_eq b s K]
  | .scope b,s,K=>NW_eq b _ _
  | .pr l b,s,K=>NW_eq b _ _
  | .exit id,s,K=>rfl
  | .ret,s,K=>rfl
  | .bad,s,K=>rfl
end Go.Am
end
section
/- The abstract machine,part 31: words in which a function's code is printed,and the rules of computing over them. -/
set_option linter.unusedSimpArgs false
set_option linter.unusedVariables false
namespace Go.Am
variable {C : Hd} {gl : Nat → Option PV} {e : List (Nat × AV)} {h : Heap} {x : Esc} {K : Ex → St → Prop} {s : St}
abbrev AI (n : Int) : AV:=.p (.int .i64 n)
abbrev AB (b : Bool) : AV:=.p (.bool b)
def seqN (C : Hd) (gl : Nat → Option PV) (b : ACode) (K : Ex → St → Prop) (e : Ex) (s : St) : Prop:=match e with
  | .normal=>NW C gl b s K
  | .exit i=>K (.exit i) s
  | .ret=>K .ret s
def blockN (id : Nat) (K : Ex → St → Prop) (e : Ex) (s : St) : Prop:=match e with
  | .normal=>K .normal s
  | .exit i=>bif Nat.beq i id then K .normal s else K (.exit i) s
  | .ret=>K .ret s
theorem seqN_normal {b : ACode} : seqN C gl b K .normal s = NW C gl b s K:=(rfl)
theorem seqN_exit {b : ACode} {i : Nat} : seqN C gl b K (.exit i) s = K (.exit i) s:=(rfl)
theorem seqN_ret {b : ACode} : seqN C gl b K .ret s = K .ret s:=(rfl)
theorem blockN_normal {i : Nat} : blockN i K .normal s = K .normal s:=(rfl)
theorem blockN_same {i : Nat} : blockN i K (.exit i) s = K .normal s:=by simp [blockN]
theorem blockN_exit {i j : Nat} : blockN i K (.exit j) s = bif Nat.beq j i then K .normal s else K (.exit j) s:=(rfl)
theorem blockN_ret {i : Nat} : blockN i K .ret s = K .ret s:=(rfl)
theorem seqN_congr {b : ACode} {ex ex' : Ex} {s s' : St} (he : ex = ex') (hs : s = s') : seqN C gl b K ex s = seqN C gl b K ex' s':=by rw [he,hs]
theorem blockN_congr {i : Nat} {ex ex' : Ex} {s s' : St} (he : ex = ex') (hs : s = s') : blockN i K ex s = blockN i K ex' s':=by rw [he,hs]
theorem NW_scope {b : ACode} : NW C gl (.scope b) ⟨e,h,x⟩ K = NW C gl b ⟨e,h,[]⟩ (scopeK h.length x K):=(rfl)
theorem NW_congr {c : ACode} {s s' : St} (hs : s = s') : NW C gl c s K = NW C gl c s' K:=by rw [hs]
def NLoop (C : Hd) (gl : Nat → Option PV) (b : ACode) (K : Ex → St → Prop) (e : List (Nat × AV)) (h : Heap) (x : Esc) : Prop:=ALoop (NW C gl b) K ⟨e,h,x⟩
theorem NLoop_pr {l : List Nat} {b : ACode} : NW C gl (.loop (.pr l b)) ⟨e,h,x⟩ K = NLoop C gl (.pr l b) K (prune (some l) e) h x:=by
  show ALoop _ _ _ = ALoop _ _ _
  exact ALoop_same (funext fun R=>by show NW C gl b _ R = NW C gl b _ R; dsimp only; rw [prune_prune])
theorem NLoop_sc {l : List Nat} {b : ACode} : NW C gl (.loop (.scope (.pr l b))) ⟨e,h,x⟩ K = NLoop C gl (.scope (.pr l b)) K (prune (some l) e) h x:=by
  show ALoop _ _ _ = ALoop _ _ _
  exact ALoop_same (funext fun R=>by show NW C gl b _ _ = NW C gl b _ _; dsimp only; rw [prune_prune])
theorem NLoop_congr {b : ACode} {e e' : List (Nat × AV)} {h h' : Heap} {x x' : Esc} (h1 : e = e') (h2 : h = h') (h3 : x = x') : NLoop C gl b K e h x = NLoop C gl b K e' h' x':=by rw [h1,h2,h3]
theorem N_loop {σ : Type} {b : ACode} (S : σ → St) (P : σ → Prop) (m : σ → Nat) (t0 : σ) (hs : (⟨e,h,x⟩ : St) = S t0) (h0 : P t0) (hr : ∀ t,P t → NW C gl b (S t) (loopK S P m K t)) : NLoop C gl b K e h x:=by
  show ALoop (NW C gl b) K _
  rw [hs]
  have key : ∀ n t,m t < n → P t → ALoop (NW C gl b) K (S t):=by
    intro n
    induction n with
    | zero=>intro t h; omega
    | succ n ih=>
      intro t hm hp
      refine .mk _ _ (hr t hp) (fun s' h'=>?_) (fun i s' h'=>h') (fun s' h'=>h')
      obtain ⟨u,rfl,hu,hlt⟩:=h'
      exact ih u (by omega) hu
  exact key _ t0 (Nat.lt_succ_self _) h0
theorem call_val {X : Ctx} {f : Nat} {F : AFun} {a asv : List AV} {h h1 : Heap} {P : Post} (hf : X.fn f = some F) (hr : F.byref = false) (hp : puras h a = some (asv,h1)) (hl : asv.length = F.nparams) (hd : F.isDet = false:=by rfl) :
    ACall X f a h P = NW (ACall X) X.gl F.body ⟨enter asv,h1,[]⟩ (finR F.results F.keep h.length P):=by
  rw [step_val hf hr hp hl hd,NW_eq]
theorem call_val_det {X : Ctx} {f : Nat} {F : AFun} {a asv : List AV} {h h1 : Heap} {P : Post} (hf : X.fn f = some F) (hr : F.byref = false) (hp : puras h a = some (asv,h1)) (hl : asv.length = F.nparams) (hd : F.isDet = true:=by rfl) :
    ACall X f a h P = ∃ v h' x,P v h' x ∧ NW (ACall X) X.gl F.body ⟨enter asv,h1,[]⟩ (finR F.results F.keep h.length fun v1 h1 x1=>v1 = v ∧ h1 = h' ∧ x1 = x):=by
  rw [step_val_det hf hr hp hl hd]
  simp only [NW_eq]
theorem call_ref {X : Ctx} {f : Nat} {F : AFun} {asv : List AV} {h : Heap} {P : Post} (hf : X.fn f = some F) (hr : F.byref = true) (hl : asv.length = F.nparams) (hd : F.isDet = false:=by rfl) :
    ACall X f asv h P = NW (ACall X) X.gl F.body ⟨enter asv,h,[]⟩ (finR F.results F.keep h.length P):=by
  rw [step_ref hf hr hl hd,NW_eq]
theorem pK_some {v : AV} {k : AV → Prop} : pK (some v) k = k v:=(rfl)
theorem pK_none {k : AV → Prop} : pK none k = False:=(rfl)
theorem wK_some {v : AV} {h : Heap} {x : Esc} {k : AV → Heap → Esc → Prop} : wK (some (v,h,x)) k = k v h x:=(rfl)
theorem wK_none {k : AV → Heap → Esc → Prop} : wK none k = False:=(rfl)
theorem pK_ite {p : Prop} [Decidable p] {a b : Option AV} {k : AV → Prop} : pK (if p then a else b) k = if p then pK a k else pK b k:=by split <;> rfl
theorem wK_ite {p : Prop} [Decidable p] {a b : Option (AV × Heap × Esc)} {k : AV → Heap → Esc → Prop} : wK (if p then a else b) k = if p then wK a k else wK b k:=by split <;> rfl
theorem pK_congr {o o' : Option AV} {k : AV → Prop} (h : o = o') : pK o k = pK o' k:=by rw [h]
theorem wK_congr {o o' : Option (AV × Heap × Esc)} {k : AV → Heap → Esc → Prop} (h : o = o') : wK o k = wK o' k:=by rw [h]
theorem gV_congr {v v' : AV} {b : Bool} {h : Heap} {A : (AV → Heap → Esc → Prop) → Prop} {k : AV → Heap → Esc → Prop} (h1 : v = v') : gV v b h A k = gV v' b h A k:=by rw [h1]
theorem gP_congr {v v' : AV} {b : Bool} {o : Option AV} {h : Heap} {k : AV → Heap → Esc → Prop} (h1 : v = v') : gP v b o h k = gP v' b o h k:=by rw [h1]
theorem gM_congr {v v' : AV} {b : Bool} {u : AV} {h : Heap} {k : AV → Heap → Esc → Prop} (h1 : v = v') : gM v b u h k = gM v' b u h k:=by rw [h1]
section
variable {A : (AV → Heap → Esc → Prop) → Prop} {o : Option AV} {u : AV} {k : AV → Heap → Esc → Prop} {t b : Bool}
theorem gV_tt : gV (.p (.bool true)) true h A k = A k:=(rfl)
theorem gV_ff : gV (.p (.bool false)) false h A k = A k:=(rfl)
theorem gV_tf : gV (.p (.bool true)) false h A k = k .skp h []:=(rfl)
theorem gV_ft : gV (.p (.bool false)) true h A k = k .skp h []:=(rfl)
theorem gV_skp : gV .skp b h A k = k .skp h []:=(rfl)
theorem gV_any : gV (.p (.bool t)) b h A k = wantK (.p (.bool t)) b (A k) (k .skp h []):=(rfl)
theorem gP_tt : gP (.p (.bool true)) true o h k = pK o fun v=>k v h []:=(rfl)
theorem gP_ff : gP (.p (.bool false)) false o h k = pK o fun v=>k v h []:=(rfl)
theorem gP_tf : gP (.p (.bool true)) false o h k = k .skp h []:=(rfl)
theorem gP_ft : gP (.p (.bool false)) true o h k = k .skp h []:=(rfl)
theorem gP_skp : gP .skp b o h k = k .skp h []:=(rfl)
theorem gP_any : gP (.p (.bool t)) b o h k = wantK (.p (.bool t)) b (pK o fun v=>k v h []) (k .skp h []):=(rfl)
theorem gM_tt : gM (.p (.bool true)) true u h k = k u h []:=(rfl)
theorem gM_ff : gM (.p (.bool false)) false u h k = k u h []:=(rfl)
theorem gM_tf : gM (.p (.bool true)) false u h k = k .skp h []:=(rfl)
theorem gM_ft : gM (.p (.bool false)) true u h k = k .skp h []:=(rfl)
theorem gM_skp : gM .skp b u h k = k .skp h []:=(rfl)
theorem gM_any : gM (.p (.bool t)) b u h k = wantK (.p (.bool t)) b (k u h []) (k .skp h []):=(rfl)
end
section
variable {k k' : IntKind} {a b : Int} {sa sb : List UInt8}
theorem bin_add : oBin .add (.p (.int k a)) (.p (.int k b)) = some (.p (.int k (k.wrap (a + b)))):=by simp [oBin,abin,aint]
theorem bin_sub : oBin .sub (.p (.int k a)) (.p (.int k b)) = some (.p (.int k (k.wrap (a - b)))):=by simp [oBin,abin,aint]
theorem bin_mul : oBin .mul (.p (.int k a)) (.p (.int k b)) = some (.p (.int k (k.wrap (a * b)))):=by simp [oBin,abin,aint]
theorem bin_quo : oBin .quo (.p (.int k a)) (.p (.int k b)) = if b = 0 then none else some (.p (.int k (k.wrap (a.tdiv b)))):=by simp [oBin,abin,aint] <;> split <;> rfl
theorem bin_rem : oBin .rem (.p (.int k a)) (.p (.int k b)) = if b = 0 then none else some (.p (.int k (a.tmod b))):=by simp [oBin,abin,aint] <;> split <;> rfl
theorem bin_and : oBin .and (.p (.int k a)) (.p (.int k b)) = some (.p (.int k (iand k a b))):=by simp [oBin,abin,aint]
theorem bin_or : oBin .or (.p (.int k a)) (.p (.int k b)) = some (.p (.int k (ior k a b))):=by simp [oBin,abin,aint]
theorem bin_xor : oBin .xor (.p (.int k a)) (.p (.int k b)) = some (.p (.int k (ixor k a b))):=by simp [oBin,abin,aint]
theorem bin_andNot : oBin .andNot (.p (.int k a)) (.p (.int k b)) = some (.p (.int k (iandn k a b))):=by simp [oBin,abin,aint]
theorem bin_eql : oBin .eql (.p (.int k a)) (.p (.int k b)) = some (.p (.bool (decide (a = b)))):=by simp [oBin,abin,aint]
theorem bin_neq : oBin .neq (.p (.int k a)) (.p (.int k b)) = some (.p (.bool (!decide (a = b)))):=by simp [oBin,abin,aint]
theorem bin_lss : oBin .lss (.p (.int k a)) (.p (.int k b)) = some (.p (.bool (decide (a < b)))):=by simp [oBin,abin,aint]
theorem bin_leq : oBin .leq (.p (.int k a)) (.p (.int k b)) = some (.p (.bool (decide (a ≤ b)))):=by simp [oBin,abin,aint]
theorem bin_gtr : oBin .gtr (.p (.int k a)) (.p (.int k b)) = some (.p (.bool (decide (b < a)))):=by simp [oBin,abin,aint]
theorem bin_geq : oBin .geq (.p (.int k a)) (.p (.int k b)) = some (.p (.bool (decide (b ≤ a)))):=by simp [oBin,abin,aint]
theorem bin_shl : oBin .shl (.p (.int k a)) (.p (.int k' b)) = if b < 0 then none else some (.p (.int k (ishl k a b))):=by simp [oBin,abin] <;> split <;> rfl
theorem bin_shr : oBin .shr (.p (.int k a)) (.p (.int k' b)) = if b < 0 then none else some (.p (.int k (ishr k a b))):=by simp [oBin,abin] <;> split <;> rfl
theorem str_add : oBin .add (.p (.str sa)) (.p (.str sb)) = if sa.length + sb.length ≤ maxStr then some (.p (.str (sa ++ sb))) else none:=by simp [oBin,abin,astr] <;> split <;> rfl
theorem str_eql : oBin .eql (.p (.str sa)) (.p (.str sb)) = some (.p (.bool (decide (sa = sb)))):=by simp [oBin,abin,astr]
theorem str_neq : oBin .neq (.p (.str sa)) (.p (.str sb)) = some (.p (.bool (!decide (sa = sb)))):=by simp [oBin,abin,astr]
theorem str_lss : oBin .lss (.p (.str sa)) (.p (.str sb)) = some (.p (.bool (Op.bytesLess sa sb))):=by simp [oBin,abin,astr]
theorem str_leq : oBin .leq (.p (.str sa)) (.p (.str sb)) = some (.p (.bool (Op.bytesLess sa sb || decide (sa = sb)))):=by simp [oBin,abin,astr]
theorem str_gtr : oBin .gtr (.p (.str sa)) (.p (.str sb)) = some (.p (.bool (!(Op.bytesLess sa sb || decide (sa = sb))))):=by simp [oBin,abin,astr]
theorem str_geq : oBin .geq (.p (.str sa)) (.p (.str sb)) = some (.p (.bool (!Op.bytesLess sa sb))):=by simp [oBin,abin,astr]
theorem un_neg : oUn .neg (.p (.int k a)) = some (.p (.int k (k.wrap (-a)))):=by simp [oUn,aun]
theorem un_not {t : Bool} : oUn .not (.p (.bool t)) = some (.p (.bool !t)):=(rfl)
theorem convI {k' : IntKind} : oConvI k (.p (.int k' a)) = some (.p (.int k (k.wrap a))):=(rfl)
theorem nilref {i j : Nat} : oNil (.ref i j) = some (.ref i j):=(rfl)
theorem nilrref {i j m n : Nat} : oNil (.rref i j m n) = some (.rref i j m n):=(rfl)
theorem nilvp {v : PV} : oNil (.vp v) = some (.vp v):=(rfl)
theorem nilfn {f : Nat} {cs : List AV} : oNil (.fn f cs) = some (.fn f cs):=(rfl)
theorem pick_b {t : Bool} {u v : AV} : oPick (.p (.bool t)) u v = some (bif t then u else v):=(rfl)
theorem len_sl {sh : Sh} {xs : List PV} : oLen (.p (.sl sh xs)) = some (.p (.int .i64 xs.length)):=(rfl)
theorem len_sl0 {sh : Sh} : oLen (.sl0 sh) = some (.p (.int .i64 0)):=(rfl)
theorem len_own {i g o l : Nat} : oLen (.own i g o l) = some (.p (.int .i64 l)):=(rfl)
theorem lens_s : oLens (.p (.str sa)) = some (.p (.int .i64 sa.length)):=(rfl)
theorem ext_t {vs : List AV} {i : Nat} : oExt (.tup vs) i = vs[i]?:=(rfl)
theorem faddr_ref {off i j : Nat} {sh : Sh} : oFaddr off sh (.ref i j) = some (.ref i (j + off)):=(rfl)
theorem faddr_rref {off i j m n : Nat} {sh : Sh} : oFaddr off sh (.rref i j m n) = some (.rref i j m (n + off)):=(rfl)
theorem faddr_vp {off : Nat} {sh : Sh} {v : PV} : oFaddr off sh (.vp v) = (cutP sh off v).map .vp:=(rfl)
theorem field_p {off : Nat} {sh : Sh} {cs : List PV} : oField off sh (.p (.agg cs)) = (cutP sh off (.agg cs)).map .p:=(rfl)
theorem field_a {off : Nat} {sh : Sh} {cs : List AV} : oField off sh (.agg cs) = cut sh off cs:=(rfl)
def ldB (sh : Sh) (off : Nat) : Option Obj → Option AV
  | some (.box cs)=>cut sh off cs
  | _=>none
def ldR (sh : Sh) (g i off : Nat) : Option Obj → Option AV
  | some (.row _ xs _)=>if g = xs.length then ((xs[i]?).bind (cutP sh off)).map .p else none
  | _=>none
theorem load_ref {sh : Sh} {i j : Nat} : oLoad sh (.ref i j) h = ldB sh j h[i]?:=by unfold oLoad ldB; rfl
theorem load_rref {sh : Sh} {i g m n : Nat} : oLoad sh (.rref i g m n) h = ldR sh g m n h[i]?:=by unfold oLoad ldR; rfl
theorem load_vp {sh : Sh} {v : PV} : oLoad sh (.vp v) h = (cutP sh 0 v).map .p:=(rfl)
theorem ldB_box {sh : Sh} {off : Nat} {cs : List AV} : ldB sh off (some (.box cs)) = cut sh off cs:=(rfl)
theorem ldR_row {sh sh' : Sh} {g i off fz : Nat} {xs : List PV} : ldR sh g i off (some (.row sh' xs fz)) = if g = xs.length then ((xs[i]?).bind (cutP sh off)).map .p else none:=(rfl)
def stB (sh : Sh) (id off : Nat) (v : AV) (h : Heap) : Option Obj → Option (List AV) → Option (AV × Heap × Esc)
  | some (.box cs),some vs=>if vs.length = shSize sh ∧ off + vs.length ≤ cs.length then some (.und,h.set id (.box (splice cs off vs)),escOf id v) else none
  | _,_=>none
theorem store_ref {sh : Sh} {i j : Nat} {v : AV} : oStore sh (.ref i j) v h = stB sh i j v h h[i]? v.cells:=by unfold oStore stB; rfl
theorem stB_box {sh : Sh} {id off : Nat} {v : AV} {cs vs : List AV} : stB sh id off v h (some (.box cs)) (some vs) = if vs.length = shSize sh ∧ off + vs.length ≤ cs.length then some (.und,h.set id (.box (splice cs off vs)),escOf id v) else none:=(rfl)
def stE (sh : Sh) (id i off fz : Nat) (rsh : Sh) (xs : List PV) (v : PV) (h1 : Heap) : Option PV → Option (AV × Heap × Esc)
  | some (.agg cs)=>if off + v.cells.length ≤ cs.length then some (.und,h1.set id (.row rsh (xs.set i (.agg (splice cs off v.cells))) fz),[]) else none
  | some _=>if off = 0 ∧ v.sc then some (.und,h1.set id (.row rsh (xs.set i v) fz),[]) else none
  | none=>none
def stO (sh : Sh) (id g i off : Nat) (v : PV) (h1 : Heap) : Option Obj → Option (AV × Heap × Esc)
  | some (.row rsh xs fz)=>if g = xs.length ∧ fz ≤ i ∧ v.cells.length = shSize sh ∧ v.cells.all PV.sc then stE sh id i off fz rsh xs v h1 xs[i]? else none
  | _=>none
def stR (sh : Sh) (id g i off : Nat) : Option (PV × Heap) → Option (AV × Heap × Esc)
  | some y=>stO sh id g i off y.1 y.2 y.2[id]?
  | none=>none
theorem store_rref {sh : Sh} {id g i off : Nat} {x : AV} : oStore sh (.rref id g i off) x h = stR sh id g i off (pur h x):=by
  unfold oStore stR
  cases pur h x with
  | none=>rfl
  | some y=>
    obtain ⟨v,h1⟩:=y
    dsimp only
    unfold stO
    cases h1[id]? with
    | none=>rfl
    | some o=>cases o <;> rfl
theorem stR_some {sh : Sh} {id g i off : Nat} {v : PV} {h1 : Heap} : stR sh id g i off (some (v,h1)) = stO sh id g i off v h1 h1[id]?:=(rfl)
theorem stO_row {sh rsh : Sh} {id g i off fz : Nat} {v : PV} {h1 : Heap} {xs : List PV} : stO sh id g i off v h1 (some (.row rsh xs fz)) = if g = xs.length ∧ fz ≤ i ∧ v.cells.length = shSize sh ∧ v.cells.all PV.sc then stE sh id i off fz rsh xs v h1 xs[i]? else none:=(rfl)
theorem stE_agg {sh rsh : Sh} {id i off fz : Nat} {v : PV} {h1 : Heap} {xs cs : List PV} : stE sh id i off fz rsh xs v h1 (some (.agg cs)) = if off + v.cells.length ≤ cs.length then some (.und,h1.set id (.row rsh (xs.set i (.agg (splice cs off v.cells))) fz),[]) else none:=(rfl)
theorem stE_int {sh rsh : Sh} {id i off fz : Nat} {v : PV} {h1 : Heap} {xs : List PV} {k : IntKind} {n : Int} : stE sh id i off fz rsh xs v h1 (some (.int k n)) = if off = 0 ∧ v.sc then some (.und,h1.set id (.row rsh (xs.set i v) fz),[]) else none:=(rfl)
theorem stE_bool {sh rsh : Sh} {id i off fz : Nat} {v : PV} {h1 : Heap} {xs : List PV} {t : Bool} : stE sh id i off fz rsh xs v h1 (some (.bool t)) = if off = 0 ∧ v.sc then some (.und,h1.set id (.row rsh (xs.set i v) fz),[]) else none:=(rfl)
theorem stE_str {sh rsh : Sh} {id i off fz : Nat} {v : PV} {h1 : Heap} {xs : List PV} {s : List UInt8} : stE sh id i off fz rsh xs v h1 (some (.str s)) = if off = 0 ∧ v.sc then some (.und,h1.set id (.row rsh (xs.set i v) fz),[]) else none:=(rfl)
theorem stE_sl {sh rsh : Sh} {id i off fz : Nat} {v : PV} {h1 : Heap} {xs : List PV} {sh' : Sh} {ys : List PV} : stE sh id i off fz rsh xs v h1 (some (.sl sh' ys)) = if off = 0 ∧ v.sc then some (.und,h1.set id (.row rsh (xs.set i v) fz),[]) else none:=(rfl)
theorem stE_nilp {sh rsh : Sh} {id i off fz : Nat} {v : PV} {h1 : Heap} {xs : List PV}  : stE sh id i off fz rsh xs v h1 (some .nilp) = if off = 0 ∧ v.sc then some (.und,h1.set id (.row rsh (xs.set i v) fz),[]) else none:=(rfl)
theorem pur_p {v : PV} : pur h (.p v) = some (v,h):=(rfl)
def iaS (xs : List PV) : Option Nat → Option AV
  | some k=>(xs[k]?).map .vp
  | none=>none
theorem iaddr_sl {sh : Sh} {xs : List PV} {i : AV} : oIaddr sh (.p (.sl sh xs)) i h = iaS xs (natOf i):=by
  unfold oIaddr iaS; cases natOf i <;> simp
theorem iaS_some {xs : List PV} {n : Nat} : iaS xs (some n) = (xs[n]?).map .vp:=(rfl)
def iaO (sh : Sh) (id g off len : Nat) : Option Obj → Option Nat → Option AV
  | some (.row rsh xs _),some k=>if rsh = sh ∧ g = xs.length ∧ off + len ≤ xs.length ∧ k < len then some (.rref id g (off + k) 0) else none
  | _,_=>none
theorem iaddr_own {sh : Sh} {id g off len : Nat} {i : AV} : oIaddr sh (.own id g off len) i h = iaO sh id g off len h[id]? (natOf i):=by
  unfold oIaddr iaO
  cases natOf i with
  | none=>dsimp only; cases h[id]? with
    | none=>rfl
    | some o=>cases o <;> rfl
  | some k=>dsimp only; cases h[id]? with
    | none=>rfl
    | some o=>cases o <;> rfl
theorem iaO_row {sh rsh : Sh} {id g off len k fz : Nat} {xs : List PV} : iaO sh id g off len (some (.row rsh xs fz)) (some k) = if rsh = sh ∧ g = xs.length ∧ off + len ≤ xs.length ∧ k < len then some (.rref id g (off + k) 0) else none:=(rfl)
theorem idxs_s {i : AV} : oIdxs (.p (.str sa)) i = (natOf i).bind fun n=>(sa[n]?).map fun b=>.p (.int .u8 b.toNat):=by
  unfold oIdxs; cases natOf i <;> rfl
end
theorem alK_eq {z : List AV} {k : AV → Heap → Esc → Prop} : alK z h k = k (.ref h.length 0) (h ++ [.box z]) []:=(rfl)
theorem nwK_eq {sh : Sh} {k : AV → Heap → Esc → Prop} : nwK sh h k = k (.own h.length 0 0 0) (h ++ [.row sh [] 0]) []:=(rfl)
theorem mmK_eq {k : AV → Heap → Esc → Prop} : mmK h k = k (.mp h.length) (h ++ [.amap [] 0]) []:=(rfl)
theorem condU_true {A B : Prop} : condU (.p (.bool true)) A B = A:=(rfl)
theorem condU_false {A B : Prop} : condU (.p (.bool false)) A B = B:=(rfl)
theorem condU_any {A B : Prop} : condU .anyb A B = (A ∧ B):=(rfl)
attribute [go_sem] seqN_normal seqN_exit seqN_ret blockN_normal blockN_same blockN_ret NW_scope pK_some pK_none wK_some wK_none pK_ite wK_ite gV_tt gV_ff gV_tf gV_ft gV_skp gP_tt gP_ff gP_tf gP_ft gP_skp gM_tt gM_ff gM_tf gM_ft gM_skp bin_add bin_sub bin_mul bin_quo bin_rem bin_and bin_or bin_xor bin_andNot bin_eql bin_neq bin_lss bin_leq bin_gtr bin_geq bin_shl bin_shr str_add str_eql str_neq str_lss str_leq str_gtr str_geq un_neg un_not convI nilref nilrref nilvp nilfn pick_b len_sl len_sl0 len_own lens_s ext_t faddr_ref faddr_rref faddr_vp field_p field_a load_ref load_rref load_vp ldB_box ldR_row store_ref stB_box store_rref stR_some stO_row stE_agg stE_int stE_bool stE_str stE_sl stE_nilp pur_p iaddr_sl iaS_some iaddr_own iaO_row idxs_s alK_eq nwK_eq mmK_eq oBox oBuild fillV oBsl fillW oEqa oIsnil nilAny condU_true condU_false condU_any nilOf oMkif okIn oConv oMksl bndV oSlstr oSlice oIaddra oIdxa oApp oCopy oClr oMx oMn oLook oMupd oMent oEstore oMdel oLenm oMrange oMentry
attribute [go_sem ↓] pK_some pK_none wK_some wK_none gV_tt gV_ff gV_tf gV_ft gV_skp gP_tt gP_ff gP_tf gP_ft gP_skp gM_tt gM_ff gM_tf gM_ft gM_skp condB_true condB_false wantK_tt wantK_ff wantK_tf wantK_ft wantK_skp seqN_normal seqN_exit seqN_ret blockN_normal blockN_same blockN_ret alK_eq nwK_eq mmK_eq loopK_normal loopK_exit loopK_ret scopeK_eq finR_normal finR_ret
attribute [go_sem low] gV_any gP_any gM_any blockN_exit
attribute [congr] seqN_congr blockN_congr NW_congr NLoop_congr pK_congr wK_congr gV_congr gP_congr gM_congr
end Go.Am
end
section
/- Short words for the printed code. -/
set_option linter.all false
namespace Go.Am
instance {n : Nat} : OfNat Opd n:=⟨.t n⟩
abbrev GL:=Nat → Option PV
abbrev KT:=Ex → St → Prop
def cI (n : Int) : Opd:=.c (.p (.int .i64 n))
def cT : Opd:=.c (.p (.bool true))
def cF : Opd:=.c (.p (.bool false))
def cS (s : List UInt8) : Opd:=.c (.p (.str s))
def uO (d : Nat) (o : AO) : AOp:=⟨some d,none,o⟩
def wO (o : AO) : AOp:=⟨none,none,o⟩
def gD (d g : Nat) (b : Bool) (o : AO) : AOp:=⟨some d,some (g,b),o⟩
def mV (d : Nat) (x : Opd) : AOp:=⟨some d,none,.mv x⟩
def bN (d : Nat) (b : BinOp) (x y : Opd) : AOp:=⟨some d,none,.bin b x y⟩
def cL (d f : Nat) (l : List Opd) : AOp:=⟨some d,none,.call f l⟩
def lD (d : Nat) (s : Sh) (x : Opd) : AOp:=⟨some d,none,.load s x⟩
def iA (d : Nat) (s : Sh) (x y : Opd) : AOp:=⟨some d,none,.iaddr s x y⟩
def fA (d o : Nat) (s : Sh) (x : Opd) : AOp:=⟨some d,none,.faddr o s x⟩
def lN (d : Nat) (x : Opd) : AOp:=⟨some d,none,.len x⟩
def eX (d : Nat) (x : Opd) (i : Nat) : AOp:=⟨some d,none,.ext x i⟩
def dF (o : AOp) (l : List Nat) : DOp:=⟨o,l,false,[],[]⟩
def dT (o : AOp) (l : List Nat) : DOp:=⟨o,l,true,[],[]⟩
def dA (o : AOp) (l : List Nat) (e : Bool) (a b : List Nat) : DOp:=⟨o,l,e,a,b⟩
def rg (l : List AOp) (k : List Nat) : ACode:=.reg l (some k)
def dr (l : List DOp) (k : List Nat) : ACode:=.draw l (some k)
end Go.Am
end
