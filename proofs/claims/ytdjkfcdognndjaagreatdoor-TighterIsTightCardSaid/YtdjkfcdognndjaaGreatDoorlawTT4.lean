/- Texts of the proof, laid together: Am28, Am29, Am30, Am31, AmX, AmS, CodesA. -/
import GoSem.Extern.Table
import Derived.Laws.World
import Derived.KernelRfl
import Derived.Test.YtdjkfcdognndjaaGreatDoorlawTT3
set_option linter.all false
section
/- The abstract machine,part 28: where no map is ranged over,a call that ends well ends in one way. -/
set_option linter.unusedSimpArgs false
set_option linter.unusedVariables false
namespace Go.Am
def AO.noNext : AO → Bool
  | .mnext _ _=>false
  | _=>true
def ACode.noNext : ACode → Bool
  | .reg ops _=>ops.all fun o=>o.op.noNext
  | .seq a b=>a.noNext && b.noNext
  | .cond _ a b=>a.noNext && b.noNext
  | .condu _ _ _=>false
  | .det _=>false
  | .block _ b=>b.noNext
  | .loop b=>b.noNext
  | .scope b=>b.noNext
  | .pr _ b=>b.noNext
  | _=>true
def Dt (C D : Hd) : Prop:=∀ f a h K,C f a h K → ∃ v h' x,K v h' x ∧ D f a h fun v1 h1 x1=>v1 = v ∧ h1 = h' ∧ x1 = x
variable {C D : Hd} {gl : Nat → Option PV}
theorem AReg_det (hD : D.Mono) (hC : Dt C D) : ∀ (ops : List AOp) e h x K,(ops.all fun o=>o.op.noNext) = true → AReg C gl ops e h x K → ∃ e' h' x',K e' h' x' ∧ AReg D gl ops e h x fun e1 h1 x1=>e1 = e' ∧ h1 = h' ∧ x1 = x'
  | [],e,h,x,K,_,H=>⟨e,h,x,H,rfl,rfl,rfl⟩
  | o :: r,e,h,x,K,hn,H=>by
    obtain ⟨dst,guard,op⟩:=o
    simp only [List.all_cons,Bool.and_eq_true] at hn
    obtain ⟨hn1,hn2⟩:=hn
    unfold AReg at H
    dsimp only at H
    split at H
    · rename_i hw
      cases op
      case call f args=>
        obtain ⟨v,h',x',H',G'⟩:=hC _ _ _ _ H
        obtain ⟨e2,h2,x2,k2,g2⟩:=AReg_det hD hC r _ _ _ K hn2 H'
        refine ⟨e2,h2,x2,k2,?_⟩
        unfold AReg; simp only [hw]
        exact hD _ _ _ _ _ (fun v1 h1 x1 ⟨a1,a2,a3⟩=>by subst a1; subst a2; subst a3; exact g2) G'
      case callv f args=>
        dsimp only at H
        split at H
        · rename_i hf
          obtain ⟨v,h',x',H',G'⟩:=hC _ _ _ _ H
          obtain ⟨e2,h2,x2,k2,g2⟩:=AReg_det hD hC r _ _ _ K hn2 H'
          refine ⟨e2,h2,x2,k2,?_⟩
          unfold AReg; simp only [hw,hf]
          exact hD _ _ _ _ _ (fun v1 h1 x1 ⟨a1,a2,a3⟩=>by subst a1; subst a2; subst a3; exact g2) G'
        · exact H.elim
      case mnext sh xs=>simp [AO.noNext] at hn1
      all_goals
        dsimp only at H
        split at H
        · rename_i ha
          obtain ⟨e2,h2,x2,k2,g2⟩:=AReg_det hD hC r _ _ _ K hn2 H
          refine ⟨e2,h2,x2,k2,?_⟩
          unfold AReg; simp only [hw,ha]
          exact g2
        · exact H.elim
    · rename_i hw
      obtain ⟨e2,h2,x2,k2,g2⟩:=AReg_det hD hC r _ _ _ K hn2 H
      refine ⟨e2,h2,x2,k2,?_⟩
      unfold AReg; simp only [hw]
      exact g2
    · exact H.elim
theorem ADo_of_det (hD : D.Mono) (hC : Dt C D) {o : AOp} {e : List (Nat × AV)} {h h' : Heap} {v : AV} {x : Esc} (H : ADo C gl o e h v h' x) : ADo D gl o e h v h' x:=by
  have key : ∀ f a h,C f a h (fun v1 h1 x1=>v1 = v ∧ h1 = h' ∧ x1 = x) → D f a h (fun v1 h1 x1=>v1 = v ∧ h1 = h' ∧ x1 = x):=fun f a h hc=>by
    obtain ⟨v2,h2,x2,⟨e1,e2,e3⟩,hd⟩:=hC _ _ _ _ hc
    subst e1; subst e2; subst e3
    exact hd
  unfold ADo at H ⊢
  split at H
  · split at H
    · exact key _ _ _ H
    · split at H
      · exact key _ _ _ H
      · exact H.elim
    · exact H.elim
    · exact H
  · exact H
  · exact H.elim
theorem ADraw_det (hD : D.Mono) (hC : Dt C D) : ∀ (ds : List DOp) dn hs e h x K,ADraw C gl ds dn hs e h x K → ∃ e' h' x',K e' h' x' ∧ ADraw D gl ds dn hs e h x fun e1 h1 x1=>e1 = e' ∧ h1 = h' ∧ x1 = x'
  | [],dn,hs,e,h,x,K,H=>⟨e,h,x,H,rfl,rfl,rfl⟩
  | o :: r,dn,hs,e,h,x,K,H=>by
    obtain ⟨v,h',y,h1,h2,h3,h4,h5⟩:=H
    obtain ⟨e2,q2,x2,k2,g2⟩:=ADraw_det hD hC r _ _ _ _ _ K h5
    exact ⟨e2,q2,x2,k2,v,h',y,ADo_of_det hD hC h1,h2,fun k hk=>by obtain ⟨g,a1,a2⟩:=h3 k hk; exact ⟨g,a1,ADo_of_det hD hC a2⟩,
      fun j hj=>by obtain ⟨q,a1,a2⟩:=h4 j hj; exact ⟨q,a1,ADo_of_det hD hC a2⟩,g2⟩
theorem ALoop_det {T U : St → (Ex → St → Prop) → Prop} (hT : ∀ s K,T s K → ∃ e s',K e s' ∧ U s fun e1 s1=>e1 = e ∧ s1 = s') {K : Ex → St → Prop} {s : St} (H : ALoop T K s) : ∃ e s',K e s' ∧ ALoop U (fun e1 s1=>e1 = e ∧ s1 = s') s:=by
  induction H with
  | mk s R h hn he hr ih=>
    obtain ⟨e,s',hR,hU⟩:=hT _ _ h
    cases e with
    | normal=>
      obtain ⟨e2,s2,k2,g2⟩:=ih s' hR
      exact ⟨e2,s2,k2,.mk _ _ hU (fun s1 ⟨_,h1⟩=>by subst h1; exact g2) (fun i s1 ⟨h1,_⟩=>by cases h1) (fun s1 ⟨h1,_⟩=>by cases h1)⟩
    | exit i=>exact ⟨_,_,he i s' hR,.mk _ _ hU (fun s1 ⟨h1,_⟩=>by cases h1) (fun j s1 h1=>h1) (fun s1 ⟨h1,_⟩=>by cases h1)⟩
    | ret=>exact ⟨_,_,hr s' hR,.mk _ _ hU (fun s1 ⟨h1,_⟩=>by cases h1) (fun j s1 ⟨h1,_⟩=>by cases h1) (fun s1 h1=>h1)⟩
theorem AW_det (hD : D.Mono) (hC : Dt C D) : ∀ (c : ACode),c.noNext = true → ∀ s K,AW C gl c s K → ∃ e s',K e s' ∧ AW D gl c s fun e1 s1=>e1 = e ∧ s1 = s'
  | .skip,_,s,K,H=>⟨_,_,H,rfl,rfl⟩
  | .reg ops keep,hn,s,K,H=>by
    obtain ⟨e,h,x,h1,h2⟩:=AReg_det hD hC ops _ _ _ _ hn H
    refine ⟨_,_,h1,?_⟩
    show AReg D gl ops s.env s.h s.esc fun e1 h1 x1=>_
    exact AReg_mono (C:=D) (C':=D) (fun f a h K K' hK h=>hD _ _ _ _ _ hK h) ops _ _ _ _ _ (fun e1 h1 x1 ⟨a1,a2,a3⟩=>by subst a1; subst a2; subst a3; exact ⟨rfl,rfl⟩) h2
  | .draw ds keep,_,s,K,H=>by
    obtain ⟨e,h,x,h1,h2⟩:=ADraw_det hD hC ds _ _ _ _ _ _ H
    refine ⟨_,_,h1,?_⟩
    show ADraw D gl ds [] [] s.env s.h s.esc fun e1 h1 x1=>_
    exact ADraw_mono (C:=D) (C':=D) (fun f a h K K' hK h=>hD _ _ _ _ _ hK h) ds _ _ _ _ _ _ _ (fun e1 h1 x1 ⟨a1,a2,a3⟩=>by subst a1; subst a2; subst a3; exact ⟨rfl,rfl⟩) h2
  | .seq a b,hn,s,K,H=>by
    simp only [ACode.noNext,Bool.and_eq_true] at hn
    obtain ⟨e,s',h1,h2⟩:=AW_det hD hC a hn.1 _ _ H
    have mono:=fun (K K' : Ex → St → Prop) (hK : ∀ e s,K e s → K' e s)=>AW_mono (C:=D) (C':=D) (gl:=gl) (fun f a h K K' hK h=>hD _ _ _ _ _ hK h) a s K K' hK
    cases e with
    | normal=>
      obtain ⟨e2,s2,k2,g2⟩:=AW_det hD hC b hn.2 _ _ h1
      refine ⟨e2,s2,k2,mono _ _ (fun e1 s1 ⟨a1,a2⟩=>?_) h2⟩
      subst a1; subst a2; exact g2
    | exit i=>exact ⟨_,_,h1,mono _ _ (fun e1 s1 ⟨a1,a2⟩=>by subst a1; subst a2; exact ⟨rfl,rfl⟩) h2⟩
    | ret=>exact ⟨_,_,h1,mono _ _ (fun e1 s1 ⟨a1,a2⟩=>by subst a1; subst a2; exact ⟨rfl,rfl⟩) h2⟩
  | .condu c a b,hn,s,K,H=>by cases hn
  | .det b,hn,s,K,H=>by cases hn
  | .cond c a b,hn,s,K,H=>by
    simp only [ACode.noNext,Bool.and_eq_true] at hn
    unfold AW at H
    split at H
    · rename_i t ht
      split at H
      · obtain ⟨e, s', h1, h2⟩ := AW_det hD hC a hn.1 _ _ H
        refine ⟨e,s',h1,?_⟩
        unfold AW; simp only [ht]; exact h2
      · obtain ⟨e, s', h1, h2⟩ := AW_det hD hC b hn.2 _ _ H
        refine ⟨e,s',h1,?_⟩
        unfold AW; simp only [ht]; exact h2
    · exact H.elim
  | .block id b,hn,s,K,H=>by
    obtain ⟨e,s',h1,h2⟩:=AW_det hD hC b hn _ _ H
    have mono:=fun (K K' : Ex → St → Prop) (hK : ∀ e s,K e s → K' e s)=>AW_mono (C:=D) (C':=D) (gl:=gl) (fun f a h K K' hK h=>hD _ _ _ _ _ hK h) b s K K' hK
    cases e with
    | normal=>exact ⟨_,_,h1,mono _ _ (fun e1 s1 ⟨a1,a2⟩=>by subst a1; subst a2; exact ⟨rfl,rfl⟩) h2⟩
    | exit i=>
      dsimp only at h1
      split at h1
      · rename_i hi
        exact ⟨_,_,h1,mono _ _ (fun e1 s1 ⟨a1,a2⟩=>by subst a1; subst a2; dsimp only; rw [if_pos hi]; exact ⟨rfl,rfl⟩) h2⟩
      · rename_i hi
        exact ⟨_,_,h1,mono _ _ (fun e1 s1 ⟨a1,a2⟩=>by subst a1; subst a2; dsimp only; rw [if_neg hi]; exact ⟨rfl,rfl⟩) h2⟩
    | ret=>exact ⟨_,_,h1,mono _ _ (fun e1 s1 ⟨a1,a2⟩=>by subst a1; subst a2; exact ⟨rfl,rfl⟩) h2⟩
  | .loop b,hn,s,K,H=>ALoop_det (fun s K h=>AW_det hD hC b hn s K h) H
  | .scope b,hn,s,K,H=>by
    obtain ⟨e,s',h1,h2⟩:=AW_det hD hC b hn _ _ H
    exact ⟨_,_,h1,AW_mono (C:=D) (C':=D) (gl:=gl) (fun f a h K K' hK h=>hD _ _ _ _ _ hK h) b _ _ _ (fun e1 s1 ⟨a1,a2⟩=>by subst a1; subst a2; exact ⟨rfl,rfl⟩) h2⟩
  | .pr l b,hn,s,K,H=>AW_det hD hC b hn _ K H
  | .exit id,_,s,K,H=>⟨_,_,H,rfl,rfl⟩
  | .ret,_,s,K,H=>⟨_,_,H,rfl,rfl⟩
  | .bad,_,s,K,H=>H.elim
theorem fin_det {F : AFun} {b : Nat} {s : St} {K : Post} (H : fin F b s K) : ∃ v h x,K v h x ∧ fin F b s fun v1 h1 x1=>v1 = v ∧ h1 = h ∧ x1 = x:=by
  unfold fin at H
  cases h1 : aresAll s F.results with
  | none=>rw [h1] at H; exact H.elim
  | some vs=>
    rw [h1] at H
    dsimp only at H
    cases h2 : F.keep with
    | true=>
      rw [h2] at H
      dsimp only at H
      by_cases h3 : closed s.esc (close (List.length s.esc) s.esc (max b (oneOf vs).top)) = true
      · rw [if_pos h3] at H
        exact ⟨_,_,_,H,by unfold fin; rw [h1]; dsimp only; rw [h2]; dsimp only; rw [if_pos h3]; exact ⟨rfl,rfl,rfl⟩⟩
      · rw [if_neg h3] at H
        exact ⟨_,_,_,H,by unfold fin; rw [h1]; dsimp only; rw [h2]; dsimp only; rw [if_neg h3]; exact ⟨rfl,rfl,rfl⟩⟩
    | false=>
      rw [h2] at H
      dsimp only at H
      cases h4 : reif b s.h (oneOf vs) with
      | none=>rw [h4] at H; exact H.elim
      | some v0=>
        rw [h4] at H
        dsimp only at H
        by_cases h3 : closed s.esc (close (List.length s.esc) s.esc (max b v0.top)) = true
        · rw [if_pos h3] at H
          cases h5 : reif (close (List.length s.esc) s.esc (max b v0.top)) s.h (oneOf vs) with
          | none=>rw [h5] at H; exact H.elim
          | some v=>
            rw [h5] at H
            exact ⟨_,_,_,H.2,by unfold fin; rw [h1]; dsimp only; rw [h2]; dsimp only; rw [h4]; dsimp only; rw [if_pos h3,h5]; exact ⟨H.1,rfl,rfl,rfl⟩⟩
        · rw [if_neg h3] at H
          exact ⟨_,_,_,H,by unfold fin; rw [h1]; dsimp only; rw [h2]; dsimp only; rw [h4]; dsimp only; rw [if_neg h3]; exact ⟨rfl,rfl,rfl⟩⟩
def Ctx.NoNext (X : Ctx) : Prop:=∀ f F,X.fn f = some F → (F.isDet || F.body.noNext) = true
theorem abody_det (hD : D.Mono) (hC : Dt C D) {F : AFun} {a : List AV} {h : Heap} {K : Post} (hb : F.body.noNext = true) (H : abody C gl F a h K) : ∃ v h' x,K v h' x ∧ abody D gl F a h fun v1 h1 x1=>v1 = v ∧ h1 = h' ∧ x1 = x:=by
  unfold abody at H ⊢
  cases hp : (if F.byref then some (a,h) else puras h a) with
  | none=>rw [hp] at H; exact H.elim
  | some q=>
    obtain ⟨asv,h1⟩:=q
    rw [hp] at H
    obtain ⟨hl,H⟩:=H
    obtain ⟨e,s',k1,g1⟩:=AW_det hD hC _ hb _ _ H
    have mono:=fun (K K' : Ex → St → Prop) (hK : ∀ e s,K e s → K' e s)=>AW_mono (C:=D) (C':=D) (gl:=gl) (fun f a h K K' hK h=>hD _ _ _ _ _ hK h) F.body ⟨enter asv,h1,[]⟩ K K' hK
    cases e with
    | exit i=>exact k1.elim
    | normal=>
      obtain ⟨v,h',x,k2,g2⟩:=fin_det k1
      exact ⟨v,h',x,k2,hl,mono _ _ (fun e1 s1 ⟨a1,a2⟩=>by subst a1; subst a2; exact g2) g1⟩
    | ret=>
      obtain ⟨v,h',x,k2,g2⟩:=fin_det k1
      exact ⟨v,h',x,k2,hl,mono _ _ (fun e1 s1 ⟨a1,a2⟩=>by subst a1; subst a2; exact g2) g1⟩
theorem ACall_det {X : Ctx} (hX : X.NoNext) : Dt (ACall X) (ACall X):=by
  intro f a h K H
  refine H (fun f a h K=>∃ v h' x,K v h' x ∧ ACall X f a h fun v1 h1 x1=>v1 = v ∧ h1 = h' ∧ x1 = x) ?_ ?_
  · intro f a h K K' hK ⟨v, h', x, k, g⟩
    exact ⟨v,h',x,hK _ _ _ k,g⟩
  · intro f a h K H
    have hC : Dt (fun f a h K=>∃ v h' x,K v h' x ∧ ACall X f a h fun v1 h1 x1=>v1 = v ∧ h1 = h' ∧ x1 = x) (ACall X):=fun f a h K H=>H
    have hD:=ACall.mono X
    unfold Step at H
    split at H
    · rename_i F hF
      unfold fbody at H
      cases hd : F.isDet with
      | true=>
        rw [hd] at H
        obtain ⟨v,h',x,k,H⟩:=H
        refine ⟨v,h',x,k,ACall.fold ?_⟩
        unfold Step
        simp only [hF,fbody,hd]
        exact ⟨v,h',x,⟨rfl,rfl,rfl⟩,abody_mono (fun f a h K K' hK ⟨v2,h2,x2,k2,g2⟩=>hD _ _ _ _ _ (fun v1 h1 x1 hv=>by obtain ⟨rfl,rfl,rfl⟩:=hv; exact hK _ _ _ k2) g2) (fun _ _ _ h=>h) H⟩
      | false=>
        rw [hd] at H
        obtain ⟨v,h',x,k1,g1⟩:=abody_det hD hC (by have:=hX f F hF; rw [hd] at this; simpa using this) H
        refine ⟨v,h',x,k1,ACall.fold ?_⟩
        unfold Step; simp only [hF,fbody,hd]
        exact g1
    · rename_i hF
      split at H
      · rename_i hx2
        refine ⟨_,_,_,H,ACall.fold ?_⟩
        unfold Step; simp only [hF,hx2]
        exact ⟨trivial,trivial,trivial⟩
      · rename_i hx2
        split at H
        · rename_i hp
          split at H
          · rename_i hu
            split at H
            · rename_i hx
              refine ⟨_,_,_,H,ACall.fold ?_⟩
              unfold Step; simp only [hF,hx2,hp,hu,hx]
              exact ⟨trivial,trivial,trivial⟩
            · exact H.elim
          · exact H.elim
        · exact H.elim
theorem ACall.one {X : Ctx} (hX : X.NoNext) {f : Nat} {a : List AV} {h : Heap} {Q : Post} (H : ACall X f a h Q) : ∃ v h' x,Q v h' x ∧ ∀ K : Post,ACall X f a h K = K v h' x:=by
  obtain ⟨v,h',x,k,g⟩:=ACall_det hX _ _ _ _ H
  exact ⟨v,h',x,k,fun K=>rule g⟩
end Go.Am
end
section
/- The abstract machine,part 29: its meaning once more,spelt so that a function's code can be printed asv a formula over its values (shallow),equal to the deep one by computing. -/
set_option linter.unusedSimpArgs false
set_option linter.unusedVariables false
namespace Go.Am
def pK (o : Option AV) (k : AV → Prop) : Prop:=match o with
  | some v=>k v
  | none=>False
def wK (o : Option (AV × Heap × Esc)) (k : AV → Heap → Esc → Prop) : Prop:=match o with
  | some y=>k y.1 y.2.1 y.2.2
  | none=>False
def oPick (c a b : AV) : Option AV:=match c with
  | .p (.bool t)=>some (bif t then a else b)
  | _=>none
def oBox (x : AV) (h : Heap) : Option (AV × Heap × Esc):=match x.cells with
  | some cs=>some (.ref h.length 0,h ++ [.box cs],[])
  | none=>none
def fillV : List (Nat × Nat × AV) → List AV → Option (List AV)
  | [],cs=>some cs
  | (off,n,x) :: r,cs=>match x.cells with
    | some vs=>if vs.length = n ∧ off + n ≤ cs.length then fillV r (splice cs off vs) else none
    | none=>none
def oBuild (z : List AV) (ps : List (Nat × Nat × AV)) : Option AV:=(fillV ps z).map mkA
def fillW (sh : Sh) : List (Nat × AV) → Heap → List PV → Option (List PV × Heap)
  | [],h,xs=>some (xs,h)
  | (i,x) :: r,h,xs=>match pur h x with
    | some (v,h')=>if v.shp sh ∧ i < xs.length then fillW sh r h' (xs.set i v) else none
    | none=>none
def oBsl (own : Bool) (sh : Sh) (n : Nat) (z : PV) (ps : List (Nat × AV)) (h : Heap) : Option (AV × Heap × Esc):=match fillW sh ps h (List.replicate n z) with
  | some (xs,h')=>if !z.shp sh then none else some (bif own then (.own h'.length n 0 n,h' ++ [.row sh xs 0],[]) else (.p (.sl sh xs),h',[]))
  | none=>none
def oLoad (sh : Sh) (a : AV) (h : Heap) : Option AV:=match a with
  | .ref id off=>match h[id]? with
    | some (.box cs)=>cut sh off cs
    | _=>none
  | .rref id g i off=>match h[id]? with
    | some (.row _ xs _)=>if g = xs.length then ((xs[i]?).bind (cutP sh off)).map .p else none
    | _=>none
  | .vp v=>(cutP sh 0 v).map .p
  | _=>none
def oStore (sh : Sh) (a x : AV) (h : Heap) : Option (AV × Heap × Esc):=match a with
  | .ref id off=>match h[id]?,x.cells with
    | some (.box cs),some vs=>if vs.length = shSize sh ∧ off + vs.length ≤ cs.length then some (.und,h.set id (.box (splice cs off vs)),escOf id x) else none
    | _,_=>none
  | .rref id g i off=>match pur h x with
    | some (v,h1)=>match h1[id]? with
      | some (.row rsh xs fz)=>if g = xs.length ∧ fz ≤ i ∧ v.cells.length = shSize sh ∧ v.cells.all PV.sc then match xs[i]? with
        | some (.agg cs)=>if off + v.cells.length ≤ cs.length then some (.und,h1.set id (.row rsh (xs.set i (.agg (splice cs off v.cells))) fz),[]) else none
        | some _=>if off = 0 ∧ v.sc then some (.und,h1.set id (.row rsh (xs.set i v) fz),[]) else none
        | none=>none
        else none
      | _=>none
    | none=>none
  | _=>none
def oNil (x : AV) : Option AV:=match x with
  | .ref _ _ | .rref _ _ _ _ | .vp _ | .fn _ _=>some x
  | _=>none
def oBin (op : BinOp) (x y : AV) : Option AV:=match x,y with
  | .p a,.p b=>(abin op a b).map .p
  | _,_=>none
def oEqa (ks : List Nat) (neg : Bool) (x y : AV) : Option AV:=match x,y with
  | .p (.agg asv),.p (.agg bs)=>if asv.map PV.kind = ks ∧ bs.map PV.kind = ks ∧ ks ≠ [] then (eqs asv bs).map fun t=>pbool (bif neg then !t else t) else none
  | .p (.bool a),.p (.bool b)=>if ks = [] then some (pbool (bif neg then !decide (a = b) else decide (a = b))) else none
  | _,_=>none
def oIsnil (k : Nat) (neg : Bool) (x : AV) : Option AV:=bif nilAny k x then some .anyb else (nilOf k x).map fun r=>pbool (bif neg then !r else r)
def oMkif (x : AV) : Option AV:=if okIn x then some .ifc else none
def oUn (op : UnOp) (x : AV) : Option AV:=match x with
  | .p a=>(aun op a).map .p
  | _=>none
def oConv (c : Cv) (x : AV) (h : Heap) : Option (AV × Heap × Esc):=(aconv h c x).map fun y=>(y.1,y.2,[])
def oConvI (k : IntKind) (x : AV) : Option AV:=match x with
  | .p (.int _ n)=>some (.p (.int k (k.wrap n)))
  | _=>none
def oMksl (sh : Sh) (z : PV) (len cap : AV) (h : Heap) : Option (AV × Heap × Esc):=match natOf len,natOf cap with
  | some n,some m=>if n ≤ m ∧ m ≤ maxSl ∧ z.shp sh then some (.own h.length n 0 n,h ++ [.row sh (List.replicate n z) 0],[]) else none
  | _,_=>none
def bndV (d : Nat) : Option AV → Option Nat
  | none=>some d
  | some x=>natOf x
def oSlstr (x : AV) (lo hi : Option AV) : Option AV:=match x with
  | .p (.str s)=>match bndV 0 lo,bndV s.length hi with
    | some l,some r=>if l ≤ r ∧ r ≤ s.length then some (.p (.str (win s l (r - l)))) else none
    | _,_=>none
  | _=>none
def oSlice (sh : Sh) (x : AV) (lo hi mx : Option AV) (h : Heap) : Option AV:=match x with
  | .p (.sl sh' xs)=>match bndV 0 lo,bndV xs.length hi,bndV xs.length mx with
    | some l,some r,some m=>if sh' = sh ∧ l ≤ r ∧ r ≤ m ∧ m ≤ xs.length then some (if mx.isSome ∧ m = l then .sl0 sh else .p (.sl sh (win xs l (r - l)))) else none
    | _,_,_=>none
  | .sl0 sh'=>match bndV 0 lo,bndV 0 hi,bndV 0 mx with
    | some l,some r,some m=>if l = 0 ∧ r = 0 ∧ m = 0 then some (.sl0 sh') else none
    | _,_,_=>none
  | .own id g off len=>match h[id]? with
    | some (.row rsh xs _)=>match bndV 0 lo,bndV len hi,bndV len mx with
      | some l,some r,some m=>if rsh = sh ∧ g = xs.length ∧ off + len ≤ xs.length ∧ l ≤ r ∧ r ≤ m ∧ m ≤ len then some (if mx.isSome ∧ m = l then .sl0 sh else .own id g (off + l) (r - l)) else none
      | _,_,_=>none
    | _=>none
  | _=>none
def oFaddr (off : Nat) (sh : Sh) (x : AV) : Option AV:=match x with
  | .ref id o=>some (.ref id (o + off))
  | .rref id g i o=>some (.rref id g i (o + off))
  | .vp v=>(cutP sh off v).map .vp
  | _=>none
def oField (off : Nat) (sh : Sh) (x : AV) : Option AV:=match x with
  | .p v=>match v with
    | .agg _=>(cutP sh off v).map .p
    | _=>none
  | .agg cs=>cut sh off cs
  | _=>none
def oIaddr (sh : Sh) (x i : AV) (h : Heap) : Option AV:=match x,natOf i with
  | .p (.sl sh' xs),some k=>if sh' = sh then (xs[k]?).map .vp else none
  | .own id g off len,some k=>match h[id]? with
    | some (.row rsh xs _)=>if rsh = sh ∧ g = xs.length ∧ off + len ≤ xs.length ∧ k < len then some (.rref id g (off + k) 0) else none
    | _=>none
  | _,_=>none
def oIaddra (n : Nat) (sh : Sh) (x i : AV) : Option AV:=match x,natOf i with
  | .ref id o,some k=>if k < n then some (.ref id (o + k * shSize sh)) else none
  | .rref id g j o,some k=>if k < n then some (.rref id g j (o + k * shSize sh)) else none
  | .vp v,some k=>if k < n then (cutP sh (k * shSize sh) v).map .vp else none
  | _,_=>none
def oIdxa (n : Nat) (sh : Sh) (x i : AV) : Option AV:=match x,natOf i with
  | .p (.agg cs),some k=>if k < n then (cutP sh (k * shSize sh) (.agg cs)).map .p else none
  | _,_=>none
def oIdxs (x i : AV) : Option AV:=match x,natOf i with
  | .p (.str s),some k=>(s[k]?).map fun b=>.p (.int .u8 b.toNat)
  | _,_=>none
def oExt (x : AV) (i : Nat) : Option AV:=match x with
  | .tup vs=>vs[i]?
  | _=>none
def oLen (x : AV) : Option AV:=match x with
  | .p (.sl _ xs)=>some (pint xs.length)
  | .sl0 _=>some (pint 0)
  | .own _ _ _ len=>some (pint len)
  | _=>none
def oLens (x : AV) : Option AV:=match x with
  | .p (.str s)=>some (pint s.length)
  | _=>none
def oApp (sh : Sh) (s x : AV) (h : Heap) : Option (AV × Heap × Esc):=match rds h x with
  | some (sh',ys)=>if sh' = sh then match s with
    | .sl0 _=>if ys.length ≤ maxSl then some (.own h.length ys.length 0 ys.length,h ++ [.row sh ys 0],[]) else none
    | .own id g off len=>match h[id]? with
      | some (.row rsh xs fz)=>if rsh = sh ∧ g = xs.length ∧ off = 0 ∧ len = xs.length ∧ len + ys.length ≤ maxSl then some (.own id (g + ys.length) off (len + ys.length),h.set id (.row sh (xs ++ ys) fz),[]) else none
      | _=>none
    | _=>none
    else none
  | none=>none
def oCopy (sh : Sh) (d s : AV) (h : Heap) : Option (AV × Heap × Esc):=match d,rds h s with
  | .own id g off len,some (sh',ys)=>match h[id]? with
    | some (.row rsh xs fz)=>if rsh = sh ∧ sh' = sh ∧ g = xs.length ∧ off + len ≤ xs.length ∧ fz ≤ off then
        some (pint (min ys.length len),h.set id (.row sh (splice xs off (ys.take (min ys.length len))) fz),[])
      else none
    | _=>none
  | _,_=>none
def oClr (sh : Sh) (z : PV) (x : AV) (h : Heap) : Option (AV × Heap × Esc):=match x with
  | .sl0 _=>some (.tup [],h,[])
  | .own id g off len=>match h[id]? with
    | some (.row rsh xs fz)=>if rsh = sh ∧ g = xs.length ∧ off + len ≤ xs.length ∧ fz ≤ off then
        some (.tup [],h.set id (.row sh (splice xs off (List.replicate len z)) fz),[])
      else none
    | _=>none
  | _=>none
def oMx (xs : List AV) : Option AV:=match xs with
  | .p a :: r=>((unp r).bind fun l=>l.foldlM amax2 a).map .p
  | _=>none
def oMn (xs : List AV) : Option AV:=match xs with
  | .p a :: r=>((unp r).bind fun l=>l.foldlM amin2 a).map .p
  | _=>none
def oLook (kk : Sh × List Nat) (ok : Bool) (z x k : AV) (h : Heap) : Option AV:=match keyOf kk k with
  | some key=>match (match x with | .nilm=>some [] | m=>(mget h m).map fun y=>y.2.1) with
    | some es=>match mfind key es with
      | some r=>
        let v:=((r.bind (es[·]?)).map ME.val)
        some (bif ok then .tup [v.getD z,pbool v.isSome] else v.getD z)
      | none=>none
    | none=>none
  | none=>none
def oMupd (kk : Sh × List Nat) (m k x : AV) (h : Heap) : Option (AV × Heap × Esc):=match keyOf kk k,mget h m,okIn x with
  | some key,some (id,es,c),true=>match mfind key es with
    | some (some i)=>some (.und,h.set id (.amap (es.modify i fun e=>{ e with val:=x }) c),escOf id x)
    | some none=>some (.und,h.set id (.amap (es ++ [⟨key,x,c⟩]) (c + 1)),escOf id x)
    | none=>none
  | _,_,_=>none
def oMent (kk : Sh × List Nat) (z m k : AV) (h : Heap) : Option (AV × Heap × Esc):=match keyOf kk k,mget h m with
  | some key,some (id,es,c)=>match mfind key es with
    | some (some i)=>(es[i]?).map fun e=>(.tup [e.val,pint e.born],h,[])
    | some none=>some (.tup [z,pint c],h.set id (.amap (es ++ [⟨key,z,c⟩]) (c + 1)),[])
    | none=>none
  | _,_=>none
def oEstore (m s x : AV) (h : Heap) : Option (AV × Heap × Esc):=match mget h m,natOf s,okIn x with
  | some (id,es,c),some b,true=>match es.findIdx? (fun e=>e.born == b) with
    | some i=>some (.und,h.set id (.amap (es.modify i fun e=>{ e with val:=x }) c),escOf id x)
    | none=>none
  | _,_,_=>none
def oMdel (kk : Sh × List Nat) (m k : AV) (h : Heap) : Option (AV × Heap × Esc):=match keyOf kk k,mget h m with
  | some key,some (id,es,c)=>match mfind key es with
    | some (some i)=>some (.und,h.set id (.amap (es.eraseIdx i) c),[])
    | some none=>some (.und,h,[])
    | none=>none
  | _,_=>none
def oLenm (x : AV) (h : Heap) : Option AV:=match x with
  | .nilm=>some (pint 0)
  | .mp id=>(mget h (.mp id)).map fun y=>pint y.2.1.length
  | _=>none
def oMrange (x : AV) (h : Heap) : Option (AV × Heap × Esc):=match mget h x with
  | some (id,_,c)=>some (.it h.length,h ++ [.iter (some id) c [] c],[])
  | none=>match x with
    | .nilm=>some (.it h.length,h ++ [.iter none 0 [] 0],[])
    | _=>none
def oMentry (i : AV) (h : Heap) : Option (AV × Heap × Esc):=match i with
  | .it id=>match h[id]? with
    | some (.iter (some m) _ seen last)=>match mget h (.mp m),seen.getLast? with
      | some (_,es,c),some b=>if c = last then (es.find? (fun e=>e.born == b)).map fun e=>(.tup [.p e.key,e.val],h,[]) else none
      | _,_=>none
    | _=>none
  | _=>none
def alK (z : List AV) (h : Heap) (k : AV → Heap → Esc → Prop) : Prop:=k (.ref h.length 0) (h ++ [.box z]) []
def nwK (sh : Sh) (h : Heap) (k : AV → Heap → Esc → Prop) : Prop:=k (.own h.length 0 0 0) (h ++ [.row sh [] 0]) []
def mmK (h : Heap) (k : AV → Heap → Esc → Prop) : Prop:=k (.mp h.length) (h ++ [.amap [] 0]) []
def ev3 (ev : Opd → AV) : List (Nat × Nat × Opd) → List (Nat × Nat × AV)
  | []=>[]
  | (a,b,x) :: r=>(a,b,ev x) :: ev3 ev r
def ev2 (ev : Opd → AV) : List (Nat × Opd) → List (Nat × AV)
  | []=>[]
  | (a,x) :: r=>(a,ev x) :: ev2 ev r
def evO (ev : Opd → AV) : Option Opd → Option AV
  | none=>none
  | some x=>some (ev x)
def ev1 (ev : Opd → AV) : List Opd → List AV
  | []=>[]
  | x :: r=>ev x :: ev1 ev r
def opN (o : AO) (ev : Opd → AV) (h : Heap) (k : AV → Heap → Esc → Prop) : Prop:=match o with
  | .mv x=>k (ev x) h []
  | .pick c a b=>pK (oPick (ev c) (ev a) (ev b)) fun v=>k v h []
  | .alloc z=>alK z h k
  | .box x=>wK (oBox (ev x) h) k
  | .build z ps=>pK (oBuild z (ev3 ev ps)) fun v=>k v h []
  | .bsl own sh n z ps=>wK (oBsl own sh n z (ev2 ev ps) h) k
  | .load sh a=>pK (oLoad sh (ev a) h) fun v=>k v h []
  | .store sh a x=>wK (oStore sh (ev a) (ev x) h) k
  | .nilchk x=>pK (oNil (ev x)) fun v=>k v h []
  | .bin op x y=>pK (oBin op (ev x) (ev y)) fun v=>k v h []
  | .eqa ks neg x y=>pK (oEqa ks neg (ev x) (ev y)) fun v=>k v h []
  | .isnil n neg x=>pK (oIsnil n neg (ev x)) fun v=>k v h []
  | .mkif x=>pK (oMkif (ev x)) fun v=>k v h []
  | .un op x=>pK (oUn op (ev x)) fun v=>k v h []
  | .conv (.i c) x=>pK (oConvI c (ev x)) fun v=>k v h []
  | .mkfn f caps=>k (.fn f (ev1 ev caps)) h []
  | .slice sh x lo hi mx=>pK (oSlice sh (ev x) (evO ev lo) (evO ev hi) (evO ev mx) h) fun v=>k v h []
  | .slstr x lo hi=>pK (oSlstr (ev x) (evO ev lo) (evO ev hi)) fun v=>k v h []
  | .mksl sh z len cap=>wK (oMksl sh z (ev len) (ev cap) h) k
  | .faddr off sh x=>pK (oFaddr off sh (ev x)) fun v=>k v h []
  | .field off sh x=>pK (oField off sh (ev x)) fun v=>k v h []
  | .iaddr sh x i=>pK (oIaddr sh (ev x) (ev i) h) fun v=>k v h []
  | .iaddra n sh x i=>pK (oIaddra n sh (ev x) (ev i)) fun v=>k v h []
  | .idxa n sh x i=>pK (oIdxa n sh (ev x) (ev i)) fun v=>k v h []
  | .idxs x i=>pK (oIdxs (ev x) (ev i)) fun v=>k v h []
  | .ext x i=>pK (oExt (ev x) i) fun v=>k v h []
  | .len x=>pK (oLen (ev x)) fun v=>k v h []
  | .lens x=>pK (oLens (ev x)) fun v=>k v h []
  | .app sh s x=>wK (oApp sh (ev s) (ev x) h) k
  | .copy sh d s=>wK (oCopy sh (ev d) (ev s) h) k
  | .clr sh z x=>wK (oClr sh z (ev x) h) k
  | .mx xs=>pK (oMx (ev1 ev xs)) fun v=>k v h []
  | .mn xs=>pK (oMn (ev1 ev xs)) fun v=>k v h []
  | .new0 sh=>nwK sh h k
  | .conv .s2b x=>wK (oConv .s2b (ev x) h) k
  | .conv .b2s x=>wK (oConv .b2s (ev x) h) k
  | .conv .r2s x=>wK (oConv .r2s (ev x) h) k
  | .conv .same x=>wK (oConv .same (ev x) h) k
  | .mkmap=>mmK h k
  | .look kk ok z x key=>pK (oLook kk ok z (ev x) (ev key) h) fun v=>k v h []
  | .mupd kk m key x=>wK (oMupd kk (ev m) (ev key) (ev x) h) k
  | .ment kk z m key=>wK (oMent kk z (ev m) (ev key) h) k
  | .estore m s x=>wK (oEstore (ev m) (ev s) (ev x) h) k
  | .mdel kk m key=>wK (oMdel kk (ev m) (ev key) h) k
  | .lenm x=>pK (oLenm (ev x) h) fun v=>k v h []
  | .mrange x=>wK (oMrange (ev x) h) k
  | .mentry i=>wK (oMentry (ev i) h) k
  | .call _ _ | .callv _ _ | .mnext _ _=>False
theorem wK_opt {o : Option (AV × Heap × Esc)} {k : AV → Heap → Esc → Prop} : optK o k = wK o k:=rfl
theorem pK_map {o : Option AV} {h : Heap} {k : AV → Heap → Esc → Prop} : wK (o.map fun v=>(v,h,[])) k = pK o fun v=>k v h []:=by cases o <;> rfl
theorem fillA_eq (ev : Opd → AV) : ∀ (ps : List (Nat × Nat × Opd)) (z : List AV),fillA ev ps z = fillV (ev3 ev ps) z
  | [],z=>rfl
  | (off,n,x) :: r,z=>by
    simp only [fillA,ev3,fillV]
    cases (ev x).cells with
    | none=>rfl
    | some vs=>simp only [fillA_eq ev r]
theorem fillP_eq (ev : Opd → AV) (sh : Sh) : ∀ (ps : List (Nat × Opd)) (h : Heap) (z : List PV),fillP ev sh ps h z = fillW sh (ev2 ev ps) h z
  | [],h,z=>rfl
  | (i,x) :: r,h,z=>by
    simp only [fillP,ev2,fillW]
    cases pur h (ev x) with
    | none=>rfl
    | some y=>simp only [fillP_eq ev sh r]
theorem bnd_eq (ev : Opd → AV) (d : Nat) (o : Option Opd) : bnd ev d o = bndV d (evO ev o):=by cases o <;> rfl
theorem evO_some (ev : Opd → AV) (o : Option Opd) : (evO ev o).isSome = o.isSome:=by cases o <;> rfl
theorem ev1_eq (ev : Opd → AV) (l : List Opd) : l.map ev = ev1 ev l:=by
  induction l with
  | nil=>rfl
  | cons x r ih=>simp only [List.map_cons,ev1,ih]
theorem asl_eq (sh : Sh) (ev : Opd → AV) (h : Heap) (x : AV) (lo hi mx : Option Opd) : asl sh ev h x lo hi mx = oSlice sh x (evO ev lo) (evO ev hi) (evO ev mx) h:=by
  unfold asl oSlice
  simp only [bnd_eq,evO_some]
  rfl
theorem wpK_ite {p : Prop} [Decidable p] {a : AV} {h : Heap} {k : AV → Heap → Esc → Prop} : wK (if p then some (a,h,[]) else none) k = pK (if p then some a else none) fun v=>k v h []:=by split <;> rfl
theorem wpK_map {α : Type} {o : Option α} {f : α → AV} {h : Heap} {k : AV → Heap → Esc → Prop} : wK (o.map fun v=>(f v,h,[])) k = pK (o.map f) fun v=>k v h []:=by cases o <;> rfl
theorem wpK_ite_map {α : Type} {p : Prop} [Decidable p] {o : Option α} {f : α → AV} {h : Heap} {k : AV → Heap → Esc → Prop} : wK (if p then o.map (fun v=>(f v,h,[])) else none) k = pK (if p then o.map f else none) fun v=>k v h []:=by
  split
  · exact wpK_map
  · rfl
theorem opN_aop {o : AO} (hp : o.plain = true) {ev : Opd → AV} {h : Heap} {k : AV → Heap → Esc → Prop} : optK (aop o ev h) k = opN o ev h k:=by
  rw [wK_opt]
  cases o <;> first | (cases hp; done) | skip
  case mv=>rfl
  case pick c a b=>
    simp only [aop,opN,oPick]
    generalize ev c = v
    cases v <;> try rfl
    rename_i p; cases p <;> rfl
  case alloc=>rfl
  case box=>rfl
  case build z ps=>simp only [aop,opN]; rw [← pK_map,oBuild,fillA_eq,Option.map_map]; rfl
  case bsl=>simp only [aop,opN,oBsl,fillP_eq]; rfl
  case load sh a=>
    simp only [aop,opN,oLoad]
    generalize ev a = v
    cases v with
    | ref id off=>dsimp only; cases h[id]? with
      | none=>rfl
      | some o=>cases o <;> first | rfl | exact pK_map
    | rref id g i off=>dsimp only; cases h[id]? with
      | none=>rfl
      | some o=>cases o <;> first | rfl | exact wpK_ite_map
    | vp v=>exact wpK_map
    | p v=>cases v <;> rfl
    | _=>rfl
  case store=>simp only [aop,opN]; rfl
  case nilchk x=>
    simp only [aop,opN,oNil]
    generalize ev x = v
    cases v <;> rfl
  case bin op x y=>
    simp only [aop,opN,oBin]
    generalize ev x = v
    generalize ev y = u
    cases v <;> try rfl
    cases u <;> try rfl
    exact wpK_map
  case eqa ks neg x y=>
    simp only [aop,opN,oEqa]
    generalize ev x = v
    generalize ev y = u
    cases v <;> try rfl
    rename_i p
    cases p <;> try rfl
    all_goals (cases u <;> try rfl)
    all_goals (rename_i q; cases q <;> try rfl)
    · exact wpK_ite
    · exact wpK_ite_map
  case isnil k neg p=>
    simp only [aop,opN,oIsnil]
    cases nilAny k (ev p) with
    | true=>rfl
    | false=>exact wpK_map
  case mkif=>exact wpK_ite
  case un op x=>
    simp only [aop,opN,oUn]
    generalize ev x = v
    cases v <;> try rfl
    exact wpK_map
  case conv c x=>
    cases c
    case i k'=>
      simp only [aop,opN,oConvI,aconv]
      generalize ev x = v
      cases v <;> try rfl
      rename_i p; cases p <;> rfl
    all_goals rfl
  case mkfn f caps=>simp only [aop,opN,ev1_eq]; rfl
  case slice=>simp only [aop,opN,asl_eq]; exact pK_map
  case slstr x lo hi=>
    simp only [aop,opN,oSlstr,bnd_eq]
    generalize ev x = v
    cases v <;> try rfl
    rename_i p; cases p <;> try rfl
    rename_i s
    dsimp only
    generalize bndV 0 _ = o1
    generalize bndV s.length _ = o2
    cases o1 <;> try rfl
    cases o2 <;> try rfl
    exact wpK_ite
  case mksl=>simp only [aop,opN]; rfl
  case faddr off sh x=>
    simp only [aop,opN,oFaddr]
    generalize ev x = v
    cases v <;> try rfl
    exact wpK_map
  case field off sh x=>
    simp only [aop,opN,oField]
    generalize ev x = v
    cases v <;> try rfl
    · rename_i p; cases p <;> try rfl
      exact wpK_map
    · exact pK_map
  case iaddr sh x i=>
    simp only [aop,opN,oIaddr]
    generalize ev x = v
    generalize natOf (ev i) = n
    cases v <;> try rfl
    · rename_i p; cases p <;> try rfl
      cases n <;> try rfl
      exact wpK_ite_map
    · cases n <;> try rfl
      rename_i id g off len k
      dsimp only
      cases h[id]? with
      | none=>rfl
      | some o=>cases o <;> first | rfl | exact wpK_ite
  case iaddra m sh x i=>
    simp only [aop,opN,oIaddra]
    generalize ev x = v
    generalize natOf (ev i) = n
    cases v <;> try rfl
    all_goals (cases n <;> try rfl)
    · exact wpK_ite
    · exact wpK_ite
    · exact wpK_ite_map
  case idxa m sh x i=>
    simp only [aop,opN,oIdxa]
    generalize ev x = v
    generalize natOf (ev i) = n
    cases v <;> try rfl
    rename_i p; cases p <;> try rfl
    cases n <;> try rfl
    exact wpK_ite_map
  case idxs x i=>
    simp only [aop,opN,oIdxs]
    generalize ev x = v
    generalize natOf (ev i) = n
    cases v <;> try rfl
    rename_i p; cases p <;> try rfl
    cases n <;> try rfl
    exact wpK_map
  case ext x i=>
    simp only [aop,opN,oExt]
    generalize ev x = v
    cases v <;> try rfl
    exact pK_map
  case len x=>
    simp only [aop,opN,oLen]
    generalize ev x = v
    cases v <;> try rfl
    rename_i p; cases p <;> rfl
  case lens x=>
    simp only [aop,opN,oLens]
    generalize ev x = v
    cases v <;> try rfl
    rename_i p; cases p <;> rfl
  case app=>simp only [aop,opN]; rfl
  case copy=>simp only [aop,opN]; rfl
  case clr=>simp only [aop,opN]; rfl
  case mx xs=>
    simp only [aop,opN,ev1_eq,oMx]
    generalize ev1 ev xs = l
    cases l <;> try rfl
    rename_i v r
    cases v <;> try rfl
    exact wpK_map
  case mn xs=>
    simp only [aop,opN,ev1_eq,oMn]
    generalize ev1 ev xs = l
    cases l <;> try rfl
    rename_i v r
    cases v <;> try rfl
    exact wpK_map
  case new0=>rfl
  case look kk ok z x key=>
    simp only [aop,opN,oLook]
    cases keyOf kk (ev key) <;> try rfl
    rename_i kk
    generalize ev x = v
    cases v <;> try rfl
    rename_i id
    dsimp only
    cases mget h (.mp id) <;> try rfl
    rename_i y
    dsimp only [Option.map_some]
    cases mfind kk y.2.1 <;> rfl
  case lenm x=>
    simp only [aop,opN,oLenm]
    generalize ev x = v
    cases v <;> try rfl
    exact wpK_map
  all_goals rfl
end Go.Am
end
section
/- The abstract machine,part 30: the meaning of code in the new spelling,and that it is the old one. -/
set_option linter.unusedSimpArgs false
set_option linter.unusedVariables false
namespace Go.Am
def gV (v : AV) (b : Bool) (h : Heap) (A : (AV → Heap → Esc → Prop) → Prop) (k : AV → Heap → Esc → Prop) : Prop:=wantK v b (A k) (k .skp h [])
def gP (v : AV) (b : Bool) (o : Option AV) (h : Heap) (k : AV → Heap → Esc → Prop) : Prop:=gV v b h (fun k=>pK o fun u=>k u h []) k
def gM (v : AV) (b : Bool) (u : AV) (h : Heap) (k : AV → Heap → Esc → Prop) : Prop:=gV v b h (fun k=>k u h []) k
def upB (b : Bool) : Bool:=(fun (_ : AV → Bool → Option AV → Heap → (AV → Heap → Esc → Prop) → Prop)=>b) gP
def gK (g : Option (Nat × Bool)) (e : List (Nat × AV)) (h : Heap) (A : (AV → Heap → Esc → Prop) → Prop) (k : AV → Heap → Esc → Prop) : Prop:=match g with
  | none=>A k
  | some (t,b)=>gV (aget e t) b h A k
def opC (C : Hd) (o : AO) (ev : Opd → AV) (h : Heap) (k : AV → Heap → Esc → Prop) : Prop:=match o with
  | .call f args=>C f (ev1 ev args) h k
  | .callv f args=>callvK C (ev f) (ev1 ev args) h k
  | .mnext sh xs=>match choices h sh (ev1 ev xs) with
    | some l=>l ≠ [] ∧ ∀ y ∈ l,k y.1 y.2 []
    | none=>False
  | o=>opN o ev h k
def NReg (C : Hd) (gl : Nat → Option PV) : List AOp → List (Nat × AV) → Heap → Esc → (List (Nat × AV) → Heap → Esc → Prop) → Prop
  | [],e,h,x,L=>L e h x
  | o :: r,e,h,x,L=>gK o.guard e h (opC C o.op (Opd.ev gl e) h) fun v h' x'=>NReg C gl r (put o.dst v e) h' (x' ++ x) L
variable {C : Hd} {gl : Nat → Option PV}
theorem opC_AReg {o : AO} {d : Option Nat} {r : List AOp} {e : List (Nat × AV)} {h : Heap} {x : Esc} {L : List (Nat × AV) → Heap → Esc → Prop} :
    AReg C gl (⟨d,none,o⟩ :: r) e h x L = opC C o (Opd.ev gl e) h (contR C gl r d e x L):=by
  cases hp : o.plain with
  | true=>
    rw [AReg_op hp,opN_aop hp]
    cases o <;> first | rfl | cases hp
  | false=>
    cases o <;> first | (cases hp; done) | skip
    all_goals first
      | (rw [AReg_call,ev1_eq]; rfl)
      | (rw [AReg_callvK,ev1_eq]; rfl)
      | (unfold AReg opC; simp only [wanted,ev1_eq]; rfl)
theorem NReg_eq : ∀ (ops : List AOp) (e : List (Nat × AV)) (h : Heap) (x : Esc) (L : List (Nat × AV) → Heap → Esc → Prop),AReg C gl ops e h x L = NReg C gl ops e h x L
  | [],e,h,x,L=>rfl
  | ⟨d,g,o⟩ :: r,e,h,x,L=>by
    have ih : (fun (v : AV) (h' : Heap) (x' : Esc)=>NReg C gl r (put d v e) h' (x' ++ x) L) = contR C gl r d e x L:=by
      funext v h' x'; rw [← NReg_eq r]; rfl
    show _ = gK g e h (opC C o (Opd.ev gl e) h) fun v h' x'=>NReg C gl r (put d v e) h' (x' ++ x) L
    rw [ih]
    cases g with
    | none=>exact opC_AReg
    | some tb=>
      obtain ⟨t,b⟩:=tb
      rw [AReg_guard,opC_AReg]; rfl
def opE (C : Hd) (o : AO) (ev : Opd → AV) (h : Heap) (k : AV → Heap → Esc → Prop) : Prop:=match o with
  | .call f args=>callE C f (ev1 ev args) h k
  | .callv f args=>callvE C (ev f) (ev1 ev args) h k
  | .mnext _ _=>False
  | o=>opN o ev h k
def effN (still eff : Bool) (h h' : Heap) (y : Esc) (Q : Prop) : Prop:=match upB eff with
  | true=>Q
  | false=>match still with
    | true=>Q
    | false=>(h' = h ∧ y = []) ∧ Q
def sameN (C : Hd) (gl : Nat → Option PV) (q : AOp × List (Nat × AV) × AV) (g : Heap) : Prop:=
  gK q.1.guard q.2.1 g (opE C q.1.op (Opd.ev gl q.2.1) g) fun v1 h1 x1=>v1 = q.2.2 ∧ h1 = g ∧ x1 = []
def againN (C : Hd) (gl : Nat → Option PV) (h : Heap) (dn : Done) (Q : Prop) : List Nat → Prop
  | []=>Q
  | j :: r=>(match dn[j]? with | some q=>sameN C gl q h | none=>False) ∧ againN C gl h dn Q r
def earlyN (C : Hd) (gl : Nat → Option PV) (o : AOp) (e : List (Nat × AV)) (v : AV) (hs : List Heap) (Q : Prop) : List Nat → Prop
  | []=>Q
  | k :: r=>(match hs[k]? with | some g=>sameN C gl (o,e,v) g | none=>False) ∧ earlyN C gl o e v hs Q r
def NDraw (C : Hd) (gl : Nat → Option PV) : List DOp → Done → List Heap → List (Nat × AV) → Heap → Esc → (List (Nat × AV) → Heap → Esc → Prop) → Prop
  | [],_,_,e,h,x,L=>L e h x
  | o :: r,dn,hs,e,h,x,L=>gK o.op.guard (prune (some o.rd) e) h (opE C o.op.op (Opd.ev gl (prune (some o.rd) e)) h) fun v h' y=>
      effN o.op.op.still o.eff h h' y (earlyN C gl o.op (prune (some o.rd) e) v hs (againN C gl h' dn (NDraw C gl r (dn ++ [(o.op,prune (some o.rd) e,v)]) (hs ++ [h]) (put o.op.dst v e) h' (y ++ x) L) o.again) o.early)
theorem opE_doK {o : AO} {d : Option Nat} {e : List (Nat × AV)} {h : Heap} {R : AV → Heap → Esc → Prop} : doK C gl ⟨d,none,o⟩ e h R = opE C o (Opd.ev gl e) h R:=by
  cases hp : o.plain with
  | true=>
    rw [doK_op hp,opN_aop hp]
    cases o <;> first | rfl | cases hp
  | false=>
    cases o <;> first | (cases hp; done) | skip
    all_goals first
      | (rw [doK_call,ev1_eq]; rfl)
      | (rw [doK_callvK,ev1_eq]; rfl)
      | (unfold doK ADo opE; simp [wanted])
theorem gK_doK {o : AOp} {e : List (Nat × AV)} {h : Heap} {R : AV → Heap → Esc → Prop} : doK C gl o e h R = gK o.guard e h (opE C o.op (Opd.ev gl e) h) R:=by
  obtain ⟨d,g,op⟩:=o
  cases g with
  | none=>exact opE_doK
  | some tb=>
    obtain ⟨t,b⟩:=tb
    rw [doK_guard,opE_doK]; rfl
theorem sameN_eq {q : AOp × List (Nat × AV) × AV} {g : Heap} : doS C gl q g = sameN C gl q g:=by
  obtain ⟨⟨d,gd,op⟩,e,v⟩:=q
  rw [doS_mk,gK_doK]; rfl
theorem againN_eq {h : Heap} {dn : Done} {Q : Prop} : ∀ {l : List Nat},againN C gl h dn Q l = (agK C gl h dn l ∧ Q)
  | []=>by simp [againN,agK]
  | j :: r=>by
    unfold againN agK
    rw [againN_eq (l:=r)]
    cases dn[j]? with
    | none=>simp
    | some q=>simp only [sameN_eq,and_assoc]
theorem earlyN_eq {o : AOp} {e : List (Nat × AV)} {v : AV} {hs : List Heap} {Q : Prop} : ∀ {l : List Nat},earlyN C gl o e v hs Q l = (eaK C gl o e v hs l ∧ Q)
  | []=>by simp [earlyN,eaK]
  | j :: r=>by
    unfold earlyN eaK
    rw [earlyN_eq (l:=r)]
    cases hs[j]? with
    | none=>simp
    | some q=>simp only [sameN_eq,and_assoc]
theorem doK_still {o : AOp} (hs : o.op.still = true) {e : List (Nat × AV)} {h : Heap} {R : AV → Heap → Esc → Prop} : doK C gl o e h (fun v h' y=>(h' = h ∧ y = []) ∧ R v h' y) = doK C gl o e h R:=by
  unfold doK
  refine propext ⟨fun ⟨v,h',y,H,_,r⟩=>⟨v,h',y,H,r⟩,fun ⟨v,h',y,H,r⟩=>⟨v,h',y,H,ADo_still hs H,r⟩⟩
theorem NDraw_eq : ∀ (ds : List DOp) (dn : Done) (hs : List Heap) (e : List (Nat × AV)) (h : Heap) (x : Esc) (L : List (Nat × AV) → Heap → Esc → Prop),ADraw C gl ds dn hs e h x L = NDraw C gl ds dn hs e h x L
  | [],dn,hs,e,h,x,L=>rfl
  | ⟨o,rd,eff,early,again⟩ :: r,dn,hs,e,h,x,L=>by
    rw [ADraw_cons]
    show _ = gK o.guard (prune (some rd) e) h (opE C o.op (Opd.ev gl (prune (some rd) e)) h) fun v h' y=>
      effN o.op.still eff h h' y (earlyN C gl o (prune (some rd) e) v hs (againN C gl h' dn (NDraw C gl r (dn ++ [(o,prune (some rd) e,v)]) (hs ++ [h]) (put o.dst v e) h' (y ++ x) L) again) early)
    rw [← gK_doK]
    have e1 : drawK C gl ⟨o,rd,eff,early,again⟩ r dn hs e h x L = fun v h' y=>(effK eff h h' y ∧ earlyN C gl o (prune (some rd) e) v hs (againN C gl h' dn (NDraw C gl r (dn ++ [(o,prune (some rd) e,v)]) (hs ++ [h]) (put o.dst v e) h' (y ++ x) L) again) early):=by
      funext v h' y
      rw [drawK_all,earlyN_eq,againN_eq,← NDraw_eq r]
    rw [e1]
    cases eff with
    | true=>
      congr 1; funext v h' y
      simp [effK,effN,upB]
    | false=>
      cases hs' : o.op.still with
      | true=>
        have:=doK_still (C:=C) (gl:=gl) (o:=o) hs' (e:=prune (some rd) e) (h:=h) (R:=fun v h' y=>earlyN C gl o (prune (some rd) e) v hs (againN C gl h' dn (NDraw C gl r (dn ++ [(o,prune (some rd) e,v)]) (hs ++ [h]) (put o.dst v e) h' (y ++ x) L) again) early)
        exact this
      | false=>rfl
def NW (C : Hd) (gl : Nat → Option PV) : ACode → St → (Ex → St → Prop) → Prop
  | .skip,s,K=>K .normal s
  | .reg ops keep,s,K=>NReg C gl ops s.env s.h s.esc fun e h x=>K .normal ⟨prune keep e,h,x⟩
  | .draw ds keep,s,K=>NDraw C gl ds [] [] s.env s.h s.esc fun e h x=>K .normal ⟨prune keep e,h,x⟩
  | .seq a b,s,K=>NW C gl a s fun e s'=>match e with
    | .normal=>NW C gl b s' K
    | .exit i=>K (.exit i) s'
    | .ret=>K .ret s'
  | .cond c a b,s,K=>condB (Opd.ev gl s.env c) (NW C gl a s K) (NW C gl b s K)
  | .condu c a b,s,K=>condU (Opd.ev gl s.env c) (NW C gl a s K) (NW C gl b s K)
  | .det b,s,K=>NW C gl b s K
  | .block id b,s,K=>NW C gl b s fun e s'=>match e with
    | .normal=>K .normal s'
    | .exit i=>bif Nat.beq i id then K .normal s' else K (.exit i) s'
    | .ret=>K .ret s'
  | .loop b,s,K=>ALoop (NW C gl b) K s
  | .scope b,s,K=>NW C gl b ⟨s.env,s.h,[]⟩ fun e s'=>K e (trunc s.h.length s.esc s')
  | .pr l b,s,K=>NW C gl b ⟨prune (some l) s.env,s.h,s.esc⟩ K
  | .exit id,s,K=>K (.exit id) s
  | .ret,s,K=>K .ret s
  | .bad,_,_=>False
theorem NW_eq : ∀ (c : ACode) (s : St) (K : Ex → St → Prop),AW C gl c s K = NW C gl c s K
  | .skip,s,K=>rfl
  | .reg ops keep,s,K=>NReg_eq _ _ _ _ _
  | .draw ds keep,s,K=>NDraw_eq _ _ _ _ _ _ _
  | .seq a b,s,K=>by
    unfold AW NW
    rw [NW_eq a]
    congr 1; funext e s'
    cases e with
    | normal=>exact NW_eq b s' K
    | _=>rfl
  | .cond c a b,s,K=>by
    unfold AW NW condB
    rw [← NW_eq a,← NW_eq b]
    rfl
  | .condu c a b,s,K=>by
    unfold AW NW condU
    rw [← NW_eq a,← NW_eq b]
    rfl
  | .det b,s,K=>NW_eq b s K
  | .block id b,s,K=>by
    unfold AW NW
    rw [NW_eq b]
    congr 1; funext e s'
    cases e with
    | exit i=>
      dsimp only
      by_cases hi : i = id
      · subst hi; simp
      · rw [if_neg hi]
        have : Nat.beq i id = false:=by cases h : Nat.beq i id with | false=>rfl | true=>exact absurd (Nat.eq_of_beq_eq_true h) hi
        rw [this]; rfl
    | _=>rfl
  | .loop b,s,K=>by
    show ALoop (AW C gl b) K s = ALoop (NW C gl b) K s
    rw [show AW C gl b = NW C gl b from funext fun s=>funext fun K=>NW_eq b s K]
  | .scope b,s,K=>NW_eq b _ _
  | .pr l b,s,K=>NW_eq b _ _
  | .exit id,s,K=>rfl
  | .ret,s,K=>rfl
  | .bad,s,K=>rfl
end Go.Am
end
section
/- The abstract machine,part 31: words in which a function's code is printed,and the rules of computing over them. -/
set_option linter.unusedSimpArgs false
set_option linter.unusedVariables false
namespace Go.Am
variable {C : Hd} {gl : Nat → Option PV} {e : List (Nat × AV)} {h : Heap} {x : Esc} {K : Ex → St → Prop} {s : St}
abbrev AI (n : Int) : AV:=.p (.int .i64 n)
abbrev AB (b : Bool) : AV:=.p (.bool b)
def seqN (C : Hd) (gl : Nat → Option PV) (b : ACode) (K : Ex → St → Prop) (e : Ex) (s : St) : Prop:=match e with
  | .normal=>NW C gl b s K
  | .exit i=>K (.exit i) s
  | .ret=>K .ret s
def blockN (id : Nat) (K : Ex → St → Prop) (e : Ex) (s : St) : Prop:=match e with
  | .normal=>K .normal s
  | .exit i=>bif Nat.beq i id then K .normal s else K (.exit i) s
  | .ret=>K .ret s
def nqK (sh : Option Sh) (l : List AV) (h : Heap) (k : AV → Heap → Esc → Prop) : Prop:=match choices h sh l with
    | some l=>l ≠ [] ∧ ∀ y ∈ l,k y.1 y.2 []
    | none=>False
theorem seqN_normal {b : ACode} : seqN C gl b K .normal s = NW C gl b s K:=(rfl)
theorem seqN_exit {b : ACode} {i : Nat} : seqN C gl b K (.exit i) s = K (.exit i) s:=(rfl)
theorem seqN_ret {b : ACode} : seqN C gl b K .ret s = K .ret s:=(rfl)
theorem blockN_normal {i : Nat} : blockN i K .normal s = K .normal s:=(rfl)
theorem blockN_same {i : Nat} : blockN i K (.exit i) s = K .normal s:=by simp [blockN]
theorem blockN_exit {i j : Nat} : blockN i K (.exit j) s = bif Nat.beq j i then K .normal s else K (.exit j) s:=(rfl)
theorem blockN_ret {i : Nat} : blockN i K .ret s = K .ret s:=(rfl)
theorem seqN_congr {b : ACode} {ex ex' : Ex} {s s' : St} (he : ex = ex') (hs : s = s') : seqN C gl b K ex s = seqN C gl b K ex' s':=by rw [he,hs]
theorem blockN_congr {i : Nat} {ex ex' : Ex} {s s' : St} (he : ex = ex') (hs : s = s') : blockN i K ex s = blockN i K ex' s':=by rw [he,hs]
theorem NW_scope {b : ACode} : NW C gl (.scope b) ⟨e,h,x⟩ K = NW C gl b ⟨e,h,[]⟩ (scopeK h.length x K):=(rfl)
theorem NW_congr {c : ACode} {s s' : St} (hs : s = s') : NW C gl c s K = NW C gl c s' K:=by rw [hs]
def NLoop (C : Hd) (gl : Nat → Option PV) (b : ACode) (K : Ex → St → Prop) (e : List (Nat × AV)) (h : Heap) (x : Esc) : Prop:=ALoop (NW C gl b) K ⟨e,h,x⟩
theorem NLoop_pr {l : List Nat} {b : ACode} : NW C gl (.loop (.pr l b)) ⟨e,h,x⟩ K = NLoop C gl (.pr l b) K (prune (some l) e) h x:=by
  show ALoop _ _ _ = ALoop _ _ _
  exact ALoop_same (funext fun R=>by show NW C gl b _ R = NW C gl b _ R; dsimp only; rw [prune_prune])
theorem NLoop_sc {l : List Nat} {b : ACode} : NW C gl (.loop (.scope (.pr l b))) ⟨e,h,x⟩ K = NLoop C gl (.scope (.pr l b)) K (prune (some l) e) h x:=by
  show ALoop _ _ _ = ALoop _ _ _
  exact ALoop_same (funext fun R=>by show NW C gl b _ _ = NW C gl b _ _; dsimp only; rw [prune_prune])
theorem NLoop_congr {b : ACode} {e e' : List (Nat × AV)} {h h' : Heap} {x x' : Esc} (h1 : e = e') (h2 : h = h') (h3 : x = x') : NLoop C gl b K e h x = NLoop C gl b K e' h' x':=by rw [h1,h2,h3]
theorem N_loop {σ : Type} {b : ACode} (S : σ → St) (P : σ → Prop) (m : σ → Nat) (t0 : σ) (hs : (⟨e,h,x⟩ : St) = S t0) (h0 : P t0) (hr : ∀ t,P t → NW C gl b (S t) (loopK S P m K t)) : NLoop C gl b K e h x:=by
  show ALoop (NW C gl b) K _
  rw [hs]
  have key : ∀ n t,m t < n → P t → ALoop (NW C gl b) K (S t):=by
    intro n
    induction n with
    | zero=>intro t h; omega
    | succ n ih=>
      intro t hm hp
      refine .mk _ _ (hr t hp) (fun s' h'=>?_) (fun i s' h'=>h') (fun s' h'=>h')
      obtain ⟨u,rfl,hu,hlt⟩:=h'
      exact ih u (by omega) hu
  exact key _ t0 (Nat.lt_succ_self _) h0
theorem call_val {X : Ctx} {f : Nat} {F : AFun} {a asv : List AV} {h h1 : Heap} {P : Post} (hf : X.fn f = some F) (hr : F.byref = false) (hp : puras h a = some (asv,h1)) (hl : asv.length = F.nparams) (hd : F.isDet = false:=by rfl) :
    ACall X f a h P = NW (ACall X) X.gl F.body ⟨enter asv,h1,[]⟩ (finR F.results F.keep h.length P):=by
  rw [step_val hf hr hp hl hd,NW_eq]
theorem call_val_det {X : Ctx} {f : Nat} {F : AFun} {a asv : List AV} {h h1 : Heap} {P : Post} (hf : X.fn f = some F) (hr : F.byref = false) (hp : puras h a = some (asv,h1)) (hl : asv.length = F.nparams) (hd : F.isDet = true:=by rfl) :
    ACall X f a h P = ∃ v h' x,P v h' x ∧ NW (ACall X) X.gl F.body ⟨enter asv,h1,[]⟩ (finR F.results F.keep h.length fun v1 h1 x1=>v1 = v ∧ h1 = h' ∧ x1 = x):=by
  rw [step_val_det hf hr hp hl hd]
  simp only [NW_eq]
theorem call_ref {X : Ctx} {f : Nat} {F : AFun} {asv : List AV} {h : Heap} {P : Post} (hf : X.fn f = some F) (hr : F.byref = true) (hl : asv.length = F.nparams) (hd : F.isDet = false:=by rfl) :
    ACall X f asv h P = NW (ACall X) X.gl F.body ⟨enter asv,h,[]⟩ (finR F.results F.keep h.length P):=by
  rw [step_ref hf hr hl hd,NW_eq]
theorem pK_some {v : AV} {k : AV → Prop} : pK (some v) k = k v:=(rfl)
theorem pK_none {k : AV → Prop} : pK none k = False:=(rfl)
theorem wK_some {v : AV} {h : Heap} {x : Esc} {k : AV → Heap → Esc → Prop} : wK (some (v,h,x)) k = k v h x:=(rfl)
theorem wK_none {k : AV → Heap → Esc → Prop} : wK none k = False:=(rfl)
theorem pK_ite {p : Prop} [Decidable p] {a b : Option AV} {k : AV → Prop} : pK (if p then a else b) k = if p then pK a k else pK b k:=by split <;> rfl
theorem wK_ite {p : Prop} [Decidable p] {a b : Option (AV × Heap × Esc)} {k : AV → Heap → Esc → Prop} : wK (if p then a else b) k = if p then wK a k else wK b k:=by split <;> rfl
theorem pK_congr {o o' : Option AV} {k : AV → Prop} (h : o = o') : pK o k = pK o' k:=by rw [h]
theorem wK_congr {o o' : Option (AV × Heap × Esc)} {k : AV → Heap → Esc → Prop} (h : o = o') : wK o k = wK o' k:=by rw [h]
theorem gV_congr {v v' : AV} {b : Bool} {h : Heap} {A : (AV → Heap → Esc → Prop) → Prop} {k : AV → Heap → Esc → Prop} (h1 : v = v') : gV v b h A k = gV v' b h A k:=by rw [h1]
theorem gP_congr {v v' : AV} {b : Bool} {o : Option AV} {h : Heap} {k : AV → Heap → Esc → Prop} (h1 : v = v') : gP v b o h k = gP v' b o h k:=by rw [h1]
theorem gM_congr {v v' : AV} {b : Bool} {u : AV} {h : Heap} {k : AV → Heap → Esc → Prop} (h1 : v = v') : gM v b u h k = gM v' b u h k:=by rw [h1]
section
variable {A : (AV → Heap → Esc → Prop) → Prop} {o : Option AV} {u : AV} {k : AV → Heap → Esc → Prop} {t b : Bool}
theorem gV_tt : gV (.p (.bool true)) true h A k = A k:=(rfl)
theorem gV_ff : gV (.p (.bool false)) false h A k = A k:=(rfl)
theorem gV_tf : gV (.p (.bool true)) false h A k = k .skp h []:=(rfl)
theorem gV_ft : gV (.p (.bool false)) true h A k = k .skp h []:=(rfl)
theorem gV_skp : gV .skp b h A k = k .skp h []:=(rfl)
theorem gV_any : gV (.p (.bool t)) b h A k = wantK (.p (.bool t)) b (A k) (k .skp h []):=(rfl)
theorem gP_tt : gP (.p (.bool true)) true o h k = pK o fun v=>k v h []:=(rfl)
theorem gP_ff : gP (.p (.bool false)) false o h k = pK o fun v=>k v h []:=(rfl)
theorem gP_tf : gP (.p (.bool true)) false o h k = k .skp h []:=(rfl)
theorem gP_ft : gP (.p (.bool false)) true o h k = k .skp h []:=(rfl)
theorem gP_skp : gP .skp b o h k = k .skp h []:=(rfl)
theorem gP_any : gP (.p (.bool t)) b o h k = wantK (.p (.bool t)) b (pK o fun v=>k v h []) (k .skp h []):=(rfl)
theorem gM_tt : gM (.p (.bool true)) true u h k = k u h []:=(rfl)
theorem gM_ff : gM (.p (.bool false)) false u h k = k u h []:=(rfl)
theorem gM_tf : gM (.p (.bool true)) false u h k = k .skp h []:=(rfl)
theorem gM_ft : gM (.p (.bool false)) true u h k = k .skp h []:=(rfl)
theorem gM_skp : gM .skp b u h k = k .skp h []:=(rfl)
theorem gM_any : gM (.p (.bool t)) b u h k = wantK (.p (.bool t)) b (k u h []) (k .skp h []):=(rfl)
end
section
variable {k k' : IntKind} {a b : Int} {sa sb : List UInt8}
theorem bin_add : oBin .add (.p (.int k a)) (.p (.int k b)) = some (.p (.int k (k.wrap (a + b)))):=by simp [oBin,abin,aint]
theorem bin_sub : oBin .sub (.p (.int k a)) (.p (.int k b)) = some (.p (.int k (k.wrap (a - b)))):=by simp [oBin,abin,aint]
theorem bin_mul : oBin .mul (.p (.int k a)) (.p (.int k b)) = some (.p (.int k (k.wrap (a * b)))):=by simp [oBin,abin,aint]
theorem bin_quo : oBin .quo (.p (.int k a)) (.p (.int k b)) = if b = 0 then none else some (.p (.int k (k.wrap (a.tdiv b)))):=by simp [oBin,abin,aint] <;> split <;> rfl
theorem bin_rem : oBin .rem (.p (.int k a)) (.p (.int k b)) = if b = 0 then none else some (.p (.int k (a.tmod b))):=by simp [oBin,abin,aint] <;> split <;> rfl
theorem bin_and : oBin .and (.p (.int k a)) (.p (.int k b)) = some (.p (.int k (iand k a b))):=by simp [oBin,abin,aint]
theorem bin_or : oBin .or (.p (.int k a)) (.p (.int k b)) = some (.p (.int k (ior k a b))):=by simp [oBin,abin,aint]
theorem bin_xor : oBin .xor (.p (.int k a)) (.p (.int k b)) = some (.p (.int k (ixor k a b))):=by simp [oBin,abin,aint]
theorem bin_andNot : oBin .andNot (.p (.int k a)) (.p (.int k b)) = some (.p (.int k (iandn k a b))):=by simp [oBin,abin,aint]
theorem bin_eql : oBin .eql (.p (.int k a)) (.p (.int k b)) = some (.p (.bool (decide (a = b)))):=by simp [oBin,abin,aint]
theorem bin_neq : oBin .neq (.p (.int k a)) (.p (.int k b)) = some (.p (.bool (!decide (a = b)))):=by simp [oBin,abin,aint]
theorem bin_lss : oBin .lss (.p (.int k a)) (.p (.int k b)) = some (.p (.bool (decide (a < b)))):=by simp [oBin,abin,aint]
theorem bin_leq : oBin .leq (.p (.int k a)) (.p (.int k b)) = some (.p (.bool (decide (a ≤ b)))):=by simp [oBin,abin,aint]
theorem bin_gtr : oBin .gtr (.p (.int k a)) (.p (.int k b)) = some (.p (.bool (decide (b < a)))):=by simp [oBin,abin,aint]
theorem bin_geq : oBin .geq (.p (.int k a)) (.p (.int k b)) = some (.p (.bool (decide (b ≤ a)))):=by simp [oBin,abin,aint]
theorem bin_shl : oBin .shl (.p (.int k a)) (.p (.int k' b)) = if b < 0 then none else some (.p (.int k (ishl k a b))):=by simp [oBin,abin] <;> split <;> rfl
theorem bin_shr : oBin .shr (.p (.int k a)) (.p (.int k' b)) = if b < 0 then none else some (.p (.int k (ishr k a b))):=by simp [oBin,abin] <;> split <;> rfl
theorem str_add : oBin .add (.p (.str sa)) (.p (.str sb)) = if sa.length + sb.length ≤ maxStr then some (.p (.str (sa ++ sb))) else none:=by simp [oBin,abin,astr] <;> split <;> rfl
theorem str_eql : oBin .eql (.p (.str sa)) (.p (.str sb)) = some (.p (.bool (decide (sa = sb)))):=by simp [oBin,abin,astr]
theorem str_neq : oBin .neq (.p (.str sa)) (.p (.str sb)) = some (.p (.bool (!decide (sa = sb)))):=by simp [oBin,abin,astr]
theorem str_lss : oBin .lss (.p (.str sa)) (.p (.str sb)) = some (.p (.bool (Op.bytesLess sa sb))):=by simp [oBin,abin,astr]
theorem str_leq : oBin .leq (.p (.str sa)) (.p (.str sb)) = some (.p (.bool (Op.bytesLess sa sb || decide (sa = sb)))):=by simp [oBin,abin,astr]
theorem str_gtr : oBin .gtr (.p (.str sa)) (.p (.str sb)) = some (.p (.bool (!(Op.bytesLess sa sb || decide (sa = sb))))):=by simp [oBin,abin,astr]
theorem str_geq : oBin .geq (.p (.str sa)) (.p (.str sb)) = some (.p (.bool (!Op.bytesLess sa sb))):=by simp [oBin,abin,astr]
theorem un_neg : oUn .neg (.p (.int k a)) = some (.p (.int k (k.wrap (-a)))):=by simp [oUn,aun]
theorem un_not {t : Bool} : oUn .not (.p (.bool t)) = some (.p (.bool !t)):=(rfl)
theorem convI {k' : IntKind} : oConvI k (.p (.int k' a)) = some (.p (.int k (k.wrap a))):=(rfl)
theorem nilref {i j : Nat} : oNil (.ref i j) = some (.ref i j):=(rfl)
theorem nilrref {i j m n : Nat} : oNil (.rref i j m n) = some (.rref i j m n):=(rfl)
theorem nilvp {v : PV} : oNil (.vp v) = some (.vp v):=(rfl)
theorem nilfn {f : Nat} {cs : List AV} : oNil (.fn f cs) = some (.fn f cs):=(rfl)
theorem pick_b {t : Bool} {u v : AV} : oPick (.p (.bool t)) u v = some (bif t then u else v):=(rfl)
theorem len_sl {sh : Sh} {xs : List PV} : oLen (.p (.sl sh xs)) = some (.p (.int .i64 xs.length)):=(rfl)
theorem len_sl0 {sh : Sh} : oLen (.sl0 sh) = some (.p (.int .i64 0)):=(rfl)
theorem len_own {i g o l : Nat} : oLen (.own i g o l) = some (.p (.int .i64 l)):=(rfl)
theorem lens_s : oLens (.p (.str sa)) = some (.p (.int .i64 sa.length)):=(rfl)
theorem ext_t {vs : List AV} {i : Nat} : oExt (.tup vs) i = vs[i]?:=(rfl)
theorem faddr_ref {off i j : Nat} {sh : Sh} : oFaddr off sh (.ref i j) = some (.ref i (j + off)):=(rfl)
theorem faddr_rref {off i j m n : Nat} {sh : Sh} : oFaddr off sh (.rref i j m n) = some (.rref i j m (n + off)):=(rfl)
theorem faddr_vp {off : Nat} {sh : Sh} {v : PV} : oFaddr off sh (.vp v) = (cutP sh off v).map .vp:=(rfl)
theorem field_p {off : Nat} {sh : Sh} {cs : List PV} : oField off sh (.p (.agg cs)) = (cutP sh off (.agg cs)).map .p:=(rfl)
theorem field_a {off : Nat} {sh : Sh} {cs : List AV} : oField off sh (.agg cs) = cut sh off cs:=(rfl)
def ldB (sh : Sh) (off : Nat) : Option Obj → Option AV
  | some (.box cs)=>cut sh off cs
  | _=>none
def ldR (sh : Sh) (g i off : Nat) : Option Obj → Option AV
  | some (.row _ xs _)=>if g = xs.length then ((xs[i]?).bind (cutP sh off)).map .p else none
  | _=>none
theorem load_ref {sh : Sh} {i j : Nat} : oLoad sh (.ref i j) h = ldB sh j h[i]?:=by unfold oLoad ldB; rfl
theorem load_rref {sh : Sh} {i g m n : Nat} : oLoad sh (.rref i g m n) h = ldR sh g m n h[i]?:=by unfold oLoad ldR; rfl
theorem load_vp {sh : Sh} {v : PV} : oLoad sh (.vp v) h = (cutP sh 0 v).map .p:=(rfl)
theorem ldB_box {sh : Sh} {off : Nat} {cs : List AV} : ldB sh off (some (.box cs)) = cut sh off cs:=(rfl)
theorem ldR_row {sh sh' : Sh} {g i off fz : Nat} {xs : List PV} : ldR sh g i off (some (.row sh' xs fz)) = if g = xs.length then ((xs[i]?).bind (cutP sh off)).map .p else none:=(rfl)
def stB (sh : Sh) (id off : Nat) (v : AV) (h : Heap) : Option Obj → Option (List AV) → Option (AV × Heap × Esc)
  | some (.box cs),some vs=>if vs.length = shSize sh ∧ off + vs.length ≤ cs.length then some (.und,h.set id (.box (splice cs off vs)),escOf id v) else none
  | _,_=>none
theorem store_ref {sh : Sh} {i j : Nat} {v : AV} : oStore sh (.ref i j) v h = stB sh i j v h h[i]? v.cells:=by unfold oStore stB; rfl
theorem stB_box {sh : Sh} {id off : Nat} {v : AV} {cs vs : List AV} : stB sh id off v h (some (.box cs)) (some vs) = if vs.length = shSize sh ∧ off + vs.length ≤ cs.length then some (.und,h.set id (.box (splice cs off vs)),escOf id v) else none:=(rfl)
def stE (sh : Sh) (id i off fz : Nat) (rsh : Sh) (xs : List PV) (v : PV) (h1 : Heap) : Option PV → Option (AV × Heap × Esc)
  | some (.agg cs)=>if off + v.cells.length ≤ cs.length then some (.und,h1.set id (.row rsh (xs.set i (.agg (splice cs off v.cells))) fz),[]) else none
  | some _=>if off = 0 ∧ v.sc then some (.und,h1.set id (.row rsh (xs.set i v) fz),[]) else none
  | none=>none
def stO (sh : Sh) (id g i off : Nat) (v : PV) (h1 : Heap) : Option Obj → Option (AV × Heap × Esc)
  | some (.row rsh xs fz)=>if g = xs.length ∧ fz ≤ i ∧ v.cells.length = shSize sh ∧ v.cells.all PV.sc then stE sh id i off fz rsh xs v h1 xs[i]? else none
  | _=>none
def stR (sh : Sh) (id g i off : Nat) : Option (PV × Heap) → Option (AV × Heap × Esc)
  | some y=>stO sh id g i off y.1 y.2 y.2[id]?
  | none=>none
theorem store_rref {sh : Sh} {id g i off : Nat} {x : AV} : oStore sh (.rref id g i off) x h = stR sh id g i off (pur h x):=by
  unfold oStore stR
  cases pur h x with
  | none=>rfl
  | some y=>
    obtain ⟨v,h1⟩:=y
    dsimp only
    unfold stO
    cases h1[id]? with
    | none=>rfl
    | some o=>cases o <;> rfl
theorem stR_some {sh : Sh} {id g i off : Nat} {v : PV} {h1 : Heap} : stR sh id g i off (some (v,h1)) = stO sh id g i off v h1 h1[id]?:=(rfl)
theorem stO_row {sh rsh : Sh} {id g i off fz : Nat} {v : PV} {h1 : Heap} {xs : List PV} : stO sh id g i off v h1 (some (.row rsh xs fz)) = if g = xs.length ∧ fz ≤ i ∧ v.cells.length = shSize sh ∧ v.cells.all PV.sc then stE sh id i off fz rsh xs v h1 xs[i]? else none:=(rfl)
theorem stE_agg {sh rsh : Sh} {id i off fz : Nat} {v : PV} {h1 : Heap} {xs cs : List PV} : stE sh id i off fz rsh xs v h1 (some (.agg cs)) = if off + v.cells.length ≤ cs.length then some (.und,h1.set id (.row rsh (xs.set i (.agg (splice cs off v.cells))) fz),[]) else none:=(rfl)
theorem stE_int {sh rsh : Sh} {id i off fz : Nat} {v : PV} {h1 : Heap} {xs : List PV} {k : IntKind} {n : Int} : stE sh id i off fz rsh xs v h1 (some (.int k n)) = if off = 0 ∧ v.sc then some (.und,h1.set id (.row rsh (xs.set i v) fz),[]) else none:=(rfl)
theorem stE_bool {sh rsh : Sh} {id i off fz : Nat} {v : PV} {h1 : Heap} {xs : List PV} {t : Bool} : stE sh id i off fz rsh xs v h1 (some (.bool t)) = if off = 0 ∧ v.sc then some (.und,h1.set id (.row rsh (xs.set i v) fz),[]) else none:=(rfl)
theorem stE_str {sh rsh : Sh} {id i off fz : Nat} {v : PV} {h1 : Heap} {xs : List PV} {s : List UInt8} : stE sh id i off fz rsh xs v h1 (some (.str s)) = if off = 0 ∧ v.sc then some (.und,h1.set id (.row rsh (xs.set i v) fz),[]) else none:=(rfl)
theorem stE_sl {sh rsh : Sh} {id i off fz : Nat} {v : PV} {h1 : Heap} {xs : List PV} {sh' : Sh} {ys : List PV} : stE sh id i off fz rsh xs v h1 (some (.sl sh' ys)) = if off = 0 ∧ v.sc then some (.und,h1.set id (.row rsh (xs.set i v) fz),[]) else none:=(rfl)
theorem stE_nilp {sh rsh : Sh} {id i off fz : Nat} {v : PV} {h1 : Heap} {xs : List PV}  : stE sh id i off fz rsh xs v h1 (some .nilp) = if off = 0 ∧ v.sc then some (.und,h1.set id (.row rsh (xs.set i v) fz),[]) else none:=(rfl)
theorem pur_p {v : PV} : pur h (.p v) = some (v,h):=(rfl)
def iaS (xs : List PV) : Option Nat → Option AV
  | some k=>(xs[k]?).map .vp
  | none=>none
theorem iaddr_sl {sh : Sh} {xs : List PV} {i : AV} : oIaddr sh (.p (.sl sh xs)) i h = iaS xs (natOf i):=by
  unfold oIaddr iaS; cases natOf i <;> simp
theorem iaS_some {xs : List PV} {n : Nat} : iaS xs (some n) = (xs[n]?).map .vp:=(rfl)
def iaO (sh : Sh) (id g off len : Nat) : Option Obj → Option Nat → Option AV
  | some (.row rsh xs _),some k=>if rsh = sh ∧ g = xs.length ∧ off + len ≤ xs.length ∧ k < len then some (.rref id g (off + k) 0) else none
  | _,_=>none
theorem iaddr_own {sh : Sh} {id g off len : Nat} {i : AV} : oIaddr sh (.own id g off len) i h = iaO sh id g off len h[id]? (natOf i):=by
  unfold oIaddr iaO
  cases natOf i with
  | none=>dsimp only; cases h[id]? with
    | none=>rfl
    | some o=>cases o <;> rfl
  | some k=>dsimp only; cases h[id]? with
    | none=>rfl
    | some o=>cases o <;> rfl
theorem iaO_row {sh rsh : Sh} {id g off len k fz : Nat} {xs : List PV} : iaO sh id g off len (some (.row rsh xs fz)) (some k) = if rsh = sh ∧ g = xs.length ∧ off + len ≤ xs.length ∧ k < len then some (.rref id g (off + k) 0) else none:=(rfl)
theorem idxs_s {i : AV} : oIdxs (.p (.str sa)) i = (natOf i).bind fun n=>(sa[n]?).map fun b=>.p (.int .u8 b.toNat):=by
  unfold oIdxs; cases natOf i <;> rfl
end
theorem alK_eq {z : List AV} {k : AV → Heap → Esc → Prop} : alK z h k = k (.ref h.length 0) (h ++ [.box z]) []:=(rfl)
theorem nwK_eq {sh : Sh} {k : AV → Heap → Esc → Prop} : nwK sh h k = k (.own h.length 0 0 0) (h ++ [.row sh [] 0]) []:=(rfl)
theorem mmK_eq {k : AV → Heap → Esc → Prop} : mmK h k = k (.mp h.length) (h ++ [.amap [] 0]) []:=(rfl)
theorem condU_true {A B : Prop} : condU (.p (.bool true)) A B = A:=(rfl)
theorem condU_false {A B : Prop} : condU (.p (.bool false)) A B = B:=(rfl)
theorem condU_any {A B : Prop} : condU .anyb A B = (A ∧ B):=(rfl)
attribute [go_sem] seqN_normal seqN_exit seqN_ret blockN_normal blockN_same blockN_ret NW_scope pK_some pK_none wK_some wK_none pK_ite wK_ite gV_tt gV_ff gV_tf gV_ft gV_skp gP_tt gP_ff gP_tf gP_ft gP_skp gM_tt gM_ff gM_tf gM_ft gM_skp bin_add bin_sub bin_mul bin_quo bin_rem bin_and bin_or bin_xor bin_andNot bin_eql bin_neq bin_lss bin_leq bin_gtr bin_geq bin_shl bin_shr str_add str_eql str_neq str_lss str_leq str_gtr str_geq un_neg un_not convI nilref nilrref nilvp nilfn pick_b len_sl len_sl0 len_own lens_s ext_t faddr_ref faddr_rref faddr_vp field_p field_a load_ref load_rref load_vp ldB_box ldR_row store_ref stB_box store_rref stR_some stO_row stE_agg stE_int stE_bool stE_str stE_sl stE_nilp pur_p iaddr_sl iaS_some iaddr_own iaO_row idxs_s alK_eq nwK_eq mmK_eq oBox oBuild fillV oBsl fillW oEqa oIsnil nilAny condU_true condU_false condU_any nilOf oMkif okIn oConv oMksl bndV oSlstr oSlice oIaddra oIdxa oApp oCopy oClr oMx oMn oLook oMupd oMent oEstore oMdel oLenm oMrange oMentry
attribute [go_sem ↓] pK_some pK_none wK_some wK_none gV_tt gV_ff gV_tf gV_ft gV_skp gP_tt gP_ff gP_tf gP_ft gP_skp gM_tt gM_ff gM_tf gM_ft gM_skp condB_true condB_false wantK_tt wantK_ff wantK_tf wantK_ft wantK_skp seqN_normal seqN_exit seqN_ret blockN_normal blockN_same blockN_ret alK_eq nwK_eq mmK_eq loopK_normal loopK_exit loopK_ret scopeK_eq finR_normal finR_ret
attribute [go_sem low] gV_any gP_any gM_any blockN_exit
attribute [congr] seqN_congr blockN_congr NW_congr NLoop_congr pK_congr wK_congr gV_congr gP_congr gM_congr
end Go.Am
end
section
/- The abstract machine,part X: the library's functions that have no Go text: comparing strings,finding a byte. -/
set_option linter.unusedSimpArgs false
set_option linter.unusedVariables false
namespace Go.Am
variable {P : Program}
structure ExtRow (P : Program) (f : Nat) (e : Array Value → Sem Value) : Prop where
  row : ∃ fn,P.funcs[f]? = some fn ∧ fn.name ≠ "runtime.NumGoroutine" ∧ fn.body = none ∧ Extern.findNext fn = none ∧ Extern.find fn = some e
theorem ExtRow.run {f : Nat} {e : Array Value → Sem Value} (R : ExtRow P f e) {us : Array Value} {w w' : World} {x : Value} (he : (e us).run P w = .ok x w') : (callFunc f us).run P w = .ok (.value x) w':=by
  obtain ⟨fn,h1,h2,h3,h4,h5⟩:=R.row
  unfold callFunc
  simp [h1,h2,h3,h4,h5,he]
theorem extRow_of {f : Nat} {e : Array Value → Sem Value} (h : (match P.funcs[f]? with | some fn=>fn.name != "runtime.NumGoroutine" && fn.body.isNone && (Extern.findNext fn).isNone | none=>false) = true) (h2 : (P.funcs[f]?).bind Extern.find = some e) : ExtRow P f e:=by
  cases hf : P.funcs[f]? with
  | none=>rw [hf] at h; cases h
  | some fn=>
    rw [hf] at h h2
    simp only [Bool.and_eq_true,bne_iff_ne,ne_eq,Option.isNone_iff_eq_none] at h
    exact ⟨⟨fn,hf,h.1.1,h.1.2,h.2,h2⟩⟩
def idxB (s : List UInt8) (c : UInt8) : Int:=if s.findIdx (· == c) < s.length then (s.findIdx (· == c) : Int) else -1
def cmpL : List UInt8 → List UInt8 → Int
  | [],[]=>0
  | [],_ :: _=>-1
  | _ :: _,[]=>1
  | a :: asv,b :: bs=>if a < b then -1 else if b < a then 1 else cmpL asv bs
theorem ba_get (s : List UInt8) (i : Nat) : (⟨s.toArray⟩ : ByteArray)[i]! = s.getD i 0:=by
  by_cases h : i < s.length
  · rw [getElem!_pos (⟨s.toArray⟩ : ByteArray) i h]
    show s.toArray[i] = _
    simp [h]
  · rw [getElem!_neg (⟨s.toArray⟩ : ByteArray) i h]
    simp [Nat.not_lt.1 h]
    rfl
theorem find_idx (s : List UInt8) (c : UInt8) : (match (List.range (⟨s.toArray⟩ : ByteArray).size).find? fun i=>(⟨s.toArray⟩ : ByteArray)[i]! == c with
    | some i=>(i : Int)
    | none=>-1) = idxB s c:=by
  have hsz : (⟨s.toArray⟩ : ByteArray).size = s.length:=rfl
  have hget : ∀ i,i < s.length → (⟨s.toArray⟩ : ByteArray)[i]! = s.getD i 0:=by
    intro i hi
    exact ba_get s i
  unfold idxB
  rw [hsz]
  by_cases h : s.findIdx (· == c) < s.length
  · rw [if_pos h]
    have hf : (List.range s.length).find? (fun i=>(⟨s.toArray⟩ : ByteArray)[i]! == c) = some (s.findIdx (· == c)):=by
      rw [List.find?_eq_some_iff_getElem]
      refine ⟨?_,s.findIdx (· == c),by simpa using h,by simp,fun j hj=>?_⟩
      · rw [hget _ h]
        have:=List.findIdx_getElem (w:=h)
        simpa [h] using this
      · simp only [List.getElem_range]
        have hj' : j < s.length:=by omega
        rw [hget _ hj']
        have:=List.not_of_lt_findIdx hj
        simpa [hj'] using this
    rw [hf]
  · rw [if_neg h]
    have hf : (List.range s.length).find? (fun i=>(⟨s.toArray⟩ : ByteArray)[i]! == c) = none:=by
      rw [List.find?_eq_none]
      intro i hi
      rw [List.mem_range] at hi
      rw [hget _ hi]
      intro hc
      exact h (List.findIdx_lt_length_of_exists ⟨s[i],List.getElem_mem hi,by simpa [hi] using hc⟩)
    rw [hf]
theorem cmp_cmpL : ∀ (a b : List UInt8),Extern.BytealgCompare.cmp ⟨a.toArray⟩ ⟨b.toArray⟩ = cmpL a b:=by
  have key : ∀ (a b : List UInt8),(match (List.range (min a.length b.length)).find? fun i=>a.getD i 0 != b.getD i 0 with
      | some i=>if a.getD i 0 < b.getD i 0 then (-1 : Int) else 1
      | none=>if a.length < b.length then -1 else if a.length > b.length then 1 else 0) = cmpL a b:=by
    intro a
    induction a with
    | nil=>intro b; cases b <;> simp [cmpL]
    | cons x a ih=>
      intro b
      cases b with
      | nil=>simp [cmpL]
      | cons y b=>
        have hm : min (x :: a).length (y :: b).length = min a.length b.length + 1:=by simp only [List.length_cons]; omega
        rw [hm,List.range_succ_eq_map,List.find?_cons]
        simp only [List.getD_cons_zero]
        by_cases hxy : x = y
        · subst hxy
          have hlt : ¬ x < x:=UInt8.lt_irrefl x
          simp only [bne_self_eq_false,List.find?_map,cmpL,hlt,if_false]
          rw [← ih b]
          have hc : ((fun i=>(x :: a).getD i 0 != (x :: b).getD i 0) ∘ Nat.succ) = fun i=>a.getD i 0 != b.getD i 0:=by
            funext i; simp
          rw [hc]
          cases (List.range (min a.length b.length)).find? fun i=>a.getD i 0 != b.getD i 0 with
          | none=>simp
          | some i=>simp
        · have : (x != y) = true := by simpa using hxy
          rw [this]
          simp only [cmpL,List.getD_cons_zero]
          by_cases h1 : x < y
          · simp [h1]
          · have h2 : y < x:=by
              rcases UInt8.lt_or_lt_of_ne (a:=x) (b:=y) hxy with h | h
              · exact absurd h h1
              · exact h
            simp [h1,h2]
  intro a b
  rw [← key a b]
  unfold Extern.BytealgCompare.cmp
  have sa : (⟨a.toArray⟩ : ByteArray).size = a.length:=rfl
  have sb : (⟨b.toArray⟩ : ByteArray).size = b.length:=rfl
  simp only [sa,sb,ba_get]
  generalize List.find? _ _ = q
  cases q <;> rfl
def extF (fi fc : Nat) (f : Nat) (vs : List PV) : Option PV:=
  bif Nat.beq f fi then (match vs with
    | [.str s,.int .u8 c]=>some (.int .i64 (idxB s (UInt8.ofNat c.toNat)))
    | _=>none)
  else bif Nat.beq f fc then (match vs with
    | [.str a,.str b]=>some (.int .i64 (cmpL a b))
    | _=>none)
  else none
theorem extF_ok {fi fc : Nat} (h1 : ExtRow P fi Extern.BytealgIndexByte.indexByte) (h2 : ExtRow P fc Extern.BytealgCompare.compare) {f : Nat} {vs : List PV} {r : PV} (h : extF fi fc f vs = some r) : ExtOk P f vs r:=by
  intro M w us hM hl hr
  unfold extF at h
  cases e1 : Nat.beq f fi with
  | true=>
    rw [e1] at h
    have e:=Nat.eq_of_beq_eq_true e1
    subst e
    simp only [cond_true] at h
    split at h
    · rename_i s c
      injection h with h
      subst h
      match us,hl with
      | [u,v],_=>
        have q1:=hr 0 _ u rfl rfl
        have q2:=hr 1 _ v rfl rfl
        cases q1; cases q2
        refine ⟨.int .i64 (idxB s (UInt8.ofNat c.toNat)),w,h1.run ?_,WExt.refl w,.int _ _⟩
        rw [← find_idx]
        show (match (List.range (⟨s.toArray⟩ : ByteArray).size).find? fun i=>(⟨s.toArray⟩ : ByteArray)[i]! == UInt8.ofNat c.toNat with | some i=>(pure (goInt i) : Sem Value) | none=>pure (goInt (-1))).run P w = _
        generalize List.find? _ _ = q
        cases q <;> rfl
    · cases h
  | false=>
    rw [e1] at h
    simp only [cond_false] at h
    cases e2 : Nat.beq f fc with
    | true=>
      rw [e2] at h
      have e:=Nat.eq_of_beq_eq_true e2
      subst e
      simp only [cond_true] at h
      split at h
      · rename_i a b
        injection h with h
        subst h
        match us,hl with
        | [u,v],_=>
          have q1:=hr 0 _ u rfl rfl
          have q2:=hr 1 _ v rfl rfl
          cases q1; cases q2
          refine ⟨.int .i64 (cmpL a b),w,h2.run ?_,WExt.refl w,.int _ _⟩
          rw [← cmp_cmpL]
          rfl
      · cases h
    | false=>rw [e2] at h; cases h
theorem ext_call {X : Ctx} {f : Nat} {asv : List AV} {vs : List PV} {h h1 : Heap} {r : PV} {K : Post} (hf : X.fn f = none) (h2 : X.ex2 f asv h = none) (hp : puras h asv = some (vs.map .p,h1)) (hu : unp (vs.map AV.p) = some vs) (hx : X.ext f vs = some r) : ACall X f asv h K = K (.p r) h1 []:=by
  refine propext (ACall.eq (ACall.fold ?_) K)
  unfold Step
  simp only [hf,h2,hp,hu,hx]
  exact ⟨trivial,trivial,trivial⟩
structure GrowRow (P : Program) (f : Nat) (sh : Sh) : Prop where
  enter : ∀ us w,(callFunc f us).run P w = .ok (.enter f us) w
  room : ∀ a w,Calls P f #[.slice a 0 0,.int .i64 0] w fun e w'=>e = .returned (.slice a 0 0) ∧ w' = w
  grow : ∀ a (n : Nat) w,0 < n → n ≤ 1048576 → Calls P f #[.slice a 0 0,.int .i64 n] w fun e w'=>∃ G cs E,e = .returned (.slice (some ⟨w.heap.size,0,none⟩) 0 G) ∧ cs.size = G * shSize sh ∧ w' = w.drew.alloc (.cells cs E)
def growF : List (Nat × Sh) → Nat → List AV → Heap → Option (AV × Heap × Esc)
  | [],_,_,_=>none
  | (g,sh) :: r,f,asv,h=>bif Nat.beq f g then (match asv with
    | [.sl0 _,.p (.int .i64 n)]=>bif decide (0 ≤ n) && decide (n ≤ 1048576) then some (.own h.length 0 0 0,h ++ [.row sh [] 0],[]) else none
    | _=>none) else growF r f asv h
theorem growF_ok {gl : Nat → Option PV} : ∀ (gs : List (Nat × Sh)),(∀ g sh,(g,sh) ∈ gs → GrowRow P g sh) → ∀ {f : Nat} {asv : List AV} {h : Heap} {v : AV} {h' : Heap} {x : Esc},growF gs f asv h = some (v,h',x) →
    CallOk P gl f asv h fun v1 h1 x1=>v1 = v ∧ h1 = h' ∧ x1 = x
  | [],_,f,asv,h,v,h',x,H=>by cases H
  | (g,sh) :: r,hg,f,asv,h,v,h',x,H=>by
    unfold growF at H
    cases e1 : Nat.beq f g with
    | false=>
      rw [e1] at H
      exact growF_ok r (fun g sh hm=>hg g sh (by simp [hm])) H
    | true=>
      rw [e1] at H
      have e:=Nat.eq_of_beq_eq_true e1
      subst e
      have R:=hg f sh (by simp)
      simp only [cond_true] at H
      split at H
      · rename_i sh' n
        cases hb : (decide (0 ≤ n) && decide (n ≤ 1048576)) with
        | false=>rw [hb] at H; cases H
        | true=>
          rw [hb] at H
          simp only [cond_true,Option.some.injEq,Prod.mk.injEq] at H
          obtain ⟨rfl,rfl,rfl⟩:=H
          simp only [Bool.and_eq_true,decide_eq_true_eq] at hb
          intro μ w vs Hh Hg hl hr
          match vs,hl with
          | [u1,u2],_=>
            have q1:=hr 0 _ u1 rfl rfl
            have q2:=(hr 1 _ u2 rfl rfl).p_inv
            cases q1
            cases q2
            obtain ⟨m,hm⟩:=Int.eq_ofNat_of_zero_le hb.1
            subst hm
            refine .inl ⟨R.enter _,?_⟩
            rcases Nat.eq_zero_or_pos m with h0 | h0
            · subst h0
              refine (R.room _ w).mono fun e w' he=>?_
              obtain ⟨rfl,rfl⟩:=he
              obtain ⟨n1,n2⟩:=newNil Hh sh
              refine ⟨_,_,_,_,⟨rfl,rfl,rfl⟩,?_,n1,n2,EscInv.push (by simp [Obj.top])⟩
              exact .own h.length 0 0 0 _ 0 sh [] 0 none (Nat.le_refl _) (by simp) (by rw [← Hh.len]; simp) (by simp) (by simp) (fun _=>rfl)
            · refine (R.grow _ m w h0 (by omega)).mono fun e w' he => ?_
              obtain ⟨G,cs,E,rfl,hcs,rfl⟩:=he
              have hw : WExt w (w.drew.alloc (.cells cs E)):=(WExt.drew w _).trans (WExt.push _ _)
              obtain ⟨n1,n2⟩:=newRow' (sh:=sh) (xs:=[]) Hh hw (b:=w.heap.size) (n:=cs.size) (Nat.le_refl _) (by show w.heap.size < (w.heap.push _).size; simp) (c:=cs) (Block.push (w:=w.drew) cs E) (by simp) (by simp) (by simp)
              refine ⟨_,_,_,_,⟨rfl,rfl,rfl⟩,?_,n1,n2,EscInv.push (by simp [Obj.top])⟩
              refine .own h.length 0 0 0 _ G sh [] 0 (some (w.heap.size,cs.size)) (Nat.zero_le _) (by simp) (by rw [← Hh.len]; simp) (by simp) (by simp) (fun _=>?_)
              exact .inr ⟨by simp,by simp [hcs]⟩
      · cases H
end Go.Am
end
section
/- Short words for the printed code. -/
set_option linter.all false
namespace Go.Am
instance {n : Nat} : OfNat Opd n:=⟨.t n⟩
abbrev GL:=Nat → Option PV
abbrev KT:=Ex → St → Prop
def cI (n : Int) : Opd:=.c (.p (.int .i64 n))
def cT : Opd:=.c (.p (.bool true))
def cF : Opd:=.c (.p (.bool false))
def cS (s : List UInt8) : Opd:=.c (.p (.str s))
def uO (d : Nat) (o : AO) : AOp:=⟨some d,none,o⟩
def wO (o : AO) : AOp:=⟨none,none,o⟩
def gD (d g : Nat) (b : Bool) (o : AO) : AOp:=⟨some d,some (g,b),o⟩
def mV (d : Nat) (x : Opd) : AOp:=⟨some d,none,.mv x⟩
def bN (d : Nat) (b : BinOp) (x y : Opd) : AOp:=⟨some d,none,.bin b x y⟩
def cL (d f : Nat) (l : List Opd) : AOp:=⟨some d,none,.call f l⟩
def lD (d : Nat) (s : Sh) (x : Opd) : AOp:=⟨some d,none,.load s x⟩
def iA (d : Nat) (s : Sh) (x y : Opd) : AOp:=⟨some d,none,.iaddr s x y⟩
def fA (d o : Nat) (s : Sh) (x : Opd) : AOp:=⟨some d,none,.faddr o s x⟩
def lN (d : Nat) (x : Opd) : AOp:=⟨some d,none,.len x⟩
def eX (d : Nat) (x : Opd) (i : Nat) : AOp:=⟨some d,none,.ext x i⟩
def dF (o : AOp) (l : List Nat) : DOp:=⟨o,l,false,[],[]⟩
def dT (o : AOp) (l : List Nat) : DOp:=⟨o,l,true,[],[]⟩
def dA (o : AOp) (l : List Nat) (e : Bool) (a b : List Nat) : DOp:=⟨o,l,e,a,b⟩
def rg (l : List AOp) (k : List Nat) : ACode:=.reg l (some k)
def dr (l : List DOp) (k : List Nat) : ACode:=.draw l (some k)
end Go.Am
end
section
/- The functions asv abstract code,and asv formulas over their values: printed by program out of the translation. -/
set_option linter.unusedVariables false
set_option maxRecDepth 100000
namespace Go.Am
def p_q03k_k1 : ACode:=.pr [6,7,8,10,11,12,14,15,18,92,93,94] (rg [bN 108 .add 94 (cI 1),
mV 94 108] [6,7,8,10,11,12,14,15,18,92,93,94])
def d_q03k_k1 (C : Hd) (gl : GL) (v6 v7 v8 v10 v11 v12 v14 v15 v18 v92 v93 v94 : AV) (h : Heap) (x : Esc) (K : KT) : Prop:=
 pK (oBin .add v94 (AI 1)) fun t1=>
 K .normal ⟨[(6,v6),(7,v7),(8,v8),(10,v10),(11,v11),(12,v12),(14,v14),(15,v15),(18,v18),(92,v92),(93,v93),(94,t1)],h,x⟩
theorem e_q03k_k1 {C gl e h x K} : NW C gl p_q03k_k1 ⟨e,h,x⟩ K = d_q03k_k1 C gl (aget e 6) (aget e 7) (aget e 8) (aget e 10) (aget e 11) (aget e 12) (aget e 14) (aget e 15) (aget e 18) (aget e 92) (aget e 93) (aget e 94) h x K:=by kernel_rfl
def P_q03k_k2 (q1 : ACode) : ACode:=.pr [6,7,8,10,11,12,14,15,18,92,93,94] (.seq (rg [bN 95 .lss 94 93] [6,7,8,10,11,12,14,15,18,92,93,94,95])
(.seq (.cond 95 .skip
(.exit 0))
(.seq (.block 1 (.seq (rg [iA 96 none 92 94,
lD 97 none 96,
mV 20 97] [6,7,8,10,11,12,14,15,18,20,92,93,94])
(.seq (rg [mV 98 20,
mV 99 10,
bN 100 .lss 98 99,
mV 101 100,
gD 102 101 false (.mv 20),
gD 103 101 false (.mv 11),
gD 104 101 false (.bin .gtr 102 103),
uO 105 (.pick 101 cT 104)] [6,7,8,10,11,12,14,15,18,92,93,94,105])
(.cond 105 (rg [mV 106 18,
bN 107 .add 106 (cI 1),
mV 18 107] [6,7,8,10,11,12,14,15,18,92,93,94])
.skip))))
q1)))
def p_q03k_k2 : ACode:=P_q03k_k2 p_q03k_k1
def d_q03k_k2 (C : Hd) (gl : GL) (q1 : ACode) (v6 v7 v8 v10 v11 v12 v14 v15 v18 v92 v93 v94 : AV) (h : Heap) (x : Esc) (K : KT) : Prop:=
 pK (oBin .lss v94 v93) fun t1=>
 condB t1 (pK (oIaddr none v92 v94 h) fun t2=>
 pK (oLoad none t2 h) fun t3=>
 pK (oBin .lss t3 v10) fun t4=>
 gM t4 false t3 h fun t5 h6 y7=>
 gM t4 false v11 h6 fun t8 h9 y10=>
 gP t4 false (oBin .gtr t5 t8) h9 fun t11 h12 y13=>
 pK (oPick t4 (AB true) t11) fun t14=>
 condB t14 (pK (oBin .add v18 (AI 1)) fun t15=>
 NW C gl q1 ⟨[(6,v6),(7,v7),(8,v8),(10,v10),(11,v11),(12,v12),(14,v14),(15,v15),(18,t15),(92,v92),(93,v93),(94,v94)],h12,(y13 ++ (y10 ++ (y7 ++ x)))⟩ K)
 (NW C gl q1 ⟨[(6,v6),(7,v7),(8,v8),(10,v10),(11,v11),(12,v12),(14,v14),(15,v15),(18,v18),(92,v92),(93,v93),(94,v94),(105,t14)],h12,(y13 ++ (y10 ++ (y7 ++ x)))⟩ K))
 (K (.exit 0) ⟨[(6,v6),(7,v7),(8,v8),(10,v10),(11,v11),(12,v12),(14,v14),(15,v15),(18,v18),(92,v92),(93,v93),(94,v94),(95,t1)],h,x⟩)
theorem E_q03k_k2 {C gl q1 e h x K} : NW C gl (P_q03k_k2 q1) ⟨e,h,x⟩ K = d_q03k_k2 C gl q1 (aget e 6) (aget e 7) (aget e 8) (aget e 10) (aget e 11) (aget e 12) (aget e 14) (aget e 15) (aget e 18) (aget e 92) (aget e 93) (aget e 94) h x K:=by kernel_rfl
theorem e_q03k_k2 {C gl e h x K} : NW C gl p_q03k_k2 ⟨e,h,x⟩ K = d_q03k_k2 C gl p_q03k_k1 (aget e 6) (aget e 7) (aget e 8) (aget e 10) (aget e 11) (aget e 12) (aget e 14) (aget e 15) (aget e 18) (aget e 92) (aget e 93) (aget e 94) h x K:=E_q03k_k2
theorem l_q03k_k2 {C gl e h x K} : NW C gl (.loop p_q03k_k2) ⟨e,h,x⟩ K = NLoop C gl p_q03k_k2 K [(6,aget e 6),(7,aget e 7),(8,aget e 8),(10,aget e 10),(11,aget e 11),(12,aget e 12),(14,aget e 14),(15,aget e 15),(18,aget e 18),(92,aget e 92),(93,aget e 93),(94,aget e 94)] h x:=NLoop_pr
def p_q03k_k3 : ACode:=.pr [6,7,8,10,11,12,14,15,18] (.seq (rg [mV 109 12,
mV 110 109,
gD 111 110 true (.mv 18),
gD 112 110 true (.mv 6),
gD 113 110 true (.bin .leq 111 112),
uO 114 (.pick 110 113 cF),
mV 115 114,
gD 116 115 true (.mv 10),
gD 117 115 true (.faddr 1 none 7),
gD 118 115 true (.load none 117),
gD 119 115 true (.bin .geq 116 118),
uO 120 (.pick 115 119 cF),
mV 121 120,
gD 122 121 true (.mv 11),
gD 123 121 true (.faddr 2 none 7),
gD 124 121 true (.load none 123),
gD 125 121 true (.bin .leq 122 124),
uO 126 (.pick 121 125 cF),
mV 127 126,
gD 128 127 true (.mv 10),
gD 129 127 true (.mv 11),
gD 130 127 true (.bin .leq 128 129),
uO 131 (.pick 127 130 cF),
mV 132 131,
gD 133 132 true (.mv 11),
gD 134 132 true (.mv 10),
gD 135 132 true (.bin .sub 133 134),
gD 136 132 true (.mv 15),
gD 137 132 true (.mv 14),
gD 138 132 true (.bin .sub 136 137),
gD 139 132 true (.bin .leq 135 138),
uO 140 (.pick 132 139 cF),
mV 141 140,
gD 142 141 true (.mv 14),
gD 143 141 true (.mv 8),
gD 144 141 true (.call f_q05q [143]),
gD 145 141 true (.bin .eql 142 144),
uO 146 (.pick 141 145 cF),
mV 147 146,
gD 148 147 true (.mv 15),
gD 149 147 true (.mv 8),
gD 150 147 true (.call f_q05p [149]),
gD 151 147 true (.bin .eql 148 150),
uO 152 (.pick 147 151 cF),
mV 153 152,
gD 154 153 true (.call f_q03p []),
uO 155 (.pick 153 154 cF),
mV 2 155] [2])
.ret)
def d_q03k_k3 (C : Hd) (gl : GL) (v6 v7 v8 v10 v11 v12 v14 v15 v18 : AV) (h : Heap) (x : Esc) (K : KT) : Prop:=
 gM v12 true v18 h fun t1 h2 y3=>
 gM v12 true v6 h2 fun t4 h5 y6=>
 gP v12 true (oBin .leq t1 t4) h5 fun t7 h8 y9=>
 pK (oPick v12 t7 (AB false)) fun t10=>
 gM t10 true v10 h8 fun t11 h12 y13=>
 gP t10 true (oFaddr 1 none v7) h12 fun t14 h15 y16=>
 gP t10 true (oLoad none t14 h15) h15 fun t17 h18 y19=>
 gP t10 true (oBin .geq t11 t17) h18 fun t20 h21 y22=>
 pK (oPick t10 t20 (AB false)) fun t23=>
 gM t23 true v11 h21 fun t24 h25 y26=>
 gP t23 true (oFaddr 2 none v7) h25 fun t27 h28 y29=>
 gP t23 true (oLoad none t27 h28) h28 fun t30 h31 y32=>
 gP t23 true (oBin .leq t24 t30) h31 fun t33 h34 y35=>
 pK (oPick t23 t33 (AB false)) fun t36=>
 gM t36 true v10 h34 fun t37 h38 y39=>
 gM t36 true v11 h38 fun t40 h41 y42=>
 gP t36 true (oBin .leq t37 t40) h41 fun t43 h44 y45=>
 pK (oPick t36 t43 (AB false)) fun t46=>
 gM t46 true v11 h44 fun t47 h48 y49=>
 gM t46 true v10 h48 fun t50 h51 y52=>
 gP t46 true (oBin .sub t47 t50) h51 fun t53 h54 y55=>
 gM t46 true v15 h54 fun t56 h57 y58=>
 gM t46 true v14 h57 fun t59 h60 y61=>
 gP t46 true (oBin .sub t56 t59) h60 fun t62 h63 y64=>
 gP t46 true (oBin .leq t53 t62) h63 fun t65 h66 y67=>
 pK (oPick t46 t65 (AB false)) fun t68=>
 gM t68 true v14 h66 fun t69 h70 y71=>
 gM t68 true v8 h70 fun t72 h73 y74=>
 gV t68 true h73 (C f_q05q [t72] h73) fun t75 h76 y77=>
 gP t68 true (oBin .eql t69 t75) h76 fun t78 h79 y80=>
 pK (oPick t68 t78 (AB false)) fun t81=>
 gM t81 true v15 h79 fun t82 h83 y84=>
 gM t81 true v8 h83 fun t85 h86 y87=>
 gV t81 true h86 (C f_q05p [t85] h86) fun t88 h89 y90=>
 gP t81 true (oBin .eql t82 t88) h89 fun t91 h92 y93=>
 pK (oPick t81 t91 (AB false)) fun t94=>
 gV t94 true h92 (C f_q03p [] h92) fun t95 h96 y97=>
 pK (oPick t94 t95 (AB false)) fun t98=>
 K .ret ⟨[(2,t98)],h96,(y97 ++ (y93 ++ (y90 ++ (y87 ++ (y84 ++ (y80 ++ (y77 ++ (y74 ++ (y71 ++ (y67 ++ (y64 ++ (y61 ++ (y58 ++ (y55 ++ (y52 ++ (y49 ++ (y45 ++ (y42 ++ (y39 ++ (y35 ++ (y32 ++ (y29 ++ (y26 ++ (y22 ++ (y19 ++ (y16 ++ (y13 ++ (y9 ++ (y6 ++ (y3 ++ x))))))))))))))))))))))))))))))⟩
theorem e_q03k_k3 {C gl e h x K} : NW C gl p_q03k_k3 ⟨e,h,x⟩ K = d_q03k_k3 C gl (aget e 6) (aget e 7) (aget e 8) (aget e 10) (aget e 11) (aget e 12) (aget e 14) (aget e 15) (aget e 18) h x K:=by kernel_rfl
def P_q03k (q2 q3 : ACode) : ACode:=(.seq (rg [mV 2 cF] [0])
(.seq (rg [mV 21 0,
uO 22 (.build [.sl0 none,.p (.int .i64 0)] [(0,1,21)]),
uO 23 (.box 22),
mV 3 23] [3])
(.seq (rg [mV 24 3,
cL 25 f_q047 [24],
mV 4 25] [3,4])
(.seq (rg [mV 26 3,
mV 27 4,
mV 28 3,
cL 29 f_q043 [28,(cI 0),(cI 10)],
cL 30 f_q048 [26,27,29],
mV 31 3,
cL 32 f_q043 [31,(cI 0),(cI 4)],
mV 5 30,
mV 6 32] [3,4,5,6])
(.seq (rg [mV 33 4,
mV 34 3,
mV 35 4,
lN 36 35,
cL 37 f_q040 [34,36],
iA 38 (some 4) 33 37,
lD 39 (some 4) 38,
uO 7 (.alloc [.p (.str []),.p (.int .i64 0),.p (.int .i64 0),.p (.int .i64 0)]),
wO (.store (some 4) 7 39)] [4,5,6,7])
(.seq (rg [mV 41 4,
mV 42 5,
fA 43 0 none 7,
lD 44 none 43,
cL 45 f_q02f [41,42,44],
mV 40 45,
eX 46 40 0,
eX 47 40 1,
mV 8 46,
mV 9 47] [4,5,6,7,8,9])
(.seq (rg [mV 49 4,
mV 50 5,
fA 51 0 none 7,
lD 52 none 51,
mV 53 6,
cL 54 f_q02d [49,50,52,53],
mV 48 54,
eX 55 48 0,
eX 56 48 1,
eX 57 48 2,
eX 58 48 3,
mV 10 55,
mV 11 56,
mV 12 57,
mV 13 58] [4,5,6,7,8,9,10,11,12,13])
(.seq (rg [mV 60 4,
mV 61 5,
fA 62 0 none 7,
lD 63 none 62,
cL 64 f_q02d [60,61,63,(cI 0)],
mV 59 64,
eX 65 59 0,
eX 66 59 1,
eX 67 59 2,
eX 68 59 3,
mV 14 65,
mV 15 66,
mV 16 67,
mV 17 68] [6,7,8,9,10,11,12,13,14,15,16,17])
(.seq (.seq (rg [mV 69 9,
mV 70 13,
mV 71 17,
uO 72 (.bsl false none 3 (.int .i64 0) [(0,69),(1,70),(2,71)]),
cL 73 f_q03n [72],
bN 74 .neq 73 (cI 0),
mV 75 74,
gD 76 75 false (.mv 12),
gD 77 75 false (.mv 16),
gD 78 75 false (.eqa [] true 76 77),
uO 79 (.pick 75 cT 78)] [6,7,8,10,11,12,14,15,79])
(.cond 79 (.seq (rg [mV 2 cF] [2])
.ret)
.skip))
(.seq (rg [mV 80 8,
cL 81 f_q052 [80],
uO 82 (.mkfn f_q03l [7]),
cL 83 f_q05c [81,82],
mV 8 83] [6,7,8,10,11,12,14,15])
(.seq (.seq (rg [mV 84 8,
lN 85 84,
bN 86 .eql 85 (cI 0)] [6,7,8,10,11,12,14,15,86])
(.cond 86 (.seq (rg [mV 87 12,
uO 88 (.un .not 87),
mV 89 88,
gD 90 89 true (.call f_q03p []),
uO 91 (.pick 89 90 cF),
mV 2 91] [2])
.ret)
.skip))
(.seq (rg [mV 18 (cI 0)] [6,7,8,10,11,12,14,15,18])
(.seq (.seq (rg [mV 92 8,
lN 93 92,
mV 94 (cI 0)] [6,7,8,10,11,12,14,15,18,92,93,94])
(.block 0 (.loop q2)))
q3)))))))))))))
def a_q03k : AFun:=⟨1,[.t 2],P_q03k p_q03k_k2 p_q03k_k3,false,false⟩
def d_q03k (C : Hd) (gl : GL) (q2 q3 : ACode) (v0 : AV) (h : Heap) (x : Esc) (K : KT) : Prop:=
 pK (oBuild [.sl0 none,.p (.int .i64 0)] [(0,1,v0)]) fun t1=>
 wK (oBox t1 h) fun t2 h3 y4=>
 C f_q047 [t2] h3 fun t5 h6 y7=>
 C f_q043 [t2,(AI 0),(AI 10)] h6 fun t8 h9 y10=>
 C f_q048 [t2,t5,t8] h9 fun t11 h12 y13=>
 C f_q043 [t2,(AI 0),(AI 4)] h12 fun t14 h15 y16=>
 pK (oLen t5) fun t17=>
 C f_q040 [t2,t17] h15 fun t18 h19 y20=>
 pK (oIaddr (some 4) t5 t18 h19) fun t21=>
 pK (oLoad (some 4) t21 h19) fun t22=>
 alK [.p (.str []),.p (.int .i64 0),.p (.int .i64 0),.p (.int .i64 0)] h19 fun t23 h24 y25=>
 wK (oStore (some 4) t23 t22 h24) fun t26 h27 y28=>
 pK (oFaddr 0 none t23) fun t29=>
 pK (oLoad none t29 h27) fun t30=>
 C f_q02f [t5,t11,t30] h27 fun t31 h32 y33=>
 pK (oExt t31 0) fun t34=>
 pK (oExt t31 1) fun t35=>
 pK (oFaddr 0 none t23) fun t36=>
 pK (oLoad none t36 h32) fun t37=>
 C f_q02d [t5,t11,t37,t14] h32 fun t38 h39 y40=>
 pK (oExt t38 0) fun t41=>
 pK (oExt t38 1) fun t42=>
 pK (oExt t38 2) fun t43=>
 pK (oExt t38 3) fun t44=>
 pK (oFaddr 0 none t23) fun t45=>
 pK (oLoad none t45 h39) fun t46=>
 C f_q02d [t5,t11,t46,(AI 0)] h39 fun t47 h48 y49=>
 pK (oExt t47 0) fun t50=>
 pK (oExt t47 1) fun t51=>
 pK (oExt t47 2) fun t52=>
 pK (oExt t47 3) fun t53=>
 wK (oBsl false none 3 (.int .i64 0) [(0,t35),(1,t44),(2,t53)] h48) fun t54 h55 y56=>
 C f_q03n [t54] h55 fun t57 h58 y59=>
 pK (oBin .neq t57 (AI 0)) fun t60=>
 gM t60 false t43 h58 fun t61 h62 y63=>
 gM t60 false t52 h62 fun t64 h65 y66=>
 gP t60 false (oEqa [] true t61 t64) h65 fun t67 h68 y69=>
 pK (oPick t60 (AB true) t67) fun t70=>
 condB t70 (K .ret ⟨[(2,(AB false))],h68,(y69 ++ (y66 ++ (y63 ++ (y59 ++ (y56 ++ (y49 ++ (y40 ++ (y33 ++ (y28 ++ (y25 ++ (y20 ++ (y16 ++ (y13 ++ (y10 ++ (y7 ++ (y4 ++ x))))))))))))))))⟩)
 (C f_q052 [t34] h68 fun t71 h72 y73=>
 C f_q05c [t71,(.fn f_q03l [t23])] h72 fun t74 h75 y76=>
 pK (oLen t74) fun t77=>
 pK (oBin .eql t77 (AI 0)) fun t78=>
 condB t78 (pK (oUn .not t43) fun t79=>
 gV t79 true h75 (C f_q03p [] h75) fun t80 h81 y82=>
 pK (oPick t79 t80 (AB false)) fun t83=>
 K .ret ⟨[(2,t83)],h81,(y82 ++ (y76 ++ (y73 ++ (y69 ++ (y66 ++ (y63 ++ (y59 ++ (y56 ++ (y49 ++ (y40 ++ (y33 ++ (y28 ++ (y25 ++ (y20 ++ (y16 ++ (y13 ++ (y10 ++ (y7 ++ (y4 ++ x)))))))))))))))))))⟩)
 (pK (oLen t74) fun t84=>
 NW C gl (.loop q2) ⟨[(6,t14),(7,t23),(8,t74),(10,t41),(11,t42),(12,t43),(14,t50),(15,t51),(18,(AI 0)),(92,t74),(93,t84),(94,(AI 0))],h75,(y76 ++ (y73 ++ (y69 ++ (y66 ++ (y63 ++ (y59 ++ (y56 ++ (y49 ++ (y40 ++ (y33 ++ (y28 ++ (y25 ++ (y20 ++ (y16 ++ (y13 ++ (y10 ++ (y7 ++ (y4 ++ x))))))))))))))))))⟩ (blockN 0 (seqN C gl q3 K))))
theorem E_q03k {C gl q2 q3 v0 h x K} : NW C gl (P_q03k q2 q3) ⟨enter [v0],h,x⟩ K = d_q03k C gl q2 q3 v0 h x K:=by kernel_rfl
theorem e_q03k {C gl v0 h x K} : NW C gl a_q03k.body ⟨enter [v0],h,x⟩ K = d_q03k C gl p_q03k_k2 p_q03k_k3 v0 h x K:=E_q03k
def P_q043 : ACode:=(.seq (rg [mV 6 (cI 0)] [0,1,2])
(.seq (.seq (rg [mV 7 2,
mV 8 1,
bN 9 .lss 7 8] [0,1,2,9])
(.cond 9 (.seq (rg [mV 10 1,
mV 6 10] [6])
.ret)
.skip))
(.seq (rg [mV 11 1,
mV 12 0,
mV 13 2,
mV 14 1,
bN 15 .sub 13 14,
bN 16 .add 15 (cI 1),
cL 17 f_q040 [12,16],
bN 18 .add 11 17,
mV 6 18] [6])
.ret)))
def a_q043 : AFun:=⟨3,[.t 6],P_q043,false,false⟩
def d_q043 (C : Hd) (gl : GL) (v0 v1 v2 : AV) (h : Heap) (x : Esc) (K : KT) : Prop:=
 pK (oBin .lss v2 v1) fun t1=>
 condB t1 (K .ret ⟨[(6,v1)],h,x⟩)
 (pK (oBin .sub v2 v1) fun t2=>
 pK (oBin .add t2 (AI 1)) fun t3=>
 C f_q040 [v0,t3] h fun t4 h5 y6=>
 pK (oBin .add v1 t4) fun t7=>
 K .ret ⟨[(6,t7)],h5,(y6 ++ x)⟩)
theorem e_q043 {C gl v0 v1 v2 h x K} : NW C gl a_q043.body ⟨enter [v0,v1,v2],h,x⟩ K = d_q043 C gl v0 v1 v2 h x K:=by kernel_rfl
def p_q03n_k1 : ACode:=.pr [5,6,7] (.seq (rg [bN 8 .lss 7 6] [5,6,7,8])
(.seq (.cond 8 .skip
(.exit 0))
(.seq (.block 1 (.seq (rg [iA 9 none 5 7,
lD 10 none 9,
mV 4 10] [4,5,6,7])
(.seq (rg [mV 11 4,
bN 12 .neq 11 (cI 0)] [4,5,6,7,12])
(.cond 12 (.seq (rg [mV 13 4,
mV 2 13] [2])
.ret)
.skip))))
(rg [bN 14 .add 7 (cI 1),
mV 7 14] [5,6,7]))))
def d_q03n_k1 (C : Hd) (gl : GL) (v5 v6 v7 : AV) (h : Heap) (x : Esc) (K : KT) : Prop:=
 pK (oBin .lss v7 v6) fun t1=>
 condB t1 (pK (oIaddr none v5 v7 h) fun t2=>
 pK (oLoad none t2 h) fun t3=>
 pK (oBin .neq t3 (AI 0)) fun t4=>
 condB t4 (K .ret ⟨[(2,t3)],h,x⟩)
 (pK (oBin .add v7 (AI 1)) fun t5=>
 K .normal ⟨[(5,v5),(6,v6),(7,t5)],h,x⟩))
 (K (.exit 0) ⟨[(5,v5),(6,v6),(7,v7),(8,t1)],h,x⟩)
theorem e_q03n_k1 {C gl e h x K} : NW C gl p_q03n_k1 ⟨e,h,x⟩ K = d_q03n_k1 C gl (aget e 5) (aget e 6) (aget e 7) h x K:=by kernel_rfl
theorem l_q03n_k1 {C gl e h x K} : NW C gl (.loop p_q03n_k1) ⟨e,h,x⟩ K = NLoop C gl p_q03n_k1 K [(5,aget e 5),(6,aget e 6),(7,aget e 7)] h x:=NLoop_pr
def p_q03n_k2 : ACode:=.pr [] (.seq (rg [mV 2 (cI 0)] [2])
.ret)
def d_q03n_k2 (C : Hd) (gl : GL) (h : Heap) (x : Esc) (K : KT) : Prop:=
 K .ret ⟨[(2,(AI 0))],h,x⟩
theorem e_q03n_k2 {C gl e h x K} : NW C gl p_q03n_k2 ⟨e,h,x⟩ K = d_q03n_k2 C gl h x K:=by kernel_rfl
def P_q03n (q1 q2 : ACode) : ACode:=(.seq (rg [mV 2 (cI 0)] [0])
(.seq (.seq (rg [mV 5 0,
lN 6 5,
mV 7 (cI 0)] [5,6,7])
(.block 0 (.loop q1)))
q2))
def a_q03n : AFun:=⟨1,[.t 2],P_q03n p_q03n_k1 p_q03n_k2,false,false⟩
def d_q03n (C : Hd) (gl : GL) (q1 q2 : ACode) (v0 : AV) (h : Heap) (x : Esc) (K : KT) : Prop:=
 pK (oLen v0) fun t1=>
 NW C gl (.loop q1) ⟨[(5,v0),(6,t1),(7,(AI 0))],h,x⟩ (blockN 0 (seqN C gl q2 K))
theorem E_q03n {C gl q1 q2 v0 h x K} : NW C gl (P_q03n q1 q2) ⟨enter [v0],h,x⟩ K = d_q03n C gl q1 q2 v0 h x K:=by kernel_rfl
theorem e_q03n {C gl v0 h x K} : NW C gl a_q03n.body ⟨enter [v0],h,x⟩ K = d_q03n C gl p_q03n_k1 p_q03n_k2 v0 h x K:=E_q03n
def p_q047_k1 : ACode:=.pr [0,4] (.seq (rg [bN 5 .lss 4 (cI 6)] [0,4,5])
(.seq (.cond 5 .skip
(.exit 0))
(.seq (.block 1 (.seq (rg [mV 6 0,
cL 7 f_q03z [6],
mV 3 7] [0,3,4])
(.seq (rg [mV 8 3,
cL 9 f_q04d [8],
bN 10 .eql 9 (cI 0)] [0,3,4,10])
(.cond 10 (.seq (rg [mV 11 3,
mV 2 11] [2])
.ret)
.skip))))
(rg [bN 12 .add 4 (cI 1),
mV 4 12] [0,4]))))
def d_q047_k1 (C : Hd) (gl : GL) (v0 v4 : AV) (h : Heap) (x : Esc) (K : KT) : Prop:=
 pK (oBin .lss v4 (AI 6)) fun t1=>
 condB t1 (C f_q03z [v0] h fun t2 h3 y4=>
 C f_q04d [t2] h3 fun t5 h6 y7=>
 pK (oBin .eql t5 (AI 0)) fun t8=>
 condB t8 (K .ret ⟨[(2,t2)],h6,(y7 ++ (y4 ++ x))⟩)
 (pK (oBin .add v4 (AI 1)) fun t9=>
 K .normal ⟨[(0,v0),(4,t9)],h6,(y7 ++ (y4 ++ x))⟩))
 (K (.exit 0) ⟨[(0,v0),(4,v4),(5,t1)],h,x⟩)
theorem e_q047_k1 {C gl e h x K} : NW C gl p_q047_k1 ⟨e,h,x⟩ K = d_q047_k1 C gl (aget e 0) (aget e 4) h x K:=by kernel_rfl
theorem l_q047_k1 {C gl e h x K} : NW C gl (.loop p_q047_k1) ⟨e,h,x⟩ K = NLoop C gl p_q047_k1 K [(0,aget e 0),(4,aget e 4)] h x:=NLoop_pr
def p_q047_k2 : ACode:=.pr [] (.seq (rg [uO 13 (.build [.p (.str []),.p (.int .i64 0),.p (.int .i64 0),.p (.int .i64 0)] [(0,1,(cS [118,111,108,116])),(2,1,(cI 10)),(3,1,(cI 5))]),
uO 14 (.bsl false (some 4) 1 (.agg [.str [],.int .i64 0,.int .i64 0,.int .i64 0]) [(0,13)]),
mV 2 14] [2])
.ret)
def d_q047_k2 (C : Hd) (gl : GL) (h : Heap) (x : Esc) (K : KT) : Prop:=
 pK (oBuild [.p (.str []),.p (.int .i64 0),.p (.int .i64 0),.p (.int .i64 0)] [(0,1,(.p (.str [118,111,108,116]))),(2,1,(AI 10)),(3,1,(AI 5))]) fun t1=>
 wK (oBsl false (some 4) 1 (.agg [.str [],.int .i64 0,.int .i64 0,.int .i64 0]) [(0,t1)] h) fun t2 h3 y4=>
 K .ret ⟨[(2,t2)],h3,(y4 ++ x)⟩
theorem e_q047_k2 {C gl e h x K} : NW C gl p_q047_k2 ⟨e,h,x⟩ K = d_q047_k2 C gl h x K:=by kernel_rfl
def P_q047 (q1 q2 : ACode) : ACode:=(.seq (rg [mV 2 (.c (.p (.sl (some 4) [])))] [0])
(.seq (.seq (rg [mV 4 (cI 0)] [0,4])
(.block 0 (.loop q1)))
q2))
def a_q047 : AFun:=⟨1,[.t 2],P_q047 p_q047_k1 p_q047_k2,false,false⟩
def d_q047 (C : Hd) (gl : GL) (q1 q2 : ACode) (v0 : AV) (h : Heap) (x : Esc) (K : KT) : Prop:=
 NW C gl (.loop q1) ⟨[(0,v0),(4,(AI 0))],h,x⟩ (blockN 0 (seqN C gl q2 K))
theorem E_q047 {C gl q1 q2 v0 h x K} : NW C gl (P_q047 q1 q2) ⟨enter [v0],h,x⟩ K = d_q047 C gl q1 q2 v0 h x K:=by kernel_rfl
theorem e_q047 {C gl v0 h x K} : NW C gl a_q047.body ⟨enter [v0],h,x⟩ K = d_q047 C gl p_q047_k1 p_q047_k2 v0 h x K:=E_q047
def p_q048_k1 : ACode:=.pr [0,1,2,8] (.seq (rg [bN 9 .lss 8 (cI 6)] [0,1,2,8,9])
(.seq (.cond 9 .skip
(.exit 0))
(.seq (.block 1 (.seq (rg [mV 10 0,
mV 11 1,
mV 12 2,
cL 13 f_q044 [10,11,12],
mV 7 13] [0,1,2,7,8])
(.seq (rg [mV 14 1,
mV 15 7,
cL 16 f_q04g [14,15],
bN 17 .eql 16 (cI 0)] [0,1,2,7,8,17])
(.cond 17 (.seq (rg [mV 18 7,
mV 6 18] [6])
.ret)
.skip))))
(rg [bN 19 .add 8 (cI 1),
mV 8 19] [0,1,2,8]))))
def d_q048_k1 (C : Hd) (gl : GL) (v0 v1 v2 v8 : AV) (h : Heap) (x : Esc) (K : KT) : Prop:=
 pK (oBin .lss v8 (AI 6)) fun t1=>
 condB t1 (C f_q044 [v0,v1,v2] h fun t2 h3 y4=>
 C f_q04g [v1,t2] h3 fun t5 h6 y7=>
 pK (oBin .eql t5 (AI 0)) fun t8=>
 condB t8 (K .ret ⟨[(6,t2)],h6,(y7 ++ (y4 ++ x))⟩)
 (pK (oBin .add v8 (AI 1)) fun t9=>
 K .normal ⟨[(0,v0),(1,v1),(2,v2),(8,t9)],h6,(y7 ++ (y4 ++ x))⟩))
 (K (.exit 0) ⟨[(0,v0),(1,v1),(2,v2),(8,v8),(9,t1)],h,x⟩)
theorem e_q048_k1 {C gl e h x K} : NW C gl p_q048_k1 ⟨e,h,x⟩ K = d_q048_k1 C gl (aget e 0) (aget e 1) (aget e 2) (aget e 8) h x K:=by kernel_rfl
theorem l_q048_k1 {C gl e h x K} : NW C gl (.loop p_q048_k1) ⟨e,h,x⟩ K = NLoop C gl p_q048_k1 K [(0,aget e 0),(1,aget e 1),(2,aget e 2),(8,aget e 8)] h x:=NLoop_pr
def p_q048_k2 : ACode:=.pr [] (.seq (rg [mV 6 (.c (.p (.sl (some 4) [])))] [6])
.ret)
def d_q048_k2 (C : Hd) (gl : GL) (h : Heap) (x : Esc) (K : KT) : Prop:=
 K .ret ⟨[(6,(.p (.sl (some 4) [])))],h,x⟩
theorem e_q048_k2 {C gl e h x K} : NW C gl p_q048_k2 ⟨e,h,x⟩ K = d_q048_k2 C gl h x K:=by kernel_rfl
def P_q048 (q1 q2 : ACode) : ACode:=(.seq (rg [mV 6 (.c (.p (.sl (some 4) [])))] [0,1,2])
(.seq (.seq (rg [mV 8 (cI 0)] [0,1,2,8])
(.block 0 (.loop q1)))
q2))
def a_q048 : AFun:=⟨3,[.t 6],P_q048 p_q048_k1 p_q048_k2,false,false⟩
def d_q048 (C : Hd) (gl : GL) (q1 q2 : ACode) (v0 v1 v2 : AV) (h : Heap) (x : Esc) (K : KT) : Prop:=
 NW C gl (.loop q1) ⟨[(0,v0),(1,v1),(2,v2),(8,(AI 0))],h,x⟩ (blockN 0 (seqN C gl q2 K))
theorem E_q048 {C gl q1 q2 v0 v1 v2 h x K} : NW C gl (P_q048 q1 q2) ⟨enter [v0,v1,v2],h,x⟩ K = d_q048 C gl q1 q2 v0 v1 v2 h x K:=by kernel_rfl
theorem e_q048 {C gl v0 v1 v2 h x K} : NW C gl a_q048.body ⟨enter [v0,v1,v2],h,x⟩ K = d_q048 C gl p_q048_k1 p_q048_k2 v0 v1 v2 h x K:=E_q048
def P_q040 : ACode:=(.seq (rg [mV 4 (cI 0)] [0,1])
(.seq (rg [mV 7 0,
uO 8 (.nilchk 7),
fA 9 1 none 8,
lD 10 none 9,
bN 11 .add 10 (cI 1),
uO 12 (.nilchk 7),
fA 13 1 none 12,
wO (.store none 13 11)] [0,1])
(.seq (.seq (rg [mV 14 0,
uO 15 (.nilchk 14),
fA 16 0 none 15,
lD 17 none 16,
lN 18 17,
bN 19 .eql 18 (cI 0)] [0,1,19])
(.cond 19 (.seq (rg [mV 20 0,
uO 21 (.nilchk 20),
fA 22 1 none 21,
lD 23 none 22,
bN 24 .mul 23 (cI 7919),
mV 25 1,
cL 26 f_q03x [24,25],
mV 4 26] [4])
.ret)
.skip))
(.seq (dr [dF (mV 27 0) [0],
dF (uO 28 (.nilchk 27)) [27],
dF (fA 29 1 none 28) [28],
dF (lD 30 none 29) [29],
dF (bN 31 .sub 30 (cI 1)) [30],
dF (mV 32 0) [0],
dF (uO 33 (.nilchk 32)) [32],
dF (fA 34 0 none 33) [33],
dF (lD 35 none 34) [34],
dF (lN 36 35) [35],
dF (bN 37 .rem 31 36) [31,36],
dF (mV 5 37) [37]] [0,1,5])
(.seq (dr [dF (mV 38 0) [0],
dF (uO 39 (.nilchk 38)) [38],
dF (fA 40 1 none 39) [39],
dF (lD 41 none 40) [40],
dF (bN 42 .sub 41 (cI 1)) [41],
dF (mV 43 0) [0],
dF (uO 44 (.nilchk 43)) [43],
dF (fA 45 0 none 44) [44],
dF (lD 46 none 45) [45],
dF (lN 47 46) [46],
dF (bN 48 .quo 42 47) [42,47],
dF (mV 6 48) [48]] [0,1,5,6])
(.seq (rg [mV 49 0,
uO 50 (.nilchk 49),
fA 51 0 none 50,
lD 52 none 51,
mV 53 5,
iA 54 none 52 53,
lD 55 none 54,
cL 56 f_q03x [55,(cI 1073741824)],
mV 57 6,
mV 58 5,
bN 59 .add (cI 7919) 58,
bN 60 .mul 57 59,
bN 61 .add 56 60,
mV 62 1,
cL 63 f_q03x [61,62],
mV 4 63] [4])
.ret))))))
def a_q040 : AFun:=⟨2,[.t 4],P_q040,false,false⟩
def d_q040 (C : Hd) (gl : GL) (v0 v1 : AV) (h : Heap) (x : Esc) (K : KT) : Prop:=
 pK (oNil v0) fun t1=>
 pK (oFaddr 1 none t1) fun t2=>
 pK (oLoad none t2 h) fun t3=>
 pK (oBin .add t3 (AI 1)) fun t4=>
 pK (oNil v0) fun t5=>
 pK (oFaddr 1 none t5) fun t6=>
 wK (oStore none t6 t4 h) fun t7 h8 y9=>
 pK (oNil v0) fun t10=>
 pK (oFaddr 0 none t10) fun t11=>
 pK (oLoad none t11 h8) fun t12=>
 pK (oLen t12) fun t13=>
 pK (oBin .eql t13 (AI 0)) fun t14=>
 condB t14 (pK (oNil v0) fun t15=>
 pK (oFaddr 1 none t15) fun t16=>
 pK (oLoad none t16 h8) fun t17=>
 pK (oBin .mul t17 (AI 7919)) fun t18=>
 C f_q03x [t18,v1] h8 fun t19 h20 y21=>
 K .ret ⟨[(4,t19)],h20,(y21 ++ (y9 ++ x))⟩)
 (pK (oNil v0) fun t22=>
 pK (oFaddr 1 none t22) fun t23=>
 pK (oLoad none t23 h8) fun t24=>
 pK (oBin .sub t24 (AI 1)) fun t25=>
 pK (oNil v0) fun t26=>
 pK (oFaddr 0 none t26) fun t27=>
 pK (oLoad none t27 h8) fun t28=>
 pK (oLen t28) fun t29=>
 pK (oBin .rem t25 t29) fun t30=>
 pK (oNil v0) fun t31=>
 pK (oFaddr 1 none t31) fun t32=>
 pK (oLoad none t32 h8) fun t33=>
 pK (oBin .sub t33 (AI 1)) fun t34=>
 pK (oNil v0) fun t35=>
 pK (oFaddr 0 none t35) fun t36=>
 pK (oLoad none t36 h8) fun t37=>
 pK (oLen t37) fun t38=>
 pK (oBin .quo t34 t38) fun t39=>
 pK (oNil v0) fun t40=>
 pK (oFaddr 0 none t40) fun t41=>
 pK (oLoad none t41 h8) fun t42=>
 pK (oIaddr none t42 t30 h8) fun t43=>
 pK (oLoad none t43 h8) fun t44=>
 C f_q03x [t44,(AI 1073741824)] h8 fun t45 h46 y47=>
 pK (oBin .add (AI 7919) t30) fun t48=>
 pK (oBin .mul t39 t48) fun t49=>
 pK (oBin .add t45 t49) fun t50=>
 C f_q03x [t50,v1] h46 fun t51 h52 y53=>
 K .ret ⟨[(4,t51)],h52,(y53 ++ (y47 ++ (y9 ++ x)))⟩)
theorem e_q040 {C gl v0 v1 h x K} : NW C gl a_q040.body ⟨enter [v0,v1],h,x⟩ K = d_q040 C gl v0 v1 h x K:=by kernel_rfl
def P_q02f : ACode:=(.seq (rg [mV 6 (.c (.p (.sl none []))),
mV 7 (cI 0)] [0,1,2])
(.seq (.seq (rg [mV 10 0,
mV 11 1,
cL 12 f_q023 [10,11],
mV 8 12] [0,1,2,8])
(.seq (rg [mV 13 8,
bN 14 .neq 13 (cI 0)] [0,1,2,8,14])
(.cond 14 (.seq (rg [mV 15 8,
mV 6 (.c (.p (.sl none []))),
mV 7 15] [6,7])
.ret)
.skip)))
(.seq (rg [mV 16 0,
mV 17 2,
cL 18 f_q02r [16,17],
mV 9 18] [1,9])
(.seq (.seq (rg [mV 19 9,
bN 20 .lss 19 (cI 0)] [1,9,20])
(.cond 20 (.seq (rg [mV 6 (.c (.p (.sl none []))),
mV 7 (cI 8)] [6,7])
.ret)
.skip))
(.seq (rg [mV 21 1,
mV 22 9,
cL 23 f_q034 [21,22],
mV 6 23,
mV 7 (cI 0)] [6,7])
.ret)))))
def a_q02f : AFun:=⟨3,[.t 6,.t 7],P_q02f,false,false⟩
def d_q02f (C : Hd) (gl : GL) (v0 v1 v2 : AV) (h : Heap) (x : Esc) (K : KT) : Prop:=
 C f_q023 [v0,v1] h fun t1 h2 y3=>
 pK (oBin .neq t1 (AI 0)) fun t4=>
 condB t4 (K .ret ⟨[(6,(.p (.sl none []))),(7,t1)],h2,(y3 ++ x)⟩)
 (C f_q02r [v0,v2] h2 fun t5 h6 y7=>
 pK (oBin .lss t5 (AI 0)) fun t8=>
 condB t8 (K .ret ⟨[(6,(.p (.sl none []))),(7,(AI 8))],h6,(y7 ++ (y3 ++ x))⟩)
 (C f_q034 [v1,t5] h6 fun t9 h10 y11=>
 K .ret ⟨[(6,t9),(7,(AI 0))],h10,(y11 ++ (y7 ++ (y3 ++ x)))⟩))
theorem e_q02f {C gl v0 v1 v2 h x K} : NW C gl a_q02f.body ⟨enter [v0,v1,v2],h,x⟩ K = d_q02f C gl v0 v1 v2 h x K:=by kernel_rfl
def p_q02d_k1 : ACode:=.pr [14,15,16,52,53] (rg [bN 82 .add 53 (cI 1),
mV 53 82] [14,15,16,52,53])
def d_q02d_k1 (C : Hd) (gl : GL) (v14 v15 v16 v52 v53 : AV) (h : Heap) (x : Esc) (K : KT) : Prop:=
 pK (oBin .add v53 (AI 1)) fun t1=>
 K .normal ⟨[(14,v14),(15,v15),(16,v16),(52,v52),(53,t1)],h,x⟩
theorem e_q02d_k1 {C gl e h x K} : NW C gl p_q02d_k1 ⟨e,h,x⟩ K = d_q02d_k1 C gl (aget e 14) (aget e 15) (aget e 16) (aget e 52) (aget e 53) h x K:=by kernel_rfl
def P_q02d_k2 (q1 : ACode) : ACode:=.pr [14,15,16,52,53] (.seq (rg [bN 54 .lss 53 52] [14,15,16,52,53,54])
(.seq (.cond 54 .skip
(.exit 1))
(.seq (.block 2 (.seq (rg [mV 55 53,
mV 17 55] [14,15,16,17,52,53])
(.seq (dr [dF (mV 56 14) [14],
dF (mV 57 17) [17],
dF (mV 58 15) [15],
dF (bN 59 .add 57 58) [57,58],
dF (bN 60 .sub 59 (cI 1)) [59],
dF (iA 61 none 56 60) [56,60],
dF (lD 62 none 61) [61],
dF (mV 63 14) [14],
dF (mV 64 17) [17],
dF (iA 65 none 63 64) [63,64],
dF (lD 66 none 65) [65],
dF (bN 67 .sub 62 66) [62,66],
dF (mV 68 14) [14],
dF (mV 69 16) [16],
dF (mV 70 15) [15],
dF (bN 71 .add 69 70) [69,70],
dF (bN 72 .sub 71 (cI 1)) [71],
dF (iA 73 none 68 72) [68,72],
dF (lD 74 none 73) [73],
dF (mV 75 14) [14],
dF (mV 76 16) [16],
dF (iA 77 none 75 76) [75,76],
dF (lD 78 none 77) [77],
dF (bN 79 .sub 74 78) [74,78],
dF (bN 80 .lss 67 79) [67,79]] [14,15,16,17,52,53,80])
(.cond 80 (rg [mV 81 17,
mV 16 81] [14,15,16,52,53])
.skip))))
q1)))
def p_q02d_k2 : ACode:=P_q02d_k2 p_q02d_k1
def d_q02d_k2 (C : Hd) (gl : GL) (q1 : ACode) (v14 v15 v16 v52 v53 : AV) (h : Heap) (x : Esc) (K : KT) : Prop:=
 pK (oBin .lss v53 v52) fun t1=>
 condB t1 (pK (oBin .add v53 v15) fun t2=>
 pK (oBin .sub t2 (AI 1)) fun t3=>
 pK (oIaddr none v14 t3 h) fun t4=>
 pK (oLoad none t4 h) fun t5=>
 pK (oIaddr none v14 v53 h) fun t6=>
 pK (oLoad none t6 h) fun t7=>
 pK (oBin .sub t5 t7) fun t8=>
 pK (oBin .add v16 v15) fun t9=>
 pK (oBin .sub t9 (AI 1)) fun t10=>
 pK (oIaddr none v14 t10 h) fun t11=>
 pK (oLoad none t11 h) fun t12=>
 pK (oIaddr none v14 v16 h) fun t13=>
 pK (oLoad none t13 h) fun t14=>
 pK (oBin .sub t12 t14) fun t15=>
 pK (oBin .lss t8 t15) fun t16=>
 condB t16 (NW C gl q1 ⟨[(14,v14),(15,v15),(16,v53),(52,v52),(53,v53)],h,x⟩ K)
 (NW C gl q1 ⟨[(14,v14),(15,v15),(16,v16),(17,v53),(52,v52),(53,v53),(80,t16)],h,x⟩ K))
 (K (.exit 1) ⟨[(14,v14),(15,v15),(16,v16),(52,v52),(53,v53),(54,t1)],h,x⟩)
theorem E_q02d_k2 {C gl q1 e h x K} : NW C gl (P_q02d_k2 q1) ⟨e,h,x⟩ K = d_q02d_k2 C gl q1 (aget e 14) (aget e 15) (aget e 16) (aget e 52) (aget e 53) h x K:=by kernel_rfl
theorem e_q02d_k2 {C gl e h x K} : NW C gl p_q02d_k2 ⟨e,h,x⟩ K = d_q02d_k2 C gl p_q02d_k1 (aget e 14) (aget e 15) (aget e 16) (aget e 52) (aget e 53) h x K:=E_q02d_k2
theorem l_q02d_k2 {C gl e h x K} : NW C gl (.loop p_q02d_k2) ⟨e,h,x⟩ K = NLoop C gl p_q02d_k2 K [(14,aget e 14),(15,aget e 15),(16,aget e 16),(52,aget e 52),(53,aget e 53)] h x:=NLoop_pr
def p_q02d_k3 : ACode:=.pr [14,15,16] (.seq (dr [dF (mV 83 14) [14],
dF (mV 84 16) [16],
dF (iA 85 none 83 84) [83,84],
dF (lD 86 none 85) [85],
dF (mV 87 14) [14],
dF (mV 88 16) [16],
dF (mV 89 15) [15],
dF (bN 90 .add 88 89) [88,89],
dF (bN 91 .sub 90 (cI 1)) [90],
dF (iA 92 none 87 91) [87,91],
dF (lD 93 none 92) [92],
dF (mV 8 86) [86],
dF (mV 9 93) [93],
dF (mV 10 cT) [],
dF (mV 11 (cI 0)) []] [8,9,10,11])
.ret)
def d_q02d_k3 (C : Hd) (gl : GL) (v14 v15 v16 : AV) (h : Heap) (x : Esc) (K : KT) : Prop:=
 pK (oIaddr none v14 v16 h) fun t1=>
 pK (oLoad none t1 h) fun t2=>
 pK (oBin .add v16 v15) fun t3=>
 pK (oBin .sub t3 (AI 1)) fun t4=>
 pK (oIaddr none v14 t4 h) fun t5=>
 pK (oLoad none t5 h) fun t6=>
 K .ret ⟨[(8,t2),(9,t6),(10,(AB true)),(11,(AI 0))],h,x⟩
theorem e_q02d_k3 {C gl e h x K} : NW C gl p_q02d_k3 ⟨e,h,x⟩ K = d_q02d_k3 C gl (aget e 14) (aget e 15) (aget e 16) h x K:=by kernel_rfl
def P_q02d (q2 q3 : ACode) : ACode:=(.seq (rg [uO 4 (.box 0),
mV 8 (cI 0),
mV 9 (cI 0),
mV 10 cF,
mV 11 (cI 0)] [1,2,3,4])
(.seq (.seq (rg [lD 18 none 4,
mV 19 1,
cL 20 f_q023 [18,19],
mV 12 20] [1,2,3,4,12])
(.seq (rg [mV 21 12,
bN 22 .neq 21 (cI 0)] [1,2,3,4,12,22])
(.cond 22 (.seq (rg [mV 23 12,
mV 8 (cI 0),
mV 9 (cI 0),
mV 10 cF,
mV 11 23] [8,9,10,11])
.ret)
.skip)))
(.seq (rg [lD 24 none 4,
mV 25 2,
cL 26 f_q02r [24,25],
uO 13 (.alloc [.p (.int .i64 0)]),
wO (.store none 13 26)] [1,3,4,13])
(.seq (.block 0 (.seq (rg [lD 28 none 13,
bN 29 .lss 28 (cI 0),
mV 27 29] [1,3,4,13,27])
(.cond 27 (.seq (rg [mV 8 (cI 0),
mV 9 (cI 0),
mV 10 cF,
mV 11 (cI 8)] [8,9,10,11])
.ret)
(.seq (rg [mV 31 3,
cL 32 f_q008 [31,(cI 0),(cI 5000)],
mV 30 32] [1,3,4,13,30])
(.cond 30 (.seq (rg [mV 8 (cI 0),
mV 9 (cI 0),
mV 10 cF,
mV 11 (cI 1)] [8,9,10,11])
.ret)
.skip)))))
(.seq (rg [mV 33 1,
lD 34 none 13,
cL 35 f_q034 [33,34],
uO 36 (.mkfn f_q02e [4,13]),
cL 37 f_q05c [35,36],
mV 14 37] [3,14])
(.seq (.seq (rg [mV 38 14,
lN 39 38,
bN 40 .eql 39 (cI 0)] [3,14,40])
(.cond 40 (.seq (rg [mV 8 (cI 0),
mV 9 (cI 0),
mV 10 cF,
mV 11 (cI 0)] [8,9,10,11])
.ret)
.skip))
(.seq (rg [mV 41 14,
cL 42 f_q05u [41]] [3,14])
(.seq (rg [mV 43 14,
lN 44 43,
mV 45 3,
bN 46 .sub 44 45,
uO 47 (.mx [(cI 1),46]),
mV 15 47] [14,15])
(.seq (rg [mV 16 (cI 0)] [14,15,16])
(.seq (.seq (rg [mV 48 14,
lN 49 48,
mV 50 15,
bN 51 .sub 49 50,
bN 52 .add 51 (cI 1),
mV 53 (cI 0)] [14,15,16,52,53])
(.block 1 (.loop q2)))
q3))))))))))
def a_q02d : AFun:=⟨4,[.t 8,.t 9,.t 10,.t 11],P_q02d p_q02d_k2 p_q02d_k3,false,false⟩
def d_q02d (C : Hd) (gl : GL) (q2 q3 : ACode) (v0 v1 v2 v3 : AV) (h : Heap) (x : Esc) (K : KT) : Prop:=
 wK (oBox v0 h) fun t1 h2 y3=>
 pK (oLoad none t1 h2) fun t4=>
 C f_q023 [t4,v1] h2 fun t5 h6 y7=>
 pK (oBin .neq t5 (AI 0)) fun t8=>
 condB t8 (K .ret ⟨[(8,(AI 0)),(9,(AI 0)),(10,(AB false)),(11,t5)],h6,(y7 ++ (y3 ++ x))⟩)
 (pK (oLoad none t1 h6) fun t9=>
 C f_q02r [t9,v2] h6 fun t10 h11 y12=>
 alK [.p (.int .i64 0)] h11 fun t13 h14 y15=>
 wK (oStore none t13 t10 h14) fun t16 h17 y18=>
 pK (oLoad none t13 h17) fun t19=>
 pK (oBin .lss t19 (AI 0)) fun t20=>
 condB t20 (K .ret ⟨[(8,(AI 0)),(9,(AI 0)),(10,(AB false)),(11,(AI 8))],h17,(y18 ++ (y15 ++ (y12 ++ (y7 ++ (y3 ++ x)))))⟩)
 (C f_q008 [v3,(AI 0),(AI 5000)] h17 fun t21 h22 y23=>
 condB t21 (K .ret ⟨[(8,(AI 0)),(9,(AI 0)),(10,(AB false)),(11,(AI 1))],h22,(y23 ++ (y18 ++ (y15 ++ (y12 ++ (y7 ++ (y3 ++ x))))))⟩)
 (pK (oLoad none t13 h22) fun t24=>
 C f_q034 [v1,t24] h22 fun t25 h26 y27=>
 C f_q05c [t25,(.fn f_q02e [t1,t13])] h26 fun t28 h29 y30=>
 pK (oLen t28) fun t31=>
 pK (oBin .eql t31 (AI 0)) fun t32=>
 condB t32 (K .ret ⟨[(8,(AI 0)),(9,(AI 0)),(10,(AB false)),(11,(AI 0))],h29,(y30 ++ (y27 ++ (y23 ++ (y18 ++ (y15 ++ (y12 ++ (y7 ++ (y3 ++ x))))))))⟩)
 (C f_q05u [t28] h29 fun t33 h34 y35=>
 pK (oLen t28) fun t36=>
 pK (oBin .sub t36 v3) fun t37=>
 pK (oMx [(AI 1),t37]) fun t38=>
 pK (oLen t28) fun t39=>
 pK (oBin .sub t39 t38) fun t40=>
 pK (oBin .add t40 (AI 1)) fun t41=>
 NW C gl (.loop q2) ⟨[(14,t28),(15,t38),(16,(AI 0)),(52,t41),(53,(AI 0))],h34,(y35 ++ (y30 ++ (y27 ++ (y23 ++ (y18 ++ (y15 ++ (y12 ++ (y7 ++ (y3 ++ x)))))))))⟩ (blockN 1 (seqN C gl q3 K))))))
theorem E_q02d {C gl q2 q3 v0 v1 v2 v3 h x K} : NW C gl (P_q02d q2 q3) ⟨enter [v0,v1,v2,v3],h,x⟩ K = d_q02d C gl q2 q3 v0 v1 v2 v3 h x K:=by kernel_rfl
theorem e_q02d {C gl v0 v1 v2 v3 h x K} : NW C gl a_q02d.body ⟨enter [v0,v1,v2,v3],h,x⟩ K = d_q02d C gl p_q02d_k2 p_q02d_k3 v0 v1 v2 v3 h x K:=E_q02d
def p_q05c_k1 : ACode:=.pr [0,1,5,6] (rg [mV 20 6,
bN 21 .add 20 (cI 1),
mV 6 21] [0,1,5,6])
def d_q05c_k1 (C : Hd) (gl : GL) (v0 v1 v5 v6 : AV) (h : Heap) (x : Esc) (K : KT) : Prop:=
 pK (oBin .add v6 (AI 1)) fun t1=>
 K .normal ⟨[(0,v0),(1,v1),(5,v5),(6,t1)],h,x⟩
theorem e_q05c_k1 {C gl e h x K} : NW C gl p_q05c_k1 ⟨e,h,x⟩ K = d_q05c_k1 C gl (aget e 0) (aget e 1) (aget e 5) (aget e 6) h x K:=by kernel_rfl
def P_q05c_k2 (q1 : ACode) : ACode:=.pr [0,1,5,6] (.seq (.seq (rg [mV 16 6,
mV 17 0,
lN 18 17,
bN 19 .lss 16 18] [0,1,5,6,19])
(.cond 19 .skip
(.exit 0)))
(.seq (.block 1 (.seq (rg [mV 22 0,
mV 23 6,
iA 24 none 22 23,
lD 25 none 24,
mV 7 25] [0,1,5,6,7])
(.seq (rg [mV 26 1,
mV 27 7,
uO 28 (.callv 26 [27]),
uO 29 (.un .not 28)] [0,1,5,6,7,29])
(.cond 29 (.seq (rg [mV 30 0,
mV 31 5,
mV 32 7,
iA 33 none 30 31,
wO (.store none 33 32)] [0,1,5,6])
(rg [mV 34 5,
bN 35 .add 34 (cI 1),
mV 5 35] [0,1,5,6]))
.skip))))
q1))
def p_q05c_k2 : ACode:=P_q05c_k2 p_q05c_k1
def d_q05c_k2 (C : Hd) (gl : GL) (q1 : ACode) (v0 v1 v5 v6 : AV) (h : Heap) (x : Esc) (K : KT) : Prop:=
 pK (oLen v0) fun t1=>
 pK (oBin .lss v6 t1) fun t2=>
 condB t2 (pK (oIaddr none v0 v6 h) fun t3=>
 pK (oLoad none t3 h) fun t4=>
 callvK C v1 [t4] h fun t5 h6 y7=>
 pK (oUn .not t5) fun t8=>
 condB t8 (pK (oIaddr none v0 v5 h6) fun t9=>
 wK (oStore none t9 t4 h6) fun t10 h11 y12=>
 pK (oBin .add v5 (AI 1)) fun t13=>
 NW C gl q1 ⟨[(0,v0),(1,v1),(5,t13),(6,v6)],h11,(y12 ++ (y7 ++ x))⟩ K)
 (NW C gl q1 ⟨[(0,v0),(1,v1),(5,v5),(6,v6),(7,t4),(29,t8)],h6,(y7 ++ x)⟩ K))
 (K (.exit 0) ⟨[(0,v0),(1,v1),(5,v5),(6,v6),(19,t2)],h,x⟩)
theorem E_q05c_k2 {C gl q1 e h x K} : NW C gl (P_q05c_k2 q1) ⟨e,h,x⟩ K = d_q05c_k2 C gl q1 (aget e 0) (aget e 1) (aget e 5) (aget e 6) h x K:=by kernel_rfl
theorem e_q05c_k2 {C gl e h x K} : NW C gl p_q05c_k2 ⟨e,h,x⟩ K = d_q05c_k2 C gl p_q05c_k1 (aget e 0) (aget e 1) (aget e 5) (aget e 6) h x K:=E_q05c_k2
theorem l_q05c_k2 {C gl e h x K} : NW C gl (.loop p_q05c_k2) ⟨e,h,x⟩ K = NLoop C gl p_q05c_k2 K [(0,aget e 0),(1,aget e 1),(5,aget e 5),(6,aget e 6)] h x:=NLoop_pr
def p_q05c_k3 : ACode:=.pr [0,5] (.seq (rg [mV 36 0,
mV 37 5,
uO 38 (.slice none 36 (some 37) none none),
wO (.clr none (.int .i64 0) 38)] [0,5])
(.seq (rg [mV 39 0,
mV 40 5,
uO 41 (.slice none 39 none (some 40) none),
mV 4 41] [4])
.ret))
def d_q05c_k3 (C : Hd) (gl : GL) (v0 v5 : AV) (h : Heap) (x : Esc) (K : KT) : Prop:=
 pK (oSlice none v0 (some v5) none none h) fun t1=>
 wK (oClr none (.int .i64 0) t1 h) fun t2 h3 y4=>
 pK (oSlice none v0 none (some v5) none h3) fun t5=>
 K .ret ⟨[(4,t5)],h3,(y4 ++ x)⟩
theorem e_q05c_k3 {C gl e h x K} : NW C gl p_q05c_k3 ⟨e,h,x⟩ K = d_q05c_k3 C gl (aget e 0) (aget e 5) h x K:=by kernel_rfl
def P_q05c (q2 q3 : ACode) : ACode:=(.seq (rg [mV 4 (.c (.p (.sl none [])))] [0,1])
(.seq (rg [mV 8 0,
mV 9 1,
cL 10 f_q05l [8,9],
mV 5 10] [0,1,5])
(.seq (.seq (rg [mV 11 5,
bN 12 .eql 11 (cI (-1))] [0,1,5,12])
(.cond 12 (.seq (rg [mV 13 0,
mV 4 13] [4])
.ret)
.skip))
(.seq (.seq (rg [mV 14 5,
bN 15 .add 14 (cI 1),
mV 6 15] [0,1,5,6])
(.block 0 (.loop q2)))
q3))))
def a_q05c : AFun:=⟨2,[.t 4],P_q05c p_q05c_k2 p_q05c_k3,true,false⟩
def d_q05c (C : Hd) (gl : GL) (q2 q3 : ACode) (v0 v1 : AV) (h : Heap) (x : Esc) (K : KT) : Prop:=
 C f_q05l [v0,v1] h fun t1 h2 y3=>
 pK (oBin .eql t1 (AI (-1))) fun t4=>
 condB t4 (K .ret ⟨[(4,v0)],h2,(y3 ++ x)⟩)
 (pK (oBin .add t1 (AI 1)) fun t5=>
 NW C gl (.loop q2) ⟨[(0,v0),(1,v1),(5,t1),(6,t5)],h2,(y3 ++ x)⟩ (blockN 0 (seqN C gl q3 K)))
theorem E_q05c {C gl q2 q3 v0 v1 h x K} : NW C gl (P_q05c q2 q3) ⟨enter [v0,v1],h,x⟩ K = d_q05c C gl q2 q3 v0 v1 h x K:=by kernel_rfl
theorem e_q05c {C gl v0 v1 h x K} : NW C gl a_q05c.body ⟨enter [v0,v1],h,x⟩ K = d_q05c C gl p_q05c_k2 p_q05c_k3 v0 v1 h x K:=E_q05c
def P_q052 : ACode:=(.det (.seq (rg [mV 2 (.c (.p (.sl none [])))] [0])
(.seq (.seq (rg [mV 3 0,
uO 4 (.isnil 4 false 3)] [0,4])
(.condu 4 (.seq (rg [uO 2 (.new0 none)] [2])
.ret)
.skip))
(.seq (rg [uO 5 (.bsl true none 0 (.int .i64 0) []),
mV 6 0,
uO 7 (.app none 5 6),
mV 2 7] [2])
.ret))))
def a_q052 : AFun:=⟨1,[.t 2],P_q052,false,true⟩
def d_q052 (C : Hd) (gl : GL) (v0 : AV) (h : Heap) (x : Esc) (K : KT) : Prop:=
 pK (oIsnil 4 false v0) fun t1=>
 condU t1 (nwK none h fun t2 h3 y4=>
 K .ret ⟨[(2,t2)],h3,(y4 ++ x)⟩)
 (wK (oBsl true none 0 (.int .i64 0) [] h) fun t5 h6 y7=>
 wK (oApp none t5 v0 h6) fun t8 h9 y10=>
 K .ret ⟨[(2,t8)],h9,(y10 ++ (y7 ++ x))⟩)
theorem e_q052 {C gl v0 h x K} : NW C gl a_q052.body ⟨enter [v0],h,x⟩ K = d_q052 C gl v0 h x K:=by kernel_rfl
def P_q03l : ACode:=(.seq (rg [mV 3 cF] [0,1])
(.seq (rg [mV 4 0,
fA 5 1 none 1,
lD 6 none 5,
bN 7 .lss 4 6,
mV 8 7,
gD 9 8 false (.mv 0),
gD 10 8 false (.faddr 2 none 1),
gD 11 8 false (.load none 10),
gD 12 8 false (.bin .gtr 9 11),
uO 13 (.pick 8 cT 12),
mV 3 13] [3])
.ret))
def a_q03l : AFun:=⟨2,[.t 3],P_q03l,false,false⟩
def d_q03l (C : Hd) (gl : GL) (v0 v1 : AV) (h : Heap) (x : Esc) (K : KT) : Prop:=
 pK (oFaddr 1 none v1) fun t1=>
 pK (oLoad none t1 h) fun t2=>
 pK (oBin .lss v0 t2) fun t3=>
 gM t3 false v0 h fun t4 h5 y6=>
 gP t3 false (oFaddr 2 none v1) h5 fun t7 h8 y9=>
 gP t3 false (oLoad none t7 h8) h8 fun t10 h11 y12=>
 gP t3 false (oBin .gtr t4 t10) h11 fun t13 h14 y15=>
 pK (oPick t3 (AB true) t13) fun t16=>
 K .ret ⟨[(3,t16)],h14,(y15 ++ (y12 ++ (y9 ++ (y6 ++ x))))⟩
theorem e_q03l {C gl v0 v1 h x K} : NW C gl a_q03l.body ⟨enter [v0,v1],h,x⟩ K = d_q03l C gl v0 v1 h x K:=by kernel_rfl
def p_q05q_k1 : ACode:=.pr [0,3,4] (.seq (.seq (rg [mV 12 4,
mV 13 0,
lN 14 13,
bN 15 .lss 12 14] [0,3,4,15])
(.cond 15 .skip
(.exit 0)))
(.seq (.block 1 (rg [mV 18 3,
mV 19 0,
mV 20 4,
iA 21 none 19 20,
lD 22 none 21,
uO 23 (.mn [18,22]),
mV 3 23] [0,3,4]))
(rg [mV 16 4,
bN 17 .add 16 (cI 1),
mV 4 17] [0,3,4])))
def d_q05q_k1 (C : Hd) (gl : GL) (v0 v3 v4 : AV) (h : Heap) (x : Esc) (K : KT) : Prop:=
 pK (oLen v0) fun t1=>
 pK (oBin .lss v4 t1) fun t2=>
 condB t2 (pK (oIaddr none v0 v4 h) fun t3=>
 pK (oLoad none t3 h) fun t4=>
 pK (oMn [v3,t4]) fun t5=>
 pK (oBin .add v4 (AI 1)) fun t6=>
 K .normal ⟨[(0,v0),(3,t5),(4,t6)],h,x⟩)
 (K (.exit 0) ⟨[(0,v0),(3,v3),(4,v4),(15,t2)],h,x⟩)
theorem e_q05q_k1 {C gl e h x K} : NW C gl p_q05q_k1 ⟨e,h,x⟩ K = d_q05q_k1 C gl (aget e 0) (aget e 3) (aget e 4) h x K:=by kernel_rfl
theorem l_q05q_k1 {C gl e h x K} : NW C gl (.loop p_q05q_k1) ⟨e,h,x⟩ K = NLoop C gl p_q05q_k1 K [(0,aget e 0),(3,aget e 3),(4,aget e 4)] h x:=NLoop_pr
def p_q05q_k2 : ACode:=.pr [3] (.seq (rg [mV 24 3,
mV 2 24] [2])
.ret)
def d_q05q_k2 (C : Hd) (gl : GL) (v3 : AV) (h : Heap) (x : Esc) (K : KT) : Prop:=
 K .ret ⟨[(2,v3)],h,x⟩
theorem e_q05q_k2 {C gl e h x K} : NW C gl p_q05q_k2 ⟨e,h,x⟩ K = d_q05q_k2 C gl (aget e 3) h x K:=by kernel_rfl
def P_q05q (q1 q2 : ACode) : ACode:=(.seq (rg [mV 2 (cI 0)] [0])
(.seq (.seq (rg [mV 5 0,
lN 6 5,
bN 7 .lss 6 (cI 1)] [0,7])
(.cond 7 .bad
.skip))
(.seq (rg [mV 9 0,
iA 10 none 9 (cI 0),
lD 11 none 10,
mV 3 11] [0,3])
(.seq (.seq (rg [mV 4 (cI 1)] [0,3,4])
(.block 0 (.loop q1)))
q2))))
def a_q05q : AFun:=⟨1,[.t 2],P_q05q p_q05q_k1 p_q05q_k2,false,false⟩
def d_q05q (C : Hd) (gl : GL) (q1 q2 : ACode) (v0 : AV) (h : Heap) (x : Esc) (K : KT) : Prop:=
 pK (oLen v0) fun t1=>
 pK (oBin .lss t1 (AI 1)) fun t2=>
 condB t2 (False)
 (pK (oIaddr none v0 (AI 0) h) fun t3=>
 pK (oLoad none t3 h) fun t4=>
 NW C gl (.loop q1) ⟨[(0,v0),(3,t4),(4,(AI 1))],h,x⟩ (blockN 0 (seqN C gl q2 K)))
theorem E_q05q {C gl q1 q2 v0 h x K} : NW C gl (P_q05q q1 q2) ⟨enter [v0],h,x⟩ K = d_q05q C gl q1 q2 v0 h x K:=by kernel_rfl
theorem e_q05q {C gl v0 h x K} : NW C gl a_q05q.body ⟨enter [v0],h,x⟩ K = d_q05q C gl p_q05q_k1 p_q05q_k2 v0 h x K:=E_q05q
def p_q05p_k1 : ACode:=.pr [0,3,4] (.seq (.seq (rg [mV 12 4,
mV 13 0,
lN 14 13,
bN 15 .lss 12 14] [0,3,4,15])
(.cond 15 .skip
(.exit 0)))
(.seq (.block 1 (rg [mV 18 3,
mV 19 0,
mV 20 4,
iA 21 none 19 20,
lD 22 none 21,
uO 23 (.mx [18,22]),
mV 3 23] [0,3,4]))
(rg [mV 16 4,
bN 17 .add 16 (cI 1),
mV 4 17] [0,3,4])))
def d_q05p_k1 (C : Hd) (gl : GL) (v0 v3 v4 : AV) (h : Heap) (x : Esc) (K : KT) : Prop:=
 pK (oLen v0) fun t1=>
 pK (oBin .lss v4 t1) fun t2=>
 condB t2 (pK (oIaddr none v0 v4 h) fun t3=>
 pK (oLoad none t3 h) fun t4=>
 pK (oMx [v3,t4]) fun t5=>
 pK (oBin .add v4 (AI 1)) fun t6=>
 K .normal ⟨[(0,v0),(3,t5),(4,t6)],h,x⟩)
 (K (.exit 0) ⟨[(0,v0),(3,v3),(4,v4),(15,t2)],h,x⟩)
theorem e_q05p_k1 {C gl e h x K} : NW C gl p_q05p_k1 ⟨e,h,x⟩ K = d_q05p_k1 C gl (aget e 0) (aget e 3) (aget e 4) h x K:=by kernel_rfl
theorem l_q05p_k1 {C gl e h x K} : NW C gl (.loop p_q05p_k1) ⟨e,h,x⟩ K = NLoop C gl p_q05p_k1 K [(0,aget e 0),(3,aget e 3),(4,aget e 4)] h x:=NLoop_pr
def p_q05p_k2 : ACode:=.pr [3] (.seq (rg [mV 24 3,
mV 2 24] [2])
.ret)
def d_q05p_k2 (C : Hd) (gl : GL) (v3 : AV) (h : Heap) (x : Esc) (K : KT) : Prop:=
 K .ret ⟨[(2,v3)],h,x⟩
theorem e_q05p_k2 {C gl e h x K} : NW C gl p_q05p_k2 ⟨e,h,x⟩ K = d_q05p_k2 C gl (aget e 3) h x K:=by kernel_rfl
def P_q05p (q1 q2 : ACode) : ACode:=(.seq (rg [mV 2 (cI 0)] [0])
(.seq (.seq (rg [mV 5 0,
lN 6 5,
bN 7 .lss 6 (cI 1)] [0,7])
(.cond 7 .bad
.skip))
(.seq (rg [mV 9 0,
iA 10 none 9 (cI 0),
lD 11 none 10,
mV 3 11] [0,3])
(.seq (.seq (rg [mV 4 (cI 1)] [0,3,4])
(.block 0 (.loop q1)))
q2))))
def a_q05p : AFun:=⟨1,[.t 2],P_q05p p_q05p_k1 p_q05p_k2,false,false⟩
def d_q05p (C : Hd) (gl : GL) (q1 q2 : ACode) (v0 : AV) (h : Heap) (x : Esc) (K : KT) : Prop:=
 pK (oLen v0) fun t1=>
 pK (oBin .lss t1 (AI 1)) fun t2=>
 condB t2 (False)
 (pK (oIaddr none v0 (AI 0) h) fun t3=>
 pK (oLoad none t3 h) fun t4=>
 NW C gl (.loop q1) ⟨[(0,v0),(3,t4),(4,(AI 1))],h,x⟩ (blockN 0 (seqN C gl q2 K)))
theorem E_q05p {C gl q1 q2 v0 h x K} : NW C gl (P_q05p q1 q2) ⟨enter [v0],h,x⟩ K = d_q05p C gl q1 q2 v0 h x K:=by kernel_rfl
theorem e_q05p {C gl v0 h x K} : NW C gl a_q05p.body ⟨enter [v0],h,x⟩ K = d_q05p C gl p_q05p_k1 p_q05p_k2 v0 h x K:=E_q05p
def p_q03z_k1 : ACode:=.pr [3] (.seq (rg [mV 34 3,
mV 2 34] [2])
.ret)
def d_q03z_k1 (C : Hd) (gl : GL) (v3 : AV) (h : Heap) (x : Esc) (K : KT) : Prop:=
 K .ret ⟨[(2,v3)],h,x⟩
theorem e_q03z_k1 {C gl e h x K} : NW C gl p_q03z_k1 ⟨e,h,x⟩ K = d_q03z_k1 C gl (aget e 3) h x K:=by kernel_rfl
def P_q03z (q1 : ACode) : ACode:=(.seq (rg [mV 2 (.c (.p (.sl (some 4) [])))] [0])
(.seq (rg [uO 4 (.build [.p (.str []),.p (.int .i64 0),.p (.int .i64 0),.p (.int .i64 0)] [(0,1,(cS [118,111,108,116])),(2,1,(cI 10)),(3,1,(cI 5))]),
mV 5 0,
uO 6 (.bsl false none 3 (.int .i64 0) [(0,(cI 5)),(1,(cI 6)),(2,(cI 2))]),
cL 7 f_q042 [5,6],
uO 8 (.build [.p (.str []),.p (.int .i64 0),.p (.int .i64 0),.p (.int .i64 0)] [(0,1,(cS [97,109,112])),(1,1,(cI (-5))),(2,1,(cI 5)),(3,1,7)]),
uO 9 (.build [.p (.str []),.p (.int .i64 0),.p (.int .i64 0),.p (.int .i64 0)] [(0,1,(cS [104,122])),(1,1,(cI 3)),(2,1,(cI 8)),(3,1,(cI 9))]),
uO 10 (.bsl true (some 4) 3 (.agg [.str [],.int .i64 0,.int .i64 0,.int .i64 0]) [(0,4),(1,8),(2,9)]),
mV 11 0,
cL 12 f_q043 [11,(cI 1),(cI 3)],
uO 13 (.slice (some 4) 10 none (some 12) none),
mV 3 13] [0,3])
(.seq (.seq (rg [mV 14 0,
cL 15 f_q03y [14,(cI 15)]] [0,3,15])
(.cond 15 (rg [mV 16 3,
mV 17 0,
mV 18 3,
lN 19 18,
cL 20 f_q040 [17,19],
mV 21 0,
uO 22 (.bsl false none 3 (.str []) [(0,(cS [118,111,108,116])),(1,(cS [])),(2,(cS [122]))]),
cL 23 f_q049 [21,22],
mV 24 0,
uO 25 (.bsl false none 4 (.int .i64 0) [(0,(cI 0)),(1,(cI (-100000))),(2,(cI (-100001))),(3,(cI 20))]),
cL 26 f_q042 [24,25],
mV 27 0,
uO 28 (.bsl false none 3 (.int .i64 0) [(0,(cI 10)),(1,(cI 100000)),(2,(cI 100001))]),
cL 29 f_q042 [27,28],
mV 30 0,
cL 31 f_q041 [30,(cI 2),(cI 100)],
uO 32 (.build [.p (.str []),.p (.int .i64 0),.p (.int .i64 0),.p (.int .i64 0)] [(0,1,23),(1,1,26),(2,1,29),(3,1,31)]),
iA 33 (some 4) 16 20,
wO (.store (some 4) 33 32)] [3])
.skip))
q1)))
def a_q03z : AFun:=⟨1,[.t 2],P_q03z p_q03z_k1,false,false⟩
def d_q03z (C : Hd) (gl : GL) (q1 : ACode) (v0 : AV) (h : Heap) (x : Esc) (K : KT) : Prop:=
 pK (oBuild [.p (.str []),.p (.int .i64 0),.p (.int .i64 0),.p (.int .i64 0)] [(0,1,(.p (.str [118,111,108,116]))),(2,1,(AI 10)),(3,1,(AI 5))]) fun t1=>
 wK (oBsl false none 3 (.int .i64 0) [(0,(AI 5)),(1,(AI 6)),(2,(AI 2))] h) fun t2 h3 y4=>
 C f_q042 [v0,t2] h3 fun t5 h6 y7=>
 pK (oBuild [.p (.str []),.p (.int .i64 0),.p (.int .i64 0),.p (.int .i64 0)] [(0,1,(.p (.str [97,109,112]))),(1,1,(AI (-5))),(2,1,(AI 5)),(3,1,t5)]) fun t8=>
 pK (oBuild [.p (.str []),.p (.int .i64 0),.p (.int .i64 0),.p (.int .i64 0)] [(0,1,(.p (.str [104,122]))),(1,1,(AI 3)),(2,1,(AI 8)),(3,1,(AI 9))]) fun t9=>
 wK (oBsl true (some 4) 3 (.agg [.str [],.int .i64 0,.int .i64 0,.int .i64 0]) [(0,t1),(1,t8),(2,t9)] h6) fun t10 h11 y12=>
 C f_q043 [v0,(AI 1),(AI 3)] h11 fun t13 h14 y15=>
 pK (oSlice (some 4) t10 none (some t13) none h14) fun t16=>
 C f_q03y [v0,(AI 15)] h14 fun t17 h18 y19=>
 condB t17 (pK (oLen t16) fun t20=>
 C f_q040 [v0,t20] h18 fun t21 h22 y23=>
 wK (oBsl false none 3 (.str []) [(0,(.p (.str [118,111,108,116]))),(1,(.p (.str []))),(2,(.p (.str [122])))] h22) fun t24 h25 y26=>
 C f_q049 [v0,t24] h25 fun t27 h28 y29=>
 wK (oBsl false none 4 (.int .i64 0) [(0,(AI 0)),(1,(AI (-100000))),(2,(AI (-100001))),(3,(AI 20))] h28) fun t30 h31 y32=>
 C f_q042 [v0,t30] h31 fun t33 h34 y35=>
 wK (oBsl false none 3 (.int .i64 0) [(0,(AI 10)),(1,(AI 100000)),(2,(AI 100001))] h34) fun t36 h37 y38=>
 C f_q042 [v0,t36] h37 fun t39 h40 y41=>
 C f_q041 [v0,(AI 2),(AI 100)] h40 fun t42 h43 y44=>
 pK (oBuild [.p (.str []),.p (.int .i64 0),.p (.int .i64 0),.p (.int .i64 0)] [(0,1,t27),(1,1,t33),(2,1,t39),(3,1,t42)]) fun t45=>
 pK (oIaddr (some 4) t16 t21 h43) fun t46=>
 wK (oStore (some 4) t46 t45 h43) fun t47 h48 y49=>
 NW C gl q1 ⟨[(3,t16)],h48,(y49 ++ (y44 ++ (y41 ++ (y38 ++ (y35 ++ (y32 ++ (y29 ++ (y26 ++ (y23 ++ (y19 ++ (y15 ++ (y12 ++ (y7 ++ (y4 ++ x))))))))))))))⟩ K)
 (NW C gl q1 ⟨[(0,v0),(3,t16),(15,t17)],h18,(y19 ++ (y15 ++ (y12 ++ (y7 ++ (y4 ++ x)))))⟩ K)
theorem E_q03z {C gl q1 v0 h x K} : NW C gl (P_q03z q1) ⟨enter [v0],h,x⟩ K = d_q03z C gl q1 v0 h x K:=by kernel_rfl
theorem e_q03z {C gl v0 h x K} : NW C gl a_q03z.body ⟨enter [v0],h,x⟩ K = d_q03z C gl p_q03z_k1 v0 h x K:=E_q03z
def p_q04d_k1 : ACode:=.pr [0,13,14,15] (.seq (rg [bN 16 .lss 15 14] [0,13,14,15,16])
(.seq (.cond 16 .skip
(.exit 1))
(.seq (.block 2 (.seq (rg [mV 17 15,
iA 18 (some 4) 13 15,
lD 19 (some 4) 18,
uO 4 (.alloc [.p (.str []),.p (.int .i64 0),.p (.int .i64 0),.p (.int .i64 0)]),
mV 3 17,
wO (.store (some 4) 4 19)] [0,3,4,13,14,15])
(.block 3 (.seq (rg [fA 21 0 none 4,
lD 22 none 21,
cL 23 f_q04c [22],
uO 24 (.un .not 23),
mV 20 24] [0,3,4,13,14,15,20])
(.cond 20 (.seq (rg [mV 2 (cI 5)] [2])
.ret)
(.seq (dr [dF (mV 26 0) [0],
dF (mV 27 3) [3],
dF (uO 28 (.slice (some 4) 26 none (some 27) none)) [26,27],
dF (fA 29 0 none 4) [4],
dF (lD 30 none 29) [29],
dT (cL 31 f_q04j [28,30]) [28,30],
dF (bN 32 .geq 31 (cI 0)) [31],
dF (mV 25 32) [32]] [0,4,13,14,15,25])
(.cond 25 (.seq (rg [mV 2 (cI 6)] [2])
.ret)
(.seq (rg [fA 34 1 none 4,
lD 35 none 34,
fA 36 2 none 4,
lD 37 none 36,
cL 38 f_q04s [35,(cI (-100000)),37],
uO 39 (.un .not 38),
mV 40 39,
gD 41 40 false (.faddr 2 none 4),
gD 42 40 false (.load none 41),
gD 43 40 false (.bin .gtr 42 (cI 100000)),
uO 44 (.pick 40 cT 43),
mV 45 44,
gD 46 45 false (.faddr 3 none 4),
gD 47 45 false (.load none 46),
gD 48 45 false (.call f_q04s [47,(cI 2),(cI 100)]),
gD 49 45 false (.un .not 48),
uO 50 (.pick 45 cT 49),
mV 33 50] [0,13,14,15,33])
(.cond 33 (.seq (rg [mV 2 (cI 1)] [2])
.ret)
.skip)))))))))
(rg [bN 51 .add 15 (cI 1),
mV 15 51] [0,13,14,15]))))
def d_q04d_k1 (C : Hd) (gl : GL) (v0 v13 v14 v15 : AV) (h : Heap) (x : Esc) (K : KT) : Prop:=
 pK (oBin .lss v15 v14) fun t1=>
 condB t1 (pK (oIaddr (some 4) v13 v15 h) fun t2=>
 pK (oLoad (some 4) t2 h) fun t3=>
 alK [.p (.str []),.p (.int .i64 0),.p (.int .i64 0),.p (.int .i64 0)] h fun t4 h5 y6=>
 wK (oStore (some 4) t4 t3 h5) fun t7 h8 y9=>
 pK (oFaddr 0 none t4) fun t10=>
 pK (oLoad none t10 h8) fun t11=>
 C f_q04c [t11] h8 fun t12 h13 y14=>
 pK (oUn .not t12) fun t15=>
 condB t15 (K .ret ⟨[(2,(AI 5))],h13,(y14 ++ (y9 ++ (y6 ++ x)))⟩)
 (pK (oSlice (some 4) v0 none (some v15) none h13) fun t16=>
 pK (oFaddr 0 none t4) fun t17=>
 pK (oLoad none t17 h13) fun t18=>
 callE C f_q04j [t16,t18] h13 fun t19 h20 y21=>
 pK (oBin .geq t19 (AI 0)) fun t22=>
 condB t22 (K .ret ⟨[(2,(AI 6))],h20,(y21 ++ (y14 ++ (y9 ++ (y6 ++ x))))⟩)
 (pK (oFaddr 1 none t4) fun t23=>
 pK (oLoad none t23 h20) fun t24=>
 pK (oFaddr 2 none t4) fun t25=>
 pK (oLoad none t25 h20) fun t26=>
 C f_q04s [t24,(AI (-100000)),t26] h20 fun t27 h28 y29=>
 pK (oUn .not t27) fun t30=>
 gP t30 false (oFaddr 2 none t4) h28 fun t31 h32 y33=>
 gP t30 false (oLoad none t31 h32) h32 fun t34 h35 y36=>
 gP t30 false (oBin .gtr t34 (AI 100000)) h35 fun t37 h38 y39=>
 pK (oPick t30 (AB true) t37) fun t40=>
 gP t40 false (oFaddr 3 none t4) h38 fun t41 h42 y43=>
 gP t40 false (oLoad none t41 h42) h42 fun t44 h45 y46=>
 gV t40 false h45 (C f_q04s [t44,(AI 2),(AI 100)] h45) fun t47 h48 y49=>
 gP t40 false (oUn .not t47) h48 fun t50 h51 y52=>
 pK (oPick t40 (AB true) t50) fun t53=>
 condB t53 (K .ret ⟨[(2,(AI 1))],h51,(y52 ++ (y49 ++ (y46 ++ (y43 ++ (y39 ++ (y36 ++ (y33 ++ (y29 ++ (y21 ++ (y14 ++ (y9 ++ (y6 ++ x))))))))))))⟩)
 (pK (oBin .add v15 (AI 1)) fun t54=>
 K .normal ⟨[(0,v0),(13,v13),(14,v14),(15,t54)],h51,(y52 ++ (y49 ++ (y46 ++ (y43 ++ (y39 ++ (y36 ++ (y33 ++ (y29 ++ (y21 ++ (y14 ++ (y9 ++ (y6 ++ x))))))))))))⟩))))
 (K (.exit 1) ⟨[(0,v0),(13,v13),(14,v14),(15,v15),(16,t1)],h,x⟩)
theorem e_q04d_k1 {C gl e h x K} : NW C gl p_q04d_k1 ⟨e,h,x⟩ K = d_q04d_k1 C gl (aget e 0) (aget e 13) (aget e 14) (aget e 15) h x K:=by kernel_rfl
theorem l_q04d_k1 {C gl e h x K} : NW C gl (.loop (.scope p_q04d_k1)) ⟨e,h,x⟩ K = NLoop C gl (.scope p_q04d_k1) K [(0,aget e 0),(13,aget e 13),(14,aget e 14),(15,aget e 15)] h x:=NLoop_sc
def p_q04d_k2 : ACode:=.pr [] (.seq (rg [mV 2 (cI 0)] [2])
.ret)
def d_q04d_k2 (C : Hd) (gl : GL) (h : Heap) (x : Esc) (K : KT) : Prop:=
 K .ret ⟨[(2,(AI 0))],h,x⟩
theorem e_q04d_k2 {C gl e h x K} : NW C gl p_q04d_k2 ⟨e,h,x⟩ K = d_q04d_k2 C gl h x K:=by kernel_rfl
def P_q04d (q1 q2 : ACode) : ACode:=(.seq (rg [mV 2 (cI 0)] [0])
(.seq (.block 0 (.seq (rg [mV 6 0,
lN 7 6,
bN 8 .eql 7 (cI 0),
mV 5 8] [0,5])
(.cond 5 (.seq (rg [mV 2 (cI 8)] [2])
.ret)
(.seq (rg [mV 10 0,
lN 11 10,
bN 12 .gtr 11 (cI 100),
mV 9 12] [0,9])
(.cond 9 (.seq (rg [mV 2 (cI 2)] [2])
.ret)
.skip)))))
(.seq (.seq (rg [mV 13 0,
lN 14 13,
mV 15 (cI 0)] [0,13,14,15])
(.block 1 (.loop (.scope q1))))
q2)))
def a_q04d : AFun:=⟨1,[.t 2],P_q04d p_q04d_k1 p_q04d_k2,false,false⟩
def d_q04d (C : Hd) (gl : GL) (q1 q2 : ACode) (v0 : AV) (h : Heap) (x : Esc) (K : KT) : Prop:=
 pK (oLen v0) fun t1=>
 pK (oBin .eql t1 (AI 0)) fun t2=>
 condB t2 (K .ret ⟨[(2,(AI 8))],h,x⟩)
 (pK (oLen v0) fun t3=>
 pK (oBin .gtr t3 (AI 100)) fun t4=>
 condB t4 (K .ret ⟨[(2,(AI 2))],h,x⟩)
 (pK (oLen v0) fun t5=>
 NW C gl (.loop (.scope q1)) ⟨[(0,v0),(13,v0),(14,t5),(15,(AI 0))],h,x⟩ (blockN 1 (seqN C gl q2 K))))
theorem E_q04d {C gl q1 q2 v0 h x K} : NW C gl (P_q04d q1 q2) ⟨enter [v0],h,x⟩ K = d_q04d C gl q1 q2 v0 h x K:=by kernel_rfl
theorem e_q04d {C gl v0 h x K} : NW C gl a_q04d.body ⟨enter [v0],h,x⟩ K = d_q04d C gl p_q04d_k1 p_q04d_k2 v0 h x K:=E_q04d
end Go.Am
end
