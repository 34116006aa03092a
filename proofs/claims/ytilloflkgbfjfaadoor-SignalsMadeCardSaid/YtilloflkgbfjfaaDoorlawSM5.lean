/- Texts of the proof, laid together: Am28, Am29, Am30, Am31, AmX, AmS, CodesA. -/
import GoSem.Extern.Table
import Derived.Laws.World
import Derived.KernelRfl
import Derived.Test.YtilloflkgbfjfaaDoorlawSM4
set_option linter.all false
section
/- The abstract machine,part 28: where no map is ranged over,a call that ends well ends in one way. -/
set_option linter.unusedSimpArgs false
set_option linter.unusedVariables false
namespace Go.Am
def AO.noNext : AO → Bool
  | .mnext _ _=>false
  | _=>true
def ACode.noNext : ACode → Bool
  | .reg ops _=>ops.all fun o=>o.op.noNext
  | .seq a b=>a.noNext && b.noNext
  | .cond _ a b=>a.noNext && b.noNext
  | .condu _ _ _=>false
  | .det _=>false
  | .block _ b=>b.noNext
  | .loop b=>b.noNext
  | .scope b=>b.noNext
  | .pr _ b=>b.noNext
  | _=>true
def Dt (C D : Hd) : Prop:=∀ f a h K,C f a h K → ∃ v h' x,K v h' x ∧ D f a h fun v1 h1 x1=>v1 = v ∧ h1 = h' ∧ x1 = x
variable {C D : Hd} {gl : Nat → Option PV}
theorem AReg_det (hD : D.Mono) (hC : Dt C D) : ∀ (ops : List AOp) e h x K,(ops.all fun o=>o.op.noNext) = true → AReg C gl ops e h x K → ∃ e' h' x',K e' h' x' ∧ AReg D gl ops e h x fun e1 h1 x1=>e1 = e' ∧ h1 = h' ∧ x1 = x'
  | [],e,h,x,K,_,H=>⟨e,h,x,H,rfl,rfl,rfl⟩
  | o :: r,e,h,x,K,hn,H=>by
    obtain ⟨dst,guard,op⟩:=o
    simp only [List.all_cons,Bool.and_eq_true] at hn
    obtain ⟨hn1,hn2⟩:=hn
    unfold AReg at H
    dsimp only at H
    split at H
    · rename_i hw
      cases op
      case call f args=>
        obtain ⟨v,h',x',H',G'⟩:=hC _ _ _ _ H
        obtain ⟨e2,h2,x2,k2,g2⟩:=AReg_det hD hC r _ _ _ K hn2 H'
        refine ⟨e2,h2,x2,k2,?_⟩
        unfold AReg; simp only [hw]
        exact hD _ _ _ _ _ (fun v1 h1 x1 ⟨a1,a2,a3⟩=>by subst a1; subst a2; subst a3; exact g2) G'
      case callv f args=>
        dsimp only at H
        split at H
        · rename_i hf
          obtain ⟨v,h',x',H',G'⟩:=hC _ _ _ _ H
          obtain ⟨e2,h2,x2,k2,g2⟩:=AReg_det hD hC r _ _ _ K hn2 H'
          refine ⟨e2,h2,x2,k2,?_⟩
          unfold AReg; simp only [hw,hf]
          exact hD _ _ _ _ _ (fun v1 h1 x1 ⟨a1,a2,a3⟩=>by subst a1; subst a2; subst a3; exact g2) G'
        · exact H.elim
      case mnext sh xs=>simp [AO.noNext] at hn1
      all_goals
        dsimp only at H
        split at H
        · rename_i ha
          obtain ⟨e2,h2,x2,k2,g2⟩:=AReg_det hD hC r _ _ _ K hn2 H
          refine ⟨e2,h2,x2,k2,?_⟩
          unfold AReg; simp only [hw,ha]
          exact g2
        · exact H.elim
    · rename_i hw
      obtain ⟨e2,h2,x2,k2,g2⟩:=AReg_det hD hC r _ _ _ K hn2 H
      refine ⟨e2,h2,x2,k2,?_⟩
      unfold AReg; simp only [hw]
      exact g2
    · exact H.elim
theorem ADo_of_det (hD : D.Mono) (hC : Dt C D) {o : AOp} {e : List (Nat × AV)} {h h' : Heap} {v : AV} {x : Esc} (H : ADo C gl o e h v h' x) : ADo D gl o e h v h' x:=by
  have key : ∀ f a h,C f a h (fun v1 h1 x1=>v1 = v ∧ h1 = h' ∧ x1 = x) → D f a h (fun v1 h1 x1=>v1 = v ∧ h1 = h' ∧ x1 = x):=fun f a h hc=>by
    obtain ⟨v2,h2,x2,⟨e1,e2,e3⟩,hd⟩:=hC _ _ _ _ hc
    subst e1; subst e2; subst e3
    exact hd
  unfold ADo at H ⊢
  split at H
  · split at H
    · exact key _ _ _ H
    · split at H
      · exact key _ _ _ H
      · exact H.elim
    · exact H.elim
    · exact H
  · exact H
  · exact H.elim
theorem ADraw_det (hD : D.Mono) (hC : Dt C D) : ∀ (ds : List DOp) dn hs e h x K,ADraw C gl ds dn hs e h x K → ∃ e' h' x',K e' h' x' ∧ ADraw D gl ds dn hs e h x fun e1 h1 x1=>e1 = e' ∧ h1 = h' ∧ x1 = x'
  | [],dn,hs,e,h,x,K,H=>⟨e,h,x,H,rfl,rfl,rfl⟩
  | o :: r,dn,hs,e,h,x,K,H=>by
    obtain ⟨v,h',y,h1,h2,h3,h4,h5⟩:=H
    obtain ⟨e2,q2,x2,k2,g2⟩:=ADraw_det hD hC r _ _ _ _ _ K h5
    exact ⟨e2,q2,x2,k2,v,h',y,ADo_of_det hD hC h1,h2,fun k hk=>by obtain ⟨g,a1,a2⟩:=h3 k hk; exact ⟨g,a1,ADo_of_det hD hC a2⟩,
      fun j hj=>by obtain ⟨q,a1,a2⟩:=h4 j hj; exact ⟨q,a1,ADo_of_det hD hC a2⟩,g2⟩
theorem ALoop_det {T U : St → (Ex → St → Prop) → Prop} (hT : ∀ s K,T s K → ∃ e s',K e s' ∧ U s fun e1 s1=>e1 = e ∧ s1 = s') {K : Ex → St → Prop} {s : St} (H : ALoop T K s) : ∃ e s',K e s' ∧ ALoop U (fun e1 s1=>e1 = e ∧ s1 = s') s:=by
  induction H with
  | mk s R h hn he hr ih=>
    obtain ⟨e,s',hR,hU⟩:=hT _ _ h
    cases e with
    | normal=>
      obtain ⟨e2,s2,k2,g2⟩:=ih s' hR
      exact ⟨e2,s2,k2,.mk _ _ hU (fun s1 ⟨_,h1⟩=>by subst h1; exact g2) (fun i s1 ⟨h1,_⟩=>by cases h1) (fun s1 ⟨h1,_⟩=>by cases h1)⟩
    | exit i=>exact ⟨_,_,he i s' hR,.mk _ _ hU (fun s1 ⟨h1,_⟩=>by cases h1) (fun j s1 h1=>h1) (fun s1 ⟨h1,_⟩=>by cases h1)⟩
    | ret=>exact ⟨_,_,hr s' hR,.mk _ _ hU (fun s1 ⟨h1,_⟩=>by cases h1) (fun j s1 ⟨h1,_⟩=>by cases h1) (fun s1 h1=>h1)⟩
theorem AW_det (hD : D.Mono) (hC : Dt C D) : ∀ (c : ACode),c.noNext = true → ∀ s K,AW C gl c s K → ∃ e s',K e s' ∧ AW D gl c s fun e1 s1=>e1 = e ∧ s1 = s'
  | .skip,_,s,K,H=>⟨_,_,H,rfl,rfl⟩
  | .reg ops keep,hn,s,K,H=>by
    obtain ⟨e,h,x,h1,h2⟩:=AReg_det hD hC ops _ _ _ _ hn H
    refine ⟨_,_,h1,?_⟩
    show AReg D gl ops s.env s.h s.esc fun e1 h1 x1=>_
    exact AReg_mono (C:=D) (C':=D) (fun f a h K K' hK h=>hD _ _ _ _ _ hK h) ops _ _ _ _ _ (fun e1 h1 x1 ⟨a1,a2,a3⟩=>by subst a1; subst a2; subst a3; exact ⟨rfl,rfl⟩) h2
  | .draw ds keep,_,s,K,H=>by
    obtain ⟨e,h,x,h1,h2⟩:=ADraw_det hD hC ds _ _ _ _ _ _ H
    refine ⟨_,_,h1,?_⟩
    show ADraw D gl ds [] [] s.env s.h s.esc fun e1 h1 x1=>_
    exact ADraw_mono (C:=D) (C':=D) (fun f a h K K' hK h=>hD _ _ _ _ _ hK h) ds _ _ _ _ _ _ _ (fun e1 h1 x1 ⟨a1,a2,a3⟩=>by subst a1; subst a2; subst a3; exact ⟨rfl,rfl⟩) h2
  | .seq a b,hn,s,K,H=>by
    simp only [ACode.noNext,Bool.and_eq_true] at hn
    obtain ⟨e,s',h1,h2⟩:=AW_det hD hC a hn.1 _ _ H
    have mono:=fun (K K' : Ex → St → Prop) (hK : ∀ e s,K e s → K' e s)=>AW_mono (C:=D) (C':=D) (gl:=gl) (fun f a h K K' hK h=>hD _ _ _ _ _ hK h) a s K K' hK
    cases e with
    | normal=>
      obtain ⟨e2,s2,k2,g2⟩:=AW_det hD hC b hn.2 _ _ h1
      refine ⟨e2,s2,k2,mono _ _ (fun e1 s1 ⟨a1,a2⟩=>?_) h2⟩
      subst a1; subst a2; exact g2
    | exit i=>exact ⟨_,_,h1,mono _ _ (fun e1 s1 ⟨a1,a2⟩=>by subst a1; subst a2; exact ⟨rfl,rfl⟩) h2⟩
    | ret=>exact ⟨_,_,h1,mono _ _ (fun e1 s1 ⟨a1,a2⟩=>by subst a1; subst a2; exact ⟨rfl,rfl⟩) h2⟩
  | .condu c a b,hn,s,K,H=>by cases hn
  | .det b,hn,s,K,H=>by cases hn
  | .cond c a b,hn,s,K,H=>by
    simp only [ACode.noNext,Bool.and_eq_true] at hn
    unfold AW at H
    split at H
    · rename_i t ht
      split at H
      · obtain ⟨e, s', h1, h2⟩ := AW_det hD hC a hn.1 _ _ H
        refine ⟨e,s',h1,?_⟩
        unfold AW; simp only [ht]; exact h2
      · obtain ⟨e, s', h1, h2⟩ := AW_det hD hC b hn.2 _ _ H
        refine ⟨e,s',h1,?_⟩
        unfold AW; simp only [ht]; exact h2
    · exact H.elim
  | .block id b,hn,s,K,H=>by
    obtain ⟨e,s',h1,h2⟩:=AW_det hD hC b hn _ _ H
    have mono:=fun (K K' : Ex → St → Prop) (hK : ∀ e s,K e s → K' e s)=>AW_mono (C:=D) (C':=D) (gl:=gl) (fun f a h K K' hK h=>hD _ _ _ _ _ hK h) b s K K' hK
    cases e with
    | normal=>exact ⟨_,_,h1,mono _ _ (fun e1 s1 ⟨a1,a2⟩=>by subst a1; subst a2; exact ⟨rfl,rfl⟩) h2⟩
    | exit i=>
      dsimp only at h1
      split at h1
      · rename_i hi
        exact ⟨_,_,h1,mono _ _ (fun e1 s1 ⟨a1,a2⟩=>by subst a1; subst a2; dsimp only; rw [if_pos hi]; exact ⟨rfl,rfl⟩) h2⟩
      · rename_i hi
        exact ⟨_,_,h1,mono _ _ (fun e1 s1 ⟨a1,a2⟩=>by subst a1; subst a2; dsimp only; rw [if_neg hi]; exact ⟨rfl,rfl⟩) h2⟩
    | ret=>exact ⟨_,_,h1,mono _ _ (fun e1 s1 ⟨a1,a2⟩=>by subst a1; subst a2; exact ⟨rfl,rfl⟩) h2⟩
  | .loop b,hn,s,K,H=>ALoop_det (fun s K h=>AW_det hD hC b hn s K h) H
  | .scope b,hn,s,K,H=>by
    obtain ⟨e,s',h1,h2⟩:=AW_det hD hC b hn _ _ H
    exact ⟨_,_,h1,AW_mono (C:=D) (C':=D) (gl:=gl) (fun f a h K K' hK h=>hD _ _ _ _ _ hK h) b _ _ _ (fun e1 s1 ⟨a1,a2⟩=>by subst a1; subst a2; exact ⟨rfl,rfl⟩) h2⟩
  | .pr l b,hn,s,K,H=>AW_det hD hC b hn _ K H
  | .exit id,_,s,K,H=>⟨_,_,H,rfl,rfl⟩
  | .ret,_,s,K,H=>⟨_,_,H,rfl,rfl⟩
  | .bad,_,s,K,H=>H.elim
theorem fin_det {F : AFun} {b : Nat} {s : St} {K : Post} (H : fin F b s K) : ∃ v h x,K v h x ∧ fin F b s fun v1 h1 x1=>v1 = v ∧ h1 = h ∧ x1 = x:=by
  unfold fin at H
  cases h1 : aresAll s F.results with
  | none=>rw [h1] at H; exact H.elim
  | some vs=>
    rw [h1] at H
    dsimp only at H
    cases h2 : F.keep with
    | true=>
      rw [h2] at H
      dsimp only at H
      by_cases h3 : closed s.esc (close (List.length s.esc) s.esc (max b (oneOf vs).top)) = true
      · rw [if_pos h3] at H
        exact ⟨_,_,_,H,by unfold fin; rw [h1]; dsimp only; rw [h2]; dsimp only; rw [if_pos h3]; exact ⟨rfl,rfl,rfl⟩⟩
      · rw [if_neg h3] at H
        exact ⟨_,_,_,H,by unfold fin; rw [h1]; dsimp only; rw [h2]; dsimp only; rw [if_neg h3]; exact ⟨rfl,rfl,rfl⟩⟩
    | false=>
      rw [h2] at H
      dsimp only at H
      cases h4 : reif b s.h (oneOf vs) with
      | none=>rw [h4] at H; exact H.elim
      | some v0=>
        rw [h4] at H
        dsimp only at H
        by_cases h3 : closed s.esc (close (List.length s.esc) s.esc (max b v0.top)) = true
        · rw [if_pos h3] at H
          cases h5 : reif (close (List.length s.esc) s.esc (max b v0.top)) s.h (oneOf vs) with
          | none=>rw [h5] at H; exact H.elim
          | some v=>
            rw [h5] at H
            exact ⟨_,_,_,H.2,by unfold fin; rw [h1]; dsimp only; rw [h2]; dsimp only; rw [h4]; dsimp only; rw [if_pos h3,h5]; exact ⟨H.1,rfl,rfl,rfl⟩⟩
        · rw [if_neg h3] at H
          exact ⟨_,_,_,H,by unfold fin; rw [h1]; dsimp only; rw [h2]; dsimp only; rw [h4]; dsimp only; rw [if_neg h3]; exact ⟨rfl,rfl,rfl⟩⟩
def Ctx.NoNext (X : Ctx) : Prop:=∀ f F,X.fn f = some F → (F.isDet || F.body.noNext) = true
theorem abody_det (hD : D.Mono) (hC : Dt C D) {F : AFun} {a : List AV} {h : Heap} {K : Post} (hb : F.body.noNext = true) (H : abody C gl F a h K) : ∃ v h' x,K v h' x ∧ abody D gl F a h fun v1 h1 x1=>v1 = v ∧ h1 = h' ∧ x1 = x:=by
  unfold abody at H ⊢
  cases hp : (if F.byref then some (a,h) else puras h a) with
  | none=>rw [hp] at H; exact H.elim
  | some q=>
    obtain ⟨asv,h1⟩:=q
    rw [hp] at H
    obtain ⟨hl,H⟩:=H
    obtain ⟨e,s',k1,g1⟩:=AW_det hD hC _ hb _ _ H
    have mono:=fun (K K' : Ex → St → Prop) (hK : ∀ e s,K e s → K' e s)=>AW_mono (C:=D) (C':=D) (gl:=gl) (fun f a h K K' hK h=>hD _ _ _ _ _ hK h) F.body ⟨enter asv,h1,[]⟩ K K' hK
    cases e with
    | exit i=>exact k1.elim
    | normal=>
      obtain ⟨v,h',x,k2,g2⟩:=fin_det k1
      exact ⟨v,h',x,k2,hl,mono _ _ (fun e1 s1 ⟨a1,a2⟩=>by subst a1; subst a2; exact g2) g1⟩
    | ret=>
      obtain ⟨v,h',x,k2,g2⟩:=fin_det k1
      exact ⟨v,h',x,k2,hl,mono _ _ (fun e1 s1 ⟨a1,a2⟩=>by subst a1; subst a2; exact g2) g1⟩
theorem ACall_det {X : Ctx} (hX : X.NoNext) : Dt (ACall X) (ACall X):=by
  intro f a h K H
  refine H (fun f a h K=>∃ v h' x,K v h' x ∧ ACall X f a h fun v1 h1 x1=>v1 = v ∧ h1 = h' ∧ x1 = x) ?_ ?_
  · intro f a h K K' hK ⟨v, h', x, k, g⟩
    exact ⟨v,h',x,hK _ _ _ k,g⟩
  · intro f a h K H
    have hC : Dt (fun f a h K=>∃ v h' x,K v h' x ∧ ACall X f a h fun v1 h1 x1=>v1 = v ∧ h1 = h' ∧ x1 = x) (ACall X):=fun f a h K H=>H
    have hD:=ACall.mono X
    unfold Step at H
    split at H
    · rename_i F hF
      unfold fbody at H
      cases hd : F.isDet with
      | true=>
        rw [hd] at H
        obtain ⟨v,h',x,k,H⟩:=H
        refine ⟨v,h',x,k,ACall.fold ?_⟩
        unfold Step
        simp only [hF,fbody,hd]
        exact ⟨v,h',x,⟨rfl,rfl,rfl⟩,abody_mono (fun f a h K K' hK ⟨v2,h2,x2,k2,g2⟩=>hD _ _ _ _ _ (fun v1 h1 x1 hv=>by obtain ⟨rfl,rfl,rfl⟩:=hv; exact hK _ _ _ k2) g2) (fun _ _ _ h=>h) H⟩
      | false=>
        rw [hd] at H
        obtain ⟨v,h',x,k1,g1⟩:=abody_det hD hC (by have:=hX f F hF; rw [hd] at this; simpa using this) H
        refine ⟨v,h',x,k1,ACall.fold ?_⟩
        unfold Step; simp only [hF,fbody,hd]
        exact g1
    · rename_i hF
      split at H
      · rename_i hx2
        refine ⟨_,_,_,H,ACall.fold ?_⟩
        unfold Step; simp only [hF,hx2]
        exact ⟨trivial,trivial,trivial⟩
      · rename_i hx2
        split at H
        · rename_i hp
          split at H
          · rename_i hu
            split at H
            · rename_i hx
              refine ⟨_,_,_,H,ACall.fold ?_⟩
              unfold Step; simp only [hF,hx2,hp,hu,hx]
              exact ⟨trivial,trivial,trivial⟩
            · exact H.elim
          · exact H.elim
        · exact H.elim
theorem ACall.one {X : Ctx} (hX : X.NoNext) {f : Nat} {a : List AV} {h : Heap} {Q : Post} (H : ACall X f a h Q) : ∃ v h' x,Q v h' x ∧ ∀ K : Post,ACall X f a h K = K v h' x:=by
  obtain ⟨v,h',x,k,g⟩:=ACall_det hX _ _ _ _ H
  exact ⟨v,h',x,k,fun K=>rule g⟩
end Go.Am
end
section
/- The abstract machine,part 29: its meaning once more,spelt so that a function's code can be printed asv a formula over its values (shallow),equal tov the deep one by computing. -/
set_option linter.unusedSimpArgs false
set_option linter.unusedVariables false
namespace Go.Am
def pK (o : Option AV) (k : AV → Prop) : Prop:=match o with
  | some v=>k v
  | none=>False
def wK (o : Option (AV × Heap × Esc)) (k : AV → Heap → Esc → Prop) : Prop:=match o with
  | some y=>k y.1 y.2.1 y.2.2
  | none=>False
def oPick (c a b : AV) : Option AV:=match c with
  | .p (.bool t)=>some (bif t then a else b)
  | _=>none
def oBox (x : AV) (h : Heap) : Option (AV × Heap × Esc):=match x.cells with
  | some cs=>some (.ref h.length 0,h ++ [.box cs],[])
  | none=>none
def fillV : List (Nat × Nat × AV) → List AV → Option (List AV)
  | [],cs=>some cs
  | (off,n,x) :: r,cs=>match x.cells with
    | some vs=>if vs.length = n ∧ off + n ≤ cs.length then fillV r (splice cs off vs) else none
    | none=>none
def oBuild (z : List AV) (ps : List (Nat × Nat × AV)) : Option AV:=(fillV ps z).map mkA
def fillW (sh : Sh) : List (Nat × AV) → Heap → List PV → Option (List PV × Heap)
  | [],h,xs=>some (xs,h)
  | (i,x) :: r,h,xs=>match pur h x with
    | some (v,h')=>if v.shp sh ∧ i < xs.length then fillW sh r h' (xs.set i v) else none
    | none=>none
def oBsl (own : Bool) (sh : Sh) (n : Nat) (z : PV) (ps : List (Nat × AV)) (h : Heap) : Option (AV × Heap × Esc):=match fillW sh ps h (List.replicate n z) with
  | some (xs,h')=>if !z.shp sh then none else some (bif own then (.own h'.length n 0 n,h' ++ [.row sh xs 0],[]) else (.p (.sl sh xs),h',[]))
  | none=>none
def oLoad (sh : Sh) (a : AV) (h : Heap) : Option AV:=match a with
  | .ref id off=>match h[id]? with
    | some (.box cs)=>cut sh off cs
    | _=>none
  | .rref id g i off=>match h[id]? with
    | some (.row _ xs _)=>if g = xs.length then ((xs[i]?).bind (cutP sh off)).map .p else none
    | _=>none
  | .vp v=>(cutP sh 0 v).map .p
  | .bt k off id g=>ldA sh k off id g h
  | _=>none
def oStore (sh : Sh) (a x : AV) (h : Heap) : Option (AV × Heap × Esc):=match a with
  | .ref id off=>match h[id]?,x.cells with
    | some (.box cs),some vs=>if vs.length = shSize sh ∧ off + vs.length ≤ cs.length then some (.und,h.set id (.box (splice cs off vs)),escS id cs x) else none
    | _,_=>none
  | .rref id g i off=>match pur h x with
    | some (v,h1)=>match h1[id]? with
      | some (.row rsh xs fz)=>if g = xs.length ∧ fz ≤ i ∧ v.cells.length = shSize sh ∧ v.cells.all PV.sc then match xs[i]? with
        | some (.agg cs)=>if off + v.cells.length ≤ cs.length then some (.und,h1.set id (.row rsh (xs.set i (.agg (splice cs off v.cells))) fz),[]) else none
        | some _=>if off = 0 ∧ v.sc then some (.und,h1.set id (.row rsh (xs.set i v) fz),[]) else none
        | none=>none
        else none
      | _=>none
    | none=>none
  | .bt k off id g=>stA sh k off id g x h
  | _=>none
def oNil (x : AV) : Option AV:=match x with
  | .ref _ _ | .rref _ _ _ _ | .vp _ | .fn _ _=>some x
  | .bt k _ _ _=>nlA k x
  | _=>none
def oBin (op : BinOp) (x y : AV) : Option AV:=match x,y with
  | .p a,.p b=>(abin op a b).map .p
  | _,_=>none
def oEqa (ks : List Nat) (neg : Bool) (x y : AV) : Option AV:=match x,y with
  | .p (.agg asv),.p (.agg bs)=>if asv.map PV.kind = ks ∧ bs.map PV.kind = ks ∧ ks ≠ [] then (eqs asv bs).map fun t=>pbool (bif neg then !t else t) else none
  | .p (.bool a),.p (.bool b)=>if ks = [] then some (pbool (bif neg then !decide (a = b) else decide (a = b))) else none
  | _,_=>none
def oIsnil (k : Nat) (neg : Bool) (x : AV) : Option AV:=bif nilAny k x then some .anyb else (nilOf k x).map fun r=>pbool (bif neg then !r else r)
def oMkif (x : AV) : Option AV:=if okIn x then some .ifc else none
def oUn (op : UnOp) (x : AV) : Option AV:=match x with
  | .p a=>(aun op a).map .p
  | _=>none
def oConv (c : Cv) (x : AV) (h : Heap) : Option (AV × Heap × Esc):=(aconv h c x).map fun y=>(y.1,y.2,[])
def oConvI (k : IntKind) (x : AV) : Option AV:=match x with
  | .p (.int _ n)=>some (.p (.int k (k.wrap n)))
  | _=>none
def oMksl (sh : Sh) (z : PV) (len cap : AV) (h : Heap) : Option (AV × Heap × Esc):=match natOf len,natOf cap with
  | some n,some m=>if n ≤ m ∧ m ≤ maxSl ∧ z.shp sh then some (.own h.length n 0 n,h ++ [.row sh (List.replicate n z) 0],[]) else none
  | _,_=>none
def bndV (d : Nat) : Option AV → Option Nat
  | none=>some d
  | some x=>natOf x
def oSlstr (x : AV) (lo hi : Option AV) : Option AV:=match x with
  | .p (.str s)=>match bndV 0 lo,bndV s.length hi with
    | some l,some r=>if l ≤ r ∧ r ≤ s.length then some (.p (.str (win s l (r - l)))) else none
    | _,_=>none
  | _=>none
def oSlice (sh : Sh) (x : AV) (lo hi mx : Option AV) (h : Heap) : Option AV:=match x with
  | .p (.sl sh' xs)=>match bndV 0 lo,bndV xs.length hi,bndV xs.length mx with
    | some l,some r,some m=>if sh' = sh ∧ l ≤ r ∧ r ≤ m ∧ m ≤ xs.length then some (if mx.isSome ∧ m = l then .sl0 sh else .p (.sl sh (win xs l (r - l)))) else none
    | _,_,_=>none
  | .sl0 sh'=>match bndV 0 lo,bndV 0 hi,bndV 0 mx with
    | some l,some r,some m=>if l = 0 ∧ r = 0 ∧ m = 0 then some (.sl0 sh') else none
    | _,_,_=>none
  | .own id g off len=>match h[id]? with
    | some (.row rsh xs _)=>match bndV 0 lo,bndV len hi,bndV len mx with
      | some l,some r,some m=>if rsh = sh ∧ g = xs.length ∧ off + len ≤ xs.length ∧ l ≤ r ∧ r ≤ m ∧ m ≤ len then some (if mx.isSome ∧ m = l then .sl0 sh else .own id g (off + l) (r - l)) else none
      | _,_,_=>none
    | _=>none
  | _=>none
def oFaddr (off : Nat) (sh : Sh) (x : AV) : Option AV:=match x with
  | .ref id o=>some (.ref id (o + off))
  | .rref id g i o=>some (.rref id g i (o + off))
  | .vp v=>(cutP sh off v).map .vp
  | .bt k o id g=>faA k off o id g
  | _=>none
def oField (off : Nat) (sh : Sh) (x : AV) : Option AV:=match x with
  | .p v=>match v with
    | .agg _=>(cutP sh off v).map .p
    | _=>none
  | .agg cs=>cut sh off cs
  | _=>none
def oIaddr (sh : Sh) (x i : AV) (h : Heap) : Option AV:=match x,natOf i with
  | .p (.sl sh' xs),some k=>if sh' = sh then (xs[k]?).map .vp else none
  | .own id g off len,some k=>match h[id]? with
    | some (.row rsh xs _)=>if rsh = sh ∧ g = xs.length ∧ off + len ≤ xs.length ∧ k < len then some (.rref id g (off + k) 0) else none
    | _=>none
  | .bt kk _ id g,some k=>iaA sh kk id g k h
  | _,_=>none
def oIaddra (n : Nat) (sh : Sh) (x i : AV) : Option AV:=match x,natOf i with
  | .ref id o,some k=>if k < n then some (.ref id (o + k * shSize sh)) else none
  | .rref id g j o,some k=>if k < n then some (.rref id g j (o + k * shSize sh)) else none
  | .vp v,some k=>if k < n then (cutP sh (k * shSize sh) v).map .vp else none
  | _,_=>none
def oIdxa (n : Nat) (sh : Sh) (x i : AV) : Option AV:=match x,natOf i with
  | .p (.agg cs),some k=>if k < n then (cutP sh (k * shSize sh) (.agg cs)).map .p else none
  | _,_=>none
def oIdxs (x i : AV) : Option AV:=match x,natOf i with
  | .p (.str s),some k=>(s[k]?).map fun b=>.p (.int .u8 b.toNat)
  | _,_=>none
def oExt (x : AV) (i : Nat) : Option AV:=match x with
  | .tup vs=>vs[i]?
  | _=>none
def oLen (x : AV) : Option AV:=match x with
  | .p (.sl _ xs)=>some (pint xs.length)
  | .sl0 _=>some (pint 0)
  | .own _ _ _ len=>some (pint len)
  | .bt k _ _ g=>lnA k g
  | _=>none
def oLens (x : AV) : Option AV:=match x with
  | .p (.str s)=>some (pint s.length)
  | _=>none
def oApp (sh : Sh) (s x : AV) (h : Heap) : Option (AV × Heap × Esc):=match rds h x with
  | some (sh',ys)=>if sh' = sh then match s with
    | .sl0 _=>if ys.length ≤ maxSl then some (.own h.length ys.length 0 ys.length,h ++ [.row sh ys 0],[]) else none
    | .own id g off len=>match h[id]? with
      | some (.row rsh xs fz)=>if rsh = sh ∧ g = xs.length ∧ off = 0 ∧ len = xs.length ∧ len + ys.length ≤ maxSl ∧ fz ≤ xs.length then some (.own id (g + ys.length) off (len + ys.length),h.set id (.row sh (xs ++ ys) fz),[])
          else if rsh = sh ∧ g = xs.length ∧ off + len + ys.length ≤ xs.length ∧ fz ≤ off + len ∧ 1 ≤ ys.length ∧ len + ys.length ≤ maxSl ∧ sh = none ∧ xs.all PV.intP = true ∧ ys.all PV.intP = true then
            some (.p (.sl sh (win xs off len ++ ys)),h.set id (.row sh (splice xs (off + len) (List.replicate ys.length .unk)) (off + len + ys.length)),[])
          else none
      | _=>none
    | _=>none
    else none
  | none=>none
def oCopy (sh : Sh) (d s : AV) (h : Heap) : Option (AV × Heap × Esc):=match d,rds h s with
  | .own id g off len,some (sh',ys)=>match h[id]? with
    | some (.row rsh xs fz)=>if rsh = sh ∧ sh' = sh ∧ g = xs.length ∧ off + len ≤ xs.length ∧ fz ≤ off then
        some (pint (min ys.length len),h.set id (.row sh (splice xs off (ys.take (min ys.length len))) fz),[])
      else none
    | _=>none
  | _,_=>none
def oClr (sh : Sh) (z : PV) (x : AV) (h : Heap) : Option (AV × Heap × Esc):=match x with
  | .sl0 _=>some (.tup [],h,[])
  | .own id g off len=>match h[id]? with
    | some (.row rsh xs fz)=>if rsh = sh ∧ g = xs.length ∧ off + len ≤ xs.length ∧ fz ≤ off then
        some (.tup [],h.set id (.row sh (splice xs off (List.replicate len z)) fz),[])
      else none
    | _=>none
  | _=>none
def oMx (xs : List AV) : Option AV:=match xs with
  | .p a :: r=>((unp r).bind fun l=>l.foldlM amax2 a).map .p
  | _=>none
def oMn (xs : List AV) : Option AV:=match xs with
  | .p a :: r=>((unp r).bind fun l=>l.foldlM amin2 a).map .p
  | _=>none
def oLook (kk : Sh × List Nat) (ok : Bool) (z x k : AV) (h : Heap) : Option AV:=match keyOf kk k with
  | some key=>match (match x with | .nilm=>some [] | m=>(mget h m).map fun y=>y.2.1) with
    | some es=>match mfind key es with
      | some r=>
        let v:=((r.bind (es[·]?)).map ME.val)
        some (bif ok then .tup [v.getD z,pbool v.isSome] else v.getD z)
      | none=>none
    | none=>none
  | none=>none
def oMupd (kk : Sh × List Nat) (m k x : AV) (h : Heap) : Option (AV × Heap × Esc):=match keyOf kk k,mget h m,okIn x with
  | some key,some (id,es,c),true=>match mfind key es with
    | some (some i)=>some (.und,h.set id (.amap (es.modify i fun e=>{ e with val:=x }) c),escOf id x)
    | some none=>some (.und,h.set id (.amap (es ++ [⟨key,x,c⟩]) (c + 1)),escOf id x)
    | none=>none
  | _,_,_=>none
def oMent (kk : Sh × List Nat) (z m k : AV) (h : Heap) : Option (AV × Heap × Esc):=match keyOf kk k,mget h m with
  | some key,some (id,es,c)=>match mfind key es with
    | some (some i)=>(es[i]?).map fun e=>(.tup [e.val,pint e.born],h,[])
    | some none=>some (.tup [z,pint c],h.set id (.amap (es ++ [⟨key,z,c⟩]) (c + 1)),[])
    | none=>none
  | _,_=>none
def oEstore (m s x : AV) (h : Heap) : Option (AV × Heap × Esc):=match mget h m,natOf s,okIn x with
  | some (id,es,c),some b,true=>match es.findIdx? (fun e=>e.born == b) with
    | some i=>some (.und,h.set id (.amap (es.modify i fun e=>{ e with val:=x }) c),escOf id x)
    | none=>none
  | _,_,_=>none
def oMdel (kk : Sh × List Nat) (m k : AV) (h : Heap) : Option (AV × Heap × Esc):=match keyOf kk k,mget h m with
  | some key,some (id,es,c)=>match mfind key es with
    | some (some i)=>some (.und,h.set id (.amap (es.eraseIdx i) c),[])
    | some none=>some (.und,h,[])
    | none=>none
  | _,_=>none
def oLenm (x : AV) (h : Heap) : Option AV:=match x with
  | .nilm=>some (pint 0)
  | .mp id=>(mget h (.mp id)).map fun y=>pint y.2.1.length
  | _=>none
def oMrange (x : AV) (h : Heap) : Option (AV × Heap × Esc):=match mget h x with
  | some (id,_,c)=>some (.it h.length,h ++ [.iter (some id) c [] c],[])
  | none=>match x with
    | .nilm=>some (.it h.length,h ++ [.iter none 0 [] 0],[])
    | _=>none
def oMentry (i : AV) (h : Heap) : Option (AV × Heap × Esc):=match i with
  | .it id=>match h[id]? with
    | some (.iter (some m) _ seen last)=>match mget h (.mp m),seen.getLast? with
      | some (_,es,c),some b=>if c = last then (es.find? (fun e=>e.born == b)).map fun e=>(.tup [.p e.key,e.val],h,[]) else none
      | _,_=>none
    | _=>none
  | _=>none
def alK (z : List AV) (h : Heap) (k : AV → Heap → Esc → Prop) : Prop:=k (.ref h.length 0) (h ++ [.box z]) []
def nwK (sh : Sh) (h : Heap) (k : AV → Heap → Esc → Prop) : Prop:=k (.own h.length 0 0 0) (h ++ [.row sh [] 0]) []
def mmK (h : Heap) (k : AV → Heap → Esc → Prop) : Prop:=k (.mp h.length) (h ++ [.amap [] 0]) []
def ev3 (ev : Opd → AV) : List (Nat × Nat × Opd) → List (Nat × Nat × AV)
  | []=>[]
  | (a,b,x) :: r=>(a,b,ev x) :: ev3 ev r
def ev2 (ev : Opd → AV) : List (Nat × Opd) → List (Nat × AV)
  | []=>[]
  | (a,x) :: r=>(a,ev x) :: ev2 ev r
def evO (ev : Opd → AV) : Option Opd → Option AV
  | none=>none
  | some x=>some (ev x)
def ev1 (ev : Opd → AV) : List Opd → List AV
  | []=>[]
  | x :: r=>ev x :: ev1 ev r
def opN (o : AO) (ev : Opd → AV) (h : Heap) (k : AV → Heap → Esc → Prop) : Prop:=match o with
  | .mv x=>k (ev x) h []
  | .pick c a b=>pK (oPick (ev c) (ev a) (ev b)) fun v=>k v h []
  | .alloc z=>alK z h k
  | .box x=>wK (oBox (ev x) h) k
  | .build z ps=>pK (oBuild z (ev3 ev ps)) fun v=>k v h []
  | .bsl own sh n z ps=>wK (oBsl own sh n z (ev2 ev ps) h) k
  | .load sh a=>pK (oLoad sh (ev a) h) fun v=>k v h []
  | .store sh a x=>wK (oStore sh (ev a) (ev x) h) k
  | .nilchk x=>pK (oNil (ev x)) fun v=>k v h []
  | .bin op x y=>pK (oBin op (ev x) (ev y)) fun v=>k v h []
  | .eqa ks neg x y=>pK (oEqa ks neg (ev x) (ev y)) fun v=>k v h []
  | .isnil n neg x=>pK (oIsnil n neg (ev x)) fun v=>k v h []
  | .mkif x=>pK (oMkif (ev x)) fun v=>k v h []
  | .un op x=>pK (oUn op (ev x)) fun v=>k v h []
  | .conv (.i c) x=>pK (oConvI c (ev x)) fun v=>k v h []
  | .mkfn f caps=>k (.fn f (ev1 ev caps)) h []
  | .slice sh x lo hi mx=>pK (oSlice sh (ev x) (evO ev lo) (evO ev hi) (evO ev mx) h) fun v=>k v h []
  | .slstr x lo hi=>pK (oSlstr (ev x) (evO ev lo) (evO ev hi)) fun v=>k v h []
  | .mksl sh z len cap=>wK (oMksl sh z (ev len) (ev cap) h) k
  | .faddr off sh x=>pK (oFaddr off sh (ev x)) fun v=>k v h []
  | .field off sh x=>pK (oField off sh (ev x)) fun v=>k v h []
  | .iaddr sh x i=>pK (oIaddr sh (ev x) (ev i) h) fun v=>k v h []
  | .iaddra n sh x i=>pK (oIaddra n sh (ev x) (ev i)) fun v=>k v h []
  | .idxa n sh x i=>pK (oIdxa n sh (ev x) (ev i)) fun v=>k v h []
  | .idxs x i=>pK (oIdxs (ev x) (ev i)) fun v=>k v h []
  | .ext x i=>pK (oExt (ev x) i) fun v=>k v h []
  | .len x=>pK (oLen (ev x)) fun v=>k v h []
  | .lens x=>pK (oLens (ev x)) fun v=>k v h []
  | .app sh s x=>wK (oApp sh (ev s) (ev x) h) k
  | .copy sh d s=>wK (oCopy sh (ev d) (ev s) h) k
  | .uns m t xs=>wK (unsOp m t (ev1 ev xs) h) k
  | .clr sh z x=>wK (oClr sh z (ev x) h) k
  | .mx xs=>pK (oMx (ev1 ev xs)) fun v=>k v h []
  | .mn xs=>pK (oMn (ev1 ev xs)) fun v=>k v h []
  | .new0 sh=>nwK sh h k
  | .conv .s2b x=>wK (oConv .s2b (ev x) h) k
  | .conv .b2s x=>wK (oConv .b2s (ev x) h) k
  | .conv .r2s x=>wK (oConv .r2s (ev x) h) k
  | .conv .same x=>wK (oConv .same (ev x) h) k
  | .mkmap=>mmK h k
  | .look kk ok z x key=>pK (oLook kk ok z (ev x) (ev key) h) fun v=>k v h []
  | .mupd kk m key x=>wK (oMupd kk (ev m) (ev key) (ev x) h) k
  | .ment kk z m key=>wK (oMent kk z (ev m) (ev key) h) k
  | .estore m s x=>wK (oEstore (ev m) (ev s) (ev x) h) k
  | .mdel kk m key=>wK (oMdel kk (ev m) (ev key) h) k
  | .lenm x=>pK (oLenm (ev x) h) fun v=>k v h []
  | .mrange x=>wK (oMrange (ev x) h) k
  | .mentry i=>wK (oMentry (ev i) h) k
  | .call _ _ | .callv _ _ | .mnext _ _=>False
theorem wK_opt {o : Option (AV × Heap × Esc)} {k : AV → Heap → Esc → Prop} : optK o k = wK o k:=rfl
theorem pK_map {o : Option AV} {h : Heap} {k : AV → Heap → Esc → Prop} : wK (o.map fun v=>(v,h,[])) k = pK o fun v=>k v h []:=by cases o <;> rfl
theorem fillA_eq (ev : Opd → AV) : ∀ (ps : List (Nat × Nat × Opd)) (z : List AV),fillA ev ps z = fillV (ev3 ev ps) z
  | [],z=>rfl
  | (off,n,x) :: r,z=>by
    simp only [fillA,ev3,fillV]
    cases (ev x).cells with
    | none=>rfl
    | some vs=>simp only [fillA_eq ev r]
theorem fillP_eq (ev : Opd → AV) (sh : Sh) : ∀ (ps : List (Nat × Opd)) (h : Heap) (z : List PV),fillP ev sh ps h z = fillW sh (ev2 ev ps) h z
  | [],h,z=>rfl
  | (i,x) :: r,h,z=>by
    simp only [fillP,ev2,fillW]
    cases pur h (ev x) with
    | none=>rfl
    | some y=>simp only [fillP_eq ev sh r]
theorem bnd_eq (ev : Opd → AV) (d : Nat) (o : Option Opd) : bnd ev d o = bndV d (evO ev o):=by cases o <;> rfl
theorem evO_some (ev : Opd → AV) (o : Option Opd) : (evO ev o).isSome = o.isSome:=by cases o <;> rfl
theorem ev1_eq (ev : Opd → AV) (l : List Opd) : l.map ev = ev1 ev l:=by
  induction l with
  | nil=>rfl
  | cons x r ih=>simp only [List.map_cons,ev1,ih]
theorem asl_eq (sh : Sh) (ev : Opd → AV) (h : Heap) (x : AV) (lo hi mx : Option Opd) : asl sh ev h x lo hi mx = oSlice sh x (evO ev lo) (evO ev hi) (evO ev mx) h:=by
  unfold asl oSlice
  simp only [bnd_eq,evO_some]
  rfl
theorem wpK_ite {p : Prop} [Decidable p] {a : AV} {h : Heap} {k : AV → Heap → Esc → Prop} : wK (if p then some (a,h,[]) else none) k = pK (if p then some a else none) fun v=>k v h []:=by split <;> rfl
theorem wpK_map {α : Type} {o : Option α} {f : α → AV} {h : Heap} {k : AV → Heap → Esc → Prop} : wK (o.map fun v=>(f v,h,[])) k = pK (o.map f) fun v=>k v h []:=by cases o <;> rfl
theorem wpK_ite_map {α : Type} {p : Prop} [Decidable p] {o : Option α} {f : α → AV} {h : Heap} {k : AV → Heap → Esc → Prop} : wK (if p then o.map (fun v=>(f v,h,[])) else none) k = pK (if p then o.map f else none) fun v=>k v h []:=by
  split
  · exact wpK_map
  · rfl
theorem opN_aop {o : AO} (hp : o.plain = true) {ev : Opd → AV} {h : Heap} {k : AV → Heap → Esc → Prop} : optK (aop o ev h) k = opN o ev h k:=by
  rw [wK_opt]
  cases o <;> first | (cases hp; done) | skip
  case mv=>rfl
  case pick c a b=>
    simp only [aop,opN,oPick]
    generalize ev c = v
    cases v <;> try rfl
    rename_i p; cases p <;> rfl
  case alloc=>rfl
  case box=>rfl
  case build z ps=>simp only [aop,opN]; rw [← pK_map,oBuild,fillA_eq,Option.map_map]; rfl
  case bsl=>simp only [aop,opN,oBsl,fillP_eq]; rfl
  case load sh a=>
    simp only [aop,opN,oLoad]
    generalize ev a = v
    cases v with
    | ref id off=>dsimp only; cases h[id]? with
      | none=>rfl
      | some o=>cases o <;> first | rfl | exact pK_map
    | rref id g i off=>dsimp only; cases h[id]? with
      | none=>rfl
      | some o=>cases o <;> first | rfl | exact wpK_ite_map
    | vp v=>exact wpK_map
    | p v=>cases v <;> rfl
    | bt _ _ _ _=>exact pK_map
    | _=>rfl
  case store=>simp only [aop,opN]; rfl
  case nilchk x=>
    simp only [aop,opN,oNil]
    generalize ev x = v
    cases v <;> try rfl
    exact pK_map
  case bin op x y=>
    simp only [aop,opN,oBin]
    generalize ev x = v
    generalize ev y = u
    cases v <;> try rfl
    cases u <;> try rfl
    exact wpK_map
  case eqa ks neg x y=>
    simp only [aop,opN,oEqa]
    generalize ev x = v
    generalize ev y = u
    cases v <;> try rfl
    rename_i p
    cases p <;> try rfl
    all_goals (cases u <;> try rfl)
    all_goals (rename_i q; cases q <;> try rfl)
    · exact wpK_ite
    · exact wpK_ite_map
  case isnil k neg p=>
    simp only [aop,opN,oIsnil]
    cases nilAny k (ev p) with
    | true=>rfl
    | false=>exact wpK_map
  case mkif=>exact wpK_ite
  case un op x=>
    simp only [aop,opN,oUn]
    generalize ev x = v
    cases v <;> try rfl
    exact wpK_map
  case conv c x=>
    cases c
    case i k'=>
      simp only [aop,opN,oConvI,aconv]
      generalize ev x = v
      cases v <;> try rfl
      rename_i p; cases p <;> rfl
    all_goals rfl
  case mkfn f caps=>simp only [aop,opN,ev1_eq]; rfl
  case slice=>simp only [aop,opN,asl_eq]; exact pK_map
  case slstr x lo hi=>
    simp only [aop,opN,oSlstr,bnd_eq]
    generalize ev x = v
    cases v <;> try rfl
    rename_i p; cases p <;> try rfl
    rename_i s
    dsimp only
    generalize bndV 0 _ = o1
    generalize bndV s.length _ = o2
    cases o1 <;> try rfl
    cases o2 <;> try rfl
    exact wpK_ite
  case mksl=>simp only [aop,opN]; rfl
  case faddr off sh x=>
    simp only [aop,opN,oFaddr]
    generalize ev x = v
    cases v <;> try rfl
    · exact wpK_map
    · exact pK_map
  case field off sh x=>
    simp only [aop,opN,oField]
    generalize ev x = v
    cases v <;> try rfl
    · rename_i p; cases p <;> try rfl
      exact wpK_map
    · exact pK_map
  case iaddr sh x i=>
    simp only [aop,opN,oIaddr]
    generalize ev x = v
    generalize natOf (ev i) = n
    cases v <;> try rfl
    · rename_i p; cases p <;> try rfl
      cases n <;> try rfl
      exact wpK_ite_map
    · cases n <;> try rfl
      rename_i id g off len k
      dsimp only
      cases h[id]? with
      | none=>rfl
      | some o=>cases o <;> first | rfl | exact wpK_ite
    · cases n <;> try rfl
      exact pK_map
  case iaddra m sh x i=>
    simp only [aop,opN,oIaddra]
    generalize ev x = v
    generalize natOf (ev i) = n
    cases v <;> try rfl
    all_goals (cases n <;> try rfl)
    · exact wpK_ite
    · exact wpK_ite
    · exact wpK_ite_map
  case idxa m sh x i=>
    simp only [aop,opN,oIdxa]
    generalize ev x = v
    generalize natOf (ev i) = n
    cases v <;> try rfl
    rename_i p; cases p <;> try rfl
    cases n <;> try rfl
    exact wpK_ite_map
  case idxs x i=>
    simp only [aop,opN,oIdxs]
    generalize ev x = v
    generalize natOf (ev i) = n
    cases v <;> try rfl
    rename_i p; cases p <;> try rfl
    cases n <;> try rfl
    exact wpK_map
  case ext x i=>
    simp only [aop,opN,oExt]
    generalize ev x = v
    cases v <;> try rfl
    exact pK_map
  case len x=>
    simp only [aop,opN,oLen]
    generalize ev x = v
    cases v <;> try rfl
    · rename_i p; cases p <;> rfl
    · exact pK_map
  case lens x=>
    simp only [aop,opN,oLens]
    generalize ev x = v
    cases v <;> try rfl
    rename_i p; cases p <;> rfl
  case app=>simp only [aop,opN]; rfl
  case copy=>simp only [aop,opN]; rfl
  case uns=>simp only [aop,opN,ev1_eq,wK_opt]
  case clr=>simp only [aop,opN]; rfl
  case mx xs=>
    simp only [aop,opN,ev1_eq,oMx]
    generalize ev1 ev xs = l
    cases l <;> try rfl
    rename_i v r
    cases v <;> try rfl
    exact wpK_map
  case mn xs=>
    simp only [aop,opN,ev1_eq,oMn]
    generalize ev1 ev xs = l
    cases l <;> try rfl
    rename_i v r
    cases v <;> try rfl
    exact wpK_map
  case new0=>rfl
  case look kk ok z x key=>
    simp only [aop,opN,oLook]
    cases keyOf kk (ev key) <;> try rfl
    rename_i kk
    generalize ev x = v
    cases v <;> try rfl
    rename_i id
    dsimp only
    cases mget h (.mp id) <;> try rfl
    rename_i y
    dsimp only [Option.map_some]
    cases mfind kk y.2.1 <;> rfl
  case lenm x=>
    simp only [aop,opN,oLenm]
    generalize ev x = v
    cases v <;> try rfl
    exact wpK_map
  all_goals rfl
end Go.Am
end
section
/- The abstract machine,part 30: the meaning of code in the new spelling,and that it is the old one. -/
set_option linter.unusedSimpArgs false
set_option linter.unusedVariables false
namespace Go.Am
def gV (v : AV) (b : Bool) (h : Heap) (A : (AV → Heap → Esc → Prop) → Prop) (k : AV → Heap → Esc → Prop) : Prop:=wantK v b (A k) (k .skp h [])
def gP (v : AV) (b : Bool) (o : Option AV) (h : Heap) (k : AV → Heap → Esc → Prop) : Prop:=gV v b h (fun k=>pK o fun u=>k u h []) k
def gM (v : AV) (b : Bool) (u : AV) (h : Heap) (k : AV → Heap → Esc → Prop) : Prop:=gV v b h (fun k=>k u h []) k
def upB (b : Bool) : Bool:=(fun (_ : AV → Bool → Option AV → Heap → (AV → Heap → Esc → Prop) → Prop)=>b) gP
def gK (g : Option (Nat × Bool)) (e : List (Nat × AV)) (h : Heap) (A : (AV → Heap → Esc → Prop) → Prop) (k : AV → Heap → Esc → Prop) : Prop:=match g with
  | none=>A k
  | some (t,b)=>gV (aget e t) b h A k
def opC (C : Hd) (o : AO) (ev : Opd → AV) (h : Heap) (k : AV → Heap → Esc → Prop) : Prop:=match o with
  | .call f args=>C f (ev1 ev args) h k
  | .callv f args=>callvK C (ev f) (ev1 ev args) h k
  | .mnext sh xs=>match choices h sh (ev1 ev xs) with
    | some l=>l ≠ [] ∧ ∀ y ∈ l,k y.1 y.2 []
    | none=>False
  | o=>opN o ev h k
def NReg (C : Hd) (gl : Nat → Option PV) : List AOp → List (Nat × AV) → Heap → Esc → (List (Nat × AV) → Heap → Esc → Prop) → Prop
  | [],e,h,x,L=>L e h x
  | o :: r,e,h,x,L=>gK o.guard e h (opC C o.op (Opd.ev gl e) h) fun v h' x'=>NReg C gl r (put o.dst v e) h' (x' ++ x) L
variable {C : Hd} {gl : Nat → Option PV}
theorem opC_AReg {o : AO} {d : Option Nat} {r : List AOp} {e : List (Nat × AV)} {h : Heap} {x : Esc} {L : List (Nat × AV) → Heap → Esc → Prop} :
    AReg C gl (⟨d,none,o⟩ :: r) e h x L = opC C o (Opd.ev gl e) h (contR C gl r d e x L):=by
  cases hp : o.plain with
  | true=>
    rw [AReg_op hp,opN_aop hp]
    cases o <;> first | rfl | cases hp
  | false=>
    cases o <;> first | (cases hp; done) | skip
    all_goals first
      | (rw [AReg_call,ev1_eq]; rfl)
      | (rw [AReg_callvK,ev1_eq]; rfl)
      | (unfold AReg opC; simp only [wanted,ev1_eq]; rfl)
theorem NReg_eq : ∀ (ops : List AOp) (e : List (Nat × AV)) (h : Heap) (x : Esc) (L : List (Nat × AV) → Heap → Esc → Prop),AReg C gl ops e h x L = NReg C gl ops e h x L
  | [],e,h,x,L=>rfl
  | ⟨d,g,o⟩ :: r,e,h,x,L=>by
    have ih : (fun (v : AV) (h' : Heap) (x' : Esc)=>NReg C gl r (put d v e) h' (x' ++ x) L) = contR C gl r d e x L:=by
      funext v h' x'; rw [← NReg_eq r]; rfl
    show _ = gK g e h (opC C o (Opd.ev gl e) h) fun v h' x'=>NReg C gl r (put d v e) h' (x' ++ x) L
    rw [ih]
    cases g with
    | none=>exact opC_AReg
    | some tb=>
      obtain ⟨t,b⟩:=tb
      rw [AReg_guard,opC_AReg]; rfl
def opE (C : Hd) (o : AO) (ev : Opd → AV) (h : Heap) (k : AV → Heap → Esc → Prop) : Prop:=match o with
  | .call f args=>callE C f (ev1 ev args) h k
  | .callv f args=>callvE C (ev f) (ev1 ev args) h k
  | .mnext _ _=>False
  | o=>opN o ev h k
def effN (still eff : Bool) (h h' : Heap) (y : Esc) (Q : Prop) : Prop:=match upB eff with
  | true=>Q
  | false=>match still with
    | true=>Q
    | false=>(h' = h ∧ y = []) ∧ Q
def sameN (C : Hd) (gl : Nat → Option PV) (q : AOp × List (Nat × AV) × AV) (g : Heap) : Prop:=
  gK q.1.guard q.2.1 g (opE C q.1.op (Opd.ev gl q.2.1) g) fun v1 h1 x1=>v1 = q.2.2 ∧ h1 = g ∧ x1 = []
def againN (C : Hd) (gl : Nat → Option PV) (h : Heap) (dn : Done) (Q : Prop) : List Nat → Prop
  | []=>Q
  | j :: r=>(match dn[j]? with | some q=>sameN C gl q h | none=>False) ∧ againN C gl h dn Q r
def earlyN (C : Hd) (gl : Nat → Option PV) (o : AOp) (e : List (Nat × AV)) (v : AV) (hs : List Heap) (Q : Prop) : List Nat → Prop
  | []=>Q
  | k :: r=>(match hs[k]? with | some g=>sameN C gl (o,e,v) g | none=>False) ∧ earlyN C gl o e v hs Q r
def NDraw (C : Hd) (gl : Nat → Option PV) : List DOp → Done → List Heap → List (Nat × AV) → Heap → Esc → (List (Nat × AV) → Heap → Esc → Prop) → Prop
  | [],_,_,e,h,x,L=>L e h x
  | o :: r,dn,hs,e,h,x,L=>gK o.op.guard (prune (some o.rd) e) h (opE C o.op.op (Opd.ev gl (prune (some o.rd) e)) h) fun v h' y=>
      effN o.op.op.still o.eff h h' y (earlyN C gl o.op (prune (some o.rd) e) v hs (againN C gl h' dn (NDraw C gl r (dn ++ [(o.op,prune (some o.rd) e,v)]) (hs ++ [h]) (put o.op.dst v e) h' (y ++ x) L) o.again) o.early)
theorem opE_doK {o : AO} {d : Option Nat} {e : List (Nat × AV)} {h : Heap} {R : AV → Heap → Esc → Prop} : doK C gl ⟨d,none,o⟩ e h R = opE C o (Opd.ev gl e) h R:=by
  cases hp : o.plain with
  | true=>
    rw [doK_op hp,opN_aop hp]
    cases o <;> first | rfl | cases hp
  | false=>
    cases o <;> first | (cases hp; done) | skip
    all_goals first
      | (rw [doK_call,ev1_eq]; rfl)
      | (rw [doK_callvK,ev1_eq]; rfl)
      | (unfold doK ADo opE; simp [wanted])
theorem gK_doK {o : AOp} {e : List (Nat × AV)} {h : Heap} {R : AV → Heap → Esc → Prop} : doK C gl o e h R = gK o.guard e h (opE C o.op (Opd.ev gl e) h) R:=by
  obtain ⟨d,g,op⟩:=o
  cases g with
  | none=>exact opE_doK
  | some tb=>
    obtain ⟨t,b⟩:=tb
    rw [doK_guard,opE_doK]; rfl
theorem sameN_eq {q : AOp × List (Nat × AV) × AV} {g : Heap} : doS C gl q g = sameN C gl q g:=by
  obtain ⟨⟨d,gd,op⟩,e,v⟩:=q
  rw [doS_mk,gK_doK]; rfl
theorem againN_eq {h : Heap} {dn : Done} {Q : Prop} : ∀ {l : List Nat},againN C gl h dn Q l = (agK C gl h dn l ∧ Q)
  | []=>by simp [againN,agK]
  | j :: r=>by
    unfold againN agK
    rw [againN_eq (l:=r)]
    cases dn[j]? with
    | none=>simp
    | some q=>simp only [sameN_eq,and_assoc]
theorem earlyN_eq {o : AOp} {e : List (Nat × AV)} {v : AV} {hs : List Heap} {Q : Prop} : ∀ {l : List Nat},earlyN C gl o e v hs Q l = (eaK C gl o e v hs l ∧ Q)
  | []=>by simp [earlyN,eaK]
  | j :: r=>by
    unfold earlyN eaK
    rw [earlyN_eq (l:=r)]
    cases hs[j]? with
    | none=>simp
    | some q=>simp only [sameN_eq,and_assoc]
theorem doK_still {o : AOp} (hs : o.op.still = true) {e : List (Nat × AV)} {h : Heap} {R : AV → Heap → Esc → Prop} : doK C gl o e h (fun v h' y=>(h' = h ∧ y = []) ∧ R v h' y) = doK C gl o e h R:=by
  unfold doK
  refine propext ⟨fun ⟨v,h',y,H,_,r⟩=>⟨v,h',y,H,r⟩,fun ⟨v,h',y,H,r⟩=>⟨v,h',y,H,ADo_still hs H,r⟩⟩
theorem NDraw_eq : ∀ (ds : List DOp) (dn : Done) (hs : List Heap) (e : List (Nat × AV)) (h : Heap) (x : Esc) (L : List (Nat × AV) → Heap → Esc → Prop),ADraw C gl ds dn hs e h x L = NDraw C gl ds dn hs e h x L
  | [],dn,hs,e,h,x,L=>rfl
  | ⟨o,rd,eff,early,again⟩ :: r,dn,hs,e,h,x,L=>by
    rw [ADraw_cons]
    show _ = gK o.guard (prune (some rd) e) h (opE C o.op (Opd.ev gl (prune (some rd) e)) h) fun v h' y=>
      effN o.op.still eff h h' y (earlyN C gl o (prune (some rd) e) v hs (againN C gl h' dn (NDraw C gl r (dn ++ [(o,prune (some rd) e,v)]) (hs ++ [h]) (put o.dst v e) h' (y ++ x) L) again) early)
    rw [← gK_doK]
    have e1 : drawK C gl ⟨o,rd,eff,early,again⟩ r dn hs e h x L = fun v h' y=>(effK eff h h' y ∧ earlyN C gl o (prune (some rd) e) v hs (againN C gl h' dn (NDraw C gl r (dn ++ [(o,prune (some rd) e,v)]) (hs ++ [h]) (put o.dst v e) h' (y ++ x) L) again) early):=by
      funext v h' y
      rw [drawK_all,earlyN_eq,againN_eq,← NDraw_eq r]
    rw [e1]
    cases eff with
    | true=>
      congr 1; funext v h' y
      simp [effK,effN,upB]
    | false=>
      cases hs' : o.op.still with
      | true=>
        have:=doK_still (C:=C) (gl:=gl) (o:=o) hs' (e:=prune (some rd) e) (h:=h) (R:=fun v h' y=>earlyN C gl o (prune (some rd) e) v hs (againN C gl h' dn (NDraw C gl r (dn ++ [(o,prune (some rd) e,v)]) (hs ++ [h]) (put o.dst v e) h' (y ++ x) L) again) early)
        exact this
      | false=>rfl
def NW (C : Hd) (gl : Nat → Option PV) : ACode → St → (Ex → St → Prop) → Prop
  | .skip,s,K=>K .normal s
  | .reg ops keep,s,K=>NReg C gl ops s.env s.h s.esc fun e h x=>K .normal ⟨prune keep e,h,x⟩
  | .draw ds keep,s,K=>NDraw C gl ds [] [] s.env s.h s.esc fun e h x=>K .normal ⟨prune keep e,h,x⟩
  | .seq a b,s,K=>NW C gl a s fun e s'=>match e with
    | .normal=>NW C gl b s' K
    | .exit i=>K (.exit i) s'
    | .ret=>K .ret s'
  | .cond c a b,s,K=>condB (Opd.ev gl s.env c) (NW C gl a s K) (NW C gl b s K)
  | .condu c a b,s,K=>condU (Opd.ev gl s.env c) (NW C gl a s K) (NW C gl b s K)
  | .det b,s,K=>NW C gl b s K
  | .block id b,s,K=>NW C gl b s fun e s'=>match e with
    | .normal=>K .normal s'
    | .exit i=>bif Nat.beq i id then K .normal s' else K (.exit i) s'
    | .ret=>K .ret s'
  | .loop b,s,K=>ALoop (NW C gl b) K s
  | .scope b,s,K=>NW C gl b ⟨s.env,s.h,[]⟩ fun e s'=>K e (trunc s.h.length s.esc s')
  | .pr l b,s,K=>NW C gl b ⟨prune (some l) s.env,s.h,s.esc⟩ K
  | .exit id,s,K=>K (.exit id) s
  | .ret,s,K=>K .ret s
  | .bad,_,_=>False
theorem NW_eq : ∀ (c : ACode) (s : St) (K : Ex → St → Prop),AW C gl c s K = NW C gl c s K
  | .skip,s,K=>rfl
  | .reg ops keep,s,K=>NReg_eq _ _ _ _ _
  | .draw ds keep,s,K=>NDraw_eq _ _ _ _ _ _ _
  | .seq a b,s,K=>by
    unfold AW NW
    rw [NW_eq a]
    congr 1; funext e s'
    cases e with
    | normal=>exact NW_eq b s' K
    | _=>rfl
  | .cond c a b,s,K=>by
    unfold AW NW condB
    rw [← NW_eq a,← NW_eq b]
    rfl
  | .condu c a b,s,K=>by
    unfold AW NW condU
    rw [← NW_eq a,← NW_eq b]
    rfl
  | .det b,s,K=>NW_eq b s K
  | .block id b,s,K=>by
    unfold AW NW
    rw [NW_eq b]
    congr 1; funext e s'
    cases e with
    | exit i=>
      dsimp only
      by_cases hi : i = id
      · subst hi; simp
      · rw [if_neg hi]
        have : Nat.beq i id = false:=by cases h : Nat.beq i id with | false=>rfl | true=>exact absurd (Nat.eq_of_beq_eq_true h) hi
        rw [this]; rfl
    | _=>rfl
  | .loop b,s,K=>by
    show ALoop (AW C gl b) K s = ALoop (NW C gl b) K s
    rw [show AW C gl b = NW C gl b from funext fun s=>funext fun K=>NW_eq b s K]
  | .scope b,s,K=>NW_eq b _ _
  | .pr l b,s,K=>NW_eq b _ _
  | .exit id,s,K=>rfl
  | .ret,s,K=>rfl
  | .bad,s,K=>rfl
end Go.Am
end
section
/- The abstract machine,part 31: words in which a function's code is printed,and the rules of computing over them. -/
set_option linter.unusedSimpArgs false
set_option linter.unusedVariables false
namespace Go.Am
variable {C : Hd} {gl : Nat → Option PV} {e : List (Nat × AV)} {h : Heap} {x : Esc} {K : Ex → St → Prop} {s : St}
abbrev AI (n : Int) : AV:=.p (.int .i64 n)
abbrev AB (b : Bool) : AV:=.p (.bool b)
def seqN (C : Hd) (gl : Nat → Option PV) (b : ACode) (K : Ex → St → Prop) (e : Ex) (s : St) : Prop:=match e with
  | .normal=>NW C gl b s K
  | .exit i=>K (.exit i) s
  | .ret=>K .ret s
def blockN (id : Nat) (K : Ex → St → Prop) (e : Ex) (s : St) : Prop:=match e with
  | .normal=>K .normal s
  | .exit i=>bif Nat.beq i id then K .normal s else K (.exit i) s
  | .ret=>K .ret s
def nqK (sh : Option Sh) (l : List AV) (h : Heap) (k : AV → Heap → Esc → Prop) : Prop:=match choices h sh l with
    | some l=>l ≠ [] ∧ ∀ y ∈ l,k y.1 y.2 []
    | none=>False
theorem seqN_normal {b : ACode} : seqN C gl b K .normal s = NW C gl b s K:=(rfl)
theorem seqN_exit {b : ACode} {i : Nat} : seqN C gl b K (.exit i) s = K (.exit i) s:=(rfl)
theorem seqN_ret {b : ACode} : seqN C gl b K .ret s = K .ret s:=(rfl)
theorem blockN_normal {i : Nat} : blockN i K .normal s = K .normal s:=(rfl)
theorem blockN_same {i : Nat} : blockN i K (.exit i) s = K .normal s:=by simp [blockN]
theorem blockN_exit {i j : Nat} : blockN i K (.exit j) s = bif Nat.beq j i then K .normal s else K (.exit j) s:=(rfl)
theorem blockN_ret {i : Nat} : blockN i K .ret s = K .ret s:=(rfl)
theorem seqN_congr {b : ACode} {ex ex' : Ex} {s s' : St} (he : ex = ex') (hs : s = s') : seqN C gl b K ex s = seqN C gl b K ex' s':=by rw [he,hs]
theorem blockN_congr {i : Nat} {ex ex' : Ex} {s s' : St} (he : ex = ex') (hs : s = s') : blockN i K ex s = blockN i K ex' s':=by rw [he,hs]
theorem NW_scope {b : ACode} : NW C gl (.scope b) ⟨e,h,x⟩ K = NW C gl b ⟨e,h,[]⟩ (scopeK h.length x K):=(rfl)
theorem NW_congr {c : ACode} {s s' : St} (hs : s = s') : NW C gl c s K = NW C gl c s' K:=by rw [hs]
def NLoop (C : Hd) (gl : Nat → Option PV) (b : ACode) (K : Ex → St → Prop) (e : List (Nat × AV)) (h : Heap) (x : Esc) : Prop:=ALoop (NW C gl b) K ⟨e,h,x⟩
theorem NLoop_pr {l : List Nat} {b : ACode} : NW C gl (.loop (.pr l b)) ⟨e,h,x⟩ K = NLoop C gl (.pr l b) K (prune (some l) e) h x:=by
  show ALoop _ _ _ = ALoop _ _ _
  exact ALoop_same (funext fun R=>by show NW C gl b _ R = NW C gl b _ R; dsimp only; rw [prune_prune])
theorem NLoop_sc {l : List Nat} {b : ACode} : NW C gl (.loop (.scope (.pr l b))) ⟨e,h,x⟩ K = NLoop C gl (.scope (.pr l b)) K (prune (some l) e) h x:=by
  show ALoop _ _ _ = ALoop _ _ _
  exact ALoop_same (funext fun R=>by show NW C gl b _ _ = NW C gl b _ _; dsimp only; rw [prune_prune])
theorem NLoop_congr {b : ACode} {e e' : List (Nat × AV)} {h h' : Heap} {x x' : Esc} (h1 : e = e') (h2 : h = h') (h3 : x = x') : NLoop C gl b K e h x = NLoop C gl b K e' h' x':=by rw [h1,h2,h3]
theorem N_loop {σ : Type} {b : ACode} (S : σ → St) (P : σ → Prop) (m : σ → Nat) (t0 : σ) (hs : (⟨e,h,x⟩ : St) = S t0) (h0 : P t0) (hr : ∀ t,P t → NW C gl b (S t) (loopK S P m K t)) : NLoop C gl b K e h x:=by
  show ALoop (NW C gl b) K _
  rw [hs]
  have key : ∀ n t,m t < n → P t → ALoop (NW C gl b) K (S t):=by
    intro n
    induction n with
    | zero=>intro t h; omega
    | succ n ih=>
      intro t hm hp
      refine .mk _ _ (hr t hp) (fun s' h'=>?_) (fun i s' h'=>h') (fun s' h'=>h')
      obtain ⟨u,rfl,hu,hlt⟩:=h'
      exact ih u (by omega) hu
  exact key _ t0 (Nat.lt_succ_self _) h0
theorem call_val {X : Ctx} {f : Nat} {F : AFun} {a asv : List AV} {h h1 : Heap} {P : Post} (hf : X.fn f = some F) (hr : F.byref = false) (hp : puras h a = some (asv,h1)) (hl : asv.length = F.nparams) (hd : F.isDet = false:=by rfl) :
    ACall X f a h P = NW (ACall X) X.gl F.body ⟨enter asv,h1,[]⟩ (finR F.results F.keep h.length P):=by
  rw [step_val hf hr hp hl hd,NW_eq]
theorem call_val_det {X : Ctx} {f : Nat} {F : AFun} {a asv : List AV} {h h1 : Heap} {P : Post} (hf : X.fn f = some F) (hr : F.byref = false) (hp : puras h a = some (asv,h1)) (hl : asv.length = F.nparams) (hd : F.isDet = true:=by rfl) :
    ACall X f a h P = ∃ v h' x,P v h' x ∧ NW (ACall X) X.gl F.body ⟨enter asv,h1,[]⟩ (finR F.results F.keep h.length fun v1 h1 x1=>v1 = v ∧ h1 = h' ∧ x1 = x):=by
  rw [step_val_det hf hr hp hl hd]
  simp only [NW_eq]
theorem call_ref {X : Ctx} {f : Nat} {F : AFun} {asv : List AV} {h : Heap} {P : Post} (hf : X.fn f = some F) (hr : F.byref = true) (hl : asv.length = F.nparams) (hd : F.isDet = false:=by rfl) :
    ACall X f asv h P = NW (ACall X) X.gl F.body ⟨enter asv,h,[]⟩ (finR F.results F.keep h.length P):=by
  rw [step_ref hf hr hl hd,NW_eq]
theorem pK_some {v : AV} {k : AV → Prop} : pK (some v) k = k v:=(rfl)
theorem pK_none {k : AV → Prop} : pK none k = False:=(rfl)
theorem wK_some {v : AV} {h : Heap} {x : Esc} {k : AV → Heap → Esc → Prop} : wK (some (v,h,x)) k = k v h x:=(rfl)
theorem wK_none {k : AV → Heap → Esc → Prop} : wK none k = False:=(rfl)
theorem pK_ite {p : Prop} [Decidable p] {a b : Option AV} {k : AV → Prop} : pK (if p then a else b) k = if p then pK a k else pK b k:=by split <;> rfl
theorem wK_ite {p : Prop} [Decidable p] {a b : Option (AV × Heap × Esc)} {k : AV → Heap → Esc → Prop} : wK (if p then a else b) k = if p then wK a k else wK b k:=by split <;> rfl
theorem pK_congr {o o' : Option AV} {k : AV → Prop} (h : o = o') : pK o k = pK o' k:=by rw [h]
theorem wK_congr {o o' : Option (AV × Heap × Esc)} {k : AV → Heap → Esc → Prop} (h : o = o') : wK o k = wK o' k:=by rw [h]
theorem gV_congr {v v' : AV} {b : Bool} {h : Heap} {A : (AV → Heap → Esc → Prop) → Prop} {k : AV → Heap → Esc → Prop} (h1 : v = v') : gV v b h A k = gV v' b h A k:=by rw [h1]
theorem gP_congr {v v' : AV} {b : Bool} {o : Option AV} {h : Heap} {k : AV → Heap → Esc → Prop} (h1 : v = v') : gP v b o h k = gP v' b o h k:=by rw [h1]
theorem gM_congr {v v' : AV} {b : Bool} {u : AV} {h : Heap} {k : AV → Heap → Esc → Prop} (h1 : v = v') : gM v b u h k = gM v' b u h k:=by rw [h1]
section
variable {A : (AV → Heap → Esc → Prop) → Prop} {o : Option AV} {u : AV} {k : AV → Heap → Esc → Prop} {t b : Bool}
theorem gV_tt : gV (.p (.bool true)) true h A k = A k:=(rfl)
theorem gV_ff : gV (.p (.bool false)) false h A k = A k:=(rfl)
theorem gV_tf : gV (.p (.bool true)) false h A k = k .skp h []:=(rfl)
theorem gV_ft : gV (.p (.bool false)) true h A k = k .skp h []:=(rfl)
theorem gV_skp : gV .skp b h A k = k .skp h []:=(rfl)
theorem gV_any : gV (.p (.bool t)) b h A k = wantK (.p (.bool t)) b (A k) (k .skp h []):=(rfl)
theorem gP_tt : gP (.p (.bool true)) true o h k = pK o fun v=>k v h []:=(rfl)
theorem gP_ff : gP (.p (.bool false)) false o h k = pK o fun v=>k v h []:=(rfl)
theorem gP_tf : gP (.p (.bool true)) false o h k = k .skp h []:=(rfl)
theorem gP_ft : gP (.p (.bool false)) true o h k = k .skp h []:=(rfl)
theorem gP_skp : gP .skp b o h k = k .skp h []:=(rfl)
theorem gP_any : gP (.p (.bool t)) b o h k = wantK (.p (.bool t)) b (pK o fun v=>k v h []) (k .skp h []):=(rfl)
theorem gM_tt : gM (.p (.bool true)) true u h k = k u h []:=(rfl)
theorem gM_ff : gM (.p (.bool false)) false u h k = k u h []:=(rfl)
theorem gM_tf : gM (.p (.bool true)) false u h k = k .skp h []:=(rfl)
theorem gM_ft : gM (.p (.bool false)) true u h k = k .skp h []:=(rfl)
theorem gM_skp : gM .skp b u h k = k .skp h []:=(rfl)
theorem gM_any : gM (.p (.bool t)) b u h k = wantK (.p (.bool t)) b (k u h []) (k .skp h []):=(rfl)
end
section
variable {k k' : IntKind} {a b : Int} {sa sb : List UInt8}
theorem bin_add : oBin .add (.p (.int k a)) (.p (.int k b)) = some (.p (.int k (k.wrap (a + b)))):=by simp [oBin,abin,aint]
theorem bin_sub : oBin .sub (.p (.int k a)) (.p (.int k b)) = some (.p (.int k (k.wrap (a - b)))):=by simp [oBin,abin,aint]
theorem bin_mul : oBin .mul (.p (.int k a)) (.p (.int k b)) = some (.p (.int k (k.wrap (a * b)))):=by simp [oBin,abin,aint]
theorem bin_quo : oBin .quo (.p (.int k a)) (.p (.int k b)) = if b = 0 then none else some (.p (.int k (k.wrap (a.tdiv b)))):=by simp [oBin,abin,aint] <;> split <;> rfl
theorem bin_rem : oBin .rem (.p (.int k a)) (.p (.int k b)) = if b = 0 then none else some (.p (.int k (a.tmod b))):=by simp [oBin,abin,aint] <;> split <;> rfl
theorem bin_and : oBin .and (.p (.int k a)) (.p (.int k b)) = some (.p (.int k (iand k a b))):=by simp [oBin,abin,aint]
theorem bin_or : oBin .or (.p (.int k a)) (.p (.int k b)) = some (.p (.int k (ior k a b))):=by simp [oBin,abin,aint]
theorem bin_xor : oBin .xor (.p (.int k a)) (.p (.int k b)) = some (.p (.int k (ixor k a b))):=by simp [oBin,abin,aint]
theorem bin_andNot : oBin .andNot (.p (.int k a)) (.p (.int k b)) = some (.p (.int k (iandn k a b))):=by simp [oBin,abin,aint]
theorem bin_eql : oBin .eql (.p (.int k a)) (.p (.int k b)) = some (.p (.bool (decide (a = b)))):=by simp [oBin,abin,aint]
theorem bin_neq : oBin .neq (.p (.int k a)) (.p (.int k b)) = some (.p (.bool (!decide (a = b)))):=by simp [oBin,abin,aint]
theorem bin_lss : oBin .lss (.p (.int k a)) (.p (.int k b)) = some (.p (.bool (decide (a < b)))):=by simp [oBin,abin,aint]
theorem bin_leq : oBin .leq (.p (.int k a)) (.p (.int k b)) = some (.p (.bool (decide (a ≤ b)))):=by simp [oBin,abin,aint]
theorem bin_gtr : oBin .gtr (.p (.int k a)) (.p (.int k b)) = some (.p (.bool (decide (b < a)))):=by simp [oBin,abin,aint]
theorem bin_geq : oBin .geq (.p (.int k a)) (.p (.int k b)) = some (.p (.bool (decide (b ≤ a)))):=by simp [oBin,abin,aint]
theorem bin_shl : oBin .shl (.p (.int k a)) (.p (.int k' b)) = if b < 0 then none else some (.p (.int k (ishl k a b))):=by simp [oBin,abin] <;> split <;> rfl
theorem bin_shr : oBin .shr (.p (.int k a)) (.p (.int k' b)) = if b < 0 then none else some (.p (.int k (ishr k a b))):=by simp [oBin,abin] <;> split <;> rfl
theorem str_add : oBin .add (.p (.str sa)) (.p (.str sb)) = if sa.length + sb.length ≤ maxStr then some (.p (.str (sa ++ sb))) else none:=by simp [oBin,abin,astr] <;> split <;> rfl
theorem str_eql : oBin .eql (.p (.str sa)) (.p (.str sb)) = some (.p (.bool (decide (sa = sb)))):=by simp [oBin,abin,astr]
theorem str_neq : oBin .neq (.p (.str sa)) (.p (.str sb)) = some (.p (.bool (!decide (sa = sb)))):=by simp [oBin,abin,astr]
theorem str_lss : oBin .lss (.p (.str sa)) (.p (.str sb)) = some (.p (.bool (Op.bytesLess sa sb))):=by simp [oBin,abin,astr]
theorem str_leq : oBin .leq (.p (.str sa)) (.p (.str sb)) = some (.p (.bool (Op.bytesLess sa sb || decide (sa = sb)))):=by simp [oBin,abin,astr]
theorem str_gtr : oBin .gtr (.p (.str sa)) (.p (.str sb)) = some (.p (.bool (!(Op.bytesLess sa sb || decide (sa = sb))))):=by simp [oBin,abin,astr]
theorem str_geq : oBin .geq (.p (.str sa)) (.p (.str sb)) = some (.p (.bool (!Op.bytesLess sa sb))):=by simp [oBin,abin,astr]
theorem un_neg : oUn .neg (.p (.int k a)) = some (.p (.int k (k.wrap (-a)))):=by simp [oUn,aun]
theorem un_not {t : Bool} : oUn .not (.p (.bool t)) = some (.p (.bool !t)):=(rfl)
theorem convI {k' : IntKind} : oConvI k (.p (.int k' a)) = some (.p (.int k (k.wrap a))):=(rfl)
theorem nilref {i j : Nat} : oNil (.ref i j) = some (.ref i j):=(rfl)
theorem nilrref {i j m n : Nat} : oNil (.rref i j m n) = some (.rref i j m n):=(rfl)
theorem nilvp {v : PV} : oNil (.vp v) = some (.vp v):=(rfl)
theorem nilfn {f : Nat} {cs : List AV} : oNil (.fn f cs) = some (.fn f cs):=(rfl)
theorem pick_b {t : Bool} {u v : AV} : oPick (.p (.bool t)) u v = some (bif t then u else v):=(rfl)
theorem len_sl {sh : Sh} {xs : List PV} : oLen (.p (.sl sh xs)) = some (.p (.int .i64 xs.length)):=(rfl)
theorem len_sl0 {sh : Sh} : oLen (.sl0 sh) = some (.p (.int .i64 0)):=(rfl)
theorem len_own {i g o l : Nat} : oLen (.own i g o l) = some (.p (.int .i64 l)):=(rfl)
theorem lens_s : oLens (.p (.str sa)) = some (.p (.int .i64 sa.length)):=(rfl)
theorem ext_t {vs : List AV} {i : Nat} : oExt (.tup vs) i = vs[i]?:=(rfl)
theorem faddr_ref {off i j : Nat} {sh : Sh} : oFaddr off sh (.ref i j) = some (.ref i (j + off)):=(rfl)
theorem faddr_rref {off i j m n : Nat} {sh : Sh} : oFaddr off sh (.rref i j m n) = some (.rref i j m (n + off)):=(rfl)
theorem faddr_vp {off : Nat} {sh : Sh} {v : PV} : oFaddr off sh (.vp v) = (cutP sh off v).map .vp:=(rfl)
theorem field_p {off : Nat} {sh : Sh} {cs : List PV} : oField off sh (.p (.agg cs)) = (cutP sh off (.agg cs)).map .p:=(rfl)
theorem field_a {off : Nat} {sh : Sh} {cs : List AV} : oField off sh (.agg cs) = cut sh off cs:=(rfl)
def ldB (sh : Sh) (off : Nat) : Option Obj → Option AV
  | some (.box cs)=>cut sh off cs
  | _=>none
def ldR (sh : Sh) (g i off : Nat) : Option Obj → Option AV
  | some (.row _ xs _)=>if g = xs.length then ((xs[i]?).bind (cutP sh off)).map .p else none
  | _=>none
theorem load_ref {sh : Sh} {i j : Nat} : oLoad sh (.ref i j) h = ldB sh j h[i]?:=by unfold oLoad ldB; rfl
theorem load_rref {sh : Sh} {i g m n : Nat} : oLoad sh (.rref i g m n) h = ldR sh g m n h[i]?:=by unfold oLoad ldR; rfl
theorem load_vp {sh : Sh} {v : PV} : oLoad sh (.vp v) h = (cutP sh 0 v).map .p:=(rfl)
theorem ldB_box {sh : Sh} {off : Nat} {cs : List AV} : ldB sh off (some (.box cs)) = cut sh off cs:=(rfl)
theorem ldR_row {sh sh' : Sh} {g i off fz : Nat} {xs : List PV} : ldR sh g i off (some (.row sh' xs fz)) = if g = xs.length then ((xs[i]?).bind (cutP sh off)).map .p else none:=(rfl)
def stB (sh : Sh) (id off : Nat) (v : AV) (h : Heap) : Option Obj → Option (List AV) → Option (AV × Heap × Esc)
  | some (.box cs),some vs=>if vs.length = shSize sh ∧ off + vs.length ≤ cs.length then some (.und,h.set id (.box (splice cs off vs)),escS id cs v) else none
  | _,_=>none
theorem store_ref {sh : Sh} {i j : Nat} {v : AV} : oStore sh (.ref i j) v h = stB sh i j v h h[i]? v.cells:=by unfold oStore stB; rfl
theorem stB_box {sh : Sh} {id off : Nat} {v : AV} {cs vs : List AV} : stB sh id off v h (some (.box cs)) (some vs) = if vs.length = shSize sh ∧ off + vs.length ≤ cs.length then some (.und,h.set id (.box (splice cs off vs)),escS id cs v) else none:=(rfl)
theorem escS_p {id : Nat} {cs : List AV} {v : PV} : escS id cs (.p v) = []:=by
  unfold escS
  cases isBld cs && decide (AV.top (.p v) ≤ AV.tops cs) <;> rfl
theorem escS_box {id : Nat} {cs : List AV} {v : AV} (h : isBld cs = false) : escS id cs v = escOf id v:=by
  unfold escS
  rw [h]
  rfl
theorem isBld_p {a : AV} {v : PV} : isBld [a,.p v] = false:=(rfl)
theorem isBld_sl0 {a : AV} {s : Sh} : isBld [a,.sl0 s] = false:=(rfl)
theorem isBld_own {a : AV} {i j k l : Nat} : isBld [a,.own i j k l] = false:=(rfl)
theorem isBld_nilp {a : AV} : isBld [a,.nilp] = false:=(rfl)
theorem isBld_0 : isBld [] = false:=(rfl)
theorem isBld_1 {a : AV} : isBld [a] = false:=(rfl)
theorem isBld_3 {a b c : AV} {l : List AV} : isBld (a :: b :: c :: l) = false:=by unfold isBld; split <;> first | rfl | (rename_i h; simp at h)
theorem escS_self {id t n m : Nat} {a : AV} : escS id [a,.bt 1 t (id + 1) n] (.ref id m) = []:=by
  unfold escS
  have e : decide (AV.top (.ref id m) ≤ AV.tops [a,.bt 1 t (id + 1) n]) = true:=by simp [AV.top,AV.tops]; omega
  rw [e]
  rfl
theorem escS_buf {id t t' i n n' : Nat} {a : AV} : escS id [a,.bt 1 t i n] (.bt 1 t' i n') = []:=by
  unfold escS
  have e : decide (AV.top (.bt 1 t' i n') ≤ AV.tops [a,.bt 1 t i n]) = true:=by simp [AV.top,AV.tops]; omega
  rw [e]
  rfl
def stE (sh : Sh) (id i off fz : Nat) (rsh : Sh) (xs : List PV) (v : PV) (h1 : Heap) : Option PV → Option (AV × Heap × Esc)
  | some (.agg cs)=>if off + v.cells.length ≤ cs.length then some (.und,h1.set id (.row rsh (xs.set i (.agg (splice cs off v.cells))) fz),[]) else none
  | some _=>if off = 0 ∧ v.sc then some (.und,h1.set id (.row rsh (xs.set i v) fz),[]) else none
  | none=>none
def stO (sh : Sh) (id g i off : Nat) (v : PV) (h1 : Heap) : Option Obj → Option (AV × Heap × Esc)
  | some (.row rsh xs fz)=>if g = xs.length ∧ fz ≤ i ∧ v.cells.length = shSize sh ∧ v.cells.all PV.sc then stE sh id i off fz rsh xs v h1 xs[i]? else none
  | _=>none
def stR (sh : Sh) (id g i off : Nat) : Option (PV × Heap) → Option (AV × Heap × Esc)
  | some y=>stO sh id g i off y.1 y.2 y.2[id]?
  | none=>none
theorem store_rref {sh : Sh} {id g i off : Nat} {x : AV} : oStore sh (.rref id g i off) x h = stR sh id g i off (pur h x):=by
  unfold oStore stR
  cases pur h x with
  | none=>rfl
  | some y=>
    obtain ⟨v,h1⟩:=y
    dsimp only
    unfold stO
    cases h1[id]? with
    | none=>rfl
    | some o=>cases o <;> rfl
theorem stR_some {sh : Sh} {id g i off : Nat} {v : PV} {h1 : Heap} : stR sh id g i off (some (v,h1)) = stO sh id g i off v h1 h1[id]?:=(rfl)
theorem stO_row {sh rsh : Sh} {id g i off fz : Nat} {v : PV} {h1 : Heap} {xs : List PV} : stO sh id g i off v h1 (some (.row rsh xs fz)) = if g = xs.length ∧ fz ≤ i ∧ v.cells.length = shSize sh ∧ v.cells.all PV.sc then stE sh id i off fz rsh xs v h1 xs[i]? else none:=(rfl)
theorem stE_agg {sh rsh : Sh} {id i off fz : Nat} {v : PV} {h1 : Heap} {xs cs : List PV} : stE sh id i off fz rsh xs v h1 (some (.agg cs)) = if off + v.cells.length ≤ cs.length then some (.und,h1.set id (.row rsh (xs.set i (.agg (splice cs off v.cells))) fz),[]) else none:=(rfl)
theorem stE_int {sh rsh : Sh} {id i off fz : Nat} {v : PV} {h1 : Heap} {xs : List PV} {k : IntKind} {n : Int} : stE sh id i off fz rsh xs v h1 (some (.int k n)) = if off = 0 ∧ v.sc then some (.und,h1.set id (.row rsh (xs.set i v) fz),[]) else none:=(rfl)
theorem stE_bool {sh rsh : Sh} {id i off fz : Nat} {v : PV} {h1 : Heap} {xs : List PV} {t : Bool} : stE sh id i off fz rsh xs v h1 (some (.bool t)) = if off = 0 ∧ v.sc then some (.und,h1.set id (.row rsh (xs.set i v) fz),[]) else none:=(rfl)
theorem stE_str {sh rsh : Sh} {id i off fz : Nat} {v : PV} {h1 : Heap} {xs : List PV} {s : List UInt8} : stE sh id i off fz rsh xs v h1 (some (.str s)) = if off = 0 ∧ v.sc then some (.und,h1.set id (.row rsh (xs.set i v) fz),[]) else none:=(rfl)
theorem stE_sl {sh rsh : Sh} {id i off fz : Nat} {v : PV} {h1 : Heap} {xs : List PV} {sh' : Sh} {ys : List PV} : stE sh id i off fz rsh xs v h1 (some (.sl sh' ys)) = if off = 0 ∧ v.sc then some (.und,h1.set id (.row rsh (xs.set i v) fz),[]) else none:=(rfl)
theorem stE_nilp {sh rsh : Sh} {id i off fz : Nat} {v : PV} {h1 : Heap} {xs : List PV}  : stE sh id i off fz rsh xs v h1 (some .nilp) = if off = 0 ∧ v.sc then some (.und,h1.set id (.row rsh (xs.set i v) fz),[]) else none:=(rfl)
theorem pur_p {v : PV} : pur h (.p v) = some (v,h):=(rfl)
def iaS (xs : List PV) : Option Nat → Option AV
  | some k=>(xs[k]?).map .vp
  | none=>none
theorem iaddr_sl {sh : Sh} {xs : List PV} {i : AV} : oIaddr sh (.p (.sl sh xs)) i h = iaS xs (natOf i):=by
  unfold oIaddr iaS; cases natOf i <;> simp
theorem iaS_some {xs : List PV} {n : Nat} : iaS xs (some n) = (xs[n]?).map .vp:=(rfl)
def iaO (sh : Sh) (id g off len : Nat) : Option Obj → Option Nat → Option AV
  | some (.row rsh xs _),some k=>if rsh = sh ∧ g = xs.length ∧ off + len ≤ xs.length ∧ k < len then some (.rref id g (off + k) 0) else none
  | _,_=>none
theorem iaddr_own {sh : Sh} {id g off len : Nat} {i : AV} : oIaddr sh (.own id g off len) i h = iaO sh id g off len h[id]? (natOf i):=by
  unfold oIaddr iaO
  cases natOf i with
  | none=>dsimp only; cases h[id]? with
    | none=>rfl
    | some o=>cases o <;> rfl
  | some k=>dsimp only; cases h[id]? with
    | none=>rfl
    | some o=>cases o <;> rfl
theorem iaO_row {sh rsh : Sh} {id g off len k fz : Nat} {xs : List PV} : iaO sh id g off len (some (.row rsh xs fz)) (some k) = if rsh = sh ∧ g = xs.length ∧ off + len ≤ xs.length ∧ k < len then some (.rref id g (off + k) 0) else none:=(rfl)
theorem idxs_s {i : AV} : oIdxs (.p (.str sa)) i = (natOf i).bind fun n=>(sa[n]?).map fun b=>.p (.int .u8 b.toNat):=by
  unfold oIdxs; cases natOf i <;> rfl
end
theorem alK_eq {z : List AV} {k : AV → Heap → Esc → Prop} : alK z h k = k (.ref h.length 0) (h ++ [.box z]) []:=(rfl)
theorem nwK_eq {sh : Sh} {k : AV → Heap → Esc → Prop} : nwK sh h k = k (.own h.length 0 0 0) (h ++ [.row sh [] 0]) []:=(rfl)
theorem mmK_eq {k : AV → Heap → Esc → Prop} : mmK h k = k (.mp h.length) (h ++ [.amap [] 0]) []:=(rfl)
theorem condU_true {A B : Prop} : condU (.p (.bool true)) A B = A:=(rfl)
theorem condU_false {A B : Prop} : condU (.p (.bool false)) A B = B:=(rfl)
theorem condU_any {A B : Prop} : condU .anyb A B = (A ∧ B):=(rfl)
theorem rowsUp_nil {h : Heap} : rowsUp [] h = ([],h):=(rfl)
theorem rowsUp_sl0 {h : Heap} {s : Sh} {r : List AV} : rowsUp (.sl0 s :: r) h = (.own h.length 0 0 0 :: (rowsUp r (h ++ [.row s [] 0])).1,(rowsUp r (h ++ [.row s [] 0])).2):=(rfl)
theorem rowsUp_p {h : Heap} {v : PV} {r : List AV} : rowsUp (.p v :: r) h = (.p v :: (rowsUp r h).1,(rowsUp r h).2):=(rfl)
attribute [go_sem] rowsUp_nil rowsUp_sl0 rowsUp_p
theorem rowsB_nil {h : Heap} : rowsB [] h = ([],h):=(rfl)
theorem rowsB_sl0 {h : Heap} {s : Sh} {r : List AV} : rowsB (.sl0 s :: r) h = (.own h.length 0 0 0 :: (rowsB r (h ++ [.row s [] 0])).1,(rowsB r (h ++ [.row s [] 0])).2):=(rfl)
theorem rowsB_p {h : Heap} {v : PV} {r : List AV} : rowsB (.p v :: r) h = (.p v :: (rowsB r h).1,(rowsB r h).2):=(rfl)
theorem rowsB_ref {h : Heap} {i o : Nat} {r : List AV} : rowsB (.ref i o :: r) h = (.ref i o :: (rowsB r h).1,(rowsB r h).2):=(rfl)
theorem rowsB_own {h : Heap} {i o g l : Nat} {r : List AV} : rowsB (.own i o g l :: r) h = (.own i o g l :: (rowsB r h).1,(rowsB r h).2):=(rfl)
theorem rowsB_mp {h : Heap} {i : Nat} {r : List AV} : rowsB (.mp i :: r) h = (.mp i :: (rowsB r h).1,(rowsB r h).2):=(rfl)
attribute [go_sem] rowsB_nil rowsB_sl0 rowsB_p rowsB_ref rowsB_own rowsB_mp
def ldAr (sh : Sh) (off g : Nat) : Option Obj → Option AV
  | some (.arow rsh cs)=>if g * shSize rsh = cs.length then cut sh off cs else none
  | _=>none
theorem load_bt {sh : Sh} {off id g : Nat} : oLoad sh (.bt 4 off id g) h = ldAr sh off g h[id]?:=by
  show ldA sh 4 off id g h = _
  unfold ldA ldAr
  rfl
theorem ldAr_arow {sh rsh : Sh} {off g : Nat} {cs : List AV} : ldAr sh off g (some (.arow rsh cs)) = if g * shSize rsh = cs.length then cut sh off cs else none:=(rfl)
def stAr (sh : Sh) (off id g : Nat) (x : AV) (h : Heap) : Option Obj → Option (List AV) → Option (AV × Heap × Esc)
  | some (.arow rsh cs),some vs=>if g * shSize rsh = cs.length ∧ vs.length = shSize sh ∧ off + vs.length ≤ cs.length then some (.und,h.set id (.arow rsh (splice cs off vs)),escOf id x) else none
  | _,_=>none
theorem store_bt {sh : Sh} {off id g : Nat} {x : AV} : oStore sh (.bt 4 off id g) x h = stAr sh off id g x h h[id]? x.cells:=by
  show stA sh 4 off id g x h = _
  unfold stA stAr
  rfl
theorem stAr_arow {sh rsh : Sh} {off id g : Nat} {x : AV} {cs vs : List AV} : stAr sh off id g x h (some (.arow rsh cs)) (some vs) = if g * shSize rsh = cs.length ∧ vs.length = shSize sh ∧ off + vs.length ≤ cs.length then some (.und,h.set id (.arow rsh (splice cs off vs)),escOf id x) else none:=(rfl)
def iaAr (sh : Sh) (id g : Nat) : Option Obj → Option Nat → Option AV
  | some (.arow rsh cs),some i=>if rsh = sh ∧ g * shSize rsh = cs.length ∧ i < g then some (.bt 4 (i * shSize sh) id g) else none
  | _,_=>none
theorem iaddr_bt {sh : Sh} {t id g : Nat} {i : AV} : oIaddr sh (.bt 3 t id g) i h = iaAr sh id g h[id]? (natOf i):=by
  unfold oIaddr iaAr
  cases natOf i with
  | none=>cases h[id]? with
    | none=>rfl
    | some o=>cases o <;> rfl
  | some k=>
    show iaA sh 3 id g k h = _
    unfold iaA
    cases h[id]? with
    | none=>rfl
    | some o=>cases o <;> rfl
theorem iaAr_arow {sh rsh : Sh} {id g i : Nat} {cs : List AV} : iaAr sh id g (some (.arow rsh cs)) (some i) = if rsh = sh ∧ g * shSize rsh = cs.length ∧ i < g then some (.bt 4 (i * shSize sh) id g) else none:=(rfl)
theorem faddr_bt {off o id g : Nat} {sh : Sh} : oFaddr off sh (.bt 4 o id g) = some (.bt 4 (o + off) id g):=(rfl)
theorem len_bt {t id g : Nat} : oLen (.bt 3 t id g) = some (.p (.int .i64 g)):=(rfl)
theorem nil_bt {o id g : Nat} : oNil (.bt 4 o id g) = some (.bt 4 o id g):=(rfl)
def apAr (sh : Sh) (h : Heap) (t id g g' : Nat) : Option Obj → Option Obj → Option (AV × Heap × Esc)
  | some (.arow rsh cs),some (.arow rsh' ds)=>if rsh = sh ∧ rsh' = sh ∧ g * shSize sh = cs.length ∧ g' * shSize sh = ds.length ∧ g + g' ≤ maxSl then
        some (.bt 3 t id (g + g'),h.set id (.arow sh (cs ++ ds)),bif decide (id < AV.tops ds) then [(id,AV.tops ds)] else []) else none
  | _,_=>none
theorem apA_bt {sh : Sh} {t id g t' id' g' : Nat} : apA sh h (.bt 3 t id g) (.bt 3 t' id' g') = apAr sh h t id g g' h[id]? h[id']?:=by
  show (match h[id]?,h[id']? with | _,_=>_) = _
  unfold apAr
  rfl
theorem apAr_arow {sh rsh rsh' : Sh} {t id g g' : Nat} {cs ds : List AV} : apAr sh h t id g g' (some (.arow rsh cs)) (some (.arow rsh' ds)) = if rsh = sh ∧ rsh' = sh ∧ g * shSize sh = cs.length ∧ g' * shSize sh = ds.length ∧ g + g' ≤ maxSl then
        some (.bt 3 t id (g + g'),h.set id (.arow sh (cs ++ ds)),bif decide (id < AV.tops ds) then [(id,AV.tops ds)] else []) else none:=(rfl)
theorem rowsUp_bt {h : Heap} {k t i g : Nat} {r : List AV} : rowsUp (.bt k t i g :: r) h = (.bt 3 t h.length 0 :: (rowsUp r (h ++ [.arow (decSh t) []])).1,(rowsUp r (h ++ [.arow (decSh t) []])).2):=(rfl)
theorem decSh_0 : decSh 0 = none:=(rfl)
theorem decSh_s {n : Nat} : decSh (n + 1) = some n:=(rfl)
attribute [go_sem] load_bt ldAr_arow store_bt stAr_arow iaddr_bt iaAr_arow faddr_bt len_bt nil_bt apA_bt apAr_arow rowsUp_bt decSh_0 decSh_s
attribute [go_sem] seqN_normal seqN_exit seqN_ret blockN_normal blockN_same blockN_ret NW_scope pK_some pK_none wK_some wK_none pK_ite wK_ite gV_tt gV_ff gV_tf gV_ft gV_skp gP_tt gP_ff gP_tf gP_ft gP_skp gM_tt gM_ff gM_tf gM_ft gM_skp bin_add bin_sub bin_mul bin_quo bin_rem bin_and bin_or bin_xor bin_andNot bin_eql bin_neq bin_lss bin_leq bin_gtr bin_geq bin_shl bin_shr str_add str_eql str_neq str_lss str_leq str_gtr str_geq un_neg un_not convI nilref nilrref nilvp nilfn pick_b len_sl len_sl0 len_own lens_s ext_t faddr_ref faddr_rref faddr_vp field_p field_a load_ref load_rref load_vp ldB_box ldR_row store_ref stB_box store_rref stR_some stO_row stE_agg stE_int stE_bool stE_str stE_sl stE_nilp pur_p escS_p escS_box isBld_p isBld_sl0 isBld_own isBld_nilp isBld_0 isBld_1 isBld_3 escS_self escS_buf iaddr_sl iaS_some iaddr_own iaO_row idxs_s alK_eq nwK_eq mmK_eq unsOp sameB upcB neqB lenB n64 dataB strB appB rds rd oBox oBuild fillV oBsl fillW oEqa oIsnil nilAny condU_true condU_false condU_any nilOf oMkif okIn oConv oMksl bndV oSlstr oSlice oIaddra oIdxa oApp oCopy oClr oMx oMn oLook oMupd oMent oEstore oMdel oLenm oMrange oMentry
attribute [go_sem ↓] pK_some pK_none wK_some wK_none gV_tt gV_ff gV_tf gV_ft gV_skp gP_tt gP_ff gP_tf gP_ft gP_skp gM_tt gM_ff gM_tf gM_ft gM_skp condB_true condB_false wantK_tt wantK_ff wantK_tf wantK_ft wantK_skp seqN_normal seqN_exit seqN_ret blockN_normal blockN_same blockN_ret alK_eq nwK_eq mmK_eq loopK_normal loopK_exit loopK_ret scopeK_eq finR_normal finR_ret
attribute [go_sem low] gV_any gP_any gM_any blockN_exit
attribute [congr] seqN_congr blockN_congr NW_congr NLoop_congr pK_congr wK_congr gV_congr gP_congr gM_congr
end Go.Am
end
section
/- The abstract machine,part X: the library's functions that have no Go text: comparing strings,finding a byte. -/
set_option linter.unusedSimpArgs false
set_option linter.unusedVariables false
namespace Go.Am
variable {P : Program}
structure ExtRow (P : Program) (f : Nat) (e : Array Value → Sem Value) : Prop where
  row : ∃ fn,P.funcs[f]? = some fn ∧ fn.name ≠ "runtime.NumGoroutine" ∧ fn.body = none ∧ Extern.findNext fn = none ∧ Extern.find fn = some e
theorem ExtRow.run {f : Nat} {e : Array Value → Sem Value} (R : ExtRow P f e) {us : Array Value} {w w' : World} {x : Value} (he : (e us).run P w = .ok x w') : (callFunc f us).run P w = .ok (.value x) w':=by
  obtain ⟨fn,h1,h2,h3,h4,h5⟩:=R.row
  unfold callFunc
  simp [h1,h2,h3,h4,h5,he]
theorem extRow_of {f : Nat} {e : Array Value → Sem Value} (h : (match P.funcs[f]? with | some fn=>fn.name != "runtime.NumGoroutine" && fn.body.isNone && (Extern.findNext fn).isNone | none=>false) = true) (h2 : (P.funcs[f]?).bind Extern.find = some e) : ExtRow P f e:=by
  cases hf : P.funcs[f]? with
  | none=>rw [hf] at h; cases h
  | some fn=>
    rw [hf] at h h2
    simp only [Bool.and_eq_true,bne_iff_ne,ne_eq,Option.isNone_iff_eq_none] at h
    exact ⟨⟨fn,hf,h.1.1,h.1.2,h.2,h2⟩⟩
def idxB (s : List UInt8) (c : UInt8) : Int:=if s.findIdx (· == c) < s.length then (s.findIdx (· == c) : Int) else -1
def cmpL : List UInt8 → List UInt8 → Int
  | [],[]=>0
  | [],_ :: _=>-1
  | _ :: _,[]=>1
  | a :: asv,b :: bs=>if a < b then -1 else if b < a then 1 else cmpL asv bs
theorem ba_get (s : List UInt8) (i : Nat) : (⟨s.toArray⟩ : ByteArray)[i]! = s.getD i 0:=by
  by_cases h : i < s.length
  · rw [getElem!_pos (⟨s.toArray⟩ : ByteArray) i h]
    show s.toArray[i] = _
    simp [h]
  · rw [getElem!_neg (⟨s.toArray⟩ : ByteArray) i h]
    simp [Nat.not_lt.1 h]
    rfl
theorem find_idx (s : List UInt8) (c : UInt8) : (match (List.range (⟨s.toArray⟩ : ByteArray).size).find? fun i=>(⟨s.toArray⟩ : ByteArray)[i]! == c with
    | some i=>(i : Int)
    | none=>-1) = idxB s c:=by
  have hsz : (⟨s.toArray⟩ : ByteArray).size = s.length:=rfl
  have hget : ∀ i,i < s.length → (⟨s.toArray⟩ : ByteArray)[i]! = s.getD i 0:=by
    intro i hi
    exact ba_get s i
  unfold idxB
  rw [hsz]
  by_cases h : s.findIdx (· == c) < s.length
  · rw [if_pos h]
    have hf : (List.range s.length).find? (fun i=>(⟨s.toArray⟩ : ByteArray)[i]! == c) = some (s.findIdx (· == c)):=by
      rw [List.find?_eq_some_iff_getElem]
      refine ⟨?_,s.findIdx (· == c),by simpa using h,by simp,fun j hj=>?_⟩
      · rw [hget _ h]
        have:=List.findIdx_getElem (w:=h)
        simpa [h] using this
      · simp only [List.getElem_range]
        have hj' : j < s.length:=by omega
        rw [hget _ hj']
        have:=List.not_of_lt_findIdx hj
        simpa [hj'] using this
    rw [hf]
  · rw [if_neg h]
    have hf : (List.range s.length).find? (fun i=>(⟨s.toArray⟩ : ByteArray)[i]! == c) = none:=by
      rw [List.find?_eq_none]
      intro i hi
      rw [List.mem_range] at hi
      rw [hget _ hi]
      intro hc
      exact h (List.findIdx_lt_length_of_exists ⟨s[i],List.getElem_mem hi,by simpa [hi] using hc⟩)
    rw [hf]
def extF (fi fc : Nat) (f : Nat) (vs : List PV) : Option PV:=
  bif Nat.beq f fi then (match vs with
    | [.str s,.int .u8 c]=>some (.int .i64 (idxB s (UInt8.ofNat c.toNat)))
    | _=>none)
  else bif Nat.beq f fc then (match vs with
    | [.str a,.str b]=>some (.int .i64 (cmpL a b))
    | _=>none)
  else none
theorem ext_call {X : Ctx} {f : Nat} {asv : List AV} {vs : List PV} {h h1 : Heap} {r : PV} {K : Post} (hf : X.fn f = none) (h2 : X.ex2 f asv h = none) (hp : puras h asv = some (vs.map .p,h1)) (hu : unp (vs.map AV.p) = some vs) (hx : X.ext f vs = some r) : ACall X f asv h K = K (.p r) h1 []:=by
  refine propext (ACall.eq (ACall.fold ?_) K)
  unfold Step
  simp only [hf,h2,hp,hu,hx]
  exact ⟨trivial,trivial,trivial⟩
structure GrowRow (P : Program) (f : Nat) (sh : Sh) : Prop where
  enter : ∀ us w,(callFunc f us).run P w = .ok (.enter f us) w
  room : ∀ a w,Calls P f #[.slice a 0 0,.int .i64 0] w fun e w'=>e = .returned (.slice a 0 0) ∧ w' = w
  grow : ∀ a (n : Nat) w,0 < n → n ≤ 1048576 → Calls P f #[.slice a 0 0,.int .i64 n] w fun e w'=>∃ G cs E,e = .returned (.slice (some ⟨w.heap.size,0,none⟩) 0 G) ∧ cs.size = G * shSize sh ∧ w' = w.drew.alloc (.cells cs E)
def growF : List (Nat × Sh) → Nat → List AV → Heap → Option (AV × Heap × Esc)
  | [],_,_,_=>none
  | (g,sh) :: r,f,asv,h=>bif Nat.beq f g then (match asv with
    | [.sl0 _,.p (.int .i64 n)]=>bif decide (0 ≤ n) && decide (n ≤ 1048576) then some (.own h.length 0 0 0,h ++ [.row sh [] 0],[]) else none
    | _=>none) else growF r f asv h
theorem growF_ok {gl : Nat → Option PV} : ∀ (gs : List (Nat × Sh)),(∀ g sh,(g,sh) ∈ gs → GrowRow P g sh) → ∀ {f : Nat} {asv : List AV} {h : Heap} {v : AV} {h' : Heap} {x : Esc},growF gs f asv h = some (v,h',x) →
    CallOk P gl f asv h fun v1 h1 x1=>v1 = v ∧ h1 = h' ∧ x1 = x
  | [],_,f,asv,h,v,h',x,H=>by cases H
  | (g,sh) :: r,hg,f,asv,h,v,h',x,H=>by
    unfold growF at H
    cases e1 : Nat.beq f g with
    | false=>
      rw [e1] at H
      exact growF_ok r (fun g sh hm=>hg g sh (by simp [hm])) H
    | true=>
      rw [e1] at H
      have e:=Nat.eq_of_beq_eq_true e1
      subst e
      have R:=hg f sh (by simp)
      simp only [cond_true] at H
      split at H
      · rename_i sh' n
        cases hb : (decide (0 ≤ n) && decide (n ≤ 1048576)) with
        | false=>rw [hb] at H; cases H
        | true=>
          rw [hb] at H
          simp only [cond_true,Option.some.injEq,Prod.mk.injEq] at H
          obtain ⟨rfl,rfl,rfl⟩:=H
          simp only [Bool.and_eq_true,decide_eq_true_eq] at hb
          intro μ w vs Hh Hg hl hr
          match vs,hl with
          | [u1,u2],_=>
            have q1:=hr 0 _ u1 rfl rfl
            have q2:=(hr 1 _ u2 rfl rfl).p_inv
            cases q1
            cases q2
            obtain ⟨m,hm⟩:=Int.eq_ofNat_of_zero_le hb.1
            subst hm
            refine .inl ⟨R.enter _,?_⟩
            rcases Nat.eq_zero_or_pos m with h0 | h0
            · subst h0
              refine (R.room _ w).mono fun e w' he=>?_
              obtain ⟨rfl,rfl⟩:=he
              obtain ⟨n1,n2⟩:=newNil Hh sh
              refine ⟨_,_,_,_,⟨rfl,rfl,rfl⟩,?_,n1,n2,EscInv.push (by simp [Obj.top])⟩
              exact .own h.length 0 0 0 _ 0 sh [] 0 none (Nat.le_refl _) (by simp) (by rw [← Hh.len]; simp) (by simp) (by simp) (fun _=>rfl)
            · refine (R.grow _ m w h0 (by omega)).mono fun e w' he => ?_
              obtain ⟨G,cs,E,rfl,hcs,rfl⟩:=he
              have hw : WExt w (w.drew.alloc (.cells cs E)):=(WExt.drew w _).trans (WExt.push _ _)
              obtain ⟨n1,n2⟩:=newRow' (sh:=sh) (xs:=[]) Hh hw (b:=w.heap.size) (n:=cs.size) (Nat.le_refl _) (by show w.heap.size < (w.heap.push _).size; simp) (c:=cs) (Block.push (w:=w.drew) cs E) (by simp) (by simp) (by simp)
              refine ⟨_,_,_,_,⟨rfl,rfl,rfl⟩,?_,n1,n2,EscInv.push (by simp [Obj.top])⟩
              refine .own h.length 0 0 0 _ G sh [] 0 (some (w.heap.size,cs.size)) (Nat.zero_le _) (by simp) (by rw [← Hh.len]; simp) (by simp) (by simp) (fun _=>?_)
              exact .inr ⟨by simp,by simp [hcs]⟩
      · cases H
end Go.Am
end
section
/- Short words for the printed code. -/
set_option linter.all false
namespace Go.Am
instance {n : Nat} : OfNat Opd n:=⟨.t n⟩
abbrev GL:=Nat → Option PV
abbrev KT:=Ex → St → Prop
def cI (n : Int) : Opd:=.c (.p (.int .i64 n))
def cT : Opd:=.c (.p (.bool true))
def cF : Opd:=.c (.p (.bool false))
def cS (s : List UInt8) : Opd:=.c (.p (.str s))
def uO (d : Nat) (o : AO) : AOp:=⟨some d,none,o⟩
def wO (o : AO) : AOp:=⟨none,none,o⟩
def gD (d g : Nat) (b : Bool) (o : AO) : AOp:=⟨some d,some (g,b),o⟩
def mV (d : Nat) (x : Opd) : AOp:=⟨some d,none,.mv x⟩
def bN (d : Nat) (b : BinOp) (x y : Opd) : AOp:=⟨some d,none,.bin b x y⟩
def cL (d f : Nat) (l : List Opd) : AOp:=⟨some d,none,.call f l⟩
def lD (d : Nat) (s : Sh) (x : Opd) : AOp:=⟨some d,none,.load s x⟩
def iA (d : Nat) (s : Sh) (x y : Opd) : AOp:=⟨some d,none,.iaddr s x y⟩
def fA (d o : Nat) (s : Sh) (x : Opd) : AOp:=⟨some d,none,.faddr o s x⟩
def lN (d : Nat) (x : Opd) : AOp:=⟨some d,none,.len x⟩
def eX (d : Nat) (x : Opd) (i : Nat) : AOp:=⟨some d,none,.ext x i⟩
def dF (o : AOp) (l : List Nat) : DOp:=⟨o,l,false,[],[]⟩
def dT (o : AOp) (l : List Nat) : DOp:=⟨o,l,true,[],[]⟩
def dA (o : AOp) (l : List Nat) (e : Bool) (a b : List Nat) : DOp:=⟨o,l,e,a,b⟩
def rg (l : List AOp) (k : List Nat) : ACode:=.reg l (some k)
def dr (l : List DOp) (k : List Nat) : ACode:=.draw l (some k)
end Go.Am
end
section
/- The functions asv abstract code,and asv formulas over their values: printed by program out of the translation. -/
set_option linter.unusedVariables false
set_option maxRecDepth 100000
namespace Go.Am
def p_q00a_k1 : ACode:=.pr [4,5,6,7,8,9,10,11,12,13,14,15,16,17,18,19,20,21,22] (.seq (rg [mV 70 4,
cL 71 f_q024 [70],
mV 72 16,
bN 73 .eql 71 72,
mV 74 73,
gD 75 74 true (.mv 6),
gD 76 74 true (.mv 16),
gD 77 74 true (.bin .eql 75 76),
uO 78 (.pick 74 77 cF),
mV 79 78,
gD 80 79 true (.mv 5),
gD 81 79 true (.mv 17),
gD 82 79 true (.lens 81),
gD 83 79 true (.bin .eql 80 82),
uO 84 (.pick 79 83 cF),
mV 85 84,
gD 86 85 true (.mv 10),
gD 87 85 true (.mv 16),
gD 88 85 true (.bin .eql 86 87),
uO 89 (.pick 85 88 cF),
mV 90 89,
gD 91 90 true (.mv 7),
gD 92 90 true (.mv 17),
gD 93 90 true (.bin .eql 91 92),
uO 94 (.pick 90 93 cF),
mV 95 94,
gD 96 95 true (.mv 8),
gD 97 95 true (.mv 18),
gD 98 95 true (.bin .eql 96 97),
uO 99 (.pick 95 98 cF),
mV 100 99,
gD 101 100 true (.mv 9),
gD 102 100 true (.mv 19),
gD 103 100 true (.bin .eql 101 102),
uO 104 (.pick 100 103 cF),
mV 105 104,
gD 106 105 true (.mv 12),
gD 107 105 true (.mv 16),
gD 108 105 true (.bin .eql 106 107),
uO 109 (.pick 105 108 cF),
mV 110 109,
gD 111 110 true (.mv 11),
gD 112 110 true (.mv 22),
gD 113 110 true (.call f_q016 [111,112]),
uO 114 (.pick 110 113 cF),
mV 115 114,
gD 116 115 true (.mv 15),
gD 117 115 true (.mv 16),
gD 118 115 true (.bin .eql 116 117),
uO 119 (.pick 115 118 cF),
mV 120 119,
gD 121 120 true (.mv 13),
gD 122 120 true (.mv 20),
gD 123 120 true (.bin .eql 121 122),
uO 124 (.pick 120 123 cF),
mV 125 124,
gD 126 125 true (.mv 14),
gD 127 125 true (.mv 21),
gD 128 125 true (.bin .eql 126 127),
uO 129 (.pick 125 128 cF),
mV 130 129,
gD 131 130 true (.call f_q00b []),
uO 132 (.pick 130 131 cF),
mV 2 132] [2])
.ret)
def d_q00a_k1 (C : Hd) (gl : GL) (v4 v5 v6 v7 v8 v9 v10 v11 v12 v13 v14 v15 v16 v17 v18 v19 v20 v21 v22 : AV) (h : Heap) (x : Esc) (K : KT) : Prop:=
 C f_q024 [v4] h fun t1 h2 y3=>
 pK (oBin .eql t1 v16) fun t4=>
 gM t4 true v6 h2 fun t5 h6 y7=>
 gM t4 true v16 h6 fun t8 h9 y10=>
 gP t4 true (oBin .eql t5 t8) h9 fun t11 h12 y13=>
 pK (oPick t4 t11 (AB false)) fun t14=>
 gM t14 true v5 h12 fun t15 h16 y17=>
 gM t14 true v17 h16 fun t18 h19 y20=>
 gP t14 true (oLens t18) h19 fun t21 h22 y23=>
 gP t14 true (oBin .eql t15 t21) h22 fun t24 h25 y26=>
 pK (oPick t14 t24 (AB false)) fun t27=>
 gM t27 true v10 h25 fun t28 h29 y30=>
 gM t27 true v16 h29 fun t31 h32 y33=>
 gP t27 true (oBin .eql t28 t31) h32 fun t34 h35 y36=>
 pK (oPick t27 t34 (AB false)) fun t37=>
 gM t37 true v7 h35 fun t38 h39 y40=>
 gM t37 true v17 h39 fun t41 h42 y43=>
 gP t37 true (oBin .eql t38 t41) h42 fun t44 h45 y46=>
 pK (oPick t37 t44 (AB false)) fun t47=>
 gM t47 true v8 h45 fun t48 h49 y50=>
 gM t47 true v18 h49 fun t51 h52 y53=>
 gP t47 true (oBin .eql t48 t51) h52 fun t54 h55 y56=>
 pK (oPick t47 t54 (AB false)) fun t57=>
 gM t57 true v9 h55 fun t58 h59 y60=>
 gM t57 true v19 h59 fun t61 h62 y63=>
 gP t57 true (oBin .eql t58 t61) h62 fun t64 h65 y66=>
 pK (oPick t57 t64 (AB false)) fun t67=>
 gM t67 true v12 h65 fun t68 h69 y70=>
 gM t67 true v16 h69 fun t71 h72 y73=>
 gP t67 true (oBin .eql t68 t71) h72 fun t74 h75 y76=>
 pK (oPick t67 t74 (AB false)) fun t77=>
 gM t77 true v11 h75 fun t78 h79 y80=>
 gM t77 true v22 h79 fun t81 h82 y83=>
 gV t77 true h82 (C f_q016 [t78,t81] h82) fun t84 h85 y86=>
 pK (oPick t77 t84 (AB false)) fun t87=>
 gM t87 true v15 h85 fun t88 h89 y90=>
 gM t87 true v16 h89 fun t91 h92 y93=>
 gP t87 true (oBin .eql t88 t91) h92 fun t94 h95 y96=>
 pK (oPick t87 t94 (AB false)) fun t97=>
 gM t97 true v13 h95 fun t98 h99 y100=>
 gM t97 true v20 h99 fun t101 h102 y103=>
 gP t97 true (oBin .eql t98 t101) h102 fun t104 h105 y106=>
 pK (oPick t97 t104 (AB false)) fun t107=>
 gM t107 true v14 h105 fun t108 h109 y110=>
 gM t107 true v21 h109 fun t111 h112 y113=>
 gP t107 true (oBin .eql t108 t111) h112 fun t114 h115 y116=>
 pK (oPick t107 t114 (AB false)) fun t117=>
 gV t117 true h115 (C f_q00b [] h115) fun t118 h119 y120=>
 pK (oPick t117 t118 (AB false)) fun t121=>
 K .ret ⟨[(2,t121)],h119,(y120 ++ (y116 ++ (y113 ++ (y110 ++ (y106 ++ (y103 ++ (y100 ++ (y96 ++ (y93 ++ (y90 ++ (y86 ++ (y83 ++ (y80 ++ (y76 ++ (y73 ++ (y70 ++ (y66 ++ (y63 ++ (y60 ++ (y56 ++ (y53 ++ (y50 ++ (y46 ++ (y43 ++ (y40 ++ (y36 ++ (y33 ++ (y30 ++ (y26 ++ (y23 ++ (y20 ++ (y17 ++ (y13 ++ (y10 ++ (y7 ++ (y3 ++ x))))))))))))))))))))))))))))))))))))⟩
theorem e_q00a_k1 {C gl e h x K} : NW C gl p_q00a_k1 ⟨e,h,x⟩ K = d_q00a_k1 C gl (aget e 4) (aget e 5) (aget e 6) (aget e 7) (aget e 8) (aget e 9) (aget e 10) (aget e 11) (aget e 12) (aget e 13) (aget e 14) (aget e 15) (aget e 16) (aget e 17) (aget e 18) (aget e 19) (aget e 20) (aget e 21) (aget e 22) h x K:=by kernel_rfl
def P_q00a (q1 : ACode) : ACode:=(.seq (rg [mV 2 cF] [0])
(.seq (rg [mV 23 0,
uO 24 (.build [.sl0 none,.p (.int .i64 0)] [(0,1,23)]),
uO 25 (.box 24),
mV 3 25] [3])
(.seq (rg [mV 26 3,
mV 27 3,
cL 28 f_q00j [27,(cI 0),(cI 8)],
cL 29 f_q00e [26,28],
mV 4 29] [4])
(.seq (rg [mV 31 4,
cL 32 f_q025 [31],
mV 30 32,
eX 33 30 0,
eX 34 30 1,
mV 5 33,
mV 6 34] [4,5,6])
(.seq (rg [mV 36 4,
cL 37 f_q026 [36],
mV 35 37,
eX 38 35 0,
eX 39 35 1,
eX 40 35 2,
eX 41 35 3,
mV 7 38,
mV 8 39,
mV 9 40,
mV 10 41] [4,5,6,7,8,9,10])
(.seq (rg [mV 43 4,
cL 44 f_q027 [43],
mV 42 44,
eX 45 42 0,
eX 46 42 1,
mV 11 45,
mV 12 46] [4,5,6,7,8,9,10,11,12])
(.seq (rg [mV 48 4,
cL 49 f_q023 [48],
mV 47 49,
eX 50 47 0,
eX 51 47 1,
eX 52 47 2,
mV 13 50,
mV 14 51,
mV 15 52] [4,5,6,7,8,9,10,11,12,13,14,15])
(.seq (rg [mV 53 4,
cL 54 f_q00q [53],
mV 16 54] [4,5,6,7,8,9,10,11,12,13,14,15,16])
(.seq (rg [mV 17 (cS []),
mV 18 (cS []),
mV 19 (cS []),
mV 20 (cI 0),
mV 21 (cI 0)] [4,5,6,7,8,9,10,11,12,13,14,15,16,17,18,19,20,21])
(.seq (rg [mV 22 (.c (.p (.sl none [])))] [4,5,6,7,8,9,10,11,12,13,14,15,16,17,18,19,20,21,22])
(.seq (.seq (rg [mV 55 16,
bN 56 .eql 55 (cI 0)] [4,5,6,7,8,9,10,11,12,13,14,15,16,17,18,19,20,21,22,56])
(.cond 56 (.seq (rg [mV 58 4,
cL 59 f_q00s [58],
mV 57 59,
eX 60 57 0,
eX 61 57 1,
eX 62 57 2,
mV 17 60,
mV 18 61,
mV 19 62] [4,5,6,7,8,9,10,11,12,13,14,15,16,17,18,19])
(.seq (rg [mV 63 4,
cL 64 f_q00t [63],
mV 22 64] [4,5,6,7,8,9,10,11,12,13,14,15,16,17,18,19,22])
(rg [mV 66 4,
cL 67 f_q00r [66],
mV 65 67,
eX 68 65 0,
eX 69 65 1,
mV 20 68,
mV 21 69] [4,5,6,7,8,9,10,11,12,13,14,15,16,17,18,19,20,21,22])))
.skip))
q1)))))))))))
def a_q00a : AFun:=⟨1,[.t 2],P_q00a p_q00a_k1,false,false⟩
def d_q00a (C : Hd) (gl : GL) (q1 : ACode) (v0 : AV) (h : Heap) (x : Esc) (K : KT) : Prop:=
 pK (oBuild [.sl0 none,.p (.int .i64 0)] [(0,1,v0)]) fun t1=>
 wK (oBox t1 h) fun t2 h3 y4=>
 C f_q00j [t2,(AI 0),(AI 8)] h3 fun t5 h6 y7=>
 C f_q00e [t2,t5] h6 fun t8 h9 y10=>
 C f_q025 [t8] h9 fun t11 h12 y13=>
 pK (oExt t11 0) fun t14=>
 pK (oExt t11 1) fun t15=>
 C f_q026 [t8] h12 fun t16 h17 y18=>
 pK (oExt t16 0) fun t19=>
 pK (oExt t16 1) fun t20=>
 pK (oExt t16 2) fun t21=>
 pK (oExt t16 3) fun t22=>
 C f_q027 [t8] h17 fun t23 h24 y25=>
 pK (oExt t23 0) fun t26=>
 pK (oExt t23 1) fun t27=>
 C f_q023 [t8] h24 fun t28 h29 y30=>
 pK (oExt t28 0) fun t31=>
 pK (oExt t28 1) fun t32=>
 pK (oExt t28 2) fun t33=>
 C f_q00q [t8] h29 fun t34 h35 y36=>
 pK (oBin .eql t34 (AI 0)) fun t37=>
 condB t37 (C f_q00s [t8] h35 fun t38 h39 y40=>
 pK (oExt t38 0) fun t41=>
 pK (oExt t38 1) fun t42=>
 pK (oExt t38 2) fun t43=>
 C f_q00t [t8] h39 fun t44 h45 y46=>
 C f_q00r [t8] h45 fun t47 h48 y49=>
 pK (oExt t47 0) fun t50=>
 pK (oExt t47 1) fun t51=>
 NW C gl q1 ⟨[(4,t8),(5,t14),(6,t15),(7,t19),(8,t20),(9,t21),(10,t22),(11,t26),(12,t27),(13,t31),(14,t32),(15,t33),(16,t34),(17,t41),(18,t42),(19,t43),(20,t50),(21,t51),(22,t44)],h48,(y49 ++ (y46 ++ (y40 ++ (y36 ++ (y30 ++ (y25 ++ (y18 ++ (y13 ++ (y10 ++ (y7 ++ (y4 ++ x)))))))))))⟩ K)
 (NW C gl q1 ⟨[(4,t8),(5,t14),(6,t15),(7,t19),(8,t20),(9,t21),(10,t22),(11,t26),(12,t27),(13,t31),(14,t32),(15,t33),(16,t34),(17,(.p (.str []))),(18,(.p (.str []))),(19,(.p (.str []))),(20,(AI 0)),(21,(AI 0)),(22,(.p (.sl none []))),(56,t37)],h35,(y36 ++ (y30 ++ (y25 ++ (y18 ++ (y13 ++ (y10 ++ (y7 ++ (y4 ++ x))))))))⟩ K)
theorem E_q00a {C gl q1 v0 h x K} : NW C gl (P_q00a q1) ⟨enter [v0],h,x⟩ K = d_q00a C gl q1 v0 h x K:=by kernel_rfl
theorem e_q00a {C gl v0 h x K} : NW C gl a_q00a.body ⟨enter [v0],h,x⟩ K = d_q00a C gl p_q00a_k1 v0 h x K:=E_q00a
def p_q00e_k1 : ACode:=.pr [0,5,6,7] (.seq (rg [bN 8 .lss 7 6] [0,5,6,7,8])
(.seq (.cond 8 .skip
(.exit 0))
(.seq (.block 1 (rg [mV 9 5,
mV 10 0,
cL 11 f_q00d [10],
uO 12 (.bsl false (some 6) 1 (.agg [.int .i64 0,.int .i64 0,.int .i64 0,.str [],.str [],.str []]) [(0,11)]),
uO 13 (.app (some 6) 9 12),
mV 5 13] [0,5,6,7]))
(rg [bN 14 .add 7 (cI 1),
mV 7 14] [0,5,6,7]))))
def d_q00e_k1 (C : Hd) (gl : GL) (v0 v5 v6 v7 : AV) (h : Heap) (x : Esc) (K : KT) : Prop:=
 pK (oBin .lss v7 v6) fun t1=>
 condB t1 (C f_q00d [v0] h fun t2 h3 y4=>
 wK (oBsl false (some 6) 1 (.agg [.int .i64 0,.int .i64 0,.int .i64 0,.str [],.str [],.str []]) [(0,t2)] h3) fun t5 h6 y7=>
 wK (oApp (some 6) v5 t5 h6) fun t8 h9 y10=>
 pK (oBin .add v7 (AI 1)) fun t11=>
 K .normal ⟨[(0,v0),(5,t8),(6,v6),(7,t11)],h9,(y10 ++ (y7 ++ (y4 ++ x)))⟩)
 (K (.exit 0) ⟨[(0,v0),(5,v5),(6,v6),(7,v7),(8,t1)],h,x⟩)
theorem e_q00e_k1 {C gl e h x K} : NW C gl p_q00e_k1 ⟨e,h,x⟩ K = d_q00e_k1 C gl (aget e 0) (aget e 5) (aget e 6) (aget e 7) h x K:=by kernel_rfl
theorem l_q00e_k1 {C gl e h x K} : NW C gl (.loop (.scope p_q00e_k1)) ⟨e,h,x⟩ K = NLoop C gl (.scope p_q00e_k1) K [(0,aget e 0),(5,aget e 5),(6,aget e 6),(7,aget e 7)] h x:=NLoop_sc
def p_q00e_k2 : ACode:=.pr [0,5,17] (.seq (rg [bN 18 .lss 17 (cI 11)] [0,5,17,18])
(.seq (.cond 18 .skip
(.exit 2))
(.seq (.block 3 (rg [mV 19 5,
mV 20 0,
uO 21 (.bsl false none 3 (.int .i64 0) [(0,(cI 1800)),(1,(cI 1830)),(2,(cI 2000))]),
cL 22 f_q00i [20,21],
cL 23 f_q01i [(cS [49]),22],
uO 24 (.build [.p (.int .i64 0),.p (.int .i64 0),.p (.int .i64 0),.p (.str []),.p (.str []),.p (.str [])] [(0,1,(cI 8)),(3,1,23)]),
uO 25 (.bsl false (some 6) 1 (.agg [.int .i64 0,.int .i64 0,.int .i64 0,.str [],.str [],.str []]) [(0,24)]),
uO 26 (.app (some 6) 19 25),
mV 5 26] [0,5,17]))
(rg [bN 27 .add 17 (cI 1),
mV 17 27] [0,5,17]))))
def d_q00e_k2 (C : Hd) (gl : GL) (v0 v5 v17 : AV) (h : Heap) (x : Esc) (K : KT) : Prop:=
 pK (oBin .lss v17 (AI 11)) fun t1=>
 condB t1 (wK (oBsl false none 3 (.int .i64 0) [(0,(AI 1800)),(1,(AI 1830)),(2,(AI 2000))] h) fun t2 h3 y4=>
 C f_q00i [v0,t2] h3 fun t5 h6 y7=>
 C f_q01i [(.p (.str [49])),t5] h6 fun t8 h9 y10=>
 pK (oBuild [.p (.int .i64 0),.p (.int .i64 0),.p (.int .i64 0),.p (.str []),.p (.str []),.p (.str [])] [(0,1,(AI 8)),(3,1,t8)]) fun t11=>
 wK (oBsl false (some 6) 1 (.agg [.int .i64 0,.int .i64 0,.int .i64 0,.str [],.str [],.str []]) [(0,t11)] h9) fun t12 h13 y14=>
 wK (oApp (some 6) v5 t12 h13) fun t15 h16 y17=>
 pK (oBin .add v17 (AI 1)) fun t18=>
 K .normal ⟨[(0,v0),(5,t15),(17,t18)],h16,(y17 ++ (y14 ++ (y10 ++ (y7 ++ (y4 ++ x)))))⟩)
 (K (.exit 2) ⟨[(0,v0),(5,v5),(17,v17),(18,t1)],h,x⟩)
theorem e_q00e_k2 {C gl e h x K} : NW C gl p_q00e_k2 ⟨e,h,x⟩ K = d_q00e_k2 C gl (aget e 0) (aget e 5) (aget e 17) h x K:=by kernel_rfl
theorem l_q00e_k2 {C gl e h x K} : NW C gl (.loop (.scope p_q00e_k2)) ⟨e,h,x⟩ K = NLoop C gl (.scope p_q00e_k2) K [(0,aget e 0),(5,aget e 5),(17,aget e 17)] h x:=NLoop_sc
def p_q00e_k3 : ACode:=.pr [5] (.seq (rg [mV 28 5,
mV 4 28] [4])
.ret)
def d_q00e_k3 (C : Hd) (gl : GL) (v5 : AV) (h : Heap) (x : Esc) (K : KT) : Prop:=
 K .ret ⟨[(4,v5)],h,x⟩
theorem e_q00e_k3 {C gl e h x K} : NW C gl p_q00e_k3 ⟨e,h,x⟩ K = d_q00e_k3 C gl (aget e 5) h x K:=by kernel_rfl
def P_q00e_k4 (q2 q3 : ACode) : ACode:=.pr [0,5] (.seq (.seq (rg [mV 15 0,
cL 16 f_q00f [15,(cI 80)]] [0,5,16])
(.cond 16 (.seq (rg [mV 17 (cI 0)] [0,5,17])
(.block 2 (.loop (.scope q2))))
.skip))
q3)
def p_q00e_k4 : ACode:=P_q00e_k4 p_q00e_k2 p_q00e_k3
def d_q00e_k4 (C : Hd) (gl : GL) (q2 q3 : ACode) (v0 v5 : AV) (h : Heap) (x : Esc) (K : KT) : Prop:=
 C f_q00f [v0,(AI 80)] h fun t1 h2 y3=>
 condB t1 (NW C gl (.loop (.scope q2)) ⟨[(0,v0),(5,v5),(17,(AI 0))],h2,(y3 ++ x)⟩ (blockN 2 (seqN C gl q3 K)))
 (NW C gl q3 ⟨[(0,v0),(5,v5),(16,t1)],h2,(y3 ++ x)⟩ K)
theorem E_q00e_k4 {C gl q2 q3 e h x K} : NW C gl (P_q00e_k4 q2 q3) ⟨e,h,x⟩ K = d_q00e_k4 C gl q2 q3 (aget e 0) (aget e 5) h x K:=by kernel_rfl
theorem e_q00e_k4 {C gl e h x K} : NW C gl p_q00e_k4 ⟨e,h,x⟩ K = d_q00e_k4 C gl p_q00e_k2 p_q00e_k3 (aget e 0) (aget e 5) h x K:=E_q00e_k4
def P_q00e (q1 q4 : ACode) : ACode:=(.seq (rg [mV 4 (.c (.p (.sl (some 6) [])))] [0,1])
(.seq (rg [uO 5 (.new0 (some 6))] [0,1,5])
(.seq (.seq (rg [mV 6 1,
mV 7 (cI 0)] [0,5,6,7])
(.block 0 (.loop (.scope q1))))
q4)))
def a_q00e : AFun:=⟨2,[.t 4],P_q00e p_q00e_k1 p_q00e_k4,false,false⟩
def d_q00e (C : Hd) (gl : GL) (q1 q4 : ACode) (v0 v1 : AV) (h : Heap) (x : Esc) (K : KT) : Prop:=
 nwK (some 6) h fun t1 h2 y3=>
 NW C gl (.loop (.scope q1)) ⟨[(0,v0),(5,t1),(6,v1),(7,(AI 0))],h2,(y3 ++ x)⟩ (blockN 0 (seqN C gl q4 K))
theorem E_q00e {C gl q1 q4 v0 v1 h x K} : NW C gl (P_q00e q1 q4) ⟨enter [v0,v1],h,x⟩ K = d_q00e C gl q1 q4 v0 v1 h x K:=by kernel_rfl
theorem e_q00e {C gl v0 v1 h x K} : NW C gl a_q00e.body ⟨enter [v0,v1],h,x⟩ K = d_q00e C gl p_q00e_k1 p_q00e_k4 v0 v1 h x K:=E_q00e
def P_q00j : ACode:=(.seq (rg [mV 6 (cI 0)] [0,1,2])
(.seq (.seq (rg [mV 7 2,
mV 8 1,
bN 9 .lss 7 8] [0,1,2,9])
(.cond 9 (.seq (rg [mV 10 1,
mV 6 10] [6])
.ret)
.skip))
(.seq (rg [mV 11 1,
mV 12 0,
mV 13 2,
mV 14 1,
bN 15 .sub 13 14,
bN 16 .add 15 (cI 1),
cL 17 f_q00g [12,16],
bN 18 .add 11 17,
mV 6 18] [6])
.ret)))
def a_q00j : AFun:=⟨3,[.t 6],P_q00j,false,false⟩
def d_q00j (C : Hd) (gl : GL) (v0 v1 v2 : AV) (h : Heap) (x : Esc) (K : KT) : Prop:=
 pK (oBin .lss v2 v1) fun t1=>
 condB t1 (K .ret ⟨[(6,v1)],h,x⟩)
 (pK (oBin .sub v2 v1) fun t2=>
 pK (oBin .add t2 (AI 1)) fun t3=>
 C f_q00g [v0,t3] h fun t4 h5 y6=>
 pK (oBin .add v1 t4) fun t7=>
 K .ret ⟨[(6,t7)],h5,(y6 ++ x)⟩)
theorem e_q00j {C gl v0 v1 v2 h x K} : NW C gl a_q00j.body ⟨enter [v0,v1,v2],h,x⟩ K = d_q00j C gl v0 v1 v2 h x K:=by kernel_rfl
def P_q025 : ACode:=(.seq (rg [mV 2 (cI 0),
mV 3 (cI 0)] [0])
(.seq (.seq (rg [mV 5 0,
cL 6 f_q024 [5],
mV 4 6] [0,4])
(.seq (rg [mV 7 4,
bN 8 .neq 7 (cI 0)] [0,4,8])
(.cond 8 (.seq (rg [mV 9 4,
mV 2 (cI 0),
mV 3 9] [2,3])
.ret)
.skip)))
(.seq (rg [mV 10 0,
cL 11 f_q02b [10,(.c (.nilp))],
uO 12 (.nilchk 11),
fA 13 37 none 12,
lD 14 none 13,
mV 2 14,
mV 3 (cI 0)] [2,3])
.ret)))
def a_q025 : AFun:=⟨1,[.t 2,.t 3],P_q025,false,false⟩
def d_q025 (C : Hd) (gl : GL) (v0 : AV) (h : Heap) (x : Esc) (K : KT) : Prop:=
 C f_q024 [v0] h fun t1 h2 y3=>
 pK (oBin .neq t1 (AI 0)) fun t4=>
 condB t4 (K .ret ⟨[(2,(AI 0)),(3,t1)],h2,(y3 ++ x)⟩)
 (C f_q02b [v0,(.nilp)] h2 fun t5 h6 y7=>
 pK (oNil t5) fun t8=>
 pK (oFaddr 37 none t8) fun t9=>
 pK (oLoad none t9 h6) fun t10=>
 K .ret ⟨[(2,t10),(3,(AI 0))],h6,(y7 ++ (y3 ++ x))⟩)
theorem e_q025 {C gl v0 h x K} : NW C gl a_q025.body ⟨enter [v0],h,x⟩ K = d_q025 C gl v0 h x K:=by kernel_rfl
def P_q026 : ACode:=(.seq (rg [mV 2 (cS []),
mV 3 (cS []),
mV 4 (cS []),
mV 5 (cI 0)] [0])
(.seq (.seq (rg [mV 8 0,
cL 9 f_q024 [8],
mV 6 9] [0,6])
(.seq (rg [mV 10 6,
bN 11 .neq 10 (cI 0)] [0,6,11])
(.cond 11 (.seq (rg [mV 12 6,
mV 2 (cS []),
mV 3 (cS []),
mV 4 (cS []),
mV 5 12] [2,3,4,5])
.ret)
.skip)))
(.seq (rg [mV 13 0,
cL 14 f_q02i [13],
mV 7 14] [7])
(.seq (dr [dF (mV 15 7) [7],
dF (uO 16 (.nilchk 15)) [15],
dF (fA 17 42 none 16) [16],
dF (lD 18 none 17) [17],
dF (uO 19 (.conv .b2s 18)) [18],
dF (mV 20 7) [7],
dF (uO 21 (.nilchk 20)) [20],
dF (fA 22 43 none 21) [21],
dF (lD 23 none 22) [22],
dF (uO 24 (.conv .b2s 23)) [23],
dF (mV 25 7) [7],
dF (uO 26 (.nilchk 25)) [25],
dF (fA 27 44 none 26) [26],
dF (lD 28 none 27) [27],
dF (uO 29 (.conv .b2s 28)) [28],
dF (mV 2 19) [19],
dF (mV 3 24) [24],
dF (mV 4 29) [29],
dF (mV 5 (cI 0)) []] [2,3,4,5])
.ret))))
def a_q026 : AFun:=⟨1,[.t 2,.t 3,.t 4,.t 5],P_q026,false,false⟩
def d_q026 (C : Hd) (gl : GL) (v0 : AV) (h : Heap) (x : Esc) (K : KT) : Prop:=
 C f_q024 [v0] h fun t1 h2 y3=>
 pK (oBin .neq t1 (AI 0)) fun t4=>
 condB t4 (K .ret ⟨[(2,(.p (.str []))),(3,(.p (.str []))),(4,(.p (.str []))),(5,t1)],h2,(y3 ++ x)⟩)
 (C f_q02i [v0] h2 fun t5 h6 y7=>
 pK (oNil t5) fun t8=>
 pK (oFaddr 42 none t8) fun t9=>
 pK (oLoad none t9 h6) fun t10=>
 wK (oConv .b2s t10 h6) fun t11 h12 y13=>
 (h12 = h6 ∧ y13 = []) ∧ (pK (oNil t5) fun t14=>
 pK (oFaddr 43 none t14) fun t15=>
 pK (oLoad none t15 h12) fun t16=>
 wK (oConv .b2s t16 h12) fun t17 h18 y19=>
 (h18 = h12 ∧ y19 = []) ∧ (pK (oNil t5) fun t20=>
 pK (oFaddr 44 none t20) fun t21=>
 pK (oLoad none t21 h18) fun t22=>
 wK (oConv .b2s t22 h18) fun t23 h24 y25=>
 (h24 = h18 ∧ y25 = []) ∧ (K .ret ⟨[(2,t11),(3,t17),(4,t23),(5,(AI 0))],h24,(y25 ++ (y19 ++ (y13 ++ (y7 ++ (y3 ++ x)))))⟩))))
theorem e_q026 {C gl v0 h x K} : NW C gl a_q026.body ⟨enter [v0],h,x⟩ K = d_q026 C gl v0 h x K:=by kernel_rfl
def P_q027 : ACode:=(.seq (rg [mV 2 (.c (.p (.sl none []))),
mV 3 (cI 0)] [0])
(.seq (.seq (rg [mV 5 0,
cL 6 f_q024 [5],
mV 4 6] [0,4])
(.seq (rg [mV 7 4,
bN 8 .neq 7 (cI 0)] [0,4,8])
(.cond 8 (.seq (rg [mV 9 4,
mV 2 (.c (.p (.sl none []))),
mV 3 9] [2,3])
.ret)
.skip)))
(.seq (rg [mV 10 0,
cL 11 f_q02b [10,(.c (.nilp))],
uO 12 (.nilchk 11),
fA 13 40 none 12,
lD 14 none 13,
mV 2 14,
mV 3 (cI 0)] [2,3])
.ret)))
def a_q027 : AFun:=⟨1,[.t 2,.t 3],P_q027,false,false⟩
def d_q027 (C : Hd) (gl : GL) (v0 : AV) (h : Heap) (x : Esc) (K : KT) : Prop:=
 C f_q024 [v0] h fun t1 h2 y3=>
 pK (oBin .neq t1 (AI 0)) fun t4=>
 condB t4 (K .ret ⟨[(2,(.p (.sl none []))),(3,t1)],h2,(y3 ++ x)⟩)
 (C f_q02b [v0,(.nilp)] h2 fun t5 h6 y7=>
 pK (oNil t5) fun t8=>
 pK (oFaddr 40 none t8) fun t9=>
 pK (oLoad none t9 h6) fun t10=>
 K .ret ⟨[(2,t10),(3,(AI 0))],h6,(y7 ++ (y3 ++ x))⟩)
theorem e_q027 {C gl v0 h x K} : NW C gl a_q027.body ⟨enter [v0],h,x⟩ K = d_q027 C gl v0 h x K:=by kernel_rfl
def P_q023 : ACode:=(.seq (rg [mV 2 (cI 0),
mV 3 (cI 0),
mV 4 (cI 0)] [0])
(.seq (.seq (rg [mV 7 0,
cL 8 f_q024 [7],
mV 5 8] [0,5])
(.seq (rg [mV 9 5,
bN 10 .neq 9 (cI 0)] [0,5,10])
(.cond 10 (.seq (rg [mV 11 5,
mV 2 (cI 0),
mV 3 (cI 0),
mV 4 11] [2,3,4])
.ret)
.skip)))
(.seq (rg [mV 12 0,
cL 13 f_q02b [12,(.c (.nilp))],
mV 6 13] [6])
(.seq (dr [dF (mV 14 6) [6],
dF (uO 15 (.nilchk 14)) [14],
dF (fA 16 38 none 15) [15],
dF (lD 17 none 16) [16],
dF (mV 18 6) [6],
dF (uO 19 (.nilchk 18)) [18],
dF (fA 20 39 none 19) [19],
dF (lD 21 none 20) [20],
dF (mV 2 17) [17],
dF (mV 3 21) [21],
dF (mV 4 (cI 0)) []] [2,3,4])
.ret))))
def a_q023 : AFun:=⟨1,[.t 2,.t 3,.t 4],P_q023,false,false⟩
def d_q023 (C : Hd) (gl : GL) (v0 : AV) (h : Heap) (x : Esc) (K : KT) : Prop:=
 C f_q024 [v0] h fun t1 h2 y3=>
 pK (oBin .neq t1 (AI 0)) fun t4=>
 condB t4 (K .ret ⟨[(2,(AI 0)),(3,(AI 0)),(4,t1)],h2,(y3 ++ x)⟩)
 (C f_q02b [v0,(.nilp)] h2 fun t5 h6 y7=>
 pK (oNil t5) fun t8=>
 pK (oFaddr 38 none t8) fun t9=>
 pK (oLoad none t9 h6) fun t10=>
 pK (oNil t5) fun t11=>
 pK (oFaddr 39 none t11) fun t12=>
 pK (oLoad none t12 h6) fun t13=>
 K .ret ⟨[(2,t10),(3,t13),(4,(AI 0))],h6,(y7 ++ (y3 ++ x))⟩)
theorem e_q023 {C gl v0 h x K} : NW C gl a_q023.body ⟨enter [v0],h,x⟩ K = d_q023 C gl v0 h x K:=by kernel_rfl
def p_q00q_k1 : ACode:=.pr [0,12,13,14] (.seq (rg [bN 15 .lss 14 13] [0,12,13,14,15])
(.seq (.cond 15 .skip
(.exit 0))
(.seq (.block 1 (.seq (rg [iA 16 (some 6) 12 14,
lD 17 (some 6) 16,
uO 4 (.alloc [.p (.int .i64 0),.p (.int .i64 0),.p (.int .i64 0),.p (.str []),.p (.str []),.p (.str [])]),
wO (.store (some 6) 4 17)] [0,4,12,13,14])
(.seq (rg [lD 18 (some 6) 4,
cL 19 f_q00u [18],
mV 5 19] [0,5,12,13,14])
(.seq (rg [mV 20 5,
bN 21 .neq 20 (cI 0)] [0,5,12,13,14,21])
(.cond 21 (.seq (rg [mV 22 5,
mV 2 22] [2])
.ret)
.skip)))))
(rg [bN 23 .add 14 (cI 1),
mV 14 23] [0,12,13,14]))))
def d_q00q_k1 (C : Hd) (gl : GL) (v0 v12 v13 v14 : AV) (h : Heap) (x : Esc) (K : KT) : Prop:=
 pK (oBin .lss v14 v13) fun t1=>
 condB t1 (pK (oIaddr (some 6) v12 v14 h) fun t2=>
 pK (oLoad (some 6) t2 h) fun t3=>
 alK [.p (.int .i64 0),.p (.int .i64 0),.p (.int .i64 0),.p (.str []),.p (.str []),.p (.str [])] h fun t4 h5 y6=>
 wK (oStore (some 6) t4 t3 h5) fun t7 h8 y9=>
 pK (oLoad (some 6) t4 h8) fun t10=>
 C f_q00u [t10] h8 fun t11 h12 y13=>
 pK (oBin .neq t11 (AI 0)) fun t14=>
 condB t14 (K .ret ⟨[(2,t11)],h12,(y13 ++ (y9 ++ (y6 ++ x)))⟩)
 (pK (oBin .add v14 (AI 1)) fun t15=>
 K .normal ⟨[(0,v0),(12,v12),(13,v13),(14,t15)],h12,(y13 ++ (y9 ++ (y6 ++ x)))⟩))
 (K (.exit 0) ⟨[(0,v0),(12,v12),(13,v13),(14,v14),(15,t1)],h,x⟩)
theorem e_q00q_k1 {C gl e h x K} : NW C gl p_q00q_k1 ⟨e,h,x⟩ K = d_q00q_k1 C gl (aget e 0) (aget e 12) (aget e 13) (aget e 14) h x K:=by kernel_rfl
theorem l_q00q_k1 {C gl e h x K} : NW C gl (.loop (.scope p_q00q_k1)) ⟨e,h,x⟩ K = NLoop C gl (.scope p_q00q_k1) K [(0,aget e 0),(12,aget e 12),(13,aget e 13),(14,aget e 14)] h x:=NLoop_sc
def p_q00q_k2 : ACode:=.pr [0] (.seq (.seq (rg [mV 25 0,
cL 26 f_q00s [25],
mV 24 26,
eX 27 24 0,
eX 28 24 1,
eX 29 24 2,
mV 6 27,
mV 7 28,
mV 8 29] [6])
(.seq (rg [mV 30 6,
uO 31 (.lens 30),
bN 32 .gtr 31 (cI 20000)] [32])
(.cond 32 (.seq (rg [mV 2 (cI 2)] [2])
.ret)
.skip)))
(.seq (rg [mV 2 (cI 0)] [2])
.ret))
def d_q00q_k2 (C : Hd) (gl : GL) (v0 : AV) (h : Heap) (x : Esc) (K : KT) : Prop:=
 C f_q00s [v0] h fun t1 h2 y3=>
 pK (oExt t1 0) fun t4=>
 pK (oExt t1 1) fun t5=>
 pK (oExt t1 2) fun t6=>
 pK (oLens t4) fun t7=>
 pK (oBin .gtr t7 (AI 20000)) fun t8=>
 condB t8 (K .ret ⟨[(2,(AI 2))],h2,(y3 ++ x)⟩)
 (K .ret ⟨[(2,(AI 0))],h2,(y3 ++ x)⟩)
theorem e_q00q_k2 {C gl e h x K} : NW C gl p_q00q_k2 ⟨e,h,x⟩ K = d_q00q_k2 C gl (aget e 0) h x K:=by kernel_rfl
def P_q00q (q1 q2 : ACode) : ACode:=(.seq (rg [mV 2 (cI 0)] [0])
(.seq (.seq (rg [mV 9 0,
lN 10 9,
bN 11 .gtr 10 (cI 1000)] [0,11])
(.cond 11 (.seq (rg [mV 2 (cI 2)] [2])
.ret)
.skip))
(.seq (.seq (rg [mV 12 0,
lN 13 12,
mV 14 (cI 0)] [0,12,13,14])
(.block 0 (.loop (.scope q1))))
q2)))
def a_q00q : AFun:=⟨1,[.t 2],P_q00q p_q00q_k1 p_q00q_k2,false,false⟩
def d_q00q (C : Hd) (gl : GL) (q1 q2 : ACode) (v0 : AV) (h : Heap) (x : Esc) (K : KT) : Prop:=
 pK (oLen v0) fun t1=>
 pK (oBin .gtr t1 (AI 1000)) fun t2=>
 condB t2 (K .ret ⟨[(2,(AI 2))],h,x⟩)
 (pK (oLen v0) fun t3=>
 NW C gl (.loop (.scope q1)) ⟨[(0,v0),(12,v0),(13,t3),(14,(AI 0))],h,x⟩ (blockN 0 (seqN C gl q2 K)))
theorem E_q00q {C gl q1 q2 v0 h x K} : NW C gl (P_q00q q1 q2) ⟨enter [v0],h,x⟩ K = d_q00q C gl q1 q2 v0 h x K:=by kernel_rfl
theorem e_q00q {C gl v0 h x K} : NW C gl a_q00q.body ⟨enter [v0],h,x⟩ K = d_q00q C gl p_q00q_k1 p_q00q_k2 v0 h x K:=E_q00q
def p_q00s_k1 : ACode:=.pr [5,6,7,11,12,13] (.seq (rg [bN 14 .lss 13 12] [5,6,7,11,12,13,14])
(.seq (.cond 14 .skip
(.exit 0))
(.seq (.block 1 (.seq (rg [iA 15 (some 5) 11 13,
lD 16 (some 5) 15,
uO 9 (.alloc [.p (.str []),.p (.str []),.p (.str []),.p (.int .i64 0),.p (.int .i64 0)]),
wO (.store (some 5) 9 16)] [5,6,7,9,11,12,13])
(.seq (rg [fA 17 0 none 9,
lD 18 none 17,
cL 19 f_q01b [5,18]] [5,6,7,9,11,12,13])
(.seq (rg [fA 20 1 none 9,
lD 21 none 20,
cL 22 f_q01b [6,21]] [5,6,7,9,11,12,13])
(rg [fA 23 2 none 9,
lD 24 none 23,
cL 25 f_q01b [7,24]] [5,6,7,11,12,13])))))
(rg [bN 26 .add 13 (cI 1),
mV 13 26] [5,6,7,11,12,13]))))
def d_q00s_k1 (C : Hd) (gl : GL) (v5 v6 v7 v11 v12 v13 : AV) (h : Heap) (x : Esc) (K : KT) : Prop:=
 pK (oBin .lss v13 v12) fun t1=>
 condB t1 (pK (oIaddr (some 5) v11 v13 h) fun t2=>
 pK (oLoad (some 5) t2 h) fun t3=>
 alK [.p (.str []),.p (.str []),.p (.str []),.p (.int .i64 0),.p (.int .i64 0)] h fun t4 h5 y6=>
 wK (oStore (some 5) t4 t3 h5) fun t7 h8 y9=>
 pK (oFaddr 0 none t4) fun t10=>
 pK (oLoad none t10 h8) fun t11=>
 C f_q01b [v5,t11] h8 fun t12 h13 y14=>
 pK (oFaddr 1 none t4) fun t15=>
 pK (oLoad none t15 h13) fun t16=>
 C f_q01b [v6,t16] h13 fun t17 h18 y19=>
 pK (oFaddr 2 none t4) fun t20=>
 pK (oLoad none t20 h18) fun t21=>
 C f_q01b [v7,t21] h18 fun t22 h23 y24=>
 pK (oBin .add v13 (AI 1)) fun t25=>
 K .normal ⟨[(5,v5),(6,v6),(7,v7),(11,v11),(12,v12),(13,t25)],h23,(y24 ++ (y19 ++ (y14 ++ (y9 ++ (y6 ++ x)))))⟩)
 (K (.exit 0) ⟨[(5,v5),(6,v6),(7,v7),(11,v11),(12,v12),(13,v13),(14,t1)],h,x⟩)
theorem e_q00s_k1 {C gl e h x K} : NW C gl p_q00s_k1 ⟨e,h,x⟩ K = d_q00s_k1 C gl (aget e 5) (aget e 6) (aget e 7) (aget e 11) (aget e 12) (aget e 13) h x K:=by kernel_rfl
theorem l_q00s_k1 {C gl e h x K} : NW C gl (.loop (.scope p_q00s_k1)) ⟨e,h,x⟩ K = NLoop C gl (.scope p_q00s_k1) K [(5,aget e 5),(6,aget e 6),(7,aget e 7),(11,aget e 11),(12,aget e 12),(13,aget e 13)] h x:=NLoop_sc
def p_q00s_k2 : ACode:=.pr [5,6,7] (.seq (rg [cL 27 f_q01a [5],
cL 28 f_q01a [6],
cL 29 f_q01a [7],
mV 2 27,
mV 3 28,
mV 4 29] [2,3,4])
.ret)
def d_q00s_k2 (C : Hd) (gl : GL) (v5 v6 v7 : AV) (h : Heap) (x : Esc) (K : KT) : Prop:=
 C f_q01a [v5] h fun t1 h2 y3=>
 C f_q01a [v6] h2 fun t4 h5 y6=>
 C f_q01a [v7] h5 fun t7 h8 y9=>
 K .ret ⟨[(2,t1),(3,t4),(4,t7)],h8,(y9 ++ (y6 ++ (y3 ++ x)))⟩
theorem e_q00s_k2 {C gl e h x K} : NW C gl p_q00s_k2 ⟨e,h,x⟩ K = d_q00s_k2 C gl (aget e 5) (aget e 6) (aget e 7) h x K:=by kernel_rfl
def P_q00s (q1 q2 : ACode) : ACode:=(.seq (rg [mV 2 (cS []),
mV 3 (cS []),
mV 4 (cS [])] [0])
(.seq (rg [uO 5 (.uns 0 65 [(cI 5)]),
uO 6 (.uns 0 65 [(cI 5)]),
uO 7 (.uns 0 65 [(cI 5)])] [0,5,6,7])
(.seq (.seq (rg [mV 10 0,
cL 11 f_q00z [10],
lN 12 11,
mV 13 (cI 0)] [5,6,7,11,12,13])
(.block 0 (.loop (.scope q1))))
q2)))
def a_q00s : AFun:=⟨1,[.t 2,.t 3,.t 4],P_q00s p_q00s_k1 p_q00s_k2,false,false⟩
def d_q00s (C : Hd) (gl : GL) (q1 q2 : ACode) (v0 : AV) (h : Heap) (x : Esc) (K : KT) : Prop:=
 wK (unsOp 0 65 [(AI 5)] h) fun t1 h2 y3=>
 wK (unsOp 0 65 [(AI 5)] h2) fun t4 h5 y6=>
 wK (unsOp 0 65 [(AI 5)] h5) fun t7 h8 y9=>
 C f_q00z [v0] h8 fun t10 h11 y12=>
 pK (oLen t10) fun t13=>
 NW C gl (.loop (.scope q1)) ⟨[(5,t1),(6,t4),(7,t7),(11,t10),(12,t13),(13,(AI 0))],h11,(y12 ++ (y9 ++ (y6 ++ (y3 ++ x))))⟩ (blockN 0 (seqN C gl q2 K))
theorem E_q00s {C gl q1 q2 v0 h x K} : NW C gl (P_q00s q1 q2) ⟨enter [v0],h,x⟩ K = d_q00s C gl q1 q2 v0 h x K:=by kernel_rfl
theorem e_q00s {C gl v0 h x K} : NW C gl a_q00s.body ⟨enter [v0],h,x⟩ K = d_q00s C gl p_q00s_k1 p_q00s_k2 v0 h x K:=E_q00s
def p_q00t_k1 : ACode:=.pr [3,4,9,10,11] (rg [mV 28 3,
mV 29 4,
uO 30 (.bsl false none 1 (.int .i64 0) [(0,29)]),
uO 31 (.app none 28 30),
mV 3 31] [3,4,9,10,11])
def d_q00t_k1 (C : Hd) (gl : GL) (v3 v4 v9 v10 v11 : AV) (h : Heap) (x : Esc) (K : KT) : Prop:=
 wK (oBsl false none 1 (.int .i64 0) [(0,v4)] h) fun t1 h2 y3=>
 wK (oApp none v3 t1 h2) fun t4 h5 y6=>
 K .normal ⟨[(3,t4),(4,v4),(9,v9),(10,v10),(11,v11)],h5,(y6 ++ (y3 ++ x))⟩
theorem e_q00t_k1 {C gl e h x K} : NW C gl p_q00t_k1 ⟨e,h,x⟩ K = d_q00t_k1 C gl (aget e 3) (aget e 4) (aget e 9) (aget e 10) (aget e 11) h x K:=by kernel_rfl
def p_q00t_k2 : ACode:=.pr [3,4,9,10,11] (rg [bN 32 .add 11 (cI 1),
mV 11 32] [3,4,9,10,11])
def d_q00t_k2 (C : Hd) (gl : GL) (v3 v4 v9 v10 v11 : AV) (h : Heap) (x : Esc) (K : KT) : Prop:=
 pK (oBin .add v11 (AI 1)) fun t1=>
 K .normal ⟨[(3,v3),(4,v4),(9,v9),(10,v10),(11,t1)],h,x⟩
theorem e_q00t_k2 {C gl e h x K} : NW C gl p_q00t_k2 ⟨e,h,x⟩ K = d_q00t_k2 C gl (aget e 3) (aget e 4) (aget e 9) (aget e 10) (aget e 11) h x K:=by kernel_rfl
def P_q00t_k3 (q1 q2 : ACode) : ACode:=.pr [3,4,9,10,11] (.seq (rg [bN 12 .lss 11 10] [3,4,9,10,11,12])
(.seq (.cond 12 .skip
(.exit 0))
(.seq (.block 1 (.seq (rg [iA 13 (some 5) 9 11,
lD 14 (some 5) 13,
uO 6 (.alloc [.p (.str []),.p (.str []),.p (.str []),.p (.int .i64 0),.p (.int .i64 0)]),
wO (.store (some 5) 6 14)] [3,4,6,9,10,11])
(.seq (.seq (rg [mV 15 4,
fA 16 0 none 6,
lD 17 none 16,
cL 18 f_q00n [15,17],
mV 7 18] [3,4,7,9,10,11])
(.seq (rg [mV 19 7,
lN 20 19,
bN 21 .gtr 20 (cI 0)] [3,4,7,9,10,11,21])
(.cond 21 (rg [mV 22 7,
mV 23 7,
lN 24 23,
bN 25 .sub 24 (cI 1),
iA 26 none 22 25,
lD 27 none 26,
mV 4 27] [3,4,9,10,11])
.skip)))
q1)))
q2)))
def p_q00t_k3 : ACode:=P_q00t_k3 p_q00t_k1 p_q00t_k2
def d_q00t_k3 (C : Hd) (gl : GL) (q1 q2 : ACode) (v3 v4 v9 v10 v11 : AV) (h : Heap) (x : Esc) (K : KT) : Prop:=
 pK (oBin .lss v11 v10) fun t1=>
 condB t1 (pK (oIaddr (some 5) v9 v11 h) fun t2=>
 pK (oLoad (some 5) t2 h) fun t3=>
 alK [.p (.str []),.p (.str []),.p (.str []),.p (.int .i64 0),.p (.int .i64 0)] h fun t4 h5 y6=>
 wK (oStore (some 5) t4 t3 h5) fun t7 h8 y9=>
 pK (oFaddr 0 none t4) fun t10=>
 pK (oLoad none t10 h8) fun t11=>
 C f_q00n [v4,t11] h8 fun t12 h13 y14=>
 pK (oLen t12) fun t15=>
 pK (oBin .gtr t15 (AI 0)) fun t16=>
 condB t16 (pK (oLen t12) fun t17=>
 pK (oBin .sub t17 (AI 1)) fun t18=>
 pK (oIaddr none t12 t18 h13) fun t19=>
 pK (oLoad none t19 h13) fun t20=>
 NW C gl q1 ⟨[(3,v3),(4,t20),(9,v9),(10,v10),(11,v11)],h13,(y14 ++ (y9 ++ (y6 ++ x)))⟩ (blockN 1 (seqN C gl q2 K)))
 (NW C gl q1 ⟨[(3,v3),(4,v4),(7,t12),(9,v9),(10,v10),(11,v11),(21,t16)],h13,(y14 ++ (y9 ++ (y6 ++ x)))⟩ (blockN 1 (seqN C gl q2 K))))
 (K (.exit 0) ⟨[(3,v3),(4,v4),(9,v9),(10,v10),(11,v11),(12,t1)],h,x⟩)
theorem E_q00t_k3 {C gl q1 q2 e h x K} : NW C gl (P_q00t_k3 q1 q2) ⟨e,h,x⟩ K = d_q00t_k3 C gl q1 q2 (aget e 3) (aget e 4) (aget e 9) (aget e 10) (aget e 11) h x K:=by kernel_rfl
theorem e_q00t_k3 {C gl e h x K} : NW C gl p_q00t_k3 ⟨e,h,x⟩ K = d_q00t_k3 C gl p_q00t_k1 p_q00t_k2 (aget e 3) (aget e 4) (aget e 9) (aget e 10) (aget e 11) h x K:=E_q00t_k3
theorem l_q00t_k3 {C gl e h x K} : NW C gl (.loop (.scope p_q00t_k3)) ⟨e,h,x⟩ K = NLoop C gl (.scope p_q00t_k3) K [(3,aget e 3),(4,aget e 4),(9,aget e 9),(10,aget e 10),(11,aget e 11)] h x:=NLoop_sc
def p_q00t_k4 : ACode:=.pr [3] (.seq (rg [mV 33 3,
mV 2 33] [2])
.ret)
def d_q00t_k4 (C : Hd) (gl : GL) (v3 : AV) (h : Heap) (x : Esc) (K : KT) : Prop:=
 K .ret ⟨[(2,v3)],h,x⟩
theorem e_q00t_k4 {C gl e h x K} : NW C gl p_q00t_k4 ⟨e,h,x⟩ K = d_q00t_k4 C gl (aget e 3) h x K:=by kernel_rfl
def P_q00t (q3 q4 : ACode) : ACode:=(.seq (rg [mV 2 (.c (.p (.sl none [])))] [0])
(.seq (rg [uO 3 (.new0 none)] [0,3])
(.seq (rg [mV 4 (cI 0)] [0,3,4])
(.seq (.seq (rg [mV 8 0,
cL 9 f_q00z [8],
lN 10 9,
mV 11 (cI 0)] [3,4,9,10,11])
(.block 0 (.loop (.scope q3))))
q4))))
def a_q00t : AFun:=⟨1,[.t 2],P_q00t p_q00t_k3 p_q00t_k4,false,false⟩
def d_q00t (C : Hd) (gl : GL) (q3 q4 : ACode) (v0 : AV) (h : Heap) (x : Esc) (K : KT) : Prop:=
 nwK none h fun t1 h2 y3=>
 C f_q00z [v0] h2 fun t4 h5 y6=>
 pK (oLen t4) fun t7=>
 NW C gl (.loop (.scope q3)) ⟨[(3,t1),(4,(AI 0)),(9,t4),(10,t7),(11,(AI 0))],h5,(y6 ++ (y3 ++ x))⟩ (blockN 0 (seqN C gl q4 K))
theorem E_q00t {C gl q3 q4 v0 h x K} : NW C gl (P_q00t q3 q4) ⟨enter [v0],h,x⟩ K = d_q00t C gl q3 q4 v0 h x K:=by kernel_rfl
theorem e_q00t {C gl v0 h x K} : NW C gl a_q00t.body ⟨enter [v0],h,x⟩ K = d_q00t C gl p_q00t_k3 p_q00t_k4 v0 h x K:=E_q00t
def p_q00r_k1 : ACode:=.pr [7,8,19,20,21] (.seq (rg [bN 22 .lss 21 20] [7,8,19,20,21,22])
(.seq (.cond 22 .skip
(.exit 0))
(.seq (.block 1 (.seq (rg [iA 23 none 19 21,
lD 24 none 23,
mV 10 24] [7,8,10,19,20,21])
(.seq (rg [mV 25 8,
uO 26 (.iaddra 16 none 7 25),
lD 27 none 26,
bN 28 .add 27 (cI 1),
uO 29 (.iaddra 16 none 7 25),
wO (.store none 29 28)] [7,10,19,20,21])
(rg [mV 30 10,
mV 8 30] [7,8,19,20,21]))))
(rg [bN 31 .add 21 (cI 1),
mV 21 31] [7,8,19,20,21]))))
def d_q00r_k1 (C : Hd) (gl : GL) (v7 v8 v19 v20 v21 : AV) (h : Heap) (x : Esc) (K : KT) : Prop:=
 pK (oBin .lss v21 v20) fun t1=>
 condB t1 (pK (oIaddr none v19 v21 h) fun t2=>
 pK (oLoad none t2 h) fun t3=>
 pK (oIaddra 16 none v7 v8) fun t4=>
 pK (oLoad none t4 h) fun t5=>
 pK (oBin .add t5 (AI 1)) fun t6=>
 pK (oIaddra 16 none v7 v8) fun t7=>
 wK (oStore none t7 t6 h) fun t8 h9 y10=>
 pK (oBin .add v21 (AI 1)) fun t11=>
 K .normal ⟨[(7,v7),(8,t3),(19,v19),(20,v20),(21,t11)],h9,(y10 ++ x)⟩)
 (K (.exit 0) ⟨[(7,v7),(8,v8),(19,v19),(20,v20),(21,v21),(22,t1)],h,x⟩)
theorem e_q00r_k1 {C gl e h x K} : NW C gl p_q00r_k1 ⟨e,h,x⟩ K = d_q00r_k1 C gl (aget e 7) (aget e 8) (aget e 19) (aget e 20) (aget e 21) h x K:=by kernel_rfl
theorem l_q00r_k1 {C gl e h x K} : NW C gl (.loop p_q00r_k1) ⟨e,h,x⟩ K = NLoop C gl p_q00r_k1 K [(7,aget e 7),(8,aget e 8),(19,aget e 19),(20,aget e 20),(21,aget e 21)] h x:=NLoop_pr
def p_q00r_k2 : ACode:=.pr [7] (.seq (dr [dF (uO 32 (.iaddra 16 none 7 (cI 11))) [7],
dF (lD 33 none 32) [32],
dF (uO 34 (.iaddra 16 none 7 (cI 4))) [7],
dF (lD 35 none 34) [34],
dF (mV 2 33) [33],
dF (mV 3 35) [35]] [2,3])
.ret)
def d_q00r_k2 (C : Hd) (gl : GL) (v7 : AV) (h : Heap) (x : Esc) (K : KT) : Prop:=
 pK (oIaddra 16 none v7 (AI 11)) fun t1=>
 pK (oLoad none t1 h) fun t2=>
 pK (oIaddra 16 none v7 (AI 4)) fun t3=>
 pK (oLoad none t3 h) fun t4=>
 K .ret ⟨[(2,t2),(3,t4)],h,x⟩
theorem e_q00r_k2 {C gl e h x K} : NW C gl p_q00r_k2 ⟨e,h,x⟩ K = d_q00r_k2 C gl (aget e 7) h x K:=by kernel_rfl
def P_q00r (q1 q2 : ACode) : ACode:=(.seq (rg [mV 2 (cI 0),
mV 3 (cI 0)] [0])
(.seq (rg [mV 12 0,
cL 13 f_q00s [12],
mV 11 13,
eX 14 11 0,
eX 15 11 1,
eX 16 11 2,
mV 4 14,
mV 5 15,
mV 6 16] [4])
(.seq (rg [uO 7 (.alloc [.p (.int .i64 0),.p (.int .i64 0),.p (.int .i64 0),.p (.int .i64 0),.p (.int .i64 0),.p (.int .i64 0),.p (.int .i64 0),.p (.int .i64 0),.p (.int .i64 0),.p (.int .i64 0),.p (.int .i64 0),.p (.int .i64 0),.p (.int .i64 0),.p (.int .i64 0),.p (.int .i64 0),.p (.int .i64 0)])] [4,7])
(.seq (rg [mV 8 (cI 0)] [4,7,8])
(.seq (.seq (rg [mV 17 8,
mV 18 4,
cL 19 f_q00n [17,18],
lN 20 19,
mV 21 (cI 0)] [7,8,19,20,21])
(.block 0 (.loop q1)))
q2)))))
def a_q00r : AFun:=⟨1,[.t 2,.t 3],P_q00r p_q00r_k1 p_q00r_k2,false,false⟩
def d_q00r (C : Hd) (gl : GL) (q1 q2 : ACode) (v0 : AV) (h : Heap) (x : Esc) (K : KT) : Prop:=
 C f_q00s [v0] h fun t1 h2 y3=>
 pK (oExt t1 0) fun t4=>
 pK (oExt t1 1) fun t5=>
 pK (oExt t1 2) fun t6=>
 alK [.p (.int .i64 0),.p (.int .i64 0),.p (.int .i64 0),.p (.int .i64 0),.p (.int .i64 0),.p (.int .i64 0),.p (.int .i64 0),.p (.int .i64 0),.p (.int .i64 0),.p (.int .i64 0),.p (.int .i64 0),.p (.int .i64 0),.p (.int .i64 0),.p (.int .i64 0),.p (.int .i64 0),.p (.int .i64 0)] h2 fun t7 h8 y9=>
 C f_q00n [(AI 0),t4] h8 fun t10 h11 y12=>
 pK (oLen t10) fun t13=>
 NW C gl (.loop q1) ⟨[(7,t7),(8,(AI 0)),(19,t10),(20,t13),(21,(AI 0))],h11,(y12 ++ (y9 ++ (y3 ++ x)))⟩ (blockN 0 (seqN C gl q2 K))
theorem E_q00r {C gl q1 q2 v0 h x K} : NW C gl (P_q00r q1 q2) ⟨enter [v0],h,x⟩ K = d_q00r C gl q1 q2 v0 h x K:=by kernel_rfl
theorem e_q00r {C gl v0 h x K} : NW C gl a_q00r.body ⟨enter [v0],h,x⟩ K = d_q00r C gl p_q00r_k1 p_q00r_k2 v0 h x K:=E_q00r
def p_q024_k1 : ACode:=.pr [0,10,11,12] (.seq (rg [bN 13 .lss 12 11] [0,10,11,12,13])
(.seq (.cond 13 .skip
(.exit 0))
(.seq (.block 1 (.seq (rg [iA 14 (some 6) 10 12,
lD 15 (some 6) 14,
uO 4 (.alloc [.p (.int .i64 0),.p (.int .i64 0),.p (.int .i64 0),.p (.str []),.p (.str []),.p (.str [])]),
wO (.store (some 6) 4 15)] [0,4,10,11,12])
(.seq (.seq (rg [fA 16 0 none 4,
lD 17 none 16,
cL 18 f_q001 [17,(cI 1),(cI 10)]] [0,4,10,11,12,18])
(.cond 18 (.seq (rg [mV 2 (cI 4)] [2])
.ret)
.skip))
(.seq (rg [lD 20 (some 6) 4,
cL 21 f_q02a [20],
mV 19 21,
eX 22 19 0,
eX 23 19 1,
uO 5 (.alloc [.p (.int .i64 0),.p (.int .i64 0),.p (.int .i64 0),.p (.str []),.p (.str []),.p (.str [])]),
wO (.store (some 6) 5 22),
mV 6 23] [0,4,5,6,10,11,12])
(.block 2 (.seq (rg [mV 25 6,
bN 26 .neq 25 (cI 0),
mV 24 26] [0,4,5,6,10,11,12,24])
(.cond 24 (.seq (rg [mV 27 6,
mV 2 27] [2])
.ret)
(.seq (rg [lD 29 (some 6) 5,
fA 30 0 none 4,
lD 31 none 30,
uO 32 (.build [.p (.int .i64 0),.p (.int .i64 0),.p (.int .i64 0),.p (.str []),.p (.str []),.p (.str [])] [(0,1,31)]),
uO 33 (.eqa [0,0,0,2,2,2] true 29 32),
mV 28 33] [0,10,11,12,28])
(.cond 28 (.seq (rg [mV 2 (cI 3)] [2])
.ret)
.skip)))))))))
(rg [bN 34 .add 12 (cI 1),
mV 12 34] [0,10,11,12]))))
def d_q024_k1 (C : Hd) (gl : GL) (v0 v10 v11 v12 : AV) (h : Heap) (x : Esc) (K : KT) : Prop:=
 pK (oBin .lss v12 v11) fun t1=>
 condB t1 (pK (oIaddr (some 6) v10 v12 h) fun t2=>
 pK (oLoad (some 6) t2 h) fun t3=>
 alK [.p (.int .i64 0),.p (.int .i64 0),.p (.int .i64 0),.p (.str []),.p (.str []),.p (.str [])] h fun t4 h5 y6=>
 wK (oStore (some 6) t4 t3 h5) fun t7 h8 y9=>
 pK (oFaddr 0 none t4) fun t10=>
 pK (oLoad none t10 h8) fun t11=>
 C f_q001 [t11,(AI 1),(AI 10)] h8 fun t12 h13 y14=>
 condB t12 (K .ret ⟨[(2,(AI 4))],h13,(y14 ++ (y9 ++ (y6 ++ x)))⟩)
 (pK (oLoad (some 6) t4 h13) fun t15=>
 C f_q02a [t15] h13 fun t16 h17 y18=>
 pK (oExt t16 0) fun t19=>
 pK (oExt t16 1) fun t20=>
 alK [.p (.int .i64 0),.p (.int .i64 0),.p (.int .i64 0),.p (.str []),.p (.str []),.p (.str [])] h17 fun t21 h22 y23=>
 wK (oStore (some 6) t21 t19 h22) fun t24 h25 y26=>
 pK (oBin .neq t20 (AI 0)) fun t27=>
 condB t27 (K .ret ⟨[(2,t20)],h25,(y26 ++ (y23 ++ (y18 ++ (y14 ++ (y9 ++ (y6 ++ x))))))⟩)
 (pK (oLoad (some 6) t21 h25) fun t28=>
 pK (oFaddr 0 none t4) fun t29=>
 pK (oLoad none t29 h25) fun t30=>
 pK (oBuild [.p (.int .i64 0),.p (.int .i64 0),.p (.int .i64 0),.p (.str []),.p (.str []),.p (.str [])] [(0,1,t30)]) fun t31=>
 pK (oEqa [0,0,0,2,2,2] true t28 t31) fun t32=>
 condB t32 (K .ret ⟨[(2,(AI 3))],h25,(y26 ++ (y23 ++ (y18 ++ (y14 ++ (y9 ++ (y6 ++ x))))))⟩)
 (pK (oBin .add v12 (AI 1)) fun t33=>
 K .normal ⟨[(0,v0),(10,v10),(11,v11),(12,t33)],h25,(y26 ++ (y23 ++ (y18 ++ (y14 ++ (y9 ++ (y6 ++ x))))))⟩))))
 (K (.exit 0) ⟨[(0,v0),(10,v10),(11,v11),(12,v12),(13,t1)],h,x⟩)
theorem e_q024_k1 {C gl e h x K} : NW C gl p_q024_k1 ⟨e,h,x⟩ K = d_q024_k1 C gl (aget e 0) (aget e 10) (aget e 11) (aget e 12) h x K:=by kernel_rfl
theorem l_q024_k1 {C gl e h x K} : NW C gl (.loop (.scope p_q024_k1)) ⟨e,h,x⟩ K = NLoop C gl (.scope p_q024_k1) K [(0,aget e 0),(10,aget e 10),(11,aget e 11),(12,aget e 12)] h x:=NLoop_sc
def p_q024_k2 : ACode:=.pr [0] (.seq (.seq (rg [mV 35 0,
cL 36 f_q02b [35,(.c (.nilp))],
uO 37 (.nilchk 36),
fA 38 37 none 37,
lD 39 none 38,
bN 40 .gtr 39 (cI 20000)] [40])
(.cond 40 (.seq (rg [mV 2 (cI 2)] [2])
.ret)
.skip))
(.seq (rg [mV 2 (cI 0)] [2])
.ret))
def d_q024_k2 (C : Hd) (gl : GL) (v0 : AV) (h : Heap) (x : Esc) (K : KT) : Prop:=
 C f_q02b [v0,(.nilp)] h fun t1 h2 y3=>
 pK (oNil t1) fun t4=>
 pK (oFaddr 37 none t4) fun t5=>
 pK (oLoad none t5 h2) fun t6=>
 pK (oBin .gtr t6 (AI 20000)) fun t7=>
 condB t7 (K .ret ⟨[(2,(AI 2))],h2,(y3 ++ x)⟩)
 (K .ret ⟨[(2,(AI 0))],h2,(y3 ++ x)⟩)
theorem e_q024_k2 {C gl e h x K} : NW C gl p_q024_k2 ⟨e,h,x⟩ K = d_q024_k2 C gl (aget e 0) h x K:=by kernel_rfl
def P_q024 (q1 q2 : ACode) : ACode:=(.seq (rg [mV 2 (cI 0)] [0])
(.seq (.seq (rg [mV 7 0,
lN 8 7,
bN 9 .gtr 8 (cI 1000)] [0,9])
(.cond 9 (.seq (rg [mV 2 (cI 2)] [2])
.ret)
.skip))
(.seq (.seq (rg [mV 10 0,
lN 11 10,
mV 12 (cI 0)] [0,10,11,12])
(.block 0 (.loop (.scope q1))))
q2)))
def a_q024 : AFun:=⟨1,[.t 2],P_q024 p_q024_k1 p_q024_k2,false,false⟩
def d_q024 (C : Hd) (gl : GL) (q1 q2 : ACode) (v0 : AV) (h : Heap) (x : Esc) (K : KT) : Prop:=
 pK (oLen v0) fun t1=>
 pK (oBin .gtr t1 (AI 1000)) fun t2=>
 condB t2 (K .ret ⟨[(2,(AI 2))],h,x⟩)
 (pK (oLen v0) fun t3=>
 NW C gl (.loop (.scope q1)) ⟨[(0,v0),(10,v0),(11,t3),(12,(AI 0))],h,x⟩ (blockN 0 (seqN C gl q2 K)))
theorem E_q024 {C gl q1 q2 v0 h x K} : NW C gl (P_q024 q1 q2) ⟨enter [v0],h,x⟩ K = d_q024 C gl q1 q2 v0 h x K:=by kernel_rfl
theorem e_q024 {C gl v0 h x K} : NW C gl a_q024.body ⟨enter [v0],h,x⟩ K = d_q024 C gl p_q024_k1 p_q024_k2 v0 h x K:=E_q024
def p_q016_k1 : ACode:=.pr [0,1,12,13] (.seq (rg [bN 14 .lss 13 12] [0,1,12,13,14])
(.seq (.cond 14 .skip
(.exit 0))
(.seq (.block 1 (.seq (rg [mV 15 13,
mV 5 15] [0,1,5,12,13])
(.seq (dr [dF (mV 16 0) [0],
dF (mV 17 5) [5],
dF (iA 18 none 16 17) [16,17],
dF (lD 19 none 18) [18],
dF (mV 20 1) [1],
dF (mV 21 5) [5],
dF (iA 22 none 20 21) [20,21],
dF (lD 23 none 22) [22],
dF (bN 24 .neq 19 23) [19,23]] [0,1,12,13,24])
(.cond 24 (.seq (rg [mV 4 cF] [4])
.ret)
.skip))))
(rg [bN 25 .add 13 (cI 1),
mV 13 25] [0,1,12,13]))))
def d_q016_k1 (C : Hd) (gl : GL) (v0 v1 v12 v13 : AV) (h : Heap) (x : Esc) (K : KT) : Prop:=
 pK (oBin .lss v13 v12) fun t1=>
 condB t1 (pK (oIaddr none v0 v13 h) fun t2=>
 pK (oLoad none t2 h) fun t3=>
 pK (oIaddr none v1 v13 h) fun t4=>
 pK (oLoad none t4 h) fun t5=>
 pK (oBin .neq t3 t5) fun t6=>
 condB t6 (K .ret ⟨[(4,(AB false))],h,x⟩)
 (pK (oBin .add v13 (AI 1)) fun t7=>
 K .normal ⟨[(0,v0),(1,v1),(12,v12),(13,t7)],h,x⟩))
 (K (.exit 0) ⟨[(0,v0),(1,v1),(12,v12),(13,v13),(14,t1)],h,x⟩)
theorem e_q016_k1 {C gl e h x K} : NW C gl p_q016_k1 ⟨e,h,x⟩ K = d_q016_k1 C gl (aget e 0) (aget e 1) (aget e 12) (aget e 13) h x K:=by kernel_rfl
theorem l_q016_k1 {C gl e h x K} : NW C gl (.loop p_q016_k1) ⟨e,h,x⟩ K = NLoop C gl p_q016_k1 K [(0,aget e 0),(1,aget e 1),(12,aget e 12),(13,aget e 13)] h x:=NLoop_pr
def p_q016_k2 : ACode:=.pr [] (.seq (rg [mV 4 cT] [4])
.ret)
def d_q016_k2 (C : Hd) (gl : GL) (h : Heap) (x : Esc) (K : KT) : Prop:=
 K .ret ⟨[(4,(AB true))],h,x⟩
theorem e_q016_k2 {C gl e h x K} : NW C gl p_q016_k2 ⟨e,h,x⟩ K = d_q016_k2 C gl h x K:=by kernel_rfl
def P_q016 (q1 q2 : ACode) : ACode:=(.seq (rg [mV 4 cF] [0,1])
(.seq (.seq (rg [mV 6 0,
lN 7 6,
mV 8 1,
lN 9 8,
bN 10 .neq 7 9] [0,1,10])
(.cond 10 (.seq (rg [mV 4 cF] [4])
.ret)
.skip))
(.seq (.seq (rg [mV 11 0,
lN 12 11,
mV 13 (cI 0)] [0,1,12,13])
(.block 0 (.loop q1)))
q2)))
def a_q016 : AFun:=⟨2,[.t 4],P_q016 p_q016_k1 p_q016_k2,false,false⟩
def d_q016 (C : Hd) (gl : GL) (q1 q2 : ACode) (v0 v1 : AV) (h : Heap) (x : Esc) (K : KT) : Prop:=
 pK (oLen v0) fun t1=>
 pK (oLen v1) fun t2=>
 pK (oBin .neq t1 t2) fun t3=>
 condB t3 (K .ret ⟨[(4,(AB false))],h,x⟩)
 (pK (oLen v0) fun t4=>
 NW C gl (.loop q1) ⟨[(0,v0),(1,v1),(12,t4),(13,(AI 0))],h,x⟩ (blockN 0 (seqN C gl q2 K)))
theorem E_q016 {C gl q1 q2 v0 v1 h x K} : NW C gl (P_q016 q1 q2) ⟨enter [v0,v1],h,x⟩ K = d_q016 C gl q1 q2 v0 v1 h x K:=by kernel_rfl
theorem e_q016 {C gl v0 v1 h x K} : NW C gl a_q016.body ⟨enter [v0,v1],h,x⟩ K = d_q016 C gl p_q016_k1 p_q016_k2 v0 v1 h x K:=E_q016
def P_q00b : ACode:=(.seq (rg [mV 0 cF] [])
(.seq (rg [uO 4 (.build [.p (.int .i64 0),.p (.int .i64 0),.p (.int .i64 0),.p (.str []),.p (.str []),.p (.str [])] [(0,1,(cI 7)),(3,1,(cS [49,48]))]),
uO 5 (.bsl false (some 6) 1 (.agg [.int .i64 0,.int .i64 0,.int .i64 0,.str [],.str [],.str []]) [(0,4)]),
cL 6 f_q025 [5],
mV 3 6,
eX 7 3 0,
eX 8 3 1,
mV 1 7,
mV 2 8] [1,2])
(.seq (rg [mV 9 2,
bN 10 .eql 9 (cI 0),
mV 11 10,
gD 12 11 true (.mv 1),
gD 13 11 true (.bin .eql 12 (cI 9)),
uO 14 (.pick 11 13 cF),
mV 0 14] [0])
.ret)))
def a_q00b : AFun:=⟨0,[.t 0],P_q00b,false,false⟩
def d_q00b (C : Hd) (gl : GL) (h : Heap) (x : Esc) (K : KT) : Prop:=
 pK (oBuild [.p (.int .i64 0),.p (.int .i64 0),.p (.int .i64 0),.p (.str []),.p (.str []),.p (.str [])] [(0,1,(AI 7)),(3,1,(.p (.str [49,48])))]) fun t1=>
 wK (oBsl false (some 6) 1 (.agg [.int .i64 0,.int .i64 0,.int .i64 0,.str [],.str [],.str []]) [(0,t1)] h) fun t2 h3 y4=>
 C f_q025 [t2] h3 fun t5 h6 y7=>
 pK (oExt t5 0) fun t8=>
 pK (oExt t5 1) fun t9=>
 pK (oBin .eql t9 (AI 0)) fun t10=>
 gM t10 true t8 h6 fun t11 h12 y13=>
 gP t10 true (oBin .eql t11 (AI 9)) h12 fun t14 h15 y16=>
 pK (oPick t10 t14 (AB false)) fun t17=>
 K .ret ⟨[(0,t17)],h15,(y16 ++ (y13 ++ (y7 ++ (y4 ++ x))))⟩
theorem e_q00b {C gl h x K} : NW C gl a_q00b.body ⟨enter [],h,x⟩ K = d_q00b C gl h x K:=by kernel_rfl
def p_q00d_k1 : ACode:=.pr [0,2,3,30] (.cond 30 (.seq (rg [mV 33 0,
mV 34 0,
uO 35 (.bsl false none 5 (.int .i64 0) [(0,(cI 1)),(1,(cI 2)),(2,(cI 3)),(3,(cI 5)),(4,(cI 8))]),
cL 36 f_q00i [34,35],
cL 37 f_q00l [33,36],
fA 38 3 none 3,
wO (.store none 38 37)] [0,2,3])
(.seq (rg [mV 39 0,
cL 40 f_q00f [39,(cI 2)]] [0,2,3,40])
(.cond 40 (dr [dF (mV 41 0) [0],
dF (fA 42 3 none 3) [3],
dF (lD 43 none 42) [42],
dF (uO 44 (.lens 43)) [43],
dT (cL 45 f_q00l [41,44]) [41,44],
dF (mV 46 0) [0],
dF (fA 47 3 none 3) [3],
dA (lD 48 none 47) [47] false [4] [],
dF (uO 49 (.lens 48)) [48],
dT (cL 50 f_q00l [46,49]) [46,49],
dF (fA 51 4 none 3) [3],
dT (wO (.store none 51 45)) [51,45],
dF (fA 52 5 none 3) [3],
dT (wO (.store none 52 50)) [52,50]] [0,2,3])
.skip)))
(rg [mV 10 0,
mV 11 0,
uO 12 (.bsl false none 5 (.int .i64 0) [(0,(cI 0)),(1,(cI 0)),(2,(cI 1)),(3,(cI 2)),(4,(cI 3))]),
cL 13 f_q00i [11,12],
cL 14 f_q00l [10,13],
fA 15 3 none 3,
wO (.store none 15 14)] [0,2,3]))
def d_q00d_k1 (C : Hd) (gl : GL) (v0 v2 v3 v30 : AV) (h : Heap) (x : Esc) (K : KT) : Prop:=
 condB v30 (wK (oBsl false none 5 (.int .i64 0) [(0,(AI 1)),(1,(AI 2)),(2,(AI 3)),(3,(AI 5)),(4,(AI 8))] h) fun t1 h2 y3=>
 C f_q00i [v0,t1] h2 fun t4 h5 y6=>
 C f_q00l [v0,t4] h5 fun t7 h8 y9=>
 pK (oFaddr 3 none v3) fun t10=>
 wK (oStore none t10 t7 h8) fun t11 h12 y13=>
 C f_q00f [v0,(AI 2)] h12 fun t14 h15 y16=>
 condB t14 (pK (oFaddr 3 none v3) fun t17=>
 pK (oLoad none t17 h15) fun t18=>
 pK (oLens t18) fun t19=>
 callE C f_q00l [v0,t19] h15 fun t20 h21 y22=>
 pK (oFaddr 3 none v3) fun t23=>
 pK (oLoad none t23 h21) fun t24=>
 (pK (oLoad none t23 h15) fun v=>(fun u (g1 : Heap) (y1 : Esc)=>u = t24 ∧ g1 = h15 ∧ y1 = []) v h15 []) ∧ (pK (oLens t24) fun t25=>
 callE C f_q00l [v0,t25] h21 fun t26 h27 y28=>
 pK (oFaddr 4 none v3) fun t29=>
 wK (oStore none t29 t20 h27) fun t30 h31 y32=>
 pK (oFaddr 5 none v3) fun t33=>
 wK (oStore none t33 t26 h31) fun t34 h35 y36=>
 K .normal ⟨[(0,v0),(2,v2),(3,v3)],h35,(y36 ++ (y32 ++ (y28 ++ (y22 ++ (y16 ++ (y13 ++ (y9 ++ (y6 ++ (y3 ++ x)))))))))⟩))
 (K .normal ⟨[(0,v0),(2,v2),(3,v3),(40,t14)],h15,(y16 ++ (y13 ++ (y9 ++ (y6 ++ (y3 ++ x)))))⟩))
 (wK (oBsl false none 5 (.int .i64 0) [(0,(AI 0)),(1,(AI 0)),(2,(AI 1)),(3,(AI 2)),(4,(AI 3))] h) fun t37 h38 y39=>
 C f_q00i [v0,t37] h38 fun t40 h41 y42=>
 C f_q00l [v0,t40] h41 fun t43 h44 y45=>
 pK (oFaddr 3 none v3) fun t46=>
 wK (oStore none t46 t43 h44) fun t47 h48 y49=>
 K .normal ⟨[(0,v0),(2,v2),(3,v3)],h48,(y49 ++ (y45 ++ (y42 ++ (y39 ++ x))))⟩)
theorem e_q00d_k1 {C gl e h x K} : NW C gl p_q00d_k1 ⟨e,h,x⟩ K = d_q00d_k1 C gl (aget e 0) (aget e 2) (aget e 3) (aget e 30) h x K:=by kernel_rfl
def P_q00d_k2 (q1 : ACode) : ACode:=.pr [0,2,3,9,16] (.cond 16 (rg [mV 20 0,
uO 21 (.bsl false none 5 (.int .i64 0) [(0,(cI 0)),(1,(cI 1)),(2,(cI 1)),(3,(cI 6)),(4,(cI 13))]),
cL 22 f_q00i [20,21],
fA 23 1 none 3,
wO (.store none 23 22)] [0,2,3])
(.seq (rg [bN 25 .eql 9 (cI 9),
mV 24 25] [0,2,3,9,24])
(.cond 24 (rg [mV 26 0,
uO 27 (.bsl false none 4 (.int .i64 0) [(0,(cI 0)),(1,(cI 0)),(2,(cI 1)),(3,(cI 3))]),
cL 28 f_q00i [26,27],
fA 29 2 none 3,
wO (.store none 29 28)] [0,2,3])
(.seq (.seq (rg [bN 31 .eql 9 (cI 7),
mV 30 31] [0,2,3,9,30])
(.cond 30 .skip
(rg [bN 32 .eql 9 (cI 8),
mV 30 32] [0,2,3,30])))
q1))))
def p_q00d_k2 : ACode:=P_q00d_k2 p_q00d_k1
def d_q00d_k2 (C : Hd) (gl : GL) (q1 : ACode) (v0 v2 v3 v9 v16 : AV) (h : Heap) (x : Esc) (K : KT) : Prop:=
 condB v16 (wK (oBsl false none 5 (.int .i64 0) [(0,(AI 0)),(1,(AI 1)),(2,(AI 1)),(3,(AI 6)),(4,(AI 13))] h) fun t1 h2 y3=>
 C f_q00i [v0,t1] h2 fun t4 h5 y6=>
 pK (oFaddr 1 none v3) fun t7=>
 wK (oStore none t7 t4 h5) fun t8 h9 y10=>
 K .normal ⟨[(0,v0),(2,v2),(3,v3)],h9,(y10 ++ (y6 ++ (y3 ++ x)))⟩)
 (pK (oBin .eql v9 (AI 9)) fun t11=>
 condB t11 (wK (oBsl false none 4 (.int .i64 0) [(0,(AI 0)),(1,(AI 0)),(2,(AI 1)),(3,(AI 3))] h) fun t12 h13 y14=>
 C f_q00i [v0,t12] h13 fun t15 h16 y17=>
 pK (oFaddr 2 none v3) fun t18=>
 wK (oStore none t18 t15 h16) fun t19 h20 y21=>
 K .normal ⟨[(0,v0),(2,v2),(3,v3)],h20,(y21 ++ (y17 ++ (y14 ++ x)))⟩)
 (pK (oBin .eql v9 (AI 7)) fun t22=>
 condB t22 (NW C gl q1 ⟨[(0,v0),(2,v2),(3,v3),(9,v9),(30,t22)],h,x⟩ K)
 (pK (oBin .eql v9 (AI 8)) fun t23=>
 NW C gl q1 ⟨[(0,v0),(2,v2),(3,v3),(30,t23)],h,x⟩ K)))
theorem E_q00d_k2 {C gl q1 e h x K} : NW C gl (P_q00d_k2 q1) ⟨e,h,x⟩ K = d_q00d_k2 C gl q1 (aget e 0) (aget e 2) (aget e 3) (aget e 9) (aget e 16) h x K:=by kernel_rfl
theorem e_q00d_k2 {C gl e h x K} : NW C gl p_q00d_k2 ⟨e,h,x⟩ K = d_q00d_k2 C gl p_q00d_k1 (aget e 0) (aget e 2) (aget e 3) (aget e 9) (aget e 16) h x K:=E_q00d_k2
def p_q00d_k3 : ACode:=.pr [2,3] (.seq (rg [lD 99 (some 6) 3,
wO (.store (some 6) 2 99)] [2])
.ret)
def d_q00d_k3 (C : Hd) (gl : GL) (v2 v3 : AV) (h : Heap) (x : Esc) (K : KT) : Prop:=
 pK (oLoad (some 6) v3 h) fun t1=>
 wK (oStore (some 6) v2 t1 h) fun t2 h3 y4=>
 K .ret ⟨[(2,v2)],h3,(y4 ++ x)⟩
theorem e_q00d_k3 {C gl e h x K} : NW C gl p_q00d_k3 ⟨e,h,x⟩ K = d_q00d_k3 C gl (aget e 2) (aget e 3) h x K:=by kernel_rfl
def P_q00d_k4 (q3 : ACode) : ACode:=.pr [0,2,3] (.seq (.seq (rg [mV 53 0,
cL 54 f_q00f [53,(cI 60)]] [0,2,3,54])
(.cond 54 (.seq (rg [mV 55 0,
cL 56 f_q00g [55,(cI 4)]] [0,2,3,56])
(.block 1 (.seq (rg [bN 71 .eql 56 (cI 0),
mV 70 71] [0,2,3,56,70])
(.cond 70 (rg [mV 72 0,
cL 73 f_q00h [72,(cI 1),(cI 10)],
fA 74 0 none 3,
wO (.store none 74 73)] [2,3])
(.seq (rg [bN 76 .eql 56 (cI 1),
mV 75 76] [0,2,3,56,75])
(.cond 75 (rg [mV 77 0,
cL 78 f_q00h [77,(cI 0),(cI 15)],
mV 79 0,
uO 80 (.bsl false none 5 (.int .i64 0) [(0,(cI 0)),(1,(cI 1)),(2,(cI (-1))),(3,(cI 20000)),(4,(cI 20001))]),
cL 81 f_q00i [79,80],
fA 82 1 none 3,
wO (.store none 82 78),
fA 83 2 none 3,
wO (.store none 83 81)] [2,3])
(.seq (rg [bN 85 .eql 56 (cI 2),
mV 84 85] [0,2,3,84])
(.cond 84 (dr [dF (fA 86 3 none 3) [3],
dF (lD 87 none 86) [86],
dF (mV 88 0) [0],
dF (fA 89 3 none 3) [3],
dF (lD 90 none 89) [89],
dF (uO 91 (.lens 90)) [90],
dF (bN 92 .sub (cI 2000) 91) [91],
dA (cL 93 f_q01i [(cS [48]),92]) [92] true [] [1],
dA (cL 94 f_q01i [(cS [48]),(cI 2001)]) [] true [] [1],
dF (uO 95 (.bsl false none 4 (.str []) [(0,(cS [120])),(1,(cS [])),(2,93),(3,94)])) [93,94],
dA (cL 96 f_q00k [88,95]) [88,95] true [] [1],
dF (bN 97 .add 87 96) [87,96],
dF (fA 98 3 none 3) [3],
dT (wO (.store none 98 97)) [98,97]] [2,3])
(dr [dF (mV 57 0) [0],
dF (fA 58 4 none 3) [3],
dF (lD 59 none 58) [58],
dF (bN 60 .add 59 (cS [49])) [59],
dF (uO 61 (.bsl false none 3 (.str []) [(0,(cS [])),(1,(cS [48])),(2,60)])) [60],
dT (cL 62 f_q00k [57,61]) [57,61],
dF (mV 63 0) [0],
dF (fA 64 5 none 3) [3],
dA (lD 65 none 64) [64] false [5] [],
dA (uO 66 (.bsl false none 4 (.str []) [(0,(cS [])),(1,(cS [49])),(2,(cS [120])),(3,65)])) [65] false [5] [],
dT (cL 67 f_q00k [63,66]) [63,66],
dF (fA 68 4 none 3) [3],
dT (wO (.store none 68 62)) [68,62],
dF (fA 69 5 none 3) [3],
dT (wO (.store none 69 67)) [69,67]] [2,3])))))))))
.skip))
q3)
def p_q00d_k4 : ACode:=P_q00d_k4 p_q00d_k3
def d_q00d_k4 (C : Hd) (gl : GL) (q3 : ACode) (v0 v2 v3 : AV) (h : Heap) (x : Esc) (K : KT) : Prop:=
 C f_q00f [v0,(AI 60)] h fun t1 h2 y3=>
 condB t1 (C f_q00g [v0,(AI 4)] h2 fun t4 h5 y6=>
 pK (oBin .eql t4 (AI 0)) fun t7=>
 condB t7 (C f_q00h [v0,(AI 1),(AI 10)] h5 fun t8 h9 y10=>
 pK (oFaddr 0 none v3) fun t11=>
 wK (oStore none t11 t8 h9) fun t12 h13 y14=>
 NW C gl q3 ⟨[(2,v2),(3,v3)],h13,(y14 ++ (y10 ++ (y6 ++ (y3 ++ x))))⟩ K)
 (pK (oBin .eql t4 (AI 1)) fun t15=>
 condB t15 (C f_q00h [v0,(AI 0),(AI 15)] h5 fun t16 h17 y18=>
 wK (oBsl false none 5 (.int .i64 0) [(0,(AI 0)),(1,(AI 1)),(2,(AI (-1))),(3,(AI 20000)),(4,(AI 20001))] h17) fun t19 h20 y21=>
 C f_q00i [v0,t19] h20 fun t22 h23 y24=>
 pK (oFaddr 1 none v3) fun t25=>
 wK (oStore none t25 t16 h23) fun t26 h27 y28=>
 pK (oFaddr 2 none v3) fun t29=>
 wK (oStore none t29 t22 h27) fun t30 h31 y32=>
 NW C gl q3 ⟨[(2,v2),(3,v3)],h31,(y32 ++ (y28 ++ (y24 ++ (y21 ++ (y18 ++ (y6 ++ (y3 ++ x)))))))⟩ K)
 (pK (oBin .eql t4 (AI 2)) fun t33=>
 condB t33 (pK (oFaddr 3 none v3) fun t34=>
 pK (oLoad none t34 h5) fun t35=>
 pK (oFaddr 3 none v3) fun t36=>
 pK (oLoad none t36 h5) fun t37=>
 pK (oLens t37) fun t38=>
 pK (oBin .sub (AI 2000) t38) fun t39=>
 callE C f_q01i [(.p (.str [48])),t39] h5 fun t40 h41 y42=>
 (pK (oLoad none t34 h41) fun v=>(fun u (g1 : Heap) (y1 : Esc)=>u = t35 ∧ g1 = h41 ∧ y1 = []) v h41 []) ∧ (callE C f_q01i [(.p (.str [48])),(AI 2001)] h41 fun t43 h44 y45=>
 (pK (oLoad none t34 h44) fun v=>(fun u (g1 : Heap) (y1 : Esc)=>u = t35 ∧ g1 = h44 ∧ y1 = []) v h44 []) ∧ (wK (oBsl false none 4 (.str []) [(0,(.p (.str [120]))),(1,(.p (.str []))),(2,t40),(3,t43)] h44) fun t46 h47 y48=>
 (h47 = h44 ∧ y48 = []) ∧ (callE C f_q00k [v0,t46] h47 fun t49 h50 y51=>
 (pK (oLoad none t34 h50) fun v=>(fun u (g1 : Heap) (y1 : Esc)=>u = t35 ∧ g1 = h50 ∧ y1 = []) v h50 []) ∧ (pK (oBin .add t35 t49) fun t52=>
 pK (oFaddr 3 none v3) fun t53=>
 wK (oStore none t53 t52 h50) fun t54 h55 y56=>
 NW C gl q3 ⟨[(2,v2),(3,v3)],h55,(y56 ++ (y51 ++ (y48 ++ (y45 ++ (y42 ++ (y6 ++ (y3 ++ x)))))))⟩ K)))))
 (pK (oFaddr 4 none v3) fun t57=>
 pK (oLoad none t57 h5) fun t58=>
 pK (oBin .add t58 (.p (.str [49]))) fun t59=>
 wK (oBsl false none 3 (.str []) [(0,(.p (.str []))),(1,(.p (.str [48]))),(2,t59)] h5) fun t60 h61 y62=>
 (h61 = h5 ∧ y62 = []) ∧ (callE C f_q00k [v0,t60] h61 fun t63 h64 y65=>
 pK (oFaddr 5 none v3) fun t66=>
 pK (oLoad none t66 h64) fun t67=>
 (pK (oLoad none t66 h61) fun v=>(fun u (g1 : Heap) (y1 : Esc)=>u = t67 ∧ g1 = h61 ∧ y1 = []) v h61 []) ∧ (wK (oBsl false none 4 (.str []) [(0,(.p (.str []))),(1,(.p (.str [49]))),(2,(.p (.str [120]))),(3,t67)] h64) fun t68 h69 y70=>
 (h69 = h64 ∧ y70 = []) ∧ ((wK (oBsl false none 4 (.str []) [(0,(.p (.str []))),(1,(.p (.str [49]))),(2,(.p (.str [120]))),(3,t67)] h61) (fun u (g1 : Heap) (y1 : Esc)=>u = t68 ∧ g1 = h61 ∧ y1 = [])) ∧ (callE C f_q00k [v0,t68] h69 fun t71 h72 y73=>
 pK (oFaddr 4 none v3) fun t74=>
 wK (oStore none t74 t63 h72) fun t75 h76 y77=>
 pK (oFaddr 5 none v3) fun t78=>
 wK (oStore none t78 t71 h76) fun t79 h80 y81=>
 NW C gl q3 ⟨[(2,v2),(3,v3)],h80,(y81 ++ (y77 ++ (y73 ++ (y70 ++ (y65 ++ (y62 ++ (y6 ++ (y3 ++ x))))))))⟩ K))))))))
 (NW C gl q3 ⟨[(0,v0),(2,v2),(3,v3),(54,t1)],h2,(y3 ++ x)⟩ K)
theorem E_q00d_k4 {C gl q3 e h x K} : NW C gl (P_q00d_k4 q3) ⟨e,h,x⟩ K = d_q00d_k4 C gl q3 (aget e 0) (aget e 2) (aget e 3) h x K:=by kernel_rfl
theorem e_q00d_k4 {C gl e h x K} : NW C gl p_q00d_k4 ⟨e,h,x⟩ K = d_q00d_k4 C gl p_q00d_k3 (aget e 0) (aget e 2) (aget e 3) h x K:=E_q00d_k4
def P_q00d (q2 q4 : ACode) : ACode:=(.seq (rg [uO 2 (.alloc [.p (.int .i64 0),.p (.int .i64 0),.p (.int .i64 0),.p (.str []),.p (.str []),.p (.str [])])] [0,2])
(.seq (rg [mV 4 0,
uO 5 (.bsl false none 13 (.int .i64 0) [(0,(cI 7)),(1,(cI 7)),(2,(cI 8)),(3,(cI 8)),(4,(cI 8)),(5,(cI 1)),(6,(cI 2)),(7,(cI 3)),(8,(cI 4)),(9,(cI 5)),(10,(cI 6)),(11,(cI 9)),(12,(cI 10))]),
cL 6 f_q00i [4,5],
uO 7 (.build [.p (.int .i64 0),.p (.int .i64 0),.p (.int .i64 0),.p (.str []),.p (.str []),.p (.str [])] [(0,1,6)]),
uO 3 (.alloc [.p (.int .i64 0),.p (.int .i64 0),.p (.int .i64 0),.p (.str []),.p (.str []),.p (.str [])]),
wO (.store (some 6) 3 7)] [0,2,3])
(.seq (.seq (rg [fA 8 0 none 3,
lD 9 none 8] [0,2,3,9])
(.block 0 (.seq (.seq (rg [bN 17 .eql 9 (cI 1),
mV 16 17] [0,2,3,9,16])
(.cond 16 .skip
(.seq (rg [bN 18 .eql 9 (cI 2),
mV 16 18] [0,2,3,9,16])
(.cond 16 .skip
(rg [bN 19 .eql 9 (cI 10),
mV 16 19] [0,2,3,9,16])))))
q2)))
q4)))
def a_q00d : AFun:=⟨1,[.cell 2 (some 6)],P_q00d p_q00d_k2 p_q00d_k4,false,false⟩
def d_q00d (C : Hd) (gl : GL) (q2 q4 : ACode) (v0 : AV) (h : Heap) (x : Esc) (K : KT) : Prop:=
 alK [.p (.int .i64 0),.p (.int .i64 0),.p (.int .i64 0),.p (.str []),.p (.str []),.p (.str [])] h fun t1 h2 y3=>
 wK (oBsl false none 13 (.int .i64 0) [(0,(AI 7)),(1,(AI 7)),(2,(AI 8)),(3,(AI 8)),(4,(AI 8)),(5,(AI 1)),(6,(AI 2)),(7,(AI 3)),(8,(AI 4)),(9,(AI 5)),(10,(AI 6)),(11,(AI 9)),(12,(AI 10))] h2) fun t4 h5 y6=>
 C f_q00i [v0,t4] h5 fun t7 h8 y9=>
 pK (oBuild [.p (.int .i64 0),.p (.int .i64 0),.p (.int .i64 0),.p (.str []),.p (.str []),.p (.str [])] [(0,1,t7)]) fun t10=>
 alK [.p (.int .i64 0),.p (.int .i64 0),.p (.int .i64 0),.p (.str []),.p (.str []),.p (.str [])] h8 fun t11 h12 y13=>
 wK (oStore (some 6) t11 t10 h12) fun t14 h15 y16=>
 pK (oFaddr 0 none t11) fun t17=>
 pK (oLoad none t17 h15) fun t18=>
 pK (oBin .eql t18 (AI 1)) fun t19=>
 condB t19 (NW C gl q2 ⟨[(0,v0),(2,t1),(3,t11),(9,t18),(16,t19)],h15,(y16 ++ (y13 ++ (y9 ++ (y6 ++ (y3 ++ x)))))⟩ (blockN 0 (seqN C gl q4 K)))
 (pK (oBin .eql t18 (AI 2)) fun t20=>
 condB t20 (NW C gl q2 ⟨[(0,v0),(2,t1),(3,t11),(9,t18),(16,t20)],h15,(y16 ++ (y13 ++ (y9 ++ (y6 ++ (y3 ++ x)))))⟩ (blockN 0 (seqN C gl q4 K)))
 (pK (oBin .eql t18 (AI 10)) fun t21=>
 NW C gl q2 ⟨[(0,v0),(2,t1),(3,t11),(9,t18),(16,t21)],h15,(y16 ++ (y13 ++ (y9 ++ (y6 ++ (y3 ++ x)))))⟩ (blockN 0 (seqN C gl q4 K))))
theorem E_q00d {C gl q2 q4 v0 h x K} : NW C gl (P_q00d q2 q4) ⟨enter [v0],h,x⟩ K = d_q00d C gl q2 q4 v0 h x K:=by kernel_rfl
theorem e_q00d {C gl v0 h x K} : NW C gl a_q00d.body ⟨enter [v0],h,x⟩ K = d_q00d C gl p_q00d_k2 p_q00d_k4 v0 h x K:=E_q00d
def P_q00f : ACode:=(.seq (rg [mV 4 cF] [0,1])
(.seq (rg [mV 5 0,
mV 6 1,
cL 7 f_q00g [5,6],
bN 8 .eql 7 (cI 0),
mV 4 8] [4])
.ret))
def a_q00f : AFun:=⟨2,[.t 4],P_q00f,false,false⟩
def d_q00f (C : Hd) (gl : GL) (v0 v1 : AV) (h : Heap) (x : Esc) (K : KT) : Prop:=
 C f_q00g [v0,v1] h fun t1 h2 y3=>
 pK (oBin .eql t1 (AI 0)) fun t4=>
 K .ret ⟨[(4,t4)],h2,(y3 ++ x)⟩
theorem e_q00f {C gl v0 v1 h x K} : NW C gl a_q00f.body ⟨enter [v0,v1],h,x⟩ K = d_q00f C gl v0 v1 h x K:=by kernel_rfl
def P_q00i : ACode:=(.seq (rg [mV 4 (cI 0)] [0,1])
(.seq (rg [mV 5 1,
mV 6 0,
mV 7 1,
lN 8 7,
cL 9 f_q00g [6,8],
iA 10 none 5 9,
lD 11 none 10,
mV 4 11] [4])
.ret))
def a_q00i : AFun:=⟨2,[.t 4],P_q00i,false,false⟩
def d_q00i (C : Hd) (gl : GL) (v0 v1 : AV) (h : Heap) (x : Esc) (K : KT) : Prop:=
 pK (oLen v1) fun t1=>
 C f_q00g [v0,t1] h fun t2 h3 y4=>
 pK (oIaddr none v1 t2 h3) fun t5=>
 pK (oLoad none t5 h3) fun t6=>
 K .ret ⟨[(4,t6)],h3,(y4 ++ x)⟩
theorem e_q00i {C gl v0 v1 h x K} : NW C gl a_q00i.body ⟨enter [v0,v1],h,x⟩ K = d_q00i C gl v0 v1 h x K:=by kernel_rfl
def P_q00g : ACode:=(.seq (rg [mV 4 (cI 0)] [0,1])
(.seq (rg [mV 7 0,
uO 8 (.nilchk 7),
fA 9 1 none 8,
lD 10 none 9,
bN 11 .add 10 (cI 1),
uO 12 (.nilchk 7),
fA 13 1 none 12,
wO (.store none 13 11)] [0,1])
(.seq (.seq (rg [mV 14 0,
uO 15 (.nilchk 14),
fA 16 0 none 15,
lD 17 none 16,
lN 18 17,
bN 19 .eql 18 (cI 0)] [0,1,19])
(.cond 19 (.seq (rg [mV 20 0,
uO 21 (.nilchk 20),
fA 22 1 none 21,
lD 23 none 22,
bN 24 .mul 23 (cI 7919),
mV 25 1,
cL 26 f_q00c [24,25],
mV 4 26] [4])
.ret)
.skip))
(.seq (dr [dF (mV 27 0) [0],
dF (uO 28 (.nilchk 27)) [27],
dF (fA 29 1 none 28) [28],
dF (lD 30 none 29) [29],
dF (bN 31 .sub 30 (cI 1)) [30],
dF (mV 32 0) [0],
dF (uO 33 (.nilchk 32)) [32],
dF (fA 34 0 none 33) [33],
dF (lD 35 none 34) [34],
dF (lN 36 35) [35],
dF (bN 37 .rem 31 36) [31,36],
dF (mV 5 37) [37]] [0,1,5])
(.seq (dr [dF (mV 38 0) [0],
dF (uO 39 (.nilchk 38)) [38],
dF (fA 40 1 none 39) [39],
dF (lD 41 none 40) [40],
dF (bN 42 .sub 41 (cI 1)) [41],
dF (mV 43 0) [0],
dF (uO 44 (.nilchk 43)) [43],
dF (fA 45 0 none 44) [44],
dF (lD 46 none 45) [45],
dF (lN 47 46) [46],
dF (bN 48 .quo 42 47) [42,47],
dF (mV 6 48) [48]] [0,1,5,6])
(.seq (rg [mV 49 0,
uO 50 (.nilchk 49),
fA 51 0 none 50,
lD 52 none 51,
mV 53 5,
iA 54 none 52 53,
lD 55 none 54,
cL 56 f_q00c [55,(cI 1073741824)],
mV 57 6,
mV 58 5,
bN 59 .add (cI 7919) 58,
bN 60 .mul 57 59,
bN 61 .add 56 60,
mV 62 1,
cL 63 f_q00c [61,62],
mV 4 63] [4])
.ret))))))
def a_q00g : AFun:=⟨2,[.t 4],P_q00g,false,false⟩
def d_q00g (C : Hd) (gl : GL) (v0 v1 : AV) (h : Heap) (x : Esc) (K : KT) : Prop:=
 pK (oNil v0) fun t1=>
 pK (oFaddr 1 none t1) fun t2=>
 pK (oLoad none t2 h) fun t3=>
 pK (oBin .add t3 (AI 1)) fun t4=>
 pK (oNil v0) fun t5=>
 pK (oFaddr 1 none t5) fun t6=>
 wK (oStore none t6 t4 h) fun t7 h8 y9=>
 pK (oNil v0) fun t10=>
 pK (oFaddr 0 none t10) fun t11=>
 pK (oLoad none t11 h8) fun t12=>
 pK (oLen t12) fun t13=>
 pK (oBin .eql t13 (AI 0)) fun t14=>
 condB t14 (pK (oNil v0) fun t15=>
 pK (oFaddr 1 none t15) fun t16=>
 pK (oLoad none t16 h8) fun t17=>
 pK (oBin .mul t17 (AI 7919)) fun t18=>
 C f_q00c [t18,v1] h8 fun t19 h20 y21=>
 K .ret ⟨[(4,t19)],h20,(y21 ++ (y9 ++ x))⟩)
 (pK (oNil v0) fun t22=>
 pK (oFaddr 1 none t22) fun t23=>
 pK (oLoad none t23 h8) fun t24=>
 pK (oBin .sub t24 (AI 1)) fun t25=>
 pK (oNil v0) fun t26=>
 pK (oFaddr 0 none t26) fun t27=>
 pK (oLoad none t27 h8) fun t28=>
 pK (oLen t28) fun t29=>
 pK (oBin .rem t25 t29) fun t30=>
 pK (oNil v0) fun t31=>
 pK (oFaddr 1 none t31) fun t32=>
 pK (oLoad none t32 h8) fun t33=>
 pK (oBin .sub t33 (AI 1)) fun t34=>
 pK (oNil v0) fun t35=>
 pK (oFaddr 0 none t35) fun t36=>
 pK (oLoad none t36 h8) fun t37=>
 pK (oLen t37) fun t38=>
 pK (oBin .quo t34 t38) fun t39=>
 pK (oNil v0) fun t40=>
 pK (oFaddr 0 none t40) fun t41=>
 pK (oLoad none t41 h8) fun t42=>
 pK (oIaddr none t42 t30 h8) fun t43=>
 pK (oLoad none t43 h8) fun t44=>
 C f_q00c [t44,(AI 1073741824)] h8 fun t45 h46 y47=>
 pK (oBin .add (AI 7919) t30) fun t48=>
 pK (oBin .mul t39 t48) fun t49=>
 pK (oBin .add t45 t49) fun t50=>
 C f_q00c [t50,v1] h46 fun t51 h52 y53=>
 K .ret ⟨[(4,t51)],h52,(y53 ++ (y47 ++ (y9 ++ x)))⟩)
theorem e_q00g {C gl v0 v1 h x K} : NW C gl a_q00g.body ⟨enter [v0,v1],h,x⟩ K = d_q00g C gl v0 v1 h x K:=by kernel_rfl
def p_q02b_k1 : ACode:=.pr [5,13,14,15] (.seq (rg [bN 16 .lss 15 14] [5,13,14,15,16])
(.seq (.cond 16 .skip
(.exit 0))
(.seq (.block 1 (.seq (rg [iA 17 (some 6) 13 15,
lD 18 (some 6) 17,
uO 7 (.alloc [.p (.int .i64 0),.p (.int .i64 0),.p (.int .i64 0),.p (.str []),.p (.str []),.p (.str [])]),
wO (.store (some 6) 7 18)] [5,7,13,14,15])
(.seq (.seq (rg [mV 19 5,
uO 20 (.nilchk 19),
fA 21 37 none 20,
lD 22 none 21,
bN 23 .gtr 22 (cI 20000)] [5,7,13,14,15,23])
(.cond 23 (.exit 0)
.skip))
(rg [mV 24 5,
lD 25 (some 6) 7,
cL 26 f_q02e [24,25]] [5,13,14,15]))))
(rg [bN 27 .add 15 (cI 1),
mV 15 27] [5,13,14,15]))))
def d_q02b_k1 (C : Hd) (gl : GL) (v5 v13 v14 v15 : AV) (h : Heap) (x : Esc) (K : KT) : Prop:=
 pK (oBin .lss v15 v14) fun t1=>
 condB t1 (pK (oIaddr (some 6) v13 v15 h) fun t2=>
 pK (oLoad (some 6) t2 h) fun t3=>
 alK [.p (.int .i64 0),.p (.int .i64 0),.p (.int .i64 0),.p (.str []),.p (.str []),.p (.str [])] h fun t4 h5 y6=>
 wK (oStore (some 6) t4 t3 h5) fun t7 h8 y9=>
 pK (oNil v5) fun t10=>
 pK (oFaddr 37 none t10) fun t11=>
 pK (oLoad none t11 h8) fun t12=>
 pK (oBin .gtr t12 (AI 20000)) fun t13=>
 condB t13 (K (.exit 0) ⟨[(5,v5),(7,t4),(13,v13),(14,v14),(15,v15),(23,t13)],h8,(y9 ++ (y6 ++ x))⟩)
 (pK (oLoad (some 6) t4 h8) fun t14=>
 C f_q02e [v5,t14] h8 fun t15 h16 y17=>
 pK (oBin .add v15 (AI 1)) fun t18=>
 K .normal ⟨[(5,v5),(13,v13),(14,v14),(15,t18)],h16,(y17 ++ (y9 ++ (y6 ++ x)))⟩))
 (K (.exit 0) ⟨[(5,v5),(13,v13),(14,v14),(15,v15),(16,t1)],h,x⟩)
theorem e_q02b_k1 {C gl e h x K} : NW C gl p_q02b_k1 ⟨e,h,x⟩ K = d_q02b_k1 C gl (aget e 5) (aget e 13) (aget e 14) (aget e 15) h x K:=by kernel_rfl
theorem l_q02b_k1 {C gl e h x K} : NW C gl (.loop (.scope p_q02b_k1)) ⟨e,h,x⟩ K = NLoop C gl (.scope p_q02b_k1) K [(5,aget e 5),(13,aget e 13),(14,aget e 14),(15,aget e 15)] h x:=NLoop_sc
def p_q02b_k2 : ACode:=.pr [5] (.seq (rg [mV 28 5,
mV 4 28] [4])
.ret)
def d_q02b_k2 (C : Hd) (gl : GL) (v5 : AV) (h : Heap) (x : Esc) (K : KT) : Prop:=
 K .ret ⟨[(4,v5)],h,x⟩
theorem e_q02b_k2 {C gl e h x K} : NW C gl p_q02b_k2 ⟨e,h,x⟩ K = d_q02b_k2 C gl (aget e 5) h x K:=by kernel_rfl
def P_q02b (q1 q2 : ACode) : ACode:=(.seq (rg [mV 4 (.c (.nilp))] [0,1])
(.seq (rg [cL 8 f_q02k [],
mV 9 1,
uO 10 (.isnil 0 true 9),
uO 11 (.build [.p (.int .i64 0),.p (.int .i64 0),.p (.int .i64 0),.p (.str []),.p (.str []),.p (.str []),.p (.int .i64 0),.p (.int .i64 0),.p (.int .i64 0),.p (.str []),.p (.str []),.p (.str []),.p (.int .i64 0),.p (.int .i64 0),.p (.int .i64 0),.p (.str []),.p (.str []),.p (.str []),.p (.int .i64 0),.p (.int .i64 0),.p (.int .i64 0),.p (.str []),.p (.str []),.p (.str []),.p (.int .i64 0),.p (.int .i64 0),.p (.int .i64 0),.p (.str []),.p (.str []),.p (.str []),.p (.int .i64 0),.p (.int .i64 0),.p (.int .i64 0),.p (.str []),.p (.str []),.p (.str []),.p (.int .i64 0),.p (.int .i64 0),.p (.int .i64 0),.p (.int .i64 0),.sl0 none,.sl0 none,.sl0 none,.sl0 none,.sl0 none,.p (.bool false)] [(0,36,8),(36,1,(cI 0)),(45,1,10)]),
uO 12 (.uns 12 0 [11]),
mV 5 12] [0,5])
(.seq (.seq (rg [mV 13 0,
lN 14 13,
mV 15 (cI 0)] [5,13,14,15])
(.block 0 (.loop (.scope q1))))
q2)))
def a_q02b : AFun:=⟨2,[.t 4],P_q02b p_q02b_k1 p_q02b_k2,false,false⟩
def d_q02b (C : Hd) (gl : GL) (q1 q2 : ACode) (v0 v1 : AV) (h : Heap) (x : Esc) (K : KT) : Prop:=
 C f_q02k [] h fun t1 h2 y3=>
 pK (oIsnil 0 true v1) fun t4=>
 pK (oBuild [.p (.int .i64 0),.p (.int .i64 0),.p (.int .i64 0),.p (.str []),.p (.str []),.p (.str []),.p (.int .i64 0),.p (.int .i64 0),.p (.int .i64 0),.p (.str []),.p (.str []),.p (.str []),.p (.int .i64 0),.p (.int .i64 0),.p (.int .i64 0),.p (.str []),.p (.str []),.p (.str []),.p (.int .i64 0),.p (.int .i64 0),.p (.int .i64 0),.p (.str []),.p (.str []),.p (.str []),.p (.int .i64 0),.p (.int .i64 0),.p (.int .i64 0),.p (.str []),.p (.str []),.p (.str []),.p (.int .i64 0),.p (.int .i64 0),.p (.int .i64 0),.p (.str []),.p (.str []),.p (.str []),.p (.int .i64 0),.p (.int .i64 0),.p (.int .i64 0),.p (.int .i64 0),.sl0 none,.sl0 none,.sl0 none,.sl0 none,.sl0 none,.p (.bool false)] [(0,36,t1),(36,1,(AI 0)),(45,1,t4)]) fun t5=>
 wK (unsOp 12 0 [t5] h2) fun t6 h7 y8=>
 pK (oLen v0) fun t9=>
 NW C gl (.loop (.scope q1)) ⟨[(5,t6),(13,v0),(14,t9),(15,(AI 0))],h7,(y8 ++ (y3 ++ x))⟩ (blockN 0 (seqN C gl q2 K))
theorem E_q02b {C gl q1 q2 v0 v1 h x K} : NW C gl (P_q02b q1 q2) ⟨enter [v0,v1],h,x⟩ K = d_q02b C gl q1 q2 v0 v1 h x K:=by kernel_rfl
theorem e_q02b {C gl v0 v1 h x K} : NW C gl a_q02b.body ⟨enter [v0,v1],h,x⟩ K = d_q02b C gl p_q02b_k1 p_q02b_k2 v0 v1 h x K:=E_q02b
def P_q02i : ACode:=(.seq (rg [mV 2 (.c (.nilp))] [0])
(.seq (rg [uO 3 (.alloc [.p (.bool false)]),
wO (.store none 3 cT)] [0,3])
(.seq (rg [mV 4 0,
cL 5 f_q02b [4,3],
mV 2 5] [2])
.ret)))
def a_q02i : AFun:=⟨1,[.t 2],P_q02i,false,false⟩
def d_q02i (C : Hd) (gl : GL) (v0 : AV) (h : Heap) (x : Esc) (K : KT) : Prop:=
 alK [.p (.bool false)] h fun t1 h2 y3=>
 wK (oStore none t1 (AB true) h2) fun t4 h5 y6=>
 C f_q02b [v0,t1] h5 fun t7 h8 y9=>
 K .ret ⟨[(2,t7)],h8,(y9 ++ (y6 ++ (y3 ++ x)))⟩
theorem e_q02i {C gl v0 h x K} : NW C gl a_q02i.body ⟨enter [v0],h,x⟩ K = d_q02i C gl v0 h x K:=by kernel_rfl
end Go.Am
end
