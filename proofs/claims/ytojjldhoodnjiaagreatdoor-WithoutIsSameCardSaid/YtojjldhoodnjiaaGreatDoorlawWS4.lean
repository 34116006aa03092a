/- Texts of the proof, laid together: Am22, Am23, Am24, Am25, Am26, Am27, Am28, Am29. -/
import Derived.Below
import Derived.ChangeSlices
import Derived.Carry
import Derived.Test.YtojjldhoodnjiaaGreatDoorlawWS3
set_option linter.all false
section
/- The abstract machine,part 22: results,calls; a call that ends well here ends well in the model. -/
set_option linter.unusedSimpArgs false
set_option linter.unusedVariables false
set_option maxHeartbeats 1000000
namespace Go.Am
variable {h h' : Heap} {μ μ' : Mu} {w w' : World} {P : Program} {M M' : Mem}
variable {gl : Nat → Option PV} {nt : Nat} {M0 : Mem} {h0 : Heap} {μ0 : Mu} {e : List (Nat × AV)} {x : Esc} {a : Act}
def z2Q (P : Program) : List ARes → List ResultVar → Bool
 | [],[]=>true
 | .t n :: r,.tmp m :: s=>n == m && z2Q P r s
 | .cell n sh :: r,.cell m t :: s=>n == m && shOf P t == some sh && z2Q P r s
 | _,_=>false
def resM (tmps : Array Value) : ResultVar → Sem Value
 | .tmp t=>pure (tmps.getD t undef)
 | .cell a t=>do loadVar t (← asAddr (tmps.getD a undef))
theorem zpy {s : St} (H : HeapRel s.h μ w) (he : ∀ t,RAV (imm s.h μ w) s.h μ (aget s.env t) (a.tmps.getD t undef)) : ∀ {rs : List ARes} {qs : List ResultVar} {vs : List AV},z2Q P rs qs = true → z1N s rs = some vs →
 ∃ us,(qs.mapM (resM a.tmps)).run P w = .ok us w ∧ vs.length = us.length ∧ ∀ (j : Nat) (y : AV) (v : Value),vs[j]? = some y → us[j]? = some v → RAV (imm s.h μ w) s.h μ y v
 | [],[],vs,_,hv=>by
  simp [z1N] at hv
  subst hv
  exact ⟨[],by simp,rfl,fun j y v h1 h2=>by simp at h1⟩
 | [],_ :: _,_,hc,_=>by simp [z2Q] at hc
 | .t n :: r,[],_,hc,_=>by simp [z2Q] at hc
 | .cell n sh :: r,[],_,hc,_=>by simp [z2Q] at hc
 | .t n :: r,.cell _ _ :: q,_,hc,_=>by simp [z2Q] at hc
 | .cell n sh :: r,.tmp _ :: q,_,hc,_=>by simp [z2Q] at hc
 | .t n :: r,.tmp m :: q,vs,hc,hv=>by
  simp only [z2Q,Bool.and_eq_true,beq_iff_eq] at hc
  obtain ⟨rfl,hc⟩:=hc
  simp only [z1N,ares] at hv
  simp only [Option.map_eq_some_iff] at hv
  obtain ⟨l,hl,rfl⟩:=hv
  obtain ⟨us,h1,h2,h3⟩:=zpy H he hc hl
  refine ⟨a.tmps.getD n undef :: us,by simp [resM,h1],by simp [h2],fun j y v hy hv=>?_⟩
  cases j with
  | zero=>simp at hy hv; subst hy; subst hv; simpa using he n
  | succ j=>exact h3 j y v (by simpa using hy) (by simpa using hv)
 | .cell n sh :: r,.cell m t :: q,vs,hc,hv=>by
  simp only [z2Q,Bool.and_eq_true,beq_iff_eq] at hc
  obtain ⟨⟨rfl,hs⟩,hc⟩:=hc
  simp only [z1N] at hv
  split at hv
  ·rename_i u hu
   simp only [Option.map_eq_some_iff] at hv
   obtain ⟨l,hl,rfl⟩:=hv
   obtain ⟨us,h1,h2,h3⟩:=zpy H he hc hl
   simp only [ares] at hu
   split at hu
   ·rename_i id off hr
    split at hu
    ·rename_i cs ho
     have hR:=he n
     rw [hr] at hR
     generalize hz : a.tmps.getD n undef = z at hR
     cases hR with | ref _ _ b k cs' ho' hm=>
     obtain ⟨b',c,hm',hb,hcell⟩:=H.obj _ _ _ ho hm
     injection hm' with hm'
     injection hm' with e1 e2
     subst e1
     obtain ⟨c1,c2⟩:=z5s (M:=imm s.h μ w) (h:=s.h) (μ:=μ) (f:=fun j=>(c[j]?).getD undef) hu (fun j x hx=>by obtain ⟨_,v,q1,q2⟩:=hcell j x hx; simpa [q1] using q2)
     have hload : (loadVar t ⟨b,off,none⟩).run P w = .ok (z4s sh fun j=>(c[off + j]?).getD undef) w:=by
      refine z8A hs (fun j hj=>?_)
      rw [z0w hb]
      have hlt : off + j < c.size:=by rw [hb.1]; have:=c1; omega
      simp [hlt]
     refine ⟨(z4s sh fun j=>(c[off + j]?).getD undef) :: us,?_,by simp [h2],fun j y v hy hv=>?_⟩
     ·simp only [List.mapM_cons,Sem.run_bind,resM,hz,asAddr]
      simp [hload,h1]
     ·cases j with
      | zero=>simp at hy hv; subst hy; subst hv; exact c2
      | succ j=>exact h3 j y v (by simpa using hy) (by simpa using hv)
    ·cases hu
   ·cases hu
  ·cases hv
theorem zhF {fn : Func} {s : St} (H : HeapRel s.h μ w) (he : ∀ t,RAV (imm s.h μ w) s.h μ (aget s.env t) (a.tmps.getD t undef)) {rs : List ARes} {vs : List AV} (hc : z2Q P rs fn.results.toList = true) (hv : z1N s rs = some vs) :
 ∃ u,(results fn a.tmps).run P w = .ok u w ∧ RAV (imm s.h μ w) s.h μ (z0U vs) u:=by
 obtain ⟨us,h1,h2,h3⟩:=zpy H he hc hv
 have hm : (fn.results.mapM (resM a.tmps)).run P w = .ok us.toArray w:=by
  rw [Array.mapM_eq_mapM_toList]
  simp [h1]
 refine ⟨if hz : us.toArray.size = 1 then us.toArray[0] else .tuple us.toArray,?_,?_⟩
 ·unfold results
  rw [Sem.run_bind]
  show (Sem.run P (fn.results.mapM (resM a.tmps)) w).andThen _ = _
  rw [hm]
  rfl
 ·match vs,us,h2,h3 with
  | [v],[u],_,h3=>exact h3 0 v u rfl rfl
  | [],[],_,h3=>exact .tup [] [] rfl (fun j y v h1 h2=>by simp at h1)
  | a :: b :: r,c :: d :: q,h2,h3=>exact .tup _ (c :: d :: q) h2 h3
theorem zfW (H : HeapRel h μ w) {n : Nat} (L : (imm h μ w).le (imm (h.take n) (μ.take n) w)) {id g off len : Nat} {x : Value} {sh : Sh} {xs : List PV} (R : RAV (imm h μ w) h μ (.own id g off len) x) (hr : rd h (.own id g off len) = some (sh,xs))
 (hn : n ≤ id) : RPV (imm (h.take n) (μ.take n) w) (.sl sh xs) x:=by
 obtain ⟨ys,fz,ho,hc1,hc2,hr⟩:=zpu hr
 obtain ⟨_,g2,a,cap,rfl,g3,g4⟩:=z1S H R ho hc1
 have hlen : xs.length = len:=by rw [hr]; exact z4G hc2
 by_cases hne : xs = []
 ·have hl0 : len = 0:=by rw [← hlen,hne]; rfl
  rw [hne,hl0]
  exact .nils _ _ _
 ·have hpos : 0 < xs.length:=List.length_pos_iff.2 hne
  obtain ⟨b,m,c,hm,ha,hB,hn1,hn2,hcells⟩:=g4 (by omega)
  have he : ∀ x ∈ xs,x.cells.length = z0a sh:=fun x hx=>z04 (g2 x (z4x (hr ▸ hx)))
  have hcell : ∀ (j : Nat) (y : PV),(xs.flatMap PV.cells)[j]? = some y → ∃ v,c[off * z0a sh + j]? = some v ∧ RPV (imm h μ w) y v:=by
   intro j y hy
   obtain ⟨x,h5,h6,h8,h7⟩:=z10 he hy
   rw [hr] at h5
   have h9:=zaV h5
   have h10:=hcells _ _ x y h9.2 h6
   rw [show (off + j / z0a sh) * z0a sh + j % z0a sh = off * z0a sh + j by rw [Nat.add_mul]; omega] at h10
   exact h10
  subst ha
  have key : RPV (imm (h.take n) (μ.take n) w) (.sl sh xs) (.slice (some ⟨b,off * z0a sh,none⟩) xs.length cap):=by
   refine .sl sh xs b (off * z0a sh) cap (fun j=>(c[off * z0a sh + j]?).getD undef) hne (by omega) (fun x hx=>g2 x (z4x (hr ▸ hx))) (fun j y hy=>?_) (fun j y hy=>?_)
   ·obtain ⟨v,h5,h6⟩:=hcell j y hy
    refine z1i.2 ⟨?_,by rw [z0w hB,h5]; simp [h5]⟩
    rintro ⟨i,n',h8,h9⟩
    rw [List.getElem?_take] at h8
    split at h8
    ·have:=H.distinct i id b n' m h8 hm
     omega
    ·cases h8
   ·obtain ⟨v,h5,h6⟩:=hcell j y hy
    have : (c[off * z0a sh + j]?).getD undef = v:=by simp [h5]
    simp only [this]
    exact h6.mono L
  rwa [hlen] at key
theorem zpt (H : HeapRel h μ w) {n : Nat} (L : (imm h μ w).le (imm (h.take n) (μ.take n) w)) : ∀ (cs : List AV) {vs : List PV},(∀ x ∈ cs,x.sc = true) → rd0s n h cs = some vs →
 vs.length = cs.length ∧ (∀ x ∈ vs,x.sc = true) ∧ ∀ (j : Nat) (y : AV) (z : PV) (v : Value),cs[j]? = some y → vs[j]? = some z → RAV (imm h μ w) h μ y v → RPV (imm (h.take n) (μ.take n) w) z v
 | [],vs,_,e=>by
  simp [rd0s] at e
  subst e
  exact ⟨rfl,by simp,fun j y z v hy=>by simp at hy⟩
 | a :: r,vs,hs,e=>by
  simp only [rd0s] at e
  split at e
  case h_2=>cases e
  rename_i x hx
  simp only [Option.map_eq_some_iff] at e
  obtain ⟨xs,h1,rfl⟩:=e
  obtain ⟨q1,q2,q3⟩:=zpt H L r (fun x hx=>hs x (by simp [hx])) h1
  have hsa:=hs a (by simp)
  have key : x.sc = true ∧ ∀ v,RAV (imm h μ w) h μ a v → RPV (imm (h.take n) (μ.take n) w) x v:=by
   unfold rd0 at hx
   split at hx
   ·injection hx with hx; subst hx; exact ⟨hsa,fun v R=>R.p_inv.mono L⟩
   ·injection hx with hx; subst hx; exact ⟨rfl,fun v R=>by obtain ⟨a,rfl⟩:=z66 R; exact .nils _ _ _⟩
   ·injection hx with hx; subst hx; exact ⟨rfl,fun v R=>by cases R; exact .nilp⟩
   ·split at hx
    ·rename_i hn
     simp only [Option.map_eq_some_iff] at hx
     obtain ⟨⟨sh,ys⟩,h1,rfl⟩:=hx
     exact ⟨rfl,fun v R=>zfW H L R h1 hn⟩
    ·cases hx
   ·cases hx
  refine ⟨by simp [q1],fun y hy=>?_,fun j y z v hy hz R=>?_⟩
  ·rcases List.mem_cons.1 hy with rfl | hy
   ·exact key.1
   ·exact q2 y hy
  ·cases j with
   | zero=>simp at hy hz; subst hy; subst hz; exact key.2 v R
   | succ j=>exact q3 j y z v (by simpa using hy) (by simpa using hz) R
theorem zjL (H : HeapRel h μ w) {n : Nat} (L : (imm h μ w).le (imm (h.take n) (μ.take n) w)) {t id g : Nat} {x : Value} {u : AV} (R : RAV (imm h μ w) h μ (.bt 3 t id g) x) (hr : rdA n h id g = some u)
 (hn : n ≤ id) : RAV (imm (h.take n) (μ.take n) w) (h.take n) (μ.take n) u x:=by
 unfold rdA at hr
 split at hr
 case h_2=>cases hr
 rename_i sh cs ho
 split at hr
 case isFalse=>cases hr
 rename_i hg
 simp only [Option.map_eq_some_iff] at hr
 obtain ⟨vs,h1,rfl⟩:=hr
 cases R with | bt3 _ _ _ a cap o m hl ho' hm hv=>
 rw [ho] at ho'
 injection ho' with ho'
 obtain ⟨hv1,hv2⟩:=hv sh cs ho'.symm
 have hO:=hv2 hg
 obtain ⟨k1,k2⟩:=H.obj id _ m ho hm
 obtain ⟨q1,q2,q3⟩:=zpt H L cs k1 h1
 obtain ⟨s1,s2,s3⟩:=z73 (sh:=sh) (g:=g) (vs:=vs) (by rw [q1,hg]) q2
 by_cases hz : g = 0
 ·subst hz
  have hxs : z1E sh 0 vs = []:=List.length_eq_zero_iff.1 s1
  rw [hxs]
  exact .p _ _ (.nils _ _ _)
 ·have hm2 : ∃ b k c,m = some (b,k) ∧ a = some ⟨b,0,none⟩ ∧ z0Q w b k c ∧ ∀ (j : Nat) (x : AV),cs[j]? = some x → ∃ v,c[j]? = some v ∧ RAV (imm h μ w) h μ x v:=by
   cases m with
   | none=>simp [z5l] at hO; omega
   | some m=>
    obtain ⟨b,k⟩:=m
    obtain ⟨c,c1,c2,c3⟩:=k2
    rcases hO with q | q
    ·omega
    ·exact ⟨b,k,c,rfl,by rw [q.1,Nat.zero_mul],c1,c3⟩
  obtain ⟨b,k,c,rfl,rfl,hB,hcells⟩:=hm2
  have he : ∀ x ∈ z1E sh g vs,x.cells.length = z0a sh:=fun x hx=>z04 (s2 x hx)
  have hcell : ∀ (j : Nat) (y : PV),((z1E sh g vs).flatMap PV.cells)[j]? = some y → ∃ v,c[j]? = some v ∧ RPV (imm (h.take n) (μ.take n) w) y v:=by
   intro j y hy
   obtain ⟨x,h5,h6,h8,h7⟩:=z10 he hy
   have h9:=s3 _ _ x y h5 h6
   have hj : j / z0a sh * z0a sh + j % z0a sh = j:=Nat.div_add_mod' j (z0a sh)
   rw [hj] at h9
   have hlt : j < cs.length:=by have:=z0f h9; omega
   obtain ⟨v,v1,v2⟩:=hcells j cs[j] (List.getElem?_eq_getElem hlt)
   exact ⟨v,v1,q3 j cs[j] y v (List.getElem?_eq_getElem hlt) h9 v2⟩
  have key : RPV (imm (h.take n) (μ.take n) w) (.sl sh (z1E sh g vs)) (.slice (some ⟨b,0,none⟩) (z1E sh g vs).length cap):=by
   refine .sl sh _ b 0 cap (fun j=>(c[j]?).getD undef) (fun e=>hz (by rw [← s1,e]; rfl)) (by rw [s1]; exact hl) s2 (fun j y hy=>?_) (fun j y hy=>?_)
   ·obtain ⟨v,h5,h6⟩:=hcell j y hy
    refine z1i.2 ⟨?_,by rw [z0w hB,Nat.zero_add,h5]; simp [h5]⟩
    rintro ⟨i,n',h8,h9⟩
    rw [List.getElem?_take] at h8
    split at h8
    ·have:=H.distinct i id b n' k h8 hm
     omega
    ·cases h8
   ·obtain ⟨v,h5,h6⟩:=hcell j y hy
    have : (c[j]?).getD undef = v:=by simp [h5]
    simp only [this]
    exact h6
  rw [s1] at key
  exact .p _ _ key
mutual
theorem zpw (H : HeapRel h μ w) {n : Nat} (L : (imm h μ w).le (imm (h.take n) (μ.take n) w)) : ∀ (v : AV) {u : AV} {x : Value},RAV (imm h μ w) h μ v x → reif n h v = some u → u.top ≤ n → RAV (imm (h.take n) (μ.take n) w) (h.take n) (μ.take n) u x
 | .own id g off len,u,x,R,hr,ht=>by
  simp only [reif] at hr
  split at hr
  ·rename_i hn
   simp only [Option.map_eq_some_iff] at hr
   obtain ⟨⟨sh,xs⟩,h1,rfl⟩:=hr
   exact .p _ _ (zfW H L R h1 hn)
  ·injection hr with hr; subst hr; exact R.take L ht
 | .sl0 sh,u,x,R,hr,ht=>by
  simp only [reif] at hr
  injection hr with hr
  subst hr
  obtain ⟨a,rfl⟩:=z66 R
  exact .p _ _ (.nils _ _ _)
 | .agg cs,u,x,R,hr,ht=>by
  simp only [reif,Option.map_eq_some_iff] at hr
  obtain ⟨us,h1,rfl⟩:=hr
  cases R with | agg _ xs hl hrr=>
  have htop : AV.tops us ≤ n:=by
   unfold mkA at ht
   split at ht
   ·rename_i ps hp
    have:=z4F hp
    subst this
    rw [zac]; omega
   ·simpa [AV.top] using ht
  obtain ⟨q1,q2⟩:=zaH H L cs hl hrr h1 htop
  exact z8f q1 q2
 | .tup cs,u,x,R,hr,ht=>by
  simp only [reif,Option.map_eq_some_iff] at hr
  obtain ⟨us,h1,rfl⟩:=hr
  cases R with | tup _ xs hl hrr=>
  obtain ⟨q1,q2⟩:=zaH H L cs hl hrr h1 (by simpa [AV.top] using ht)
  exact .tup us xs q1 q2
 | .p v,u,x,R,hr,ht=>by simp only [reif] at hr; injection hr with hr; subst hr; exact R.take L ht
 | .ref _ _,u,x,R,hr,ht=>by simp only [reif] at hr; injection hr with hr; subst hr; exact R.take L ht
 | .rref _ _ _ _,u,x,R,hr,ht=>by simp only [reif] at hr; injection hr with hr; subst hr; exact R.take L ht
 | .vp _,u,x,R,hr,ht=>by simp only [reif] at hr; injection hr with hr; subst hr; exact R.take L ht
 | .nilp,u,x,R,hr,ht=>by simp only [reif] at hr; injection hr with hr; subst hr; exact R.take L ht
 | .nilm,u,x,R,hr,ht=>by simp only [reif] at hr; injection hr with hr; subst hr; exact R.take L ht
 | .nilf,u,x,R,hr,ht=>by simp only [reif] at hr; injection hr with hr; subst hr; exact R.take L ht
 | .nili,u,x,R,hr,ht=>by simp only [reif] at hr; injection hr with hr; subst hr; exact R.take L ht
 | .ifc,u,x,R,hr,ht=>by simp only [reif] at hr; injection hr with hr; subst hr; exact R.take L ht
 | .mp _,u,x,R,hr,ht=>by simp only [reif] at hr; injection hr with hr; subst hr; exact R.take L ht
 | .it _,u,x,R,hr,ht=>by simp only [reif] at hr; injection hr with hr; subst hr; exact R.take L ht
 | .fn _ _,u,x,R,hr,ht=>by simp only [reif] at hr; injection hr with hr; subst hr; exact R.take L ht
 | .anyb,u,x,R,hr,ht=>by simp only [reif] at hr; injection hr with hr; subst hr; exact R.take L ht
 | .skp,u,x,R,hr,ht=>by simp only [reif] at hr; injection hr with hr; subst hr; exact R.take L ht
 | .und,u,x,R,hr,ht=>by simp only [reif] at hr; injection hr with hr; subst hr; exact R.take L ht
 | .anyp,u,x,R,hr,ht=>by simp only [reif] at hr; injection hr with hr; subst hr; exact R.take L ht
 | .bt k t id g,u,x,R,hr,ht=>by
  simp only [reif] at hr
  cases hk : (Nat.beq k 3 && decide (n ≤ id)) with
  | false=>rw [hk] at hr; injection hr with hr; subst hr; exact R.take L ht
  | true=>
   rw [hk] at hr
   simp only [Bool.and_eq_true,decide_eq_true_eq] at hk
   have hk1:=Nat.eq_of_beq_eq_true hk.1
   subst hk1
   exact zjL H L R hr hk.2
theorem zaH (H : HeapRel h μ w) {n : Nat} (L : (imm h μ w).le (imm (h.take n) (μ.take n) w)) : ∀ (cs : List AV) {us : List AV} {xs : List Value},cs.length = xs.length →
 (∀ (j : Nat) (y : AV) (v : Value),cs[j]? = some y → xs[j]? = some v → RAV (imm h μ w) h μ y v) → z6V n h cs = some us → AV.tops us ≤ n →
 us.length = xs.length ∧ ∀ (j : Nat) (y : AV) (v : Value),us[j]? = some y → xs[j]? = some v → RAV (imm (h.take n) (μ.take n) w) (h.take n) (μ.take n) y v
 | [],us,xs,hl,hr,e,ht=>by
  simp only [z6V] at e
  injection e with e
  subst e
  exact ⟨hl,fun j y v h1 _=>by simp at h1⟩
 | c :: r,us,xs,hl,hr,e,ht=>by
  cases xs with
  | nil=>simp at hl
  | cons x xs=>
   simp only [z6V] at e
   split at e
   ·rename_i u hu
    simp only [Option.map_eq_some_iff] at e
    obtain ⟨l,h1,rfl⟩:=e
    simp only [AV.tops] at ht
    have k1:=zpw H L c (hr 0 c x rfl rfl) hu (by omega)
    obtain ⟨k2,k3⟩:=zaH H L r (xs:=xs) (by simpa using hl) (fun j y v h1 h2=>hr (j + 1) y v (by simpa using h1) (by simpa using h2)) h1 (by omega)
    refine ⟨by simp [k2],fun j y v hy hv=>?_⟩
    cases j with
    | zero=>simp at hy hv; subst hy; subst hv; exact k1
    | succ j=>exact k3 j y v (by simpa using hy) (by simpa using hv)
   ·cases e
end
theorem z7e : ∀ (asv : List AV) {h : Heap} {vs : List Value} {asv' : List AV} {h1 : Heap},HeapRel h μ w → asv.length = vs.length →
 (∀ (j : Nat) (y : AV) (v : Value),asv[j]? = some y → vs[j]? = some v → RAV (imm h μ w) h μ y v) → z0s h asv = some (asv',h1) →
 z7m h μ w h1 ∧ asv'.length = vs.length ∧ ∀ (j : Nat) (y : AV) (v : Value),asv'[j]? = some y → vs[j]? = some v → RAV (imm h1 μ w) h1 μ y v
 | [],h,vs,asv',h1,H,hl,hr,e=>by
  simp only [z0s,Option.some.injEq,Prod.mk.injEq] at e
  obtain ⟨rfl,rfl⟩:=e
  exact ⟨⟨H,Evo.refl _ _ _,z0h.refl _ _⟩,hl,fun j y v hy=>by simp at hy⟩
 | a :: r,h,vs,asv',h1,H,hl,hr,e=>by
  cases vs with
  | nil=>simp at hl
  | cons x vs=>
   have step : ∀ {h2 : Heap} {u : AV},z7m h μ w h2 → RAV (imm h2 μ w) h2 μ u x → (z0s h2 r).map (fun y=>(u :: y.1,y.2)) = some (asv',h1) →
    z7m h μ w h1 ∧ asv'.length = (x :: vs).length ∧ ∀ (j : Nat) (y : AV) (v : Value),asv'[j]? = some y → (x :: vs)[j]? = some v → RAV (imm h1 μ w) h1 μ y v:=by
    intro h2 u ⟨a1,a2,a3⟩ hu e
    simp only [Option.map_eq_some_iff,Prod.mk.injEq] at e
    obtain ⟨⟨l,h3⟩,hp,rfl,rfl⟩:=e
    obtain ⟨⟨b1,b2,b3⟩,b4,b5⟩:=z7e r a1 (vs:=vs) (by simpa using hl) (fun j y v hy hv=>(hr (j + 1) y v (by simpa using hy) (by simpa using hv)).evo a2) hp
    refine ⟨⟨b1,a2.trans b2,by simpa using z0h.trans a3 b3⟩,by simp [b4],fun j y v hy hv=>?_⟩
    cases j with
    | zero=>simp at hy hv; subst hy; subst hv; exact hu.evo b2
    | succ j=>exact b5 j y v (by simpa using hy) (by simpa using hv)
   have h0:=hr 0 a x rfl rfl
   cases a
   case own id g off len=>
    simp only [z0s] at e
    split at e
    ·rename_i z hz
     obtain ⟨sh,xs⟩:=z
     obtain ⟨k1,k2,k3,k4⟩:=z8k H h0 hz
     exact step ⟨k1,k2,k3⟩ (.p _ _ k4) e
    ·cases e
   case agg cs=>
    simp only [z0s] at e
    split at e
    ·rename_i pv h2 hp
     obtain ⟨k1,k2⟩:=z6g _ H h0 hp
     exact step k1 (.p _ _ k2) e
    ·cases e
   case sl0 sh=>
    simp only [z0s] at e
    obtain ⟨b,rfl⟩:=z66 h0
    exact step ⟨H,Evo.refl _ _ _,z0h.refl _ _⟩ (.p _ _ (.nils _ _ _)) e
   all_goals
    simp only [z0s] at e
    exact step ⟨H,Evo.refl _ _ _,z0h.refl _ _⟩ h0 e
end Go.Am
end
section
/- The abstract machine,part 23: a call that ends well here ends well in the model. -/
set_option linter.unusedSimpArgs false
set_option linter.unusedVariables false
set_option maxHeartbeats 1000000
namespace Go.Am
variable {h h' : Heap} {μ μ' : Mu} {w w' : World} {P : Program} {M M' : Mem}
variable {gl : Nat → Option PV} {nt : Nat} {M0 : Mem} {h0 : Heap} {μ0 : Mu} {e : List (Nat × AV)} {x : Esc} {a : Act}
theorem zul {F : AFun} {fn : Func} {s : St} {K : Post} (R : Rel gl nt M0 h0 μ0 s.env s.h s.esc a w μ) (Hs : ∀ id,z8L h0 id ≤ h0.length) (hc : z2Q P F.results fn.results.toList = true) (H : fin F h0.length s K) :
 ∃ u,(results fn a.tmps).run P w = .ok u w ∧ ∃ v h' x μ',K v h' x ∧ RAV (imm h' μ' w) h' μ' v u ∧ HeapRel h' μ' w ∧ Evo M0 h0 μ0 (imm h' μ' w) h' μ' ∧ z0h h0 h' x:=by
 unfold fin at H
 split at H
 ·rename_i vs hvs
  obtain ⟨u,hu,hR⟩:=zhF R.heap R.env hc hvs
  refine ⟨u,hu,?_⟩
  split at H
  ·dsimp only at H
   split at H
   ·rename_i hcl
    have hn:=z7b s.esc.length s.esc (max h0.length (z0U vs).top)
    generalize z27 s.esc.length s.esc (max h0.length (z0U vs).top) = n at H hcl hn
    obtain ⟨q1,q2,q3,q4⟩:=zev Hs R.heap R.evo R.esc (by omega) hcl
    exact ⟨_,_,_,μ.take n,H,hR.take q2 (by omega),q1,q3,q4⟩
   ·exact ⟨_,_,_,μ,H,hR,R.heap,R.evo,R.esc⟩
  ·split at H
   ·rename_i v0 hv0
    dsimp only at H
    split at H
    ·rename_i hcl
     have hn:=z7b s.esc.length s.esc (max h0.length v0.top)
     generalize z27 s.esc.length s.esc (max h0.length v0.top) = n at H hcl hn
     split at H
     ·rename_i v hv
      obtain ⟨q1,q2,q3,q4⟩:=zev Hs R.heap R.evo R.esc (by omega) hcl
      exact ⟨_,_,_,μ.take n,H.2,zpw R.heap q2 _ hR hv H.1,q1,q3,q4⟩
     ·exact H.elim
    ·exact ⟨_,_,_,μ,H,hR,R.heap,R.evo,R.esc⟩
   ·exact H.elim
 ·exact H.elim
def zjX (P : Program) (f : Nat) (F : AFun) : Bool:=match P.funcs[f]? with
 | some fn=>match fn.body with
  | some c=>z0I P fn.ntmps F.body c && z2Q P F.results fn.results.toList && fn.name != "runtime.NumGoroutine"
  | none=>false
 | none=>false
theorem zma {f : Nat} {fn : Func} {c : Code} (hf : P.funcs[f]? = some fn) (hb : fn.body = some c) (hn : fn.name ≠ "runtime.NumGoroutine") (args : Array Value) (w : World) : (callFunc f args).run P w = .ok (.enter f args) w:=by
 unfold callFunc
 simp [hf,hb,hn]
theorem zlZ {asv : List AV} {t : Nat} : aget (enter asv) t = (asv[t]?).getD .und:=by
 have key : ∀ (l : List AV) (k t : Nat),aget ((l.zipIdx k).map fun y=>(y.2,y.1)) t = if t < k then .und else (l[t - k]?).getD .und:=by
  intro l
  induction l with
  | nil=>intro k t; simp [aget]
  | cons v r ih=>
   intro k t
   simp only [List.zipIdx_cons,List.map_cons,aget]
   by_cases hk : k = t
   ·subst hk; simp
   ·rw [if_neg hk,ih]
    by_cases h1 : t < k
    ·rw [if_pos h1,if_pos (by omega)]
    ·rw [if_neg h1,if_neg (by omega),show t - k = (t - (k + 1)) + 1 by omega]
     simp
 have:=key asv 0 t
 simpa [enter] using this
def ExtM (M : Mem) (w w' : World) : Mem:=⟨fun b o=>if b < w.heap.size then M.c b o else w'.cell? ⟨b,o,none⟩,fun _=>none,some (zed w'),fun _=>none⟩
def ExtOk (P : Program) (f : Nat) (vs : List PV) (r : PV) : Prop:=∀ (M : Mem) (w : World) (us : List Value),(∀ b o v,M.c b o = some v → w.cell? ⟨b,o,none⟩ = some v) → vs.length = us.length →
 (∀ (j : Nat) (y : PV) (v : Value),vs[j]? = some y → us[j]? = some v → RPV M y v) →
 ∃ x w',(callFunc f us.toArray).run P w = .ok (.value x) w' ∧ WExt w w' ∧ RPV (ExtM M w w') r x
structure Fits (P : Program) (X : Ctx) : Prop where
 mixed : P.follows .mixedOrders = true
 fn : ∀ f F,X.fn f = some F → zjX P f F = true
 ext : ∀ f vs r,X.fn f = none → X.ext f vs = some r → ExtOk P f vs r
 ex2 : ∀ f asv h v h' x,X.fn f = none → X.ex2 f asv h = some (v,h',x) → z1A P X.gl f asv h fun v1 h1 x1=>v1 = v ∧ h1 = h' ∧ x1 = x
theorem zhQ {X : Ctx} (HX : Fits P X) {f : Nat} {asv : List AV} {h : Heap} {K : Post} (H : Step X (z1A P X.gl) f asv h K) : z1A P X.gl f asv h K:=by
 intro μ w vs Hh Hg hl hr
 unfold Step at H
 split at H
 ·rename_i F hF
  have H:=zhq (z1A.mono P X.gl) H
  have hck:=HX.fn f F hF
  unfold zjX at hck
  split at hck
  ·rename_i fn hfn
   split at hck
   ·rename_i c hb
    simp only [Bool.and_eq_true,bne_iff_ne,ne_eq] at hck
    obtain ⟨⟨c1,c2⟩,c3⟩:=hck
    refine .inl ⟨fun w=>zma hfn hb c3 _ w,calls_of_wp hfn hb ?_⟩
    unfold z2J at H
    have body : ∀ {asv' : List AV} {h1 : Heap},z7m h μ w h1 → asv'.length = vs.length → (∀ (j : Nat) (y : AV) (v : Value),asv'[j]? = some y → vs[j]? = some v → RAV (imm h1 μ w) h1 μ y v) →
     (asv'.length = F.nparams ∧ AW (z1A P X.gl) X.gl F.body ⟨enter asv',h1,[]⟩ fun e s=>match e with
      | .exit _=>False
      | _=>fin F h.length s K) → Code.wp P c (bodyPost P fn fun
       | .returned r,w'=>∃ v h' x μ',K v h' x ∧ RAV (imm h' μ' w') h' μ' v r ∧ HeapRel h' μ' w' ∧ Evo (imm h μ w) h μ (imm h' μ' w') h' μ' ∧ z0h h h' x
       | _,_=>False) { tmps:=vs.toArray ++ Array.replicate (fn.ntmps - vs.toArray.size) undef,defers:=[] } w:=by
     intro asv' h1 ⟨a1,a2,a3⟩ hl' hr' ⟨_,hA⟩
     refine z0N HX.mixed (nt:=fn.ntmps) (M0:=imm h μ w) (h0:=h) (μ0:=μ) (μ:=μ) (fun _ _ _ _ h=>h) F.body c1 hA ⟨a1,fun t=>?_,Hg.mono a2.le,a2,a3,?_,rfl⟩ (fun ex s' a' w' μ' hk R'=>?_)
     ·dsimp only
      rw [zlZ]
      cases ht : asv'[t]? with
      | none=>exact .und _
      | some y=>
       have hlt : t < vs.length:=by rw [← hl']; exact z0f ht
       have : (vs.toArray ++ Array.replicate (fn.ntmps - vs.toArray.size) undef).getD t undef = vs[t]:=by
        simp [Array.getD,hlt]
        intro hh; omega
       rw [this]
       exact hr' t y _ ht (List.getElem?_eq_getElem hlt)
     ·simp; omega
     ·cases ex with
      | normal=>
       obtain ⟨u,q1,q2⟩:=zul R' (fun id=>zaT Hh id) c2 hk
       exact ⟨R'.defers,u,q1,q2⟩
      | exit i=>exact hk.elim
      | ret=>
       obtain ⟨u,q1,q2⟩:=zul R' (fun id=>zaT Hh id) c2 hk
       exact ⟨R'.defers,u,q1,q2⟩
    split at H
    ·rename_i asv' h1 hp
     split at hp
     ·injection hp with hp
      injection hp with e1 e2
      subst e1; subst e2
      exact body ⟨Hh,Evo.refl _ _ _,z0h.refl _ _⟩ hl hr H
     ·obtain ⟨q1,q2,q3⟩:=z7e asv Hh hl hr hp
      exact body q1 q2 q3 H
    ·exact H.elim
   ·cases hck
  ·cases hck
 ·rename_i hF
  split at H
  ·rename_i hx2
   exact z1A.mono P X.gl _ _ _ _ _ (fun v1 h1' x1 hv=>by obtain ⟨rfl,rfl,rfl⟩:=hv; exact H) (HX.ex2 f asv h _ _ _ hF hx2) μ w vs Hh Hg hl hr
  ·rename_i hx2
   split at H
   ·rename_i asv' h1 hp
    split at H
    ·rename_i ps hps
     split at H
     ·rename_i r hrr
      obtain ⟨q1,q2,q3⟩:=z7e asv Hh hl hr hp
      have hm:=z4F hps
      subst hm
      obtain ⟨u,w',k1,g1,g2⟩:=HX.ext f ps r hF hrr (imm h1 μ w) w vs (fun b o v hv=>(z1i.1 hv).2) (by simpa using q2) (fun j y v hy hv=>(q3 j (.p y) v (by simp [hy]) hv).p_inv)
      obtain ⟨n1,n2⟩:=q1.1.ext g1
      have L : (ExtM (imm h1 μ w) w w').le (imm h1 μ w'):=by
       refine ⟨fun b o v hv=>?_,fun b o hv=>?_,rfl,fun _ _ h=>by cases h⟩
       ·dsimp only [ExtM] at hv
        split at hv
        ·exact n2.le.c _ _ _ hv
        ·rename_i hb
         exact z1i.2 ⟨fun hO=>hb (zaA q1.1 hO),hv⟩
       ·dsimp only [ExtM] at hv
        cases hv
      exact .inr ⟨_,_,_,_,_,μ,k1,H,.p _ _ (g2.mono L),n1,q1.2.1.trans n2,q1.2.2⟩
     ·exact H.elim
    ·exact H.elim
   ·exact H.elim
theorem z9g {X : Ctx} (HX : Fits P X) {f : Nat} {asv : List AV} {h : Heap} {K : Post} (H : z0c X f asv h K) : z1A P X.gl f asv h K:=
 H (z1A P X.gl) (z1A.mono P X.gl) (fun f a h K hs=>zhQ HX hs)
end Go.Am
end
section
/- The abstract machine,part 24: rules by which its code is computed on what is only partly known. -/
set_option linter.unusedSimpArgs false
set_option linter.unusedVariables false
namespace Go.Am
def optK (o : Option (AV × Heap × Esc)) (f : AV → Heap → Esc → Prop) : Prop:=match o with
 | some y=>f y.1 y.2.1 y.2.2
 | none=>False
def zkg (v : AV) (A B : Prop) : Prop:=match v with
 | .p (.bool t)=>match t with
  | true=>A
  | false=>B
 | .anyb=>A ∧ B
 | _=>False
def z0l (v : AV) (A B : Prop) : Prop:=match v with
 | .p (.bool t)=>match t with
  | true=>A
  | false=>B
 | _=>False
def z2N (v : AV) (b : Bool) (A B : Prop) : Prop:=match v with
 | .p (.bool c)=>match c == b with
  | true=>A
  | false=>B
 | .skp=>B
 | _=>False
def regK (keep : Option (List Nat)) (K : Ex → St → Prop) (e : List (Nat × AV)) (h : Heap) (x : Esc) : Prop:=K .normal ⟨z0A keep e,h,x⟩
def seqK (C : Hd) (gl : Nat → Option PV) (b : ACode) (K : Ex → St → Prop) (e : Ex) (s : St) : Prop:=match e with
 | .normal=>AW C gl b s K
 | .exit i=>K (.exit i) s
 | .ret=>K .ret s
def z9d (id : Nat) (K : Ex → St → Prop) (e : Ex) (s : St) : Prop:=match e with
 | .normal=>K .normal s
 | .exit i=>if i = id then K .normal s else K (.exit i) s
 | .ret=>K .ret s
def finK (F : AFun) (b : Nat) (K : Post) (e : Ex) (s : St) : Prop:=match e with
 | .exit _=>False
 | _=>fin F b s K
def zdt (n : Nat) (x : Esc) (K : Ex → St → Prop) (e : Ex) (s : St) : Prop:=K e (z8W n x s)
def AO.plain : AO → Bool
 | .call _ _ | .callv _ _ | .mnext _ _=>false
 | .mv _=>true
 | .pick _ _ _=>true
 | .alloc _=>true
 | .box _=>true
 | .build _ _=>true
 | .bsl _ _ _ _ _=>true
 | .load _ _=>true
 | .store _ _ _=>true
 | .nilchk _=>true
 | .bin _ _ _=>true
 | .eqa _ _ _ _=>true
 | .isnil _ _ _=>true
 | .mkif _=>true
 | .un _ _=>true
 | .conv _ _=>true
 | .mkfn _ _=>true
 | .mkmap=>true
 | .mksl _ _ _ _=>true
 | .slice _ _ _ _ _=>true
 | .slstr _ _ _=>true
 | .faddr _ _ _=>true
 | .field _ _ _=>true
 | .iaddr _ _ _=>true
 | .iaddra _ _ _ _=>true
 | .idxa _ _ _ _=>true
 | .idxs _ _=>true
 | .look _ _ _ _ _=>true
 | .mupd _ _ _ _=>true
 | .ment _ _ _ _=>true
 | .estore _ _ _=>true
 | .mdel _ _ _=>true
 | .ext _ _=>true
 | .len _=>true
 | .lens _=>true
 | .lenm _=>true
 | .app _ _ _=>true
 | .copy _ _ _=>true
 | .uns _ _ _=>true
 | .clr _ _ _=>true
 | .mx _=>true
 | .mn _=>true
 | .mrange _=>true
 | .mentry _=>true
 | .new0 _=>true
variable {C : Hd} {gl : Nat → Option PV} {e : List (Nat × AV)} {h : Heap} {x : Esc} {K : Ex → St → Prop} {L : List (Nat × AV) → Heap → Esc → Prop} {s : St}
theorem zuF : AW C gl .skip s K = K .normal s:=(rfl)
theorem AW_ret : AW C gl .ret s K = K .ret s:=(rfl)
theorem zuE {i : Nat} : AW C gl (.exit i) s K = K (.exit i) s:=(rfl)
theorem AW_bad : AW C gl .bad s K = False:=(rfl)
theorem AW_reg {ops : List AOp} {keep : Option (List Nat)} : AW C gl (.reg ops keep) ⟨e,h,x⟩ K = AReg C gl ops e h x (regK keep K):=(rfl)
theorem AW_seq {a b : ACode} : AW C gl (.seq a b) s K = AW C gl a s (seqK C gl b K):=(rfl)
theorem zuC {c : Opd} {a b : ACode} : AW C gl (.cond c a b) ⟨e,h,x⟩ K = z0l (Opd.ev gl e c) (AW C gl a ⟨e,h,x⟩ K) (AW C gl b ⟨e,h,x⟩ K):=(rfl)
theorem zqq {i : Nat} {b : ACode} : AW C gl (.block i b) s K = AW C gl b s (z9d i K):=(rfl)
theorem zqs {b : ACode} : AW C gl (.scope b) ⟨e,h,x⟩ K = AW C gl b ⟨e,h,[]⟩ (zdt h.length x K):=(rfl)
theorem AW_pr {l : List Nat} {b : ACode} : AW C gl (.pr l b) ⟨e,h,x⟩ K = AW C gl b ⟨z0A (some l) e,h,x⟩ K:=(rfl)
theorem zwi {keep : Option (List Nat)} : regK keep K e h x = K .normal ⟨z0A keep e,h,x⟩:=(rfl)
theorem zep {b : ACode} : seqK C gl b K .normal s = AW C gl b s K:=(rfl)
theorem zpL {b : ACode} {i : Nat} : seqK C gl b K (.exit i) s = K (.exit i) s:=(rfl)
theorem zsl {b : ACode} : seqK C gl b K .ret s = K .ret s:=(rfl)
theorem zak {i : Nat} : z9d i K .normal s = K .normal s:=(rfl)
theorem zdK {i j : Nat} : z9d i K (.exit j) s = if j = i then K .normal s else K (.exit j) s:=(rfl)
theorem zhc {i : Nat} : z9d i K .ret s = K .ret s:=(rfl)
theorem zdv {n : Nat} {y : Esc} {ex : Ex} : zdt n y K ex s = K ex (z8W n y s):=(rfl)
def z0P (C : Hd) (gl : Nat → Option PV) (r : List AOp) (d : Option Nat) (e : List (Nat × AV)) (x : Esc) (L : List (Nat × AV) → Heap → Esc → Prop) (v : AV) (h' : Heap) (x' : Esc) : Prop:=AReg C gl r (put d v e) h' (x' ++ x) L
theorem zqD {r : List AOp} {d : Option Nat} {v : AV} {h' : Heap} {x' : Esc} : z0P C gl r d e x L v h' x' = AReg C gl r (put d v e) h' (x' ++ x) L:=(rfl)
theorem zdU {r : List AOp} {d : Option Nat} {v w : AV} {h' h'' : Heap} {x' x'' : Esc} (h1 : v = w) (h2 : h' = h'') (h3 : x' = x'') : z0P C gl r d e x L v h' x' = z0P C gl r d e x L w h'' x'':=by rw [h1,h2,h3]
theorem zqp : AReg C gl [] e h x L = L e h x:=(rfl)
theorem z0u {d : Option Nat} {op : AO} {r : List AOp} (hp : op.plain = true) : AReg C gl (⟨d,none,op⟩ :: r) e h x L = optK (aop op (Opd.ev gl e) h) (z0P C gl r d e x L):=by
 cases op <;> first | (cases hp; done) | (simp only [AReg,wanted,optK,z0P]; split <;> simp_all)
theorem zu9 {d : Option Nat} {r : List AOp} {q0 : Opd} : AReg C gl (⟨d,none,(.mv q0)⟩ :: r) e h x L = optK (aop (.mv q0) (Opd.ev gl e) h) (z0P C gl r d e x L):=z0u rfl
theorem zis {d : Option Nat} {r : List AOp} {q0 q1 q2 : Opd} : AReg C gl (⟨d,none,(.pick q0 q1 q2)⟩ :: r) e h x L = optK (aop (.pick q0 q1 q2) (Opd.ev gl e) h) (z0P C gl r d e x L):=z0u rfl
theorem zgG {d : Option Nat} {r : List AOp} {q0 : List AV} : AReg C gl (⟨d,none,(.alloc q0)⟩ :: r) e h x L = optK (aop (.alloc q0) (Opd.ev gl e) h) (z0P C gl r d e x L):=z0u rfl
theorem zqk {d : Option Nat} {r : List AOp} {q0 : Opd} : AReg C gl (⟨d,none,(.box q0)⟩ :: r) e h x L = optK (aop (.box q0) (Opd.ev gl e) h) (z0P C gl r d e x L):=z0u rfl
theorem zgH {d : Option Nat} {r : List AOp} {q0 : List AV} {q1 : List (Nat × Nat × Opd)} : AReg C gl (⟨d,none,(.build q0 q1)⟩ :: r) e h x L = optK (aop (.build q0 q1) (Opd.ev gl e) h) (z0P C gl r d e x L):=z0u rfl
theorem zql {d : Option Nat} {r : List AOp} {q0 : Bool} {q1 : Sh} {q2 : Nat} {q3 : PV} {q4 : List (Nat × Opd)} : AReg C gl (⟨d,none,(.bsl q0 q1 q2 q3 q4)⟩ :: r) e h x L = optK (aop (.bsl q0 q1 q2 q3 q4) (Opd.ev gl e) h) (z0P C gl r d e x L):=z0u rfl
theorem zij {d : Option Nat} {r : List AOp} {q0 : Sh} {q1 : Opd} : AReg C gl (⟨d,none,(.load q0 q1)⟩ :: r) e h x L = optK (aop (.load q0 q1) (Opd.ev gl e) h) (z0P C gl r d e x L):=z0u rfl
theorem zgQ {d : Option Nat} {r : List AOp} {q0 : Sh} {q1 q2 : Opd} : AReg C gl (⟨d,none,(.store q0 q1 q2)⟩ :: r) e h x L = optK (aop (.store q0 q1 q2) (Opd.ev gl e) h) (z0P C gl r d e x L):=z0u rfl
theorem zdD {d : Option Nat} {r : List AOp} {q0 : Opd} : AReg C gl (⟨d,none,(.nilchk q0)⟩ :: r) e h x L = optK (aop (.nilchk q0) (Opd.ev gl e) h) (z0P C gl r d e x L):=z0u rfl
theorem zqj {d : Option Nat} {r : List AOp} {q0 : BinOp} {q1 q2 : Opd} : AReg C gl (⟨d,none,(.bin q0 q1 q2)⟩ :: r) e h x L = optK (aop (.bin q0 q1 q2) (Opd.ev gl e) h) (z0P C gl r d e x L):=z0u rfl
theorem zqm {d : Option Nat} {r : List AOp} {q0 : List Nat} {q1 : Bool} {q2 q3 : Opd} : AReg C gl (⟨d,none,(.eqa q0 q1 q2 q3)⟩ :: r) e h x L = optK (aop (.eqa q0 q1 q2 q3) (Opd.ev gl e) h) (z0P C gl r d e x L):=z0u rfl
theorem zgM {d : Option Nat} {r : List AOp} {q0 : Nat} {q1 : Bool} {q2 : Opd} : AReg C gl (⟨d,none,(.isnil q0 q1 q2)⟩ :: r) e h x L = optK (aop (.isnil q0 q1 q2) (Opd.ev gl e) h) (z0P C gl r d e x L):=z0u rfl
theorem zio {d : Option Nat} {r : List AOp} {q0 : Opd} : AReg C gl (⟨d,none,(.mkif q0)⟩ :: r) e h x L = optK (aop (.mkif q0) (Opd.ev gl e) h) (z0P C gl r d e x L):=z0u rfl
theorem zuB {d : Option Nat} {r : List AOp} {q0 : UnOp} {q1 : Opd} : AReg C gl (⟨d,none,(.un q0 q1)⟩ :: r) e h x L = optK (aop (.un q0 q1) (Opd.ev gl e) h) (z0P C gl r d e x L):=z0u rfl
theorem zid {d : Option Nat} {r : List AOp} {q0 : Cv} {q1 : Opd} : AReg C gl (⟨d,none,(.conv q0 q1)⟩ :: r) e h x L = optK (aop (.conv q0 q1) (Opd.ev gl e) h) (z0P C gl r d e x L):=z0u rfl
theorem zin {d : Option Nat} {r : List AOp} {q0 : Nat} {q1 : List Opd} : AReg C gl (⟨d,none,(.mkfn q0 q1)⟩ :: r) e h x L = optK (aop (.mkfn q0 q1) (Opd.ev gl e) h) (z0P C gl r d e x L):=z0u rfl
theorem zgN {d : Option Nat} {r : List AOp}  : AReg C gl (⟨d,none,.mkmap⟩ :: r) e h x L = optK (aop .mkmap (Opd.ev gl e) h) (z0P C gl r d e x L):=z0u rfl
theorem zip {d : Option Nat} {r : List AOp} {q0 : Sh} {q1 : PV} {q2 q3 : Opd} : AReg C gl (⟨d,none,(.mksl q0 q1 q2 q3)⟩ :: r) e h x L = optK (aop (.mksl q0 q1 q2 q3) (Opd.ev gl e) h) (z0P C gl r d e x L):=z0u rfl
theorem zgO {d : Option Nat} {r : List AOp} {q0 : Sh} {q1 : Opd} {q2 q3 q4 : Option Opd} : AReg C gl (⟨d,none,(.slice q0 q1 q2 q3 q4)⟩ :: r) e h x L = optK (aop (.slice q0 q1 q2 q3 q4) (Opd.ev gl e) h) (z0P C gl r d e x L):=z0u rfl
theorem zgP {d : Option Nat} {r : List AOp} {q0 : Opd} {q1 q2 : Option Opd} : AReg C gl (⟨d,none,(.slstr q0 q1 q2)⟩ :: r) e h x L = optK (aop (.slstr q0 q1 q2) (Opd.ev gl e) h) (z0P C gl r d e x L):=z0u rfl
theorem zgJ {d : Option Nat} {r : List AOp} {q0 : Nat} {q1 : Sh} {q2 : Opd} : AReg C gl (⟨d,none,(.faddr q0 q1 q2)⟩ :: r) e h x L = optK (aop (.faddr q0 q1 q2) (Opd.ev gl e) h) (z0P C gl r d e x L):=z0u rfl
theorem zgK {d : Option Nat} {r : List AOp} {q0 : Nat} {q1 : Sh} {q2 : Opd} : AReg C gl (⟨d,none,(.field q0 q1 q2)⟩ :: r) e h x L = optK (aop (.field q0 q1 q2) (Opd.ev gl e) h) (z0P C gl r d e x L):=z0u rfl
theorem zgL {d : Option Nat} {r : List AOp} {q0 : Sh} {q1 q2 : Opd} : AReg C gl (⟨d,none,(.iaddr q0 q1 q2)⟩ :: r) e h x L = optK (aop (.iaddr q0 q1 q2) (Opd.ev gl e) h) (z0P C gl r d e x L):=z0u rfl
theorem zdA {d : Option Nat} {r : List AOp} {q0 : Nat} {q1 : Sh} {q2 q3 : Opd} : AReg C gl (⟨d,none,(.iaddra q0 q1 q2 q3)⟩ :: r) e h x L = optK (aop (.iaddra q0 q1 q2 q3) (Opd.ev gl e) h) (z0P C gl r d e x L):=z0u rfl
theorem zif {d : Option Nat} {r : List AOp} {q0 : Nat} {q1 : Sh} {q2 q3 : Opd} : AReg C gl (⟨d,none,(.idxa q0 q1 q2 q3)⟩ :: r) e h x L = optK (aop (.idxa q0 q1 q2 q3) (Opd.ev gl e) h) (z0P C gl r d e x L):=z0u rfl
theorem zig {d : Option Nat} {r : List AOp} {q0 q1 : Opd} : AReg C gl (⟨d,none,(.idxs q0 q1)⟩ :: r) e h x L = optK (aop (.idxs q0 q1) (Opd.ev gl e) h) (z0P C gl r d e x L):=z0u rfl
theorem zik {d : Option Nat} {r : List AOp} {kk : Sh × List Nat} {q0 : Bool} {q1 : AV} {q2 q3 : Opd} : AReg C gl (⟨d,none,(.look kk q0 q1 q2 q3)⟩ :: r) e h x L = optK (aop (.look kk q0 q1 q2 q3) (Opd.ev gl e) h) (z0P C gl r d e x L):=z0u rfl
theorem ziq {d : Option Nat} {r : List AOp} {kk : Sh × List Nat} {q0 q1 q2 : Opd} : AReg C gl (⟨d,none,(.mupd kk q0 q1 q2)⟩ :: r) e h x L = optK (aop (.mupd kk q0 q1 q2) (Opd.ev gl e) h) (z0P C gl r d e x L):=z0u rfl
theorem zim {d : Option Nat} {r : List AOp} {kk : Sh × List Nat} {q0 : AV} {q1 q2 : Opd} : AReg C gl (⟨d,none,(.ment kk q0 q1 q2)⟩ :: r) e h x L = optK (aop (.ment kk q0 q1 q2) (Opd.ev gl e) h) (z0P C gl r d e x L):=z0u rfl
theorem zd9 {d : Option Nat} {r : List AOp} {q0 q1 q2 : Opd} : AReg C gl (⟨d,none,(.estore q0 q1 q2)⟩ :: r) e h x L = optK (aop (.estore q0 q1 q2) (Opd.ev gl e) h) (z0P C gl r d e x L):=z0u rfl
theorem zil {d : Option Nat} {r : List AOp} {kk : Sh × List Nat} {q0 q1 : Opd} : AReg C gl (⟨d,none,(.mdel kk q0 q1)⟩ :: r) e h x L = optK (aop (.mdel kk q0 q1) (Opd.ev gl e) h) (z0P C gl r d e x L):=z0u rfl
theorem zqn {d : Option Nat} {r : List AOp} {q0 : Opd} {q1 : Nat} : AReg C gl (⟨d,none,(.ext q0 q1)⟩ :: r) e h x L = optK (aop (.ext q0 q1) (Opd.ev gl e) h) (z0P C gl r d e x L):=z0u rfl
theorem zqo {d : Option Nat} {r : List AOp} {q0 : Opd} : AReg C gl (⟨d,none,(.len q0)⟩ :: r) e h x L = optK (aop (.len q0) (Opd.ev gl e) h) (z0P C gl r d e x L):=z0u rfl
theorem zii {d : Option Nat} {r : List AOp} {q0 : Opd} : AReg C gl (⟨d,none,(.lens q0)⟩ :: r) e h x L = optK (aop (.lens q0) (Opd.ev gl e) h) (z0P C gl r d e x L):=z0u rfl
theorem zih {d : Option Nat} {r : List AOp} {q0 : Opd} : AReg C gl (⟨d,none,(.lenm q0)⟩ :: r) e h x L = optK (aop (.lenm q0) (Opd.ev gl e) h) (z0P C gl r d e x L):=z0u rfl
theorem zqi {d : Option Nat} {r : List AOp} {q0 : Sh} {q1 q2 : Opd} : AReg C gl (⟨d,none,(.app q0 q1 q2)⟩ :: r) e h x L = optK (aop (.app q0 q1 q2) (Opd.ev gl e) h) (z0P C gl r d e x L):=z0u rfl
theorem zie {d : Option Nat} {r : List AOp} {q0 : Sh} {q1 q2 : Opd} : AReg C gl (⟨d,none,(.copy q0 q1 q2)⟩ :: r) e h x L = optK (aop (.copy q0 q1 q2) (Opd.ev gl e) h) (z0P C gl r d e x L):=z0u rfl
theorem zuA {d : Option Nat} {r : List AOp} {q0 : List Opd} : AReg C gl (⟨d,none,(.mx q0)⟩ :: r) e h x L = optK (aop (.mx q0) (Opd.ev gl e) h) (z0P C gl r d e x L):=z0u rfl
theorem zu8 {d : Option Nat} {r : List AOp} {q0 : List Opd} : AReg C gl (⟨d,none,(.mn q0)⟩ :: r) e h x L = optK (aop (.mn q0) (Opd.ev gl e) h) (z0P C gl r d e x L):=z0u rfl
theorem zdC {d : Option Nat} {r : List AOp} {q0 : Opd} : AReg C gl (⟨d,none,(.mrange q0)⟩ :: r) e h x L = optK (aop (.mrange q0) (Opd.ev gl e) h) (z0P C gl r d e x L):=z0u rfl
theorem zdB {d : Option Nat} {r : List AOp} {q0 : Opd} : AReg C gl (⟨d,none,(.mentry q0)⟩ :: r) e h x L = optK (aop (.mentry q0) (Opd.ev gl e) h) (z0P C gl r d e x L):=z0u rfl
theorem zir {d : Option Nat} {r : List AOp} {q0 : Sh} : AReg C gl (⟨d,none,(.new0 q0)⟩ :: r) e h x L = optK (aop (.new0 q0) (Opd.ev gl e) h) (z0P C gl r d e x L):=z0u rfl
theorem zaY {d : Option Nat} {f : Nat} {args : List Opd} {r : List AOp} : AReg C gl (⟨d,none,.call f args⟩ :: r) e h x L = C f (args.map (Opd.ev gl e)) h (z0P C gl r d e x L):=(rfl)
theorem zit {d : Option Nat} {g : Option (Nat × Bool)} {op : AO} {r : List AOp} (hw : wanted g e = some true) : AReg C gl (⟨d,g,op⟩ :: r) e h x L = AReg C gl (⟨d,none,op⟩ :: r) e h x L:=by
 rw [AReg,AReg]
 have h2 : wanted none e = some true:=(rfl)
 simp only [hw,h2]
theorem z8Z {d : Option Nat} {g : Option (Nat × Bool)} {op : AO} {r : List AOp} (hw : wanted g e = some false) : AReg C gl (⟨d,g,op⟩ :: r) e h x L = AReg C gl r (put d .skp e) h x L:=by
 rw [AReg]
 simp only [hw]
theorem zgR {d : Option Nat} {g : Option (Nat × Bool)} {op : AO} {r : List AOp} (hw : wanted g e = none) : AReg C gl (⟨d,g,op⟩ :: r) e h x L = False:=by
 rw [AReg]
 simp only [hw]
theorem z9a {d : Option Nat} {t : Nat} {b : Bool} {op : AO} {r : List AOp} : AReg C gl (⟨d,some (t,b),op⟩ :: r) e h x L = z2N (aget e t) b (AReg C gl (⟨d,none,op⟩ :: r) e h x L) (AReg C gl r (put d .skp e) h x L):=by
 have key : ∀ v,aget e t = v → AReg C gl (⟨d,some (t,b),op⟩ :: r) e h x L = z2N v b (AReg C gl (⟨d,none,op⟩ :: r) e h x L) (AReg C gl r (put d .skp e) h x L):=by
  intro v hv
  unfold z2N
  split
  ·rename_i c
   split
   ·rename_i hcb; exact zit (by simp [wanted,hv,hcb])
   ·rename_i hcb; exact z8Z (by simp [wanted,hv,hcb])
  ·exact z8Z (by simp [wanted,hv])
  ·rename_i h1 h2
   refine zgR ?_
   simp only [wanted,hv]
 exact key _ rfl
theorem zn0 {v : AV} {h : Heap} {x : Esc} {f : AV → Heap → Esc → Prop} : optK (some (v,h,x)) f = f v h x:=(rfl)
theorem znz {f : AV → Heap → Esc → Prop} : optK none f = False:=(rfl)
theorem zrB {p : Prop} [Decidable p] {a b : Option (AV × Heap × Esc)} {f : AV → Heap → Esc → Prop} : optK (if p then a else b) f = if p then optK a f else optK b f:=by split <;> rfl
theorem zcW {α : Type} {p : Prop} [Decidable p] {a b : Option α} {g : α → AV × Heap × Esc} {f : AV → Heap → Esc → Prop} : optK (Option.map g (if p then a else b)) f = if p then optK (a.map g) f else optK (b.map g) f:=by split <;> rfl
theorem z9m {t : Bool} {A B : Prop} : z0l (.p (.bool t)) A B = if t = true then A else B:=by cases t <;> simp [z0l]
theorem z9n {A B : Prop} : z0l (.p (.bool true)) A B = A:=(rfl)
theorem z79 {A B : Prop} : z0l (.p (.bool false)) A B = B:=(rfl)
theorem zd4 {b : Bool} {A B : Prop} : z2N .skp b A B = B:=(rfl)
theorem zhV {t : Bool} {A B : Prop} : z2N (.p (.bool t)) true A B = if t = true then A else B:=by cases t <;> simp [z2N]
theorem ze0 {t : Bool} {A B : Prop} : z2N (.p (.bool t)) false A B = if t = true then B else A:=by cases t <;> simp [z2N]
theorem zdS {v v' : AV} {A B : Prop} (hv : v = v') : z0l v A B = z0l v' A B:=by rw [hv]
theorem zez {v v' : AV} {b : Bool} {A B : Prop} (hv : v = v') : z2N v b A B = z2N v' b A B:=by rw [hv]
theorem zh6 {o o' : Option (AV × Heap × Esc)} {f : AV → Heap → Esc → Prop} (ho : o = o') : optK o f = optK o' f:=by rw [ho]
theorem zgI {ops : List AOp} {e e' : List (Nat × AV)} {h h' : Heap} {x x' : Esc} (he : e = e') (hh : h = h') (hx : x = x') : AReg C gl ops e h x L = AReg C gl ops e' h' x' L:=by rw [he,hh,hx]
theorem zqr {c : ACode} {s s' : St} (hs : s = s') : AW C gl c s K = AW C gl c s' K:=by rw [hs]
theorem zhD {keep : Option (List Nat)} {e e' : List (Nat × AV)} {h h' : Heap} {x x' : Esc} (he : e = e') (hh : h = h') (hx : x = x') : regK keep K e h x = regK keep K e' h' x':=by rw [he,hh,hx]
theorem zhL {b : ACode} {ex ex' : Ex} {s s' : St} (he : ex = ex') (hs : s = s') : seqK C gl b K ex s = seqK C gl b K ex' s':=by rw [he,hs]
theorem zbv {i : Nat} {ex ex' : Ex} {s s' : St} (he : ex = ex') (hs : s = s') : z9d i K ex s = z9d i K ex' s':=by rw [he,hs]
theorem zdu {n : Nat} {y : Esc} {ex ex' : Ex} {s s' : St} (he : ex = ex') (hs : s = s') : zdt n y K ex s = zdt n y K ex' s':=by rw [he,hs]
theorem ziZ {X : Ctx} {f : Nat} {F : AFun} {a : List AV} {h : Heap} {P : Post} (hf : X.fn f = some F) (hd : F.isDet = false) : z0c X f a h P = z2J (z0c X) X.gl F a h P:=by
 rw [propext zaW]
 unfold Step
 rw [hf]
 simp only [z5c,hd]
theorem zqx {X : Ctx} {f : Nat} {F : AFun} {a : List AV} {h : Heap} {P : Post} (hf : X.fn f = some F) (hd : F.isDet = true) : z0c X f a h P = ∃ v h' x,P v h' x ∧ z2J (z0c X) X.gl F a h fun v1 h1 x1=>v1 = v ∧ h1 = h' ∧ x1 = x:=by
 rw [propext zaW]
 unfold Step
 rw [hf]
 simp only [z5c,hd]
theorem zmg {A B : AV → Heap → Esc → Prop} (h : ∀ v h' x,A v h' x = B v h' x) : (∃ v h' x,A v h' x) = ∃ v h' x,B v h' x:=by
 simp only [h]
theorem zbq {F : AFun} {a asv : List AV} {h h1 : Heap} {P : Post} (hr : F.byref = false) (hp : z0s h a = some (asv,h1)) (hl : asv.length = F.nparams) :
 z2J C gl F a h P = AW C gl F.body ⟨enter asv,h1,[]⟩ (finK F h.length P):=by
 unfold z2J
 rw [hr]
 simp only [Bool.false_eq_true,if_false,hp,hl,true_and]
 congr 1
theorem zjD {F : AFun} {asv : List AV} {h : Heap} {P : Post} (hr : F.byref = true) (hl : asv.length = F.nparams) :
 z2J C gl F asv h P = AW C gl F.body ⟨enter asv,h,[]⟩ (finK F h.length P):=by
 unfold z2J
 rw [hr]
 simp only [if_true,hl,true_and]
 congr 1
def doK (C : Hd) (gl : Nat → Option PV) (o : AOp) (e : List (Nat × AV)) (h : Heap) (R : AV → Heap → Esc → Prop) : Prop:=∃ v h' y,ADo C gl o e h v h' y ∧ R v h' y
def z1p (C : Hd) (f : Nat) (a : List AV) (h : Heap) (R : AV → Heap → Esc → Prop) : Prop:=∃ v h' y,C f a h (fun v1 h1 x1=>v1 = v ∧ h1 = h' ∧ x1 = y) ∧ R v h' y
def zqZ (C : Hd) (gl : Nat → Option PV) (o : DOp) (r : List DOp) (dn : Done) (hs : List Heap) (e : List (Nat × AV)) (h : Heap) (x : Esc) (L : List (Nat × AV) → Heap → Esc → Prop) (v : AV) (h' : Heap) (y : Esc) : Prop:=
 (o.eff = false → h' = h ∧ y = []) ∧ (∀ k ∈ o.early,∃ g,hs[k]? = some g ∧ ADo C gl o.op (z0A (some o.rd) e) g v g []) ∧
  (∀ j ∈ o.again,∃ q,dn[j]? = some q ∧ ADo C gl q.1 q.2.1 h' q.2.2 h' []) ∧ z2f C gl r (dn ++ [(o.op,z0A (some o.rd) e,v)]) (hs ++ [h]) (put o.op.dst v e) h' (y ++ x) L
theorem zuD {ds : List DOp} {keep : Option (List Nat)} : AW C gl (.draw ds keep) ⟨e,h,x⟩ K = z2f C gl ds [] [] e h x (regK keep K):=(rfl)
theorem zib {dn : Done} {hs : List Heap} : z2f C gl [] dn hs e h x L = L e h x:=(rfl)
theorem z8X {o : DOp} {r : List DOp} {dn : Done} {hs : List Heap} : z2f C gl (o :: r) dn hs e h x L = doK C gl o.op (z0A (some o.rd) e) h (zqZ C gl o r dn hs e h x L):=(rfl)
variable {R : AV → Heap → Esc → Prop}
theorem ex3 {v0 : AV} {h0 : Heap} {y0 : Esc} : (∃ v h y,(v = v0 ∧ h = h0 ∧ y = y0) ∧ R v h y) = R v0 h0 y0:=
 propext ⟨fun ⟨_,_,_,⟨h1,h2,h3⟩,r⟩=>by subst h1; subst h2; subst h3; exact r,fun r=>⟨_,_,_,⟨rfl,rfl,rfl⟩,r⟩⟩
theorem ex3' {v0 : AV} {h0 : Heap} {y0 : Esc} : (∃ v h y,(v0 = v ∧ h0 = h ∧ y0 = y) ∧ R v h y) = R v0 h0 y0:=
 propext ⟨fun ⟨_,_,_,⟨h1,h2,h3⟩,r⟩=>by subst h1; subst h2; subst h3; exact r,fun r=>⟨_,_,_,⟨rfl,rfl,rfl⟩,r⟩⟩
theorem z09 {d : Option Nat} {op : AO} (hp : op.plain = true) : doK C gl ⟨d,none,op⟩ e h R = optK (aop op (Opd.ev gl e) h) R:=by
 have key : ∀ o : Option (AV × Heap × Esc),(∃ v h' y,o = some (v,h',y) ∧ R v h' y) = optK o R:=by
  intro o
  cases o with
  | none=>simp [optK]
  | some z=>obtain ⟨v,h',y⟩:=z; simp only [Option.some.injEq,Prod.mk.injEq,ex3']; rfl
 rw [← key]
 unfold doK ADo
 cases op <;> first | (cases hp; done) | rfl
theorem zfw {d : Option Nat} {f : Nat} {args : List Opd} : doK C gl ⟨d,none,.call f args⟩ e h R = z1p C f (args.map (Opd.ev gl e)) h R:=(rfl)
theorem zc7 {d : Option Nat} {t : Nat} {b : Bool} {op : AO} : doK C gl ⟨d,some (t,b),op⟩ e h R = z2N (aget e t) b (doK C gl ⟨d,none,op⟩ e h R) (R .skp h []):=by
 have h2 : wanted none e = some true:=(rfl)
 have key : ∀ v,aget e t = v → doK C gl ⟨d,some (t,b),op⟩ e h R = z2N v b (doK C gl ⟨d,none,op⟩ e h R) (R .skp h []):=by
  intro v hv
  unfold z2N
  split
  ·rename_i c
   split
   ·rename_i hcb
    have hw : wanted (some (t,b)) e = some true:=by simp [wanted,hv,hcb]
    unfold doK ADo
    simp only [hw,h2]
   ·rename_i hcb
    have hw : wanted (some (t,b)) e = some false:=by simp [wanted,hv,hcb]
    unfold doK ADo
    simp only [hw,ex3]
  ·have hw : wanted (some (t,b)) e = some false:=by simp [wanted,hv]
   unfold doK ADo
   simp only [hw,ex3]
  ·rename_i h3 h4
   have hw : wanted (some (t,b)) e = none:=by
    simp only [wanted,hv]
   unfold doK ADo
   simp only [hw]
   simp
 exact key _ rfl
theorem doK_mv {d : Option Nat} {q0 : Opd} : doK C gl ⟨d,none,(.mv q0)⟩ e h R = optK (aop (.mv q0) (Opd.ev gl e) h) R:=z09 rfl
theorem zqY {d : Option Nat} {q0 q1 q2 : Opd} : doK C gl ⟨d,none,(.pick q0 q1 q2)⟩ e h R = optK (aop (.pick q0 q1 q2) (Opd.ev gl e) h) R:=z09 rfl
theorem zk6 {d : Option Nat} {q0 : List AV} : doK C gl ⟨d,none,(.alloc q0)⟩ e h R = optK (aop (.alloc q0) (Opd.ev gl e) h) R:=z09 rfl
theorem zvs {d : Option Nat} {q0 : Opd} : doK C gl ⟨d,none,(.box q0)⟩ e h R = optK (aop (.box q0) (Opd.ev gl e) h) R:=z09 rfl
theorem zk7 {d : Option Nat} {q0 : List AV} {q1 : List (Nat × Nat × Opd)} : doK C gl ⟨d,none,(.build q0 q1)⟩ e h R = optK (aop (.build q0 q1) (Opd.ev gl e) h) R:=z09 rfl
theorem zvt {d : Option Nat} {q0 : Bool} {q1 : Sh} {q2 : Nat} {q3 : PV} {q4 : List (Nat × Opd)} : doK C gl ⟨d,none,(.bsl q0 q1 q2 q3 q4)⟩ e h R = optK (aop (.bsl q0 q1 q2 q3 q4) (Opd.ev gl e) h) R:=z09 rfl
theorem zqP {d : Option Nat} {q0 : Sh} {q1 : Opd} : doK C gl ⟨d,none,(.load q0 q1)⟩ e h R = optK (aop (.load q0 q1) (Opd.ev gl e) h) R:=z09 rfl
theorem zkH {d : Option Nat} {q0 : Sh} {q1 q2 : Opd} : doK C gl ⟨d,none,(.store q0 q1 q2)⟩ e h R = optK (aop (.store q0 q1 q2) (Opd.ev gl e) h) R:=z09 rfl
theorem zhl {d : Option Nat} {q0 : Opd} : doK C gl ⟨d,none,(.nilchk q0)⟩ e h R = optK (aop (.nilchk q0) (Opd.ev gl e) h) R:=z09 rfl
theorem zvr {d : Option Nat} {q0 : BinOp} {q1 q2 : Opd} : doK C gl ⟨d,none,(.bin q0 q1 q2)⟩ e h R = optK (aop (.bin q0 q1 q2) (Opd.ev gl e) h) R:=z09 rfl
theorem zvu {d : Option Nat} {q0 : List Nat} {q1 : Bool} {q2 q3 : Opd} : doK C gl ⟨d,none,(.eqa q0 q1 q2 q3)⟩ e h R = optK (aop (.eqa q0 q1 q2 q3) (Opd.ev gl e) h) R:=z09 rfl
theorem zkC {d : Option Nat} {q0 : Nat} {q1 : Bool} {q2 : Opd} : doK C gl ⟨d,none,(.isnil q0 q1 q2)⟩ e h R = optK (aop (.isnil q0 q1 q2) (Opd.ev gl e) h) R:=z09 rfl
theorem zqU {d : Option Nat} {q0 : Opd} : doK C gl ⟨d,none,(.mkif q0)⟩ e h R = optK (aop (.mkif q0) (Opd.ev gl e) h) R:=z09 rfl
theorem doK_un {d : Option Nat} {q0 : UnOp} {q1 : Opd} : doK C gl ⟨d,none,(.un q0 q1)⟩ e h R = optK (aop (.un q0 q1) (Opd.ev gl e) h) R:=z09 rfl
theorem zqJ {d : Option Nat} {q0 : Cv} {q1 : Opd} : doK C gl ⟨d,none,(.conv q0 q1)⟩ e h R = optK (aop (.conv q0 q1) (Opd.ev gl e) h) R:=z09 rfl
theorem zqT {d : Option Nat} {q0 : Nat} {q1 : List Opd} : doK C gl ⟨d,none,(.mkfn q0 q1)⟩ e h R = optK (aop (.mkfn q0 q1) (Opd.ev gl e) h) R:=z09 rfl
theorem zkD {d : Option Nat}  : doK C gl ⟨d,none,.mkmap⟩ e h R = optK (aop .mkmap (Opd.ev gl e) h) R:=z09 rfl
theorem zqV {d : Option Nat} {q0 : Sh} {q1 : PV} {q2 q3 : Opd} : doK C gl ⟨d,none,(.mksl q0 q1 q2 q3)⟩ e h R = optK (aop (.mksl q0 q1 q2 q3) (Opd.ev gl e) h) R:=z09 rfl
theorem zkE {d : Option Nat} {q0 : Sh} {q1 : Opd} {q2 q3 q4 : Option Opd} : doK C gl ⟨d,none,(.slice q0 q1 q2 q3 q4)⟩ e h R = optK (aop (.slice q0 q1 q2 q3 q4) (Opd.ev gl e) h) R:=z09 rfl
theorem zkF {d : Option Nat} {q0 : Opd} {q1 q2 : Option Opd} : doK C gl ⟨d,none,(.slstr q0 q1 q2)⟩ e h R = optK (aop (.slstr q0 q1 q2) (Opd.ev gl e) h) R:=z09 rfl
theorem zk9 {d : Option Nat} {q0 : Nat} {q1 : Sh} {q2 : Opd} : doK C gl ⟨d,none,(.faddr q0 q1 q2)⟩ e h R = optK (aop (.faddr q0 q1 q2) (Opd.ev gl e) h) R:=z09 rfl
theorem zkA {d : Option Nat} {q0 : Nat} {q1 : Sh} {q2 : Opd} : doK C gl ⟨d,none,(.field q0 q1 q2)⟩ e h R = optK (aop (.field q0 q1 q2) (Opd.ev gl e) h) R:=z09 rfl
theorem zkB {d : Option Nat} {q0 : Sh} {q1 q2 : Opd} : doK C gl ⟨d,none,(.iaddr q0 q1 q2)⟩ e h R = optK (aop (.iaddr q0 q1 q2) (Opd.ev gl e) h) R:=z09 rfl
theorem zhi {d : Option Nat} {q0 : Nat} {q1 : Sh} {q2 q3 : Opd} : doK C gl ⟨d,none,(.iaddra q0 q1 q2 q3)⟩ e h R = optK (aop (.iaddra q0 q1 q2 q3) (Opd.ev gl e) h) R:=z09 rfl
theorem zqL {d : Option Nat} {q0 : Nat} {q1 : Sh} {q2 q3 : Opd} : doK C gl ⟨d,none,(.idxa q0 q1 q2 q3)⟩ e h R = optK (aop (.idxa q0 q1 q2 q3) (Opd.ev gl e) h) R:=z09 rfl
theorem zqM {d : Option Nat} {q0 q1 : Opd} : doK C gl ⟨d,none,(.idxs q0 q1)⟩ e h R = optK (aop (.idxs q0 q1) (Opd.ev gl e) h) R:=z09 rfl
theorem zqQ {d : Option Nat} {kk : Sh × List Nat} {q0 : Bool} {q1 : AV} {q2 q3 : Opd} : doK C gl ⟨d,none,(.look kk q0 q1 q2 q3)⟩ e h R = optK (aop (.look kk q0 q1 q2 q3) (Opd.ev gl e) h) R:=z09 rfl
theorem zqW {d : Option Nat} {kk : Sh × List Nat} {q0 q1 q2 : Opd} : doK C gl ⟨d,none,(.mupd kk q0 q1 q2)⟩ e h R = optK (aop (.mupd kk q0 q1 q2) (Opd.ev gl e) h) R:=z09 rfl
theorem zqS {d : Option Nat} {kk : Sh × List Nat} {q0 : AV} {q1 q2 : Opd} : doK C gl ⟨d,none,(.ment kk q0 q1 q2)⟩ e h R = optK (aop (.ment kk q0 q1 q2) (Opd.ev gl e) h) R:=z09 rfl
theorem zhh {d : Option Nat} {q0 q1 q2 : Opd} : doK C gl ⟨d,none,(.estore q0 q1 q2)⟩ e h R = optK (aop (.estore q0 q1 q2) (Opd.ev gl e) h) R:=z09 rfl
theorem zqR {d : Option Nat} {kk : Sh × List Nat} {q0 q1 : Opd} : doK C gl ⟨d,none,(.mdel kk q0 q1)⟩ e h R = optK (aop (.mdel kk q0 q1) (Opd.ev gl e) h) R:=z09 rfl
theorem zvv {d : Option Nat} {q0 : Opd} {q1 : Nat} : doK C gl ⟨d,none,(.ext q0 q1)⟩ e h R = optK (aop (.ext q0 q1) (Opd.ev gl e) h) R:=z09 rfl
theorem zvw {d : Option Nat} {q0 : Opd} : doK C gl ⟨d,none,(.len q0)⟩ e h R = optK (aop (.len q0) (Opd.ev gl e) h) R:=z09 rfl
theorem zqO {d : Option Nat} {q0 : Opd} : doK C gl ⟨d,none,(.lens q0)⟩ e h R = optK (aop (.lens q0) (Opd.ev gl e) h) R:=z09 rfl
theorem zqN {d : Option Nat} {q0 : Opd} : doK C gl ⟨d,none,(.lenm q0)⟩ e h R = optK (aop (.lenm q0) (Opd.ev gl e) h) R:=z09 rfl
theorem zvq {d : Option Nat} {q0 : Sh} {q1 q2 : Opd} : doK C gl ⟨d,none,(.app q0 q1 q2)⟩ e h R = optK (aop (.app q0 q1 q2) (Opd.ev gl e) h) R:=z09 rfl
theorem zqK {d : Option Nat} {q0 : Sh} {q1 q2 : Opd} : doK C gl ⟨d,none,(.copy q0 q1 q2)⟩ e h R = optK (aop (.copy q0 q1 q2) (Opd.ev gl e) h) R:=z09 rfl
theorem doK_mx {d : Option Nat} {q0 : List Opd} : doK C gl ⟨d,none,(.mx q0)⟩ e h R = optK (aop (.mx q0) (Opd.ev gl e) h) R:=z09 rfl
theorem doK_mn {d : Option Nat} {q0 : List Opd} : doK C gl ⟨d,none,(.mn q0)⟩ e h R = optK (aop (.mn q0) (Opd.ev gl e) h) R:=z09 rfl
theorem zhk {d : Option Nat} {q0 : Opd} : doK C gl ⟨d,none,(.mrange q0)⟩ e h R = optK (aop (.mrange q0) (Opd.ev gl e) h) R:=z09 rfl
theorem zhj {d : Option Nat} {q0 : Opd} : doK C gl ⟨d,none,(.mentry q0)⟩ e h R = optK (aop (.mentry q0) (Opd.ev gl e) h) R:=z09 rfl
theorem zqX {d : Option Nat} {q0 : Sh} : doK C gl ⟨d,none,(.new0 q0)⟩ e h R = optK (aop (.new0 q0) (Opd.ev gl e) h) R:=z09 rfl
theorem zk8 {o : AOp} {e e' : List (Nat × AV)} {h h' : Heap} (he : e = e') (hh : h = h') : doK C gl o e h R = doK C gl o e' h' R:=by rw [he,hh]
theorem zdM {f : Nat} {a a' : List AV} {h h' : Heap} (ha : a = a') (hh : h = h') : z1p C f a h R = z1p C f a' h' R:=by rw [ha,hh]
theorem zd7 {X : Ctx} {f : Nat} {a a' : List AV} {h h' : Heap} {K : Post} (ha : a = a') (hh : h = h') : z0c X f a h K = z0c X f a' h' K:=by rw [ha,hh]
theorem zd8 {ds : List DOp} {dn dn' : Done} {hs hs' : List Heap} {e e' : List (Nat × AV)} {h h' : Heap} {x x' : Esc} (hd : dn = dn') (hh : hs = hs') (he : e = e') (hhh : h = h') (hx : x = x') : z2f C gl ds dn hs e h x L = z2f C gl ds dn' hs' e' h' x' L:=by rw [hd,hh,he,hhh,hx]
theorem zra {o : DOp} {r : List DOp} {dn : Done} {hs : List Heap} {v : AV} {h' : Heap} {y : Esc} : zqZ C gl o r dn hs e h x L v h' y = ((o.eff = false → h' = h ∧ y = []) ∧ (∀ k ∈ o.early,∃ g,hs[k]? = some g ∧ ADo C gl o.op (z0A (some o.rd) e) g v g []) ∧
 (∀ j ∈ o.again,∃ q,dn[j]? = some q ∧ ADo C gl q.1 q.2.1 h' q.2.2 h' []) ∧ z2f C gl r (dn ++ [(o.op,z0A (some o.rd) e,v)]) (hs ++ [h]) (put o.op.dst v e) h' (y ++ x) L):=(rfl)
end Go.Am
end
section
/- The abstract machine,part 25: from a call that ends well here tov the model's call on a whole world. -/
set_option linter.unusedSimpArgs false
set_option linter.unusedVariables false
namespace Go.Am
variable {P : Program}
theorem zrq (W : World) : HeapRel [] [] W:=⟨rfl,fun id o m h=>by simp at h,fun i j b n n' h=>by simp at h,fun i b n h=>by simp at h⟩
theorem zry {W : World} {b : Nat} {o : Go.Obj} (hb : W.heap[b]? = some o) : (imm [] [] W).b b = some o:=z4a.2 ⟨fun ⟨id,n,h⟩=>by simp at h,hb⟩
theorem zmD {W : World} {b o : Nat} {v : Value} (hb : W.cell? ⟨b,o,none⟩ = some v) : (imm [] [] W).c b o = some v:=z1i.2 ⟨fun ⟨id,n,h,_⟩=>by simp at h,hb⟩
theorem zq5 {W W' : World} {h : Heap} {μ : Mu} (E : (imm [] [] W).le (imm h μ W')) : RowKit.Below W.heap.size W W':=by
 have hz : zed W' = zed W:=Option.some.inj E.z
 have hb : ∀ b,b < W.heap.size → W'.heap[b]? = W.heap[b]?:=fun b hb=>by
  have h1:=Array.getElem?_eq_getElem hb
  rw [h1]
  exact (z4a.1 (E.b b _ (zry h1))).2
 refine ⟨(congrArg World.os hz : (zed W').os = (zed W).os),(congrArg World.tape hz : (zed W').tape = (zed W).tape),(congrArg World.output hz : (zed W').output = (zed W).output),?_,hb⟩
 rcases Nat.eq_zero_or_pos W.heap.size with h0 | h0
 ·omega
 ·have h1:=hb (W.heap.size - 1) (by omega)
  rw [Array.getElem?_eq_getElem (show W.heap.size - 1 < W.heap.size by omega)] at h1
  have:=(Array.getElem?_eq_some_iff.1 h1).1
  omega
theorem zdN {X : Ctx} (HX : Fits P X) {f : Nat} {F : AFun} (hF : X.fn f = some F) (args : Array Value) (w : World) : (callFunc f args).run P w = .ok (.enter f args) w:=by
 have hck:=HX.fn f F hF
 unfold zjX at hck
 split at hck
 ·rename_i fn hfn
  split at hck
  ·rename_i c hb
   simp only [Bool.and_eq_true,bne_iff_ne,ne_eq] at hck
   exact zma hfn hb hck.2 _ w
  ·cases hck
 ·cases hck
theorem zeW {X : Ctx} (HX : Fits P X) {f : Nat} {F : AFun} (hF : X.fn f = some F) {asv : List AV} {K : Post} (H : z0c X f asv [] K) {W : World} {vs : List Value} (hG : GInv X.gl (imm [] [] W)) (hl : asv.length = vs.length)
 (hr : ∀ (j : Nat) (y : AV) (v : Value),asv[j]? = some y → vs[j]? = some v → RAV (imm [] [] W) [] [] y v) :
 Calls P f vs.toArray W fun
  | .returned r,W'=>(∃ v h x μ,K v h x ∧ RAV (imm h μ W') h μ v r) ∧ RowKit.Below W.heap.size W W'
  | _,_=>False:=by
 rcases z9g HX H [] W vs (zrq W) hG hl hr with ⟨_,q⟩ | ⟨r,w',_,_,_,_,q,_⟩
 case inr=>rw [zdN HX hF] at q; cases q
 refine q.mono fun e W' he=>?_
 cases e with
 | returned r=>
  obtain ⟨v,h',x,μ',k1,k2,k3,k4,k5⟩:=he
  exact ⟨⟨v,h',x,μ',k1,k2⟩,zq5 k4.le⟩
 | panicked _=>exact he
 | outgrown=>exact he
def zrE (zs : List Int) : AV:=.p (.sl none (zs.map fun n=>.int .i64 n))
theorem zq9 (W : World) : RAV (imm [] [] W) [] [] (zrE []) (.slice none 0 0):=.p _ _ (.nils _ _ _)
theorem zjU {W : World} {a : Addr} {len cap : Nat} {zs : List Int} (hs : a.spot = none) (hl : len ≤ cap) (hz : len ≤ zs.length) (hc : ∀ i,i < zs.length → W.cell? (a.add i) = some (.int .i64 (zs.getD i 0))) :
 RAV (imm [] [] W) [] [] (zrE (zs.take len)) (.slice (some a) len cap):=by
 obtain ⟨b,o,s⟩:=a
 simp only at hs
 subst hs
 refine .p _ _ ?_
 have hlen : ((zs.take len).map fun n=>PV.int .i64 n).length = len:=by simp [hz]
 have hfl : ((zs.take len).map fun n=>PV.int .i64 n).flatMap PV.cells = (zs.take len).map fun n=>PV.int .i64 n:=by
  generalize zs.take len = l
  induction l with
  | nil=>rfl
  | cons n r ih=>simp only [List.map_cons,List.flatMap_cons,ih]; rfl
 by_cases h0 : len = 0
 ·subst h0
  simp
  exact .nils _ _ _
 ·have key:=RPV.sl (M:=imm [] [] W) none ((zs.take len).map fun n=>PV.int .i64 n) b o cap (fun j=>.int .i64 (zs.getD j 0)) (fun hh=>by rw [hh] at hlen; simp at hlen; omega) (by rw [hlen]; exact hl)
   (fun x hx=>by obtain ⟨n,_,rfl⟩:=List.mem_map.1 hx; rfl)
   (fun j y hy=>by
    rw [hfl] at hy
    have hj : j < len:=by have:=z0f hy; rw [hlen] at this; exact this
    have:=hc j (by omega)
    rw [z1r] at this
    exact zmD this)
   (fun j y hy=>by
    rw [hfl] at hy
    have hj : j < len:=by have:=z0f hy; rw [hlen] at this; exact this
    have hjz : j < zs.length:=by omega
    simp [List.getElem?_take,hj,hjz] at hy
    subst hy
    have : zs.getD j 0 = zs[j]:=by simp [List.getD,hjz]
    rw [this]
    exact .int _ _)
  rwa [hlen] at key
end Go.Am
end
section
/- The abstract machine,part 26: z1s calls are computed. -/
set_option linter.unusedSimpArgs false
set_option linter.unusedVariables false
namespace Go.Am
mutual
def PV.same : PV → PV → Bool
 | .int k a,.int k' b=>decide (k = k') && decide (a = b)
 | .bool a,.bool b=>decide (a = b)
 | .str a,.str b=>decide (a = b)
 | .sl s xs,.sl t ys=>decide (s = t) && PV.sames xs ys
 | .agg xs,.agg ys=>PV.sames xs ys
 | .nilp,.nilp=>true
 | _,_=>false
def PV.sames : List PV → List PV → Bool
 | [],[]=>true
 | a :: asv,b :: bs=>PV.same a b && PV.sames asv bs
 | _,_=>false
end
mutual
theorem PV.same_eq : ∀ (a b : PV),PV.same a b = true → a = b
 | .int k a,b,h=>by
  cases b <;> simp [PV.same] at h
  obtain ⟨h1,h2⟩:=h; subst h1; subst h2; rfl
 | .bool a,b,h=>by cases b <;> simp [PV.same] at h; subst h; rfl
 | .str a,b,h=>by cases b <;> simp [PV.same] at h; subst h; rfl
 | .sl s xs,b,h=>by
  cases b <;> simp [PV.same] at h
  obtain ⟨h1,h2⟩:=h; subst h1; rw [PV.sames_eq _ _ h2]
 | .agg xs,b,h=>by
  cases b <;> simp [PV.same] at h
  rw [PV.sames_eq _ _ h]
 | .nilp,b,h=>by cases b <;> simp [PV.same] at h; rfl
theorem PV.sames_eq : ∀ (a b : List PV),PV.sames a b = true → a = b
 | [],b,h=>by cases b <;> simp [PV.sames] at h; rfl
 | x :: xs,b,h=>by
  cases b <;> simp [PV.sames] at h
  rw [PV.same_eq _ _ h.1,PV.sames_eq _ _ h.2]
end
mutual
def AV.same : AV → AV → Bool
 | .p a,.p b=>PV.same a b
 | .own a b c d,.own a' b' c' d'=>decide (a = a') && decide (b = b') && decide (c = c') && decide (d = d')
 | .sl0 a,.sl0 b=>decide (a = b)
 | .ref a b,.ref a' b'=>decide (a = a') && decide (b = b')
 | .rref a b c d,.rref a' b' c' d'=>decide (a = a') && decide (b = b') && decide (c = c') && decide (d = d')
 | .vp a,.vp b=>PV.same a b
 | .nilp,.nilp=>true
 | .nilm,.nilm=>true
 | .nilf,.nilf=>true
 | .nili,.nili=>true
 | .ifc,.ifc=>true
 | .mp a,.mp b=>decide (a = b)
 | .it a,.it b=>decide (a = b)
 | .fn a b,.fn a' b'=>decide (a = a') && AV.sames b b'
 | .agg a,.agg b=>AV.sames a b
 | .tup a,.tup b=>AV.sames a b
 | .anyb,.anyb=>true
 | .skp,.skp=>true
 | .und,.und=>true
 | .anyp,.anyp=>true
 | .bt a b c d,.bt a' b' c' d'=>decide (a = a') && decide (b = b') && decide (c = c') && decide (d = d')
 | _,_=>false
def AV.sames : List AV → List AV → Bool
 | [],[]=>true
 | a :: asv,b :: bs=>AV.same a b && AV.sames asv bs
 | _,_=>false
end
mutual
theorem AV.same_eq : ∀ (a b : AV),AV.same a b = true → a = b
 | .p a,b,h=>by cases b <;> simp [AV.same] at h; rw [PV.same_eq _ _ h]
 | .own _ _ _ _,b,h=>by cases b <;> simp [AV.same] at h; simp [h]
 | .sl0 _,b,h=>by cases b <;> simp [AV.same] at h; simp [h]
 | .ref _ _,b,h=>by cases b <;> simp [AV.same] at h; simp [h]
 | .rref _ _ _ _,b,h=>by cases b <;> simp [AV.same] at h; simp [h]
 | .vp a,b,h=>by cases b <;> simp [AV.same] at h; rw [PV.same_eq _ _ h]
 | .nilp,b,h=>by cases b <;> simp [AV.same] at h; rfl
 | .nilm,b,h=>by cases b <;> simp [AV.same] at h; rfl
 | .nilf,b,h=>by cases b <;> simp [AV.same] at h; rfl
 | .nili,b,h=>by cases b <;> simp [AV.same] at h; rfl
 | .ifc,b,h=>by cases b <;> simp [AV.same] at h; rfl
 | .mp _,b,h=>by cases b <;> simp [AV.same] at h; simp [h]
 | .it _,b,h=>by cases b <;> simp [AV.same] at h; simp [h]
 | .fn _ cs,b,h=>by cases b <;> simp [AV.same] at h; rw [h.1,AV.sames_eq _ _ h.2]
 | .agg cs,b,h=>by cases b <;> simp [AV.same] at h; rw [AV.sames_eq _ _ h]
 | .tup cs,b,h=>by cases b <;> simp [AV.same] at h; rw [AV.sames_eq _ _ h]
 | .anyb,b,h=>by cases b <;> simp [AV.same] at h; rfl
 | .skp,b,h=>by cases b <;> simp [AV.same] at h; rfl
 | .und,b,h=>by cases b <;> simp [AV.same] at h; rfl
 | .anyp,b,h=>by cases b <;> simp [AV.same] at h; rfl
 | .bt _ _ _ _,b,h=>by cases b <;> simp [AV.same] at h; simp [h]
theorem AV.sames_eq : ∀ (a b : List AV),AV.sames a b = true → a = b
 | [],b,h=>by cases b <;> simp [AV.sames] at h; rfl
 | x :: xs,b,h=>by
  cases b <;> simp [AV.sames] at h
  rw [AV.same_eq _ _ h.1,AV.sames_eq _ _ h.2]
end
abbrev EvC:=Nat → List AV → Heap → Option (AV × Heap × Esc)
def evDo (C : EvC) (gl : Nat → Option PV) (o : AOp) (e : List (Nat × AV)) (h : Heap) : Option (AV × Heap × Esc):=match wanted o.guard e with
 | some true=>match o.op with
  | .call f args=>C f (args.map (Opd.ev gl e)) h
  | .callv f args=>match Opd.ev gl e f with
   | .fn g caps=>C g (args.map (Opd.ev gl e) ++ caps) h
   | _=>none
  | .mnext _ _=>none
  | op=>aop op (Opd.ev gl e) h
 | some false=>some (.skp,h,[])
 | none=>none
def zts (gl : Nat → Option PV) (o : AOp) (e : List (Nat × AV)) (h : Heap) : Option (AV × Heap):=match o.op with
 | .mnext sh xs=>match wanted o.guard e with
  | some true=>match z4Z h sh (xs.map (Opd.ev gl e)) with
   | some [y]=>some y
   | _=>none
  | _=>none
 | _=>none
def zhm (C : EvC) (gl : Nat → Option PV) : List AOp → List (Nat × AV) → Heap → Esc → Option (List (Nat × AV) × Heap × Esc)
 | [],e,h,x=>some (e,h,x)
 | o :: r,e,h,x=>match evDo C gl o e h with
  | some (v,h',x')=>zhm C gl r (put o.dst v e) h' (x' ++ x)
  | none=>match zts gl o e h with
   | some (v,h')=>zhm C gl r (put o.dst v e) h' x
   | none=>none
def AO.still : AO → Bool
 | .mv _ | .pick _ _ _ | .build _ _ | .load _ _ | .nilchk _ | .bin _ _ _ | .eqa _ _ _ _ | .isnil _ _ _ | .mkif _ | .un _ _ | .mkfn _ _ | .slice _ _ _ _ _ | .slstr _ _ _ | .faddr _ _ _ | .field _ _ _ | .iaddr _ _ _
 | .iaddra _ _ _ _ | .idxa _ _ _ _ | .idxs _ _ | .look _ _ _ _ _ | .ext _ _ | .len _ | .lens _ | .lenm _ | .mx _ | .mn _=>true
 | _=>false
def AO.still2 : AO → Bool
 | .conv (.i _) _=>true
 | o=>o.still
def ME.same (a b : ME) : Bool:=PV.same a.key b.key && AV.same a.val b.val && decide (a.born = b.born)
def MEs.same : List ME → List ME → Bool
 | [],[]=>true
 | a :: asv,b :: bs=>ME.same a b && MEs.same asv bs
 | _,_=>false
def Obj.same : Obj → Obj → Bool
 | .box a,.box b=>AV.sames a b
 | .row a b c,.row a' b' c'=>decide (a = a') && PV.sames b b' && decide (c = c')
 | .amap a b,.amap a' b'=>MEs.same a a' && decide (b = b')
 | .iter a b c d,.iter a' b' c' d'=>decide (a = a') && decide (b = b') && decide (c = c') && decide (d = d')
 | _,_=>false
def Heap.same : List Obj → List Obj → Bool
 | [],[]=>true
 | a :: asv,b :: bs=>Obj.same a b && Heap.same asv bs
 | _,_=>false
theorem ME.same_eq {a b : ME} (h : ME.same a b = true) : a = b:=by
 cases a; cases b
 simp only [ME.same,Bool.and_eq_true,decide_eq_true_eq] at h
 obtain ⟨⟨h1,h2⟩,h3⟩:=h
 rw [PV.same_eq _ _ h1,AV.same_eq _ _ h2,h3]
theorem MEs.same_eq : ∀ {a b : List ME},MEs.same a b = true → a = b
 | [],[],_=>rfl
 | [],_ :: _,h=>by simp [MEs.same] at h
 | _ :: _,[],h=>by simp [MEs.same] at h
 | a :: asv,b :: bs,h=>by
  simp only [MEs.same,Bool.and_eq_true] at h
  rw [ME.same_eq h.1,MEs.same_eq h.2]
theorem Obj.same_eq {a b : Obj} (h : Obj.same a b = true) : a = b:=by
 cases a <;> cases b <;> simp only [Obj.same,Bool.and_eq_true,decide_eq_true_eq] at h <;> first
  | (cases h; done)
  | (rw [AV.sames_eq _ _ h])
  | (obtain ⟨⟨h1,h2⟩,h3⟩:=h; rw [h1,PV.sames_eq _ _ h2,h3])
  | (obtain ⟨h1,h2⟩:=h; rw [MEs.same_eq h1,h2])
  | (obtain ⟨⟨⟨h1,h2⟩,h3⟩,h4⟩:=h; rw [h1,h2,h3,h4])
theorem Heap.same_eq : ∀ {a b : List Obj},Heap.same a b = true → a = b
 | [],[],_=>rfl
 | [],_ :: _,h=>by simp [Heap.same] at h
 | _ :: _,[],h=>by simp [Heap.same] at h
 | a :: asv,b :: bs,h=>by
  simp only [Heap.same,Bool.and_eq_true] at h
  rw [Obj.same_eq h.1,Heap.same_eq h.2]
def zf2 (C : EvC) (gl : Nat → Option PV) (o : AOp) (e : List (Nat × AV)) (g : Heap) (v : AV) : Bool:=match evDo C gl o e g with
 | some (v',g',y)=>AV.same v' v && y.isEmpty && (o.op.still2 || Heap.same g' g)
 | none=>false
def zcD (C : EvC) (gl : Nat → Option PV) : List DOp → Done → List Heap → List (Nat × AV) → Heap → Esc → Option (List (Nat × AV) × Heap × Esc)
 | [],_,_,e,h,x=>some (e,h,x)
 | o :: r,dn,hs,e,h,x=>match evDo C gl o.op (z0A (some o.rd) e) h with
  | some (v,h',y)=>
   if (o.eff || o.op.op.still2 || y.isEmpty && Heap.same h' h) && (o.early.all fun k=>match hs[k]? with | some g=>zf2 C gl o.op (z0A (some o.rd) e) g v | none=>false)
    && (o.again.all fun j=>match dn[j]? with | some q=>zf2 C gl q.1 q.2.1 h' q.2.2 | none=>false) then
    zcD C gl r (dn ++ [(o.op,z0A (some o.rd) e,v)]) (hs ++ [h]) (put o.op.dst v e) h' (y ++ x)
   else none
  | none=>none
def zf1 (T : St → Option (Ex × St)) : Nat → St → Option (Ex × St)
 | 0,_=>none
 | n + 1,s=>match T s with
  | some (.normal,s')=>zf1 T n s'
  | r=>r
def z1a (C : EvC) (gl : Nat → Option PV) (n : Nat) : ACode → St → Option (Ex × St)
 | .skip,s=>some (.normal,s)
 | .reg ops keep,s=>match zhm C gl ops s.env s.h s.esc with
  | some (e,h,x)=>some (.normal,⟨z0A keep e,h,x⟩)
  | none=>none
 | .draw ds keep,s=>match zcD C gl ds [] [] s.env s.h s.esc with
  | some (e,h,x)=>some (.normal,⟨z0A keep e,h,x⟩)
  | none=>none
 | .seq a b,s=>match z1a C gl n a s with
  | some (.normal,s')=>z1a C gl n b s'
  | r=>r
 | .cond c a b,s=>match Opd.ev gl s.env c with
  | .p (.bool t)=>match t with
   | true=>z1a C gl n a s
   | false=>z1a C gl n b s
  | _=>none
 | .det b,s=>z1a C gl n b s
 | .condu c a b,s=>match Opd.ev gl s.env c with
  | .p (.bool t)=>match t with
   | true=>z1a C gl n a s
   | false=>z1a C gl n b s
  | _=>none
 | .block id b,s=>match z1a C gl n b s with
  | some (.exit i,s')=>if i = id then some (.normal,s') else some (.exit i,s')
  | r=>r
 | .loop b,s=>zf1 (z1a C gl n b) n s
 | .scope b,s=>match z1a C gl n b ⟨s.env,s.h,[]⟩ with
  | some (e,s')=>some (e,z8W s.h.length s.esc s')
  | none=>none
 | .pr l b,s=>z1a C gl n b ⟨z0A (some l) s.env,s.h,s.esc⟩
 | .exit id,s=>some (.exit id,s)
 | .ret,s=>some (.ret,s)
 | .bad,_=>none
def zvz (F : AFun) (b : Nat) (s : St) : Option (AV × Heap × Esc):=match z1N s F.results with
 | some vs=>match F.keep with
  | true=>
   let n:=z27 s.esc.length s.esc (max b (z0U vs).top)
   if z1s s.esc n then some (z0U vs,s.h.take n,s.esc.filter fun y=>decide (y.1 < n)) else some (z0U vs,s.h,s.esc)
  | false=>match reif b s.h (z0U vs) with
   | some v0=>
    let n:=z27 s.esc.length s.esc (max b v0.top)
    if z1s s.esc n then match reif n s.h (z0U vs) with
     | some v=>if v.top ≤ n then some (v,s.h.take n,s.esc.filter fun y=>decide (y.1 < n)) else none
     | none=>none
    else some (z0U vs,s.h,s.esc)
   | none=>none
 | none=>none
def zme (C : EvC) (gl : Nat → Option PV) (n : Nat) (F : AFun) (args : List AV) (h : Heap) : Option (AV × Heap × Esc):=
 match (if F.byref then some (args,h) else z0s h args) with
 | some (asv,h1)=>if asv.length = F.nparams then match z1a C gl n F.body ⟨enter asv,h1,[]⟩ with
  | some (.exit _,_)=>none
  | some (_,s)=>zvz F h.length s
  | none=>none
  else none
 | none=>none
def EvOk (C' : EvC) (C : Hd) : Prop:=∀ f a h v h' x (K : Post),C' f a h = some (v,h',x) → K v h' x → C f a h K
variable {C' : EvC} {C : Hd} {gl : Nat → Option PV}
theorem zmf (hC : EvOk C' C) {o : AOp} {e : List (Nat × AV)} {h h' : Heap} {v : AV} {x : Esc} (H : evDo C' gl o e h = some (v,h',x)) : ADo C gl o e h v h' x:=by
 unfold evDo at H
 unfold ADo
 split at H
 ·rename_i hw
  simp only [hw]
  obtain ⟨dst,guard,op⟩:=o
  cases op
  case call f args=>exact hC _ _ _ _ _ _ _ H ⟨rfl,rfl,rfl⟩
  case callv f args=>
   dsimp only at H ⊢
   split at H
   ·rename_i hf
    simp only [hf]
    exact hC _ _ _ _ _ _ _ H ⟨rfl,rfl,rfl⟩
   ·cases H
  case mnext sh xs=>cases H
  all_goals exact H
 ·rename_i hw
  simp only [hw]
  injection H with H
  injection H with h1 H
  injection H with h2 h3
  exact ⟨h1.symm,h2.symm,h3.symm⟩
 ·cases H
theorem zaw (hC : EvOk C' C) : ∀ (ops : List AOp) e h x e' h' x' (K : List (Nat × AV) → Heap → Esc → Prop),zhm C' gl ops e h x = some (e',h',x') → K e' h' x' → AReg C gl ops e h x K
 | [],e,h,x,e',h',x',K,H,hK=>by
  simp only [zhm,Option.some.injEq,Prod.mk.injEq] at H
  obtain ⟨rfl,rfl,rfl⟩:=H
  exact hK
 | o :: r,e,h,x,e',h',x',K,H,hK=>by
  unfold zhm at H
  split at H
  ·rename_i v h1 x1 hd
   have ih:=zaw hC r _ _ _ _ _ _ K H hK
   unfold evDo at hd
   unfold AReg
   split at hd
   ·rename_i hw
    simp only [hw]
    obtain ⟨dst,guard,op⟩:=o
    cases op
    case call f args=>exact hC _ _ _ _ _ _ _ hd ih
    case callv f args=>
     dsimp only at hd ⊢
     split at hd
     ·rename_i hf
      simp only [hf]
      exact hC _ _ _ _ _ _ _ hd ih
     ·cases hd
    case mnext sh xs=>cases hd
    all_goals
     dsimp only at hd ⊢
     rw [hd]
     exact ih
   ·rename_i hw
    simp only [hw]
    injection hd with hd
    injection hd with h1 hd
    injection hd with h2 h3
    subst h1; subst h2; subst h3
    exact ih
   ·cases hd
  ·split at H
   ·rename_i v h1 hd
    have ih:=zaw hC r _ _ _ _ _ _ K H hK
    unfold zts at hd
    unfold AReg
    split at hd
    ·rename_i sh xs hop
     split at hd
     ·rename_i hw
      simp only [hw,hop]
      split at hd
      ·rename_i y hm
       injection hd with hd
       subst hd
       simp only [hm]
       refine ⟨by simp,fun z hz=>?_⟩
       rw [List.mem_singleton] at hz
       subst hz
       exact ih
      ·cases hd
     ·cases hd
    ·cases hd
   ·cases H
theorem zjI {o : AO} (hs : o.still = true) {ev : Opd → AV} {h h' : Heap} {v : AV} {x : Esc} (H : aop o ev h = some (v,h',x)) : h' = h ∧ x = []:=by
 cases o <;> first | (cases hs; done) | skip
 all_goals
  unfold aop at H
  dsimp only at H
  repeat' split at H
  all_goals first
   | (cases H; done)
   | (simp only [Option.some.injEq,Prod.mk.injEq] at H; obtain ⟨_,rfl,rfl⟩:=H; exact ⟨rfl,rfl⟩)
   | (simp only [Option.map_eq_some_iff,Prod.mk.injEq] at H; obtain ⟨_,_,_,rfl,rfl⟩:=H; exact ⟨rfl,rfl⟩)
   | (have H2:=nilc (g:=[]) H; rename_i k neg p; cases hb : z6Q k (ev p) <;> rw [hb] at H <;> simp only [cond_true,cond_false,Option.map_eq_some_iff,Option.some.injEq,Prod.mk.injEq] at H <;> first | (obtain ⟨_,rfl,rfl⟩:=H; exact ⟨rfl,rfl⟩) | (obtain ⟨_,_,_,rfl,rfl⟩:=H; exact ⟨rfl,rfl⟩))
theorem zgX {o : AO} (hs : o.still2 = true) {ev : Opd → AV} {h h' : Heap} {v : AV} {x : Esc} (H : aop o ev h = some (v,h',x)) : h' = h ∧ x = []:=by
 unfold AO.still2 at hs
 split at hs
 ·simp only [aop,z8S] at H
  split at H
  ·simp at H; exact ⟨H.2.1.symm,H.2.2⟩
  ·simp at H
 ·exact zjI hs H
theorem z6p {o : AOp} (hs : o.op.still2 = true) {e : List (Nat × AV)} {h h' : Heap} {v : AV} {x : Esc} (H : ADo C gl o e h v h' x) : h' = h ∧ x = []:=by
 unfold ADo at H
 split at H
 ·obtain ⟨dst,guard,op⟩:=o
  cases op <;> first | (cases hs; done) | exact zgX hs H
 ·exact H.2
 ·exact H.elim
theorem zpR {o : AO} (h : o.still = true) : o.still2 = true:=by
 cases o <;> first | exact h | (cases h; done)
theorem zia {o : AOp} (hs : o.op.still = true) {e : List (Nat × AV)} {h h' : Heap} {v : AV} {x : Esc} (H : ADo C gl o e h v h' x) : h' = h ∧ x = []:=z6p (zpR hs) H
theorem zcG (hC : EvOk C' C) {o : AOp} {e : List (Nat × AV)} {g : Heap} {v : AV} (H : zf2 C' gl o e g v = true) : ADo C gl o e g v g []:=by
 unfold zf2 at H
 split at H
 ·rename_i v' g' y hd
  simp only [Bool.and_eq_true,Bool.or_eq_true,List.isEmpty_iff] at H
  obtain ⟨⟨h1,h2⟩,h3⟩:=H
  have h1:=AV.same_eq _ _ h1
  have:=zmf (C:=C) hC hd
  rcases h3 with hs | hs
  ·obtain ⟨e1,e2⟩:=z6p hs this
   subst e1; subst e2; subst h1
   exact this
  ·have e1:=Heap.same_eq hs
   subst e1; subst h2; subst h1
   exact this
 ·cases H
theorem zcE (hC : EvOk C' C) : ∀ (ds : List DOp) dn hs e h x e' h' x' (K : List (Nat × AV) → Heap → Esc → Prop),zcD C' gl ds dn hs e h x = some (e',h',x') → K e' h' x' → z2f C gl ds dn hs e h x K
 | [],dn,hs,e,h,x,e',h',x',K,H,hK=>by
  simp only [zcD,Option.some.injEq,Prod.mk.injEq] at H
  obtain ⟨rfl,rfl,rfl⟩:=H
  exact hK
 | o :: r,dn,hs,e,h,x,e',h',x',K,H,hK=>by
  unfold zcD at H
  split at H
  ·rename_i v h1 y hd
   split at H
   ·rename_i hc
    simp only [Bool.and_eq_true,Bool.or_eq_true,List.all_eq_true] at hc
    obtain ⟨⟨c1,c2⟩,c3⟩:=hc
    have hdo:=zmf (C:=C) hC hd
    refine ⟨v,h1,y,hdo,fun he=>?_,fun k hk=>?_,fun j hj=>?_,zcE hC r _ _ _ _ _ _ _ _ K H hK⟩
    ·rcases c1 with (c1 | c1) | ⟨c1,c4⟩
     ·rw [c1] at he; cases he
     ·exact z6p c1 hdo
     ·rw [List.isEmpty_iff] at c1
      exact ⟨Heap.same_eq c4,c1⟩
    ·have:=c2 k hk
     split at this
     ·rename_i g hg
      exact ⟨g,hg,zcG hC this⟩
     ·cases this
    ·have:=c3 j hj
     split at this
     ·rename_i q hq
      exact ⟨q,hq,zcG hC this⟩
     ·cases this
   ·cases H
  ·cases H
theorem zcF {T' : St → Option (Ex × St)} {T : St → (Ex → St → Prop) → Prop} (hT : ∀ s e s' K,T' s = some (e,s') → K e s' → T s K) : ∀ n s e s' K,zf1 T' n s = some (e,s') → K e s' → ALoop T K s
 | 0,s,e,s',K,H,hK=>by cases H
 | n + 1,s,e,s',K,H,hK=>by
  unfold zf1 at H
  split at H
  ·rename_i s1 h1
   refine .mk s (fun e2 s2=>e2 = .normal ∧ s2 = s1) (hT _ _ _ _ h1 ⟨rfl,rfl⟩) (fun s2 ⟨_,h2⟩=>?_) (fun i s2 ⟨h2,_⟩=>by cases h2) (fun s2 ⟨h2,_⟩=>by cases h2)
   subst h2
   exact zcF hT n _ _ _ K H hK
  ·rename_i hne
   have hne' : e ≠ .normal:=fun he=>by subst he; exact hne _ H
   refine .mk s (fun e2 s2=>e2 = e ∧ s2 = s') (hT _ _ _ _ H ⟨rfl,rfl⟩) (fun s2 ⟨h2,_⟩=>(hne' h2.symm).elim) (fun i s2 ⟨h2,h3⟩=>by subst h3; rw [h2]; exact hK) (fun s2 ⟨h2,h3⟩=>by subst h3; rw [h2]; exact hK)
theorem z0W (hC : EvOk C' C) (n : Nat) : ∀ (c : ACode) s e s' (K : Ex → St → Prop),z1a C' gl n c s = some (e,s') → K e s' → AW C gl c s K
 | .skip,s,e,s',K,H,hK=>by
  simp only [z1a,Option.some.injEq,Prod.mk.injEq] at H
  obtain ⟨rfl,rfl⟩:=H; exact hK
 | .reg ops keep,s,e,s',K,H,hK=>by
  unfold z1a at H
  split at H
  ·rename_i h1
   simp only [Option.some.injEq,Prod.mk.injEq] at H
   obtain ⟨rfl,rfl⟩:=H
   exact zaw hC _ _ _ _ _ _ _ _ h1 hK
  ·cases H
 | .draw ds keep,s,e,s',K,H,hK=>by
  unfold z1a at H
  split at H
  ·rename_i h1
   simp only [Option.some.injEq,Prod.mk.injEq] at H
   obtain ⟨rfl,rfl⟩:=H
   exact zcE hC _ _ _ _ _ _ _ _ _ _ h1 hK
  ·cases H
 | .seq a b,s,e,s',K,H,hK=>by
  unfold z1a at H
  unfold AW
  split at H
  ·rename_i s1 h1
   exact z0W hC n a s _ _ _ h1 (z0W hC n b _ _ _ K H hK)
  ·rename_i hne
   have hne' : e ≠ .normal:=fun he=>by subst he; exact hne _ H
   refine z0W hC n a s _ _ _ H ?_
   cases e with
   | normal=>exact (hne' rfl).elim
   | exit i=>exact hK
   | ret=>exact hK
 | .det b,s,e,s',K,H,hK=>by
  unfold z1a at H
  exact z0W hC n b s _ _ K H hK
 | .condu c a b,s,e,s',K,H,hK=>by
  unfold z1a at H
  unfold AW
  split at H
  ·rename_i t ht
   simp only [ht]
   split at H
   ·exact z0W hC n a s _ _ _ H hK
   ·exact z0W hC n b s _ _ _ H hK
  ·cases H
 | .cond c a b,s,e,s',K,H,hK=>by
  unfold z1a at H
  unfold AW
  split at H
  ·rename_i t ht
   simp only [ht]
   split at H
   ·exact z0W hC n a s _ _ _ H hK
   ·exact z0W hC n b s _ _ _ H hK
  ·cases H
 | .block id b,s,e,s',K,H,hK=>by
  unfold z1a at H
  unfold AW
  split at H
  ·rename_i i s1 h1
   refine z0W hC n b s _ _ _ h1 ?_
   dsimp only
   split at H
   ·rw [if_pos ‹_›]
    simp only [Option.some.injEq,Prod.mk.injEq] at H
    obtain ⟨rfl,rfl⟩:=H; exact hK
   ·rw [if_neg ‹_›]
    simp only [Option.some.injEq,Prod.mk.injEq] at H
    obtain ⟨rfl,rfl⟩:=H; exact hK
  ·rename_i hne
   refine z0W hC n b s _ _ _ H ?_
   cases e with
   | normal=>exact hK
   | exit i=>exact (hne _ _ H).elim
   | ret=>exact hK
 | .loop b,s,e,s',K,H,hK=>by
  unfold z1a at H
  unfold AW
  exact zcF (fun s e s' K h k=>z0W hC n b s e s' K h k) n s e s' K H hK
 | .scope b,s,e,s',K,H,hK=>by
  unfold z1a at H
  unfold AW
  split at H
  ·rename_i e1 s1 h1
   simp only [Option.some.injEq,Prod.mk.injEq] at H
   obtain ⟨rfl,rfl⟩:=H
   exact z0W hC n b _ _ _ _ h1 hK
  ·cases H
 | .pr l b,s,e,s',K,H,hK=>by
  unfold z1a at H
  unfold AW
  exact z0W hC n b _ _ _ K H hK
 | .exit id,s,e,s',K,H,hK=>by
  simp only [z1a,Option.some.injEq,Prod.mk.injEq] at H
  obtain ⟨rfl,rfl⟩:=H; exact hK
 | .ret,s,e,s',K,H,hK=>by
  simp only [z1a,Option.some.injEq,Prod.mk.injEq] at H
  obtain ⟨rfl,rfl⟩:=H; exact hK
 | .bad,s,e,s',K,H,hK=>by simp only [z1a] at H; cases H
theorem zf0 {F : AFun} {b : Nat} {s : St} {v : AV} {h : Heap} {x : Esc} {K : Post} (H : zvz F b s = some (v,h,x)) (hK : K v h x) : fin F b s K:=by
 unfold zvz at H
 unfold fin
 split at H
 ·rename_i h1
  simp only [h1]
  split at H
  ·rename_i h2
   simp only [h2]
   dsimp only at H ⊢
   split at H
   ·rw [if_pos ‹_›]; simp only [Option.some.injEq,Prod.mk.injEq] at H; obtain ⟨rfl,rfl,rfl⟩:=H; exact hK
   ·rw [if_neg ‹_›]; simp only [Option.some.injEq,Prod.mk.injEq] at H; obtain ⟨rfl,rfl,rfl⟩:=H; exact hK
  ·rename_i h2
   simp only [h2]
   split at H
   ·rename_i h3
    simp only [h3]
    dsimp only at H ⊢
    split at H
    ·rw [if_pos ‹_›]
     split at H
     ·rename_i h4
      simp only [h4]
      split at H
      ·simp only [Option.some.injEq,Prod.mk.injEq] at H; obtain ⟨rfl,rfl,rfl⟩:=H; exact ⟨‹_›,hK⟩
      ·cases H
     ·cases H
    ·rw [if_neg ‹_›]; simp only [Option.some.injEq,Prod.mk.injEq] at H; obtain ⟨rfl,rfl,rfl⟩:=H; exact hK
   ·cases H
 ·cases H
theorem zcC (hC : EvOk C' C) {n : Nat} {F : AFun} {a : List AV} {h : Heap} {v : AV} {h' : Heap} {x : Esc} {K : Post} (H : zme C' gl n F a h = some (v,h',x)) (hK : K v h' x) : z2J C gl F a h K:=by
 unfold zme at H
 unfold z2J
 split at H
 ·rename_i asv h1 hp
  simp only [hp]
  split at H
  ·rename_i hl
   refine ⟨hl,?_⟩
   cases he : z1a C' gl n F.body ⟨enter asv,h1,[]⟩ with
   | none=>rw [he] at H; cases H
   | some y=>
    obtain ⟨e,s⟩:=y
    rw [he] at H
    refine z0W hC n _ _ _ _ _ he ?_
    cases e with
    | exit i=>cases H
    | normal=>exact zf0 H hK
    | ret=>exact zf0 H hK
  ·cases H
 ·cases H
def z7O (X : Ctx) (o : Nat → List AV → Option AV) (n : Nat) : Nat → EvC
 | 0,_,_,_=>none
 | d + 1,f,a,h=>match o f a with
  | some v=>some (v,h,[])
  | none=>match X.fn f with
   | some F=>zme (z7O X o n d) X.gl n F a h
   | none=>match X.ex2 f a h with
    | some r=>some r
    | none=>match z0s h a with
     | some (asv,h1)=>match unp asv with
      | some vs=>match X.ext f vs with
       | some r=>some (.p r,h1,[])
       | none=>none
      | none=>none
     | none=>none
theorem z6y (X : Ctx) (o : Nat → List AV → Option AV) (ho : ∀ f a v,o f a = some v → ∀ h (K : Post),K v h [] → z0c X f a h K) (n : Nat) : ∀ d,EvOk (z7O X o n d) (z0c X)
 | 0,f,a,h,v,h',x,K,H,hK=>by cases H
 | d + 1,f,a,h,v,h',x,K,H,hK=>by
  unfold z7O at H
  split at H
  ·rename_i v1 hv
   simp only [Option.some.injEq,Prod.mk.injEq] at H
   obtain ⟨rfl,rfl,rfl⟩:=H
   exact ho _ _ _ hv _ _ hK
  refine z0c.fold ?_
  unfold Step
  split at H
  ·rename_i F hF
   simp only [hF]
   unfold z5c
   cases hd : F.isDet with
   | true=>exact ⟨v,h',x,hK,zcC (z6y X o ho n d) H ⟨rfl,rfl,rfl⟩⟩
   | false=>exact zcC (z6y X o ho n d) H hK
  ·rename_i hF
   simp only [hF]
   split at H
   ·rename_i hx2
    simp only [hx2]
    simp only [Option.some.injEq] at H
    subst H; exact hK
   ·rename_i hx2
    simp only [hx2]
    split at H
    ·rename_i hp
     simp only [hp]
     split at H
     ·rename_i hu
      simp only [hu]
      split at H
      ·rename_i hx
       simp only [hx]
       simp only [Option.some.injEq,Prod.mk.injEq] at H
       obtain ⟨rfl,rfl,rfl⟩:=H; exact hK
      ·cases H
     ·cases H
    ·cases H
theorem zhY {X : Ctx} {f : Nat} {a : List AV} {h : Heap} {v : AV} {h' : Heap} {x : Esc} {o : Nat → List AV → Option AV} (ho : ∀ f a v,o f a = some v → ∀ h (K : Post),K v h [] → z0c X f a h K) (n d : Nat) (H : z7O X o n d f a h = some (v,h',x)) (K : Post) : z0c X f a h K ↔ K v h' x:=
 z0c.eq (z6y X o ho n d _ _ _ _ _ _ _ H ⟨rfl,rfl,rfl⟩) K
end Go.Am
end
section
/- The abstract machine,part 27: loops,and the rules of computing asv one set. -/
set_option linter.unusedSimpArgs false
set_option linter.unusedVariables false
namespace Go.Am
variable {C : Hd} {gl : Nat → Option PV} {e : List (Nat × AV)} {h : Heap} {x : Esc} {K : Ex → St → Prop} {s : St}
def zh2 {σ : Type} (S : σ → St) (P : σ → Prop) (m : σ → Nat) (K : Ex → St → Prop) (s : σ) (e : Ex) (s' : St) : Prop:=match e with
 | .normal=>∃ t,s' = S t ∧ P t ∧ m t < m s
 | .exit i=>K (.exit i) s'
 | .ret=>K .ret s'
theorem z6P {σ : Type} {S : σ → St} {P : σ → Prop} {m : σ → Nat} {K : Ex → St → Prop} {t : σ} {s' : St} : zh2 S P m K t .normal s' = ∃ u,s' = S u ∧ P u ∧ m u < m t:=(rfl)
theorem z9B {σ : Type} {S : σ → St} {P : σ → Prop} {m : σ → Nat} {K : Ex → St → Prop} {t : σ} {s' : St} {i : Nat} : zh2 S P m K t (.exit i) s' = K (.exit i) s':=(rfl)
theorem zcP {σ : Type} {S : σ → St} {P : σ → Prop} {m : σ → Nat} {K : Ex → St → Prop} {t : σ} {s' : St} : zh2 S P m K t .ret s' = K .ret s':=(rfl)
theorem zeb {σ : Type} {S : σ → St} {P : σ → Prop} {m : σ → Nat} {K : Ex → St → Prop} {t : σ} {ex ex' : Ex} {s s' : St} (he : ex = ex') (hs : s = s') : zh2 S P m K t ex s = zh2 S P m K t ex' s':=by rw [he,hs]
theorem z4y {T : St → (Ex → St → Prop) → Prop} {K : Ex → St → Prop} {s s' : St} (h : T s = T s') : ALoop T K s = ALoop T K s':=by
 refine propext ⟨fun H=>?_,fun H=>?_⟩
 ·cases H with | mk _ R a b c d=>exact .mk _ R (h ▸ a) b c d
 ·cases H with | mk _ R a b c d=>exact .mk _ R (h.symm ▸ a) b c d
theorem z8T {l : List Nat} {e : List (Nat × AV)} {t : Nat} (ht : t ∈ l) : aget (z0A (some l) e) t = aget e t:=by
 simp only [z0A]
 induction l with
 | nil=>cases ht
 | cons k r ih=>
  simp only [List.map_cons,aget]
  split
  ·rename_i hk; rw [hk]
  ·rename_i hk
   rcases List.mem_cons.1 ht with h1 | h1
   ·exact absurd h1.symm hk
   ·exact ih h1
theorem z36 {l : List Nat} {e : List (Nat × AV)} : z0A (some l) (z0A (some l) e) = z0A (some l) e:=by
 show l.map _ = l.map _
 exact List.map_congr_left fun t ht=>by rw [z8T ht]
def LoopP (C : Hd) (gl : Nat → Option PV) (l : List Nat) (b : ACode) (K : Ex → St → Prop) (e : List (Nat × AV)) (h : Heap) (x : Esc) : Prop:=AW C gl (.loop (.pr l b)) ⟨e,h,x⟩ K
def LoopS (C : Hd) (gl : Nat → Option PV) (l : List Nat) (b : ACode) (K : Ex → St → Prop) (e : List (Nat × AV)) (h : Heap) (x : Esc) : Prop:=AW C gl (.loop (.scope (.pr l b))) ⟨e,h,x⟩ K
theorem zqt {l : List Nat} {b : ACode} : AW C gl (.loop (.pr l b)) ⟨e,h,x⟩ K = LoopP C gl l b K (z0A (some l) e) h x:=by
 show ALoop _ _ _ = ALoop _ _ _
 exact z4y (funext fun R=>by show AW C gl b _ R = AW C gl b _ R; dsimp only; rw [z36])
theorem zqu {l : List Nat} {b : ACode} : AW C gl (.loop (.scope (.pr l b))) ⟨e,h,x⟩ K = LoopS C gl l b K (z0A (some l) e) h x:=by
 show ALoop _ _ _ = ALoop _ _ _
 exact z4y (funext fun R=>by show AW C gl b _ _ = AW C gl b _ _; dsimp only; rw [z36])
theorem z3y {α : Type} (h l : List α) (n : Nat) : (h ++ l)[h.length + n]? = l[n]?:=by
 rw [List.getElem?_append_right (by omega)]; congr 1; omega
theorem zeT {α : Type} (h l : List α) : (h ++ l)[h.length]? = l[0]?:=by
 rw [List.getElem?_append_right (by omega)]; congr 1; omega
theorem z7p {α : Type} (h l : List α) (n : Nat) (o : α) : (h ++ l).set (h.length + n) o = h ++ l.set n o:=by
 rw [List.set_append_right _ _ (by omega)]; congr 2; omega
theorem zq2 {α : Type} (h l : List α) (o : α) : (h ++ l).set h.length o = h ++ l.set 0 o:=by
 rw [List.set_append_right _ _ (by omega)]; congr 2; omega
theorem zaj {α : Type} (h l : List α) (n : Nat) : (h ++ l).take (h.length + n) = h ++ l.take n:=List.take_length_add_append ..
theorem z5n {α : Type} (h l : List α) : (h ++ l).take h.length = h:=List.take_left ..
theorem zdI (h l : Heap) (n k : Nat) : frz (h ++ l) (h.length + n) k = h ++ frz l n k:=by
 unfold frz
 rw [z3y]
 cases l[n]? with
 | none=>rfl
 | some o=>cases o <;> first | rfl | simp only [z7p]
theorem zq1 (h l : Heap) (k : Nat) : frz (h ++ l) h.length k = h ++ frz l 0 k:=zdI h l 0 k
theorem z0m (n : Int) (h1 : -9223372036854775808 ≤ n) (h2 : n ≤ 9223372036854775807) : IntKind.i64.wrap n = n:=by
 simp [IntKind.wrap,IntKind.bits,IntKind.signed]; omega
def finR (rs : List ARes) (kp : Bool) (b : Nat) (P : Post) (e : Ex) (s : St) : Prop:=match e with
 | .exit _=>False
 | _=>match z1N s rs with
  | some vs=>match kp with
   | true=>
    let n:=z27 s.esc.length s.esc (max b (z0U vs).top)
    if z1s s.esc n then P (z0U vs) (s.h.take n) (s.esc.filter fun y=>decide (y.1 < n)) else P (z0U vs) s.h s.esc
   | false=>match reif b s.h (z0U vs) with
    | some v0=>
     let n:=z27 s.esc.length s.esc (max b v0.top)
     if z1s s.esc n then match reif n s.h (z0U vs) with
      | some v=>v.top ≤ n ∧ P v (s.h.take n) (s.esc.filter fun y=>decide (y.1 < n))
      | none=>False
     else P (z0U vs) s.h s.esc
    | none=>False
  | none=>False
theorem zmv {F : AFun} {b : Nat} {P : Post} : finK F b P = finR F.results F.keep b P:=by
 funext e s; cases e <;> rfl
theorem zmw {rs : List ARes} {kp : Bool} {b : Nat} {P : Post} {i : Nat} {s : St} : finR rs kp b P (.exit i) s = False:=(rfl)
def retK (kp : Bool) (b : Nat) (P : Post) (o : Option (List AV)) (h : Heap) (x : Esc) : Prop:=match o with
 | some vs=>match kp with
  | true=>
   let n:=z27 x.length x (max b (z0U vs).top)
   if z1s x n then P (z0U vs) (h.take n) (x.filter fun y=>decide (y.1 < n)) else P (z0U vs) h x
  | false=>match reif b h (z0U vs) with
   | some v0=>
    let n:=z27 x.length x (max b v0.top)
    if z1s x n then match reif n h (z0U vs) with
     | some v=>v.top ≤ n ∧ P v (h.take n) (x.filter fun y=>decide (y.1 < n))
     | none=>False
    else P (z0U vs) h x
   | none=>False
 | none=>False
theorem z7Y {rs : List ARes} {kp : Bool} {b : Nat} {P : Post} {e : List (Nat × AV)} {h : Heap} {x : Esc} : finR rs kp b P .normal ⟨e,h,x⟩ = retK kp b P (z1N ⟨e,h,x⟩ rs) h x:=(rfl)
theorem zf8 {rs : List ARes} {kp : Bool} {b : Nat} {P : Post} {e : List (Nat × AV)} {h : Heap} {x : Esc} : finR rs kp b P .ret ⟨e,h,x⟩ = retK kp b P (z1N ⟨e,h,x⟩ rs) h x:=(rfl)
theorem zhr {rs : List ARes} {kp : Bool} {b : Nat} {P : Post} {ex ex' : Ex} {s s' : St} (he : ex = ex') (hs : s = s') : finR rs kp b P ex s = finR rs kp b P ex' s':=by rw [he,hs]
theorem z4o {b : Nat} {P : Post} {vs : List AV} {h : Heap} (ht : (z0U vs).top ≤ b) (hr : ∀ b,reif b h (z0U vs) = some (z0U vs)) : retK false b P (some vs) h [] = P (z0U vs) (h.take b) []:=by
 simp only [retK,hr,z27,List.length_nil,z1s,List.all_nil,if_true,List.filter_nil,Nat.max_eq_left ht,ht,true_and]
theorem reif_p {b : Nat} {h : Heap} {v : PV} : reif b h (.p v) = some (.p v):=(rfl)
theorem zpx {b : Nat} {h : Heap} : z6V b h [] = some []:=(rfl)
theorem retK_1 {b : Nat} {P : Post} {v : PV} {h : Heap} : retK false b P (some [.p v]) h [] = P (.p v) (h.take b) []:=z4o (Nat.zero_le _) (fun _=>rfl)
theorem retK_2 {b : Nat} {P : Post} {v u : PV} {h : Heap} : retK false b P (some [.p v,.p u]) h [] = P (.tup [.p v,.p u]) (h.take b) []:=z4o (by simp [z0U,AV.top,AV.tops]) (fun _=>rfl)
theorem retK_3 {b : Nat} {P : Post} {v u w : PV} {h : Heap} : retK false b P (some [.p v,.p u,.p w]) h [] = P (.tup [.p v,.p u,.p w]) (h.take b) []:=z4o (by simp [z0U,AV.top,AV.tops]) (fun _=>rfl)
theorem retK_4 {b : Nat} {P : Post} {v u w z : PV} {h : Heap} : retK false b P (some [.p v,.p u,.p w,.p z]) h [] = P (.tup [.p v,.p u,.p w,.p z]) (h.take b) []:=z4o (by simp [z0U,AV.top,AV.tops]) (fun _=>rfl)
theorem retK_0 {b : Nat} {P : Post} {h : Heap} : retK false b P (some []) h [] = P (.tup []) (h.take b) []:=z4o (by simp [z0U,AV.top,AV.tops]) (fun _=>rfl)
theorem zs0 {h : Heap} : h.take h.length = h:=List.take_length
theorem zwd {v : AV} : z0U [v] = v:=(rfl)
theorem zsx {X : Ctx} {f : Nat} {F : AFun} {a asv : List AV} {h h1 : Heap} {P : Post} (hf : X.fn f = some F) (hr : F.byref = false) (hp : z0s h a = some (asv,h1)) (hl : asv.length = F.nparams) (hd : F.isDet = false) :
 z0c X f a h P = AW (z0c X) X.gl F.body ⟨enter asv,h1,[]⟩ (finR F.results F.keep h.length P):=by
 rw [ziZ hf hd,zbq hr hp hl,zmv]
theorem zsw {X : Ctx} {f : Nat} {F : AFun} {asv : List AV} {h : Heap} {P : Post} (hf : X.fn f = some F) (hr : F.byref = true) (hl : asv.length = F.nparams) (hd : F.isDet = false) :
 z0c X f asv h P = AW (z0c X) X.gl F.body ⟨enter asv,h,[]⟩ (finR F.results F.keep h.length P):=by
 rw [ziZ hf hd,zjD hr hl,zmv]
theorem zdy {X : Ctx} {f : Nat} {F : AFun} {a asv : List AV} {h h1 : Heap} {P : Post} (hf : X.fn f = some F) (hr : F.byref = false) (hp : z0s h a = some (asv,h1)) (hl : asv.length = F.nparams) (hd : F.isDet = true) :
 z0c X f a h P = ∃ v h' x,P v h' x ∧ AW (z0c X) X.gl F.body ⟨enter asv,h1,[]⟩ (finR F.results F.keep h.length fun v1 h1 x1=>v1 = v ∧ h1 = h' ∧ x1 = x):=by
 rw [zqx hf hd]
 simp only [zbq hr hp hl,zmv]
theorem rule {X : Ctx} {f : Nat} {a : List AV} {h : Heap} {v : AV} {h' : Heap} {x : Esc} {K : Post} (H : z0c X f a h fun v1 h1 x1=>v1 = v ∧ h1 = h' ∧ x1 = x) : z0c X f a h K = K v h' x:=propext (z0c.eq H K)
theorem zcQ {k : IntKind} {n : Nat} : z1f (.p (.int k (n : Int))) = some n:=by simp [z1f]
theorem znq {k : IntKind} {n : Nat} : z1f (.p (.int k (no_index (OfNat.ofNat n : Int)))) = some (OfNat.ofNat n : Nat):=zcQ (n:=n)
theorem zvU {k : IntKind} : z1f (.p (.int k 0)) = some 0:=(rfl)
theorem zvV {k : IntKind} : z1f (.p (.int k 1)) = some 1:=(rfl)
theorem z8g {k : IntKind} {n : Int} (h : 0 ≤ n) : z1f (.p (.int k n)) = some n.toNat:=by simp [z1f,h]
theorem z18 {α β : Type} (f : α → β) {l : List α} {k : Nat} (h : k < l.length) : (l.map f)[k]? = some (f l[k]):=by simp [h]
attribute [go_sem] eqs PV.eq1 PV.kind ne_eq not_false_eq_true not_true_eq_false Bool.and_self Bool.or_self Bool.not_eq_true
attribute [go_sem] Nat.max_le Nat.add_le_add_iff_left Option.isSome_none Option.isSome_some false_and and_false List.length_range Nat.sub_zero Nat.le_add_right
attribute [go_sem] zcQ zvU zvV znq Int.ofNat_lt Int.ofNat_le List.length_map
attribute [go_sem] zmw z7Y zf8 retK_0 retK_1 retK_2 retK_3 retK_4 zs0 List.zipIdx_cons List.zipIdx_nil List.map_cons List.map_nil Nat.reduceAdd Nat.reduceEqDiff if_true if_false Option.map_some Option.map_none List.append_nil List.nil_append decide_eq_true_eq
def doS (C : Hd) (gl : Nat → Option PV) (q : AOp × List (Nat × AV) × AV) (h : Heap) : Prop:=ADo C gl q.1 q.2.1 h q.2.2 h []
def agK (C : Hd) (gl : Nat → Option PV) (h : Heap) (dn : Done) : List Nat → Prop
 | []=>True
 | j :: r=>(match dn[j]? with | some q=>doS C gl q h | none=>False) ∧ agK C gl h dn r
def eaK (C : Hd) (gl : Nat → Option PV) (o : AOp) (e : List (Nat × AV)) (v : AV) (hs : List Heap) : List Nat → Prop
 | []=>True
 | k :: r=>(match hs[k]? with | some g=>doS C gl (o,e,v) g | none=>False) ∧ eaK C gl o e v hs r
theorem zjE {C : Hd} {gl : Nat → Option PV} {h : Heap} {dn : Done} : ∀ {l : List Nat},agK C gl h dn l ↔ ∀ j ∈ l,∃ q,dn[j]? = some q ∧ ADo C gl q.1 q.2.1 h q.2.2 h []
 | []=>by simp [agK]
 | j :: r=>by
  simp only [agK,List.mem_cons,forall_eq_or_imp]
  rw [zjE (l:=r)]
  refine and_congr_left (fun _=>?_)
  cases hd : dn[j]? with
  | none=>simp
  | some q=>simp [doS]
theorem zlV {C : Hd} {gl : Nat → Option PV} {o : AOp} {e : List (Nat × AV)} {v : AV} {hs : List Heap} : ∀ {l : List Nat},eaK C gl o e v hs l ↔ ∀ k ∈ l,∃ g,hs[k]? = some g ∧ ADo C gl o e g v g []
 | []=>by simp [eaK]
 | j :: r=>by
  simp only [eaK,List.mem_cons,forall_eq_or_imp]
  rw [zlV (l:=r)]
  refine and_congr_left (fun _=>?_)
  cases hd : hs[j]? with
  | none=>simp
  | some q=>simp [doS]
def effK (b : Bool) (h h' : Heap) (y : Esc) : Prop:=match b with
 | true=>True
 | false=>h' = h ∧ y = []
theorem zc8 {C : Hd} {gl : Nat → Option PV} {e : List (Nat × AV)} {h : Heap} {x : Esc} {L : List (Nat × AV) → Heap → Esc → Prop} {op : AOp} {rd early again : List Nat} {eff : Bool} {r : List DOp} {dn : Done} {hs : List Heap} {v : AV} {h' : Heap} {y : Esc} :
 zqZ C gl ⟨op,rd,eff,early,again⟩ r dn hs e h x L v h' y = (effK eff h h' y ∧ eaK C gl op (z0A (some rd) e) v hs early ∧ agK C gl h' dn again ∧ z2f C gl r (dn ++ [(op,z0A (some rd) e,v)]) (hs ++ [h]) (put op.dst v e) h' (y ++ x) L):=by
 rw [zra,← propext zlV,← propext zjE]
 cases eff <;> simp [effK]
theorem zlX {h h' : Heap} {y : Esc} : effK true h h' y = True:=(rfl)
theorem zlW {h : Heap} : effK false h h [] = True:=by simp [effK]
theorem zuI {C : Hd} {gl : Nat → Option PV} {h : Heap} {dn : Done} : agK C gl h dn [] = True:=(rfl)
theorem zqy {C : Hd} {gl : Nat → Option PV} {h : Heap} {dn : Done} {j : Nat} {r : List Nat} : agK C gl h dn (j :: r) = ((match dn[j]? with | some q=>doS C gl q h | none=>False) ∧ agK C gl h dn r):=(rfl)
theorem zvx {C : Hd} {gl : Nat → Option PV} {o : AOp} {e : List (Nat × AV)} {v : AV} {hs : List Heap} : eaK C gl o e v hs [] = True:=(rfl)
theorem zrb {C : Hd} {gl : Nat → Option PV} {o : AOp} {e : List (Nat × AV)} {v : AV} {hs : List Heap} {j : Nat} {r : List Nat} : eaK C gl o e v hs (j :: r) = ((match hs[j]? with | some g=>doS C gl (o,e,v) g | none=>False) ∧ eaK C gl o e v hs r):=(rfl)
theorem zto {C : Hd} {gl : Nat → Option PV} {d : Option Nat} {g : Option (Nat × Bool)} {op : AO} {e : List (Nat × AV)} {v : AV} {h : Heap} : doS C gl (⟨d,g,op⟩,e,v) h = doK C gl ⟨d,g,op⟩ e h (fun v1 h1 x1=>v1 = v ∧ h1 = h ∧ x1 = []):=by
 unfold doS doK
 refine propext ⟨fun H=>⟨_,_,_,H,rfl,rfl,rfl⟩,fun ⟨v1,h1,x1,H,a,b,c⟩=>by subst a; subst b; subst c; exact H⟩
theorem zkf {p : Prop} [Decidable p] {A B : Prop} : z0l (.p (.bool (decide p))) A B = if p then A else B:=by rw [z9m]; simp
def z9i (C : Hd) (v : AV) (asv : List AV) (h : Heap) (L : Post) : Prop:=match v with
 | .fn g caps=>C g (asv ++ caps) h L
 | _=>False
theorem z7j {C : Hd} {gl : Nat → Option PV} {e : List (Nat × AV)} {h : Heap} {x : Esc} {L : List (Nat × AV) → Heap → Esc → Prop} {d : Option Nat} {f : Opd} {args : List Opd} {r : List AOp} :
 AReg C gl (⟨d,none,.callv f args⟩ :: r) e h x L = z9i C (Opd.ev gl e f) (args.map (Opd.ev gl e)) h (z0P C gl r d e x L):=by
 have h2 : wanted none e = some true:=(rfl)
 rw [AReg]
 simp only [h2]
 unfold z9i
 split <;> simp_all <;> rfl
def z9h (C : Hd) (v : AV) (asv : List AV) (h : Heap) (R : AV → Heap → Esc → Prop) : Prop:=match v with
 | .fn g caps=>z1p C g (asv ++ caps) h R
 | _=>False
theorem z9o {C : Hd} {gl : Nat → Option PV} {e : List (Nat × AV)} {h : Heap} {R : AV → Heap → Esc → Prop} {d : Option Nat} {f : Opd} {args : List Opd} :
 doK C gl ⟨d,none,.callv f args⟩ e h R = z9h C (Opd.ev gl e f) (args.map (Opd.ev gl e)) h R:=by
 have h2 : wanted none e = some true:=(rfl)
 unfold doK ADo
 simp only [h2]
 unfold z9h z1p
 split <;> simp_all
theorem zjT {C : Hd} {g : Nat} {caps asv : List AV} {h : Heap} {L : Post} : z9i C (.fn g caps) asv h L = C g (asv ++ caps) h L:=(rfl)
theorem zjS {C : Hd} {g : Nat} {caps asv : List AV} {h : Heap} {R : AV → Heap → Esc → Prop} : z9h C (.fn g caps) asv h R = z1p C g (asv ++ caps) h R:=(rfl)
theorem zbz {C : Hd} {v v' : AV} {asv asv' : List AV} {h h' : Heap} {L : Post} (h1 : v = v') (h2 : asv = asv') (h3 : h = h') : z9i C v asv h L = z9i C v' asv' h' L:=by rw [h1,h2,h3]
theorem zby {C : Hd} {v v' : AV} {asv asv' : List AV} {h h' : Heap} {R : AV → Heap → Esc → Prop} (h1 : v = v') (h2 : asv = asv') (h3 : h = h') : z9h C v asv h R = z9h C v' asv' h' R:=by rw [h1,h2,h3]
attribute [go_sem] z7j z9o zjT zjS
attribute [congr] zbz zby
theorem zqF {k : IntKind} {n : Int} : cutP none 0 (.int k n) = some (.int k n):=(rfl)
theorem zkj {b : Bool} : cutP none 0 (.bool b) = some (.bool b):=(rfl)
theorem zqG {s : List UInt8} : cutP none 0 (.str s) = some (.str s):=(rfl)
theorem zvn {sh : Sh} {xs : List PV} : cutP none 0 (.sl sh xs) = some (.sl sh xs):=(rfl)
theorem zkl : cutP none 0 .nilp = some .nilp:=(rfl)
theorem zkk {off : Nat} {cs : List PV} : cutP none off (.agg cs) = (cs[off]?).bind fun x=>if x.sc then some x else none:=(rfl)
theorem zqE {n off : Nat} {cs : List PV} : cutP (some n) off (.agg cs) = if off + n ≤ cs.length then some (.agg ((cs.drop off).take n)) else none:=(rfl)
theorem zvm {v : PV} (h : v.sc = true) : cutP none 0 v = some v:=by cases v <;> first | rfl | cases h
attribute [go_sem] zqF zkj zqG zvn zkl zkk zqE
theorem zvy {id : Nat} {v : PV} : z2V id (.p v) = []:=(rfl)
attribute [go_sem] List.take_succ_cons List.take_zero List.take_nil List.drop_succ_cons List.drop_zero List.drop_nil List.length_cons List.length_nil Nat.reduceLeDiff Nat.reduceLT Int.reduceLT Int.reduceLE Int.reduceAdd Int.reduceSub Int.reduceMul Int.reduceNeg Int.reduceEq Nat.reduceSub Nat.reduceMul Nat.le_refl List.append_assoc
theorem zpY {b : Nat} {x0 : Esc} {e : List (Nat × AV)} {h : Heap} : z8W b x0 ⟨e,h,[]⟩ = ⟨zb1 b e,h.take b,x0⟩:=(rfl)
theorem zkc {n : Nat} : zb1 n [] = []:=(rfl)
theorem zhf {n k : Nat} {v : AV} {r : List (Nat × AV)} : zb1 n ((k,v) :: r) = (k,if v.top ≤ n then v else .und) :: zb1 n r:=(rfl)
theorem top_p {v : PV} : AV.top (.p v) = 0:=(rfl)
theorem zex {id g o l : Nat} : AV.top (.own id g o l) = id + 1:=by simp [AV.top]
theorem zwM {id o : Nat} : AV.top (.ref id o) = id + 1:=by simp [AV.top]
theorem zs6 {id g i o : Nat} : AV.top (.rref id g i o) = id + 1:=by simp [AV.top]
theorem top_mp {id : Nat} : AV.top (.mp id) = id + 1:=by simp [AV.top]
theorem top_it {id : Nat} : AV.top (.it id) = id + 1:=by simp [AV.top]
theorem top_fn {f : Nat} {cs : List AV} : AV.top (.fn f cs) = AV.tops cs:=by simp [AV.top]
theorem zwK {cs : List AV} : AV.top (.agg cs) = AV.tops cs:=by simp [AV.top]
theorem zwP {cs : List AV} : AV.top (.tup cs) = AV.tops cs:=by simp [AV.top]
theorem top_vp {v : PV} : AV.top (.vp v) = 0:=(rfl)
theorem zwQ : AV.top .und = 0:=(rfl)
theorem zwN : AV.top .skp = 0:=(rfl)
theorem zs1 : AV.top .anyp = 0:=(rfl)
theorem top_bt {k t id g : Nat} : AV.top (.bt k t id g) = id + 1:=by simp [AV.top]
theorem zwO {sh : Sh} : AV.top (.sl0 sh) = 0:=(rfl)
theorem zs5 : AV.top .nilp = 0:=(rfl)
theorem zs4 : AV.top .nilm = 0:=(rfl)
theorem zs2 : AV.top .nilf = 0:=(rfl)
theorem zs3 : AV.top .nili = 0:=(rfl)
theorem zwL : AV.top .ifc = 0:=(rfl)
theorem zs7 : AV.tops [] = 0:=(rfl)
theorem zpU {v : AV} {r : List AV} : AV.tops (v :: r) = max v.top (AV.tops r):=by simp [AV.tops]
theorem zrT {b : Nat} {P : Post} {vs : List AV} {h : Heap} : retK false b P (some vs) h [] = match reif b h (z0U vs) with
 | some v0=>match reif (max b v0.top) h (z0U vs) with
  | some v=>v.top ≤ max b v0.top ∧ P v (h.take (max b v0.top)) []
  | none=>False
 | none=>False:=by
 simp only [retK,z27,List.length_nil,z1s,List.all_nil,if_true,List.filter_nil]
theorem zrP {b : Nat} {h : Heap} {id g off len : Nat} : reif b h (.own id g off len) = if b ≤ id then (rd h (.own id g off len)).map fun y=>.p (.sl y.1 y.2) else some (.own id g off len):=by simp only [reif]
theorem zrR {b : Nat} {h : Heap} {sh : Sh} : reif b h (.sl0 sh) = some (.p (.sl sh [])):=by simp only [reif]
theorem zrO {b : Nat} {h : Heap} {cs : List AV} : reif b h (.agg cs) = (z6V b h cs).map mkA:=by simp only [reif]
theorem zrS {b : Nat} {h : Heap} {cs : List AV} : reif b h (.tup cs) = (z6V b h cs).map .tup:=by simp only [reif]
theorem zrQ {b : Nat} {h : Heap} {id o : Nat} : reif b h (.ref id o) = some (.ref id o):=by simp only [reif]
theorem zwk {b : Nat} {h : Heap} {id : Nat} : reif b h (.mp id) = some (.mp id):=by simp only [reif]
theorem zwj {b f : Nat} {h : Heap} {cs : List AV} : reif b h (.fn f cs) = some (.fn f cs):=by simp only [reif]
theorem zhE {b : Nat} {h : Heap} {v : AV} {r : List AV} : z6V b h (v :: r) = (match reif b h v with | some x=>(z6V b h r).map (x :: ·) | none=>none):=by rw [z6V]; cases reif b h v <;> rfl
theorem zwe {v u : AV} {r : List AV} : z0U (v :: u :: r) = .tup (v :: u :: r):=(rfl)
theorem zwc : z0U [] = .tup []:=(rfl)
theorem zpN {h l : Heap} {id : Nat} {o : Obj} (hid : id < h.length) : (h ++ l).set id o = h.set id o ++ l:=List.set_append_left _ _ hid
theorem zm6 {h l : Heap} {id : Nat} (hid : id < h.length) : (h ++ l)[id]? = h[id]?:=List.getElem?_append_left hid
theorem zgu {h l : Heap} {i n : Nat} {o : Obj} : (h.set i o ++ l)[h.length + n]? = l[n]?:=by
 have:=z3y (h.set i o) l n; rwa [List.length_set] at this
theorem zpI {h l : Heap} {i : Nat} {o : Obj} : (h.set i o ++ l)[h.length]? = l[0]?:=zgu (n:=0)
theorem zgv {h l : Heap} {i n : Nat} {o q : Obj} : (h.set i o ++ l).set (h.length + n) q = h.set i o ++ l.set n q:=by
 have:=z7p (h.set i o) l n q; rwa [List.length_set] at this
theorem zpJ {h l : Heap} {i : Nat} {o q : Obj} : (h.set i o ++ l).set h.length q = h.set i o ++ l.set 0 q:=zgv (n:=0)
theorem zpK {h l : Heap} {i n : Nat} {o : Obj} : (h.set i o ++ l).take (h.length + n) = h.set i o ++ l.take n:=by
 have:=zaj (h.set i o) l n; rwa [List.length_set] at this
theorem zhK {h l : Heap} {i : Nat} {o : Obj} : (h.set i o ++ l).take h.length = h.set i o:=by
 have:=z5n (h.set i o) l; rwa [List.length_set] at this
theorem zgt {h l : Heap} {i n k : Nat} {o : Obj} : frz (h.set i o ++ l) (h.length + n) k = h.set i o ++ frz l n k:=by
 have:=zdI (h.set i o) l n k; rwa [List.length_set] at this
theorem zpH {h l : Heap} {i k : Nat} {o : Obj} : frz (h.set i o ++ l) h.length k = h.set i o ++ frz l 0 k:=zgt (n:=0)
theorem zgB {α : Type} {l : List α} {n : Nat} (h : l.length = n) : win l 0 n = l:=by subst h; simp [win]
theorem zwV {α : Type} (l : List α) : win l 0 l.length = l:=by simp [win]
attribute [go_sem] zpY zkc zhf top_p zex zwM zs6 top_mp top_it top_fn zwK zwP top_vp zwQ zwN zwO zs5 zs4 zs2 zs3 zwL zs1 top_bt zs7 zpU Nat.max_zero Nat.zero_max Nat.zero_le reif_p zrP zrR zrO zrS zrQ zwk zwj zpx zhE zwe zwc z3y zeT z7p zq2 zaj z5n zdI zq1 zgu zpI zgv zpJ zpK zhK zgt zpH List.length_append zwV Nat.add_le_add_iff_right Nat.zero_add Nat.add_zero
attribute [go_sem] za0 PV.shp List.reduceReplicate cond_true cond_false Bool.not_true Bool.not_false Bool.false_eq_true Bool.true_and Bool.and_true Bool.false_and Bool.and_false Bool.true_or Bool.or_true Bool.false_or Bool.or_false beq_self_eq_true List.all_cons List.all_nil
attribute [go_sem low] zrT
theorem zd1 {h : Heap} {id : Nat} {o : Obj} : (h.set id o).take h.length = h.set id o:=List.take_of_length_le (by simp)
attribute [go_sem] zd1 Int.natCast_zero Int.natCast_one Int.cast_ofNat_Int
attribute [go_sem] aun z8S zjG zjH List.foldlM_cons List.foldlM_nil Option.bind_some Option.pure_def Option.bind_eq_bind List.cons_append List.nil_append Int.zero_sub List.length_singleton
attribute [go_sem] zqD z0a zvy
attribute [congr] zdU
attribute [go_sem] zuD zib z8X doK_mv zqY zk6 zvs zk7 zvt zqP zkH zhl zvr zvu zkC zqU doK_un zqJ zqT zkD zqV zkE zkF zk9 zkA zkB zhi zqL zqM zqQ zqW zqS zhh zqR zvv zvw zqO zqN zvq zqK doK_mx doK_mn zhk zhj zqX zfw zc7 z1p ex3' zc8 zlX zlW zuI zqy zvx zrb zto List.not_mem_nil List.mem_cons List.mem_singleton forall_eq_or_imp forall_eq false_implies true_implies implies_true forall_const and_true true_and List.cons_append and_self reduceCtorEq List.getElem?_cons_zero List.getElem?_cons_succ Option.some.injEq exists_eq_left' List.set_cons_zero List.set_cons_succ List.set_set List.length_set
attribute [congr] zk8 zdM zd8 zd7
attribute [congr] zhr
attribute [go_sem] zqt zqu
attribute [go_sem] zuF AW_ret zuE AW_bad AW_reg AW_seq zuC zqq zqs AW_pr zwi zep zpL zsl zak zdK zhc zdv zqp zu9 zis zgG zqk zgH zql zij zgQ zdD zqj zqm zgM zio zuB zid zin zgN zip zgO zgP zgJ zgK zgL zdA zif zig zik ziq zim zd9 zil zqn zqo zii zih zqi zie zuA zu8 zdC zdB zir z9a zaY zn0 znz zrB zcW z9n z79 zkf zd4 decide_true decide_false z6P z9B zcP aop Opd.ev aget put z0A abin aint astr z1N ares zwd enter rd rds pur purs z0s mkA unp cut AV.cells PV.cells PV.sc AV.sc splice pint pbool zaz
attribute [go_sem low] z9m zhV ze0
theorem zg7 {A B : Prop} : z2N (.p (.bool true)) true A B = A:=(rfl)
theorem zg4 {A B : Prop} : z2N (.p (.bool false)) false A B = A:=(rfl)
theorem zg6 {A B : Prop} : z2N (.p (.bool true)) false A B = B:=(rfl)
theorem zg5 {A B : Prop} : z2N (.p (.bool false)) true A B = B:=(rfl)
attribute [go_sem] zg7 zg4 zg6 zg5
attribute [congr] zdS zez zh6 zgI zqr zhD zhL zbv zdu zeb
end Go.Am
end
section
/- The abstract machine,part 28: where no map is ranged over,a call that ends well ends in one way. -/
set_option linter.unusedSimpArgs false
set_option linter.unusedVariables false
namespace Go.Am
def AO.noNext : AO → Bool
 | .mnext _ _=>false
 | _=>true
def ACode.noNext : ACode → Bool
 | .reg ops _=>ops.all fun o=>o.op.noNext
 | .seq a b=>a.noNext && b.noNext
 | .cond _ a b=>a.noNext && b.noNext
 | .condu _ _ _=>false
 | .det _=>false
 | .block _ b=>b.noNext
 | .loop b=>b.noNext
 | .scope b=>b.noNext
 | .pr _ b=>b.noNext
 | _=>true
def Dt (C D : Hd) : Prop:=∀ f a h K,C f a h K → ∃ v h' x,K v h' x ∧ D f a h fun v1 h1 x1=>v1 = v ∧ h1 = h' ∧ x1 = x
variable {C D : Hd} {gl : Nat → Option PV}
theorem z5i (hD : D.Mono) (hC : Dt C D) : ∀ (ops : List AOp) e h x K,(ops.all fun o=>o.op.noNext) = true → AReg C gl ops e h x K → ∃ e' h' x',K e' h' x' ∧ AReg D gl ops e h x fun e1 h1 x1=>e1 = e' ∧ h1 = h' ∧ x1 = x'
 | [],e,h,x,K,_,H=>⟨e,h,x,H,rfl,rfl,rfl⟩
 | o :: r,e,h,x,K,hn,H=>by
  obtain ⟨dst,guard,op⟩:=o
  simp only [List.all_cons,Bool.and_eq_true] at hn
  obtain ⟨hn1,hn2⟩:=hn
  unfold AReg at H
  dsimp only at H
  split at H
  ·rename_i hw
   cases op
   case call f args=>
    obtain ⟨v,h',x',H',G'⟩:=hC _ _ _ _ H
    obtain ⟨e2,h2,x2,k2,g2⟩:=z5i hD hC r _ _ _ K hn2 H'
    refine ⟨e2,h2,x2,k2,?_⟩
    unfold AReg; simp only [hw]
    exact hD _ _ _ _ _ (fun v1 h1 x1 ⟨a1,a2,a3⟩=>by subst a1; subst a2; subst a3; exact g2) G'
   case callv f args=>
    dsimp only at H
    split at H
    ·rename_i hf
     obtain ⟨v,h',x',H',G'⟩:=hC _ _ _ _ H
     obtain ⟨e2,h2,x2,k2,g2⟩:=z5i hD hC r _ _ _ K hn2 H'
     refine ⟨e2,h2,x2,k2,?_⟩
     unfold AReg; simp only [hw,hf]
     exact hD _ _ _ _ _ (fun v1 h1 x1 ⟨a1,a2,a3⟩=>by subst a1; subst a2; subst a3; exact g2) G'
    ·exact H.elim
   case mnext sh xs=>simp [AO.noNext] at hn1
   all_goals
    dsimp only at H
    split at H
    ·rename_i ha
     obtain ⟨e2,h2,x2,k2,g2⟩:=z5i hD hC r _ _ _ K hn2 H
     refine ⟨e2,h2,x2,k2,?_⟩
     unfold AReg; simp only [hw,ha]
     exact g2
    ·exact H.elim
  ·rename_i hw
   obtain ⟨e2,h2,x2,k2,g2⟩:=z5i hD hC r _ _ _ K hn2 H
   refine ⟨e2,h2,x2,k2,?_⟩
   unfold AReg; simp only [hw]
   exact g2
  ·exact H.elim
theorem z6o (hD : D.Mono) (hC : Dt C D) {o : AOp} {e : List (Nat × AV)} {h h' : Heap} {v : AV} {x : Esc} (H : ADo C gl o e h v h' x) : ADo D gl o e h v h' x:=by
 have key : ∀ f a h,C f a h (fun v1 h1 x1=>v1 = v ∧ h1 = h' ∧ x1 = x) → D f a h (fun v1 h1 x1=>v1 = v ∧ h1 = h' ∧ x1 = x):=fun f a h hc=>by
  obtain ⟨v2,h2,x2,⟨e1,e2,e3⟩,hd⟩:=hC _ _ _ _ hc
  subst e1; subst e2; subst e3
  exact hd
 unfold ADo at H ⊢
 split at H
 ·split at H
  ·exact key _ _ _ H
  ·split at H
   ·exact key _ _ _ H
   ·exact H.elim
  ·exact H.elim
  ·exact H
 ·exact H
 ·exact H.elim
theorem zaX (hD : D.Mono) (hC : Dt C D) : ∀ (ds : List DOp) dn hs e h x K,z2f C gl ds dn hs e h x K → ∃ e' h' x',K e' h' x' ∧ z2f D gl ds dn hs e h x fun e1 h1 x1=>e1 = e' ∧ h1 = h' ∧ x1 = x'
 | [],dn,hs,e,h,x,K,H=>⟨e,h,x,H,rfl,rfl,rfl⟩
 | o :: r,dn,hs,e,h,x,K,H=>by
  obtain ⟨v,h',y,h1,h2,h3,h4,h5⟩:=H
  obtain ⟨e2,q2,x2,k2,g2⟩:=zaX hD hC r _ _ _ _ _ K h5
  exact ⟨e2,q2,x2,k2,v,h',y,z6o hD hC h1,h2,fun k hk=>by obtain ⟨g,a1,a2⟩:=h3 k hk; exact ⟨g,a1,z6o hD hC a2⟩,
   fun j hj=>by obtain ⟨q,a1,a2⟩:=h4 j hj; exact ⟨q,a1,z6o hD hC a2⟩,g2⟩
theorem zic {T U : St → (Ex → St → Prop) → Prop} (hT : ∀ s K,T s K → ∃ e s',K e s' ∧ U s fun e1 s1=>e1 = e ∧ s1 = s') {K : Ex → St → Prop} {s : St} (H : ALoop T K s) : ∃ e s',K e s' ∧ ALoop U (fun e1 s1=>e1 = e ∧ s1 = s') s:=by
 induction H with
 | mk s R h hn he hr ih=>
  obtain ⟨e,s',hR,hU⟩:=hT _ _ h
  cases e with
  | normal=>
   obtain ⟨e2,s2,k2,g2⟩:=ih s' hR
   exact ⟨e2,s2,k2,.mk _ _ hU (fun s1 ⟨_,h1⟩=>by subst h1; exact g2) (fun i s1 ⟨h1,_⟩=>by cases h1) (fun s1 ⟨h1,_⟩=>by cases h1)⟩
  | exit i=>exact ⟨_,_,he i s' hR,.mk _ _ hU (fun s1 ⟨h1,_⟩=>by cases h1) (fun j s1 h1=>h1) (fun s1 ⟨h1,_⟩=>by cases h1)⟩
  | ret=>exact ⟨_,_,hr s' hR,.mk _ _ hU (fun s1 ⟨h1,_⟩=>by cases h1) (fun j s1 ⟨h1,_⟩=>by cases h1) (fun s1 h1=>h1)⟩
theorem z5j (hD : D.Mono) (hC : Dt C D) : ∀ (c : ACode),c.noNext = true → ∀ s K,AW C gl c s K → ∃ e s',K e s' ∧ AW D gl c s fun e1 s1=>e1 = e ∧ s1 = s'
 | .skip,_,s,K,H=>⟨_,_,H,rfl,rfl⟩
 | .reg ops keep,hn,s,K,H=>by
  obtain ⟨e,h,x,h1,h2⟩:=z5i hD hC ops _ _ _ _ hn H
  refine ⟨_,_,h1,?_⟩
  show AReg D gl ops s.env s.h s.esc fun e1 h1 x1=>_
  exact z2k (C:=D) (C':=D) (fun f a h K K' hK h=>hD _ _ _ _ _ hK h) ops _ _ _ _ _ (fun e1 h1 x1 ⟨a1,a2,a3⟩=>by subst a1; subst a2; subst a3; exact ⟨rfl,rfl⟩) h2
 | .draw ds keep,_,s,K,H=>by
  obtain ⟨e,h,x,h1,h2⟩:=zaX hD hC ds _ _ _ _ _ _ H
  refine ⟨_,_,h1,?_⟩
  show z2f D gl ds [] [] s.env s.h s.esc fun e1 h1 x1=>_
  exact z6q (C:=D) (C':=D) (fun f a h K K' hK h=>hD _ _ _ _ _ hK h) ds _ _ _ _ _ _ _ (fun e1 h1 x1 ⟨a1,a2,a3⟩=>by subst a1; subst a2; subst a3; exact ⟨rfl,rfl⟩) h2
 | .seq a b,hn,s,K,H=>by
  simp only [ACode.noNext,Bool.and_eq_true] at hn
  obtain ⟨e,s',h1,h2⟩:=z5j hD hC a hn.1 _ _ H
  have mono:=fun (K K' : Ex → St → Prop) (hK : ∀ e s,K e s → K' e s)=>z1n (C:=D) (C':=D) (gl:=gl) (fun f a h K K' hK h=>hD _ _ _ _ _ hK h) a s K K' hK
  cases e with
  | normal=>
   obtain ⟨e2,s2,k2,g2⟩:=z5j hD hC b hn.2 _ _ h1
   refine ⟨e2,s2,k2,mono _ _ (fun e1 s1 ⟨a1,a2⟩=>?_) h2⟩
   subst a1; subst a2; exact g2
  | exit i=>exact ⟨_,_,h1,mono _ _ (fun e1 s1 ⟨a1,a2⟩=>by subst a1; subst a2; exact ⟨rfl,rfl⟩) h2⟩
  | ret=>exact ⟨_,_,h1,mono _ _ (fun e1 s1 ⟨a1,a2⟩=>by subst a1; subst a2; exact ⟨rfl,rfl⟩) h2⟩
 | .condu c a b,hn,s,K,H=>by cases hn
 | .det b,hn,s,K,H=>by cases hn
 | .cond c a b,hn,s,K,H=>by
  simp only [ACode.noNext,Bool.and_eq_true] at hn
  unfold AW at H
  split at H
  ·rename_i t ht
   split at H
   ·obtain ⟨e,s',h1,h2⟩:=z5j hD hC a hn.1 _ _ H
    refine ⟨e,s',h1,?_⟩
    unfold AW; simp only [ht]; exact h2
   ·obtain ⟨e,s',h1,h2⟩:=z5j hD hC b hn.2 _ _ H
    refine ⟨e,s',h1,?_⟩
    unfold AW; simp only [ht]; exact h2
  ·exact H.elim
 | .block id b,hn,s,K,H=>by
  obtain ⟨e,s',h1,h2⟩:=z5j hD hC b hn _ _ H
  have mono:=fun (K K' : Ex → St → Prop) (hK : ∀ e s,K e s → K' e s)=>z1n (C:=D) (C':=D) (gl:=gl) (fun f a h K K' hK h=>hD _ _ _ _ _ hK h) b s K K' hK
  cases e with
  | normal=>exact ⟨_,_,h1,mono _ _ (fun e1 s1 ⟨a1,a2⟩=>by subst a1; subst a2; exact ⟨rfl,rfl⟩) h2⟩
  | exit i=>
   dsimp only at h1
   split at h1
   ·rename_i hi
    exact ⟨_,_,h1,mono _ _ (fun e1 s1 ⟨a1,a2⟩=>by subst a1; subst a2; dsimp only; rw [if_pos hi]; exact ⟨rfl,rfl⟩) h2⟩
   ·rename_i hi
    exact ⟨_,_,h1,mono _ _ (fun e1 s1 ⟨a1,a2⟩=>by subst a1; subst a2; dsimp only; rw [if_neg hi]; exact ⟨rfl,rfl⟩) h2⟩
  | ret=>exact ⟨_,_,h1,mono _ _ (fun e1 s1 ⟨a1,a2⟩=>by subst a1; subst a2; exact ⟨rfl,rfl⟩) h2⟩
 | .loop b,hn,s,K,H=>zic (fun s K h=>z5j hD hC b hn s K h) H
 | .scope b,hn,s,K,H=>by
  obtain ⟨e,s',h1,h2⟩:=z5j hD hC b hn _ _ H
  exact ⟨_,_,h1,z1n (C:=D) (C':=D) (gl:=gl) (fun f a h K K' hK h=>hD _ _ _ _ _ hK h) b _ _ _ (fun e1 s1 ⟨a1,a2⟩=>by subst a1; subst a2; exact ⟨rfl,rfl⟩) h2⟩
 | .pr l b,hn,s,K,H=>z5j hD hC b hn _ K H
 | .exit id,_,s,K,H=>⟨_,_,H,rfl,rfl⟩
 | .ret,_,s,K,H=>⟨_,_,H,rfl,rfl⟩
 | .bad,_,s,K,H=>H.elim
theorem zmx {F : AFun} {b : Nat} {s : St} {K : Post} (H : fin F b s K) : ∃ v h x,K v h x ∧ fin F b s fun v1 h1 x1=>v1 = v ∧ h1 = h ∧ x1 = x:=by
 unfold fin at H
 cases h1 : z1N s F.results with
 | none=>rw [h1] at H; exact H.elim
 | some vs=>
  rw [h1] at H
  dsimp only at H
  cases h2 : F.keep with
  | true=>
   rw [h2] at H
   dsimp only at H
   by_cases h3 : z1s s.esc (z27 (List.length s.esc) s.esc (max b (z0U vs).top)) = true
   ·rw [if_pos h3] at H
    exact ⟨_,_,_,H,by unfold fin; rw [h1]; dsimp only; rw [h2]; dsimp only; rw [if_pos h3]; exact ⟨rfl,rfl,rfl⟩⟩
   ·rw [if_neg h3] at H
    exact ⟨_,_,_,H,by unfold fin; rw [h1]; dsimp only; rw [h2]; dsimp only; rw [if_neg h3]; exact ⟨rfl,rfl,rfl⟩⟩
  | false=>
   rw [h2] at H
   dsimp only at H
   cases h4 : reif b s.h (z0U vs) with
   | none=>rw [h4] at H; exact H.elim
   | some v0=>
    rw [h4] at H
    dsimp only at H
    by_cases h3 : z1s s.esc (z27 (List.length s.esc) s.esc (max b v0.top)) = true
    ·rw [if_pos h3] at H
     cases h5 : reif (z27 (List.length s.esc) s.esc (max b v0.top)) s.h (z0U vs) with
     | none=>rw [h5] at H; exact H.elim
     | some v=>
      rw [h5] at H
      exact ⟨_,_,_,H.2,by unfold fin; rw [h1]; dsimp only; rw [h2]; dsimp only; rw [h4]; dsimp only; rw [if_pos h3,h5]; exact ⟨H.1,rfl,rfl,rfl⟩⟩
    ·rw [if_neg h3] at H
     exact ⟨_,_,_,H,by unfold fin; rw [h1]; dsimp only; rw [h2]; dsimp only; rw [h4]; dsimp only; rw [if_neg h3]; exact ⟨rfl,rfl,rfl⟩⟩
def Ctx.NoNext (X : Ctx) : Prop:=∀ f F,X.fn f = some F → (F.isDet || F.body.noNext) = true
theorem zjC (hD : D.Mono) (hC : Dt C D) {F : AFun} {a : List AV} {h : Heap} {K : Post} (hb : F.body.noNext = true) (H : z2J C gl F a h K) : ∃ v h' x,K v h' x ∧ z2J D gl F a h fun v1 h1 x1=>v1 = v ∧ h1 = h' ∧ x1 = x:=by
 unfold z2J at H ⊢
 cases hp : (if F.byref then some (a,h) else z0s h a) with
 | none=>rw [hp] at H; exact H.elim
 | some q=>
  obtain ⟨asv,h1⟩:=q
  rw [hp] at H
  obtain ⟨hl,H⟩:=H
  obtain ⟨e,s',k1,g1⟩:=z5j hD hC _ hb _ _ H
  have mono:=fun (K K' : Ex → St → Prop) (hK : ∀ e s,K e s → K' e s)=>z1n (C:=D) (C':=D) (gl:=gl) (fun f a h K K' hK h=>hD _ _ _ _ _ hK h) F.body ⟨enter asv,h1,[]⟩ K K' hK
  cases e with
  | exit i=>exact k1.elim
  | normal=>
   obtain ⟨v,h',x,k2,g2⟩:=zmx k1
   exact ⟨v,h',x,k2,hl,mono _ _ (fun e1 s1 ⟨a1,a2⟩=>by subst a1; subst a2; exact g2) g1⟩
  | ret=>
   obtain ⟨v,h',x,k2,g2⟩:=zmx k1
   exact ⟨v,h',x,k2,hl,mono _ _ (fun e1 s1 ⟨a1,a2⟩=>by subst a1; subst a2; exact g2) g1⟩
theorem zhX {X : Ctx} (hX : X.NoNext) : Dt (z0c X) (z0c X):=by
 intro f a h K H
 refine H (fun f a h K=>∃ v h' x,K v h' x ∧ z0c X f a h fun v1 h1 x1=>v1 = v ∧ h1 = h' ∧ x1 = x) ?_ ?_
 ·intro f a h K K' hK ⟨v,h',x,k,g⟩
  exact ⟨v,h',x,hK _ _ _ k,g⟩
 ·intro f a h K H
  have hC : Dt (fun f a h K=>∃ v h' x,K v h' x ∧ z0c X f a h fun v1 h1 x1=>v1 = v ∧ h1 = h' ∧ x1 = x) (z0c X):=fun f a h K H=>H
  have hD:=z0c.mono X
  unfold Step at H
  split at H
  ·rename_i F hF
   unfold z5c at H
   cases hd : F.isDet with
   | true=>
    rw [hd] at H
    obtain ⟨v,h',x,k,H⟩:=H
    refine ⟨v,h',x,k,z0c.fold ?_⟩
    unfold Step
    simp only [hF,z5c,hd]
    exact ⟨v,h',x,⟨rfl,rfl,rfl⟩,z4z (fun f a h K K' hK ⟨v2,h2,x2,k2,g2⟩=>hD _ _ _ _ _ (fun v1 h1 x1 hv=>by obtain ⟨rfl,rfl,rfl⟩:=hv; exact hK _ _ _ k2) g2) (fun _ _ _ h=>h) H⟩
   | false=>
    rw [hd] at H
    obtain ⟨v,h',x,k1,g1⟩:=zjC hD hC (by have:=hX f F hF; rw [hd] at this; simpa using this) H
    refine ⟨v,h',x,k1,z0c.fold ?_⟩
    unfold Step; simp only [hF,z5c,hd]
    exact g1
  ·rename_i hF
   split at H
   ·rename_i hx2
    refine ⟨_,_,_,H,z0c.fold ?_⟩
    unfold Step; simp only [hF,hx2]
    exact ⟨trivial,trivial,trivial⟩
   ·rename_i hx2
    split at H
    ·rename_i hp
     split at H
     ·rename_i hu
      split at H
      ·rename_i hx
       refine ⟨_,_,_,H,z0c.fold ?_⟩
       unfold Step; simp only [hF,hx2,hp,hu,hx]
       exact ⟨trivial,trivial,trivial⟩
      ·exact H.elim
     ·exact H.elim
    ·exact H.elim
theorem z0c.one {X : Ctx} (hX : X.NoNext) {f : Nat} {a : List AV} {h : Heap} {Q : Post} (H : z0c X f a h Q) : ∃ v h' x,Q v h' x ∧ ∀ K : Post,z0c X f a h K = K v h' x:=by
 obtain ⟨v,h',x,k,g⟩:=zhX hX _ _ _ _ H
 exact ⟨v,h',x,k,fun K=>rule g⟩
end Go.Am
end
section
/- The abstract machine,part 29: its meaning once more,spelt so that a function's code can be printed asv a formula over its values (shallow),equal tov the deep one by computing. -/
set_option linter.unusedSimpArgs false
set_option linter.unusedVariables false
namespace Go.Am
def pK (o : Option AV) (k : AV → Prop) : Prop:=match o with
 | some v=>k v
 | none=>False
def wK (o : Option (AV × Heap × Esc)) (k : AV → Heap → Esc → Prop) : Prop:=match o with
 | some y=>k y.1 y.2.1 y.2.2
 | none=>False
def z1q (c a b : AV) : Option AV:=match c with
 | .p (.bool t)=>some (bif t then a else b)
 | _=>none
def oBox (x : AV) (h : Heap) : Option (AV × Heap × Esc):=match x.cells with
 | some cs=>some (.ref h.length 0,h ++ [.box cs],[])
 | none=>none
def zmt : List (Nat × Nat × AV) → List AV → Option (List AV)
 | [],cs=>some cs
 | (off,n,x) :: r,cs=>match x.cells with
  | some vs=>if vs.length = n ∧ off + n ≤ cs.length then zmt r (splice cs off vs) else none
  | none=>none
def z03 (z : List AV) (ps : List (Nat × Nat × AV)) : Option AV:=(zmt ps z).map mkA
def zmu (sh : Sh) : List (Nat × AV) → Heap → List PV → Option (List PV × Heap)
 | [],h,xs=>some (xs,h)
 | (i,x) :: r,h,xs=>match pur h x with
  | some (v,h')=>if v.shp sh ∧ i < xs.length then zmu sh r h' (xs.set i v) else none
  | none=>none
def oBsl (own : Bool) (sh : Sh) (n : Nat) (z : PV) (ps : List (Nat × AV)) (h : Heap) : Option (AV × Heap × Esc):=match zmu sh ps h (List.replicate n z) with
 | some (xs,h')=>if !z.shp sh then none else some (bif own then (.own h'.length n 0 n,h' ++ [.row sh xs 0],[]) else (.p (.sl sh xs),h',[]))
 | none=>none
def z0g (sh : Sh) (a : AV) (h : Heap) : Option AV:=match a with
 | .ref id off=>match h[id]? with
  | some (.box cs)=>cut sh off cs
  | _=>none
 | .rref id g i off=>match h[id]? with
  | some (.row _ xs _)=>if g = xs.length then ((xs[i]?).bind (cutP sh off)).map .p else none
  | _=>none
 | .vp v=>(cutP sh 0 v).map .p
 | .bt k off id g=>ldA sh k off id g h
 | _=>none
def z0n (sh : Sh) (a x : AV) (h : Heap) : Option (AV × Heap × Esc):=match a with
 | .ref id off=>match h[id]?,x.cells with
  | some (.box cs),some vs=>if vs.length = z0a sh ∧ off + vs.length ≤ cs.length then some (.und,h.set id (.box (splice cs off vs)),escS id cs x) else none
  | _,_=>none
 | .rref id g i off=>match pur h x with
  | some (v,h1)=>match h1[id]? with
   | some (.row rsh xs fz)=>if g = xs.length ∧ fz ≤ i ∧ v.cells.length = z0a sh ∧ v.cells.all PV.sc then match xs[i]? with
    | some (.agg cs)=>if off + v.cells.length ≤ cs.length then some (.und,h1.set id (.row rsh (xs.set i (.agg (splice cs off v.cells))) fz),[]) else none
    | some _=>if off = 0 ∧ v.sc then some (.und,h1.set id (.row rsh (xs.set i v) fz),[]) else none
    | none=>none
    else none
   | _=>none
  | none=>none
 | .bt k off id g=>stA sh k off id g x h
 | _=>none
def oNil (x : AV) : Option AV:=match x with
 | .ref _ _ | .rref _ _ _ _ | .vp _ | .fn _ _=>some x
 | .bt k _ _ _=>nlA k x
 | _=>none
def oBin (op : BinOp) (x y : AV) : Option AV:=match x,y with
 | .p a,.p b=>(abin op a b).map .p
 | _,_=>none
def oEqa (ks : List Nat) (neg : Bool) (x y : AV) : Option AV:=match x,y with
 | .p (.agg asv),.p (.agg bs)=>if asv.map PV.kind = ks ∧ bs.map PV.kind = ks ∧ ks ≠ [] then (eqs asv bs).map fun t=>pbool (bif neg then !t else t) else none
 | .p (.bool a),.p (.bool b)=>if ks = [] then some (pbool (bif neg then !decide (a = b) else decide (a = b))) else none
 | _,_=>none
def zcV (k : Nat) (neg : Bool) (x : AV) : Option AV:=bif z6Q k x then some .anyb else (znt k x).map fun r=>pbool (bif neg then !r else r)
def oMkif (x : AV) : Option AV:=if okIn x then some .ifc else none
def oUn (op : UnOp) (x : AV) : Option AV:=match x with
 | .p a=>(aun op a).map .p
 | _=>none
def za6 (c : Cv) (x : AV) (h : Heap) : Option (AV × Heap × Esc):=(z8S h c x).map fun y=>(y.1,y.2,[])
def zcT (k : IntKind) (x : AV) : Option AV:=match x with
 | .p (.int _ n)=>some (.p (.int k (k.wrap n)))
 | _=>none
def oMksl (sh : Sh) (z : PV) (len cap : AV) (h : Heap) : Option (AV × Heap × Esc):=match z1f len,z1f cap with
 | some n,some m=>if n ≤ m ∧ m ≤ z0F ∧ z.shp sh then some (.own h.length n 0 n,h ++ [.row sh (List.replicate n z) 0],[]) else none
 | _,_=>none
def bndV (d : Nat) : Option AV → Option Nat
 | none=>some d
 | some x=>z1f x
def znw (x : AV) (lo hi : Option AV) : Option AV:=match x with
 | .p (.str s)=>match bndV 0 lo,bndV s.length hi with
  | some l,some r=>if l ≤ r ∧ r ≤ s.length then some (.p (.str (win s l (r - l)))) else none
  | _,_=>none
 | _=>none
def z9E (sh : Sh) (x : AV) (lo hi mx : Option AV) (h : Heap) : Option AV:=match x with
 | .p (.sl sh' xs)=>match bndV 0 lo,bndV xs.length hi,bndV xs.length mx with
  | some l,some r,some m=>if sh' = sh ∧ l ≤ r ∧ r ≤ m ∧ m ≤ xs.length then some (if mx.isSome ∧ m = l then .sl0 sh else .p (.sl sh (win xs l (r - l)))) else none
  | _,_,_=>none
 | .sl0 sh'=>match bndV 0 lo,bndV 0 hi,bndV 0 mx with
  | some l,some r,some m=>if l = 0 ∧ r = 0 ∧ m = 0 then some (.sl0 sh') else none
  | _,_,_=>none
 | .own id g off len=>match h[id]? with
  | some (.row rsh xs _)=>match bndV 0 lo,bndV len hi,bndV len mx with
   | some l,some r,some m=>if rsh = sh ∧ g = xs.length ∧ off + len ≤ xs.length ∧ l ≤ r ∧ r ≤ m ∧ m ≤ len then some (if mx.isSome ∧ m = l then .sl0 sh else .own id g (off + l) (r - l)) else none
   | _,_,_=>none
  | _=>none
 | _=>none
def z0e (off : Nat) (sh : Sh) (x : AV) : Option AV:=match x with
 | .ref id o=>some (.ref id (o + off))
 | .rref id g i o=>some (.rref id g i (o + off))
 | .vp v=>(cutP sh off v).map .vp
 | .bt k o id g=>faA k off o id g
 | _=>none
def z8h (off : Nat) (sh : Sh) (x : AV) : Option AV:=match x with
 | .p v=>match v with
  | .agg _=>(cutP sh off v).map .p
  | _=>none
 | .agg cs=>cut sh off cs
 | _=>none
def z0E (sh : Sh) (x i : AV) (h : Heap) : Option AV:=match x,z1f i with
 | .p (.sl sh' xs),some k=>if sh' = sh then (xs[k]?).map .vp else none
 | .own id g off len,some k=>match h[id]? with
  | some (.row rsh xs _)=>if rsh = sh ∧ g = xs.length ∧ off + len ≤ xs.length ∧ k < len then some (.rref id g (off + k) 0) else none
  | _=>none
 | .bt kk _ id g,some k=>iaA sh kk id g k h
 | _,_=>none
def z8i (n : Nat) (sh : Sh) (x i : AV) : Option AV:=match x,z1f i with
 | .ref id o,some k=>if k < n then some (.ref id (o + k * z0a sh)) else none
 | .rref id g j o,some k=>if k < n then some (.rref id g j (o + k * z0a sh)) else none
 | .vp v,some k=>if k < n then (cutP sh (k * z0a sh) v).map .vp else none
 | _,_=>none
def zcU (n : Nat) (sh : Sh) (x i : AV) : Option AV:=match x,z1f i with
 | .p (.agg cs),some k=>if k < n then (cutP sh (k * z0a sh) (.agg cs)).map .p else none
 | _,_=>none
def z8j (x i : AV) : Option AV:=match x,z1f i with
 | .p (.str s),some k=>(s[k]?).map fun b=>.p (.int .u8 b.toNat)
 | _,_=>none
def oExt (x : AV) (i : Nat) : Option AV:=match x with
 | .tup vs=>vs[i]?
 | _=>none
def oLen (x : AV) : Option AV:=match x with
 | .p (.sl _ xs)=>some (pint xs.length)
 | .sl0 _=>some (pint 0)
 | .own _ _ _ len=>some (pint len)
 | .bt k _ _ g=>lnA k g
 | _=>none
def z1j (x : AV) : Option AV:=match x with
 | .p (.str s)=>some (pint s.length)
 | _=>none
def oApp (sh : Sh) (s x : AV) (h : Heap) : Option (AV × Heap × Esc):=match rds h x with
 | some (sh',ys)=>if sh' = sh then match s with
  | .sl0 _=>if ys.length ≤ z0F then some (.own h.length ys.length 0 ys.length,h ++ [.row sh ys 0],[]) else none
  | .own id g off len=>match h[id]? with
   | some (.row rsh xs fz)=>if rsh = sh ∧ g = xs.length ∧ off = 0 ∧ len = xs.length ∧ len + ys.length ≤ z0F ∧ fz ≤ xs.length then some (.own id (g + ys.length) off (len + ys.length),h.set id (.row sh (xs ++ ys) fz),[])
    else if rsh = sh ∧ g = xs.length ∧ off + len + ys.length ≤ xs.length ∧ fz ≤ off + len ∧ 1 ≤ ys.length ∧ len + ys.length ≤ z0F ∧ sh = none ∧ xs.all PV.intP = true ∧ ys.all PV.intP = true then
     some (.p (.sl sh (win xs off len ++ ys)),h.set id (.row sh (splice xs (off + len) (List.replicate ys.length .unk)) (off + len + ys.length)),[])
    else none
   | _=>none
  | _=>none
  else none
 | none=>none
def oCopy (sh : Sh) (d s : AV) (h : Heap) : Option (AV × Heap × Esc):=match d,rds h s with
 | .own id g off len,some (sh',ys)=>match h[id]? with
  | some (.row rsh xs fz)=>if rsh = sh ∧ sh' = sh ∧ g = xs.length ∧ off + len ≤ xs.length ∧ fz ≤ off then
   some (pint (min ys.length len),h.set id (.row sh (splice xs off (ys.take (min ys.length len))) fz),[])
   else none
  | _=>none
 | _,_=>none
def oClr (sh : Sh) (z : PV) (x : AV) (h : Heap) : Option (AV × Heap × Esc):=match x with
 | .sl0 _=>some (.tup [],h,[])
 | .own id g off len=>match h[id]? with
  | some (.row rsh xs fz)=>if rsh = sh ∧ g = xs.length ∧ off + len ≤ xs.length ∧ fz ≤ off then
   some (.tup [],h.set id (.row sh (splice xs off (List.replicate len z)) fz),[])
   else none
  | _=>none
 | _=>none
def oMx (xs : List AV) : Option AV:=match xs with
 | .p a :: r=>((unp r).bind fun l=>l.foldlM zjG a).map .p
 | _=>none
def oMn (xs : List AV) : Option AV:=match xs with
 | .p a :: r=>((unp r).bind fun l=>l.foldlM zjH a).map .p
 | _=>none
def z6U (kk : Sh × List Nat) (ok : Bool) (z x k : AV) (h : Heap) : Option AV:=match z4H kk k with
 | some key=>match (match x with | .nilm=>some [] | m=>(mget h m).map fun y=>y.2.1) with
  | some es=>match z2t key es with
   | some r=>
    let v:=((r.bind (es[·]?)).map ME.val)
    some (bif ok then .tup [v.getD z,pbool v.isSome] else v.getD z)
   | none=>none
  | none=>none
 | none=>none
def za9 (kk : Sh × List Nat) (m k x : AV) (h : Heap) : Option (AV × Heap × Esc):=match z4H kk k,mget h m,okIn x with
 | some key,some (id,es,c),true=>match z2t key es with
  | some (some i)=>some (.und,h.set id (.amap (es.modify i fun e=>{ e with val:=x }) c),z2V id x)
  | some none=>some (.und,h.set id (.amap (es ++ [⟨key,x,c⟩]) (c + 1)),z2V id x)
  | none=>none
 | _,_,_=>none
def oMent (kk : Sh × List Nat) (z m k : AV) (h : Heap) : Option (AV × Heap × Esc):=match z4H kk k,mget h m with
 | some key,some (id,es,c)=>match z2t key es with
  | some (some i)=>(es[i]?).map fun e=>(.tup [e.val,pint e.born],h,[])
  | some none=>some (.tup [z,pint c],h.set id (.amap (es ++ [⟨key,z,c⟩]) (c + 1)),[])
  | none=>none
 | _,_=>none
def znv (m s x : AV) (h : Heap) : Option (AV × Heap × Esc):=match mget h m,z1f s,okIn x with
 | some (id,es,c),some b,true=>match es.findIdx? (fun e=>e.born == b) with
  | some i=>some (.und,h.set id (.amap (es.modify i fun e=>{ e with val:=x }) c),z2V id x)
  | none=>none
 | _,_,_=>none
def oMdel (kk : Sh × List Nat) (m k : AV) (h : Heap) : Option (AV × Heap × Esc):=match z4H kk k,mget h m with
 | some key,some (id,es,c)=>match z2t key es with
  | some (some i)=>some (.und,h.set id (.amap (es.eraseIdx i) c),[])
  | some none=>some (.und,h,[])
  | none=>none
 | _,_=>none
def zvZ (x : AV) (h : Heap) : Option AV:=match x with
 | .nilm=>some (pint 0)
 | .mp id=>(mget h (.mp id)).map fun y=>pint y.2.1.length
 | _=>none
def za8 (x : AV) (h : Heap) : Option (AV × Heap × Esc):=match mget h x with
 | some (id,_,c)=>some (.it h.length,h ++ [.iter (some id) c [] c],[])
 | none=>match x with
  | .nilm=>some (.it h.length,h ++ [.iter none 0 [] 0],[])
  | _=>none
def za7 (i : AV) (h : Heap) : Option (AV × Heap × Esc):=match i with
 | .it id=>match h[id]? with
  | some (.iter (some m) _ seen last)=>match mget h (.mp m),seen.getLast? with
   | some (_,es,c),some b=>if c = last then (es.find? (fun e=>e.born == b)).map fun e=>(.tup [.p e.key,e.val],h,[]) else none
   | _,_=>none
  | _=>none
 | _=>none
def alK (z : List AV) (h : Heap) (k : AV → Heap → Esc → Prop) : Prop:=k (.ref h.length 0) (h ++ [.box z]) []
def nwK (sh : Sh) (h : Heap) (k : AV → Heap → Esc → Prop) : Prop:=k (.own h.length 0 0 0) (h ++ [.row sh [] 0]) []
def mmK (h : Heap) (k : AV → Heap → Esc → Prop) : Prop:=k (.mp h.length) (h ++ [.amap [] 0]) []
def ev3 (ev : Opd → AV) : List (Nat × Nat × Opd) → List (Nat × Nat × AV)
 | []=>[]
 | (a,b,x) :: r=>(a,b,ev x) :: ev3 ev r
def ev2 (ev : Opd → AV) : List (Nat × Opd) → List (Nat × AV)
 | []=>[]
 | (a,x) :: r=>(a,ev x) :: ev2 ev r
def evO (ev : Opd → AV) : Option Opd → Option AV
 | none=>none
 | some x=>some (ev x)
def ev1 (ev : Opd → AV) : List Opd → List AV
 | []=>[]
 | x :: r=>ev x :: ev1 ev r
def opN (o : AO) (ev : Opd → AV) (h : Heap) (k : AV → Heap → Esc → Prop) : Prop:=match o with
 | .mv x=>k (ev x) h []
 | .pick c a b=>pK (z1q (ev c) (ev a) (ev b)) fun v=>k v h []
 | .alloc z=>alK z h k
 | .box x=>wK (oBox (ev x) h) k
 | .build z ps=>pK (z03 z (ev3 ev ps)) fun v=>k v h []
 | .bsl own sh n z ps=>wK (oBsl own sh n z (ev2 ev ps) h) k
 | .load sh a=>pK (z0g sh (ev a) h) fun v=>k v h []
 | .store sh a x=>wK (z0n sh (ev a) (ev x) h) k
 | .nilchk x=>pK (oNil (ev x)) fun v=>k v h []
 | .bin op x y=>pK (oBin op (ev x) (ev y)) fun v=>k v h []
 | .eqa ks neg x y=>pK (oEqa ks neg (ev x) (ev y)) fun v=>k v h []
 | .isnil n neg x=>pK (zcV n neg (ev x)) fun v=>k v h []
 | .mkif x=>pK (oMkif (ev x)) fun v=>k v h []
 | .un op x=>pK (oUn op (ev x)) fun v=>k v h []
 | .conv (.i c) x=>pK (zcT c (ev x)) fun v=>k v h []
 | .mkfn f caps=>k (.fn f (ev1 ev caps)) h []
 | .slice sh x lo hi mx=>pK (z9E sh (ev x) (evO ev lo) (evO ev hi) (evO ev mx) h) fun v=>k v h []
 | .slstr x lo hi=>pK (znw (ev x) (evO ev lo) (evO ev hi)) fun v=>k v h []
 | .mksl sh z len cap=>wK (oMksl sh z (ev len) (ev cap) h) k
 | .faddr off sh x=>pK (z0e off sh (ev x)) fun v=>k v h []
 | .field off sh x=>pK (z8h off sh (ev x)) fun v=>k v h []
 | .iaddr sh x i=>pK (z0E sh (ev x) (ev i) h) fun v=>k v h []
 | .iaddra n sh x i=>pK (z8i n sh (ev x) (ev i)) fun v=>k v h []
 | .idxa n sh x i=>pK (zcU n sh (ev x) (ev i)) fun v=>k v h []
 | .idxs x i=>pK (z8j (ev x) (ev i)) fun v=>k v h []
 | .ext x i=>pK (oExt (ev x) i) fun v=>k v h []
 | .len x=>pK (oLen (ev x)) fun v=>k v h []
 | .lens x=>pK (z1j (ev x)) fun v=>k v h []
 | .app sh s x=>wK (oApp sh (ev s) (ev x) h) k
 | .copy sh d s=>wK (oCopy sh (ev d) (ev s) h) k
 | .uns m t xs=>wK (z15 m t (ev1 ev xs) h) k
 | .clr sh z x=>wK (oClr sh z (ev x) h) k
 | .mx xs=>pK (oMx (ev1 ev xs)) fun v=>k v h []
 | .mn xs=>pK (oMn (ev1 ev xs)) fun v=>k v h []
 | .new0 sh=>nwK sh h k
 | .conv .s2b x=>wK (za6 .s2b (ev x) h) k
 | .conv .b2s x=>wK (za6 .b2s (ev x) h) k
 | .conv .r2s x=>wK (za6 .r2s (ev x) h) k
 | .conv .same x=>wK (za6 .same (ev x) h) k
 | .mkmap=>mmK h k
 | .look kk ok z x key=>pK (z6U kk ok z (ev x) (ev key) h) fun v=>k v h []
 | .mupd kk m key x=>wK (za9 kk (ev m) (ev key) (ev x) h) k
 | .ment kk z m key=>wK (oMent kk z (ev m) (ev key) h) k
 | .estore m s x=>wK (znv (ev m) (ev s) (ev x) h) k
 | .mdel kk m key=>wK (oMdel kk (ev m) (ev key) h) k
 | .lenm x=>pK (zvZ (ev x) h) fun v=>k v h []
 | .mrange x=>wK (za8 (ev x) h) k
 | .mentry i=>wK (za7 (ev i) h) k
 | .call _ _ | .callv _ _ | .mnext _ _=>False
theorem zu4 {o : Option (AV × Heap × Esc)} {k : AV → Heap → Esc → Prop} : optK o k = wK o k:=rfl
theorem z4T {o : Option AV} {h : Heap} {k : AV → Heap → Esc → Prop} : wK (o.map fun v=>(v,h,[])) k = pK o fun v=>k v h []:=by cases o <;> rfl
theorem zf5 (ev : Opd → AV) : ∀ (ps : List (Nat × Nat × Opd)) (z : List AV),zaz ev ps z = zmt (ev3 ev ps) z
 | [],z=>rfl
 | (off,n,x) :: r,z=>by
  simp only [zaz,ev3,zmt]
  cases (ev x).cells with
  | none=>rfl
  | some vs=>simp only [zf5 ev r]
theorem zf6 (ev : Opd → AV) (sh : Sh) : ∀ (ps : List (Nat × Opd)) (h : Heap) (z : List PV),za0 ev sh ps h z = zmu sh (ev2 ev ps) h z
 | [],h,z=>rfl
 | (i,x) :: r,h,z=>by
  simp only [za0,ev2,zmu]
  cases pur h (ev x) with
  | none=>rfl
  | some y=>simp only [zf6 ev sh r]
theorem zti (ev : Opd → AV) (d : Nat) (o : Option Opd) : bnd ev d o = bndV d (evO ev o):=by cases o <;> rfl
theorem zre (ev : Opd → AV) (o : Option Opd) : (evO ev o).isSome = o.isSome:=by cases o <;> rfl
theorem z5v (ev : Opd → AV) (l : List Opd) : l.map ev = ev1 ev l:=by
 induction l with
 | nil=>rfl
 | cons x r ih=>simp only [List.map_cons,ev1,ih]
theorem asl_eq (sh : Sh) (ev : Opd → AV) (h : Heap) (x : AV) (lo hi mx : Option Opd) : asl sh ev h x lo hi mx = z9E sh x (evO ev lo) (evO ev hi) (evO ev mx) h:=by
 unfold asl z9E
 simp only [zti,zre]
 rfl
theorem z69 {p : Prop} [Decidable p] {a : AV} {h : Heap} {k : AV → Heap → Esc → Prop} : wK (if p then some (a,h,[]) else none) k = pK (if p then some a else none) fun v=>k v h []:=by split <;> rfl
theorem z26 {α : Type} {o : Option α} {f : α → AV} {h : Heap} {k : AV → Heap → Esc → Prop} : wK (o.map fun v=>(f v,h,[])) k = pK (o.map f) fun v=>k v h []:=by cases o <;> rfl
theorem z25 {α : Type} {p : Prop} [Decidable p] {o : Option α} {f : α → AV} {h : Heap} {k : AV → Heap → Esc → Prop} : wK (if p then o.map (fun v=>(f v,h,[])) else none) k = pK (if p then o.map f else none) fun v=>k v h []:=by
 split
 ·exact z26
 ·rfl
theorem zny {o : AO} (hp : o.plain = true) {ev : Opd → AV} {h : Heap} {k : AV → Heap → Esc → Prop} : optK (aop o ev h) k = opN o ev h k:=by
 rw [zu4]
 cases o <;> first | (cases hp; done) | skip
 case mv=>rfl
 case pick c a b=>
  simp only [aop,opN,z1q]
  generalize ev c = v
  cases v <;> try rfl
  rename_i p; cases p <;> rfl
 case alloc=>rfl
 case box=>rfl
 case build z ps=>simp only [aop,opN]; rw [← z4T,z03,zf5,Option.map_map]; rfl
 case bsl=>simp only [aop,opN,oBsl,zf6]; rfl
 case load sh a=>
  simp only [aop,opN,z0g]
  generalize ev a = v
  cases v with
  | ref id off=>dsimp only; cases h[id]? with
   | none=>rfl
   | some o=>cases o <;> first | rfl | exact z4T
  | rref id g i off=>dsimp only; cases h[id]? with
   | none=>rfl
   | some o=>cases o <;> first | rfl | exact z25
  | vp v=>exact z26
  | p v=>cases v <;> rfl
  | bt _ _ _ _=>exact z4T
  | _=>rfl
 case store=>simp only [aop,opN]; rfl
 case nilchk x=>
  simp only [aop,opN,oNil]
  generalize ev x = v
  cases v <;> try rfl
  exact z4T
 case bin op x y=>
  simp only [aop,opN,oBin]
  generalize ev x = v
  generalize ev y = u
  cases v <;> try rfl
  cases u <;> try rfl
  exact z26
 case eqa ks neg x y=>
  simp only [aop,opN,oEqa]
  generalize ev x = v
  generalize ev y = u
  cases v <;> try rfl
  rename_i p
  cases p <;> try rfl
  all_goals (cases u <;> try rfl)
  all_goals (rename_i q; cases q <;> try rfl)
  ·exact z69
  ·exact z25
 case isnil k neg p=>
  simp only [aop,opN,zcV]
  cases z6Q k (ev p) with
  | true=>rfl
  | false=>exact z26
 case mkif=>exact z69
 case un op x=>
  simp only [aop,opN,oUn]
  generalize ev x = v
  cases v <;> try rfl
  exact z26
 case conv c x=>
  cases c
  case i k'=>
   simp only [aop,opN,zcT,z8S]
   generalize ev x = v
   cases v <;> try rfl
   rename_i p; cases p <;> rfl
  all_goals rfl
 case mkfn f caps=>simp only [aop,opN,z5v]; rfl
 case slice=>simp only [aop,opN,asl_eq]; exact z4T
 case slstr x lo hi=>
  simp only [aop,opN,znw,zti]
  generalize ev x = v
  cases v <;> try rfl
  rename_i p; cases p <;> try rfl
  rename_i s
  dsimp only
  generalize bndV 0 _ = o1
  generalize bndV s.length _ = o2
  cases o1 <;> try rfl
  cases o2 <;> try rfl
  exact z69
 case mksl=>simp only [aop,opN]; rfl
 case faddr off sh x=>
  simp only [aop,opN,z0e]
  generalize ev x = v
  cases v <;> try rfl
  ·exact z26
  ·exact z4T
 case field off sh x=>
  simp only [aop,opN,z8h]
  generalize ev x = v
  cases v <;> try rfl
  ·rename_i p; cases p <;> try rfl
   exact z26
  ·exact z4T
 case iaddr sh x i=>
  simp only [aop,opN,z0E]
  generalize ev x = v
  generalize z1f (ev i) = n
  cases v <;> try rfl
  ·rename_i p; cases p <;> try rfl
   cases n <;> try rfl
   exact z25
  ·cases n <;> try rfl
   rename_i id g off len k
   dsimp only
   cases h[id]? with
   | none=>rfl
   | some o=>cases o <;> first | rfl | exact z69
  ·cases n <;> try rfl
   exact z4T
 case iaddra m sh x i=>
  simp only [aop,opN,z8i]
  generalize ev x = v
  generalize z1f (ev i) = n
  cases v <;> try rfl
  all_goals (cases n <;> try rfl)
  ·exact z69
  ·exact z69
  ·exact z25
 case idxa m sh x i=>
  simp only [aop,opN,zcU]
  generalize ev x = v
  generalize z1f (ev i) = n
  cases v <;> try rfl
  rename_i p; cases p <;> try rfl
  cases n <;> try rfl
  exact z25
 case idxs x i=>
  simp only [aop,opN,z8j]
  generalize ev x = v
  generalize z1f (ev i) = n
  cases v <;> try rfl
  rename_i p; cases p <;> try rfl
  cases n <;> try rfl
  exact z26
 case ext x i=>
  simp only [aop,opN,oExt]
  generalize ev x = v
  cases v <;> try rfl
  exact z4T
 case len x=>
  simp only [aop,opN,oLen]
  generalize ev x = v
  cases v <;> try rfl
  ·rename_i p; cases p <;> rfl
  ·exact z4T
 case lens x=>
  simp only [aop,opN,z1j]
  generalize ev x = v
  cases v <;> try rfl
  rename_i p; cases p <;> rfl
 case app=>simp only [aop,opN]; rfl
 case copy=>simp only [aop,opN]; rfl
 case uns=>simp only [aop,opN,z5v,zu4]
 case clr=>simp only [aop,opN]; rfl
 case mx xs=>
  simp only [aop,opN,z5v,oMx]
  generalize ev1 ev xs = l
  cases l <;> try rfl
  rename_i v r
  cases v <;> try rfl
  exact z26
 case mn xs=>
  simp only [aop,opN,z5v,oMn]
  generalize ev1 ev xs = l
  cases l <;> try rfl
  rename_i v r
  cases v <;> try rfl
  exact z26
 case new0=>rfl
 case look kk ok z x key=>
  simp only [aop,opN,z6U]
  cases z4H kk (ev key) <;> try rfl
  rename_i kk
  generalize ev x = v
  cases v <;> try rfl
  rename_i id
  dsimp only
  cases mget h (.mp id) <;> try rfl
  rename_i y
  dsimp only [Option.map_some]
  cases z2t kk y.2.1 <;> rfl
 case lenm x=>
  simp only [aop,opN,zvZ]
  generalize ev x = v
  cases v <;> try rfl
  exact z26
 all_goals rfl
end Go.Am
end
